/- The reference's add: a number among numbers, once. -/
import Derived.Maps.OwnIn
import Derived.Test.YtkpkbljcflmdgaaTabD
import Derived.Test.YtkpkbljcflmdgaaTabA
namespace Go.Proofs.Ytkpkbljcflmdgaa
open Go Go.RowKit Go.Shelf Go.BigFrame

/-- The slice 'v' owns a row of words, from block 'base' on. -/
def OwnW (w : World) (base : Nat) (v : Value) (l : List Int) : Prop := w.ownsRow base 25 1 v l.length (l.map fun x => .int .u64 x)
theorem OwnW.nil (w : World) (base : Nat) : OwnW w base (.slice none 0 0) [] := World.ownsRow_nil _ _ _ _
theorem OwnW.parts {w : World} {base : Nat} {v : Value} {U : List Int} (h : OwnW w base v U) :
    ∃ (a : Option Addr) (cap : Nat), v = .slice a U.length cap ∧ U.length ≤ maxLen ∧ (U ≠ [] → ∃ g, a = some ⟨g, 0, none⟩ ∧ base ≤ g ∧ g < w.heap.size ∧ ∀ i (h : i < U.length), w.cell? ⟨g, i, none⟩ = some (.int .u64 U[i])) := by
  obtain ⟨hlen, ⟨rfl, h0⟩ | ⟨g, cap, cur, rfl, hb, hg, hn, hm, hs, hx⟩⟩ := h
  · have e := List.length_eq_zero_iff.1 h0
    subst e
    exact ⟨none, 0, rfl, by decide, fun h => absurd rfl h⟩
  · refine ⟨some ⟨g, 0, none⟩, cap, rfl, Nat.le_trans hn hm, fun _ => ⟨g, rfl, hb, (Array.getElem?_eq_some_iff.1 hg).1, fun i hi => ?_⟩⟩
    have h1 : (cur.toList.take (U.length * 1))[i]? = some (.int .u64 U[i]) := by rw [hx, List.getElem?_map, List.getElem?_eq_getElem hi]; rfl
    rw [List.getElem?_take, if_pos (by omega)] at h1
    simp only [World.cell?, hg]
    simpa using h1
theorem ownsRow_same {E : TypeId} {w w' : World} {base k n : Nat} {v : Value} {l : List Value} (h : w.ownsRow base E k v n l) (hb : ∀ r, v.ownBlock = some r → w'.heap[r]? = w.heap[r]?) : w'.ownsRow base E k v n l := by
  obtain ⟨hlen, hc⟩ := h
  refine ⟨hlen, hc.imp id fun ⟨g, cap, cur, hv, hbg, hg, hr⟩ => ⟨g, cap, cur, hv, hbg, ?_, hr⟩⟩
  rw [hb g (by rw [hv]; rfl)]; exact hg
theorem OwnW.same {w w' : World} {base : Nat} {v : Value} {l : List Int} (h : OwnW w base v l) (hb : ∀ r, v.ownBlock = some r → w'.heap[r]? = w.heap[r]?) : OwnW w' base v l := ownsRow_same h hb
theorem OwnW.below {w w' : World} {base : Nat} {v : Value} {l : List Int} (h : OwnW w base v l) (hb : Below w.heap.size w w') : OwnW w' base v l := h.same fun r e => hb.block r (World.ownsRow.lt h r e).2
/-- A number is put among others. -/
def insN (l : List Int) (n : Int) : List Int := if n ∈ l then l else l ++ [n]
theorem infoWord : (Try.prog.info? 25).map (fun i => (i.zero, i.size, i.bytes)) = some (some (.int .u64 0), 1, 8) := by kernel_rfl
theorem wpl_append_word {P : Program} {ops : Array Oper} {rest : List Oper} {o : Oper} {a : Act} {Q : Exit → Act → World → Prop} {w : World} {p : Int} {g : Nat} (hgd : o.guard = none) (s x : Operand) (S : TypeId)
    (ho : o.op = .call { callee := .builtin .append, args := #[s, x], argTypes := #[S, S] })
    (base : Nat) (E : TypeId) (hi : (P.info? E).map (fun i => (i.zero, i.size, i.bytes)) = some (some (.int .u64 0), 1, 8)) (ht : P.underlying S = some (.slice E)) (v : Value) (U : List Int) (y : Int) (hs : a.eval s = v)
    (hx : a.eval x = .slice (some ⟨g, 0, none⟩) 1 1) (hown : w.ownsRow base E 1 v U.length (U.map fun x => .int .u64 x)) (hg : g = w.heap.size) (hy : p = y) (hl : U.length < 4398046511104) (hbase : base ≤ w.heap.size)
    (h : ∀ v' w', w'.ownsRow base E 1 v' (U ++ [y]).length ((U ++ [y]).map fun x => .int .u64 x) → (w.alloc (.cells #[.int .u64 p] E)).grownBy w' v.ownBlock → (v'.ownBlock = v.ownBlock ∨ v'.ownBlock = some (w.heap.size + 1)) → wpList P ops Q rest (a.put o.dst v') w') :
    wpList P ops Q (o :: rest) a (w.alloc (.cells #[.int .u64 p] E)) := by
  subst hy
  subst hg
  obtain ⟨i0, hi1, hi2⟩ := Option.map_eq_some_iff.1 hi
  rw [Prod.mk.injEq, Prod.mk.injEq] at hi2
  obtain ⟨hz0, hz1, hz2⟩ := hi2
  refine wpList_append_own_at (P := P) _ hgd s x S ho base E i0 _ 1 8 ht hi1 hz0 hz1 hz2 rfl (by decide) v U.length (U.map fun x => .int .u64 x) hs (World.ownsRow.alloc hown _)
    ⟨w.heap.size, 0, none⟩ 1 1 [.int .u64 p] hx rfl (cell_one_new _ _ _) ?_ ?_ ?_ ?_ ?_
  · intro u hu; simp at hu; rcases hu with rfl; rfl
  · unfold maxLen; omega
  · omega
  · simp; omega
  · intro v' w' hown' hg _ hat
    refine h v' w' ?_ hg ?_
    · rw [List.length_append, List.map_append]; exact hown'
    · simpa using hat

/-- What 'add' leaves: the numbers with one more; all blocks but the row's own as they were. -/
structure AddOut (w w' : World) (base : Nat) (v v' : Value) (l : List Int) : Prop where
  own : OwnW w' base v' l
  at' : v'.ownBlock = v.ownBlock ∨ ∀ r, v'.ownBlock = some r → w.heap.size ≤ r
  low : Below base w w'
  rest : ∀ b, b < w.heap.size → v.ownBlock ≠ some b → w'.heap[b]? = w.heap[b]?

set_option maxRecDepth 20000 in
set_option maxHeartbeats 1000000 in
theorem add_any (v : Value) (l : List Int) (x : Int) (base : Nat) (w : World) (hown : OwnW w base v l) (hb : base ≤ w.heap.size) (hl : l.length < 4398046511104) :
    Calls Try.prog 20 #[v, .int .u64 x] w fun e w' => ∃ v', e = .returned v' ∧ AddOut w w' base v v' (insN l x) := by
  have hown' := hown
  obtain ⟨a, cap, rfl, hm, hc⟩ := hown.parts
  go_enter Try.func20, Try.ntmps20
  go_wp2_with fail
  go_loop [6, 9] (fun _ i => ∃ k : Nat, k ≤ l.length ∧ i = .int .i64 k ∧ ∀ j (h : j < l.length), j < k → l[j] ≠ x) (fun _ i => l.length - (intOf i).toNat)
  case atStart => exact ⟨0, Nat.zero_le _, rfl, fun j _ h => by omega⟩
  case round =>
    obtain ⟨k, hk, rfl, hno⟩ := hrel
    by_cases hlt : k < l.length
    · obtain ⟨g, rfl, hbg, hg, hcell⟩ := hc (by rintro rfl; simp at hlt)
      have c0 := hcell k hlt
      by_cases hx : l[k] = x
      · have hin : insN l x = l := by unfold insN; rw [if_pos (by rw [← hx]; exact List.getElem_mem hlt)]
        have hq : (l[k] == x) = true := by simp [hx]
        replace hx := Lib.hid hx
        replace hin := Lib.hid hin
        go_wp2_with fail
        go_ret
        rw [hin.out]
        exact ⟨_, rfl, hown, .inl rfl, Below.refl _ _, fun _ _ _ => rfl⟩
      · have hq : (l[k] == x) = false := by simp [hx]
        have hno' : ∀ j (h : j < l.length), j < k + 1 → l[j] ≠ x := fun j h h2 => by
          by_cases e : j = k
          · subst e; exact hx
          · exact hno j h (by omega)
        replace hx := Lib.hid hx
        replace hno' := Lib.hid hno'
        go_wp2_with fail
        go_round
        case rel => exact ⟨k + 1, hlt, by go_num, hno'.out⟩
        case measure => simp [intOf]; omega
    · obtain rfl : k = l.length := by omega
      have hnot : x ∉ l := fun hm' => by
        obtain ⟨i, hi, e⟩ := List.getElem_of_mem hm'
        exact hno i hi hi e
      have hin : insN l x = l ++ [x] := by unfold insN; rw [if_neg hnot]
      clear hno hnot hc
      replace hin := Lib.hid hin
      go_wp2_with (at_builtin; refine wpl_append_word rfl _ _ 45 rfl base 25 infoWord Try.underlying45 (.slice a l.length cap) l x rfl rfl ?_ ?_ ?_ ?_ ?_ ?_; (focus (exact hown')); (focus rfl); (focus rfl); (focus omega); (focus omega); intro v' w6 hown6 hgrow hat)
      go_ret
      rw [hin.out]
      have hz := hgrow.size
      simp at hz
      refine ⟨v', rfl, hown6, ?_, Below.grown ((Below.refl base w).alloc hb _) hgrow (by simp; omega) (fun k hk => (World.ownsRow.lt hown' k hk).1), fun b h1 h2 => (hgrow.block b (by simp; omega) (fun e => h2 e.symm)).trans ((bone w _).block b h1)⟩
      rcases hat with h | h
      · exact .inl h
      · exact .inr fun r e => by rw [h] at e; cases e; omega
end Go.Proofs.Ytkpkbljcflmdgaa
