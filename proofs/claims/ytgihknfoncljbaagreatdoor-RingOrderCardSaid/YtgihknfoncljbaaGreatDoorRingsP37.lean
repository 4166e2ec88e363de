/- The program's Pieces: a range over the iterator of pieces that appends into a captured slice. -/
import Derived.Maps.OwnIn
import Derived.Test.YtgihknfoncljbaaGreatDoorRingsP24
import Derived.Test.YtgihknfoncljbaaGreatDoorRingsP25
import Derived.Test.YtgihknfoncljbaaGreatDoorRingsP28
namespace Go.Proofs.YtgihknfoncljbaaGreatDoor
open Go Go.RowKit Go.Shelf Go.BigFrame
attribute [local go_sem] Oper.semAt_some
theorem good_cut {y : M5} (h : goodM [y] = true) : Cut y := by
 have h1 := List.all_eq_true.1 h 0 (by simp)
 unfold okM elemB at h1
 rw [Bool.and_eq_true, Bool.and_eq_true] at h1
 have e : ([y] : List M5)[0]! = y := rfl
 rw [e] at h1
 have h2 := h1.1.1
 have h3 := h1.1.2
 rw [Bool.and_eq_true] at h3
 have h4 := pageM_iff.1 h2
 have h5 := pageM_iff.1 h3.1
 exact ⟨h4.2.2.2, by omega, by omega⟩
def piecesV (y : M5) : List M5 := if goodM [y] = true ∧ (piecesL y).length ≤ 10000 then (piecesL y).map (·.2) else []
theorem rowM_one (W : World) (y : M5) : RowM (W.alloc (.cells #[.int .u64 y.ipa, .int .u64 y.pa, .int .u64 y.sz, .int .i64 y.perm, .int .i64 y.kind] 126)) (.slice (some ⟨W.heap.size, 0, none⟩) 1 1) [y] := by
 refine ⟨_, _, rfl, Nat.le_refl _, fun _ => ⟨_, _, rfl, by simp, fun i hi => ?_⟩⟩
 have : i = 0 := by simp at hi; omega
 subst this
 exact five_new W _ _ _ _ _ _
theorem ownsRow_off {W : World} {base c o : Nat} {E : TypeId} {s k : Nat} {v : Value} {xs : List Value} (h : W.ownsRow base E s v k xs) (hne : ∀ r, v.ownBlock = some r → r ≠ c) (u : Value) : (W.setCell ⟨c, o, none⟩ u).ownsRow base E s v k xs := by
 obtain ⟨hlen, hc⟩ := h
 refine ⟨hlen, hc.imp id fun ⟨g, cap, cur, hv, hb, hg, hr⟩ => ⟨g, cap, cur, hv, hb, ?_, hr⟩⟩
 exact (Below.heap_setCell W _ u g (by have := hne g (by rw [hv]; rfl); simpa using this)).trans hg
end Go.Proofs.YtgihknfoncljbaaGreatDoor
/- The reference's add: a number among numbers, once. -/
namespace Go.Proofs.YtgihknfoncljbaaGreatDoor
open Go Go.RowKit Go.Shelf Go.BigFrame
def OwnWd (w : World) (base : Nat) (v : Value) (l : List Int) : Prop := w.ownsRow base 31 1 v l.length (l.map fun x => .int .u64 x)
theorem OwnWd.nil (w : World) (base : Nat) : OwnWd w base (.slice none 0 0) [] := World.ownsRow_nil _ _ _ _
theorem OwnWd.parts {w : World} {base : Nat} {v : Value} {U : List Int} (h : OwnWd w base v U) :
  ∃ (a : Option Addr) (cap : Nat), v = .slice a U.length cap ∧ U.length ≤ maxLen ∧ (U ≠ [] → ∃ g, a = some ⟨g, 0, none⟩ ∧ base ≤ g ∧ g < w.heap.size ∧ ∀ i (h : i < U.length), w.cell? ⟨g, i, none⟩ = some (.int .u64 U[i])) := by
 obtain ⟨hlen, ⟨rfl, h0⟩ | ⟨g, cap, cur, rfl, hb, hg, hn, hm, hs, hx⟩⟩ := h
 ·have e := List.length_eq_zero_iff.1 h0
  subst e
  exact ⟨none, 0, rfl, by decide, fun h => absurd rfl h⟩
 ·refine ⟨some ⟨g, 0, none⟩, cap, rfl, Nat.le_trans hn hm, fun _ => ⟨g, rfl, hb, (Array.getElem?_eq_some_iff.1 hg).1, fun i hi => ?_⟩⟩
  have h1 : (cur.toList.take (U.length * 1))[i]? = some (.int .u64 U[i]) := by rw [hx, List.getElem?_map, List.getElem?_eq_getElem hi]; rfl
  rw [List.getElem?_take, if_pos (by omega)] at h1
  simp only [World.cell?, hg]
  simpa using h1
theorem ownsRow_sameF {E : TypeId} {w w' : World} {base k n : Nat} {v : Value} {l : List Value} (h : w.ownsRow base E k v n l) (hb : ∀ r, v.ownBlock = some r → w'.heap[r]? = w.heap[r]?) : w'.ownsRow base E k v n l := by
 obtain ⟨hlen, hc⟩ := h
 refine ⟨hlen, hc.imp id fun ⟨g, cap, cur, hv, hbg, hg, hr⟩ => ⟨g, cap, cur, hv, hbg, ?_, hr⟩⟩
 rw [hb g (by rw [hv]; rfl)]; exact hg
theorem OwnWd.same {w w' : World} {base : Nat} {v : Value} {l : List Int} (h : OwnWd w base v l) (hb : ∀ r, v.ownBlock = some r → w'.heap[r]? = w.heap[r]?) : OwnWd w' base v l := ownsRow_sameF h hb
def insN (l : List Int) (n : Int) : List Int := if n ∈ l then l else l ++ [n]
theorem infoWord : (Tryz.prog.info? 31).map (fun i => (i.zero, i.size, i.bytes)) = some (some (.int .u64 0), 1, 8) := by kernel_rfl
theorem wpl_append_word {P : Program} {ops : Array Oper} {rest : List Oper} {o : Oper} {a : Act} {Q : Exit → Act → World → Prop} {w : World} {p : Int} {g : Nat} (hgd : o.guard = none) (s x : Operand) (S : TypeId)
  (ho : o.op = .call { callee := .builtin .append, args := #[s, x], argTypes := #[S, S] })
  (base : Nat) (E : TypeId) (hi : (P.info? E).map (fun i => (i.zero, i.size, i.bytes)) = some (some (.int .u64 0), 1, 8)) (ht : P.underlying S = some (.slice E)) (v : Value) (U : List Int) (y : Int) (hs : a.eval s = v)
  (hx : a.eval x = .slice (some ⟨g, 0, none⟩) 1 1) (hown : w.ownsRow base E 1 v U.length (U.map fun x => .int .u64 x)) (hg : g = w.heap.size) (hy : p = y) (hl : U.length < 4398046511104) (hbase : base ≤ w.heap.size)
  (h : ∀ v' w', w'.ownsRow base E 1 v' (U ++ [y]).length ((U ++ [y]).map fun x => .int .u64 x) → (w.alloc (.cells #[.int .u64 p] E)).grownBy w' v.ownBlock → (v'.ownBlock = v.ownBlock ∨ v'.ownBlock = some (w.heap.size + 1)) → wpList P ops Q rest (a.put o.dst v') w') :
  wpList P ops Q (o :: rest) a (w.alloc (.cells #[.int .u64 p] E)) := by
 subst hy
 subst hg
 obtain ⟨i0, hi1, hi2⟩ := Option.map_eq_some_iff.1 hi
 rw [Prod.mk.injEq, Prod.mk.injEq] at hi2
 obtain ⟨hz0, hz1, hz2⟩ := hi2
 refine wpList_append_own_at (P := P) _ hgd s x S ho base E i0 _ 1 8 ht hi1 hz0 hz1 hz2 rfl (by decide) v U.length (U.map fun x => .int .u64 x) hs (World.ownsRow.alloc hown _)
  ⟨w.heap.size, 0, none⟩ 1 1 [.int .u64 p] hx rfl (cell_one_new _ _ _) ?_ ?_ ?_ ?_ ?_
 ·intro u hu; simp at hu; rcases hu with rfl; rfl
 ·unfold maxLen; omega
 ·omega
 ·simp; omega
 ·intro v' w' hown' hg _ hat
  refine h v' w' ?_ hg ?_
  ·rw [List.length_append, List.map_append]; exact hown'
  ·simpa using hat
structure AddOut (w w' : World) (base : Nat) (v v' : Value) (l : List Int) : Prop where
 own : OwnWd w' base v' l
 at' : v'.ownBlock = v.ownBlock ∨ ∀ r, v'.ownBlock = some r → w.heap.size ≤ r
 low : Below base w w'
 rest : ∀ b, b < w.heap.size → v.ownBlock ≠ some b → w'.heap[b]? = w.heap[b]?
set_option maxRecDepth 20000 in
set_option maxHeartbeats 1000000 in
theorem addW_any (v : Value) (l : List Int) (x : Int) (base : Nat) (w : World) (hown : OwnWd w base v l) (hb : base ≤ w.heap.size) (hl : l.length < 4398046511104) :
  Calls Tryz.prog 82 #[v, .int .u64 x] w fun e w' => ∃ v', e = .returned v' ∧ AddOut w w' base v v' (insN l x) := by
 have hown' := hown
 obtain ⟨a, cap, rfl, hm, hc⟩ := hown.parts
 go_enter Tryz.func82, Tryz.ntmps82
 go_wp2_with fail
 go_loop [6, 9] (fun _ i => ∃ k : Nat, k ≤ l.length ∧ i = .int .i64 k ∧ ∀ j (h : j < l.length), j < k → l[j] ≠ x) (fun _ i => l.length - (intOf i).toNat)
 case atStart => exact ⟨0, Nat.zero_le _, rfl, fun j _ h => by omega⟩
 case round =>
  obtain ⟨k, hk, rfl, hno⟩ := hrel
  by_cases hlt : k < l.length
  ·obtain ⟨g, rfl, hbg, hg, hcell⟩ := hc (by rintro rfl; simp at hlt)
   have c0 := hcell k hlt
   by_cases hx : l[k] = x
   ·have hin : insN l x = l := by unfold insN; rw [if_pos (by rw [← hx]; exact List.getElem_mem hlt)]
    have hq : (l[k] == x) = true := by simp [hx]
    replace hx := Lib.hid hx
    replace hin := Lib.hid hin
    go_wp2_with fail
    go_ret
    rw [hin.out]
    exact ⟨_, rfl, hown, .inl rfl, Below.refl _ _, fun _ _ _ => rfl⟩
   ·have hq : (l[k] == x) = false := by simp [hx]
    have hno' : ∀ j (h : j < l.length), j < k + 1 → l[j] ≠ x := fun j h h2 => by
     by_cases e : j = k
     ·subst e; exact hx
     ·exact hno j h (by omega)
    replace hx := Lib.hid hx
    replace hno' := Lib.hid hno'
    go_wp2_with fail
    go_round
    case rel => exact ⟨k + 1, hlt, by go_num, hno'.out⟩
    case measure => simp [intOf]; omega
  ·obtain rfl : k = l.length := by omega
   have hnot : x ∉ l := fun hm' => by
    obtain ⟨i, hi, e⟩ := List.getElem_of_mem hm'
    exact hno i hi hi e
   have hin : insN l x = l ++ [x] := by unfold insN; rw [if_neg hnot]
   clear hno hnot hc
   replace hin := Lib.hid hin
   go_wp2_with (at_builtin; refine wpl_append_word rfl _ _ 67 rfl base 31 infoWord Tryz.underlying67 (.slice a l.length cap) l x rfl rfl ?_ ?_ ?_ ?_ ?_ ?_; (focus (exact hown')); (focus rfl); (focus rfl); (focus omega); (focus omega); intro v' w6 hown6 hgrow hat)
   go_ret
   rw [hin.out]
   have hz := hgrow.size
   simp at hz
   refine ⟨v', rfl, hown6, ?_, Below.grown ((Below.refl base w).alloc hb _) hgrow (by simp; omega) (fun k hk => (World.ownsRow.lt hown' k hk).1), fun b h1 h2 => (hgrow.block b (by simp; omega) (fun e => h2 e.symm)).trans ((bone w _).block b h1)⟩
   rcases hat with h | h
   ·exact .inl h
   ·exact .inr fun r e => by rw [h] at e; cases e; omega
end Go.Proofs.YtgihknfoncljbaaGreatDoor
/- The plain law of tables: how many frames parts take, by places and by numbers. -/
namespace Go.Proofs.YtgihknfoncljbaaGreatDoor
open Go Go.RowKit
def placesOf (x : Int × M5) : List (Int × Int) := if x.1 = 3 then [(2, x.2.ipa / szK 1), (3, x.2.ipa / szK 2)] else if x.1 = 2 then [(2, x.2.ipa / szK 1)] else []
def insP (ks : List (Int × Int)) (p : Int × Int) : List (Int × Int) := if p ∈ ks then ks else ks ++ [p]
def keysOf (ks : List (Int × Int)) (L : List (Int × M5)) : List (Int × Int) := L.foldl (fun ks x => (placesOf x).foldl insP ks) ks
def allKeys (l : List M5) : List (Int × Int) := l.foldl (fun ks y => keysOf ks (piecesL y)) []
def needOk (l : List M5) : Prop := goodM l = true ∧ ∀ y ∈ l, (piecesL y).length ≤ 10000
instance (l : List M5) : Decidable (needOk l) := by unfold needOk; infer_instance
def needV (l : List M5) : Int × Int := if needOk l then (2 + ((allKeys l).length : Int), 0) else (0, 190)
def KeyOk (p : Int × Int) : Prop := (p.1 = 2 ∨ p.1 = 3) ∧ W64 p.2
def secF (S : List Int) (p : M5) : List Int := if p.sz < 1073741824 then insN S (p.ipa / 1073741824) else S
def thiF (T : List Int) (p : M5) : List Int := if p.sz < 2097152 then insN T (p.ipa / 2097152) else T
def secs (l : List M5) : List Int := l.foldl (fun S y => (piecesV y).foldl secF S) []
def this (l : List M5) : List Int := l.foldl (fun S y => (piecesV y).foldl thiF S) []
def refOk (l : List M5) : Prop := goodM l = true ∧ ∀ y ∈ l, piecesV y ≠ []
instance (l : List M5) : Decidable (refOk l) := by unfold refOk; infer_instance
def refNeedV (l : List M5) : Int × Int := if refOk l then (2 + ((secs l).length : Int) + ((this l).length : Int), 0) else (0, 190)
theorem piecesL_facts (y : M5) : ∀ x ∈ piecesL y, x.2.sz = szK x.1 ∧ (x.1 = 1 ∨ x.1 = 2 ∨ x.1 = 3) := by
 have key : ∀ (n : Nat) (y : M5), y.sz.toNat ≤ n → ∀ x ∈ piecesL y, x.2.sz = szK x.1 ∧ (x.1 = 1 ∨ x.1 = 2 ∨ x.1 = 3) := by
  intro n
  induction n with
  | zero =>
   intro y hy x hx
   rw [piecesL_nil (by omega)] at hx
   cases hx
  | succ n ih =>
   intro y hy x hx
   rw [piecesL] at hx
   split at hx
   ·rename_i h
    rcases List.mem_cons.1 hx with rfl | hx
    ·exact ⟨rfl, lvM_cases y⟩
    ·exact ih (restP y) (by omega) x hx
   ·cases hx
 exact key _ y (Nat.le_refl _)
theorem elem_pos {y : M5} (h : elemB y = true) : 0 < y.sz := by
 unfold elemB at h
 rw [Bool.and_eq_true] at h
 have := pageM_iff.1 h.1
 omega
theorem good_elem {l : List M5} (h : goodM l = true) {y : M5} (hy : y ∈ l) : elemB y = true := by
 obtain ⟨i, hi, rfl⟩ := List.getElem_of_mem hy
 have h1 := List.all_eq_true.1 h i (by simpa using hi)
 unfold okM at h1
 rw [Bool.and_eq_true, getElem!_pos l i hi] at h1
 exact h1.1
theorem good_one {y : M5} (h : elemB y = true) : goodM [y] = true := by
 refine goodM_yes fun k hk => ?_
 obtain rfl : k = 0 := by simp at hk; exact hk
 unfold okM nextB
 rw [Bool.and_eq_true]
 exact ⟨by simpa using h, by simp⟩
theorem piecesL_ne {y : M5} (h : elemB y = true) : piecesL y ≠ [] := by
 rw [piecesL_cons (good_cut (good_one h)) (elem_pos h)]; simp
theorem pieces_some {y : M5} (h : elemB y = true) : piecesV y ≠ [] ↔ (piecesL y).length ≤ 10000 := by
 unfold piecesV
 have h1 := piecesL_ne h
 by_cases hl : (piecesL y).length ≤ 10000
 ·rw [if_pos ⟨good_one h, hl⟩]; simpa [hl] using h1
 ·rw [if_neg (fun h => hl h.2)]; simp [hl]
theorem ok_iff (l : List M5) : refOk l ↔ needOk l := by
 unfold refOk needOk
 refine and_congr_right fun hg => ?_
 exact forall_congr' fun y => forall_congr' fun hy => pieces_some (good_elem hg hy)
structure Agree (ks : List (Int × Int)) (S T : List Int) : Prop where
 two : (ks.filter (fun p => decide (p.1 = 2))).map (·.2) = S
 three : (ks.filter (fun p => decide (p.1 = 3))).map (·.2) = T
 all : ∀ p ∈ ks, p.1 = 2 ∨ p.1 = 3
theorem Agree.nil : Agree [] [] [] := ⟨rfl, rfl, by simp⟩
theorem Agree.length {ks : List (Int × Int)} {S T : List Int} (h : Agree ks S T) : ks.length = S.length + T.length := by
 have key : ∀ ks : List (Int × Int), (∀ p ∈ ks, p.1 = 2 ∨ p.1 = 3) → ks.length = (ks.filter (fun p => decide (p.1 = 2))).length + (ks.filter (fun p => decide (p.1 = 3))).length := by
  intro ks
  induction ks with
  | nil => simp
  | cons p ks ih =>
   intro h
   have h1 := ih (fun q hq => h q (by simp [hq]))
   rcases h p (by simp) with e | e <;> simp [e] <;> omega
 have := key ks h.all
 rw [← h.two, ← h.three, List.length_map, List.length_map]
 exact this
theorem mem_sel {ks : List (Int × Int)} {k n : Int} : n ∈ (ks.filter (fun p => decide (p.1 = k))).map (·.2) ↔ (k, n) ∈ ks := by
 rw [List.mem_map]
 constructor
 ·rintro ⟨p, hp, rfl⟩
  rw [List.mem_filter, decide_eq_true_iff] at hp
  rw [← hp.2]; exact hp.1
 ·intro h
  exact ⟨(k, n), List.mem_filter.2 ⟨h, by simp⟩, rfl⟩
theorem Agree.ins2 {ks : List (Int × Int)} {S T : List Int} (h : Agree ks S T) (n : Int) : Agree (insP ks (2, n)) (insN S n) T := by
 unfold insP insN
 have hm : n ∈ S ↔ (2, n) ∈ ks := by rw [← h.two]; exact mem_sel
 by_cases hi : (2, n) ∈ ks
 ·rw [if_pos hi, if_pos (hm.2 hi)]; exact h
 ·rw [if_neg hi, if_neg (fun e => hi (hm.1 e))]
  refine ⟨?_, ?_, fun p hp => ?_⟩
  ·rw [List.filter_append, List.map_append, h.two]; simp
  ·rw [List.filter_append, List.map_append, h.three]; simp
  ·rcases List.mem_append.1 hp with hp | hp
   ·exact h.all p hp
   ·simp at hp; subst hp; exact .inl rfl
theorem Agree.ins3 {ks : List (Int × Int)} {S T : List Int} (h : Agree ks S T) (n : Int) : Agree (insP ks (3, n)) S (insN T n) := by
 unfold insP insN
 have hm : n ∈ T ↔ (3, n) ∈ ks := by rw [← h.three]; exact mem_sel
 by_cases hi : (3, n) ∈ ks
 ·rw [if_pos hi, if_pos (hm.2 hi)]; exact h
 ·rw [if_neg hi, if_neg (fun e => hi (hm.1 e))]
  refine ⟨?_, ?_, fun p hp => ?_⟩
  ·rw [List.filter_append, List.map_append, h.two]; simp
  ·rw [List.filter_append, List.map_append, h.three]; simp
  ·rcases List.mem_append.1 hp with hp | hp
   ·exact h.all p hp
   ·simp at hp; subst hp; exact .inr rfl
theorem Agree.piece {ks : List (Int × Int)} {S T : List Int} (h : Agree ks S T) {x : Int × M5} (hs : x.2.sz = szK x.1) (hx : x.1 = 1 ∨ x.1 = 2 ∨ x.1 = 3) : Agree ((placesOf x).foldl insP ks) (secF S x.2) (thiF T x.2) := by
 unfold placesOf secF thiF
 rw [hs]
 rcases hx with e | e | e <;> rw [e]
 ·exact h
 ·exact h.ins2 _
 ·exact (h.ins2 _).ins3 _
theorem Agree.pieces {L : List (Int × M5)} (hL : ∀ x ∈ L, x.2.sz = szK x.1 ∧ (x.1 = 1 ∨ x.1 = 2 ∨ x.1 = 3)) : ∀ {ks : List (Int × Int)} {S T : List Int}, Agree ks S T → Agree (keysOf ks L) ((L.map (·.2)).foldl secF S) ((L.map (·.2)).foldl thiF T) := by
 induction L with
 | nil => intro ks S T h; exact h
 | cons x L ih =>
  intro ks S T h
  exact ih (fun z hz => hL z (by simp [hz])) (h.piece (hL x (by simp)).1 (hL x (by simp)).2)
theorem agree_all {l : List M5} (h : ∀ y ∈ l, elemB y = true ∧ (piecesL y).length ≤ 10000) : Agree (allKeys l) (secs l) (this l) := by
 have key : ∀ (l : List M5), (∀ y ∈ l, elemB y = true ∧ (piecesL y).length ≤ 10000) → ∀ {ks : List (Int × Int)} {S T : List Int}, Agree ks S T →
   Agree (l.foldl (fun ks y => keysOf ks (piecesL y)) ks) (l.foldl (fun S y => (piecesV y).foldl secF S) S) (l.foldl (fun S y => (piecesV y).foldl thiF S) T) := by
  intro l
  induction l with
  | nil => intro _ ks S T h; exact h
  | cons y l ih =>
   intro hl ks S T h
   have h1 := hl y (by simp)
   have e : piecesV y = (piecesL y).map (·.2) := by unfold piecesV; rw [if_pos ⟨good_one h1.1, h1.2⟩]
   refine ih (fun z hz => hl z (by simp [hz])) ?_
   show Agree (keysOf ks (piecesL y)) ((piecesV y).foldl secF S) ((piecesV y).foldl thiF T)
   rw [e]
   exact Agree.pieces (piecesL_facts y) h
 exact key l h Agree.nil
theorem need_agree (l : List M5) : refNeedV l = needV l := by
 unfold refNeedV needV
 by_cases h : needOk l
 ·rw [if_pos ((ok_iff l).2 h), if_pos h]
  have := (agree_all (fun y hy => ⟨good_elem h.1 hy, h.2 y hy⟩)).length
  rw [this]
  simp; omega
 ·rw [if_neg (fun e => h ((ok_iff l).1 e)), if_neg h]
theorem insP_len (ks : List (Int × Int)) (p : Int × Int) : (insP ks p).length ≤ ks.length + 1 := by unfold insP; split <;> simp
theorem insN_len (ks : List Int) (p : Int) : (insN ks p).length ≤ ks.length + 1 := by unfold insN; split <;> simp
theorem piecesV_len (y : M5) : (piecesV y).length ≤ 10000 := by
 unfold piecesV; split
 ·rename_i h; simpa using h.2
 ·simp
theorem secs_snoc (l : List M5) (k : Nat) (h : k < l.length) : secs (l.take (k + 1)) = (piecesV l[k]).foldl secF (secs (l.take k)) := by
 unfold secs; rw [List.take_succ_eq_append_getElem h, List.foldl_append]; rfl
theorem this_snoc (l : List M5) (k : Nat) (h : k < l.length) : this (l.take (k + 1)) = (piecesV l[k]).foldl thiF (this (l.take k)) := by
 unfold this; rw [List.take_succ_eq_append_getElem h, List.foldl_append]; rfl
theorem take_fold {α β : Type} (f : β → α → β) (l : List α) (b : β) (k : Nat) (h : k < l.length) : (l.take (k + 1)).foldl f b = f ((l.take k).foldl f b) l[k] := by
 rw [List.take_succ_eq_append_getElem h, List.foldl_append]; rfl
end Go.Proofs.YtgihknfoncljbaaGreatDoor
/- The reference's Pieces. -/
namespace Go.Proofs.YtgihknfoncljbaaGreatDoor
open Go Go.RowKit Go.BigFrame
theorem BoxM.other {W : World} {b c o : Nat} {y : M5} (h : BoxM W b y) (hne : b ≠ c) (u : Value) : BoxM (W.setCell ⟨c, o, none⟩ u) b y := (Below.heap_setCell W _ u b (by simpa using hne)).trans h
theorem BoxM.grown {W W' : World} {row : Option Nat} {b : Nat} {y : M5} (h : BoxM W b y) (hg : W.grownBy W' row) (hne : some b ≠ row) : BoxM W' b y := (hg.block b h.lt hne).trans h
theorem BoxM.step {W : World} {b : Nat} {y : M5} (h : BoxM W b y) : BoxM (((W.setCell ⟨b, 0, none⟩ (.int .u64 (restP y).ipa)).setCell ⟨b, 1, none⟩ (.int .u64 (restP y).pa)).setCell ⟨b, 2, none⟩ (.int .u64 (restP y).sz)) b (restP y) := heapAt_set (heapAt_set (heapAt_set h 0 _) 1 _) 2 _
def tailP (y : M5) : List M5 := (piecesL y).map (·.2)
theorem tailP_cons {y : M5} (h : Cut y) (h0 : 0 < y.sz) : tailP y = headP y :: tailP (restP y) := by unfold tailP; rw [piecesL_cons h h0]; rfl
theorem tailP_nil {y : M5} (h0 : ¬ 0 < y.sz) : tailP y = [] := by unfold tailP; rw [piecesL_nil h0]; rfl
set_option maxRecDepth 20000 in
set_option maxHeartbeats 4000000 in
theorem refPieces_any (x0 : M5) (w : World) : Calls Tryz.prog 50 #[.agg #[.int .u64 x0.ipa, .int .u64 x0.pa, .int .u64 x0.sz, .int .i64 x0.perm, .int .i64 x0.kind]] w fun e w' => ∃ r, e = .returned r ∧ OwnM 126 w' w.heap.size r (piecesV x0) ∧ Below w.heap.size w w' := by
 have hgd := fun W => refGoodM_any _ [x0] _ (rowM_one W x0) (by simp)
 obtain ⟨m0, m1, m2, m3, m4⟩ := five_new w (.int .u64 x0.ipa) (.int .u64 x0.pa) (.int .u64 x0.sz) (.int .i64 x0.perm) (.int .i64 x0.kind) 126
 have hbx := BoxM.new w x0
 obtain ⟨w0, hw0⟩ : ∃ w0, w0 = w.alloc (.cells #[.int .u64 x0.ipa, .int .u64 x0.pa, .int .u64 x0.sz, .int .i64 x0.perm, .int .i64 x0.kind] 126) := ⟨_, rfl⟩
 cases hg : goodM [x0]
 ·rw [hg] at hgd
  have hv : piecesV x0 = [] := by unfold piecesV; rw [if_neg (by rw [hg]; simp)]
  rw [hv]
  clear hv hg
  go_enter Tryz.func50, Tryz.ntmps50
  go_wp2_with fail
  rw [← hw0] at m0 m1 m2 m3 m4 ⊢
  have hb0 : Below w.heap.size w w0 := by rw [hw0]; exact bone _ _
  have hgd0 := hgd w0
  have hz0 : w0.heap.size = w.heap.size + 1 := by rw [hw0]; simp
  rw [hz0] at hgd0
  clear hw0 hgd
  refine hgd0.mono ?_; rintro e w1 ⟨rfl, hb1⟩
  go_wp2_with fail
  go_ret
  exact ⟨_, rfl, OwnM.nil _ _ _, bthen (bthen hb0 (bone _ _)) hb1⟩
 ·have hcut := good_cut hg
  rw [hg] at hgd
  have hv : piecesV x0 = if (tailP x0).length ≤ 10000 then tailP x0 else [] := by
   unfold piecesV tailP
   rw [List.length_map]
   by_cases h : (piecesL x0).length ≤ 10000
   ·rw [if_pos ⟨hg, h⟩, if_pos h]
   ·rw [if_neg (fun h' => h h'.2), if_neg h]
  rw [hv]
  obtain ⟨P0, hP0⟩ : ∃ P0, P0 = tailP x0 := ⟨_, rfl⟩
  rw [← hP0]
  replace hP0 := Lib.hid hP0
  clear hv hg
  go_enter Tryz.func50, Tryz.ntmps50
  go_wp2_with fail
  rw [← hw0] at m0 m1 m2 m3 m4 hbx ⊢
  have hb0 : Below w.heap.size w w0 := by rw [hw0]; exact bone _ _
  have hgd0 := hgd w0
  have hz0 : w0.heap.size = w.heap.size + 1 := by rw [hw0]; simp
  rw [hz0] at hgd0
  clear hw0 hgd
  refine hgd0.mono ?_; rintro e w1 ⟨rfl, hb1⟩
  have hbx1 : BoxM w1 w.heap.size x0 := (hbx.below (bone _ _) (by omega)).below hb1 (by simp; omega)
  have hB1 : Below w.heap.size w w1 := bthen (bthen hb0 (bone _ _)) hb1
  clear hb1 hb0 hgd0 m0 m1 m2 m3 m4 hbx hz0
  go_wp2_with fail
  go_loopw [3] (fun v wr => ∃ (out : List M5) (y : M5), P0 = out ++ tailP y ∧ Cut y ∧ out.length ≤ 10000 ∧ BoxM wr w.heap.size y ∧ OwnM 126 wr (w.heap.size + 1) v out ∧ Below w.heap.size w wr) (fun _ wr => szAt wr w.heap.size)
  case atStart => exact ⟨[], x0, hP0.out, hcut, by simp, hbx1, OwnM.nil _ _ _, hB1⟩
  case round =>
   clear hbx1 hB1
   obtain ⟨out, y, hpre, hcut', hlen, hbox, hown, hB⟩ := hrel
   obtain ⟨c0, c1, c2, c3, c4⟩ := hbox.cells
   have hBl := hbox.lt
   have hz0 := y.hs.1
   obtain ⟨ao, co, rfl, _, _⟩ := hown.row
   by_cases hlt : 0 < y.sz
   ·obtain ⟨hs1, hs2, hs3, hs4, hcutR⟩ := hcut'.step hlt
    have hcons := tailP_cons hcut' hlt
    by_cases h10 : out.length = 10000
    ·have hno : ¬ P0.length ≤ 10000 := by rw [hpre, hcons, List.length_append]; simp; omega
     have hk : ((out.length : Int) == 10000) = true := by rw [h10]; rfl
     replace hpre := Lib.hid hpre
     replace hcons := Lib.hid hcons
     replace hs2 := Lib.hid hs2
     replace hs3 := Lib.hid hs3
     replace hs4 := Lib.hid hs4
     replace h10 := Lib.hid h10
     replace hno := Lib.hid hno
     go_wp2_with fail
     go_ret
     try rw [if_neg hno.out]
     exact ⟨_, rfl, OwnM.nil _ _ _, hB⟩
    ·have hk : ((out.length : Int) == 10000) = false := by simp; omega
     have hlv := fun W => refLevel_any y W
     have hsk := fun W => refSize_any (lvM y) W (lvM_cases y)
     change ∀ W, Calls _ _ _ W fun e w' => e = .returned (.int .u64 (stepK y)) ∧ W = w' at hsk
     have hst := stepK_cases y
     have hl9 : out.length < 10000 := by omega
     have hol := fun r => World.ownsRow.lt hown r
     have hlv5 : ∀ (e5 : List Value), e5 = encM [headP y] → e5 = [.int .u64 y.ipa, .int .u64 y.pa, .int .u64 (stepK y), .int .i64 y.perm, .int .i64 y.kind] := fun e5 h => by rw [h]; rfl
     replace hpre := Lib.hid hpre
     replace hcons := Lib.hid hcons
     replace hs2 := Lib.hid hs2
     replace hs3 := Lib.hid hs3
     replace hs4 := Lib.hid hs4
     replace hst := Lib.hid hst
     have w0' : IntKind.u64.wrap (y.ipa + stepK y) = (restP y).ipa := IntKind.wrap_u64 _
     have w1' : IntKind.u64.wrap (y.pa + stepK y) = (restP y).pa := IntKind.wrap_u64 _
     have w2' : IntKind.u64.wrap (y.sz - stepK y) = (restP y).sz := IntKind.wrap_u64 _
     have hnp := BoxM.new wr y
     go_wp2_with fail
     refine (hlv _).mono ?_
     clear hlv
     rintro e w2 ⟨rfl, hb2⟩
     have bm2 : BoxM w2 w.heap.size y := (hbox.below (bone _ _) hBl).below hb2 (by simp; omega)
     have bp2 : BoxM w2 wr.heap.size y := hnp.below hb2 (by simp)
     have ow2 : OwnM 126 w2 (w.heap.size + 1) (.slice ao out.length co) out := (hown.below (bone _ _) (Nat.le_refl _)).below hb2 (Nat.le_refl _)
     have hB2 : Below w.heap.size w w2 := hB.trans ((bthen (bone _ _) hb2).mono hB.size)
     have bp3 : BoxM (w2.setCell ⟨wr.heap.size, 2, none⟩ (.int .u64 (stepK y))) wr.heap.size (headP y) := heapAt_set bp2 2 _
     have bm3 : BoxM (w2.setCell ⟨wr.heap.size, 2, none⟩ (.int .u64 (stepK y))) w.heap.size y := bm2.other (by omega) _
     have ow3 : OwnM 126 (w2.setCell ⟨wr.heap.size, 2, none⟩ (.int .u64 (stepK y))) (w.heap.size + 1) (.slice ao out.length co) out := ownsRow_off ow2 (fun r e => by have := hol r e; omega) _
     have hB3 : Below w.heap.size w (w2.setCell ⟨wr.heap.size, 2, none⟩ (.int .u64 (stepK y))) := hB2.setCell (by simp; omega) _
     obtain ⟨d0, d1, d2, d3, d4⟩ := bp2.cells
     have fp2 := bp2.frozen 2
     have hz2 := bp2.lt
     clear hb2 hnp
     go_wp2_with (first | (go_at_call 81; refine (hsk _).mono ?_; rintro e w5 ⟨rfl, rfl⟩) | (at_builtin; refine wpl_append_map rfl _ _ 78 rfl (w.heap.size + 1) 126 infoMap Tryz.underlying78 (.slice ao out.length co) out [headP y] rfl rfl ?_ ?_ ?_ ?_ ?_ ?_ ?_; (focus (exact ow3)); (focus rfl); (focus (first | rfl | (simp; done))); (focus rfl); (focus (simp; omega)); (focus (simp; omega)); intro v' w6 hown' hbel hgrow; have bm6 : BoxM w6 w.heap.size y := BoxM.grown (bm3.below (bone _ _) bm3.lt) hgrow (fun e => by have := hol _ e.symm; omega); have bp6 : BoxM w6 wr.heap.size (headP y) := BoxM.grown (bp3.below (bone _ _) bp3.lt) hgrow (fun e => by have := hol _ e.symm; omega); obtain ⟨e0, e1, e2, _, _⟩ := bm6.cells; have e3 : w6.cell? ⟨wr.heap.size, 2, none⟩ = some (.int .u64 (stepK y)) := bp6.cells.2.2.1; have f0 := bm6.frozen 0; have f1 := bm6.frozen 1; have f2 := bm6.frozen 2; obtain ⟨a6, c6, rfl, _, _⟩ := hown'.row))
     have hle : (out ++ [headP y]).length = out.length + 1 := by simp
     rw [hle] at hown'
     refine ⟨⟨out ++ [headP y], restP y, by rw [hpre.out, hcons.out]; simp, hcutR, by simp; omega, bm6.step, ?_, ?_⟩, ?_⟩
     ·have hno : ∀ r, (Value.slice a6 (out.length + 1) c6).ownBlock = some r → r ≠ w.heap.size := fun r e => by have := (World.ownsRow.lt hown' r e).1; omega
      exact ownsRow_off (ownsRow_off (ownsRow_off hown' hno _) hno _) hno _
     ·exact (((hB3.trans (hbel _ (by omega))).setCell (by simp) _).setCell (by simp) _).setCell (by simp) _
     ·rw [bm6.step.szAt, hbox.szAt, hs4.out]
      have := hst.out
      omega
   ·have hz : y.sz = 0 := by omega
    rw [tailP_nil hlt, List.append_nil] at hpre
    subst hpre
    replace hz := Lib.hid hz
    go_wp2_with fail
    go_ret
    try rw [if_pos hlen]
    exact ⟨_, rfl, hown.mono (by omega), hB⟩
end Go.Proofs.YtgihknfoncljbaaGreatDoor
/- The reference's Need: numbers among numbers, of two levels. -/
namespace Go.Proofs.YtgihknfoncljbaaGreatDoor
open Go Go.RowKit Go.Shelf Go.BigFrame
structure TwoW (W : World) (base : Nat) (u v : Value) (S T : List Int) : Prop where
 a : OwnWd W base u S
 b : OwnWd W base v T
 ab : ∀ r, u.ownBlock = some r → v.ownBlock ≠ some r
structure Three (W : World) (base : Nat) (u v r : Value) (S T : List Int) (P : List M5) : Prop where
 two : TwoW W base u v S T
 c : OwnM 126 W base r P
 ac : ∀ k, u.ownBlock = some k → r.ownBlock ≠ some k
 bc : ∀ k, v.ownBlock = some k → r.ownBlock ≠ some k
theorem OwnWd.lt {w : World} {base : Nat} {v : Value} {l : List Int} (h : OwnWd w base v l) : ∀ r, v.ownBlock = some r → base ≤ r ∧ r < w.heap.size := World.ownsRow.lt h
theorem TwoW.nil (W : World) (base : Nat) : TwoW W base (.slice none 0 0) (.slice none 0 0) [] [] := ⟨OwnWd.nil _ _, OwnWd.nil _ _, fun r h => by cases h⟩
theorem TwoW.below {W W' : World} {base B : Nat} {u v : Value} {S T : List Int} (h : TwoW W base u v S T) (hb : Below B W W') (hB : W.heap.size ≤ B) : TwoW W' base u v S T :=
 ⟨h.a.same fun r e => hb.block r (Nat.lt_of_lt_of_le (h.a.lt r e).2 hB), h.b.same fun r e => hb.block r (Nat.lt_of_lt_of_le (h.b.lt r e).2 hB), h.ab⟩
theorem Three.below {W W' : World} {base B : Nat} {u v r : Value} {S T : List Int} {P : List M5} (h : Three W base u v r S T P) (hb : Below B W W') (hB : W.heap.size ≤ B) : Three W' base u v r S T P :=
 ⟨h.two.below hb hB, h.c.below hb hB, h.ac, h.bc⟩
theorem Three.left {W W' : World} {base : Nat} {u u' v r : Value} {S S' T : List Int} {P : List M5} (h : Three W base u v r S T P) (ho : AddOut W W' base u u' S') : Three W' base u' v r S' T P := by
 have hv := h.two.b.lt
 have hr := World.ownsRow.lt h.c
 refine ⟨⟨ho.own, h.two.b.same fun k e => ho.rest k (hv k e).2 (fun e2 => h.two.ab k e2 e), fun k e e2 => ?_⟩, ownsRow_sameF h.c fun k e => ho.rest k (hr k e).2 (fun e2 => h.ac k e2 e), fun k e e2 => ?_, h.bc⟩
 ·rcases ho.at' with h1 | h1
  ·exact h.two.ab k (h1 ▸ e) e2
  ·have := h1 k e; have := (hv k e2).2; omega
 ·rcases ho.at' with h1 | h1
  ·exact h.ac k (h1 ▸ e) e2
  ·have := h1 k e; have := (hr k e2).2; omega
theorem Three.right {W W' : World} {base : Nat} {u v v' r : Value} {S T T' : List Int} {P : List M5} (h : Three W base u v r S T P) (ho : AddOut W W' base v v' T') : Three W' base u v' r S T' P := by
 have hu := h.two.a.lt
 have hr := World.ownsRow.lt h.c
 refine ⟨⟨h.two.a.same fun k e => ho.rest k (hu k e).2 (fun e2 => h.two.ab k e e2), ho.own, fun k e e2 => ?_⟩, ownsRow_sameF h.c fun k e => ho.rest k (hr k e).2 (fun e2 => h.bc k e2 e), h.ac, fun k e e2 => ?_⟩
 ·rcases ho.at' with h1 | h1
  ·exact h.two.ab k e (h1 ▸ e2)
  ·have := h1 k e2; have := (hu k e).2; omega
 ·rcases ho.at' with h1 | h1
  ·exact h.bc k (h1 ▸ e) e2
  ·have := h1 k e; have := (hr k e2).2; omega
theorem AddOut.cell {w w' : World} {base b o : Nat} {v v' x : Value} {l : List Int} (h : AddOut w w' base v v' l) (c : w.cell? ⟨b, o, none⟩ = some x) (hn : v.ownBlock ≠ some b) : w'.cell? ⟨b, o, none⟩ = w.cell? ⟨b, o, none⟩ := by
 have := h.rest b (World.block_lt_of_cell? _ _ c) hn
 simp only [World.cell?, this]
set_option maxRecDepth 100000 in
set_option maxHeartbeats 4000000 in
theorem refNeed_any (v : Value) (l : List M5) (w : World) (hv : RowM w v l) (hl : l.length ≤ 100000) :
  Calls Tryz.prog 48 #[v] w fun e w' => e = .returned (.tuple #[.int .i64 (refNeedV l).1, .int .i64 (refNeedV l).2]) ∧ Below w.heap.size w w' := by
 have hgd := fun W h => refGoodM_any v l W h (by omega)
 have hv' := hv
 obtain ⟨a1, cp1, rfl, _, hc1⟩ := hv'
 cases hg : goodM l
 ·have hno : refNeedV l = (0, 190) := by unfold refNeedV; rw [if_neg (fun h => by rw [h.1] at hg; cases hg)]
  rw [hg] at hgd
  rw [hno]
  clear hg hno
  go_enter Tryz.func48, Tryz.ntmps48
  go_wp2_with fail
  refine (hgd _ hv).mono ?_; rintro e w1 ⟨rfl, hb1⟩
  go_wp2_with fail
  go_ret2
  exact ⟨rfl, hb1⟩
 ·rw [hg] at hgd
  replace hg := Lib.hid hg
  go_enter Tryz.func48, Tryz.ntmps48
  go_wp2_with fail
  refine (hgd _ hv).mono ?_; rintro e w1 ⟨rfl, hb1⟩
  clear hgd
  go_wp2_with fail
  go_loopw [4, 5, 16] (fun u v' i wr => ∃ k : Nat, k ≤ l.length ∧ i = .int .i64 k ∧ (∀ j (h : j < l.length), j < k → piecesV l[j] ≠ []) ∧ TwoW wr w.heap.size u v' (secs (l.take k)) (this (l.take k)) ∧ (secs (l.take k)).length ≤ 10000 * k ∧ (this (l.take k)).length ≤ 10000 * k ∧ Below w.heap.size w wr) (fun _ _ i _ => l.length - (intOf i).toNat)
  case atStart => exact ⟨0, Nat.zero_le _, rfl, fun j _ h => by omega, TwoW.nil _ _, Nat.le_refl _, Nat.le_refl _, hb1⟩
  case round =>
   obtain ⟨k, hk, rfl, hne, htwo, hS, hT, hB⟩ := hrel
   by_cases hlt : k < l.length
   ·obtain ⟨b1, o1, rfl, hbl, hcell⟩ := hc1 (by rintro rfl; simp at hlt)
    obtain ⟨p0, p1, p2, p3, p4⟩ := hcell k hlt
    replace p0 := cell_lt hB p0 hbl
    replace p1 := cell_lt hB p1 hbl
    replace p2 := cell_lt hB p2 hbl
    replace p3 := cell_lt hB p3 hbl
    replace p4 := cell_lt hB p4 hbl
    have hss := secs_snoc l k hlt
    have hts := this_snoc l k hlt
    have hno : piecesV l[k] = [] → refNeedV l = (0, 190) := fun h => by unfold refNeedV; rw [if_neg (fun e => e.2 _ (List.getElem_mem hlt) h)]
    have hne' : piecesV l[k] ≠ [] → ∀ j (h : j < l.length), j < k + 1 → piecesV l[j] ≠ [] := fun h j hj h2 => by
     by_cases e : j = k
     ·subst e; exact h
     ·exact hne j hj (by omega)
    have hrp := fun W => refPieces_any l[k] W
    have hPl := piecesV_len l[k]
    clear hcell hne hc1
    generalize l[k] = x at *
    generalize hS1 : secs (l.take (k + 1)) = S1 at *
    generalize hT1 : this (l.take (k + 1)) = T1 at *
    replace hS1 := Lib.hid hS1
    replace hT1 := Lib.hid hT1
    generalize secs (l.take k) = S0 at *
    generalize this (l.take k) = T0 at *
    generalize piecesV x = P at *
    replace hss := Lib.hid hss
    replace hts := Lib.hid hts
    replace hno := Lib.hid hno
    replace hne' := Lib.hid hne'
    have hz := hB.size
    obtain ⟨m0, m1, m2, m3, m4⟩ := five_new wr (.int .u64 x.ipa) (.int .u64 x.pa) (.int .u64 x.sz) (.int .i64 x.perm) (.int .i64 x.kind) 126
    go_wp2_with fail
    refine (hrp _).mono ?_
    rintro e w3 ⟨r, rfl, hown, hb3⟩
    obtain ⟨ar, cr, rfl, _, hcr⟩ := hown.row
    by_cases hP : P = []
    ·have hno' := hno.out hP
     have hq : ((P.length : Int) == 0) = true := by rw [hP]; rfl
     replace hno' := Lib.hid hno'
     clear hno hss hts hne' hcr hrp
     replace hP := Lib.hid hP
     go_wp2_with fail
     go_ret2
     rw [hno'.out]
     exact ⟨rfl, bthen' (bthen (bone _ _) hb3) (Below.refl _ _) |> fun h => hB.trans (h.mono hz)⟩
    ·have hq : ((P.length : Int) == 0) = false := by
      have := List.length_pos_iff.2 hP
      simp; omega
     have hne2 := hne'.out hP
     clear hno hne' hrp m0 m1 m2 m3 m4 p0 p1 p2 p3 p4
     replace hP := Lib.hid hP
     replace hne2 := Lib.hid hne2
     have hz3 := hb3.size
     have hz3' : wr.heap.size < w3.heap.size := by simp at hz3; omega
     have h3 : Three w3 w.heap.size u4 u5 (.slice ar P.length cr) S0 T0 P := by
      have ht3 := htwo.below (bthen (bone _ _) hb3) (Nat.le_refl _)
      refine ⟨ht3, hown.mono (by simp; omega), fun k e e2 => ?_, fun k e e2 => ?_⟩
      ·have h1 := (htwo.a.lt k e).2
       have h2 := (World.ownsRow.lt hown k e2).1
       simp at h2; omega
      ·have h1 := (htwo.b.lt k e).2
       have h2 := (World.ownsRow.lt hown k e2).1
       simp at h2; omega
     have hB3 : Below w.heap.size w w3 := hB.trans ((bthen (bone _ _) hb3).mono hz)
     clear hown hb3 htwo hcr hz3
     go_wp2_with fail
     obtain ⟨wo, rfl⟩ : ∃ wo : World, wo = wr := ⟨_, rfl⟩
     go_loopw [4, 5, 27] (fun u v' i w4 => ∃ j : Nat, j ≤ P.length ∧ i = .int .i64 j ∧ Three w4 w.heap.size u v' (.slice ar P.length cr) ((P.take j).foldl secF S0) ((P.take j).foldl thiF T0) P ∧ ((P.take j).foldl secF S0).length ≤ 10000 * k + j ∧ ((P.take j).foldl thiF T0).length ≤ 10000 * k + j ∧ Below w.heap.size w w4) (fun _ _ i _ => P.length - (intOf i).toNat)
     case atStart => exact ⟨0, Nat.zero_le _, rfl, h3, hS, hT, hB3⟩
     case round =>
      clear h3 hB3 hS hT hz3' hB hz
      obtain ⟨j, hj, rfl, h3, hS, hT, hB⟩ := hrel
      have hz := hB.size
      by_cases hjl : j < P.length
      ·obtain ⟨a0, c0, ea, _, hcell⟩ := h3.c.row
       simp only [Value.slice.injEq, true_and] at ea
       obtain ⟨rfl, rfl⟩ := ea
       obtain ⟨b5, o5, rfl, hb5, hcell⟩ := hcell (by rintro rfl; simp at hjl)
       obtain ⟨q0, q1, q2, q3, q4⟩ := hcell j hjl
       clear hcell
       have hSf := take_fold secF P S0 j hjl
       have hTf := take_fold thiF P T0 j hjl
       generalize hS2 : (P.take (j + 1)).foldl secF S0 = S2 at *
       generalize hT2 : (P.take (j + 1)).foldl thiF T0 = T2 at *
       replace hS2 := Lib.hid hS2
       replace hT2 := Lib.hid hT2
       generalize (P.take j).foldl secF S0 = S3 at *
       generalize (P.take j).foldl thiF T0 = T3 at *
       generalize P[j] = y at *
       obtain ⟨m0, m1, m2, m3, m4⟩ := five_new wr (.int .u64 y.ipa) (.int .u64 y.pa) (.int .u64 y.sz) (.int .i64 y.perm) (.int .i64 y.kind) 126
       replace hSf := Lib.hid hSf
       replace hTf := Lib.hid hTf
       have s1 : ∀ W, Calls Tryz.prog 81 #[.int .i64 1] W fun e w' => e = .returned (.int .u64 1073741824) ∧ Below W.heap.size W w' := fun W => (refSize_any 1 W (by omega)).mono fun e w' ⟨h, e2⟩ => ⟨h, by subst e2; exact Below.refl _ _⟩
       have s2 : ∀ W, Calls Tryz.prog 81 #[.int .i64 2] W fun e w' => e = .returned (.int .u64 2097152) ∧ Below W.heap.size W w' := fun W => (refSize_any 2 W (by omega)).mono fun e w' ⟨h, e2⟩ => ⟨h, by subst e2; exact Below.refl _ _⟩
       go_wp2_with fail
       have hlt4 : ∀ r, u4.ownBlock = some r → r < wr.heap.size := fun r e => (h3.two.a.lt r e).2
       have hlt5 : ∀ r, u5.ownBlock = some r → r < wr.heap.size := fun r e => (h3.two.b.lt r e).2
       have hbw := bone wr (.cells #[.int .u64 y.ipa, .int .u64 y.pa, .int .u64 y.sz, .int .i64 y.perm, .int .i64 y.kind] 126)
       replace h3 := h3.below hbw (Nat.le_refl _)
       replace hB := hB.trans (hbw.mono hz)
       replace hz := hB.size
       have hnu : u4.ownBlock ≠ some wr.heap.size := fun e => by have := (hlt4 _ e); omega
       have hnv : u5.ownBlock ≠ some wr.heap.size := fun e => by have := (hlt5 _ e); omega
       replace hnu := Lib.hid hnu
       replace hnv := Lib.hid hnv
       have hwz : wr.heap.size < (wr.alloc (.cells #[.int .u64 y.ipa, .int .u64 y.pa, .int .u64 y.sz, .int .i64 y.perm, .int .i64 y.kind] 126)).heap.size := by simp
       generalize wr.alloc (.cells #[.int .u64 y.ipa, .int .u64 y.pa, .int .u64 y.sz, .int .i64 y.perm, .int .i64 y.kind] 126) = w5 at *
       clear hbw q0 q1 q2 q3 q4 m1 m3 m4 hb5
       refine region_later w5.heap.size w5 (Below.refl _ _) (by kernel_rfl) (by kernel_rfl) ?_
       have y2 := later_cell (B := w5.heap.size) m2 (World.block_lt_of_cell? _ _ m2)
       repeat (first | go_big_quiet_step (fail) | go_big_quiet_step ((go_at_call 81; exact quiet_later (Nat.le_refl _) (s1 _))))
       refine wpQuiet_nil ?_
       first | (rintro _ ⟨X, rfl⟩) | (intro X)
       have hX := X.h
       clear y2
       replace h3 := h3.below hX (Nat.le_refl _)
       replace hB := hB.trans (hX.mono (by omega))
       replace m0 := cell_lt hX m0 (World.block_lt_of_cell? _ _ m0)
       replace m2 := cell_lt hX m2 (World.block_lt_of_cell? _ _ m2)
       replace hz := hB.size
       generalize X.x = w6 at *
       clear hX X
       obtain ⟨w5, rfl⟩ : ∃ w5 : World, w5 = w6 := ⟨_, rfl⟩
       have hn4 : u4.ownBlock ≠ some wr.heap.size := hnu.out
       have hn5 : u5.ownBlock ≠ some wr.heap.size := hnv.out
       by_cases k1 : y.sz < 1073741824
       ·have f1 : secF S3 y = insN S3 (y.ipa / 1073741824) := by unfold secF; rw [if_pos k1]
        have hl1 := insN_len S3 (y.ipa / 1073741824)
        replace f1 := Lib.hid f1
        go_wp2_with fail
        refine (addW_any u4 _ _ w.heap.size _ h3.two.a hz (by omega)).mono ?_
        rintro e w6 ⟨v6, rfl, ho⟩
        replace h3 := h3.left ho
        replace hB := hB.trans ho.low
        replace hz := hB.size
        replace m0 := (ho.cell m0 hn4).trans m0
        replace m2 := (ho.cell m2 hn4).trans m2
        clear ho
        generalize insN S3 (y.ipa / 1073741824) = S4 at *
        obtain ⟨w5, rfl⟩ : ∃ w5 : World, w5 = w6 := ⟨_, rfl⟩
        go_wp2_with fail
        refine region_later w5.heap.size w5 (Below.refl _ _) (by kernel_rfl) (by kernel_rfl) ?_
        have y2 := later_cell (B := w5.heap.size) m2 (World.block_lt_of_cell? _ _ m2)
        repeat (first | go_big_quiet_step (fail) | go_big_quiet_step ((go_at_call 81; exact quiet_later (Nat.le_refl _) (s2 _))))
        refine wpQuiet_nil ?_
        first | (rintro _ ⟨X, rfl⟩) | (intro X)
        have hX := X.h
        clear y2
        replace h3 := h3.below hX (Nat.le_refl _)
        replace hB := hB.trans (hX.mono (by omega))
        replace m0 := cell_lt hX m0 (World.block_lt_of_cell? _ _ m0)
        replace m2 := cell_lt hX m2 (World.block_lt_of_cell? _ _ m2)
        replace hz := hB.size
        generalize X.x = w6 at *
        clear hX X
        obtain ⟨w5, rfl⟩ : ∃ w5 : World, w5 = w6 := ⟨_, rfl⟩
        by_cases k2 : y.sz < 2097152
        ·have f2 : thiF T3 y = insN T3 (y.ipa / 2097152) := by unfold thiF; rw [if_pos k2]
         have hl2 := insN_len T3 (y.ipa / 2097152)
         replace f2 := Lib.hid f2
         go_wp2_with fail
         refine (addW_any u5 _ _ w.heap.size _ h3.two.b hz (by omega)).mono ?_
         rintro e w6 ⟨v7, rfl, ho⟩
         replace h3 := h3.right ho
         replace hB := hB.trans ho.low
         clear ho m0 m2
         generalize insN T3 (y.ipa / 2097152) = T4 at *
         go_wp2_with fail
         refine ⟨⟨j + 1, hjl, by go_num, ?_, ?_, ?_, hB⟩, ?_⟩
         ·rw [hS2.out, hT2.out, hSf.out, hTf.out, f1.out, f2.out]; exact h3
         ·rw [hS2.out, hSf.out, f1.out]; omega
         ·rw [hT2.out, hTf.out, f2.out]; omega
         ·simp [intOf]; omega
        ·have f2 : thiF T3 y = T3 := by unfold thiF; rw [if_neg k2]
         replace f2 := Lib.hid f2
         go_wp2_with fail
         refine ⟨⟨j + 1, hjl, by go_num, ?_, ?_, ?_, hB⟩, ?_⟩
         ·rw [hS2.out, hT2.out, hSf.out, hTf.out, f1.out, f2.out]; exact h3
         ·rw [hS2.out, hSf.out, f1.out]; omega
         ·rw [hT2.out, hTf.out, f2.out]; omega
         ·simp [intOf]; omega
       ·have k2 : ¬ y.sz < 2097152 := by omega
        have f1 : secF S3 y = S3 := by unfold secF; rw [if_neg k1]
        have f2 : thiF T3 y = T3 := by unfold thiF; rw [if_neg k2]
        replace f1 := Lib.hid f1
        replace f2 := Lib.hid f2
        go_wp2_with fail
        refine region_later w5.heap.size w5 (Below.refl _ _) (by kernel_rfl) (by kernel_rfl) ?_
        have y2 := later_cell (B := w5.heap.size) m2 (World.block_lt_of_cell? _ _ m2)
        repeat (first | go_big_quiet_step (fail) | go_big_quiet_step ((go_at_call 81; exact quiet_later (Nat.le_refl _) (s2 _))))
        refine wpQuiet_nil ?_
        first | (rintro _ ⟨X, rfl⟩) | (intro X)
        have hX := X.h
        clear y2
        replace h3 := h3.below hX (Nat.le_refl _)
        replace hB := hB.trans (hX.mono (by omega))
        replace m0 := cell_lt hX m0 (World.block_lt_of_cell? _ _ m0)
        replace m2 := cell_lt hX m2 (World.block_lt_of_cell? _ _ m2)
        replace hz := hB.size
        generalize X.x = w6 at *
        clear hX X
        obtain ⟨w5, rfl⟩ : ∃ w5 : World, w5 = w6 := ⟨_, rfl⟩
        go_wp2_with fail
        refine ⟨⟨j + 1, hjl, by go_num, ?_, ?_, ?_, hB⟩, ?_⟩
        ·rw [hS2.out, hT2.out, hSf.out, hTf.out, f1.out, f2.out]; exact h3
        ·rw [hS2.out, hSf.out, f1.out]; omega
        ·rw [hT2.out, hTf.out, f2.out]; omega
        ·simp [intOf]; omega
      ·obtain rfl : j = P.length := by omega
       rw [List.take_length, ← hss.out, ← hts.out] at h3
       rw [List.take_length, ← hss.out] at hS
       rw [List.take_length, ← hts.out] at hT
       go_wp2_with fail
       refine ⟨⟨k + 1, hlt, by go_num, hne2.out, ?_, ?_, ?_, hB⟩, ?_⟩
       ·rw [hS1.out, hT1.out]; exact h3.two
       ·rw [hS1.out]; omega
       ·rw [hT1.out]; omega
       ·simp [intOf]; omega
   ·obtain rfl : k = l.length := by omega
    rw [List.take_length] at htwo hS hT
    have hr : refNeedV l = (2 + ((secs l).length : Int) + ((this l).length : Int), 0) := by
     unfold refNeedV
     rw [if_pos ⟨hg.out, fun y hy => by obtain ⟨i, hi, rfl⟩ := List.getElem_of_mem hy; exact hne i hi hi⟩]
    replace hr := Lib.hid hr
    clear hne hc1 hg
    generalize secs l = S0 at *
    generalize this l = T0 at *
    obtain ⟨a4, c4, rfl, _, _⟩ := htwo.a.parts
    obtain ⟨a5, c5, rfl, _, _⟩ := htwo.b.parts
    go_wp2_with fail
    go_ret2
    rw [hr.out]
    exact ⟨rfl, hB⟩
end Go.Proofs.YtgihknfoncljbaaGreatDoor
