/- The program's Pieces: a range over the iterator of pieces that appends into a captured slice. -/
import Derived.Maps.OwnIn
import Derived.Test.YtnieomgopldlhaaDoorWalkBuiltP20
import Derived.Test.YtnieomgopldlhaaDoorWalkBuiltP21
import Derived.Test.YtnieomgopldlhaaDoorWalkBuiltP23
namespace Go.Proofs.YtnieomgopldlhaaDoor
open Go Go.RowKit Go.Shelf Go.BigFrame

attribute [local go_sem] Oper.semAt_some

theorem good_cut {y : M5} (h : goodM [y] = true) : Cut y := by
  have h1 := List.all_eq_true.1 h 0 (by simp)
  unfold okM elemB at h1
  rw [Bool.and_eq_true, Bool.and_eq_true] at h1
  have e : ([y] : List M5)[0]! = y := rfl
  rw [e] at h1
  have h2 := h1.1.1
  have h3 := h1.1.2
  rw [Bool.and_eq_true] at h3
  have h4 := pageM_iff.1 h2
  have h5 := pageM_iff.1 h3.1
  exact ⟨h4.2.2.2, by omega, by omega⟩
/-- The pieces of a part. -/
def piecesV (y : M5) : List M5 := if goodM [y] = true ∧ (piecesL y).length ≤ 10000 then (piecesL y).map (·.2) else []
theorem rowM_one (W : World) (y : M5) : RowM (W.alloc (.cells #[.int .u64 y.ipa, .int .u64 y.pa, .int .u64 y.sz, .int .i64 y.perm, .int .i64 y.kind] 26)) (.slice (some ⟨W.heap.size, 0, none⟩) 1 1) [y] := by
  refine ⟨_, _, rfl, Nat.le_refl _, fun _ => ⟨_, _, rfl, by simp, fun i hi => ?_⟩⟩
  have : i = 0 := by simp at hi; omega
  subst this
  exact five_new W _ _ _ _ _ _
theorem ownsRow_off {W : World} {base c o : Nat} {E : TypeId} {s k : Nat} {v : Value} {xs : List Value} (h : W.ownsRow base E s v k xs) (hne : ∀ r, v.ownBlock = some r → r ≠ c) (u : Value) : (W.setCell ⟨c, o, none⟩ u).ownsRow base E s v k xs := by
  obtain ⟨hlen, hc⟩ := h
  refine ⟨hlen, hc.imp id fun ⟨g, cap, cur, hv, hb, hg, hr⟩ => ⟨g, cap, cur, hv, hb, ?_, hr⟩⟩
  exact (Below.heap_setCell W _ u g (by have := hne g (by rw [hv]; rfl); simpa using this)).trans hg
end Go.Proofs.YtnieomgopldlhaaDoor
/- The reference's add: a number among numbers, once. -/
namespace Go.Proofs.YtnieomgopldlhaaDoor
open Go Go.RowKit Go.Shelf Go.BigFrame

/-- The slice 'v' owns a row of words, from block 'base' on. -/
def OwnWd (w : World) (base : Nat) (v : Value) (l : List Int) : Prop := w.ownsRow base 23 1 v l.length (l.map fun x => .int .u64 x)
theorem OwnWd.nil (w : World) (base : Nat) : OwnWd w base (.slice none 0 0) [] := World.ownsRow_nil _ _ _ _
theorem OwnWd.parts {w : World} {base : Nat} {v : Value} {U : List Int} (h : OwnWd w base v U) :
    ∃ (a : Option Addr) (cap : Nat), v = .slice a U.length cap ∧ U.length ≤ maxLen ∧ (U ≠ [] → ∃ g, a = some ⟨g, 0, none⟩ ∧ base ≤ g ∧ g < w.heap.size ∧ ∀ i (h : i < U.length), w.cell? ⟨g, i, none⟩ = some (.int .u64 U[i])) := by
  obtain ⟨hlen, ⟨rfl, h0⟩ | ⟨g, cap, cur, rfl, hb, hg, hn, hm, hs, hx⟩⟩ := h
  · have e := List.length_eq_zero_iff.1 h0
    subst e
    exact ⟨none, 0, rfl, by decide, fun h => absurd rfl h⟩
  · refine ⟨some ⟨g, 0, none⟩, cap, rfl, Nat.le_trans hn hm, fun _ => ⟨g, rfl, hb, (Array.getElem?_eq_some_iff.1 hg).1, fun i hi => ?_⟩⟩
    have h1 : (cur.toList.take (U.length * 1))[i]? = some (.int .u64 U[i]) := by rw [hx, List.getElem?_map, List.getElem?_eq_getElem hi]; rfl
    rw [List.getElem?_take, if_pos (by omega)] at h1
    simp only [World.cell?, hg]
    simpa using h1
theorem ownsRow_sameF {E : TypeId} {w w' : World} {base k n : Nat} {v : Value} {l : List Value} (h : w.ownsRow base E k v n l) (hb : ∀ r, v.ownBlock = some r → w'.heap[r]? = w.heap[r]?) : w'.ownsRow base E k v n l := by
  obtain ⟨hlen, hc⟩ := h
  refine ⟨hlen, hc.imp id fun ⟨g, cap, cur, hv, hbg, hg, hr⟩ => ⟨g, cap, cur, hv, hbg, ?_, hr⟩⟩
  rw [hb g (by rw [hv]; rfl)]; exact hg
theorem OwnWd.same {w w' : World} {base : Nat} {v : Value} {l : List Int} (h : OwnWd w base v l) (hb : ∀ r, v.ownBlock = some r → w'.heap[r]? = w.heap[r]?) : OwnWd w' base v l := ownsRow_sameF h hb
theorem OwnWd.below {w w' : World} {base : Nat} {v : Value} {l : List Int} (h : OwnWd w base v l) (hb : Below w.heap.size w w') : OwnWd w' base v l := h.same fun r e => hb.block r (World.ownsRow.lt h r e).2
/-- A number is put among others. -/
def insN (l : List Int) (n : Int) : List Int := if n ∈ l then l else l ++ [n]
/-- What 'add' leaves: the numbers with one more; all blocks but the row's own as they were. -/
structure AddOut (w w' : World) (base : Nat) (v v' : Value) (l : List Int) : Prop where
  own : OwnWd w' base v' l
  at' : v'.ownBlock = v.ownBlock ∨ ∀ r, v'.ownBlock = some r → w.heap.size ≤ r
  low : Below base w w'
  rest : ∀ b, b < w.heap.size → v.ownBlock ≠ some b → w'.heap[b]? = w.heap[b]?

end Go.Proofs.YtnieomgopldlhaaDoor
/- The plain law of tables: how many frames parts take, by places and by numbers. -/
namespace Go.Proofs.YtnieomgopldlhaaDoor
open Go Go.RowKit

/-- The tables on a piece's way. -/
def placesOf (x : Int × M5) : List (Int × Int) := if x.1 = 3 then [(2, x.2.ipa / szK 1), (3, x.2.ipa / szK 2)] else if x.1 = 2 then [(2, x.2.ipa / szK 1)] else []
def insP (ks : List (Int × Int)) (p : Int × Int) : List (Int × Int) := if p ∈ ks then ks else ks ++ [p]
def keysOf (ks : List (Int × Int)) (L : List (Int × M5)) : List (Int × Int) := L.foldl (fun ks x => (placesOf x).foldl insP ks) ks
def allKeys (l : List M5) : List (Int × Int) := l.foldl (fun ks y => keysOf ks (piecesL y)) []
def needOk (l : List M5) : Prop := goodM l = true ∧ ∀ y ∈ l, (piecesL y).length ≤ 10000
instance (l : List M5) : Decidable (needOk l) := by unfold needOk; infer_instance
def needV (l : List M5) : Int × Int := if needOk l then (2 + ((allKeys l).length : Int), 0) else (0, 190)

/-- A key that is one. -/
def KeyOk (p : Int × Int) : Prop := (p.1 = 2 ∨ p.1 = 3) ∧ W64 p.2

/-- The reference's numbers. -/
def secF (S : List Int) (p : M5) : List Int := if p.sz < 1073741824 then insN S (p.ipa / 1073741824) else S
def thiF (T : List Int) (p : M5) : List Int := if p.sz < 2097152 then insN T (p.ipa / 2097152) else T
def this (l : List M5) : List Int := l.foldl (fun S y => (piecesV y).foldl thiF S) []
def refOk (l : List M5) : Prop := goodM l = true ∧ ∀ y ∈ l, piecesV y ≠ []
instance (l : List M5) : Decidable (refOk l) := by unfold refOk; infer_instance
theorem piecesL_facts (y : M5) : ∀ x ∈ piecesL y, x.2.sz = szK x.1 ∧ (x.1 = 1 ∨ x.1 = 2 ∨ x.1 = 3) := by
  have key : ∀ (n : Nat) (y : M5), y.sz.toNat ≤ n → ∀ x ∈ piecesL y, x.2.sz = szK x.1 ∧ (x.1 = 1 ∨ x.1 = 2 ∨ x.1 = 3) := by
    intro n
    induction n with
    | zero =>
      intro y hy x hx
      rw [piecesL_nil (by omega)] at hx
      cases hx
    | succ n ih =>
      intro y hy x hx
      rw [piecesL] at hx
      split at hx
      · rename_i h
        rcases List.mem_cons.1 hx with rfl | hx
        · exact ⟨rfl, lvM_cases y⟩
        · exact ih (restP y) (by omega) x hx
      · cases hx
  exact key _ y (Nat.le_refl _)

theorem good_elem {l : List M5} (h : goodM l = true) {y : M5} (hy : y ∈ l) : elemB y = true := by
  obtain ⟨i, hi, rfl⟩ := List.getElem_of_mem hy
  have h1 := List.all_eq_true.1 h i (by simpa using hi)
  unfold okM at h1
  rw [Bool.and_eq_true, getElem!_pos l i hi] at h1
  exact h1.1
theorem good_one {y : M5} (h : elemB y = true) : goodM [y] = true := by
  refine goodM_yes fun k hk => ?_
  obtain rfl : k = 0 := by simp at hk; exact hk
  unfold okM nextB
  rw [Bool.and_eq_true]
  exact ⟨by simpa using h, by simp⟩
/-- Places and numbers are at one. -/
structure Agree (ks : List (Int × Int)) (S T : List Int) : Prop where
  two : (ks.filter (fun p => decide (p.1 = 2))).map (·.2) = S
  three : (ks.filter (fun p => decide (p.1 = 3))).map (·.2) = T
  all : ∀ p ∈ ks, p.1 = 2 ∨ p.1 = 3
theorem Agree.nil : Agree [] [] [] := ⟨rfl, rfl, by simp⟩
theorem Agree.length {ks : List (Int × Int)} {S T : List Int} (h : Agree ks S T) : ks.length = S.length + T.length := by
  have key : ∀ ks : List (Int × Int), (∀ p ∈ ks, p.1 = 2 ∨ p.1 = 3) → ks.length = (ks.filter (fun p => decide (p.1 = 2))).length + (ks.filter (fun p => decide (p.1 = 3))).length := by
    intro ks
    induction ks with
    | nil => simp
    | cons p ks ih =>
      intro h
      have h1 := ih (fun q hq => h q (by simp [hq]))
      rcases h p (by simp) with e | e <;> simp [e] <;> omega
  have := key ks h.all
  rw [← h.two, ← h.three, List.length_map, List.length_map]
  exact this
theorem mem_sel {ks : List (Int × Int)} {k n : Int} : n ∈ (ks.filter (fun p => decide (p.1 = k))).map (·.2) ↔ (k, n) ∈ ks := by
  rw [List.mem_map]
  constructor
  · rintro ⟨p, hp, rfl⟩
    rw [List.mem_filter, decide_eq_true_iff] at hp
    rw [← hp.2]; exact hp.1
  · intro h
    exact ⟨(k, n), List.mem_filter.2 ⟨h, by simp⟩, rfl⟩
theorem Agree.ins2 {ks : List (Int × Int)} {S T : List Int} (h : Agree ks S T) (n : Int) : Agree (insP ks (2, n)) (insN S n) T := by
  unfold insP insN
  have hm : n ∈ S ↔ (2, n) ∈ ks := by rw [← h.two]; exact mem_sel
  by_cases hi : (2, n) ∈ ks
  · rw [if_pos hi, if_pos (hm.2 hi)]; exact h
  · rw [if_neg hi, if_neg (fun e => hi (hm.1 e))]
    refine ⟨?_, ?_, fun p hp => ?_⟩
    · rw [List.filter_append, List.map_append, h.two]; simp
    · rw [List.filter_append, List.map_append, h.three]; simp
    · rcases List.mem_append.1 hp with hp | hp
      · exact h.all p hp
      · simp at hp; subst hp; exact .inl rfl
theorem Agree.ins3 {ks : List (Int × Int)} {S T : List Int} (h : Agree ks S T) (n : Int) : Agree (insP ks (3, n)) S (insN T n) := by
  unfold insP insN
  have hm : n ∈ T ↔ (3, n) ∈ ks := by rw [← h.three]; exact mem_sel
  by_cases hi : (3, n) ∈ ks
  · rw [if_pos hi, if_pos (hm.2 hi)]; exact h
  · rw [if_neg hi, if_neg (fun e => hi (hm.1 e))]
    refine ⟨?_, ?_, fun p hp => ?_⟩
    · rw [List.filter_append, List.map_append, h.two]; simp
    · rw [List.filter_append, List.map_append, h.three]; simp
    · rcases List.mem_append.1 hp with hp | hp
      · exact h.all p hp
      · simp at hp; subst hp; exact .inr rfl
theorem Agree.piece {ks : List (Int × Int)} {S T : List Int} (h : Agree ks S T) {x : Int × M5} (hs : x.2.sz = szK x.1) (hx : x.1 = 1 ∨ x.1 = 2 ∨ x.1 = 3) : Agree ((placesOf x).foldl insP ks) (secF S x.2) (thiF T x.2) := by
  unfold placesOf secF thiF
  rw [hs]
  rcases hx with e | e | e <;> rw [e]
  · exact h
  · exact h.ins2 _
  · exact (h.ins2 _).ins3 _
theorem Agree.pieces {L : List (Int × M5)} (hL : ∀ x ∈ L, x.2.sz = szK x.1 ∧ (x.1 = 1 ∨ x.1 = 2 ∨ x.1 = 3)) : ∀ {ks : List (Int × Int)} {S T : List Int}, Agree ks S T → Agree (keysOf ks L) ((L.map (·.2)).foldl secF S) ((L.map (·.2)).foldl thiF T) := by
  induction L with
  | nil => intro ks S T h; exact h
  | cons x L ih =>
    intro ks S T h
    exact ih (fun z hz => hL z (by simp [hz])) (h.piece (hL x (by simp)).1 (hL x (by simp)).2)
theorem insP_len (ks : List (Int × Int)) (p : Int × Int) : (insP ks p).length ≤ ks.length + 1 := by unfold insP; split <;> simp
theorem piecesV_len (y : M5) : (piecesV y).length ≤ 10000 := by
  unfold piecesV; split
  · rename_i h; simpa using h.2
  · simp
theorem take_fold {α β : Type} (f : β → α → β) (l : List α) (b : β) (k : Nat) (h : k < l.length) : (l.take (k + 1)).foldl f b = f ((l.take k).foldl f b) l[k] := by
  rw [List.take_succ_eq_append_getElem h, List.foldl_append]; rfl
end Go.Proofs.YtnieomgopldlhaaDoor
