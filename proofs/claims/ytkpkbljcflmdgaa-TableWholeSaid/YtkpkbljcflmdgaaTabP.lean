/- The plain law of tables: how many frames parts take, by places and by numbers. -/
import Derived.Test.YtkpkbljcflmdgaaTabD
import Derived.Test.YtkpkbljcflmdgaaTabF
namespace Go.Proofs.Ytkpkbljcflmdgaa
open Go Go.RowKit

/-- The tables on a piece's way. -/
def placesOf (x : Int × M5) : List (Int × Int) := if x.1 = 3 then [(2, x.2.ipa / szK 1), (3, x.2.ipa / szK 2)] else if x.1 = 2 then [(2, x.2.ipa / szK 1)] else []
def insP (ks : List (Int × Int)) (p : Int × Int) : List (Int × Int) := if p ∈ ks then ks else ks ++ [p]
def keysOf (ks : List (Int × Int)) (L : List (Int × M5)) : List (Int × Int) := L.foldl (fun ks x => (placesOf x).foldl insP ks) ks
def allKeys (l : List M5) : List (Int × Int) := l.foldl (fun ks y => keysOf ks (piecesL y)) []
def needOk (l : List M5) : Prop := goodM l = true ∧ ∀ y ∈ l, (piecesL y).length ≤ 10000
instance (l : List M5) : Decidable (needOk l) := by unfold needOk; infer_instance
def needV (l : List M5) : Int × Int := if needOk l then (2 + ((allKeys l).length : Int), 0) else (0, 190)

/-- A key that is one. -/
def KeyOk (p : Int × Int) : Prop := (p.1 = 2 ∨ p.1 = 3) ∧ W64 p.2

/-- The reference's numbers. -/
def secF (S : List Int) (p : M5) : List Int := if p.sz < 1073741824 then insN S (p.ipa / 1073741824) else S
def thiF (T : List Int) (p : M5) : List Int := if p.sz < 2097152 then insN T (p.ipa / 2097152) else T
def secs (l : List M5) : List Int := l.foldl (fun S y => (piecesV y).foldl secF S) []
def this (l : List M5) : List Int := l.foldl (fun S y => (piecesV y).foldl thiF S) []
def refOk (l : List M5) : Prop := goodM l = true ∧ ∀ y ∈ l, piecesV y ≠ []
instance (l : List M5) : Decidable (refOk l) := by unfold refOk; infer_instance
def refNeedV (l : List M5) : Int × Int := if refOk l then (2 + ((secs l).length : Int) + ((this l).length : Int), 0) else (0, 190)

theorem piecesL_facts (y : M5) : ∀ x ∈ piecesL y, x.2.sz = szK x.1 ∧ (x.1 = 1 ∨ x.1 = 2 ∨ x.1 = 3) := by
  have key : ∀ (n : Nat) (y : M5), y.sz.toNat ≤ n → ∀ x ∈ piecesL y, x.2.sz = szK x.1 ∧ (x.1 = 1 ∨ x.1 = 2 ∨ x.1 = 3) := by
    intro n
    induction n with
    | zero =>
      intro y hy x hx
      rw [piecesL_nil (by omega)] at hx
      cases hx
    | succ n ih =>
      intro y hy x hx
      rw [piecesL] at hx
      split at hx
      · rename_i h
        rcases List.mem_cons.1 hx with rfl | hx
        · exact ⟨rfl, lvM_cases y⟩
        · exact ih (restP y) (by omega) x hx
      · cases hx
  exact key _ y (Nat.le_refl _)

theorem elem_pos {y : M5} (h : elemB y = true) : 0 < y.sz := by
  unfold elemB at h
  rw [Bool.and_eq_true] at h
  have := pageM_iff.1 h.1
  omega
theorem good_elem {l : List M5} (h : goodM l = true) {y : M5} (hy : y ∈ l) : elemB y = true := by
  obtain ⟨i, hi, rfl⟩ := List.getElem_of_mem hy
  have h1 := List.all_eq_true.1 h i (by simpa using hi)
  unfold okM at h1
  rw [Bool.and_eq_true, getElem!_pos l i hi] at h1
  exact h1.1
theorem good_one {y : M5} (h : elemB y = true) : goodM [y] = true := by
  refine goodM_yes fun k hk => ?_
  obtain rfl : k = 0 := by simp at hk; exact hk
  unfold okM nextB
  rw [Bool.and_eq_true]
  exact ⟨by simpa using h, by simp⟩
theorem piecesL_ne {y : M5} (h : elemB y = true) : piecesL y ≠ [] := by
  rw [piecesL_cons (good_cut (good_one h)) (elem_pos h)]; simp
theorem pieces_some {y : M5} (h : elemB y = true) : piecesV y ≠ [] ↔ (piecesL y).length ≤ 10000 := by
  unfold piecesV
  have h1 := piecesL_ne h
  by_cases hl : (piecesL y).length ≤ 10000
  · rw [if_pos ⟨good_one h, hl⟩]; simpa [hl] using h1
  · rw [if_neg (fun h => hl h.2)]; simp [hl]
theorem ok_iff (l : List M5) : refOk l ↔ needOk l := by
  unfold refOk needOk
  refine and_congr_right fun hg => ?_
  exact forall_congr' fun y => forall_congr' fun hy => pieces_some (good_elem hg hy)

/-- Places and numbers are at one. -/
structure Agree (ks : List (Int × Int)) (S T : List Int) : Prop where
  two : (ks.filter (fun p => decide (p.1 = 2))).map (·.2) = S
  three : (ks.filter (fun p => decide (p.1 = 3))).map (·.2) = T
  all : ∀ p ∈ ks, p.1 = 2 ∨ p.1 = 3
theorem Agree.nil : Agree [] [] [] := ⟨rfl, rfl, by simp⟩
theorem Agree.length {ks : List (Int × Int)} {S T : List Int} (h : Agree ks S T) : ks.length = S.length + T.length := by
  have key : ∀ ks : List (Int × Int), (∀ p ∈ ks, p.1 = 2 ∨ p.1 = 3) → ks.length = (ks.filter (fun p => decide (p.1 = 2))).length + (ks.filter (fun p => decide (p.1 = 3))).length := by
    intro ks
    induction ks with
    | nil => simp
    | cons p ks ih =>
      intro h
      have h1 := ih (fun q hq => h q (by simp [hq]))
      rcases h p (by simp) with e | e <;> simp [e] <;> omega
  have := key ks h.all
  rw [← h.two, ← h.three, List.length_map, List.length_map]
  exact this
theorem mem_sel {ks : List (Int × Int)} {k n : Int} : n ∈ (ks.filter (fun p => decide (p.1 = k))).map (·.2) ↔ (k, n) ∈ ks := by
  rw [List.mem_map]
  constructor
  · rintro ⟨p, hp, rfl⟩
    rw [List.mem_filter, decide_eq_true_iff] at hp
    rw [← hp.2]; exact hp.1
  · intro h
    exact ⟨(k, n), List.mem_filter.2 ⟨h, by simp⟩, rfl⟩
theorem Agree.ins2 {ks : List (Int × Int)} {S T : List Int} (h : Agree ks S T) (n : Int) : Agree (insP ks (2, n)) (insN S n) T := by
  unfold insP insN
  have hm : n ∈ S ↔ (2, n) ∈ ks := by rw [← h.two]; exact mem_sel
  by_cases hi : (2, n) ∈ ks
  · rw [if_pos hi, if_pos (hm.2 hi)]; exact h
  · rw [if_neg hi, if_neg (fun e => hi (hm.1 e))]
    refine ⟨?_, ?_, fun p hp => ?_⟩
    · rw [List.filter_append, List.map_append, h.two]; simp
    · rw [List.filter_append, List.map_append, h.three]; simp
    · rcases List.mem_append.1 hp with hp | hp
      · exact h.all p hp
      · simp at hp; subst hp; exact .inl rfl
theorem Agree.ins3 {ks : List (Int × Int)} {S T : List Int} (h : Agree ks S T) (n : Int) : Agree (insP ks (3, n)) S (insN T n) := by
  unfold insP insN
  have hm : n ∈ T ↔ (3, n) ∈ ks := by rw [← h.three]; exact mem_sel
  by_cases hi : (3, n) ∈ ks
  · rw [if_pos hi, if_pos (hm.2 hi)]; exact h
  · rw [if_neg hi, if_neg (fun e => hi (hm.1 e))]
    refine ⟨?_, ?_, fun p hp => ?_⟩
    · rw [List.filter_append, List.map_append, h.two]; simp
    · rw [List.filter_append, List.map_append, h.three]; simp
    · rcases List.mem_append.1 hp with hp | hp
      · exact h.all p hp
      · simp at hp; subst hp; exact .inr rfl
theorem Agree.piece {ks : List (Int × Int)} {S T : List Int} (h : Agree ks S T) {x : Int × M5} (hs : x.2.sz = szK x.1) (hx : x.1 = 1 ∨ x.1 = 2 ∨ x.1 = 3) : Agree ((placesOf x).foldl insP ks) (secF S x.2) (thiF T x.2) := by
  unfold placesOf secF thiF
  rw [hs]
  rcases hx with e | e | e <;> rw [e]
  · exact h
  · exact h.ins2 _
  · exact (h.ins2 _).ins3 _
theorem Agree.pieces {L : List (Int × M5)} (hL : ∀ x ∈ L, x.2.sz = szK x.1 ∧ (x.1 = 1 ∨ x.1 = 2 ∨ x.1 = 3)) : ∀ {ks : List (Int × Int)} {S T : List Int}, Agree ks S T → Agree (keysOf ks L) ((L.map (·.2)).foldl secF S) ((L.map (·.2)).foldl thiF T) := by
  induction L with
  | nil => intro ks S T h; exact h
  | cons x L ih =>
    intro ks S T h
    exact ih (fun z hz => hL z (by simp [hz])) (h.piece (hL x (by simp)).1 (hL x (by simp)).2)
theorem agree_all {l : List M5} (h : ∀ y ∈ l, elemB y = true ∧ (piecesL y).length ≤ 10000) : Agree (allKeys l) (secs l) (this l) := by
  have key : ∀ (l : List M5), (∀ y ∈ l, elemB y = true ∧ (piecesL y).length ≤ 10000) → ∀ {ks : List (Int × Int)} {S T : List Int}, Agree ks S T →
      Agree (l.foldl (fun ks y => keysOf ks (piecesL y)) ks) (l.foldl (fun S y => (piecesV y).foldl secF S) S) (l.foldl (fun S y => (piecesV y).foldl thiF S) T) := by
    intro l
    induction l with
    | nil => intro _ ks S T h; exact h
    | cons y l ih =>
      intro hl ks S T h
      have h1 := hl y (by simp)
      have e : piecesV y = (piecesL y).map (·.2) := by unfold piecesV; rw [if_pos ⟨good_one h1.1, h1.2⟩]
      refine ih (fun z hz => hl z (by simp [hz])) ?_
      show Agree (keysOf ks (piecesL y)) ((piecesV y).foldl secF S) ((piecesV y).foldl thiF T)
      rw [e]
      exact Agree.pieces (piecesL_facts y) h
  exact key l h Agree.nil
theorem need_agree (l : List M5) : refNeedV l = needV l := by
  unfold refNeedV needV
  by_cases h : needOk l
  · rw [if_pos ((ok_iff l).2 h), if_pos h]
    have := (agree_all (fun y hy => ⟨good_elem h.1 hy, h.2 y hy⟩)).length
    rw [this]
    simp; omega
  · rw [if_neg (fun e => h ((ok_iff l).1 e)), if_neg h]

theorem insP_len (ks : List (Int × Int)) (p : Int × Int) : (insP ks p).length ≤ ks.length + 1 := by unfold insP; split <;> simp
theorem insN_len (ks : List Int) (p : Int) : (insN ks p).length ≤ ks.length + 1 := by unfold insN; split <;> simp
theorem secF_len (S : List Int) (p : M5) : (secF S p).length ≤ S.length + 1 := by
  unfold secF; split
  · exact insN_len _ _
  · omega
theorem thiF_len (S : List Int) (p : M5) : (thiF S p).length ≤ S.length + 1 := by
  unfold thiF; split
  · exact insN_len _ _
  · omega
theorem piecesV_len (y : M5) : (piecesV y).length ≤ 10000 := by
  unfold piecesV; split
  · rename_i h; simpa using h.2
  · simp
theorem secs_snoc (l : List M5) (k : Nat) (h : k < l.length) : secs (l.take (k + 1)) = (piecesV l[k]).foldl secF (secs (l.take k)) := by
  unfold secs; rw [List.take_succ_eq_append_getElem h, List.foldl_append]; rfl
theorem this_snoc (l : List M5) (k : Nat) (h : k < l.length) : this (l.take (k + 1)) = (piecesV l[k]).foldl thiF (this (l.take k)) := by
  unfold this; rw [List.take_succ_eq_append_getElem h, List.foldl_append]; rfl
theorem take_fold {α β : Type} (f : β → α → β) (l : List α) (b : β) (k : Nat) (h : k < l.length) : (l.take (k + 1)).foldl f b = f ((l.take k).foldl f b) l[k] := by
  rw [List.take_succ_eq_append_getElem h, List.foldl_append]; rfl
end Go.Proofs.Ytkpkbljcflmdgaa
