/- The reference's put: a part is put among parts. -/
import Derived.ArgAppend
import Derived.Deep.AppendLies
import Derived.Laws.AppendOwnNone
import Derived.Test.YtffdfeekpfmbeaaVGP29
namespace Go.Proofs.Ytffdfeekpfmbeaa
open Go Go.RowKit Go.Shelf Go.BigFrame

/-- How many stand ahead. -/
def cutK (a : Int) : List M5 → Nat
  | [] => 0
  | y :: l => if y.ipa ≤ a then cutK a l + 1 else 0
/-- A part among parts. -/
def putM16 (l : List M5) (x : M5) : List M5 := l.take (cutK x.ipa l) ++ x :: l.drop (cutK x.ipa l)
end Go.Proofs.Ytffdfeekpfmbeaa
/- Parts sorted by ranks, and parts put one by one (plain law); what is refused. -/
namespace Go.Proofs.Ytffdfeekpfmbeaa
open Go Go.RowKit Go.Shelf Go.Sort

section
variable (ps : List M5)
def insR (r : Rk) : List Rk → List Rk
  | [] => [r]
  | y :: l => if (rkM ps y).ipa ≤ (rkM ps r).ipa then y :: insR r l else r :: y :: l
theorem insR_perm (r : Rk) : ∀ l, (insR ps r l).Perm (r :: l)
  | [] => List.Perm.refl _
  | y :: l => by
    unfold insR
    split
    · exact ((insR_perm r l).cons y).trans (List.Perm.swap r y l)
    · exact List.Perm.refl _
theorem insR_sorted (r : Rk) : ∀ l : List Rk, l.Pairwise (fun x y => ltOf (cmpR ps) y x = false) → (∀ y ∈ l, y.i < r.i) → (insR ps r l).Pairwise (fun x y => ltOf (cmpR ps) y x = false)
  | [], _, _ => by simp [insR]
  | y :: l, h, hi => by
    obtain ⟨h1, h2⟩ := List.pairwise_cons.1 h
    have hy := hi y (by simp)
    unfold insR
    split
    · rename_i hc
      refine List.pairwise_cons.2 ⟨fun z hz => ?_, insR_sorted r l h2 (fun z hz => hi z (by simp [hz]))⟩
      rcases List.mem_cons.1 ((insR_perm ps r l).mem_iff.1 hz) with rfl | hz
      · rw [Bool.eq_false_iff, Ne, ltR_iff]; omega
      · exact h1 z hz
    · rename_i hc
      refine List.pairwise_cons.2 ⟨fun z hz => ?_, h⟩
      rw [Bool.eq_false_iff, Ne, ltR_iff]
      rcases List.mem_cons.1 hz with rfl | hz
      · omega
      · have := h1 z hz
        rw [Bool.eq_false_iff, Ne, ltR_iff] at this
        omega
theorem putM16_map (r : Rk) : ∀ l : List Rk, putM16 (l.map (rkM ps)) (rkM ps r) = (insR ps r l).map (rkM ps)
  | [] => by simp [putM16, cutK, insR]
  | y :: l => by
    have ih := putM16_map r l
    unfold putM16 at ih ⊢
    unfold insR
    rw [List.map_cons]
    unfold cutK
    split
    · rw [List.take_succ_cons, List.drop_succ_cons, List.cons_append, ih, List.map_cons]
    · simp
theorem insAll_perm (n : Nat) : ((ranks n).foldl (fun l r => insR ps r l) []).Perm (ranks n) := by
  induction n with
  | zero => exact List.Perm.refl _
  | succ n ih =>
    rw [ranks_succ, List.foldl_append]
    refine (insR_perm ps _ _).trans ?_
    exact (List.Perm.cons _ ih).trans (List.perm_append_singleton _ _).symm
theorem ranks_mem {n : Nat} (hn : n ≤ 1099511627776) {r : Rk} (h : r ∈ ranks n) : r.i < n := by
  obtain ⟨i, hi, rfl⟩ := List.mem_map.1 h
  have : i < n := by simpa using hi
  rw [rk_i (by omega)]; exact this
theorem insAll_sorted (n : Nat) (hn : n ≤ 1099511627776) : ((ranks n).foldl (fun l r => insR ps r l) []).Pairwise (fun x y => ltOf (cmpR ps) y x = false) := by
  induction n with
  | zero => exact List.Pairwise.nil
  | succ n ih =>
    rw [ranks_succ, List.foldl_append]
    refine insR_sorted ps _ _ (ih (by omega)) fun y hy => ?_
    have := ranks_mem (by omega) ((insAll_perm ps n).mem_iff.1 hy)
    rw [rk_i (by omega)]; exact this
end
theorem insAll_eq (ps : List M5) (hn : ps.length ≤ 1099511627776) : (ranks ps.length).foldl (fun l r => insR ps r l) [] = sortR ps (ranks ps.length) :=
  sorted_eqR ps ((insAll_perm ps _).trans (sortR_perm ps _).symm) (insAll_sorted ps _ hn) (sortR_sorted ps _)
/-- Parts put one by one. -/
def putAll (ps : List M5) : List M5 := ps.foldl putM16 []
theorem putAll_rank (ps : List M5) : ∀ n, n ≤ ps.length → n ≤ 1099511627776 → (ps.take n).foldl putM16 [] = ((ranks n).foldl (fun l r => insR ps r l) []).map (rkM ps)
  | 0, _, _ => rfl
  | n + 1, h, hn => by
    rw [List.take_succ_eq_append_getElem (by omega), List.foldl_append, putAll_rank ps n (by omega) (by omega), ranks_succ, List.foldl_append]
    show putM16 _ _ = (insR ps (rk n) _).map _
    rw [← putM16_map]
    congr 1
    unfold rkM
    rw [rk_i (by omega), getElem!_pos ps n (by omega)]
theorem putAll_eq (ps : List M5) (hn : ps.length ≤ 1099511627776) : putAll ps = sortedM ps := by
  have := putAll_rank ps ps.length (Nat.le_refl _) hn
  rw [List.take_length] at this
  unfold putAll sortedM
  rw [this, insAll_eq ps hn]

theorem firstFrom_clear (l : List Two) : ∀ k j, (firstFrom l k j).2.2 = false → ∀ i, j ≤ i → i < j + k → (l.take i).any (ovl l i) = false
  | 0, j, _, i, h1, h2 => by omega
  | k + 1, j, h, i, h1, h2 => by
    unfold firstFrom at h
    by_cases hc : 0 ≤ idxV (ovl l j) (l.take j)
    · rw [if_pos hc] at h; cases h
    · rw [if_neg hc] at h
      by_cases e : i = j
      · subst e
        have := Lib.idxBy_nonneg_iff (fun _ y => ovl l i y) (l.take i) default
        rw [show Lib.idxBy (fun _ y => ovl l i y) (l.take i) default = idxV (ovl l i) (l.take i) from rfl, decide_eq_false hc] at this
        exact this.symm
      · exact firstFrom_clear l k (j + 1) h i (by omega) (by omega)
theorem firstV_clear {l : List Two} : (firstV l).2.2 = false ↔ ∀ i j, i < j → j < l.length → overlapB l[j]!.a l[j]!.b l[i]!.a l[i]!.b = false := by
  constructor
  · intro h i j hij hj
    have := firstFrom_clear l l.length 0 h j (Nat.zero_le _) (by omega)
    rw [List.any_eq_false] at this
    have hm : l[i]! ∈ l.take j := by
      rw [getElem!_pos l i (by omega)]
      exact List.mem_take_iff_getElem.2 ⟨i, by omega, rfl⟩
    have := this _ hm
    unfold ovl at this
    rw [overlapB_comm]
    simpa using this
  · intro h
    have e : ∀ k j, j + k = l.length → firstFrom l k j = (0, 0, false) := by
      intro k
      induction k with
      | zero => intro j _; rfl
      | succ k ih =>
        intro j hj
        unfold firstFrom
        rw [if_neg, ih (j + 1) (by omega)]
        have hn : idxV (ovl l j) (l.take j) = -1 := Lib.idxBy_miss _ l j default fun i hi => by
          unfold ovl; rw [overlapB_comm]; exact h i j hi (by omega)
        rw [hn]; omega
    have := e l.length 0 (by omega)
    unfold firstV
    rw [this]
end Go.Proofs.Ytffdfeekpfmbeaa
