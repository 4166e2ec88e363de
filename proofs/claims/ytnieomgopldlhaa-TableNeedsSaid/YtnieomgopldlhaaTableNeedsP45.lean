/- Plain: the pool of the statements' loader, and what is built with it. -/
import Derived.Test.YtnieomgopldlhaaTableNeedsP37
import Derived.Test.YtnieomgopldlhaaTableNeedsP44
namespace Go.Proofs.Ytnieomgopldlhaa
open Go Go.RowKit

/-- The statements' loader. -/
def ldT (n : Int) : Two := ⟨1073741824, ramV n, by unfold W64; omega, by unfold W64 ramV; omega⟩
theorem ldT_pool (n : Int) : newV (ldT n) = ⟨1073741824, n % 1024 + 1, [], 0⟩ := by
  have h0 : 0 ≤ n % 1024 := by omega
  have h1 : n % 1024 < 1024 := by omega
  have hg : goodB 1073741824 ((n % 1024 + 1) * 4096) = true := goodB_iff.2 ⟨by omega, by omega⟩
  have hu : upV 1073741824 4096 = (1073741824, true) := by kernel_rfl
  have hl : lastV 1073741824 ((n % 1024 + 1) * 4096) = 1073741824 + ((n % 1024 + 1) * 4096 - 1) := lastV_yes hg
  have e1 : (ldT n).a = 1073741824 := rfl
  have e2 : (ldT n).b = (n % 1024 + 1) * 4096 := rfl
  unfold newV
  rw [e1, e2, hu, hl, if_pos ⟨hg, rfl, by omega⟩]
  congr 1
  omega
def buildN (l : List M5) (n : Int) : BS × Int × Int := buildS 1073741824 16777216 l (newV (ldT n)) []
theorem pool_facts (n : Int) : PlOk (newV (ldT n)) ∧ PlInv (newV (ldT n)) ∧ ((1073741824 : Int) ≤ (newV (ldT n)).from' ∧ (newV (ldT n)).from' + (newV (ldT n)).count * 4096 ≤ 1073741824 + 16777216 ∧ (0 : Int) ≤ 1073741824 ∧ (1073741824 : Int) + 16777216 ≤ 1099511627776) := by
  refine ⟨(newV_ok _).1, newV_inv _, ?_⟩
  rw [ldT_pool]
  dsimp only
  omega
theorem buildN_bad {l : List M5} {n : Int} (h : (needV l).2 ≠ 0) : buildN l n = (⟨newV (ldT n), [], []⟩, 0, 190) := buildS_bad h
theorem buildN_k {l : List M5} (n : Int) (hn : (needV l).2 = 0) :
    (n % 1024 + 1 < (needV l).1 ∧ ∃ st', buildN l n = (st', 0, 110)) ∨
    ((needV l).1 ≤ n % 1024 + 1 ∧ ∃ st' root, buildN l n = (st', root, 0) ∧ Bd 1073741824 16777216 2 root (allP l) (allP l) st' ∧ st'.tb.map (·.1) = allKeys l ∧ st'.pl.out = (needV l).1 ∧ 1073741824 ≤ root ∧ root + 8192 ≤ 1073741824 + ramV n ∧ root % 8192 = 0) := by
  obtain ⟨p1, p2, p3⟩ := pool_facts n
  have hneed := (needV_ok hn).2
  have hk := build_k (s := 1073741824) (z := 16777216) (pg := []) hn p1 p2 p3 ⟨List.nodup_nil, fun _ h => (by cases h), fun _ h => (by cases h), fun _ h => (by cases h)⟩ (fun _ h => (by cases h))
  have e := ldT_pool n
  rcases hk with ⟨h1, h2⟩ | ⟨h1, h2⟩ | ⟨st', root, h1, h2, h3, h4, h5, h6⟩
  · refine .inl ⟨?_, h2⟩
    apply Classical.byContradiction
    intro hc
    refine h1 1073741824 (by decide) fun x a b => ?_
    rw [e]
    refine ⟨by dsimp only; omega, ?_⟩
    rintro ⟨y, hy, _⟩
    cases hy
  · rw [e] at h1
    dsimp only at h1
    exact .inl ⟨by omega, h2⟩
  · have ho := h2.cnt
    rw [h4, h5, e] at ho
    rw [e] at h2 h5 h6
    dsimp only at h2 h5 h6 ho
    have r0 := (h6 root (Int.le_refl _) (by omega)).1
    have r1 := (h6 (root + 8191) (by omega) (by omega)).1
    exact .inr ⟨by omega, st', root, h1, h2, h3, by omega, by omega, by unfold ramV; omega, h2.root0⟩
theorem allP_bd {l : List M5} (h : (needV l).2 = 0) : (allP l).length ≤ 10000 * l.length := by
  have hk : ∀ y ∈ l, (piecesL y).length ≤ 10000 := by
    unfold needV at h
    split at h
    · rename_i hc; exact hc.2
    · cases h
  unfold allP
  induction l with
  | nil => simp
  | cons y l ih =>
    have hy := hk y (by simp)
    have ih' : (l.flatMap piecesL).length ≤ 10000 * l.length := by
      clear ih h
      induction l with
      | nil => simp
      | cons z l ih2 =>
        have hz := hk z (by simp)
        have := ih2 fun q hq => hk q (by rcases List.mem_cons.1 hq with rfl | hq <;> simp [*])
        rw [List.flatMap_cons, List.length_append, List.length_cons]
        omega
    rw [List.flatMap_cons, List.length_append, List.length_cons]
    omega
end Go.Proofs.Ytnieomgopldlhaa
