/- Plain: merging of sorted ends; a store into the last element of an own row. -/
import Derived.Sort.Row
import Derived.Test.YtiblhlaemmdphaaGreatTableBuildsP13
namespace Go.Proofs.YtiblhlaemmdphaaGreat
open Go Go.RowKit
def mergeStep (out : List Two) (s : Two) : List Two :=
 match out.getLast? with
 | some t => if t.b = 18446744073709551615 ∨ s.a ≤ t.b + 1 then out.dropLast ++ [tw t.a (max t.b s.b)] else out ++ [s]
 | none => [s]
theorem mergeStep_nil (s : Two) : mergeStep [] s = [s] := rfl
theorem mergeStep_join (ys : List Two) (t s : Two) (h : t.b = 18446744073709551615 ∨ s.a ≤ t.b + 1) : mergeStep (ys ++ [t]) s = ys ++ [tw t.a (max t.b s.b)] := by
 unfold mergeStep; simp [h]
theorem mergeStep_new (ys : List Two) (t s : Two) (h : ¬ (t.b = 18446744073709551615 ∨ s.a ≤ t.b + 1)) : mergeStep (ys ++ [t]) s = (ys ++ [t]) ++ [s] := by
 unfold mergeStep; simp [h]
theorem mergeStep_len (out : List Two) (s : Two) : (mergeStep out s).length ≤ out.length + 1 := by
 rcases List.eq_nil_or_concat out with rfl | ⟨ys, t, rfl⟩
 ·simp [mergeStep_nil]
 ·rw [List.concat_eq_append]
  by_cases h : t.b = 18446744073709551615 ∨ s.a ≤ t.b + 1
  ·rw [mergeStep_join _ _ _ h]; simp
  ·rw [mergeStep_new _ _ _ h]; simp
theorem mergeFold_len (l : List Two) : ∀ out : List Two, (l.foldl mergeStep out).length ≤ out.length + l.length := by
 induction l with
 | nil => intro out; simp
 | cons x l ih => intro out; have := ih (mergeStep out x); have := mergeStep_len out x; simp only [List.foldl_cons, List.length_cons]; omega
theorem OwnTwo.last {E : TypeId} {w : World} {base : Nat} {v : Value} {ys : List Two} {t : Two} (h : OwnTwo E w base v (ys ++ [t])) :
  ∃ g cap, v = .slice (some ⟨g, 0, none⟩) (ys.length + 1) cap ∧ ys.length + 1 ≤ cap ∧ g < w.heap.size ∧ base ≤ g ∧ w.cell? ⟨g, ys.length * 2, none⟩ = some (.int .u64 t.a) ∧ w.cell? ⟨g, ys.length * 2 + 1, none⟩ = some (.int .u64 t.b) ∧ w.frozen? ⟨g, ys.length * 2 + 1, none⟩ = false := by
 obtain ⟨hlen, ⟨rfl, h0⟩ | ⟨g, cap, cur, rfl, hb, hg, hn, hm, hs, hx⟩⟩ := h
 ·simp at h0
 ·have hN : (ys ++ [t]).length = ys.length + 1 := by simp
  have key : ∀ j, j < (ys ++ [t]).length * 2 → w.cell? ⟨g, j, none⟩ = (encs (ys ++ [t]))[j]? := by
   intro j hj
   rw [← hx, List.getElem?_take, if_pos hj]
   simp only [World.cell?, hg]
   simp
  have h1 := encs_get (ys ++ [t]) ys.length (by omega)
  rw [hN] at key
  refine ⟨g, cap, by rw [hN], by omega, (Array.getElem?_eq_some_iff.1 hg).1, hb, ?_, ?_, by simp [World.frozen?, hg]⟩
  ·rw [key _ (by omega), h1.1]; simp
  ·rw [key _ (by omega), h1.2]; simp
theorem OwnTwo.setLast {E : TypeId} {w : World} {base g cap n : Nat} {ys : List Two} {t : Two} (h : OwnTwo E w base (.slice (some ⟨g, 0, none⟩) n cap) (ys ++ [t])) (u : Two) (hu : u.a = t.a) :
  OwnTwo E (w.setCell ⟨g, ys.length * 2 + 1, none⟩ (.int .u64 u.b)) base (.slice (some ⟨g, 0, none⟩) n cap) (ys ++ [u]) := by
 obtain ⟨hlen, ⟨hv, _⟩ | ⟨g', cap', cur, hv, hb, hg, hn, hm, hs, hx⟩⟩ := h
 ·cases hv
 ·cases hv
  have hgl := (Array.getElem?_eq_some_iff.1 hg).1
  have hN : (ys ++ [t]).length = ys.length + 1 := by simp
  refine ⟨by rw [encs_len], .inr ⟨g, cap, cur.setIfInBounds (ys.length * 2 + 1) (.int .u64 u.b), by simp, hb, ?_, by simpa using hn, hm, by simpa using hs, ?_⟩⟩
  ·rw [Go.Sort.setCell_eq]
   simp [Go.Sort.mapBlock, Array.getElem?_modify, hg, Go.Sort.onCells]
  ·rw [Array.toList_setIfInBounds]
   have e1 : (ys ++ [u]).length * 2 = (ys ++ [t]).length * 2 := by simp
   rw [e1, List.take_set, hx, encs_snoc, encs_snoc, List.set_append, if_neg (by rw [encs_len]; omega), encs_len, show ys.length * 2 + 1 - ys.length * 2 = 1 by omega, hu]
   rfl
end Go.Proofs.YtiblhlaemmdphaaGreat
