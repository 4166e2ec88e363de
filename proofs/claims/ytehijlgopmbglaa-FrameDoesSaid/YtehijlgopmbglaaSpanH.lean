/- The walk of the reference's Merge. Conditions: words of 64 bits; slices below 2^38. -/
import Derived.Test.YtehijlgopmbglaaSpanG
import Derived.Test.YtehijlgopmbglaaSpanF
namespace Go.Proofs.Ytehijlgopmbglaa
open Go.RowKit

def endsV (x : Two) : Two := ⟨x.a, lastV x.a x.b, x.ha, lastV_w x.ha x.hb⟩
def refStep (acc : List Two) (x : Two) : List Two := if goodB x.a x.b = true then insertV acc (endsV x) else acc
def refAllV (l : List Two) : List Two := l.foldl refStep []
theorem refAllV_snoc (l : List Two) (x : Two) : refAllV (l ++ [x]) = refStep (refAllV l) x := by simp [refAllV, List.foldl_append]
theorem refAllV_len (l : List Two) : (refAllV l).length ≤ l.length := by
  suffices h : ∀ (l acc : List Two), (l.foldl refStep acc).length ≤ acc.length + l.length by
    have := h l []
    simpa [refAllV] using this
  intro l
  induction l with
  | nil => intro acc; simp
  | cons x l ih =>
    intro acc
    have h1 := ih (refStep acc x)
    have h2 : (refStep acc x).length ≤ acc.length + 1 := by
      unfold refStep; split
      · exact insertV_len _ _
      · omega
    simp only [List.foldl_cons, List.length_cons]; omega
def conv2 (x : Two) : List Two := if fullB x = true then [halfA, halfB] else [convV x]
def refMergeV (l : List Two) : List Two := (refAllV l).flatMap conv2
theorem conv2_len (l : List Two) : (l.flatMap conv2).length ≤ 2 * l.length := by
  induction l with
  | nil => simp
  | cons x l ih =>
    have : (conv2 x).length ≤ 2 := by unfold conv2; split <;> simp
    simp only [List.flatMap_cons, List.length_append, List.length_cons]; omega

end Go.Proofs.Ytehijlgopmbglaa
