/- The walk of the reference's Cut. Conditions: words of 64 bits; the pieces stay fewer than 2^38. -/
import Derived.Test.YtdeldhoeelijeaaSpanH
import Derived.Test.YtdeldhoeelijeaaQuietT
namespace Go.Proofs.Ytdeldhoeelijeaa
open Go.RowKit

def piecesV (x y : Two) : List Two :=
  if overlapB x.a x.b y.a y.b = false then [y]
  else (if y.a < x.a then [tw y.a (x.a - y.a)] else []) ++ (if lastV x.a x.b < lastV y.a y.b then [tw (lastV x.a x.b + 1) (lastV y.a y.b - lastV x.a x.b)] else [])
def cut1 (out : List Two) (x : Two) : List Two := if goodB x.a x.b = true then out.flatMap (piecesV x) else out
def cutAll (s : Two) (l : List Two) : List Two := l.foldl cut1 [s]
def refCutV (s : Two) (l : List Two) : List Two := if goodB s.a s.b = true then cutAll s l else []
theorem cutAll_snoc (s : Two) (l : List Two) (x : Two) : cutAll s (l ++ [x]) = cut1 (cutAll s l) x := by simp [cutAll, List.foldl_append]
theorem pieces_len (x : Two) (l : List Two) : (l.flatMap (piecesV x)).length ≤ 2 * l.length := by
  induction l with
  | nil => simp
  | cons y l ih =>
    have : (piecesV x y).length ≤ 2 := by
      unfold piecesV; split
      · simp
      · rw [List.length_append]; split <;> split <;> simp
    simp only [List.flatMap_cons, List.length_append, List.length_cons]; omega

end Go.Proofs.Ytdeldhoeelijeaa
