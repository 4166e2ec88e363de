/- The walks of the reference's Same and of the law's in. Conditions: words of 64 bits; slices below 2^40. -/
import Derived.Test.YtehijlgopmbglaaSpanC
import Derived.Test.YtehijlgopmbglaaTwo
namespace Go.Proofs.Ytehijlgopmbglaa
open Go.RowKit

def sameB (x y : Two) : Bool := decide (x.a = y.a) && decide (x.b = y.b)
theorem sameB_iff {x y : Two} : sameB x y = true ↔ x = y := by
  unfold sameB
  simp
  exact ⟨fun ⟨h, k⟩ => Two.ext h k, fun h => by subst h; exact ⟨rfl, rfl⟩⟩
/-- Whether lists are alike. -/
def sameV (l m : List Two) : Bool := decide (l.length = m.length) && (List.range l.length).all fun i => sameB l[i]! m[i]!
theorem sameV_refl (l : List Two) : sameV l l = true := by
  unfold sameV
  simp [sameB]
theorem sameV_len {l m : List Two} (h : l.length ≠ m.length) : sameV l m = false := by unfold sameV; rw [decide_eq_false h]; rfl
theorem sameV_miss {l m : List Two} {k : Nat} (hk : k < l.length) (h : sameB l[k]! m[k]! = false) : sameV l m = false := by
  unfold sameV
  rw [Bool.and_eq_false_iff]
  right
  rw [List.all_eq_false]
  exact ⟨k, List.mem_range.2 hk, by rw [h]; simp⟩
theorem sameV_hit {l m : List Two} (h : l.length = m.length) (hk : ∀ k, k < l.length → sameB l[k]! m[k]! = true) : sameV l m = true := by
  unfold sameV
  rw [decide_eq_true h, Bool.true_and, List.all_eq_true]
  exact fun k hk' => hk k (List.mem_range.1 hk')


def inV (l : List Two) (at' : Int) : Bool := l.any fun x => hasB x.a x.b at'
end Go.Proofs.Ytehijlgopmbglaa
