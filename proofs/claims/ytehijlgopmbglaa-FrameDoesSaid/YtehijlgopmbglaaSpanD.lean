/- The walks of span.Pages and span.First with their closures, and of the reference's First. Conditions: words of 64 bits; slices below 2^40. -/
import Derived.Test.YtehijlgopmbglaaSpanC
import Derived.Test.YtehijlgopmbglaaTwo
import Derived.Test.YtehijlgopmbglaaShelf
namespace Go.Proofs.Ytehijlgopmbglaa
open Go.RowKit Go.Shelf

def pageBad (x : Two) : Bool := !goodB x.a x.b || bits BinOp.or IntKind.u64 x.a x.b % 4096 != 0



def idxV (p : Two → Bool) (l : List Two) : Int := Lib.idxBy (fun _ y => p y) l default


theorem predOf {P : Program} {g : Nat} {lb : Array Value} {p : Two → Bool} {w : World} (h : ∀ (W : World) (x : Two), Below w.heap.size w W → Calls P g (#[.agg #[.int .u64 x.a, .int .u64 x.b]] ++ lb) W fun e w' => e = .returned (.bool (p x)) ∧ Below W.heap.size W w') :
    PredBelow P g lb (fun x => .agg (Two.enc x).toArray) p w :=
  fun W x hb => (h W x hb).mono fun _ _ ⟨he, hb'⟩ => ⟨he, bthen hb hb'⟩




def ovl (l : List Two) (j : Nat) (x : Two) : Bool := overlapB x.a x.b l[j]!.a l[j]!.b
def firstFrom (l : List Two) : Nat → Nat → Int × Int × Bool
  | 0, _ => (0, 0, false)
  | k + 1, j => if 0 ≤ idxV (ovl l j) (l.take j) then (idxV (ovl l j) (l.take j), j, true) else firstFrom l k (j + 1)
/-- The first pair that overlaps. -/
def firstV (l : List Two) : Int × Int × Bool := firstFrom l l.length 0
theorem firstV_hit {l : List Two} {k : Nat} (hk : k < l.length) (h : firstV l = firstFrom l (l.length - k) k) (hi : 0 ≤ idxV (ovl l k) (l.take k)) : firstV l = (idxV (ovl l k) (l.take k), (k : Int), true) := by
  rw [h, show l.length - k = (l.length - k - 1) + 1 by omega]
  simp only [firstFrom]
  rw [if_pos hi]
theorem firstV_miss {l : List Two} {k : Nat} (hk : k < l.length) (h : firstV l = firstFrom l (l.length - k) k) (hi : idxV (ovl l k) (l.take k) < 0) : firstV l = firstFrom l (l.length - (k + 1)) (k + 1) := by
  rw [h, show l.length - k = (l.length - (k + 1)) + 1 by omega]
  simp only [firstFrom]
  rw [if_neg (by omega)]

end Go.Proofs.Ytehijlgopmbglaa
