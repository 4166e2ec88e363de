/- A region that draws its order, by an invariant over what has been taken so far: each operation is walked once. -/
import Derived.Test.YtffdfeekpfmbeaaValidSmallP14
namespace Go.Proofs.Ytffdfeekpfmbeaa
open Go Go.RowKit

section
variable {P : Program}

def upd (f : Nat → Bool) (i : Nat) : Nat → Bool := fun j => decide (j = i) || f j
@[simp] theorem upd_same (f : Nat → Bool) (i : Nat) : upd f i i = true := by simp [upd]
end
end Go.Proofs.Ytffdfeekpfmbeaa
