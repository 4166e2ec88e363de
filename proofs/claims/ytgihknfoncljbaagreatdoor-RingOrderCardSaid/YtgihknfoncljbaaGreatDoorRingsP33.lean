/- A function's body from its k-th piece on. -/
import Derived.Tactics2
namespace Go.Proofs.YtgihknfoncljbaaGreatDoor
open Go
def tailC : Nat → Code → Code
 | 0, c => c
 | n + 1, .seq _ b => tailC n b
 | _ + 1, c => c
end Go.Proofs.YtgihknfoncljbaaGreatDoor
