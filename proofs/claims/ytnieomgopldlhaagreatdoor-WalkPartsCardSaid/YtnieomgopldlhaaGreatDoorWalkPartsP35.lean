/- The walks of the reference's Has and At: which part has an address. -/
import Derived.BigRegion
import Derived.Test.YtnieomgopldlhaaGreatDoorWalkPartsP11
import Derived.Test.YtnieomgopldlhaaGreatDoorWalkPartsP19
namespace Go.Proofs.YtnieomgopldlhaaGreatDoor
open Go Go.RowKit Go.BigFrame

/-- Whether an address is in a span. -/
def holdsB (a b at' : Int) : Bool := goodB a b && (decide (a ≤ at') && decide (at' - a < b))
def M5.has (x : M5) (at' : Int) : Bool := holdsB x.ipa x.sz at'
/-- The first part with an address. -/
def atM (l : List M5) (at' : Int) : Option M5 := l.find? (fun x => x.has at')
end Go.Proofs.YtnieomgopldlhaaGreatDoor
