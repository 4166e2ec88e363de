/- The walks of the reference's Has and At: which part has an address. -/
import Derived.BigRegion
import Derived.Test.YtffdfeekpfmbeaaGreatValidChecksP9
import Derived.Test.YtffdfeekpfmbeaaGreatValidChecksP12
namespace Go.Proofs.YtffdfeekpfmbeaaGreat
open Go Go.RowKit Go.BigFrame

/-- Whether an address is in a span. -/
def holdsB (a b at' : Int) : Bool := goodB a b && (decide (a ≤ at') && decide (at' - a < b))
def M5.has (x : M5) (at' : Int) : Bool := holdsB x.ipa x.sz at'
end Go.Proofs.YtffdfeekpfmbeaaGreat
