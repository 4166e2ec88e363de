/- A walk through tables: what it comes to; the program's walk. -/
import Derived.Test.YtiblhlaemmdphaaGreatTableBuildsP7
import Derived.Test.YtiblhlaemmdphaaGreatTableBuildsP16
import Derived.Test.YtiblhlaemmdphaaGreatTableBuildsP18
namespace Go.Proofs.YtiblhlaemmdphaaGreat
open Go Go.RowKit Go.BigFrame Go.Maps
def tabIdx (k ipa : Int) : Int := if 1 < k then ipa / szV k % 512 else ipa / szV k
end Go.Proofs.YtiblhlaemmdphaaGreat
