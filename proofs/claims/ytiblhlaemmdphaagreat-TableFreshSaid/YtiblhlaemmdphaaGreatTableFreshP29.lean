/- A walk through tables: what it comes to; the program's walk. -/
import Derived.Test.YtiblhlaemmdphaaGreatTableFreshP8
import Derived.Test.YtiblhlaemmdphaaGreatTableFreshP16
import Derived.Test.YtiblhlaemmdphaaGreatTableFreshP28
namespace Go.Proofs.YtiblhlaemmdphaaGreat
open Go Go.RowKit Go.BigFrame Go.Maps
def tabIdx (k ipa : Int) : Int := if 1 < k then ipa / szV k % 512 else ipa / szV k
end Go.Proofs.YtiblhlaemmdphaaGreat
