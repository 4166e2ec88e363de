/- The walk of the reference's Good: whether parts may be mapped. -/
import Derived.Test.YtffdfeekpfmbeaaVGP11
namespace Go.Proofs.Ytffdfeekpfmbeaa
open Go Go.RowKit Go.BigFrame

def elemB (x : M5) : Bool := pageM x.ipa x.sz && (pageM x.pa x.sz && decide (1 ≤ x.perm ∧ x.perm ≤ 7 ∧ 0 ≤ x.kind ∧ x.kind ≤ 1))
def endM (x : M5) : Int := (x.ipa + x.sz) % 18446744073709551616
end Go.Proofs.Ytffdfeekpfmbeaa
