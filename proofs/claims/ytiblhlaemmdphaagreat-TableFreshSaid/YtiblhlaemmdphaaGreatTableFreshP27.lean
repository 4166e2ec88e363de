/- Plain arithmetic of descriptors: the bits of a word, told by division and remainder. No condition. -/
import Derived.Laws.Bits64
import Derived.Laws.Bits64b
namespace Go.Proofs.YtiblhlaemmdphaaGreat
open Go
def szV (a : Int) : Int := if a = 1 then 1073741824 else if a = 2 then 2097152 else if a = 3 then 4096 else 0
end Go.Proofs.YtiblhlaemmdphaaGreat
