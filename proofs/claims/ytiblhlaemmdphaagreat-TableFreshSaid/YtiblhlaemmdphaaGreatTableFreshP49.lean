/- The walk of the statement WalkBuilt. -/
import Derived.BigRegion
import Derived.Test.YtiblhlaemmdphaaGreatTableFreshP7
import Derived.Test.YtiblhlaemmdphaaGreatTableFreshP24
import Derived.Test.YtiblhlaemmdphaaGreatTableFreshP35
import Derived.Test.YtiblhlaemmdphaaGreatTableFreshP47
import Derived.Test.YtiblhlaemmdphaaGreatTableFreshP48
namespace Go.Proofs.YtiblhlaemmdphaaGreat
open Go Go.RowKit Go.BigFrame Go.Maps
theorem newRam (W : World) : Calls Tryz.prog 9 #[.agg #[.int .u64 1073741824, .int .u64 16777216], .slice none 0 0] W fun e w' =>
   ∃ mb pb, e = .returned (.tuple #[.pointer (some ⟨mb, 0, none⟩), .int .i64 0]) ∧ MemP w' mb pb 1073741824 16777216 [] ∧ Below W.heap.size W w' ∧ W.heap.size ≤ mb ∧ W.heap.size ≤ pb := newMem_any ramT W ram_ok.1 ram_ok.2
theorem newLd (n : Int) (W : World) : Calls Tryz.prog 11 #[.agg #[.int .u64 1073741824, .int .u64 (ramV n)]] W fun e w' => ∃ B, e = .returned (.pointer (some ⟨B, 0, none⟩)) ∧ W.heap.size ≤ B ∧ PoolAt w' B (.slice none 0 0) (newV (ldT n)) ∧ Below W.heap.size W w' := new_any (ldT n) W
end Go.Proofs.YtiblhlaemmdphaaGreat
