/- The reference's descriptors, as its tables of the shared page need them. -/
import Derived.Test.YtiblhlaemmdphaaGreatTableBuildsP12
import Derived.Test.YtiblhlaemmdphaaGreatTableBuildsP15
import Derived.Test.YtiblhlaemmdphaaGreatTableBuildsP16
namespace Go.Proofs.YtiblhlaemmdphaaGreat
open Go Go.RowKit Go.BigFrame Go.Maps
set_option maxRecDepth 20000 in
set_option maxHeartbeats 2000000 in
theorem refPutTab (k t : Int) (w : World) (hk : k = 1 ∨ k = 2) (h0 : 0 ≤ t) (h1 : t < 1099511627776) (h2 : t % 4096 = 0) :
  Calls Tryz.prog 71 #[.int .i64 k, .agg #[.int .i64 1, .int .u64 t, .int .i64 0, .int .i64 0, .bool false]] w fun e w' => e = .returned (.tuple #[.int .u64 (t + 3), .int .i64 0]) ∧ Below w.heap.size w w' := by
 have ht : (t % 4096 != 0) = false := by simpa using h2
 have hw : IntKind.u64.wrap (t + 3) = t + 3 := by rw [IntKind.wrap_u64]; omega
 have hn : ¬ (1099511627776 ≤ t) := by omega
 rcases hk with rfl | rfl
 all_goals
  go_enter Tryz.func71, Tryz.ntmps71
  go_wp2_with fail
  go_ret2
  exact ⟨rfl, bone _ _⟩
end Go.Proofs.YtiblhlaemmdphaaGreat
