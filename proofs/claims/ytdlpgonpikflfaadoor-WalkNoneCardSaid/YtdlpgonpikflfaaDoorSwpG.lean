/- Nothing is put: the callback of Tables. -/
import Derived.Test.YtdlpgonpikflfaaDoorSwpE
namespace Go.Proofs.YtdlpgonpikflfaaDoor
open Go Go.RowKit Go.Shelf Go.BigFrame

set_option maxRecDepth 20000 in
set_option maxHeartbeats 1000000 in
theorem none_puts (n0 : Nat) : Puts (noneZ n0) 31 #[] := by
  refine ⟨enters_of Tryd.func31 (by kernel_rfl) rfl, fun x s W _ _ _ => ?_⟩
  show Calls Tryd.prog 31 #[.agg #[.int .u64 x.ipa, .int .u64 x.pa, .int .u64 x.sz, .int .i64 x.perm, .int .i64 x.kind]] W _
  go_enter Tryd.func31, Tryd.ntmps31
  go_wp2_with fail
  go_end0
  have hb := bone W (.cells #[.int .u64 x.ipa, .int .u64 x.pa, .int .u64 x.sz, .int .i64 x.perm, .int .i64 x.kind] 42)
  exact ⟨⟨_, rfl⟩, trivial, hb.os, hb.tape, hb.output, hb.size, fun k hk _ => ⟨hb.block k hk, fun h => h⟩⟩
end Go.Proofs.YtdlpgonpikflfaaDoor
