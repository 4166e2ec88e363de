/- The walk of the statement RoomAt. -/
import Derived.Test.YtokbplajcdkcpaaRoomJ
import Derived.Test.YtokbplajcdkcpaaMapC
namespace Go.Proofs.Ytokbplajcdkcpaa
open Go Go.RowKit Go.Shelf Go.BigFrame

set_option maxRecDepth 100000 in
set_option maxHeartbeats 4000000 in
theorem roomAt_walk (v : Value) (l : List M5) (at' : Int) (w : World) (hv : RowM w v l) (ht : W64 at') :
    Calls Try.prog 6 #[v, .int .u64 at'] w fun e w' => e = .returned (.bool true) ∧ Below w.heap.size w w' := by
  obtain ⟨a1, cp1, rfl, _⟩ := id hv
  by_cases h60 : l.length ≤ 60
  · have h1 : ¬ (60 : Int) < l.length := by omega
    have hl : l.length ≤ 1099511627776 := by omega
    replace h60 := Lib.hid h60
    go_enter Try.func6, Try.ntmps6
    go_wp2_with fail
    refine (awake16_any _).mono ?_; rintro e w1 ⟨rfl, hb1⟩
    have hat := at16_any _ l at' w1 (hv.below hb1) ht hl
    have hr1 := fun W h => refAt_any (.slice a1 l.length cp1) l at' W h ht hl
    generalize ((atM l at').getD default) = R1 at *
    generalize atPA (atM l at') at' = R2 at *
    generalize (atM l at').isSome = R3 at *
    unfold M5.val at hat hr1
    go_wp2_with fail
    refine hat.mono ?_; rintro e w2 ⟨rfl, hb2⟩
    have hB2 := bthen hb1 hb2
    have hx2 := bone w2 (.cells #[.int .u64 R1.ipa, .int .u64 R1.pa, .int .u64 R1.sz, .int .i64 R1.perm, .int .i64 R1.kind] 39)
    have hr := hr1 _ (hv.below (bthen hB2 hx2))
    obtain ⟨n0, n1, n2, n3, n4⟩ := five_new w2 (.int .u64 R1.ipa) (.int .u64 R1.pa) (.int .u64 R1.sz) (.int .i64 R1.perm) (.int .i64 R1.kind) 39
    have hl2 : w2.heap.size < (w2.alloc (.cells #[.int .u64 R1.ipa, .int .u64 R1.pa, .int .u64 R1.sz, .int .i64 R1.perm, .int .i64 R1.kind] 39)).heap.size := by simp
    go_wp2_with fail
    refine hr.mono ?_; rintro e w3 ⟨rfl, hb3⟩
    have hB3 := bthen (bthen hB2 hx2) hb3
    replace n0 := keepA (x := .cells #[.int .u64 R1.ipa, .int .u64 R1.pa, .int .u64 R1.sz, .int .i64 R1.perm, .int .i64 R1.kind] 39) (cell_lt hb3 n0 hl2)
    replace n1 := keepA (x := .cells #[.int .u64 R1.ipa, .int .u64 R1.pa, .int .u64 R1.sz, .int .i64 R1.perm, .int .i64 R1.kind] 39) (cell_lt hb3 n1 hl2)
    replace n2 := keepA (x := .cells #[.int .u64 R1.ipa, .int .u64 R1.pa, .int .u64 R1.sz, .int .i64 R1.perm, .int .i64 R1.kind] 39) (cell_lt hb3 n2 hl2)
    replace n3 := keepA (x := .cells #[.int .u64 R1.ipa, .int .u64 R1.pa, .int .u64 R1.sz, .int .i64 R1.perm, .int .i64 R1.kind] 39) (cell_lt hb3 n3 hl2)
    replace n4 := keepA (x := .cells #[.int .u64 R1.ipa, .int .u64 R1.pa, .int .u64 R1.sz, .int .i64 R1.perm, .int .i64 R1.kind] 39) (cell_lt hb3 n4 hl2)
    have hx3 := bone w3 (.cells #[.int .u64 R1.ipa, .int .u64 R1.pa, .int .u64 R1.sz, .int .i64 R1.perm, .int .i64 R1.kind] 39)
    have hB4 := bthen hB3 hx3
    have hgd := goodM_any _ l _ (hv.below hB4) hl
    clear hr hr1 hat hb1 hb2 hb3 hx2 hl2
    go_wp2_with fail
    refine hgd.mono ?_; rintro e w4 ⟨rfl, hb4⟩
    have hB5 := bthen hB4 hb4
    go_wp2_with fail
    refine (refGoodM_any _ l w4 (hv.below hB5) hl).mono ?_; rintro e w5 ⟨rfl, hb5⟩
    go_wp2_with fail
    go_ret
    exact ⟨rfl, bthen hB5 hb5⟩
  · have h1 : (60 : Int) < l.length := by omega
    go_enter Try.func6, Try.ntmps6
    go_wp2_with fail
    refine (awake16_any _).mono ?_; rintro e w1 ⟨rfl, hb1⟩
    go_wp2_with fail
    go_ret
    exact ⟨rfl, hb1⟩
end Go.Proofs.Ytokbplajcdkcpaa
