/- The reference's descriptors, as its tables of the shared page need them. -/
import Derived.Test.YtgihknfoncljbaaGreatDoorRingNoneP3
import Derived.Test.YtgihknfoncljbaaGreatDoorRingNoneP19
import Derived.Test.YtgihknfoncljbaaGreatDoorRingNoneP28
namespace Go.Proofs.YtgihknfoncljbaaGreatDoor
open Go Go.RowKit Go.BigFrame Go.Maps

set_option maxRecDepth 20000 in
set_option maxHeartbeats 2000000 in
theorem refPutTab (k t : Int) (w : World) (hk : k = 1 ∨ k = 2) (h0 : 0 ≤ t) (h1 : t < 1099511627776) (h2 : t % 4096 = 0) :
    Calls Tryz.prog 86 #[.int .i64 k, .agg #[.int .i64 1, .int .u64 t, .int .i64 0, .int .i64 0, .bool false]] w fun e w' => e = .returned (.tuple #[.int .u64 (t + 3), .int .i64 0]) ∧ Below w.heap.size w w' := by
  have ht : (t % 4096 != 0) = false := by simpa using h2
  have hw : IntKind.u64.wrap (t + 3) = t + 3 := by rw [IntKind.wrap_u64]; omega
  have hn : ¬ (1099511627776 ≤ t) := by omega
  rcases hk with rfl | rfl
  all_goals
    go_enter Tryz.func86, Tryz.ntmps86
    go_wp2_with fail
    go_ret2
    exact ⟨rfl, bone _ _⟩
set_option maxRecDepth 20000 in
set_option maxHeartbeats 4000000 in
theorem refPutLeaf (perm : Int) (w : World) (hp : perm = 1 ∨ perm = 3) :
    Calls Tryz.prog 86 #[.int .i64 3, .agg #[.int .i64 3, .int .u64 1074266112, .int .i64 perm, .int .i64 0, .bool true]] w fun e w' => (∃ x, W64 x ∧ e = .returned (.tuple #[.int .u64 x, .int .i64 0])) ∧ Below w.heap.size w w' := by
  have hsz : ∀ W, Calls Tryz.prog 81 #[.int .i64 3] W fun e w' => e = .returned (.int .u64 4096) ∧ Below W.heap.size W w' := fun W => refSize_b 3 W (by omega)
  obtain ⟨W1, hW1⟩ : ∃ W1, W1 = w.alloc (.cells #[.int .i64 3, .int .u64 1074266112, .int .i64 perm, .int .i64 0, .bool true] 184) := ⟨_, rfl⟩
  have hb1 : Below w.heap.size w W1 := by rw [hW1]; exact bone _ _
  have hc : W1.heap[w.heap.size]? = some (.cells #[.int .i64 3, .int .u64 1074266112, .int .i64 perm, .int .i64 0, .bool true] 184 (0, 0)) := by rw [hW1]; exact World.alloc_heap_new _ _
  have hz1 := (Array.getElem?_eq_some_iff.1 hc).1
  have c0 : W1.cell? ⟨w.heap.size, 0, none⟩ = some (.int .i64 3) := by simp [World.cell?, hc]
  have c1 : W1.cell? ⟨w.heap.size, 1, none⟩ = some (.int .u64 1074266112) := by simp [World.cell?, hc]
  have c2 : W1.cell? ⟨w.heap.size, 2, none⟩ = some (.int .i64 perm) := by simp [World.cell?, hc]
  have c3 : W1.cell? ⟨w.heap.size, 3, none⟩ = some (.int .i64 0) := by simp [World.cell?, hc]
  have c4 : W1.cell? ⟨w.heap.size, 4, none⟩ = some (.bool true) := by simp [World.cell?, hc]
  rcases hp with rfl | rfl
  all_goals
    go_enter Tryz.func86, Tryz.ntmps86
    go_wp2_with fail
    rw [← hW1]
    clear hW1
    refine region_later W1.heap.size W1 (Below.refl _ _) (by kernel_rfl) (by kernel_rfl) ?_
    have y0 := later_cell (B := W1.heap.size) c0 hz1
    have y1 := later_cell (B := W1.heap.size) c1 hz1
    have y2 := later_cell (B := W1.heap.size) c2 hz1
    have y3 := later_cell (B := W1.heap.size) c3 hz1
    repeat (quiet_step ((go_at_call 81; exact quiet_later (Nat.le_refl _) (hsz _))))
    refine wpQuiet_nil ?_
    first | (rintro _ ⟨X, rfl⟩) | (intro X)
    have hX := X.h
    clear y0 y1 y2 y3
    generalize X.x = w2 at *
    have d0 := cell_lt hX c0 hz1
    have d1 := cell_lt hX c1 hz1
    have d2 := cell_lt hX c2 hz1
    have d3 := cell_lt hX c3 hz1
    have d4 := cell_lt hX c4 hz1
    go_wp2_with fail
    go_ret2
    exact ⟨⟨_, by unfold W64; decide, rfl⟩, bthen hb1 hX⟩
end Go.Proofs.YtgihknfoncljbaaGreatDoor
