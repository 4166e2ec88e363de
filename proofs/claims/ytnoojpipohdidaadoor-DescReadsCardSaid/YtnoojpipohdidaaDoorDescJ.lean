/- The walk of the example of chapter 18 (awake). Conditions: the library's table for trailing zeros is as its initialiser lays it. -/
import Derived.Test.YtnoojpipohdidaaDoorDescI
import Derived.Test.YtnoojpipohdidaaDoorDescF
namespace Go.Proofs.YtnoojpipohdidaaDoor
open Go.RowKit

theorem put_ex (w : World) :
    Calls Tryd.prog 12 #[.int .i64 3, .agg #[.int .i64 3, .int .u64 1073745920, .int .i64 3, .int .i64 0, .bool true]] w fun e w' => e = .returned (.tuple #[.int .u64 18014399583229951, .int .i64 0]) ∧ Below w.heap.size w w' := by
  have h := put_any 3 ⟨3, 1073745920, 3, 0, true⟩ w (by decide) (by decide)
  have hp : putV 3 ⟨3, 1073745920, 3, 0, true⟩ = (18014399583229951, 0) := by decide +kernel
  rw [hp] at h
  exact h
theorem of_ex (w : World) (hT : Tab3 w) :
    Calls Tryd.prog 8 #[.int .i64 2, .int .u64 1073741827] w fun e w' => e = .returned (.agg #[.int .i64 1, .int .u64 1073741824, .int .i64 0, .int .i64 0, .bool false]) ∧ Below w.heap.size w w' := by
  have h := of_any 2 1073741827 w hT (by decide) (by decide)
  have hp : ofV 2 1073741827 = ⟨1, 1073741824, 0, 0, false⟩ := by
    have e1 : ¬ (szV 2 = 0 ∨ bitV 1073741827 0 = false ∨ ((2 : Int) = 3 ∧ bitV 1073741827 1 = false)) := by decide +kernel
    have e2 : (2 : Int) < 3 ∧ bitV 1073741827 1 = true := by decide +kernel
    have e3 : fromV 1073741827 12 = 1073741824 := by decide +kernel
    unfold ofV
    rw [if_neg e1, if_pos e2, e3]
  rw [hp] at h
  exact h
theorem Tab3.below {w w' : World} (h : Tab3 w) (hb : Below w.heap.size w w') : Tab3 w' := by
  obtain ⟨h1, h2, h3, h4⟩ := h
  exact ⟨(hb.cell (p := ⟨_, _, none⟩) (by omega)).trans h1, (hb.cell (p := ⟨_, _, none⟩) (by omega)).trans h2, (hb.cell (p := ⟨_, _, none⟩) (by omega)).trans h3, Nat.lt_of_lt_of_le h4 hb.size⟩

set_option maxHeartbeats 1000000 in
theorem awake18_any (w : World) (hT : Tab3 w) :
    Calls Tryd.prog 7 #[] w fun e w' => e = .returned (.bool true) ∧ Below w.heap.size w w' := by
  go_enter Tryd.func7, Tryd.ntmps7
  go_wp2_with fail
  refine (put_ex _).mono ?_; rintro e w1 ⟨rfl, hb1⟩
  go_wp2_with fail
  refine (of_ex _ (hT.below hb1)).mono ?_; rintro e w2 ⟨rfl, hb2⟩
  go_wp2_with fail
  go_ret
  have h1 := hb1.size
  exact ⟨rfl, (hb1.trans (hb2.mono h1)).alloc (Nat.le_trans h1 hb2.size) _⟩
end Go.Proofs.YtnoojpipohdidaaDoor
