/- The walks of the four statements of chapter 18: each returns true. Conditions: the library's table for trailing zeros is as its initialiser lays it. -/
import Derived.Deep.QuietTactic
import Derived.BigQuiet
import Derived.Test.YtgihknfoncljbaaGreatDoorRingsP3
import Derived.Test.YtgihknfoncljbaaGreatDoorRingsP15
namespace Go.Proofs.YtgihknfoncljbaaGreatDoor
open Go.RowKit
theorem bits_u64_bd (op : BinOp) (x y : Int) : 0 ≤ bits op .u64 x y ∧ bits op .u64 x y < 18446744073709551616 := by
 unfold bits
 split <;> (try rw [IntKind.wrap_u64]) <;> omega
theorem joinV_bd (fs : List (Int × Int)) : 0 ≤ joinV fs ∧ joinV fs < 18446744073709551616 := by
 rcases List.eq_nil_or_concat fs with rfl | ⟨L, x, rfl⟩
 ·decide
 ·rw [List.concat_eq_append, joinV_snoc]; exact bits_u64_bd _ _ _
theorem putV_bd (l : Int) (d : DescV) : 0 ≤ (putV l d).1 ∧ (putV l d).1 < 18446744073709551616 := by
 unfold putV
 split; decide; split; decide; split; exact joinV_bd _; exact joinV_bd _
theorem putV_ok (l : Int) (d : DescV) : (mayV l d = true ∧ (putV l d).2 = 0) ∨ (mayV l d = false ∧ (putV l d).2 = 180) := by
 cases h : mayV l d
 ·right; unfold putV; rw [if_pos h]; exact ⟨rfl, rfl⟩
 ·left; unfold putV; rw [if_neg (by rw [h]; simp)]; refine ⟨rfl, ?_⟩; split; rfl; split <;> rfl
end Go.Proofs.YtgihknfoncljbaaGreatDoor
