/- The walks of desc.Size, desc.Field, desc.bit, desc.from and of the reference's Field. Conditions: words are of 64 bits. -/
import Derived.Test.YtdlpgonpikflfaaDoorProg
import Derived.Test.YtdlpgonpikflfaaDoorDescA
import Derived.Test.YtdlpgonpikflfaaDoorCells
import Derived.WalkKit
import Derived.Lib.Hide
import Derived.WalkSpells
import Derived.WalkLawsBesides
namespace Go.Proofs.YtdlpgonpikflfaaDoor
open Go.RowKit

def bitV (w at' : Int) : Bool := decide (fldV w at' at' = 1)
def fromV (w lo : Int) : Int := IntKind.u64.wrap (fldV w 47 lo * 2 ^ lo.toNat)

set_option maxHeartbeats 400000 in
theorem size_any (a : Int) (w : World) :
    Calls Tryd.prog 22 #[.int .i64 a] w fun e w' => e = .returned (.int .u64 (szV a)) ∧ w = w' := by
  by_cases h1 : a = 1
  · subst h1
    go_enter Tryd.func22, Tryd.ntmps22
    go_wp2
    go_ret
    exact ⟨rfl, rfl⟩
  by_cases h2 : a = 2
  · subst h2
    go_enter Tryd.func22, Tryd.ntmps22
    go_wp2
    go_ret
    exact ⟨rfl, rfl⟩
  by_cases h3 : a = 3
  · subst h3
    go_enter Tryd.func22, Tryd.ntmps22
    go_wp2
    go_ret
    exact ⟨rfl, rfl⟩
  have hz : szV a = 0 := by unfold szV; rw [if_neg h1, if_neg h2, if_neg h3]
  rw [hz]
  by_cases h4 : a < 1
  · go_enter Tryd.func22, Tryd.ntmps22
    go_wp2
    go_ret
    exact ⟨rfl, rfl⟩
  · have h5 : 3 < a := by omega
    go_enter Tryd.func22, Tryd.ntmps22
    go_wp2
    go_ret
    exact ⟨rfl, rfl⟩

set_option maxHeartbeats 400000 in
theorem field_any (a h l : Int) (w : World) (h0 : 0 ≤ a) (h0' : a < 18446744073709551616) :
    Calls Tryd.prog 46 #[.int .u64 a, .int .i64 h, .int .i64 l] w fun e w' => e = .returned (.int .u64 (fldV a h l)) ∧ w = w' := by
  by_cases h1 : 63 < h
  · have hz : fldV a h l = 0 := by unfold fldV; rw [if_pos (by omega)]
    rw [hz]; clear hz
    go_enter Tryd.func46, Tryd.ntmps46
    go_wp2
    go_ret
    exact ⟨rfl, rfl⟩
  by_cases h2 : l < 0
  · have hz : fldV a h l = 0 := by unfold fldV; rw [if_pos (by omega)]
    rw [hz]; clear hz
    go_enter Tryd.func46, Tryd.ntmps46
    go_wp2
    go_ret
    exact ⟨rfl, rfl⟩
  by_cases h3 : h < l
  · have hz : fldV a h l = 0 := by unfold fldV; rw [if_pos (by omega)]
    rw [hz]; clear hz
    go_enter Tryd.func46, Tryd.ntmps46
    go_wp2
    go_ret
    exact ⟨rfl, rfl⟩
  have hf := Lib.hid (fld_eq a h l h0 h0' (by omega) (by omega) (by omega))
  go_enter Tryd.func46, Tryd.ntmps46
  go_wp2
  go_ret
  exact ⟨ret_u64 hf.out, rfl⟩

set_option maxHeartbeats 400000 in
theorem refField_any (a h l : Int) (w : World) (h0 : 0 ≤ a) (h0' : a < 18446744073709551616) :
    Calls Tryd.prog 50 #[.int .u64 a, .int .i64 h, .int .i64 l] w fun e w' => e = .returned (.int .u64 (fldV a h l)) ∧ w = w' := by
  by_cases h1 : 63 < h
  · have hz : fldV a h l = 0 := by unfold fldV; rw [if_pos (by omega)]
    rw [hz]; clear hz
    go_enter Tryd.func50, Tryd.ntmps50
    go_wp2
    go_ret
    exact ⟨rfl, rfl⟩
  by_cases h2 : l < 0
  · have hz : fldV a h l = 0 := by unfold fldV; rw [if_pos (by omega)]
    rw [hz]; clear hz
    go_enter Tryd.func50, Tryd.ntmps50
    go_wp2
    go_ret
    exact ⟨rfl, rfl⟩
  by_cases h3 : h < l
  · have hz : fldV a h l = 0 := by unfold fldV; rw [if_pos (by omega)]
    rw [hz]; clear hz
    go_enter Tryd.func50, Tryd.ntmps50
    go_wp2
    go_ret
    exact ⟨rfl, rfl⟩
  go_enter Tryd.func50, Tryd.ntmps50
  go_wp2
  go_loop [7, 8] (fun n i => ∃ k : Int, l - 1 ≤ k ∧ k ≤ h ∧ n = .int .u64 (partV a h k) ∧ i = .int .i64 k) (fun _ i => (intOf i + 1).toNat)
  case atStart => exact ⟨h, by omega, by omega, by rw [part_zero], rfl⟩
  case round =>
    obtain ⟨k, h4, h5, rfl, rfl⟩ := hrel
    by_cases hlt : l ≤ k
    · have hs := Lib.hid (part_step a h k h0 h0' (by omega) (by omega) (by omega))
      go_wp2
      go_round
      case rel => exact ⟨k - 1, by omega, by omega, by rw [hs.out], rfl⟩
      case measure => simp [intOf]; omega
    · have hk : k = l - 1 := by omega
      have he := Lib.hid (part_end a h l (by omega) (by omega) (by omega))
      subst hk
      go_wp2
      go_ret
      exact ⟨ret_u64 he.out, rfl⟩

set_option maxHeartbeats 400000 in
theorem bit_any (a i : Int) (w : World) (h0 : 0 ≤ a) (h0' : a < 18446744073709551616) :
    Calls Tryd.prog 43 #[.int .u64 a, .int .i64 i] w fun e w' => e = .returned (.bool (bitV a i)) ∧ w = w' := by
  go_enter Tryd.func43, Tryd.ntmps43
  go_wp2_with (go_at_call 46; refine (field_any a i i _ h0 h0').mono ?_; rintro e w' ⟨rfl, rfl⟩)
  go_ret
  exact ⟨rfl, rfl⟩

set_option maxHeartbeats 400000 in
theorem from_any (a i : Int) (w : World) (h0 : 0 ≤ a) (h0' : a < 18446744073709551616) (h1 : 0 ≤ i) (h2 : i ≤ 63) :
    Calls Tryd.prog 44 #[.int .u64 a, .int .i64 i] w fun e w' => e = .returned (.int .u64 (fromV a i)) ∧ w = w' := by
  go_enter Tryd.func44, Tryd.ntmps44
  go_wp2_with (go_at_call 46; refine (field_any a 47 i _ h0 h0').mono ?_; rintro e w' ⟨rfl, rfl⟩)
  go_ret
  exact ⟨rfl, rfl⟩
end Go.Proofs.YtdlpgonpikflfaaDoor
