/- The closure by which span.merged sorts: by the first address, then by the last. -/
import Derived.WalkSpells
import Derived.WalkLawsBesides
import Derived.BigQuiet
import Derived.Shelf.SlSortCmp.WholeK
import Derived.Test.YtiblhlaemmdphaaGreatProg
import Derived.Test.YtiblhlaemmdphaaGreatTableBuildsP2
import Derived.Test.YtiblhlaemmdphaaGreatTableBuildsP8
namespace Go.Proofs.YtiblhlaemmdphaaGreat
open Go Go.RowKit
def cmpI (x y : Int) : Int := if x < y then -1 else if y < x then 1 else 0
def cmpTwo (x y : Two) : Int := if cmpI x.a y.a = 0 then cmpI x.b y.b else cmpI x.a y.a
set_option maxHeartbeats 1000000 in
theorem isNaN_any (x : Int) (w : World) : Calls Tryz.prog 127 #[.int .u64 x] w fun e w' => e = .returned (.bool false) ∧ w' = w := by
 go_enter Tryz.func127, Tryz.ntmps127
 go_wp2
 go_ret
 exact ⟨ret_bool (by simp), rfl⟩
set_option maxHeartbeats 1000000 in
theorem compare_any (x y : Int) (w : World) : Calls Tryz.prog 120 #[.int .u64 x, .int .u64 y] w fun e w' => e = .returned (.int .i64 (cmpI x y)) ∧ w' = w := by
 by_cases h1 : x < y
 ·have e : cmpI x y = -1 := by unfold cmpI; rw [if_pos h1]
  rw [e]; clear e
  go_enter Tryz.func120, Tryz.ntmps120
  go_wp2_with (first | (go_at_call_of 127 (Value.int .u64 x); refine (isNaN_any _ _).mono ?_; rintro e w1 ⟨rfl, rfl⟩) | (go_at_call_of 127 (Value.int .u64 y); refine (isNaN_any _ _).mono ?_; rintro e w1 ⟨rfl, rfl⟩))
  go_ret
  exact ⟨rfl, rfl⟩
 ·by_cases h2 : y < x
  ·have e : cmpI x y = 1 := by unfold cmpI; rw [if_neg h1, if_pos h2]
   rw [e]; clear e
   go_enter Tryz.func120, Tryz.ntmps120
   go_wp2_with (first | (go_at_call_of 127 (Value.int .u64 x); refine (isNaN_any _ _).mono ?_; rintro e w1 ⟨rfl, rfl⟩) | (go_at_call_of 127 (Value.int .u64 y); refine (isNaN_any _ _).mono ?_; rintro e w1 ⟨rfl, rfl⟩))
   go_ret
   exact ⟨rfl, rfl⟩
  ·have e : cmpI x y = 0 := by unfold cmpI; rw [if_neg h1, if_neg h2]
   rw [e]; clear e
   go_enter Tryz.func120, Tryz.ntmps120
   go_wp2_with (first | (go_at_call_of 127 (Value.int .u64 x); refine (isNaN_any _ _).mono ?_; rintro e w1 ⟨rfl, rfl⟩) | (go_at_call_of 127 (Value.int .u64 y); refine (isNaN_any _ _).mono ?_; rintro e w1 ⟨rfl, rfl⟩))
   go_ret
   exact ⟨rfl, rfl⟩
set_option maxHeartbeats 2000000 in
theorem or_any (x y : Int) (b : Nat) (w : World) (h0 : w.cell? ⟨b, 0, none⟩ = some (.int .i64 x)) (h1 : w.cell? ⟨b, 1, none⟩ = some (.int .i64 y)) :
  Calls Tryz.prog 119 #[.slice (some ⟨b, 0, none⟩) 2 2] w fun e w' => e = .returned (.int .i64 (if x = 0 then y else x)) ∧ w' = w := by
 have e : (if x = 0 then y else x) = (if x ≠ 0 then x else if y ≠ 0 then y else 0) := by by_cases hx : x = 0 <;> by_cases hy : y = 0 <;> simp [hx, hy]
 rw [e]; clear e
 go_enter Tryz.func119, Tryz.ntmps119
 go_wp2
 go_loopw [8] (fun i wr => ∃ k : Nat, i = .int .i64 k ∧ k ≤ 2 ∧ (0 < k → x = 0) ∧ (1 < k → y = 0) ∧ wr = w) (fun i _ => 2 - (intOf i).toNat)
 case atStart => exact ⟨0, rfl, by omega, by omega, by omega, rfl⟩
 case round =>
  obtain ⟨k, rfl, hk, hx, hy, rfl⟩ := hrel
  obtain rfl | rfl | rfl : k = 0 ∨ k = 1 ∨ k = 2 := by omega
  ·by_cases h : x = 0
   ·subst h
    go_wp2
    go_roundw
    case rel => exact ⟨1, by simp⟩
    case measure => simp [intOf]
   ·go_wp2
    go_ret
    exact ⟨by simp, rfl⟩
  ·obtain rfl := hx (by omega)
   by_cases h : y = 0
   ·subst h
    go_wp2
    go_roundw
    case rel => exact ⟨2, by simp⟩
    case measure => simp [intOf]
   ·go_wp2
    go_ret
    exact ⟨by simp, rfl⟩
  ·obtain rfl := hx (by omega)
   obtain rfl := hy (by omega)
   go_wp2
   go_ret
   exact ⟨by simp, rfl⟩
theorem alloc_two (W : World) (p q : Value) (t : TypeId) : (W.alloc (.cells #[p, q] t)).cell? ⟨W.heap.size, 0, none⟩ = some p ∧ (W.alloc (.cells #[p, q] t)).cell? ⟨W.heap.size, 1, none⟩ = some q := ⟨by simp [World.cell?_alloc_new], by simp [World.cell?_alloc_new]⟩
set_option maxHeartbeats 2000000 in
theorem closure_any (x y : Two) (w : World) : Calls Tryz.prog 118 #[.agg #[.int .u64 x.a, .int .u64 x.b], .agg #[.int .u64 y.a, .int .u64 y.b]] w fun e w' => e = .returned (.int .i64 (cmpTwo x y)) ∧ ∃ q os', w' = Go.Sort.grow (w.drewN q) os' := by
 go_enter Tryz.func118, Tryz.ntmps118
 go_wp2_with fail
 obtain ⟨W, hW⟩ : ∃ W, W = (w.alloc (.cells #[.int .u64 x.a, .int .u64 x.b] 177)).alloc (.cells #[.int .u64 y.a, .int .u64 y.b] 177) := ⟨_, rfl⟩
 have hz : (w.alloc (.cells #[.int .u64 x.a, .int .u64 x.b] 177)).heap.size = w.heap.size + 1 := by simp
 have k1 := alloc_two w (.int .u64 x.a) (.int .u64 x.b) 177
 have k2 := alloc_two (w.alloc (.cells #[.int .u64 x.a, .int .u64 x.b] 177)) (.int .u64 y.a) (.int .u64 y.b) 177
 rw [hz, ← hW] at k2
 have c2 := k2.1
 have c3 := k2.2
 have c0 : W.cell? ⟨w.heap.size, 0, none⟩ = some (.int .u64 x.a) := by rw [hW]; exact cell_lt (bone _ _) k1.1 (by simp)
 have c1 : W.cell? ⟨w.heap.size, 1, none⟩ = some (.int .u64 x.b) := by rw [hW]; exact cell_lt (bone _ _) k1.2 (by simp)
 clear k1 k2 hz
 have hg : W = Go.Sort.grow w #[.cells #[.int .u64 x.a, .int .u64 x.b] 177, .cells #[.int .u64 y.a, .int .u64 y.b] 177] := by rw [hW, Go.Sort.alloc_eq_grow, Go.Sort.alloc_eq_grow, Go.Sort.grow_grow]; rfl
 rw [← hW]
 replace hg := Lib.hid hg
 clear hW
 refine region_draws_tail 10 (by kernel_rfl) (by kernel_rfl) ?_
 simp only [List.take_succ_cons, List.take_zero, List.drop_succ_cons, List.drop_zero]
 repeat (quiet_step ((first | (go_at_call_of 120 (Value.int .u64 x.a); exact Calls.quiet_of_same (compare_any _ _ _)) | (go_at_call_of 120 (Value.int .u64 x.b); exact Calls.quiet_of_same (compare_any _ _ _)))))
 refine wpQuiet_nil ?_
 first | (rintro _ ⟨q, rfl⟩) | (intro q)
 have nn := alloc_two (W.drewN q) (.int .i64 (cmpI x.a y.a)) (.int .i64 (cmpI x.b y.b)) 3
 have n0 := nn.1
 have n1 := nn.2
 clear nn
 go_wp2_with (go_at_call 119; refine (or_any _ _ _ _ n0 n1).mono ?_; rintro e w1 ⟨rfl, rfl⟩)
 all_goals go_ret
 all_goals have hd : ∀ os, (Go.Sort.grow w os).drewN q = Go.Sort.grow (w.drewN q) os := fun _ => rfl
 all_goals exact ⟨by simp [cmpTwo, *], q, _, by rw [hg.out, Go.Sort.alloc_eq_grow, hd, Go.Sort.grow_grow]⟩
end Go.Proofs.YtiblhlaemmdphaaGreat
