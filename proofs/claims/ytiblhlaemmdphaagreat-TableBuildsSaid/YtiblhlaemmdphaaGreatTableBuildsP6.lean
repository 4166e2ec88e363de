/- The walks of span.Good, Last, Has, Within, Overlap. Conditions: words of 64 bits. -/
import Derived.WalkSpells
import Derived.WalkLawsBesides
import Derived.Deep.RegionHeld3
import Derived.Laws.Bits64
import Derived.Test.YtiblhlaemmdphaaGreatProg
import Derived.Test.YtiblhlaemmdphaaGreatShelf
import Derived.Test.YtiblhlaemmdphaaGreatTableBuildsP1
import Derived.Test.YtiblhlaemmdphaaGreatTableBuildsP2
import Derived.Test.YtiblhlaemmdphaaGreatTableBuildsP5
namespace Go.Proofs.YtiblhlaemmdphaaGreat
open Go.RowKit
set_option maxHeartbeats 400000 in
theorem good_any (b n : Int) (w : World) (hb : W64 b) (hn : W64 n) :
  Calls Tryz.prog 28 #[.agg #[.int .u64 b, .int .u64 n]] w fun e w' => e = .returned (.bool (goodB b n)) ∧ Below w.heap.size w w' := by
 obtain ⟨b0, b1⟩ := hb
 obtain ⟨n0, n1⟩ := hn
 by_cases h : 0 < n
 ·go_enter Tryz.func28, Tryz.ntmps28
  go_wp2
  go_ret
  exact ⟨ret_bool (by simp [goodB, h]), bone _ _⟩
 ·go_enter Tryz.func28, Tryz.ntmps28
  go_wp2
  go_ret
  exact ⟨ret_bool (by unfold goodB; rw [decide_eq_false (show ¬ 0 < n by omega)]; rfl), bone _ _⟩
set_option maxHeartbeats 400000 in
theorem last_any (b n : Int) (w : World) (hb : W64 b) (hn : W64 n) :
  Calls Tryz.prog 22 #[.agg #[.int .u64 b, .int .u64 n]] w fun e w' => e = .returned (.int .u64 (lastV b n)) ∧ Below w.heap.size w w' := by
 cases h : goodB b n
 ·have e := Lib.hid (lastV_no h)
  go_enter Tryz.func22, Tryz.ntmps22
  go_wp2_with (go_at_call 28; refine (good_any _ _ _ hb hn).mono ?_; rintro e w1 ⟨rfl, hb1⟩)
  go_ret
  exact ⟨ret_u64 e.out.symm, bnew hb1⟩
 ·have e := Lib.hid (lastV_yes h)
  have hi := goodB_iff.1 h
  obtain ⟨b0, b1⟩ := id hb
  obtain ⟨n0, n1⟩ := id hn
  obtain ⟨g1, g2⟩ := hi
  go_enter Tryz.func22, Tryz.ntmps22
  go_wp2_with (go_at_call 28; refine (good_any _ _ _ hb hn).mono ?_; rintro e w1 ⟨rfl, hb1⟩; obtain ⟨hc1, hf1⟩ := bcell hb1)
  go_ret
  exact ⟨ret_u64 (by rw [e.out]), bnew hb1⟩
set_option maxHeartbeats 400000 in
theorem has_any (b n a : Int) (w : World) (hb : W64 b) (hn : W64 n) :
  Calls Tryz.prog 87 #[.agg #[.int .u64 b, .int .u64 n], .int .u64 a] w fun e w' => e = .returned (.bool (hasB b n a)) ∧ Below w.heap.size w w' := by
 cases h : goodB b n
 ·have e : hasB b n a = false := by unfold hasB; rw [h]; rfl
  rw [e]; clear e
  go_enter Tryz.func87, Tryz.ntmps87
  go_wp2_with (go_at_call 28; refine (good_any _ _ _ hb hn).mono ?_; rintro e w1 ⟨rfl, hb1⟩)
  go_ret
  exact ⟨rfl, bnew hb1⟩
 ·by_cases h2 : b ≤ a
  ·have e : hasB b n a = decide (a ≤ lastV b n) := by unfold hasB; rw [h, decide_eq_true h2]; rfl
   rw [e]; clear e
   go_enter Tryz.func87, Tryz.ntmps87
   go_wp2_with fail
   refine (good_any _ _ _ hb hn).mono ?_; rintro e w1 ⟨rfl, hb1⟩; obtain ⟨hc1, hf1⟩ := bcell hb1
   go_wp2_with fail
   refine (last_any _ _ _ hb hn).mono ?_; rintro e w2 ⟨rfl, hb2⟩
   go_wp2_with fail
   go_ret
   exact ⟨rfl, bthen (bnew hb1) hb2⟩
  ·have e : hasB b n a = false := by unfold hasB; rw [h, decide_eq_false h2]; rfl
   rw [e]; clear e
   go_enter Tryz.func87, Tryz.ntmps87
   go_wp2_with (go_at_call 28; refine (good_any _ _ _ hb hn).mono ?_; rintro e w1 ⟨rfl, hb1⟩; obtain ⟨hc1, hf1⟩ := bcell hb1)
   go_ret
   exact ⟨rfl, bnew hb1⟩
end Go.Proofs.YtiblhlaemmdphaaGreat
/- The walks of span.Within and of the reference's Good, Last, Has, Within, Overlap, Pages. Conditions: words of 64 bits. -/
namespace Go.Proofs.YtiblhlaemmdphaaGreat
open Go.RowKit
set_option maxHeartbeats 1000000 in
theorem within_any (b n c m : Int) (w : World) (hb : W64 b) (hn : W64 n) (hc : W64 c) (hm : W64 m) :
  Calls Tryz.prog 64 #[.agg #[.int .u64 b, .int .u64 n], .agg #[.int .u64 c, .int .u64 m]] w fun e w' => e = .returned (.bool (withinB b n c m)) ∧ Below w.heap.size w w' := by
 cases h : goodB b n
 ·have e : withinB b n c m = false := by unfold withinB; rw [h]; rfl
  rw [e]; clear e
  go_enter Tryz.func64, Tryz.ntmps64
  go_wp2_with fail
  refine region_later (w.heap.size + 2) ((w.alloc (.cells #[.int .u64 b, .int .u64 n] 28)).alloc (.cells #[.int .u64 c, .int .u64 m] 28)) (Below.refl _ _) (by kernel_rfl) (by kernel_rfl) ?_
  have x0 := later_cell (B := w.heap.size + 2) (w0 := ((w.alloc (.cells #[.int .u64 b, .int .u64 n] 28)).alloc (.cells #[.int .u64 c, .int .u64 m] 28))) (b := w.heap.size) (o := 0) (v := .int .u64 b) (by simp [go_sem]) (by omega)
  have x1 := later_cell (B := w.heap.size + 2) (w0 := ((w.alloc (.cells #[.int .u64 b, .int .u64 n] 28)).alloc (.cells #[.int .u64 c, .int .u64 m] 28))) (b := w.heap.size) (o := 1) (v := .int .u64 n) (by simp [go_sem]) (by omega)
  have x2 := later_cell (B := w.heap.size + 2) (w0 := ((w.alloc (.cells #[.int .u64 b, .int .u64 n] 28)).alloc (.cells #[.int .u64 c, .int .u64 m] 28))) (b := w.heap.size + 1) (o := 0) (v := .int .u64 c) (by simp [go_sem]) (by omega)
  have x3 := later_cell (B := w.heap.size + 2) (w0 := ((w.alloc (.cells #[.int .u64 b, .int .u64 n] 28)).alloc (.cells #[.int .u64 c, .int .u64 m] 28))) (b := w.heap.size + 1) (o := 1) (v := .int .u64 m) (by simp [go_sem]) (by omega)
  repeat (quiet_step ((first | (go_at_call 28; exact quiet_later (by simp) (good_any _ _ _ hb hn)))))
  refine wpQuiet_nil ?_
  rintro _ ⟨X, rfl⟩
  go_wp2_with fail
  go_ret
  exact ⟨rfl, bnew (bnew (X.h.mono (by simp)))⟩
 cases h2 : hasB c m b
 ·have e : withinB b n c m = false := by unfold withinB; rw [h, h2]; rfl
  rw [e]; clear e
  go_enter Tryz.func64, Tryz.ntmps64
  go_wp2_with fail
  refine region_later (w.heap.size + 2) ((w.alloc (.cells #[.int .u64 b, .int .u64 n] 28)).alloc (.cells #[.int .u64 c, .int .u64 m] 28)) (Below.refl _ _) (by kernel_rfl) (by kernel_rfl) ?_
  have x0 := later_cell (B := w.heap.size + 2) (w0 := ((w.alloc (.cells #[.int .u64 b, .int .u64 n] 28)).alloc (.cells #[.int .u64 c, .int .u64 m] 28))) (b := w.heap.size) (o := 0) (v := .int .u64 b) (by simp [go_sem]) (by omega)
  have x1 := later_cell (B := w.heap.size + 2) (w0 := ((w.alloc (.cells #[.int .u64 b, .int .u64 n] 28)).alloc (.cells #[.int .u64 c, .int .u64 m] 28))) (b := w.heap.size) (o := 1) (v := .int .u64 n) (by simp [go_sem]) (by omega)
  have x2 := later_cell (B := w.heap.size + 2) (w0 := ((w.alloc (.cells #[.int .u64 b, .int .u64 n] 28)).alloc (.cells #[.int .u64 c, .int .u64 m] 28))) (b := w.heap.size + 1) (o := 0) (v := .int .u64 c) (by simp [go_sem]) (by omega)
  have x3 := later_cell (B := w.heap.size + 2) (w0 := ((w.alloc (.cells #[.int .u64 b, .int .u64 n] 28)).alloc (.cells #[.int .u64 c, .int .u64 m] 28))) (b := w.heap.size + 1) (o := 1) (v := .int .u64 m) (by simp [go_sem]) (by omega)
  repeat (quiet_step ((first | (go_at_call 28; exact quiet_later (by simp) (good_any _ _ _ hb hn)) | (go_at_call 87; exact quiet_later (by simp) (has_any _ _ _ _ hc hm)))))
  refine wpQuiet_nil ?_
  rintro _ ⟨X, rfl⟩
  go_wp2_with fail
  go_ret
  exact ⟨rfl, bnew (bnew (X.h.mono (by simp)))⟩
 ·have e : withinB b n c m = hasB c m (lastV b n) := by unfold withinB; rw [h, h2]; rfl
  rw [e]; clear e
  go_enter Tryz.func64, Tryz.ntmps64
  go_wp2_with fail
  refine region_later (w.heap.size + 2) ((w.alloc (.cells #[.int .u64 b, .int .u64 n] 28)).alloc (.cells #[.int .u64 c, .int .u64 m] 28)) (Below.refl _ _) (by kernel_rfl) (by kernel_rfl) ?_
  have x0 := later_cell (B := w.heap.size + 2) (w0 := ((w.alloc (.cells #[.int .u64 b, .int .u64 n] 28)).alloc (.cells #[.int .u64 c, .int .u64 m] 28))) (b := w.heap.size) (o := 0) (v := .int .u64 b) (by simp [go_sem]) (by omega)
  have x1 := later_cell (B := w.heap.size + 2) (w0 := ((w.alloc (.cells #[.int .u64 b, .int .u64 n] 28)).alloc (.cells #[.int .u64 c, .int .u64 m] 28))) (b := w.heap.size) (o := 1) (v := .int .u64 n) (by simp [go_sem]) (by omega)
  have x2 := later_cell (B := w.heap.size + 2) (w0 := ((w.alloc (.cells #[.int .u64 b, .int .u64 n] 28)).alloc (.cells #[.int .u64 c, .int .u64 m] 28))) (b := w.heap.size + 1) (o := 0) (v := .int .u64 c) (by simp [go_sem]) (by omega)
  have x3 := later_cell (B := w.heap.size + 2) (w0 := ((w.alloc (.cells #[.int .u64 b, .int .u64 n] 28)).alloc (.cells #[.int .u64 c, .int .u64 m] 28))) (b := w.heap.size + 1) (o := 1) (v := .int .u64 m) (by simp [go_sem]) (by omega)
  repeat (quiet_step ((first | (go_at_call 28; exact quiet_later (by simp) (good_any _ _ _ hb hn)) | (go_at_call 87; exact quiet_later (by simp) (has_any _ _ _ _ hc hm)) | (go_at_call 22; exact quiet_later (by simp) (last_any _ _ _ hb hn)))))
  refine wpQuiet_nil ?_
  rintro _ ⟨X, rfl⟩
  go_wp2_with fail
  go_ret
  exact ⟨rfl, bnew (bnew (X.h.mono (by simp)))⟩
set_option maxHeartbeats 400000 in
theorem refGood_any (b n : Int) (w : World) (hb : W64 b) (hn : W64 n) :
  Calls Tryz.prog 65 #[.agg #[.int .u64 b, .int .u64 n]] w fun e w' => e = .returned (.bool (goodB b n)) ∧ Below w.heap.size w w' := by
 obtain ⟨b0, b1⟩ := hb
 obtain ⟨n0, n1⟩ := hn
 by_cases h : 0 < n
 ·go_enter Tryz.func65, Tryz.ntmps65
  go_wp2
  go_ret
  exact ⟨ret_bool (by unfold goodB; rw [decide_eq_true h, Bool.true_and, Bool.eq_iff_iff]; simp; omega), bone _ _⟩
 ·go_enter Tryz.func65, Tryz.ntmps65
  go_wp2
  go_ret
  exact ⟨ret_bool (by unfold goodB; rw [decide_eq_false (show ¬ 0 < n by omega)]; rfl), bone _ _⟩
set_option maxHeartbeats 400000 in
theorem refLast_any (b n : Int) (w : World) (hb : W64 b) (hn : W64 n) :
  Calls Tryz.prog 35 #[.agg #[.int .u64 b, .int .u64 n]] w fun e w' => e = .returned (.int .u64 (lastV b n)) ∧ Below w.heap.size w w' := by
 cases h : goodB b n
 ·have e := Lib.hid (lastV_no h)
  go_enter Tryz.func35, Tryz.ntmps35
  go_wp2_with (go_at_call 65; refine (refGood_any _ _ _ hb hn).mono ?_; rintro e w1 ⟨rfl, hb1⟩)
  go_ret
  exact ⟨ret_u64 e.out.symm, bnew hb1⟩
 ·have e := Lib.hid (lastV_yes h)
  have hi := goodB_iff.1 h
  obtain ⟨b0, b1⟩ := id hb
  obtain ⟨n0, n1⟩ := id hn
  obtain ⟨g1, g2⟩ := hi
  go_enter Tryz.func35, Tryz.ntmps35
  go_wp2_with (go_at_call 65; refine (refGood_any _ _ _ hb hn).mono ?_; rintro e w1 ⟨rfl, hb1⟩; obtain ⟨hc1, hf1⟩ := bcell hb1)
  go_ret
  exact ⟨ret_u64 (by rw [e.out]), bnew hb1⟩
set_option maxHeartbeats 1000000 in
theorem refWithin_any (b n c m : Int) (w : World) (hb : W64 b) (hn : W64 n) (hc : W64 c) (hm : W64 m) :
  Calls Tryz.prog 88 #[.agg #[.int .u64 b, .int .u64 n], .agg #[.int .u64 c, .int .u64 m]] w fun e w' => e = .returned (.bool (withinB b n c m)) ∧ Below w.heap.size w w' := by
 cases h : goodB b n
 ·have e : withinB b n c m = false := by unfold withinB; rw [h]; rfl
  rw [e]; clear e
  go_enter Tryz.func88, Tryz.ntmps88
  go_wp2_with fail
  refine region_later (w.heap.size + 2) ((w.alloc (.cells #[.int .u64 b, .int .u64 n] 28)).alloc (.cells #[.int .u64 c, .int .u64 m] 28)) (Below.refl _ _) (by kernel_rfl) (by kernel_rfl) ?_
  have x0 := later_cell (B := w.heap.size + 2) (w0 := ((w.alloc (.cells #[.int .u64 b, .int .u64 n] 28)).alloc (.cells #[.int .u64 c, .int .u64 m] 28))) (b := w.heap.size) (o := 0) (v := .int .u64 b) (by simp [go_sem]) (by omega)
  have x1 := later_cell (B := w.heap.size + 2) (w0 := ((w.alloc (.cells #[.int .u64 b, .int .u64 n] 28)).alloc (.cells #[.int .u64 c, .int .u64 m] 28))) (b := w.heap.size) (o := 1) (v := .int .u64 n) (by simp [go_sem]) (by omega)
  have x2 := later_cell (B := w.heap.size + 2) (w0 := ((w.alloc (.cells #[.int .u64 b, .int .u64 n] 28)).alloc (.cells #[.int .u64 c, .int .u64 m] 28))) (b := w.heap.size + 1) (o := 0) (v := .int .u64 c) (by simp [go_sem]) (by omega)
  have x3 := later_cell (B := w.heap.size + 2) (w0 := ((w.alloc (.cells #[.int .u64 b, .int .u64 n] 28)).alloc (.cells #[.int .u64 c, .int .u64 m] 28))) (b := w.heap.size + 1) (o := 1) (v := .int .u64 m) (by simp [go_sem]) (by omega)
  repeat (quiet_step ((first | (go_at_call_of 65 (Value.agg #[.int .u64 b, .int .u64 n]); exact quiet_later (by simp) (refGood_any _ _ _ hb hn)))))
  refine wpQuiet_nil ?_
  rintro _ ⟨X, rfl⟩
  go_wp2_with fail
  go_ret
  exact ⟨rfl, bnew (bnew (X.h.mono (by simp)))⟩
 cases h2 : goodB c m
 ·have e : withinB b n c m = false := by rw [Bool.eq_false_iff, ne_eq, withinB_iff, h2]; simp
  rw [e]; clear e
  go_enter Tryz.func88, Tryz.ntmps88
  go_wp2_with fail
  refine region_later (w.heap.size + 2) ((w.alloc (.cells #[.int .u64 b, .int .u64 n] 28)).alloc (.cells #[.int .u64 c, .int .u64 m] 28)) (Below.refl _ _) (by kernel_rfl) (by kernel_rfl) ?_
  have x0 := later_cell (B := w.heap.size + 2) (w0 := ((w.alloc (.cells #[.int .u64 b, .int .u64 n] 28)).alloc (.cells #[.int .u64 c, .int .u64 m] 28))) (b := w.heap.size) (o := 0) (v := .int .u64 b) (by simp [go_sem]) (by omega)
  have x1 := later_cell (B := w.heap.size + 2) (w0 := ((w.alloc (.cells #[.int .u64 b, .int .u64 n] 28)).alloc (.cells #[.int .u64 c, .int .u64 m] 28))) (b := w.heap.size) (o := 1) (v := .int .u64 n) (by simp [go_sem]) (by omega)
  have x2 := later_cell (B := w.heap.size + 2) (w0 := ((w.alloc (.cells #[.int .u64 b, .int .u64 n] 28)).alloc (.cells #[.int .u64 c, .int .u64 m] 28))) (b := w.heap.size + 1) (o := 0) (v := .int .u64 c) (by simp [go_sem]) (by omega)
  have x3 := later_cell (B := w.heap.size + 2) (w0 := ((w.alloc (.cells #[.int .u64 b, .int .u64 n] 28)).alloc (.cells #[.int .u64 c, .int .u64 m] 28))) (b := w.heap.size + 1) (o := 1) (v := .int .u64 m) (by simp [go_sem]) (by omega)
  repeat (quiet_step ((first | (go_at_call_of 65 (Value.agg #[.int .u64 b, .int .u64 n]); exact quiet_later (by simp) (refGood_any _ _ _ hb hn)) | (go_at_call_of 65 (Value.agg #[.int .u64 c, .int .u64 m]); exact quiet_later (by simp) (refGood_any _ _ _ hc hm)))))
  refine wpQuiet_nil ?_
  rintro _ ⟨X, rfl⟩
  go_wp2_with fail
  go_ret
  exact ⟨rfl, bnew (bnew (X.h.mono (by simp)))⟩
 have hi := goodB_iff.1 h
 have hj := goodB_iff.1 h2
 have l1 := lastV_yes h
 have l2 := lastV_yes h2
 by_cases h3 : c ≤ b
 ·have e : withinB b n c m = decide (lastV b n ≤ lastV c m) := by rw [Bool.eq_iff_iff, withinB_iff, h, h2]; simp; omega
  rw [e]; clear e hi hj l1 l2
  go_enter Tryz.func88, Tryz.ntmps88
  go_wp2_with fail
  refine region_later (w.heap.size + 2) ((w.alloc (.cells #[.int .u64 b, .int .u64 n] 28)).alloc (.cells #[.int .u64 c, .int .u64 m] 28)) (Below.refl _ _) (by kernel_rfl) (by kernel_rfl) ?_
  have x0 := later_cell (B := w.heap.size + 2) (w0 := ((w.alloc (.cells #[.int .u64 b, .int .u64 n] 28)).alloc (.cells #[.int .u64 c, .int .u64 m] 28))) (b := w.heap.size) (o := 0) (v := .int .u64 b) (by simp [go_sem]) (by omega)
  have x1 := later_cell (B := w.heap.size + 2) (w0 := ((w.alloc (.cells #[.int .u64 b, .int .u64 n] 28)).alloc (.cells #[.int .u64 c, .int .u64 m] 28))) (b := w.heap.size) (o := 1) (v := .int .u64 n) (by simp [go_sem]) (by omega)
  have x2 := later_cell (B := w.heap.size + 2) (w0 := ((w.alloc (.cells #[.int .u64 b, .int .u64 n] 28)).alloc (.cells #[.int .u64 c, .int .u64 m] 28))) (b := w.heap.size + 1) (o := 0) (v := .int .u64 c) (by simp [go_sem]) (by omega)
  have x3 := later_cell (B := w.heap.size + 2) (w0 := ((w.alloc (.cells #[.int .u64 b, .int .u64 n] 28)).alloc (.cells #[.int .u64 c, .int .u64 m] 28))) (b := w.heap.size + 1) (o := 1) (v := .int .u64 m) (by simp [go_sem]) (by omega)
  repeat (quiet_step ((first | (go_at_call_of 65 (Value.agg #[.int .u64 b, .int .u64 n]); exact quiet_later (by simp) (refGood_any _ _ _ hb hn)) | (go_at_call_of 65 (Value.agg #[.int .u64 c, .int .u64 m]); exact quiet_later (by simp) (refGood_any _ _ _ hc hm)) | (go_at_call_of 35 (Value.agg #[.int .u64 b, .int .u64 n]); exact quiet_later (by simp) (refLast_any _ _ _ hb hn)) | (go_at_call_of 35 (Value.agg #[.int .u64 c, .int .u64 m]); exact quiet_later (by simp) (refLast_any _ _ _ hc hm)))))
  refine wpQuiet_nil ?_
  rintro _ ⟨X, rfl⟩
  go_wp2_with fail
  go_ret
  exact ⟨rfl, bnew (bnew (X.h.mono (by simp)))⟩
 ·have e : withinB b n c m = false := by rw [Bool.eq_false_iff, ne_eq, withinB_iff, h, h2]; simp; omega
  have h4 : decide (c ≤ b) = false := by simpa using h3
  rw [e]; clear e hi hj l1 l2 h3
  go_enter Tryz.func88, Tryz.ntmps88
  go_wp2_with fail
  refine region_later (w.heap.size + 2) ((w.alloc (.cells #[.int .u64 b, .int .u64 n] 28)).alloc (.cells #[.int .u64 c, .int .u64 m] 28)) (Below.refl _ _) (by kernel_rfl) (by kernel_rfl) ?_
  have x0 := later_cell (B := w.heap.size + 2) (w0 := ((w.alloc (.cells #[.int .u64 b, .int .u64 n] 28)).alloc (.cells #[.int .u64 c, .int .u64 m] 28))) (b := w.heap.size) (o := 0) (v := .int .u64 b) (by simp [go_sem]) (by omega)
  have x1 := later_cell (B := w.heap.size + 2) (w0 := ((w.alloc (.cells #[.int .u64 b, .int .u64 n] 28)).alloc (.cells #[.int .u64 c, .int .u64 m] 28))) (b := w.heap.size) (o := 1) (v := .int .u64 n) (by simp [go_sem]) (by omega)
  have x2 := later_cell (B := w.heap.size + 2) (w0 := ((w.alloc (.cells #[.int .u64 b, .int .u64 n] 28)).alloc (.cells #[.int .u64 c, .int .u64 m] 28))) (b := w.heap.size + 1) (o := 0) (v := .int .u64 c) (by simp [go_sem]) (by omega)
  have x3 := later_cell (B := w.heap.size + 2) (w0 := ((w.alloc (.cells #[.int .u64 b, .int .u64 n] 28)).alloc (.cells #[.int .u64 c, .int .u64 m] 28))) (b := w.heap.size + 1) (o := 1) (v := .int .u64 m) (by simp [go_sem]) (by omega)
  repeat (quiet_step ((first | (go_at_call_of 65 (Value.agg #[.int .u64 b, .int .u64 n]); exact quiet_later (by simp) (refGood_any _ _ _ hb hn)) | (go_at_call_of 65 (Value.agg #[.int .u64 c, .int .u64 m]); exact quiet_later (by simp) (refGood_any _ _ _ hc hm)) | (go_at_call_of 35 (Value.agg #[.int .u64 b, .int .u64 n]); exact quiet_later (by simp) (refLast_any _ _ _ hb hn)) | (go_at_call_of 35 (Value.agg #[.int .u64 c, .int .u64 m]); exact quiet_later (by simp) (refLast_any _ _ _ hc hm)))))
  refine wpQuiet_nil ?_
  rintro _ ⟨X, rfl⟩
  go_wp2_with fail
  go_ret
  exact ⟨rfl, bnew (bnew (X.h.mono (by simp)))⟩
end Go.Proofs.YtiblhlaemmdphaaGreat
/- The walks of span.Pages and span.First with their closures, and of the reference's First. Conditions: words of 64 bits; slices below 2^40. -/
namespace Go.Proofs.YtiblhlaemmdphaaGreat
open Go.RowKit Go.Shelf
def pageBad (x : Two) : Bool := !goodB x.a x.b || bits BinOp.or IntKind.u64 x.a x.b % 4096 != 0
set_option maxHeartbeats 400000 in
theorem pages1_any (x : Two) (w : World) :
  Calls Tryz.prog 50 #[.agg #[.int .u64 x.a, .int .u64 x.b]] w fun e w' => e = .returned (.bool (pageBad x)) ∧ Below w.heap.size w w' := by
 obtain ⟨b, n, hb, hn⟩ := x
 dsimp only
 have hp : 0 ≤ bits BinOp.or IntKind.u64 b n := by unfold bits; exact wrap_u64_nonneg _
 cases h : goodB b n
 ·have e : pageBad ⟨b, n, hb, hn⟩ = true := by simp [pageBad, h]
  rw [e]; clear e
  go_enter Tryz.func50, Tryz.ntmps50
  go_wp2_with (go_at_call 28; refine (good_any _ _ _ hb hn).mono ?_; rintro e w1 ⟨rfl, hb1⟩; obtain ⟨hc1, hf1⟩ := bcell hb1)
  go_ret
  exact ⟨rfl, bnew hb1⟩
 ·have e : pageBad ⟨b, n, hb, hn⟩ = (bits BinOp.or IntKind.u64 b n % 4096 != 0) := by simp [pageBad, h]
  rw [e]; clear e
  go_enter Tryz.func50, Tryz.ntmps50
  go_wp2_with (go_at_call 28; refine (good_any _ _ _ hb hn).mono ?_; rintro e w1 ⟨rfl, hb1⟩; obtain ⟨hc1, hf1⟩ := bcell hb1)
  go_ret
  exact ⟨rfl, bnew hb1⟩
theorem idx_none (a : Option Addr) (cap : Nat) (f : Value) (w : World) :
  Calls Tryz.prog 78 #[.slice a 0 cap, f] w fun e w' => e = .returned (.int .i64 (-1)) ∧ w = w' := by
 go_enter Tryz.func78, Tryz.ntmps78
 go_wp2
 go_loop [5, 8] (fun _ i => i = .int .i64 0) (fun _ _ => 0)
 case atStart => rfl
 case round =>
  subst hrel
  go_wp2
  go_ret
  exact ⟨rfl, rfl⟩
def idxV (p : Two → Bool) (l : List Two) : Int := Lib.idxBy (fun _ y => p y) l default
theorem idx_any (p : Two → Bool) (g : Nat) (lb : Array Value) (v : Value) (l : List Two) (w : World) (eg : ∀ args w, (callFunc g args).run Tryz.prog w = .ok (.enter g args) w) (hv : RowTwo w v l)
  (hp : PredBelow Tryz.prog g lb (fun x => .agg (Two.enc x).toArray) p w) (hl : l.length ≤ 1099511627776) :
  Calls Tryz.prog 78 #[v, .func (.func g) #[] lb] w fun e w' => e = .returned (.int .i64 (idxV p l)) ∧ Below w.heap.size w w' := by
 rcases hv.parts with ⟨rfl, a, cap, rfl⟩ | ⟨_, b, off, cap, rfl, _, hlt, hcell⟩
 ·refine (idx_none a cap _ w).mono ?_
  rintro e w' ⟨rfl, rfl⟩
  exact ⟨rfl, Below.refl _ _⟩
 ·have h := AnyQ.slices_IndexFunc Tryz.idxSpan 2 Tryz.isAgg28 Tryz.sizeOf28 Two.enc (fun _ => rfl) p g lb eg b off l.length cap l w hp (Nat.le_refl _) (by omega) hlt (cells_enc hcell)
  rw [List.take_length] at h
  exact h
theorem predOf {P : Program} {g : Nat} {lb : Array Value} {p : Two → Bool} {w : World} (h : ∀ (W : World) (x : Two), Below w.heap.size w W → Calls P g (#[.agg #[.int .u64 x.a, .int .u64 x.b]] ++ lb) W fun e w' => e = .returned (.bool (p x)) ∧ Below W.heap.size W w') :
  PredBelow P g lb (fun x => .agg (Two.enc x).toArray) p w :=
 fun W x hb => (h W x hb).mono fun _ _ ⟨he, hb'⟩ => ⟨he, bthen hb hb'⟩
theorem cont_none (a : Option Addr) (cap : Nat) (f : Value) (w : World) :
  Calls Tryz.prog 49 #[.slice a 0 cap, f] w fun e w' => e = .returned (.bool false) ∧ w = w' := by
 go_enter Tryz.func49, Tryz.ntmps49
 go_wp2_with (go_at_call 78; refine (idx_none _ _ _ _).mono ?_; rintro e w1 ⟨rfl, rfl⟩)
 go_ret
 exact ⟨rfl, rfl⟩
theorem pages_any (v : Value) (l : List Two) (w : World) (hv : RowTwo w v l) (hl : l.length ≤ 1099511627776) :
  Calls Tryz.prog 21 #[v] w fun e w' => e = .returned (.bool (!l.any pageBad)) ∧ Below w.heap.size w w' := by
 rcases hv.parts with ⟨rfl, a, cap, rfl⟩ | ⟨_, b, off, cap, rfl, _, hlt, hcell⟩
 ·go_enter Tryz.func21, Tryz.ntmps21
  go_wp2_with (go_at_call 49; refine (cont_none _ _ _ _).mono ?_; rintro e w1 ⟨rfl, rfl⟩)
  go_ret
  exact ⟨rfl, Below.refl _ _⟩
 ·have h := AnyQ.slices_ContainsFunc Tryz.contSpan 2 Tryz.isAgg28 Tryz.sizeOf28 Two.enc (fun _ => rfl) pageBad 50 #[] (enters_of Tryz.func50 (by kernel_rfl) rfl) b off l.length cap l w (predOf fun W x _ => pages1_any x W) (Nat.le_refl _) (by omega) hlt (cells_enc hcell)
  rw [List.take_length] at h
  generalize l.any pageBad = r at *
  change Calls Tryz.prog 49 _ _ _ at h
  clear hcell
  go_enter Tryz.func21, Tryz.ntmps21
  go_wp2_with (go_at_call 49; refine h.mono ?_; rintro e w1 ⟨rfl, hb1⟩)
  go_ret
  exact ⟨rfl, hb1⟩
end Go.Proofs.YtiblhlaemmdphaaGreat
/- The walk of the reference's Pages. -/
namespace Go.Proofs.YtiblhlaemmdphaaGreat
open Go Go.RowKit Go.BigFrame
theorem or_mod (a b : Int) (ha : W64 a) (hb : W64 b) : (bits BinOp.or IntKind.u64 a b % 4096 != 0) = !(decide (a % 4096 = 0) && decide (b % 4096 = 0)) := by
 obtain ⟨ha0, ha1⟩ := ha
 obtain ⟨hb0, hb1⟩ := hb
 obtain ⟨x, rfl⟩ := Int.eq_ofNat_of_zero_le ha0
 obtain ⟨y, rfl⟩ := Int.eq_ofNat_of_zero_le hb0
 rw [bits_or_u64_nat _ _ (by omega) (by omega)]
 have h1 : (x ||| y) % 4096 = (x % 4096) ||| (y % 4096) := Nat.or_mod_two_pow (n := 12)
 have h2 : ((x ||| y) % 4096 = 0) ↔ x % 4096 = 0 ∧ y % 4096 = 0 := by rw [h1, Nat.or_eq_zero_iff]
 rw [Bool.eq_iff_iff]
 simp only [bne_iff_ne, ne_eq, Bool.not_eq_true', Bool.and_eq_false_iff, decide_eq_false_iff_not]
 have e1 : (((x ||| y : Nat) : Int) % 4096 = 0) ↔ (x ||| y) % 4096 = 0 := by omega
 rw [e1, h2]
 omega
theorem pageBad_not (x : Two) : (!(pageBad x)) = (goodB x.a x.b && (decide (x.a % 4096 = 0) && decide (x.b % 4096 = 0))) := by
 unfold pageBad
 rw [or_mod _ _ x.ha x.hb]
 cases goodB x.a x.b <;> simp
set_option maxHeartbeats 1000000 in
theorem refPages_any (x : Two) (w : World) : Calls Tryz.prog 34 #[.agg #[.int .u64 x.a, .int .u64 x.b]] w fun e w' => e = .returned (.bool (!(pageBad x))) ∧ Below w.heap.size w w' := by
 rw [pageBad_not]
 have hxa := x.ha.1
 have hxb := x.hb.1
 cases hg : goodB x.a x.b
 ·go_enter Tryz.func34, Tryz.ntmps34
  go_wp2_with fail
  refine (refGood_any _ _ _ x.ha x.hb).mono ?_; rintro e1 w1 ⟨rfl, hb1⟩
  rw [hg]
  go_wp2_with fail
  go_ret
  exact ⟨rfl, bnew hb1⟩
 ·by_cases h1 : x.a % 4096 = 0
  all_goals
   go_enter Tryz.func34, Tryz.ntmps34
   go_wp2_with fail
   refine (refGood_any _ _ _ x.ha x.hb).mono ?_; rintro e1 w1 ⟨rfl, hb1⟩
   have c0 : w1.cell? ⟨w.heap.size, 0, none⟩ = some (.int .u64 x.a) := cell_lt hb1 (by simp [World.cell?_alloc_new]) (by simp)
   have c1 : w1.cell? ⟨w.heap.size, 1, none⟩ = some (.int .u64 x.b) := cell_lt hb1 (by simp [World.cell?_alloc_new]) (by simp)
   have hW : Below w.heap.size w w1 := bnew hb1
   rw [hg]
   clear hb1
   first | (have q : (x.a % 4096 == 0) = true := by simpa using h1) | (have q : (x.a % 4096 == 0) = false := by simpa using h1)
   go_wp2_with fail
   go_ret
   exact ⟨ret_bool (by rw [Bool.eq_iff_iff]; simp [h1]), hW⟩
end Go.Proofs.YtiblhlaemmdphaaGreat
/- The walks of the reference's Same and of the law's in. Conditions: words of 64 bits; slices below 2^40. -/
namespace Go.Proofs.YtiblhlaemmdphaaGreat
open Go.RowKit
def inV (l : List Two) (at' : Int) : Bool := l.any fun x => hasB x.a x.b at'
end Go.Proofs.YtiblhlaemmdphaaGreat
