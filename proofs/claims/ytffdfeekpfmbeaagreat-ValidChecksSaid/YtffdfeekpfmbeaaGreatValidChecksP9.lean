/- The walks of span.Within and of the reference's Good, Last, Has, Within, Overlap, Pages. Conditions: words of 64 bits. -/
import Derived.Laws.Bits64
import Derived.Test.YtffdfeekpfmbeaaGreatShelf
import Derived.Test.YtffdfeekpfmbeaaGreatValidChecksP4
import Derived.Test.YtffdfeekpfmbeaaGreatValidChecksP6
import Derived.Test.YtffdfeekpfmbeaaGreatValidChecksP7
namespace Go.Proofs.YtffdfeekpfmbeaaGreat
open Go.RowKit

set_option maxHeartbeats 1000000 in
theorem within_any (b n c m : Int) (w : World) (hb : W64 b) (hn : W64 n) (hc : W64 c) (hm : W64 m) :
    Calls Tryz.prog 48 #[.agg #[.int .u64 b, .int .u64 n], .agg #[.int .u64 c, .int .u64 m]] w fun e w' => e = .returned (.bool (withinB b n c m)) ∧ Below w.heap.size w w' := by
  cases h : goodB b n
  · have e : withinB b n c m = false := by unfold withinB; rw [h]; rfl
    rw [e]; clear e
    go_enter Tryz.func48, Tryz.ntmps48
    go_wp2_with fail
    refine region_later (w.heap.size + 2) ((w.alloc (.cells #[.int .u64 b, .int .u64 n] 24)).alloc (.cells #[.int .u64 c, .int .u64 m] 24)) (Below.refl _ _) (by kernel_rfl) (by kernel_rfl) ?_
    have x0 := later_cell (B := w.heap.size + 2) (w0 := ((w.alloc (.cells #[.int .u64 b, .int .u64 n] 24)).alloc (.cells #[.int .u64 c, .int .u64 m] 24))) (b := w.heap.size) (o := 0) (v := .int .u64 b) (by simp [go_sem]) (by omega)
    have x1 := later_cell (B := w.heap.size + 2) (w0 := ((w.alloc (.cells #[.int .u64 b, .int .u64 n] 24)).alloc (.cells #[.int .u64 c, .int .u64 m] 24))) (b := w.heap.size) (o := 1) (v := .int .u64 n) (by simp [go_sem]) (by omega)
    have x2 := later_cell (B := w.heap.size + 2) (w0 := ((w.alloc (.cells #[.int .u64 b, .int .u64 n] 24)).alloc (.cells #[.int .u64 c, .int .u64 m] 24))) (b := w.heap.size + 1) (o := 0) (v := .int .u64 c) (by simp [go_sem]) (by omega)
    have x3 := later_cell (B := w.heap.size + 2) (w0 := ((w.alloc (.cells #[.int .u64 b, .int .u64 n] 24)).alloc (.cells #[.int .u64 c, .int .u64 m] 24))) (b := w.heap.size + 1) (o := 1) (v := .int .u64 m) (by simp [go_sem]) (by omega)
    repeat (quiet_step ((first | (go_at_call 72; exact quiet_later (by simp) (good_any _ _ _ hb hn)))))
    refine wpQuiet_nil ?_
    rintro _ ⟨X, rfl⟩
    go_wp2_with fail
    go_ret
    exact ⟨rfl, bnew (bnew (X.h.mono (by simp)))⟩
  cases h2 : hasB c m b
  · have e : withinB b n c m = false := by unfold withinB; rw [h, h2]; rfl
    rw [e]; clear e
    go_enter Tryz.func48, Tryz.ntmps48
    go_wp2_with fail
    refine region_later (w.heap.size + 2) ((w.alloc (.cells #[.int .u64 b, .int .u64 n] 24)).alloc (.cells #[.int .u64 c, .int .u64 m] 24)) (Below.refl _ _) (by kernel_rfl) (by kernel_rfl) ?_
    have x0 := later_cell (B := w.heap.size + 2) (w0 := ((w.alloc (.cells #[.int .u64 b, .int .u64 n] 24)).alloc (.cells #[.int .u64 c, .int .u64 m] 24))) (b := w.heap.size) (o := 0) (v := .int .u64 b) (by simp [go_sem]) (by omega)
    have x1 := later_cell (B := w.heap.size + 2) (w0 := ((w.alloc (.cells #[.int .u64 b, .int .u64 n] 24)).alloc (.cells #[.int .u64 c, .int .u64 m] 24))) (b := w.heap.size) (o := 1) (v := .int .u64 n) (by simp [go_sem]) (by omega)
    have x2 := later_cell (B := w.heap.size + 2) (w0 := ((w.alloc (.cells #[.int .u64 b, .int .u64 n] 24)).alloc (.cells #[.int .u64 c, .int .u64 m] 24))) (b := w.heap.size + 1) (o := 0) (v := .int .u64 c) (by simp [go_sem]) (by omega)
    have x3 := later_cell (B := w.heap.size + 2) (w0 := ((w.alloc (.cells #[.int .u64 b, .int .u64 n] 24)).alloc (.cells #[.int .u64 c, .int .u64 m] 24))) (b := w.heap.size + 1) (o := 1) (v := .int .u64 m) (by simp [go_sem]) (by omega)
    repeat (quiet_step ((first | (go_at_call 72; exact quiet_later (by simp) (good_any _ _ _ hb hn)) | (go_at_call 60; exact quiet_later (by simp) (has_any _ _ _ _ hc hm)))))
    refine wpQuiet_nil ?_
    rintro _ ⟨X, rfl⟩
    go_wp2_with fail
    go_ret
    exact ⟨rfl, bnew (bnew (X.h.mono (by simp)))⟩
  · have e : withinB b n c m = hasB c m (lastV b n) := by unfold withinB; rw [h, h2]; rfl
    rw [e]; clear e
    go_enter Tryz.func48, Tryz.ntmps48
    go_wp2_with fail
    refine region_later (w.heap.size + 2) ((w.alloc (.cells #[.int .u64 b, .int .u64 n] 24)).alloc (.cells #[.int .u64 c, .int .u64 m] 24)) (Below.refl _ _) (by kernel_rfl) (by kernel_rfl) ?_
    have x0 := later_cell (B := w.heap.size + 2) (w0 := ((w.alloc (.cells #[.int .u64 b, .int .u64 n] 24)).alloc (.cells #[.int .u64 c, .int .u64 m] 24))) (b := w.heap.size) (o := 0) (v := .int .u64 b) (by simp [go_sem]) (by omega)
    have x1 := later_cell (B := w.heap.size + 2) (w0 := ((w.alloc (.cells #[.int .u64 b, .int .u64 n] 24)).alloc (.cells #[.int .u64 c, .int .u64 m] 24))) (b := w.heap.size) (o := 1) (v := .int .u64 n) (by simp [go_sem]) (by omega)
    have x2 := later_cell (B := w.heap.size + 2) (w0 := ((w.alloc (.cells #[.int .u64 b, .int .u64 n] 24)).alloc (.cells #[.int .u64 c, .int .u64 m] 24))) (b := w.heap.size + 1) (o := 0) (v := .int .u64 c) (by simp [go_sem]) (by omega)
    have x3 := later_cell (B := w.heap.size + 2) (w0 := ((w.alloc (.cells #[.int .u64 b, .int .u64 n] 24)).alloc (.cells #[.int .u64 c, .int .u64 m] 24))) (b := w.heap.size + 1) (o := 1) (v := .int .u64 m) (by simp [go_sem]) (by omega)
    repeat (quiet_step ((first | (go_at_call 72; exact quiet_later (by simp) (good_any _ _ _ hb hn)) | (go_at_call 60; exact quiet_later (by simp) (has_any _ _ _ _ hc hm)) | (go_at_call 47; exact quiet_later (by simp) (last_any _ _ _ hb hn)))))
    refine wpQuiet_nil ?_
    rintro _ ⟨X, rfl⟩
    go_wp2_with fail
    go_ret
    exact ⟨rfl, bnew (bnew (X.h.mono (by simp)))⟩

set_option maxHeartbeats 400000 in
theorem refGood_any (b n : Int) (w : World) (hb : W64 b) (hn : W64 n) :
    Calls Tryz.prog 44 #[.agg #[.int .u64 b, .int .u64 n]] w fun e w' => e = .returned (.bool (goodB b n)) ∧ Below w.heap.size w w' := by
  obtain ⟨b0, b1⟩ := hb
  obtain ⟨n0, n1⟩ := hn
  by_cases h : 0 < n
  · go_enter Tryz.func44, Tryz.ntmps44
    go_wp2
    go_ret
    exact ⟨ret_bool (by unfold goodB; rw [decide_eq_true h, Bool.true_and, Bool.eq_iff_iff]; simp; omega), bone _ _⟩
  · go_enter Tryz.func44, Tryz.ntmps44
    go_wp2
    go_ret
    exact ⟨ret_bool (by unfold goodB; rw [decide_eq_false (show ¬ 0 < n by omega)]; rfl), bone _ _⟩

set_option maxHeartbeats 400000 in
theorem refLast_any (b n : Int) (w : World) (hb : W64 b) (hn : W64 n) :
    Calls Tryz.prog 31 #[.agg #[.int .u64 b, .int .u64 n]] w fun e w' => e = .returned (.int .u64 (lastV b n)) ∧ Below w.heap.size w w' := by
  cases h : goodB b n
  · have e := Lib.hid (lastV_no h)
    go_enter Tryz.func31, Tryz.ntmps31
    go_wp2_with (go_at_call 44; refine (refGood_any _ _ _ hb hn).mono ?_; rintro e w1 ⟨rfl, hb1⟩)
    go_ret
    exact ⟨ret_u64 e.out.symm, bnew hb1⟩
  · have e := Lib.hid (lastV_yes h)
    have hi := goodB_iff.1 h
    obtain ⟨b0, b1⟩ := id hb
    obtain ⟨n0, n1⟩ := id hn
    obtain ⟨g1, g2⟩ := hi
    go_enter Tryz.func31, Tryz.ntmps31
    go_wp2_with (go_at_call 44; refine (refGood_any _ _ _ hb hn).mono ?_; rintro e w1 ⟨rfl, hb1⟩; obtain ⟨hc1, hf1⟩ := bcell hb1)
    go_ret
    exact ⟨ret_u64 (by rw [e.out]), bnew hb1⟩

set_option maxHeartbeats 400000 in
theorem refHas_any (b n a : Int) (w : World) (hb : W64 b) (hn : W64 n) (ha : W64 a) :
    Calls Tryz.prog 39 #[.agg #[.int .u64 b, .int .u64 n], .int .u64 a] w fun e w' => e = .returned (.bool (hasB b n a)) ∧ Below w.heap.size w w' := by
  obtain ⟨b0, b1⟩ := id hb
  obtain ⟨n0, n1⟩ := id hn
  obtain ⟨a0, a1⟩ := id ha
  cases h : goodB b n
  · have e : hasB b n a = false := by unfold hasB; rw [h]; rfl
    rw [e]; clear e
    go_enter Tryz.func39, Tryz.ntmps39
    go_wp2_with (go_at_call 44; refine (refGood_any _ _ _ hb hn).mono ?_; rintro e w1 ⟨rfl, hb1⟩)
    go_ret
    exact ⟨rfl, bnew hb1⟩
  · by_cases h2 : b ≤ a
    · have e : hasB b n a = decide (a - b < n) := by rw [Bool.eq_iff_iff, hasB_iff, h]; simp; omega
      rw [e]; clear e
      go_enter Tryz.func39, Tryz.ntmps39
      go_wp2_with (go_at_call 44; refine (refGood_any _ _ _ hb hn).mono ?_; rintro e w1 ⟨rfl, hb1⟩; obtain ⟨hc1, hf1⟩ := bcell hb1)
      go_ret
      exact ⟨rfl, bnew hb1⟩
    · have e : hasB b n a = false := by unfold hasB; rw [h, decide_eq_false h2]; rfl
      rw [e]; clear e
      go_enter Tryz.func39, Tryz.ntmps39
      go_wp2_with (go_at_call 44; refine (refGood_any _ _ _ hb hn).mono ?_; rintro e w1 ⟨rfl, hb1⟩; obtain ⟨hc1, hf1⟩ := bcell hb1)
      go_ret
      exact ⟨rfl, bnew hb1⟩

set_option maxHeartbeats 1000000 in
theorem refWithin_any (b n c m : Int) (w : World) (hb : W64 b) (hn : W64 n) (hc : W64 c) (hm : W64 m) :
    Calls Tryz.prog 32 #[.agg #[.int .u64 b, .int .u64 n], .agg #[.int .u64 c, .int .u64 m]] w fun e w' => e = .returned (.bool (withinB b n c m)) ∧ Below w.heap.size w w' := by
  cases h : goodB b n
  · have e : withinB b n c m = false := by unfold withinB; rw [h]; rfl
    rw [e]; clear e
    go_enter Tryz.func32, Tryz.ntmps32
    go_wp2_with fail
    refine region_later (w.heap.size + 2) ((w.alloc (.cells #[.int .u64 b, .int .u64 n] 24)).alloc (.cells #[.int .u64 c, .int .u64 m] 24)) (Below.refl _ _) (by kernel_rfl) (by kernel_rfl) ?_
    have x0 := later_cell (B := w.heap.size + 2) (w0 := ((w.alloc (.cells #[.int .u64 b, .int .u64 n] 24)).alloc (.cells #[.int .u64 c, .int .u64 m] 24))) (b := w.heap.size) (o := 0) (v := .int .u64 b) (by simp [go_sem]) (by omega)
    have x1 := later_cell (B := w.heap.size + 2) (w0 := ((w.alloc (.cells #[.int .u64 b, .int .u64 n] 24)).alloc (.cells #[.int .u64 c, .int .u64 m] 24))) (b := w.heap.size) (o := 1) (v := .int .u64 n) (by simp [go_sem]) (by omega)
    have x2 := later_cell (B := w.heap.size + 2) (w0 := ((w.alloc (.cells #[.int .u64 b, .int .u64 n] 24)).alloc (.cells #[.int .u64 c, .int .u64 m] 24))) (b := w.heap.size + 1) (o := 0) (v := .int .u64 c) (by simp [go_sem]) (by omega)
    have x3 := later_cell (B := w.heap.size + 2) (w0 := ((w.alloc (.cells #[.int .u64 b, .int .u64 n] 24)).alloc (.cells #[.int .u64 c, .int .u64 m] 24))) (b := w.heap.size + 1) (o := 1) (v := .int .u64 m) (by simp [go_sem]) (by omega)
    repeat (quiet_step ((first | (go_at_call_of 44 (Value.agg #[.int .u64 b, .int .u64 n]); exact quiet_later (by simp) (refGood_any _ _ _ hb hn)))))
    refine wpQuiet_nil ?_
    rintro _ ⟨X, rfl⟩
    go_wp2_with fail
    go_ret
    exact ⟨rfl, bnew (bnew (X.h.mono (by simp)))⟩
  cases h2 : goodB c m
  · have e : withinB b n c m = false := by rw [Bool.eq_false_iff, ne_eq, withinB_iff, h2]; simp
    rw [e]; clear e
    go_enter Tryz.func32, Tryz.ntmps32
    go_wp2_with fail
    refine region_later (w.heap.size + 2) ((w.alloc (.cells #[.int .u64 b, .int .u64 n] 24)).alloc (.cells #[.int .u64 c, .int .u64 m] 24)) (Below.refl _ _) (by kernel_rfl) (by kernel_rfl) ?_
    have x0 := later_cell (B := w.heap.size + 2) (w0 := ((w.alloc (.cells #[.int .u64 b, .int .u64 n] 24)).alloc (.cells #[.int .u64 c, .int .u64 m] 24))) (b := w.heap.size) (o := 0) (v := .int .u64 b) (by simp [go_sem]) (by omega)
    have x1 := later_cell (B := w.heap.size + 2) (w0 := ((w.alloc (.cells #[.int .u64 b, .int .u64 n] 24)).alloc (.cells #[.int .u64 c, .int .u64 m] 24))) (b := w.heap.size) (o := 1) (v := .int .u64 n) (by simp [go_sem]) (by omega)
    have x2 := later_cell (B := w.heap.size + 2) (w0 := ((w.alloc (.cells #[.int .u64 b, .int .u64 n] 24)).alloc (.cells #[.int .u64 c, .int .u64 m] 24))) (b := w.heap.size + 1) (o := 0) (v := .int .u64 c) (by simp [go_sem]) (by omega)
    have x3 := later_cell (B := w.heap.size + 2) (w0 := ((w.alloc (.cells #[.int .u64 b, .int .u64 n] 24)).alloc (.cells #[.int .u64 c, .int .u64 m] 24))) (b := w.heap.size + 1) (o := 1) (v := .int .u64 m) (by simp [go_sem]) (by omega)
    repeat (quiet_step ((first | (go_at_call_of 44 (Value.agg #[.int .u64 b, .int .u64 n]); exact quiet_later (by simp) (refGood_any _ _ _ hb hn)) | (go_at_call_of 44 (Value.agg #[.int .u64 c, .int .u64 m]); exact quiet_later (by simp) (refGood_any _ _ _ hc hm)))))
    refine wpQuiet_nil ?_
    rintro _ ⟨X, rfl⟩
    go_wp2_with fail
    go_ret
    exact ⟨rfl, bnew (bnew (X.h.mono (by simp)))⟩
  have hi := goodB_iff.1 h
  have hj := goodB_iff.1 h2
  have l1 := lastV_yes h
  have l2 := lastV_yes h2
  by_cases h3 : c ≤ b
  · have e : withinB b n c m = decide (lastV b n ≤ lastV c m) := by rw [Bool.eq_iff_iff, withinB_iff, h, h2]; simp; omega
    rw [e]; clear e hi hj l1 l2
    go_enter Tryz.func32, Tryz.ntmps32
    go_wp2_with fail
    refine region_later (w.heap.size + 2) ((w.alloc (.cells #[.int .u64 b, .int .u64 n] 24)).alloc (.cells #[.int .u64 c, .int .u64 m] 24)) (Below.refl _ _) (by kernel_rfl) (by kernel_rfl) ?_
    have x0 := later_cell (B := w.heap.size + 2) (w0 := ((w.alloc (.cells #[.int .u64 b, .int .u64 n] 24)).alloc (.cells #[.int .u64 c, .int .u64 m] 24))) (b := w.heap.size) (o := 0) (v := .int .u64 b) (by simp [go_sem]) (by omega)
    have x1 := later_cell (B := w.heap.size + 2) (w0 := ((w.alloc (.cells #[.int .u64 b, .int .u64 n] 24)).alloc (.cells #[.int .u64 c, .int .u64 m] 24))) (b := w.heap.size) (o := 1) (v := .int .u64 n) (by simp [go_sem]) (by omega)
    have x2 := later_cell (B := w.heap.size + 2) (w0 := ((w.alloc (.cells #[.int .u64 b, .int .u64 n] 24)).alloc (.cells #[.int .u64 c, .int .u64 m] 24))) (b := w.heap.size + 1) (o := 0) (v := .int .u64 c) (by simp [go_sem]) (by omega)
    have x3 := later_cell (B := w.heap.size + 2) (w0 := ((w.alloc (.cells #[.int .u64 b, .int .u64 n] 24)).alloc (.cells #[.int .u64 c, .int .u64 m] 24))) (b := w.heap.size + 1) (o := 1) (v := .int .u64 m) (by simp [go_sem]) (by omega)
    repeat (quiet_step ((first | (go_at_call_of 44 (Value.agg #[.int .u64 b, .int .u64 n]); exact quiet_later (by simp) (refGood_any _ _ _ hb hn)) | (go_at_call_of 44 (Value.agg #[.int .u64 c, .int .u64 m]); exact quiet_later (by simp) (refGood_any _ _ _ hc hm)) | (go_at_call_of 31 (Value.agg #[.int .u64 b, .int .u64 n]); exact quiet_later (by simp) (refLast_any _ _ _ hb hn)) | (go_at_call_of 31 (Value.agg #[.int .u64 c, .int .u64 m]); exact quiet_later (by simp) (refLast_any _ _ _ hc hm)))))
    refine wpQuiet_nil ?_
    rintro _ ⟨X, rfl⟩
    go_wp2_with fail
    go_ret
    exact ⟨rfl, bnew (bnew (X.h.mono (by simp)))⟩
  · have e : withinB b n c m = false := by rw [Bool.eq_false_iff, ne_eq, withinB_iff, h, h2]; simp; omega
    have h4 : decide (c ≤ b) = false := by simpa using h3
    rw [e]; clear e hi hj l1 l2 h3
    go_enter Tryz.func32, Tryz.ntmps32
    go_wp2_with fail
    refine region_later (w.heap.size + 2) ((w.alloc (.cells #[.int .u64 b, .int .u64 n] 24)).alloc (.cells #[.int .u64 c, .int .u64 m] 24)) (Below.refl _ _) (by kernel_rfl) (by kernel_rfl) ?_
    have x0 := later_cell (B := w.heap.size + 2) (w0 := ((w.alloc (.cells #[.int .u64 b, .int .u64 n] 24)).alloc (.cells #[.int .u64 c, .int .u64 m] 24))) (b := w.heap.size) (o := 0) (v := .int .u64 b) (by simp [go_sem]) (by omega)
    have x1 := later_cell (B := w.heap.size + 2) (w0 := ((w.alloc (.cells #[.int .u64 b, .int .u64 n] 24)).alloc (.cells #[.int .u64 c, .int .u64 m] 24))) (b := w.heap.size) (o := 1) (v := .int .u64 n) (by simp [go_sem]) (by omega)
    have x2 := later_cell (B := w.heap.size + 2) (w0 := ((w.alloc (.cells #[.int .u64 b, .int .u64 n] 24)).alloc (.cells #[.int .u64 c, .int .u64 m] 24))) (b := w.heap.size + 1) (o := 0) (v := .int .u64 c) (by simp [go_sem]) (by omega)
    have x3 := later_cell (B := w.heap.size + 2) (w0 := ((w.alloc (.cells #[.int .u64 b, .int .u64 n] 24)).alloc (.cells #[.int .u64 c, .int .u64 m] 24))) (b := w.heap.size + 1) (o := 1) (v := .int .u64 m) (by simp [go_sem]) (by omega)
    repeat (quiet_step ((first | (go_at_call_of 44 (Value.agg #[.int .u64 b, .int .u64 n]); exact quiet_later (by simp) (refGood_any _ _ _ hb hn)) | (go_at_call_of 44 (Value.agg #[.int .u64 c, .int .u64 m]); exact quiet_later (by simp) (refGood_any _ _ _ hc hm)) | (go_at_call_of 31 (Value.agg #[.int .u64 b, .int .u64 n]); exact quiet_later (by simp) (refLast_any _ _ _ hb hn)) | (go_at_call_of 31 (Value.agg #[.int .u64 c, .int .u64 m]); exact quiet_later (by simp) (refLast_any _ _ _ hc hm)))))
    refine wpQuiet_nil ?_
    rintro _ ⟨X, rfl⟩
    go_wp2_with fail
    go_ret
    exact ⟨rfl, bnew (bnew (X.h.mono (by simp)))⟩

set_option maxHeartbeats 1000000 in
theorem refOverlap_any (b n c m : Int) (w : World) (hb : W64 b) (hn : W64 n) (hc : W64 c) (hm : W64 m) :
    Calls Tryz.prog 38 #[.agg #[.int .u64 b, .int .u64 n], .agg #[.int .u64 c, .int .u64 m]] w fun e w' => e = .returned (.bool (overlapB b n c m)) ∧ Below w.heap.size w w' := by
  cases h : goodB b n
  · have e : overlapB b n c m = false := by unfold overlapB; rw [h]; rfl
    rw [e]; clear e
    go_enter Tryz.func38, Tryz.ntmps38
    go_wp2_with fail
    refine region_later (w.heap.size + 2) ((w.alloc (.cells #[.int .u64 b, .int .u64 n] 24)).alloc (.cells #[.int .u64 c, .int .u64 m] 24)) (Below.refl _ _) (by kernel_rfl) (by kernel_rfl) ?_
    have x0 := later_cell (B := w.heap.size + 2) (w0 := ((w.alloc (.cells #[.int .u64 b, .int .u64 n] 24)).alloc (.cells #[.int .u64 c, .int .u64 m] 24))) (b := w.heap.size) (o := 0) (v := .int .u64 b) (by simp [go_sem]) (by omega)
    have x1 := later_cell (B := w.heap.size + 2) (w0 := ((w.alloc (.cells #[.int .u64 b, .int .u64 n] 24)).alloc (.cells #[.int .u64 c, .int .u64 m] 24))) (b := w.heap.size) (o := 1) (v := .int .u64 n) (by simp [go_sem]) (by omega)
    have x2 := later_cell (B := w.heap.size + 2) (w0 := ((w.alloc (.cells #[.int .u64 b, .int .u64 n] 24)).alloc (.cells #[.int .u64 c, .int .u64 m] 24))) (b := w.heap.size + 1) (o := 0) (v := .int .u64 c) (by simp [go_sem]) (by omega)
    have x3 := later_cell (B := w.heap.size + 2) (w0 := ((w.alloc (.cells #[.int .u64 b, .int .u64 n] 24)).alloc (.cells #[.int .u64 c, .int .u64 m] 24))) (b := w.heap.size + 1) (o := 1) (v := .int .u64 m) (by simp [go_sem]) (by omega)
    repeat (quiet_step ((first | (go_at_call_of 44 (Value.agg #[.int .u64 b, .int .u64 n]); exact quiet_later (by simp) (refGood_any _ _ _ hb hn)))))
    refine wpQuiet_nil ?_
    rintro _ ⟨X, rfl⟩
    go_wp2_with fail
    go_ret
    exact ⟨rfl, bnew (bnew (X.h.mono (by simp)))⟩
  cases h2 : goodB c m
  · have e : overlapB b n c m = false := by rw [Bool.eq_false_iff, ne_eq, overlapB_iff, h2]; simp
    rw [e]; clear e
    go_enter Tryz.func38, Tryz.ntmps38
    go_wp2_with fail
    refine region_later (w.heap.size + 2) ((w.alloc (.cells #[.int .u64 b, .int .u64 n] 24)).alloc (.cells #[.int .u64 c, .int .u64 m] 24)) (Below.refl _ _) (by kernel_rfl) (by kernel_rfl) ?_
    have x0 := later_cell (B := w.heap.size + 2) (w0 := ((w.alloc (.cells #[.int .u64 b, .int .u64 n] 24)).alloc (.cells #[.int .u64 c, .int .u64 m] 24))) (b := w.heap.size) (o := 0) (v := .int .u64 b) (by simp [go_sem]) (by omega)
    have x1 := later_cell (B := w.heap.size + 2) (w0 := ((w.alloc (.cells #[.int .u64 b, .int .u64 n] 24)).alloc (.cells #[.int .u64 c, .int .u64 m] 24))) (b := w.heap.size) (o := 1) (v := .int .u64 n) (by simp [go_sem]) (by omega)
    have x2 := later_cell (B := w.heap.size + 2) (w0 := ((w.alloc (.cells #[.int .u64 b, .int .u64 n] 24)).alloc (.cells #[.int .u64 c, .int .u64 m] 24))) (b := w.heap.size + 1) (o := 0) (v := .int .u64 c) (by simp [go_sem]) (by omega)
    have x3 := later_cell (B := w.heap.size + 2) (w0 := ((w.alloc (.cells #[.int .u64 b, .int .u64 n] 24)).alloc (.cells #[.int .u64 c, .int .u64 m] 24))) (b := w.heap.size + 1) (o := 1) (v := .int .u64 m) (by simp [go_sem]) (by omega)
    repeat (quiet_step ((first | (go_at_call_of 44 (Value.agg #[.int .u64 b, .int .u64 n]); exact quiet_later (by simp) (refGood_any _ _ _ hb hn)) | (go_at_call_of 44 (Value.agg #[.int .u64 c, .int .u64 m]); exact quiet_later (by simp) (refGood_any _ _ _ hc hm)))))
    refine wpQuiet_nil ?_
    rintro _ ⟨X, rfl⟩
    go_wp2_with fail
    go_ret
    exact ⟨rfl, bnew (bnew (X.h.mono (by simp)))⟩
  have hi := goodB_iff.1 h
  have hj := goodB_iff.1 h2
  have l1 := lastV_yes h
  have l2 := lastV_yes h2
  by_cases h3 : b ≤ lastV c m
  · have e : overlapB b n c m = decide (c ≤ lastV b n) := by rw [Bool.eq_iff_iff, overlapB_iff, h, h2]; simp; omega
    rw [e]; clear e hi hj l1 l2
    go_enter Tryz.func38, Tryz.ntmps38
    go_wp2_with fail
    refine region_later (w.heap.size + 2) ((w.alloc (.cells #[.int .u64 b, .int .u64 n] 24)).alloc (.cells #[.int .u64 c, .int .u64 m] 24)) (Below.refl _ _) (by kernel_rfl) (by kernel_rfl) ?_
    have x0 := later_cell (B := w.heap.size + 2) (w0 := ((w.alloc (.cells #[.int .u64 b, .int .u64 n] 24)).alloc (.cells #[.int .u64 c, .int .u64 m] 24))) (b := w.heap.size) (o := 0) (v := .int .u64 b) (by simp [go_sem]) (by omega)
    have x1 := later_cell (B := w.heap.size + 2) (w0 := ((w.alloc (.cells #[.int .u64 b, .int .u64 n] 24)).alloc (.cells #[.int .u64 c, .int .u64 m] 24))) (b := w.heap.size) (o := 1) (v := .int .u64 n) (by simp [go_sem]) (by omega)
    have x2 := later_cell (B := w.heap.size + 2) (w0 := ((w.alloc (.cells #[.int .u64 b, .int .u64 n] 24)).alloc (.cells #[.int .u64 c, .int .u64 m] 24))) (b := w.heap.size + 1) (o := 0) (v := .int .u64 c) (by simp [go_sem]) (by omega)
    have x3 := later_cell (B := w.heap.size + 2) (w0 := ((w.alloc (.cells #[.int .u64 b, .int .u64 n] 24)).alloc (.cells #[.int .u64 c, .int .u64 m] 24))) (b := w.heap.size + 1) (o := 1) (v := .int .u64 m) (by simp [go_sem]) (by omega)
    repeat (quiet_step ((first | (go_at_call_of 44 (Value.agg #[.int .u64 b, .int .u64 n]); exact quiet_later (by simp) (refGood_any _ _ _ hb hn)) | (go_at_call_of 44 (Value.agg #[.int .u64 c, .int .u64 m]); exact quiet_later (by simp) (refGood_any _ _ _ hc hm)) | (go_at_call_of 31 (Value.agg #[.int .u64 b, .int .u64 n]); exact quiet_later (by simp) (refLast_any _ _ _ hb hn)) | (go_at_call_of 31 (Value.agg #[.int .u64 c, .int .u64 m]); exact quiet_later (by simp) (refLast_any _ _ _ hc hm)))))
    refine wpQuiet_nil ?_
    rintro _ ⟨X, rfl⟩
    go_wp2_with fail
    go_ret
    exact ⟨rfl, bnew (bnew (X.h.mono (by simp)))⟩
  · have e : overlapB b n c m = false := by rw [Bool.eq_false_iff, ne_eq, overlapB_iff, h, h2]; simp; omega
    have h4 : decide (b ≤ lastV c m) = false := by simpa using h3
    rw [e]; clear e hi hj l1 l2 h3
    go_enter Tryz.func38, Tryz.ntmps38
    go_wp2_with fail
    refine region_later (w.heap.size + 2) ((w.alloc (.cells #[.int .u64 b, .int .u64 n] 24)).alloc (.cells #[.int .u64 c, .int .u64 m] 24)) (Below.refl _ _) (by kernel_rfl) (by kernel_rfl) ?_
    have x0 := later_cell (B := w.heap.size + 2) (w0 := ((w.alloc (.cells #[.int .u64 b, .int .u64 n] 24)).alloc (.cells #[.int .u64 c, .int .u64 m] 24))) (b := w.heap.size) (o := 0) (v := .int .u64 b) (by simp [go_sem]) (by omega)
    have x1 := later_cell (B := w.heap.size + 2) (w0 := ((w.alloc (.cells #[.int .u64 b, .int .u64 n] 24)).alloc (.cells #[.int .u64 c, .int .u64 m] 24))) (b := w.heap.size) (o := 1) (v := .int .u64 n) (by simp [go_sem]) (by omega)
    have x2 := later_cell (B := w.heap.size + 2) (w0 := ((w.alloc (.cells #[.int .u64 b, .int .u64 n] 24)).alloc (.cells #[.int .u64 c, .int .u64 m] 24))) (b := w.heap.size + 1) (o := 0) (v := .int .u64 c) (by simp [go_sem]) (by omega)
    have x3 := later_cell (B := w.heap.size + 2) (w0 := ((w.alloc (.cells #[.int .u64 b, .int .u64 n] 24)).alloc (.cells #[.int .u64 c, .int .u64 m] 24))) (b := w.heap.size + 1) (o := 1) (v := .int .u64 m) (by simp [go_sem]) (by omega)
    repeat (quiet_step ((first | (go_at_call_of 44 (Value.agg #[.int .u64 b, .int .u64 n]); exact quiet_later (by simp) (refGood_any _ _ _ hb hn)) | (go_at_call_of 44 (Value.agg #[.int .u64 c, .int .u64 m]); exact quiet_later (by simp) (refGood_any _ _ _ hc hm)) | (go_at_call_of 31 (Value.agg #[.int .u64 b, .int .u64 n]); exact quiet_later (by simp) (refLast_any _ _ _ hb hn)) | (go_at_call_of 31 (Value.agg #[.int .u64 c, .int .u64 m]); exact quiet_later (by simp) (refLast_any _ _ _ hc hm)))))
    refine wpQuiet_nil ?_
    rintro _ ⟨X, rfl⟩
    go_wp2_with fail
    go_ret
    exact ⟨rfl, bnew (bnew (X.h.mono (by simp)))⟩

end Go.Proofs.YtffdfeekpfmbeaaGreat
/- The walks of span.Pages and span.First with their closures, and of the reference's First. Conditions: words of 64 bits; slices below 2^40. -/
namespace Go.Proofs.YtffdfeekpfmbeaaGreat
open Go.RowKit Go.Shelf

def pageBad (x : Two) : Bool := !goodB x.a x.b || bits BinOp.or IntKind.u64 x.a x.b % 4096 != 0

set_option maxHeartbeats 400000 in
theorem pages1_any (x : Two) (w : World) :
    Calls Tryz.prog 79 #[.agg #[.int .u64 x.a, .int .u64 x.b]] w fun e w' => e = .returned (.bool (pageBad x)) ∧ Below w.heap.size w w' := by
  obtain ⟨b, n, hb, hn⟩ := x
  dsimp only
  have hp : 0 ≤ bits BinOp.or IntKind.u64 b n := by unfold bits; exact wrap_u64_nonneg _
  cases h : goodB b n
  · have e : pageBad ⟨b, n, hb, hn⟩ = true := by simp [pageBad, h]
    rw [e]; clear e
    go_enter Tryz.func79, Tryz.ntmps79
    go_wp2_with (go_at_call 72; refine (good_any _ _ _ hb hn).mono ?_; rintro e w1 ⟨rfl, hb1⟩; obtain ⟨hc1, hf1⟩ := bcell hb1)
    go_ret
    exact ⟨rfl, bnew hb1⟩
  · have e : pageBad ⟨b, n, hb, hn⟩ = (bits BinOp.or IntKind.u64 b n % 4096 != 0) := by simp [pageBad, h]
    rw [e]; clear e
    go_enter Tryz.func79, Tryz.ntmps79
    go_wp2_with (go_at_call 72; refine (good_any _ _ _ hb hn).mono ?_; rintro e w1 ⟨rfl, hb1⟩; obtain ⟨hc1, hf1⟩ := bcell hb1)
    go_ret
    exact ⟨rfl, bnew hb1⟩

/-- Over a slice of no elements nothing is asked. -/
theorem idx_none (a : Option Addr) (cap : Nat) (f : Value) (w : World) :
    Calls Tryz.prog 88 #[.slice a 0 cap, f] w fun e w' => e = .returned (.int .i64 (-1)) ∧ w = w' := by
  go_enter Tryz.func88, Tryz.ntmps88
  go_wp2
  go_loop [5, 8] (fun _ i => i = .int .i64 0) (fun _ _ => 0)
  case atStart => rfl
  case round =>
    subst hrel
    go_wp2
    go_ret
    exact ⟨rfl, rfl⟩

def idxV (p : Two → Bool) (l : List Two) : Int := Lib.idxBy (fun _ y => p y) l default

theorem idx_any (p : Two → Bool) (g : Nat) (lb : Array Value) (v : Value) (l : List Two) (w : World) (eg : ∀ args w, (callFunc g args).run Tryz.prog w = .ok (.enter g args) w) (hv : RowTwo w v l)
    (hp : PredBelow Tryz.prog g lb (fun x => .agg (Two.enc x).toArray) p w) (hl : l.length ≤ 1099511627776) :
    Calls Tryz.prog 88 #[v, .func (.func g) #[] lb] w fun e w' => e = .returned (.int .i64 (idxV p l)) ∧ Below w.heap.size w w' := by
  rcases hv.parts with ⟨rfl, a, cap, rfl⟩ | ⟨_, b, off, cap, rfl, _, hlt, hcell⟩
  · refine (idx_none a cap _ w).mono ?_
    rintro e w' ⟨rfl, rfl⟩
    exact ⟨rfl, Below.refl _ _⟩
  · have h := AnyQ.slices_IndexFunc Tryz.idxSpan 2 Tryz.isAgg24 Tryz.sizeOf24 Two.enc (fun _ => rfl) p g lb eg b off l.length cap l w hp (Nat.le_refl _) (by omega) hlt (cells_enc hcell)
    rw [List.take_length] at h
    exact h

theorem predOf {P : Program} {g : Nat} {lb : Array Value} {p : Two → Bool} {w : World} (h : ∀ (W : World) (x : Two), Below w.heap.size w W → Calls P g (#[.agg #[.int .u64 x.a, .int .u64 x.b]] ++ lb) W fun e w' => e = .returned (.bool (p x)) ∧ Below W.heap.size W w') :
    PredBelow P g lb (fun x => .agg (Two.enc x).toArray) p w :=
  fun W x hb => (h W x hb).mono fun _ _ ⟨he, hb'⟩ => ⟨he, bthen hb hb'⟩

theorem cont_none (a : Option Addr) (cap : Nat) (f : Value) (w : World) :
    Calls Tryz.prog 66 #[.slice a 0 cap, f] w fun e w' => e = .returned (.bool false) ∧ w = w' := by
  go_enter Tryz.func66, Tryz.ntmps66
  go_wp2_with (go_at_call 88; refine (idx_none _ _ _ _).mono ?_; rintro e w1 ⟨rfl, rfl⟩)
  go_ret
  exact ⟨rfl, rfl⟩

theorem pages_any (v : Value) (l : List Two) (w : World) (hv : RowTwo w v l) (hl : l.length ≤ 1099511627776) :
    Calls Tryz.prog 46 #[v] w fun e w' => e = .returned (.bool (!l.any pageBad)) ∧ Below w.heap.size w w' := by
  rcases hv.parts with ⟨rfl, a, cap, rfl⟩ | ⟨_, b, off, cap, rfl, _, hlt, hcell⟩
  · go_enter Tryz.func46, Tryz.ntmps46
    go_wp2_with (go_at_call 66; refine (cont_none _ _ _ _).mono ?_; rintro e w1 ⟨rfl, rfl⟩)
    go_ret
    exact ⟨rfl, Below.refl _ _⟩
  · have h := AnyQ.slices_ContainsFunc Tryz.contSpan 2 Tryz.isAgg24 Tryz.sizeOf24 Two.enc (fun _ => rfl) pageBad 79 #[] (enters_of Tryz.func79 (by kernel_rfl) rfl) b off l.length cap l w (predOf fun W x _ => pages1_any x W) (Nat.le_refl _) (by omega) hlt (cells_enc hcell)
    rw [List.take_length] at h
    generalize l.any pageBad = r at *
    change Calls Tryz.prog 66 _ _ _ at h
    clear hcell
    go_enter Tryz.func46, Tryz.ntmps46
    go_wp2_with (go_at_call 66; refine h.mono ?_; rintro e w1 ⟨rfl, hb1⟩)
    go_ret
    exact ⟨rfl, hb1⟩

theorem first1_any (x s : Two) (B : Nat) (w : World) (h0 : w.cell? ⟨B, 0, none⟩ = some (.int .u64 s.a)) (h1 : w.cell? ⟨B, 1, none⟩ = some (.int .u64 s.b)) (hB : B < w.heap.size) :
    Calls Tryz.prog 87 #[.agg #[.int .u64 x.a, .int .u64 x.b], .pointer (some ⟨B, 0, none⟩)] w fun e w' => e = .returned (.bool (overlapB x.a x.b s.a s.b)) ∧ Below w.heap.size w w' := by
  have hne : ¬ B = w.heap.size := by omega
  go_enter Tryz.func87, Tryz.ntmps87
  go_wp2_with (go_at_call 59; refine (overlap_any _ _ _ _ _ x.ha x.hb s.ha s.hb).mono ?_; rintro e w1 ⟨rfl, hb1⟩)
  go_ret
  exact ⟨rfl, bnew hb1⟩

def ovl (l : List Two) (j : Nat) (x : Two) : Bool := overlapB x.a x.b l[j]!.a l[j]!.b
def firstFrom (l : List Two) : Nat → Nat → Int × Int × Bool
  | 0, _ => (0, 0, false)
  | k + 1, j => if 0 ≤ idxV (ovl l j) (l.take j) then (idxV (ovl l j) (l.take j), j, true) else firstFrom l k (j + 1)
/-- The first pair that overlaps. -/
def firstV (l : List Two) : Int × Int × Bool := firstFrom l l.length 0
theorem firstV_hit {l : List Two} {k : Nat} (hk : k < l.length) (h : firstV l = firstFrom l (l.length - k) k) (hi : 0 ≤ idxV (ovl l k) (l.take k)) : firstV l = (idxV (ovl l k) (l.take k), (k : Int), true) := by
  rw [h, show l.length - k = (l.length - k - 1) + 1 by omega]
  simp only [firstFrom]
  rw [if_pos hi]
theorem firstV_miss {l : List Two} {k : Nat} (hk : k < l.length) (h : firstV l = firstFrom l (l.length - k) k) (hi : idxV (ovl l k) (l.take k) < 0) : firstV l = firstFrom l (l.length - (k + 1)) (k + 1) := by
  rw [h, show l.length - k = (l.length - (k + 1)) + 1 by omega]
  simp only [firstFrom]
  rw [if_neg (by omega)]

set_option maxHeartbeats 1000000 in
theorem first_any (v : Value) (l : List Two) (w : World) (hv : RowTwo w v l) (hl : l.length ≤ 1099511627776) :
    Calls Tryz.prog 64 #[v] w fun e w' => e = .returned (.tuple #[.int .i64 (firstV l).1, .int .i64 (firstV l).2.1, .bool (firstV l).2.2]) ∧ Below w.heap.size w w' := by
  have hv' := hv
  obtain ⟨a, cap, rfl, hcap, hrow⟩ := hv
  go_enter Tryz.func64, Tryz.ntmps64
  go_wp2
  go_loopw [11] (fun i wr => ∃ k : Nat, k ≤ l.length ∧ i = .int .i64 k ∧ firstV l = firstFrom l (l.length - k) k ∧ Below w.heap.size w wr) (fun i _ => l.length - (intOf i).toNat)
  case atStart => exact ⟨0, Nat.zero_le _, rfl, rfl, Below.refl _ _⟩
  case round =>
    obtain ⟨k, hk, rfl, hf, hB⟩ := hrel
    by_cases hlt : k < l.length
    · obtain ⟨b, off, rfl, hbl, hcell⟩ := hrow (by rintro rfl; simp at hlt)
      have h1 := (hcell k hlt).1
      have h2 := (hcell k hlt).2
      rw [← hB.cell (p := ⟨b, _, none⟩) hbl] at h1 h2
      have ht := (hv'.take k (by omega)).below hB
      have hs : l[k]! = l[k] := getElem!_pos l k hlt
      clear hrow hcell hv'
      generalize hx : l[k] = x at *
      have hO : ovl l k = fun y => overlapB y.a y.b x.a x.b := by funext y; unfold ovl; rw [hs]
      have hidx := idx_any (ovl l k) 87 #[.pointer (some ⟨wr.heap.size, 0, none⟩)] _ (l.take k) (wr.alloc (.cells #[.int .u64 x.a, .int .u64 x.b] 24)) (enters_of Tryz.func87 (by kernel_rfl) rfl) (ht.below (bone _ _))
        (predOf fun W y hW => by
          rw [hO]
          refine first1_any y x wr.heap.size W ?_ ?_ (Nat.lt_of_lt_of_le (by simp) hW.size)
          · rw [hW.cell (by simp)]; simp [World.cell?_alloc_new]
          · rw [hW.cell (by simp)]; simp [World.cell?_alloc_new])
        (by rw [List.length_take]; omega)
      have hit := fun h => firstV_hit hlt hf h
      have miss := fun h => firstV_miss hlt hf h
      clear hf hs hx hO ht
      generalize idxV (ovl l k) (l.take k) = q at *
      by_cases hq : 0 ≤ q
      · have hit := Lib.hid (hit hq)
        clear miss
        go_wp2_with fail
        refine hidx.mono ?_; rintro e w1 ⟨rfl, hb1⟩
        clear hidx
        go_wp2_with fail
        go_ret3
        exact ⟨by rw [hit.out]; rfl, hB.trans ((bnew hb1).mono hB.size)⟩
      · have miss := Lib.hid (miss (by omega))
        clear hit
        go_wp2_with fail
        refine hidx.mono ?_; rintro e w1 ⟨rfl, hb1⟩
        clear hidx
        go_wp2_with fail
        go_roundw
        case rel => exact ⟨k + 1, by omega, by go_num, miss.out, hB.trans ((bnew hb1).mono hB.size)⟩
        case measure => simp [intOf]; omega
    · have : k = l.length := by omega
      subst this
      rw [Nat.sub_self] at hf
      replace hf := Lib.hid hf
      go_wp2
      go_ret3
      exact ⟨by rw [hf.out]; rfl, hB⟩
end Go.Proofs.YtffdfeekpfmbeaaGreat
/- The walk of the reference's Pages. -/
namespace Go.Proofs.YtffdfeekpfmbeaaGreat
open Go Go.RowKit Go.BigFrame

theorem or_mod (a b : Int) (ha : W64 a) (hb : W64 b) : (bits BinOp.or IntKind.u64 a b % 4096 != 0) = !(decide (a % 4096 = 0) && decide (b % 4096 = 0)) := by
  obtain ⟨ha0, ha1⟩ := ha
  obtain ⟨hb0, hb1⟩ := hb
  obtain ⟨x, rfl⟩ := Int.eq_ofNat_of_zero_le ha0
  obtain ⟨y, rfl⟩ := Int.eq_ofNat_of_zero_le hb0
  rw [bits_or_u64_nat _ _ (by omega) (by omega)]
  have h1 : (x ||| y) % 4096 = (x % 4096) ||| (y % 4096) := Nat.or_mod_two_pow (n := 12)
  have h2 : ((x ||| y) % 4096 = 0) ↔ x % 4096 = 0 ∧ y % 4096 = 0 := by rw [h1, Nat.or_eq_zero_iff]
  rw [Bool.eq_iff_iff]
  simp only [bne_iff_ne, ne_eq, Bool.not_eq_true', Bool.and_eq_false_iff, decide_eq_false_iff_not]
  have e1 : (((x ||| y : Nat) : Int) % 4096 = 0) ↔ (x ||| y) % 4096 = 0 := by omega
  rw [e1, h2]
  omega
theorem pageBad_not (x : Two) : (!(pageBad x)) = (goodB x.a x.b && (decide (x.a % 4096 = 0) && decide (x.b % 4096 = 0))) := by
  unfold pageBad
  rw [or_mod _ _ x.ha x.hb]
  cases goodB x.a x.b <;> simp

set_option maxHeartbeats 1000000 in
theorem refPages_any (x : Two) (w : World) : Calls Tryz.prog 30 #[.agg #[.int .u64 x.a, .int .u64 x.b]] w fun e w' => e = .returned (.bool (!(pageBad x))) ∧ Below w.heap.size w w' := by
  rw [pageBad_not]
  have hxa := x.ha.1
  have hxb := x.hb.1
  cases hg : goodB x.a x.b
  · go_enter Tryz.func30, Tryz.ntmps30
    go_wp2_with fail
    refine (refGood_any _ _ _ x.ha x.hb).mono ?_; rintro e1 w1 ⟨rfl, hb1⟩
    rw [hg]
    go_wp2_with fail
    go_ret
    exact ⟨rfl, bnew hb1⟩
  · by_cases h1 : x.a % 4096 = 0
    all_goals
      go_enter Tryz.func30, Tryz.ntmps30
      go_wp2_with fail
      refine (refGood_any _ _ _ x.ha x.hb).mono ?_; rintro e1 w1 ⟨rfl, hb1⟩
      have c0 : w1.cell? ⟨w.heap.size, 0, none⟩ = some (.int .u64 x.a) := cell_lt hb1 (by simp [World.cell?_alloc_new]) (by simp)
      have c1 : w1.cell? ⟨w.heap.size, 1, none⟩ = some (.int .u64 x.b) := cell_lt hb1 (by simp [World.cell?_alloc_new]) (by simp)
      have hW : Below w.heap.size w w1 := bnew hb1
      rw [hg]
      clear hb1
      first | (have q : (x.a % 4096 == 0) = true := by simpa using h1) | (have q : (x.a % 4096 == 0) = false := by simpa using h1)
      go_wp2_with fail
      go_ret
      exact ⟨ret_bool (by rw [Bool.eq_iff_iff]; simp [h1]), hW⟩

end Go.Proofs.YtffdfeekpfmbeaaGreat
