/- The walks of span.Within and of the reference's Good, Last, Has, Within, Overlap, Pages. Conditions: words of 64 bits. -/
import Derived.Test.YtdlpgonpikflfaaDoorSpanB
import Derived.Test.YtdlpgonpikflfaaDoorQuietB
namespace Go.Proofs.YtdlpgonpikflfaaDoor
open Go.RowKit

set_option maxHeartbeats 1000000 in
theorem within_any (b n c m : Int) (w : World) (hb : W64 b) (hn : W64 n) (hc : W64 c) (hm : W64 m) :
    Calls Tryd.prog 59 #[.agg #[.int .u64 b, .int .u64 n], .agg #[.int .u64 c, .int .u64 m]] w fun e w' => e = .returned (.bool (withinB b n c m)) ∧ Below w.heap.size w w' := by
  cases h : goodB b n
  · have e : withinB b n c m = false := by unfold withinB; rw [h]; rfl
    rw [e]; clear e
    go_enter Tryd.func59, Tryd.ntmps59
    go_wp2_with fail
    refine region_later (w.heap.size + 2) ((w.alloc (.cells #[.int .u64 b, .int .u64 n] 54)).alloc (.cells #[.int .u64 c, .int .u64 m] 54)) (Below.refl _ _) (by kernel_rfl) (by kernel_rfl) ?_
    have x0 := later_cell (B := w.heap.size + 2) (w0 := ((w.alloc (.cells #[.int .u64 b, .int .u64 n] 54)).alloc (.cells #[.int .u64 c, .int .u64 m] 54))) (b := w.heap.size) (o := 0) (v := .int .u64 b) (by simp [go_sem]) (by omega)
    have x1 := later_cell (B := w.heap.size + 2) (w0 := ((w.alloc (.cells #[.int .u64 b, .int .u64 n] 54)).alloc (.cells #[.int .u64 c, .int .u64 m] 54))) (b := w.heap.size) (o := 1) (v := .int .u64 n) (by simp [go_sem]) (by omega)
    have x2 := later_cell (B := w.heap.size + 2) (w0 := ((w.alloc (.cells #[.int .u64 b, .int .u64 n] 54)).alloc (.cells #[.int .u64 c, .int .u64 m] 54))) (b := w.heap.size + 1) (o := 0) (v := .int .u64 c) (by simp [go_sem]) (by omega)
    have x3 := later_cell (B := w.heap.size + 2) (w0 := ((w.alloc (.cells #[.int .u64 b, .int .u64 n] 54)).alloc (.cells #[.int .u64 c, .int .u64 m] 54))) (b := w.heap.size + 1) (o := 1) (v := .int .u64 m) (by simp [go_sem]) (by omega)
    repeat (quiet_step ((first | (go_at_call 56; exact quiet_later (by simp) (good_any _ _ _ hb hn)))))
    refine wpQuiet_nil ?_
    rintro _ ⟨X, rfl⟩
    go_wp2_with fail
    go_ret
    exact ⟨rfl, bnew (bnew (X.h.mono (by simp)))⟩
  cases h2 : hasB c m b
  · have e : withinB b n c m = false := by unfold withinB; rw [h, h2]; rfl
    rw [e]; clear e
    go_enter Tryd.func59, Tryd.ntmps59
    go_wp2_with fail
    refine region_later (w.heap.size + 2) ((w.alloc (.cells #[.int .u64 b, .int .u64 n] 54)).alloc (.cells #[.int .u64 c, .int .u64 m] 54)) (Below.refl _ _) (by kernel_rfl) (by kernel_rfl) ?_
    have x0 := later_cell (B := w.heap.size + 2) (w0 := ((w.alloc (.cells #[.int .u64 b, .int .u64 n] 54)).alloc (.cells #[.int .u64 c, .int .u64 m] 54))) (b := w.heap.size) (o := 0) (v := .int .u64 b) (by simp [go_sem]) (by omega)
    have x1 := later_cell (B := w.heap.size + 2) (w0 := ((w.alloc (.cells #[.int .u64 b, .int .u64 n] 54)).alloc (.cells #[.int .u64 c, .int .u64 m] 54))) (b := w.heap.size) (o := 1) (v := .int .u64 n) (by simp [go_sem]) (by omega)
    have x2 := later_cell (B := w.heap.size + 2) (w0 := ((w.alloc (.cells #[.int .u64 b, .int .u64 n] 54)).alloc (.cells #[.int .u64 c, .int .u64 m] 54))) (b := w.heap.size + 1) (o := 0) (v := .int .u64 c) (by simp [go_sem]) (by omega)
    have x3 := later_cell (B := w.heap.size + 2) (w0 := ((w.alloc (.cells #[.int .u64 b, .int .u64 n] 54)).alloc (.cells #[.int .u64 c, .int .u64 m] 54))) (b := w.heap.size + 1) (o := 1) (v := .int .u64 m) (by simp [go_sem]) (by omega)
    repeat (quiet_step ((first | (go_at_call 56; exact quiet_later (by simp) (good_any _ _ _ hb hn)) | (go_at_call 65; exact quiet_later (by simp) (has_any _ _ _ _ hc hm)))))
    refine wpQuiet_nil ?_
    rintro _ ⟨X, rfl⟩
    go_wp2_with fail
    go_ret
    exact ⟨rfl, bnew (bnew (X.h.mono (by simp)))⟩
  · have e : withinB b n c m = hasB c m (lastV b n) := by unfold withinB; rw [h, h2]; rfl
    rw [e]; clear e
    go_enter Tryd.func59, Tryd.ntmps59
    go_wp2_with fail
    refine region_later (w.heap.size + 2) ((w.alloc (.cells #[.int .u64 b, .int .u64 n] 54)).alloc (.cells #[.int .u64 c, .int .u64 m] 54)) (Below.refl _ _) (by kernel_rfl) (by kernel_rfl) ?_
    have x0 := later_cell (B := w.heap.size + 2) (w0 := ((w.alloc (.cells #[.int .u64 b, .int .u64 n] 54)).alloc (.cells #[.int .u64 c, .int .u64 m] 54))) (b := w.heap.size) (o := 0) (v := .int .u64 b) (by simp [go_sem]) (by omega)
    have x1 := later_cell (B := w.heap.size + 2) (w0 := ((w.alloc (.cells #[.int .u64 b, .int .u64 n] 54)).alloc (.cells #[.int .u64 c, .int .u64 m] 54))) (b := w.heap.size) (o := 1) (v := .int .u64 n) (by simp [go_sem]) (by omega)
    have x2 := later_cell (B := w.heap.size + 2) (w0 := ((w.alloc (.cells #[.int .u64 b, .int .u64 n] 54)).alloc (.cells #[.int .u64 c, .int .u64 m] 54))) (b := w.heap.size + 1) (o := 0) (v := .int .u64 c) (by simp [go_sem]) (by omega)
    have x3 := later_cell (B := w.heap.size + 2) (w0 := ((w.alloc (.cells #[.int .u64 b, .int .u64 n] 54)).alloc (.cells #[.int .u64 c, .int .u64 m] 54))) (b := w.heap.size + 1) (o := 1) (v := .int .u64 m) (by simp [go_sem]) (by omega)
    repeat (quiet_step ((first | (go_at_call 56; exact quiet_later (by simp) (good_any _ _ _ hb hn)) | (go_at_call 65; exact quiet_later (by simp) (has_any _ _ _ _ hc hm)) | (go_at_call 34; exact quiet_later (by simp) (last_any _ _ _ hb hn)))))
    refine wpQuiet_nil ?_
    rintro _ ⟨X, rfl⟩
    go_wp2_with fail
    go_ret
    exact ⟨rfl, bnew (bnew (X.h.mono (by simp)))⟩

set_option maxHeartbeats 400000 in
theorem refGood_any (b n : Int) (w : World) (hb : W64 b) (hn : W64 n) :
    Calls Tryd.prog 52 #[.agg #[.int .u64 b, .int .u64 n]] w fun e w' => e = .returned (.bool (goodB b n)) ∧ Below w.heap.size w w' := by
  obtain ⟨b0, b1⟩ := hb
  obtain ⟨n0, n1⟩ := hn
  by_cases h : 0 < n
  · go_enter Tryd.func52, Tryd.ntmps52
    go_wp2
    go_ret
    exact ⟨ret_bool (by unfold goodB; rw [decide_eq_true h, Bool.true_and, Bool.eq_iff_iff]; simp; omega), bone _ _⟩
  · go_enter Tryd.func52, Tryd.ntmps52
    go_wp2
    go_ret
    exact ⟨ret_bool (by unfold goodB; rw [decide_eq_false (show ¬ 0 < n by omega)]; rfl), bone _ _⟩

set_option maxHeartbeats 400000 in
theorem refLast_any (b n : Int) (w : World) (hb : W64 b) (hn : W64 n) :
    Calls Tryd.prog 37 #[.agg #[.int .u64 b, .int .u64 n]] w fun e w' => e = .returned (.int .u64 (lastV b n)) ∧ Below w.heap.size w w' := by
  cases h : goodB b n
  · have e := Lib.hid (lastV_no h)
    go_enter Tryd.func37, Tryd.ntmps37
    go_wp2_with (go_at_call 52; refine (refGood_any _ _ _ hb hn).mono ?_; rintro e w1 ⟨rfl, hb1⟩)
    go_ret
    exact ⟨ret_u64 e.out.symm, bnew hb1⟩
  · have e := Lib.hid (lastV_yes h)
    have hi := goodB_iff.1 h
    obtain ⟨b0, b1⟩ := id hb
    obtain ⟨n0, n1⟩ := id hn
    obtain ⟨g1, g2⟩ := hi
    go_enter Tryd.func37, Tryd.ntmps37
    go_wp2_with (go_at_call 52; refine (refGood_any _ _ _ hb hn).mono ?_; rintro e w1 ⟨rfl, hb1⟩; obtain ⟨hc1, hf1⟩ := bcell hb1)
    go_ret
    exact ⟨ret_u64 (by rw [e.out]), bnew hb1⟩

set_option maxHeartbeats 400000 in
theorem refHas_any (b n a : Int) (w : World) (hb : W64 b) (hn : W64 n) (ha : W64 a) :
    Calls Tryd.prog 30 #[.agg #[.int .u64 b, .int .u64 n], .int .u64 a] w fun e w' => e = .returned (.bool (hasB b n a)) ∧ Below w.heap.size w w' := by
  obtain ⟨b0, b1⟩ := id hb
  obtain ⟨n0, n1⟩ := id hn
  obtain ⟨a0, a1⟩ := id ha
  cases h : goodB b n
  · have e : hasB b n a = false := by unfold hasB; rw [h]; rfl
    rw [e]; clear e
    go_enter Tryd.func30, Tryd.ntmps30
    go_wp2_with (go_at_call 52; refine (refGood_any _ _ _ hb hn).mono ?_; rintro e w1 ⟨rfl, hb1⟩)
    go_ret
    exact ⟨rfl, bnew hb1⟩
  · by_cases h2 : b ≤ a
    · have e : hasB b n a = decide (a - b < n) := by rw [Bool.eq_iff_iff, hasB_iff, h]; simp; omega
      rw [e]; clear e
      go_enter Tryd.func30, Tryd.ntmps30
      go_wp2_with (go_at_call 52; refine (refGood_any _ _ _ hb hn).mono ?_; rintro e w1 ⟨rfl, hb1⟩; obtain ⟨hc1, hf1⟩ := bcell hb1)
      go_ret
      exact ⟨rfl, bnew hb1⟩
    · have e : hasB b n a = false := by unfold hasB; rw [h, decide_eq_false h2]; rfl
      rw [e]; clear e
      go_enter Tryd.func30, Tryd.ntmps30
      go_wp2_with (go_at_call 52; refine (refGood_any _ _ _ hb hn).mono ?_; rintro e w1 ⟨rfl, hb1⟩; obtain ⟨hc1, hf1⟩ := bcell hb1)
      go_ret
      exact ⟨rfl, bnew hb1⟩

set_option maxHeartbeats 1000000 in
theorem refWithin_any (b n c m : Int) (w : World) (hb : W64 b) (hn : W64 n) (hc : W64 c) (hm : W64 m) :
    Calls Tryd.prog 61 #[.agg #[.int .u64 b, .int .u64 n], .agg #[.int .u64 c, .int .u64 m]] w fun e w' => e = .returned (.bool (withinB b n c m)) ∧ Below w.heap.size w w' := by
  cases h : goodB b n
  · have e : withinB b n c m = false := by unfold withinB; rw [h]; rfl
    rw [e]; clear e
    go_enter Tryd.func61, Tryd.ntmps61
    go_wp2_with fail
    refine region_later (w.heap.size + 2) ((w.alloc (.cells #[.int .u64 b, .int .u64 n] 54)).alloc (.cells #[.int .u64 c, .int .u64 m] 54)) (Below.refl _ _) (by kernel_rfl) (by kernel_rfl) ?_
    have x0 := later_cell (B := w.heap.size + 2) (w0 := ((w.alloc (.cells #[.int .u64 b, .int .u64 n] 54)).alloc (.cells #[.int .u64 c, .int .u64 m] 54))) (b := w.heap.size) (o := 0) (v := .int .u64 b) (by simp [go_sem]) (by omega)
    have x1 := later_cell (B := w.heap.size + 2) (w0 := ((w.alloc (.cells #[.int .u64 b, .int .u64 n] 54)).alloc (.cells #[.int .u64 c, .int .u64 m] 54))) (b := w.heap.size) (o := 1) (v := .int .u64 n) (by simp [go_sem]) (by omega)
    have x2 := later_cell (B := w.heap.size + 2) (w0 := ((w.alloc (.cells #[.int .u64 b, .int .u64 n] 54)).alloc (.cells #[.int .u64 c, .int .u64 m] 54))) (b := w.heap.size + 1) (o := 0) (v := .int .u64 c) (by simp [go_sem]) (by omega)
    have x3 := later_cell (B := w.heap.size + 2) (w0 := ((w.alloc (.cells #[.int .u64 b, .int .u64 n] 54)).alloc (.cells #[.int .u64 c, .int .u64 m] 54))) (b := w.heap.size + 1) (o := 1) (v := .int .u64 m) (by simp [go_sem]) (by omega)
    repeat (quiet_step ((first | (go_at_call_of 52 (Value.agg #[.int .u64 b, .int .u64 n]); exact quiet_later (by simp) (refGood_any _ _ _ hb hn)))))
    refine wpQuiet_nil ?_
    rintro _ ⟨X, rfl⟩
    go_wp2_with fail
    go_ret
    exact ⟨rfl, bnew (bnew (X.h.mono (by simp)))⟩
  cases h2 : goodB c m
  · have e : withinB b n c m = false := by rw [Bool.eq_false_iff, ne_eq, withinB_iff, h2]; simp
    rw [e]; clear e
    go_enter Tryd.func61, Tryd.ntmps61
    go_wp2_with fail
    refine region_later (w.heap.size + 2) ((w.alloc (.cells #[.int .u64 b, .int .u64 n] 54)).alloc (.cells #[.int .u64 c, .int .u64 m] 54)) (Below.refl _ _) (by kernel_rfl) (by kernel_rfl) ?_
    have x0 := later_cell (B := w.heap.size + 2) (w0 := ((w.alloc (.cells #[.int .u64 b, .int .u64 n] 54)).alloc (.cells #[.int .u64 c, .int .u64 m] 54))) (b := w.heap.size) (o := 0) (v := .int .u64 b) (by simp [go_sem]) (by omega)
    have x1 := later_cell (B := w.heap.size + 2) (w0 := ((w.alloc (.cells #[.int .u64 b, .int .u64 n] 54)).alloc (.cells #[.int .u64 c, .int .u64 m] 54))) (b := w.heap.size) (o := 1) (v := .int .u64 n) (by simp [go_sem]) (by omega)
    have x2 := later_cell (B := w.heap.size + 2) (w0 := ((w.alloc (.cells #[.int .u64 b, .int .u64 n] 54)).alloc (.cells #[.int .u64 c, .int .u64 m] 54))) (b := w.heap.size + 1) (o := 0) (v := .int .u64 c) (by simp [go_sem]) (by omega)
    have x3 := later_cell (B := w.heap.size + 2) (w0 := ((w.alloc (.cells #[.int .u64 b, .int .u64 n] 54)).alloc (.cells #[.int .u64 c, .int .u64 m] 54))) (b := w.heap.size + 1) (o := 1) (v := .int .u64 m) (by simp [go_sem]) (by omega)
    repeat (quiet_step ((first | (go_at_call_of 52 (Value.agg #[.int .u64 b, .int .u64 n]); exact quiet_later (by simp) (refGood_any _ _ _ hb hn)) | (go_at_call_of 52 (Value.agg #[.int .u64 c, .int .u64 m]); exact quiet_later (by simp) (refGood_any _ _ _ hc hm)))))
    refine wpQuiet_nil ?_
    rintro _ ⟨X, rfl⟩
    go_wp2_with fail
    go_ret
    exact ⟨rfl, bnew (bnew (X.h.mono (by simp)))⟩
  have hi := goodB_iff.1 h
  have hj := goodB_iff.1 h2
  have l1 := lastV_yes h
  have l2 := lastV_yes h2
  by_cases h3 : c ≤ b
  · have e : withinB b n c m = decide (lastV b n ≤ lastV c m) := by rw [Bool.eq_iff_iff, withinB_iff, h, h2]; simp; omega
    rw [e]; clear e hi hj l1 l2
    go_enter Tryd.func61, Tryd.ntmps61
    go_wp2_with fail
    refine region_later (w.heap.size + 2) ((w.alloc (.cells #[.int .u64 b, .int .u64 n] 54)).alloc (.cells #[.int .u64 c, .int .u64 m] 54)) (Below.refl _ _) (by kernel_rfl) (by kernel_rfl) ?_
    have x0 := later_cell (B := w.heap.size + 2) (w0 := ((w.alloc (.cells #[.int .u64 b, .int .u64 n] 54)).alloc (.cells #[.int .u64 c, .int .u64 m] 54))) (b := w.heap.size) (o := 0) (v := .int .u64 b) (by simp [go_sem]) (by omega)
    have x1 := later_cell (B := w.heap.size + 2) (w0 := ((w.alloc (.cells #[.int .u64 b, .int .u64 n] 54)).alloc (.cells #[.int .u64 c, .int .u64 m] 54))) (b := w.heap.size) (o := 1) (v := .int .u64 n) (by simp [go_sem]) (by omega)
    have x2 := later_cell (B := w.heap.size + 2) (w0 := ((w.alloc (.cells #[.int .u64 b, .int .u64 n] 54)).alloc (.cells #[.int .u64 c, .int .u64 m] 54))) (b := w.heap.size + 1) (o := 0) (v := .int .u64 c) (by simp [go_sem]) (by omega)
    have x3 := later_cell (B := w.heap.size + 2) (w0 := ((w.alloc (.cells #[.int .u64 b, .int .u64 n] 54)).alloc (.cells #[.int .u64 c, .int .u64 m] 54))) (b := w.heap.size + 1) (o := 1) (v := .int .u64 m) (by simp [go_sem]) (by omega)
    repeat (quiet_step ((first | (go_at_call_of 52 (Value.agg #[.int .u64 b, .int .u64 n]); exact quiet_later (by simp) (refGood_any _ _ _ hb hn)) | (go_at_call_of 52 (Value.agg #[.int .u64 c, .int .u64 m]); exact quiet_later (by simp) (refGood_any _ _ _ hc hm)) | (go_at_call_of 37 (Value.agg #[.int .u64 b, .int .u64 n]); exact quiet_later (by simp) (refLast_any _ _ _ hb hn)) | (go_at_call_of 37 (Value.agg #[.int .u64 c, .int .u64 m]); exact quiet_later (by simp) (refLast_any _ _ _ hc hm)))))
    refine wpQuiet_nil ?_
    rintro _ ⟨X, rfl⟩
    go_wp2_with fail
    go_ret
    exact ⟨rfl, bnew (bnew (X.h.mono (by simp)))⟩
  · have e : withinB b n c m = false := by rw [Bool.eq_false_iff, ne_eq, withinB_iff, h, h2]; simp; omega
    have h4 : decide (c ≤ b) = false := by simpa using h3
    rw [e]; clear e hi hj l1 l2 h3
    go_enter Tryd.func61, Tryd.ntmps61
    go_wp2_with fail
    refine region_later (w.heap.size + 2) ((w.alloc (.cells #[.int .u64 b, .int .u64 n] 54)).alloc (.cells #[.int .u64 c, .int .u64 m] 54)) (Below.refl _ _) (by kernel_rfl) (by kernel_rfl) ?_
    have x0 := later_cell (B := w.heap.size + 2) (w0 := ((w.alloc (.cells #[.int .u64 b, .int .u64 n] 54)).alloc (.cells #[.int .u64 c, .int .u64 m] 54))) (b := w.heap.size) (o := 0) (v := .int .u64 b) (by simp [go_sem]) (by omega)
    have x1 := later_cell (B := w.heap.size + 2) (w0 := ((w.alloc (.cells #[.int .u64 b, .int .u64 n] 54)).alloc (.cells #[.int .u64 c, .int .u64 m] 54))) (b := w.heap.size) (o := 1) (v := .int .u64 n) (by simp [go_sem]) (by omega)
    have x2 := later_cell (B := w.heap.size + 2) (w0 := ((w.alloc (.cells #[.int .u64 b, .int .u64 n] 54)).alloc (.cells #[.int .u64 c, .int .u64 m] 54))) (b := w.heap.size + 1) (o := 0) (v := .int .u64 c) (by simp [go_sem]) (by omega)
    have x3 := later_cell (B := w.heap.size + 2) (w0 := ((w.alloc (.cells #[.int .u64 b, .int .u64 n] 54)).alloc (.cells #[.int .u64 c, .int .u64 m] 54))) (b := w.heap.size + 1) (o := 1) (v := .int .u64 m) (by simp [go_sem]) (by omega)
    repeat (quiet_step ((first | (go_at_call_of 52 (Value.agg #[.int .u64 b, .int .u64 n]); exact quiet_later (by simp) (refGood_any _ _ _ hb hn)) | (go_at_call_of 52 (Value.agg #[.int .u64 c, .int .u64 m]); exact quiet_later (by simp) (refGood_any _ _ _ hc hm)) | (go_at_call_of 37 (Value.agg #[.int .u64 b, .int .u64 n]); exact quiet_later (by simp) (refLast_any _ _ _ hb hn)) | (go_at_call_of 37 (Value.agg #[.int .u64 c, .int .u64 m]); exact quiet_later (by simp) (refLast_any _ _ _ hc hm)))))
    refine wpQuiet_nil ?_
    rintro _ ⟨X, rfl⟩
    go_wp2_with fail
    go_ret
    exact ⟨rfl, bnew (bnew (X.h.mono (by simp)))⟩


end Go.Proofs.YtdlpgonpikflfaaDoor
