/- The walks of span.Within and of the reference's Good, Last, Has, Within, Overlap, Pages. Conditions: words of 64 bits. -/
import Derived.Test.YtokbplajcdkcpaaSpanB
import Derived.Test.YtokbplajcdkcpaaQuietB
namespace Go.Proofs.Ytokbplajcdkcpaa
open Go.RowKit

set_option maxHeartbeats 1000000 in
theorem within_any (b n c m : Int) (w : World) (hb : W64 b) (hn : W64 n) (hc : W64 c) (hm : W64 m) :
    Calls Try.prog 80 #[.agg #[.int .u64 b, .int .u64 n], .agg #[.int .u64 c, .int .u64 m]] w fun e w' => e = .returned (.bool (withinB b n c m)) ∧ Below w.heap.size w w' := by
  cases h : goodB b n
  · have e : withinB b n c m = false := by unfold withinB; rw [h]; rfl
    rw [e]; clear e
    go_enter Try.func80, Try.ntmps80
    go_wp2_with fail
    refine region_later (w.heap.size + 2) ((w.alloc (.cells #[.int .u64 b, .int .u64 n] 42)).alloc (.cells #[.int .u64 c, .int .u64 m] 42)) (Below.refl _ _) (by kernel_rfl) (by kernel_rfl) ?_
    have x0 := later_cell (B := w.heap.size + 2) (w0 := ((w.alloc (.cells #[.int .u64 b, .int .u64 n] 42)).alloc (.cells #[.int .u64 c, .int .u64 m] 42))) (b := w.heap.size) (o := 0) (v := .int .u64 b) (by simp [go_sem]) (by omega)
    have x1 := later_cell (B := w.heap.size + 2) (w0 := ((w.alloc (.cells #[.int .u64 b, .int .u64 n] 42)).alloc (.cells #[.int .u64 c, .int .u64 m] 42))) (b := w.heap.size) (o := 1) (v := .int .u64 n) (by simp [go_sem]) (by omega)
    have x2 := later_cell (B := w.heap.size + 2) (w0 := ((w.alloc (.cells #[.int .u64 b, .int .u64 n] 42)).alloc (.cells #[.int .u64 c, .int .u64 m] 42))) (b := w.heap.size + 1) (o := 0) (v := .int .u64 c) (by simp [go_sem]) (by omega)
    have x3 := later_cell (B := w.heap.size + 2) (w0 := ((w.alloc (.cells #[.int .u64 b, .int .u64 n] 42)).alloc (.cells #[.int .u64 c, .int .u64 m] 42))) (b := w.heap.size + 1) (o := 1) (v := .int .u64 m) (by simp [go_sem]) (by omega)
    repeat (quiet_step ((first | (go_at_call 35; exact quiet_later (by simp) (good_any _ _ _ hb hn)))))
    refine wpQuiet_nil ?_
    rintro _ ⟨X, rfl⟩
    go_wp2_with fail
    go_ret
    exact ⟨rfl, bnew (bnew (X.h.mono (by simp)))⟩
  cases h2 : hasB c m b
  · have e : withinB b n c m = false := by unfold withinB; rw [h, h2]; rfl
    rw [e]; clear e
    go_enter Try.func80, Try.ntmps80
    go_wp2_with fail
    refine region_later (w.heap.size + 2) ((w.alloc (.cells #[.int .u64 b, .int .u64 n] 42)).alloc (.cells #[.int .u64 c, .int .u64 m] 42)) (Below.refl _ _) (by kernel_rfl) (by kernel_rfl) ?_
    have x0 := later_cell (B := w.heap.size + 2) (w0 := ((w.alloc (.cells #[.int .u64 b, .int .u64 n] 42)).alloc (.cells #[.int .u64 c, .int .u64 m] 42))) (b := w.heap.size) (o := 0) (v := .int .u64 b) (by simp [go_sem]) (by omega)
    have x1 := later_cell (B := w.heap.size + 2) (w0 := ((w.alloc (.cells #[.int .u64 b, .int .u64 n] 42)).alloc (.cells #[.int .u64 c, .int .u64 m] 42))) (b := w.heap.size) (o := 1) (v := .int .u64 n) (by simp [go_sem]) (by omega)
    have x2 := later_cell (B := w.heap.size + 2) (w0 := ((w.alloc (.cells #[.int .u64 b, .int .u64 n] 42)).alloc (.cells #[.int .u64 c, .int .u64 m] 42))) (b := w.heap.size + 1) (o := 0) (v := .int .u64 c) (by simp [go_sem]) (by omega)
    have x3 := later_cell (B := w.heap.size + 2) (w0 := ((w.alloc (.cells #[.int .u64 b, .int .u64 n] 42)).alloc (.cells #[.int .u64 c, .int .u64 m] 42))) (b := w.heap.size + 1) (o := 1) (v := .int .u64 m) (by simp [go_sem]) (by omega)
    repeat (quiet_step ((first | (go_at_call 35; exact quiet_later (by simp) (good_any _ _ _ hb hn)) | (go_at_call 44; exact quiet_later (by simp) (has_any _ _ _ _ hc hm)))))
    refine wpQuiet_nil ?_
    rintro _ ⟨X, rfl⟩
    go_wp2_with fail
    go_ret
    exact ⟨rfl, bnew (bnew (X.h.mono (by simp)))⟩
  · have e : withinB b n c m = hasB c m (lastV b n) := by unfold withinB; rw [h, h2]; rfl
    rw [e]; clear e
    go_enter Try.func80, Try.ntmps80
    go_wp2_with fail
    refine region_later (w.heap.size + 2) ((w.alloc (.cells #[.int .u64 b, .int .u64 n] 42)).alloc (.cells #[.int .u64 c, .int .u64 m] 42)) (Below.refl _ _) (by kernel_rfl) (by kernel_rfl) ?_
    have x0 := later_cell (B := w.heap.size + 2) (w0 := ((w.alloc (.cells #[.int .u64 b, .int .u64 n] 42)).alloc (.cells #[.int .u64 c, .int .u64 m] 42))) (b := w.heap.size) (o := 0) (v := .int .u64 b) (by simp [go_sem]) (by omega)
    have x1 := later_cell (B := w.heap.size + 2) (w0 := ((w.alloc (.cells #[.int .u64 b, .int .u64 n] 42)).alloc (.cells #[.int .u64 c, .int .u64 m] 42))) (b := w.heap.size) (o := 1) (v := .int .u64 n) (by simp [go_sem]) (by omega)
    have x2 := later_cell (B := w.heap.size + 2) (w0 := ((w.alloc (.cells #[.int .u64 b, .int .u64 n] 42)).alloc (.cells #[.int .u64 c, .int .u64 m] 42))) (b := w.heap.size + 1) (o := 0) (v := .int .u64 c) (by simp [go_sem]) (by omega)
    have x3 := later_cell (B := w.heap.size + 2) (w0 := ((w.alloc (.cells #[.int .u64 b, .int .u64 n] 42)).alloc (.cells #[.int .u64 c, .int .u64 m] 42))) (b := w.heap.size + 1) (o := 1) (v := .int .u64 m) (by simp [go_sem]) (by omega)
    repeat (quiet_step ((first | (go_at_call 35; exact quiet_later (by simp) (good_any _ _ _ hb hn)) | (go_at_call 44; exact quiet_later (by simp) (has_any _ _ _ _ hc hm)) | (go_at_call 46; exact quiet_later (by simp) (last_any _ _ _ hb hn)))))
    refine wpQuiet_nil ?_
    rintro _ ⟨X, rfl⟩
    go_wp2_with fail
    go_ret
    exact ⟨rfl, bnew (bnew (X.h.mono (by simp)))⟩

set_option maxHeartbeats 400000 in
theorem refGood_any (b n : Int) (w : World) (hb : W64 b) (hn : W64 n) :
    Calls Try.prog 40 #[.agg #[.int .u64 b, .int .u64 n]] w fun e w' => e = .returned (.bool (goodB b n)) ∧ Below w.heap.size w w' := by
  obtain ⟨b0, b1⟩ := hb
  obtain ⟨n0, n1⟩ := hn
  by_cases h : 0 < n
  · go_enter Try.func40, Try.ntmps40
    go_wp2
    go_ret
    exact ⟨ret_bool (by unfold goodB; rw [decide_eq_true h, Bool.true_and, Bool.eq_iff_iff]; simp; omega), bone _ _⟩
  · go_enter Try.func40, Try.ntmps40
    go_wp2
    go_ret
    exact ⟨ret_bool (by unfold goodB; rw [decide_eq_false (show ¬ 0 < n by omega)]; rfl), bone _ _⟩

set_option maxHeartbeats 400000 in
theorem refLast_any (b n : Int) (w : World) (hb : W64 b) (hn : W64 n) :
    Calls Try.prog 57 #[.agg #[.int .u64 b, .int .u64 n]] w fun e w' => e = .returned (.int .u64 (lastV b n)) ∧ Below w.heap.size w w' := by
  cases h : goodB b n
  · have e := Lib.hid (lastV_no h)
    go_enter Try.func57, Try.ntmps57
    go_wp2_with (go_at_call 40; refine (refGood_any _ _ _ hb hn).mono ?_; rintro e w1 ⟨rfl, hb1⟩)
    go_ret
    exact ⟨ret_u64 e.out.symm, bnew hb1⟩
  · have e := Lib.hid (lastV_yes h)
    have hi := goodB_iff.1 h
    obtain ⟨b0, b1⟩ := id hb
    obtain ⟨n0, n1⟩ := id hn
    obtain ⟨g1, g2⟩ := hi
    go_enter Try.func57, Try.ntmps57
    go_wp2_with (go_at_call 40; refine (refGood_any _ _ _ hb hn).mono ?_; rintro e w1 ⟨rfl, hb1⟩; obtain ⟨hc1, hf1⟩ := bcell hb1)
    go_ret
    exact ⟨ret_u64 (by rw [e.out]), bnew hb1⟩

set_option maxHeartbeats 400000 in
theorem refHas_any (b n a : Int) (w : World) (hb : W64 b) (hn : W64 n) (ha : W64 a) :
    Calls Try.prog 16 #[.agg #[.int .u64 b, .int .u64 n], .int .u64 a] w fun e w' => e = .returned (.bool (hasB b n a)) ∧ Below w.heap.size w w' := by
  obtain ⟨b0, b1⟩ := id hb
  obtain ⟨n0, n1⟩ := id hn
  obtain ⟨a0, a1⟩ := id ha
  cases h : goodB b n
  · have e : hasB b n a = false := by unfold hasB; rw [h]; rfl
    rw [e]; clear e
    go_enter Try.func16, Try.ntmps16
    go_wp2_with (go_at_call 40; refine (refGood_any _ _ _ hb hn).mono ?_; rintro e w1 ⟨rfl, hb1⟩)
    go_ret
    exact ⟨rfl, bnew hb1⟩
  · by_cases h2 : b ≤ a
    · have e : hasB b n a = decide (a - b < n) := by rw [Bool.eq_iff_iff, hasB_iff, h]; simp; omega
      rw [e]; clear e
      go_enter Try.func16, Try.ntmps16
      go_wp2_with (go_at_call 40; refine (refGood_any _ _ _ hb hn).mono ?_; rintro e w1 ⟨rfl, hb1⟩; obtain ⟨hc1, hf1⟩ := bcell hb1)
      go_ret
      exact ⟨rfl, bnew hb1⟩
    · have e : hasB b n a = false := by unfold hasB; rw [h, decide_eq_false h2]; rfl
      rw [e]; clear e
      go_enter Try.func16, Try.ntmps16
      go_wp2_with (go_at_call 40; refine (refGood_any _ _ _ hb hn).mono ?_; rintro e w1 ⟨rfl, hb1⟩; obtain ⟨hc1, hf1⟩ := bcell hb1)
      go_ret
      exact ⟨rfl, bnew hb1⟩


set_option maxHeartbeats 1000000 in
theorem refOverlap_any (b n c m : Int) (w : World) (hb : W64 b) (hn : W64 n) (hc : W64 c) (hm : W64 m) :
    Calls Try.prog 41 #[.agg #[.int .u64 b, .int .u64 n], .agg #[.int .u64 c, .int .u64 m]] w fun e w' => e = .returned (.bool (overlapB b n c m)) ∧ Below w.heap.size w w' := by
  cases h : goodB b n
  · have e : overlapB b n c m = false := by unfold overlapB; rw [h]; rfl
    rw [e]; clear e
    go_enter Try.func41, Try.ntmps41
    go_wp2_with fail
    refine region_later (w.heap.size + 2) ((w.alloc (.cells #[.int .u64 b, .int .u64 n] 42)).alloc (.cells #[.int .u64 c, .int .u64 m] 42)) (Below.refl _ _) (by kernel_rfl) (by kernel_rfl) ?_
    have x0 := later_cell (B := w.heap.size + 2) (w0 := ((w.alloc (.cells #[.int .u64 b, .int .u64 n] 42)).alloc (.cells #[.int .u64 c, .int .u64 m] 42))) (b := w.heap.size) (o := 0) (v := .int .u64 b) (by simp [go_sem]) (by omega)
    have x1 := later_cell (B := w.heap.size + 2) (w0 := ((w.alloc (.cells #[.int .u64 b, .int .u64 n] 42)).alloc (.cells #[.int .u64 c, .int .u64 m] 42))) (b := w.heap.size) (o := 1) (v := .int .u64 n) (by simp [go_sem]) (by omega)
    have x2 := later_cell (B := w.heap.size + 2) (w0 := ((w.alloc (.cells #[.int .u64 b, .int .u64 n] 42)).alloc (.cells #[.int .u64 c, .int .u64 m] 42))) (b := w.heap.size + 1) (o := 0) (v := .int .u64 c) (by simp [go_sem]) (by omega)
    have x3 := later_cell (B := w.heap.size + 2) (w0 := ((w.alloc (.cells #[.int .u64 b, .int .u64 n] 42)).alloc (.cells #[.int .u64 c, .int .u64 m] 42))) (b := w.heap.size + 1) (o := 1) (v := .int .u64 m) (by simp [go_sem]) (by omega)
    repeat (quiet_step ((first | (go_at_call_of 40 (Value.agg #[.int .u64 b, .int .u64 n]); exact quiet_later (by simp) (refGood_any _ _ _ hb hn)))))
    refine wpQuiet_nil ?_
    rintro _ ⟨X, rfl⟩
    go_wp2_with fail
    go_ret
    exact ⟨rfl, bnew (bnew (X.h.mono (by simp)))⟩
  cases h2 : goodB c m
  · have e : overlapB b n c m = false := by rw [Bool.eq_false_iff, ne_eq, overlapB_iff, h2]; simp
    rw [e]; clear e
    go_enter Try.func41, Try.ntmps41
    go_wp2_with fail
    refine region_later (w.heap.size + 2) ((w.alloc (.cells #[.int .u64 b, .int .u64 n] 42)).alloc (.cells #[.int .u64 c, .int .u64 m] 42)) (Below.refl _ _) (by kernel_rfl) (by kernel_rfl) ?_
    have x0 := later_cell (B := w.heap.size + 2) (w0 := ((w.alloc (.cells #[.int .u64 b, .int .u64 n] 42)).alloc (.cells #[.int .u64 c, .int .u64 m] 42))) (b := w.heap.size) (o := 0) (v := .int .u64 b) (by simp [go_sem]) (by omega)
    have x1 := later_cell (B := w.heap.size + 2) (w0 := ((w.alloc (.cells #[.int .u64 b, .int .u64 n] 42)).alloc (.cells #[.int .u64 c, .int .u64 m] 42))) (b := w.heap.size) (o := 1) (v := .int .u64 n) (by simp [go_sem]) (by omega)
    have x2 := later_cell (B := w.heap.size + 2) (w0 := ((w.alloc (.cells #[.int .u64 b, .int .u64 n] 42)).alloc (.cells #[.int .u64 c, .int .u64 m] 42))) (b := w.heap.size + 1) (o := 0) (v := .int .u64 c) (by simp [go_sem]) (by omega)
    have x3 := later_cell (B := w.heap.size + 2) (w0 := ((w.alloc (.cells #[.int .u64 b, .int .u64 n] 42)).alloc (.cells #[.int .u64 c, .int .u64 m] 42))) (b := w.heap.size + 1) (o := 1) (v := .int .u64 m) (by simp [go_sem]) (by omega)
    repeat (quiet_step ((first | (go_at_call_of 40 (Value.agg #[.int .u64 b, .int .u64 n]); exact quiet_later (by simp) (refGood_any _ _ _ hb hn)) | (go_at_call_of 40 (Value.agg #[.int .u64 c, .int .u64 m]); exact quiet_later (by simp) (refGood_any _ _ _ hc hm)))))
    refine wpQuiet_nil ?_
    rintro _ ⟨X, rfl⟩
    go_wp2_with fail
    go_ret
    exact ⟨rfl, bnew (bnew (X.h.mono (by simp)))⟩
  have hi := goodB_iff.1 h
  have hj := goodB_iff.1 h2
  have l1 := lastV_yes h
  have l2 := lastV_yes h2
  by_cases h3 : b ≤ lastV c m
  · have e : overlapB b n c m = decide (c ≤ lastV b n) := by rw [Bool.eq_iff_iff, overlapB_iff, h, h2]; simp; omega
    rw [e]; clear e hi hj l1 l2
    go_enter Try.func41, Try.ntmps41
    go_wp2_with fail
    refine region_later (w.heap.size + 2) ((w.alloc (.cells #[.int .u64 b, .int .u64 n] 42)).alloc (.cells #[.int .u64 c, .int .u64 m] 42)) (Below.refl _ _) (by kernel_rfl) (by kernel_rfl) ?_
    have x0 := later_cell (B := w.heap.size + 2) (w0 := ((w.alloc (.cells #[.int .u64 b, .int .u64 n] 42)).alloc (.cells #[.int .u64 c, .int .u64 m] 42))) (b := w.heap.size) (o := 0) (v := .int .u64 b) (by simp [go_sem]) (by omega)
    have x1 := later_cell (B := w.heap.size + 2) (w0 := ((w.alloc (.cells #[.int .u64 b, .int .u64 n] 42)).alloc (.cells #[.int .u64 c, .int .u64 m] 42))) (b := w.heap.size) (o := 1) (v := .int .u64 n) (by simp [go_sem]) (by omega)
    have x2 := later_cell (B := w.heap.size + 2) (w0 := ((w.alloc (.cells #[.int .u64 b, .int .u64 n] 42)).alloc (.cells #[.int .u64 c, .int .u64 m] 42))) (b := w.heap.size + 1) (o := 0) (v := .int .u64 c) (by simp [go_sem]) (by omega)
    have x3 := later_cell (B := w.heap.size + 2) (w0 := ((w.alloc (.cells #[.int .u64 b, .int .u64 n] 42)).alloc (.cells #[.int .u64 c, .int .u64 m] 42))) (b := w.heap.size + 1) (o := 1) (v := .int .u64 m) (by simp [go_sem]) (by omega)
    repeat (quiet_step ((first | (go_at_call_of 40 (Value.agg #[.int .u64 b, .int .u64 n]); exact quiet_later (by simp) (refGood_any _ _ _ hb hn)) | (go_at_call_of 40 (Value.agg #[.int .u64 c, .int .u64 m]); exact quiet_later (by simp) (refGood_any _ _ _ hc hm)) | (go_at_call_of 57 (Value.agg #[.int .u64 b, .int .u64 n]); exact quiet_later (by simp) (refLast_any _ _ _ hb hn)) | (go_at_call_of 57 (Value.agg #[.int .u64 c, .int .u64 m]); exact quiet_later (by simp) (refLast_any _ _ _ hc hm)))))
    refine wpQuiet_nil ?_
    rintro _ ⟨X, rfl⟩
    go_wp2_with fail
    go_ret
    exact ⟨rfl, bnew (bnew (X.h.mono (by simp)))⟩
  · have e : overlapB b n c m = false := by rw [Bool.eq_false_iff, ne_eq, overlapB_iff, h, h2]; simp; omega
    have h4 : decide (b ≤ lastV c m) = false := by simpa using h3
    rw [e]; clear e hi hj l1 l2 h3
    go_enter Try.func41, Try.ntmps41
    go_wp2_with fail
    refine region_later (w.heap.size + 2) ((w.alloc (.cells #[.int .u64 b, .int .u64 n] 42)).alloc (.cells #[.int .u64 c, .int .u64 m] 42)) (Below.refl _ _) (by kernel_rfl) (by kernel_rfl) ?_
    have x0 := later_cell (B := w.heap.size + 2) (w0 := ((w.alloc (.cells #[.int .u64 b, .int .u64 n] 42)).alloc (.cells #[.int .u64 c, .int .u64 m] 42))) (b := w.heap.size) (o := 0) (v := .int .u64 b) (by simp [go_sem]) (by omega)
    have x1 := later_cell (B := w.heap.size + 2) (w0 := ((w.alloc (.cells #[.int .u64 b, .int .u64 n] 42)).alloc (.cells #[.int .u64 c, .int .u64 m] 42))) (b := w.heap.size) (o := 1) (v := .int .u64 n) (by simp [go_sem]) (by omega)
    have x2 := later_cell (B := w.heap.size + 2) (w0 := ((w.alloc (.cells #[.int .u64 b, .int .u64 n] 42)).alloc (.cells #[.int .u64 c, .int .u64 m] 42))) (b := w.heap.size + 1) (o := 0) (v := .int .u64 c) (by simp [go_sem]) (by omega)
    have x3 := later_cell (B := w.heap.size + 2) (w0 := ((w.alloc (.cells #[.int .u64 b, .int .u64 n] 42)).alloc (.cells #[.int .u64 c, .int .u64 m] 42))) (b := w.heap.size + 1) (o := 1) (v := .int .u64 m) (by simp [go_sem]) (by omega)
    repeat (quiet_step ((first | (go_at_call_of 40 (Value.agg #[.int .u64 b, .int .u64 n]); exact quiet_later (by simp) (refGood_any _ _ _ hb hn)) | (go_at_call_of 40 (Value.agg #[.int .u64 c, .int .u64 m]); exact quiet_later (by simp) (refGood_any _ _ _ hc hm)) | (go_at_call_of 57 (Value.agg #[.int .u64 b, .int .u64 n]); exact quiet_later (by simp) (refLast_any _ _ _ hb hn)) | (go_at_call_of 57 (Value.agg #[.int .u64 c, .int .u64 m]); exact quiet_later (by simp) (refLast_any _ _ _ hc hm)))))
    refine wpQuiet_nil ?_
    rintro _ ⟨X, rfl⟩
    go_wp2_with fail
    go_ret
    exact ⟨rfl, bnew (bnew (X.h.mono (by simp)))⟩

end Go.Proofs.Ytokbplajcdkcpaa
