/- The walks of span.Good, Last, Has, Within, Overlap. Conditions: words of 64 bits. -/
import Derived.WalkSpells
import Derived.WalkLawsBesides
import Derived.Deep.RegionHeld3
import Derived.Test.YtffdfeekpfmbeaaGreatProg
import Derived.Test.YtffdfeekpfmbeaaGreatValidChecksP2
import Derived.Test.YtffdfeekpfmbeaaGreatValidChecksP3
namespace Go.Proofs.YtffdfeekpfmbeaaGreat
open Go.RowKit

set_option maxHeartbeats 400000 in
theorem good_any (b n : Int) (w : World) (hb : W64 b) (hn : W64 n) :
    Calls Tryz.prog 72 #[.agg #[.int .u64 b, .int .u64 n]] w fun e w' => e = .returned (.bool (goodB b n)) ∧ Below w.heap.size w w' := by
  obtain ⟨b0, b1⟩ := hb
  obtain ⟨n0, n1⟩ := hn
  by_cases h : 0 < n
  · go_enter Tryz.func72, Tryz.ntmps72
    go_wp2
    go_ret
    exact ⟨ret_bool (by simp [goodB, h]), bone _ _⟩
  · go_enter Tryz.func72, Tryz.ntmps72
    go_wp2
    go_ret
    exact ⟨ret_bool (by unfold goodB; rw [decide_eq_false (show ¬ 0 < n by omega)]; rfl), bone _ _⟩

set_option maxHeartbeats 400000 in
theorem last_any (b n : Int) (w : World) (hb : W64 b) (hn : W64 n) :
    Calls Tryz.prog 47 #[.agg #[.int .u64 b, .int .u64 n]] w fun e w' => e = .returned (.int .u64 (lastV b n)) ∧ Below w.heap.size w w' := by
  cases h : goodB b n
  · have e := Lib.hid (lastV_no h)
    go_enter Tryz.func47, Tryz.ntmps47
    go_wp2_with (go_at_call 72; refine (good_any _ _ _ hb hn).mono ?_; rintro e w1 ⟨rfl, hb1⟩)
    go_ret
    exact ⟨ret_u64 e.out.symm, bnew hb1⟩
  · have e := Lib.hid (lastV_yes h)
    have hi := goodB_iff.1 h
    obtain ⟨b0, b1⟩ := id hb
    obtain ⟨n0, n1⟩ := id hn
    obtain ⟨g1, g2⟩ := hi
    go_enter Tryz.func47, Tryz.ntmps47
    go_wp2_with (go_at_call 72; refine (good_any _ _ _ hb hn).mono ?_; rintro e w1 ⟨rfl, hb1⟩; obtain ⟨hc1, hf1⟩ := bcell hb1)
    go_ret
    exact ⟨ret_u64 (by rw [e.out]), bnew hb1⟩

set_option maxHeartbeats 400000 in
theorem has_any (b n a : Int) (w : World) (hb : W64 b) (hn : W64 n) :
    Calls Tryz.prog 60 #[.agg #[.int .u64 b, .int .u64 n], .int .u64 a] w fun e w' => e = .returned (.bool (hasB b n a)) ∧ Below w.heap.size w w' := by
  cases h : goodB b n
  · have e : hasB b n a = false := by unfold hasB; rw [h]; rfl
    rw [e]; clear e
    go_enter Tryz.func60, Tryz.ntmps60
    go_wp2_with (go_at_call 72; refine (good_any _ _ _ hb hn).mono ?_; rintro e w1 ⟨rfl, hb1⟩)
    go_ret
    exact ⟨rfl, bnew hb1⟩
  · by_cases h2 : b ≤ a
    · have e : hasB b n a = decide (a ≤ lastV b n) := by unfold hasB; rw [h, decide_eq_true h2]; rfl
      rw [e]; clear e
      go_enter Tryz.func60, Tryz.ntmps60
      go_wp2_with fail
      refine (good_any _ _ _ hb hn).mono ?_; rintro e w1 ⟨rfl, hb1⟩; obtain ⟨hc1, hf1⟩ := bcell hb1
      go_wp2_with fail
      refine (last_any _ _ _ hb hn).mono ?_; rintro e w2 ⟨rfl, hb2⟩
      go_wp2_with fail
      go_ret
      exact ⟨rfl, bthen (bnew hb1) hb2⟩
    · have e : hasB b n a = false := by unfold hasB; rw [h, decide_eq_false h2]; rfl
      rw [e]; clear e
      go_enter Tryz.func60, Tryz.ntmps60
      go_wp2_with (go_at_call 72; refine (good_any _ _ _ hb hn).mono ?_; rintro e w1 ⟨rfl, hb1⟩; obtain ⟨hc1, hf1⟩ := bcell hb1)
      go_ret
      exact ⟨rfl, bnew hb1⟩

set_option maxHeartbeats 1000000 in
theorem overlap_any (b n c m : Int) (w : World) (hb : W64 b) (hn : W64 n) (hc : W64 c) (hm : W64 m) :
    Calls Tryz.prog 59 #[.agg #[.int .u64 b, .int .u64 n], .agg #[.int .u64 c, .int .u64 m]] w fun e w' => e = .returned (.bool (overlapB b n c m)) ∧ Below w.heap.size w w' := by
  cases h : goodB b n
  · have e : overlapB b n c m = false := by unfold overlapB; rw [h]; rfl
    rw [e]; clear e
    go_enter Tryz.func59, Tryz.ntmps59
    go_wp2_with fail
    refine (good_any _ _ _ hb hn).mono ?_; rintro e w1 ⟨rfl, hb1⟩
    go_wp2_with fail
    go_ret
    exact ⟨rfl, bnew (bnew hb1)⟩
  cases h2 : goodB c m
  · have e : overlapB b n c m = false := by unfold overlapB; rw [h, h2]; rfl
    rw [e]; clear e
    go_enter Tryz.func59, Tryz.ntmps59
    go_wp2_with fail
    refine (good_any _ _ _ hb hn).mono ?_; rintro e w1 ⟨rfl, hb1⟩; obtain ⟨hc1, hf1⟩ := bcell hb1
    go_wp2_with fail
    refine (good_any _ _ _ hc hm).mono ?_; rintro e w2 ⟨rfl, hb2⟩
    go_wp2_with fail
    go_ret
    exact ⟨rfl, bthen (bnew (bnew hb1)) hb2⟩
  cases h3 : hasB b n c
  · have e : overlapB b n c m = hasB c m b := by unfold overlapB; rw [h, h2, h3]; rfl
    rw [e]; clear e
    go_enter Tryz.func59, Tryz.ntmps59
    go_wp2_with fail
    refine (good_any _ _ _ hb hn).mono ?_; rintro e w1 ⟨rfl, hb1⟩; obtain ⟨hc1, hf1⟩ := bcell hb1; have hz1 : w.heap.size + 1 < w1.heap.size := by have := hb1.size; simp at this; omega
    go_wp2_with fail
    refine (good_any _ _ _ hc hm).mono ?_; rintro e w2 ⟨rfl, hb2⟩; obtain ⟨hc2, hf2⟩ := bcell hb2; have hz1' : w.heap.size < w1.heap.size := by omega
    have hz2 : w.heap.size + 1 < w2.heap.size := by have := hb2.size; omega
    have hz2' : w.heap.size < w2.heap.size := by omega
    go_wp2_with fail
    refine (has_any _ _ _ _ hb hn).mono ?_; rintro e w3 ⟨rfl, hb3⟩; obtain ⟨hc3, hf3⟩ := bcell hb3
    go_wp2_with fail
    refine (has_any _ _ _ _ hc hm).mono ?_; rintro e w4 ⟨rfl, hb4⟩
    go_wp2_with fail
    go_ret
    exact ⟨rfl, bthen (bthen (bthen (bnew (bnew hb1)) hb2) hb3) hb4⟩
  · have e : overlapB b n c m = true := by unfold overlapB; rw [h, h2, h3]; rfl
    rw [e]; clear e
    go_enter Tryz.func59, Tryz.ntmps59
    go_wp2_with fail
    refine (good_any _ _ _ hb hn).mono ?_; rintro e w1 ⟨rfl, hb1⟩; obtain ⟨hc1, hf1⟩ := bcell hb1; have hz1 : w.heap.size + 1 < w1.heap.size := by have := hb1.size; simp at this; omega
    go_wp2_with fail
    refine (good_any _ _ _ hc hm).mono ?_; rintro e w2 ⟨rfl, hb2⟩; obtain ⟨hc2, hf2⟩ := bcell hb2; have hz1' : w.heap.size < w1.heap.size := by omega
    go_wp2_with fail
    refine (has_any _ _ _ _ hb hn).mono ?_; rintro e w3 ⟨rfl, hb3⟩
    go_wp2_with fail
    go_ret
    exact ⟨rfl, bthen (bthen (bnew (bnew hb1)) hb2) hb3⟩
end Go.Proofs.YtffdfeekpfmbeaaGreat
