/- The walks of span.Good, Last, Has, Within, Overlap. Conditions: words of 64 bits. -/
import Derived.WalkSpells
import Derived.WalkLawsBesides
import Derived.Deep.RegionHeld3
import Derived.Test.YtnieomgopldlhaaProg
import Derived.Test.YtnieomgopldlhaaTableNeedsP1
import Derived.Test.YtnieomgopldlhaaTableNeedsP2
namespace Go.Proofs.Ytnieomgopldlhaa
open Go.RowKit

set_option maxHeartbeats 400000 in
theorem good_any (b n : Int) (w : World) (hb : W64 b) (hn : W64 n) :
    Calls Try.prog 20 #[.agg #[.int .u64 b, .int .u64 n]] w fun e w' => e = .returned (.bool (goodB b n)) ∧ Below w.heap.size w w' := by
  obtain ⟨b0, b1⟩ := hb
  obtain ⟨n0, n1⟩ := hn
  by_cases h : 0 < n
  · go_enter Try.func20, Try.ntmps20
    go_wp2
    go_ret
    exact ⟨ret_bool (by simp [goodB, h]), bone _ _⟩
  · go_enter Try.func20, Try.ntmps20
    go_wp2
    go_ret
    exact ⟨ret_bool (by unfold goodB; rw [decide_eq_false (show ¬ 0 < n by omega)]; rfl), bone _ _⟩

set_option maxHeartbeats 400000 in
theorem last_any (b n : Int) (w : World) (hb : W64 b) (hn : W64 n) :
    Calls Try.prog 17 #[.agg #[.int .u64 b, .int .u64 n]] w fun e w' => e = .returned (.int .u64 (lastV b n)) ∧ Below w.heap.size w w' := by
  cases h : goodB b n
  · have e := Lib.hid (lastV_no h)
    go_enter Try.func17, Try.ntmps17
    go_wp2_with (go_at_call 20; refine (good_any _ _ _ hb hn).mono ?_; rintro e w1 ⟨rfl, hb1⟩)
    go_ret
    exact ⟨ret_u64 e.out.symm, bnew hb1⟩
  · have e := Lib.hid (lastV_yes h)
    have hi := goodB_iff.1 h
    obtain ⟨b0, b1⟩ := id hb
    obtain ⟨n0, n1⟩ := id hn
    obtain ⟨g1, g2⟩ := hi
    go_enter Try.func17, Try.ntmps17
    go_wp2_with (go_at_call 20; refine (good_any _ _ _ hb hn).mono ?_; rintro e w1 ⟨rfl, hb1⟩; obtain ⟨hc1, hf1⟩ := bcell hb1)
    go_ret
    exact ⟨ret_u64 (by rw [e.out]), bnew hb1⟩

set_option maxHeartbeats 400000 in
theorem has_any (b n a : Int) (w : World) (hb : W64 b) (hn : W64 n) :
    Calls Try.prog 55 #[.agg #[.int .u64 b, .int .u64 n], .int .u64 a] w fun e w' => e = .returned (.bool (hasB b n a)) ∧ Below w.heap.size w w' := by
  cases h : goodB b n
  · have e : hasB b n a = false := by unfold hasB; rw [h]; rfl
    rw [e]; clear e
    go_enter Try.func55, Try.ntmps55
    go_wp2_with (go_at_call 20; refine (good_any _ _ _ hb hn).mono ?_; rintro e w1 ⟨rfl, hb1⟩)
    go_ret
    exact ⟨rfl, bnew hb1⟩
  · by_cases h2 : b ≤ a
    · have e : hasB b n a = decide (a ≤ lastV b n) := by unfold hasB; rw [h, decide_eq_true h2]; rfl
      rw [e]; clear e
      go_enter Try.func55, Try.ntmps55
      go_wp2_with fail
      refine (good_any _ _ _ hb hn).mono ?_; rintro e w1 ⟨rfl, hb1⟩; obtain ⟨hc1, hf1⟩ := bcell hb1
      go_wp2_with fail
      refine (last_any _ _ _ hb hn).mono ?_; rintro e w2 ⟨rfl, hb2⟩
      go_wp2_with fail
      go_ret
      exact ⟨rfl, bthen (bnew hb1) hb2⟩
    · have e : hasB b n a = false := by unfold hasB; rw [h, decide_eq_false h2]; rfl
      rw [e]; clear e
      go_enter Try.func55, Try.ntmps55
      go_wp2_with (go_at_call 20; refine (good_any _ _ _ hb hn).mono ?_; rintro e w1 ⟨rfl, hb1⟩; obtain ⟨hc1, hf1⟩ := bcell hb1)
      go_ret
      exact ⟨rfl, bnew hb1⟩

end Go.Proofs.Ytnieomgopldlhaa
