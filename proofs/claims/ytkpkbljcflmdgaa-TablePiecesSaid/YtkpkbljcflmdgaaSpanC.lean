/- The walks of span.Within and of the reference's Good, Last, Has, Within, Overlap, Pages. Conditions: words of 64 bits. -/
import Derived.Test.YtkpkbljcflmdgaaSpanB
import Derived.Test.YtkpkbljcflmdgaaQuietB
namespace Go.Proofs.Ytkpkbljcflmdgaa
open Go.RowKit


set_option maxHeartbeats 400000 in
theorem refGood_any (b n : Int) (w : World) (hb : W64 b) (hn : W64 n) :
    Calls Try.prog 34 #[.agg #[.int .u64 b, .int .u64 n]] w fun e w' => e = .returned (.bool (goodB b n)) ∧ Below w.heap.size w w' := by
  obtain ⟨b0, b1⟩ := hb
  obtain ⟨n0, n1⟩ := hn
  by_cases h : 0 < n
  · go_enter Try.func34, Try.ntmps34
    go_wp2
    go_ret
    exact ⟨ret_bool (by unfold goodB; rw [decide_eq_true h, Bool.true_and, Bool.eq_iff_iff]; simp; omega), bone _ _⟩
  · go_enter Try.func34, Try.ntmps34
    go_wp2
    go_ret
    exact ⟨ret_bool (by unfold goodB; rw [decide_eq_false (show ¬ 0 < n by omega)]; rfl), bone _ _⟩

set_option maxHeartbeats 400000 in
theorem refLast_any (b n : Int) (w : World) (hb : W64 b) (hn : W64 n) :
    Calls Try.prog 30 #[.agg #[.int .u64 b, .int .u64 n]] w fun e w' => e = .returned (.int .u64 (lastV b n)) ∧ Below w.heap.size w w' := by
  cases h : goodB b n
  · have e := Lib.hid (lastV_no h)
    go_enter Try.func30, Try.ntmps30
    go_wp2_with (go_at_call 34; refine (refGood_any _ _ _ hb hn).mono ?_; rintro e w1 ⟨rfl, hb1⟩)
    go_ret
    exact ⟨ret_u64 e.out.symm, bnew hb1⟩
  · have e := Lib.hid (lastV_yes h)
    have hi := goodB_iff.1 h
    obtain ⟨b0, b1⟩ := id hb
    obtain ⟨n0, n1⟩ := id hn
    obtain ⟨g1, g2⟩ := hi
    go_enter Try.func30, Try.ntmps30
    go_wp2_with (go_at_call 34; refine (refGood_any _ _ _ hb hn).mono ?_; rintro e w1 ⟨rfl, hb1⟩; obtain ⟨hc1, hf1⟩ := bcell hb1)
    go_ret
    exact ⟨ret_u64 (by rw [e.out]), bnew hb1⟩




end Go.Proofs.Ytkpkbljcflmdgaa
