/- The walks of span.Good, Last, Has, Within, Overlap. Conditions: words of 64 bits. -/
import Derived.Test.YtkpkbljcflmdgaaProg
import Derived.Test.YtkpkbljcflmdgaaSpanA
import Derived.Test.YtkpkbljcflmdgaaCells
import Derived.WalkSpells
import Derived.WalkLawsBesides
import Derived.Deep.RegionHeld3
namespace Go.Proofs.Ytkpkbljcflmdgaa
open Go.RowKit

set_option maxHeartbeats 400000 in
theorem good_any (b n : Int) (w : World) (hb : W64 b) (hn : W64 n) :
    Calls Try.prog 33 #[.agg #[.int .u64 b, .int .u64 n]] w fun e w' => e = .returned (.bool (goodB b n)) ∧ Below w.heap.size w w' := by
  obtain ⟨b0, b1⟩ := hb
  obtain ⟨n0, n1⟩ := hn
  by_cases h : 0 < n
  · go_enter Try.func33, Try.ntmps33
    go_wp2
    go_ret
    exact ⟨ret_bool (by simp [goodB, h]), bone _ _⟩
  · go_enter Try.func33, Try.ntmps33
    go_wp2
    go_ret
    exact ⟨ret_bool (by unfold goodB; rw [decide_eq_false (show ¬ 0 < n by omega)]; rfl), bone _ _⟩

set_option maxHeartbeats 400000 in
theorem last_any (b n : Int) (w : World) (hb : W64 b) (hn : W64 n) :
    Calls Try.prog 25 #[.agg #[.int .u64 b, .int .u64 n]] w fun e w' => e = .returned (.int .u64 (lastV b n)) ∧ Below w.heap.size w w' := by
  cases h : goodB b n
  · have e := Lib.hid (lastV_no h)
    go_enter Try.func25, Try.ntmps25
    go_wp2_with (go_at_call 33; refine (good_any _ _ _ hb hn).mono ?_; rintro e w1 ⟨rfl, hb1⟩)
    go_ret
    exact ⟨ret_u64 e.out.symm, bnew hb1⟩
  · have e := Lib.hid (lastV_yes h)
    have hi := goodB_iff.1 h
    obtain ⟨b0, b1⟩ := id hb
    obtain ⟨n0, n1⟩ := id hn
    obtain ⟨g1, g2⟩ := hi
    go_enter Try.func25, Try.ntmps25
    go_wp2_with (go_at_call 33; refine (good_any _ _ _ hb hn).mono ?_; rintro e w1 ⟨rfl, hb1⟩; obtain ⟨hc1, hf1⟩ := bcell hb1)
    go_ret
    exact ⟨ret_u64 (by rw [e.out]), bnew hb1⟩


end Go.Proofs.Ytkpkbljcflmdgaa
