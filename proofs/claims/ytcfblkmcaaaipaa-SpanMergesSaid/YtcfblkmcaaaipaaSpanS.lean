/- The walks of the statements of chapter 2. -/
import Derived.Test.YtcfblkmcaaaipaaSpanR
import Derived.Test.YtcfblkmcaaaipaaSpanE
import Derived.Test.YtcfblkmcaaaipaaSpanI
import Derived.Test.YtcfblkmcaaaipaaOrd
import Derived.BigQuiet
namespace Go.Proofs.Ytcfblkmcaaaipaa
open Go.RowKit Go.BigFrame

set_option maxHeartbeats 1000000 in
theorem spanMerges_walk (v : Value) (l : List Two) (w : World) (hv : RowTwo w v l) :
    Calls Try.prog 3 #[v] w fun e w' => e = .returned (.bool true) ∧ Below w.heap.size w w' := by
  obtain ⟨a, cap, rfl, _⟩ := id hv
  by_cases h : 40 < l.length
  · have h' : (40 : Int) < (l.length : Int) := by omega
    go_enter Try.func3, Try.ntmps3
    go_wp2_with fail
    refine (awake_any _).mono ?_; rintro e w1 ⟨rfl, hb1⟩
    go_wp2_with fail
    go_ret
    exact ⟨rfl, hb1⟩
  · have h' : ¬ (40 : Int) < (l.length : Int) := by omega
    go_enter Try.func3, Try.ntmps3
    go_wp2_with fail
    refine (awake_any _).mono ?_; rintro e w1 ⟨rfl, hb1⟩
    have hv1 := hv.below hb1
    go_wp2_with fail
    refine (merge_any _ l w1 hv1 (by omega)).mono ?_; rintro e2 w2 ⟨r2, rfl, hr2, hb2⟩
    have hv2 := hv1.below hb2
    go_wp2_with fail
    refine (refMerge_any _ l w2 hv2 (by omega)).mono ?_; rintro e3 w3 ⟨r3, rfl, hr3, hb3⟩
    have q2 := (OwnTwo.row hr2).below hb3
    have q3 := OwnTwo.row hr3
    have l2 : (spansV (mergedV l)).length ≤ 1099511627776 := by have := spansV_len (mergedV l); have := mergedV_len l; omega
    have l3 : (refMergeV l).length ≤ 1099511627776 := by rw [← merge_eq]; exact l2
    go_wp2_with fail
    refine (refSame_any _ _ _ _ w3 q2 q3 l2 l3).mono ?_; rintro e4 w4 ⟨rfl, hb4⟩
    rw [merge_eq, sameV_refl]
    go_wp2_with fail
    go_ret
    exact ⟨rfl, bthen (bthen (bthen hb1 hb2) hb3) hb4⟩

set_option maxHeartbeats 1000000 in
theorem spanFirst_walk (v : Value) (l : List Two) (w : World) (hv : RowTwo w v l) :
    Calls Try.prog 8 #[v] w fun e w' => e = .returned (.bool true) ∧ Below w.heap.size w w' := by
  obtain ⟨a, cap, rfl, _⟩ := id hv
  by_cases h : 40 < l.length
  · have h' : (40 : Int) < (l.length : Int) := by omega
    go_enter Try.func8, Try.ntmps8
    go_wp2_with fail
    refine (awake_any _).mono ?_; rintro e w1 ⟨rfl, hb1⟩
    go_wp2_with fail
    go_ret
    exact ⟨rfl, hb1⟩
  · have h' : ¬ (40 : Int) < (l.length : Int) := by omega
    go_enter Try.func8, Try.ntmps8
    go_wp2_with fail
    refine (awake_any _).mono ?_; rintro e w1 ⟨rfl, hb1⟩
    have hv1 := hv.below hb1
    go_wp2_with fail
    refine (first_any _ l w1 hv1 (by omega)).mono ?_; rintro e2 w2 ⟨rfl, hb2⟩
    have hv2 := hv1.below hb2
    go_wp2_with fail
    refine (refFirst_any _ l w2 hv2 (by omega)).mono ?_; rintro e3 w3 ⟨rfl, hb3⟩
    generalize (firstV l).1 = x at *
    generalize (firstV l).2.1 = y at *
    generalize (firstV l).2.2 = z at *
    have hz : (z == z) = true := by simp
    have hx : (x == x) = true := by simp
    have hy : (y == y) = true := by simp
    go_wp2_with fail
    go_ret
    exact ⟨rfl, bthen (bthen hb1 hb2) hb3⟩

end Go.Proofs.Ytcfblkmcaaaipaa
