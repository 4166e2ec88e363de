/- The walk of the statement WalkTells. -/
import Derived.Test.YtdlpgonpikflfaaDoorLaidA
namespace Go.Proofs.YtdlpgonpikflfaaDoor
open Go Go.RowKit Go.BigFrame Go.Maps

set_option maxRecDepth 100000 in
set_option maxHeartbeats 4000000 in
theorem walkTells_walk (v : Value) (l : List Two) (root ipa : Int) (w : World) (hT : Tab3 w) (hv : RowTwo w v l) (hr : W64 root) (hi : W64 ipa) :
    Calls Tryd.prog 3 #[v, .int .u64 root, .int .u64 ipa] w fun e w' => e = .returned (.bool true) ∧ Below w.heap.size w w' := by
  obtain ⟨a0, cap0, rfl, hcap, hcv⟩ := id hv
  by_cases hl : l.length ≤ 60
  · have hl' : ¬ (60 : Int) < (l.length : Int) := by omega
    have hld := fun W h => laid_any (.slice a0 l.length cap0) l W h (by omega)
    replace hl := Lib.hid hl
    go_enter Tryd.func3, Tryd.ntmps3
    go_wp2_with fail
    refine (awake20_any _ hT).mono ?_; rintro e w1 ⟨rfl, hb1⟩
    go_wp2_with fail
    refine (hld _ (hv.below hb1)).mono ?_; rintro e w2 ⟨mb, pb, rb, pv, L1, L2, rfl, hbo, e1, e2, hb2⟩
    replace hb2 := bthen hb1 hb2
    have hw1 := fun W h => walk_any mb pb 1073741824 16777216 root ipa L1 W h
    have hw2 := fun W h => refWalk_any rb pv 1073741824 16777216 root ipa L2 W h hr hi
    rw [e1] at hw1
    rw [e2] at hw2
    generalize walkV (wordV 1073741824 16777216 (laidV l)) root ipa = R at *
    obtain ⟨⟨hpa, hpm, hmm, hlv⟩, er⟩ := R
    simp only [HitV.val] at hw1 hw2
    clear hld e1 e2 hcv
    go_wp2_with fail
    refine (hw1 _ hbo.mp (hT.below' hb2) hr hi).mono ?_; rintro e w3 ⟨rfl, hb3⟩
    have hbo3 := hbo.below hb3
    replace hb3 := bthen hb2 hb3
    clear hw1 hb1 hb2 hbo
    go_wp2_with fail
    have hbx := bone w3 (.cells #[.int .u64 hpa, .int .i64 hpm, .int .i64 hmm, .int .i64 hlv] 30)
    have hc : ∀ (i : Nat) (u : Value), (#[.int .u64 hpa, .int .i64 hpm, .int .i64 hmm, .int .i64 hlv] : Array Value)[i]? = some u → (w3.alloc (.cells #[.int .u64 hpa, .int .i64 hpm, .int .i64 hmm, .int .i64 hlv] 30)).cell? ⟨w3.heap.size, i, none⟩ = some u := fun i u h => by rw [World.cell?_alloc_new]; exact h
    have c0 := hc 0 _ rfl
    have c1 := hc 1 _ rfl
    have c2 := hc 2 _ rfl
    have c3 := hc 3 _ rfl
    have l3 : w3.heap.size < (w3.alloc (.cells #[.int .u64 hpa, .int .i64 hpm, .int .i64 hmm, .int .i64 hlv] 30)).heap.size := by simp
    have hbo4 := hbo3.below hbx
    replace hb3 := bthen hb3 hbx
    clear hc hbx hbo3
    generalize w3.alloc (.cells #[.int .u64 hpa, .int .i64 hpm, .int .i64 hmm, .int .i64 hlv] 30) = w4 at *
    refine (hw2 _ hbo4.mr).mono ?_; rintro e w5 ⟨rfl, hb5⟩
    replace c0 := cell_lt hb5 c0 l3
    replace c1 := cell_lt hb5 c1 l3
    replace c2 := cell_lt hb5 c2 l3
    replace c3 := cell_lt hb5 c3 l3
    replace l3 := Nat.lt_of_lt_of_le l3 hb5.size
    replace hb3 := bthen hb3 hb5
    clear hw2 hb5 hbo4
    go_wp2_with fail
    go_ret
    exact ⟨by simp, hb3.alloc hb3.size _⟩
  · have hl' : (60 : Int) < (l.length : Int) := by omega
    replace hl := Lib.hid hl
    go_enter Tryd.func3, Tryd.ntmps3
    go_wp2_with fail
    refine (awake20_any _ hT).mono ?_; rintro e w1 ⟨rfl, hb1⟩
    go_wp2_with fail
    go_ret
    exact ⟨rfl, hb1⟩
end Go.Proofs.YtdlpgonpikflfaaDoor
