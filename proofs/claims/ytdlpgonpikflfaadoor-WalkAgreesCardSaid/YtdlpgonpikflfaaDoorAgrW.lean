/- The walk of the statement WalkAgrees. -/
import Derived.Test.YtdlpgonpikflfaaDoorAgrP
import Derived.Test.YtdlpgonpikflfaaDoorLaidA
namespace Go.Proofs.YtdlpgonpikflfaaDoor
open Go Go.RowKit Go.BigFrame Go.Maps

set_option maxRecDepth 100000 in
set_option maxHeartbeats 4000000 in
theorem walkAgrees_walk (v : Value) (l : List Two) (root ipa : Int) (w : World) (hT : Tab3 w) (hv : RowTwo w v l) (hr : W64 root) (hi : W64 ipa) :
    Calls Tryd.prog 5 #[v, .int .u64 root, .int .u64 ipa] w fun e w' => e = .returned (.bool true) ∧ Below w.heap.size w w' := by
  obtain ⟨a0, cap0, rfl, hcap, hcv⟩ := id hv
  by_cases hl : l.length ≤ 20
  · have hl' : ¬ (20 : Int) < (l.length : Int) := by omega
    have hld := fun W h => laid_any (.slice a0 l.length cap0) l W h (by omega)
    have hi0 := hi.1
    have hq0 : 0 ≤ ipa % 1099511627776 := by omega
    have hq1 : ipa % 1099511627776 < 1099511627776 := by omega
    have hq : W64 (ipa % 1099511627776) := by unfold W64; omega
    have hag := fun rd => agrees rd root (ipa % 1099511627776) hq0 hq1
    replace hl := Lib.hid hl
    replace hq0 := Lib.hid hq0
    replace hq1 := Lib.hid hq1
    go_enter Tryd.func5, Tryd.ntmps5
    go_wp2_with fail
    refine (awake20_any _ hT).mono ?_; rintro e w1 ⟨rfl, hb1⟩
    go_wp2_with fail
    refine (hld _ (hv.below hb1)).mono ?_; rintro e w2 ⟨mb, pb, rb, pv, L1, L2, rfl, hbo, e1, e2, hb2⟩
    replace hb2 := bthen hb1 hb2
    have hrd := hbo.mp.reads
    rw [e1] at hrd
    replace hag := hag (wordV 1073741824 16777216 (laidV l))
    generalize wordV 1073741824 16777216 (laidV l) = rd at *
    have hT2 := hT.below' hb2
    have hall := all_any 3 rfl (some ⟨mb, 0, none⟩) rd w2 hrd hT2 root hr
    have hwk := fun W (hb : Below w2.heap.size w2 W) => walk_gen (some ⟨mb, 0, none⟩) rd root (ipa % 1099511627776) W (hrd.later hb hb.size) (hT2.below' hb) hr hq
    generalize walkV rd root (ipa % 1099511627776) = R at *
    obtain ⟨⟨hpa, hpm, hmm, hlv⟩, er⟩ := R
    simp only [HitV.val] at hwk
    obtain ⟨S, hS⟩ : ∃ S, S = swAll 3 rd root := ⟨_, rfl⟩
    have hlen := swAll_len 3 rd root
    rw [← hS] at hall hag hlen
    clear hS hld e1 e2 hcv hbo hb1 hrd hT2
    obtain ⟨tabs, long, st⟩ := S
    simp only at hall hag hlen
    cases long
    · replace hag := hag rfl
      rw [if_neg (by simp)] at hall
      rw [if_neg (by simp)] at hall
      unfold lk wres at hag
      replace hag := Lib.hid hag
      go_wp2_with fail
      refine hall.mono ?_; rintro e w3 ⟨hb3, va, rfl, hown⟩
      obtain ⟨av, cv, rfl⟩ := rowSlice hown
      have hrow := hown.row
      clear hall hown
      go_wp2_with fail
      refine (hwk _ hb3).mono ?_; rintro e w4 ⟨rfl, hb4⟩
      clear hwk
      replace hrow := hrow.below hb4
      replace hb4 := bthen (bthen hb2 hb3) hb4
      clear hb2 hb3
      go_wp2_with fail
      have hbx := bone w4 (.cells #[.int .u64 hpa, .int .i64 hpm, .int .i64 hmm, .int .i64 hlv] 30)
      have hc : ∀ (i : Nat) (u : Value), (#[.int .u64 hpa, .int .i64 hpm, .int .i64 hmm, .int .i64 hlv] : Array Value)[i]? = some u → (w4.alloc (.cells #[.int .u64 hpa, .int .i64 hpm, .int .i64 hmm, .int .i64 hlv] 30)).cell? ⟨w4.heap.size, i, none⟩ = some u := fun i u h => by rw [World.cell?_alloc_new]; exact h
      have c0 := hc 0 _ rfl
      have c1 := hc 1 _ rfl
      have c2 := hc 2 _ rfl
      have l3 : w4.heap.size < (w4.alloc (.cells #[.int .u64 hpa, .int .i64 hpm, .int .i64 hmm, .int .i64 hlv] 30)).heap.size := by simp
      replace hrow := hrow.below hbx
      replace hb4 := bthen hb4 hbx
      clear hc hbx
      generalize w4.alloc (.cells #[.int .u64 hpa, .int .i64 hpm, .int .i64 hmm, .int .i64 hlv] 30) = w5 at *
      refine (refAt_any _ st (ipa % 1099511627776) w5 hrow hq (by omega)).mono ?_; rintro e w6 ⟨rfl, hb6⟩
      replace c0 := cell_lt hb6 c0 l3
      replace c1 := cell_lt hb6 c1 l3
      replace c2 := cell_lt hb6 c2 l3
      replace l3 := Nat.lt_of_lt_of_le l3 hb6.size
      replace hb6 := bthen hb4 hb6
      clear hrow hb4
      generalize atM st (ipa % 1099511627776) = o at *
      replace hag := hag.out
      rcases o with _ | x
      · have her : (er == 0) = false := by
          by_cases h : er = 0
          · rw [if_pos h] at hag; cases hag
          · simpa using h
        clear hag
        rw [show ((none : Option M5).getD default).val = .agg #[.int .u64 0, .int .u64 0, .int .u64 0, .int .i64 0, .int .i64 0] from rfl]
        go_wp2_with fail
        go_ret
        exact ⟨rfl, hb6.alloc hb6.size _⟩
      · have her : er = 0 := by
          by_cases h : er = 0
          · exact h
          · rw [if_neg h] at hag; cases hag
        subst her
        rw [if_pos rfl] at hag
        simp only [Option.map_some, Option.some.injEq, Prod.mk.injEq] at hag
        obtain ⟨rfl, rfl, rfl⟩ := hag
        have hpae : atPA (some x) (ipa % 1099511627776) = (x.pa + (ipa % 1099511627776 - x.ipa)) % 18446744073709551616 := rfl
        rw [hpae, show ((some x).getD default).val = .agg #[.int .u64 x.ipa, .int .u64 x.pa, .int .u64 x.sz, .int .i64 x.perm, .int .i64 x.kind] from rfl]
        clear hpae
        generalize (x.pa + (ipa % 1099511627776 - x.ipa)) % 18446744073709551616 = PA at *
        go_wp2_with fail
        go_ret
        exact ⟨by simp, hb6.alloc hb6.size _⟩
    · rw [if_pos rfl] at hall
      rw [if_pos rfl] at hall
      go_wp2_with fail
      refine hall.mono ?_; rintro e w3 ⟨hb3, va, rfl, hown⟩
      obtain ⟨av, cv, rfl⟩ := rowSlice hown
      replace hb3 := bthen hb2 hb3
      clear hall hwk hb2 hag
      go_wp2_with fail
      go_ret
      exact ⟨rfl, hb3⟩
  · have hl' : (20 : Int) < (l.length : Int) := by omega
    replace hl := Lib.hid hl
    go_enter Tryd.func5, Tryd.ntmps5
    go_wp2_with fail
    refine (awake20_any _ hT).mono ?_; rintro e w1 ⟨rfl, hb1⟩
    go_wp2_with fail
    go_ret
    exact ⟨rfl, hb1⟩
end Go.Proofs.YtdlpgonpikflfaaDoor
