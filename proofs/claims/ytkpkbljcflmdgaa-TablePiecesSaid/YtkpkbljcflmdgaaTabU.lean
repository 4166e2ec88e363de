/- The walk of the statement TablePieces. -/
import Derived.Test.YtkpkbljcflmdgaaTabT
import Derived.Test.YtkpkbljcflmdgaaOpenS
import Derived.Test.YtkpkbljcflmdgaaOrd
namespace Go.Proofs.Ytkpkbljcflmdgaa
open Go Go.RowKit Go.Shelf Go.BigFrame

set_option maxRecDepth 100000 in
set_option maxHeartbeats 4000000 in
theorem tablePieces_walk (v : Value) (l : List M5) (w : World) (hv : RowM w v l) (hl : l.length ≤ 9223372036854775807) :
    Calls Try.prog 3 #[v] w fun e w' => e = .returned (.bool true) ∧ Below w.heap.size w w' := by
  have hbd := fun W h => bounded_any v l W h hl
  have hfl := fun W h => fewL_any v l W h
  have hv' := hv
  obtain ⟨a1, cp1, rfl, _, hc1⟩ := hv'
  go_enter Try.func3, Try.ntmps3
  go_wp2_with fail
  refine (awake_any _).mono ?_; rintro e w1 ⟨rfl, hb1⟩
  go_wp2_with fail
  refine (hbd _ (hv.below hb1)).mono ?_; rintro e w2 ⟨rfl, hb2⟩
  replace hb2 := bthen hb1 hb2
  clear hb1 hbd
  cases hq : (l.all (fun m => decide (m.sz ≤ 1099511627776)) && decide (l.length ≤ 12))
  · go_wp2_with fail
    go_ret
    exact ⟨rfl, hb2⟩
  · have h12 : l.length ≤ 12 := by rw [Bool.and_eq_true, decide_eq_true_iff] at hq; exact hq.2
    clear hq
    go_wp2_with fail
    go_loopw [16] (fun i wr => ∃ k : Nat, k ≤ l.length ∧ i = .int .i64 k ∧ Below w.heap.size w wr) (fun i _ => l.length - (intOf i).toNat)
    case atStart => exact ⟨0, Nat.zero_le _, rfl, hb2⟩
    case round =>
      clear hb2
      obtain ⟨k, hk, rfl, hB⟩ := hrel
      have hz := hB.size
      by_cases hlt : k < l.length
      · obtain ⟨b1, o1, rfl, hbl, hcell⟩ := hc1 (by rintro rfl; simp at hlt)
        obtain ⟨p0, p1, p2, p3, p4⟩ := hcell k hlt
        replace p0 := cell_lt hB p0 hbl
        replace p1 := cell_lt hB p1 hbl
        replace p2 := cell_lt hB p2 hbl
        replace p3 := cell_lt hB p3 hbl
        replace p4 := cell_lt hB p4 hbl
        clear hcell hc1
        generalize l[k] = x at *
        have hp := fun W => pieces_any x W
        have hr := fun W => refPieces_any x W
        have hPl := piecesV_len x
        generalize piecesV x = P at *
        obtain ⟨m0, m1, m2, m3, m4⟩ := five_new wr (.int .u64 x.ipa) (.int .u64 x.pa) (.int .u64 x.sz) (.int .i64 x.perm) (.int .i64 x.kind) 27
        go_wp2_with fail
        have hbx := bone wr (.cells #[.int .u64 x.ipa, .int .u64 x.pa, .int .u64 x.sz, .int .i64 x.perm, .int .i64 x.kind] 27)
        replace hbx := hB.trans (hbx.mono hz)
        have hwz : wr.heap.size < (wr.alloc (.cells #[.int .u64 x.ipa, .int .u64 x.pa, .int .u64 x.sz, .int .i64 x.perm, .int .i64 x.kind] 27)).heap.size := by simp
        generalize wr.alloc (.cells #[.int .u64 x.ipa, .int .u64 x.pa, .int .u64 x.sz, .int .i64 x.perm, .int .i64 x.kind] 27) = w3 at *
        clear p0 p1 p2 p3 p4 hB
        have y0 := later_cell (B := w3.heap.size) m0 hwz
        have y1 := later_cell (B := w3.heap.size) m1 hwz
        have y2 := later_cell (B := w3.heap.size) m2 hwz
        have y3 := later_cell (B := w3.heap.size) m3 hwz
        have y4 := later_cell (B := w3.heap.size) m4 hwz
        clear m0 m1 m2 m3 m4
        refine region_ord (fun z => ∃ X : Later w3.heap.size w3, z = X.x) [([0, 2], 1), ([], 3), ([], 4)] [5] (by kernel_rfl) (by kernel_rfl) (by kernel_rfl) (by kernel_rfl) ⟨⟨_, (Below.refl _ _).drew⟩, rfl⟩ ?_
        simp only [List.map_cons, List.map_nil, List.filterMap_cons, List.filterMap_nil, List.getElem?_cons_succ, List.getElem?_cons_zero]
        have hB10 : Below w3.heap.size w3 w3.drew := (Below.refl _ _).drew
        generalize w3.drew = w10 at *
        refine ord_step ?_
        repeat (change wpQuiet _ _ _ _ (List.cons _ _) _; go_big_quiet_step (fail))
        refine wpQuiet_nil ?_
        intro Q₁ hQ₁
        go_wp2_with fail
        refine (hp w10).mono ?_; rintro e w11 ⟨r1, rfl, ho1, hb11⟩
        have hB11 : Below w3.heap.size w3 w11 := bthen hB10 hb11
        have hr1 := ho1.row
        obtain ⟨a5, c5, rfl, _, _⟩ := ho1.row
        go_wp2_with fail
        refine hQ₁ _ _ ⟨⟨_, hB11⟩, rfl⟩ ?_
        clear hQ₁ Q₁ ho1
        refine ord_step ?_
        refine wpQuiet_nil ?_
        intro Q₁ hQ₁
        go_wp2_with fail
        refine (hr w11).mono ?_; rintro e w12 ⟨r2, rfl, ho2, hb12⟩
        have hB12 : Below w3.heap.size w3 w12 := bthen hB11 hb12
        have hr2 := ho2.row
        replace hr1 := hr1.below hb12
        obtain ⟨a6, c6, rfl, _, _⟩ := ho2.row
        go_wp2_with fail
        refine hQ₁ _ _ ⟨⟨_, hB12⟩, rfl⟩ ?_
        clear hQ₁ Q₁ ho2
        refine ord_step ?_
        refine wpQuiet_nil ?_
        intro Q₁ hQ₁
        go_wp2_with fail
        refine (sameMaps_any _ _ P w12 hr1 hr2 (by omega)).mono ?_; rintro e w13 ⟨rfl, hb13⟩
        have hB13 : Below w3.heap.size w3 w13 := bthen hB12 hb13
        go_wp2_with fail
        refine hQ₁ _ _ ⟨⟨_, hB13⟩, rfl⟩ ?_
        clear hQ₁ Q₁ hr1 hr2
        refine ord_last ?_
        repeat (change wpQuiet _ _ _ _ (List.cons _ _) _; go_big_quiet_step (fail))
        refine wpQuiet_nil ?_
        clear y0 y1 y2 y3 y4 hp hr
        go_wp2_with fail
        exact ⟨⟨k + 1, hlt, by go_num, hbx.trans (hB13.mono (by omega))⟩, by simp [intOf]; omega⟩
      · obtain rfl : k = l.length := by omega
        clear hc1
        go_wp2_with fail
        refine (hfl _ (hv.below (hB.mono (Nat.le_refl _)))).mono ?_; rintro e w3 ⟨rfl, hb3⟩
        replace hb3 := bthen hB hb3
        clear hfl
        cases hq : (decide (l.length ≤ 12) && decide (cntP l ≤ 600))
        · go_wp2_with fail
          go_ret
          exact ⟨rfl, hb3⟩
        · have hn1 := need_any _ l w3 (hv.below hb3) (by omega)
          have hn2 := fun W h => refNeed_any (.slice a1 l.length cp1) l W h (by omega)
          rw [need_agree] at hn2
          go_wp2_with fail
          refine hn1.mono ?_; rintro e w4 ⟨rfl, hb4⟩
          replace hb4 := bthen hb3 hb4
          clear hn1
          go_wp2_with fail
          refine (hn2 _ (hv.below hb4)).mono ?_; rintro e w5 ⟨rfl, hb5⟩
          go_wp2_with fail
          go_ret
          exact ⟨rfl, bthen hb4 hb5⟩
end Go.Proofs.Ytkpkbljcflmdgaa
