/- The walk of the statement SpanSets. -/
import Derived.Test.YtcfblkmcaaaipaaSpanV
namespace Go.Proofs.Ytcfblkmcaaaipaa
open Go.RowKit Go.BigFrame

set_option maxRecDepth 100000 in
set_option maxHeartbeats 4000000 in
theorem spanSets_walk (v : Value) (s : Two) (l : List Two) (at' : Int) (w : World) (hv : RowTwo w v l) (ha : W64 at') :
    Calls Try.prog 5 #[.agg #[.int .u64 s.a, .int .u64 s.b], v, .int .u64 at'] w fun e w' => e = .returned (.bool true) ∧ Below w.heap.size w w' := by
  obtain ⟨a, cap, rfl, _⟩ := id hv
  by_cases h : 40 < l.length
  · have h' : (40 : Int) < (l.length : Int) := by omega
    go_enter Try.func5, Try.ntmps5
    go_wp2_with fail
    refine (awake_any _).mono ?_; rintro e w1 ⟨rfl, hb1⟩
    go_wp2_with fail
    go_ret
    exact ⟨rfl, bnew hb1⟩
  · have h' : ¬ (40 : Int) < (l.length : Int) := by omega
    have hM : (spansV (mergedV l)).length ≤ 1099511627776 := by have := spansV_len (mergedV l); have := mergedV_len l; omega
    have hC : (cutV s l).length ≤ 1099511627776 := by
      unfold cutV; split
      · have := spansV_len (cutEnds s l)
        have := cutFrom_len (lastV s.a s.b) (mergedV l) s.a
        have := mergedV_len l
        unfold cutEnds at *; omega
      · simp
    have hl40 : l.length ≤ 40 := by omega
    have I1 := fun r W (q : RowTwo W r (spansV (mergedV l))) => in_any r _ at' W ha q hM
    have I2 := fun r W (q : RowTwo W r l) => in_any r _ at' W ha q (by omega)
    have I3 := fun r W (q : RowTwo W r (cutV s l)) => in_any r _ at' W ha q hC
    have I4 := fun W => refHas_any s.a s.b at' W s.ha s.hb ha
    rw [merge_in l at' ha] at I1
    rw [cut_in] at I3
    generalize inV l at' = i at *
    generalize hasB s.a s.b at' = hh at *
    replace h := Lib.hid h
    cases i <;> cases hh
    all_goals simp only [Bool.not_true, Bool.not_false, Bool.and_true, Bool.and_false, Bool.true_and, Bool.false_and] at I3
    · skip
      go_enter Try.func5, Try.ntmps5
      go_wp2_with fail
      refine (awake_any _).mono ?_; rintro e w1 ⟨rfl, hb1⟩
      obtain ⟨c0, c1, hz1, hW⟩ := box1 hb1
      have hv1 := hv.below hW
      clear hb1 hv
      go_wp2_with fail
      have y0 := later_cell c0 hz1
      have y1 := later_cell c1 hz1
      refine region_ord (fun z => ∃ X : Later w1.heap.size w1, z = X.x) [([0, 2, 4, 5], 1), ([], 3), ([], 6), ([7, 8, 9, 10, 12, 14, 15], 11), ([], 13), ([], 16), ([17, 18, 19], 20)] [21, 22, 23, 24, 25] (by kernel_rfl) (by kernel_rfl) (by kernel_rfl) (by kernel_rfl) ⟨⟨_, (Below.refl _ _).drew⟩, rfl⟩ ?_
      simp only [List.map_cons, List.map_nil, List.filterMap_cons, List.filterMap_nil, List.getElem?_cons_succ, List.getElem?_cons_zero]
      have hB10 : Below w1.heap.size w1 w1.drew := (Below.refl _ _).drew
      generalize w1.drew = w10 at *
      refine ord_step ?_
      repeat (change wpQuiet _ _ _ _ (List.cons _ _) _; go_big_quiet_step (fail))
      refine wpQuiet_nil ?_
      intro Q₁ hQ₁
      go_wp2_with fail
      refine (merge_any _ l w10 (hv1.below hB10) (by omega)).mono ?_; rintro e w11 ⟨r1, rfl, hr1, hb11⟩
      obtain ⟨A1, C1, rfl, _, _⟩ := OwnTwo.row hr1
      have hB11 : Below w1.heap.size w1 w11 := bthen hB10 hb11
      go_wp2_with fail
      refine hQ₁ _ _ ⟨⟨_, hB11⟩, rfl⟩ ?_
      clear hQ₁ Q₁
      refine ord_step ?_
      repeat (change wpQuiet _ _ _ _ (List.cons _ _) _; go_big_quiet_step (fail))
      refine wpQuiet_nil ?_
      intro Q₁ hQ₁
      go_wp2_with fail
      refine (I1 _ w11 (OwnTwo.row hr1)).mono ?_; rintro e w12 ⟨rfl, hb12⟩
      have hB12 : Below w1.heap.size w1 w12 := bthen hB11 hb12
      go_wp2_with fail
      refine hQ₁ _ _ ⟨⟨_, hB12⟩, rfl⟩ ?_
      clear hQ₁ Q₁
      refine ord_step ?_
      repeat (change wpQuiet _ _ _ _ (List.cons _ _) _; go_big_quiet_step (fail))
      refine wpQuiet_nil ?_
      intro Q₁ hQ₁
      go_wp2_with fail
      refine (I2 _ w12 (hv1.below hB12)).mono ?_; rintro e w13 ⟨rfl, hb13⟩
      have hB13 : Below w1.heap.size w1 w13 := bthen hB12 hb13
      go_wp2_with fail
      refine hQ₁ _ _ ⟨⟨_, hB13⟩, rfl⟩ ?_
      clear hQ₁ Q₁
      refine ord_step ?_
      repeat (change wpQuiet _ _ _ _ (List.cons _ _) _; go_big_quiet_step (fail))
      refine wpQuiet_nil ?_
      intro Q₁ hQ₁
      go_wp2_with fail
      refine (cut_any _ s l w13 (hv1.below hB13) (by omega)).mono ?_; rintro e w14 ⟨r2, rfl, hr2, hb14⟩
      obtain ⟨A2, C2, rfl, _, _⟩ := OwnTwo.row hr2
      have hB14 : Below w1.heap.size w1 w14 := bthen hB13 hb14
      go_wp2_with fail
      refine hQ₁ _ _ ⟨⟨_, hB14⟩, rfl⟩ ?_
      clear hQ₁ Q₁
      refine ord_step ?_
      repeat (change wpQuiet _ _ _ _ (List.cons _ _) _; go_big_quiet_step (fail))
      refine wpQuiet_nil ?_
      intro Q₁ hQ₁
      go_wp2_with fail
      refine (I3 _ w14 (OwnTwo.row hr2)).mono ?_; rintro e w15 ⟨rfl, hb15⟩
      have hB15 : Below w1.heap.size w1 w15 := bthen hB14 hb15
      go_wp2_with fail
      refine hQ₁ _ _ ⟨⟨_, hB15⟩, rfl⟩ ?_
      clear hQ₁ Q₁
      refine ord_step ?_
      repeat (change wpQuiet _ _ _ _ (List.cons _ _) _; go_big_quiet_step (fail))
      refine wpQuiet_nil ?_
      intro Q₁ hQ₁
      go_wp2_with fail
      refine (I4 w15).mono ?_; rintro e w16 ⟨rfl, hb16⟩
      have hB16 : Below w1.heap.size w1 w16 := bthen hB15 hb16
      go_wp2_with fail
      refine hQ₁ _ _ ⟨⟨_, hB16⟩, rfl⟩ ?_
      clear hQ₁ Q₁
      refine ord_step ?_
      repeat (change wpQuiet _ _ _ _ (List.cons _ _) _; go_big_quiet_step (fail))
      refine wpQuiet_nil ?_
      intro Q₁ hQ₁
      go_wp2_with fail
      refine hQ₁ _ _ ⟨⟨_, hB16⟩, rfl⟩ ?_
      clear hQ₁ Q₁
      refine ord_last ?_
      repeat (change wpQuiet _ _ _ _ (List.cons _ _) _; go_big_quiet_step (fail))
      refine wpQuiet_nil ?_
      go_wp2_with fail
      go_ret
      exact ⟨rfl, bthen hW hB16⟩
    · skip
      go_enter Try.func5, Try.ntmps5
      go_wp2_with fail
      refine (awake_any _).mono ?_; rintro e w1 ⟨rfl, hb1⟩
      obtain ⟨c0, c1, hz1, hW⟩ := box1 hb1
      have hv1 := hv.below hW
      clear hb1 hv
      go_wp2_with fail
      have y0 := later_cell c0 hz1
      have y1 := later_cell c1 hz1
      refine region_ord (fun z => ∃ X : Later w1.heap.size w1, z = X.x) [([0, 2, 4, 5], 1), ([], 3), ([], 6), ([7, 8, 9, 10, 12, 14, 15], 11), ([], 13), ([], 16), ([17, 18, 19], 20)] [21, 22, 23, 24, 25] (by kernel_rfl) (by kernel_rfl) (by kernel_rfl) (by kernel_rfl) ⟨⟨_, (Below.refl _ _).drew⟩, rfl⟩ ?_
      simp only [List.map_cons, List.map_nil, List.filterMap_cons, List.filterMap_nil, List.getElem?_cons_succ, List.getElem?_cons_zero]
      have hB10 : Below w1.heap.size w1 w1.drew := (Below.refl _ _).drew
      generalize w1.drew = w10 at *
      refine ord_step ?_
      repeat (change wpQuiet _ _ _ _ (List.cons _ _) _; go_big_quiet_step (fail))
      refine wpQuiet_nil ?_
      intro Q₁ hQ₁
      go_wp2_with fail
      refine (merge_any _ l w10 (hv1.below hB10) (by omega)).mono ?_; rintro e w11 ⟨r1, rfl, hr1, hb11⟩
      obtain ⟨A1, C1, rfl, _, _⟩ := OwnTwo.row hr1
      have hB11 : Below w1.heap.size w1 w11 := bthen hB10 hb11
      go_wp2_with fail
      refine hQ₁ _ _ ⟨⟨_, hB11⟩, rfl⟩ ?_
      clear hQ₁ Q₁
      refine ord_step ?_
      repeat (change wpQuiet _ _ _ _ (List.cons _ _) _; go_big_quiet_step (fail))
      refine wpQuiet_nil ?_
      intro Q₁ hQ₁
      go_wp2_with fail
      refine (I1 _ w11 (OwnTwo.row hr1)).mono ?_; rintro e w12 ⟨rfl, hb12⟩
      have hB12 : Below w1.heap.size w1 w12 := bthen hB11 hb12
      go_wp2_with fail
      refine hQ₁ _ _ ⟨⟨_, hB12⟩, rfl⟩ ?_
      clear hQ₁ Q₁
      refine ord_step ?_
      repeat (change wpQuiet _ _ _ _ (List.cons _ _) _; go_big_quiet_step (fail))
      refine wpQuiet_nil ?_
      intro Q₁ hQ₁
      go_wp2_with fail
      refine (I2 _ w12 (hv1.below hB12)).mono ?_; rintro e w13 ⟨rfl, hb13⟩
      have hB13 : Below w1.heap.size w1 w13 := bthen hB12 hb13
      go_wp2_with fail
      refine hQ₁ _ _ ⟨⟨_, hB13⟩, rfl⟩ ?_
      clear hQ₁ Q₁
      refine ord_step ?_
      repeat (change wpQuiet _ _ _ _ (List.cons _ _) _; go_big_quiet_step (fail))
      refine wpQuiet_nil ?_
      intro Q₁ hQ₁
      go_wp2_with fail
      refine (cut_any _ s l w13 (hv1.below hB13) (by omega)).mono ?_; rintro e w14 ⟨r2, rfl, hr2, hb14⟩
      obtain ⟨A2, C2, rfl, _, _⟩ := OwnTwo.row hr2
      have hB14 : Below w1.heap.size w1 w14 := bthen hB13 hb14
      go_wp2_with fail
      refine hQ₁ _ _ ⟨⟨_, hB14⟩, rfl⟩ ?_
      clear hQ₁ Q₁
      refine ord_step ?_
      repeat (change wpQuiet _ _ _ _ (List.cons _ _) _; go_big_quiet_step (fail))
      refine wpQuiet_nil ?_
      intro Q₁ hQ₁
      go_wp2_with fail
      refine (I3 _ w14 (OwnTwo.row hr2)).mono ?_; rintro e w15 ⟨rfl, hb15⟩
      have hB15 : Below w1.heap.size w1 w15 := bthen hB14 hb15
      go_wp2_with fail
      refine hQ₁ _ _ ⟨⟨_, hB15⟩, rfl⟩ ?_
      clear hQ₁ Q₁
      refine ord_step ?_
      repeat (change wpQuiet _ _ _ _ (List.cons _ _) _; go_big_quiet_step (fail))
      refine wpQuiet_nil ?_
      intro Q₁ hQ₁
      go_wp2_with fail
      refine (I4 w15).mono ?_; rintro e w16 ⟨rfl, hb16⟩
      have hB16 : Below w1.heap.size w1 w16 := bthen hB15 hb16
      go_wp2_with fail
      refine hQ₁ _ _ ⟨⟨_, hB16⟩, rfl⟩ ?_
      clear hQ₁ Q₁
      refine ord_step ?_
      repeat (change wpQuiet _ _ _ _ (List.cons _ _) _; go_big_quiet_step (fail))
      refine wpQuiet_nil ?_
      intro Q₁ hQ₁
      go_wp2_with fail
      refine (I2 _ w16 (hv1.below hB16)).mono ?_; rintro e w17 ⟨rfl, hb17⟩
      have hB17 : Below w1.heap.size w1 w17 := bthen hB16 hb17
      go_wp2_with fail
      refine hQ₁ _ _ ⟨⟨_, hB17⟩, rfl⟩ ?_
      clear hQ₁ Q₁
      refine ord_last ?_
      repeat (change wpQuiet _ _ _ _ (List.cons _ _) _; go_big_quiet_step (fail))
      refine wpQuiet_nil ?_
      go_wp2_with fail
      go_ret
      exact ⟨rfl, bthen hW hB17⟩
    · skip
      go_enter Try.func5, Try.ntmps5
      go_wp2_with fail
      refine (awake_any _).mono ?_; rintro e w1 ⟨rfl, hb1⟩
      obtain ⟨c0, c1, hz1, hW⟩ := box1 hb1
      have hv1 := hv.below hW
      clear hb1 hv
      go_wp2_with fail
      have y0 := later_cell c0 hz1
      have y1 := later_cell c1 hz1
      refine region_ord (fun z => ∃ X : Later w1.heap.size w1, z = X.x) [([0, 2, 4, 5], 1), ([], 3), ([], 6), ([7, 8, 9, 10, 12, 14, 15], 11), ([], 13), ([], 16), ([17, 18, 19], 20)] [21, 22, 23, 24, 25] (by kernel_rfl) (by kernel_rfl) (by kernel_rfl) (by kernel_rfl) ⟨⟨_, (Below.refl _ _).drew⟩, rfl⟩ ?_
      simp only [List.map_cons, List.map_nil, List.filterMap_cons, List.filterMap_nil, List.getElem?_cons_succ, List.getElem?_cons_zero]
      have hB10 : Below w1.heap.size w1 w1.drew := (Below.refl _ _).drew
      generalize w1.drew = w10 at *
      refine ord_step ?_
      repeat (change wpQuiet _ _ _ _ (List.cons _ _) _; go_big_quiet_step (fail))
      refine wpQuiet_nil ?_
      intro Q₁ hQ₁
      go_wp2_with fail
      refine (merge_any _ l w10 (hv1.below hB10) (by omega)).mono ?_; rintro e w11 ⟨r1, rfl, hr1, hb11⟩
      obtain ⟨A1, C1, rfl, _, _⟩ := OwnTwo.row hr1
      have hB11 : Below w1.heap.size w1 w11 := bthen hB10 hb11
      go_wp2_with fail
      refine hQ₁ _ _ ⟨⟨_, hB11⟩, rfl⟩ ?_
      clear hQ₁ Q₁
      refine ord_step ?_
      repeat (change wpQuiet _ _ _ _ (List.cons _ _) _; go_big_quiet_step (fail))
      refine wpQuiet_nil ?_
      intro Q₁ hQ₁
      go_wp2_with fail
      refine (I1 _ w11 (OwnTwo.row hr1)).mono ?_; rintro e w12 ⟨rfl, hb12⟩
      have hB12 : Below w1.heap.size w1 w12 := bthen hB11 hb12
      go_wp2_with fail
      refine hQ₁ _ _ ⟨⟨_, hB12⟩, rfl⟩ ?_
      clear hQ₁ Q₁
      refine ord_step ?_
      repeat (change wpQuiet _ _ _ _ (List.cons _ _) _; go_big_quiet_step (fail))
      refine wpQuiet_nil ?_
      intro Q₁ hQ₁
      go_wp2_with fail
      refine (I2 _ w12 (hv1.below hB12)).mono ?_; rintro e w13 ⟨rfl, hb13⟩
      have hB13 : Below w1.heap.size w1 w13 := bthen hB12 hb13
      go_wp2_with fail
      refine hQ₁ _ _ ⟨⟨_, hB13⟩, rfl⟩ ?_
      clear hQ₁ Q₁
      refine ord_step ?_
      repeat (change wpQuiet _ _ _ _ (List.cons _ _) _; go_big_quiet_step (fail))
      refine wpQuiet_nil ?_
      intro Q₁ hQ₁
      go_wp2_with fail
      refine (cut_any _ s l w13 (hv1.below hB13) (by omega)).mono ?_; rintro e w14 ⟨r2, rfl, hr2, hb14⟩
      obtain ⟨A2, C2, rfl, _, _⟩ := OwnTwo.row hr2
      have hB14 : Below w1.heap.size w1 w14 := bthen hB13 hb14
      go_wp2_with fail
      refine hQ₁ _ _ ⟨⟨_, hB14⟩, rfl⟩ ?_
      clear hQ₁ Q₁
      refine ord_step ?_
      repeat (change wpQuiet _ _ _ _ (List.cons _ _) _; go_big_quiet_step (fail))
      refine wpQuiet_nil ?_
      intro Q₁ hQ₁
      go_wp2_with fail
      refine (I3 _ w14 (OwnTwo.row hr2)).mono ?_; rintro e w15 ⟨rfl, hb15⟩
      have hB15 : Below w1.heap.size w1 w15 := bthen hB14 hb15
      go_wp2_with fail
      refine hQ₁ _ _ ⟨⟨_, hB15⟩, rfl⟩ ?_
      clear hQ₁ Q₁
      refine ord_step ?_
      repeat (change wpQuiet _ _ _ _ (List.cons _ _) _; go_big_quiet_step (fail))
      refine wpQuiet_nil ?_
      intro Q₁ hQ₁
      go_wp2_with fail
      refine (I4 w15).mono ?_; rintro e w16 ⟨rfl, hb16⟩
      have hB16 : Below w1.heap.size w1 w16 := bthen hB15 hb16
      go_wp2_with fail
      refine hQ₁ _ _ ⟨⟨_, hB16⟩, rfl⟩ ?_
      clear hQ₁ Q₁
      refine ord_step ?_
      repeat (change wpQuiet _ _ _ _ (List.cons _ _) _; go_big_quiet_step (fail))
      refine wpQuiet_nil ?_
      intro Q₁ hQ₁
      go_wp2_with fail
      refine hQ₁ _ _ ⟨⟨_, hB16⟩, rfl⟩ ?_
      clear hQ₁ Q₁
      refine ord_last ?_
      repeat (change wpQuiet _ _ _ _ (List.cons _ _) _; go_big_quiet_step (fail))
      refine wpQuiet_nil ?_
      go_wp2_with fail
      go_ret
      exact ⟨rfl, bthen hW hB16⟩
    · skip
      go_enter Try.func5, Try.ntmps5
      go_wp2_with fail
      refine (awake_any _).mono ?_; rintro e w1 ⟨rfl, hb1⟩
      obtain ⟨c0, c1, hz1, hW⟩ := box1 hb1
      have hv1 := hv.below hW
      clear hb1 hv
      go_wp2_with fail
      have y0 := later_cell c0 hz1
      have y1 := later_cell c1 hz1
      refine region_ord (fun z => ∃ X : Later w1.heap.size w1, z = X.x) [([0, 2, 4, 5], 1), ([], 3), ([], 6), ([7, 8, 9, 10, 12, 14, 15], 11), ([], 13), ([], 16), ([17, 18, 19], 20)] [21, 22, 23, 24, 25] (by kernel_rfl) (by kernel_rfl) (by kernel_rfl) (by kernel_rfl) ⟨⟨_, (Below.refl _ _).drew⟩, rfl⟩ ?_
      simp only [List.map_cons, List.map_nil, List.filterMap_cons, List.filterMap_nil, List.getElem?_cons_succ, List.getElem?_cons_zero]
      have hB10 : Below w1.heap.size w1 w1.drew := (Below.refl _ _).drew
      generalize w1.drew = w10 at *
      refine ord_step ?_
      repeat (change wpQuiet _ _ _ _ (List.cons _ _) _; go_big_quiet_step (fail))
      refine wpQuiet_nil ?_
      intro Q₁ hQ₁
      go_wp2_with fail
      refine (merge_any _ l w10 (hv1.below hB10) (by omega)).mono ?_; rintro e w11 ⟨r1, rfl, hr1, hb11⟩
      obtain ⟨A1, C1, rfl, _, _⟩ := OwnTwo.row hr1
      have hB11 : Below w1.heap.size w1 w11 := bthen hB10 hb11
      go_wp2_with fail
      refine hQ₁ _ _ ⟨⟨_, hB11⟩, rfl⟩ ?_
      clear hQ₁ Q₁
      refine ord_step ?_
      repeat (change wpQuiet _ _ _ _ (List.cons _ _) _; go_big_quiet_step (fail))
      refine wpQuiet_nil ?_
      intro Q₁ hQ₁
      go_wp2_with fail
      refine (I1 _ w11 (OwnTwo.row hr1)).mono ?_; rintro e w12 ⟨rfl, hb12⟩
      have hB12 : Below w1.heap.size w1 w12 := bthen hB11 hb12
      go_wp2_with fail
      refine hQ₁ _ _ ⟨⟨_, hB12⟩, rfl⟩ ?_
      clear hQ₁ Q₁
      refine ord_step ?_
      repeat (change wpQuiet _ _ _ _ (List.cons _ _) _; go_big_quiet_step (fail))
      refine wpQuiet_nil ?_
      intro Q₁ hQ₁
      go_wp2_with fail
      refine (I2 _ w12 (hv1.below hB12)).mono ?_; rintro e w13 ⟨rfl, hb13⟩
      have hB13 : Below w1.heap.size w1 w13 := bthen hB12 hb13
      go_wp2_with fail
      refine hQ₁ _ _ ⟨⟨_, hB13⟩, rfl⟩ ?_
      clear hQ₁ Q₁
      refine ord_step ?_
      repeat (change wpQuiet _ _ _ _ (List.cons _ _) _; go_big_quiet_step (fail))
      refine wpQuiet_nil ?_
      intro Q₁ hQ₁
      go_wp2_with fail
      refine (cut_any _ s l w13 (hv1.below hB13) (by omega)).mono ?_; rintro e w14 ⟨r2, rfl, hr2, hb14⟩
      obtain ⟨A2, C2, rfl, _, _⟩ := OwnTwo.row hr2
      have hB14 : Below w1.heap.size w1 w14 := bthen hB13 hb14
      go_wp2_with fail
      refine hQ₁ _ _ ⟨⟨_, hB14⟩, rfl⟩ ?_
      clear hQ₁ Q₁
      refine ord_step ?_
      repeat (change wpQuiet _ _ _ _ (List.cons _ _) _; go_big_quiet_step (fail))
      refine wpQuiet_nil ?_
      intro Q₁ hQ₁
      go_wp2_with fail
      refine (I3 _ w14 (OwnTwo.row hr2)).mono ?_; rintro e w15 ⟨rfl, hb15⟩
      have hB15 : Below w1.heap.size w1 w15 := bthen hB14 hb15
      go_wp2_with fail
      refine hQ₁ _ _ ⟨⟨_, hB15⟩, rfl⟩ ?_
      clear hQ₁ Q₁
      refine ord_step ?_
      repeat (change wpQuiet _ _ _ _ (List.cons _ _) _; go_big_quiet_step (fail))
      refine wpQuiet_nil ?_
      intro Q₁ hQ₁
      go_wp2_with fail
      refine (I4 w15).mono ?_; rintro e w16 ⟨rfl, hb16⟩
      have hB16 : Below w1.heap.size w1 w16 := bthen hB15 hb16
      go_wp2_with fail
      refine hQ₁ _ _ ⟨⟨_, hB16⟩, rfl⟩ ?_
      clear hQ₁ Q₁
      refine ord_step ?_
      repeat (change wpQuiet _ _ _ _ (List.cons _ _) _; go_big_quiet_step (fail))
      refine wpQuiet_nil ?_
      intro Q₁ hQ₁
      go_wp2_with fail
      refine (I2 _ w16 (hv1.below hB16)).mono ?_; rintro e w17 ⟨rfl, hb17⟩
      have hB17 : Below w1.heap.size w1 w17 := bthen hB16 hb17
      go_wp2_with fail
      refine hQ₁ _ _ ⟨⟨_, hB17⟩, rfl⟩ ?_
      clear hQ₁ Q₁
      refine ord_last ?_
      repeat (change wpQuiet _ _ _ _ (List.cons _ _) _; go_big_quiet_step (fail))
      refine wpQuiet_nil ?_
      go_wp2_with fail
      go_ret
      exact ⟨rfl, bthen hW hB17⟩
end Go.Proofs.Ytcfblkmcaaaipaa
