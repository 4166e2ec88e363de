/- The walks of the statements SpanCuts and SpanSets. -/
import Derived.Test.YtcfblkmcaaaipaaSpanT
namespace Go.Proofs.Ytcfblkmcaaaipaa
open Go.RowKit Go.BigFrame

theorem box1 {w w1 : World} {p q : Value} {E : TypeId} (hb : Below (w.alloc (.cells #[p, q] E)).heap.size (w.alloc (.cells #[p, q] E)) w1) :
    w1.cell? ⟨w.heap.size, 0, none⟩ = some p ∧ w1.cell? ⟨w.heap.size, 1, none⟩ = some q ∧ w.heap.size < w1.heap.size ∧ Below w.heap.size w w1 := by
  have h1 := alloc_two w p q E
  have hs := hb.size
  simp only [World.size_alloc] at hs
  exact ⟨cell_lt hb h1.1 (by simp), cell_lt hb h1.2 (by simp), by omega, bnew hb⟩

theorem cutFrom_len (last : Int) : ∀ (M : List Two) (f : Int), (cutFrom last f M).length ≤ M.length + 1
  | [], f => by simp [cutFrom]
  | x :: M, f => by
    have h1 := cutFrom_len last M f
    have h2 := cutFrom_len last M (x.b + 1)
    rw [cutFrom]
    split
    · simp only [List.length_cons]; omega
    · split
      · simp
      · rw [List.length_append]
        split <;> split <;> simp only [List.length_cons, List.length_nil] <;> omega
set_option maxRecDepth 100000 in
set_option maxHeartbeats 4000000 in
theorem spanCuts_walk (v : Value) (s : Two) (l : List Two) (w : World) (hv : RowTwo w v l) :
    Calls Try.prog 4 #[.agg #[.int .u64 s.a, .int .u64 s.b], v] w fun e w' => e = .returned (.bool true) ∧ Below w.heap.size w w' := by
  obtain ⟨a, cap, rfl, _⟩ := id hv
  by_cases h : 40 < l.length
  · have h' : (40 : Int) < (l.length : Int) := by omega
    go_enter Try.func4, Try.ntmps4
    go_wp2_with fail
    refine (awake_any _).mono ?_; rintro e w1 ⟨rfl, hb1⟩
    go_wp2_with fail
    go_ret
    exact ⟨rfl, bnew hb1⟩
  · have h' : ¬ (40 : Int) < (l.length : Int) := by omega
    go_enter Try.func4, Try.ntmps4
    go_wp2_with fail
    refine (awake_any _).mono ?_; rintro e w1 ⟨rfl, hb1⟩
    obtain ⟨c0, c1, hz1, hW⟩ := box1 hb1
    have hv1 := hv.below hW
    clear hb1 hv
    have hM : (refMergeV l).length ≤ 1099511627 := by have := spansV_len (mergedV l); have := mergedV_len l; rw [← merge_eq]; omega
    have hC : (cutV s l).length ≤ 1099511627776 := by
      unfold cutV; split
      · have := spansV_len (cutEnds s l)
        have := cutFrom_len (lastV s.a s.b) (mergedV l) s.a
        have := mergedV_len l
        unfold cutEnds at *; omega
      · simp
    have hE : refCutV s (refMergeV l) = cutV s l := (cut_eq s l).symm
    have hC3 : (refCutV s (refMergeV l)).length ≤ 1099511627776 := by rw [hE]; exact hC
    replace hE := Lib.hid hE
    replace h := Lib.hid h
    have hl40 : l.length ≤ 40 := by have := h.out; omega
    clear h'
    go_wp2_with fail
    have y0 := later_cell c0 hz1
    have y1 := later_cell c1 hz1
    refine region_ord (fun z => ∃ X : Later w1.heap.size w1, z = X.x) [([0, 1, 3, 4], 2), ([], 5), ([], 6), ([], 7), ([8, 9, 10, 12, 13], 11), ([], 14)] [15, 16, 17] (by kernel_rfl) (by kernel_rfl) (by kernel_rfl) (by kernel_rfl) ⟨⟨_, (Below.refl _ _).drew⟩, rfl⟩ ?_
    simp only [List.map_cons, List.map_nil, List.filterMap_cons, List.filterMap_nil, List.getElem?_cons_succ, List.getElem?_cons_zero]
    have hB10 : Below w1.heap.size w1 w1.drew := (Below.refl _ _).drew
    generalize w1.drew = w10 at *
    refine ord_step ?_
    repeat (change wpQuiet _ _ _ _ (List.cons _ _) _; go_big_quiet_step (fail))
    refine wpQuiet_nil ?_
    intro Q₁ hQ₁
    go_wp2_with fail
    refine (cut_any _ s l w10 (hv1.below hB10) (by omega)).mono ?_; rintro e w11 ⟨r1, rfl, hr1, hb11⟩
    obtain ⟨A1, C1, rfl, _, _⟩ := OwnTwo.row hr1
    have hB11 : Below w1.heap.size w1 w11 := bthen hB10 hb11
    go_wp2_with fail
    refine hQ₁ _ _ ⟨⟨_, hB11⟩, rfl⟩ ?_
    clear hQ₁ Q₁
    refine ord_step ?_
    repeat (change wpQuiet _ _ _ _ (List.cons _ _) _; go_big_quiet_step (fail))
    refine wpQuiet_nil ?_
    intro Q₁ hQ₁
    go_wp2_with fail
    refine (refMerge_any _ l w11 (hv1.below hB11) (by omega)).mono ?_; rintro e w12 ⟨r2, rfl, hr2, hb12⟩
    obtain ⟨A2, C2, rfl, _, _⟩ := OwnTwo.row hr2
    have k1 := (OwnTwo.row hr1).below hb12
    have hB12 : Below w1.heap.size w1 w12 := bthen hB11 hb12
    go_wp2_with fail
    refine hQ₁ _ _ ⟨⟨_, hB12⟩, rfl⟩ ?_
    clear hQ₁ Q₁
    refine ord_step ?_
    repeat (change wpQuiet _ _ _ _ (List.cons _ _) _; go_big_quiet_step (fail))
    refine wpQuiet_nil ?_
    intro Q₁ hQ₁
    go_wp2_with fail
    refine (refCut_all _ s _ w12 (OwnTwo.row hr2) (by omega)).mono ?_; rintro e w13 ⟨r3, rfl, hr3, hb13⟩
    obtain ⟨A3, C3, rfl, _, _⟩ := OwnTwo.row hr3
    have k2 := k1.below hb13
    have hB13 : Below w1.heap.size w1 w13 := bthen hB12 hb13
    go_wp2_with fail
    refine hQ₁ _ _ ⟨⟨_, hB13⟩, rfl⟩ ?_
    clear hQ₁ Q₁
    refine ord_step ?_
    repeat (change wpQuiet _ _ _ _ (List.cons _ _) _; go_big_quiet_step (fail))
    refine wpQuiet_nil ?_
    intro Q₁ hQ₁
    go_wp2_with fail
    refine (refSame_any _ _ (cutV s l) (refCutV s (refMergeV l)) w13 k2 (OwnTwo.row hr3) hC hC3).mono ?_; rintro e w14 ⟨rfl, hb14⟩
    rw [hE.out, sameV_refl]
    have hB14 : Below w1.heap.size w1 w14 := bthen hB13 hb14
    go_wp2_with fail
    refine hQ₁ _ _ ⟨⟨_, hB14⟩, rfl⟩ ?_
    clear hQ₁ Q₁
    refine ord_step ?_
    repeat (change wpQuiet _ _ _ _ (List.cons _ _) _; go_big_quiet_step (fail))
    refine wpQuiet_nil ?_
    intro Q₁ hQ₁
    go_wp2_with fail
    refine (covers_any _ s l w14 (hv1.below hB14) (by omega)).mono ?_; rintro e w15 ⟨rfl, hb15⟩
    have hB15 : Below w1.heap.size w1 w15 := bthen hB14 hb15
    go_wp2_with fail
    refine hQ₁ _ _ ⟨⟨_, hB15⟩, rfl⟩ ?_
    clear hQ₁ Q₁
    refine ord_step ?_
    repeat (change wpQuiet _ _ _ _ (List.cons _ _) _; go_big_quiet_step (fail))
    refine wpQuiet_nil ?_
    intro Q₁ hQ₁
    go_wp2_with fail
    refine (refCovers_any _ s l w15 (hv1.below hB15) (by omega)).mono ?_; rintro e w16 ⟨rfl, hb16⟩
    generalize coversV s l = cv at *
    have hB16 : Below w1.heap.size w1 w16 := bthen hB15 hb16
    go_wp2_with fail
    refine hQ₁ _ _ ⟨⟨_, hB16⟩, rfl⟩ ?_
    clear hQ₁ Q₁
    refine ord_last ?_
    repeat (change wpQuiet _ _ _ _ (List.cons _ _) _; go_big_quiet_step (fail))
    refine wpQuiet_nil ?_
    go_wp2_with fail
    go_ret
    exact ⟨rfl, bthen hW hB16⟩
end Go.Proofs.Ytcfblkmcaaaipaa
