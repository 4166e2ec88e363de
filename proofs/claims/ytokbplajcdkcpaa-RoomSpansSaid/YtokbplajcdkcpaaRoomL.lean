/- The walk of the statement RoomSpans. -/
import Derived.Test.YtokbplajcdkcpaaRoomI
namespace Go.Proofs.Ytokbplajcdkcpaa
open Go Go.RowKit Go.Shelf Go.BigFrame

theorem physV_len {gs : List GuestV} {chs : List ChV} (h : smallP gs chs) (g : Int) : (physV gs g).length ≤ 1000000 := by
  by_cases hg : 0 ≤ g ∧ g < gs.length
  · obtain ⟨gi, rfl⟩ := Int.eq_ofNat_of_zero_le hg.1
    have hgi : gi < gs.length := by omega
    have := h gi hgi
    unfold physV
    rw [if_pos hg, Int.toNat_natCast, getElem!_pos gs gi hgi]
    unfold partsV at this
    unfold physG
    simp only [List.length_append, List.length_map] at *
    omega
  · rw [phys_out hg]; simp
theorem sharedV_len {gs : List GuestV} {chs : List ChV} (h : chs.length ≤ 1000000) (g : Int) : (sharedV gs chs g).length ≤ 1000000 := by
  by_cases hg : 0 ≤ g ∧ g < gs.length
  · unfold sharedV
    rw [if_pos hg, List.length_map]
    have := List.length_filter_le (namesB g) chs
    omega
  · rw [shared_out hg]; simp
theorem few_chs {gs : List GuestV} {chs : List ChV} (h : fewV gs chs = true) : chs.length ≤ 1000000 := by
  unfold fewV at h
  simp only [Bool.and_eq_true, decide_eq_true_eq] at h
  omega
set_option maxRecDepth 100000 in
set_option maxHeartbeats 4000000 in
theorem roomSpans_walk (ver : Int) (vg vc : Value) (gs : List GuestV) (chs : List ChV) (g : Int) (w : World) (hG : RowG w vg gs) (hC : RowC w vc chs) :
    Calls Try.prog 5 #[.agg #[.int .u32 ver, vg, vc], .int .i64 g] w fun e w' => e = .returned (.bool true) ∧ Below w.heap.size w w' := by
  obtain ⟨ag, kg, rfl, _⟩ := id hG
  obtain ⟨ac, kc, rfl, _⟩ := id hC
  obtain ⟨n0, n1, n2⟩ := box3 w (.int .u32 ver) (.slice ag gs.length kg) (.slice ac chs.length kc) 26
  have hb0 := bone w (.cells #[.int .u32 ver, .slice ag gs.length kg, .slice ac chs.length kc] 26)
  have hl0 : w.heap.size < (w.alloc (.cells #[.int .u32 ver, .slice ag gs.length kg, .slice ac chs.length kc] 26)).heap.size := by simp
  go_enter Try.func5, Try.ntmps5
  go_wp2_with fail
  refine (awake16_any _).mono ?_; rintro e w1 ⟨rfl, hb1⟩
  replace n0 := cell_lt hb1 n0 hl0
  replace n1 := cell_lt hb1 n1 hl0
  replace n2 := cell_lt hb1 n2 hl0
  have hB1 := bthen hb0 hb1
  replace hl0 := Nat.lt_of_lt_of_le hl0 hb1.size
  clear hb0 hb1
  go_wp2_with fail
  have y0 := later_cell n0 hl0
  have y1 := later_cell n1 hl0
  have y2 := later_cell n2 hl0
  refine region_ord (fun z => ∃ X : Later w1.heap.size w1, z = X.x) [([0], 1), ([2, 3, 4, 5, 7, 8], 6), ([], 9), ([], 10), ([11, 12, 13, 15, 16], 14), ([], 17), ([], 18)] [19, 20, 21] (by kernel_rfl) (by kernel_rfl) (by kernel_rfl) (by kernel_rfl) ⟨⟨_, (Below.refl _ _).drew⟩, rfl⟩ ?_
  simp only [List.map_cons, List.map_nil, List.filterMap_cons, List.filterMap_nil, List.getElem?_cons_succ, List.getElem?_cons_zero]
  have hB10 : Below w1.heap.size w1 w1.drew := (Below.refl _ _).drew
  generalize w1.drew = w10 at *
  refine ord_step ?_
  repeat (change wpQuiet _ _ _ _ (List.cons _ _) _; go_big_quiet_step (fail))
  refine wpQuiet_nil ?_
  intro Q₁ hQ₁
  simp only [Option.toList]
  have hA := bthen hB1 hB10
  go_wp2_with fail
  refine (few_any ver _ _ gs chs w10 (hG.below hA lasts_guest) (hC.below hA lasts_ch)).mono ?_; rintro e w11 ⟨rfl, hb11⟩
  have hB11 : Below w1.heap.size w1 w11 := bthen hB10 hb11
  clear hA
  cases hf : fewV gs chs
  · go_wp2_with fail
    refine hQ₁ _ _ ⟨⟨_, hB11⟩, rfl⟩ ?_
    clear hQ₁ Q₁
    refine ord_step ?_
    repeat (change wpQuiet _ _ _ _ (List.cons _ _) _; go_big_quiet_step (fail))
    refine wpQuiet_nil ?_
    intro Q₁ hQ₁
    simp only [Option.toList]
    go_wp2_with fail
    refine hQ₁ _ _ ⟨⟨_, hB11⟩, rfl⟩ ?_
    clear hQ₁ Q₁
    refine ord_step ?_
    refine wpQuiet_nil ?_
    intro Q₁ hQ₁
    simp only [Option.toList]
    go_wp2_with fail
    refine hQ₁ _ _ ⟨⟨_, hB11⟩, rfl⟩ ?_
    clear hQ₁ Q₁
    refine ord_step ?_
    refine wpQuiet_nil ?_
    intro Q₁ hQ₁
    simp only [Option.toList]
    go_wp2_with fail
    refine hQ₁ _ _ ⟨⟨_, hB11⟩, rfl⟩ ?_
    clear hQ₁ Q₁
    refine ord_step ?_
    repeat (change wpQuiet _ _ _ _ (List.cons _ _) _; go_big_quiet_step (fail))
    refine wpQuiet_nil ?_
    intro Q₁ hQ₁
    simp only [Option.toList]
    go_wp2_with fail
    refine hQ₁ _ _ ⟨⟨_, hB11⟩, rfl⟩ ?_
    clear hQ₁ Q₁
    refine ord_step ?_
    refine wpQuiet_nil ?_
    intro Q₁ hQ₁
    simp only [Option.toList]
    go_wp2_with fail
    refine hQ₁ _ _ ⟨⟨_, hB11⟩, rfl⟩ ?_
    clear hQ₁ Q₁
    refine ord_step ?_
    refine wpQuiet_nil ?_
    intro Q₁ hQ₁
    simp only [Option.toList]
    go_wp2_with fail
    refine hQ₁ _ _ ⟨⟨_, hB11⟩, rfl⟩ ?_
    clear hQ₁ Q₁
    refine ord_last ?_
    repeat (change wpQuiet _ _ _ _ (List.cons _ _) _; go_big_quiet_step (fail))
    refine wpQuiet_nil ?_
    go_wp2_with fail
    go_ret
    exact ⟨rfl, bthen hB1 hB11⟩
  · have hs := few_small hf
    have hc40 := few_chs hf
    have hp := physV_len hs g
    have hsl := sharedV_len (gs := gs) hc40 g
    have hA := bthen hB1 hB11
    have hph := fun W (h : Below w.heap.size w W) => phys16_any ver _ _ gs chs g W (hG.below h lasts_guest) (hC.below h lasts_ch) hs
    have hrp := fun W (h : Below w.heap.size w W) => refPhys16_any ver _ _ gs chs g W (hG.below h lasts_guest) (hC.below h lasts_ch) hs
    have hsh := fun W (h : Below w.heap.size w W) => shared16_any ver _ _ gs chs g W (hG.below h lasts_guest) (hC.below h lasts_ch) hc40
    have hrs := fun W (h : Below w.heap.size w W) => refShared16_any ver _ _ gs chs g W (hG.below h lasts_guest) (hC.below h lasts_ch) hc40
    generalize physV gs g = PV at *
    generalize sharedV gs chs g = SV at *
    clear hf hs hc40
    go_wp2_with fail
    refine hQ₁ _ _ ⟨⟨_, hB11⟩, rfl⟩ ?_
    clear hQ₁ Q₁
    refine ord_step ?_
    repeat (change wpQuiet _ _ _ _ (List.cons _ _) _; go_big_quiet_step (fail))
    refine wpQuiet_nil ?_
    intro Q₁ hQ₁
    simp only [Option.toList]
    go_wp2_with fail
    refine (hph w11 hA).mono ?_; rintro e w12 ⟨⟨v1, rfl, ho1⟩, hb12⟩
    obtain ⟨a1, c1, rfl⟩ := ownsRow_slice ho1
    have hB12 : Below w1.heap.size w1 w12 := bthen hB11 hb12
    replace hA := bthen hB1 hB12
    go_wp2_with fail
    refine hQ₁ _ _ ⟨⟨_, hB12⟩, rfl⟩ ?_
    clear hQ₁ Q₁
    refine ord_step ?_
    refine wpQuiet_nil ?_
    intro Q₁ hQ₁
    simp only [Option.toList]
    go_wp2_with fail
    refine (hrp w12 hA).mono ?_; rintro e w13 ⟨⟨v2, rfl, ho2⟩, hb13⟩
    obtain ⟨a2, c2, rfl⟩ := ownsRow_slice ho2
    have r1 := (OwnTwo.row ho1).below hb13
    have r2 := OwnTwo.row ho2
    have hB13 : Below w1.heap.size w1 w13 := bthen hB12 hb13
    go_wp2_with fail
    refine hQ₁ _ _ ⟨⟨_, hB13⟩, rfl⟩ ?_
    clear hQ₁ Q₁ ho1 ho2
    refine ord_step ?_
    refine wpQuiet_nil ?_
    intro Q₁ hQ₁
    simp only [Option.toList]
    go_wp2_with fail
    refine (refSame_any _ _ PV PV w13 r1 r2 (by omega) (by omega)).mono ?_; rintro e w14 ⟨rfl, hb14⟩
    rw [sameV_refl]
    have hB14 : Below w1.heap.size w1 w14 := bthen hB13 hb14
    replace hA := bthen hB1 hB14
    clear r1 r2
    go_wp2_with fail
    refine hQ₁ _ _ ⟨⟨_, hB14⟩, rfl⟩ ?_
    clear hQ₁ Q₁
    refine ord_step ?_
    repeat (change wpQuiet _ _ _ _ (List.cons _ _) _; go_big_quiet_step (fail))
    refine wpQuiet_nil ?_
    intro Q₁ hQ₁
    simp only [Option.toList]
    go_wp2_with fail
    refine (hsh w14 hA).mono ?_; rintro e w15 ⟨⟨v1, rfl, ho1⟩, hb15⟩
    obtain ⟨a3, c3, rfl⟩ := ownsRow_slice ho1
    have hB15 : Below w1.heap.size w1 w15 := bthen hB14 hb15
    replace hA := bthen hB1 hB15
    go_wp2_with fail
    refine hQ₁ _ _ ⟨⟨_, hB15⟩, rfl⟩ ?_
    clear hQ₁ Q₁
    refine ord_step ?_
    refine wpQuiet_nil ?_
    intro Q₁ hQ₁
    simp only [Option.toList]
    go_wp2_with fail
    refine (hrs w15 hA).mono ?_; rintro e w16 ⟨⟨v2, rfl, ho2⟩, hb16⟩
    obtain ⟨a4, c4, rfl⟩ := ownsRow_slice ho2
    have r1 := (OwnTwo.row ho1).below hb16
    have r2 := OwnTwo.row ho2
    have hB16 : Below w1.heap.size w1 w16 := bthen hB15 hb16
    go_wp2_with fail
    refine hQ₁ _ _ ⟨⟨_, hB16⟩, rfl⟩ ?_
    clear hQ₁ Q₁ ho1 ho2
    refine ord_step ?_
    refine wpQuiet_nil ?_
    intro Q₁ hQ₁
    simp only [Option.toList]
    go_wp2_with fail
    refine (refSame_any _ _ SV SV w16 r1 r2 (by omega) (by omega)).mono ?_; rintro e w17 ⟨rfl, hb17⟩
    rw [sameV_refl]
    have hB17 : Below w1.heap.size w1 w17 := bthen hB16 hb17
    clear r1 r2
    go_wp2_with fail
    refine hQ₁ _ _ ⟨⟨_, hB17⟩, rfl⟩ ?_
    clear hQ₁ Q₁
    refine ord_last ?_
    repeat (change wpQuiet _ _ _ _ (List.cons _ _) _; go_big_quiet_step (fail))
    refine wpQuiet_nil ?_
    go_wp2_with fail
    go_ret
    exact ⟨rfl, bthen hB1 hB17⟩
end Go.Proofs.Ytokbplajcdkcpaa
