/- The walk of the statement RoomMaps. -/
import Derived.Test.YtokbplajcdkcpaaRoomG
namespace Go.Proofs.Ytokbplajcdkcpaa
open Go Go.RowKit Go.Shelf Go.BigFrame

theorem box3 (w : World) (a b c : Value) (T : TypeId) : (w.alloc (.cells #[a, b, c] T)).cell? ⟨w.heap.size, 0, none⟩ = some a ∧ (w.alloc (.cells #[a, b, c] T)).cell? ⟨w.heap.size, 1, none⟩ = some b ∧ (w.alloc (.cells #[a, b, c] T)).cell? ⟨w.heap.size, 2, none⟩ = some c := by
  refine ⟨?_, ?_, ?_⟩ <;> simp [World.cell?_alloc_new]
set_option maxRecDepth 100000 in
set_option maxHeartbeats 4000000 in
theorem roomMaps_walk (ver : Int) (vg vc : Value) (gs : List GuestV) (chs : List ChV) (g : Int) (w : World) (hG : RowG w vg gs) (hC : RowC w vc chs) :
    Calls Try.prog 3 #[.agg #[.int .u32 ver, vg, vc], .int .i64 g] w fun e w' => e = .returned (.bool true) ∧ Below w.heap.size w w' := by
  obtain ⟨ag, kg, rfl, _⟩ := id hG
  obtain ⟨ac, kc, rfl, _⟩ := id hC
  obtain ⟨n0, n1, n2⟩ := box3 w (.int .u32 ver) (.slice ag gs.length kg) (.slice ac chs.length kc) 26
  have hb0 := bone w (.cells #[.int .u32 ver, .slice ag gs.length kg, .slice ac chs.length kc] 26)
  have hl0 : w.heap.size < (w.alloc (.cells #[.int .u32 ver, .slice ag gs.length kg, .slice ac chs.length kc] 26)).heap.size := by simp
  go_enter Try.func3, Try.ntmps3
  go_wp2_with fail
  refine (awake16_any _).mono ?_; rintro e w1 ⟨rfl, hb1⟩
  replace n0 := cell_lt hb1 n0 hl0
  replace n1 := cell_lt hb1 n1 hl0
  replace n2 := cell_lt hb1 n2 hl0
  have hB1 := bthen hb0 hb1
  replace hl0 := Nat.lt_of_lt_of_le hl0 hb1.size
  clear hb0 hb1
  go_wp2_with fail
  refine (few_any ver _ _ gs chs w1 (hG.below hB1 lasts_guest) (hC.below hB1 lasts_ch)).mono ?_; rintro e w2 ⟨rfl, hb2⟩
  replace n0 := cell_lt hb2 n0 hl0
  replace n1 := cell_lt hb2 n1 hl0
  replace n2 := cell_lt hb2 n2 hl0
  have hB2 := bthen hB1 hb2
  replace hl0 := Nat.lt_of_lt_of_le hl0 hb2.size
  clear hB1 hb2
  cases hf : fewV gs chs
  · go_wp2_with fail
    go_ret
    exact ⟨rfl, hB2⟩
  · have hs := few_small hf
    have hl : (mapsP gs chs g).1.length ≤ 1000000 := by
      by_cases hg : 0 ≤ g ∧ g < gs.length
      · obtain ⟨gi, rfl⟩ := Int.eq_ofNat_of_zero_le hg.1
        have hgi : gi < gs.length := by omega
        rw [mapsP_in hgi]
        unfold checkM
        split
        · rw [sortedM_len]; exact hs gi hgi
        · simp
      · rw [mapsP_out hg]; simp
    clear hf
    go_wp2_with fail
    refine (maps16_any ver _ _ gs chs g w2 (hG.below hB2 lasts_guest) (hC.below hB2 lasts_ch) hs).mono ?_; rintro e w3 ⟨⟨v3, rfl, ho3⟩, hb3⟩
    replace n0 := cell_lt hb3 n0 hl0
    replace n1 := cell_lt hb3 n1 hl0
    replace n2 := cell_lt hb3 n2 hl0
    have hB3 := bthen hB2 hb3
    replace hl0 := Nat.lt_of_lt_of_le hl0 hb3.size
    clear hB2 hb3
    obtain ⟨a3, k3, rfl⟩ := ownsRow_slice ho3
    go_wp2_with fail
    refine (refMaps16_any ver _ _ gs chs g w3 (hG.below hB3 lasts_guest) (hC.below hB3 lasts_ch) hs).mono ?_; rintro e w4 ⟨⟨v4, rfl, ho4⟩, hb4⟩
    have hB4 := bthen hB3 hb4
    have r3 := (ho3.below hb4 (Nat.le_refl _)).row
    obtain ⟨a4, k4, rfl⟩ := ownsRow_slice ho4
    clear hB3 hb4 ho3 n0 n1 n2 hl0
    generalize mapsP gs chs g = M at *
    go_wp2_with fail
    refine (sameMaps_any _ _ M.1 w4 r3 ho4.row (by omega)).mono ?_; rintro e w5 ⟨rfl, hb5⟩
    go_wp2_with fail
    go_ret
    exact ⟨rfl, bthen hB4 hb5⟩
end Go.Proofs.Ytokbplajcdkcpaa
