/- The walk of the statement TableWhole. -/
import Derived.Test.YtkpkbljcflmdgaaTabT
import Derived.Test.YtkpkbljcflmdgaaOpenS
namespace Go.Proofs.Ytkpkbljcflmdgaa
open Go Go.RowKit Go.Shelf Go.BigFrame

/-- What is left of a part, behind some of its pieces. -/
structure Left (y z : M5) : Prop where
  cut : Cut z
  i : z.ipa - y.ipa + z.sz = y.sz
  ge : y.ipa ≤ z.ipa
  ai : z.ipa % 4096 = 0
  ap : z.pa % 4096 = 0
  perm : z.perm = y.perm
  kind : z.kind = y.kind
theorem Left.self {y : M5} (h : goodM [y] = true) : Left y y := by
  have h1 := good_elem h (List.mem_singleton.2 rfl)
  unfold elemB at h1
  rw [Bool.and_eq_true, Bool.and_eq_true] at h1
  have h2 := pageM_iff.1 h1.1
  have h3 := pageM_iff.1 h1.2.1
  exact ⟨good_cut h, by omega, Int.le_refl _, by omega, by omega, rfl, rfl⟩
theorem Left.step {y z : M5} (h : Left y z) (h0 : 0 < z.sz) : Left y (restP z) ∧ z.ipa % stepK z = 0 ∧ z.pa % stepK z = 0 := by
  obtain ⟨h1, h2, h3, h4, h5⟩ := h.cut.step h0
  have hc := stepK_cases z
  have := h.i
  have := h.ge
  have := h.ai
  have := h.ap
  refine ⟨⟨h5, by omega, by omega, by omega, by omega, h.perm, h.kind⟩, ?_, ?_⟩
  · unfold stepK lvM lvB
    split
    · rename_i hh; simp at hh; exact hh.1.1
    · split
      · rename_i hh; simp at hh; exact hh.1.1
      · exact h.ai
  · unfold stepK lvM lvB
    split
    · rename_i hh; simp at hh; exact hh.1.2
    · split
      · rename_i hh; simp at hh; exact hh.1.2
      · exact h.ap

set_option maxRecDepth 100000 in
set_option maxHeartbeats 4000000 in
theorem tableWhole_walk (y : M5) (w : World) :
    Calls Try.prog 4 #[.agg #[.int .u64 y.ipa, .int .u64 y.pa, .int .u64 y.sz, .int .i64 y.perm, .int .i64 y.kind]] w fun e w' => e = .returned (.bool true) ∧ Below w.heap.size w w' := by
  have hp := fun W => pieces_any y W
  have hr := fun W => refPieces_any y W
  have hg := fun W => refGoodM_any _ [y] _ (rowM_one W y) (by simp)
  obtain ⟨m0, m1, m2, m3, m4⟩ := five_new w (.int .u64 y.ipa) (.int .u64 y.pa) (.int .u64 y.sz) (.int .i64 y.perm) (.int .i64 y.kind) 27
  go_enter Try.func4, Try.ntmps4
  go_wp2_with fail
  have hbx := bone w (.cells #[.int .u64 y.ipa, .int .u64 y.pa, .int .u64 y.sz, .int .i64 y.perm, .int .i64 y.kind] 27)
  have hz0 : w.heap.size < (w.alloc (.cells #[.int .u64 y.ipa, .int .u64 y.pa, .int .u64 y.sz, .int .i64 y.perm, .int .i64 y.kind] 27)).heap.size := by simp
  generalize w.alloc (.cells #[.int .u64 y.ipa, .int .u64 y.pa, .int .u64 y.sz, .int .i64 y.perm, .int .i64 y.kind] 27) = w0 at *
  refine (awake_any _).mono ?_; rintro e w1 ⟨rfl, hb1⟩
  replace m0 := cell_lt hb1 m0 hz0
  replace m1 := cell_lt hb1 m1 hz0
  replace m2 := cell_lt hb1 m2 hz0
  replace m3 := cell_lt hb1 m3 hz0
  replace m4 := cell_lt hb1 m4 hz0
  have hz1 := hb1.size
  have hB1 := bthen hbx hb1
  clear hbx hb1
  by_cases hsz : 1099511627776 < y.sz
  · go_wp2_with fail
    go_ret
    exact ⟨rfl, hB1⟩
  · go_wp2_with fail
    refine (hp _).mono ?_; rintro e w2 ⟨r, rfl, hown, hb2⟩
    obtain ⟨ar, cr, rfl, _, hcr⟩ := hown.row
    replace m0 := cell_lt hb2 m0 (by omega)
    replace m1 := cell_lt hb2 m1 (by omega)
    replace m2 := cell_lt hb2 m2 (by omega)
    replace m3 := cell_lt hb2 m3 (by omega)
    replace m4 := cell_lt hb2 m4 (by omega)
    have hz2 := hb2.size
    have hB2 := bthen hB1 hb2
    clear hb2 hp hB1
    by_cases hP : piecesV y = []
    · have hq : (((piecesV y).length : Int) == 0) = true := by rw [hP]; rfl
      rw [hP] at hr
      replace hP := Lib.hid hP
      clear hcr hown
      cases hgd : goodM [y]
      · rw [hgd] at hg
        go_wp2_with fail
        refine (hg _).mono ?_; rintro e w3 ⟨rfl, hb3⟩
        go_wp2_with fail
        go_ret
        exact ⟨rfl, bthen hB2 (bthen (bone _ _) hb3)⟩
      · rw [hgd] at hg
        go_wp2_with fail
        refine (hg _).mono ?_; rintro e w3 ⟨rfl, hb3⟩
        replace hb3 := bthen (bone _ _) hb3
        replace m0 := cell_lt hb3 m0 (by omega)
        replace m1 := cell_lt hb3 m1 (by omega)
        replace m2 := cell_lt hb3 m2 (by omega)
        replace m3 := cell_lt hb3 m3 (by omega)
        replace m4 := cell_lt hb3 m4 (by omega)
        go_wp2_with fail
        refine (hr _).mono ?_; rintro e w4 ⟨r, rfl, hown, hb4⟩
        obtain ⟨a4, c4, rfl, _, _⟩ := hown.row
        go_wp2_with fail
        go_ret
        exact ⟨rfl, bthen (bthen hB2 hb3) hb4⟩
    · have hq : (((piecesV y).length : Int) == 0) = false := by
        have := List.length_pos_iff.2 hP
        simp; omega
      have hgl : goodM [y] = true ∧ piecesV y = (piecesL y).map (·.2) := by
        unfold piecesV at hP ⊢
        split
        · rename_i h; exact ⟨h.1, rfl⟩
        · rename_i h; rw [if_neg h] at hP; exact absurd rfl hP
      obtain ⟨hgd, hPL⟩ := hgl
      have hl0 := Left.self hgd
      clear hg hr hgd
      replace hP := Lib.hid hP
      have hlen := piecesV_len y
      generalize piecesV y = P at *
      replace hPL := Lib.hid hPL
      replace hl0 := Lib.hid hl0
      go_wp2_with fail
      refine region_later w2.heap.size w2 (Below.refl _ _) (by kernel_rfl) (by kernel_rfl) ?_
      have y0 := later_cell (B := w2.heap.size) m0 (by omega)
      have y1 := later_cell (B := w2.heap.size) m1 (by omega)
      repeat (go_big_quiet_step (fail))
      refine wpQuiet_nil ?_
      first | (rintro _ ⟨X, rfl⟩) | (intro X)
      have hX := X.h
      clear y0 y1
      replace m0 := cell_lt hX m0 (by omega)
      replace m2 := cell_lt hX m2 (by omega)
      replace m3 := cell_lt hX m3 (by omega)
      replace m4 := cell_lt hX m4 (by omega)
      have hrow := hown.row.below hX
      replace hB2 := bthen hB2 hX
      replace hz2 := Nat.le_trans hz2 hX.size
      generalize X.x = w3 at *
      clear X hown hX hcr m1
      obtain ⟨a5, c5, ea, _, hcell0⟩ := hrow
      simp only [Value.slice.injEq, true_and] at ea
      obtain ⟨rfl, rfl⟩ := ea
      go_wp2_with fail
      go_loopw [4, 5, 34] (fun u v' i wr => ∃ (k : Nat) (z : M5), k ≤ P.length ∧ i = .int .i64 k ∧ u = .int .u64 z.ipa ∧ v' = .int .u64 z.pa ∧ (piecesL y).drop k = piecesL z ∧ Left y z ∧ Below w3.heap.size w3 wr) (fun _ _ i _ => P.length - (intOf i).toNat)
      case atStart => exact ⟨0, y, Nat.zero_le _, rfl, rfl, rfl, rfl, hl0.out, Below.refl _ _⟩
      case round =>
        obtain ⟨k, z, hk, rfl, rfl, rfl, hdr, hl, hB⟩ := hrel
        replace m0 := cell_lt hB m0 (by omega)
        replace m2 := cell_lt hB m2 (by omega)
        replace m3 := cell_lt hB m3 (by omega)
        replace m4 := cell_lt hB m4 (by omega)
        have hzw := hB.size
        have hwl : w.heap.size < wr.heap.size := by omega
        have hwn : w.heap.size ≠ wr.heap.size := by omega
        by_cases hlt : k < P.length
        · obtain ⟨b1, o1, rfl, hbl, hcell⟩ := hcell0 (by rintro rfl; simp at hlt)
          obtain ⟨p0, p1, p2, p3, p4⟩ := hcell k hlt
          replace p0 := cell_lt hB p0 hbl
          replace p1 := cell_lt hB p1 hbl
          replace p2 := cell_lt hB p2 hbl
          replace p3 := cell_lt hB p3 hbl
          replace p4 := cell_lt hB p4 hbl
          clear hcell hcell0
          have hkl : k < (piecesL y).length := by have := hPL.out; rw [this, List.length_map] at hlt; exact hlt
          have hz0' : 0 < z.sz := by
            rcases Int.lt_or_le 0 z.sz with h | h
            · exact h
            · rw [piecesL_nil (y := z) (by omega)] at hdr
              have := congrArg List.length hdr
              simp at this; omega
          obtain ⟨hl', hi', hp'⟩ := hl.step hz0'
          obtain ⟨s1, s2, s3, s4, s5⟩ := hl.cut.step hz0'
          have hcons := piecesL_cons hl.cut hz0'
          rw [hcons] at hdr
          have hdr' : (piecesL y).drop (k + 1) = piecesL (restP z) := by
            have := congrArg (List.drop 1) hdr
            rw [List.drop_drop] at this
            simpa [Nat.add_comm] using this
          have hPk : P[k] = headP z := by
            have e1 : (piecesL y)[k]? = some (lvM z, headP z) := by
              have := congrArg (fun L => L[0]?) hdr
              simpa using this
            have e2 : P[k]? = some (headP z) := by rw [hPL.out, List.getElem?_map, e1]; rfl
            rw [List.getElem?_eq_getElem hlt] at e2
            exact Option.some.inj e2
          rw [hPk] at p0 p1 p2 p3 p4
          have hst := stepK_cases z
          have hpm := hl.perm
          have hkd := hl.kind
          change _ = some (Value.int .u64 z.ipa) at p0
          change _ = some (Value.int .u64 z.pa) at p1
          change _ = some (Value.int .u64 (stepK z)) at p2
          change _ = some (Value.int .i64 z.perm) at p3
          change _ = some (Value.int .i64 z.kind) at p4
          rw [hpm] at p3
          rw [hkd] at p4
          have n0 : (stepK z == 0) = false := by simp; omega
          have n1 : ¬ stepK z = 0 := by omega
          have n2 : 0 ≤ stepK z := by omega
          have r0 : IntKind.u64.wrap (z.ipa + stepK z) = (restP z).ipa := IntKind.wrap_u64 _
          have r1 : IntKind.u64.wrap (z.pa + stepK z) = (restP z).pa := IntKind.wrap_u64 _
          replace hl' := Lib.hid hl'
          replace hdr' := Lib.hid hdr'
          clear hPk hcons hdr hkl hst hpm hkd s1 s2 s3 s4 s5 hl hPL
          have zi0 := z.hi.1
          have zp0 := z.hp.1
          generalize restP z = z' at *
          generalize stepK z = sk at *
          have t0 : z.ipa.tmod sk = 0 := by rw [Int.tmod_eq_emod_of_nonneg zi0]; exact hi'
          have t1 : z.pa.tmod sk = 0 := by rw [Int.tmod_eq_emod_of_nonneg zp0]; exact hp'
          have t2 : (z.pa.tmod sk != 0) = false := by simp [t1]
          clear hi' hp' zi0 zp0
          obtain ⟨q0, q1, q2, q3, q4⟩ := five_new wr (.int .u64 z.ipa) (.int .u64 z.pa) (.int .u64 sk) (.int .i64 y.perm) (.int .i64 y.kind) 27
          have hbx := bone wr (.cells #[.int .u64 z.ipa, .int .u64 z.pa, .int .u64 sk, .int .i64 y.perm, .int .i64 y.kind] 27)
          go_wp2_with fail
          refine region_later (wr.heap.size + 1) (wr.alloc (.cells #[.int .u64 z.ipa, .int .u64 z.pa, .int .u64 sk, .int .i64 y.perm, .int .i64 y.kind] 27)) (Below.refl _ _) (by kernel_rfl) (by kernel_rfl) ?_
          have y2 := later_cell (B := wr.heap.size + 1) q2 (by omega)
          repeat (go_big_quiet_step (fail))
          refine wpQuiet_nil ?_
          first | (rintro _ ⟨X, rfl⟩) | (intro X)
          have hX := X.h
          clear y2
          go_wp2_with fail
          refine ⟨⟨k + 1, z', hlt, by go_num, rfl, rfl, hdr'.out, hl'.out, hB.trans ((hbx.mono hzw).trans (hX.mono (by omega)))⟩, by simp [intOf]; omega⟩
        · obtain rfl : k = P.length := by omega
          have hz : z.sz = 0 := by
            have h1 := hPL.out
            have h2 : (piecesL y).drop P.length = [] := by rw [h1, List.length_map, List.drop_length]
            rw [h2] at hdr
            rcases Int.lt_or_le 0 z.sz with h | h
            · rw [piecesL_cons hl.cut h] at hdr; cases hdr
            · have := z.hs.1; omega
          have hi := hl.i
          have hge := hl.ge
          have hq1 : z.ipa - y.ipa = y.sz := by omega
          have hys := y.hs.2
          replace hz := Lib.hid hz
          replace hi := Lib.hid hi
          replace hdr := Lib.hid hdr
          clear hcell0 hl
          have hw : IntKind.u64.wrap (z.ipa - y.ipa) = y.sz := by rw [IntKind.wrap_u64, hq1]; have := y.hs; unfold W64 at this; omega
          replace hq1 := Lib.hid hq1
          go_wp2_with fail
          go_ret
          exact ⟨rfl, hB2.trans (hB.mono (by omega))⟩
end Go.Proofs.Ytkpkbljcflmdgaa
