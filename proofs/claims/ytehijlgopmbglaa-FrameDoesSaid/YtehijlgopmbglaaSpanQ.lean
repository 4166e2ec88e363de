/- The walks of span.Merge, span.Cut and of both Covers. Conditions: words of 64 bits; slices below 2^38. -/
import Derived.Test.YtehijlgopmbglaaSpanP
import Derived.Test.YtehijlgopmbglaaSpanF
namespace Go.Proofs.Ytehijlgopmbglaa
open Go.RowKit

theorem mergedV_len (l : List Two) : (mergedV l).length ≤ l.length := by
  have h1 := mergeFold_len (sortV (goodEnds l)) []
  have h2 := sortV_len (goodEnds l)
  have h3 : (goodEnds l).length ≤ l.length := by unfold goodEnds; rw [List.length_map]; exact List.length_filter_le _ _
  unfold mergedV
  simp only [List.length_nil] at h1
  omega
theorem app_cell {E : TypeId} {base : Nat} {v : Value} {l : List Two} {wr w5 : World} {O C : Obj} (hown : OwnTwo E wr base v l) (hg : ((wr.alloc O).alloc C).grownBy w5 v.ownBlock) (o : Nat) (u : Value) (h : (wr.alloc O).cell? ⟨wr.heap.size, o, none⟩ = some u) :
    w5.cell? ⟨wr.heap.size, o, none⟩ = some u := by
  rw [grown_cell hg o (by simp; omega) (fun e => by have := (hown.lt _ e).2; omega), (bone (wr.alloc O) C).cell (p := ⟨wr.heap.size, o, none⟩) (by simp)]
  exact h
theorem spansV_len (l : List Two) : (spansV l).length ≤ l.length + 2 := by
  unfold spansV; split
  · simp
  · simp

set_option maxHeartbeats 1000000 in
theorem merge_any (v : Value) (l : List Two) (w : World) (hv : RowTwo w v l) (hl : l.length ≤ 274877906944) :
    Calls Try.prog 25 #[v] w (RetOwn 24 w (spansV (mergedV l))) := by
  have hlM := mergedV_len l
  obtain ⟨a, cap, rfl, _⟩ := id hv
  go_enter Try.func25, Try.ntmps25
  go_wp2_with fail
  refine (merged_any _ l w hv (by omega)).mono ?_
  rintro e2 w3 ⟨r, rfl, hM, hb3⟩
  go_wp2_with fail
  refine (spans_any _ _ _ (OwnTwo.row hM) (by omega)).mono ?_
  rintro e6 w6 ⟨r6, rfl, hr6, hb6⟩
  go_wp2_with fail
  go_ret
  exact ⟨_, rfl, hr6.mono hb3.size, bthen hb3 hb6⟩

set_option maxRecDepth 20000 in
set_option maxHeartbeats 4000000 in
theorem cut_any (v : Value) (s : Two) (l : List Two) (w : World) (hv : RowTwo w v l) (hl : l.length ≤ 274877906944) :
    Calls Try.prog 35 #[.agg #[.int .u64 s.a, .int .u64 s.b], v] w (RetOwn 24 w (cutV s l)) := by
  have hlM := mergedV_len l
  obtain ⟨a, cap, rfl, _⟩ := id hv
  cases hg : goodB s.a s.b
  · have e : cutV s l = [] := by unfold cutV; rw [if_neg (by rw [hg]; simp)]
    replace e := Lib.hid e
    go_enter Try.func35, Try.ntmps35
    go_wp2_with fail
    refine (good_any _ _ _ s.ha s.hb).mono ?_; rintro e1 w1 ⟨rfl, hb1⟩
    rw [hg]
    go_wp2_with fail
    go_ret
    exact ⟨_, rfl, by rw [e.out]; exact OwnTwo.nil _ _ _, bnew hb1⟩
  · have e : cutV s l = spansV (cutEnds s l) := by unfold cutV; rw [if_pos hg]
    have HE : cutEnds s l = cutFrom (lastV s.a s.b) s.a (mergedV l) := rfl
    replace e := Lib.hid e
    replace HE := Lib.hid HE
    have hL := lastV_w s.ha s.hb
    have hsa := s.ha
    go_enter Try.func35, Try.ntmps35
    go_wp2_with fail
    refine (good_any _ _ _ s.ha s.hb).mono ?_; rintro e1 w1 ⟨rfl, hb1⟩
    have c0 : w1.cell? ⟨w.heap.size, 0, none⟩ = some (.int .u64 s.a) := cell_lt hb1 (by simp [World.cell?_alloc_new]) (by simp)
    have c1 : w1.cell? ⟨w.heap.size, 1, none⟩ = some (.int .u64 s.b) := cell_lt hb1 (by simp [World.cell?_alloc_new]) (by simp)
    have hW : Below w.heap.size w w1 := bnew hb1
    have hz1 : w.heap.size < w1.heap.size := by have := hb1.size; simp at this; omega
    rw [hg]
    clear hb1 hg
    go_wp2_with fail
    refine region_later w1.heap.size w1 (Below.refl _ _) (by kernel_rfl) (by kernel_rfl) ?_
    have x0 := later_cell c0 hz1
    have x1 := later_cell c1 hz1
    repeat (quiet_step ((go_at_call 22; exact quiet_later (Nat.le_refl _) (last_any _ _ _ s.ha s.hb))))
    refine wpQuiet_nil ?_
    rintro _ ⟨X, rfl⟩
    have hX := X.h
    clear x0 x1 c0 c1
    generalize X.x = w2 at *
    have hW2 : Below w.heap.size w w2 := hW.trans (hX.mono hW.size)
    have hv2 := hv.below hW2
    clear hW hX hz1 X hv
    go_wp2_with fail
    refine (merged_any _ l w2 hv2 (by omega)).mono ?_
    rintro e2 w3 ⟨r, rfl, hM, hb3⟩
    have hW3 : Below w.heap.size w w3 := bthen hW2 hb3
    clear hW2 hb3 hv2
    generalize mergedV l = M at *
    generalize lastV s.a s.b = L at *
    generalize cutEnds s l = R at *
    generalize s.a = f0 at *
    obtain ⟨ar, cr, rfl, hcr, hrow⟩ := OwnTwo.row hM
    clear hM
    go_wp2_with fail
    go_loopw [5, 6, 20] (fun o ff i wr => ∃ (k : Nat) (out : List Two) (f : Int), k ≤ M.length ∧ i = .int .i64 k ∧ ff = .int .u64 f ∧ W64 f ∧ out.length ≤ k ∧ OwnTwo 75 wr w3.heap.size o out ∧ Hid (R = out ++ cutFrom L f (M.drop k)) ∧ Below w3.heap.size w3 wr) (fun _ _ i _ => M.length - (intOf i).toNat)
    case atStart => exact ⟨0, [], f0, Nat.zero_le _, rfl, rfl, hsa, Nat.le_refl _, OwnTwo.nil _ _ _, HE, Below.refl _ _⟩
    case round =>
      obtain ⟨k, out, f, hk, rfl, rfl, hf, hol, hown, hR, hB⟩ := hrel
      clear HE hsa
      obtain ⟨ao, co, rfl, _, _⟩ := OwnTwo.row hown
      have hB0 : Below w.heap.size w wr := bthen hW3 hB
      have hB1 : w.heap.size ≤ wr.heap.size := hB0.size
      by_cases hlt : k < M.length
      · obtain ⟨b, off, rfl, hbl, hcell⟩ := hrow (by rintro rfl; simp at hlt)
        have h1 := (hcell k hlt).1
        have h2 := (hcell k hlt).2
        rw [← hB.cell (p := ⟨b, _, none⟩) hbl] at h1 h2
        have hcut := hR.out
        rw [List.drop_eq_getElem_cons hlt, cutFrom] at hcut
        clear hR hcell hrow
        generalize M[k] = x at *
        have hxa := x.ha
        have hxb := x.hb
        have hf' := hf
        unfold W64 at hxa hxb hf' hL
        obtain ⟨p1, p2⟩ := hxa
        obtain ⟨p3, p4⟩ := hxb
        obtain ⟨p5, p6⟩ := hf'
        obtain ⟨p7, p8⟩ := hL
        have hB2 := hB.size
        have hone := fun o => (bone wr o).mono hB.size
        by_cases k1 : x.b < f
        · rw [if_pos k1] at hcut
          replace hcut := Lib.hid hcut
          go_wp2_with fail
          go_roundw
          case rel => exact ⟨k + 1, out, f, by omega, by go_num, rfl, hf, by omega, hown.alloc _, hcut, hB.alloc (Nat.le_trans hB.size (Nat.le_refl _)) _⟩
          case measure => simp [intOf]; omega
        · rw [if_neg k1] at hcut
          by_cases k2 : L < x.a
          · rw [if_pos k2] at hcut
            replace hcut := Lib.hid hcut
            have htw := Lib.hid (tw_parts hf ⟨p7, p8⟩)
            have hownA := hown.alloc (.cells #[.int .u64 x.a, .int .u64 x.b] 75)
            go_wp2_with (first | (at_builtin; refine wpl_append_two rfl _ _ 71 rfl w3.heap.size 75 infoEnds Try.underlying71 (.slice ao out.length co) out (tw f L) rfl rfl hownA ?_ ?_ ?_ ?_ ?_; (focus (first | rfl | (simp; done))); (focus (exact ⟨htw.out.1.symm, htw.out.2.symm⟩)); (focus omega); (focus (first | omega | (simp; omega))); intro vn w5 hown5 hbel5 hgrow5; have hb5 := hbel5 _ (Nat.le_refl _); clear hbel5 hgrow5) | (go_at_call 37; refine (spans_any _ _ _ (OwnTwo.row hown5) (by simp only [List.length_append, List.length_cons, List.length_nil]; omega)).mono ?_; rintro e6 w6 ⟨r6, rfl, hr6, hb6⟩))
            go_ret
            exact ⟨_, rfl, by rw [e.out, hcut.out]; exact hr6.mono (bthen hW3 (hB.trans ((hone _).trans hb5))).size, bthen (bthen hW3 (hB.trans ((hone _).trans hb5))) hb6⟩
          · rw [if_neg k2] at hcut
            by_cases k3 : f < x.a
            · rw [if_pos k3] at hcut
              have htw := Lib.hid (tw_parts hf (b := x.a - 1) ⟨by omega, by omega⟩)
              have hownA := hown.alloc (.cells #[.int .u64 x.a, .int .u64 x.b] 75)
              by_cases k4 : L ≤ x.b
              · rw [if_pos k4] at hcut
                replace hcut := Lib.hid hcut
                go_wp2_with (first | (at_builtin; refine wpl_append_two rfl _ _ 71 rfl w3.heap.size 75 infoEnds Try.underlying71 (.slice ao out.length co) out (tw f (x.a - 1)) rfl rfl hownA ?_ ?_ ?_ ?_ ?_; (focus (first | rfl | (simp; done))); (focus (exact ⟨htw.out.1.symm, htw.out.2.symm⟩)); (focus omega); (focus (first | omega | (simp; omega))); intro vn w5 hown5 hbel5 hgrow5; have hb5 := hbel5 _ (Nat.le_refl _); have c5 := app_cell hown hgrow5 1 (.int .u64 x.b) (by simp [World.cell?_alloc_new]); clear hbel5 hgrow5) | (go_at_call 37; refine (spans_any _ _ _ (OwnTwo.row hown5) (by simp only [List.length_append, List.length_cons, List.length_nil]; omega)).mono ?_; rintro e6 w6 ⟨r6, rfl, hr6, hb6⟩))
                go_ret
                exact ⟨_, rfl, by rw [e.out, hcut.out, List.append_nil]; exact hr6.mono (bthen hW3 (hB.trans ((hone _).trans hb5))).size, bthen (bthen hW3 (hB.trans ((hone _).trans hb5))) hb6⟩
              · rw [if_neg k4] at hcut
                replace hcut := Lib.hid hcut
                go_wp2_with ((at_builtin; refine wpl_append_two rfl _ _ 71 rfl w3.heap.size 75 infoEnds Try.underlying71 (.slice ao out.length co) out (tw f (x.a - 1)) rfl rfl hownA ?_ ?_ ?_ ?_ ?_; (focus (first | rfl | (simp; done))); (focus (exact ⟨htw.out.1.symm, htw.out.2.symm⟩)); (focus omega); (focus (first | omega | (simp; omega))); intro vn w5 hown5 hbel5 hgrow5; have hb5 := hbel5 _ (Nat.le_refl _); have c5 := app_cell hown hgrow5 1 (.int .u64 x.b) (by simp [World.cell?_alloc_new]); clear hbel5 hgrow5))
                go_roundw
                case rel => exact ⟨k + 1, _, x.b + 1, by omega, by go_num, rfl, ⟨by omega, by omega⟩, by simp; omega, hown5, Lib.hid (by rw [hcut.out, List.append_assoc]), hB.trans ((hone _).trans hb5)⟩
                case measure => simp [intOf]; omega
            · rw [if_neg k3] at hcut
              by_cases k4 : L ≤ x.b
              · rw [if_pos k4] at hcut
                replace hcut := Lib.hid hcut
                have hown5 := hown.alloc (.cells #[.int .u64 x.a, .int .u64 x.b] 75)
                go_wp2_with (go_at_call 37; refine (spans_any _ _ _ (OwnTwo.row hown5) (by omega)).mono ?_; rintro e6 w6 ⟨r6, rfl, hr6, hb6⟩)
                go_ret
                exact ⟨_, rfl, by rw [e.out, hcut.out, List.nil_append, List.append_nil]; exact hr6.mono (bthen hW3 (hB.trans (hone _))).size, bthen (bthen hW3 (hB.trans (hone _))) hb6⟩
              · rw [if_neg k4] at hcut
                replace hcut := Lib.hid hcut
                go_wp2_with fail
                go_roundw
                case rel => exact ⟨k + 1, out, x.b + 1, by omega, by go_num, rfl, ⟨by omega, by omega⟩, by omega, hown.alloc _, by simpa using hcut, hB.alloc (Nat.le_trans hB.size (Nat.le_refl _)) _⟩
                case measure => simp [intOf]; omega
      · obtain rfl : k = M.length := by omega
        have hcut := hR.out
        rw [List.drop_length, cutFrom] at hcut
        replace hcut := Lib.hid hcut
        have htw := Lib.hid (tw_parts hf hL)
        have hownA := hown
        have hB2 := hB.size
        have hone := fun o => (bone wr o).mono hB.size
        unfold W64 at hL
        go_wp2_with (first | (at_builtin; refine wpl_append_two rfl _ _ 71 rfl w3.heap.size 75 infoEnds Try.underlying71 (.slice ao out.length co) out (tw f L) rfl rfl hownA ?_ ?_ ?_ ?_ ?_; (focus (first | rfl | (simp; done))); (focus (exact ⟨htw.out.1.symm, htw.out.2.symm⟩)); (focus omega); (focus (first | omega | (simp; omega))); intro vn w5 hown5 hbel5 hgrow5; have hb5 := hbel5 _ (Nat.le_refl _); clear hbel5 hgrow5) | (go_at_call 37; refine (spans_any _ _ _ (OwnTwo.row hown5) (by simp only [List.length_append, List.length_cons, List.length_nil]; omega)).mono ?_; rintro e6 w6 ⟨r6, rfl, hr6, hb6⟩))
        go_ret
        exact ⟨_, rfl, by rw [e.out, hcut.out]; exact hr6.mono (bthen hW3 (hB.trans hb5)).size, bthen (bthen hW3 (hB.trans hb5)) hb6⟩

end Go.Proofs.Ytehijlgopmbglaa
