/- The walk of the reference's Cut. Conditions: words of 64 bits; the pieces stay fewer than 2^38. -/
import Derived.Test.YtcfblkmcaaaipaaSpanH
import Derived.Test.YtcfblkmcaaaipaaQuietT
namespace Go.Proofs.Ytcfblkmcaaaipaa
open Go.RowKit

def piecesV (x y : Two) : List Two :=
  if overlapB x.a x.b y.a y.b = false then [y]
  else (if y.a < x.a then [tw y.a (x.a - y.a)] else []) ++ (if lastV x.a x.b < lastV y.a y.b then [tw (lastV x.a x.b + 1) (lastV y.a y.b - lastV x.a x.b)] else [])
def cut1 (out : List Two) (x : Two) : List Two := if goodB x.a x.b = true then out.flatMap (piecesV x) else out
def cutAll (s : Two) (l : List Two) : List Two := l.foldl cut1 [s]
def refCutV (s : Two) (l : List Two) : List Two := if goodB s.a s.b = true then cutAll s l else []
theorem cutAll_snoc (s : Two) (l : List Two) (x : Two) : cutAll s (l ++ [x]) = cut1 (cutAll s l) x := by simp [cutAll, List.foldl_append]
theorem pieces_len (x : Two) (l : List Two) : (l.flatMap (piecesV x)).length ≤ 2 * l.length := by
  induction l with
  | nil => simp
  | cons y l ih =>
    have : (piecesV x y).length ≤ 2 := by
      unfold piecesV; split
      · simp
      · rw [List.length_append]; split <;> split <;> simp
    simp only [List.flatMap_cons, List.length_append, List.length_cons]; omega

set_option maxRecDepth 20000 in
set_option maxHeartbeats 4000000 in
theorem refCut_any (v : Value) (s : Two) (l : List Two) (w : World) (hv : RowTwo w v l) (hl : l.length ≤ 1099511627776) (hk38 : ∀ k, k ≤ l.length → (cutAll s (l.take k)).length ≤ 274877906944) :
    Calls Try.prog 14 #[.agg #[.int .u64 s.a, .int .u64 s.b], v] w (RetOwn 30 w (refCutV s l)) := by
  obtain ⟨a, cap, rfl, hcap, hrow⟩ := hv
  cases hg : goodB s.a s.b
  · have e : refCutV s l = [] := by unfold refCutV; rw [if_neg (by rw [hg]; simp)]
    replace e := Lib.hid e
    clear hk38 hrow
    go_enter Try.func14, Try.ntmps14
    go_wp2_with fail
    refine (refGood_any _ _ _ s.ha s.hb).mono ?_; rintro e1 w1 ⟨rfl, hb1⟩
    rw [hg]
    go_wp2_with fail
    go_ret
    exact ⟨_, rfl, by rw [e.out]; exact OwnTwo.nil _ _ _, bnew hb1⟩
  · have e : refCutV s l = cutAll s l := by unfold refCutV; rw [if_pos hg]
    replace e := Lib.hid e
    have HK := Lib.hid hk38
    clear hk38
    go_enter Try.func14, Try.ntmps14
    go_wp2_with fail
    refine (refGood_any _ _ _ s.ha s.hb).mono ?_; rintro e1 w1 ⟨rfl, hb1⟩
    have c0 : w1.cell? ⟨w.heap.size, 0, none⟩ = some (.int .u64 s.a) := cell_lt hb1 (by simp [World.cell?_alloc_new]) (by simp)
    have c1 : w1.cell? ⟨w.heap.size, 1, none⟩ = some (.int .u64 s.b) := cell_lt hb1 (by simp [World.cell?_alloc_new]) (by simp)
    have hW : Below w.heap.size w w1 := bnew hb1
    rw [hg]
    clear hb1 hg
    have hL := OwnTwo.lit 30 w1 w.heap.size hW.size [s] (by simp)
    go_wp2_with fail
    go_loopw [5, 18] (fun o i wr => ∃ k : Nat, k ≤ l.length ∧ i = .int .i64 k ∧ OwnTwo 30 wr w.heap.size o (cutAll s (l.take k)) ∧ Below w.heap.size w wr) (fun _ i _ => l.length - (intOf i).toNat)
    case atStart => exact ⟨0, Nat.zero_le _, rfl, hL, hW.trans ((bone _ _).mono hW.size)⟩
    case round =>
      obtain ⟨k, hk, rfl, hown, hB⟩ := hrel
      have hlen := HK.out k hk
      clear hL c0 c1
      by_cases hlt : k < l.length
      · obtain ⟨b, off, rfl, hbl, hcell⟩ := hrow (by rintro rfl; simp at hlt)
        have h1 := (hcell k hlt).1
        have h2 := (hcell k hlt).2
        rw [← hB.cell (p := ⟨b, _, none⟩) hbl] at h1 h2
        have hsn : cutAll s (l.take (k + 1)) = cut1 (cutAll s (l.take k)) l[k] := by rw [List.take_succ_eq_append_getElem hlt, cutAll_snoc]
        clear hcell hrow
        generalize l[k] = x at *
        generalize cutAll s (l.take k) = out at *
        have hB1 : w.heap.size ≤ wr.heap.size := hB.size
        have hz : w1.heap.size ≤ w1.heap.size := Nat.le_refl _
        cases hg : goodB x.a x.b
        · have hsn' : Hid (cutAll s (l.take (k + 1)) = out) := by show _ = _; rw [hsn]; unfold cut1; rw [if_neg (by rw [hg]; simp)]
          clear hsn
          go_wp2_with fail
          refine (refGood_any _ _ _ x.ha x.hb).mono ?_; rintro e1 w2 ⟨rfl, hb2⟩
          rw [hg]
          have hW2 : Below wr.heap.size wr w2 := bnew hb2
          clear hb2
          go_wp2_with fail
          go_roundw
          case rel => exact ⟨k + 1, by omega, by go_num, by rw [hsn'.out]; exact hown.below hW2 (Nat.le_refl _), hB.trans (hW2.mono hB1)⟩
          case measure => simp [intOf]; omega
        · have hsn' : Hid (cutAll s (l.take (k + 1)) = out.flatMap (piecesV x)) := by show _ = _; rw [hsn]; unfold cut1; rw [if_pos hg]
          have hG := Lib.hid hg
          clear hsn
          go_wp2_with fail
          refine (refGood_any _ _ _ x.ha x.hb).mono ?_; rintro e1 w2 ⟨rfl, hb2⟩
          have d0 : w2.cell? ⟨wr.heap.size, 0, none⟩ = some (.int .u64 x.a) := cell_lt hb2 (by simp [World.cell?_alloc_new]) (by simp)
          have d1 : w2.cell? ⟨wr.heap.size, 1, none⟩ = some (.int .u64 x.b) := cell_lt hb2 (by simp [World.cell?_alloc_new]) (by simp)
          have hz2 : wr.heap.size < w2.heap.size := by have := hb2.size; simp at this; omega
          have hW2 : Below wr.heap.size wr w2 := bnew hb2
          rw [hg]
          clear hb2 hg h1 h2
          obtain ⟨a2, cap2, rfl, hcap2, hrow2⟩ := (hown.below hW2 (Nat.le_refl _)).row
          have hBw : Below w.heap.size w w2 := hB.trans (hW2.mono hB1)
          clear hown hW2 hB hB1
          generalize wr.heap.size = N at *
          obtain ⟨wo, rfl⟩ : ∃ wo : World, wo = w2 := ⟨_, rfl⟩
          go_wp2_with fail
          go_loopw [8, 27] (fun o i wr => ∃ j : Nat, j ≤ out.length ∧ i = .int .i64 j ∧ OwnTwo 30 wr wo.heap.size o ((out.take j).flatMap (piecesV x)) ∧ Below wo.heap.size wo wr) (fun _ i _ => out.length - (intOf i).toNat)
          case atStart => exact ⟨0, Nat.zero_le _, rfl, OwnTwo.nil _ _ _, Below.refl _ _⟩
          case round =>
            obtain ⟨j, hj, rfl, hnx, hB⟩ := hrel
            by_cases hlt2 : j < out.length
            · obtain ⟨b2, off2, rfl, hbl2, hcell2⟩ := hrow2 (by rintro rfl; simp at hlt2)
              have h3 := (hcell2 j hlt2).1
              have h4 := (hcell2 j hlt2).2
              rw [← hB.cell (p := ⟨b2, _, none⟩) hbl2] at h3 h4
              have hsn : (out.take (j + 1)).flatMap (piecesV x) = (out.take j).flatMap (piecesV x) ++ piecesV x out[j] := by rw [List.take_succ_eq_append_getElem hlt2, List.flatMap_append]; simp
              have hnl := pieces_len x (out.take j)
              rw [List.length_take, Nat.min_eq_left hj] at hnl
              clear hcell2 hrow2
              generalize out[j] = y at *
              generalize (out.take j).flatMap (piecesV x) = nx at *
              have hB1 : wo.heap.size ≤ wr.heap.size := hB.size
              have hN : N < wr.heap.size := by omega
              have f0 : wr.cell? ⟨N, 0, none⟩ = some (.int .u64 x.a) := cell_lt hB d0 (by omega)
              have f1 : wr.cell? ⟨N, 1, none⟩ = some (.int .u64 x.b) := cell_lt hB d1 (by omega)
              clear d0 d1
              have hne : ¬ wr.heap.size = N := by omega
              cases ho : overlapB x.a x.b y.a y.b
              · have hsn' : Hid ((out.take (j + 1)).flatMap (piecesV x) = nx ++ [y]) := by show _ = _; rw [hsn]; unfold piecesV; rw [if_pos ho]
                clear hsn
                go_wp2_with fail
                refine (refOverlap_any _ _ _ _ _ x.ha x.hb y.ha y.hb).mono ?_; rintro e1 w3 ⟨rfl, hb3⟩
                have g0 : w3.cell? ⟨wr.heap.size, 0, none⟩ = some (.int .u64 y.a) := cell_lt hb3 (by simp [World.cell?_alloc_new]) (by simp)
                have g1 : w3.cell? ⟨wr.heap.size, 1, none⟩ = some (.int .u64 y.b) := cell_lt hb3 (by simp [World.cell?_alloc_new]) (by simp)
                have hz3 : wr.heap.size < w3.heap.size := by have := hb3.size; simp at this; omega
                have hW3 : Below wr.heap.size wr w3 := bnew hb3
                rw [ho]
                clear hb3 ho
                have hownA := hnx.below hW3 (Nat.le_refl _)
                go_wp2_with (at_builtin; refine wpl_append_many rfl _ _ 22 rfl wo.heap.size 30 infoSpan Try.underlying22 _ nx [y] rfl rfl ?_ ?_ ?_ ?_ ?_ ?_ ?_; (focus (exact hownA)); (focus rfl); (focus (first | rfl | (simp; done))); (focus (rfl)); (focus (simp only [List.length_cons, List.length_nil]; omega)); (focus (first | omega | (simp; omega))); intro v' w5 hown' hbel hgrow)
                go_roundw
                case rel => exact ⟨j + 1, by omega, by go_num, by rw [hsn'.out]; exact hown', hB.trans ((hW3.mono hB1).trans (hbel _ (Nat.le_refl _)))⟩
                case measure => simp [intOf]; omega
              · have HP : piecesV x y = (if y.a < x.a then [tw y.a (x.a - y.a)] else []) ++ (if lastV x.a x.b < lastV y.a y.b then [tw (lastV x.a x.b + 1) (lastV y.a y.b - lastV x.a x.b)] else []) := by unfold piecesV; rw [if_neg (by rw [ho]; simp)]
                have hx0 := x.ha
                have hy0 := y.ha
                unfold W64 at hx0 hy0
                by_cases hp : y.a < x.a
                · rw [if_pos hp] at HP
                  have hpv : (tw y.a (x.a - y.a)).a = y.a ∧ (tw y.a (x.a - y.a)).b = x.a - y.a := ⟨W64.eq y.ha, W64.eq ⟨by omega, by omega⟩⟩
                  replace hpv := Lib.hid hpv
                  go_wp2_with fail
                  refine (refOverlap_any _ _ _ _ _ x.ha x.hb y.ha y.hb).mono ?_; rintro e1 w3 ⟨rfl, hb3⟩
                  have g0 : w3.cell? ⟨wr.heap.size, 0, none⟩ = some (.int .u64 y.a) := cell_lt hb3 (by simp [World.cell?_alloc_new]) (by simp)
                  have g1 : w3.cell? ⟨wr.heap.size, 1, none⟩ = some (.int .u64 y.b) := cell_lt hb3 (by simp [World.cell?_alloc_new]) (by simp)
                  have hz3 : wr.heap.size < w3.heap.size := by have := hb3.size; simp at this; omega
                  have hW3 : Below wr.heap.size wr w3 := bnew hb3
                  have e0 : w3.cell? ⟨N, 0, none⟩ = some (.int .u64 x.a) := cell_lt hW3 f0
                  have e1 : w3.cell? ⟨N, 1, none⟩ = some (.int .u64 x.b) := cell_lt hW3 f1
                  rw [ho]
                  clear hb3 ho h3 h4 f0 f1
                  have hownA := hnx.below hW3 (Nat.le_refl _)
                  go_wp2_with (at_builtin; refine wpl_append_many rfl _ _ 22 rfl wo.heap.size 30 infoSpan Try.underlying22 _ nx [tw y.a (x.a - y.a)] rfl rfl ?_ ?_ ?_ ?_ ?_ ?_ ?_; (focus (exact hownA)); (focus rfl); (focus (first | rfl | (simp; done))); (focus (simp [encs, Two.enc, hpv.out.1, hpv.out.2])); (focus (simp only [List.length_cons, List.length_nil]; omega)); (focus (first | omega | (simp; omega))); intro v' w5 hown' hbel hgrow)
                  have hBW := hbel wo.heap.size (Nat.le_refl _)
                  have k0 : w5.cell? ⟨N, 0, none⟩ = some (.int .u64 x.a) := cell_lt hBW e0 (by omega)
                  have k1 : w5.cell? ⟨N, 1, none⟩ = some (.int .u64 x.b) := cell_lt hBW e1 (by omega)
                  have k2 : w5.cell? ⟨wr.heap.size, 0, none⟩ = some (.int .u64 y.a) := by rw [grown_cell hgrow 0 (by simp; omega) (fun e => by have := (hnx.lt _ e).2; omega)]; exact cell_lt (bone w3 _) g0
                  have k3 : w5.cell? ⟨wr.heap.size, 1, none⟩ = some (.int .u64 y.b) := by rw [grown_cell hgrow 1 (by simp; omega) (fun e => by have := (hnx.lt _ e).2; omega)]; exact cell_lt (bone w3 _) g1
                  have hz5 : wr.heap.size < w5.heap.size := Nat.lt_of_lt_of_le hz3 hBW.size
                  have hownW := hown'
                  have hBZ : Below wo.heap.size wo w5 := hB.trans ((hW3.mono hB1).trans hBW)
                  clear hbel hgrow hBW hown' hownA
                  by_cases hq : lastV x.a x.b < lastV y.a y.b
                  · have hsn' : Hid ((out.take (j + 1)).flatMap (piecesV x) = (nx ++ [tw y.a (x.a - y.a)]) ++ [tw (lastV x.a x.b + 1) (lastV y.a y.b - lastV x.a x.b)]) := by show _ = _; rw [hsn, HP, if_pos hq]; simp
                    have hlx := lastV_w x.ha x.hb
                    have hly := lastV_w y.ha y.hb
                    unfold W64 at hlx hly
                    have hlx0 := hlx.1
                    have hly1 := hly.2
                    clear hlx hly
                    clear hsn
                    go_wp2_with fail
                    refine region_later w5.heap.size w5 (Below.refl _ _) (by kernel_rfl) (by kernel_rfl) ?_
                    have y0 := later_cell (B := w5.heap.size) k0 (by omega)
                    have y1 := later_cell (B := w5.heap.size) k1 (by omega)
                    have y2 := later_cell (B := w5.heap.size) k2 (by omega)
                    have y3 := later_cell (B := w5.heap.size) k3 (by omega)
                    repeat (quiet_step ((first | (go_at_call_of 24 (Value.agg #[.int .u64 y.a, .int .u64 y.b]); exact quiet_later (Nat.le_refl _) (refLast_any _ _ _ y.ha y.hb)) | (go_at_call_of 24 (Value.agg #[.int .u64 x.a, .int .u64 x.b]); exact quiet_later (Nat.le_refl _) (refLast_any _ _ _ x.ha x.hb)))))
                    refine wpQuiet_nil ?_
                    rintro _ ⟨X, rfl⟩
                    have hX := X.h
                    have m0 := y0 X
                    have m1 := y1 X
                    have m2 := y2 X
                    have m3 := y3 X
                    have hownX := hownW.below hX (Nat.le_refl _)
                    clear y0 y1 y2 y3
                    generalize X.x = wz at *
                    have hN2 : N < wz.heap.size := by have := hX.size; omega
                    have hR2 : wr.heap.size < wz.heap.size := by have := hX.size; omega
                    have hp2 : (tw (lastV x.a x.b + 1) (lastV y.a y.b - lastV x.a x.b)).a = lastV x.a x.b + 1 ∧ (tw (lastV x.a x.b + 1) (lastV y.a y.b - lastV x.a x.b)).b = lastV y.a y.b - lastV x.a x.b := ⟨W64.eq ⟨by omega, by omega⟩, W64.eq ⟨by omega, by omega⟩⟩
                    replace hp2 := Lib.hid hp2
                    clear k0 k1 k2 k3
                    go_wp2_with fail
                    refine region_later_move wz.heap.size wz _ 9 (Below.refl _ _) (by kernel_rfl) rfl rfl (by kernel_rfl) ?_
                    intro Q₂ hQ₂
                    have y0 := later_cell (B := wz.heap.size) m0 (by omega)
                    have y1 := later_cell (B := wz.heap.size) m1 (by omega)
                    have y2 := later_cell (B := wz.heap.size) m2 (by omega)
                    have y3 := later_cell (B := wz.heap.size) m3 (by omega)
                    simp only [List.take_succ_cons, List.take_zero, List.drop_succ_cons, List.drop_zero]
                    go_simp
                    repeat (quiet_step ((first | (go_at_call_of 24 (Value.agg #[.int .u64 y.a, .int .u64 y.b]); exact quiet_later (Nat.le_refl _) (refLast_any _ _ _ y.ha y.hb)) | (go_at_call_of 24 (Value.agg #[.int .u64 x.a, .int .u64 x.b]); exact quiet_later (Nat.le_refl _) (refLast_any _ _ _ x.ha x.hb)))))
                    refine wpQuiet_nil ?_
                    intro Y
                    have hY := Y.h
                    have hownY := hownX.below hY (Nat.le_refl _)
                    clear y0 y1 y2 y3 m0 m1 m2 m3
                    generalize Y.x = wy at *
                    have hzY : wo.heap.size ≤ wy.heap.size := (Nat.le_trans hBZ.size (Nat.le_trans hX.size hY.size))
                    go_wp2_with ((at_builtin; refine wpl_append_many rfl _ _ 22 rfl wo.heap.size 30 infoSpan Try.underlying22 _ (nx ++ [tw y.a (x.a - y.a)]) [tw (lastV x.a x.b + 1) (lastV y.a y.b - lastV x.a x.b)] rfl rfl ?_ ?_ ?_ ?_ ?_ ?_ ?_; (focus (exact hownY)); (focus rfl); (focus (first | rfl | (simp; done))); (focus (simp [encs, Two.enc, hp2.out.1, hp2.out.2])); (focus (simp only [List.length_append, List.length_cons, List.length_nil]; omega)); (focus (first | omega | (simp; omega))); intro v' w9 hown' hbel hgrow))
                    go_roundw
                    case rel => exact ⟨j + 1, by omega, by go_num, by rw [hsn'.out]; exact hown', hBZ.trans ((hX.mono hBZ.size).trans ((hY.mono (Nat.le_trans hBZ.size hX.size)).trans (hbel _ (Nat.le_refl _))))⟩
                    case measure => simp [intOf]; omega
                  · have hsn' : Hid ((out.take (j + 1)).flatMap (piecesV x) = (nx ++ [tw y.a (x.a - y.a)])) := by show _ = _; rw [hsn, HP, if_neg hq]; simp
                    have hq' : (decide (lastV x.a x.b < lastV y.a y.b)) = false := decide_eq_false hq
                    clear hsn
                    go_wp2_with fail
                    refine region_later w5.heap.size w5 (Below.refl _ _) (by kernel_rfl) (by kernel_rfl) ?_
                    have y0 := later_cell (B := w5.heap.size) k0 (by omega)
                    have y1 := later_cell (B := w5.heap.size) k1 (by omega)
                    have y2 := later_cell (B := w5.heap.size) k2 (by omega)
                    have y3 := later_cell (B := w5.heap.size) k3 (by omega)
                    repeat (quiet_step ((first | (go_at_call_of 24 (Value.agg #[.int .u64 y.a, .int .u64 y.b]); exact quiet_later (Nat.le_refl _) (refLast_any _ _ _ y.ha y.hb)) | (go_at_call_of 24 (Value.agg #[.int .u64 x.a, .int .u64 x.b]); exact quiet_later (Nat.le_refl _) (refLast_any _ _ _ x.ha x.hb)))))
                    refine wpQuiet_nil ?_
                    rintro _ ⟨X, rfl⟩
                    have hX := X.h
                    have m0 := y0 X
                    have m1 := y1 X
                    have m2 := y2 X
                    have m3 := y3 X
                    have hownX := hownW.below hX (Nat.le_refl _)
                    clear y0 y1 y2 y3
                    generalize X.x = wz at *
                    go_wp2_with fail
                    go_roundw
                    case rel => exact ⟨j + 1, by omega, by go_num, by rw [hsn'.out]; exact hownX, hBZ.trans (hX.mono hBZ.size)⟩
                    case measure => simp [intOf]; omega
                · rw [if_neg hp] at HP
                  go_wp2_with fail
                  refine (refOverlap_any _ _ _ _ _ x.ha x.hb y.ha y.hb).mono ?_; rintro e1 w3 ⟨rfl, hb3⟩
                  have g0 : w3.cell? ⟨wr.heap.size, 0, none⟩ = some (.int .u64 y.a) := cell_lt hb3 (by simp [World.cell?_alloc_new]) (by simp)
                  have g1 : w3.cell? ⟨wr.heap.size, 1, none⟩ = some (.int .u64 y.b) := cell_lt hb3 (by simp [World.cell?_alloc_new]) (by simp)
                  have hz3 : wr.heap.size < w3.heap.size := by have := hb3.size; simp at this; omega
                  have hW3 : Below wr.heap.size wr w3 := bnew hb3
                  have e0 : w3.cell? ⟨N, 0, none⟩ = some (.int .u64 x.a) := cell_lt hW3 f0
                  have e1 : w3.cell? ⟨N, 1, none⟩ = some (.int .u64 x.b) := cell_lt hW3 f1
                  rw [ho]
                  clear hb3 ho h3 h4 f0 f1
                  have hownA := hnx.below hW3 (Nat.le_refl _)
                  have k0 := e0
                  have k1 := e1
                  have k2 := g0
                  have k3 := g1
                  have hz5 : wr.heap.size < w3.heap.size := hz3
                  have hownW := hownA
                  have hBZ : Below wo.heap.size wo w3 := hB.trans (hW3.mono hB1)
                  clear hownA
                  by_cases hq : lastV x.a x.b < lastV y.a y.b
                  · have hsn' : Hid ((out.take (j + 1)).flatMap (piecesV x) = nx ++ [tw (lastV x.a x.b + 1) (lastV y.a y.b - lastV x.a x.b)]) := by show _ = _; rw [hsn, HP, if_pos hq]; simp
                    have hlx := lastV_w x.ha x.hb
                    have hly := lastV_w y.ha y.hb
                    unfold W64 at hlx hly
                    have hlx0 := hlx.1
                    have hly1 := hly.2
                    clear hlx hly
                    clear hsn
                    go_wp2_with fail
                    refine region_later w3.heap.size w3 (Below.refl _ _) (by kernel_rfl) (by kernel_rfl) ?_
                    have y0 := later_cell (B := w3.heap.size) k0 (by omega)
                    have y1 := later_cell (B := w3.heap.size) k1 (by omega)
                    have y2 := later_cell (B := w3.heap.size) k2 (by omega)
                    have y3 := later_cell (B := w3.heap.size) k3 (by omega)
                    repeat (quiet_step ((first | (go_at_call_of 24 (Value.agg #[.int .u64 y.a, .int .u64 y.b]); exact quiet_later (Nat.le_refl _) (refLast_any _ _ _ y.ha y.hb)) | (go_at_call_of 24 (Value.agg #[.int .u64 x.a, .int .u64 x.b]); exact quiet_later (Nat.le_refl _) (refLast_any _ _ _ x.ha x.hb)))))
                    refine wpQuiet_nil ?_
                    rintro _ ⟨X, rfl⟩
                    have hX := X.h
                    have m0 := y0 X
                    have m1 := y1 X
                    have m2 := y2 X
                    have m3 := y3 X
                    have hownX := hownW.below hX (Nat.le_refl _)
                    clear y0 y1 y2 y3
                    generalize X.x = wz at *
                    have hN2 : N < wz.heap.size := by have := hX.size; omega
                    have hR2 : wr.heap.size < wz.heap.size := by have := hX.size; omega
                    have hp2 : (tw (lastV x.a x.b + 1) (lastV y.a y.b - lastV x.a x.b)).a = lastV x.a x.b + 1 ∧ (tw (lastV x.a x.b + 1) (lastV y.a y.b - lastV x.a x.b)).b = lastV y.a y.b - lastV x.a x.b := ⟨W64.eq ⟨by omega, by omega⟩, W64.eq ⟨by omega, by omega⟩⟩
                    replace hp2 := Lib.hid hp2
                    clear k0 k1 k2 k3
                    go_wp2_with fail
                    refine region_later_move wz.heap.size wz _ 9 (Below.refl _ _) (by kernel_rfl) rfl rfl (by kernel_rfl) ?_
                    intro Q₂ hQ₂
                    have y0 := later_cell (B := wz.heap.size) m0 (by omega)
                    have y1 := later_cell (B := wz.heap.size) m1 (by omega)
                    have y2 := later_cell (B := wz.heap.size) m2 (by omega)
                    have y3 := later_cell (B := wz.heap.size) m3 (by omega)
                    simp only [List.take_succ_cons, List.take_zero, List.drop_succ_cons, List.drop_zero]
                    go_simp
                    repeat (quiet_step ((first | (go_at_call_of 24 (Value.agg #[.int .u64 y.a, .int .u64 y.b]); exact quiet_later (Nat.le_refl _) (refLast_any _ _ _ y.ha y.hb)) | (go_at_call_of 24 (Value.agg #[.int .u64 x.a, .int .u64 x.b]); exact quiet_later (Nat.le_refl _) (refLast_any _ _ _ x.ha x.hb)))))
                    refine wpQuiet_nil ?_
                    intro Y
                    have hY := Y.h
                    have hownY := hownX.below hY (Nat.le_refl _)
                    clear y0 y1 y2 y3 m0 m1 m2 m3
                    generalize Y.x = wy at *
                    have hzY : wo.heap.size ≤ wy.heap.size := (Nat.le_trans hBZ.size (Nat.le_trans hX.size hY.size))
                    go_wp2_with ((at_builtin; refine wpl_append_many rfl _ _ 22 rfl wo.heap.size 30 infoSpan Try.underlying22 _ nx [tw (lastV x.a x.b + 1) (lastV y.a y.b - lastV x.a x.b)] rfl rfl ?_ ?_ ?_ ?_ ?_ ?_ ?_; (focus (exact hownY)); (focus rfl); (focus (first | rfl | (simp; done))); (focus (simp [encs, Two.enc, hp2.out.1, hp2.out.2])); (focus (simp only [List.length_cons, List.length_nil]; omega)); (focus (first | omega | (simp; omega))); intro v' w9 hown' hbel hgrow))
                    go_roundw
                    case rel => exact ⟨j + 1, by omega, by go_num, by rw [hsn'.out]; exact hown', hBZ.trans ((hX.mono hBZ.size).trans ((hY.mono (Nat.le_trans hBZ.size hX.size)).trans (hbel _ (Nat.le_refl _))))⟩
                    case measure => simp [intOf]; omega
                  · have hsn' : Hid ((out.take (j + 1)).flatMap (piecesV x) = nx) := by show _ = _; rw [hsn, HP, if_neg hq]; simp
                    have hq' : (decide (lastV x.a x.b < lastV y.a y.b)) = false := decide_eq_false hq
                    clear hsn
                    go_wp2_with fail
                    refine region_later w3.heap.size w3 (Below.refl _ _) (by kernel_rfl) (by kernel_rfl) ?_
                    have y0 := later_cell (B := w3.heap.size) k0 (by omega)
                    have y1 := later_cell (B := w3.heap.size) k1 (by omega)
                    have y2 := later_cell (B := w3.heap.size) k2 (by omega)
                    have y3 := later_cell (B := w3.heap.size) k3 (by omega)
                    repeat (quiet_step ((first | (go_at_call_of 24 (Value.agg #[.int .u64 y.a, .int .u64 y.b]); exact quiet_later (Nat.le_refl _) (refLast_any _ _ _ y.ha y.hb)) | (go_at_call_of 24 (Value.agg #[.int .u64 x.a, .int .u64 x.b]); exact quiet_later (Nat.le_refl _) (refLast_any _ _ _ x.ha x.hb)))))
                    refine wpQuiet_nil ?_
                    rintro _ ⟨X, rfl⟩
                    have hX := X.h
                    have m0 := y0 X
                    have m1 := y1 X
                    have m2 := y2 X
                    have m3 := y3 X
                    have hownX := hownW.below hX (Nat.le_refl _)
                    clear y0 y1 y2 y3
                    generalize X.x = wz at *
                    go_wp2_with fail
                    go_roundw
                    case rel => exact ⟨j + 1, by omega, by go_num, by rw [hsn'.out]; exact hownX, hBZ.trans (hX.mono hBZ.size)⟩
                    case measure => simp [intOf]; omega
            · obtain rfl : j = out.length := by omega
              rw [List.take_length] at hnx
              go_wp2
              go_roundw
              case rel => exact ⟨k + 1, by omega, by go_num, by rw [hsn'.out]; exact hnx.mono hBw.size, hBw.trans (hB.mono hBw.size)⟩
              case measure => simp [intOf]; omega
      · obtain rfl : k = l.length := by omega
        rw [List.take_length] at hown
        go_wp2
        go_ret
        exact ⟨_, rfl, by rw [e.out]; exact hown, hB⟩
end Go.Proofs.Ytcfblkmcaaaipaa
