/- Sorting rows of words: pdqsort. -/
import Derived.Deep.CutRange
import Derived.Test.YtiblhlaemmdphaaGreatTableFreshP37
namespace Go.Proofs.YtiblhlaemmdphaaGreat
open Go Go.RowKit Go.Shelf Go.BigFrame Go.Maps
set_option maxRecDepth 20000 in
set_option maxHeartbeats 16000000 in
theorem pdq64_any : ∀ (M g cap a b lim N : Nat) (d : Array Int) (w : World), b - a < M → d.size = N → HU w g d → a ≤ b → b ≤ N → N < 1152921504606846976 → lim < 4611686018427387904 →
  Calls Tryz.prog 85 #[.slice (some ⟨g, 0, none⟩) N cap, .int .i64 a, .int .i64 b, .int .i64 lim] w fun e w' => e = .returned (.tuple #[]) ∧ Row64 w w' g N (Sort.pdq Sort.ltInt d a b lim true true) := by
 intro M
 induction M with
 | zero => intro g cap a b lim N d w h; omega
 | succ M ih =>
 intro g cap a0 b0 lim0 N d w hM hN hH hab0 hb0 hN62 hlim0
 have hR0 := Lib.hid (Row64.refl hH hN)
 clear hH
 obtain ⟨T, hT⟩ : ∃ T, Sort.pdq Sort.ltInt d a0 b0 lim0 true true = T := ⟨_, rfl⟩
 rw [hT]
 replace hT := Lib.hid hT
 have hrec := fun a b lim dk W h1 h2 h3 h4 h5 h6 => ih g cap a b lim N dk W h1 h2 h3 h4 h5 hN62 h6
 replace hrec := Lib.hid hrec
 clear ih hN
 go_enter Tryz.func85, Tryz.ntmps85
 go_wp2_with fail
 go_loopw [1, 2, 3, 8, 9] (fun s1 s2 s3 s8 s9 wr => ∃ (a b lim : Nat) (wb wp : Bool) (dk : Array Int), a0 ≤ a ∧ a ≤ b ∧ b ≤ b0 ∧ lim ≤ lim0 ∧ s1 = .int .i64 a ∧ s2 = .int .i64 b ∧ s3 = .int .i64 lim ∧ s8 = .bool wb ∧ s9 = .bool wp ∧ Row64 w wr g N dk ∧ Sort.pdq Sort.ltInt dk a b lim wb wp = T) (fun s1 s2 _ _ _ _ => (intOf s2 - intOf s1).toNat)
 case atStart => exact ⟨a0, b0, lim0, true, true, d, Nat.le_refl _, hab0, Nat.le_refl _, Nat.le_refl _, rfl, rfl, rfl, rfl, rfl, hR0.out, hT.out⟩
 case round =>
  obtain ⟨a, b, lim, wb, wp, dk, hla, hab, hlb, hll, rfl, rfl, rfl, rfl, rfl, hR, heq⟩ := hrel
  rw [Sort.pdq] at heq
  have hwl : IntKind.i64.wrap ((b : Int) - (a : Int)) = (b : Int) - (a : Int) := IntWalk.i64_in _ (by omega)
  by_cases h12 : b - a ≤ 12
  ·rw [if_pos h12] at heq
   have h12' : (b : Int) - (a : Int) ≤ 12 := by omega
   have hc := ins64_any g cap a b N dk hR.sz wr hR.hu hab (by omega) (by omega)
   replace hc := Lib.hid hc
   replace hR := Lib.hid hR
   replace heq := Lib.hid heq
   go_wp2_with fail
   refine hc.out.mono ?_; rintro e w2 ⟨rfl, hR2⟩
   have hR3 := Lib.hid (hR.out.trans hR2)
   clear hc hR2 hR
   go_wp2_with fail
   refine bodyPost_ret (v := .tuple #[]) (by simp [results, Tryz.results85, go_sem]) rfl ?_
   exact ⟨rfl, by rw [← heq.out]; exact hR3.out⟩
  ·rw [if_neg h12] at heq
   have h12' : ¬ (b : Int) - (a : Int) ≤ 12 := by omega
   by_cases hl0 : lim = 0
   ·rw [if_pos hl0] at heq
    subst hl0
    have hc := heap64_any g cap a b N dk hR.sz wr hR.hu hab (by omega) hN62
    replace hc := Lib.hid hc
    replace hR := Lib.hid hR
    replace heq := Lib.hid heq
    go_wp2_with fail
    refine hc.out.mono ?_; rintro e w2 ⟨rfl, hR2⟩
    have hR3 := Lib.hid (hR.out.trans hR2)
    clear hc hR2 hR
    go_wp2_with fail
    refine bodyPost_ret (v := .tuple #[]) (by simp [results, Tryz.results85, go_sem]) rfl ?_
    exact ⟨rfl, by rw [← heq.out]; exact hR3.out⟩
   ·rw [if_neg hl0] at heq
    have hl0' : ¬ (lim : Int) = 0 := by omega
    have hl0b : ((lim : Int) == 0) = false := by simp [hl0]
    have hwm : IntKind.i64.wrap ((lim : Int) - 1) = ((lim - 1 : Nat) : Int) := by rw [show (lim : Int) - 1 = ((lim - 1 : Nat) : Int) by omega]; exact IntWalk.i64_in _ (by omega)
    -- the parts' results under names
    obtain ⟨d1, hd1⟩ : ∃ d1, (if (!wb) = true then Sort.breakPatterns dk a b else dk) = d1 := ⟨_, rfl⟩
    obtain ⟨l1, hl1⟩ : ∃ l1, (if (!wb) = true then lim - 1 else lim) = l1 := ⟨_, rfl⟩
    simp only [hd1, hl1] at heq
    obtain ⟨c, hcp⟩ : ∃ c, Sort.choosePivot Sort.ltInt d1 a b = c := ⟨_, rfl⟩
    have hcb := Sort.choosePivot_holds Sort.ltInt d1 a b (by omega)
    rw [hcp] at hcb
    simp only [hcp] at heq
    obtain ⟨P, hint⟩ := c
    simp only at heq hcb
    obtain ⟨d2, hd2⟩ : ∃ d2, (if hint = Sort.Hint.decreasing then Sort.reverseRange d1 a b else d1) = d2 := ⟨_, rfl⟩
    obtain ⟨pv, hpv⟩ : ∃ pv, (if hint = Sort.Hint.decreasing then b - 1 - (P - a) else P) = pv := ⟨_, rfl⟩
    obtain ⟨h2, hh2⟩ : ∃ h2, (if hint = Sort.Hint.decreasing then Sort.Hint.increasing else hint) = h2 := ⟨_, rfl⟩
    simp only [hd2, hpv, hh2] at heq
    obtain ⟨B, hBv⟩ : ∃ B, (wb && wp && decide (h2 = Sort.Hint.increasing)) = B := ⟨_, rfl⟩
    rw [hBv] at heq
    obtain ⟨pi, hpi⟩ : ∃ pi, (if B = true then Sort.partialInsertionSort Sort.ltInt d2 a b else (d2, false)) = pi := ⟨_, rfl⟩
    rw [hpi] at heq
    obtain ⟨d3, pb⟩ := pi
    simp only at heq
    obtain ⟨B2, hB2⟩ : ∃ B2, (decide (a > 0) && !Sort.ltInt d3[a - 1]! d3[pv]!) = B2 := ⟨_, rfl⟩
    rw [hB2] at heq
    have hpvb : a ≤ pv ∧ pv < b := by rw [← hpv]; split <;> omega
    have hl1b : l1 ≤ lim := by rw [← hl1]; split <;> omega
    obtain ⟨Q8, hQ8⟩ : ∃ Q, Q = (b - a) / 8 := ⟨_, rfl⟩
    have ht8 : ((b : Int) - (a : Int)).tdiv 8 = (Q8 : Int) := by rw [Int.tdiv_eq_ediv_of_nonneg (by omega)]; omega
    have hw8 : IntKind.i64.wrap (Q8 : Int) = (Q8 : Int) := IntWalk.i64_in _ (by omega)
    have hbr := fun (h : wb = false) => break64_any g cap a b N dk hR.sz wr hR.hu (by omega) (by omega) hN62
    rw [← hQ8] at heq
    replace hd1 := Lib.hid hd1
    replace hl1 := Lib.hid hl1
    replace hcp := Lib.hid hcp
    replace heq := Lib.hid heq
    replace hd2 := Lib.hid hd2
    replace hpv := Lib.hid hpv
    replace hh2 := Lib.hid hh2
    replace hBv := Lib.hid hBv
    replace hpi := Lib.hid hpi
    replace hB2 := Lib.hid hB2
    replace hQ8 := Lib.hid hQ8
    replace hbr := Lib.hid hbr
    replace hR := Lib.hid hR
    go_upto_if 35 with fail
    go_cut [3] from 19 to 133 (fun s3 wx => s3 = .int .i64 l1 ∧ Row64 w wx g N d1)
    case first =>
     cases wb
     ·have e1 : Sort.breakPatterns dk a b = d1 := hd1.out
      have e2 : lim - 1 = l1 := hl1.out
      have hb := hbr.out rfl
      rw [e1] at hb
      rw [e2] at hwm
      replace hb := Lib.hid hb
      replace e2 := Lib.hid e2
      clear e1 hbr
      go_wp2_with fail
      refine hb.out.mono ?_; rintro e w2 ⟨rfl, hR2⟩
      have hR3 := Lib.hid (hR.out.trans hR2)
      clear hb hR2
      go_wp2_with fail
      go_meet
      exact ⟨rfl, hR3.out⟩
     ·have e1 : dk = d1 := hd1.out
      have e2 : lim = l1 := hl1.out
      subst e1 e2
      clear hbr
      go_wp2_with fail
      go_meet
      exact ⟨rfl, hR.out⟩
    case rest =>
     obtain ⟨rfl, hR1⟩ := hcut
     clear hR hbr hwm hl0' hl0b
     have hp := pivot64_any g cap a b N d1 hR1.sz wc hR1.hu (by omega) (by omega) hN62
     rw [hcp.out] at hp
     simp only at hp
     replace hp := Lib.hid hp
     replace hR1 := Lib.hid hR1
     go_wp2_with fail
     refine hp.out.mono ?_; rintro e w3 ⟨rfl, hb3⟩
     have hR3 := Lib.hid (hR1.out.later hb3)
     clear hp hb3 hR1
     go_upto_if 50 with fail
     go_cut [11, 12] from 19 to 133 (fun s11 s12 wx => s11 = .int .i64 pv ∧ s12 = .int .i64 (Sort.hintCode h2) ∧ Row64 w wx g N d2)
     case first =>
      have hc0 : Sort.hintCode Sort.Hint.unknown = 0 := rfl
      have hc1 : Sort.hintCode Sort.Hint.increasing = 1 := rfl
      have hc2 : Sort.hintCode Sort.Hint.decreasing = 2 := rfl
      cases hint
      ·have e1 : d1 = d2 := hd2.out
       have e2 : P = pv := hpv.out
       have e3 : Sort.Hint.unknown = h2 := hh2.out
       subst e1 e2 e3
       go_wp2_with fail
       go_meet
       exact ⟨rfl, rfl, hR3.out⟩
      ·have e1 : d1 = d2 := hd2.out
       have e2 : P = pv := hpv.out
       have e3 : Sort.Hint.increasing = h2 := hh2.out
       subst e1 e2 e3
       go_wp2_with fail
       go_meet
       exact ⟨rfl, rfl, hR3.out⟩
      ·have e1 : Sort.reverseRange d1 a b = d2 := hd2.out
       have e2 : b - 1 - (P - a) = pv := hpv.out
       have e3 : Sort.Hint.increasing = h2 := hh2.out
       subst e3
       have hr := rev64_any g cap a b N d1 hR3.out.sz w3 hR3.out.hu hab (by omega) hN62
       rw [e1] at hr
       have hwb : IntKind.i64.wrap ((b : Int) - 1) = (b : Int) - 1 := IntWalk.i64_in _ (by omega)
       have hwp : IntKind.i64.wrap ((P : Int) - (a : Int)) = (P : Int) - (a : Int) := IntWalk.i64_in _ (by omega)
       have hwq : IntKind.i64.wrap ((b : Int) - 1 - ((P : Int) - (a : Int))) = (pv : Int) := by rw [show (b : Int) - 1 - ((P : Int) - (a : Int)) = (pv : Int) by omega]; exact IntWalk.i64_in _ (by omega)
       replace hr := Lib.hid hr
       replace e2 := Lib.hid e2
       clear e1
       go_wp2_with fail
       refine hr.out.mono ?_; rintro e w4 ⟨rfl, hR4⟩
       have hR5 := Lib.hid (hR3.out.trans hR4)
       clear hr hR4
       go_wp2_with fail
       go_meet
       exact ⟨rfl, rfl, hR5.out⟩
     case rest =>
      obtain ⟨rfl, rfl, hR4⟩ := hcut
      clear hR3 hd2 hpv hh2 hcb
      replace hR4 := Lib.hid hR4
      go_upto_region 15 with fail
      go_cut [68] from 19 to 133 (fun s68 wx => s68 = .bool B ∧ wx = wc)
      case first =>
       have hc0 : Sort.hintCode Sort.Hint.unknown = 0 := rfl
       have hc1 : Sort.hintCode Sort.Hint.increasing = 1 := rfl
       have hc2 : Sort.hintCode Sort.Hint.decreasing = 2 := rfl
       cases wb <;> cases wp <;> cases h2 <;> (have e1 := hBv.out; simp at e1; subst e1; go_wp2_with fail; go_meet; exact ⟨rfl, rfl⟩)
      case rest =>
       obtain ⟨rfl, rfl⟩ := hcut
       go_upto_if 68 with fail
       go_cut [68] from 19 to 133 (fun _ wx => pb = false ∧ Row64 w wx g N d3)
       case first =>
        cases B
        ·have e1 : ((d2, false) : Array Int × Bool) = (d3, pb) := hpi.out
         injection e1 with e1 e2
         subst e1 e2
         go_wp2_with fail
         go_meet
         exact ⟨by first | rfl | trivial, hR4.out⟩
        ·have e1 : Sort.partialInsertionSort Sort.ltInt d2 a b = (d3, pb) := hpi.out
         have hr := part64_any g cap a b N d2 hR4.out.sz wc hR4.out.hu (by omega) (by omega) hN62
         rw [e1] at hr
         simp only at hr
         replace hr := Lib.hid hr
         clear e1
         go_wp2_with fail
         refine hr.out.mono ?_; rintro e w4 ⟨rfl, hR5⟩
         have hR6 := Lib.hid (hR4.out.trans hR5)
         clear hr hR5
         cases pb
         ·go_wp2_with fail
          go_meet
          exact ⟨by first | rfl | trivial, hR6.out⟩
         ·have e2 := heq.out
          rw [if_pos rfl] at e2
          replace e2 := Lib.hid e2
          go_wp2_with fail
          refine bodyPost_ret (v := .tuple #[]) (by simp [results, Tryz.results85, go_sem]) rfl ?_
          exact ⟨rfl, by rw [← e2.out]; exact hR6.out⟩
       case rest =>
        obtain ⟨rfl, hR5⟩ := hcut
        clear hR4 hpi
        replace heq := heq.out
        rw [if_neg (by simp)] at heq
        replace heq := Lib.hid heq
        replace hR5 := Lib.hid hR5
        go_upto_region 17 with fail
        go_cut [87] from 19 to 133 (fun s87 wx => s87 = .bool B2 ∧ Row64 w wx g N d3)
        case first =>
         by_cases h0 : a = 0
         ·have e1 : false = B2 := by rw [← hB2.out]; simp [h0]
          subst e1
          have h0' : ¬ (0 : Int) < (a : Int) := by omega
          have hgz : (0 < a) = False := by simp [h0]
          replace h0 := Lib.hid h0
          refine region_later wc.heap.size wc (Below.refl _ _) (by kernel_rfl) (by kernel_rfl) ?_
          repeat (go_big_quiet_step (fail))
          refine wpQuiet_nil ?_
          first | (rintro _ ⟨X, rfl⟩) | (intro X)
          have hX := X.h
          have hR6 := Lib.hid (hR5.out.later hX)
          generalize X.x = w4 at *
          go_wp2_with fail
          go_meet
          exact ⟨rfl, hR6.out⟩
         ·obtain ⟨c0, fc0⟩ := hR5.out.hu.2 (a - 1) (by have := hR5.out.sz; omega)
          obtain ⟨c1, fc1⟩ := hR5.out.hu.2 pv (by have := hR5.out.sz; omega)
          have hgl := hR5.out.hu.1
          have e1 : (!Sort.ltInt d3[a - 1]! d3[pv]!) = B2 := by rw [← hB2.out]; simp [show 0 < a by omega]
          generalize d3[a - 1]! = x at *
          generalize d3[pv]! = y at *
          obtain ⟨q, hq⟩ : ∃ q, Sort.ltInt x y = q := ⟨_, rfl⟩
          rw [hq] at e1
          subst e1
          have h0' : (0 : Int) < (a : Int) := by omega
          have hw1 : IntKind.i64.wrap ((a : Int) - 1) = (a : Int) - 1 := IntWalk.i64_in _ (by omega)
          have ht1 : ((a : Int) - 1).toNat = a - 1 := by omega
          have hb1 : 0 ≤ (a : Int) - 1 ∧ (a : Int) - 1 < (N : Int) := by omega
          have hpN : pv < N := by omega
          have hgz : (0 < a) = True := by simp; omega
          replace hq := Lib.hid hq
          refine region_later wc.heap.size wc (Below.refl _ _) (by kernel_rfl) (by kernel_rfl) ?_
          have z0 := later_cell (B := wc.heap.size) c0 hgl
          have z1 := later_cell (B := wc.heap.size) c1 hgl
          repeat (first | go_big_quiet_step (fail) | quiet_step ((go_at_call 111; exact quiet_later (Nat.le_refl _) (less64_q hq _))))
          refine wpQuiet_nil ?_
          first | (rintro _ ⟨X, rfl⟩) | (intro X)
          have hX := X.h
          have hR6 := Lib.hid (hR5.out.later hX)
          clear z0 z1
          generalize X.x = w4 at *
          go_wp2_with fail
          go_meet
          exact ⟨rfl, hR6.out⟩
        case rest =>
         obtain ⟨rfl, hR6⟩ := hcut
         clear hR5 hB2
         replace heq := heq.out
         cases B2
         ·simp only [Bool.false_eq_true, if_false] at heq
          have hpt := partn64_any g cap a b pv N d3 hR6.sz wc hR6.hu hpvb.1 hpvb.2 (by omega) hN62
          generalize Sort.partition Sort.ltInt d3 a b pv = R at *
          obtain ⟨mid, ap, d4⟩ := R
          simp only at hpt heq
          replace hpt := Lib.hid hpt
          replace heq := Lib.hid heq
          replace hR6 := Lib.hid hR6
          go_wp2_with fail
          refine hpt.out.mono ?_; rintro e w7 ⟨rfl, hR7, hm1, hm2⟩
          have hR8 := hR6.out.trans hR7
          replace heq := heq.out
          rw [dif_pos ⟨hm1, hm2⟩] at heq
          have hwa : IntKind.i64.wrap ((mid : Int) - (a : Int)) = (mid : Int) - (a : Int) := IntWalk.i64_in _ (by omega)
          have hwb : IntKind.i64.wrap ((b : Int) - (mid : Int)) = (b : Int) - (mid : Int) := IntWalk.i64_in _ (by omega)
          have hwm : IntKind.i64.wrap ((mid : Int) + 1) = (mid : Int) + 1 := IntWalk.i64_in _ (by omega)
          clear hpt hR7 hR6
          by_cases hlr : mid - a < b - mid
          ·rw [if_pos hlr] at heq
           have hlr' : (mid : Int) - (a : Int) < (b : Int) - (mid : Int) := by omega
           have hrc := hrec.out a mid l1 d4 w7 (by omega) hR8.sz hR8.hu hm1 (by omega) (by omega)
           replace hrc := Lib.hid hrc
           replace hR8 := Lib.hid hR8
           replace heq := Lib.hid heq
           go_wp2_with fail
           refine hrc.out.mono ?_; rintro e w8 ⟨rfl, hR9⟩
           have hR10 := Lib.hid (hR8.out.trans hR9)
           clear hrc hR9 hR8
           go_wp2_with fail
           exact ⟨⟨mid + 1, b, l1, decide (mid - a ≥ Q8), ap, _, by omega, by omega, hlb, by omega, rfl, rfl, rfl, congrArg Value.bool (decide_eq_decide.2 (by omega)), rfl, hR10.out, heq.out⟩, by simp [intOf]; omega⟩
          ·rw [if_neg hlr] at heq
           have hlr' : ¬ (mid : Int) - (a : Int) < (b : Int) - (mid : Int) := by omega
           have hrc := hrec.out (mid + 1) b l1 d4 w7 (by omega) hR8.sz hR8.hu (by omega) (by omega) (by omega)
           rw [show ((mid + 1 : Nat) : Int) = (mid : Int) + 1 from rfl] at hrc
           replace hrc := Lib.hid hrc
           replace hR8 := Lib.hid hR8
           replace heq := Lib.hid heq
           go_wp2_with fail
           refine hrc.out.mono ?_; rintro e w8 ⟨rfl, hR9⟩
           have hR10 := Lib.hid (hR8.out.trans hR9)
           clear hrc hR9 hR8
           go_wp2_with fail
           exact ⟨⟨a, mid, l1, decide (b - mid ≥ Q8), ap, _, hla, hm1, by omega, by omega, rfl, rfl, rfl, congrArg Value.bool (decide_eq_decide.2 (by omega)), rfl, hR10.out, heq.out⟩, by simp [intOf]; omega⟩
         ·simp only [if_true] at heq
          have hpt := parteq64_any g cap a b pv N d3 hR6.sz wc hR6.hu hpvb.1 hpvb.2 (by omega) hN62
          generalize Sort.partitionEqual Sort.ltInt d3 a b pv = R at *
          obtain ⟨mid, d4⟩ := R
          simp only at hpt heq
          replace hpt := Lib.hid hpt
          replace heq := Lib.hid heq
          replace hR6 := Lib.hid hR6
          go_wp2_with fail
          refine hpt.out.mono ?_; rintro e w7 ⟨rfl, hR7, hm1, hm2⟩
          have hR8 := Lib.hid (hR6.out.trans hR7)
          replace heq := heq.out
          rw [dif_pos ⟨hm1, hm2⟩] at heq
          replace heq := Lib.hid heq
          clear hpt hR7 hR6
          go_wp2_with fail
          exact ⟨⟨mid, b, l1, wb, wp, d4, by omega, hm2, hlb, by omega, rfl, rfl, rfl, rfl, rfl, hR8.out, heq.out⟩, by simp [intOf]; omega⟩
end Go.Proofs.YtiblhlaemmdphaaGreat
/- Sorting rows of words: slices.Sort. -/
namespace Go.Proofs.YtiblhlaemmdphaaGreat
open Go Go.RowKit Go.Shelf Go.BigFrame Go.Maps
theorem len64_any (n : Nat) (hn : n < 4611686018427387904) (w : World) : Calls Tryz.prog 86 #[.int .u64 (n : Int)] w fun e w' => e = .returned (.int .i64 (Sort.bitsLen n : Nat)) ∧ w = w' := by
 have h := calls_of_every_depth fun D => AnySG.bits_LenIn { Tryz.npow with } D (n : Int) w (by omega) (by omega)
 rw [Int.toNat_natCast, bitLen_eq _ (by omega)] at h
 exact h.mono fun _ _ ⟨h1, h2⟩ => ⟨h1, h2.symm⟩
set_option maxRecDepth 20000 in
set_option maxHeartbeats 2000000 in
theorem sort64_any (g cap N : Nat) (d : Array Int) (hN : d.size = N) (w : World) (hH : HU w g d) (hN62 : N < 1152921504606846976) :
  Calls Tryz.prog 61 #[.slice (some ⟨g, 0, none⟩) N cap] w fun e w' => e = .returned (.tuple #[]) ∧ Row64 w w' g N (Sort.sort Sort.ltInt d) := by
 have hk : Sort.bitsLen N ≤ 62 := (Sort.bitsLen_le_iff N 62).2 (by omega)
 have hl := len64_any N (by omega) w
 have hp := pdq64_any (N + 1) g cap 0 N (Sort.bitsLen N) N d w (by omega) hN hH (Nat.zero_le _) (Nat.le_refl _) hN62 (by omega)
 have hs : Sort.sort Sort.ltInt d = Sort.pdq Sort.ltInt d 0 N (Sort.bitsLen N) true true := by rw [← hN]; rfl
 rw [hs]
 have hw1 : IntKind.u64.wrap (N : Int) = (N : Int) := IntWalk.u64_in _ (by omega)
 rw [Int.natCast_zero] at hp
 replace hp := Lib.hid hp
 replace hl := Lib.hid hl
 clear hH hs
 generalize Sort.bitsLen N = K at *
 go_enter Tryz.func61, Tryz.ntmps61
 go_wp2_with fail
 refine hl.out.mono ?_; rintro e w1 ⟨rfl, rfl⟩
 clear hl
 go_wp2_with fail
 refine hp.out.mono ?_; rintro e w2 ⟨rfl, hR⟩
 clear hp
 go_wp2_with fail
 go_end0
 exact ⟨rfl, hR⟩
set_option maxRecDepth 20000 in
set_option maxHeartbeats 2000000 in
theorem ins64_nil (w : World) : Calls Tryz.prog 105 #[.slice none 0 0, .int .i64 0, .int .i64 0] w fun e w' => e = .returned (.tuple #[]) ∧ w = w' := by
 go_enter Tryz.func105, Tryz.ntmps105
 go_wp2_with fail
 go_loopw [6] (fun s wr => s = .int .i64 1 ∧ wr = w) (fun _ _ => 0)
 case atStart => exact ⟨by simp, rfl⟩
 case round =>
  obtain ⟨rfl, rfl⟩ := hrel
  go_wp2_with fail
  go_end0
  exact ⟨rfl, rfl⟩
set_option maxRecDepth 20000 in
set_option maxHeartbeats 2000000 in
theorem pdq64_nil (lim : Int) (w : World) : Calls Tryz.prog 85 #[.slice none 0 0, .int .i64 0, .int .i64 0, .int .i64 lim] w fun e w' => e = .returned (.tuple #[]) ∧ w = w' := by
 have hi := ins64_nil w
 go_enter Tryz.func85, Tryz.ntmps85
 go_wp2_with fail
 go_loopw [1, 2, 3, 8, 9] (fun s1 s2 _ _ _ wr => s1 = .int .i64 0 ∧ s2 = .int .i64 0 ∧ wr = w) (fun _ _ _ _ _ _ => 0)
 case atStart => exact ⟨rfl, rfl, rfl⟩
 case round =>
  obtain ⟨rfl, rfl, rfl⟩ := hrel
  go_wp2_with fail
  refine hi.mono ?_; rintro e w2 ⟨rfl, rfl⟩
  go_wp2_with fail
  refine bodyPost_ret (v := .tuple #[]) (by simp [results, Tryz.results85, go_sem]) rfl ?_
  exact ⟨rfl, rfl⟩
set_option maxRecDepth 20000 in
set_option maxHeartbeats 2000000 in
theorem sort64_nil (w : World) : Calls Tryz.prog 61 #[.slice none 0 0] w fun e w' => e = .returned (.tuple #[]) ∧ w = w' := by
 have hl := len64_any 0 (by omega) w
 have hp := pdq64_nil (Sort.bitsLen 0 : Nat) w
 rw [Int.natCast_zero] at hl
 generalize Sort.bitsLen 0 = K at *
 go_enter Tryz.func61, Tryz.ntmps61
 go_wp2_with fail
 refine hl.mono ?_; rintro e w1 ⟨rfl, rfl⟩
 clear hl
 go_wp2_with fail
 refine hp.mono ?_; rintro e w2 ⟨rfl, rfl⟩
 go_wp2_with fail
 go_end0
 exact ⟨rfl, rfl⟩
end Go.Proofs.YtiblhlaemmdphaaGreat
