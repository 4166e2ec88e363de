/- The walks of the counts of colored pages: the program's, by rounds and a rest, and the reference's, by residues. -/
import Derived.Test.YtdeldhoeelijeaaColorB
namespace Go.Proofs.Ytdeldhoeelijeaa
open Go Go.RowKit Go.BigFrame

/-- How many pages of a span have a color of a mask. -/
def countV (s : Two) (n mask : Int) : Int := if maskedV n mask = true then sumN (rotB mask n.toNat ((newV s).from' / 4096).toNat) (newV s).count.toNat else 0

theorem and_one (a : Int) (h0 : 0 ≤ a) (h1 : a < 18446744073709551616) : bits BinOp.and IntKind.u64 a 1 = a % 2 := by
  obtain ⟨x, rfl⟩ := Int.eq_ofNat_of_zero_le h0
  rw [show (1 : Int) = ((1 : Nat) : Int) from rfl, bits_and_u64_nat _ _ (by omega) (by omega), Nat.and_one_is_mod]
  simp
theorem rot_step {m n f : Int} {N A k : Nat} (hm : W64 m) (hn : n = N) (hf : f / 4096 = A) (j : Int) (hj : j = k) : bits BinOp.and IntKind.u64 (m / 2 ^ ((f / 4096 + j) % n).toNat) 1 = rotB m N A k := by
  have p : (0 : Int) < 2 ^ ((f / 4096 + j) % n).toNat := Int.pow_pos (by decide)
  rw [and_one _ (Int.ediv_nonneg hm.1 (Int.le_of_lt p)) (Int.lt_of_le_of_lt (Int.ediv_le_self _ hm.1) hm.2)]
  unfold rotB bitN
  rw [hf, hn, hj, show ((A : Int) + k) % N = ((A + k) % N : Nat) from rfl]
  rfl

set_option maxRecDepth 20000 in
set_option maxHeartbeats 4000000 in
theorem count_any (s : Two) (n m : Int) (w : World) (hm : W64 m) : Calls Try.prog 13 #[.agg #[.int .u64 s.a, .int .u64 s.b], .int .i64 n, .int .u64 m] w fun e w' => e = .returned (.int .u64 (countV s n m)) ∧ Below w.heap.size w w' := by
  have hu := fun W => up_any s.a 4096 W s.ha (by unfold W64; omega)
  have hma := fun W => masked_any n m W hm
  have hg := fun W => good_any s.a s.b W s.ha s.hb
  have hl := fun W => last_any s.a s.b W s.ha s.hb
  have hlw := lastV_w s.ha s.hb
  have hN : newV s = (if goodB s.a s.b = true ∧ (upV s.a 4096).2 = true ∧ (upV s.a 4096).1 ≤ lastV s.a s.b then ⟨(upV s.a 4096).1, (lastV s.a s.b - (upV s.a 4096).1 + 1) / 4096, [], 0⟩ else ⟨0, 0, [], 0⟩) := rfl
  have hok := (newV_ok s).1
  have hyes := @upV_yes s.a 4096 s.ha (by unfold W64; omega)
  have hl1 := @lastV_yes s.a s.b
  have hm0 := hm.1
  have hm1 := hm.2
  have hsa := s.ha.1
  have hsb := s.hb.1
  unfold W64 at hlw
  by_cases hall : maskedV n m = true ∧ goodB s.a s.b = true ∧ (upV s.a 4096).2 = true ∧ (upV s.a 4096).1 ≤ lastV s.a s.b
  · obtain ⟨hM, hG, hU, hF⟩ := hall
    obtain ⟨u1, u2, u3, u4, u5⟩ := hyes hU
    rw [if_pos ⟨hG, hU, hF⟩] at hN
    have hfrom : (newV s).from' = (upV s.a 4096).1 := by rw [hN]
    have hcount : (newV s).count = (lastV s.a s.b - (upV s.a 4096).1 + 1) / 4096 := by rw [hN]
    have hc1 := hok.c1
    have hc0 := hok.c0
    have htop := hok.top
    have hC : countV s n m = sumN (rotB m n.toNat ((upV s.a 4096).1 / 4096).toNat) ((lastV s.a s.b - (upV s.a 4096).1 + 1) / 4096).toNat := by unfold countV; rw [if_pos hM, hfrom, hcount]
    rw [hcount] at hc1 hc0 htop
    rw [hfrom] at htop
    rw [hM] at hma
    rw [hG] at hg
    rw [hU] at hu
    have hsn := (maskedV_iff.1 hM).1
    have hv := someV_iff.1 hsn
    have n0 : 1 ≤ n := by omega
    have n1 : n ≤ 64 := by omega
    obtain ⟨N, hNn⟩ := Int.eq_ofNat_of_zero_le (show 0 ≤ n by omega)
    rw [show n.toNat = N by omega] at hC
    have hon := sum_ones (n := N) (by rw [← hNn]; exact hM)
    clear hN hok hyes hl1 hfrom hcount u2 u3 u4 hsn
    unfold W64 at u5
    generalize (upV s.a 4096).1 = f at *
    generalize lastV s.a s.b = L at *
    have k0 : ¬ L < f := by omega
    have hq4 : L - f + 1 ≤ 18446744073709551615 := by omega
    obtain ⟨c, hc⟩ := Int.eq_ofNat_of_zero_le hc0
    obtain ⟨A, hA⟩ := Int.eq_ofNat_of_zero_le (show 0 ≤ f / 4096 by omega)
    rw [hc, hA, show ((c : Int)).toNat = c from rfl, show ((A : Int)).toNat = A from rfl] at hC
    obtain ⟨M, hMm⟩ := Int.eq_ofNat_of_zero_le hm0
    have hones := fun W => ones_any M W (by omega)
    rw [← hMm, hon] at hones
    have hob := sumN_bd (f := bitN m) (M := 1) (fun k => bitN_bd m k) N
    have hdm := Nat.div_add_mod c N
    have hrl := Nat.mod_lt c (show 0 < N by omega)
    have hsum := sum_rounds m N A (c % N) (c / N)
    rw [hdm] at hsum
    rw [hsum] at hC
    have hqc : c / N ≤ c := Nat.div_le_self _ _
    have hr64 : c % N < 64 := by omega
    have hO0 := hob.1
    have hO1 : sumN (bitN m) N ≤ 64 := by have := hob.2; omega
    have hcc : (c : Int) ≤ 4503599627370495 := by omega
    have hQ : (L - f + 1) / 4096 / n = ((c / N : Nat) : Int) := by rw [hc, hNn]; rfl
    have hR : (L - f + 1) / 4096 % n = ((c % N : Nat) : Int) := by rw [hc, hNn]; rfl
    have hrb := sumN_bd (f := rotB m N A) (M := 1) (fun k => rotB_bd m N A k)
    have hst := fun (k : Nat) => @rot_step m n f N A k hm hNn hA k rfl
    have hemod := fun (k : Int) => And.intro (Int.emod_nonneg (f / 4096 + k) (show n ≠ 0 by omega)) (Int.emod_lt_of_pos (f / 4096 + k) (show 0 < n by omega))
    generalize hO : sumN (bitN m) N = O at *
    clear hO hsum hdm hMm hon hv hc0
    generalize hqq : c / N = q at *
    generalize hrr : c % N = r at *
    clear hqq hrr
    have hprod : 0 ≤ (q : Int) * O ∧ (q : Int) * O ≤ 4503599627370495 * 64 := by
      refine ⟨Int.mul_nonneg (by omega) hob.1, ?_⟩
      exact Int.mul_le_mul (by omega) (by omega) hob.1 (by omega)
    replace hC := Lib.hid hC
    replace hQ := Lib.hid hQ
    replace hR := Lib.hid hR
    replace hst := Lib.hid hst
    replace hA := Lib.hid hA
    replace hrb := Lib.hid hrb
    replace hemod := Lib.hid hemod
    replace hc := Lib.hid hc
    replace hNn := Lib.hid hNn
    go_enter Try.func13, Try.ntmps13
    go_wp2_with fail
    refine (hu _).mono ?_; rintro e w1 ⟨rfl, hb1⟩
    have k1 := alloc_two w (.int .u64 s.a) (.int .u64 s.b) 24
    have c0 := cell_lt hb1 k1.1 (by simp)
    have c1 := cell_lt hb1 k1.2 (by simp)
    have hW1 := bnew hb1
    have hz1 : w.heap.size + 1 ≤ w1.heap.size := by have := hb1.size; simp at this; omega
    clear k1 hb1 hu
    go_wp2_with fail
    refine (hma _).mono ?_; rintro e w2 ⟨rfl, rfl⟩
    clear hma
    go_wp2_with fail
    refine (hg _).mono ?_; rintro e w3 ⟨rfl, hb3⟩
    have d0 := cell_lt hb3 c0 (by omega)
    have d1 := cell_lt hb3 c1 (by omega)
    have hz3 := hb3.size
    clear hg c0 c1
    go_wp2_with fail
    refine (hl _).mono ?_; rintro e w4 ⟨rfl, hb4⟩
    have e0 := cell_lt hb4 d0 (by omega)
    have e1 := cell_lt hb4 d1 (by omega)
    have hz4 := hb4.size
    clear d0 d1
    go_wp2_with fail
    refine (hl _).mono ?_; rintro e w5 ⟨rfl, hb5⟩
    have hz5 := hb5.size
    clear hl e0 e1
    go_wp2_with fail
    refine region_later w5.heap.size w5 (Below.refl _ _) (by kernel_rfl) (by kernel_rfl) ?_
    have hwN : IntKind.u64.wrap n = n := by rw [IntKind.wrap_u64]; omega
    have hnN : ¬ n = 0 := by omega
    have hq1 : IntKind.u64.wrap (((L - f + 1) / 4096).tdiv n) = (q : Int) := by
      rw [Int.tdiv_eq_ediv_of_nonneg (by omega), hQ.out, IntKind.wrap_u64]; omega
    have hr1 : ((L - f + 1) / 4096).tmod n = (r : Int) := by
      rw [Int.tmod_eq_emod_of_nonneg (by omega), hR.out]
    repeat (quiet_step (fail))
    refine wpQuiet_nil ?_
    rintro _ ⟨X, rfl⟩
    have hX := X.h
    generalize X.x = w6 at *
    clear hnN hwN hq1 hr1
    go_wp2_with fail
    refine (hones _).mono ?_; rintro e w7 ⟨rfl, rfl⟩
    go_wp2_with fail
    have hrb' := fun k => hrb.out k
    go_loop [12, 59] (fun t i => ∃ k : Nat, k ≤ r ∧ i = .int .u64 k ∧ t = .int .u64 (q * O + sumN (rotB m N A) k)) (fun _ i => r - (intOf i).toNat)
    case atStart => exact ⟨0, Nat.zero_le _, rfl, by simp [sumN]⟩
    case round =>
      obtain ⟨k, hk, rfl, rfl⟩ := hrel
      have hsb := hrb.out k
      by_cases hlt : k < r
      · have hs := hst.out k
        have hem := hemod.out k
        have hrk := rotB_bd m N A k
        have hsn : sumN (rotB m N A) (k + 1) = sumN (rotB m N A) k + rotB m N A k := rfl
        rw [← hs] at hsn hrk
        replace hsn := Lib.hid hsn
        replace hs := Lib.hid hs
        clear hrb'
        generalize sumN (rotB m N A) k = S at *
        go_wp2_with fail
        go_round
        case rel => exact ⟨k + 1, by omega, by go_num, by rw [hsn.out, Int.add_assoc]⟩
        case measure => simp [intOf]; omega
      · obtain rfl : k = r := by omega
        clear hrb' hsb
        go_wp2_with fail
        go_ret
        exact ⟨ret_u64 hC.out.symm, (hW1.trans ((bthen (bthen hb3 hb4) hb5).mono (by omega))).trans (hX.mono (by omega))⟩
  · have hC : countV s n m = 0 := by
      unfold countV
      by_cases hM : maskedV n m = true
      · rw [if_pos hM, hN, if_neg (fun h => hall ⟨hM, h⟩)]; rfl
      · rw [if_neg hM]
    rw [hC]
    clear hC hN hok hyes hl1
    cases hM : maskedV n m
    · rw [hM] at hma
      generalize (upV s.a 4096).1 = f at *
      generalize (upV s.a 4096).2 = b at *
      clear hall
      go_enter Try.func13, Try.ntmps13
      go_wp2_with fail
      refine (hu _).mono ?_; rintro e w1 ⟨rfl, hb1⟩
      go_wp2_with fail
      refine (hma _).mono ?_; rintro e w2 ⟨rfl, rfl⟩
      go_wp2_with fail
      go_ret
      exact ⟨rfl, bnew hb1⟩
    · rw [hM] at hma hall
      cases hG : goodB s.a s.b
      · rw [hG] at hg
        generalize (upV s.a 4096).1 = f at *
        generalize (upV s.a 4096).2 = b at *
        clear hall
        go_enter Try.func13, Try.ntmps13
        go_wp2_with fail
        refine (hu _).mono ?_; rintro e w1 ⟨rfl, hb1⟩
        have k1 := alloc_two w (.int .u64 s.a) (.int .u64 s.b) 24
        have c0 := cell_lt hb1 k1.1 (by simp)
        have c1 := cell_lt hb1 k1.2 (by simp)
        have hW1 := bnew hb1
        clear k1 hb1 hu
        go_wp2_with fail
        refine (hma _).mono ?_; rintro e w2 ⟨rfl, rfl⟩
        go_wp2_with fail
        refine (hg _).mono ?_; rintro e w3 ⟨rfl, hb3⟩
        go_wp2_with fail
        go_ret
        exact ⟨rfl, bthen hW1 hb3⟩
      · rw [hG] at hg hall
        cases hU : (upV s.a 4096).2
        · rw [hU] at hu
          generalize (upV s.a 4096).1 = f at *
          clear hall
          go_enter Try.func13, Try.ntmps13
          go_wp2_with fail
          refine (hu _).mono ?_; rintro e w1 ⟨rfl, hb1⟩
          have k1 := alloc_two w (.int .u64 s.a) (.int .u64 s.b) 24
          have c0 := cell_lt hb1 k1.1 (by simp)
          have c1 := cell_lt hb1 k1.2 (by simp)
          have hW1 := bnew hb1
          clear k1 hb1 hu
          go_wp2_with fail
          refine (hma _).mono ?_; rintro e w2 ⟨rfl, rfl⟩
          go_wp2_with fail
          refine (hg _).mono ?_; rintro e w3 ⟨rfl, hb3⟩
          go_wp2_with fail
          go_ret
          exact ⟨rfl, bthen hW1 hb3⟩
        · rw [hU] at hu hall
          have hF : lastV s.a s.b < (upV s.a 4096).1 := by
            rcases Int.lt_or_le (lastV s.a s.b) (upV s.a 4096).1 with h | h
            · exact h
            · exact absurd ⟨rfl, rfl, rfl, h⟩ hall
          clear hall
          generalize (upV s.a 4096).1 = f at *
          generalize lastV s.a s.b = L at *
          go_enter Try.func13, Try.ntmps13
          go_wp2_with fail
          refine (hu _).mono ?_; rintro e w1 ⟨rfl, hb1⟩
          have k1 := alloc_two w (.int .u64 s.a) (.int .u64 s.b) 24
          have c0 := cell_lt hb1 k1.1 (by simp)
          have c1 := cell_lt hb1 k1.2 (by simp)
          have hW1 := bnew hb1
          have hz1 : w.heap.size + 1 ≤ w1.heap.size := by have := hb1.size; simp at this; omega
          clear k1 hb1 hu
          go_wp2_with fail
          refine (hma _).mono ?_; rintro e w2 ⟨rfl, rfl⟩
          go_wp2_with fail
          refine (hg _).mono ?_; rintro e w3 ⟨rfl, hb3⟩
          have d0 := cell_lt hb3 c0 (by omega)
          have d1 := cell_lt hb3 c1 (by omega)
          clear c0 c1
          go_wp2_with fail
          refine (hl _).mono ?_; rintro e w4 ⟨rfl, hb4⟩
          go_wp2_with fail
          go_ret
          exact ⟨rfl, bthen (bthen hW1 hb3) hb4⟩
end Go.Proofs.Ytdeldhoeelijeaa
