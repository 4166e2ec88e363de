/- The walk of the reference's count of colored pages. -/
import Derived.Test.YtdeldhoeelijeaaColorC
namespace Go.Proofs.Ytdeldhoeelijeaa
open Go Go.RowKit Go.BigFrame

theorem sumN_bdlt {f : Nat → Int} {M : Int} : ∀ {n : Nat}, (∀ k, k < n → 0 ≤ f k ∧ f k ≤ M) → 0 ≤ sumN f n ∧ sumN f n ≤ n * M
  | 0, _ => by simp [sumN]
  | n + 1, hM => by
    have h1 := sumN_bdlt (n := n) (fun k hk => hM k (by omega))
    have h2 := hM n (by omega)
    have e : ((n + 1 : Nat) : Int) * M = n * M + M := by rw [Int.natCast_add, Int.add_mul]; simp
    show 0 ≤ sumN f n + f n ∧ sumN f n + f n ≤ _
    rw [e]; omega
theorem resN_bd {N : Nat} (hN : 1 ≤ N) (c k : Nat) (hk : k < N) : 0 ≤ resN N c k ∧ resN N c k ≤ c + N := by
  unfold resN
  have h0 : (0 : Int) ≤ (c : Int) - k + N - 1 := by omega
  refine ⟨Int.ediv_nonneg h0 (by omega), Int.le_trans (Int.ediv_le_self _ h0) (by omega)⟩
/-- What the reference sums up. -/
def termN (m : Int) (N A c k : Nat) : Int := rotB m N A k * resN N c k
theorem termN_bd {m : Int} {N A c : Nat} (hN : 1 ≤ N) (hN2 : N ≤ 64) (hc : c ≤ 4503599627370496) : ∀ k, k < N → 0 ≤ termN m N A c k ∧ termN m N A c k ≤ 4503599627370560 := by
  intro k hk
  have h1 := resN_bd hN c k hk
  have h2 := rotB_bd m N A k
  unfold termN
  rcases (show rotB m N A k = 0 ∨ rotB m N A k = 1 by omega) with h | h
  · rw [h, Int.zero_mul]; omega
  · rw [h, Int.one_mul]; omega
theorem sum_term (m : Int) {N : Nat} (hn : someV N = true) (A c : Nat) : ∀ d : Nat, ∀ k, k + d = N → (c ≤ k ∨ k = N) → sumN (termN m N A c) k = sumN (rotB m N A) c
  | 0, k, h, _ => by
    have : k = N := by omega
    subst this
    exact sum_res m hn A c
  | d + 1, k, h, hc => by
    have hc' : c ≤ k := by omega
    have ih := sum_term m hn A c d (k + 1) (by omega) (.inl (by omega))
    rw [← ih]
    show sumN (termN m N A c) k = sumN (termN m N A c) k + termN m N A c k
    have : termN m N A c k = 0 := by unfold termN; rw [resN_zero hn c k (by omega) hc', Int.mul_zero]
    rw [this]; omega

set_option maxRecDepth 20000 in
set_option maxHeartbeats 4000000 in
theorem refCount_any (s : Two) (n m : Int) (w : World) (hm : W64 m) : Calls Try.prog 14 #[.agg #[.int .u64 s.a, .int .u64 s.b], .int .i64 n, .int .u64 m] w fun e w' => e = .returned (.int .u64 (countV s n m)) ∧ Below w.heap.size w w' := by
  have hma := fun W => refColored_any n m W hm
  have hok := (newV_ok s).1
  have hm0 := hm.1
  have hm1 := hm.2
  cases hM : maskedV n m
  · have hC : countV s n m = 0 := by unfold countV; rw [if_neg (by rw [hM]; simp)]
    rw [hC]
    rw [hM] at hma
    clear hok hC
    go_enter Try.func14, Try.ntmps14
    go_wp2_with fail
    refine (hma _).mono ?_; rintro e w2 ⟨rfl, rfl⟩
    go_wp2_with fail
    go_ret
    exact ⟨rfl, bone _ _⟩
  · have hC : countV s n m = sumN (rotB m n.toNat ((newV s).from' / 4096).toNat) (newV s).count.toNat := by unfold countV; rw [if_pos hM]
    rw [hM] at hma
    have hsn := (maskedV_iff.1 hM).1
    have hv := someV_iff.1 hsn
    have n0 : 1 ≤ n := by omega
    have n1 : n ≤ 64 := by omega
    obtain ⟨N, hNn⟩ := Int.eq_ofNat_of_zero_le (show 0 ≤ n by omega)
    rw [show n.toNat = N by omega] at hC
    have hc1 := hok.c1
    have hc0 := hok.c0
    have htop := hok.top
    have hf0 := hok.f0
    have hal := hok.al
    have hfr := fun (B : Nat) (W : World) h => refFrames_any B (.slice none 0 0) s [] W h
    generalize (newV s).from' = f at *
    generalize (newV s).count = c' at *
    obtain ⟨c, hc⟩ := Int.eq_ofNat_of_zero_le hc0
    obtain ⟨A, hA⟩ := Int.eq_ofNat_of_zero_le (show 0 ≤ f / 4096 by omega)
    rw [show c'.toNat = c by omega, hA, show ((A : Int)).toNat = A from rfl] at hC
    have hsum := sum_term m (N := N) (by rw [← hNn]; exact hsn) A c
    have htb := fun (k : Nat) (hk : k ≤ N) => sumN_bdlt (f := termN m N A c) (n := k) (fun j hj => termN_bd (m := m) (N := N) (A := A) (by omega) (by omega) (show c ≤ 4503599627370496 by omega) j (by omega))
    have hrb := fun (k : Nat) (hk : k < N) => resN_bd (N := N) (by omega) c k hk
    have hst := fun (k : Nat) => @rot_step m n f N A k hm hNn hA k rfl
    have hemod := fun (k : Int) => And.intro (Int.emod_nonneg (f / 4096 + k) (show n ≠ 0 by omega)) (Int.emod_lt_of_pos (f / 4096 + k) (show 0 < n by omega))
    have hofv : ∀ k : Nat, ofV (f + 4096 * k) n = (f / 4096 + k) % n := fun k => by
      unfold ofV; rw [if_pos hsn, show (f + 4096 * (k : Int)) / 4096 = f / 4096 + k by omega]
    have hcol := fun (k : Nat) (hk : k < c) (W : World) => refColor_any (f + 4096 * k) n W (by unfold W64; omega)
    have hNN : 1 ≤ N ∧ N ≤ 64 := by omega
    have hcc : c' ≤ 4503599627370495 := by omega
    have hkN : ∀ k : Nat, k < N ↔ (k : Int) < n := fun k => by omega
    have hkc : ∀ k : Nat, k < c ↔ (k : Int) < c' := fun k => by omega
    have hres : ∀ k : Nat, resN N c k = (c' - k + n - 1) / n := fun k => by unfold resN; rw [hc, hNn]
    clear hok hv hsn hM hal
    replace hC := Lib.hid hC
    replace hNn := Lib.hid hNn
    replace hst := Lib.hid hst
    replace hA := Lib.hid hA
    replace hc := Lib.hid hc
    replace hofv := Lib.hid hofv
    replace hres := Lib.hid hres
    replace hsum := Lib.hid hsum
    replace htb := Lib.hid htb
    replace hrb := Lib.hid hrb
    replace hemod := Lib.hid hemod
    replace hkN := Lib.hid hkN
    replace hkc := Lib.hid hkc
    go_enter Try.func14, Try.ntmps14
    go_wp2_with fail
    refine (hma _).mono ?_; rintro e w1 ⟨rfl, rfl⟩
    clear hma
    go_wp2_with fail
    have hr0 : RPoolAt ((w.alloc (.cells #[.int .u64 s.a, .int .u64 s.b] 24)).alloc (.cells #[.int .u64 s.a, .int .u64 s.b, .slice none 0 0] 63)) (w.heap.size + 1) (.slice none 0 0) s [] := by
      have h := World.alloc_heap_new (w.alloc (.cells #[.int .u64 s.a, .int .u64 s.b] 24)) (.cells #[.int .u64 s.a, .int .u64 s.b, .slice none 0 0] 63)
      rw [World.size_alloc] at h
      exact ⟨h, rfl, .inl ⟨rfl, rfl⟩⟩
    refine (hfr (w.heap.size + 1) _ hr0).mono ?_; rintro e w2 ⟨rfl, hb2⟩
    have hB2 : Below w.heap.size w w2 := ((bone w _).trans ((bone _ _).mono (by simp))).trans (hb2.mono (by simp; omega))
    clear hfr hr0 hb2
    go_wp2_with fail
    go_loop [10, 11] (fun t i => ∃ k : Nat, k ≤ N ∧ i = .int .u64 k ∧ t = .int .u64 (sumN (termN m N A c) k)) (fun _ i => N - (intOf i).toNat)
    case atStart => exact ⟨0, Nat.zero_le _, rfl, rfl⟩
    case round =>
      obtain ⟨k, hk, rfl, rfl⟩ := hrel
      have htk := htb.out k hk
      by_cases hlt : k < N ∧ k < c
      · obtain ⟨hlt, hltc⟩ := hlt
        have q1 := (hkN.out k).1 hlt
        have q2 := (hkc.out k).1 hltc
        have hs := hst.out k
        have hem := hemod.out k
        have hrk := rotB_bd m N A k
        have hrs := hrb.out k hlt
        have hsn : sumN (termN m N A c) (k + 1) = sumN (termN m N A c) k + rotB m N A k * resN N c k := rfl
        have hcl := hcol k hltc
        rw [hofv.out k] at hcl
        rw [hres.out k] at hrs hsn
        rw [← hs] at hrk hsn
        replace hs := Lib.hid hs
        replace hsn := Lib.hid hsn
        generalize sumN (termN m N A c) k = S at *
        have hkk : (k : Int) ≤ 63 := by omega
        go_wp2_with fail
        refine (hcl _).mono ?_; rintro e w3 ⟨rfl, rfl⟩
        have hbit : bits BinOp.and IntKind.u64 (m / 2 ^ ((f / 4096 + (k : Int)) % n).toNat) 1 = 0 ∨ bits BinOp.and IntKind.u64 (m / 2 ^ ((f / 4096 + (k : Int)) % n).toNat) 1 = 1 := by omega
        rcases hbit with hbit | hbit
        · have hsn' := hsn.out
          rw [hbit, Int.zero_mul, Int.add_zero] at hsn'
          replace hsn' := Lib.hid hsn'
          clear hrk hsn
          go_wp2_with fail
          go_round
          case rel => exact ⟨k + 1, by omega, by go_num, by rw [hsn'.out]⟩
          case measure => simp [intOf]; omega
        · have hsn' := hsn.out
          rw [hbit, Int.one_mul] at hsn'
          replace hsn' := Lib.hid hsn'
          clear hrk hsn
          have hr1 := hrs.1
          have hr2 : (c' - (k : Int) + n - 1) / n ≤ 4503599627370560 := by have := hrs.2; have := hc.out; have := hNN.2; omega
          clear hrs
          go_wp2_with fail
          go_round
          case rel => exact ⟨k + 1, by omega, by go_num, by rw [hsn'.out]⟩
          case measure => simp [intOf]; omega
      · have he : sumN (termN m N A c) k = sumN (rotB m N A) c := hsum.out (N - k) k (by omega) (by omega)
        rw [he] at htk ⊢
        clear htk he hst
        by_cases hlt1 : k < N
        · have q1 := (hkN.out k).1 hlt1
          have q2 : ¬ (k : Int) < c' := fun h => hlt ⟨hlt1, (hkc.out k).2 h⟩
          go_wp2_with fail
          go_ret
          exact ⟨ret_u64 hC.out.symm, hB2⟩
        · have q1 : ¬ (k : Int) < n := fun h => hlt1 ((hkN.out k).2 h)
          go_wp2_with fail
          go_ret
          exact ⟨ret_u64 hC.out.symm, hB2⟩
end Go.Proofs.Ytdeldhoeelijeaa
