/- The walk of the statement ColorApart. -/
import Derived.Test.YtdeldhoeelijeaaColorI
import Derived.Test.YtdeldhoeelijeaaColorQ
namespace Go.Proofs.Ytdeldhoeelijeaa
open Go Go.RowKit Go.BigFrame

theorem bit_nat (x i : Nat) : bitN (x : Int) i = ((x / 2 ^ i % 2 : Nat) : Int) := by
  unfold bitN
  exact_mod_cast rfl
theorem bits_apart {a b : Int} (ha : W64 a) (hb : W64 b) (h : bits BinOp.and IntKind.u64 a b = 0) (i : Nat) (h1 : bitN a i = 1) (h2 : bitN b i = 1) : False := by
  obtain ⟨x, rfl⟩ := Int.eq_ofNat_of_zero_le ha.1
  obtain ⟨y, rfl⟩ := Int.eq_ofNat_of_zero_le hb.1
  rw [bits_and_u64_nat _ _ (by have := ha.2; omega) (by have := hb.2; omega)] at h
  rw [bit_nat] at h1 h2
  have h3 : x &&& y = 0 := by omega
  have h4 : (x &&& y).testBit i = true := by
    rw [Nat.testBit_and, Nat.testBit_eq_decide_div_mod_eq, Nat.testBit_eq_decide_div_mod_eq, decide_eq_true (by omega), decide_eq_true (by omega)]; rfl
  rw [h3] at h4
  simp at h4
theorem takes_within {s : Two} {m : Int} {N A c q : Nat} {L : List Two} (h : Takes s m N A c q L) (hg : 0 < s.b) (ht : s.a + s.b ≤ 18446744073709551616) : ∀ x ∈ L, withinB x.a x.b s.a s.b = true := fun x hx => by
  have := h.each x hx
  exact withinB_iff.2 ⟨goodB_iff.2 ⟨by omega, by omega⟩, goodB_iff.2 ⟨by omega, by omega⟩, by omega, by omega⟩
theorem takes_apart {s : Two} {a b : Int} {N A c q N' A' c' q' : Nat} {L M : List Two} (ha : W64 a) (hb : W64 b) (hN : N' = N) (hA : A' = A) (h : Takes s a N A c q L) (h' : Takes s b N' A' c' q' M) (hab : bits BinOp.and IntKind.u64 a b = 0) : ∀ x ∈ L, ∀ y ∈ M, overlapB x.a x.b y.a y.b = false := fun x hx y hy => by
  subst hN hA
  rw [Bool.eq_false_iff]
  intro ho
  obtain ⟨_, _, h1, h2⟩ := overlapB_iff.1 ho
  have ex := h.each x hx
  have ey := h'.each y hy
  obtain ⟨p, p1, p2, p3, p4⟩ : ∃ p : Int, x.a ≤ p ∧ p < x.a + x.b ∧ y.a ≤ p ∧ p < y.a + y.b := by
    rcases Int.lt_or_le x.a y.a with h | h
    · exact ⟨y.a, by omega, by omega, by omega, by omega⟩
    · exact ⟨x.a, by omega, by omega, by omega, by omega⟩
  obtain ⟨k, k1, k2, k3⟩ := h.col x hx p p1 p2
  obtain ⟨l, l1, l2, l3⟩ := h'.col y hy p p3 p4
  obtain rfl : k = l := by omega
  exact bits_apart ha hb hab _ k1 l1

set_option maxRecDepth 20000 in
set_option maxHeartbeats 2000000 in
theorem colorApart_walk (s : Two) (n a b i j : Int) (w : World) (ha : W64 a) (hb : W64 b) : Calls Try.prog 4 #[.agg #[.int .u64 s.a, .int .u64 s.b], .int .i64 n, .int .u64 a, .int .u64 b, .int .i64 i, .int .i64 j] w fun e w' => e = .returned (.bool true) ∧ Below w.heap.size w w' := by
  have ht := fun W => take_any s n a i W ha
  have hu := fun W => take_any s n b j W hb
  have k1 := alloc_two w (.int .u64 s.a) (.int .u64 s.b) 24
  by_cases hq : 300 < i ∨ 300 < j ∨ ¬ bits BinOp.and IntKind.u64 a b = 0
  · rcases (show 300 < i ∨ (¬ 300 < i ∧ 300 < j) ∨ (¬ 300 < i ∧ ¬ 300 < j ∧ ¬ bits BinOp.and IntKind.u64 a b = 0) by omega) with h1 | ⟨h1, h2⟩ | ⟨h1, h2, h3⟩
    · go_enter Try.func4, Try.ntmps4
      go_wp2_with fail
      refine (awake_any _).mono ?_; rintro e w1 ⟨rfl, hb1⟩
      go_wp2_with fail
      go_ret
      exact ⟨rfl, bnew hb1⟩
    · go_enter Try.func4, Try.ntmps4
      go_wp2_with fail
      refine (awake_any _).mono ?_; rintro e w1 ⟨rfl, hb1⟩
      go_wp2_with fail
      go_ret
      exact ⟨rfl, bnew hb1⟩
    · have h4 : (bits BinOp.and IntKind.u64 a b != 0) = true := by simpa using h3
      go_enter Try.func4, Try.ntmps4
      go_wp2_with fail
      refine (awake_any _).mono ?_; rintro e w1 ⟨rfl, hb1⟩
      go_wp2_with fail
      go_ret
      exact ⟨rfl, bnew hb1⟩
  · have h1 : ¬ 300 < i := fun h => hq (.inl h)
    have h2 : ¬ 300 < j := fun h => hq (.inr (.inl h))
    have h3 : bits BinOp.and IntKind.u64 a b = 0 := by
      by_cases h : bits BinOp.and IntKind.u64 a b = 0
      · exact h
      · exact absurd (.inr (.inr h)) hq
    have h4 : (bits BinOp.and IntKind.u64 a b != 0) = false := by simpa using h3
    clear hq
    have hL1 := takeL_len s n a i (by omega)
    have hL2 := takeL_len s n b j (by omega)
    have hboth : takeErr s n a i = 0 → takeErr s n b j = 0 → (∀ x ∈ takeL s n a i, withinB x.a x.b s.a s.b = true) ∧ ∀ x ∈ takeL s n a i, ∀ y ∈ takeL s n b j, overlapB x.a x.b y.a y.b = false := fun e1 e2 => by
      obtain ⟨N, A, c, q, hN, hA, hc, _, _, _, _, g1, g2, hT⟩ := takes_any e1
      obtain ⟨N', A', c', q', hN', hA', hc', _, _, _, _, _, _, hT'⟩ := takes_any e2
      exact ⟨takes_within hT g1 g2, takes_apart ha hb (by omega) (by omega) hT hT' h3⟩
    replace hboth := Lib.hid hboth
    clear h3
    generalize takeL s n a i = L1 at *
    generalize takeL s n b j = L2 at *
    generalize takeErr s n a i = e1 at *
    generalize takeErr s n b j = e2 at *
    go_enter Try.func4, Try.ntmps4
    go_wp2_with fail
    refine (awake_any _).mono ?_; rintro e w1 ⟨rfl, hb1⟩
    have c0 := cell_lt hb1 k1.1 (by simp)
    have c1 := cell_lt hb1 k1.2 (by simp)
    have hz1 : w.heap.size + 1 ≤ w1.heap.size := by have := hb1.size; simpa using this
    have hW1 := bnew hb1
    clear k1 hb1
    go_wp2_with fail
    refine (ht _).mono ?_; rintro e w2 ⟨r2, rfl, hr2, hb2⟩
    have d0 := cell_lt hb2 c0 (by omega)
    have d1 := cell_lt hb2 c1 (by omega)
    have hz2 := hb2.size
    have hW2 := bthen hW1 hb2
    clear c0 c1 hb2 hW1 ht
    go_wp2_with fail
    refine (hu _).mono ?_; rintro e w3 ⟨r3, rfl, hr3, hb3⟩
    have e0 := cell_lt hb3 d0 (by omega)
    have e1' := cell_lt hb3 d1 (by omega)
    have hz3 := hb3.size
    have hrow2 := (OwnTwo.row hr2).below hb3
    have hrow3 := OwnTwo.row hr3
    have hW3 := bthen hW2 hb3
    clear d0 d1 hb3 hW2 hr2 hr3 hu
    by_cases hz : e1 = 0 ∧ e2 = 0
    · obtain ⟨rfl, rfl⟩ := hz
      obtain ⟨hwit, hap⟩ := hboth.out rfl rfl
      obtain ⟨p2, cp2, rfl, _, hcells2⟩ := hrow2
      obtain ⟨p3, cp3, rfl, _, hcells3⟩ := hrow3
      clear hboth
      go_wp2_with fail
      go_loopw [59] (fun i wr => ∃ k : Nat, k ≤ L1.length ∧ i = .int .i64 k ∧ Below w3.heap.size w3 wr) (fun i _ => L1.length - (intOf i).toNat)
      case atStart => exact ⟨0, Nat.zero_le _, rfl, Below.refl _ _⟩
      case round =>
        obtain ⟨k, hk, rfl, hB⟩ := hrel
        have hzr := hB.size
        by_cases hlt : k < L1.length
        · obtain ⟨b2, off2, rfl, hbl2, hcell2⟩ := hcells2 (by rintro rfl; simp at hlt)
          have m0 := cell_lt hB (hcell2 k hlt).1 hbl2
          have m1 := cell_lt hB (hcell2 k hlt).2 hbl2
          have hx := hwit L1[k] (List.getElem_mem hlt)
          have hy := hap L1[k] (List.getElem_mem hlt)
          clear hcell2 hwit hap
          generalize L1[k] = x at *
          have hwx := fun W => refWithin_any x.a x.b s.a s.b W x.ha x.hb s.ha s.hb
          rw [hx] at hwx
          have s0 := cell_lt (bone wr (.cells #[.int .u64 x.a, .int .u64 x.b] 24)) (cell_lt hB e0 (by omega)) (by omega)
          have s1 := cell_lt (bone wr (.cells #[.int .u64 x.a, .int .u64 x.b] 24)) (cell_lt hB e1' (by omega)) (by omega)
          have q1 := alloc_two wr (.int .u64 x.a) (.int .u64 x.b) 24
          have q10 := q1.1
          have q11 := q1.2
          clear q1
          go_wp2_with fail
          refine (hwx _).mono ?_; rintro e w5 ⟨rfl, hb5⟩
          have n0 := cell_lt hb5 q10 (by simp)
          have n1 := cell_lt hb5 q11 (by simp)
          have hz5 : wr.heap.size + 1 ≤ w5.heap.size := by have := hb5.size; simpa using this
          have hB5 : Below w3.heap.size w3 w5 := hB.trans ((bnew hb5).mono hzr)
          clear hb5 s0 s1 q10 q11 m0 m1 hwx hx
          go_wp2_with fail
          go_loopw [69] (fun i wr => ∃ k : Nat, k ≤ L2.length ∧ i = .int .i64 k ∧ Below w5.heap.size w5 wr) (fun i _ => L2.length - (intOf i).toNat)
          case atStart => exact ⟨0, Nat.zero_le _, rfl, Below.refl _ _⟩
          case round =>
            obtain ⟨k2, hk2, rfl, hB2⟩ := hrel
            have hzr2 := hB2.size
            by_cases hlt2 : k2 < L2.length
            · obtain ⟨b3, off3, rfl, hbl3, hcell3⟩ := hcells3 (by rintro rfl; simp at hlt2)
              have m0 := cell_lt hB2 (cell_lt hB5 (hcell3 k2 hlt2).1 hbl3) (by omega)
              have m1 := cell_lt hB2 (cell_lt hB5 (hcell3 k2 hlt2).2 hbl3) (by omega)
              have hyy := hy L2[k2] (List.getElem_mem hlt2)
              clear hcell3 hy
              generalize L2[k2] = y at *
              have hoy := fun W => refOverlap_any x.a x.b y.a y.b W x.ha x.hb y.ha y.hb
              rw [hyy] at hoy
              have n0' := cell_lt (bone wr (.cells #[.int .u64 y.a, .int .u64 y.b] 24)) (cell_lt hB2 n0 (by omega)) (by omega)
              have n1' := cell_lt (bone wr (.cells #[.int .u64 y.a, .int .u64 y.b] 24)) (cell_lt hB2 n1 (by omega)) (by omega)
              have q1 := alloc_two wr (.int .u64 y.a) (.int .u64 y.b) 24
              have q10 := q1.1
              have q11 := q1.2
              clear q1
              go_wp2_with fail
              refine (hoy _).mono ?_; rintro e w6 ⟨rfl, hb6⟩
              have hB6 := hB2.trans ((bnew hb6).mono hzr2)
              clear hb6 n0' n1' q10 q11 m0 m1 hoy hyy
              go_wp2_with fail
              go_roundw
              case rel => exact ⟨k2 + 1, by omega, by go_num, hB6⟩
              case measure => simp [intOf]; omega
            · obtain rfl : k2 = L2.length := by omega
              have hB7 := hB5.trans (hB2.mono (by omega))
              go_wp2_with fail
              go_roundw
              case rel => exact ⟨k + 1, by omega, by go_num, hB7⟩
              case measure => simp [intOf]; omega
        · obtain rfl : k = L1.length := by omega
          go_wp2_with fail
          go_ret
          exact ⟨rfl, hW3.trans (hB.mono (by omega))⟩
    · rcases (show ¬ e1 = 0 ∨ (e1 = 0 ∧ ¬ e2 = 0) by omega) with k1 | ⟨k1, k2⟩
      · have k3 : (e1 != 0) = true := by simpa using k1
        go_wp2_with fail
        go_ret
        exact ⟨rfl, hW3⟩
      · have k3 : (e2 != 0) = true := by simpa using k2
        subst k1
        go_wp2_with fail
        go_ret
        exact ⟨rfl, hW3⟩
end Go.Proofs.Ytdeldhoeelijeaa
