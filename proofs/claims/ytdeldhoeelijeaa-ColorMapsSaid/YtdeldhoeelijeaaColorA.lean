/- The walks of the words of colors: how many there may be, masks, the color of a page, the bits of a word. -/
import Derived.Test.YtdeldhoeelijeaaSpanB
import Derived.Test.YtdeldhoeelijeaaColorP
namespace Go.Proofs.Ytdeldhoeelijeaa
open Go Go.RowKit

set_option maxRecDepth 100000 in
theorem and_pred : ∀ k : Fin 65, 1 ≤ k.val → (bits BinOp.and IntKind.i64 (k.val : Int) ((k.val : Int) - 1) == 0) = someV k.val := by decide +kernel
theorem ones_and (a b : Nat) (ha : a < 18446744073709551616) (hb : b < 18446744073709551616) : bits BinOp.and IntKind.u64 (a : Int) (b : Int) = ((a &&& b : Nat) : Int) := bits_and_u64_nat _ _ ha hb

theorem and_i64_nat (a b : Nat) (ha : a < 9223372036854775808) (hb : b < 9223372036854775808) :
    bits .and .i64 (a : Int) (b : Int) = ((a &&& b : Nat) : Int) := by
  have hx : a &&& b < 2 ^ 63 := Nat.and_lt_two_pow _ (by omega)
  have h1 : (BitVec.ofInt 64 (a : Int)).toNat = a := by
    rw [BitVec.ofInt_natCast, BitVec.toNat_ofNat]; exact Nat.mod_eq_of_lt (by omega)
  have h2 : (BitVec.ofInt 64 (b : Int)).toNat = b := by
    rw [BitVec.ofInt_natCast, BitVec.toNat_ofNat]; exact Nat.mod_eq_of_lt (by omega)
  show IntKind.i64.wrap ((BitVec.ofInt 64 (a : Int) &&& BitVec.ofInt 64 (b : Int)).toNat : Int) = _
  rw [BitVec.toNat_and, h1, h2, IntKind.wrap_i64]
  omega

theorem and_127 (y : Nat) (h : y < 9223372036854775808) : bits BinOp.and IntKind.i64 (y : Int) 127 = ((y % 128 : Nat) : Int) := by
  have e := and_i64_nat y 127 h (by omega)
  have e2 : y &&& 127 = y % 128 := Nat.and_two_pow_sub_one_eq_mod y 7
  rw [e2] at e
  exact e

set_option maxHeartbeats 1000000 in
theorem some_any (n : Int) (w : World) : Calls Try.prog 28 #[.int .i64 n] w fun e w' => e = .returned (.bool (someV n)) ∧ w = w' := by
  by_cases h1 : n < 1
  · have e : someV n = false := decide_eq_false (by omega)
    rw [e]
    go_enter Try.func28, Try.ntmps28
    go_wp2_with fail
    go_ret
    exact ⟨rfl, rfl⟩
  · by_cases h2 : 64 < n
    · have e : someV n = false := decide_eq_false (by omega)
      rw [e]
      go_enter Try.func28, Try.ntmps28
      go_wp2_with fail
      go_ret
      exact ⟨rfl, rfl⟩
    · have h3 := and_pred ⟨n.toNat, by omega⟩ (by show 1 ≤ n.toNat; omega)
      rw [show ((⟨n.toNat, by omega⟩ : Fin 65).val : Int) = n by show (n.toNat : Int) = n; omega] at h3
      rw [← h3]
      clear h3
      go_enter Try.func28, Try.ntmps28
      go_wp2_with fail
      go_ret
      exact ⟨rfl, rfl⟩

set_option maxHeartbeats 1000000 in
theorem masked_any (n m : Int) (w : World) (hm : W64 m) : Calls Try.prog 21 #[.int .i64 n, .int .u64 m] w fun e w' => e = .returned (.bool (maskedV n m)) ∧ w = w' := by
  have hs := fun W => some_any n W
  obtain ⟨m0, m1⟩ := hm
  cases h : someV n
  · have e : maskedV n m = false := by unfold maskedV; rw [h]; rfl
    rw [e]
    rw [h] at hs
    go_enter Try.func21, Try.ntmps21
    go_wp2_with fail
    refine (hs _).mono ?_; rintro e w1 ⟨rfl, rfl⟩
    go_wp2_with fail
    go_ret
    exact ⟨rfl, rfl⟩
  · have hv := someV_iff.1 h
    have e : maskedV n m = (decide (m ≠ 0) && decide (n = 64 ∨ m / 2 ^ n.toNat = 0)) := by unfold maskedV; rw [h]; rfl
    rw [e]
    rw [h] at hs
    have n0 : 0 ≤ n := by omega
    have n1 : n ≤ 64 := by omega
    replace hv := Lib.hid hv
    by_cases hz : m = 0
    · subst hz
      go_enter Try.func21, Try.ntmps21
      go_wp2_with fail
      refine (hs _).mono ?_; rintro e w1 ⟨rfl, rfl⟩
      go_wp2_with fail
      go_ret
      exact ⟨rfl, rfl⟩
    · have k1 : (m != 0) = true := by simpa using hz
      by_cases h64 : n = 64
      · subst h64
        go_enter Try.func21, Try.ntmps21
        go_wp2_with fail
        refine (hs _).mono ?_; rintro e w1 ⟨rfl, rfl⟩
        go_wp2_with fail
        go_ret
        exact ⟨ret_bool (by simp [hz]), rfl⟩
      · have k2 : (n == 64) = false := by simpa using h64
        go_enter Try.func21, Try.ntmps21
        go_wp2_with fail
        refine (hs _).mono ?_; rintro e w1 ⟨rfl, rfl⟩
        go_wp2_with fail
        go_ret
        exact ⟨ret_bool (by simp [hz, h64]; rfl), rfl⟩

set_option maxHeartbeats 1000000 in
theorem of_any (pa n : Int) (w : World) (hp : W64 pa) : Calls Try.prog 10 #[.int .u64 pa, .int .i64 n] w fun e w' => e = .returned (.int .i64 (ofV pa n)) ∧ w = w' := by
  have hs := fun W => some_any n W
  obtain ⟨m0, m1⟩ := hp
  cases h : someV n
  · have e : ofV pa n = -1 := by unfold ofV; rw [if_neg (by rw [h]; simp)]
    rw [e]
    rw [h] at hs
    go_enter Try.func10, Try.ntmps10
    go_wp2_with fail
    refine (hs _).mono ?_; rintro e w1 ⟨rfl, rfl⟩
    go_wp2_with fail
    go_ret
    exact ⟨rfl, rfl⟩
  · have hv := someV_iff.1 h
    have e : ofV pa n = pa / 4096 % n := by unfold ofV; rw [if_pos h]
    rw [e]
    rw [h] at hs
    have n0 : 1 ≤ n := by omega
    have n1 : n ≤ 64 := by omega
    have q0 := Int.emod_nonneg (pa / 4096) (show n ≠ 0 by omega)
    have q1 := Int.emod_lt_of_pos (pa / 4096) (show 0 < n by omega)
    replace hv := Lib.hid hv
    go_enter Try.func10, Try.ntmps10
    go_wp2_with fail
    refine (hs _).mono ?_; rintro e w1 ⟨rfl, rfl⟩
    go_wp2_with fail
    go_ret
    exact ⟨rfl, rfl⟩

set_option maxHeartbeats 4000000 in
theorem ones_any (x : Nat) (w : World) (hx : x < 18446744073709551616) : Calls Try.prog 32 #[.int .u64 x] w fun e w' => e = .returned (.int .i64 (sumN (bitN x) 64)) ∧ w = w' := by
  go_enter Try.func32, Try.ntmps32
  go_wp2_with fail
  obtain ⟨y1, h1⟩ : ∃ y1, y1 = (x / 2 &&& 6148914691236517205) + (x &&& 6148914691236517205) := ⟨_, rfl⟩
  obtain ⟨y2, h2⟩ : ∃ y2, y2 = (y1 / 4 &&& 3689348814741910323) + (y1 &&& 3689348814741910323) := ⟨_, rfl⟩
  obtain ⟨y3, h3⟩ : ∃ y3, y3 = (y2 / 16 + y2) &&& 1085102592571150095 := ⟨_, rfl⟩
  have hs : y3 = byB popB 8 x := by rw [h3, h2, h1]; exact swar x hx
  obtain ⟨y4, h4⟩ : ∃ y4, y4 = y3 + y3 / 256 := ⟨_, rfl⟩
  obtain ⟨y5, h5⟩ : ∃ y5, y5 = y4 + y4 / 65536 := ⟨_, rfl⟩
  obtain ⟨y6, h6⟩ : ∃ y6, y6 = y5 + y5 / 4294967296 := ⟨_, rfl⟩
  obtain ⟨l3, l4, l5, l6, hsum⟩ := swar_sum x y3 y4 y5 y6 hs h4 h5 h6
  have a1 : x / 2 &&& 6148914691236517205 ≤ 6148914691236517205 := Nat.and_le_right
  have a2 : x &&& 6148914691236517205 ≤ 6148914691236517205 := Nat.and_le_right
  have a3 : y1 / 4 &&& 3689348814741910323 ≤ 3689348814741910323 := Nat.and_le_right
  have a4 : y1 &&& 3689348814741910323 ≤ 3689348814741910323 := Nat.and_le_right
  have w1 : IntKind.u64.wrap (bits BinOp.and IntKind.u64 ((x : Int) / 2) 6148914691236517205 + bits BinOp.and IntKind.u64 (x : Int) 6148914691236517205) = (y1 : Int) := by
    rw [show (6148914691236517205 : Int) = ((6148914691236517205 : Nat) : Int) from rfl, show (x : Int) / 2 = ((x / 2 : Nat) : Int) by omega, ones_and _ _ (by omega) (by omega), ones_and _ _ (by omega) (by omega), IntKind.wrap_u64]
    omega
  have w2 : IntKind.u64.wrap (bits BinOp.and IntKind.u64 ((y1 : Int) / 4) 3689348814741910323 + bits BinOp.and IntKind.u64 (y1 : Int) 3689348814741910323) = (y2 : Int) := by
    rw [show (3689348814741910323 : Int) = ((3689348814741910323 : Nat) : Int) from rfl, show (y1 : Int) / 4 = ((y1 / 4 : Nat) : Int) by omega, ones_and _ _ (by omega) (by omega), ones_and _ _ (by omega) (by omega), IntKind.wrap_u64]
    omega
  have w3 : bits BinOp.and IntKind.u64 (IntKind.u64.wrap ((y2 : Int) / 16 + y2)) 1085102592571150095 = (y3 : Int) := by
    rw [IntKind.wrap_u64, show ((y2 : Int) / 16 + y2) % 18446744073709551616 = ((y2 / 16 + y2 : Nat) : Int) by omega, show (1085102592571150095 : Int) = ((1085102592571150095 : Nat) : Int) from rfl, ones_and _ _ (by omega) (by omega), h3]
  have w4 : IntKind.u64.wrap ((y3 : Int) + (y3 : Int) / 256) = (y4 : Int) := by rw [IntKind.wrap_u64]; omega
  have w5 : IntKind.u64.wrap ((y4 : Int) + (y4 : Int) / 65536) = (y5 : Int) := by rw [IntKind.wrap_u64]; omega
  have w6 : IntKind.u64.wrap ((y5 : Int) + (y5 : Int) / 4294967296) = (y6 : Int) := by rw [IntKind.wrap_u64]; omega
  have w7 : wrap64 (y6 : Int) = (y6 : Int) := by unfold wrap64; omega
  have w8 : bits BinOp.and IntKind.i64 (y6 : Int) 127 = ((y6 % 128 : Nat) : Int) := and_127 y6 (Nat.lt_trans l6 (by decide))
  have hfin := sum_ones_nat x
  rw [← hsum] at hfin
  rw [hfin]
  clear hfin hsum h1 h2 h3 h4 h5 h6 hs
  simp only [w1, w2, w3, w4, w5, w6, w7, w8]
  go_ret
  exact ⟨rfl, rfl⟩
end Go.Proofs.Ytdeldhoeelijeaa
