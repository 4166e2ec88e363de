/- What desc.Of gives at every word; the walk of the reference's Of, which gives the same. Conditions: words are of 64 bits; the library's table for trailing zeros is as its initialiser lays it. -/
import Derived.Test.YtdlpgonpikflfaaDoorDescD
namespace Go.Proofs.YtdlpgonpikflfaaDoor
open Go.RowKit

theorem szV_b (l : Int) : ((szV l == 0) = true ∧ szV l = 0 ∧ ¬ (l = 1 ∨ l = 2 ∨ l = 3)) ∨ ((szV l == 0) = false ∧ szV l ≠ 0 ∧ (l = 1 ∨ l = 2 ∨ l = 3)) := by
  by_cases h : l = 1 ∨ l = 2 ∨ l = 3
  · exact .inr ⟨(szV_ne h).1, (szV_ne h).2, h⟩
  · exact .inl ⟨by rw [szV_no h]; rfl, szV_no h, h⟩

theorem of_any (l a : Int) (w : World) (hT : Tab3 w) (h0 : 0 ≤ a) (h0' : a < 18446744073709551616) :
    Calls Tryd.prog 24 #[.int .i64 l, .int .u64 a] w fun e w' => e = .returned (ofV l a).val ∧ Below w.heap.size w w' := by
  unfold ofV
  rcases szV_b l with ⟨h1, h2, h3⟩ | ⟨h1, h2, h3⟩
  · rw [if_pos (.inl h2)]; exact of_none l a w h0 h0' (.inl h1)
  · cases hb : bitV a 0
    · rw [if_pos (.inr (.inl rfl))]; exact of_none l a w h0 h0' (.inr (.inl ⟨h1, hb⟩))
    · cases hc : bitV a 1
      · by_cases h4 : l = 3
        · rw [if_pos (.inr (.inr ⟨h4, rfl⟩))]; exact of_none l a w h0 h0' (.inr (.inr ⟨h1, hb, h4, hc⟩))
        · rw [if_neg (by simp [h2, h4]), if_neg (by simp)]; exact of_leaf l a w hT h0 h0' h1 hb (by simp [hc]; omega)
      · by_cases h4 : l = 3
        · rw [if_neg (by simp [h2]), if_neg (by simp [h4])]; exact of_leaf l a w hT h0 h0' h1 hb (by simp [hc]; omega)
        · rw [if_neg (by simp [h2]), if_pos ⟨by omega, rfl⟩]; exact of_table l a w h0 h0' h1 hb (by omega) hc

theorem fld_at (a i : Int) (_h0 : 0 ≤ a) (h1 : 0 ≤ i) (h2 : i ≤ 63) : fldV a i i = a / 2 ^ i.toNat % 2 := by
  unfold fldV
  rw [if_neg (by omega), show i - i + 1 = 1 by omega]; rfl
theorem bit_le (a i : Int) (h0 : 0 ≤ a) (h1 : 0 ≤ i) (h2 : i ≤ 63) : (bitV a i = true ∧ fldV a i i = 1) ∨ (bitV a i = false ∧ fldV a i i = 0) := by
  have e := fld_at a i h0 h1 h2
  have : fldV a i i = 0 ∨ fldV a i i = 1 := by rw [e]; omega
  unfold bitV
  rcases this with h | h
  · right; rw [h]; exact ⟨rfl, rfl⟩
  · left; rw [h]; exact ⟨rfl, rfl⟩
theorem and1_u64 (a : Int) (h0 : 0 ≤ a) (h0' : a < 18446744073709551616) : bits BinOp.and IntKind.u64 a 1 = fldV a 0 0 := by
  obtain ⟨x, rfl⟩ := Int.eq_ofNat_of_zero_le h0
  rw [show (1 : Int) = ((1 : Nat) : Int) from rfl, bits_and_u64_nat _ _ (by omega) (by omega), fld_at _ _ h0 (by omega) (by omega), Nat.and_one_is_mod]
  simp
theorem and2_u64 (a : Int) (h0 : 0 ≤ a) (h0' : a < 18446744073709551616) : bits BinOp.and IntKind.u64 a 2 = 2 * fldV a 1 1 := by
  obtain ⟨x, rfl⟩ := Int.eq_ofNat_of_zero_le h0
  rw [show (2 : Int) = ((2 : Nat) : Int) from rfl, bits_and_u64_nat _ _ (by omega) (by omega), fld_at _ _ h0 (by omega) (by omega)]
  have h1 : (x &&& 2) / 2 = x / 2 % 2 := by rw [Nat.and_div_two, show 2 / 2 = 1 from rfl, Nat.and_one_is_mod]
  have h2 : (x &&& 2) % 2 = 0 := by have := @Nat.and_mod_two_pow x 2 1; simpa using this
  rw [show (2 : Int) ^ (1 : Int).toNat = 2 from rfl]
  omega
theorem perm3_eq (a : Int) (h0 : 0 ≤ a) : perm3 a = fldV a 7 6 + 4 * (1 - fldV a 54 54) := by
  have e6 := fld_at a 6 h0 (by omega) (by omega)
  have e7 := fld_at a 7 h0 (by omega) (by omega)
  have e76 : fldV a 7 6 = a / 64 % 4 := by unfold fldV; rw [if_neg (by omega)]; rfl
  have e : fldV a 7 6 = fldV a 6 6 + 2 * fldV a 7 7 := by
    rw [e6, e7, e76, show (2 : Int) ^ (6 : Int).toNat = 64 from rfl, show (2 : Int) ^ (7 : Int).toNat = 128 from rfl]; omega
  rw [e]
  unfold perm3 perm2 perm1
  rcases bit_le a 6 h0 (by omega) (by omega) with ⟨h1, h2⟩ | ⟨h1, h2⟩ <;> rcases bit_le a 7 h0 (by omega) (by omega) with ⟨h3, h4⟩ | ⟨h3, h4⟩ <;>
    rcases bit_le a 54 h0 (by omega) (by omega) with ⟨h5, h6⟩ | ⟨h5, h6⟩ <;> rw [h1, h2, h3, h4, h5, h6] <;> decide +kernel

set_option maxHeartbeats 400000 in
theorem refOf_none (l a : Int) (w : World) (_h0 : 0 ≤ a) (_h0' : a < 18446744073709551616)
    (hl : (bits BinOp.and IntKind.u64 a 1 == 0) = true ∨ ((bits BinOp.and IntKind.u64 a 1 == 0) = false ∧ l < 1) ∨ ((bits BinOp.and IntKind.u64 a 1 == 0) = false ∧ 1 ≤ l ∧ 3 < l) ∨
      ((bits BinOp.and IntKind.u64 a 1 == 0) = false ∧ l = 3 ∧ (bits BinOp.and IntKind.u64 a 2 == 0) = true)) :
    Calls Tryd.prog 26 #[.int .i64 l, .int .u64 a] w fun e w' => e = .returned zeroV.val ∧ Below w.heap.size w w' := by
  rcases hl with hb | ⟨hb, hl⟩ | ⟨hb, hl, hl'⟩ | ⟨hb, rfl, hc⟩
  all_goals
    go_enter Tryd.func26, Tryd.ntmps26
    go_wp2
    exact bodyPost_ret (v := zeroV.val) (by simp [results, Tryd.results26, go_sem, zeroV, DescV.val]) rfl ⟨rfl, (Below.refl _ _).alloc (Nat.le_refl _) _⟩

set_option maxHeartbeats 400000 in
theorem refOf_table (l a : Int) (w : World) (h0 : 0 ≤ a) (h0' : a < 18446744073709551616)
    (hb : (bits BinOp.and IntKind.u64 a 1 == 0) = false) (hc : (bits BinOp.and IntKind.u64 a 2 != 0) = true) (hl : l = 1 ∨ l = 2) :
    Calls Tryd.prog 26 #[.int .i64 l, .int .u64 a] w fun e w' => e = .returned (DescV.mk 1 (fromV a 12) 0 0 false).val ∧ Below w.heap.size w w' := by
  rcases hl with rfl | rfl
  all_goals
    go_enter Tryd.func26, Tryd.ntmps26
    go_wp2_with (go_at_call 50; refine (refField_any _ _ _ _ h0 h0').mono ?_; rintro e w' ⟨rfl, rfl⟩)
    exact bodyPost_ret (v := (DescV.mk 1 (fromV a 12) 0 0 false).val) (by simp [results, Tryd.results26, go_sem, DescV.val, fromV]) rfl ⟨rfl, (Below.refl _ _).alloc (Nat.le_refl _) _⟩
end Go.Proofs.YtdlpgonpikflfaaDoor
