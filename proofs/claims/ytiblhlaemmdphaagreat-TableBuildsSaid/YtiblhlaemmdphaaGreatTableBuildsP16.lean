/- Plain arithmetic of descriptors: the bits of a word, told by division and remainder. No condition. -/
import Derived.Laws.Bits64
import Derived.Laws.Bits64b
import Derived.WalkKit
import Derived.Lib.Hide
import Derived.WalkSpells
import Derived.WalkLawsBesides
import Derived.Deep.DeepCutAuto
import Derived.Test.YtiblhlaemmdphaaGreatProg
import Derived.Test.YtiblhlaemmdphaaGreatTableBuildsP1
namespace Go.Proofs.YtiblhlaemmdphaaGreat
open Go
def fldV (a h l : Int) : Int := if 63 < h ∨ l < 0 ∨ h < l then 0 else a / 2 ^ l.toNat % 2 ^ (h - l + 1).toNat
def szV (a : Int) : Int := if a = 1 then 1073741824 else if a = 2 then 2097152 else if a = 3 then 4096 else 0
theorem fld_nat (a h l : Nat) (_ha : a < 18446744073709551616) (h1 : h ≤ 63) (h3 : l ≤ h) :
  a * 2 ^ (63 - h) % 18446744073709551616 / 2 ^ (63 - h + l) = a / 2 ^ l % 2 ^ (h - l + 1) := by
 have e : (18446744073709551616 : Nat) = 2 ^ (63 - h + l) * 2 ^ (h - l + 1) := by
  rw [← Nat.pow_add, show 63 - h + l + (h - l + 1) = 64 by omega]
 rw [e, Nat.mod_mul_right_div_self, Nat.pow_add, ← Nat.div_div_eq_div_mul, Nat.mul_div_cancel _ (Nat.two_pow_pos _)]
theorem fld_eq (a h l : Int) (h0 : 0 ≤ a) (h0' : a < 18446744073709551616) (h1 : h ≤ 63) (h2 : 0 ≤ l) (h3 : l ≤ h) :
  IntKind.u64.wrap (a * 2 ^ (63 - h).toNat) / 2 ^ (63 - h + l).toNat = fldV a h l := by
 obtain ⟨x, rfl⟩ := Int.eq_ofNat_of_zero_le h0
 obtain ⟨y, rfl⟩ := Int.eq_ofNat_of_zero_le h2
 obtain ⟨z, rfl⟩ := Int.eq_ofNat_of_zero_le (show 0 ≤ h by omega)
 have hf := fld_nat x z y (by omega) (by omega) (by omega)
 unfold fldV
 rw [if_neg (by omega), IntKind.wrap_u64, show (63 - (z : Int)).toNat = 63 - z by omega, show (63 - (z : Int) + y).toNat = 63 - z + y by omega,
  show ((z : Int) - y + 1).toNat = z - y + 1 by omega, show ((y : Int)).toNat = y from rfl,
  show (18446744073709551616 : Int) = ((18446744073709551616 : Nat) : Int) from rfl]
 generalize 18446744073709551616 = M at *
 exact_mod_cast hf
def partV (a h k : Int) : Int := a / 2 ^ (k + 1).toNat % 2 ^ (h - k).toNat
theorem part_zero (a h : Int) : partV a h h = 0 := by unfold partV; simp [Int.emod_one]
theorem part_end (a h l : Int) (h1 : h ≤ 63) (h2 : 0 ≤ l) (h3 : l ≤ h) : partV a h (l - 1) = fldV a h l := by
 unfold partV fldV
 rw [if_neg (by omega), show l - 1 + 1 = l by omega, show h - (l - 1) = h - l + 1 by omega]
theorem part_nat (a h k : Nat) (h1 : h ≤ 63) (h3 : k ≤ h) :
  (2 * (a / 2 ^ (k + 1) % 2 ^ (h - k)) % 18446744073709551616) ||| (a / 2 ^ k &&& 1) = a / 2 ^ k % 2 ^ (h - k + 1) := by
 have hm : a / 2 ^ (k + 1) % 2 ^ (h - k) < 2 ^ (h - k) := Nat.mod_lt _ (Nat.two_pow_pos _)
 have hp : 2 ^ (h - k) ≤ 2 ^ 63 := Nat.pow_le_pow_right (by decide) (by omega)
 rw [Nat.mod_eq_of_lt (by omega), Nat.and_one_is_mod]
 have e1 : a / 2 ^ (k + 1) = a / 2 ^ k / 2 := by rw [Nat.pow_succ, Nat.div_div_eq_div_mul]
 rw [e1]
 generalize a / 2 ^ k = b at *
 have e2 : b % 2 ^ (h - k + 1) = 2 * (b / 2 % 2 ^ (h - k)) + b % 2 := by
  rw [Nat.pow_succ, Nat.mul_comm (2 ^ (h - k)) 2, Nat.mod_mul, Nat.add_comm]
 rw [e2]
 generalize b / 2 % 2 ^ (h - k) = c
 have := Nat.two_pow_add_eq_or_of_lt (i := 1) (b := b % 2) (by omega) c
 rw [show 2 ^ 1 * c = 2 * c by omega] at this
 exact this.symm
theorem part_step (a h k : Int) (h0 : 0 ≤ a) (h0' : a < 18446744073709551616) (h1 : h ≤ 63) (h2 : 0 ≤ k) (h3 : k ≤ h) :
  bits BinOp.or IntKind.u64 (IntKind.u64.wrap (partV a h k * 2)) (bits BinOp.and IntKind.u64 (a / 2 ^ k.toNat) 1) = partV a h (k - 1) := by
 obtain ⟨x, rfl⟩ := Int.eq_ofNat_of_zero_le h0
 obtain ⟨z, rfl⟩ := Int.eq_ofNat_of_zero_le h2
 obtain ⟨y, rfl⟩ := Int.eq_ofNat_of_zero_le (show 0 ≤ h by omega)
 have hn := part_nat x y z (by omega) (by omega)
 have ep : partV x y z = ((x / 2 ^ (z + 1) % 2 ^ (y - z) : Nat) : Int) := by
  unfold partV
  rw [show ((z : Int) + 1).toNat = z + 1 by omega, show ((y : Int) - z).toNat = y - z by omega]
  exact_mod_cast rfl
 have eq : partV x y ((z : Int) - 1) = ((x / 2 ^ z % 2 ^ (y - z + 1) : Nat) : Int) := by
  unfold partV
  rw [show ((z : Int) - 1 + 1).toNat = z by omega, show ((y : Int) - (z - 1)).toNat = y - z + 1 by omega]
  exact_mod_cast rfl
 have ew : IntKind.u64.wrap (((x / 2 ^ (z + 1) % 2 ^ (y - z) : Nat) : Int) * 2) = ((2 * (x / 2 ^ (z + 1) % 2 ^ (y - z)) % 18446744073709551616 : Nat) : Int) := by
  rw [IntKind.wrap_u64]; omega
 have ed : (x : Int) / 2 ^ (z : Int).toNat = ((x / 2 ^ z : Nat) : Int) := by exact_mod_cast rfl
 have hd : x / 2 ^ z ≤ x := Nat.div_le_self _ _
 rw [ep, eq, ew, ed, show (1 : Int) = ((1 : Nat) : Int) from rfl, bits_and_u64_nat _ _ (by omega) (by omega),
  bits_or_u64_nat _ _ (by omega) (by rw [Nat.and_one_is_mod]; omega), hn]
end Go.Proofs.YtiblhlaemmdphaaGreat
/- The walks of desc.Size, desc.Field, desc.bit, desc.from and of the reference's Field. Conditions: words are of 64 bits. -/
namespace Go.Proofs.YtiblhlaemmdphaaGreat
open Go.RowKit
def bitV (w at' : Int) : Bool := decide (fldV w at' at' = 1)
def fromV (w lo : Int) : Int := IntKind.u64.wrap (fldV w 47 lo * 2 ^ lo.toNat)
set_option maxHeartbeats 400000 in
theorem size_any (a : Int) (w : World) :
  Calls Tryz.prog 55 #[.int .i64 a] w fun e w' => e = .returned (.int .u64 (szV a)) ∧ w = w' := by
 by_cases h1 : a = 1
 ·subst h1
  go_enter Tryz.func55, Tryz.ntmps55
  go_wp2
  go_ret
  exact ⟨rfl, rfl⟩
 by_cases h2 : a = 2
 ·subst h2
  go_enter Tryz.func55, Tryz.ntmps55
  go_wp2
  go_ret
  exact ⟨rfl, rfl⟩
 by_cases h3 : a = 3
 ·subst h3
  go_enter Tryz.func55, Tryz.ntmps55
  go_wp2
  go_ret
  exact ⟨rfl, rfl⟩
 have hz : szV a = 0 := by unfold szV; rw [if_neg h1, if_neg h2, if_neg h3]
 rw [hz]
 by_cases h4 : a < 1
 ·go_enter Tryz.func55, Tryz.ntmps55
  go_wp2
  go_ret
  exact ⟨rfl, rfl⟩
 ·have h5 : 3 < a := by omega
  go_enter Tryz.func55, Tryz.ntmps55
  go_wp2
  go_ret
  exact ⟨rfl, rfl⟩
set_option maxHeartbeats 400000 in
theorem refField_any (a h l : Int) (w : World) (h0 : 0 ≤ a) (h0' : a < 18446744073709551616) :
  Calls Tryz.prog 95 #[.int .u64 a, .int .i64 h, .int .i64 l] w fun e w' => e = .returned (.int .u64 (fldV a h l)) ∧ w = w' := by
 by_cases h1 : 63 < h
 ·have hz : fldV a h l = 0 := by unfold fldV; rw [if_pos (by omega)]
  rw [hz]; clear hz
  go_enter Tryz.func95, Tryz.ntmps95
  go_wp2
  go_ret
  exact ⟨rfl, rfl⟩
 by_cases h2 : l < 0
 ·have hz : fldV a h l = 0 := by unfold fldV; rw [if_pos (by omega)]
  rw [hz]; clear hz
  go_enter Tryz.func95, Tryz.ntmps95
  go_wp2
  go_ret
  exact ⟨rfl, rfl⟩
 by_cases h3 : h < l
 ·have hz : fldV a h l = 0 := by unfold fldV; rw [if_pos (by omega)]
  rw [hz]; clear hz
  go_enter Tryz.func95, Tryz.ntmps95
  go_wp2
  go_ret
  exact ⟨rfl, rfl⟩
 go_enter Tryz.func95, Tryz.ntmps95
 go_wp2
 go_loop [7, 8] (fun n i => ∃ k : Int, l - 1 ≤ k ∧ k ≤ h ∧ n = .int .u64 (partV a h k) ∧ i = .int .i64 k) (fun _ i => (intOf i + 1).toNat)
 case atStart => exact ⟨h, by omega, by omega, by rw [part_zero], rfl⟩
 case round =>
  obtain ⟨k, h4, h5, rfl, rfl⟩ := hrel
  by_cases hlt : l ≤ k
  ·have hs := Lib.hid (part_step a h k h0 h0' (by omega) (by omega) (by omega))
   go_wp2
   go_round
   case rel => exact ⟨k - 1, by omega, by omega, by rw [hs.out], rfl⟩
   case measure => simp [intOf]; omega
  ·have hk : k = l - 1 := by omega
   have he := Lib.hid (part_end a h l (by omega) (by omega) (by omega))
   subst hk
   go_wp2
   go_ret
   exact ⟨ret_u64 he.out, rfl⟩
end Go.Proofs.YtiblhlaemmdphaaGreat
/- The walks of desc.Of and of the reference's Of, and what both give. Conditions: words are of 64 bits; the library's table for trailing zeros is as its initialiser lays it. -/
namespace Go.Proofs.YtiblhlaemmdphaaGreat
open Go.RowKit
structure DescV where
 kind : Int
 pa : Int
 perm : Int
 mem : Int
 af : Bool
def DescV.val (d : DescV) : Value := .agg #[.int .i64 d.kind, .int .u64 d.pa, .int .i64 d.perm, .int .i64 d.mem, .bool d.af]
end Go.Proofs.YtiblhlaemmdphaaGreat
/- The walk of desc.Of. Conditions: words are of 64 bits; the library's table for trailing zeros is as its initialiser lays it. -/
namespace Go.Proofs.YtiblhlaemmdphaaGreat
open Go.RowKit
def perm1 (a : Int) : Int := if bitV a 6 = true then bits BinOp.or IntKind.i64 0 1 else 0
def perm2 (a : Int) : Int := if bitV a 7 = true then bits BinOp.or IntKind.i64 (perm1 a) 2 else perm1 a
def perm3 (a : Int) : Int := if bitV a 54 = true then perm2 a else bits BinOp.or IntKind.i64 (perm2 a) 4
def memV (a : Int) : Int := if fldV a 5 4 = 0 then 1 else 0
theorem memV_yes {a : Int} (h : (fldV a 5 4 == 0) = true) : memV a = 1 := by unfold memV; rw [if_pos (by simpa using h)]
theorem memV_no {a : Int} (h : (fldV a 5 4 == 0) = false) : memV a = 0 := by unfold memV; rw [if_neg (by simpa using h)]
def leafV (l a : Int) : DescV := ⟨if l = 3 then 3 else 2, fromV a (39 - 9 * l), perm3 a, memV a, bitV a 10⟩
def zeroV : DescV := ⟨0, 0, 0, 0, false⟩
def ofV (l a : Int) : DescV :=
 if szV l = 0 ∨ bitV a 0 = false ∨ (l = 3 ∧ bitV a 1 = false) then zeroV
 else if l < 3 ∧ bitV a 1 = true then ⟨1, fromV a 12, 0, 0, false⟩ else leafV l a
theorem szV_ne {l : Int} (h : l = 1 ∨ l = 2 ∨ l = 3) : (szV l == 0) = false ∧ szV l ≠ 0 := by
 rcases h with rfl | rfl | rfl <;> decide
theorem szV_no {l : Int} (h : ¬ (l = 1 ∨ l = 2 ∨ l = 3)) : szV l = 0 := by
 unfold szV; rw [if_neg (fun e => h (.inl e)), if_neg (fun e => h (.inr (.inl e))), if_neg (fun e => h (.inr (.inr e)))]
end Go.Proofs.YtiblhlaemmdphaaGreat
/- What desc.Of gives at every word; the walk of the reference's Of, which gives the same. Conditions: words are of 64 bits; the library's table for trailing zeros is as its initialiser lays it. -/
namespace Go.Proofs.YtiblhlaemmdphaaGreat
open Go.RowKit
theorem szV_b (l : Int) : ((szV l == 0) = true ∧ szV l = 0 ∧ ¬ (l = 1 ∨ l = 2 ∨ l = 3)) ∨ ((szV l == 0) = false ∧ szV l ≠ 0 ∧ (l = 1 ∨ l = 2 ∨ l = 3)) := by
 by_cases h : l = 1 ∨ l = 2 ∨ l = 3
 ·exact .inr ⟨(szV_ne h).1, (szV_ne h).2, h⟩
 ·exact .inl ⟨by rw [szV_no h]; rfl, szV_no h, h⟩
theorem fld_at (a i : Int) (_h0 : 0 ≤ a) (h1 : 0 ≤ i) (h2 : i ≤ 63) : fldV a i i = a / 2 ^ i.toNat % 2 := by
 unfold fldV
 rw [if_neg (by omega), show i - i + 1 = 1 by omega]; rfl
theorem bit_le (a i : Int) (h0 : 0 ≤ a) (h1 : 0 ≤ i) (h2 : i ≤ 63) : (bitV a i = true ∧ fldV a i i = 1) ∨ (bitV a i = false ∧ fldV a i i = 0) := by
 have e := fld_at a i h0 h1 h2
 have : fldV a i i = 0 ∨ fldV a i i = 1 := by rw [e]; omega
 unfold bitV
 rcases this with h | h
 ·right; rw [h]; exact ⟨rfl, rfl⟩
 ·left; rw [h]; exact ⟨rfl, rfl⟩
theorem and1_u64 (a : Int) (h0 : 0 ≤ a) (h0' : a < 18446744073709551616) : bits BinOp.and IntKind.u64 a 1 = fldV a 0 0 := by
 obtain ⟨x, rfl⟩ := Int.eq_ofNat_of_zero_le h0
 rw [show (1 : Int) = ((1 : Nat) : Int) from rfl, bits_and_u64_nat _ _ (by omega) (by omega), fld_at _ _ h0 (by omega) (by omega), Nat.and_one_is_mod]
 simp
theorem and2_u64 (a : Int) (h0 : 0 ≤ a) (h0' : a < 18446744073709551616) : bits BinOp.and IntKind.u64 a 2 = 2 * fldV a 1 1 := by
 obtain ⟨x, rfl⟩ := Int.eq_ofNat_of_zero_le h0
 rw [show (2 : Int) = ((2 : Nat) : Int) from rfl, bits_and_u64_nat _ _ (by omega) (by omega), fld_at _ _ h0 (by omega) (by omega)]
 have h1 : (x &&& 2) / 2 = x / 2 % 2 := by rw [Nat.and_div_two, show 2 / 2 = 1 from rfl, Nat.and_one_is_mod]
 have h2 : (x &&& 2) % 2 = 0 := by have := @Nat.and_mod_two_pow x 2 1; simpa using this
 rw [show (2 : Int) ^ (1 : Int).toNat = 2 from rfl]
 omega
theorem perm3_eq (a : Int) (h0 : 0 ≤ a) : perm3 a = fldV a 7 6 + 4 * (1 - fldV a 54 54) := by
 have e6 := fld_at a 6 h0 (by omega) (by omega)
 have e7 := fld_at a 7 h0 (by omega) (by omega)
 have e76 : fldV a 7 6 = a / 64 % 4 := by unfold fldV; rw [if_neg (by omega)]; rfl
 have e : fldV a 7 6 = fldV a 6 6 + 2 * fldV a 7 7 := by
  rw [e6, e7, e76, show (2 : Int) ^ (6 : Int).toNat = 64 from rfl, show (2 : Int) ^ (7 : Int).toNat = 128 from rfl]; omega
 rw [e]
 unfold perm3 perm2 perm1
 rcases bit_le a 6 h0 (by omega) (by omega) with ⟨h1, h2⟩ | ⟨h1, h2⟩ <;> rcases bit_le a 7 h0 (by omega) (by omega) with ⟨h3, h4⟩ | ⟨h3, h4⟩ <;>
  rcases bit_le a 54 h0 (by omega) (by omega) with ⟨h5, h6⟩ | ⟨h5, h6⟩ <;> rw [h1, h2, h3, h4, h5, h6] <;> decide +kernel
set_option maxHeartbeats 400000 in
theorem refOf_none (l a : Int) (w : World) (_h0 : 0 ≤ a) (_h0' : a < 18446744073709551616)
  (hl : (bits BinOp.and IntKind.u64 a 1 == 0) = true ∨ ((bits BinOp.and IntKind.u64 a 1 == 0) = false ∧ l < 1) ∨ ((bits BinOp.and IntKind.u64 a 1 == 0) = false ∧ 1 ≤ l ∧ 3 < l) ∨
   ((bits BinOp.and IntKind.u64 a 1 == 0) = false ∧ l = 3 ∧ (bits BinOp.and IntKind.u64 a 2 == 0) = true)) :
  Calls Tryz.prog 74 #[.int .i64 l, .int .u64 a] w fun e w' => e = .returned zeroV.val ∧ Below w.heap.size w w' := by
 rcases hl with hb | ⟨hb, hl⟩ | ⟨hb, hl, hl'⟩ | ⟨hb, rfl, hc⟩
 all_goals
  go_enter Tryz.func74, Tryz.ntmps74
  go_wp2
  exact bodyPost_ret (v := zeroV.val) (by simp [results, Tryz.results74, go_sem, zeroV, DescV.val]) rfl ⟨rfl, (Below.refl _ _).alloc (Nat.le_refl _) _⟩
set_option maxHeartbeats 400000 in
theorem refOf_table (l a : Int) (w : World) (h0 : 0 ≤ a) (h0' : a < 18446744073709551616)
  (hb : (bits BinOp.and IntKind.u64 a 1 == 0) = false) (hc : (bits BinOp.and IntKind.u64 a 2 != 0) = true) (hl : l = 1 ∨ l = 2) :
  Calls Tryz.prog 74 #[.int .i64 l, .int .u64 a] w fun e w' => e = .returned (DescV.mk 1 (fromV a 12) 0 0 false).val ∧ Below w.heap.size w w' := by
 rcases hl with rfl | rfl
 all_goals
  go_enter Tryz.func74, Tryz.ntmps74
  go_wp2_with (go_at_call 95; refine (refField_any _ _ _ _ h0 h0').mono ?_; rintro e w' ⟨rfl, rfl⟩)
  exact bodyPost_ret (v := (DescV.mk 1 (fromV a 12) 0 0 false).val) (by simp [results, Tryz.results74, go_sem, DescV.val, fromV]) rfl ⟨rfl, (Below.refl _ _).alloc (Nat.le_refl _) _⟩
end Go.Proofs.YtiblhlaemmdphaaGreat
/- The reference's Of at a leaf, and at every word: it gives what desc.Of gives. Conditions: words are of 64 bits. -/
namespace Go.Proofs.YtiblhlaemmdphaaGreat
open Go.RowKit
theorem fld76_bd (a : Int) (_h0 : 0 ≤ a) : 0 ≤ fldV a 7 6 ∧ fldV a 7 6 ≤ 3 := by
 have e76 : fldV a 7 6 = a / 64 % 4 := by unfold fldV; rw [if_neg (by omega)]; rfl
 rw [e76]; omega
set_option maxHeartbeats 1000000 in
theorem refOf_leaf (l a : Int) (w : World) (h0 : 0 ≤ a) (h0' : a < 18446744073709551616) (hb : (bits BinOp.and IntKind.u64 a 1 == 0) = false)
  (hl : (l = 1 ∧ (bits BinOp.and IntKind.u64 a 2 != 0) = false) ∨ (l = 2 ∧ (bits BinOp.and IntKind.u64 a 2 != 0) = false) ∨ (l = 3 ∧ (bits BinOp.and IntKind.u64 a 2 == 0) = false ∧ (bits BinOp.and IntKind.u64 a 2 != 0) = true)) :
  Calls Tryz.prog 74 #[.int .i64 l, .int .u64 a] w fun e w' => e = .returned (leafV l a).val ∧ Below w.heap.size w w' := by
 have p1 := fld76_bd a h0
 have p2 : 0 ≤ fldV a 54 54 ∧ fldV a 54 54 ≤ 1 := by rcases bit_le a 54 h0 (by omega) (by omega) with ⟨_, h⟩ | ⟨_, h⟩ <;> omega
 have hp := Lib.hid (perm3_eq a h0)
 have h10 : Hid ((fldV a 10 10 == 1) = bitV a 10) := by
  rcases bit_le a 10 h0 (by omega) (by omega) with ⟨h1, h2⟩ | ⟨h1, h2⟩ <;> (show _ = _; rw [h1, h2]; rfl)
 rcases hl with ⟨rfl, hc⟩ | ⟨rfl, hc⟩ | ⟨rfl, hc, hd⟩
 all_goals
  go_enter Tryz.func74, Tryz.ntmps74
  by_cases hm : (fldV a 5 4 == 0) = true
  ·have e := Lib.hid (memV_yes hm)
   go_wp2_with (go_at_call 95; refine (refField_any _ _ _ _ h0 h0').mono ?_; rintro e w' ⟨rfl, rfl⟩)
   refine bodyPost_ret (v := (leafV _ a).val) ?_ rfl ⟨rfl, ((((Below.refl _ _).alloc (Nat.le_refl _) _).alloc (by simp) _))⟩
   simp [results, Tryz.results74, go_sem, DescV.val, leafV, hp.out, h10.out, e.out, fromV]
  ·have hm : (fldV a 5 4 == 0) = false := by simpa using hm
   have e := Lib.hid (memV_no hm)
   go_wp2_with (go_at_call 95; refine (refField_any _ _ _ _ h0 h0').mono ?_; rintro e w' ⟨rfl, rfl⟩)
   refine bodyPost_ret (v := (leafV _ a).val) ?_ rfl ⟨rfl, ((((Below.refl _ _).alloc (Nat.le_refl _) _).alloc (by simp) _))⟩
   simp [results, Tryz.results74, go_sem, DescV.val, leafV, hp.out, h10.out, e.out, fromV]
theorem refOf_any (l a : Int) (w : World) (h0 : 0 ≤ a) (h0' : a < 18446744073709551616) :
  Calls Tryz.prog 74 #[.int .i64 l, .int .u64 a] w fun e w' => e = .returned (ofV l a).val ∧ Below w.heap.size w w' := by
 have e0 : (bits BinOp.and IntKind.u64 a 1 == 0) = !bitV a 0 := by
  rw [and1_u64 a h0 h0']
  rcases bit_le a 0 h0 (by omega) (by omega) with ⟨h1, h2⟩ | ⟨h1, h2⟩ <;> rw [h1, h2] <;> rfl
 have e1 : (bits BinOp.and IntKind.u64 a 2 == 0) = !bitV a 1 := by
  rw [and2_u64 a h0 h0']
  rcases bit_le a 1 h0 (by omega) (by omega) with ⟨h1, h2⟩ | ⟨h1, h2⟩ <;> rw [h1, h2] <;> rfl
 have e2 : (bits BinOp.and IntKind.u64 a 2 != 0) = bitV a 1 := by show (!(_ == _)) = _; rw [e1, Bool.not_not]
 unfold ofV
 cases hb : bitV a 0
 ·rw [hb] at e0
  rw [if_pos (.inr (.inl rfl))]; exact refOf_none l a w h0 h0' (.inl e0)
 ·rw [hb] at e0
  rcases szV_b l with ⟨h1, h2, h3⟩ | ⟨h1, h2, h3⟩
  ·rw [if_pos (.inl h2)]
   by_cases h4 : l < 1
   ·exact refOf_none l a w h0 h0' (.inr (.inl ⟨e0, h4⟩))
   ·exact refOf_none l a w h0 h0' (.inr (.inr (.inl ⟨e0, by omega, by omega⟩)))
  ·cases hc : bitV a 1
   ·rw [hc] at e1 e2
    by_cases h4 : l = 3
    ·rw [if_pos (.inr (.inr ⟨h4, rfl⟩))]; exact refOf_none l a w h0 h0' (.inr (.inr (.inr ⟨e0, h4, e1⟩)))
    ·rw [if_neg (by simp [h2, h4]), if_neg (by simp)]; exact refOf_leaf l a w h0 h0' e0 (h3.elim (fun h => .inl ⟨h, e2⟩) fun h => h.elim (fun h => .inr (.inl ⟨h, e2⟩)) fun h => absurd h h4)
   ·rw [hc] at e1 e2
    by_cases h4 : l = 3
    ·rw [if_neg (by simp [h2]), if_neg (by simp [h4])]; exact refOf_leaf l a w h0 h0' e0 (.inr (.inr ⟨h4, e1, e2⟩))
    ·rw [if_neg (by simp [h2]), if_pos ⟨by omega, rfl⟩]; exact refOf_table l a w h0 h0' e0 e2 (by omega)
end Go.Proofs.YtiblhlaemmdphaaGreat
/- The walk of (leveled).may: which descriptors may be of a level. Conditions: words are of 64 bits. -/
namespace Go.Proofs.YtiblhlaemmdphaaGreat
open Go.RowKit
def bareV (d : DescV) : Bool := decide (d.perm = 0) && decide (d.mem = 0) && !d.af
def mayV (l : Int) (d : DescV) : Bool :=
 if szV l = 0 ∨ 1099511627776 ≤ d.pa then false
 else if d.kind = 0 then bareV d && decide (d.pa = 0)
 else if d.kind = 1 then bareV d && decide (l < 3) && decide (d.pa % 4096 = 0)
 else if d.kind = 2 ∨ d.kind = 3 then
  (decide (d.kind = 3) == decide (l = 3)) && decide (d.pa % szV l = 0) && decide (0 ≤ d.perm) && decide (d.perm ≤ 7) && (decide (d.mem = 0) || decide (d.mem = 1))
 else false
theorem szV_bd (l : Int) : 0 ≤ szV l ∧ szV l ≤ 1073741824 := by unfold szV; split; omega; split; omega; split <;> omega
set_option maxHeartbeats 2000000 in
theorem may_any (l k pa perm mem : Int) (af : Bool) (w : World) (h0 : 0 ≤ pa) (h0' : pa < 18446744073709551616) :
  Calls Tryz.prog 101 #[.agg #[.int .i64 k, .int .u64 pa, .int .i64 perm, .int .i64 mem, .bool af, .int .i64 l]] w fun e w' => e = .returned (.bool (mayV l ⟨k, pa, perm, mem, af⟩)) ∧ Below w.heap.size w w' := by
 have hs := szV_bd l
 go_enter Tryz.func101, Tryz.ntmps101
 go_wp2_with (first | (go_at_call 55; refine (size_any _ _).mono ?_; rintro e w' ⟨rfl, rfl⟩))
 all_goals
  go_ret
  refine ⟨ret_bool ?_, (Below.refl _ _).alloc (Nat.le_refl _) _⟩
  clear hs
  simp [mayV, bareV]
  try simp_all
  try (rw [Bool.eq_iff_iff]; simp <;> omega)
  try omega
end Go.Proofs.YtiblhlaemmdphaaGreat
/- The walks of desc.joined and desc.one. Conditions: shifts from 0 to 63. -/
namespace Go.Proofs.YtiblhlaemmdphaaGreat
open Go.RowKit
def joinV (fs : List (Int × Int)) : Int := fs.foldl (fun acc f => bits BinOp.or IntKind.u64 acc (IntKind.u64.wrap (f.2 * 2 ^ f.1.toNat))) 0
theorem joinV_snoc (fs : List (Int × Int)) (x y : Int) : joinV (fs ++ [(x, y)]) = bits BinOp.or IntKind.u64 (joinV fs) (IntKind.u64.wrap (y * 2 ^ x.toNat)) := by
 simp [joinV, List.foldl_append]
def oneV (b : Bool) : Int := if b = true then 1 else 0
set_option maxHeartbeats 400000 in
theorem one_any (b : Bool) (w : World) :
  Calls Tryz.prog 103 #[.bool b] w fun e w' => e = .returned (.int .u64 (oneV b)) ∧ w = w' := by
 cases b
 all_goals
  go_enter Tryz.func103, Tryz.ntmps103
  go_wp2
  go_ret
  exact ⟨rfl, rfl⟩
set_option maxHeartbeats 1000000 in
theorem joined_any (fs : List (Int × Int)) (b off cap : Nat) (w : World) (hb : b < w.heap.size) (hl : fs.length ≤ 100)
  (hc : ∀ i, (h : i < fs.length) → w.cell? ⟨b, off + i * 2, none⟩ = some (.int .i64 fs[i].1) ∧ w.cell? ⟨b, off + i * 2 + 1, none⟩ = some (.int .u64 fs[i].2))
  (hr : ∀ f ∈ fs, 0 ≤ f.1 ∧ f.1 ≤ 63) :
  Calls Tryz.prog 102 #[.slice (some ⟨b, off, none⟩) fs.length cap] w fun e w' => e = .returned (.int .u64 (joinV fs)) ∧ Below w.heap.size w w' := by
 go_enter Tryz.func102, Tryz.ntmps102
 go_wp2
 go_loopw [3, 8] (fun s i wr => ∃ k : Nat, k ≤ fs.length ∧ i = .int .i64 k ∧ s = .int .u64 (joinV (fs.take k)) ∧ Below w.heap.size w wr) (fun _ i _ => fs.length - (intOf i).toNat)
 case atStart => exact ⟨0, Nat.zero_le _, rfl, rfl, Below.refl _ _⟩
 case round =>
  obtain ⟨k, hk, rfl, rfl, hB⟩ := hrel
  by_cases hlt : k < fs.length
  ·have h1 := (hc k hlt).1
   have h2 := (hc k hlt).2
   have h3 := hr fs[k] (List.getElem_mem hlt)
   have ht : fs.take (k + 1) = fs.take k ++ [(fs[k].1, fs[k].2)] := by rw [List.take_succ_eq_append_getElem hlt]
   generalize fs[k].1 = x at *
   generalize fs[k].2 = y at *
   rw [← hB.cell (by exact hb)] at h1 h2
   have hs := Lib.hid (joinV_snoc (fs.take k) x y)
   have ht := Lib.hid ht
   clear hc
   go_wp2
   go_roundw
   case rel => exact ⟨k + 1, by omega, by go_num, by rw [ht.out, hs.out], (hB.alloc hB.size _)⟩
   case measure => simp [intOf]; omega
  ·have hk : k = fs.length := by omega
   subst hk
   go_wp2
   go_ret
   exact ⟨ret_u64 (by rw [List.take_of_length_le (Nat.le_refl _)]), hB⟩
end Go.Proofs.YtiblhlaemmdphaaGreat
