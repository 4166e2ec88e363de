/- Plain arithmetic of descriptors: the bits of a word, told by division and remainder. No condition. -/
import Derived.Laws.Bits64
import Derived.Laws.Bits64b
namespace Go.Proofs.YtgihknfoncljbaaGreatDoor
open Go
def fldV (a h l : Int) : Int := if 63 < h ∨ l < 0 ∨ h < l then 0 else a / 2 ^ l.toNat % 2 ^ (h - l + 1).toNat
def szV (a : Int) : Int := if a = 1 then 1073741824 else if a = 2 then 2097152 else if a = 3 then 4096 else 0
theorem fld_nat (a h l : Nat) (_ha : a < 18446744073709551616) (h1 : h ≤ 63) (h3 : l ≤ h) :
  a * 2 ^ (63 - h) % 18446744073709551616 / 2 ^ (63 - h + l) = a / 2 ^ l % 2 ^ (h - l + 1) := by
 have e : (18446744073709551616 : Nat) = 2 ^ (63 - h + l) * 2 ^ (h - l + 1) := by
  rw [← Nat.pow_add, show 63 - h + l + (h - l + 1) = 64 by omega]
 rw [e, Nat.mod_mul_right_div_self, Nat.pow_add, ← Nat.div_div_eq_div_mul, Nat.mul_div_cancel _ (Nat.two_pow_pos _)]
theorem fld_eq (a h l : Int) (h0 : 0 ≤ a) (h0' : a < 18446744073709551616) (h1 : h ≤ 63) (h2 : 0 ≤ l) (h3 : l ≤ h) :
  IntKind.u64.wrap (a * 2 ^ (63 - h).toNat) / 2 ^ (63 - h + l).toNat = fldV a h l := by
 obtain ⟨x, rfl⟩ := Int.eq_ofNat_of_zero_le h0
 obtain ⟨y, rfl⟩ := Int.eq_ofNat_of_zero_le h2
 obtain ⟨z, rfl⟩ := Int.eq_ofNat_of_zero_le (show 0 ≤ h by omega)
 have hf := fld_nat x z y (by omega) (by omega) (by omega)
 unfold fldV
 rw [if_neg (by omega), IntKind.wrap_u64, show (63 - (z : Int)).toNat = 63 - z by omega, show (63 - (z : Int) + y).toNat = 63 - z + y by omega,
  show ((z : Int) - y + 1).toNat = z - y + 1 by omega, show ((y : Int)).toNat = y from rfl,
  show (18446744073709551616 : Int) = ((18446744073709551616 : Nat) : Int) from rfl]
 generalize 18446744073709551616 = M at *
 exact_mod_cast hf
def partV (a h k : Int) : Int := a / 2 ^ (k + 1).toNat % 2 ^ (h - k).toNat
theorem part_zero (a h : Int) : partV a h h = 0 := by unfold partV; simp [Int.emod_one]
theorem part_end (a h l : Int) (h1 : h ≤ 63) (h2 : 0 ≤ l) (h3 : l ≤ h) : partV a h (l - 1) = fldV a h l := by
 unfold partV fldV
 rw [if_neg (by omega), show l - 1 + 1 = l by omega, show h - (l - 1) = h - l + 1 by omega]
theorem part_nat (a h k : Nat) (h1 : h ≤ 63) (h3 : k ≤ h) :
  (2 * (a / 2 ^ (k + 1) % 2 ^ (h - k)) % 18446744073709551616) ||| (a / 2 ^ k &&& 1) = a / 2 ^ k % 2 ^ (h - k + 1) := by
 have hm : a / 2 ^ (k + 1) % 2 ^ (h - k) < 2 ^ (h - k) := Nat.mod_lt _ (Nat.two_pow_pos _)
 have hp : 2 ^ (h - k) ≤ 2 ^ 63 := Nat.pow_le_pow_right (by decide) (by omega)
 rw [Nat.mod_eq_of_lt (by omega), Nat.and_one_is_mod]
 have e1 : a / 2 ^ (k + 1) = a / 2 ^ k / 2 := by rw [Nat.pow_succ, Nat.div_div_eq_div_mul]
 rw [e1]
 generalize a / 2 ^ k = b at *
 have e2 : b % 2 ^ (h - k + 1) = 2 * (b / 2 % 2 ^ (h - k)) + b % 2 := by
  rw [Nat.pow_succ, Nat.mul_comm (2 ^ (h - k)) 2, Nat.mod_mul, Nat.add_comm]
 rw [e2]
 generalize b / 2 % 2 ^ (h - k) = c
 have := Nat.two_pow_add_eq_or_of_lt (i := 1) (b := b % 2) (by omega) c
 rw [show 2 ^ 1 * c = 2 * c by omega] at this
 exact this.symm
theorem part_step (a h k : Int) (h0 : 0 ≤ a) (h0' : a < 18446744073709551616) (h1 : h ≤ 63) (h2 : 0 ≤ k) (h3 : k ≤ h) :
  bits BinOp.or IntKind.u64 (IntKind.u64.wrap (partV a h k * 2)) (bits BinOp.and IntKind.u64 (a / 2 ^ k.toNat) 1) = partV a h (k - 1) := by
 obtain ⟨x, rfl⟩ := Int.eq_ofNat_of_zero_le h0
 obtain ⟨z, rfl⟩ := Int.eq_ofNat_of_zero_le h2
 obtain ⟨y, rfl⟩ := Int.eq_ofNat_of_zero_le (show 0 ≤ h by omega)
 have hn := part_nat x y z (by omega) (by omega)
 have ep : partV x y z = ((x / 2 ^ (z + 1) % 2 ^ (y - z) : Nat) : Int) := by
  unfold partV
  rw [show ((z : Int) + 1).toNat = z + 1 by omega, show ((y : Int) - z).toNat = y - z by omega]
  exact_mod_cast rfl
 have eq : partV x y ((z : Int) - 1) = ((x / 2 ^ z % 2 ^ (y - z + 1) : Nat) : Int) := by
  unfold partV
  rw [show ((z : Int) - 1 + 1).toNat = z by omega, show ((y : Int) - (z - 1)).toNat = y - z + 1 by omega]
  exact_mod_cast rfl
 have ew : IntKind.u64.wrap (((x / 2 ^ (z + 1) % 2 ^ (y - z) : Nat) : Int) * 2) = ((2 * (x / 2 ^ (z + 1) % 2 ^ (y - z)) % 18446744073709551616 : Nat) : Int) := by
  rw [IntKind.wrap_u64]; omega
 have ed : (x : Int) / 2 ^ (z : Int).toNat = ((x / 2 ^ z : Nat) : Int) := by exact_mod_cast rfl
 have hd : x / 2 ^ z ≤ x := Nat.div_le_self _ _
 rw [ep, eq, ew, ed, show (1 : Int) = ((1 : Nat) : Int) from rfl, bits_and_u64_nat _ _ (by omega) (by omega),
  bits_or_u64_nat _ _ (by omega) (by rw [Nat.and_one_is_mod]; omega), hn]
end Go.Proofs.YtgihknfoncljbaaGreatDoor
