/- Plain arithmetic of descriptors: the bits of a word, told by division and remainder. No condition. -/
import Derived.Laws.Bits64
import Derived.Laws.Bits64b
namespace Go.Proofs.YtnieomgopldlhaaGreatDoor
open Go

/-- The bits of a word from 'l' to 'h', as a number. -/
def fldV (a h l : Int) : Int := if 63 < h ∨ l < 0 ∨ h < l then 0 else a / 2 ^ l.toNat % 2 ^ (h - l + 1).toNat
/-- A level's block. -/
def szV (a : Int) : Int := if a = 1 then 1073741824 else if a = 2 then 2097152 else if a = 3 then 4096 else 0

theorem fld_nat (a h l : Nat) (_ha : a < 18446744073709551616) (h1 : h ≤ 63) (h3 : l ≤ h) :
    a * 2 ^ (63 - h) % 18446744073709551616 / 2 ^ (63 - h + l) = a / 2 ^ l % 2 ^ (h - l + 1) := by
  have e : (18446744073709551616 : Nat) = 2 ^ (63 - h + l) * 2 ^ (h - l + 1) := by
    rw [← Nat.pow_add, show 63 - h + l + (h - l + 1) = 64 by omega]
  rw [e, Nat.mod_mul_right_div_self, Nat.pow_add, ← Nat.div_div_eq_div_mul, Nat.mul_div_cancel _ (Nat.two_pow_pos _)]

theorem fld_eq (a h l : Int) (h0 : 0 ≤ a) (h0' : a < 18446744073709551616) (h1 : h ≤ 63) (h2 : 0 ≤ l) (h3 : l ≤ h) :
    IntKind.u64.wrap (a * 2 ^ (63 - h).toNat) / 2 ^ (63 - h + l).toNat = fldV a h l := by
  obtain ⟨x, rfl⟩ := Int.eq_ofNat_of_zero_le h0
  obtain ⟨y, rfl⟩ := Int.eq_ofNat_of_zero_le h2
  obtain ⟨z, rfl⟩ := Int.eq_ofNat_of_zero_le (show 0 ≤ h by omega)
  have hf := fld_nat x z y (by omega) (by omega) (by omega)
  unfold fldV
  rw [if_neg (by omega), IntKind.wrap_u64, show (63 - (z : Int)).toNat = 63 - z by omega, show (63 - (z : Int) + y).toNat = 63 - z + y by omega,
    show ((z : Int) - y + 1).toNat = z - y + 1 by omega, show ((y : Int)).toNat = y from rfl,
    show (18446744073709551616 : Int) = ((18446744073709551616 : Nat) : Int) from rfl]
  generalize 18446744073709551616 = M at *
  exact_mod_cast hf

end Go.Proofs.YtnieomgopldlhaaGreatDoor
