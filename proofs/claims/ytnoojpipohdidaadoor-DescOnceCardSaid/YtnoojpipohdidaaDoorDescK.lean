/- Plain: what is put is read as it was. Conditions: the descriptor may be. -/
import Derived.Test.YtnoojpipohdidaaDoorDescI
import Derived.Test.YtnoojpipohdidaaDoorDescE
namespace Go.Proofs.YtnoojpipohdidaaDoor
open Go.RowKit

theorem or_gap (x y i k : Nat) (hx : x / 2 ^ i % 2 ^ k = 0) (hy : y < 2 ^ k) : x ||| (y * 2 ^ i) = x + y * 2 ^ i := by
  have hl : x % 2 ^ i < 2 ^ i := Nat.mod_lt _ (Nat.two_pow_pos _)
  have hpow : 2 ^ (i + k) = 2 ^ i * 2 ^ k := Nat.pow_add _ _ _
  have hX : x = 2 ^ (i + k) * (x / 2 ^ i / 2 ^ k) + x % 2 ^ i := by
    have h1 := Nat.div_add_mod x (2 ^ i)
    have h2 := Nat.div_add_mod (x / 2 ^ i) (2 ^ k)
    rw [hx, Nat.add_zero] at h2
    rw [hpow, Nat.mul_assoc, h2]; exact h1.symm
  generalize x / 2 ^ i / 2 ^ k = h at *
  generalize hlx : x % 2 ^ i = l at *
  have hll : l < 2 ^ (i + k) := Nat.lt_of_lt_of_le hl (Nat.pow_le_pow_right (by decide) (by omega))
  have hs : 2 ^ i * y + l < 2 ^ (i + k) := by
    rw [hpow]
    have : 2 ^ i * (y + 1) ≤ 2 ^ i * 2 ^ k := Nat.mul_le_mul_left _ hy
    rw [Nat.mul_add] at this; omega
  have e1 := Nat.two_pow_add_eq_or_of_lt hll h
  have e2 := Nat.two_pow_add_eq_or_of_lt hl y
  have e3 := Nat.two_pow_add_eq_or_of_lt hs h
  have hX' := hX
  rw [e1] at hX
  rw [hX, Nat.mul_comm y, Nat.or_assoc, Nat.or_comm l, ← e2, ← e3, ← e1]; omega

/-- A step of 'joined', where the field's bits are free. -/
theorem join_step (x y : Int) (i k : Nat) (hx0 : 0 ≤ x) (hx1 : x + y * 2 ^ i < 18446744073709551616) (hx : x / 2 ^ i % 2 ^ k = 0) (hy0 : 0 ≤ y) (hy : y < 2 ^ k) :
    bits BinOp.or IntKind.u64 x (IntKind.u64.wrap (y * 2 ^ i)) = x + y * 2 ^ i := by
  obtain ⟨a, rfl⟩ := Int.eq_ofNat_of_zero_le hx0
  obtain ⟨b, rfl⟩ := Int.eq_ofNat_of_zero_le hy0
  have e : ((b : Int) * 2 ^ i) = ((b * 2 ^ i : Nat) : Int) := by exact_mod_cast rfl
  rw [e] at hx1 ⊢
  have hw : IntKind.u64.wrap ((b * 2 ^ i : Nat) : Int) = ((b * 2 ^ i : Nat) : Int) := by rw [IntKind.wrap_u64]; omega
  rw [hw, bits_or_u64_nat _ _ (by omega) (by omega), or_gap a b i k (by exact_mod_cast hx) (by exact_mod_cast hy)]
  exact_mod_cast rfl

theorem join_lit (x y i p k : Int) (q : Nat) (hi : i.toNat = q) (hp : (2 : Int) ^ q = p) (m : Nat) (hm : (2 : Int) ^ m = k) (hx0 : 0 ≤ x) (hx1 : x + y * p < 18446744073709551616) (hx : x / p % k = 0) (hy0 : 0 ≤ y) (hy : y < k) :
    bits BinOp.or IntKind.u64 x (IntKind.u64.wrap (y * 2 ^ i.toNat)) = x + y * p := by
  subst hp hm hi
  exact join_step x y _ _ hx0 hx1 hx hy0 hy

theorem oneV_bd (b : Bool) : oneV b = 0 ∨ oneV b = 1 := by cases b <;> simp [oneV]

theorem leaf_sum (q o3 kn sh r wr a x : Int) (hq : 0 ≤ q) (hq' : q < 268435456) (h3 : 0 ≤ o3 ∧ o3 ≤ 1) (hk : 0 ≤ kn ∧ kn ≤ 15) (hs : 0 ≤ sh ∧ sh ≤ 3) (hr : 0 ≤ r ∧ r ≤ 1) (hw : 0 ≤ wr ∧ wr ≤ 1) (ha : 0 ≤ a ∧ a ≤ 1) (hx : 0 ≤ x ∧ x ≤ 1) :
    joinV [(0, 4096 * q), (0, 1), (1, o3), (2, kn), (8, sh), (6, r), (7, wr), (10, a), (54, x)] =
      4096 * q + 1 + o3 * 2 + kn * 4 + sh * 256 + r * 64 + wr * 128 + a * 1024 + x * 18014398509481984 := by
  have e0 := join_lit 0 (4096 * q) 0 1 1099511627776 0 rfl rfl 40 rfl (by omega) (by omega) (by omega) (by omega) (by omega)
  have e1 := join_lit (4096 * q) 1 0 1 4096 0 rfl rfl 12 rfl (by omega) (by omega) (by omega) (by omega) (by omega)
  have e2 := join_lit (4096 * q + 1 * 1) o3 1 2 2 1 rfl rfl 1 rfl (by omega) (by omega) (by omega) (by omega) (by omega)
  have e3 := join_lit (4096 * q + 1 * 1 + o3 * 2) kn 2 4 16 2 rfl rfl 4 rfl (by omega) (by omega) (by omega) (by omega) (by omega)
  have e4 := join_lit (4096 * q + 1 * 1 + o3 * 2 + kn * 4) sh 8 256 4 8 rfl rfl 2 rfl (by omega) (by omega) (by omega) (by omega) (by omega)
  have e5 := join_lit (4096 * q + 1 * 1 + o3 * 2 + kn * 4 + sh * 256) r 6 64 2 6 rfl rfl 1 rfl (by omega) (by omega) (by omega) (by omega) (by omega)
  have e6 := join_lit (4096 * q + 1 * 1 + o3 * 2 + kn * 4 + sh * 256 + r * 64) wr 7 128 2 7 rfl rfl 1 rfl (by omega) (by omega) (by omega) (by omega) (by omega)
  have e7 := join_lit (4096 * q + 1 * 1 + o3 * 2 + kn * 4 + sh * 256 + r * 64 + wr * 128) a 10 1024 2 10 rfl rfl 1 rfl (by omega) (by omega) (by omega) (by omega) (by omega)
  have e8 := join_lit (4096 * q + 1 * 1 + o3 * 2 + kn * 4 + sh * 256 + r * 64 + wr * 128 + a * 1024) x 54 18014398509481984 2 54 rfl rfl 1 rfl (by omega) (by omega) (by omega) (by omega) (by omega)
  simp only [joinV, List.foldl_cons, List.foldl_nil]
  rw [e0, show 0 + 4096 * q * 1 = 4096 * q by omega, e1, e2, e3, e4, e5, e6, e7, e8]; omega
end Go.Proofs.YtnoojpipohdidaaDoor
