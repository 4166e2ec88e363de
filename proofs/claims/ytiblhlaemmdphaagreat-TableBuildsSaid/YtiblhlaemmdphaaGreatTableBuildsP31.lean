/- The reference's walk through tables. -/
import Derived.Test.YtiblhlaemmdphaaGreatTableBuildsP12
import Derived.Test.YtiblhlaemmdphaaGreatTableBuildsP25
namespace Go.Proofs.YtiblhlaemmdphaaGreat
open Go Go.RowKit Go.BigFrame Go.Maps
theorem and511 (a : Int) (h0 : 0 ≤ a) (h1 : a < 18446744073709551616) : bits BinOp.and IntKind.u64 a 511 = a % 512 := by
 obtain ⟨x, rfl⟩ := Int.eq_ofNat_of_zero_le h0
 have e : (511 : Int) = ((511 : Nat) : Int) := rfl
 rw [e, bits_and_u64_nat _ _ (by omega) (by omega)]
 have h := Nat.and_two_pow_sub_one_eq_mod x 9
 have e2 : (2 : Nat) ^ 9 - 1 = 511 := rfl
 rw [e2] at h
 rw [h]
 omega
end Go.Proofs.YtiblhlaemmdphaaGreat
/- Both memories side by side; words laid into both; chapter 19's Ram; chapter 20's example. -/
namespace Go.Proofs.YtiblhlaemmdphaaGreat
open Go Go.RowKit Go.BigFrame Go.Maps
structure Both (B : Nat) (W : World) (mb pb rb : Nat) (pv : Value) (s z : Int) (L1 L2 : List Pg) : Prop where
 mp : MemP W mb pb s z L1
 mr : MemR W rb pv s z L2
 dj : ∀ b ∈ memBlks mb pb L1, b ∉ refBlks rb pv L2
 lo1 : ∀ b ∈ memBlks mb pb L1, B ≤ b
 lo2 : ∀ b ∈ refBlks rb pv L2, B ≤ b
def ramV (n : Int) : Int := (n % 1024 + 1) * 4096
theorem and1023 (n : Int) : bits .and .i64 n 1023 = n % 1024 := by
 have hc : (BitVec.ofInt 64 1023).toNat = 2 ^ 10 - 1 := by decide
 have key : (BitVec.ofInt 64 n &&& BitVec.ofInt 64 1023).toNat = (n % ((2 ^ 64 : Nat) : Int)).toNat % 2 ^ 10 := by
  rw [BitVec.toNat_and, BitVec.toNat_ofInt, hc, Nat.and_two_pow_sub_one_eq_mod]
 show IntKind.i64.wrap ((BitVec.ofInt 64 n &&& BitVec.ofInt 64 1023).toNat : Nat) = n % 1024
 rw [key, IntKind.wrap_i64]
 omega
set_option maxHeartbeats 1000000 in
theorem ram_any (n : Int) (w : World) :
  Calls Tryz.prog 8 #[.int .i64 n] w fun e w' => e = .returned (.tuple #[.agg #[.int .u64 1073741824, .int .u64 16777216], .agg #[.int .u64 1073741824, .int .u64 (ramV n)]]) ∧ Below w.heap.size w w' := by
 have he := and1023 n
 unfold ramV
 obtain ⟨M, hM⟩ : ∃ M, n % 1024 = M := ⟨_, rfl⟩
 have h0 : 0 ≤ M := by omega
 have h1 : M ≤ 1023 := by omega
 rw [hM] at he ⊢
 clear hM
 go_enter Tryz.func8, Tryz.ntmps8
 go_wp2_with fail
 refine bodyPost_ret (v := .tuple #[.agg #[.int .u64 1073741824, .int .u64 16777216], .agg #[.int .u64 1073741824, .int .u64 ((M + 1) * 4096)]]) (by simp [results, Tryz.results8, go_sem]) rfl ?_
 exact ⟨rfl, ((Below.refl _ w).alloc (Nat.le_refl _) _).alloc (by simp) _⟩
def ramT : Two := ⟨1073741824, 16777216, by unfold W64; omega, by unfold W64; omega⟩
theorem ram_ok : pageBad ramT = false ∧ lastV ramT.a ramT.b < 1099511627776 := ⟨by kernel_rfl, by decide⟩
end Go.Proofs.YtiblhlaemmdphaaGreat
