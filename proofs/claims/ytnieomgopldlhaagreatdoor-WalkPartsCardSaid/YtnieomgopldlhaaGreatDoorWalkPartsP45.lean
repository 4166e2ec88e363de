/- Both memories side by side; words laid into both; chapter 19's Ram; chapter 20's example. -/
import Derived.Test.YtnieomgopldlhaaGreatDoorWalkPartsP26
import Derived.Test.YtnieomgopldlhaaGreatDoorWalkPartsP44
namespace Go.Proofs.YtnieomgopldlhaaGreatDoor
open Go Go.RowKit Go.BigFrame Go.Maps

/-- Both memories in one world, apart. -/
structure Both (B : Nat) (W : World) (mb pb rb : Nat) (pv : Value) (s z : Int) (L1 L2 : List Pg) : Prop where
  mp : MemP W mb pb s z L1
  mr : MemR W rb pv s z L2
  dj : ∀ b ∈ memBlks mb pb L1, b ∉ refBlks rb pv L2
  lo1 : ∀ b ∈ memBlks mb pb L1, B ≤ b
  lo2 : ∀ b ∈ refBlks rb pv L2, B ≤ b
theorem Both.below {B : Nat} {W W' : World} {mb pb rb : Nat} {pv : Value} {s z : Int} {L1 L2 : List Pg} (h : Both B W mb pb rb pv s z L1 L2) (hb : Below W.heap.size W W') : Both B W' mb pb rb pv s z L1 L2 :=
  ⟨h.mp.below hb (Nat.le_refl _), h.mr.below hb (Nat.le_refl _), h.dj, h.lo1, h.lo2⟩
theorem Both.mono {B C : Nat} {W : World} {mb pb rb : Nat} {pv : Value} {s z : Int} {L1 L2 : List Pg} (h : Both B W mb pb rb pv s z L1 L2) (hC : C ≤ B) : Both C W mb pb rb pv s z L1 L2 :=
  ⟨h.mp, h.mr, h.dj, fun b hb => Nat.le_trans hC (h.lo1 b hb), fun b hb => Nat.le_trans hC (h.lo2 b hb)⟩
def ramV (n : Int) : Int := (n % 1024 + 1) * 4096
theorem and1023 (n : Int) : bits .and .i64 n 1023 = n % 1024 := by
  have hc : (BitVec.ofInt 64 1023).toNat = 2 ^ 10 - 1 := by decide
  have key : (BitVec.ofInt 64 n &&& BitVec.ofInt 64 1023).toNat = (n % ((2 ^ 64 : Nat) : Int)).toNat % 2 ^ 10 := by
    rw [BitVec.toNat_and, BitVec.toNat_ofInt, hc, Nat.and_two_pow_sub_one_eq_mod]
  show IntKind.i64.wrap ((BitVec.ofInt 64 n &&& BitVec.ofInt 64 1023).toNat : Nat) = n % 1024
  rw [key, IntKind.wrap_i64]
  omega
set_option maxHeartbeats 1000000 in
theorem ram_any (n : Int) (w : World) :
    Calls Tryz.prog 9 #[.int .i64 n] w fun e w' => e = .returned (.tuple #[.agg #[.int .u64 1073741824, .int .u64 16777216], .agg #[.int .u64 1073741824, .int .u64 (ramV n)]]) ∧ Below w.heap.size w w' := by
  have he := and1023 n
  unfold ramV
  obtain ⟨M, hM⟩ : ∃ M, n % 1024 = M := ⟨_, rfl⟩
  have h0 : 0 ≤ M := by omega
  have h1 : M ≤ 1023 := by omega
  rw [hM] at he ⊢
  clear hM
  go_enter Tryz.func9, Tryz.ntmps9
  go_wp2_with fail
  refine bodyPost_ret (v := .tuple #[.agg #[.int .u64 1073741824, .int .u64 16777216], .agg #[.int .u64 1073741824, .int .u64 ((M + 1) * 4096)]]) (by simp [results, Tryz.results9, go_sem]) rfl ?_
  exact ⟨rfl, ((Below.refl _ w).alloc (Nat.le_refl _) _).alloc (by simp) _⟩
theorem awake_walk : walkV (wordV 1073741824 16777216 []) 1073741824 0 = (⟨0, 0, 0, 1⟩, 201) := by kernel_rfl
/-- The memory of the statements. -/
def ramT : Two := ⟨1073741824, 16777216, by unfold W64; omega, by unfold W64; omega⟩
theorem ram_ok : pageBad ramT = false ∧ lastV ramT.a ramT.b < 1099511627776 := ⟨by kernel_rfl, by decide⟩

set_option maxRecDepth 20000 in
set_option maxHeartbeats 2000000 in
theorem awake20_any (w : World) (hT : Tab3 w) : Calls Tryz.prog 7 #[] w fun e w' => e = .returned (.bool true) ∧ Below w.heap.size w w' := by
  have hn : ∀ W : World, Calls Tryz.prog 10 #[.agg #[.int .u64 1073741824, .int .u64 16777216], .slice none 0 0] W fun e w' =>
      ∃ mb pb, e = .returned (.tuple #[.pointer (some ⟨mb, 0, none⟩), .int .i64 0]) ∧ MemP w' mb pb 1073741824 16777216 [] ∧ Below W.heap.size W w' ∧ W.heap.size ≤ mb ∧ W.heap.size ≤ pb := fun W => newMem_any ramT W ram_ok.1 ram_ok.2
  go_enter Tryz.func7, Tryz.ntmps7
  go_wp2_with fail
  refine (ram_any _ _).mono ?_; rintro e w1 ⟨rfl, hb1⟩
  go_wp2_with fail
  obtain ⟨m0, m1⟩ := two_new w1 (.int .u64 1073741824) (.int .u64 16777216) 29
  have n0 := cell_lt (bone (w1.alloc (.cells #[.int .u64 1073741824, .int .u64 16777216] 29)) (.cells #[.int .u64 1073741824, .int .u64 (ramV 10)] 29)) m0 (by simp)
  have hb2 : Below w.heap.size w ((w1.alloc (.cells #[.int .u64 1073741824, .int .u64 16777216] 29)).alloc (.cells #[.int .u64 1073741824, .int .u64 (ramV 10)] 29)) := (hb1.alloc hb1.size _).alloc (by have := hb1.size; simp; omega) _
  have l1 : w1.heap.size < ((w1.alloc (.cells #[.int .u64 1073741824, .int .u64 16777216] 29)).alloc (.cells #[.int .u64 1073741824, .int .u64 (ramV 10)] 29)).heap.size := by simp; omega
  clear m0 m1
  generalize (w1.alloc (.cells #[.int .u64 1073741824, .int .u64 16777216] 29)).alloc (.cells #[.int .u64 1073741824, .int .u64 (ramV 10)] 29) = w2 at *
  refine (hn _).mono ?_; rintro e w3 ⟨mb, pb, rfl, hm, hb3, _, _⟩
  have hb4 := bthen hb2 hb3
  replace n0 := cell_lt hb3 n0 l1
  have hwk := walk_any mb pb 1073741824 16777216 1073741824 0 [] w3 hm (hT.below' hb4) (by unfold W64; omega) (by unfold W64; omega)
  rw [show (([] : List Pg).map Pg.ab) = [] from rfl, awake_walk] at hwk
  simp only [HitV.val] at hwk
  clear hn hm hb3 hb2 hb1
  go_wp2_with fail
  refine hwk.mono ?_; rintro e w5 ⟨rfl, hb5⟩
  clear hwk
  go_wp2_with fail
  go_ret
  exact ⟨rfl, (bthen hb4 hb5).alloc (bthen hb4 hb5).size _⟩

end Go.Proofs.YtnieomgopldlhaaGreatDoor
