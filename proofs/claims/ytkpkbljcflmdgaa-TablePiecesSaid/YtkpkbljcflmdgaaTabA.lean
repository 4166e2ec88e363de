/- The walks of the sizes of blocks and of the level with which a part begins, the program's and the reference's. -/
import Derived.Test.YtkpkbljcflmdgaaMapC
namespace Go.Proofs.Ytkpkbljcflmdgaa
open Go Go.RowKit Go.BigFrame

def szK (k : Int) : Int := if k = 1 then 1073741824 else if k = 2 then 2097152 else if k = 3 then 4096 else 0
def lvB (x : M5) (k : Int) : Bool := decide (x.ipa % szK k = 0) && decide (x.pa % szK k = 0) && decide (szK k ≤ x.sz)
def lvM (x : M5) : Int := if lvB x 1 = true then 1 else if lvB x 2 = true then 2 else 3
theorem or_pow (a b : Int) (n : Nat) (ha : W64 a) (hb : W64 b) : (bits BinOp.or IntKind.u64 a b % ((2 ^ n : Nat) : Int) == 0) = (decide (a % ((2 ^ n : Nat) : Int) = 0) && decide (b % ((2 ^ n : Nat) : Int) = 0)) := by
  obtain ⟨ha0, ha1⟩ := ha
  obtain ⟨hb0, hb1⟩ := hb
  obtain ⟨x, rfl⟩ := Int.eq_ofNat_of_zero_le ha0
  obtain ⟨y, rfl⟩ := Int.eq_ofNat_of_zero_le hb0
  rw [bits_or_u64_nat _ _ (by omega) (by omega)]
  have h1 : (x ||| y) % 2 ^ n = (x % 2 ^ n) ||| (y % 2 ^ n) := Nat.or_mod_two_pow
  have h2 : ((x ||| y) % 2 ^ n = 0) ↔ x % 2 ^ n = 0 ∧ y % 2 ^ n = 0 := by rw [h1, Nat.or_eq_zero_iff]
  rw [Bool.eq_iff_iff, Bool.and_eq_true, decide_eq_true_iff, decide_eq_true_iff, beq_iff_eq]
  have c : ∀ z : Nat, ((z : Int) % ((2 ^ n : Nat) : Int) = 0) ↔ z % 2 ^ n = 0 := fun z => by
    rw [← Int.natCast_emod]; exact_mod_cast Iff.rfl
  rw [c, c, c, h2]

set_option maxHeartbeats 1000000 in
theorem size_any (k : Int) (w : World) (hk : k = 1 ∨ k = 2 ∨ k = 3) : Calls Try.prog 28 #[.int .i64 k] w fun e w' => e = .returned (.int .u64 (szK k)) ∧ w = w' := by
  rcases hk with rfl | rfl | rfl
  all_goals
    go_enter Try.func28, Try.ntmps28
    go_wp2_with fail
    go_ret
    exact ⟨rfl, rfl⟩
set_option maxHeartbeats 1000000 in
theorem refSize_any (k : Int) (w : World) (hk : k = 1 ∨ k = 2 ∨ k = 3) : Calls Try.prog 17 #[.int .i64 k] w fun e w' => e = .returned (.int .u64 (szK k)) ∧ w = w' := by
  rcases hk with rfl | rfl | rfl
  all_goals
    go_enter Try.func17, Try.ntmps17
    go_wp2_with fail
    go_ret
    exact ⟨rfl, rfl⟩
def M5.val (x : M5) : Value := .agg #[.int .u64 x.ipa, .int .u64 x.pa, .int .u64 x.sz, .int .i64 x.perm, .int .i64 x.kind]

set_option maxRecDepth 20000 in
set_option maxHeartbeats 4000000 in
theorem level_any (x : M5) (w : World) : Calls Try.prog 27 #[.agg #[.int .u64 x.ipa, .int .u64 x.pa, .int .u64 x.sz, .int .i64 x.perm, .int .i64 x.kind]] w fun e w' => e = .returned (.int .i64 (lvM x)) ∧ Below w.heap.size w w' := by
  have h1 := or_pow x.ipa x.pa 30 x.hi x.hp
  have h2 := or_pow x.ipa x.pa 21 x.hi x.hp
  rw [show ((2 ^ 30 : Nat) : Int) = 1073741824 from rfl] at h1
  rw [show ((2 ^ 21 : Nat) : Int) = 2097152 from rfl] at h2
  have e1 : lvB x 1 = ((bits BinOp.or IntKind.u64 x.ipa x.pa % 1073741824 == 0) && decide (1073741824 ≤ x.sz)) := by rw [h1]; rfl
  have e2 : lvB x 2 = ((bits BinOp.or IntKind.u64 x.ipa x.pa % 2097152 == 0) && decide (2097152 ≤ x.sz)) := by rw [h2]; rfl
  obtain ⟨m0, m1, m2, m3, m4⟩ := five_new w (.int .u64 x.ipa) (.int .u64 x.pa) (.int .u64 x.sz) (.int .i64 x.perm) (.int .i64 x.kind) 27
  have hb := bone w (.cells #[.int .u64 x.ipa, .int .u64 x.pa, .int .u64 x.sz, .int .i64 x.perm, .int .i64 x.kind] 27)
  have hor0 : 0 ≤ bits BinOp.or IntKind.u64 x.ipa x.pa := by
    obtain ⟨a, ha⟩ := Int.eq_ofNat_of_zero_le x.hi.1
    obtain ⟨b, hb⟩ := Int.eq_ofNat_of_zero_le x.hp.1
    have hA := x.hi.2
    have hB := x.hp.2
    rw [ha, hb, bits_or_u64_nat _ _ (by omega) (by omega)]
    omega
  have s1 := fun W => size_any 1 W (by omega)
  have s2 := fun W => size_any 2 W (by omega)
  change ∀ W, Calls _ _ _ W fun e w' => e = .returned (.int .u64 1073741824) ∧ W = w' at s1
  change ∀ W, Calls _ _ _ W fun e w' => e = .returned (.int .u64 2097152) ∧ W = w' at s2
  clear h1 h2
  have hl : lvM x = if lvB x 1 = true then 1 else if lvB x 2 = true then 2 else 3 := rfl
  replace e1 := Lib.hid e1
  replace e2 := Lib.hid e2
  replace hl := Lib.hid hl
  go_enter Try.func27, Try.ntmps27
  go_wp2_with fail
  go_loop [3] (fun i => (i = .int .i64 1) ∨ (i = .int .i64 2 ∧ lvB x 1 = false) ∨ (i = .int .i64 3 ∧ lvB x 1 = false ∧ lvB x 2 = false)) (fun i => 3 - (intOf i).toNat)
  case atStart => exact .inl rfl
  case round =>
    rcases hrel with rfl | ⟨rfl, hv1⟩ | ⟨rfl, hv1, hv2⟩
    · go_wp2_with fail
      refine (s1 _).mono ?_; rintro e w1 ⟨rfl, rfl⟩
      by_cases q1 : (bits BinOp.or IntKind.u64 x.ipa x.pa % 1073741824 == 0) = true
      · by_cases q2 : 1073741824 ≤ x.sz
        · have hr : lvM x = 1 := by rw [hl.out, e1.out, q1, decide_eq_true q2]; rfl
          replace hr := Lib.hid hr
          go_wp2_with fail
          go_ret
          exact ⟨by rw [hr.out]; rfl, hb⟩
        · have hn : lvB x 1 = false := by rw [e1.out, decide_eq_false q2]; simp
          replace hn := Lib.hid hn
          go_wp2_with fail
          exact ⟨.inr (.inl ⟨rfl, hn.out⟩), by simp [intOf]⟩
      · rw [Bool.not_eq_true] at q1
        have hn : lvB x 1 = false := by rw [e1.out, q1]; rfl
        replace hn := Lib.hid hn
        go_wp2_with fail
        exact ⟨.inr (.inl ⟨rfl, hn.out⟩), by simp [intOf]⟩
    · replace hv1 := Lib.hid hv1
      go_wp2_with fail
      refine (s2 _).mono ?_; rintro e w1 ⟨rfl, rfl⟩
      by_cases q1 : (bits BinOp.or IntKind.u64 x.ipa x.pa % 2097152 == 0) = true
      · by_cases q2 : 2097152 ≤ x.sz
        · have hr : lvM x = 2 := by rw [hl.out, hv1.out, e2.out, q1, decide_eq_true q2]; rfl
          replace hr := Lib.hid hr
          go_wp2_with fail
          go_ret
          exact ⟨by rw [hr.out]; rfl, hb⟩
        · have hn : lvB x 2 = false := by rw [e2.out, decide_eq_false q2]; simp
          replace hn := Lib.hid hn
          go_wp2_with fail
          exact ⟨.inr (.inr ⟨rfl, hv1.out, hn.out⟩), by simp [intOf]⟩
      · rw [Bool.not_eq_true] at q1
        have hn : lvB x 2 = false := by rw [e2.out, q1]; rfl
        replace hn := Lib.hid hn
        go_wp2_with fail
        exact ⟨.inr (.inr ⟨rfl, hv1.out, hn.out⟩), by simp [intOf]⟩
    · have hr : lvM x = 3 := by rw [hl.out, hv1, hv2]; rfl
      replace hr := Lib.hid hr
      clear hv1 hv2
      go_wp2_with fail
      go_ret
      exact ⟨by rw [hr.out]; rfl, hb⟩
end Go.Proofs.Ytkpkbljcflmdgaa
