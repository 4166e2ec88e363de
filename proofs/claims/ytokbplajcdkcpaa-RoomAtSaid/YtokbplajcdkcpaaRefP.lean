/- The walk of the reference's Pages. -/
import Derived.Test.YtokbplajcdkcpaaSpanC
import Derived.Test.YtokbplajcdkcpaaSpanD
import Derived.Laws.Bits64
namespace Go.Proofs.Ytokbplajcdkcpaa
open Go Go.RowKit Go.BigFrame

theorem or_mod (a b : Int) (ha : W64 a) (hb : W64 b) : (bits BinOp.or IntKind.u64 a b % 4096 != 0) = !(decide (a % 4096 = 0) && decide (b % 4096 = 0)) := by
  obtain ⟨ha0, ha1⟩ := ha
  obtain ⟨hb0, hb1⟩ := hb
  obtain ⟨x, rfl⟩ := Int.eq_ofNat_of_zero_le ha0
  obtain ⟨y, rfl⟩ := Int.eq_ofNat_of_zero_le hb0
  rw [bits_or_u64_nat _ _ (by omega) (by omega)]
  have h1 : (x ||| y) % 4096 = (x % 4096) ||| (y % 4096) := Nat.or_mod_two_pow (n := 12)
  have h2 : ((x ||| y) % 4096 = 0) ↔ x % 4096 = 0 ∧ y % 4096 = 0 := by rw [h1, Nat.or_eq_zero_iff]
  rw [Bool.eq_iff_iff]
  simp only [bne_iff_ne, ne_eq, Bool.not_eq_true', Bool.and_eq_false_iff, decide_eq_false_iff_not]
  have e1 : (((x ||| y : Nat) : Int) % 4096 = 0) ↔ (x ||| y) % 4096 = 0 := by omega
  rw [e1, h2]
  omega
theorem pageBad_not (x : Two) : (!(pageBad x)) = (goodB x.a x.b && (decide (x.a % 4096 = 0) && decide (x.b % 4096 = 0))) := by
  unfold pageBad
  rw [or_mod _ _ x.ha x.hb]
  cases goodB x.a x.b <;> simp

set_option maxHeartbeats 1000000 in
theorem refPages_any (x : Two) (w : World) : Calls Try.prog 60 #[.agg #[.int .u64 x.a, .int .u64 x.b]] w fun e w' => e = .returned (.bool (!(pageBad x))) ∧ Below w.heap.size w w' := by
  rw [pageBad_not]
  have hxa := x.ha.1
  have hxb := x.hb.1
  cases hg : goodB x.a x.b
  · go_enter Try.func60, Try.ntmps60
    go_wp2_with fail
    refine (refGood_any _ _ _ x.ha x.hb).mono ?_; rintro e1 w1 ⟨rfl, hb1⟩
    rw [hg]
    go_wp2_with fail
    go_ret
    exact ⟨rfl, bnew hb1⟩
  · by_cases h1 : x.a % 4096 = 0
    all_goals
      go_enter Try.func60, Try.ntmps60
      go_wp2_with fail
      refine (refGood_any _ _ _ x.ha x.hb).mono ?_; rintro e1 w1 ⟨rfl, hb1⟩
      have c0 : w1.cell? ⟨w.heap.size, 0, none⟩ = some (.int .u64 x.a) := cell_lt hb1 (by simp [World.cell?_alloc_new]) (by simp)
      have c1 : w1.cell? ⟨w.heap.size, 1, none⟩ = some (.int .u64 x.b) := cell_lt hb1 (by simp [World.cell?_alloc_new]) (by simp)
      have hW : Below w.heap.size w w1 := bnew hb1
      rw [hg]
      clear hb1
      first | (have q : (x.a % 4096 == 0) = true := by simpa using h1) | (have q : (x.a % 4096 == 0) = false := by simpa using h1)
      go_wp2_with fail
      go_ret
      exact ⟨ret_bool (by rw [Bool.eq_iff_iff]; simp [h1]), hW⟩

end Go.Proofs.Ytokbplajcdkcpaa
