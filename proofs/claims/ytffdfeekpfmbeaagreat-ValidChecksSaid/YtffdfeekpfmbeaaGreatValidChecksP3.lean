/- Plain: spans, as pairs of numbers: which are such, their last address, what they hold. -/
import Derived.Laws.Bits64
namespace Go.Proofs.YtffdfeekpfmbeaaGreat
open Go

def goodB (b n : Int) : Bool := decide (0 < n) && decide (n - 1 ≤ 18446744073709551615 - b)
def lastV (b n : Int) : Int := if goodB b n = true then b + (n - 1) else 0
def hasB (b n at' : Int) : Bool := goodB b n && decide (b ≤ at') && decide (at' ≤ lastV b n)
def withinB (b n c m : Int) : Bool := goodB b n && hasB c m b && hasB c m (lastV b n)
def overlapB (b n c m : Int) : Bool := goodB b n && goodB c m && (hasB b n c || hasB c m b)
/-- A word of 64 bits. -/
def W64 (a : Int) : Prop := 0 ≤ a ∧ a < 18446744073709551616

theorem goodB_iff {b n : Int} : goodB b n = true ↔ 0 < n ∧ b + (n - 1) < 18446744073709551616 := by
  unfold goodB; simp; omega
theorem lastV_yes {b n : Int} (h : goodB b n = true) : lastV b n = b + (n - 1) := by unfold lastV; rw [if_pos h]
theorem lastV_no {b n : Int} (h : goodB b n = false) : lastV b n = 0 := by unfold lastV; rw [if_neg (by rw [h]; simp)]
theorem hasB_iff {b n a : Int} : hasB b n a = true ↔ goodB b n = true ∧ b ≤ a ∧ a ≤ b + (n - 1) := by
  unfold hasB
  cases h : goodB b n
  · simp
  · rw [lastV_yes h]; simp
theorem withinB_iff {b n c m : Int} : withinB b n c m = true ↔ goodB b n = true ∧ goodB c m = true ∧ c ≤ b ∧ b + (n - 1) ≤ c + (m - 1) := by
  unfold withinB
  cases h : goodB b n
  · simp
  · have hi := goodB_iff.1 h
    simp only [Bool.true_and, Bool.and_eq_true, hasB_iff, lastV_yes h]
    constructor
    · rintro ⟨⟨h1, h2, h3⟩, _, h4, h5⟩; exact ⟨trivial, h1, h2, h5⟩
    · rintro ⟨_, h1, h2, h3⟩; exact ⟨⟨h1, h2, by omega⟩, h1, by omega, h3⟩
theorem overlapB_iff {b n c m : Int} : overlapB b n c m = true ↔ goodB b n = true ∧ goodB c m = true ∧ b ≤ c + (m - 1) ∧ c ≤ b + (n - 1) := by
  unfold overlapB
  cases h : goodB b n
  · simp
  · cases k : goodB c m
    · simp
    · have hi := goodB_iff.1 h
      have hk := goodB_iff.1 k
      simp only [Bool.true_and, Bool.or_eq_true, hasB_iff, h, k, true_and]
      omega
theorem overlapB_comm (b n c m : Int) : overlapB b n c m = overlapB c m b n := by
  rw [Bool.eq_iff_iff, overlapB_iff, overlapB_iff]; constructor <;> rintro ⟨h1, h2, h3, h4⟩ <;> exact ⟨h2, h1, h4, h3⟩
end Go.Proofs.YtffdfeekpfmbeaaGreat
