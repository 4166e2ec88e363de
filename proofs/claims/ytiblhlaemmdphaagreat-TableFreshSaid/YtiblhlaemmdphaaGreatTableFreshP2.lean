/- Plain: spans, as pairs of numbers: which are such, their last address, what they hold. -/
import Derived.Laws.Bits64
import Derived.Test.YtiblhlaemmdphaaGreatTableFreshP1
namespace Go.Proofs.YtiblhlaemmdphaaGreat
open Go
def goodB (b n : Int) : Bool := decide (0 < n) && decide (n - 1 ≤ 18446744073709551615 - b)
def lastV (b n : Int) : Int := if goodB b n = true then b + (n - 1) else 0
def hasB (b n at' : Int) : Bool := goodB b n && decide (b ≤ at') && decide (at' ≤ lastV b n)
def withinB (b n c m : Int) : Bool := goodB b n && hasB c m b && hasB c m (lastV b n)
def overlapB (b n c m : Int) : Bool := goodB b n && goodB c m && (hasB b n c || hasB c m b)
def W64 (a : Int) : Prop := 0 ≤ a ∧ a < 18446744073709551616
theorem goodB_iff {b n : Int} : goodB b n = true ↔ 0 < n ∧ b + (n - 1) < 18446744073709551616 := by
 unfold goodB; simp; omega
theorem lastV_yes {b n : Int} (h : goodB b n = true) : lastV b n = b + (n - 1) := by unfold lastV; rw [if_pos h]
theorem lastV_no {b n : Int} (h : goodB b n = false) : lastV b n = 0 := by unfold lastV; rw [if_neg (by rw [h]; simp)]
theorem lastV_w {b n : Int} (hb : W64 b) (_hn : W64 n) : W64 (lastV b n) := by
 cases h : goodB b n
 ·rw [lastV_no h]; constructor <;> omega
 ·rw [lastV_yes h]; have := goodB_iff.1 h; unfold W64 at *; omega
theorem hasB_iff {b n a : Int} : hasB b n a = true ↔ goodB b n = true ∧ b ≤ a ∧ a ≤ b + (n - 1) := by
 unfold hasB
 cases h : goodB b n
 ·simp
 ·rw [lastV_yes h]; simp
theorem withinB_iff {b n c m : Int} : withinB b n c m = true ↔ goodB b n = true ∧ goodB c m = true ∧ c ≤ b ∧ b + (n - 1) ≤ c + (m - 1) := by
 unfold withinB
 cases h : goodB b n
 ·simp
 ·have hi := goodB_iff.1 h
  simp only [Bool.true_and, Bool.and_eq_true, hasB_iff, lastV_yes h]
  constructor
  ·rintro ⟨⟨h1, h2, h3⟩, _, h4, h5⟩; exact ⟨trivial, h1, h2, h5⟩
  ·rintro ⟨_, h1, h2, h3⟩; exact ⟨⟨h1, h2, by omega⟩, h1, by omega, h3⟩
theorem overlapB_iff {b n c m : Int} : overlapB b n c m = true ↔ goodB b n = true ∧ goodB c m = true ∧ b ≤ c + (m - 1) ∧ c ≤ b + (n - 1) := by
 unfold overlapB
 cases h : goodB b n
 ·simp
 ·cases k : goodB c m
  ·simp
  ·have hi := goodB_iff.1 h
   have hk := goodB_iff.1 k
   simp only [Bool.true_and, Bool.or_eq_true, hasB_iff, h, k, true_and]
   omega
end Go.Proofs.YtiblhlaemmdphaaGreat
/- Pairs of words of 64 bits (spans, ends), and slices of them in memory. -/
namespace Go.Proofs.YtiblhlaemmdphaaGreat
open Go Go.RowKit
structure Two where
 a : Int
 b : Int
 ha : W64 a
 hb : W64 b
instance : Inhabited Two := ⟨⟨0, 0, by unfold W64; omega, by unfold W64; omega⟩⟩
def Two.enc (x : Two) : List Value := [.int .u64 x.a, .int .u64 x.b]
theorem Two.ext {x y : Two} (h1 : x.a = y.a) (h2 : x.b = y.b) : x = y := by
 cases x; cases y; simp at h1 h2; subst h1 h2; rfl
theorem W64.mod (a : Int) : W64 (a % 18446744073709551616) := by unfold W64; omega
def tw (a b : Int) : Two := ⟨a % 18446744073709551616, b % 18446744073709551616, W64.mod a, W64.mod b⟩
theorem W64.eq {a : Int} (h : W64 a) : a % 18446744073709551616 = a := by unfold W64 at h; omega
def RowTwo (w : World) (v : Value) (l : List Two) : Prop :=
 ∃ (a : Option Addr) (cap : Nat), v = .slice a l.length cap ∧ l.length ≤ cap ∧ (l ≠ [] → ∃ b off, a = some ⟨b, off, none⟩ ∧ b < w.heap.size ∧
  ∀ i (h : i < l.length), w.cell? ⟨b, off + i * 2, none⟩ = some (.int .u64 l[i].a) ∧ w.cell? ⟨b, off + i * 2 + 1, none⟩ = some (.int .u64 l[i].b))
theorem RowTwo.below {w w' : World} {v : Value} {l : List Two} (h : RowTwo w v l) (hb : Below w.heap.size w w') : RowTwo w' v l := by
 obtain ⟨a, cap, h1, hc, h2⟩ := h
 refine ⟨a, cap, h1, hc, fun hl => ?_⟩
 obtain ⟨b, off, ha, hlt, hcell⟩ := h2 hl
 refine ⟨b, off, ha, Nat.lt_of_lt_of_le hlt hb.size, fun i hi => ?_⟩
 rw [hb.cell (p := ⟨b, _, none⟩) hlt, hb.cell (p := ⟨b, _, none⟩) hlt]; exact hcell i hi
theorem RowTwo.parts {w : World} {v : Value} {l : List Two} (h : RowTwo w v l) :
  (l = [] ∧ ∃ a cap, v = .slice a 0 cap) ∨ (0 < l.length ∧ ∃ b off cap, v = .slice (some ⟨b, off, none⟩) l.length cap ∧ l.length ≤ cap ∧ b < w.heap.size ∧
   ∀ i (h : i < l.length), w.cell? ⟨b, off + i * 2, none⟩ = some (.int .u64 l[i].a) ∧ w.cell? ⟨b, off + i * 2 + 1, none⟩ = some (.int .u64 l[i].b)) := by
 obtain ⟨a, cap, h1, hc, h2⟩ := h
 rcases l with _ | ⟨x, l⟩
 ·exact .inl ⟨rfl, a, cap, h1⟩
 ·obtain ⟨b, off, rfl, hlt, hcell⟩ := h2 (by simp)
  exact .inr ⟨by simp, b, off, cap, h1, hc, hlt, hcell⟩
theorem cells_enc {w : World} {b off : Nat} {l : List Two} (hcell : ∀ i (h : i < l.length), w.cell? ⟨b, off + i * 2, none⟩ = some (.int .u64 l[i].a) ∧ w.cell? ⟨b, off + i * 2 + 1, none⟩ = some (.int .u64 l[i].b)) :
  ∀ j, j < l.length → ∀ i v, (Two.enc l[j]!)[i]? = some v → w.cell? ⟨b, off + j * 2 + i, none⟩ = some v := by
 intro j hj i v hv
 rw [getElem!_pos l j hj] at hv
 rcases i with _ | _ | i
 ·simp [Two.enc] at hv; rw [← hv]; exact (hcell j hj).1
 ·simp [Two.enc] at hv; rw [← hv]; exact (hcell j hj).2
 ·simp [Two.enc] at hv
end Go.Proofs.YtiblhlaemmdphaaGreat
