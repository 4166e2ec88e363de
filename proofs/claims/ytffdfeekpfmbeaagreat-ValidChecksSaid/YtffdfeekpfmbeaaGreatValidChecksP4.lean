/- Pairs of words of 64 bits (spans, ends), and slices of them in memory. -/
import Derived.Test.YtffdfeekpfmbeaaGreatValidChecksP2
import Derived.Test.YtffdfeekpfmbeaaGreatValidChecksP3
namespace Go.Proofs.YtffdfeekpfmbeaaGreat
open Go Go.RowKit

/-- Two words. -/
structure Two where
  a : Int
  b : Int
  ha : W64 a
  hb : W64 b
instance : Inhabited Two := ⟨⟨0, 0, by unfold W64; omega, by unfold W64; omega⟩⟩
def Two.enc (x : Two) : List Value := [.int .u64 x.a, .int .u64 x.b]
/-- The slice 'v' reads as the list. -/
def RowTwo (w : World) (v : Value) (l : List Two) : Prop :=
  ∃ (a : Option Addr) (cap : Nat), v = .slice a l.length cap ∧ l.length ≤ cap ∧ (l ≠ [] → ∃ b off, a = some ⟨b, off, none⟩ ∧ b < w.heap.size ∧
    ∀ i (h : i < l.length), w.cell? ⟨b, off + i * 2, none⟩ = some (.int .u64 l[i].a) ∧ w.cell? ⟨b, off + i * 2 + 1, none⟩ = some (.int .u64 l[i].b))

theorem RowTwo.below {w w' : World} {v : Value} {l : List Two} (h : RowTwo w v l) (hb : Below w.heap.size w w') : RowTwo w' v l := by
  obtain ⟨a, cap, h1, hc, h2⟩ := h
  refine ⟨a, cap, h1, hc, fun hl => ?_⟩
  obtain ⟨b, off, ha, hlt, hcell⟩ := h2 hl
  refine ⟨b, off, ha, Nat.lt_of_lt_of_le hlt hb.size, fun i hi => ?_⟩
  rw [hb.cell (p := ⟨b, _, none⟩) hlt, hb.cell (p := ⟨b, _, none⟩) hlt]; exact hcell i hi

/-- A slice of no elements, or one of some, with its cells. -/
theorem RowTwo.parts {w : World} {v : Value} {l : List Two} (h : RowTwo w v l) :
    (l = [] ∧ ∃ a cap, v = .slice a 0 cap) ∨ (0 < l.length ∧ ∃ b off cap, v = .slice (some ⟨b, off, none⟩) l.length cap ∧ l.length ≤ cap ∧ b < w.heap.size ∧
      ∀ i (h : i < l.length), w.cell? ⟨b, off + i * 2, none⟩ = some (.int .u64 l[i].a) ∧ w.cell? ⟨b, off + i * 2 + 1, none⟩ = some (.int .u64 l[i].b)) := by
  obtain ⟨a, cap, h1, hc, h2⟩ := h
  rcases l with _ | ⟨x, l⟩
  · exact .inl ⟨rfl, a, cap, h1⟩
  · obtain ⟨b, off, rfl, hlt, hcell⟩ := h2 (by simp)
    exact .inr ⟨by simp, b, off, cap, h1, hc, hlt, hcell⟩

/-- A prefix. -/
theorem RowTwo.take {w : World} {a : Option Addr} {n cap : Nat} {l : List Two} (h : RowTwo w (.slice a n cap) l) (k : Nat) (hk : k ≤ n) : RowTwo w (.slice a k cap) (l.take k) := by
  obtain ⟨a', cap', h1, hc, h2⟩ := h
  simp only [Value.slice.injEq] at h1
  obtain ⟨rfl, rfl, rfl⟩ := h1
  refine ⟨a, cap, by rw [List.length_take, Nat.min_eq_left hk], by rw [List.length_take]; omega, fun hl => ?_⟩
  have hne : l ≠ [] := by rintro rfl; simp at hl
  obtain ⟨b, off, ha, hlt, hcell⟩ := h2 hne
  refine ⟨b, off, ha, hlt, fun i hi => ?_⟩
  rw [List.length_take] at hi
  rw [List.getElem_take]
  exact hcell i (by omega)

theorem cells_enc {w : World} {b off : Nat} {l : List Two} (hcell : ∀ i (h : i < l.length), w.cell? ⟨b, off + i * 2, none⟩ = some (.int .u64 l[i].a) ∧ w.cell? ⟨b, off + i * 2 + 1, none⟩ = some (.int .u64 l[i].b)) :
    ∀ j, j < l.length → ∀ i v, (Two.enc l[j]!)[i]? = some v → w.cell? ⟨b, off + j * 2 + i, none⟩ = some v := by
  intro j hj i v hv
  rw [getElem!_pos l j hj] at hv
  rcases i with _ | _ | i
  · simp [Two.enc] at hv; rw [← hv]; exact (hcell j hj).1
  · simp [Two.enc] at hv; rw [← hv]; exact (hcell j hj).2
  · simp [Two.enc] at hv
end Go.Proofs.YtffdfeekpfmbeaaGreat
