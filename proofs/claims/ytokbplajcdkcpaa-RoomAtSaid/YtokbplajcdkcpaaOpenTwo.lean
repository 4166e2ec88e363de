/- Arguments opened: a slice of structs of two words; a struct of two words by value. -/
import Derived.Test.YtokbplajcdkcpaaTwo
import Derived.Deep.SlicePairs
import Derived.Deep.RegionHeld3
import Derived.Lib.SmallJoins
import Derived.ChangeArms
namespace Go.Proofs.Ytokbplajcdkcpaa
open Go Go.Joins Go.ChangeShapes Go.WideShapes Go.RowKit Go.Deep
section
variable {H : Type} {enc : TypeId × Value → H} {P : Program} {w : World} {base : Nat} {spare : Nat → Bool} {held : Bool}

theorem open_rowTwo {r : Reach} {b0 : Nat} {t e : TypeId} {f0 f1 : Field} {v : Value} {d : DataW H} {p : List MemPlace} (ht : P.underlying t = some (.slice e)) (he : P.underlying e = some (.struct #[f0, f1]))
    (ce : P.cellsOf e = 2) (o0 : f0.offset = 0) (o1 : f1.offset = 1) (c0 : P.cellsOf f0.type = 1) (c1 : P.cellsOf f1.type = 1) (k0 : P.underlying f0.type = some (.int .u64)) (k1 : P.underlying f1.type = some (.int .u64))
    (hv : Value.okWide P w r b0 t v) (h : DataW.Trod enc P w base spare held t v d p) : ∃ l : List Two, RowTwo w v l := by
  obtain ⟨a0, len, cap, rfl⟩ := okWide_slice ht hv
  obtain ⟨fuel, hf⟩ := h
  rcases open_slice_pairs ht he ce o0 o1 c0 c1 hf with ⟨hcs, _⟩ | ⟨a, len', cap', m, n, V0, V1, D0, D1, P0, P1, hcs, _, hl, hm, hmm, _, hx⟩
  · simp [Value.cells] at hcs
    obtain ⟨rfl, rfl, rfl⟩ := hcs
    exact ⟨[], none, 0, rfl, Nat.le_refl _, fun h => absurd rfl h⟩
  · simp [Value.cells] at hcs
    obtain ⟨rfl, rfl, rfl⟩ := hcs
    have hlm : len ≤ m := by rw [hmm]; split <;> omega
    obtain ⟨f, hF⟩ := choose_lt (n := len) (p := fun i (x : Two) => V0 i = .int .u64 x.a ∧ V1 i = .int .u64 x.b) (by
      intro i hi
      obtain ⟨_, _, g0, g1⟩ := hx i (by omega)
      obtain ⟨n0, e0, _, w0⟩ := DataW.trod_int k0 g0
      obtain ⟨n1, e1, _, w1⟩ := DataW.trod_int k1 g1
      refine ⟨⟨n0, n1, u64_bd w0, u64_bd w1⟩, ?_, ?_⟩
      · simpa using e0
      · simpa using e1)
    refine ⟨(List.range len).map f, some a, cap, by simp, by simpa using hl, fun hne => ?_⟩
    have hlen : 0 < len := by
      rcases Nat.eq_zero_or_pos len with rfl | h
      · simp at hne
      · exact h
    obtain ⟨b, off, spot⟩ := a
    have hs : spot = none := by simpa [Addr.add] using World.cell?_spot (hx 0 (by omega)).1
    subst hs
    have hb := World.block_lt_of_cell? w _ (hx 0 (by omega)).1
    refine ⟨b, off, rfl, by simpa [Addr.add] using hb, fun i hi => ?_⟩
    have hi' : i < len := by simpa using hi
    obtain ⟨h0, h1, _, _⟩ := hx i (by omega)
    obtain ⟨e0, e1⟩ := hF i hi'
    rw [Go.WideShapes.add_plain] at h0 h1
    have hg : ((List.range len).map f)[i] = f i := by simp
    rw [hg, ← e0, ← e1]
    exact ⟨h0, h1⟩

theorem open_two {r : Reach} {b0 : Nat} {t : TypeId} {f0 f1 : Field} {v : Value} {d : DataW H} {p : List MemPlace} (hs : P.underlying t = some (.struct #[f0, f1])) (hone : oneCellFields P #[f0, f1] = true) (hC : P.cellsOf t = 2)
    (k0 : P.underlying f0.type = some (.int .u64)) (k1 : P.underlying f1.type = some (.int .u64))
    (hv : Value.okWide P w r b0 t v) (h : DataW.Trod enc P w base spare held t v d p) : ∃ x : Two, v = .agg #[.int .u64 x.a, .int .u64 x.b] := by
  obtain ⟨v0, v1, y0, y1, n, rfl, _, _, h0, h1⟩ := open_agg2 hs hone hC hv h
  obtain ⟨n0, e0, _, w0⟩ := DataW.trod_int k0 h0
  obtain ⟨n1, e1, _, w1⟩ := DataW.trod_int k1 h1
  simp only [List.cons.injEq, and_true] at e0 e1
  subst e0 e1
  exact ⟨⟨n0, n1, u64_bd w0, u64_bd w1⟩, rfl⟩
end
end Go.Proofs.Ytokbplajcdkcpaa
