/- A board, opened. -/
import Derived.Test.YtffdfeekpfmbeaaGreatValidChecksP5
import Derived.Test.YtffdfeekpfmbeaaGreatValidChecksP13
namespace Go.Proofs.YtffdfeekpfmbeaaGreat
open Go Go.Joins Go.ChangeShapes Go.WideShapes Go.RowKit Go.Deep

section
variable {H : Type} {enc : TypeId × Value → H} {w : World} {base : Nat} {spare : Nat → Bool} {held : Bool}
theorem list7 {α : Type} {l : List α} (h : l.length = 7) : ∃ a b c d e f g, l = [a, b, c, d, e, f, g] := by
  match l, h with
  | [a, b, c, d, e, f, g], _ => exact ⟨a, b, c, d, e, f, g, rfl⟩
theorem open_span2 (n : Nat) (a c : Value) (y : DataW H × List MemPlace) (h : DataW.trod enc Tryz.prog w base spare held n 24 [a, c] = some y) : ∃ x : Two, a = .int .u64 x.a ∧ c = .int .u64 x.b := by
  obtain ⟨xs, m, _, _, _, hxl, hg⟩ := DataW.trod_struct Tryz.underlying24 h
  have g0 := hg 0 _ rfl
  have g1 := hg 1 _ rfl
  have hsz : xs.length = 2 := hxl
  rw [List.getElem?_eq_getElem (by omega)] at g0 g1
  obtain ⟨n0, e0, _, w0⟩ := DataW.trod_int Tryz.underlying22 g0
  obtain ⟨n1, e1, _, w1⟩ := DataW.trod_int Tryz.underlying22 g1
  have k1 : Tryz.prog.cellsOf 22 = 1 := by kernel_rfl
  simp [k1] at e0 e1
  subst e0 e1
  exact ⟨⟨n0, n1, u64_bd w0, u64_bd w1⟩, rfl, rfl⟩
set_option maxRecDepth 20000 in
theorem open_board {r : Reach} {b0 : Nat} {v : Value} {d : DataW H} {p : List MemPlace} (hv : Value.okWide Tryz.prog w r b0 26 v) (h : DataW.Trod enc Tryz.prog w base spare held 26 v d p) :
    ∃ b : BrdV, v = .agg #[.int .u64 b.ram.a, .int .u64 b.ram.b, .int .u64 b.ldr.a, .int .u64 b.ldr.b, .int .i64 b.irqs, .int .i64 b.strs, .int .i64 b.cpus] := by
  obtain ⟨cs, rfl, hsz⟩ := okWide_struct Tryz.underlying26 hv
  have k7 : Tryz.prog.cellsOf 26 = 7 := by kernel_rfl
  rw [k7] at hsz
  obtain ⟨fuel, hf⟩ := h
  obtain ⟨xs, m, _, _, _, hxl, hg⟩ := DataW.trod_struct Tryz.underlying26 hf
  obtain ⟨c0, c1, c2, c3, c4, c5, c6, hcs⟩ := list7 (l := cs.toList) (by simpa using hsz)
  obtain rfl : cs = #[c0, c1, c2, c3, c4, c5, c6] := by
    have := congrArg List.toArray hcs
    simpa using this
  have k1 : Tryz.prog.cellsOf 24 = 2 := by kernel_rfl
  have k2 : Tryz.prog.cellsOf 3 = 1 := by kernel_rfl
  have g0 : DataW.trod enc Tryz.prog w base spare held m 24 (([c0, c1, c2, c3, c4, c5, c6].drop 0).take (Tryz.prog.cellsOf 24)) = xs[0]? := hg 0 _ rfl
  have g1 : DataW.trod enc Tryz.prog w base spare held m 24 (([c0, c1, c2, c3, c4, c5, c6].drop 2).take (Tryz.prog.cellsOf 24)) = xs[1]? := hg 1 _ rfl
  have g2 := hg 2 _ rfl
  have g3 := hg 3 _ rfl
  have g4 := hg 4 _ rfl
  have hsz : xs.length = 5 := hxl
  rw [List.getElem?_eq_getElem (by omega)] at g0 g1 g2 g3 g4
  rw [k1] at g0 g1
  obtain ⟨x0, rfl, rfl⟩ := open_span2 _ _ _ _ (show DataW.trod enc Tryz.prog w base spare held m 24 [c0, c1] = _ from g0)
  obtain ⟨x1, rfl, rfl⟩ := open_span2 _ _ _ _ (show DataW.trod enc Tryz.prog w base spare held m 24 [c2, c3] = _ from g1)
  obtain ⟨n2, e2, _, w2⟩ := DataW.trod_int Tryz.underlying3 g2
  obtain ⟨n3, e3, _, w3⟩ := DataW.trod_int Tryz.underlying3 g3
  obtain ⟨n4, e4, _, w4⟩ := DataW.trod_int Tryz.underlying3 g4
  simp [k2, Value.cells] at e2 e3 e4
  subst e2 e3 e4
  exact ⟨⟨x0, x1, n2, n3, n4⟩, rfl⟩
end
end Go.Proofs.YtffdfeekpfmbeaaGreat
