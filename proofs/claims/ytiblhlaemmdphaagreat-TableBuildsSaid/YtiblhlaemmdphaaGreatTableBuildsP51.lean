/- Arguments opened: a slice of structs of one-cell fields, whatever the number of their fields; a slice of maps. -/
import Derived.Deep.SlicePairs
import Derived.Deep.RegionHeld3
import Derived.Lib.SmallJoins
import Derived.ChangeArms
import Derived.Test.YtiblhlaemmdphaaGreatTableBuildsP2
import Derived.Test.YtiblhlaemmdphaaGreatTableBuildsP13
import Derived.Test.YtiblhlaemmdphaaGreatTableBuildsP44
namespace Go.Proofs.YtiblhlaemmdphaaGreat
open Go Go.Joins Go.ChangeShapes Go.WideShapes Go.RowKit Go.Deep
section
variable {H : Type} {enc : TypeId × Value → H} {P : Program} {w : World} {base : Nat} {spare : Nat → Bool} {held : Bool}
theorem open_rowS {r : Reach} {b0 : Nat} {t e : TypeId} {fs : Array Field} {v : Value} {d : DataW H} {p : List MemPlace} (ht : P.underlying t = some (.slice e)) (he : P.underlying e = some (.struct fs)) (hone : oneCellFields P fs = true) (hC : P.cellsOf e = fs.size) (h0 : 0 < fs.size)
  (hv : Value.okWide P w r b0 t v) (h : DataW.Trod enc P w base spare held t v d p) :
  ∃ (a : Option Addr) (len cap : Nat), v = .slice a len cap ∧ len ≤ cap ∧ cap ≤ maxLen ∧ (0 < len → ∃ b off, a = some ⟨b, off, none⟩ ∧ b < w.heap.size ∧
   ∀ i, i < len → ∀ (j : Nat) (f : Field), fs[j]? = some f → ∃ (c : Value) (y : DataW H × List MemPlace) (n : Nat), w.cell? ⟨b, off + i * fs.size + j, none⟩ = some c ∧ DataW.trod enc P w base spare held n f.type [c] = some y) := by
 obtain ⟨a0, len, cap, rfl⟩ := okWide_slice ht hv
 obtain ⟨fuel, hf⟩ := h
 rcases open_slice ht hf with ⟨hcs, _⟩ | ⟨a, len', cap', m, n, D, Pl, hcs, hb, hl, hm, hmm, _, hx⟩
 ·simp [Value.cells] at hcs
  obtain ⟨rfl, rfl, rfl⟩ := hcs
  exact ⟨none, 0, 0, rfl, Nat.le_refl _, by unfold maxLen; omega, fun h => by omega⟩
 ·simp [Value.cells] at hcs
  obtain ⟨rfl, rfl, rfl⟩ := hcs
  have hlm : len ≤ m := by rw [hmm]; split <;> omega
  have each : ∀ i, i < len → ∀ (j : Nat) (f : Field), fs[j]? = some f → ∃ (c : Value) (y : DataW H × List MemPlace) (n : Nat), w.cell? (a.add (i * fs.size + j)) = some c ∧ DataW.trod enc P w base spare held n f.type [c] = some y := by
   intro i hi j f hj
   obtain ⟨cs', h1, h2⟩ := hx i (by omega)
   rw [hC] at h1
   obtain ⟨_, hlen, hcell⟩ := World.cells?_some h1
   obtain ⟨xs, k, hk, hxy, _, hxl, hg⟩ := DataW.trod_struct he h2
   obtain ⟨ho, hk1⟩ := hone_of hone j f hj
   have hjl : j < fs.size := (Array.getElem?_eq_some_iff.1 hj).1
   have hc : cs'[j]? = some (cs'[j]'(by omega)) := List.getElem?_eq_getElem (by omega)
   have h3 := hg j f hj
   rw [ho, hk1, one_of_drop hc] at h3
   have e0 := hcell j hjl
   rw [add_add] at e0
   exact ⟨_, _, k, by rw [e0]; first | exact hc | rfl, h3.trans (List.getElem?_eq_getElem (by omega))⟩
  refine ⟨some a, len, cap, rfl, hl, hm, fun hpos => ?_⟩
  obtain ⟨f0, hf0⟩ : ∃ f0, fs[0]? = some f0 := ⟨fs[0], by simp [h0]⟩
  obtain ⟨c, _, _, h1, _⟩ := each 0 hpos 0 f0 hf0
  obtain ⟨b, off, spot⟩ := a
  have hs : spot = none := by simpa [Addr.add] using World.cell?_spot h1
  subst hs
  have hb := World.block_lt_of_cell? w _ h1
  refine ⟨b, off, rfl, by simpa [Addr.add] using hb, fun i hi j f hj => ?_⟩
  obtain ⟨c, y, n, h1, h2⟩ := each i hi j f hj
  rw [Go.WideShapes.add_plain] at h1
  rw [← Nat.add_assoc] at h1
  exact ⟨c, y, n, h1, h2⟩
theorem open_rowM {r : Reach} {b0 : Nat} {t e : TypeId} {f0 f1 f2 f3 f4 : Field} {v : Value} {d : DataW H} {p : List MemPlace} (ht : P.underlying t = some (.slice e)) (he : P.underlying e = some (.struct #[f0, f1, f2, f3, f4])) (hone : oneCellFields P #[f0, f1, f2, f3, f4] = true) (hC : P.cellsOf e = 5)
  (k0 : P.underlying f0.type = some (.int .u64)) (k1 : P.underlying f1.type = some (.int .u64)) (k2 : P.underlying f2.type = some (.int .u64)) (k3 : P.underlying f3.type = some (.int .i64)) (k4 : P.underlying f4.type = some (.int .i64))
  (hv : Value.okWide P w r b0 t v) (h : DataW.Trod enc P w base spare held t v d p) : ∃ l : List M5, RowM w v l ∧ l.length ≤ 9223372036854775807 := by
 obtain ⟨a, len, cap, rfl, hl, hm, hx⟩ := open_rowS ht he hone hC (by simp) hv h
 rcases Nat.eq_zero_or_pos len with rfl | hpos
 ·exact ⟨[], ⟨a, cap, rfl, hl, fun h => absurd rfl h⟩, by simp⟩
 obtain ⟨b, off, rfl, hb, hx⟩ := hx hpos
 obtain ⟨f, hF⟩ := choose_lt (n := len) (p := fun i (x : M5) => w.cell? ⟨b, off + i * 5, none⟩ = some (.int .u64 x.ipa) ∧ w.cell? ⟨b, off + i * 5 + 1, none⟩ = some (.int .u64 x.pa) ∧ w.cell? ⟨b, off + i * 5 + 2, none⟩ = some (.int .u64 x.sz) ∧ w.cell? ⟨b, off + i * 5 + 3, none⟩ = some (.int .i64 x.perm) ∧ w.cell? ⟨b, off + i * 5 + 4, none⟩ = some (.int .i64 x.kind)) (by
  intro i hi
  obtain ⟨c0, y0, n0, e0, g0⟩ := hx i hi 0 f0 rfl
  obtain ⟨c1, y1, n1, e1, g1⟩ := hx i hi 1 f1 rfl
  obtain ⟨c2, y2, n2, e2, g2⟩ := hx i hi 2 f2 rfl
  obtain ⟨c3, y3, n3, e3, g3⟩ := hx i hi 3 f3 rfl
  obtain ⟨c4, y4, n4, e4, g4⟩ := hx i hi 4 f4 rfl
  obtain ⟨x0, q0, _, w0⟩ := DataW.trod_int k0 g0
  obtain ⟨x1, q1, _, w1⟩ := DataW.trod_int k1 g1
  obtain ⟨x2, q2, _, w2⟩ := DataW.trod_int k2 g2
  obtain ⟨x3, q3, _, w3⟩ := DataW.trod_int k3 g3
  obtain ⟨x4, q4, _, w4⟩ := DataW.trod_int k4 g4
  simp only [List.cons.injEq, and_true] at q0 q1 q2 q3 q4
  subst q0 q1 q2 q3 q4
  exact ⟨⟨x0, x1, x2, x3, x4, u64_bd w0, u64_bd w1, u64_bd w2⟩, e0, e1, e2, e3, e4⟩)
 refine ⟨(List.range len).map f, ⟨some ⟨b, off, none⟩, cap, by simp, by simpa using hl, fun hne => ⟨b, off, rfl, hb, fun i hi => ?_⟩⟩, by unfold maxLen at hm; simp; omega⟩
 have hi' : i < len := by simpa using hi
 have hg : ((List.range len).map f)[i] = f i := by simp
 rw [hg]
 exact hF i hi'
end
end Go.Proofs.YtiblhlaemmdphaaGreat
