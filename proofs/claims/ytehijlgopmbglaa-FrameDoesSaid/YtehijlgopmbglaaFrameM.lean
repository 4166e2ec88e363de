/- The program's pool and the reference's side by side: what each one's Run leaves of the other. -/
import Derived.Test.YtehijlgopmbglaaFrameK
import Derived.Test.YtehijlgopmbglaaFrameF
namespace Go.Proofs.Ytehijlgopmbglaa
open Go Go.RowKit Go.BigFrame

/-- Both pools lie in memory, apart, behind block 'N'. -/
structure Pair (N : Nat) (w1 : World) (B C : Nat) (wr : World) (vu : Value) (p : Pl) (vr : Value) (s : Two) (U : List Int) : Prop where
  pp : PoolAt wr B vu p
  rr : RPoolAt wr C vr s U
  bel : Below N w1 wr
  ne : B ≠ C
  b0 : N ≤ B
  c0 : N ≤ C
  pu : ∀ q, vu.ownBlock = some q → q ≠ C ∧ vr.ownBlock ≠ some q
  ru : ∀ q, vr.ownBlock = some q → q ≠ B
theorem RPoolAt.own_lt {w : World} {B : Nat} {v : Value} {s : Two} {U : List Int} (h : RPoolAt w B v s U) : ∀ k, v.ownBlock = some k → B + 1 ≤ k ∧ k < w.heap.size := World.ownsRow.lt h.own
theorem Kept.belowR {base B : Nat} {v : Value} {s : Two} {U : List Int} {w w' : World} (h : Kept B v w w') (hp : RPoolAt w B v s U) (hB : base ≤ B) : Below base w w' :=
  ⟨h.os, h.tape, h.output, h.size, fun k hk => by
    have hBl := hp.lt
    refine h.block k (by omega) (by omega) (fun e => ?_)
    have := hp.own_lt k e; omega⟩
theorem Pair.below {N : Nat} {w1 : World} {B C : Nat} {w w' : World} {vu : Value} {p : Pl} {vr : Value} {s : Two} {U : List Int} (h : Pair N w1 B C w vu p vr s U) (hb : Below w.heap.size w w') : Pair N w1 B C w' vu p vr s U :=
  ⟨h.pp.below hb, h.rr.below hb, h.bel.trans (hb.mono (Nat.le_trans h.b0 (Nat.le_of_lt h.pp.lt))), h.ne, h.b0, h.c0, h.pu, h.ru⟩
theorem Pair.runP {N : Nat} {w1 : World} {B C : Nat} {w w' : World} {vu vu' : Value} {p p' : Pl} {vr : Value} {s : Two} {U : List Int} (h : Pair N w1 B C w vu p vr s U) (hp : PoolAt w' B vu' p') (hk : Kept' B vu vu' w w') : Pair N w1 B C w' vu' p' vr s U := by
  have hc := h.rr.lt
  refine ⟨hp, h.rr.keptBy hk.kept (Ne.symm h.ne) h.ru h.pu, h.bel.trans (hk.below h.pp h.b0), h.ne, h.b0, h.c0, fun q e => ?_, h.ru⟩
  rcases hk.fresh q e with h5 | h5
  · exact h.pu q h5
  · exact ⟨by omega, fun e2 => by have := (h.rr.own_lt q e2).2; omega⟩
theorem Pair.runR {N : Nat} {w1 : World} {B C : Nat} {w w' : World} {vu : Value} {p : Pl} {vr vr' : Value} {s : Two} {U U' : List Int} (h : Pair N w1 B C w vu p vr s U) (hr : RPoolAt w' C vr' s U') (hk : Kept' C vr vr' w w') : Pair N w1 B C w' vu p vr' s U' := by
  have hb := h.pp.lt
  refine ⟨h.pp.keptBy hk.kept h.ne (fun q e => (h.pu q e).1) (fun q e => ⟨h.ru q e, fun e2 => (h.pu q e2).2 e⟩), hr, h.bel.trans (hk.kept.belowR h.rr h.c0), h.ne, h.b0, h.c0, fun q e => ⟨(h.pu q e).1, fun e2 => ?_⟩, fun q e => ?_⟩
  · rcases hk.fresh q e2 with h5 | h5
    · exact (h.pu q e).2 h5
    · have := (h.pp.own.lt q e).2; omega
  · rcases hk.fresh q e with h5 | h5
    · exact h.ru q h5
    · omega
/-- The cells of a block that a run neither is nor owns. -/
theorem Pair.cellsP {N : Nat} {w1 : World} {B C : Nat} {w w' : World} {vu vu' : Value} {p : Pl} {vr : Value} {s : Two} {U : List Int} (h : Pair N w1 B C w vu p vr s U) {o : Obj} (hk : Kept' B vu vu' (w.alloc o) w') (i : Nat) : w'.cell? ⟨w.heap.size, i, none⟩ = (w.alloc o).cell? ⟨w.heap.size, i, none⟩ :=
  World.cell?_of_block (hk.kept.block w.heap.size (by simp) (by have := h.pp.lt; omega) (fun e => by have := (h.pp.own.lt _ e).2; omega))
theorem Pair.cellsR {N : Nat} {w1 : World} {B C : Nat} {w : World} {vu : Value} {p : Pl} {vr vr' : Value} {s : Two} {U : List Int} {W W' : World} (h : Pair N w1 B C w vu p vr s U) (hk : Kept' C vr vr' W W') (g i : Nat) (hg : w.heap.size ≤ g) (hg2 : g < W.heap.size) : W'.cell? ⟨g, i, none⟩ = W.cell? ⟨g, i, none⟩ :=
  World.cell?_of_block (hk.kept.block g hg2 (by have := h.rr.lt; omega) (fun e => by have := (h.rr.own_lt _ e).2; omega))
theorem runV_w64 {p : Pl} (h : PlOk p) (n al : Int) (hal : W64 al) : W64 (runV p n al).2.1 := by
  rcases runV_cases h n al hal with ⟨t, hg, he, _, _⟩ | ⟨he, _⟩ | ⟨he, _⟩
  · rw [he]; exact hg.w
  · rw [he]; show W64 0; unfold W64; omega
  · rw [he]; show W64 0; unfold W64; omega
end Go.Proofs.Ytehijlgopmbglaa
