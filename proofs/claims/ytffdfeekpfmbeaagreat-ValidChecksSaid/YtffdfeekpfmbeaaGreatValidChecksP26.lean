/- The walk of the program's Good: whether parts may be mapped. -/
import Derived.Test.YtffdfeekpfmbeaaGreatValidChecksP12
import Derived.Test.YtffdfeekpfmbeaaGreatValidChecksP15
namespace Go.Proofs.YtffdfeekpfmbeaaGreat
open Go Go.RowKit Go.BigFrame

set_option maxHeartbeats 1000000 in
theorem virtual_any (y : M5) (w : World) : Calls Tryz.prog 73 #[.agg #[.int .u64 y.ipa, .int .u64 y.pa, .int .u64 y.sz, .int .i64 y.perm, .int .i64 y.kind]] w fun e w' => e = .returned (.agg #[.int .u64 y.ipa, .int .u64 y.sz]) ∧ Below w.heap.size w w' := by
  go_enter Tryz.func73, Tryz.ntmps73
  go_wp2_with fail
  refine bodyPost_ret (v := .agg #[.int .u64 y.ipa, .int .u64 y.sz]) (by simp [results, Tryz.results73, go_sem]) rfl ?_
  exact ⟨rfl, ((Below.refl _ w).alloc (Nat.le_refl _) _).alloc (by simp) _⟩
set_option maxHeartbeats 1000000 in
theorem physical_any (y : M5) (w : World) : Calls Tryz.prog 74 #[.agg #[.int .u64 y.ipa, .int .u64 y.pa, .int .u64 y.sz, .int .i64 y.perm, .int .i64 y.kind]] w fun e w' => e = .returned (.agg #[.int .u64 y.pa, .int .u64 y.sz]) ∧ Below w.heap.size w w' := by
  go_enter Tryz.func74, Tryz.ntmps74
  go_wp2_with fail
  refine bodyPost_ret (v := .agg #[.int .u64 y.pa, .int .u64 y.sz]) (by simp [results, Tryz.results74, go_sem]) rfl ?_
  exact ⟨rfl, ((Below.refl _ w).alloc (Nat.le_refl _) _).alloc (by simp) _⟩

theorem heapAt_set' {w : World} {B : Nat} {cs : Array Value} {T : TypeId} {fz : Nat × Nat} (h : w.heap[B]? = some (.cells cs T fz)) (i : Nat) (u : Value) : (w.setCell ⟨B, i, none⟩ u).heap[B]? = some (.cells (cs.setIfInBounds i u) T fz) := by
  rw [Go.Sort.setCell_eq]
  simp [Go.Sort.mapBlock, Array.getElem?_modify, h, Go.Sort.onCells]
/-- A variable of a span's type, in a block of its own. -/
def BoxTwo (W : World) (b : Nat) (x y : Int) : Prop := W.heap[b]? = some (.cells #[.int .u64 x, .int .u64 y] 24 (0, 0))
theorem BoxTwo.lt {W : World} {b : Nat} {x y : Int} (h : BoxTwo W b x y) : b < W.heap.size := (Array.getElem?_eq_some_iff.1 h).1
theorem BoxTwo.new (W : World) (x y : Int) : BoxTwo (W.alloc (.cells #[.int .u64 x, .int .u64 y] 24)) W.heap.size x y := World.alloc_heap_new W _
theorem BoxTwo.alloc {W : World} {b : Nat} {x y : Int} (h : BoxTwo W b x y) (o : Obj) : BoxTwo (W.alloc o) b x y := ((bone W o).block b h.lt).trans h
theorem BoxTwo.below {W W' : World} {b : Nat} {x y : Int} (h : BoxTwo W b x y) (hb : Below W.heap.size W W') : BoxTwo W' b x y := (hb.block b h.lt).trans h

theorem keepA {W : World} {b o : Nat} {v : Value} {x : Obj} (h : W.cell? ⟨b, o, none⟩ = some v) : (W.alloc x).cell? ⟨b, o, none⟩ = some v := cell_lt (bone W x) h (World.block_lt_of_cell? W _ h)
theorem BoxTwo.set {W : World} {b : Nat} {x y : Int} (h : BoxTwo W b x y) (x' y' : Int) : BoxTwo ((W.setCell ⟨b, 0, none⟩ (.int .u64 x')).setCell ⟨b, 1, none⟩ (.int .u64 y')) b x' y' := heapAt_set' (heapAt_set' h 0 _) 1 _
theorem BoxTwo.off {W : World} {b c o : Nat} {x y : Int} (h : BoxTwo W b x y) (hne : b ≠ c) (u : Value) : BoxTwo (W.setCell ⟨c, o, none⟩ u) b x y := (Below.heap_setCell W _ u b (by simpa using hne)).trans h
/-- The end of what is ahead of a part. -/
def ahead (l : List M5) (k : Nat) : Int := if k = 0 then 0 else endM l[k - 1]!
end Go.Proofs.YtffdfeekpfmbeaaGreat
