/- Small facts on worlds: what lies below a block, what a new block holds. -/
import Derived.WalkKit
import Derived.Lib.Hide
import Derived.WalkSmall
namespace Go.Proofs.YtiblhlaemmdphaaGreat
open Go Go.RowKit
theorem bcell {B : Nat} {W w1 : World} (hb : Below B W w1) : (∀ b o, b < B → w1.cell? ⟨b, o, none⟩ = W.cell? ⟨b, o, none⟩) ∧ (∀ b o, b < B → w1.frozen? ⟨b, o, none⟩ = W.frozen? ⟨b, o, none⟩) :=
 ⟨fun b o h => hb.cell (p := ⟨b, o, none⟩) h, fun b o h => hb.frozen (p := ⟨b, o, none⟩) h⟩
theorem ret_bool {a b : Bool} (h : a = b) : Ending.returned (.bool a) = .returned (.bool b) := by rw [h]
theorem ret_u64 {a b : Int} (h : a = b) : Ending.returned (.int .u64 a) = .returned (.int .u64 b) := by rw [h]
theorem u64_bd {a : Int} (h : (Lit.int .u64 a).wf = true) : 0 ≤ a ∧ a < 18446744073709551616 := by
 have h1 : IntKind.u64.min = 0 := rfl
 have h2 : IntKind.u64.max = 18446744073709551615 := rfl
 simp [Lit.wf, h1, h2] at h
 omega
theorem bthen {w w1 w2 : World} (h : Below w.heap.size w w1) (k : Below w1.heap.size w1 w2) : Below w.heap.size w w2 := h.trans (k.mono h.size)
theorem bthen' {B : Nat} {w w1 w2 : World} (h : Below w.heap.size w w1) (k : Below B w1 w2) (hB : B ≤ w.heap.size := by omega) : Below B w w2 := (h.mono hB).trans k
theorem cell_lt {B b o : Nat} {w w' : World} {v : Option Value} (h : Below B w w') (c : w.cell? ⟨b, o, none⟩ = v) (hb : b < B := by omega) : w'.cell? ⟨b, o, none⟩ = v := (h.cell (p := ⟨b, o, none⟩) hb).trans c
theorem frozen_lt {B b o : Nat} {w w' : World} {v : Bool} (h : Below B w w') (c : w.frozen? ⟨b, o, none⟩ = v) (hb : b < B := by omega) : w'.frozen? ⟨b, o, none⟩ = v := (h.frozen (p := ⟨b, o, none⟩) hb).trans c
theorem bnew {w w2 : World} {o : Obj} (k : Below (w.alloc o).heap.size (w.alloc o) w2) : Below w.heap.size w w2 := bthen ((Below.refl _ _).alloc (Nat.le_refl _) o) k
theorem bone (w : World) (o : Obj) : Below w.heap.size w (w.alloc o) := (Below.refl _ _).alloc (Nat.le_refl _) o
end Go.Proofs.YtiblhlaemmdphaaGreat
