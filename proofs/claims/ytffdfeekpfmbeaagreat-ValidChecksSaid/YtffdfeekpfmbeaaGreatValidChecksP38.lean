/- Where Put's writing stands. -/
import Derived.Test.YtffdfeekpfmbeaaGreatValidChecksP36
import Derived.Test.YtffdfeekpfmbeaaGreatValidChecksP37
namespace Go.Proofs.YtffdfeekpfmbeaaGreat
open Go Go.RowKit Go.BigFrame

/-- Between the pieces of what Put writes. -/
structure PIn (w0 w W : World) (n : Nat) (v : Value) (ver : Int) (vg vc : Value) : Prop where
  wr : Wr W (w0.heap.size + 1) w0.heap.size n v
  bl : Below w0.heap.size w0 W
  tr : WT w0.heap.size (w0.heap.size + 1) (.slice none 0 0) v w W
  cf : W.heap[w0.heap.size]? = some (.cells #[.int .u32 ver, vg, vc] 31 (0, 0))
  pw : W.heap[w0.heap.size + 2]? = some (.cells #[.pointer (some ⟨w0.heap.size + 1, 0, none⟩)] 111 (0, 0))
  sz : w0.heap.size + 3 ≤ w.heap.size
section
variable {w0 w W W' : World} {n m : Nat} {v v' : Value} {ver : Int} {vg vc : Value}
theorem PIn.B (h : PIn w0 w W n v ver vg vc) : w0.heap.size + 3 ≤ W.heap.size := Nat.le_trans h.sz h.tr.off.below.size
theorem PIn.then (h : PIn w0 w W n v ver vg vc) (hb : Below W.heap.size W W') : PIn w0 w W' n v ver vg vc :=
  have hB := h.B
  ⟨h.wr.below hb, h.bl.trans (hb.mono h.bl.size), h.tr.trans (WT.of_below hb h.bl.size), (hb.block _ (by omega)).trans h.cf, (hb.block _ (by omega)).trans h.pw, h.sz⟩
theorem PIn.own (h : PIn w0 w W n v ver vg vc) : ∀ k, v.ownBlock = some k → w.heap.size ≤ k := fun k hk => by
  rcases h.tr.blk k hk with e | e
  · cases e
  · exact e
theorem PIn.wt (h : PIn w0 w W n v ver vg vc) (hw : Wr W' (w0.heap.size + 1) w0.heap.size m v') (ht : WT w0.heap.size (w0.heap.size + 1) v v' W W') : PIn w0 w W' m v' ver vg vc := by
  have hB := h.B
  have hs := h.sz
  have k1 := (ht.keep (b := w0.heap.size) (by omega) (by omega) (fun e => by have := h.own _ e; omega)).1
  have k2 := (ht.keep (b := w0.heap.size + 2) (by omega) (by omega) (fun e => by have := h.own _ e; omega)).1
  exact ⟨hw, h.bl.trans ht.off.below, h.tr.trans ht, k1.trans h.cf, k2.trans h.pw, hs⟩
theorem PIn.cell (h : PIn w0 w W n v ver vg vc) : W.cell? ⟨w0.heap.size, 0, none⟩ = some (.int .u32 ver) ∧ W.cell? ⟨w0.heap.size, 1, none⟩ = some vg ∧ W.cell? ⟨w0.heap.size, 2, none⟩ = some vc := by
  simp only [World.cell?]
  rw [show W.heap[w0.heap.size]? = _ from h.cf]
  exact ⟨rfl, rfl, rfl⟩
theorem PIn.ptr (h : PIn w0 w W n v ver vg vc) : W.cell? ⟨w0.heap.size + 2, 0, none⟩ = some (.pointer (some ⟨w0.heap.size + 1, 0, none⟩)) := by
  simp only [World.cell?]
  rw [show W.heap[w0.heap.size + 2]? = _ from h.pw]
  rfl
theorem PIn.le (h : PIn w0 w W n v ver vg vc) : w0.heap.size ≤ W.heap.size := h.bl.size
/-- What is written by an end. -/
def PPost (w0 w : World) (t : Bool) (e : Ending) (W' : World) : Prop :=
  PutE t (.tuple #[]) e ∧ (Below w0.heap.size w W' ∧ ∀ k, w0.heap.size + 2 ≤ k → k < w.heap.size → W'.heap[k]? = w.heap[k]?) ∧ (t = true → ∃ n v, Wr W' (w0.heap.size + 1) w0.heap.size n v ∧ ∀ k, v.ownBlock = some k → w.heap.size ≤ k)
theorem PIn.rest (h : PIn w0 w W n v ver vg vc) : Below w0.heap.size w W ∧ ∀ k, w0.heap.size + 2 ≤ k → k < w.heap.size → W.heap[k]? = w.heap[k]? :=
  ⟨h.tr.off.below, fun k h1 h2 => h.tr.off.rest k h2 (by simp [Value.ownBlock]; omega)⟩
theorem PIn.no (h : PIn w0 w W n v ver vg vc) {t : Bool} (ht : t = false) {p k : Int} (hk : k ≠ 0) : PPost w0 w t (.panicked [cwrongV p k]) W := ⟨PutE_no ht hk, h.rest, fun e => by rw [ht] at e; cases e⟩
theorem PIn.bad (h : PIn w0 w W n v ver vg vc) {t : Bool} (ht : t = false) {e : Ending} (he : PutE false (.tuple #[]) e) : PPost w0 w t e W := ⟨by rw [ht]; exact he, h.rest, fun e => by rw [ht] at e; cases e⟩
theorem PIn.yes (h : PIn w0 w W n v ver vg vc) {t : Bool} (ht : t = true) : PPost w0 w t (.returned (.tuple #[])) W := ⟨by rw [ht]; rfl, h.rest, fun _ => ⟨n, v, h.wr, h.own⟩⟩
end
def chB (c : ChV) : Bool := eOk c.e0 && eOk c.e1
theorem putOk_eq (gs : List GuestV) (chs : List ChV) : putOk gs chs = ((decide (1 ≤ gs.length ∧ gs.length ≤ 16) && decide (chs.length ≤ 32)) && (gs.all gOk && chs.all chB)) := rfl
end Go.Proofs.YtffdfeekpfmbeaaGreat
