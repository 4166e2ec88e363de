/- A map told by its entries, in their order: looking up, storing, its length; whatever its elements are. -/
import Derived.Maps.Own
import Derived.WideKeyEntry
import Derived.RangeFuncNested
import Derived.Test.YtiblhlaemmdphaaGreatTableBuildsP1
namespace Go.Proofs.YtiblhlaemmdphaaGreat
open Go Go.RowKit Go.MapKept Go.Maps
open Go.WideElems (findIdx_born findIdx_arr modify_last set_self)
open Go.ChangeMaps (setBlock modify_eq_set)
section
variable {P : Program} {t k e : TypeId}
def MapKV (W : World) (B : Nat) (kv : List (Value × Value)) : Prop :=
 ∃ es clock, W.heap[B]? = some (.map es clock) ∧ es.toList.map (fun x => (x.key, x.val)) = kv ∧ Stamped es clock
theorem MapKV.lt {W : World} {B : Nat} {kv : List (Value × Value)} (h : MapKV W B kv) : B < W.heap.size := by
 obtain ⟨es, clock, h1, _⟩ := h; exact (Array.getElem?_eq_some_iff.1 h1).1
theorem MapKV.same {W W' : World} {B : Nat} {kv : List (Value × Value)} (h : MapKV W B kv) (hb : W'.heap[B]? = W.heap[B]?) : MapKV W' B kv := by
 obtain ⟨es, clock, h1, h2⟩ := h; exact ⟨es, clock, hb.trans h1, h2⟩
theorem MapKV.new (W : World) : MapKV (W.alloc (.map #[] 0)) W.heap.size [] := ⟨#[], 0, World.alloc_heap_new W _, rfl, stamped_empty 0⟩
theorem MapKV.not_cells {W : World} {B : Nat} {kv : List (Value × Value)} (h : MapKV W B kv) {c : Array Value} {T : TypeId} {z : Nat × Nat} : W.heap[B]? ≠ some (.cells c T z) := by
 obtain ⟨es, clock, h1, _⟩ := h; rw [h1]; simp
theorem setB_heap {W : World} {B : Nat} (o : Obj) (hb : B < W.heap.size) : (setBlock W B o).heap[B]? = some o := by
 simp [setBlock, hb]
theorem setB_other {W : World} {B j : Nat} (o : Obj) (hj : j ≠ B) : (setBlock W B o).heap[j]? = W.heap[j]? := by
 simp [setBlock, Array.getElem?_setIfInBounds]; omega
theorem setB_size (W : World) (B : Nat) (o : Obj) : (setBlock W B o).heap.size = W.heap.size := by simp [setBlock]
theorem kv_find (K : Keyed P k) {W : World} {es : Array MapEntry} {kv : List (Value × Value)} (h2 : es.toList.map (fun x => (x.key, x.val)) = kv) (hks : ∀ x ∈ kv, ∃ l, keyOf P k x.1 = some l) {x : Value} {l : Lit} (hx : keyOf P k x = some l) :
  ((Instr.findKey k x es.toList).run P W = .ok none W ∧ ∀ y ∈ kv, y.1 ≠ x) ∨ ∃ (j : Nat) (v : Value) (b : Nat), (Instr.findKey k x es.toList).run P W = .ok (some (j, v)) W ∧ kv[j]? = some (x, v) ∧ es.toList[j]? = some ⟨x, v, b⟩ := by
 have hkeys : ∀ e ∈ es.toList, ∃ l, keyOf P k e.key = some l := fun e he => hks (e.key, e.val) (by rw [← h2]; exact List.mem_map.2 ⟨e, he, rfl⟩)
 rcases K.find W hx es.toList hkeys with ⟨f1, f2⟩ | ⟨j, e0, f1, f2, f3⟩
 ·refine .inl ⟨f1, fun y hy => ?_⟩
  rw [← h2] at hy
  obtain ⟨z, hz, rfl⟩ := List.mem_map.1 hy
  exact f2 z hz
 ·refine .inr ⟨j, e0.val, e0.born, f1, ?_, ?_⟩
  ·rw [← h2, List.getElem?_map, f2, ← f3]; rfl
  ·rw [f2, ← f3]
theorem kv_lookup (K : Keyed P k) (ht : P.underlying t = some (.map k e)) {z : Value} (hz : ∀ u : World, (zeroValue e).run P u = .ok z u) {W : World} {B : Nat} {kv : List (Value × Value)} (h : MapKV W B kv) (hks : ∀ x ∈ kv, ∃ l, keyOf P k x.1 = some l)
  {x : Value} {l : Lit} (hx : keyOf P k x = some l) : ((∀ y ∈ kv, y.1 ≠ x) ∧ (Instr.lookup t (.map (some B)) x false).run P W = .ok z W) ∨ (∃ (j : Nat) (v : Value), kv[j]? = some (x, v) ∧ (Instr.lookup t (.map (some B)) x false).run P W = .ok v W) := by
 obtain ⟨es, clock, h1, h2, h3⟩ := h
 rcases kv_find (W := W) K h2 hks hx with ⟨f1, f2⟩ | ⟨j, v, b, f1, f2, f3⟩
 ·exact .inl ⟨f2, by simp [Instr.lookup, run_underlying ht, MapKept.run_getObj_map h1, K.check W _ hx, f1, hz, Result.andThen]⟩
 ·exact .inr ⟨j, v, f2, by simp [Instr.lookup, run_underlying ht, MapKept.run_getObj_map h1, K.check W _ hx, f1, Result.andThen]⟩
theorem kv_store_new (K : Keyed P k) (ht : P.underlying t = some (.map k e)) {W : World} {B : Nat} {kv : List (Value × Value)} (h : MapKV W B kv) (hks : ∀ x ∈ kv, ∃ l, keyOf P k x.1 = some l)
  {x : Value} {l : Lit} (hx : keyOf P k x = some l) (hno : ∀ y ∈ kv, y.1 ≠ x) (u : Value) : ∃ o, (Instr.mapUpdate t (.map (some B)) x u).run P W = .ok () (setBlock W B o) ∧ MapKV (setBlock W B o) B (kv ++ [(x, u)]) := by
 have hlt := h.lt
 obtain ⟨es, clock, h1, h2, h3⟩ := h
 rcases kv_find (W := W) K h2 hks hx with ⟨f1, f2⟩ | ⟨j, v, b, f1, f2, f3⟩
 ·refine ⟨.map (es.push ⟨x, u, clock⟩) (clock + 1), ?_, es.push ⟨x, u, clock⟩, clock + 1, setB_heap _ hlt, ?_, stamped_push h3 fun y hy => ?_⟩
  ·simp [Instr.mapUpdate, run_underlying ht, MapKept.run_getObj_map h1, K.check W false hx, f1, MapKept.run_setObj_map _ h1, Result.andThen, setBlock]
  ·rw [Array.toList_push, List.map_append, h2]; rfl
  ·exact hno (y.key, y.val) (by rw [← h2]; exact List.mem_map.2 ⟨y, hy, rfl⟩)
 ·exact absurd rfl (hno (x, v) (List.mem_of_getElem? f2))
end
end Go.Proofs.YtiblhlaemmdphaaGreat
