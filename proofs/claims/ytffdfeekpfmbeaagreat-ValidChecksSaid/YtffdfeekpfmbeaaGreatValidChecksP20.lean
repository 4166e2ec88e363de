/- A map told by its entries, in their order: looking up, storing, its length; whatever its elements are. -/
import Derived.Maps.Own
import Derived.WideKeyEntry
import Derived.RangeFuncNested
import Derived.Test.YtffdfeekpfmbeaaGreatValidChecksP2
namespace Go.Proofs.YtffdfeekpfmbeaaGreat
open Go Go.RowKit Go.MapKept Go.Maps
open Go.WideElems (findIdx_born findIdx_arr modify_last set_self)
open Go.ChangeMaps (setBlock modify_eq_set)

section
variable {P : Program} {t k e : TypeId}

/-- Block 'B' is a map with these entries. -/
def MapKV (W : World) (B : Nat) (kv : List (Value × Value)) : Prop :=
  ∃ es clock, W.heap[B]? = some (.map es clock) ∧ es.toList.map (fun x => (x.key, x.val)) = kv ∧ Stamped es clock
theorem MapKV.lt {W : World} {B : Nat} {kv : List (Value × Value)} (h : MapKV W B kv) : B < W.heap.size := by
  obtain ⟨es, clock, h1, _⟩ := h; exact (Array.getElem?_eq_some_iff.1 h1).1
theorem MapKV.same {W W' : World} {B : Nat} {kv : List (Value × Value)} (h : MapKV W B kv) (hb : W'.heap[B]? = W.heap[B]?) : MapKV W' B kv := by
  obtain ⟨es, clock, h1, h2⟩ := h; exact ⟨es, clock, hb.trans h1, h2⟩
theorem MapKV.new (W : World) : MapKV (W.alloc (.map #[] 0)) W.heap.size [] := ⟨#[], 0, World.alloc_heap_new W _, rfl, stamped_empty 0⟩
theorem MapKV.nodup {W : World} {B : Nat} {kv : List (Value × Value)} (h : MapKV W B kv) : (kv.map (·.1)).Nodup := by
  obtain ⟨es, clock, h1, h2, h3⟩ := h
  rw [← h2, List.map_map]; exact h3.2.2
theorem setB_heap {W : World} {B : Nat} (o : Obj) (hb : B < W.heap.size) : (setBlock W B o).heap[B]? = some o := by
  simp [setBlock, hb]
theorem setB_other {W : World} {B j : Nat} (o : Obj) (hj : j ≠ B) : (setBlock W B o).heap[j]? = W.heap[j]? := by
  simp [setBlock, Array.getElem?_setIfInBounds]; omega
theorem setB_size (W : World) (B : Nat) (o : Obj) : (setBlock W B o).heap.size = W.heap.size := by simp [setBlock]

theorem kv_find (K : Keyed P k) {W : World} {es : Array MapEntry} {kv : List (Value × Value)} (h2 : es.toList.map (fun x => (x.key, x.val)) = kv) (hks : ∀ x ∈ kv, ∃ l, keyOf P k x.1 = some l) {x : Value} {l : Lit} (hx : keyOf P k x = some l) :
    ((Instr.findKey k x es.toList).run P W = .ok none W ∧ ∀ y ∈ kv, y.1 ≠ x) ∨ ∃ (j : Nat) (v : Value) (b : Nat), (Instr.findKey k x es.toList).run P W = .ok (some (j, v)) W ∧ kv[j]? = some (x, v) ∧ es.toList[j]? = some ⟨x, v, b⟩ := by
  have hkeys : ∀ e ∈ es.toList, ∃ l, keyOf P k e.key = some l := fun e he => hks (e.key, e.val) (by rw [← h2]; exact List.mem_map.2 ⟨e, he, rfl⟩)
  rcases K.find W hx es.toList hkeys with ⟨f1, f2⟩ | ⟨j, e0, f1, f2, f3⟩
  · refine .inl ⟨f1, fun y hy => ?_⟩
    rw [← h2] at hy
    obtain ⟨z, hz, rfl⟩ := List.mem_map.1 hy
    exact f2 z hz
  · refine .inr ⟨j, e0.val, e0.born, f1, ?_, ?_⟩
    · rw [← h2, List.getElem?_map, f2, ← f3]; rfl
    · rw [f2, ← f3]
theorem kv_lookup (K : Keyed P k) (ht : P.underlying t = some (.map k e)) {z : Value} (hz : ∀ u : World, (zeroValue e).run P u = .ok z u) {W : World} {B : Nat} {kv : List (Value × Value)} (h : MapKV W B kv) (hks : ∀ x ∈ kv, ∃ l, keyOf P k x.1 = some l)
    {x : Value} {l : Lit} (hx : keyOf P k x = some l) : ((∀ y ∈ kv, y.1 ≠ x) ∧ (Instr.lookup t (.map (some B)) x false).run P W = .ok z W) ∨ (∃ (j : Nat) (v : Value), kv[j]? = some (x, v) ∧ (Instr.lookup t (.map (some B)) x false).run P W = .ok v W) := by
  obtain ⟨es, clock, h1, h2, h3⟩ := h
  rcases kv_find (W := W) K h2 hks hx with ⟨f1, f2⟩ | ⟨j, v, b, f1, f2, f3⟩
  · exact .inl ⟨f2, by simp [Instr.lookup, run_underlying ht, MapKept.run_getObj_map h1, K.check W _ hx, f1, hz, Result.andThen]⟩
  · exact .inr ⟨j, v, f2, by simp [Instr.lookup, run_underlying ht, MapKept.run_getObj_map h1, K.check W _ hx, f1, Result.andThen]⟩
/-- A new key. -/
theorem kv_store_new (K : Keyed P k) (ht : P.underlying t = some (.map k e)) {W : World} {B : Nat} {kv : List (Value × Value)} (h : MapKV W B kv) (hks : ∀ x ∈ kv, ∃ l, keyOf P k x.1 = some l)
    {x : Value} {l : Lit} (hx : keyOf P k x = some l) (hno : ∀ y ∈ kv, y.1 ≠ x) (u : Value) : ∃ o, (Instr.mapUpdate t (.map (some B)) x u).run P W = .ok () (setBlock W B o) ∧ MapKV (setBlock W B o) B (kv ++ [(x, u)]) := by
  have hlt := h.lt
  obtain ⟨es, clock, h1, h2, h3⟩ := h
  rcases kv_find (W := W) K h2 hks hx with ⟨f1, f2⟩ | ⟨j, v, b, f1, f2, f3⟩
  · refine ⟨.map (es.push ⟨x, u, clock⟩) (clock + 1), ?_, es.push ⟨x, u, clock⟩, clock + 1, setB_heap _ hlt, ?_, stamped_push h3 fun y hy => ?_⟩
    · simp [Instr.mapUpdate, run_underlying ht, MapKept.run_getObj_map h1, K.check W false hx, f1, MapKept.run_setObj_map _ h1, Result.andThen, setBlock]
    · rw [Array.toList_push, List.map_append, h2]; rfl
    · exact hno (y.key, y.val) (by rw [← h2]; exact List.mem_map.2 ⟨y, hy, rfl⟩)
  · exact absurd rfl (hno (x, v) (List.mem_of_getElem? f2))
end
end Go.Proofs.YtffdfeekpfmbeaaGreat
/- Maps that count: every key that was met has the count 1; one more of a new key, and of an old one. -/
namespace Go.Proofs.YtffdfeekpfmbeaaGreat
open Go Go.RowKit Go.MapKept Go.Maps
open Go.WideElems (findIdx_born findIdx_arr modify_last set_self)
open Go.ChangeMaps (setBlock modify_eq_set)

section
variable {P : Program} {t k e : TypeId}

/-- An old key. -/
theorem kv_store_old (K : Keyed P k) (ht : P.underlying t = some (.map k e)) {W : World} {B : Nat} {kv : List (Value × Value)} (h : MapKV W B kv) (hks : ∀ x ∈ kv, ∃ l, keyOf P k x.1 = some l)
    {x : Value} {l : Lit} (hx : keyOf P k x = some l) (hin : ∃ y ∈ kv, y.1 = x) (u : Value) : ∃ o, (Instr.mapUpdate t (.map (some B)) x u).run P W = .ok () (setBlock W B o) ∧ ∃ j v, kv[j]? = some (x, v) ∧ MapKV (setBlock W B o) B (kv.set j (x, u)) := by
  have hlt := h.lt
  obtain ⟨es, clock, h1, h2, h3⟩ := h
  rcases kv_find (W := W) K h2 hks hx with ⟨f1, f2⟩ | ⟨j, v, b, f1, f2, f3⟩
  · obtain ⟨y, hy, e⟩ := hin
    exact absurd e (f2 y hy)
  · have hj : es[j]? = some ⟨x, v, b⟩ := by simpa using f3
    have hkeyf : ∀ e', es[j]? = some e' → ({ e' with key := x, val := u } : MapEntry).key = e'.key := fun e' he' => by rw [hj] at he'; cases he'; rfl
    refine ⟨.map (es.modify j fun e' => { e' with key := x, val := u }) clock, ?_, j, v, f2, es.modify j (fun e' => { e' with key := x, val := u }), clock, setB_heap _ hlt, ?_, stamped_modify h3 _ _ (fun _ _ => rfl) (fun e' _ he' => hkeyf e' he')⟩
    · simp [Instr.mapUpdate, run_underlying ht, MapKept.run_getObj_map h1, K.check W false hx, f1, hj, K.stays W hx, MapKept.run_setObj_map _ h1, Result.andThen, setBlock]
    · rw [Array.toList_modify, modify_eq_set _ _ _ _ f3, List.map_set, h2]
/-- Each of these keys once. -/
def CntKV (W : World) (B : Nat) (ks : List Value) : Prop := MapKV W B (ks.map fun x => (x, .int .i64 1))
theorem CntKV.same {W W' : World} {B : Nat} {ks : List Value} (h : CntKV W B ks) (hb : W'.heap[B]? = W.heap[B]?) : CntKV W' B ks := MapKV.same h hb
theorem CntKV.new (W : World) : CntKV (W.alloc (.map #[] 0)) W.heap.size [] := MapKV.new W
theorem cnt_keys {ks : List Value} (hk : ∀ x ∈ ks, ∃ l, keyOf P k x = some l) : ∀ x ∈ ks.map (fun x => (x, Value.int .i64 1)), ∃ l, keyOf P k x.1 = some l := by
  intro x hx
  obtain ⟨y, hy, rfl⟩ := List.mem_map.1 hx
  exact hk y hy
/-- One more of a key. -/
theorem cnt_up (K : Keyed P k) (ht : P.underlying t = some (.map k e)) (hz : ∀ u : World, (zeroValue e).run P u = .ok (.int .i64 0) u) {W : World} {B : Nat} {ks : List Value} (h : CntKV W B ks) (hk : ∀ x ∈ ks, ∃ l, keyOf P k x = some l)
    {x : Value} {l : Lit} (hx : keyOf P k x = some l) :
    (x ∉ ks ∧ (∀ W', W'.heap[B]? = W.heap[B]? → (Instr.lookup t (.map (some B)) x false).run P W' = .ok (.int .i64 0) W') ∧ ∀ W', W'.heap[B]? = W.heap[B]? → ∃ o, (Instr.mapUpdate t (.map (some B)) x (.int .i64 1)).run P W' = .ok () (setBlock W' B o) ∧ CntKV (setBlock W' B o) B (ks ++ [x]) ∧
      ∀ W2, W2.heap[B]? = (setBlock W' B o).heap[B]? → (Instr.lookup t (.map (some B)) x false).run P W2 = .ok (.int .i64 1) W2) ∨
    (x ∈ ks ∧ (∀ W', W'.heap[B]? = W.heap[B]? → (Instr.lookup t (.map (some B)) x false).run P W' = .ok (.int .i64 1) W') ∧ ∀ W', W'.heap[B]? = W.heap[B]? → ∃ o, (Instr.mapUpdate t (.map (some B)) x (.int .i64 2)).run P W' = .ok () (setBlock W' B o) ∧
      ∀ W2, W2.heap[B]? = (setBlock W' B o).heap[B]? → (Instr.lookup t (.map (some B)) x false).run P W2 = .ok (.int .i64 2) W2) := by
  by_cases hin : x ∈ ks
  · right
    refine ⟨hin, fun W' hb => ?_, fun W' hb => ?_⟩
    · rcases kv_lookup (z := .int .i64 0) K ht hz (MapKV.same h hb) (cnt_keys hk) hx with ⟨h1, _⟩ | ⟨j, v, h1, h2⟩
      · exact absurd rfl (h1 (x, .int .i64 1) (List.mem_map.2 ⟨x, hin, rfl⟩))
      · rw [List.getElem?_map, Option.map_eq_some_iff] at h1
        obtain ⟨y, _, e⟩ := h1
        injection e with _ e
        rw [e]; exact h2
    · obtain ⟨o, h1, j, v, h2, h3⟩ := kv_store_old K ht (MapKV.same h hb) (cnt_keys hk) hx ⟨(x, .int .i64 1), List.mem_map.2 ⟨x, hin, rfl⟩, rfl⟩ (.int .i64 2)
      refine ⟨o, h1, fun W2 hb2 => ?_⟩
      have hks2 : ∀ y ∈ (ks.map fun x => (x, Value.int .i64 1)).set j (x, .int .i64 2), ∃ l, keyOf P k y.1 = some l := by
        intro y hy
        rcases List.mem_or_eq_of_mem_set hy with hy | rfl
        · exact cnt_keys hk y hy
        · exact ⟨l, hx⟩
      have hjl : j < (ks.map fun x => (x, Value.int .i64 1)).length := (List.getElem?_eq_some_iff.1 h2).1
      have hm := MapKV.same h3 hb2
      rcases kv_lookup (z := .int .i64 0) K ht hz hm hks2 hx with ⟨f1, _⟩ | ⟨i, v', f1, f2⟩
      · exact absurd rfl (f1 (x, .int .i64 2) (List.mem_of_getElem? (List.getElem?_set_self hjl)))
      · have hnd := hm.nodup
        have e1 : ((ks.map fun x => (x, Value.int .i64 1)).set j (x, .int .i64 2))[j]? = some (x, .int .i64 2) := List.getElem?_set_self hjl
        have hij : i = j := by
          have hi := (List.getElem?_eq_some_iff.1 f1)
          have hj := (List.getElem?_eq_some_iff.1 e1)
          obtain ⟨hi1, hi2⟩ := hi
          obtain ⟨hj1, hj2⟩ := hj
          refine (List.getElem_inj (h₀ := by rw [List.length_map]; exact hi1) (h₁ := by rw [List.length_map]; exact hj1) hnd).1 ?_
          rw [List.getElem_map, List.getElem_map, hi2, hj2]
        subst hij
        rw [e1] at f1
        injection f1 with f1
        injection f1 with _ f1
        rw [f1]; exact f2
  · left
    have hno : ∀ y ∈ ks.map (fun x => (x, Value.int .i64 1)), y.1 ≠ x := by
      intro y hy
      obtain ⟨q, hq, rfl⟩ := List.mem_map.1 hy
      rintro rfl; exact hin hq
    refine ⟨hin, fun W' hb => ?_, fun W' hb => ?_⟩
    · rcases kv_lookup (z := .int .i64 0) K ht hz (MapKV.same h hb) (cnt_keys hk) hx with ⟨_, h2⟩ | ⟨j, v, h1, _⟩
      · exact h2
      · exact absurd rfl (hno _ (List.mem_of_getElem? h1))
    · obtain ⟨o, h1, h2⟩ := kv_store_new K ht (MapKV.same h hb) (cnt_keys hk) hx hno (.int .i64 1)
      have h2' : CntKV (setBlock W' B o) B (ks ++ [x]) := by unfold CntKV; rw [List.map_append]; exact h2
      refine ⟨o, h1, h2', fun W2 hb2 => ?_⟩
      have hk2 : ∀ y ∈ ks ++ [x], ∃ l, keyOf P k y = some l := by
        intro y hy
        rcases List.mem_append.1 hy with hy | hy
        · exact hk y hy
        · rw [List.mem_singleton.1 hy]; exact ⟨l, hx⟩
      rcases kv_lookup (z := .int .i64 0) K ht hz (MapKV.same h2' hb2) (cnt_keys hk2) hx with ⟨f1, _⟩ | ⟨j, v, f1, f2⟩
      · exact absurd rfl (f1 (x, .int .i64 1) (List.mem_map.2 ⟨x, by simp, rfl⟩))
      · rw [List.getElem?_map, Option.map_eq_some_iff] at f1
        obtain ⟨y, _, e⟩ := f1
        injection e with _ e
        rw [e]; exact f2
end
end Go.Proofs.YtffdfeekpfmbeaaGreat
