/- A map with struct keys: what its block holds; looking up, making an entry, storing into it. -/
import Derived.Maps.Own
import Derived.DeepKeys4
import Derived.WideKeyEntry
import Derived.RangeFuncNested
import Derived.Test.YtiblhlaemmdphaaGreatProg
import Derived.Test.YtiblhlaemmdphaaGreatTableBuildsP1
namespace Go.Proofs.YtiblhlaemmdphaaGreat
open Go Go.RowKit Go.MapKept Go.Maps
open Go.WideElems (findIdx_born findIdx_arr modify_last set_self)
open Go.ChangeMaps (setBlock modify_eq_set)
section
variable {P : Program} {t k e : TypeId}
def MapAt (W : World) (B : Nat) (ks : List Value) : Prop :=
 ∃ es clock, W.heap[B]? = some (.map es clock) ∧ es.toList.map (·.key) = ks ∧ Stamped es clock ∧ ∀ x ∈ es.toList, ∃ n, x.val = .int .i64 n
def MapSt (W : World) (B : Nat) (ks : List Value) (st : Nat) : Prop :=
 ∃ es clock, W.heap[B]? = some (.map es clock) ∧ es.toList.map (·.key) = ks ∧ Stamped es clock ∧ (∀ x ∈ es.toList, ∃ n, x.val = .int .i64 n) ∧ ∃ (j : Nat) (e0 : MapEntry), es.toList[j]? = some e0 ∧ e0.born = st
theorem MapSt.at {W : World} {B st : Nat} {ks : List Value} (h : MapSt W B ks st) : MapAt W B ks := by
 obtain ⟨es, clock, h1, h2, h3, h4, _⟩ := h
 exact ⟨es, clock, h1, h2, h3, h4⟩
theorem MapAt.lt {W : World} {B : Nat} {ks : List Value} (h : MapAt W B ks) : B < W.heap.size := by
 obtain ⟨es, clock, h1, _⟩ := h; exact (Array.getElem?_eq_some_iff.1 h1).1
theorem MapAt.same {W W' : World} {B : Nat} {ks : List Value} (h : MapAt W B ks) (hb : W'.heap[B]? = W.heap[B]?) : MapAt W' B ks := by
 obtain ⟨es, clock, h1, h2⟩ := h; exact ⟨es, clock, hb.trans h1, h2⟩
theorem MapSt.same {W W' : World} {B st : Nat} {ks : List Value} (h : MapSt W B ks st) (hb : W'.heap[B]? = W.heap[B]?) : MapSt W' B ks st := by
 obtain ⟨es, clock, h1, h2⟩ := h; exact ⟨es, clock, hb.trans h1, h2⟩
theorem MapAt.new (W : World) : MapAt (W.alloc (.map #[] 0)) W.heap.size [] :=
 ⟨#[], 0, World.alloc_heap_new W _, rfl, ⟨by simp, by simp, by simp⟩, by simp⟩
def Ins (ks : List Value) (x : Value) (ks' : List Value) : Prop := (x ∈ ks ∧ ks' = ks) ∨ (x ∉ ks ∧ ks' = ks ++ [x])
theorem setBlock_heap {W : World} {B : Nat} (o : Obj) (hb : B < W.heap.size) : (setBlock W B o).heap[B]? = some o := by
 simp [setBlock, hb]
theorem map_lookup (K : Keyed P k) (ht : P.underlying t = some (.map k e)) (hz : ∀ u : World, (zeroValue e).run P u = .ok (.int .i64 0) u) {W : World} {B : Nat} {ks : List Value} (h : MapAt W B ks) (hks : ∀ x ∈ ks, ∃ l, keyOf P k x = some l)
  {x : Value} {l : Lit} (hx : keyOf P k x = some l) : ∃ n, (Instr.lookup t (.map (some B)) x false).run P W = .ok (.int .i64 n) W := by
 obtain ⟨es, clock, h1, h2, h3, h4⟩ := h
 have hkeys : ∀ e ∈ es.toList, ∃ l, keyOf P k e.key = some l := fun e he => hks _ (by rw [← h2]; exact List.mem_map.2 ⟨e, he, rfl⟩)
 rcases K.find W hx es.toList hkeys with ⟨f1, f2⟩ | ⟨j, e0, f1, f2, f3⟩
 ·exact ⟨0, by simp [Instr.lookup, run_underlying ht, MapKept.run_getObj_map h1, K.check W _ hx, f1, hz, Result.andThen]⟩
 ·obtain ⟨n, hn⟩ := h4 e0 (List.mem_of_getElem? f2)
  exact ⟨n, by simp [Instr.lookup, run_underlying ht, MapKept.run_getObj_map h1, K.check W _ hx, f1, hn, Result.andThen]⟩
theorem map_entry (K : Keyed P k) (ht : P.underlying t = some (.map k e)) (hz : ∀ u : World, (zeroValue e).run P u = .ok (.int .i64 0) u) {W : World} {B : Nat} {ks : List Value} (h : MapAt W B ks) (hks : ∀ x ∈ ks, ∃ l, keyOf P k x = some l)
  {x : Value} {l : Lit} (hx : keyOf P k x = some l) : ∃ (v0 : Value) (st : Nat) (o : Obj) (ks' : List Value), (Instr.mapEntry t (.map (some B)) x).run P W = .ok (.tuple #[v0, goInt st]) (setBlock W B o) ∧ o.isCells = false ∧ MapSt (setBlock W B o) B ks' st ∧ Ins ks x ks' := by
 have hlt := h.lt
 obtain ⟨es, clock, h1, h2, h3, h4⟩ := h
 obtain ⟨s1, s2, s3⟩ := h3
 have hkeys : ∀ e ∈ es.toList, ∃ l, keyOf P k e.key = some l := fun e he => hks _ (by rw [← h2]; exact List.mem_map.2 ⟨e, he, rfl⟩)
 rcases K.find W hx es.toList hkeys with ⟨f1, f2⟩ | ⟨j, e0, f1, f2, f3⟩
 ·have hnot : x ∉ ks := fun hm => by
   rw [← h2] at hm
   obtain ⟨y, hy, e⟩ := List.mem_map.1 hm
   exact f2 y hy e
  refine ⟨.int .i64 0, clock, .map (es.push ⟨x, .int .i64 0, clock⟩) (clock + 1), ks ++ [x], ?_, rfl, ⟨es.push ⟨x, .int .i64 0, clock⟩, clock + 1, setBlock_heap _ hlt, ?_, ⟨?_, ?_, ?_⟩, ?_, es.size, ⟨x, .int .i64 0, clock⟩, ?_, rfl⟩, .inr ⟨hnot, rfl⟩⟩
  ·simp [Instr.mapEntry, run_underlying ht, MapKept.run_getObj_map h1, K.check W false hx, f1, hz, MapKept.run_setObj_map _ h1, Result.andThen, setBlock]
  ·rw [Array.toList_push, List.map_append, h2]; rfl
  ·intro y hy
   rw [Array.toList_push, List.mem_append] at hy
   rcases hy with hy | hy
   ·have := s1 y hy; omega
   ·simp at hy; subst hy; simp
  ·simp only [Array.toList_push, List.map_append, List.map_cons, List.map_nil]
   refine List.nodup_append.2 ⟨s2, by simp, fun a ha c hc e1 => ?_⟩
   simp only [List.mem_singleton] at hc
   obtain ⟨y, hy, rfl⟩ := List.mem_map.1 ha
   have := s1 y hy
   omega
  ·simp only [Array.toList_push, List.map_append, List.map_cons, List.map_nil]
   refine List.nodup_append.2 ⟨s3, by simp, fun a ha c hc e1 => ?_⟩
   simp only [List.mem_singleton] at hc
   obtain ⟨y, hy, rfl⟩ := List.mem_map.1 ha
   exact f2 y hy (e1.trans hc)
  ·intro y hy
   rw [Array.toList_push, List.mem_append] at hy
   rcases hy with hy | hy
   ·exact h4 y hy
   ·simp at hy; subst hy; exact ⟨0, rfl⟩
  ·simp
 ·have hj : es[j]? = some e0 := by simpa using f2
  have hsame : es.modify j (fun e => { e with key := x }) = es := by
   apply Array.ext'
   rw [Array.toList_modify, modify_eq_set _ _ _ _ f2]
   have : ({ e0 with key := x } : MapEntry) = e0 := by rw [← f3]
   rw [this]
   exact set_self _ _ _ f2
  have hin : x ∈ ks := by rw [← h2, ← f3]; exact List.mem_map.2 ⟨e0, List.mem_of_getElem? f2, rfl⟩
  refine ⟨e0.val, e0.born, .map es clock, ks, ?_, rfl, ⟨es, clock, setBlock_heap _ hlt, h2, ⟨s1, s2, s3⟩, h4, j, e0, f2, rfl⟩, .inl ⟨hin, rfl⟩⟩
  ·simp [Instr.mapEntry, run_underlying ht, MapKept.run_getObj_map h1, K.check W false hx, f1, hj, f3, K.stays W hx, hsame, MapKept.run_setObj_map _ h1, Result.andThen, setBlock]
theorem map_store {W : World} {B st : Nat} {ks : List Value} (h : MapSt W B ks st) (n : Int) : ∃ o, (Instr.entryStore t (.map (some B)) (goInt st) (.int .i64 n)).run P W = .ok () (setBlock W B o) ∧ o.isCells = false ∧ MapAt (setBlock W B o) B ks := by
 have hlt := h.at.lt
 obtain ⟨es, clock, h1, h2, ⟨s1, s2, s3⟩, h4, j, e0, hj, rfl⟩ := h
 have hidx : es.findIdx? (fun e => ((e.born : Nat) : Int) == ((e0.born : Nat) : Int)) = some j := by
  rw [findIdx_arr]
  exact findIdx_born s2 hj
 have hmod : (es.modify j (fun e => { e with val := .int .i64 n })).toList = es.toList.set j { e0 with val := .int .i64 n } := by
  rw [Array.toList_modify, modify_eq_set _ _ _ _ hj]
 have hjl : j < es.toList.length := (List.getElem?_eq_some_iff.1 hj).1
 have hje : es.toList[j] = e0 := (List.getElem?_eq_some_iff.1 hj).2
 refine ⟨.map (es.modify j (fun e => { e with val := .int .i64 n })) clock, ?_, rfl, _, _, setBlock_heap _ hlt, ?_, ⟨?_, ?_, ?_⟩, ?_⟩
 ·simp [Instr.entryStore, MapKept.run_getObj_map h1, asInt, asIntOf, goInt, hidx, MapKept.run_setObj_map _ h1, Result.andThen, setBlock]
 ·rw [hmod, List.map_set, ← h2]
  exact set_self _ _ _ (by rw [List.getElem?_map, hj]; rfl)
 ·intro y hy
  rw [hmod] at hy
  rcases List.mem_or_eq_of_mem_set hy with hy | rfl
  ·exact s1 y hy
  ·exact s1 e0 (List.mem_of_getElem? hj)
 ·rw [hmod, List.map_set]
  have : (es.toList.map (·.born)).set j e0.born = es.toList.map (·.born) := set_self _ _ _ (by rw [List.getElem?_map, hj]; rfl)
  show ((es.toList.map (·.born)).set j e0.born).Nodup
  rw [this]; exact s2
 ·rw [hmod, List.map_set]
  have : (es.toList.map (·.key)).set j e0.key = es.toList.map (·.key) := set_self _ _ _ (by rw [List.getElem?_map, hj]; rfl)
  show ((es.toList.map (·.key)).set j e0.key).Nodup
  rw [this]; exact s3
 ·intro y hy
  rw [hmod] at hy
  rcases List.mem_or_eq_of_mem_set hy with hy | rfl
  ·exact h4 y hy
  ·exact ⟨n, rfl⟩
theorem map_len (ht : P.underlying t = some (.map k e)) {W : World} {B : Nat} {ks : List Value} (h : MapAt W B ks) (ty : TypeId) : (Builtin.len_ #[t] ty #[.map (some B)]).run P W = .ok (goInt ks.length) W := by
 obtain ⟨es, clock, h1, h2, h3, h4⟩ := h
 rw [← h2]
 simp [Builtin.len_, run_underlying ht, MapKept.run_getObj_map h1, Result.andThen, goInt]
end
def placeV (p : Int × Int) : Value := .agg #[.int .i64 p.1, .int .u64 p.2]
theorem laidOut : laidOutB Tryz.prog = true := by kernel_rfl
theorem placeRow : (107 : TypeId) < Tryz.prog.types.size := of_decide_eq_true (by kernel_rfl)
theorem placeWide : (match Tryz.prog.underlying 107 with | some (.array _ _) | some (.struct _) => true | _ => false) = true := by kernel_rfl
set_option maxRecDepth 100000 in
theorem placeKeyed : Keyed Tryz.prog 107 := Keyed.of_law (deep_law_laid laidOut (m := 3) (by omega) placeRow (by kernel_rfl) placeWide)
theorem mapTy : ∃ k e, Tryz.prog.underlying 104 = some (.map k e) ∧ k = 107 ∧ e = 3 := ⟨_, _, by kernel_rfl, rfl, rfl⟩
theorem zeroInt (w : World) : (zeroValue 3).run Tryz.prog w = .ok (.int .i64 0) w := by kernel_rfl
end Go.Proofs.YtiblhlaemmdphaaGreat
