/- The keys of memory's pages, handed out in whatever order. -/
import Derived.Maps.RangeRun
import Derived.RangeFuncGives
import Derived.Test.YtiblhlaemmdphaaGreatTableBuildsP23
import Derived.Test.YtiblhlaemmdphaaGreatTableBuildsP40
namespace Go.Proofs.YtiblhlaemmdphaaGreat
open Go Go.RowKit Go.Shelf Go.BigFrame Go.Maps Go.MapKept
attribute [local go_sem] Oper.semAt_some
structure KeysAt (es : Array MapEntry) (seen : Array Nat) (pre : List Int) : Prop where
 was : ∀ k ∈ pre, ∃ x ∈ es.toList, seen.contains x.born = true ∧ x.key = .int .u64 k
 all : ∀ x ∈ es.toList, seen.contains x.born = true → ∃ k ∈ pre, x.key = .int .u64 k
 nd : pre.Nodup
 len : pre.length + (leftOf es seen).size ≤ es.size
theorem KeysAt.start (es : Array MapEntry) : KeysAt es #[] [] := ⟨fun k h => by simp at h, fun x _ h => by simp at h, List.nodup_nil, by rw [List.length_nil, Nat.zero_add]; exact Array.size_filter_le⟩
theorem key_same {es : Array MapEntry} {clock : Nat} (hst : Stamped es clock) {x y : MapEntry} (hx : x ∈ es.toList) (hy : y ∈ es.toList) (h : x.key = y.key) : x = y := by
 obtain ⟨i, hi, rfl⟩ := List.mem_iff_getElem.1 hx
 obtain ⟨j, hj, rfl⟩ := List.mem_iff_getElem.1 hy
 have hn := hst.2.2
 have e : (es.toList.map (·.key))[i]'(by simpa using hi) = (es.toList.map (·.key))[j]'(by simpa using hj) := by simpa using h
 have := (List.getElem_inj hn).1 e
 subst this; rfl
theorem KeysAt.push {es : Array MapEntry} {clock : Nat} {seen : Array Nat} {pre : List Int} (hst : Stamped es clock) (h : KeysAt es seen pre) {x : MapEntry} (hx : x ∈ (leftOf es seen).toList) {k : Int} (hk : x.key = .int .u64 k) : KeysAt es (seen.push x.born) (pre ++ [k]) := by
 obtain ⟨hxe, hxs⟩ := mem_left hx
 have hlt := left_shrinks es seen x hx
 refine ⟨fun c hc => ?_, fun y hy hs => ?_, ?_, by have := h.len; simp; omega⟩
 ·rcases List.mem_append.1 hc with hc | hc
  ·obtain ⟨y, h1, h2, h3⟩ := h.was c hc
   exact ⟨y, h1, by simp at h2 ⊢; exact .inl h2, h3⟩
  ·obtain rfl : c = k := by simpa using hc
   exact ⟨x, hxe, by simp, hk⟩
 ·by_cases e : seen.contains y.born = true
  ·obtain ⟨c, h1, h2⟩ := h.all y hy e
   exact ⟨c, by simp [h1], h2⟩
  ·have hb : y.born = x.born := by
    simp at hs e
    rcases hs with hs | hs
    ·exact absurd hs e
    ·exact hs
   have hyx : y = x := by
    obtain ⟨i, hi, rfl⟩ := List.mem_iff_getElem.1 hy
    obtain ⟨j, hj, rfl⟩ := List.mem_iff_getElem.1 hxe
    have e2 : (es.toList.map (·.born))[i]'(by simpa using hi) = (es.toList.map (·.born))[j]'(by simpa using hj) := by simpa using hb
    have := (List.getElem_inj hst.2.1).1 e2
    subst this; rfl
   subst hyx
   exact ⟨k, by simp, hk⟩
 ·rw [List.nodup_append]
  refine ⟨h.nd, by simp, fun c hc c' hc' e => ?_⟩
  obtain rfl : c' = k := by simpa using hc'
  subst e
  obtain ⟨y, h1, h2, h3⟩ := h.was c hc
  have := key_same hst h1 hxe (h3.trans hk.symm)
  subst this
  rw [hxs] at h2; cases h2
theorem KeysAt.done {es : Array MapEntry} {seen : Array Nat} {pre : List Int} (h : KeysAt es seen pre) (h0 : (leftOf es seen).size = 0) {ks : List Int} (hks : es.toList.map (·.key) = ks.map (Value.int .u64)) (hnd : ks.Nodup) : pre.Perm ks := by
 rw [List.perm_ext_iff_of_nodup h.nd hnd]
 intro c
 constructor
 ·intro hc
  obtain ⟨y, h1, _, h3⟩ := h.was c hc
  have : y.key ∈ ks.map (Value.int .u64) := by rw [← hks]; exact List.mem_map.2 ⟨y, h1, rfl⟩
  obtain ⟨c', h4, h5⟩ := List.mem_map.1 this
  rw [h3] at h5
  injection h5 with _ h5
  exact h5 ▸ h4
 ·intro hc
  have : Value.int .u64 c ∈ es.toList.map (·.key) := by rw [hks]; exact List.mem_map.2 ⟨c, hc, rfl⟩
  obtain ⟨y, h1, h2⟩ := List.mem_map.1 this
  have hs : seen.contains y.born = true := by
   cases e : seen.contains y.born with
   | true => rfl
   | false =>
    have : y ∈ (leftOf es seen).toList := by unfold leftOf; simp at h1 e ⊢; exact ⟨h1, e⟩
    rw [Array.eq_empty_of_size_eq_zero h0] at this
    simp at this
  obtain ⟨c', h3, h4⟩ := h.all y h1 hs
  rw [h2] at h4
  injection h4 with _ h4
  exact h4 ▸ h3
set_option maxRecDepth 100000 in
set_option maxHeartbeats 4000000 in
theorem keys1_in (n l Bm pb : Nat) (hn : 1 ≤ n) (es : Array MapEntry) (clock : Nat) (hst : Stamped es clock) (ks : List Int) (hks : es.toList.map (·.key) = ks.map (Value.int .u64)) (hnd : ks.Nodup) (J Jx : List Int → World → Prop)
  (hY : ∀ pre x W, J pre W → pre.length < es.size → YieldAt Fence.wide (n - 1) Tryz.prog l #[.int .u64 x] W fun e W' => (e = .returned (.bool true) ∧ J (pre ++ [x]) W' ∧ KeepsWalks W W') ∨ (e = .returned (.bool false) ∧ Jx (pre ++ [x]) W'))
  (W : World) (hJ : AbidesFrom W.heap.size J) (hm : W.cell? ⟨Bm, 0, none⟩ = some (.map (some pb))) (hes : W.heap[pb]? = some (.map es clock)) (h0 : J [] W) :
  CallsIn Fence.wide n Tryz.prog 62 #[.func (.yield l) #[] #[], .pointer (some ⟨Bm, 0, none⟩)] W fun e W' => (∃ v, e = .returned v) ∧ ((∃ xs, xs.Perm ks ∧ J xs W') ∨ (∃ pre, True ∧ Jx pre W')) := by
 obtain ⟨kt, et, hmt, rfl, rfl⟩ := mapPg
 have hrg := run_range_map (P := Tryz.prog) W 65 _ _ pb es clock hmt hes
 have hpb := (Array.getElem?_eq_some_iff.1 hes).1
 have hkey : ∀ x ∈ es.toList, ∃ k, x.key = .int .u64 k := fun x hx => by
  have : x.key ∈ ks.map (Value.int .u64) := by rw [← hks]; exact List.mem_map.2 ⟨x, hx, rfl⟩
  obtain ⟨k, _, e⟩ := List.mem_map.1 this
  exact ⟨k, e.symm⟩
 refine callsIn_of_wp Tryz.func62 rfl trivial ?_ rfl
 simp only [Tryz.ntmps62, List.size_toArray, List.length_cons, List.length_nil, Nat.reduceAdd, Nat.reduceSub, Array.replicate_succ, Array.replicate_zero, List.push_toArray, List.append_toArray, List.nil_append, List.cons_append]
 gi_wp2
 have hitr : (W.alloc (.mapIter (some pb) clock #[] clock)).heap[W.heap.size]? = some (.mapIter (some pb) clock #[] clock) := World.alloc_heap_new W _
 have hbi := bone W (.mapIter (some pb) clock #[] clock)
 have hes1 := (hbi.block pb hpb).trans hes
 have hJ1 := hJ [] W _ none h0 ⟨hbi.os, hbi.tape, hbi.output, hbi.size, fun k hk _ => hbi.block k hk⟩ (fun r e => by cases e)
 generalize W.alloc (.mapIter (some pb) clock #[] clock) = W1 at *
 gi_loopw [3] (fun _ wr => ∃ (seen : Array Nat) (pre : List Int), wr.heap[W.heap.size]? = some (.mapIter (some pb) clock seen clock) ∧ wr.heap[pb]? = some (.map es clock) ∧ KeysAt es seen pre ∧ J pre wr) (fun _ wr => (leftOf es (wr.iterSeen W.heap.size)).size)
 case atStart => exact ⟨#[], [], hitr, hes1, KeysAt.start es, hJ1⟩
 case round =>
  clear hitr hbi hes1 hJ1 hrg
  obtain ⟨seen, pre, hit, hbV, hK, hJs⟩ := hrel
  rcases run_next_at (P := Tryz.prog) wr 0 W.heap.size pb clock clock seen es clock hit hbV hst.1 (Nat.le_refl _) with ⟨hz, hrun⟩ | ⟨x, hx, V1, hal, hrun⟩
  ·have hnx : ∀ ty, (Instr.next (.pointer (some ⟨W.heap.size, 0, none⟩)) false ty).run Tryz.prog wr = _ := fun _ => hrun
   have hdone := Lib.hid (hK.done hz hks hnd)
   gi_wp2
   go_end0
   exact ⟨⟨_, rfl⟩, .inl ⟨pre, hdone.out, hJs⟩⟩
  ·obtain ⟨k, hk⟩ := hkey x (mem_left hx).1
   rw [hk] at hrun
   have hnx : ∀ ty, (Instr.next (.pointer (some ⟨W.heap.size, 0, none⟩)) false ty).run Tryz.prog wr = _ := fun _ => hrun
   have hKp := Lib.hid (hK.push hst hx hk)
   have hlen : pre.length < es.size := by have h1 := hK.len; have h2 := left_shrinks es seen x hx; omega
   have hit1 : V1.heap[W.heap.size]? = some (.mapIter (some pb) clock seen clock) := by rcases hal with rfl | rfl <;> exact hit
   have hbV1 : V1.heap[pb]? = some (.map es clock) := by rcases hal with rfl | rfl <;> exact hbV
   have hits : (Go.ChangeMaps.setBlock V1 W.heap.size (.mapIter (some pb) clock (seen.push x.born) clock)).heap[W.heap.size]? = some (.mapIter (some pb) clock (seen.push x.born) clock) := (Go.MapKept.heap_set hit1).1
   have hlt := left_shrinks es seen x hx
   have hm0 : wr.iterSeen W.heap.size = seen := by unfold World.iterSeen; rw [hit]
   have hJ2 : J pre (Go.ChangeMaps.setBlock V1 W.heap.size (.mapIter (some pb) clock (seen.push x.born) clock)) := by
    refine hJ pre wr _ (some W.heap.size) hJs ?_ (fun r e => by cases e; exact ⟨Nat.le_refl _, _, hit, rfl⟩)
    rcases hal with rfl | rfl <;> exact ⟨rfl, rfl, rfl, by simp [Go.ChangeMaps.setBlock], fun i hi hn => (setB_other _ (fun e => hn (by rw [e]))).trans rfl⟩
   have hbY : (Go.ChangeMaps.setBlock V1 W.heap.size (.mapIter (some pb) clock (seen.push x.born) clock)).heap[pb]? = some (.map es clock) := by
    rw [← hbV1]; simp [Go.ChangeMaps.setBlock, Array.getElem?_setIfInBounds]; omega
   generalize Go.ChangeMaps.setBlock V1 W.heap.size (.mapIter (some pb) clock (seen.push x.born) clock) = Y at *
   have hmY : Y.iterSeen W.heap.size = seen.push x.born := by unfold World.iterSeen; rw [hits]
   have hen := run_entry_at (P := Tryz.prog) Y W.heap.size pb clock seen es clock x hits hbY (mem_left hx).1 hst.2.1
   rw [hk] at hen
   obtain ⟨fn, tmps, assign, body, hy, hRd⟩ := hY pre k Y hJ2 hlen
   clear hK
   gi_wp2
   refine hRd.mono ?_
   rintro e W3 (⟨rfl, hJ4, hk4⟩ | ⟨rfl, hJx4⟩)
   ·have hit3 := hk4.same _ _ hits rfl
    have hb3 := hk4.same _ _ hbY rfl
    have hm3 : W3.iterSeen W.heap.size = seen.push x.born := by unfold World.iterSeen; rw [hit3]
    gi_wp2
    go_roundw
    case rel => exact ⟨_, _, hit3, hb3, hKp.out, hJ4⟩
    case measure => rw [hm3, hm0]; exact hlt
   ·gi_wp2
    refine bodyPost_ret (results_none rfl _ _ _) rfl ?_
    exact ⟨⟨_, rfl⟩, .inr ⟨_, trivial, hJx4⟩⟩
theorem keys_stops (n Bm pb : Nat) (hn : 1 ≤ n) (es : Array MapEntry) (clock : Nat) (hst : Stamped es clock) (ks : List Int) (hks : es.toList.map (·.key) = ks.map (Value.int .u64)) (hnd : ks.Nodup) (w : World) (hm : w.cell? ⟨Bm, 0, none⟩ = some (.map (some pb))) (hes : w.heap[pb]? = some (.map es clock)) :
  SeqStopsK Fence.wide n Tryz.prog 62 #[.pointer (some ⟨Bm, 0, none⟩)] (fun x : Int => #[.int .u64 x]) KeepsWalks (fun xs => xs.Perm ks) (fun _ => True) es.size w :=
 fun l J Jx W hW1 hJ _ hY h00 => keys1_in n l Bm pb hn es clock hst ks hks hnd J Jx hY W hJ (cell_lt hW1 hm (World.block_lt_of_cell? w _ hm)) ((hW1.block pb (Array.getElem?_eq_some_iff.1 hes).1).trans hes) h00
end Go.Proofs.YtiblhlaemmdphaaGreat
