/- The walk of span.good: it hands out the good ones of any spans, as their first and last addresses, in order. Conditions: words of 64 bits; no more spans than a slice may hold. -/
import Derived.RangeFuncNested
import Derived.RangeFuncBound
import Derived.RangeFuncCalls
import Derived.RangeFuncLeaves
import Derived.Shelf.Abstract
import Derived.Shelf.RegionOpen
import Derived.WalkKit
import Derived.OwnWalkIn
import Derived.TacticsInMore
import Derived.LoopNIn
import Derived.LoopIn
import Derived.Test.YtiblhlaemmdphaaGreatTableBuildsP2
import Derived.Test.YtiblhlaemmdphaaGreatTableBuildsP6
import Derived.Test.YtiblhlaemmdphaaGreatTableBuildsP18
namespace Go.Proofs.YtiblhlaemmdphaaGreat
open Go Go.RowKit Go.Shelf
attribute [local go_sem] Oper.semAt_some
def endOf (x : Two) : Two := tw x.a (lastV x.a x.b)
def goodEnds (l : List Two) : List Two := (l.filter fun x => goodB x.a x.b).map endOf
theorem goodEnds_yes (l : List Two) {x : Two} (h : goodB x.a x.b = true) : goodEnds (l ++ [x]) = goodEnds l ++ [endOf x] := by simp [goodEnds, h]
theorem goodEnds_no (l : List Two) {x : Two} (h : goodB x.a x.b = false) : goodEnds (l ++ [x]) = goodEnds l := by simp [goodEnds, h]
theorem goodEnds_take_lt (l : List Two) (k : Nat) (hk : k < l.length) (h : goodB l[k].a l[k].b = true) : (goodEnds (l.take k)).length < (goodEnds l).length := by
 have e : goodEnds l = goodEnds (l.take k) ++ (goodEnds (l.drop k)) := by
  unfold goodEnds; rw [← List.map_append, ← List.filter_append, List.take_append_drop]
 rw [e, List.length_append, List.drop_eq_getElem_cons hk]
 unfold goodEnds
 rw [List.filter_cons_of_pos (by simpa using h)]
 simp
theorem endOf_parts (x : Two) : (endOf x).a = x.a ∧ (endOf x).b = lastV x.a x.b := ⟨W64.eq x.ha, W64.eq (lastV_w x.ha x.hb)⟩
theorem grown_of_below {w w' : World} (h : Below w.heap.size w w') : w.grownBy w' none := ⟨h.os, h.tape, h.output, h.size, fun k hk _ => h.block k hk⟩
theorem abides_below {B : Nat} {J : List Two → World → Prop} (hJ : AbidesFrom B J) {s : List Two} {w w' : World} (h : J s w) (hb : Below w.heap.size w w') : J s w' :=
 hJ s w w' none h (grown_of_below hb) (fun _ e => by cases e)
set_option maxRecDepth 100000 in
set_option maxHeartbeats 4000000 in
theorem good1_in (n l Bs : Nat) (w0 : World) (hn : 1 ≤ n) (v : Value) (xs : List Two) (hx : xs.length ≤ 1099511627776) (hrow : RowTwo w0 v xs) (J Jx : List Two → World → Prop)
  (hY : ∀ pre (x : Two) W, J pre W → pre.length < (goodEnds xs).length → YieldAt Fence.wide (n - 1) Tryz.prog l #[.agg #[.int .u64 x.a, .int .u64 x.b]] W fun e W' =>
   (e = .returned (.bool true) ∧ J (pre ++ [x]) W' ∧ Below w0.heap.size W W') ∨ (e = .returned (.bool false) ∧ Jx (pre ++ [x]) W'))
  (W : World) (hJ : AbidesFrom W.heap.size J) (hBs : W.cell? ⟨Bs, 0, none⟩ = some v) (hW : Below w0.heap.size w0 W) (h0 : J [] W) :
  CallsIn Fence.wide n Tryz.prog 128 #[.func (.yield l) #[] #[], .pointer (some ⟨Bs, 0, none⟩)] W fun e W' => (∃ v, e = .returned v) ∧
   ((∃ ys, ys = goodEnds xs ∧ J ys W') ∨ (∃ pre, True ∧ Jx pre W')) := by
 obtain ⟨a, cap, rfl, hcap, hcells⟩ := hrow
 refine callsIn_of_wp Tryz.func128 rfl trivial ?_ rfl
 simp only [Tryz.ntmps128, List.size_toArray, List.length_cons, List.length_nil, Nat.reduceAdd, Nat.reduceSub, Array.replicate_succ, Array.replicate_zero, List.push_toArray, List.append_toArray, List.nil_append, List.cons_append]
 gi_wp2
 gi_loopw [7] (fun i wr => ∃ k : Nat, k ≤ xs.length ∧ i = .int .i64 k ∧ J (goodEnds (xs.take k)) wr ∧ Below w0.heap.size W wr ∧ W.heap.size ≤ wr.heap.size)
  (fun i _ => xs.length - (intOf i).toNat)
 case atStart => exact ⟨0, Nat.zero_le _, rfl, h0, Below.refl _ _, Nat.le_refl _⟩
 case round =>
  obtain ⟨k, hk, rfl, hJs, hB, hz⟩ := hrel
  by_cases hlt : k < xs.length
  ·obtain ⟨b, off, rfl, hbl, hcell⟩ := hcells (by rintro rfl; simp at hlt)
   have h1 := (hcell k hlt).1
   have h2 := (hcell k hlt).2
   rw [← (hW.trans hB).cell (p := ⟨b, _, none⟩) hbl] at h1 h2
   cases hg : goodB xs[k].a xs[k].b
   ·have hsn : Hid (goodEnds (xs.take (k + 1)) = goodEnds (xs.take k)) := by show _ = _; rw [List.take_succ_eq_append_getElem hlt, goodEnds_no _ hg]
    clear hcells hcell
    generalize xs[k] = x at *
    have hz1 : Below W.heap.size W W := Below.refl _ _
    gi_wp2
    obtain ⟨w2, hw2⟩ : ∃ w2, w2 = wr.alloc (.cells #[.int .u64 x.a, .int .u64 x.b] 28) := ⟨_, rfl⟩
    have d0 : w2.cell? ⟨wr.heap.size, 0, none⟩ = some (.int .u64 x.a) := by rw [hw2]; simp [World.cell?_alloc_new]
    have d1 : w2.cell? ⟨wr.heap.size, 1, none⟩ = some (.int .u64 x.b) := by rw [hw2]; simp [World.cell?_alloc_new]
    have hS : w2.heap.size = wr.heap.size + 1 := by rw [hw2]; simp
    have hA : Below wr.heap.size wr w2 := by rw [hw2]; exact bone _ _
    rw [← hw2]
    clear hw2 h1 h2
    refine region_later_in w2.heap.size w2 (Below.refl _ _) rfl (by kernel_rfl) (by kernel_rfl) ?_
    have y0 := later_cell (B := w2.heap.size) d0 (by omega)
    have y1 := later_cell (B := w2.heap.size) d1 (by omega)
    repeat (refine wpQuietIn_step (fun _ _ _ _ => trivial) (fun K hK => ?_); go_simp; first | (refine hK _ ?_; clear hK K) | (apply Exists.intro; refine ⟨fun _ => ?_, hK _ ?_⟩; (first | (gi_at_call 28; exact quiet_later_in (Nat.le_refl _) (callsIn_wide.2 (good_any _ _ _ x.ha x.hb))) | (gi_at_call 22; exact quiet_later_in (Nat.le_refl _) (callsIn_wide.2 (last_any _ _ _ x.ha x.hb)))); clear hK K))
    refine wpQuietIn_nil ?_
    first | (rintro _ ⟨X, rfl⟩) | (intro X)
    have hX := X.h
    clear y0 y1
    generalize X.x = w3 at *
    have hA3 : Below wr.heap.size wr w3 := hA.trans (hX.mono (by omega))
    gi_wp2
    go_roundw
    case rel => exact ⟨k + 1, by omega, by go_num, by rw [hsn.out]; exact abides_below hJ hJs hA3, hB.trans (hA3.mono (Nat.le_trans hW.size hz)), Nat.le_trans hz hA3.size⟩
    case measure => simp [intOf]; omega
   ·have hsn : Hid (goodEnds (xs.take (k + 1)) = goodEnds (xs.take k) ++ [endOf xs[k]]) := by show _ = _; rw [List.take_succ_eq_append_getElem hlt, goodEnds_yes _ hg]
    have hlen := goodEnds_take_lt xs k hlt hg
    clear hcells hcell
    generalize xs[k] = x at *
    gi_wp2
    obtain ⟨w2, hw2⟩ : ∃ w2, w2 = wr.alloc (.cells #[.int .u64 x.a, .int .u64 x.b] 28) := ⟨_, rfl⟩
    have d0 : w2.cell? ⟨wr.heap.size, 0, none⟩ = some (.int .u64 x.a) := by rw [hw2]; simp [World.cell?_alloc_new]
    have d1 : w2.cell? ⟨wr.heap.size, 1, none⟩ = some (.int .u64 x.b) := by rw [hw2]; simp [World.cell?_alloc_new]
    have hS : w2.heap.size = wr.heap.size + 1 := by rw [hw2]; simp
    have hA : Below wr.heap.size wr w2 := by rw [hw2]; exact bone _ _
    rw [← hw2]
    clear hw2 h1 h2
    refine region_later_tail_in w2.heap.size w2 9 (Below.refl _ _) rfl (by kernel_rfl) (by kernel_rfl) ?_
    have y0 := later_cell (B := w2.heap.size) d0 (by omega)
    have y1 := later_cell (B := w2.heap.size) d1 (by omega)
    simp only [List.take_succ_cons, List.take_zero, List.drop_succ_cons, List.drop_zero]
    repeat (refine wpQuietIn_step (fun _ _ _ _ => trivial) (fun K hK => ?_); go_simp; first | (refine hK _ ?_; clear hK K) | (apply Exists.intro; refine ⟨fun _ => ?_, hK _ ?_⟩; (first | (gi_at_call 28; exact quiet_later_in (Nat.le_refl _) (callsIn_wide.2 (good_any _ _ _ x.ha x.hb))) | (gi_at_call 22; exact quiet_later_in (Nat.le_refl _) (callsIn_wide.2 (last_any _ _ _ x.ha x.hb)))); clear hK K))
    refine wpQuietIn_nil ?_
    first | (rintro _ ⟨X, rfl⟩) | (intro X)
    have hX := X.h
    clear y0 y1
    generalize X.x = w3 at *
    have hA3 : Below wr.heap.size wr w3 := hA.trans (hX.mono (by omega))
    obtain ⟨fn, tmps, assign, body, hy, hR⟩ := hY _ (endOf x) w3 (abides_below hJ hJs hA3) hlen
    rw [(endOf_parts x).1, (endOf_parts x).2] at hy
    gi_wp2
    refine hR.mono ?_
    rintro e W3 (⟨rfl, hJ3, hk3⟩ | ⟨rfl, hJx3⟩)
    ·gi_wp2
     go_roundw
     case rel => exact ⟨k + 1, by omega, by go_num, by rw [hsn.out]; exact hJ3, (hB.trans (hA3.mono (Nat.le_trans hW.size hz))).trans hk3, Nat.le_trans hz (Nat.le_trans hA3.size hk3.size)⟩
     case measure => simp [intOf]; omega
    ·gi_wp2
     refine bodyPost_ret (results_none rfl _ _ _) rfl ?_
     exact ⟨⟨_, rfl⟩, .inr ⟨_, trivial, hJx3⟩⟩
  ·obtain rfl : k = xs.length := by omega
   rw [List.take_length] at hJs
   gi_wp2
   go_end0
   exact ⟨⟨_, rfl⟩, .inl ⟨_, rfl, hJs⟩⟩
set_option maxRecDepth 20000 in
set_option maxHeartbeats 1000000 in
theorem good_in (n : Nat) (a : Option Addr) (len cap : Nat) (w : World) :
  CallsIn Fence.wide n Tryz.prog 116 #[.slice a len cap] w fun e w' => e = .returned (.func (.func 128) #[] #[.pointer (some ⟨w.heap.size, 0, none⟩)]) ∧ w' = w.alloc (.cells #[.slice a len cap] 80) := by
 refine callsIn_of_wp Tryz.func116 rfl trivial ?_ rfl
 simp only [Tryz.ntmps116, List.size_toArray, List.length_cons, List.length_nil, Nat.reduceAdd, Nat.reduceSub, Array.replicate_succ, Array.replicate_zero, List.push_toArray, List.append_toArray, List.nil_append, List.cons_append]
 gi_wp2
 go_ret
 exact ⟨rfl, rfl⟩
theorem good_stops (n Bs : Nat) (w0 w : World) (hn : 1 ≤ n) (v : Value) (xs : List Two) (hx : xs.length ≤ 1099511627776) (hrow : RowTwo w0 v xs) (hBs : Bs < w.heap.size) (hc : w.cell? ⟨Bs, 0, none⟩ = some v) (hW : Below w0.heap.size w0 w) :
  SeqStopsK Fence.wide n Tryz.prog 128 #[.pointer (some ⟨Bs, 0, none⟩)] (fun x : Two => #[.agg #[.int .u64 x.a, .int .u64 x.b]]) (Below w0.heap.size) (fun ys => ys = goodEnds xs) (fun _ => True) (goodEnds xs).length w :=
 fun l J Jx W hW1 hJ _ hY h0 => good1_in n l Bs w0 hn v xs hx hrow J Jx hY W hJ ((hW1.cell (p := ⟨Bs, 0, none⟩) hBs).trans hc) (hW.trans (hW1.mono hW.size)) h0
end Go.Proofs.YtiblhlaemmdphaaGreat
