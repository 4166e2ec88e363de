/- The pieces of a part, and the iterator that hands them out: it writes the part itself, a captured variable. -/
import Derived.RangeFuncNested
import Derived.Shelf.Abstract
import Derived.Shelf.RegionOpen
import Derived.WalkKit
import Derived.OwnWalkIn
import Derived.TacticsInMore
import Derived.LoopNIn
import Derived.LoopIn
import Derived.ControlIn
import Derived.BigRegion
import Derived.BigRegionIn
import Derived.Maps.OwnIn
import Derived.Test.YtiblhlaemmdphaaGreatTableBuildsP15
import Derived.Test.YtiblhlaemmdphaaGreatTableBuildsP18
import Derived.Test.YtiblhlaemmdphaaGreatTableBuildsP19
import Derived.Test.YtiblhlaemmdphaaGreatTableBuildsP23
import Derived.Test.YtiblhlaemmdphaaGreatTableBuildsP24
namespace Go.Proofs.YtiblhlaemmdphaaGreat
open Go Go.RowKit Go.Shelf Go.BigFrame
attribute [local go_sem] Oper.semAt_some
def stepK (y : M5) : Int := szK (lvM y)
theorem stepK_cases (y : M5) : stepK y = 1073741824 ∨ stepK y = 2097152 ∨ stepK y = 4096 := by
 unfold stepK lvM
 split
 ·exact .inl rfl
 ·split
  ·exact .inr (.inl rfl)
  ·exact .inr (.inr rfl)
theorem lvM_cases (y : M5) : lvM y = 1 ∨ lvM y = 2 ∨ lvM y = 3 := by
 unfold lvM; split
 ·exact .inl rfl
 ·split
  ·exact .inr (.inl rfl)
  ·exact .inr (.inr rfl)
def headP (y : M5) : M5 := ⟨y.ipa, y.pa, stepK y, y.perm, y.kind, y.hi, y.hp, by have := stepK_cases y; unfold W64; omega⟩
def restP (y : M5) : M5 := ⟨(y.ipa + stepK y) % 18446744073709551616, (y.pa + stepK y) % 18446744073709551616, (y.sz - stepK y) % 18446744073709551616, y.perm, y.kind, by unfold W64; omega, by unfold W64; omega, by unfold W64; omega⟩
def piecesL (y : M5) : List (Int × M5) :=
 if _h : 0 < y.sz ∧ (restP y).sz.toNat < y.sz.toNat then (lvM y, headP y) :: piecesL (restP y) else []
termination_by y.sz.toNat
structure Cut (y : M5) : Prop where
 z : y.sz % 4096 = 0
 i : y.ipa + y.sz ≤ 1099511627776
 p : y.pa + y.sz ≤ 1099511627776
theorem Cut.step {y : M5} (h : Cut y) (h0 : 0 < y.sz) : stepK y ≤ y.sz ∧ (restP y).ipa = y.ipa + stepK y ∧ (restP y).pa = y.pa + stepK y ∧ (restP y).sz = y.sz - stepK y ∧ Cut (restP y) := by
 have hc := stepK_cases y
 have hi := y.hi.1
 have hp := y.hp.1
 have hz := h.z
 have h1 := h.i
 have h2 := h.p
 have hs : stepK y ≤ y.sz := by
  have key : ∀ k, lvB y k = true → szK k ≤ y.sz := fun k hk => by
   unfold lvB at hk
   rw [Bool.and_eq_true, decide_eq_true_iff] at hk
   exact hk.2
  unfold stepK lvM
  split
  ·rename_i hh; exact key 1 hh
  ·split
   ·rename_i hh; exact key 2 hh
   ·show (4096 : Int) ≤ y.sz; omega
 have e1 : (restP y).ipa = y.ipa + stepK y := Int.emod_eq_of_lt (by omega) (by omega)
 have e2 : (restP y).pa = y.pa + stepK y := Int.emod_eq_of_lt (by omega) (by omega)
 have e3 : (restP y).sz = y.sz - stepK y := Int.emod_eq_of_lt (by omega) (by omega)
 exact ⟨hs, e1, e2, e3, ⟨by rw [e3]; omega, by rw [e1, e3]; omega, by rw [e2, e3]; omega⟩⟩
theorem piecesL_cons {y : M5} (h : Cut y) (h0 : 0 < y.sz) : piecesL y = (lvM y, headP y) :: piecesL (restP y) := by
 obtain ⟨h1, _, _, h4, _⟩ := h.step h0
 have hc := stepK_cases y
 rw [piecesL, dif_pos ⟨h0, by rw [h4]; omega⟩]
theorem piecesL_nil {y : M5} (h0 : ¬ 0 < y.sz) : piecesL y = [] := by
 rw [piecesL, dif_neg (fun h => h0 h.1)]
def BoxM (W : World) (b : Nat) (y : M5) : Prop := W.heap[b]? = some (.cells #[.int .u64 y.ipa, .int .u64 y.pa, .int .u64 y.sz, .int .i64 y.perm, .int .i64 y.kind] 59 (0, 0))
theorem BoxM.lt {W : World} {b : Nat} {y : M5} (h : BoxM W b y) : b < W.heap.size := (Array.getElem?_eq_some_iff.1 h).1
theorem BoxM.cells {W : World} {b : Nat} {y : M5} (h : BoxM W b y) : W.cell? ⟨b, 0, none⟩ = some (.int .u64 y.ipa) ∧ W.cell? ⟨b, 1, none⟩ = some (.int .u64 y.pa) ∧ W.cell? ⟨b, 2, none⟩ = some (.int .u64 y.sz) ∧ W.cell? ⟨b, 3, none⟩ = some (.int .i64 y.perm) ∧ W.cell? ⟨b, 4, none⟩ = some (.int .i64 y.kind) := by
 refine ⟨?_, ?_, ?_, ?_, ?_⟩ <;> simp [World.cell?, show W.heap[b]? = _ from h]
theorem BoxM.frozen {W : World} {b : Nat} {y : M5} (h : BoxM W b y) (o : Nat) : W.frozen? ⟨b, o, none⟩ = false := by simp [World.frozen?, show W.heap[b]? = _ from h]
theorem BoxM.new (W : World) (y : M5) : BoxM (W.alloc (.cells #[.int .u64 y.ipa, .int .u64 y.pa, .int .u64 y.sz, .int .i64 y.perm, .int .i64 y.kind] 59)) W.heap.size y := World.alloc_heap_new W _
theorem BoxM.below {W W' : World} {b B : Nat} {y : M5} (h : BoxM W b y) (hb : Below B W W') (hlt : b < B) : BoxM W' b y := (hb.block b hlt).trans h
theorem heapAt_set {w : World} {B : Nat} {cs : Array Value} {T : TypeId} {fz : Nat × Nat} (h : w.heap[B]? = some (.cells cs T fz)) (i : Nat) (u : Value) : (w.setCell ⟨B, i, none⟩ u).heap[B]? = some (.cells (cs.setIfInBounds i u) T fz) := by
 rw [Go.Sort.setCell_eq]
 simp [Go.Sort.mapBlock, Array.getElem?_modify, h, Go.Sort.onCells]
def szAt (W : World) (b : Nat) : Nat := match W.cell? ⟨b, 2, none⟩ with
 | some (.int _ z) => z.toNat
 | _ => 0
theorem BoxM.szAt {W : World} {b : Nat} {y : M5} (h : BoxM W b y) : szAt W b = y.sz.toNat := by
 unfold Go.Proofs.YtiblhlaemmdphaaGreat.szAt; rw [h.cells.2.2.1]
set_option maxRecDepth 20000 in
set_option maxHeartbeats 1000000 in
theorem pieces_in (n : Nat) (y : M5) (w : World) :
  CallsIn Fence.wide n Tryz.prog 25 #[.agg #[.int .u64 y.ipa, .int .u64 y.pa, .int .u64 y.sz, .int .i64 y.perm, .int .i64 y.kind]] w fun e w' => e = .returned (.func (.func 53) #[] #[.pointer (some ⟨w.heap.size, 0, none⟩)]) ∧ w' = w.alloc (.cells #[.int .u64 y.ipa, .int .u64 y.pa, .int .u64 y.sz, .int .i64 y.perm, .int .i64 y.kind] 59) := by
 refine callsIn_of_wp Tryz.func25 rfl trivial ?_ rfl
 simp only [Tryz.ntmps25, List.size_toArray, List.length_cons, List.length_nil, Nat.reduceAdd, Nat.reduceSub, Array.replicate_succ, Array.replicate_zero, List.push_toArray, List.append_toArray, List.nil_append, List.cons_append]
 gi_wp2
 go_ret
 exact ⟨rfl, rfl⟩
set_option maxRecDepth 100000 in
set_option maxHeartbeats 2000000 in
theorem pieces1_in (n l Bm : Nat) (hn : 1 ≤ n) (x0 : M5) (hc0 : Cut x0) (J Jx : List (Int × M5) → World → Prop)
  (hY : ∀ pre (x : Int × M5) W0 W, J pre W0 → Below W0.heap.size W0 W → (∃ t, piecesL x0 = pre ++ x :: t) → YieldAt Fence.wide (n - 1) Tryz.prog l #[.int .i64 x.1, .agg #[.int .u64 x.2.ipa, .int .u64 x.2.pa, .int .u64 x.2.sz, .int .i64 x.2.perm, .int .i64 x.2.kind]] W fun e W' =>
   (e = .returned (.bool true) ∧ J (pre ++ [x]) W' ∧ KeepN Bm W0.heap.size W W') ∨ (e = .returned (.bool false) ∧ Jx (pre ++ [x]) W'))
  (W : World) (hJ : Deaf W.heap.size Bm J) (hBm : BoxM W Bm x0) (h0 : J [] W) :
  CallsIn Fence.wide n Tryz.prog 53 #[.func (.yield l) #[] #[], .pointer (some ⟨Bm, 0, none⟩)] W fun e W' => (∃ v, e = .returned v) ∧
   ((∃ ys, ys = piecesL x0 ∧ J ys W') ∨ (∃ pre, (∃ t, piecesL x0 = pre ++ t) ∧ Jx pre W')) := by
 have hl := hBm.lt
 refine callsIn_of_wp Tryz.func53 rfl trivial ?_ rfl
 simp only [Tryz.ntmps53, List.size_toArray, List.length_cons, List.length_nil, Nat.reduceAdd, Nat.reduceSub, Array.replicate_succ, Array.replicate_zero, List.push_toArray, List.append_toArray, List.nil_append, List.cons_append]
 gi_wp2
 gi_loopw [7] (fun _ wr => ∃ (pre : List (Int × M5)) (y : M5), piecesL x0 = pre ++ piecesL y ∧ Cut y ∧ BoxM wr Bm y ∧ J pre wr ∧ W.heap.size ≤ wr.heap.size) (fun _ wr => szAt wr Bm)
 case atStart => exact ⟨[], x0, rfl, hc0, hBm, h0, Nat.le_refl _⟩
 case round =>
  obtain ⟨pre, y, hpre, hcut, hbox, hJs, hsz⟩ := hrel
  obtain ⟨c0, c1, c2, c3, c4⟩ := hbox.cells
  have hBl := hbox.lt
  have hz0 := y.hs.1
  by_cases hlt : 0 < y.sz
  ·obtain ⟨hs1, hs2, hs3, hs4, hcut'⟩ := hcut.step hlt
   have hcons := piecesL_cons hcut hlt
   have hlen : ∃ t, piecesL x0 = pre ++ (lvM y, headP y) :: t := ⟨_, by rw [hpre, hcons]⟩
   replace hlen := Lib.hid hlen
   have hlv := fun W => level_any y W
   have hsk := fun W => sizeK_any (lvM y) W (lvM_cases y)
   change ∀ W, Calls _ _ _ W fun e w' => e = .returned (.int .u64 (stepK y)) ∧ W = w' at hsk
   have hst := stepK_cases y
   replace hpre := Lib.hid hpre
   replace hcons := Lib.hid hcons
   replace hs2 := Lib.hid hs2
   replace hs3 := Lib.hid hs3
   replace hs4 := Lib.hid hs4
   replace hst := Lib.hid hst
   gi_wp2_with (first | (refine ⟨trivial, ?_⟩; gi_at_call 54; refine (callsIn_wide.2 (hlv _)).mono ?_; clear hlv; rintro e w1 ⟨rfl, hb1⟩; have box1 := hbox.below hb1 hBl; obtain ⟨d0, d1, d2, d3, d4⟩ := box1.cells; have hz1 : wr.heap.size ≤ w1.heap.size := hb1.size) | (refine ⟨trivial, ?_⟩; gi_at_call 55; refine (callsIn_wide.2 (hsk _)).mono ?_; clear hsk; rintro e w2 ⟨rfl, rfl⟩; have hy0 : YieldAt Fence.wide (n - 1) Tryz.prog l #[.int .i64 (lvM y), .agg #[.int .u64 y.ipa, .int .u64 y.pa, .int .u64 (stepK y), .int .i64 y.perm, .int .i64 y.kind]] (w1.alloc (.cells #[.int .u64 y.ipa, .int .u64 y.pa, .int .u64 (stepK y), .int .i64 y.perm, .int .i64 y.kind] 59)) _ := hY pre (lvM y, headP y) wr _ hJs (bthen hb1 (bone _ _)) hlen.out; obtain ⟨fn, tmps', assign', body', hy, hR⟩ := hy0))
   refine hR.mono ?_
   rintro e W4 (⟨rfl, hJ4, hk4⟩ | ⟨rfl, hJx4⟩)
   ·have box4 : BoxM W4 Bm y := hk4.same.trans (box1.below (bone w1 _) box1.lt)
    have hq4 : BoxM W4 w1.heap.size (headP y) := (hk4.late w1.heap.size hz1 (by simp)).trans (BoxM.new w1 (headP y))
    have hz4 : w1.heap.size + 1 ≤ W4.heap.size := by have := hk4.size; simpa using this
    obtain ⟨a0, a1, a2, a3, a4⟩ := box4.cells
    have hq2 : W4.cell? ⟨w1.heap.size, 2, none⟩ = some (.int .u64 (stepK y)) := hq4.cells.2.2.1
    have hB4 := box4.lt
    clear d0 d1 d2 d3 d4 c0 c1 c2 c3 c4 hq4 hR hy
    gi_wp2
    have f0 := box4.frozen 0
    have f1 := box4.frozen 1
    have f2 := box4.frozen 2
    gi_region
    have w0 : IntKind.u64.wrap (y.ipa + stepK y) = (restP y).ipa := IntKind.wrap_u64 _
    have w1' : IntKind.u64.wrap (y.pa + stepK y) = (restP y).pa := IntKind.wrap_u64 _
    have w2' : IntKind.u64.wrap (y.sz - stepK y) = (restP y).sz := IntKind.wrap_u64 _
    rw [w0, w1', w2']
    have hJ5 := (hJ.cells _ _ 2 (.int .u64 (restP y).sz) (hJ.cells _ _ 1 (.int .u64 (restP y).pa) (hJ.cells _ _ 0 (.int .u64 (restP y).ipa) hJ4)))
    have hb5 : BoxM (((W4.setCell ⟨Bm, 0, none⟩ (.int .u64 (restP y).ipa)).setCell ⟨Bm, 1, none⟩ (.int .u64 (restP y).pa)).setCell ⟨Bm, 2, none⟩ (.int .u64 (restP y).sz)).drew Bm (restP y) := by
     exact heapAt_set (heapAt_set (heapAt_set box4 0 _) 1 _) 2 _
    have hz5 : W4.heap.size ≤ (((W4.setCell ⟨Bm, 0, none⟩ (.int .u64 (restP y).ipa)).setCell ⟨Bm, 1, none⟩ (.int .u64 (restP y).pa)).setCell ⟨Bm, 2, none⟩ (.int .u64 (restP y).sz)).drew.heap.size := by simp
    have hJ6 := hJ.walks _ _ _ none hJ5 (grown_of_below (Below.refl _ _).drew) (fun _ e => by cases e)
    gi_wp2
    refine ⟨⟨pre ++ [(lvM y, headP y)], restP y, by rw [hpre.out, hcons.out, ← List.append_cons], hcut', hb5, hJ6, by omega⟩, ?_⟩
    rw [hb5.szAt, hbox.szAt, hs4.out]
    have := hst.out
    omega
   ·gi_wp2
    refine bodyPost_ret (results_none rfl _ _ _) rfl ?_
    exact ⟨⟨_, rfl⟩, .inr ⟨_, ⟨_, by rw [hpre.out, hcons.out, ← List.append_cons]⟩, hJx4⟩⟩
  ·have hz : y.sz = 0 := by omega
   have hn := piecesL_nil hlt
   rw [hn, List.append_nil] at hpre
   replace hpre := Lib.hid hpre
   replace hn := Lib.hid hn
   replace hz := Lib.hid hz
   gi_wp2
   go_end0
   first | exact ⟨⟨_, rfl⟩, .inl (hpre.out ▸ hJs)⟩ | exact ⟨⟨_, rfl⟩, .inl ⟨_, hpre.out, hJs⟩⟩ | trace_state
end Go.Proofs.YtiblhlaemmdphaaGreat
/- Whether a part has no more pieces than may be: a range over the iterator of pieces that counts and may return. -/
namespace Go.Proofs.YtiblhlaemmdphaaGreat
open Go Go.RowKit Go.Shelf Go.BigFrame
attribute [local go_sem] Oper.semAt_some
theorem pieces_iter (n Bm : Nat) (hn : 1 ≤ n) (y : M5) (hc : Cut y) (w : World) (hb : BoxM w Bm y) :
  IterW Fence.wide n Tryz.prog 53 #[.pointer (some ⟨Bm, 0, none⟩)] (fun x : Int × M5 => #[.int .i64 x.1, .agg #[.int .u64 x.2.ipa, .int .u64 x.2.pa, .int .u64 x.2.sz, .int .i64 x.2.perm, .int .i64 x.2.kind]]) Bm (fun ys => ys = piecesL y) (fun pre => ∃ t, piecesL y = pre ++ t) (fun pre x => ∃ t, piecesL y = pre ++ x :: t) w :=
 fun l J Jx W hW hJ _ hY h0 => pieces1_in n l Bm hn y hc J Jx hY W hJ (hb.below hW hb.lt) h0
theorem boxed_own (B : Nat) (t : TypeId) {β : Type} (f : β → Value) : Own (fun (s : β) W => Boxed W B t (f s)) :=
 fun _s _W _W' _row h hg hr => (grownBy_keeps_cells hg hr h rfl).trans h
theorem boxed_off {W : World} {B B' o : Nat} {t : TypeId} {v : Value} (h : Boxed W B t v) (hne : B ≠ B') (u : Value) : Boxed (W.setCell ⟨B', o, none⟩ u) B t v := (Below.heap_setCell W _ u B (by simpa using hne)).trans h
theorem KeepN.setCell {b B : Nat} (W : World) {l o : Nat} (v : Value) (hb : b ≠ l) (hl : l < B) : KeepN b B W (W.setCell ⟨l, o, none⟩ v) :=
 ⟨by simp, Below.heap_setCell W _ v b (by simpa using hb), fun k h1 _ => Below.heap_setCell W _ v k (by simp; omega)⟩
set_option maxRecDepth 20000 in
set_option maxHeartbeats 1000000 in
theorem few_any (y : M5) (hc : Cut y) (w : World) : Calls Tryz.prog 44 #[.agg #[.int .u64 y.ipa, .int .u64 y.pa, .int .u64 y.sz, .int .i64 y.perm, .int .i64 y.kind]] w fun e w' => e = .returned (.bool (decide ((piecesL y).length ≤ 10000))) ∧ Below w.heap.size w w' := by
 refine (callsIn_wide (n := 9)).1 ?_
 refine callsIn_of_wp_marks Tryz.func44 rfl trivial ?_ rfl
 simp only [Tryz.ntmps44, List.size_toArray, List.length_cons, List.length_nil, Nat.reduceAdd, Nat.reduceSub, Array.replicate_succ, Array.replicate_zero, List.push_toArray, List.append_toArray, List.nil_append, List.cons_append]
 gi_wp2_with (refine ⟨trivial, ?_⟩; gi_at_call 25; refine (pieces_in 8 y _).mono ?_; rintro e w' ⟨rfl, rfl⟩)
 have z0 : ((((w.alloc (.cells #[.int .u64 y.ipa, .int .u64 y.pa, .int .u64 y.sz, .int .i64 y.perm, .int .i64 y.kind] 59)).alloc (.cells #[.bool false] 4)).alloc (.cells #[.int .i64 0] 3)).alloc (.cells #[.int .u64 y.ipa, .int .u64 y.pa, .int .u64 y.sz, .int .i64 y.perm, .int .i64 y.kind] 59)).heap.size = w.heap.size + 4 := by simp
 have hB0 : Below w.heap.size w ((((w.alloc (.cells #[.int .u64 y.ipa, .int .u64 y.pa, .int .u64 y.sz, .int .i64 y.perm, .int .i64 y.kind] 59)).alloc (.cells #[.bool false] 4)).alloc (.cells #[.int .i64 0] 3)).alloc (.cells #[.int .u64 y.ipa, .int .u64 y.pa, .int .u64 y.sz, .int .i64 y.perm, .int .i64 y.kind] 59)) := ((((Below.refl _ w).alloc (Nat.le_refl _) _).alloc (by simp) _).alloc (by simp; omega) _).alloc (by simp; omega) _
 have b1 : Boxed ((((w.alloc (.cells #[.int .u64 y.ipa, .int .u64 y.pa, .int .u64 y.sz, .int .i64 y.perm, .int .i64 y.kind] 59)).alloc (.cells #[.bool false] 4)).alloc (.cells #[.int .i64 0] 3)).alloc (.cells #[.int .u64 y.ipa, .int .u64 y.pa, .int .u64 y.sz, .int .i64 y.perm, .int .i64 y.kind] 59)) (w.heap.size + 1) 4 (.bool false) := by
  refine Boxed.alloc (Boxed.alloc ?_ _) _
  have := Boxed.new (w.alloc (.cells #[.int .u64 y.ipa, .int .u64 y.pa, .int .u64 y.sz, .int .i64 y.perm, .int .i64 y.kind] 59)) 4 (.bool false)
  rwa [World.size_alloc] at this
 have b2 : Boxed ((((w.alloc (.cells #[.int .u64 y.ipa, .int .u64 y.pa, .int .u64 y.sz, .int .i64 y.perm, .int .i64 y.kind] 59)).alloc (.cells #[.bool false] 4)).alloc (.cells #[.int .i64 0] 3)).alloc (.cells #[.int .u64 y.ipa, .int .u64 y.pa, .int .u64 y.sz, .int .i64 y.perm, .int .i64 y.kind] 59)) (w.heap.size + 1 + 1) 3 (.int .i64 0) := by
  refine Boxed.alloc ?_ _
  have := Boxed.new ((w.alloc (.cells #[.int .u64 y.ipa, .int .u64 y.pa, .int .u64 y.sz, .int .i64 y.perm, .int .i64 y.kind] 59)).alloc (.cells #[.bool false] 4)) 3 (.int .i64 0)
  rwa [World.size_alloc, World.size_alloc] at this
 have b3 : BoxM ((((w.alloc (.cells #[.int .u64 y.ipa, .int .u64 y.pa, .int .u64 y.sz, .int .i64 y.perm, .int .i64 y.kind] 59)).alloc (.cells #[.bool false] 4)).alloc (.cells #[.int .i64 0] 3)).alloc (.cells #[.int .u64 y.ipa, .int .u64 y.pa, .int .u64 y.sz, .int .i64 y.perm, .int .i64 y.kind] 59)) (w.heap.size + 1 + 1 + 1) y := by
  have := BoxM.new (((w.alloc (.cells #[.int .u64 y.ipa, .int .u64 y.pa, .int .u64 y.sz, .int .i64 y.perm, .int .i64 y.kind] 59)).alloc (.cells #[.bool false] 4)).alloc (.cells #[.int .i64 0] 3)) y
  rwa [World.size_alloc, World.size_alloc, World.size_alloc] at this
 generalize ((((w.alloc (.cells #[.int .u64 y.ipa, .int .u64 y.pa, .int .u64 y.sz, .int .i64 y.perm, .int .i64 y.kind] 59)).alloc (.cells #[.bool false] 4)).alloc (.cells #[.int .i64 0] 3)).alloc (.cells #[.int .u64 y.ipa, .int .u64 y.pa, .int .u64 y.sz, .int .i64 y.perm, .int .i64 y.kind] 59)) = W0 at *
 have hI : Mine (β := List (Int × M5)) W0.heap.size (w.heap.size + 1 + 1 + 1) (fun pre W => (Boxed W (w.heap.size + 1) 4 (.bool false) ∧ Boxed W (w.heap.size + 1 + 1) 3 (.int .i64 pre.length) ∧ pre.length ≤ 10000) ∧ Below w.heap.size w W) :=
  ⟨OwnFrom.and (Own.from (fun s W W' row h hg hr => ⟨boxed_own _ _ (fun _ => .bool false) s W W' row h.1 hg hr, boxed_own _ _ (fun s : List (Int × M5) => .int .i64 s.length) s W W' row h.2.1 hg hr, h.2.2⟩) _) (ownFrom_below (Nat.le_refl _) (by omega)),
   fun s W o v h => ⟨⟨boxed_off h.1.1 (by omega) _, boxed_off h.1.2.1 (by omega) _, h.1.2.2⟩, h.2.setCell (by simp; omega) _⟩⟩
 have hIx : ∀ c, Mine (β := List (Int × M5)) W0.heap.size (w.heap.size + 1 + 1 + 1) (fun pre W => c = Code.ret ∧ (Boxed W (w.heap.size + 1) 4 (.bool false) ∧ 10000 < pre.length) ∧ Below w.heap.size w W) := fun c =>
  ⟨fun s W W' row hs hg hr => ⟨hs.1, ⟨boxed_own _ _ (fun _ => .bool false) s W W' row hs.2.1.1 hg (fun r e => (hr r e).2), hs.2.1.2⟩, ownFrom_below (β := Unit) (B := W0.heap.size) (Nat.le_refl _) (by omega) () W W' row hs.2.2 hg hr⟩, fun s W o v h => ⟨h.1, ⟨boxed_off h.2.1.1 (by omega) _, h.2.1.2⟩, h.2.2.setCell (by simp; omega) _⟩⟩
 refine wpIn_range_state rfl (by decide) (gf := 53) (lb := #[.pointer (some ⟨w.heap.size + 1 + 1 + 1, 0, none⟩)]) rfl trivial (enters_of Tryz.func53 (by kernel_rfl) rfl)
  (pieces_iter _ (w.heap.size + 1 + 1 + 1) (by decide) y hc W0 b3) b3.lt (fun _ => rfl)
  (fun pre W => (Boxed W (w.heap.size + 1) 4 (.bool false) ∧ Boxed W (w.heap.size + 1 + 1) 3 (.int .i64 pre.length) ∧ pre.length ≤ 10000) ∧ Below w.heap.size w W)
  (fun c pre W => c = .ret ∧ (Boxed W (w.heap.size + 1) 4 (.bool false) ∧ 10000 < pre.length) ∧ Below w.heap.size w W)
  hI
  hIx
  ⟨⟨b1, b2, by simp⟩, hB0⟩
  (fun _ pre W => (Boxed W (w.heap.size + 1) 4 (.bool false) ∧ Boxed W (w.heap.size + 1 + 1) 3 (.int .i64 pre.length) ∧ pre.length ≤ 10000) ∧ Below w.heap.size w W)
  (fun _ _ h => h) (fun _ => hI.own)
  (fun x a' _ => a' = { tmps := #[.agg #[.int .u64 y.ipa, .int .u64 y.pa, .int .u64 y.sz, .int .i64 y.perm, .int .i64 y.kind], .pointer (some ⟨w.heap.size, 0, none⟩), .pointer (some ⟨w.heap.size + 1, 0, none⟩), .pointer (some ⟨w.heap.size + 1 + 1, 0, none⟩), .agg #[.int .u64 y.ipa, .int .u64 y.pa, .int .u64 y.sz, .int .i64 y.perm, .int .i64 y.kind], .func (.func 53) #[] #[.pointer (some ⟨w.heap.size + 1 + 1 + 1, 0, none⟩)], .int .i64 x.1, .agg #[.int .u64 x.2.ipa, .int .u64 x.2.pa, .int .u64 x.2.sz, .int .i64 x.2.perm, .int .i64 x.2.kind], undef, undef, undef, undef], defers := [] })
  (fun x a' _ X Y row hs hg hr => hs)
  ?assign ?body ?done ?stop
 case assign =>
  rintro l1 B pre x W K hB hI hK
  gi_wp2
  exact hK _ _ ((KeepsOthers.refl _).from _) (KeepN.refl _ _ _) hI (by first | rfl | simp | kernel_rfl)
 case body =>
  rintro l1 B pre x a' W hl1 hB hBW ⟨⟨h1, h2, hle⟩, hbel⟩ rfl hlt
  have c1 := h1.cell
  have f1 := h1.frozen
  have c2 := h2.cell
  have f2 := h2.frozen
  have hw : IntKind.i64.wrap ((pre.length : Int) + 1) = (pre.length : Int) + 1 := by rw [IntKind.wrap_i64]; omega
  replace z0 := Lib.hid z0
  have hz0 : w.heap.size + 1 + 1 < B := by have := z0.out; omega
  have hl0 : ∀ v : Value, ((pre ++ [x]).length : Int) = (pre.length : Int) + 1 := fun _ => by simp
  by_cases hm : pre.length + 1 ≤ 10000
  ·have k1 : ¬ ((10000 : Int) < (pre.length : Int) + 1) := by omega
   gi_wp2
   refine ⟨(KeepsOthers.setCell _ _ _).from _, KeepN.setCell _ _ (by omega) hz0, ⟨boxed_off h1 (by omega) _, ?_, by simpa using hm⟩, hbel.setCell (by simp; omega) _⟩
   rw [hl0 undef]
   exact h2.set _
  ·have k1 : (10000 : Int) < (pre.length : Int) + 1 := by omega
   gi_wp2
   refine ⟨((KeepsOthers.setCell _ _ _).trans (KeepsOthers.setCell _ _ _)).from _, rfl, ⟨Boxed.set _ (boxed_off h1 (by omega) _), by simp; omega⟩, (hbel.setCell (by simp; omega) _).setCell (by simp) _⟩
 case done =>
  rintro D ys W hD rfl ⟨⟨h1, h2, hle⟩, hB⟩ hK
  have c1 := h1.cell
  have f1 := h1.frozen
  have hk : decide ((piecesL y).length ≤ 10000) = true := decide_eq_true hle
  replace z0 := Lib.hid z0
  have hz0 : w.heap.size + 4 ≤ D := by have := z0.out; omega
  have hr1 : Boxed (W.setCell ⟨w.heap.size + 1, 0, none⟩ (.bool true)) (w.heap.size + 1) 4 (.bool true) := h1.set _
  have hK1 : (W.setCell ⟨w.heap.size + 1, 0, none⟩ (.bool true)).heap[D]? = some (.deferred (some [])) := (Below.heap_setCell W _ _ D (by simp; omega)).trans hK
  have hB1 : Below w.heap.size w (W.setCell ⟨w.heap.size + 1, 0, none⟩ (.bool true)) := hB.setCell (by simp) _
  gi_wp2
  generalize W.setCell ⟨w.heap.size + 1, 0, none⟩ (.bool true) = W5 at *
  have hr2 : Boxed (W5.putObj D (.deferred none)) (w.heap.size + 1) 4 (.bool true) := (World.putObj_heap_other (by omega)).trans hr1
  refine ⟨by simp, .inl ⟨_, _, rfl, run_takeDeferred hK1, ?_⟩⟩
  rw [hk]
  exact ⟨.bool true, by simp [results, Tryz.results44, go_sem, hr2.cell], rfl, hB1.trans (belowK_b (w := w) (Nat.le_refl _) W5 D _ _ (by omega) hK1 rfl rfl)⟩
 case stop =>
  rintro D cc pre W hD ⟨t, ht⟩ ⟨rfl, ⟨h1, hlt⟩, hB⟩ hK
  have hk : decide ((piecesL y).length ≤ 10000) = false := decide_eq_false (by rw [ht, List.length_append]; omega)
  replace z0 := Lib.hid z0
  have hz0 : w.heap.size + 4 ≤ D := by have := z0.out; omega
  gi_wp2
  have hr2 : Boxed (W.putObj D (.deferred none)) (w.heap.size + 1) 4 (.bool false) := (World.putObj_heap_other (by omega)).trans h1
  refine ⟨by simp, .inl ⟨_, _, rfl, run_takeDeferred hK, ?_⟩⟩
  rw [hk]
  exact ⟨.bool false, by simp [results, Tryz.results44, go_sem, hr2.cell], rfl, hB.trans (belowK_b (w := w) (Nat.le_refl _) W D _ _ (by omega) hK rfl rfl)⟩
end Go.Proofs.YtiblhlaemmdphaaGreat
/- The program's Pieces: a range over the iterator of pieces that appends into a captured slice. -/
namespace Go.Proofs.YtiblhlaemmdphaaGreat
open Go Go.RowKit Go.Shelf Go.BigFrame
attribute [local go_sem] Oper.semAt_some
theorem info_partsM {P : Program} {E : TypeId} (h : InfoM P E) : ∃ i, P.info? E = some i ∧ i.zero = some (.agg #[.int .u64 0, .int .u64 0, .int .u64 0, .int .i64 0, .int .i64 0]) ∧ i.size = 5 ∧ i.bytes = 40 := by
 obtain ⟨i0, hi1, hi2⟩ := Option.map_eq_some_iff.1 h
 rw [Prod.mk.injEq, Prod.mk.injEq] at hi2
 exact ⟨i0, hi1, hi2.1, hi2.2.1, hi2.2.2⟩
theorem good_cut {y : M5} (h : goodM [y] = true) : Cut y := by
 have h1 := List.all_eq_true.1 h 0 (by simp)
 unfold okM elemB at h1
 rw [Bool.and_eq_true, Bool.and_eq_true] at h1
 have e : ([y] : List M5)[0]! = y := rfl
 rw [e] at h1
 have h2 := h1.1.1
 have h3 := h1.1.2
 rw [Bool.and_eq_true] at h3
 have h4 := pageM_iff.1 h2
 have h5 := pageM_iff.1 h3.1
 exact ⟨h4.2.2.2, by omega, by omega⟩
def piecesV (y : M5) : List M5 := if goodM [y] = true ∧ (piecesL y).length ≤ 10000 then (piecesL y).map (·.2) else []
theorem rowM_one (W : World) (y : M5) : RowM (W.alloc (.cells #[.int .u64 y.ipa, .int .u64 y.pa, .int .u64 y.sz, .int .i64 y.perm, .int .i64 y.kind] 59)) (.slice (some ⟨W.heap.size, 0, none⟩) 1 1) [y] := by
 refine ⟨_, _, rfl, Nat.le_refl _, fun _ => ⟨_, _, rfl, by simp, fun i hi => ?_⟩⟩
 have : i = 0 := by simp at hi; omega
 subst this
 exact five_new W _ _ _ _ _ _
theorem ownsRow_off {W : World} {base c o : Nat} {E : TypeId} {s k : Nat} {v : Value} {xs : List Value} (h : W.ownsRow base E s v k xs) (hne : ∀ r, v.ownBlock = some r → r ≠ c) (u : Value) : (W.setCell ⟨c, o, none⟩ u).ownsRow base E s v k xs := by
 obtain ⟨hlen, hc⟩ := h
 refine ⟨hlen, hc.imp id fun ⟨g, cap, cur, hv, hb, hg, hr⟩ => ⟨g, cap, cur, hv, hb, ?_, hr⟩⟩
 exact (Below.heap_setCell W _ u g (by have := hne g (by rw [hv]; rfl); simpa using this)).trans hg
theorem keep_appM {W w1 : World} {tmp : Obj} {v u : Value} {B b : Nat} (hg : (W.alloc tmp).grownBy w1 v.ownBlock) (hb : b < W.heap.size) (hne : b ≠ B) (hown : ∀ r, v.ownBlock = some r → r ≠ b) : (w1.setCell ⟨B, 0, none⟩ u).heap[b]? = W.heap[b]? := by
 refine (Below.heap_setCell _ _ _ b (by simpa using hne)).trans ((hg.block b (by simp; omega) (fun e => hown b e.symm rfl)).trans ?_)
 exact (bone W tmp).block b hb
theorem five_two (y : M5) (w W0 : World) (h : W0 = (w.alloc (.cells #[.slice none 0 0] 22)).alloc (.cells #[.int .u64 y.ipa, .int .u64 y.pa, .int .u64 y.sz, .int .i64 y.perm, .int .i64 y.kind] 59)) :
  Boxed W0 w.heap.size 22 (.slice none 0 0) ∧ BoxM W0 (w.heap.size + 1) y ∧ W0.heap.size = w.heap.size + 2 ∧ Below w.heap.size w W0 := by
 subst h
 refine ⟨(Boxed.new _ _ _).alloc _, ?_, by simp, ((Below.refl _ w).alloc (Nat.le_refl _) _).alloc (by simp) _⟩
 have := BoxM.new (w.alloc (.cells #[.slice none 0 0] 22)) y
 rwa [World.size_alloc] at this
def Gath (L b B : Nat) (w2 : World) (f : List (Int × M5) → List M5) (pre : List (Int × M5)) (W : World) : Prop :=
 (∃ v, Boxed W L 22 v ∧ W.ownsRow L 59 5 v pre.length (encM (f pre)) ∧ (∀ r, v.ownBlock = some r → b < r ∧ r < B)) ∧ Below L w2 W
theorem gath_own (L b B : Nat) (w2 : World) (f : List (Int × M5) → List M5) (N : Nat) (hN : L ≤ N) (hw : L ≤ w2.heap.size) : OwnFrom N (Gath L b B w2 f) :=
 OwnFrom.and (Own.from (holdsRow_own L L 22 59 5 (fun pre : List (Int × M5) => pre.length) (fun pre => encM (f pre)) (fun _ v => ∀ r, v.ownBlock = some r → b < r ∧ r < B)) _) (ownFrom_below hw hN)
theorem gath_cells {L b B : Nat} {w2 : World} {f : List (Int × M5) → List M5} {pre : List (Int × M5)} {W : World} (h : Gath L b B w2 f pre W) (hL : L < b) (o : Nat) (u : Value) : Gath L b B w2 f pre (W.setCell ⟨b, o, none⟩ u) := by
 obtain ⟨⟨v, h1, h2, h3⟩, h4⟩ := h
 exact ⟨⟨v, boxed_off h1 (by omega) _, ownsRow_off h2 (fun r e => by have := h3 r e; omega) _, h3⟩, h4.setCell (by simp; omega) _⟩
theorem cell_five_new (W : World) (p q r s v : Value) (t : TypeId) : ∀ (j : Nat) (u : Value), [p, q, r, s, v][j]? = some u → (W.alloc (.cells #[p, q, r, s, v] t)).cell? ((⟨W.heap.size, 0, none⟩ : Addr).add j) = some u := by
 intro j u hu
 have hadd : (⟨W.heap.size, 0, none⟩ : Addr).add j = ⟨W.heap.size, j, none⟩ := by unfold Addr.add; split <;> simp_all
 rw [hadd, World.cell?_alloc_new]
 simpa using hu
set_option maxRecDepth 100000 in
set_option maxHeartbeats 2000000 in
theorem pieces_any (y : M5) (w : World) : Calls Tryz.prog 19 #[.agg #[.int .u64 y.ipa, .int .u64 y.pa, .int .u64 y.sz, .int .i64 y.perm, .int .i64 y.kind]] w fun e w' => ∃ r, e = .returned r ∧ OwnM 59 w' w.heap.size r (piecesV y) ∧ Below w.heap.size w w' := by
 have hgd := fun W => goodM_any _ [y] _ (rowM_one W y) (by simp)
 obtain ⟨m0, m1, m2, m3, m4⟩ := five_new w (.int .u64 y.ipa) (.int .u64 y.pa) (.int .u64 y.sz) (.int .i64 y.perm) (.int .i64 y.kind) 59
 obtain ⟨w0, hw0⟩ : ∃ w0, w0 = w.alloc (.cells #[.int .u64 y.ipa, .int .u64 y.pa, .int .u64 y.sz, .int .i64 y.perm, .int .i64 y.kind] 59) := ⟨_, rfl⟩
 cases hg : goodM [y]
 ·rw [hg] at hgd
  have hv : piecesV y = [] := by unfold piecesV; rw [if_neg (by rw [hg]; simp)]
  rw [hv]
  clear hv hg
  go_enter Tryz.func19, Tryz.ntmps19
  go_wp2_with fail
  rw [← hw0] at m0 m1 m2 m3 m4 ⊢
  have hb0 : Below w.heap.size w w0 := by rw [hw0]; exact bone _ _
  have hgd0 := hgd w0
  have hz0 : w0.heap.size = w.heap.size + 1 := by rw [hw0]; simp
  rw [hz0] at hgd0
  clear hw0 hgd
  refine hgd0.mono ?_; rintro e w1 ⟨rfl, hb1⟩
  go_wp2_with fail
  go_ret
  exact ⟨_, rfl, OwnM.nil _ _ _, bthen (bthen hb0 (bone _ _)) hb1⟩
 ·have hcut := good_cut hg
  have hfew := fun W => few_any y hcut W
  rw [hg] at hgd
  by_cases hF : (piecesL y).length ≤ 10000
  ·have hv : piecesV y = (piecesL y).map (·.2) := by unfold piecesV; rw [if_pos ⟨hg, hF⟩]
   rw [hv]
   rw [decide_eq_true hF] at hfew
   clear hv hg
   refine (callsIn_wide (n := 9)).1 ?_
   refine callsIn_of_wp_marks Tryz.func19 rfl trivial ?_ rfl
   simp only [Tryz.ntmps19, List.size_toArray, List.length_cons, List.length_nil, Nat.reduceAdd, Nat.reduceSub, Array.replicate_succ, Array.replicate_zero, List.push_toArray, List.append_toArray, List.nil_append, List.cons_append]
   gi_wp2
   rw [← hw0] at m0 m1 m2 m3 m4 ⊢
   have hb0 : Below w.heap.size w w0 := by rw [hw0]; exact bone _ _
   have hgd0 := hgd w0
   have hz0 : w0.heap.size = w.heap.size + 1 := by rw [hw0]; simp
   rw [hz0] at hgd0
   clear hw0 hgd
   refine ⟨trivial, ?_⟩
   refine (callsIn_wide.2 hgd0).mono ?_; rintro e w1 ⟨rfl, hb1⟩
   have n0 := cell_lt hb1 (keepA m0) (by simp; omega)
   have n1 := cell_lt hb1 (keepA m1) (by simp; omega)
   have n2 := cell_lt hb1 (keepA m2) (by simp; omega)
   have n3 := cell_lt hb1 (keepA m3) (by simp; omega)
   have n4 := cell_lt hb1 (keepA m4) (by simp; omega)
   have hz1 : w.heap.size + 2 ≤ w1.heap.size := by have := hb1.size; simp at this; omega
   have hB1 : Below w.heap.size w w1 := bthen (bthen hb0 (bone _ _)) hb1
   clear hb1 hb0 hgd0 m0 m1 m2 m3 m4
   replace hz0 := Lib.hid hz0
   gi_wp2
   refine ⟨trivial, ?_⟩
   refine (callsIn_wide.2 (hfew _)).mono ?_; rintro e w2 ⟨rfl, hb2⟩
   replace n0 := cell_lt hb2 n0 (by omega)
   replace n1 := cell_lt hb2 n1 (by omega)
   replace n2 := cell_lt hb2 n2 (by omega)
   replace n3 := cell_lt hb2 n3 (by omega)
   replace n4 := cell_lt hb2 n4 (by omega)
   have hz2 : w.heap.size + 2 ≤ w2.heap.size := Nat.le_trans hz1 hb2.size
   have hB2 : Below w.heap.size w w2 := bthen hB1 hb2
   clear hb2 hB1 hz1 hfew
   have k0 := keepA (x := .cells #[.slice none 0 0] 22) n0
   have k1 := keepA (x := .cells #[.slice none 0 0] 22) n1
   have k2 := keepA (x := .cells #[.slice none 0 0] 22) n2
   have k3 := keepA (x := .cells #[.slice none 0 0] 22) n3
   have k4 := keepA (x := .cells #[.slice none 0 0] 22) n4
   have hpi := pieces_in 8 y (w2.alloc (.cells #[.slice none 0 0] 22))
   rw [World.size_alloc] at hpi
   gi_wp2_with (refine ⟨trivial, ?_⟩; gi_at_call 25; refine hpi.mono ?_; rintro e w' ⟨rfl, rfl⟩)
   clear hpi k0 k1 k2 k3 k4 n0 n1 n2 n3 n4
   obtain ⟨W0, hW0⟩ : ∃ W0, W0 = (w2.alloc (.cells #[.slice none 0 0] 22)).alloc (.cells #[.int .u64 y.ipa, .int .u64 y.pa, .int .u64 y.sz, .int .i64 y.perm, .int .i64 y.kind] 59) := ⟨_, rfl⟩
   rw [← hW0]
   obtain ⟨bL, bM, hzW, hB0⟩ := five_two y w2 W0 hW0
   clear hW0
   obtain ⟨i0, hi0, hz00, hz01, hz02⟩ := info_partsM infoMap
   obtain ⟨L, hL⟩ : ∃ L, L = w2.heap.size := ⟨_, rfl⟩
   rw [← hL] at bL bM hzW hB0 hz2 ⊢
   have hw2L : L ≤ w2.heap.size := by omega
   replace hL := Lib.hid hL
   have hI : Mine (β := List (Int × M5)) W0.heap.size (L + 1) (fun pre W => Gath L (L + 1) W.heap.size W0 (fun q => q.map (·.2)) pre W) :=
    ⟨fun s W W' row h hg hr => by
     have h1 := gath_own L (L + 1) W.heap.size W0 (fun q => q.map (·.2)) W0.heap.size (by omega) (by omega) s W W' row h hg hr
     obtain ⟨⟨v, q1, q2, q3⟩, q4⟩ := h1
     exact ⟨⟨v, q1, q2, fun r e => ⟨(q3 r e).1, Nat.lt_of_lt_of_le (q3 r e).2 hg.size⟩⟩, q4⟩,
    fun s W o v h => by
     have h1 := gath_cells h (by omega) o v
     obtain ⟨⟨v, q1, q2, q3⟩, q4⟩ := h1
     exact ⟨⟨v, q1, q2, fun r e => ⟨(q3 r e).1, by simpa using (q3 r e).2⟩⟩, q4⟩⟩
   refine wpIn_range_state rfl (by decide) (gf := 53) (lb := #[.pointer (some ⟨L + 1, 0, none⟩)]) rfl trivial (enters_of Tryz.func53 (by kernel_rfl) rfl)
    (pieces_iter _ (L + 1) (by decide) y hcut W0 bM) bM.lt (fun _ => rfl)
    (fun pre W => Gath L (L + 1) W.heap.size W0 (fun q => q.map (·.2)) pre W)
    (fun _ _ _ => False)
    hI (fun c => ⟨fun _ _ _ _ h _ _ => h, fun _ _ _ _ h => h⟩)
    ⟨⟨_, bL, World.ownsRow_nil _ _ _ _, fun r e => by simp [Value.ownBlock] at e⟩, Below.refl _ _⟩
    (fun B pre W => L + 1 < B ∧ Gath L (L + 1) B W0 (fun q => q.map (·.2)) pre W)
    (fun s W h => ⟨by have := h.2.size; obtain ⟨⟨v, q1, _⟩, _⟩ := h; omega, h⟩) (fun B s W W' row h hg hr => ⟨h.1, gath_own L (L + 1) B W0 _ _ (by omega) (by omega) s W W' row h.2 hg hr⟩)
    (fun x a' W => ∃ Bx, L < Bx ∧ BoxM W Bx x.2 ∧ a' = { tmps := #[.agg #[.int .u64 y.ipa, .int .u64 y.pa, .int .u64 y.sz, .int .i64 y.perm, .int .i64 y.kind], .pointer (some ⟨w.heap.size, 0, none⟩), .slice none 0 0, .pointer (some ⟨L, 0, none⟩), undef, .pointer (some ⟨Bx, 0, none⟩), .agg #[.int .u64 y.ipa, .int .u64 y.pa, .int .u64 y.sz, .int .i64 y.perm, .int .i64 y.kind], .slice (some ⟨w.heap.size + 1, 0, none⟩) 1 1, .bool true, .bool false, .bool false, .agg #[.int .u64 y.ipa, .int .u64 y.pa, .int .u64 y.sz, .int .i64 y.perm, .int .i64 y.kind], .bool true, .bool false, .bool false, .agg #[.int .u64 y.ipa, .int .u64 y.pa, .int .u64 y.sz, .int .i64 y.perm, .int .i64 y.kind], .func (.func 53) #[] #[.pointer (some ⟨L + 1, 0, none⟩)], .int .i64 x.1, .agg #[.int .u64 x.2.ipa, .int .u64 x.2.pa, .int .u64 x.2.sz, .int .i64 x.2.perm, .int .i64 x.2.kind], undef, undef, undef, undef, undef], defers := [] })
    (fun x a' _ X Y row hs hg hr => by obtain ⟨Bx, h1, h2, h3⟩ := hs; exact ⟨Bx, h1, (grownBy_keeps_cells hg (fun r e => (hr r e).2) h2 rfl).trans h2, h3⟩)
    ?assign ?body ?done ?stop
   case assign =>
    rintro l1 B pre x W K hBW ⟨hLB, ⟨v, hv, hown, hG⟩, hB⟩ hK
    gi_wp2
    refine hK _ _ ((KeepsOthers.alloc _ _).from _) (KeepN.of_below (bone _ _) (by omega)) ⟨hLB, ⟨v, hv.alloc _, hown.alloc _, hG⟩, hB.alloc (by omega) _⟩ ⟨W.heap.size, by omega, BoxM.new _ _, rfl⟩
   case body =>
    rintro l1 B pre x a' W hl1 hB0' hBW ⟨hLB, ⟨v, hv, hown, hG⟩, hB⟩ ⟨Bx, hBx, hbx, rfl⟩ ⟨tl, htl⟩
    have hlt : pre.length < (piecesL y).length := by rw [htl]; simp
    clear htl
    have hc := hv.cell
    have hz := hB.size
    obtain ⟨c0, c1, c2, c3, c4⟩ := hbx.cells
    have hLW : L ≤ W.heap.size := by omega
    have hlx : pre.length < 10000 := by omega
    replace hzW := Lib.hid hzW
    gi_wp2_with (gi_at_builtin; refine wpListIn_append_own_at _ rfl _ _ 22 rfl L 59 i0 _ 5 40 Tryz.underlying22 hi0 hz00 hz01 hz02 rfl (by decide) _ _ _ rfl (hown.alloc _) ⟨W.heap.size, 0, none⟩ 1 1 [.int .u64 x.2.ipa, .int .u64 x.2.pa, .int .u64 x.2.sz, .int .i64 x.2.perm, .int .i64 x.2.kind] rfl rfl (cell_five_new _ _ _ _ _ _ _) (by intro u hu; simp at hu; rcases hu with rfl | rfl | rfl | rfl | rfl <;> rfl) (by unfold maxLen; omega) (by omega) (by simp; omega) ?_; intro v' w5 hown' hgrow _ hat; replace hgrow : (W.alloc (.cells #[.int .u64 x.2.ipa, .int .u64 x.2.pa, .int .u64 x.2.sz, .int .i64 x.2.perm, .int .i64 x.2.kind] 59)).grownBy w5 v.ownBlock := hgrow; replace hat : v'.ownBlock = v.ownBlock ∨ v'.ownBlock = some (W.alloc (.cells #[.int .u64 x.2.ipa, .int .u64 x.2.pa, .int .u64 x.2.sz, .int .i64 x.2.perm, .int .i64 x.2.kind] 59)).heap.size := hat; obtain ⟨g', cap', rfl⟩ := ownsRow_succ hown'; obtain ⟨hv1, hv2, hr2, hk2, hb2⟩ := hv.appended (by decide) hown hLW (Nat.le_refl _) hown' hgrow; have hc1 := hv1.cell; have hf1 := hv1.frozen; have hc2 := hv2.cell)
    have hzW' := hzW.out
    refine ⟨hk2.from _, ⟨hb2.size, keep_appM hgrow (by omega) (by omega) (fun r e => by have := hG r e; omega), fun k h1 h2 => keep_appM hgrow h2 (by omega) (fun r e => by have := hG r e; omega)⟩, ⟨_, hv2, ?_, fun r e => ⟨?_, (World.ownsRow.lt hr2 r e).2⟩⟩, hB.trans hb2⟩
    ·have e : encM ((pre ++ [x]).map (·.2)) = encM (pre.map (·.2)) ++ [.int .u64 x.2.ipa, .int .u64 x.2.pa, .int .u64 x.2.sz, .int .i64 x.2.perm, .int .i64 x.2.kind] := by rw [List.map_append]; exact encM_snoc _ _
     show World.ownsRow _ L _ 5 _ (pre ++ [x]).length (encM ((pre ++ [x]).map (·.2)))
     rw [List.length_append, e]
     exact hr2
    ·rcases hat with h | h
     ·exact (hG r (h.symm.trans e)).1
     ·rw [h] at e; cases e; simp <;> omega
   case done =>
    rintro D ys W hD rfl ⟨⟨v, hv, hown, hG⟩, hB⟩ hK
    have hc := hv.cell
    have hz := hB.size
    gi_wp2
    refine ⟨by simp, .inl ⟨_, _, rfl, run_takeDeferred hK, ?_⟩⟩
    have hLw := hL.out
    have hown' : OwnM 59 W w.heap.size v ((piecesL y).map (·.2)) := OwnM.mono (base := L) (by unfold OwnM; rw [List.length_map]; exact hown) (by omega)
    obtain ⟨a9, c9, rfl, _, _⟩ := hown'.row
    refine ⟨_, by simp [results, Tryz.results19, go_sem], _, rfl, ownsRow_putObj hown' _ hK rfl, ?_⟩
    exact (bthen hB2 (hB0.mono (by omega))).trans ((hB.mono (by omega)).trans (belowK_b (w := w) (Nat.le_refl _) W D _ _ (by omega) hK rfl rfl))
   case stop =>
    rintro D cc pre W hD _ h _
    exact h.elim
  ·have hv : piecesV y = [] := by unfold piecesV; rw [if_neg (fun h => hF h.2)]
   rw [hv]
   rw [decide_eq_false hF] at hfew
   clear hv hg hF
   go_enter Tryz.func19, Tryz.ntmps19
   go_wp2_with fail
   rw [← hw0] at m0 m1 m2 m3 m4 ⊢
   have hb0 : Below w.heap.size w w0 := by rw [hw0]; exact bone _ _
   have hgd0 := hgd w0
   have hz0 : w0.heap.size = w.heap.size + 1 := by rw [hw0]; simp
   rw [hz0] at hgd0
   clear hw0 hgd
   refine hgd0.mono ?_; rintro e w1 ⟨rfl, hb1⟩
   have n0 := cell_lt hb1 (keepA m0) (by simp; omega)
   have n1 := cell_lt hb1 (keepA m1) (by simp; omega)
   have n2 := cell_lt hb1 (keepA m2) (by simp; omega)
   have n3 := cell_lt hb1 (keepA m3) (by simp; omega)
   have n4 := cell_lt hb1 (keepA m4) (by simp; omega)
   go_wp2_with fail
   refine (hfew _).mono ?_; rintro e w2 ⟨rfl, hb2⟩
   go_wp2_with fail
   go_ret
   exact ⟨_, rfl, OwnM.nil _ _ _, bthen (bthen (bthen hb0 (bone _ _)) hb1) hb2⟩
end Go.Proofs.YtiblhlaemmdphaaGreat
/- The reference's add: a number among numbers, once. -/
namespace Go.Proofs.YtiblhlaemmdphaaGreat
open Go Go.RowKit Go.Shelf Go.BigFrame
def OwnWd (w : World) (base : Nat) (v : Value) (l : List Int) : Prop := w.ownsRow base 26 1 v l.length (l.map fun x => .int .u64 x)
theorem OwnWd.nil (w : World) (base : Nat) : OwnWd w base (.slice none 0 0) [] := World.ownsRow_nil _ _ _ _
theorem OwnWd.parts {w : World} {base : Nat} {v : Value} {U : List Int} (h : OwnWd w base v U) :
  ∃ (a : Option Addr) (cap : Nat), v = .slice a U.length cap ∧ U.length ≤ maxLen ∧ (U ≠ [] → ∃ g, a = some ⟨g, 0, none⟩ ∧ base ≤ g ∧ g < w.heap.size ∧ ∀ i (h : i < U.length), w.cell? ⟨g, i, none⟩ = some (.int .u64 U[i])) := by
 obtain ⟨hlen, ⟨rfl, h0⟩ | ⟨g, cap, cur, rfl, hb, hg, hn, hm, hs, hx⟩⟩ := h
 ·have e := List.length_eq_zero_iff.1 h0
  subst e
  exact ⟨none, 0, rfl, by decide, fun h => absurd rfl h⟩
 ·refine ⟨some ⟨g, 0, none⟩, cap, rfl, Nat.le_trans hn hm, fun _ => ⟨g, rfl, hb, (Array.getElem?_eq_some_iff.1 hg).1, fun i hi => ?_⟩⟩
  have h1 : (cur.toList.take (U.length * 1))[i]? = some (.int .u64 U[i]) := by rw [hx, List.getElem?_map, List.getElem?_eq_getElem hi]; rfl
  rw [List.getElem?_take, if_pos (by omega)] at h1
  simp only [World.cell?, hg]
  simpa using h1
theorem ownsRow_sameF {E : TypeId} {w w' : World} {base k n : Nat} {v : Value} {l : List Value} (h : w.ownsRow base E k v n l) (hb : ∀ r, v.ownBlock = some r → w'.heap[r]? = w.heap[r]?) : w'.ownsRow base E k v n l := by
 obtain ⟨hlen, hc⟩ := h
 refine ⟨hlen, hc.imp id fun ⟨g, cap, cur, hv, hbg, hg, hr⟩ => ⟨g, cap, cur, hv, hbg, ?_, hr⟩⟩
 rw [hb g (by rw [hv]; rfl)]; exact hg
theorem OwnWd.same {w w' : World} {base : Nat} {v : Value} {l : List Int} (h : OwnWd w base v l) (hb : ∀ r, v.ownBlock = some r → w'.heap[r]? = w.heap[r]?) : OwnWd w' base v l := ownsRow_sameF h hb
def insN (l : List Int) (n : Int) : List Int := if n ∈ l then l else l ++ [n]
theorem infoWord : (Tryz.prog.info? 26).map (fun i => (i.zero, i.size, i.bytes)) = some (some (.int .u64 0), 1, 8) := by kernel_rfl
theorem wpl_append_word {P : Program} {ops : Array Oper} {rest : List Oper} {o : Oper} {a : Act} {Q : Exit → Act → World → Prop} {w : World} {p : Int} {g : Nat} (hgd : o.guard = none) (s x : Operand) (S : TypeId)
  (ho : o.op = .call { callee := .builtin .append, args := #[s, x], argTypes := #[S, S] })
  (base : Nat) (E : TypeId) (hi : (P.info? E).map (fun i => (i.zero, i.size, i.bytes)) = some (some (.int .u64 0), 1, 8)) (ht : P.underlying S = some (.slice E)) (v : Value) (U : List Int) (y : Int) (hs : a.eval s = v)
  (hx : a.eval x = .slice (some ⟨g, 0, none⟩) 1 1) (hown : w.ownsRow base E 1 v U.length (U.map fun x => .int .u64 x)) (hg : g = w.heap.size) (hy : p = y) (hl : U.length < 4398046511104) (hbase : base ≤ w.heap.size)
  (h : ∀ v' w', w'.ownsRow base E 1 v' (U ++ [y]).length ((U ++ [y]).map fun x => .int .u64 x) → (w.alloc (.cells #[.int .u64 p] E)).grownBy w' v.ownBlock → (v'.ownBlock = v.ownBlock ∨ v'.ownBlock = some (w.heap.size + 1)) → wpList P ops Q rest (a.put o.dst v') w') :
  wpList P ops Q (o :: rest) a (w.alloc (.cells #[.int .u64 p] E)) := by
 subst hy
 subst hg
 obtain ⟨i0, hi1, hi2⟩ := Option.map_eq_some_iff.1 hi
 rw [Prod.mk.injEq, Prod.mk.injEq] at hi2
 obtain ⟨hz0, hz1, hz2⟩ := hi2
 refine wpList_append_own_at (P := P) _ hgd s x S ho base E i0 _ 1 8 ht hi1 hz0 hz1 hz2 rfl (by decide) v U.length (U.map fun x => .int .u64 x) hs (World.ownsRow.alloc hown _)
  ⟨w.heap.size, 0, none⟩ 1 1 [.int .u64 p] hx rfl (cell_one_new _ _ _) ?_ ?_ ?_ ?_ ?_
 ·intro u hu; simp at hu; rcases hu with rfl; rfl
 ·unfold maxLen; omega
 ·omega
 ·simp; omega
 ·intro v' w' hown' hg _ hat
  refine h v' w' ?_ hg ?_
  ·rw [List.length_append, List.map_append]; exact hown'
  ·simpa using hat
structure AddOut (w w' : World) (base : Nat) (v v' : Value) (l : List Int) : Prop where
 own : OwnWd w' base v' l
 at' : v'.ownBlock = v.ownBlock ∨ ∀ r, v'.ownBlock = some r → w.heap.size ≤ r
 low : Below base w w'
 rest : ∀ b, b < w.heap.size → v.ownBlock ≠ some b → w'.heap[b]? = w.heap[b]?
set_option maxRecDepth 20000 in
set_option maxHeartbeats 1000000 in
theorem addW_any (v : Value) (l : List Int) (x : Int) (base : Nat) (w : World) (hown : OwnWd w base v l) (hb : base ≤ w.heap.size) (hl : l.length < 4398046511104) :
  Calls Tryz.prog 68 #[v, .int .u64 x] w fun e w' => ∃ v', e = .returned v' ∧ AddOut w w' base v v' (insN l x) := by
 have hown' := hown
 obtain ⟨a, cap, rfl, hm, hc⟩ := hown.parts
 go_enter Tryz.func68, Tryz.ntmps68
 go_wp2_with fail
 go_loop [6, 9] (fun _ i => ∃ k : Nat, k ≤ l.length ∧ i = .int .i64 k ∧ ∀ j (h : j < l.length), j < k → l[j] ≠ x) (fun _ i => l.length - (intOf i).toNat)
 case atStart => exact ⟨0, Nat.zero_le _, rfl, fun j _ h => by omega⟩
 case round =>
  obtain ⟨k, hk, rfl, hno⟩ := hrel
  by_cases hlt : k < l.length
  ·obtain ⟨g, rfl, hbg, hg, hcell⟩ := hc (by rintro rfl; simp at hlt)
   have c0 := hcell k hlt
   by_cases hx : l[k] = x
   ·have hin : insN l x = l := by unfold insN; rw [if_pos (by rw [← hx]; exact List.getElem_mem hlt)]
    have hq : (l[k] == x) = true := by simp [hx]
    replace hx := Lib.hid hx
    replace hin := Lib.hid hin
    go_wp2_with fail
    go_ret
    rw [hin.out]
    exact ⟨_, rfl, hown, .inl rfl, Below.refl _ _, fun _ _ _ => rfl⟩
   ·have hq : (l[k] == x) = false := by simp [hx]
    have hno' : ∀ j (h : j < l.length), j < k + 1 → l[j] ≠ x := fun j h h2 => by
     by_cases e : j = k
     ·subst e; exact hx
     ·exact hno j h (by omega)
    replace hx := Lib.hid hx
    replace hno' := Lib.hid hno'
    go_wp2_with fail
    go_round
    case rel => exact ⟨k + 1, hlt, by go_num, hno'.out⟩
    case measure => simp [intOf]; omega
  ·obtain rfl : k = l.length := by omega
   have hnot : x ∉ l := fun hm' => by
    obtain ⟨i, hi, e⟩ := List.getElem_of_mem hm'
    exact hno i hi hi e
   have hin : insN l x = l ++ [x] := by unfold insN; rw [if_neg hnot]
   clear hno hnot hc
   replace hin := Lib.hid hin
   go_wp2_with (at_builtin; refine wpl_append_word rfl _ _ 42 rfl base 26 infoWord Tryz.underlying42 (.slice a l.length cap) l x rfl rfl ?_ ?_ ?_ ?_ ?_ ?_; (focus (exact hown')); (focus rfl); (focus rfl); (focus omega); (focus omega); intro v' w6 hown6 hgrow hat)
   go_ret
   rw [hin.out]
   have hz := hgrow.size
   simp at hz
   refine ⟨v', rfl, hown6, ?_, Below.grown ((Below.refl base w).alloc hb _) hgrow (by simp; omega) (fun k hk => (World.ownsRow.lt hown' k hk).1), fun b h1 h2 => (hgrow.block b (by simp; omega) (fun e => h2 e.symm)).trans ((bone w _).block b h1)⟩
   rcases hat with h | h
   ·exact .inl h
   ·exact .inr fun r e => by rw [h] at e; cases e; omega
end Go.Proofs.YtiblhlaemmdphaaGreat
/- The plain law of tables: how many frames parts take, by places and by numbers. -/
namespace Go.Proofs.YtiblhlaemmdphaaGreat
open Go Go.RowKit
def placesOf (x : Int × M5) : List (Int × Int) := if x.1 = 3 then [(2, x.2.ipa / szK 1), (3, x.2.ipa / szK 2)] else if x.1 = 2 then [(2, x.2.ipa / szK 1)] else []
def insP (ks : List (Int × Int)) (p : Int × Int) : List (Int × Int) := if p ∈ ks then ks else ks ++ [p]
def keysOf (ks : List (Int × Int)) (L : List (Int × M5)) : List (Int × Int) := L.foldl (fun ks x => (placesOf x).foldl insP ks) ks
def allKeys (l : List M5) : List (Int × Int) := l.foldl (fun ks y => keysOf ks (piecesL y)) []
def needOk (l : List M5) : Prop := goodM l = true ∧ ∀ y ∈ l, (piecesL y).length ≤ 10000
instance (l : List M5) : Decidable (needOk l) := by unfold needOk; infer_instance
def needV (l : List M5) : Int × Int := if needOk l then (2 + ((allKeys l).length : Int), 0) else (0, 190)
def KeyOk (p : Int × Int) : Prop := (p.1 = 2 ∨ p.1 = 3) ∧ W64 p.2
def secF (S : List Int) (p : M5) : List Int := if p.sz < 1073741824 then insN S (p.ipa / 1073741824) else S
def thiF (T : List Int) (p : M5) : List Int := if p.sz < 2097152 then insN T (p.ipa / 2097152) else T
def secs (l : List M5) : List Int := l.foldl (fun S y => (piecesV y).foldl secF S) []
def this (l : List M5) : List Int := l.foldl (fun S y => (piecesV y).foldl thiF S) []
def refOk (l : List M5) : Prop := goodM l = true ∧ ∀ y ∈ l, piecesV y ≠ []
instance (l : List M5) : Decidable (refOk l) := by unfold refOk; infer_instance
def refNeedV (l : List M5) : Int × Int := if refOk l then (2 + ((secs l).length : Int) + ((this l).length : Int), 0) else (0, 190)
theorem piecesL_facts (y : M5) : ∀ x ∈ piecesL y, x.2.sz = szK x.1 ∧ (x.1 = 1 ∨ x.1 = 2 ∨ x.1 = 3) := by
 have key : ∀ (n : Nat) (y : M5), y.sz.toNat ≤ n → ∀ x ∈ piecesL y, x.2.sz = szK x.1 ∧ (x.1 = 1 ∨ x.1 = 2 ∨ x.1 = 3) := by
  intro n
  induction n with
  | zero =>
   intro y hy x hx
   rw [piecesL_nil (by omega)] at hx
   cases hx
  | succ n ih =>
   intro y hy x hx
   rw [piecesL] at hx
   split at hx
   ·rename_i h
    rcases List.mem_cons.1 hx with rfl | hx
    ·exact ⟨rfl, lvM_cases y⟩
    ·exact ih (restP y) (by omega) x hx
   ·cases hx
 exact key _ y (Nat.le_refl _)
theorem elem_pos {y : M5} (h : elemB y = true) : 0 < y.sz := by
 unfold elemB at h
 rw [Bool.and_eq_true] at h
 have := pageM_iff.1 h.1
 omega
theorem good_elem {l : List M5} (h : goodM l = true) {y : M5} (hy : y ∈ l) : elemB y = true := by
 obtain ⟨i, hi, rfl⟩ := List.getElem_of_mem hy
 have h1 := List.all_eq_true.1 h i (by simpa using hi)
 unfold okM at h1
 rw [Bool.and_eq_true, getElem!_pos l i hi] at h1
 exact h1.1
theorem good_one {y : M5} (h : elemB y = true) : goodM [y] = true := by
 refine goodM_yes fun k hk => ?_
 obtain rfl : k = 0 := by simp at hk; exact hk
 unfold okM nextB
 rw [Bool.and_eq_true]
 exact ⟨by simpa using h, by simp⟩
theorem piecesL_ne {y : M5} (h : elemB y = true) : piecesL y ≠ [] := by
 rw [piecesL_cons (good_cut (good_one h)) (elem_pos h)]; simp
theorem pieces_some {y : M5} (h : elemB y = true) : piecesV y ≠ [] ↔ (piecesL y).length ≤ 10000 := by
 unfold piecesV
 have h1 := piecesL_ne h
 by_cases hl : (piecesL y).length ≤ 10000
 ·rw [if_pos ⟨good_one h, hl⟩]; simpa [hl] using h1
 ·rw [if_neg (fun h => hl h.2)]; simp [hl]
theorem ok_iff (l : List M5) : refOk l ↔ needOk l := by
 unfold refOk needOk
 refine and_congr_right fun hg => ?_
 exact forall_congr' fun y => forall_congr' fun hy => pieces_some (good_elem hg hy)
structure Agree (ks : List (Int × Int)) (S T : List Int) : Prop where
 two : (ks.filter (fun p => decide (p.1 = 2))).map (·.2) = S
 three : (ks.filter (fun p => decide (p.1 = 3))).map (·.2) = T
 all : ∀ p ∈ ks, p.1 = 2 ∨ p.1 = 3
theorem Agree.nil : Agree [] [] [] := ⟨rfl, rfl, by simp⟩
theorem Agree.length {ks : List (Int × Int)} {S T : List Int} (h : Agree ks S T) : ks.length = S.length + T.length := by
 have key : ∀ ks : List (Int × Int), (∀ p ∈ ks, p.1 = 2 ∨ p.1 = 3) → ks.length = (ks.filter (fun p => decide (p.1 = 2))).length + (ks.filter (fun p => decide (p.1 = 3))).length := by
  intro ks
  induction ks with
  | nil => simp
  | cons p ks ih =>
   intro h
   have h1 := ih (fun q hq => h q (by simp [hq]))
   rcases h p (by simp) with e | e <;> simp [e] <;> omega
 have := key ks h.all
 rw [← h.two, ← h.three, List.length_map, List.length_map]
 exact this
theorem mem_sel {ks : List (Int × Int)} {k n : Int} : n ∈ (ks.filter (fun p => decide (p.1 = k))).map (·.2) ↔ (k, n) ∈ ks := by
 rw [List.mem_map]
 constructor
 ·rintro ⟨p, hp, rfl⟩
  rw [List.mem_filter, decide_eq_true_iff] at hp
  rw [← hp.2]; exact hp.1
 ·intro h
  exact ⟨(k, n), List.mem_filter.2 ⟨h, by simp⟩, rfl⟩
theorem Agree.ins2 {ks : List (Int × Int)} {S T : List Int} (h : Agree ks S T) (n : Int) : Agree (insP ks (2, n)) (insN S n) T := by
 unfold insP insN
 have hm : n ∈ S ↔ (2, n) ∈ ks := by rw [← h.two]; exact mem_sel
 by_cases hi : (2, n) ∈ ks
 ·rw [if_pos hi, if_pos (hm.2 hi)]; exact h
 ·rw [if_neg hi, if_neg (fun e => hi (hm.1 e))]
  refine ⟨?_, ?_, fun p hp => ?_⟩
  ·rw [List.filter_append, List.map_append, h.two]; simp
  ·rw [List.filter_append, List.map_append, h.three]; simp
  ·rcases List.mem_append.1 hp with hp | hp
   ·exact h.all p hp
   ·simp at hp; subst hp; exact .inl rfl
theorem Agree.ins3 {ks : List (Int × Int)} {S T : List Int} (h : Agree ks S T) (n : Int) : Agree (insP ks (3, n)) S (insN T n) := by
 unfold insP insN
 have hm : n ∈ T ↔ (3, n) ∈ ks := by rw [← h.three]; exact mem_sel
 by_cases hi : (3, n) ∈ ks
 ·rw [if_pos hi, if_pos (hm.2 hi)]; exact h
 ·rw [if_neg hi, if_neg (fun e => hi (hm.1 e))]
  refine ⟨?_, ?_, fun p hp => ?_⟩
  ·rw [List.filter_append, List.map_append, h.two]; simp
  ·rw [List.filter_append, List.map_append, h.three]; simp
  ·rcases List.mem_append.1 hp with hp | hp
   ·exact h.all p hp
   ·simp at hp; subst hp; exact .inr rfl
theorem Agree.piece {ks : List (Int × Int)} {S T : List Int} (h : Agree ks S T) {x : Int × M5} (hs : x.2.sz = szK x.1) (hx : x.1 = 1 ∨ x.1 = 2 ∨ x.1 = 3) : Agree ((placesOf x).foldl insP ks) (secF S x.2) (thiF T x.2) := by
 unfold placesOf secF thiF
 rw [hs]
 rcases hx with e | e | e <;> rw [e]
 ·exact h
 ·exact h.ins2 _
 ·exact (h.ins2 _).ins3 _
theorem Agree.pieces {L : List (Int × M5)} (hL : ∀ x ∈ L, x.2.sz = szK x.1 ∧ (x.1 = 1 ∨ x.1 = 2 ∨ x.1 = 3)) : ∀ {ks : List (Int × Int)} {S T : List Int}, Agree ks S T → Agree (keysOf ks L) ((L.map (·.2)).foldl secF S) ((L.map (·.2)).foldl thiF T) := by
 induction L with
 | nil => intro ks S T h; exact h
 | cons x L ih =>
  intro ks S T h
  exact ih (fun z hz => hL z (by simp [hz])) (h.piece (hL x (by simp)).1 (hL x (by simp)).2)
theorem agree_all {l : List M5} (h : ∀ y ∈ l, elemB y = true ∧ (piecesL y).length ≤ 10000) : Agree (allKeys l) (secs l) (this l) := by
 have key : ∀ (l : List M5), (∀ y ∈ l, elemB y = true ∧ (piecesL y).length ≤ 10000) → ∀ {ks : List (Int × Int)} {S T : List Int}, Agree ks S T →
   Agree (l.foldl (fun ks y => keysOf ks (piecesL y)) ks) (l.foldl (fun S y => (piecesV y).foldl secF S) S) (l.foldl (fun S y => (piecesV y).foldl thiF S) T) := by
  intro l
  induction l with
  | nil => intro _ ks S T h; exact h
  | cons y l ih =>
   intro hl ks S T h
   have h1 := hl y (by simp)
   have e : piecesV y = (piecesL y).map (·.2) := by unfold piecesV; rw [if_pos ⟨good_one h1.1, h1.2⟩]
   refine ih (fun z hz => hl z (by simp [hz])) ?_
   show Agree (keysOf ks (piecesL y)) ((piecesV y).foldl secF S) ((piecesV y).foldl thiF T)
   rw [e]
   exact Agree.pieces (piecesL_facts y) h
 exact key l h Agree.nil
theorem need_agree (l : List M5) : refNeedV l = needV l := by
 unfold refNeedV needV
 by_cases h : needOk l
 ·rw [if_pos ((ok_iff l).2 h), if_pos h]
  have := (agree_all (fun y hy => ⟨good_elem h.1 hy, h.2 y hy⟩)).length
  rw [this]
  simp; omega
 ·rw [if_neg (fun e => h ((ok_iff l).1 e)), if_neg h]
theorem insP_len (ks : List (Int × Int)) (p : Int × Int) : (insP ks p).length ≤ ks.length + 1 := by unfold insP; split <;> simp
theorem insN_len (ks : List Int) (p : Int) : (insN ks p).length ≤ ks.length + 1 := by unfold insN; split <;> simp
theorem piecesV_len (y : M5) : (piecesV y).length ≤ 10000 := by
 unfold piecesV; split
 ·rename_i h; simpa using h.2
 ·simp
theorem secs_snoc (l : List M5) (k : Nat) (h : k < l.length) : secs (l.take (k + 1)) = (piecesV l[k]).foldl secF (secs (l.take k)) := by
 unfold secs; rw [List.take_succ_eq_append_getElem h, List.foldl_append]; rfl
theorem this_snoc (l : List M5) (k : Nat) (h : k < l.length) : this (l.take (k + 1)) = (piecesV l[k]).foldl thiF (this (l.take k)) := by
 unfold this; rw [List.take_succ_eq_append_getElem h, List.foldl_append]; rfl
theorem take_fold {α β : Type} (f : β → α → β) (l : List α) (b : β) (k : Nat) (h : k < l.length) : (l.take (k + 1)).foldl f b = f ((l.take k).foldl f b) l[k] := by
 rw [List.take_succ_eq_append_getElem h, List.foldl_append]; rfl
end Go.Proofs.YtiblhlaemmdphaaGreat
/- The reference's Pieces. -/
namespace Go.Proofs.YtiblhlaemmdphaaGreat
open Go Go.RowKit Go.BigFrame
theorem BoxM.other {W : World} {b c o : Nat} {y : M5} (h : BoxM W b y) (hne : b ≠ c) (u : Value) : BoxM (W.setCell ⟨c, o, none⟩ u) b y := (Below.heap_setCell W _ u b (by simpa using hne)).trans h
theorem BoxM.grown {W W' : World} {row : Option Nat} {b : Nat} {y : M5} (h : BoxM W b y) (hg : W.grownBy W' row) (hne : some b ≠ row) : BoxM W' b y := (hg.block b h.lt hne).trans h
theorem BoxM.step {W : World} {b : Nat} {y : M5} (h : BoxM W b y) : BoxM (((W.setCell ⟨b, 0, none⟩ (.int .u64 (restP y).ipa)).setCell ⟨b, 1, none⟩ (.int .u64 (restP y).pa)).setCell ⟨b, 2, none⟩ (.int .u64 (restP y).sz)) b (restP y) := heapAt_set (heapAt_set (heapAt_set h 0 _) 1 _) 2 _
def tailP (y : M5) : List M5 := (piecesL y).map (·.2)
theorem tailP_cons {y : M5} (h : Cut y) (h0 : 0 < y.sz) : tailP y = headP y :: tailP (restP y) := by unfold tailP; rw [piecesL_cons h h0]; rfl
theorem tailP_nil {y : M5} (h0 : ¬ 0 < y.sz) : tailP y = [] := by unfold tailP; rw [piecesL_nil h0]; rfl
set_option maxRecDepth 20000 in
set_option maxHeartbeats 4000000 in
theorem refPieces_any (x0 : M5) (w : World) : Calls Tryz.prog 20 #[.agg #[.int .u64 x0.ipa, .int .u64 x0.pa, .int .u64 x0.sz, .int .i64 x0.perm, .int .i64 x0.kind]] w fun e w' => ∃ r, e = .returned r ∧ OwnM 59 w' w.heap.size r (piecesV x0) ∧ Below w.heap.size w w' := by
 have hgd := fun W => refGoodM_any _ [x0] _ (rowM_one W x0) (by simp)
 obtain ⟨m0, m1, m2, m3, m4⟩ := five_new w (.int .u64 x0.ipa) (.int .u64 x0.pa) (.int .u64 x0.sz) (.int .i64 x0.perm) (.int .i64 x0.kind) 59
 have hbx := BoxM.new w x0
 obtain ⟨w0, hw0⟩ : ∃ w0, w0 = w.alloc (.cells #[.int .u64 x0.ipa, .int .u64 x0.pa, .int .u64 x0.sz, .int .i64 x0.perm, .int .i64 x0.kind] 59) := ⟨_, rfl⟩
 cases hg : goodM [x0]
 ·rw [hg] at hgd
  have hv : piecesV x0 = [] := by unfold piecesV; rw [if_neg (by rw [hg]; simp)]
  rw [hv]
  clear hv hg
  go_enter Tryz.func20, Tryz.ntmps20
  go_wp2_with fail
  rw [← hw0] at m0 m1 m2 m3 m4 ⊢
  have hb0 : Below w.heap.size w w0 := by rw [hw0]; exact bone _ _
  have hgd0 := hgd w0
  have hz0 : w0.heap.size = w.heap.size + 1 := by rw [hw0]; simp
  rw [hz0] at hgd0
  clear hw0 hgd
  refine hgd0.mono ?_; rintro e w1 ⟨rfl, hb1⟩
  go_wp2_with fail
  go_ret
  exact ⟨_, rfl, OwnM.nil _ _ _, bthen (bthen hb0 (bone _ _)) hb1⟩
 ·have hcut := good_cut hg
  rw [hg] at hgd
  have hv : piecesV x0 = if (tailP x0).length ≤ 10000 then tailP x0 else [] := by
   unfold piecesV tailP
   rw [List.length_map]
   by_cases h : (piecesL x0).length ≤ 10000
   ·rw [if_pos ⟨hg, h⟩, if_pos h]
   ·rw [if_neg (fun h' => h h'.2), if_neg h]
  rw [hv]
  obtain ⟨P0, hP0⟩ : ∃ P0, P0 = tailP x0 := ⟨_, rfl⟩
  rw [← hP0]
  replace hP0 := Lib.hid hP0
  clear hv hg
  go_enter Tryz.func20, Tryz.ntmps20
  go_wp2_with fail
  rw [← hw0] at m0 m1 m2 m3 m4 hbx ⊢
  have hb0 : Below w.heap.size w w0 := by rw [hw0]; exact bone _ _
  have hgd0 := hgd w0
  have hz0 : w0.heap.size = w.heap.size + 1 := by rw [hw0]; simp
  rw [hz0] at hgd0
  clear hw0 hgd
  refine hgd0.mono ?_; rintro e w1 ⟨rfl, hb1⟩
  have hbx1 : BoxM w1 w.heap.size x0 := (hbx.below (bone _ _) (by omega)).below hb1 (by simp; omega)
  have hB1 : Below w.heap.size w w1 := bthen (bthen hb0 (bone _ _)) hb1
  clear hb1 hb0 hgd0 m0 m1 m2 m3 m4 hbx hz0
  go_wp2_with fail
  go_loopw [3] (fun v wr => ∃ (out : List M5) (y : M5), P0 = out ++ tailP y ∧ Cut y ∧ out.length ≤ 10000 ∧ BoxM wr w.heap.size y ∧ OwnM 59 wr (w.heap.size + 1) v out ∧ Below w.heap.size w wr) (fun _ wr => szAt wr w.heap.size)
  case atStart => exact ⟨[], x0, hP0.out, hcut, by simp, hbx1, OwnM.nil _ _ _, hB1⟩
  case round =>
   clear hbx1 hB1
   obtain ⟨out, y, hpre, hcut', hlen, hbox, hown, hB⟩ := hrel
   obtain ⟨c0, c1, c2, c3, c4⟩ := hbox.cells
   have hBl := hbox.lt
   have hz0 := y.hs.1
   obtain ⟨ao, co, rfl, _, _⟩ := hown.row
   by_cases hlt : 0 < y.sz
   ·obtain ⟨hs1, hs2, hs3, hs4, hcutR⟩ := hcut'.step hlt
    have hcons := tailP_cons hcut' hlt
    by_cases h10 : out.length = 10000
    ·have hno : ¬ P0.length ≤ 10000 := by rw [hpre, hcons, List.length_append]; simp; omega
     have hk : ((out.length : Int) == 10000) = true := by rw [h10]; rfl
     replace hpre := Lib.hid hpre
     replace hcons := Lib.hid hcons
     replace hs2 := Lib.hid hs2
     replace hs3 := Lib.hid hs3
     replace hs4 := Lib.hid hs4
     replace h10 := Lib.hid h10
     replace hno := Lib.hid hno
     go_wp2_with fail
     go_ret
     try rw [if_neg hno.out]
     exact ⟨_, rfl, OwnM.nil _ _ _, hB⟩
    ·have hk : ((out.length : Int) == 10000) = false := by simp; omega
     have hlv := fun W => refLevel_any y W
     have hsk := fun W => refSize_any (lvM y) W (lvM_cases y)
     change ∀ W, Calls _ _ _ W fun e w' => e = .returned (.int .u64 (stepK y)) ∧ W = w' at hsk
     have hst := stepK_cases y
     have hl9 : out.length < 10000 := by omega
     have hol := fun r => World.ownsRow.lt hown r
     have hlv5 : ∀ (e5 : List Value), e5 = encM [headP y] → e5 = [.int .u64 y.ipa, .int .u64 y.pa, .int .u64 (stepK y), .int .i64 y.perm, .int .i64 y.kind] := fun e5 h => by rw [h]; rfl
     replace hpre := Lib.hid hpre
     replace hcons := Lib.hid hcons
     replace hs2 := Lib.hid hs2
     replace hs3 := Lib.hid hs3
     replace hs4 := Lib.hid hs4
     replace hst := Lib.hid hst
     have w0' : IntKind.u64.wrap (y.ipa + stepK y) = (restP y).ipa := IntKind.wrap_u64 _
     have w1' : IntKind.u64.wrap (y.pa + stepK y) = (restP y).pa := IntKind.wrap_u64 _
     have w2' : IntKind.u64.wrap (y.sz - stepK y) = (restP y).sz := IntKind.wrap_u64 _
     have hnp := BoxM.new wr y
     go_wp2_with fail
     refine (hlv _).mono ?_
     clear hlv
     rintro e w2 ⟨rfl, hb2⟩
     have bm2 : BoxM w2 w.heap.size y := (hbox.below (bone _ _) hBl).below hb2 (by simp; omega)
     have bp2 : BoxM w2 wr.heap.size y := hnp.below hb2 (by simp)
     have ow2 : OwnM 59 w2 (w.heap.size + 1) (.slice ao out.length co) out := (hown.below (bone _ _) (Nat.le_refl _)).below hb2 (Nat.le_refl _)
     have hB2 : Below w.heap.size w w2 := hB.trans ((bthen (bone _ _) hb2).mono hB.size)
     have bp3 : BoxM (w2.setCell ⟨wr.heap.size, 2, none⟩ (.int .u64 (stepK y))) wr.heap.size (headP y) := heapAt_set bp2 2 _
     have bm3 : BoxM (w2.setCell ⟨wr.heap.size, 2, none⟩ (.int .u64 (stepK y))) w.heap.size y := bm2.other (by omega) _
     have ow3 : OwnM 59 (w2.setCell ⟨wr.heap.size, 2, none⟩ (.int .u64 (stepK y))) (w.heap.size + 1) (.slice ao out.length co) out := ownsRow_off ow2 (fun r e => by have := hol r e; omega) _
     have hB3 : Below w.heap.size w (w2.setCell ⟨wr.heap.size, 2, none⟩ (.int .u64 (stepK y))) := hB2.setCell (by simp; omega) _
     obtain ⟨d0, d1, d2, d3, d4⟩ := bp2.cells
     have fp2 := bp2.frozen 2
     have hz2 := bp2.lt
     clear hb2 hnp
     go_wp2_with (first | (go_at_call 47; refine (hsk _).mono ?_; rintro e w5 ⟨rfl, rfl⟩) | (at_builtin; refine wpl_append_map rfl _ _ 22 rfl (w.heap.size + 1) 59 infoMap Tryz.underlying22 (.slice ao out.length co) out [headP y] rfl rfl ?_ ?_ ?_ ?_ ?_ ?_ ?_; (focus (exact ow3)); (focus rfl); (focus (first | rfl | (simp; done))); (focus rfl); (focus (simp; omega)); (focus (simp; omega)); intro v' w6 hown' hbel hgrow; have bm6 : BoxM w6 w.heap.size y := BoxM.grown (bm3.below (bone _ _) bm3.lt) hgrow (fun e => by have := hol _ e.symm; omega); have bp6 : BoxM w6 wr.heap.size (headP y) := BoxM.grown (bp3.below (bone _ _) bp3.lt) hgrow (fun e => by have := hol _ e.symm; omega); obtain ⟨e0, e1, e2, _, _⟩ := bm6.cells; have e3 : w6.cell? ⟨wr.heap.size, 2, none⟩ = some (.int .u64 (stepK y)) := bp6.cells.2.2.1; have f0 := bm6.frozen 0; have f1 := bm6.frozen 1; have f2 := bm6.frozen 2; obtain ⟨a6, c6, rfl, _, _⟩ := hown'.row))
     have hle : (out ++ [headP y]).length = out.length + 1 := by simp
     rw [hle] at hown'
     refine ⟨⟨out ++ [headP y], restP y, by rw [hpre.out, hcons.out]; simp, hcutR, by simp; omega, bm6.step, ?_, ?_⟩, ?_⟩
     ·have hno : ∀ r, (Value.slice a6 (out.length + 1) c6).ownBlock = some r → r ≠ w.heap.size := fun r e => by have := (World.ownsRow.lt hown' r e).1; omega
      exact ownsRow_off (ownsRow_off (ownsRow_off hown' hno _) hno _) hno _
     ·exact (((hB3.trans (hbel _ (by omega))).setCell (by simp) _).setCell (by simp) _).setCell (by simp) _
     ·rw [bm6.step.szAt, hbox.szAt, hs4.out]
      have := hst.out
      omega
   ·have hz : y.sz = 0 := by omega
    rw [tailP_nil hlt, List.append_nil] at hpre
    subst hpre
    replace hz := Lib.hid hz
    go_wp2_with fail
    go_ret
    try rw [if_pos hlen]
    exact ⟨_, rfl, hown.mono (by omega), hB⟩
end Go.Proofs.YtiblhlaemmdphaaGreat
/- The reference's Need: numbers among numbers, of two levels. -/
namespace Go.Proofs.YtiblhlaemmdphaaGreat
open Go Go.RowKit Go.Shelf Go.BigFrame
structure TwoW (W : World) (base : Nat) (u v : Value) (S T : List Int) : Prop where
 a : OwnWd W base u S
 b : OwnWd W base v T
 ab : ∀ r, u.ownBlock = some r → v.ownBlock ≠ some r
structure Three (W : World) (base : Nat) (u v r : Value) (S T : List Int) (P : List M5) : Prop where
 two : TwoW W base u v S T
 c : OwnM 59 W base r P
 ac : ∀ k, u.ownBlock = some k → r.ownBlock ≠ some k
 bc : ∀ k, v.ownBlock = some k → r.ownBlock ≠ some k
theorem OwnWd.lt {w : World} {base : Nat} {v : Value} {l : List Int} (h : OwnWd w base v l) : ∀ r, v.ownBlock = some r → base ≤ r ∧ r < w.heap.size := World.ownsRow.lt h
theorem TwoW.nil (W : World) (base : Nat) : TwoW W base (.slice none 0 0) (.slice none 0 0) [] [] := ⟨OwnWd.nil _ _, OwnWd.nil _ _, fun r h => by cases h⟩
theorem TwoW.below {W W' : World} {base B : Nat} {u v : Value} {S T : List Int} (h : TwoW W base u v S T) (hb : Below B W W') (hB : W.heap.size ≤ B) : TwoW W' base u v S T :=
 ⟨h.a.same fun r e => hb.block r (Nat.lt_of_lt_of_le (h.a.lt r e).2 hB), h.b.same fun r e => hb.block r (Nat.lt_of_lt_of_le (h.b.lt r e).2 hB), h.ab⟩
theorem Three.below {W W' : World} {base B : Nat} {u v r : Value} {S T : List Int} {P : List M5} (h : Three W base u v r S T P) (hb : Below B W W') (hB : W.heap.size ≤ B) : Three W' base u v r S T P :=
 ⟨h.two.below hb hB, h.c.below hb hB, h.ac, h.bc⟩
theorem Three.left {W W' : World} {base : Nat} {u u' v r : Value} {S S' T : List Int} {P : List M5} (h : Three W base u v r S T P) (ho : AddOut W W' base u u' S') : Three W' base u' v r S' T P := by
 have hv := h.two.b.lt
 have hr := World.ownsRow.lt h.c
 refine ⟨⟨ho.own, h.two.b.same fun k e => ho.rest k (hv k e).2 (fun e2 => h.two.ab k e2 e), fun k e e2 => ?_⟩, ownsRow_sameF h.c fun k e => ho.rest k (hr k e).2 (fun e2 => h.ac k e2 e), fun k e e2 => ?_, h.bc⟩
 ·rcases ho.at' with h1 | h1
  ·exact h.two.ab k (h1 ▸ e) e2
  ·have := h1 k e; have := (hv k e2).2; omega
 ·rcases ho.at' with h1 | h1
  ·exact h.ac k (h1 ▸ e) e2
  ·have := h1 k e; have := (hr k e2).2; omega
theorem Three.right {W W' : World} {base : Nat} {u v v' r : Value} {S T T' : List Int} {P : List M5} (h : Three W base u v r S T P) (ho : AddOut W W' base v v' T') : Three W' base u v' r S T' P := by
 have hu := h.two.a.lt
 have hr := World.ownsRow.lt h.c
 refine ⟨⟨h.two.a.same fun k e => ho.rest k (hu k e).2 (fun e2 => h.two.ab k e e2), ho.own, fun k e e2 => ?_⟩, ownsRow_sameF h.c fun k e => ho.rest k (hr k e).2 (fun e2 => h.bc k e2 e), h.ac, fun k e e2 => ?_⟩
 ·rcases ho.at' with h1 | h1
  ·exact h.two.ab k e (h1 ▸ e2)
  ·have := h1 k e2; have := (hu k e).2; omega
 ·rcases ho.at' with h1 | h1
  ·exact h.bc k (h1 ▸ e) e2
  ·have := h1 k e; have := (hr k e2).2; omega
theorem AddOut.cell {w w' : World} {base b o : Nat} {v v' x : Value} {l : List Int} (h : AddOut w w' base v v' l) (c : w.cell? ⟨b, o, none⟩ = some x) (hn : v.ownBlock ≠ some b) : w'.cell? ⟨b, o, none⟩ = w.cell? ⟨b, o, none⟩ := by
 have := h.rest b (World.block_lt_of_cell? _ _ c) hn
 simp only [World.cell?, this]
set_option maxRecDepth 100000 in
set_option maxHeartbeats 4000000 in
theorem refNeed_any (v : Value) (l : List M5) (w : World) (hv : RowM w v l) (hl : l.length ≤ 100000) :
  Calls Tryz.prog 37 #[v] w fun e w' => e = .returned (.tuple #[.int .i64 (refNeedV l).1, .int .i64 (refNeedV l).2]) ∧ Below w.heap.size w w' := by
 have hgd := fun W h => refGoodM_any v l W h (by omega)
 have hv' := hv
 obtain ⟨a1, cp1, rfl, _, hc1⟩ := hv'
 cases hg : goodM l
 ·have hno : refNeedV l = (0, 190) := by unfold refNeedV; rw [if_neg (fun h => by rw [h.1] at hg; cases hg)]
  rw [hg] at hgd
  rw [hno]
  clear hg hno
  go_enter Tryz.func37, Tryz.ntmps37
  go_wp2_with fail
  refine (hgd _ hv).mono ?_; rintro e w1 ⟨rfl, hb1⟩
  go_wp2_with fail
  go_ret2
  exact ⟨rfl, hb1⟩
 ·rw [hg] at hgd
  replace hg := Lib.hid hg
  go_enter Tryz.func37, Tryz.ntmps37
  go_wp2_with fail
  refine (hgd _ hv).mono ?_; rintro e w1 ⟨rfl, hb1⟩
  clear hgd
  go_wp2_with fail
  go_loopw [4, 5, 16] (fun u v' i wr => ∃ k : Nat, k ≤ l.length ∧ i = .int .i64 k ∧ (∀ j (h : j < l.length), j < k → piecesV l[j] ≠ []) ∧ TwoW wr w.heap.size u v' (secs (l.take k)) (this (l.take k)) ∧ (secs (l.take k)).length ≤ 10000 * k ∧ (this (l.take k)).length ≤ 10000 * k ∧ Below w.heap.size w wr) (fun _ _ i _ => l.length - (intOf i).toNat)
  case atStart => exact ⟨0, Nat.zero_le _, rfl, fun j _ h => by omega, TwoW.nil _ _, Nat.le_refl _, Nat.le_refl _, hb1⟩
  case round =>
   obtain ⟨k, hk, rfl, hne, htwo, hS, hT, hB⟩ := hrel
   by_cases hlt : k < l.length
   ·obtain ⟨b1, o1, rfl, hbl, hcell⟩ := hc1 (by rintro rfl; simp at hlt)
    obtain ⟨p0, p1, p2, p3, p4⟩ := hcell k hlt
    replace p0 := cell_lt hB p0 hbl
    replace p1 := cell_lt hB p1 hbl
    replace p2 := cell_lt hB p2 hbl
    replace p3 := cell_lt hB p3 hbl
    replace p4 := cell_lt hB p4 hbl
    have hss := secs_snoc l k hlt
    have hts := this_snoc l k hlt
    have hno : piecesV l[k] = [] → refNeedV l = (0, 190) := fun h => by unfold refNeedV; rw [if_neg (fun e => e.2 _ (List.getElem_mem hlt) h)]
    have hne' : piecesV l[k] ≠ [] → ∀ j (h : j < l.length), j < k + 1 → piecesV l[j] ≠ [] := fun h j hj h2 => by
     by_cases e : j = k
     ·subst e; exact h
     ·exact hne j hj (by omega)
    have hrp := fun W => refPieces_any l[k] W
    have hPl := piecesV_len l[k]
    clear hcell hne hc1
    generalize l[k] = x at *
    generalize hS1 : secs (l.take (k + 1)) = S1 at *
    generalize hT1 : this (l.take (k + 1)) = T1 at *
    replace hS1 := Lib.hid hS1
    replace hT1 := Lib.hid hT1
    generalize secs (l.take k) = S0 at *
    generalize this (l.take k) = T0 at *
    generalize piecesV x = P at *
    replace hss := Lib.hid hss
    replace hts := Lib.hid hts
    replace hno := Lib.hid hno
    replace hne' := Lib.hid hne'
    have hz := hB.size
    obtain ⟨m0, m1, m2, m3, m4⟩ := five_new wr (.int .u64 x.ipa) (.int .u64 x.pa) (.int .u64 x.sz) (.int .i64 x.perm) (.int .i64 x.kind) 59
    go_wp2_with fail
    refine (hrp _).mono ?_
    rintro e w3 ⟨r, rfl, hown, hb3⟩
    obtain ⟨ar, cr, rfl, _, hcr⟩ := hown.row
    by_cases hP : P = []
    ·have hno' := hno.out hP
     have hq : ((P.length : Int) == 0) = true := by rw [hP]; rfl
     replace hno' := Lib.hid hno'
     clear hno hss hts hne' hcr hrp
     replace hP := Lib.hid hP
     go_wp2_with fail
     go_ret2
     rw [hno'.out]
     exact ⟨rfl, bthen' (bthen (bone _ _) hb3) (Below.refl _ _) |> fun h => hB.trans (h.mono hz)⟩
    ·have hq : ((P.length : Int) == 0) = false := by
      have := List.length_pos_iff.2 hP
      simp; omega
     have hne2 := hne'.out hP
     clear hno hne' hrp m0 m1 m2 m3 m4 p0 p1 p2 p3 p4
     replace hP := Lib.hid hP
     replace hne2 := Lib.hid hne2
     have hz3 := hb3.size
     have hz3' : wr.heap.size < w3.heap.size := by simp at hz3; omega
     have h3 : Three w3 w.heap.size u4 u5 (.slice ar P.length cr) S0 T0 P := by
      have ht3 := htwo.below (bthen (bone _ _) hb3) (Nat.le_refl _)
      refine ⟨ht3, hown.mono (by simp; omega), fun k e e2 => ?_, fun k e e2 => ?_⟩
      ·have h1 := (htwo.a.lt k e).2
       have h2 := (World.ownsRow.lt hown k e2).1
       simp at h2; omega
      ·have h1 := (htwo.b.lt k e).2
       have h2 := (World.ownsRow.lt hown k e2).1
       simp at h2; omega
     have hB3 : Below w.heap.size w w3 := hB.trans ((bthen (bone _ _) hb3).mono hz)
     clear hown hb3 htwo hcr hz3
     go_wp2_with fail
     obtain ⟨wo, rfl⟩ : ∃ wo : World, wo = wr := ⟨_, rfl⟩
     go_loopw [4, 5, 27] (fun u v' i w4 => ∃ j : Nat, j ≤ P.length ∧ i = .int .i64 j ∧ Three w4 w.heap.size u v' (.slice ar P.length cr) ((P.take j).foldl secF S0) ((P.take j).foldl thiF T0) P ∧ ((P.take j).foldl secF S0).length ≤ 10000 * k + j ∧ ((P.take j).foldl thiF T0).length ≤ 10000 * k + j ∧ Below w.heap.size w w4) (fun _ _ i _ => P.length - (intOf i).toNat)
     case atStart => exact ⟨0, Nat.zero_le _, rfl, h3, hS, hT, hB3⟩
     case round =>
      clear h3 hB3 hS hT hz3' hB hz
      obtain ⟨j, hj, rfl, h3, hS, hT, hB⟩ := hrel
      have hz := hB.size
      by_cases hjl : j < P.length
      ·obtain ⟨a0, c0, ea, _, hcell⟩ := h3.c.row
       simp only [Value.slice.injEq, true_and] at ea
       obtain ⟨rfl, rfl⟩ := ea
       obtain ⟨b5, o5, rfl, hb5, hcell⟩ := hcell (by rintro rfl; simp at hjl)
       obtain ⟨q0, q1, q2, q3, q4⟩ := hcell j hjl
       clear hcell
       have hSf := take_fold secF P S0 j hjl
       have hTf := take_fold thiF P T0 j hjl
       generalize hS2 : (P.take (j + 1)).foldl secF S0 = S2 at *
       generalize hT2 : (P.take (j + 1)).foldl thiF T0 = T2 at *
       replace hS2 := Lib.hid hS2
       replace hT2 := Lib.hid hT2
       generalize (P.take j).foldl secF S0 = S3 at *
       generalize (P.take j).foldl thiF T0 = T3 at *
       generalize P[j] = y at *
       obtain ⟨m0, m1, m2, m3, m4⟩ := five_new wr (.int .u64 y.ipa) (.int .u64 y.pa) (.int .u64 y.sz) (.int .i64 y.perm) (.int .i64 y.kind) 59
       replace hSf := Lib.hid hSf
       replace hTf := Lib.hid hTf
       have s1 : ∀ W, Calls Tryz.prog 47 #[.int .i64 1] W fun e w' => e = .returned (.int .u64 1073741824) ∧ Below W.heap.size W w' := fun W => (refSize_any 1 W (by omega)).mono fun e w' ⟨h, e2⟩ => ⟨h, by subst e2; exact Below.refl _ _⟩
       have s2 : ∀ W, Calls Tryz.prog 47 #[.int .i64 2] W fun e w' => e = .returned (.int .u64 2097152) ∧ Below W.heap.size W w' := fun W => (refSize_any 2 W (by omega)).mono fun e w' ⟨h, e2⟩ => ⟨h, by subst e2; exact Below.refl _ _⟩
       go_wp2_with fail
       have hlt4 : ∀ r, u4.ownBlock = some r → r < wr.heap.size := fun r e => (h3.two.a.lt r e).2
       have hlt5 : ∀ r, u5.ownBlock = some r → r < wr.heap.size := fun r e => (h3.two.b.lt r e).2
       have hbw := bone wr (.cells #[.int .u64 y.ipa, .int .u64 y.pa, .int .u64 y.sz, .int .i64 y.perm, .int .i64 y.kind] 59)
       replace h3 := h3.below hbw (Nat.le_refl _)
       replace hB := hB.trans (hbw.mono hz)
       replace hz := hB.size
       have hnu : u4.ownBlock ≠ some wr.heap.size := fun e => by have := (hlt4 _ e); omega
       have hnv : u5.ownBlock ≠ some wr.heap.size := fun e => by have := (hlt5 _ e); omega
       replace hnu := Lib.hid hnu
       replace hnv := Lib.hid hnv
       have hwz : wr.heap.size < (wr.alloc (.cells #[.int .u64 y.ipa, .int .u64 y.pa, .int .u64 y.sz, .int .i64 y.perm, .int .i64 y.kind] 59)).heap.size := by simp
       generalize wr.alloc (.cells #[.int .u64 y.ipa, .int .u64 y.pa, .int .u64 y.sz, .int .i64 y.perm, .int .i64 y.kind] 59) = w5 at *
       clear hbw q0 q1 q2 q3 q4 m1 m3 m4 hb5
       refine region_later w5.heap.size w5 (Below.refl _ _) (by kernel_rfl) (by kernel_rfl) ?_
       have y2 := later_cell (B := w5.heap.size) m2 (World.block_lt_of_cell? _ _ m2)
       repeat (first | go_big_quiet_step (fail) | go_big_quiet_step ((go_at_call 47; exact quiet_later (Nat.le_refl _) (s1 _))))
       refine wpQuiet_nil ?_
       first | (rintro _ ⟨X, rfl⟩) | (intro X)
       have hX := X.h
       clear y2
       replace h3 := h3.below hX (Nat.le_refl _)
       replace hB := hB.trans (hX.mono (by omega))
       replace m0 := cell_lt hX m0 (World.block_lt_of_cell? _ _ m0)
       replace m2 := cell_lt hX m2 (World.block_lt_of_cell? _ _ m2)
       replace hz := hB.size
       generalize X.x = w6 at *
       clear hX X
       obtain ⟨w5, rfl⟩ : ∃ w5 : World, w5 = w6 := ⟨_, rfl⟩
       have hn4 : u4.ownBlock ≠ some wr.heap.size := hnu.out
       have hn5 : u5.ownBlock ≠ some wr.heap.size := hnv.out
       by_cases k1 : y.sz < 1073741824
       ·have f1 : secF S3 y = insN S3 (y.ipa / 1073741824) := by unfold secF; rw [if_pos k1]
        have hl1 := insN_len S3 (y.ipa / 1073741824)
        replace f1 := Lib.hid f1
        go_wp2_with fail
        refine (addW_any u4 _ _ w.heap.size _ h3.two.a hz (by omega)).mono ?_
        rintro e w6 ⟨v6, rfl, ho⟩
        replace h3 := h3.left ho
        replace hB := hB.trans ho.low
        replace hz := hB.size
        replace m0 := (ho.cell m0 hn4).trans m0
        replace m2 := (ho.cell m2 hn4).trans m2
        clear ho
        generalize insN S3 (y.ipa / 1073741824) = S4 at *
        obtain ⟨w5, rfl⟩ : ∃ w5 : World, w5 = w6 := ⟨_, rfl⟩
        go_wp2_with fail
        refine region_later w5.heap.size w5 (Below.refl _ _) (by kernel_rfl) (by kernel_rfl) ?_
        have y2 := later_cell (B := w5.heap.size) m2 (World.block_lt_of_cell? _ _ m2)
        repeat (first | go_big_quiet_step (fail) | go_big_quiet_step ((go_at_call 47; exact quiet_later (Nat.le_refl _) (s2 _))))
        refine wpQuiet_nil ?_
        first | (rintro _ ⟨X, rfl⟩) | (intro X)
        have hX := X.h
        clear y2
        replace h3 := h3.below hX (Nat.le_refl _)
        replace hB := hB.trans (hX.mono (by omega))
        replace m0 := cell_lt hX m0 (World.block_lt_of_cell? _ _ m0)
        replace m2 := cell_lt hX m2 (World.block_lt_of_cell? _ _ m2)
        replace hz := hB.size
        generalize X.x = w6 at *
        clear hX X
        obtain ⟨w5, rfl⟩ : ∃ w5 : World, w5 = w6 := ⟨_, rfl⟩
        by_cases k2 : y.sz < 2097152
        ·have f2 : thiF T3 y = insN T3 (y.ipa / 2097152) := by unfold thiF; rw [if_pos k2]
         have hl2 := insN_len T3 (y.ipa / 2097152)
         replace f2 := Lib.hid f2
         go_wp2_with fail
         refine (addW_any u5 _ _ w.heap.size _ h3.two.b hz (by omega)).mono ?_
         rintro e w6 ⟨v7, rfl, ho⟩
         replace h3 := h3.right ho
         replace hB := hB.trans ho.low
         clear ho m0 m2
         generalize insN T3 (y.ipa / 2097152) = T4 at *
         go_wp2_with fail
         refine ⟨⟨j + 1, hjl, by go_num, ?_, ?_, ?_, hB⟩, ?_⟩
         ·rw [hS2.out, hT2.out, hSf.out, hTf.out, f1.out, f2.out]; exact h3
         ·rw [hS2.out, hSf.out, f1.out]; omega
         ·rw [hT2.out, hTf.out, f2.out]; omega
         ·simp [intOf]; omega
        ·have f2 : thiF T3 y = T3 := by unfold thiF; rw [if_neg k2]
         replace f2 := Lib.hid f2
         go_wp2_with fail
         refine ⟨⟨j + 1, hjl, by go_num, ?_, ?_, ?_, hB⟩, ?_⟩
         ·rw [hS2.out, hT2.out, hSf.out, hTf.out, f1.out, f2.out]; exact h3
         ·rw [hS2.out, hSf.out, f1.out]; omega
         ·rw [hT2.out, hTf.out, f2.out]; omega
         ·simp [intOf]; omega
       ·have k2 : ¬ y.sz < 2097152 := by omega
        have f1 : secF S3 y = S3 := by unfold secF; rw [if_neg k1]
        have f2 : thiF T3 y = T3 := by unfold thiF; rw [if_neg k2]
        replace f1 := Lib.hid f1
        replace f2 := Lib.hid f2
        go_wp2_with fail
        refine region_later w5.heap.size w5 (Below.refl _ _) (by kernel_rfl) (by kernel_rfl) ?_
        have y2 := later_cell (B := w5.heap.size) m2 (World.block_lt_of_cell? _ _ m2)
        repeat (first | go_big_quiet_step (fail) | go_big_quiet_step ((go_at_call 47; exact quiet_later (Nat.le_refl _) (s2 _))))
        refine wpQuiet_nil ?_
        first | (rintro _ ⟨X, rfl⟩) | (intro X)
        have hX := X.h
        clear y2
        replace h3 := h3.below hX (Nat.le_refl _)
        replace hB := hB.trans (hX.mono (by omega))
        replace m0 := cell_lt hX m0 (World.block_lt_of_cell? _ _ m0)
        replace m2 := cell_lt hX m2 (World.block_lt_of_cell? _ _ m2)
        replace hz := hB.size
        generalize X.x = w6 at *
        clear hX X
        obtain ⟨w5, rfl⟩ : ∃ w5 : World, w5 = w6 := ⟨_, rfl⟩
        go_wp2_with fail
        refine ⟨⟨j + 1, hjl, by go_num, ?_, ?_, ?_, hB⟩, ?_⟩
        ·rw [hS2.out, hT2.out, hSf.out, hTf.out, f1.out, f2.out]; exact h3
        ·rw [hS2.out, hSf.out, f1.out]; omega
        ·rw [hT2.out, hTf.out, f2.out]; omega
        ·simp [intOf]; omega
      ·obtain rfl : j = P.length := by omega
       rw [List.take_length, ← hss.out, ← hts.out] at h3
       rw [List.take_length, ← hss.out] at hS
       rw [List.take_length, ← hts.out] at hT
       go_wp2_with fail
       refine ⟨⟨k + 1, hlt, by go_num, hne2.out, ?_, ?_, ?_, hB⟩, ?_⟩
       ·rw [hS1.out, hT1.out]; exact h3.two
       ·rw [hS1.out]; omega
       ·rw [hT1.out]; omega
       ·simp [intOf]; omega
   ·obtain rfl : k = l.length := by omega
    rw [List.take_length] at htwo hS hT
    have hr : refNeedV l = (2 + ((secs l).length : Int) + ((this l).length : Int), 0) := by
     unfold refNeedV
     rw [if_pos ⟨hg.out, fun y hy => by obtain ⟨i, hi, rfl⟩ := List.getElem_of_mem hy; exact hne i hi hi⟩]
    replace hr := Lib.hid hr
    clear hne hc1 hg
    generalize secs l = S0 at *
    generalize this l = T0 at *
    obtain ⟨a4, c4, rfl, _, _⟩ := htwo.a.parts
    obtain ⟨a5, c5, rfl, _, _⟩ := htwo.b.parts
    go_wp2_with fail
    go_ret2
    rw [hr.out]
    exact ⟨rfl, hB⟩
end Go.Proofs.YtiblhlaemmdphaaGreat
