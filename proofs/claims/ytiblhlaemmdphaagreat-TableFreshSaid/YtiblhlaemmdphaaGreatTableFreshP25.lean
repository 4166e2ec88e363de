/- The pieces of a part, and the iterator that hands them out: it writes the part itself, a captured variable. -/
import Derived.RangeFuncNested
import Derived.Shelf.Abstract
import Derived.Shelf.RegionOpen
import Derived.WalkKit
import Derived.OwnWalkIn
import Derived.TacticsInMore
import Derived.LoopNIn
import Derived.LoopIn
import Derived.ControlIn
import Derived.BigRegion
import Derived.BigRegionIn
import Derived.Maps.OwnIn
import Derived.Test.YtiblhlaemmdphaaGreatTableFreshP16
import Derived.Test.YtiblhlaemmdphaaGreatTableFreshP17
import Derived.Test.YtiblhlaemmdphaaGreatTableFreshP23
import Derived.Test.YtiblhlaemmdphaaGreatTableFreshP24
namespace Go.Proofs.YtiblhlaemmdphaaGreat
open Go Go.RowKit Go.Shelf Go.BigFrame
attribute [local go_sem] Oper.semAt_some
def stepK (y : M5) : Int := szK (lvM y)
theorem stepK_cases (y : M5) : stepK y = 1073741824 ∨ stepK y = 2097152 ∨ stepK y = 4096 := by
 unfold stepK lvM
 split
 ·exact .inl rfl
 ·split
  ·exact .inr (.inl rfl)
  ·exact .inr (.inr rfl)
theorem lvM_cases (y : M5) : lvM y = 1 ∨ lvM y = 2 ∨ lvM y = 3 := by
 unfold lvM; split
 ·exact .inl rfl
 ·split
  ·exact .inr (.inl rfl)
  ·exact .inr (.inr rfl)
def headP (y : M5) : M5 := ⟨y.ipa, y.pa, stepK y, y.perm, y.kind, y.hi, y.hp, by have := stepK_cases y; unfold W64; omega⟩
def restP (y : M5) : M5 := ⟨(y.ipa + stepK y) % 18446744073709551616, (y.pa + stepK y) % 18446744073709551616, (y.sz - stepK y) % 18446744073709551616, y.perm, y.kind, by unfold W64; omega, by unfold W64; omega, by unfold W64; omega⟩
def piecesL (y : M5) : List (Int × M5) :=
 if _h : 0 < y.sz ∧ (restP y).sz.toNat < y.sz.toNat then (lvM y, headP y) :: piecesL (restP y) else []
termination_by y.sz.toNat
structure Cut (y : M5) : Prop where
 z : y.sz % 4096 = 0
 i : y.ipa + y.sz ≤ 1099511627776
 p : y.pa + y.sz ≤ 1099511627776
theorem Cut.step {y : M5} (h : Cut y) (h0 : 0 < y.sz) : stepK y ≤ y.sz ∧ (restP y).ipa = y.ipa + stepK y ∧ (restP y).pa = y.pa + stepK y ∧ (restP y).sz = y.sz - stepK y ∧ Cut (restP y) := by
 have hc := stepK_cases y
 have hi := y.hi.1
 have hp := y.hp.1
 have hz := h.z
 have h1 := h.i
 have h2 := h.p
 have hs : stepK y ≤ y.sz := by
  have key : ∀ k, lvB y k = true → szK k ≤ y.sz := fun k hk => by
   unfold lvB at hk
   rw [Bool.and_eq_true, decide_eq_true_iff] at hk
   exact hk.2
  unfold stepK lvM
  split
  ·rename_i hh; exact key 1 hh
  ·split
   ·rename_i hh; exact key 2 hh
   ·show (4096 : Int) ≤ y.sz; omega
 have e1 : (restP y).ipa = y.ipa + stepK y := Int.emod_eq_of_lt (by omega) (by omega)
 have e2 : (restP y).pa = y.pa + stepK y := Int.emod_eq_of_lt (by omega) (by omega)
 have e3 : (restP y).sz = y.sz - stepK y := Int.emod_eq_of_lt (by omega) (by omega)
 exact ⟨hs, e1, e2, e3, ⟨by rw [e3]; omega, by rw [e1, e3]; omega, by rw [e2, e3]; omega⟩⟩
theorem piecesL_cons {y : M5} (h : Cut y) (h0 : 0 < y.sz) : piecesL y = (lvM y, headP y) :: piecesL (restP y) := by
 obtain ⟨h1, _, _, h4, _⟩ := h.step h0
 have hc := stepK_cases y
 rw [piecesL, dif_pos ⟨h0, by rw [h4]; omega⟩]
theorem piecesL_nil {y : M5} (h0 : ¬ 0 < y.sz) : piecesL y = [] := by
 rw [piecesL, dif_neg (fun h => h0 h.1)]
def BoxM (W : World) (b : Nat) (y : M5) : Prop := W.heap[b]? = some (.cells #[.int .u64 y.ipa, .int .u64 y.pa, .int .u64 y.sz, .int .i64 y.perm, .int .i64 y.kind] 59 (0, 0))
theorem BoxM.lt {W : World} {b : Nat} {y : M5} (h : BoxM W b y) : b < W.heap.size := (Array.getElem?_eq_some_iff.1 h).1
theorem BoxM.cells {W : World} {b : Nat} {y : M5} (h : BoxM W b y) : W.cell? ⟨b, 0, none⟩ = some (.int .u64 y.ipa) ∧ W.cell? ⟨b, 1, none⟩ = some (.int .u64 y.pa) ∧ W.cell? ⟨b, 2, none⟩ = some (.int .u64 y.sz) ∧ W.cell? ⟨b, 3, none⟩ = some (.int .i64 y.perm) ∧ W.cell? ⟨b, 4, none⟩ = some (.int .i64 y.kind) := by
 refine ⟨?_, ?_, ?_, ?_, ?_⟩ <;> simp [World.cell?, show W.heap[b]? = _ from h]
theorem BoxM.frozen {W : World} {b : Nat} {y : M5} (h : BoxM W b y) (o : Nat) : W.frozen? ⟨b, o, none⟩ = false := by simp [World.frozen?, show W.heap[b]? = _ from h]
theorem BoxM.new (W : World) (y : M5) : BoxM (W.alloc (.cells #[.int .u64 y.ipa, .int .u64 y.pa, .int .u64 y.sz, .int .i64 y.perm, .int .i64 y.kind] 59)) W.heap.size y := World.alloc_heap_new W _
theorem BoxM.below {W W' : World} {b B : Nat} {y : M5} (h : BoxM W b y) (hb : Below B W W') (hlt : b < B) : BoxM W' b y := (hb.block b hlt).trans h
theorem heapAt_set {w : World} {B : Nat} {cs : Array Value} {T : TypeId} {fz : Nat × Nat} (h : w.heap[B]? = some (.cells cs T fz)) (i : Nat) (u : Value) : (w.setCell ⟨B, i, none⟩ u).heap[B]? = some (.cells (cs.setIfInBounds i u) T fz) := by
 rw [Go.Sort.setCell_eq]
 simp [Go.Sort.mapBlock, Array.getElem?_modify, h, Go.Sort.onCells]
def szAt (W : World) (b : Nat) : Nat := match W.cell? ⟨b, 2, none⟩ with
 | some (.int _ z) => z.toNat
 | _ => 0
theorem BoxM.szAt {W : World} {b : Nat} {y : M5} (h : BoxM W b y) : szAt W b = y.sz.toNat := by
 unfold Go.Proofs.YtiblhlaemmdphaaGreat.szAt; rw [h.cells.2.2.1]
set_option maxRecDepth 20000 in
set_option maxHeartbeats 1000000 in
theorem pieces_in (n : Nat) (y : M5) (w : World) :
  CallsIn Fence.wide n Tryz.prog 25 #[.agg #[.int .u64 y.ipa, .int .u64 y.pa, .int .u64 y.sz, .int .i64 y.perm, .int .i64 y.kind]] w fun e w' => e = .returned (.func (.func 53) #[] #[.pointer (some ⟨w.heap.size, 0, none⟩)]) ∧ w' = w.alloc (.cells #[.int .u64 y.ipa, .int .u64 y.pa, .int .u64 y.sz, .int .i64 y.perm, .int .i64 y.kind] 59) := by
 refine callsIn_of_wp Tryz.func25 rfl trivial ?_ rfl
 simp only [Tryz.ntmps25, List.size_toArray, List.length_cons, List.length_nil, Nat.reduceAdd, Nat.reduceSub, Array.replicate_succ, Array.replicate_zero, List.push_toArray, List.append_toArray, List.nil_append, List.cons_append]
 gi_wp2
 go_ret
 exact ⟨rfl, rfl⟩
set_option maxRecDepth 100000 in
set_option maxHeartbeats 2000000 in
theorem pieces1_in (n l Bm : Nat) (hn : 1 ≤ n) (x0 : M5) (hc0 : Cut x0) (J Jx : List (Int × M5) → World → Prop)
  (hY : ∀ pre (x : Int × M5) W0 W, J pre W0 → Below W0.heap.size W0 W → (∃ t, piecesL x0 = pre ++ x :: t) → YieldAt Fence.wide (n - 1) Tryz.prog l #[.int .i64 x.1, .agg #[.int .u64 x.2.ipa, .int .u64 x.2.pa, .int .u64 x.2.sz, .int .i64 x.2.perm, .int .i64 x.2.kind]] W fun e W' =>
   (e = .returned (.bool true) ∧ J (pre ++ [x]) W' ∧ KeepN Bm W0.heap.size W W') ∨ (e = .returned (.bool false) ∧ Jx (pre ++ [x]) W'))
  (W : World) (hJ : Deaf W.heap.size Bm J) (hBm : BoxM W Bm x0) (h0 : J [] W) :
  CallsIn Fence.wide n Tryz.prog 53 #[.func (.yield l) #[] #[], .pointer (some ⟨Bm, 0, none⟩)] W fun e W' => (∃ v, e = .returned v) ∧
   ((∃ ys, ys = piecesL x0 ∧ J ys W') ∨ (∃ pre, (∃ t, piecesL x0 = pre ++ t) ∧ Jx pre W')) := by
 have hl := hBm.lt
 refine callsIn_of_wp Tryz.func53 rfl trivial ?_ rfl
 simp only [Tryz.ntmps53, List.size_toArray, List.length_cons, List.length_nil, Nat.reduceAdd, Nat.reduceSub, Array.replicate_succ, Array.replicate_zero, List.push_toArray, List.append_toArray, List.nil_append, List.cons_append]
 gi_wp2
 gi_loopw [7] (fun _ wr => ∃ (pre : List (Int × M5)) (y : M5), piecesL x0 = pre ++ piecesL y ∧ Cut y ∧ BoxM wr Bm y ∧ J pre wr ∧ W.heap.size ≤ wr.heap.size) (fun _ wr => szAt wr Bm)
 case atStart => exact ⟨[], x0, rfl, hc0, hBm, h0, Nat.le_refl _⟩
 case round =>
  obtain ⟨pre, y, hpre, hcut, hbox, hJs, hsz⟩ := hrel
  obtain ⟨c0, c1, c2, c3, c4⟩ := hbox.cells
  have hBl := hbox.lt
  have hz0 := y.hs.1
  by_cases hlt : 0 < y.sz
  ·obtain ⟨hs1, hs2, hs3, hs4, hcut'⟩ := hcut.step hlt
   have hcons := piecesL_cons hcut hlt
   have hlen : ∃ t, piecesL x0 = pre ++ (lvM y, headP y) :: t := ⟨_, by rw [hpre, hcons]⟩
   replace hlen := Lib.hid hlen
   have hlv := fun W => level_any y W
   have hsk := fun W => sizeK_any (lvM y) W (lvM_cases y)
   change ∀ W, Calls _ _ _ W fun e w' => e = .returned (.int .u64 (stepK y)) ∧ W = w' at hsk
   have hst := stepK_cases y
   replace hpre := Lib.hid hpre
   replace hcons := Lib.hid hcons
   replace hs2 := Lib.hid hs2
   replace hs3 := Lib.hid hs3
   replace hs4 := Lib.hid hs4
   replace hst := Lib.hid hst
   gi_wp2_with (first | (refine ⟨trivial, ?_⟩; gi_at_call 54; refine (callsIn_wide.2 (hlv _)).mono ?_; clear hlv; rintro e w1 ⟨rfl, hb1⟩; have box1 := hbox.below hb1 hBl; obtain ⟨d0, d1, d2, d3, d4⟩ := box1.cells; have hz1 : wr.heap.size ≤ w1.heap.size := hb1.size) | (refine ⟨trivial, ?_⟩; gi_at_call 55; refine (callsIn_wide.2 (hsk _)).mono ?_; clear hsk; rintro e w2 ⟨rfl, rfl⟩; have hy0 : YieldAt Fence.wide (n - 1) Tryz.prog l #[.int .i64 (lvM y), .agg #[.int .u64 y.ipa, .int .u64 y.pa, .int .u64 (stepK y), .int .i64 y.perm, .int .i64 y.kind]] (w1.alloc (.cells #[.int .u64 y.ipa, .int .u64 y.pa, .int .u64 (stepK y), .int .i64 y.perm, .int .i64 y.kind] 59)) _ := hY pre (lvM y, headP y) wr _ hJs (bthen hb1 (bone _ _)) hlen.out; obtain ⟨fn, tmps', assign', body', hy, hR⟩ := hy0))
   refine hR.mono ?_
   rintro e W4 (⟨rfl, hJ4, hk4⟩ | ⟨rfl, hJx4⟩)
   ·have box4 : BoxM W4 Bm y := hk4.same.trans (box1.below (bone w1 _) box1.lt)
    have hq4 : BoxM W4 w1.heap.size (headP y) := (hk4.late w1.heap.size hz1 (by simp)).trans (BoxM.new w1 (headP y))
    have hz4 : w1.heap.size + 1 ≤ W4.heap.size := by have := hk4.size; simpa using this
    obtain ⟨a0, a1, a2, a3, a4⟩ := box4.cells
    have hq2 : W4.cell? ⟨w1.heap.size, 2, none⟩ = some (.int .u64 (stepK y)) := hq4.cells.2.2.1
    have hB4 := box4.lt
    clear d0 d1 d2 d3 d4 c0 c1 c2 c3 c4 hq4 hR hy
    gi_wp2
    have f0 := box4.frozen 0
    have f1 := box4.frozen 1
    have f2 := box4.frozen 2
    gi_region
    have w0 : IntKind.u64.wrap (y.ipa + stepK y) = (restP y).ipa := IntKind.wrap_u64 _
    have w1' : IntKind.u64.wrap (y.pa + stepK y) = (restP y).pa := IntKind.wrap_u64 _
    have w2' : IntKind.u64.wrap (y.sz - stepK y) = (restP y).sz := IntKind.wrap_u64 _
    rw [w0, w1', w2']
    have hJ5 := (hJ.cells _ _ 2 (.int .u64 (restP y).sz) (hJ.cells _ _ 1 (.int .u64 (restP y).pa) (hJ.cells _ _ 0 (.int .u64 (restP y).ipa) hJ4)))
    have hb5 : BoxM (((W4.setCell ⟨Bm, 0, none⟩ (.int .u64 (restP y).ipa)).setCell ⟨Bm, 1, none⟩ (.int .u64 (restP y).pa)).setCell ⟨Bm, 2, none⟩ (.int .u64 (restP y).sz)).drew Bm (restP y) := by
     exact heapAt_set (heapAt_set (heapAt_set box4 0 _) 1 _) 2 _
    have hz5 : W4.heap.size ≤ (((W4.setCell ⟨Bm, 0, none⟩ (.int .u64 (restP y).ipa)).setCell ⟨Bm, 1, none⟩ (.int .u64 (restP y).pa)).setCell ⟨Bm, 2, none⟩ (.int .u64 (restP y).sz)).drew.heap.size := by simp
    have hJ6 := hJ.walks _ _ _ none hJ5 (grown_of_below (Below.refl _ _).drew) (fun _ e => by cases e)
    gi_wp2
    refine ⟨⟨pre ++ [(lvM y, headP y)], restP y, by rw [hpre.out, hcons.out, ← List.append_cons], hcut', hb5, hJ6, by omega⟩, ?_⟩
    rw [hb5.szAt, hbox.szAt, hs4.out]
    have := hst.out
    omega
   ·gi_wp2
    refine bodyPost_ret (results_none rfl _ _ _) rfl ?_
    exact ⟨⟨_, rfl⟩, .inr ⟨_, ⟨_, by rw [hpre.out, hcons.out, ← List.append_cons]⟩, hJx4⟩⟩
  ·have hz : y.sz = 0 := by omega
   have hn := piecesL_nil hlt
   rw [hn, List.append_nil] at hpre
   replace hpre := Lib.hid hpre
   replace hn := Lib.hid hn
   replace hz := Lib.hid hz
   gi_wp2
   go_end0
   first | exact ⟨⟨_, rfl⟩, .inl (hpre.out ▸ hJs)⟩ | exact ⟨⟨_, rfl⟩, .inl ⟨_, hpre.out, hJs⟩⟩ | trace_state
end Go.Proofs.YtiblhlaemmdphaaGreat
/- Whether a part has no more pieces than may be: a range over the iterator of pieces that counts and may return. -/
namespace Go.Proofs.YtiblhlaemmdphaaGreat
open Go Go.RowKit Go.Shelf Go.BigFrame
attribute [local go_sem] Oper.semAt_some
theorem pieces_iter (n Bm : Nat) (hn : 1 ≤ n) (y : M5) (hc : Cut y) (w : World) (hb : BoxM w Bm y) :
  IterW Fence.wide n Tryz.prog 53 #[.pointer (some ⟨Bm, 0, none⟩)] (fun x : Int × M5 => #[.int .i64 x.1, .agg #[.int .u64 x.2.ipa, .int .u64 x.2.pa, .int .u64 x.2.sz, .int .i64 x.2.perm, .int .i64 x.2.kind]]) Bm (fun ys => ys = piecesL y) (fun pre => ∃ t, piecesL y = pre ++ t) (fun pre x => ∃ t, piecesL y = pre ++ x :: t) w :=
 fun l J Jx W hW hJ _ hY h0 => pieces1_in n l Bm hn y hc J Jx hY W hJ (hb.below hW hb.lt) h0
theorem boxed_own (B : Nat) (t : TypeId) {β : Type} (f : β → Value) : Own (fun (s : β) W => Boxed W B t (f s)) :=
 fun _s _W _W' _row h hg hr => (grownBy_keeps_cells hg hr h rfl).trans h
theorem boxed_off {W : World} {B B' o : Nat} {t : TypeId} {v : Value} (h : Boxed W B t v) (hne : B ≠ B') (u : Value) : Boxed (W.setCell ⟨B', o, none⟩ u) B t v := (Below.heap_setCell W _ u B (by simpa using hne)).trans h
theorem KeepN.setCell {b B : Nat} (W : World) {l o : Nat} (v : Value) (hb : b ≠ l) (hl : l < B) : KeepN b B W (W.setCell ⟨l, o, none⟩ v) :=
 ⟨by simp, Below.heap_setCell W _ v b (by simpa using hb), fun k h1 _ => Below.heap_setCell W _ v k (by simp; omega)⟩
set_option maxRecDepth 20000 in
set_option maxHeartbeats 1000000 in
theorem few_any (y : M5) (hc : Cut y) (w : World) : Calls Tryz.prog 44 #[.agg #[.int .u64 y.ipa, .int .u64 y.pa, .int .u64 y.sz, .int .i64 y.perm, .int .i64 y.kind]] w fun e w' => e = .returned (.bool (decide ((piecesL y).length ≤ 10000))) ∧ Below w.heap.size w w' := by
 refine (callsIn_wide (n := 9)).1 ?_
 refine callsIn_of_wp_marks Tryz.func44 rfl trivial ?_ rfl
 simp only [Tryz.ntmps44, List.size_toArray, List.length_cons, List.length_nil, Nat.reduceAdd, Nat.reduceSub, Array.replicate_succ, Array.replicate_zero, List.push_toArray, List.append_toArray, List.nil_append, List.cons_append]
 gi_wp2_with (refine ⟨trivial, ?_⟩; gi_at_call 25; refine (pieces_in 8 y _).mono ?_; rintro e w' ⟨rfl, rfl⟩)
 have z0 : ((((w.alloc (.cells #[.int .u64 y.ipa, .int .u64 y.pa, .int .u64 y.sz, .int .i64 y.perm, .int .i64 y.kind] 59)).alloc (.cells #[.bool false] 4)).alloc (.cells #[.int .i64 0] 3)).alloc (.cells #[.int .u64 y.ipa, .int .u64 y.pa, .int .u64 y.sz, .int .i64 y.perm, .int .i64 y.kind] 59)).heap.size = w.heap.size + 4 := by simp
 have hB0 : Below w.heap.size w ((((w.alloc (.cells #[.int .u64 y.ipa, .int .u64 y.pa, .int .u64 y.sz, .int .i64 y.perm, .int .i64 y.kind] 59)).alloc (.cells #[.bool false] 4)).alloc (.cells #[.int .i64 0] 3)).alloc (.cells #[.int .u64 y.ipa, .int .u64 y.pa, .int .u64 y.sz, .int .i64 y.perm, .int .i64 y.kind] 59)) := ((((Below.refl _ w).alloc (Nat.le_refl _) _).alloc (by simp) _).alloc (by simp; omega) _).alloc (by simp; omega) _
 have b1 : Boxed ((((w.alloc (.cells #[.int .u64 y.ipa, .int .u64 y.pa, .int .u64 y.sz, .int .i64 y.perm, .int .i64 y.kind] 59)).alloc (.cells #[.bool false] 4)).alloc (.cells #[.int .i64 0] 3)).alloc (.cells #[.int .u64 y.ipa, .int .u64 y.pa, .int .u64 y.sz, .int .i64 y.perm, .int .i64 y.kind] 59)) (w.heap.size + 1) 4 (.bool false) := by
  refine Boxed.alloc (Boxed.alloc ?_ _) _
  have := Boxed.new (w.alloc (.cells #[.int .u64 y.ipa, .int .u64 y.pa, .int .u64 y.sz, .int .i64 y.perm, .int .i64 y.kind] 59)) 4 (.bool false)
  rwa [World.size_alloc] at this
 have b2 : Boxed ((((w.alloc (.cells #[.int .u64 y.ipa, .int .u64 y.pa, .int .u64 y.sz, .int .i64 y.perm, .int .i64 y.kind] 59)).alloc (.cells #[.bool false] 4)).alloc (.cells #[.int .i64 0] 3)).alloc (.cells #[.int .u64 y.ipa, .int .u64 y.pa, .int .u64 y.sz, .int .i64 y.perm, .int .i64 y.kind] 59)) (w.heap.size + 1 + 1) 3 (.int .i64 0) := by
  refine Boxed.alloc ?_ _
  have := Boxed.new ((w.alloc (.cells #[.int .u64 y.ipa, .int .u64 y.pa, .int .u64 y.sz, .int .i64 y.perm, .int .i64 y.kind] 59)).alloc (.cells #[.bool false] 4)) 3 (.int .i64 0)
  rwa [World.size_alloc, World.size_alloc] at this
 have b3 : BoxM ((((w.alloc (.cells #[.int .u64 y.ipa, .int .u64 y.pa, .int .u64 y.sz, .int .i64 y.perm, .int .i64 y.kind] 59)).alloc (.cells #[.bool false] 4)).alloc (.cells #[.int .i64 0] 3)).alloc (.cells #[.int .u64 y.ipa, .int .u64 y.pa, .int .u64 y.sz, .int .i64 y.perm, .int .i64 y.kind] 59)) (w.heap.size + 1 + 1 + 1) y := by
  have := BoxM.new (((w.alloc (.cells #[.int .u64 y.ipa, .int .u64 y.pa, .int .u64 y.sz, .int .i64 y.perm, .int .i64 y.kind] 59)).alloc (.cells #[.bool false] 4)).alloc (.cells #[.int .i64 0] 3)) y
  rwa [World.size_alloc, World.size_alloc, World.size_alloc] at this
 generalize ((((w.alloc (.cells #[.int .u64 y.ipa, .int .u64 y.pa, .int .u64 y.sz, .int .i64 y.perm, .int .i64 y.kind] 59)).alloc (.cells #[.bool false] 4)).alloc (.cells #[.int .i64 0] 3)).alloc (.cells #[.int .u64 y.ipa, .int .u64 y.pa, .int .u64 y.sz, .int .i64 y.perm, .int .i64 y.kind] 59)) = W0 at *
 have hI : Mine (β := List (Int × M5)) W0.heap.size (w.heap.size + 1 + 1 + 1) (fun pre W => (Boxed W (w.heap.size + 1) 4 (.bool false) ∧ Boxed W (w.heap.size + 1 + 1) 3 (.int .i64 pre.length) ∧ pre.length ≤ 10000) ∧ Below w.heap.size w W) :=
  ⟨OwnFrom.and (Own.from (fun s W W' row h hg hr => ⟨boxed_own _ _ (fun _ => .bool false) s W W' row h.1 hg hr, boxed_own _ _ (fun s : List (Int × M5) => .int .i64 s.length) s W W' row h.2.1 hg hr, h.2.2⟩) _) (ownFrom_below (Nat.le_refl _) (by omega)),
   fun s W o v h => ⟨⟨boxed_off h.1.1 (by omega) _, boxed_off h.1.2.1 (by omega) _, h.1.2.2⟩, h.2.setCell (by simp; omega) _⟩⟩
 have hIx : ∀ c, Mine (β := List (Int × M5)) W0.heap.size (w.heap.size + 1 + 1 + 1) (fun pre W => c = Code.ret ∧ (Boxed W (w.heap.size + 1) 4 (.bool false) ∧ 10000 < pre.length) ∧ Below w.heap.size w W) := fun c =>
  ⟨fun s W W' row hs hg hr => ⟨hs.1, ⟨boxed_own _ _ (fun _ => .bool false) s W W' row hs.2.1.1 hg (fun r e => (hr r e).2), hs.2.1.2⟩, ownFrom_below (β := Unit) (B := W0.heap.size) (Nat.le_refl _) (by omega) () W W' row hs.2.2 hg hr⟩, fun s W o v h => ⟨h.1, ⟨boxed_off h.2.1.1 (by omega) _, h.2.1.2⟩, h.2.2.setCell (by simp; omega) _⟩⟩
 refine wpIn_range_state rfl (by decide) (gf := 53) (lb := #[.pointer (some ⟨w.heap.size + 1 + 1 + 1, 0, none⟩)]) rfl trivial (enters_of Tryz.func53 (by kernel_rfl) rfl)
  (pieces_iter _ (w.heap.size + 1 + 1 + 1) (by decide) y hc W0 b3) b3.lt (fun _ => rfl)
  (fun pre W => (Boxed W (w.heap.size + 1) 4 (.bool false) ∧ Boxed W (w.heap.size + 1 + 1) 3 (.int .i64 pre.length) ∧ pre.length ≤ 10000) ∧ Below w.heap.size w W)
  (fun c pre W => c = .ret ∧ (Boxed W (w.heap.size + 1) 4 (.bool false) ∧ 10000 < pre.length) ∧ Below w.heap.size w W)
  hI
  hIx
  ⟨⟨b1, b2, by simp⟩, hB0⟩
  (fun _ pre W => (Boxed W (w.heap.size + 1) 4 (.bool false) ∧ Boxed W (w.heap.size + 1 + 1) 3 (.int .i64 pre.length) ∧ pre.length ≤ 10000) ∧ Below w.heap.size w W)
  (fun _ _ h => h) (fun _ => hI.own)
  (fun x a' _ => a' = { tmps := #[.agg #[.int .u64 y.ipa, .int .u64 y.pa, .int .u64 y.sz, .int .i64 y.perm, .int .i64 y.kind], .pointer (some ⟨w.heap.size, 0, none⟩), .pointer (some ⟨w.heap.size + 1, 0, none⟩), .pointer (some ⟨w.heap.size + 1 + 1, 0, none⟩), .agg #[.int .u64 y.ipa, .int .u64 y.pa, .int .u64 y.sz, .int .i64 y.perm, .int .i64 y.kind], .func (.func 53) #[] #[.pointer (some ⟨w.heap.size + 1 + 1 + 1, 0, none⟩)], .int .i64 x.1, .agg #[.int .u64 x.2.ipa, .int .u64 x.2.pa, .int .u64 x.2.sz, .int .i64 x.2.perm, .int .i64 x.2.kind], undef, undef, undef, undef], defers := [] })
  (fun x a' _ X Y row hs hg hr => hs)
  ?assign ?body ?done ?stop
 case assign =>
  rintro l1 B pre x W K hB hI hK
  gi_wp2
  exact hK _ _ ((KeepsOthers.refl _).from _) (KeepN.refl _ _ _) hI (by first | rfl | simp | kernel_rfl)
 case body =>
  rintro l1 B pre x a' W hl1 hB hBW ⟨⟨h1, h2, hle⟩, hbel⟩ rfl hlt
  have c1 := h1.cell
  have f1 := h1.frozen
  have c2 := h2.cell
  have f2 := h2.frozen
  have hw : IntKind.i64.wrap ((pre.length : Int) + 1) = (pre.length : Int) + 1 := by rw [IntKind.wrap_i64]; omega
  replace z0 := Lib.hid z0
  have hz0 : w.heap.size + 1 + 1 < B := by have := z0.out; omega
  have hl0 : ∀ v : Value, ((pre ++ [x]).length : Int) = (pre.length : Int) + 1 := fun _ => by simp
  by_cases hm : pre.length + 1 ≤ 10000
  ·have k1 : ¬ ((10000 : Int) < (pre.length : Int) + 1) := by omega
   gi_wp2
   refine ⟨(KeepsOthers.setCell _ _ _).from _, KeepN.setCell _ _ (by omega) hz0, ⟨boxed_off h1 (by omega) _, ?_, by simpa using hm⟩, hbel.setCell (by simp; omega) _⟩
   rw [hl0 undef]
   exact h2.set _
  ·have k1 : (10000 : Int) < (pre.length : Int) + 1 := by omega
   gi_wp2
   refine ⟨((KeepsOthers.setCell _ _ _).trans (KeepsOthers.setCell _ _ _)).from _, rfl, ⟨Boxed.set _ (boxed_off h1 (by omega) _), by simp; omega⟩, (hbel.setCell (by simp; omega) _).setCell (by simp) _⟩
 case done =>
  rintro D ys W hD rfl ⟨⟨h1, h2, hle⟩, hB⟩ hK
  have c1 := h1.cell
  have f1 := h1.frozen
  have hk : decide ((piecesL y).length ≤ 10000) = true := decide_eq_true hle
  replace z0 := Lib.hid z0
  have hz0 : w.heap.size + 4 ≤ D := by have := z0.out; omega
  have hr1 : Boxed (W.setCell ⟨w.heap.size + 1, 0, none⟩ (.bool true)) (w.heap.size + 1) 4 (.bool true) := h1.set _
  have hK1 : (W.setCell ⟨w.heap.size + 1, 0, none⟩ (.bool true)).heap[D]? = some (.deferred (some [])) := (Below.heap_setCell W _ _ D (by simp; omega)).trans hK
  have hB1 : Below w.heap.size w (W.setCell ⟨w.heap.size + 1, 0, none⟩ (.bool true)) := hB.setCell (by simp) _
  gi_wp2
  generalize W.setCell ⟨w.heap.size + 1, 0, none⟩ (.bool true) = W5 at *
  have hr2 : Boxed (W5.putObj D (.deferred none)) (w.heap.size + 1) 4 (.bool true) := (World.putObj_heap_other (by omega)).trans hr1
  refine ⟨by simp, .inl ⟨_, _, rfl, run_takeDeferred hK1, ?_⟩⟩
  rw [hk]
  exact ⟨.bool true, by simp [results, Tryz.results44, go_sem, hr2.cell], rfl, hB1.trans (belowK_b (w := w) (Nat.le_refl _) W5 D _ _ (by omega) hK1 rfl rfl)⟩
 case stop =>
  rintro D cc pre W hD ⟨t, ht⟩ ⟨rfl, ⟨h1, hlt⟩, hB⟩ hK
  have hk : decide ((piecesL y).length ≤ 10000) = false := decide_eq_false (by rw [ht, List.length_append]; omega)
  replace z0 := Lib.hid z0
  have hz0 : w.heap.size + 4 ≤ D := by have := z0.out; omega
  gi_wp2
  have hr2 : Boxed (W.putObj D (.deferred none)) (w.heap.size + 1) 4 (.bool false) := (World.putObj_heap_other (by omega)).trans h1
  refine ⟨by simp, .inl ⟨_, _, rfl, run_takeDeferred hK, ?_⟩⟩
  rw [hk]
  exact ⟨.bool false, by simp [results, Tryz.results44, go_sem, hr2.cell], rfl, hB.trans (belowK_b (w := w) (Nat.le_refl _) W D _ _ (by omega) hK rfl rfl)⟩
end Go.Proofs.YtiblhlaemmdphaaGreat
