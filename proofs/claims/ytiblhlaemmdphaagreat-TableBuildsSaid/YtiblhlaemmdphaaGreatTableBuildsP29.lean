/- A pool of frames as it lies in memory; the walks of frame.New, of the span of all frames, and of what a pool tells. -/
import Derived.BigQuiet
import Derived.OneCell
import Derived.RangeFuncNested
import Derived.RangeFuncBound
import Derived.RangeFuncCalls
import Derived.RangeFuncLeaves
import Derived.RangeFuncBox
import Derived.Shelf.Abstract
import Derived.Shelf.RegionOpen
import Derived.WalkKit
import Derived.OwnWalkIn
import Derived.TacticsInMore
import Derived.LoopNIn
import Derived.LoopIn
import Derived.ControlIn
import Derived.Deep.DeepCutAuto
import Derived.Test.YtiblhlaemmdphaaGreatTableBuildsP10
import Derived.Test.YtiblhlaemmdphaaGreatTableBuildsP11
import Derived.Test.YtiblhlaemmdphaaGreatTableBuildsP19
import Derived.Test.YtiblhlaemmdphaaGreatTableBuildsP28
namespace Go.Proofs.YtiblhlaemmdphaaGreat
open Go Go.RowKit Go.BigFrame
structure PoolAt (w : World) (B : Nat) (v : Value) (p : Pl) : Prop where
 blk : w.heap[B]? = some (.cells #[.int .u64 p.from', .int .u64 p.count, v, .int .u64 p.out] 82 (0, 0))
 own : OwnTwo 28 w (B + 1) v p.used
theorem PoolAt.lt {w : World} {B : Nat} {v : Value} {p : Pl} (h : PoolAt w B v p) : B < w.heap.size := (Array.getElem?_eq_some_iff.1 h.blk).1
theorem PoolAt.cells {w : World} {B : Nat} {v : Value} {p : Pl} (h : PoolAt w B v p) : w.cell? ⟨B, 0, none⟩ = some (.int .u64 p.from') ∧ w.cell? ⟨B, 1, none⟩ = some (.int .u64 p.count) ∧ w.cell? ⟨B, 2, none⟩ = some v ∧ w.cell? ⟨B, 3, none⟩ = some (.int .u64 p.out) := by
 refine ⟨?_, ?_, ?_, ?_⟩ <;> simp [World.cell?, h.blk]
theorem PoolAt.below {w w' : World} {B : Nat} {v : Value} {p : Pl} (h : PoolAt w B v p) (hb : Below w.heap.size w w') : PoolAt w' B v p :=
 ⟨(hb.block B h.lt).trans h.blk, h.own.below hb (Nat.le_refl _)⟩
theorem PoolAt.row {w : World} {B : Nat} {v : Value} {p : Pl} (h : PoolAt w B v p) : RowTwo w v p.used := h.own.row
structure Kept (B : Nat) (v : Value) (w w' : World) : Prop where
 os : w'.os = w.os
 tape : w'.tape = w.tape
 output : w'.output = w.output
 size : w.heap.size ≤ w'.heap.size
 block : ∀ k, k < w.heap.size → k ≠ B → v.ownBlock ≠ some k → w'.heap[k]? = w.heap[k]?
theorem heap_setCell_at {w : World} {B i : Nat} {cs : Array Value} {T : TypeId} {fz : Nat × Nat} (h : w.heap[B]? = some (.cells cs T fz)) (u : Value) : (w.setCell ⟨B, i, none⟩ u).heap[B]? = some (.cells (cs.setIfInBounds i u) T fz) := by
 rw [Go.Sort.setCell_eq]
 simp [Go.Sort.mapBlock, Array.getElem?_modify, h, Go.Sort.onCells]
theorem box_pool {w w1 : World} {p q : Value} {T1 T2 : TypeId} {cs : Array Value} (hb : Below ((w.alloc (.cells #[p, q] T1)).alloc (.cells cs T2)).heap.size ((w.alloc (.cells #[p, q] T1)).alloc (.cells cs T2)) w1) :
  w1.cell? ⟨w.heap.size, 0, none⟩ = some p ∧ w1.cell? ⟨w.heap.size, 1, none⟩ = some q ∧ w1.heap[w.heap.size + 1]? = some (.cells cs T2 (0, 0)) ∧ w.heap.size + 1 < w1.heap.size ∧ w.heap.size < w1.heap.size ∧ Below w.heap.size w w1 := by
 have h1 := alloc_two w p q T1
 have hq := bone (w.alloc (.cells #[p, q] T1)) (.cells cs T2)
 have h2 : ((w.alloc (.cells #[p, q] T1)).alloc (.cells cs T2)).heap[w.heap.size + 1]? = some (.cells cs T2 (0, 0)) := by
  have := World.alloc_heap_new (w.alloc (.cells #[p, q] T1)) (.cells cs T2); rwa [World.size_alloc] at this
 have hs := hb.size
 simp only [World.size_alloc] at hs
 exact ⟨cell_lt hb (cell_lt hq h1.1 (by simp)) (by simp; omega), cell_lt hb (cell_lt hq h1.2 (by simp)) (by simp; omega), (hb.block _ (by simp)).trans h2, by omega, by omega, bnew (bnew hb)⟩
theorem pool_cells {w : World} {B : Nat} {a b c d : Value} {T : TypeId} (h : w.heap[B]? = some (.cells #[a, b, c, d] T (0, 0))) :
  (w.frozen? ⟨B, 0, none⟩ = false ∧ w.frozen? ⟨B, 1, none⟩ = false) ∧ (w.cell? ⟨B, 0, none⟩ = some a ∧ w.cell? ⟨B, 1, none⟩ = some b) := by
 simp [World.frozen?, World.cell?, h]
theorem pool_set {w : World} {B : Nat} {a b c d : Value} {T : TypeId} (h : w.heap[B]? = some (.cells #[a, b, c, d] T (0, 0))) (u x : Value) :
  ((w.setCell ⟨B, 0, none⟩ u).setCell ⟨B, 1, none⟩ x).heap[B]? = some (.cells #[u, x, c, d] T (0, 0)) := by
 rw [heap_setCell_at (heap_setCell_at h u) x]; rfl
set_option maxHeartbeats 2000000 in
theorem new_any (s : Two) (w : World) : Calls Tryz.prog 11 #[.agg #[.int .u64 s.a, .int .u64 s.b]] w fun e w' => ∃ B, e = .returned (.pointer (some ⟨B, 0, none⟩)) ∧ w.heap.size ≤ B ∧ PoolAt w' B (.slice none 0 0) (newV s) ∧ Below w.heap.size w w' := by
 have hu := fun W => up_any s.a 4096 W s.ha (by unfold W64; omega)
 have hg := fun W => good_any s.a s.b W s.ha s.hb
 have hl := fun W => last_any s.a s.b W s.ha s.hb
 have hlw := lastV_w s.ha s.hb
 have hN : newV s = (if goodB s.a s.b = true ∧ (upV s.a 4096).2 = true ∧ (upV s.a 4096).1 ≤ lastV s.a s.b then ⟨(upV s.a 4096).1, (lastV s.a s.b - (upV s.a 4096).1 + 1) / 4096, [], 0⟩ else ⟨0, 0, [], 0⟩) := rfl
 have hlt : goodB s.a s.b = true → lastV s.a s.b < 18446744073709551615 ∨ 0 < s.a := fun h => by
  have h1 := lastV_yes h; have := s.hb; have := s.ha; unfold W64 at *; omega
 have huw : W64 (upV s.a 4096).1 ∧ (0 < s.a → 0 < (upV s.a 4096).1 ∨ (upV s.a 4096).2 = false) := by
  cases hh : (upV s.a 4096).2
  ·refine ⟨?_, fun _ => .inr rfl⟩
   have : (upV s.a 4096) = (0, false) ∨ (upV s.a 4096).2 = true := by
    unfold upV; rw [if_neg (by decide)]; split
    ·exact .inr rfl
    ·split
     ·exact .inr rfl
     ·exact .inl rfl
   rcases this with h | h
   ·rw [h]; unfold W64; omega
   ·rw [hh] at h; cases h
  ·obtain ⟨_, _, h3, _, h5⟩ := upV_yes s.ha (by unfold W64; omega) hh
   exact ⟨h5, fun h => .inl (by omega)⟩
 generalize newV s = N at *
 generalize lastV s.a s.b = L at *
 generalize goodB s.a s.b = G at *
 generalize (upV s.a 4096).1 = U at *
 generalize (upV s.a 4096).2 = I at *
 rcases Bool.eq_false_or_eq_true G with rfl | rfl
 ·rcases Bool.eq_false_or_eq_true I with rfl | rfl
  ·by_cases hle : U ≤ L
   ·rw [if_pos ⟨rfl, rfl, hle⟩] at hN
    obtain ⟨u0, u1⟩ := huw.1
    obtain ⟨l0, l1⟩ := hlw
    have hlt := hlt rfl
    have hL1 : L - U + 1 ≤ 18446744073709551615 := by
     rcases hlt with h | h
     ·omega
     ·rcases huw.2 h with h | h
      ·omega
      ·cases h
    replace hN := Lib.hid hN
    clear huw hlt
    go_enter Tryz.func11, Tryz.ntmps11
    go_wp2_with fail
    refine (hu _).mono ?_; rintro e w1 ⟨rfl, hb1⟩
    obtain ⟨c0, c1, hP, hz1, hz0, hW⟩ := box_pool hb1
    clear hb1
    go_wp2_with fail
    refine (hg _).mono ?_; rintro e w2 ⟨rfl, hb2⟩
    have c0' := cell_lt hb2 c0 hz0
    have c1' := cell_lt hb2 c1 hz0
    have hz0' : w.heap.size < w2.heap.size := Nat.lt_of_lt_of_le hz0 hb2.size
    clear c0 c1
    go_wp2_with fail
    refine (hl _).mono ?_; rintro e w3 ⟨rfl, hb3⟩
    have c0 := cell_lt hb3 c0' hz0'
    have c1 := cell_lt hb3 c1' hz0'
    clear c0' c1'
    go_wp2_with fail
    refine (hl _).mono ?_; rintro e w4 ⟨rfl, hb4⟩
    have hbb := bthen (bthen hb2 hb3) hb4
    have hP4 := (hbb.block _ hz1).trans hP
    have hW4 : Below w.heap.size w w4 := bthen hW hbb
    clear c0 c1 hP hb2 hb3 hb4 hbb hW
    obtain ⟨⟨f0, f1⟩, g0, g1⟩ := pool_cells hP4
    have hd : (0 : Int) ≤ L - U + 1 := by omega
    go_wp2_with fail
    go_ret
    refine ⟨w.heap.size + 1, rfl, by omega, ?_, (hW4.setCell (by simp) _).setCell (by simp) _⟩
    rw [hN.out]
    exact ⟨pool_set hP4 _ _, OwnTwo.nil _ _ _⟩
   ·rw [if_neg (fun h => hle h.2.2)] at hN
    replace hN := Lib.hid hN
    clear huw hlt hlw
    go_enter Tryz.func11, Tryz.ntmps11
    go_wp2_with fail
    refine (hu _).mono ?_; rintro e w1 ⟨rfl, hb1⟩
    obtain ⟨c0, c1, hP, hz1, hz0, hW⟩ := box_pool hb1
    clear hb1
    go_wp2_with fail
    refine (hg _).mono ?_; rintro e w2 ⟨rfl, hb2⟩
    have c0' := cell_lt hb2 c0 hz0
    have c1' := cell_lt hb2 c1 hz0
    clear c0 c1
    go_wp2_with fail
    refine (hl _).mono ?_; rintro e w3 ⟨rfl, hb3⟩
    have hbb := bthen hb2 hb3
    go_wp2_with fail
    go_ret
    exact ⟨w.heap.size + 1, rfl, by omega, by rw [hN.out]; exact ⟨(hbb.block _ hz1).trans hP, OwnTwo.nil _ _ _⟩, bthen hW hbb⟩
  ·rw [if_neg (fun h => by cases h.2.1)] at hN
   replace hN := Lib.hid hN
   clear huw hlt hlw
   go_enter Tryz.func11, Tryz.ntmps11
   go_wp2_with fail
   refine (hu _).mono ?_; rintro e w1 ⟨rfl, hb1⟩
   obtain ⟨c0, c1, hP, hz1, hz0, hW⟩ := box_pool hb1
   clear hb1
   go_wp2_with fail
   refine (hg _).mono ?_; rintro e w2 ⟨rfl, hb2⟩
   go_wp2_with fail
   go_ret
   exact ⟨w.heap.size + 1, rfl, by omega, by rw [hN.out]; exact ⟨(hb2.block _ hz1).trans hP, OwnTwo.nil _ _ _⟩, bthen hW hb2⟩
 ·rw [if_neg (fun h => by cases h.1)] at hN
  replace hN := Lib.hid hN
  clear huw hlt hlw
  go_enter Tryz.func11, Tryz.ntmps11
  go_wp2_with fail
  refine (hu _).mono ?_; rintro e w1 ⟨rfl, hb1⟩
  obtain ⟨c0, c1, hP, hz1, hz0, hW⟩ := box_pool hb1
  clear hb1
  go_wp2_with fail
  refine (hg _).mono ?_; rintro e w2 ⟨rfl, hb2⟩
  go_wp2_with fail
  go_ret
  exact ⟨w.heap.size + 1, rfl, by omega, by rw [hN.out]; exact ⟨(hb2.block _ hz1).trans hP, OwnTwo.nil _ _ _⟩, bthen hW hb2⟩
theorem run_nil_bad (n align : Int) (q : Option Addr) (w : World) (h : askB n align = false) (ha : W64 align) :
  Calls Tryz.prog 51 #[.pointer q, .int .i64 n, .int .u64 align] w fun e w' => e = .returned (.tuple #[.int .u64 0, .int .i64 1]) ∧ Below w.heap.size w w' := by
 have a0 := ha.1
 have hcase : n < 1 ∨ (1 ≤ n ∧ 4096 < n) ∨ (1 ≤ n ∧ n ≤ 4096 ∧ align = 0) ∨ (1 ≤ n ∧ n ≤ 4096 ∧ align ≠ 0 ∧ align % 4096 ≠ 0) := by
  have : ¬ _ := fun hh => by rw [askB_iff.2 hh] at h; cases h
  omega
 rcases hcase with h1 | ⟨h1, h2⟩ | ⟨h1, h2, h3⟩ | ⟨h1, h2, h3, h4⟩
 ·have k1 : n < 1 := h1
  go_enter Tryz.func51, Tryz.ntmps51
  go_wp2_with fail
  refine bodyPost_ret (v := .tuple #[.int .u64 0, .int .i64 1]) (by simp [results, Tryz.results51, go_sem]) rfl ⟨rfl, ?_⟩
  repeat (first | exact Below.refl _ _ | refine Below.setCell ?_ (by simp <;> omega) _ | refine Below.alloc ?_ (by simp <;> omega) _)
 ·have k1 : ¬ n < 1 := by omega
  go_enter Tryz.func51, Tryz.ntmps51
  go_wp2_with fail
  refine bodyPost_ret (v := .tuple #[.int .u64 0, .int .i64 1]) (by simp [results, Tryz.results51, go_sem]) rfl ⟨rfl, ?_⟩
  repeat (first | exact Below.refl _ _ | refine Below.setCell ?_ (by simp <;> omega) _ | refine Below.alloc ?_ (by simp <;> omega) _)
 ·have k1 : ¬ n < 1 := by omega
  have k2 : ¬ 4096 < n := by omega
  subst h3
  go_enter Tryz.func51, Tryz.ntmps51
  go_wp2_with fail
  refine bodyPost_ret (v := .tuple #[.int .u64 0, .int .i64 1]) (by simp [results, Tryz.results51, go_sem]) rfl ⟨rfl, ?_⟩
  repeat (first | exact Below.refl _ _ | refine Below.setCell ?_ (by simp <;> omega) _ | refine Below.alloc ?_ (by simp <;> omega) _)
 ·have k1 : ¬ n < 1 := by omega
  have k2 : ¬ 4096 < n := by omega
  have k3 : (align == 0) = false := by simpa using h3
  have k4 : (align % 4096 != 0) = true := by simpa using h4
  go_enter Tryz.func51, Tryz.ntmps51
  go_wp2_with fail
  refine bodyPost_ret (v := .tuple #[.int .u64 0, .int .i64 1]) (by simp [results, Tryz.results51, go_sem]) rfl ⟨rfl, ?_⟩
  repeat (first | exact Below.refl _ _ | refine Below.setCell ?_ (by simp <;> omega) _ | refine Below.alloc ?_ (by simp <;> omega) _)
theorem used_any (B : Nat) (v : Value) (p : Pl) (w : World) (h : PoolAt w B v p) : Calls Tryz.prog 16 #[.pointer (some ⟨B, 0, none⟩)] w fun e w' => e = .returned (.int .u64 p.out) ∧ w = w' := by
 obtain ⟨c0, c1, c2, c3⟩ := h.cells
 go_enter Tryz.func16, Tryz.ntmps16
 go_wp2
 go_ret
 exact ⟨rfl, rfl⟩
end Go.Proofs.YtiblhlaemmdphaaGreat
/- The walks of a pool's free stretches: it hands out the stretches of which nothing is handed out, in order. -/
namespace Go.Proofs.YtiblhlaemmdphaaGreat
open Go Go.RowKit Go.Shelf Go.BigFrame
attribute [local go_sem] Oper.semAt_some
structure KeepsCells (W W' : World) : Prop where
 size : W.heap.size ≤ W'.heap.size
 same : ∀ (k : Nat) (o : Obj), W.heap[k]? = some o → o.isCells = true → W'.heap[k]? = some o
theorem KeepsCells.refl (W : World) : KeepsCells W W := ⟨Nat.le_refl _, fun _ _ h _ => h⟩
theorem KeepsCells.trans {A B C : World} (h : KeepsCells A B) (k : KeepsCells B C) : KeepsCells A C := ⟨Nat.le_trans h.size k.size, fun i o h1 h2 => k.same i o (h.same i o h1 h2) h2⟩
theorem KeepsCells.of_below {W W' : World} (h : Below W.heap.size W W') : KeepsCells W W' := ⟨h.size, fun k _ hk _ => (h.block k (Array.getElem?_eq_some_iff.1 hk).1).trans hk⟩
theorem KeepsCells.putObj (W : World) (l : Nat) (o o' : Obj) (h : W.heap[l]? = some o) (hc : o.isCells = false) : KeepsCells W (W.putObj l o') :=
 ⟨(grownBy_putObj' W l o').size, fun k p hk hp => by
  refine ((grownBy_putObj' W l o').block k (Array.getElem?_eq_some_iff.1 hk).1 (fun e => ?_)).trans hk
  cases e
  rw [h] at hk; cases hk; rw [hc] at hp; cases hp⟩
theorem KeepsCells.cell {W W' : World} (h : KeepsCells W W') {a : Addr} {v : Value} (hc : W.cell? a = some v) : W'.cell? a = some v := by
 obtain ⟨o, ho, hi⟩ := cells_of_cell hc
 exact (World.cell?_of_block ((h.same _ o ho hi).trans ho.symm)).trans hc
theorem RowTwo.kept {W W' : World} {v : Value} {l : List Two} (h : RowTwo W v l) (k : KeepsCells W W') : RowTwo W' v l := by
 obtain ⟨a, cap, h1, hc, h2⟩ := h
 refine ⟨a, cap, h1, hc, fun hl => ?_⟩
 obtain ⟨b, off, ha, hlt, hcell⟩ := h2 hl
 exact ⟨b, off, ha, Nat.lt_of_lt_of_le hlt k.size, fun i hi => ⟨k.cell (hcell i hi).1, k.cell (hcell i hi).2⟩⟩
theorem cutFrom_le (last : Int) : ∀ (M : List Two) (f : Int), (cutFrom last f M).length ≤ M.length + 1
 | [], f => by simp [cutFrom]
 | x :: M, f => by
  have h1 := cutFrom_le last M f
  have h2 := cutFrom_le last M (x.b + 1)
  rw [cutFrom]
  split
  ·simp only [List.length_cons]; omega
  ·split
   ·simp
   ·rw [List.length_append]
    split <;> split <;> simp only [List.length_cons, List.length_nil] <;> omega
theorem free_len (p : Pl) : p.free.length ≤ p.used.length + 3 := by
 unfold Pl.free
 split
 ·simp
 ·unfold cutV
  split
  ·have h1 := spansV_len (cutEnds p.whole p.used)
   have h2 := cutFrom_le (lastV p.whole.a p.whole.b) (mergedV p.used) p.whole.a
   have h3 := mergedV_len p.used
   unfold cutEnds at *; omega
  ·simp
set_option maxHeartbeats 1000000 in
theorem whole_any (p : Pl) (hp : PlOk p) (w : World) : Calls Tryz.prog 98 #[.agg #[.int .u64 p.from', .int .u64 p.count]] w fun e w' => e = .returned (.agg #[.int .u64 p.whole.a, .int .u64 p.whole.b]) ∧ Below w.heap.size w w' := by
 obtain ⟨h1, h2⟩ := hp.whole_parts
 have c0 := hp.c0
 have c1 := hp.c1
 rw [h1, h2]
 clear h1 h2
 go_enter Tryz.func98, Tryz.ntmps98
 go_wp2
 refine bodyPost_ret (v := .agg #[.int .u64 p.from', .int .u64 (p.count * 4096)]) (by simp [results, Tryz.results98, go_sem]) rfl ⟨rfl, ?_⟩
 repeat (first | exact Below.refl _ _ | refine Below.setCell ?_ (by simp <;> omega) _ | refine Below.alloc ?_ (by simp <;> omega) _)
set_option maxRecDepth 20000 in
set_option maxHeartbeats 1000000 in
theorem free_in (n : Nat) (q : Option Addr) (w : World) :
  CallsIn Fence.wide n Tryz.prog 79 #[.pointer q] w fun e w' => e = .returned (.func (.func 96) #[] #[.pointer (some ⟨w.heap.size, 0, none⟩)]) ∧ w' = w.alloc (.cells #[.pointer q] 40) := by
 refine callsIn_of_wp Tryz.func79 rfl trivial ?_ rfl
 simp only [Tryz.ntmps79, List.size_toArray, List.length_cons, List.length_nil, Nat.reduceAdd, Nat.reduceSub, Array.replicate_succ, Array.replicate_zero, List.push_toArray, List.append_toArray, List.nil_append, List.cons_append]
 gi_wp2
 go_ret
 exact ⟨rfl, rfl⟩
set_option maxRecDepth 100000 in
set_option maxHeartbeats 4000000 in
theorem free1_in (n l Bs : Nat) (w0 : World) (hn : 1 ≤ n) (B : Nat) (v : Value) (p : Pl) (hok : PlOk p) (hlen : p.used.length ≤ 274877906944) (hp : PoolAt w0 B v p) (J Jx : List Two → World → Prop)
  (hY : ∀ pre (x : Two) W, J pre W → pre.length < p.free.length → YieldAt Fence.wide (n - 1) Tryz.prog l #[.agg #[.int .u64 x.a, .int .u64 x.b]] W fun e W' =>
   (e = .returned (.bool true) ∧ J (pre ++ [x]) W' ∧ KeepsCells W W') ∨ (e = .returned (.bool false) ∧ Jx (pre ++ [x]) W'))
  (W : World) (hJ : AbidesFrom W.heap.size J) (hBs : W.cell? ⟨Bs, 0, none⟩ = some (.pointer (some ⟨B, 0, none⟩))) (hW : Below w0.heap.size w0 W) (h0 : J [] W) :
  CallsIn Fence.wide n Tryz.prog 96 #[.func (.yield l) #[] #[], .pointer (some ⟨Bs, 0, none⟩)] W fun e W' => (∃ v, e = .returned v) ∧
   ((∃ ys, ys = p.free ∧ J ys W') ∨ (∃ pre, (∃ t, p.free = pre ++ t) ∧ Jx pre W')) := by
 have hpW := hp.below hW
 obtain ⟨c0, c1, c2, c3⟩ := hpW.cells
 have hBlt := hpW.lt
 refine callsIn_of_wp Tryz.func96 rfl trivial ?_ rfl
 simp only [Tryz.ntmps96, List.size_toArray, List.length_cons, List.length_nil, Nat.reduceAdd, Nat.reduceSub, Array.replicate_succ, Array.replicate_zero, List.push_toArray, List.append_toArray, List.nil_append, List.cons_append]
 by_cases hz : p.count = 0
 ·have hfree : p.free = [] := by unfold Pl.free; rw [if_pos hz]
  rw [hz] at c1
  replace hfree := Lib.hid hfree
  replace hz := Lib.hid hz
  gi_wp2
  refine bodyPost_ret (results_none rfl _ _ _) rfl ?_
  exact ⟨⟨_, rfl⟩, .inl ⟨_, rfl, by rw [hfree.out]; exact h0⟩⟩
 ·have hfree : p.free = cutV p.whole p.used := by unfold Pl.free; rw [if_neg hz]
  have hz' : (p.count == 0) = false := by simpa using hz
  have hwl := fun W => whole_any p hok W
  have hrowV := hpW.row
  have hBsl : Bs < W.heap.size := World.block_lt_of_cell? W _ hBs
  replace hfree := Lib.hid hfree
  clear hz
  gi_wp2
  refine wpIn_wide.2 ?_
  have y0 := later_cell hBs hBsl
  have y1 := later_cell c0 hBlt
  have y2 := later_cell c1 hBlt
  have y3 := later_cell c2 hBlt
  refine region_ord (fun z => ∃ X : Later W.heap.size W, z = X.x) [([0, 1, 2, 3, 5, 6, 7, 8, 11], 4), ([], 9)] [10] (by kernel_rfl) (by kernel_rfl) (by kernel_rfl) (by kernel_rfl) ⟨⟨_, (Below.refl _ _).drew⟩, rfl⟩ ?_
  simp only [List.map_cons, List.map_nil, List.filterMap_cons, List.filterMap_nil, List.getElem?_cons_succ, List.getElem?_cons_zero]
  have hB10 : Below W.heap.size W W.drew := (Below.refl _ _).drew
  generalize W.drew = w10 at *
  refine ord_step ?_
  repeat (change wpQuiet _ _ _ _ (List.cons _ _) _; go_big_quiet_step (fail))
  refine wpQuiet_nil ?_
  intro Q₁ hQ₁
  go_wp2_with fail
  refine (hwl w10).mono ?_; rintro e w11 ⟨rfl, hb11⟩
  have hB11 : Below W.heap.size W w11 := bthen hB10 hb11
  go_wp2_with fail
  refine hQ₁ _ _ ⟨⟨_, hB11⟩, rfl⟩ ?_
  clear hQ₁ Q₁
  refine ord_step ?_
  repeat (change wpQuiet _ _ _ _ (List.cons _ _) _; go_big_quiet_step (fail))
  refine wpQuiet_nil ?_
  intro Q₁ hQ₁
  go_wp2_with fail
  have hrowP := hrowV.below hB11
  refine (cut_any _ p.whole p.used w11 hrowP hlen).mono ?_; rintro e w12 ⟨r, rfl, hr, hb12⟩
  obtain ⟨ar, cr, rfl, hcr, hrow⟩ := OwnTwo.row hr
  have hB12 : Below W.heap.size W w12 := bthen hB11 hb12
  go_wp2_with fail
  refine hQ₁ _ _ ⟨⟨_, hB12⟩, rfl⟩ ?_
  clear hQ₁ Q₁
  refine ord_last ?_
  repeat (change wpQuiet _ _ _ _ (List.cons _ _) _; go_big_quiet_step (fail))
  refine wpQuiet_nil ?_
  clear y0 y1 y2 y3
  rw [← hfree.out] at hrow hr
  have hRow := OwnTwo.row hr
  rw [← hfree.out] at hcr
  simp only [← hfree.out]
  have hJ1 := abides_below hJ h0 hB12
  have hMl := free_len p
  clear hrow hr h0
  generalize hM : p.free = M at *
  replace hM := Lib.hid hM
  gi_wp2
  gi_loopw [22] (fun i wr => ∃ k : Nat, k ≤ M.length ∧ i = .int .i64 k ∧ J (M.take k) wr ∧ KeepsCells w12 wr ∧ W.heap.size ≤ wr.heap.size) (fun i _ => M.length - (intOf i).toNat)
  case atStart => exact ⟨0, Nat.zero_le _, rfl, hJ1, KeepsCells.refl _, hB12.size⟩
  case round =>
   obtain ⟨k, hk, rfl, hJs, hKs, hsz⟩ := hrel
   by_cases hlt : k < M.length
   ·have hr2 := hRow.kept hKs
    obtain ⟨a2, cap2, e2, _, hcells⟩ := hr2
    cases e2
    obtain ⟨b, off, rfl, hbl, hcell⟩ := hcells (by rintro rfl; simp at hlt)
    have h1 := (hcell k hlt).1
    have h2 := (hcell k hlt).2
    have hsn : M.take (k + 1) = M.take k ++ [M[k]] := List.take_succ_eq_append_getElem hlt
    have hlk : (M.take k).length < M.length := by rw [List.length_take]; omega
    have hpre : ∃ t, M = M.take (k + 1) ++ t := ⟨_, (List.take_append_drop _ _).symm⟩
    rw [hsn] at hpre
    replace hsn := Lib.hid hsn
    replace hpre := Lib.hid hpre
    clear hcells hcell
    generalize M[k] = x at *
    obtain ⟨fn, tmps, assign, body, hy, hR⟩ := hY _ x (wr.alloc (.cells #[.int .u64 x.a, .int .u64 x.b] 28)) (abides_below (B := W.heap.size) hJ hJs (bone _ _)) hlk
    gi_wp2
    refine hR.mono ?_
    rintro e W3 (⟨rfl, hJ3, hk3⟩ | ⟨rfl, hJx3⟩)
    ·gi_wp2
     go_roundw
     case rel => exact ⟨k + 1, by omega, by go_num, by rw [hsn.out]; exact hJ3, (hKs.trans (KeepsCells.of_below (bone _ _))).trans hk3, Nat.le_trans hsz (Nat.le_trans (by simp) hk3.size)⟩
     case measure => simp [intOf]; omega
    ·gi_wp2
     refine bodyPost_ret (results_none rfl _ _ _) rfl ?_
     exact ⟨⟨_, rfl⟩, .inr ⟨_, by rw [hM.out]; exact hpre.out, hJx3⟩⟩
   ·obtain rfl : k = M.length := by omega
    rw [List.take_length] at hJs
    gi_wp2
    go_end0
    exact ⟨⟨_, rfl⟩, .inl ⟨_, hM.out.symm, hJs⟩⟩
theorem free_stops (n Bs : Nat) (w0 w : World) (hn : 1 ≤ n) (B : Nat) (v : Value) (p : Pl) (hok : PlOk p) (hlen : p.used.length ≤ 274877906944) (hp : PoolAt w0 B v p) (hBs : Bs < w.heap.size) (hc : w.cell? ⟨Bs, 0, none⟩ = some (.pointer (some ⟨B, 0, none⟩))) (hW : Below w0.heap.size w0 w) :
  SeqStopsK Fence.wide n Tryz.prog 96 #[.pointer (some ⟨Bs, 0, none⟩)] (fun x : Two => #[.agg #[.int .u64 x.a, .int .u64 x.b]]) KeepsCells (fun ys => ys = p.free) (fun pre => ∃ t, p.free = pre ++ t) p.free.length w :=
 fun l J Jx W hW1 hJ _ hY h0 => free1_in n l Bs w0 hn B v p hok hlen hp J Jx hY W hJ ((hW1.cell (p := ⟨Bs, 0, none⟩) hBs).trans hc) (hW.trans (hW1.mono hW.size)) h0
end Go.Proofs.YtiblhlaemmdphaaGreat
/- The walk of a pool's Run. Conditions: the pool as it may be; words of 64 bits. -/
namespace Go.Proofs.YtiblhlaemmdphaaGreat
open Go Go.RowKit Go.Shelf Go.BigFrame
attribute [local go_sem] Oper.semAt_some
theorem Kept.of_below {B : Nat} {v : Value} {w w' : World} (h : Below w.heap.size w w') : Kept B v w w' := ⟨h.os, h.tape, h.output, h.size, fun k hk _ _ => h.block k hk⟩
theorem Boxed.below {W W' : World} {B n : Nat} {t : TypeId} {v : Value} (h : Boxed W B t v) (hb : Below n W W') (hn : B < n) : Boxed W' B t v := (hb.block B hn).trans h
theorem boxes7 (w : World) (v0 v1 v2 v3 v4 v5 v6 : Value) (t0 t1 t2 t3 t4 t5 t6 : TypeId) (W0 : World)
  (h : (((((((w.alloc (.cells #[v0] t0)).alloc (.cells #[v1] t1)).alloc (.cells #[v2] t2)).alloc (.cells #[v3] t3)).alloc (.cells #[v4] t4)).alloc (.cells #[v5] t5)).alloc (.cells #[v6] t6)) = W0) :
  (Boxed W0 w.heap.size t0 v0 ∧ Boxed W0 (w.heap.size + 1) t1 v1 ∧ Boxed W0 (w.heap.size + 1 + 1) t2 v2 ∧ Boxed W0 (w.heap.size + 1 + 1 + 1) t3 v3 ∧ Boxed W0 (w.heap.size + 1 + 1 + 1 + 1) t4 v4 ∧ Boxed W0 (w.heap.size + 1 + 1 + 1 + 1 + 1) t5 v5 ∧ Boxed W0 (w.heap.size + 1 + 1 + 1 + 1 + 1 + 1) t6 v6) ∧
   W0.heap.size = w.heap.size + 7 ∧ Below w.heap.size w W0 := by
 subst h
 have q0 := Boxed.new w t0 v0
 have q1 := Boxed.new (w.alloc (.cells #[v0] t0)) t1 v1
 have q2 := Boxed.new ((w.alloc (.cells #[v0] t0)).alloc (.cells #[v1] t1)) t2 v2
 have q3 := Boxed.new (((w.alloc (.cells #[v0] t0)).alloc (.cells #[v1] t1)).alloc (.cells #[v2] t2)) t3 v3
 have q4 := Boxed.new ((((w.alloc (.cells #[v0] t0)).alloc (.cells #[v1] t1)).alloc (.cells #[v2] t2)).alloc (.cells #[v3] t3)) t4 v4
 have q5 := Boxed.new (((((w.alloc (.cells #[v0] t0)).alloc (.cells #[v1] t1)).alloc (.cells #[v2] t2)).alloc (.cells #[v3] t3)).alloc (.cells #[v4] t4)) t5 v5
 have q6 := Boxed.new ((((((w.alloc (.cells #[v0] t0)).alloc (.cells #[v1] t1)).alloc (.cells #[v2] t2)).alloc (.cells #[v3] t3)).alloc (.cells #[v4] t4)).alloc (.cells #[v5] t5)) t6 v6
 simp only [World.size_alloc] at q0 q1 q2 q3 q4 q5 q6
 refine ⟨⟨(((((q0.alloc _).alloc _).alloc _).alloc _).alloc _).alloc _, ((((q1.alloc _).alloc _).alloc _).alloc _).alloc _, (((q2.alloc _).alloc _).alloc _).alloc _, ((q3.alloc _).alloc _).alloc _, (q4.alloc _).alloc _, q5.alloc _, q6⟩, by simp only [World.size_alloc], ?_⟩
 repeat (first | exact Below.refl _ _ | refine Below.alloc ?_ (by first | omega | (simp only [World.size_alloc]; omega)) _)
theorem PoolAt.keptOff {W W' : World} {B : Nat} {v : Value} {p : Pl} {row : Option Nat} (h : PoolAt W B v p) (hg : W.grownBy W' row) (hrow : ∀ r, row = some r → ∃ o : Obj, W.heap[r]? = some o ∧ o.isCells = false) : PoolAt W' B v p :=
 ⟨(grownBy_keeps_cells hg hrow h.blk rfl).trans h.blk, ⟨h.own.1, by
  rcases h.own.2 with hc | ⟨g, cap, cur, hv, hb, hgk, hr⟩
  ·exact .inl hc
  ·exact .inr ⟨g, cap, cur, hv, hb, (grownBy_keeps_cells hg hrow hgk rfl).trans hgk, hr⟩⟩⟩
theorem Boxed.keptOff {W W' : World} {B : Nat} {t : TypeId} {v : Value} {row : Option Nat} (h : Boxed W B t v) (hg : W.grownBy W' row) (hrow : ∀ r, row = some r → ∃ o : Obj, W.heap[r]? = some o ∧ o.isCells = false) : Boxed W' B t v := (grownBy_keeps_cells hg hrow (show W.heap[B]? = _ from h) rfl).trans h
theorem Kept.grown {B : Nat} {v : Value} {w W W' : World} {row : Option Nat} (h : Kept B v w W) (hg : W.grownBy W' row) (hrow : ∀ r, row = some r → w.heap.size ≤ r) : Kept B v w W' :=
 ⟨hg.os.trans h.os, hg.tape.trans h.tape, hg.output.trans h.output, Nat.le_trans h.size hg.size, fun k hk h1 h2 => (hg.block k (Nat.lt_of_lt_of_le hk h.size) (fun e => by have := hrow k e.symm; omega)).trans (h.block k hk h1 h2)⟩
structure RunCells (N B T : Nat) (v : Value) (U m : Int) where
 x : World
 h0 : x.cell? ⟨N, 0, none⟩ = some (.pointer (some ⟨B, 0, none⟩))
 h1 : x.cell? ⟨B, 2, none⟩ = some v
 h2 : x.cell? ⟨T, 0, none⟩ = some (.int .u64 U)
 h3 : x.cell? ⟨T, 1, none⟩ = some (.int .u64 m)
theorem OwnTwo.otherSet {E : TypeId} {w : World} {base : Nat} {v : Value} {l : List Two} (h : OwnTwo E w base v l) (a : Addr) (u : Value) (ha : a.block < base) : OwnTwo E (w.setCell a u) base v l := by
 obtain ⟨hlen, hc⟩ := h
 refine ⟨hlen, ?_⟩
 rcases hc with hc | ⟨g, cap, cur, hv, hbg, hg, hr⟩
 ·exact .inl hc
 ·exact .inr ⟨g, cap, cur, hv, hbg, (Below.heap_setCell _ _ _ g (by omega)).trans hg, hr⟩
structure Kept' (B : Nat) (v v' : Value) (w w' : World) : Prop where
 kept : Kept B v w w'
 fresh : ∀ k, v'.ownBlock = some k → v.ownBlock = some k ∨ w.heap.size ≤ k
def RunIx (B : Nat) (v : Value) (p : Pl) (n align : Int) (w : World) (c : Code) (pre : List Two) (W : World) : Prop :=
 c = .ret ∧ ∃ ys x v', pre = ys ++ [x] ∧ (∀ y ∈ ys, fitsV n align y = false) ∧ fitsV n align x = true ∧ PoolAt W B v' (takeV p n (wantV n align x)) ∧ Boxed W (w.heap.size + 1 + 1 + 1) 26 (.int .u64 (upV x.a align).1) ∧ Boxed W (w.heap.size + 1 + 1 + 1 + 1) 35 (.int .i64 0) ∧ Kept B v w W ∧ ∀ k, v'.ownBlock = some k → w.heap.size ≤ k
theorem runIx_own (B : Nat) (v : Value) (p : Pl) (n align : Int) (w : World) (m : Nat) (hm : w.heap.size ≤ m) (c : Code) : OwnFrom m (RunIx B v p n align w c) := by
 rintro pre W W' row ⟨hc, ys, x, v', h1, h2, h3, h4, h5, h6, h7, h8⟩ hg hr
 have hrow : ∀ r, row = some r → ∃ o : Obj, W.heap[r]? = some o ∧ o.isCells = false := fun r e => (hr r e).2
 exact ⟨hc, ys, x, v', h1, h2, h3, h4.keptOff hg hrow, Boxed.keptOff h5 hg hrow, Boxed.keptOff h6 hg hrow, h7.grown hg fun r e => Nat.le_trans hm (hr r e).1, h8⟩
theorem fits_find {l : List Two} {n align : Int} {ys t : List Two} {x : Two} (h : l = (ys ++ [x]) ++ t) (h1 : ∀ y ∈ ys, fitsV n align y = false) (h2 : fitsV n align x = true) : l.find? (fitsV n align) = some x := by
 subst h
 rw [List.append_assoc, List.find?_append]
 have : ys.find? (fitsV n align) = none := List.find?_eq_none.2 fun y hy => by rw [h1 y hy]; simp
 rw [this]
 simp [h2]
theorem set_two {W : World} {a b : Nat} {t3 t4 : TypeId} {v3 v4 : Value} (h3 : Boxed W a t3 v3) (h4 : Boxed W b t4 v4) (hne : a ≠ b) (u x : Value) :
  Boxed ((W.setCell ⟨a, 0, none⟩ u).setCell ⟨b, 0, none⟩ x) a t3 u ∧ Boxed ((W.setCell ⟨a, 0, none⟩ u).setCell ⟨b, 0, none⟩ x) b t4 x ∧ ∀ k, k ≠ a → k ≠ b → ((W.setCell ⟨a, 0, none⟩ u).setCell ⟨b, 0, none⟩ x).heap[k]? = W.heap[k]? := by
 refine ⟨?_, ?_, ?_⟩
 ·refine (Below.heap_setCell _ _ _ a (by simpa using hne)).trans ?_
  rw [heap_setCell_at (show W.heap[a]? = _ from h3) u]; rfl
 ·have h4' : (W.setCell ⟨a, 0, none⟩ u).heap[b]? = some (.cells #[v4] t4 (0, 0)) := (Below.heap_setCell _ _ _ b (by simpa using hne.symm)).trans h4
  show _ = _
  rw [heap_setCell_at h4' x]; rfl
 ·intro k hk1 hk2
  exact (Below.heap_setCell _ _ _ k (by simpa using hk2)).trans (Below.heap_setCell _ _ _ k (by simpa using hk1))
theorem run_end {B D a b : Nat} {v v' : Value} {p q : Pl} {n align at' er : Int} {w W : World} {tmps : Array Value} {t3 t4 : TypeId} (ht3 : t3 = 26) (ht4 : t4 = 35) (hrun : runV p n align = (q, at', er)) (h3 : Boxed W a t3 (.int .u64 at')) (h4 : Boxed W b t4 (.int .i64 er))
  (htm : tmps.getD 6 undef = .pointer (some ⟨a, 0, none⟩) ∧ tmps.getD 7 undef = .pointer (some ⟨b, 0, none⟩)) (hpool : PoolAt W B v' q) (hk : Kept B v w W) (hfr : ∀ k, v'.ownBlock = some k → v.ownBlock = some k ∨ w.heap.size ≤ k) (hD : w.heap.size ≤ D) (hK : W.heap[D]? = some (.deferred (some []))) :
  bodyPostM Fence.wide 9 Tryz.prog Tryz.f51 (fun e w' => ∃ v', e = .returned (.tuple #[.int .u64 (runV p n align).2.1, .int .i64 (runV p n align).2.2]) ∧ PoolAt w' B v' (runV p n align).1 ∧ Kept' B v v' w w') Exit.ret { tmps := tmps, defers := [{ target := Target.collected D, args := #[] }] } W := by
 subst ht3 ht4
 have hg := grownBy_putObj' W D (.deferred none)
 have hrow : ∀ r, some D = some r → ∃ o : Obj, W.heap[r]? = some o ∧ o.isCells = false := fun r e => by cases e; exact ⟨_, hK, rfl⟩
 have e3 := (Boxed.keptOff h3 hg hrow).cell
 have e4 := (Boxed.keptOff h4 hg hrow).cell
 have hp' := hpool.keptOff hg hrow
 have hk' := hk.grown hg fun r e => by cases e; exact hD
 rw [hrun]
 generalize hW' : W.putObj D (.deferred none) = W' at *
 refine ⟨by simp, .inl ⟨_, _, rfl, run_takeDeferred hK, ?_⟩⟩
 rw [hW']
 refine ⟨.tuple #[.int .u64 at', .int .i64 er], ?_, v', rfl, hp', ⟨hk', hfr⟩⟩
 have t6 : tmps[6]?.getD undef = .pointer (some ⟨a, 0, none⟩) := by simpa using htm.1
 have t7 : tmps[7]?.getD undef = .pointer (some ⟨b, 0, none⟩) := by simpa using htm.2
 simp [results, Tryz.results51, go_sem, t6, t7, e3, e4]
set_option maxRecDepth 100000 in
set_option maxHeartbeats 4000000 in
theorem run_go (B : Nat) (v : Value) (p : Pl) (n align : Int) (w : World) (hok : PlOk p) (hlen : p.used.length ≤ 137438953472) (hp : PoolAt w B v p) (_ho : W64 p.out) (hal : W64 align) (hask : askB n align = true) :
  Calls Tryz.prog 51 #[.pointer (some ⟨B, 0, none⟩), .int .i64 n, .int .u64 align] w fun e w' => ∃ v', e = .returned (.tuple #[.int .u64 (runV p n align).2.1, .int .i64 (runV p n align).2.2]) ∧ PoolAt w' B v' (runV p n align).1 ∧ Kept' B v v' w w' := by
 obtain ⟨n1, n2, h3, h4⟩ := askB_iff.1 hask
 have a0 := hal.1
 have k1 : ¬ n < 1 := by omega
 have k2 : ¬ 4096 < n := by omega
 have k3 : (align == 0) = false := by simpa using h3
 have k4 : (align % 4096 != 0) = false := by simpa using h4
 have k5 : 0 ≤ n := by omega
 have k6 : n * 4096 ≤ 16777216 := by omega
 replace h4 := Lib.hid h4
 obtain ⟨i0, hi0, hz00, hz01, hz02⟩ := info_parts infoSpan
 refine (callsIn_wide (n := 9)).1 ?_
 refine callsIn_of_wp_marks Tryz.func51 rfl trivial ?_ rfl
 simp only [Tryz.ntmps51, List.size_toArray, List.length_cons, List.length_nil, Nat.reduceAdd, Nat.reduceSub, Array.replicate_succ, Array.replicate_zero, List.push_toArray, List.append_toArray, List.nil_append, List.cons_append]
 gi_wp2_with (refine ⟨trivial, ?_⟩; gi_at_call 79; refine (free_in _ _ _).mono ?_; rintro e w' ⟨rfl, rfl⟩)
 obtain ⟨W0, hW0⟩ : ∃ W0, (((((((w.alloc (.cells #[.pointer (some ⟨B, 0, none⟩)] 40)).alloc (.cells #[.int .i64 n] 3)).alloc (.cells #[.int .u64 align] 26)).alloc (.cells #[.int .u64 0] 26)).alloc (.cells #[.int .i64 0] 35)).alloc (.cells #[.int .u64 (n * 4096)] 26)).alloc (.cells #[.pointer (some ⟨B, 0, none⟩)] 40)) = W0 := ⟨_, rfl⟩
 rw [hW0]
 obtain ⟨⟨b0, b1, b2, b3, b4, b5, b6⟩, hsz, hB0⟩ := boxes7 _ _ _ _ _ _ _ _ _ _ _ _ _ _ _ W0 hW0
 have hp0 := hp.below hB0
 clear hW0
 refine wpIn_rangeFunc_ownH rfl (by decide) (gf := 96) (lb := #[.pointer (some ⟨w.heap.size + 1 + 1 + 1 + 1 + 1 + 1, 0, none⟩)]) rfl trivial (enters_of Tryz.func96 (by kernel_rfl) rfl)
  (free_stops _ (w.heap.size + 1 + 1 + 1 + 1 + 1 + 1) w W0 (by decide) B v p hok (by omega) hp (by omega) b6.cell hB0) KeepsCells.trans (fun W l o o' _ h hc _ => KeepsCells.putObj W l o o' h hc) (Below.refl _ _) (fun _ => rfl)
  (fun pre W => (∀ y ∈ pre, fitsV n align y = false) ∧ Below W0.heap.size W0 W)
  (RunIx B v p n align w)
  (fun s W W' row hs hg hr => ⟨hs.1, ownFrom_below (β := List Two) (Nat.le_refl _) (Nat.le_refl _) s W W' row hs.2 hg hr⟩)
  (fun c => runIx_own B v p n align w _ hB0.size c)
  ⟨by simp, Below.refl _ _⟩
  (fun x a' W => ∃ Bx, W0.heap.size ≤ Bx ∧ W.cell? ⟨Bx, 0, none⟩ = some (.int .u64 x.a) ∧ W.cell? ⟨Bx, 1, none⟩ = some (.int .u64 x.b) ∧ a' = { tmps := #[.pointer (some ⟨B, 0, none⟩), .int .i64 n, .int .u64 align, .pointer (some ⟨w.heap.size, 0, none⟩), .pointer (some ⟨w.heap.size + 1, 0, none⟩), .pointer (some ⟨w.heap.size + 1 + 1, 0, none⟩), .pointer (some ⟨w.heap.size + 1 + 1 + 1, 0, none⟩), .pointer (some ⟨w.heap.size + 1 + 1 + 1 + 1, 0, none⟩), .pointer (some ⟨w.heap.size + 1 + 1 + 1 + 1 + 1, 0, none⟩), .pointer (some ⟨Bx, 0, none⟩), undef, undef, undef, .int .i64 n, .bool false, .bool false, .int .i64 n, .bool false, .bool false, .bool false, .int .u64 align, .bool false, .bool false, .bool false, .int .u64 align, .int .u64 (align % 4096), .bool false, .bool false, .pointer (some ⟨B, 0, none⟩), .bool false, .int .i64 n, .int .u64 n, .int .u64 (n * 4096), .pointer (some ⟨B, 0, none⟩), .func (.func 96) #[] #[.pointer (some ⟨w.heap.size + 1 + 1 + 1 + 1 + 1 + 1, 0, none⟩)], .agg #[.int .u64 x.a, .int .u64 x.b], undef, undef, undef, undef, undef, undef, undef, undef, undef, undef, undef, undef, undef, undef, undef, undef, undef, undef, undef, undef, undef, undef, undef, undef, undef, undef, undef, undef, undef, undef, undef, undef, undef, undef, undef, undef, undef], defers := [] })
  (fun x a' _ X Y row hs hg hr => by obtain ⟨Bx, h1, h2, h3, h4⟩ := hs; exact ⟨Bx, h1, cell_kept h2 hg (fun r e => (hr r e).2), cell_kept h3 hg (fun r e => (hr r e).2), h4⟩)
  ?assign ?body ?done ?stop
 case assign =>
  rintro l1 pre x W K ⟨hno, hB⟩ hK
  gi_wp2
  exact hK _ _ ((KeepsOthers.alloc _ _).from _) (KeepsCells.of_below (bone _ _)) ⟨hno, hB.alloc hB.size _⟩ ⟨W.heap.size, hB.size, by simp [World.cell?_alloc_new], by simp [World.cell?_alloc_new], rfl⟩
 case body =>
  rintro l1 pre x a' W hl1 ⟨r, hr⟩ ⟨hno, hB⟩ ⟨Bx, hBx, c0, c1, rfl⟩ hlt
  have p0 := (Boxed.below b0 hB (by omega)).cell
  have p1 := (Boxed.below b1 hB (by omega)).cell
  have p2 := (Boxed.below b2 hB (by omega)).cell
  have p5 := (Boxed.below b5 hB (by omega)).cell
  have hBlt : Bx < W.heap.size := World.block_lt_of_cell? W _ c0
  have hz : W0.heap.size ≤ W.heap.size := hB.size
  have hu := fun W => up_any x.a align W x.ha hal
  have hfit : fitsV n align x = ((upV x.a align).2 && withinB (upV x.a align).1 (n * 4096) x.a x.b) := rfl
  have hI := fun (W' : World) (h : Below W.heap.size W W') (hf : fitsV n align x = false) => And.intro ((KeepsOthers.of_grownBy (grown_of_below h) (fun _ _ e => by cases e)).from W0.heap.size) (And.intro (KeepsCells.of_below h) (And.intro (show ∀ y ∈ pre ++ [x], fitsV n align y = false from fun y hy => by
   rcases List.mem_append.1 hy with hy | hy
   ·exact hno y hy
   ·obtain rfl : y = x := by simpa using hy
    exact hf) (hB.trans (h.mono hz))))
  replace hno := Lib.hid hno
  have hwt : (wantV n align x).a = (upV x.a align).1 → (wantV n align x).b = n * 4096 → True := fun _ _ => trivial
  clear hwt
  cases hi : (upV x.a align).2
  ·rw [hi] at hu
   have hI := fun W' h => hI W' h (by rw [hfit, hi]; rfl)
   clear hfit
   gi_wp2_with (refine ⟨trivial, ?_⟩; gi_at_call 27; refine (CallsIn.inRound l1 (callsIn_wide.2 (hu _))).mono ?_; rintro e w1 ⟨rfl, hb1⟩; have p5' := cell_lt hb1 p5 (by omega))
   refine ⟨trivial, ?_⟩
   gi_wp2
   exact hI _ (hb1.alloc hb1.size _)
  ·rw [hi] at hu
   obtain ⟨u1, u2, u3, u4, u5⟩ := upV_yes x.ha hal hi
   have hwi := fun W => within_any (upV x.a align).1 (n * 4096) x.a x.b W u5 (by unfold W64; omega) x.ha x.hb
   cases hw : withinB (upV x.a align).1 (n * 4096) x.a x.b
   ·rw [hw] at hwi
    have hI := fun W' h => hI W' h (by rw [hfit, hw]; simp)
    clear hfit
    generalize (upV x.a align).1 = U at *
    gi_wp2_with (first | (refine ⟨trivial, ?_⟩; gi_at_call 27; refine (CallsIn.inRound l1 (callsIn_wide.2 (hu _))).mono ?_; rintro e w1 ⟨rfl, hb1⟩; have p5' := cell_lt hb1 p5 (by omega); have c0' := cell_lt hb1 c0 (by omega); have c1' := cell_lt hb1 c1 (by omega); have hB1 : Bx < w1.heap.size := Nat.lt_of_lt_of_le hBlt hb1.size) | (refine ⟨trivial, ?_⟩; gi_at_call 64; refine (CallsIn.inRound l1 (callsIn_wide.2 (hwi _))).mono ?_; rintro e w2 ⟨rfl, hb2⟩))
    exact hI _ (bthen (hb1.alloc hb1.size _) hb2)
   ·rw [hw] at hwi
    have hfitx : fitsV n align x = true := by rw [hfit, hi, hw]; rfl
    obtain ⟨wt1, wt2⟩ : (wantV n align x).a = (upV x.a align).1 ∧ (wantV n align x).b = n * 4096 := tw_parts u5 (by unfold W64; omega)
    clear hfit hI
    have hpW := hp0.below hB
    have hW0W : Below w.heap.size w W := hB0.trans (hB.mono hB0.size)
    generalize hX : wantV n align x = X at *
    generalize hU : (upV x.a align).1 = U at *
    gi_wp2_with (first | (refine ⟨trivial, ?_⟩; gi_at_call 27; refine (CallsIn.inRound l1 (callsIn_wide.2 (hu _))).mono ?_; rintro e w1 ⟨rfl, hb1⟩; have p5' := cell_lt hb1 p5 (by omega); have c0' := cell_lt hb1 c0 (by omega); have c1' := cell_lt hb1 c1 (by omega); have hB1 : Bx < w1.heap.size := Nat.lt_of_lt_of_le hBlt hb1.size) | (refine ⟨trivial, ?_⟩; gi_at_call 64; refine (CallsIn.inRound l1 (callsIn_wide.2 (hwi _))).mono ?_; rintro e w2 ⟨rfl, hb2⟩))
    have hb02 : Below W.heap.size W w2 := bthen (hb1.alloc hb1.size _) hb2
    have hp2 := hpW.below hb02
    have hBN : B < w.heap.size := hp.lt
    obtain ⟨g0, hg0⟩ : ∃ g0 : Option Nat, g0 = v.ownBlock := ⟨_, rfl⟩
    have hgl : ∀ k, v.ownBlock = some k → B < k ∧ k < w.heap.size := fun k e => by have := hp.own.lt k e; omega
    have t0 : w2.cell? ⟨w1.heap.size, 0, none⟩ = some (.int .u64 U) := cell_lt hb2 (by simp [World.cell?_alloc_new]) (by simp)
    have t1 : w2.cell? ⟨w1.heap.size, 1, none⟩ = some (.int .u64 (n * 4096)) := cell_lt hb2 (by simp [World.cell?_alloc_new]) (by simp)
    have hz1 : W.heap.size ≤ w1.heap.size := hb1.size
    have hz2 : w1.heap.size < w2.heap.size := by have := hb2.size; simp at this; omega
    have q0 := cell_lt hb02 p0 (by omega)
    have q1 := cell_lt hb02 p1 (by omega)
    have q2c := hp2.cells.2.2.1
    clear hb2 c0' c1' p5' hu hwi c0 c1
    refine region_ord_last (fun z => ∃ X : RunCells w.heap.size B w1.heap.size v U (n * 4096), z = X.x) [([0, 1, 2, 3, 4, 5], 6), ([], 7), ([], 8)] [9, 10] 11 (fun _ => trivial) (by kernel_rfl) (by kernel_rfl) (by kernel_rfl) (by kernel_rfl) (by kernel_rfl) ⟨⟨w2.drew, q0, q2c, t0, t1⟩, rfl⟩ ?_
    simp only [List.map_cons, List.map_nil, List.filterMap_cons, List.filterMap_nil, List.getElem?_cons_succ, List.getElem?_cons_zero]
    haveI : Nonempty (RunCells w.heap.size B w1.heap.size v U (n * 4096)) := ⟨⟨w2.drew, q0, q2c, t0, t1⟩⟩
    have y0 := fun X : RunCells w.heap.size B w1.heap.size v U (n * 4096) => X.h0
    have y1 := fun X : RunCells w.heap.size B w1.heap.size v U (n * 4096) => X.h1
    have y2 := fun X : RunCells w.heap.size B w1.heap.size v U (n * 4096) => X.h2
    have y3 := fun X : RunCells w.heap.size B w1.heap.size v U (n * 4096) => X.h3
    have hd2 : Below w2.heap.size w2 w2.drew := (Below.refl _ _).drew
    generalize w2.drew = wc at *
    refine ordL_step ?_
    repeat (change wpQuiet _ _ _ _ (List.cons _ _) _; go_big_quiet_step (fail))
    refine wpQuiet_nil ?_
    intro Q₁ hQ₁
    gi_wp2
    have hb3 : Below w2.heap.size w2 (wc.alloc (.cells #[.int .u64 U, .int .u64 (n * 4096)] 28)) := hd2.alloc hd2.size _
    have hown2 := (hp2.below hd2).own
    have hT : w.heap.size ≤ w1.heap.size := by have := hW0W.size; omega
    have far := fun (k : Nat) (hk : w.heap.size ≤ k ∨ k = B) => show v.ownBlock ≠ some k from fun e => by have := hgl k e; omega
    have cc := fun (b o : Nat) (u : Value) (h : w2.cell? ⟨b, o, none⟩ = some u) => cell_lt hb3 h (World.block_lt_of_cell? w2 _ h)
    refine hQ₁ _ _ ⟨⟨_, cc _ _ _ q0, cc _ _ _ q2c, cc _ _ _ t0, cc _ _ _ t1⟩, rfl⟩ ?_
    clear hQ₁ Q₁
    refine ordL_step ?_
    refine wpQuiet_nil ?_
    intro Q₁ hQ₁
    have hN2 : w.heap.size ≤ wc.heap.size := by have := hd2.size; have := hb02.size; have := hW0W.size; omega
    simp only [Option.toList]
    gi_wp2_with (gi_at_builtin; (refine wpListIn_append_own _ rfl _ _ 80 rfl (B + 1) 28 i0 _ 2 16 Tryz.underlying80 hi0 hz00 hz01 hz02 rfl (by decide) _ _ _ rfl (hown2.alloc _) ⟨wc.heap.size, 0, none⟩ 1 1 [.int .u64 U, .int .u64 (n * 4096)] rfl rfl (cell_two_new _ _ _ _) (by intro u hu; simp at hu; rcases hu with rfl | rfl <;> rfl) (by unfold maxLen; omega) (by omega) (by simp; omega) ?_); intro vn w4 hown4 hgrow4 _)
    have hown4' : OwnTwo 28 w4 (B + 1) vn (p.used ++ [X]) := by unfold OwnTwo; rw [encs_snoc, List.length_append, wt1, wt2]; exact hown4
    replace hgrow4 : (wc.alloc (.cells #[.int .u64 U, .int .u64 (n * 4096)] 28)).grownBy w4 v.ownBlock := hgrow4
    have hs4 := hgrow4.size
    simp only [World.size_alloc] at hs4
    have c4 := fun (b o : Nat) (u : Value) (hb : w.heap.size ≤ b ∨ b = B) (h : w2.cell? ⟨b, o, none⟩ = some u) => (grown_cell hgrow4 o (World.block_lt_of_cell? _ _ (cc b o u h)) (far b hb)).trans (cc b o u h)
    have r0 := c4 _ _ _ (.inl (Nat.le_refl _)) q0
    have r1 := c4 _ _ _ (.inl (Nat.le_succ _)) q1
    have r2 := c4 _ _ _ (.inr rfl) q2c
    refine hQ₁ _ _ ⟨⟨_, r0, r2, c4 _ _ _ (.inl hT) t0, c4 _ _ _ (.inl hT) t1⟩, rfl⟩ ?_
    clear hQ₁ Q₁
    refine ordL_step ?_
    refine wpQuiet_nil ?_
    intro Q₁ hQ₁
    gi_wp2_with (refine ⟨trivial, ?_⟩; gi_at_call 80; refine (CallsIn.inRound l1 (callsIn_wide.2 (merge_any _ (p.used ++ [X]) _ (OwnTwo.row hown4') (by rw [List.length_append]; simp only [List.length_cons, List.length_nil]; omega)))).mono ?_; rintro e w5 ⟨rv, rfl, hr5, hb5⟩)
    obtain ⟨Ar, Cr, rfl, _, _⟩ := OwnTwo.row hr5
    have c5 := fun (b o : Nat) (u : Value) (hb : w.heap.size ≤ b ∨ b = B) (h : w2.cell? ⟨b, o, none⟩ = some u) => cell_lt hb5 (c4 b o u hb h) (World.block_lt_of_cell? _ _ (c4 b o u hb h))
    refine hQ₁ _ _ ⟨⟨_, c5 _ _ _ (.inl (Nat.le_refl _)) q0, c5 _ _ _ (.inr rfl) q2c, c5 _ _ _ (.inl hT) t0, c5 _ _ _ (.inl hT) t1⟩, rfl⟩ ?_
    clear hQ₁ Q₁
    refine ordL_last ?_
    repeat (change wpQuiet _ _ _ _ (List.cons _ _) _; go_big_quiet_step (fail))
    refine wpQuiet_nil ?_
    intro Q₁ hQ₁
    have hblk5 : w5.heap[B]? = some (.cells #[.int .u64 p.from', .int .u64 p.count, v, .int .u64 p.out] 82 (0, 0)) := by
     have hBw2 : B < w2.heap.size := hp2.lt
     have hBwc : B < wc.heap.size := Nat.lt_of_lt_of_le hBw2 hd2.size
     refine (hb5.block B (by omega)).trans ((hgrow4.block B (by simp; omega) (fun e => far B (.inr rfl) e.symm)).trans ((hb3.block B hBw2).trans hp2.blk))
    have z2 := c5 _ _ _ (.inr rfl) q2c
    have f2 : w5.frozen? ⟨B, 2, none⟩ = false := by simp [World.frozen?, hblk5]
    clear y0 y1 y2 y3
    have hkeep : ∀ k, k < w2.heap.size → v.ownBlock ≠ some k → w5.heap[k]? = w2.heap[k]? := fun k hk1 hk2 => by
     have hkc : k < wc.heap.size := Nat.lt_of_lt_of_le hk1 hd2.size
     exact (hb5.block k (by omega)).trans ((hgrow4.block k (by simp; omega) (fun e => hk2 e.symm)).trans (hb3.block k hk1))
    have hsz5 : w2.heap.size ≤ w5.heap.size := by have := hd2.size; have := hb5.size; omega
    have hNW := hW0W.size
    have hother : KeepsOthers W w5 := (KeepsOthers.of_grownBy (grown_of_below hb02) (fun _ _ e => by cases e)).trans ((KeepsOthers.of_grownBy (grown_of_below hd2) (fun _ _ e => by cases e)).trans ((KeepsOthers.alloc _ _).trans ((KeepsOthers.of_grownBy hgrow4 (fun j o ej hj => by
     rcases (World.ownsRow.alloc hown2 (.cells #[.int .u64 U, .int .u64 (n * 4096)] 28)).2 with ⟨e1, _⟩ | ⟨g, cp, cur, e1, _, hgb, _⟩
     ·rw [e1] at ej; simp [Value.ownBlock] at ej
     ·rw [e1] at ej; simp [Value.ownBlock] at ej; subst ej; rw [hgb] at hj; cases hj; rfl)).trans (KeepsOthers.of_grownBy (grown_of_below hb5) (fun _ _ e => by cases e)))))
    have hbox : ∀ (k : Nat) (t : TypeId) (u : Value), w.heap.size ≤ k → k < W0.heap.size → Boxed W0 k t u → Boxed w5 k t u := fun k t u h1 h2 h3 =>
     (hkeep k (by have := hb02.size; omega) (far k (.inl h1))).trans ((hb02.block k (by omega)).trans (Boxed.below h3 hB h2))
    have hkeep0 : ∀ k, k < w.heap.size → v.ownBlock ≠ some k → w5.heap[k]? = w.heap[k]? := fun k h1 h2 =>
     (hkeep k (by have := hb02.size; omega) h2).trans ((hb02.block k (by omega)).trans (hW0W.block k h1))
    have hos : w5.os = w.os ∧ w5.tape = w.tape ∧ w5.output = w.output := ⟨hb5.os.trans (hgrow4.os.trans (hb3.os.trans (hb02.os.trans hW0W.os))), hb5.tape.trans (hgrow4.tape.trans (hb3.tape.trans (hb02.tape.trans hW0W.tape))), hb5.output.trans (hgrow4.output.trans (hb3.output.trans (hb02.output.trans hW0W.output)))⟩
    have hrow5 : OwnTwo 28 w5 (w.heap.size + 7) (.slice Ar (spansV (mergedV (p.used ++ [X]))).length Cr) (spansV (mergedV (p.used ++ [X]))) := hr5.mono (by have := hd2.size; omega)
    have m0 := hbox _ _ _ (Nat.le_refl _) (by omega) b0
    have m1 := hbox _ _ _ (by omega) (by omega) b1
    have m3 := hbox _ _ _ (by omega) (by omega) b3
    have m4 := hbox _ _ _ (by omega) (by omega) b4
    clear c5 c4 cc r0 r1 r2 q0 q1 q2c t0 t1 hkeep hbox hgrow4 hown4 hown4' hown2 hr5 hb5 hb3 hd2 p0 p1 p2 p5 hp2 hpW
    gi_wp2
    obtain ⟨w6, hw6⟩ : ∃ w6, w6 = w5.setCell ⟨B, 2, none⟩ (.slice Ar (spansV (mergedV (p.used ++ [X]))).length Cr) := ⟨_, rfl⟩
    rw [← hw6]
    have hblk6 : w6.heap[B]? = some (.cells #[.int .u64 p.from', .int .u64 p.count, .slice Ar (spansV (mergedV (p.used ++ [X]))).length Cr, .int .u64 p.out] 82 (0, 0)) := by rw [hw6, heap_setCell_at hblk5]; rfl
    have hs6 : ∀ k, k ≠ B → w6.heap[k]? = w5.heap[k]? := fun k hk => by rw [hw6]; exact Below.heap_setCell _ _ _ k hk
    have hz6 : w6.heap.size = w5.heap.size := by rw [hw6]; simp [World.setCell]
    have hrow6 : OwnTwo 28 w6 (w.heap.size + 7) (.slice Ar (spansV (mergedV (p.used ++ [X]))).length Cr) (spansV (mergedV (p.used ++ [X]))) := by rw [hw6]; exact hrow5.otherSet _ _ (by simp; omega)
    have hoth6 : KeepsOthers W w6 := by rw [hw6]; exact hother.trans (KeepsOthers.setCell _ _ _)
    have hos6 : w6.os = w.os ∧ w6.tape = w.tape ∧ w6.output = w.output := by rw [hw6]; exact hos
    have o0 : Boxed w6 _ _ _ := (hs6 _ (by omega)).trans m0
    have o1 : Boxed w6 _ _ _ := (hs6 _ (by omega)).trans m1
    have o3 : Boxed w6 _ _ _ := (hs6 _ (by omega)).trans m3
    have o4 : Boxed w6 _ _ _ := (hs6 _ (by omega)).trans m4
    have hkeep6 : ∀ k, k < w.heap.size → k ≠ B → v.ownBlock ≠ some k → w6.heap[k]? = w.heap[k]? := fun k h1 h2 h3 => (hs6 k h2).trans (hkeep0 k h1 h3)
    clear hw6 m0 m1 m3 m4 hs6 hblk5 hrow5 hother hos hkeep0
    refine region_ord_last (fun z => ∃ X : Later w6.heap.size w6, z = X.x) [] [0, 1, 2, 3, 4, 5, 6, 7, 8] 9 (fun _ => trivial) (by kernel_rfl) (by kernel_rfl) (by kernel_rfl) (by kernel_rfl) (by kernel_rfl) ⟨⟨_, (Below.refl _ _).drew⟩, rfl⟩ ?_
    simp only [List.map_nil, List.filterMap_cons, List.filterMap_nil, List.getElem?_cons_succ, List.getElem?_cons_zero]
    have e3 : w6.cell? ⟨B, 3, none⟩ = some (.int .u64 p.out) := by simp [World.cell?, hblk6]
    have y0 := later_cell (B := w6.heap.size) o0.cell (by omega)
    have y1 := later_cell (B := w6.heap.size) o1.cell (by omega)
    have y2 := later_cell (B := w6.heap.size) e3 (by omega)
    have hd6 : Below w6.heap.size w6 w6.drew := (Below.refl _ _).drew
    generalize w6.drew = wd at *
    refine ordL_last ?_
    repeat (change wpQuiet _ _ _ _ (List.cons _ _) _; go_big_quiet_step (fail))
    refine wpQuiet_nil ?_
    intro Q₁ hQ₁
    clear y0 y1 y2
    have hblkd : wd.heap[B]? = some (.cells #[.int .u64 p.from', .int .u64 p.count, .slice Ar (spansV (mergedV (p.used ++ [X]))).length Cr, .int .u64 p.out] 82 (0, 0)) := (hd6.block B (by omega)).trans hblk6
    have d3 : Boxed wd _ _ _ := Boxed.below o3 hd6 (by omega)
    have d4 : Boxed wd _ _ _ := Boxed.below o4 hd6 (by omega)
    have e3' : wd.cell? ⟨B, 3, none⟩ = some (.int .u64 p.out) := by simp [World.cell?, hblkd]
    have f3' : wd.frozen? ⟨B, 3, none⟩ = false := by simp [World.frozen?, hblkd]
    have g3 := d3.cell
    have g4 := d4.cell
    have j3 := d3.frozen
    have j4 := d4.frozen
    gi_wp2
    have d3' : Boxed (wd.setCell ⟨B, 3, none⟩ (.int .u64 (IntKind.u64.wrap (p.out + n)))) _ _ _ := (Below.heap_setCell _ _ _ _ (by simp; omega)).trans d3
    have d4' : Boxed (wd.setCell ⟨B, 3, none⟩ (.int .u64 (IntKind.u64.wrap (p.out + n)))) _ _ _ := (Below.heap_setCell _ _ _ _ (by simp; omega)).trans d4
    obtain ⟨s3, s4, s5⟩ := set_two d3' d4' (by omega) (.int .u64 U) (.int .i64 0)
    have hzd : w6.heap.size ≤ wd.heap.size := hd6.size
    refine ⟨(hoth6.trans ((KeepsOthers.of_grownBy (grown_of_below hd6) (fun _ _ e => by cases e)).trans (((KeepsOthers.setCell _ _ _).trans (KeepsOthers.setCell _ _ _)).trans (KeepsOthers.setCell _ _ _)))).from _, rfl, pre, x, .slice Ar (spansV (mergedV (p.used ++ [X]))).length Cr, rfl, hno.out, hfitx, ?_, ?_, s4, ?_, fun k e => by have := hrow6.lt k e; omega⟩
    ·rw [hX]
     refine ⟨?_, ((((hrow6.below hd6 (Nat.le_refl _)).otherSet _ _ (by simp <;> omega)).otherSet _ _ (by simp <;> omega)).otherSet _ _ (by simp <;> omega)).mono (by omega)⟩
     rw [s5 B (by omega) (by omega), heap_setCell_at hblkd, IntKind.wrap_u64]; rfl
    ·rw [hU]; exact s3
    ·refine ⟨hd6.os.trans hos6.1, hd6.tape.trans hos6.2.1, hd6.output.trans hos6.2.2, by simp [World.setCell]; omega, fun k k1 k2 k3 => ?_⟩
     rw [s5 k (by omega) (by omega), Below.heap_setCell _ _ _ k (by simpa using k2), hd6.block k (by omega)]
     exact hkeep6 k k1 k2 k3
 case done =>
  rintro D ys W hD rfl ⟨hno, hB⟩ hK
  have hrun : runV p n align = (p, 0, 110) := by
   unfold runV
   rw [if_pos hask, List.find?_eq_none.2 fun y hy => by rw [hno y hy]; simp]
  have b3' := Boxed.below b3 hB (by omega)
  have b4' := Boxed.below b4 hB (by omega)
  have p3 := b3'.cell
  have p4 := b4'.cell
  have q3 := b3'.frozen
  have q4 := b4'.frozen
  have hpW := hp0.below hB
  clear b3' b4'
  replace hno := Lib.hid hno
  replace hrun := Lib.hid hrun
  gi_wp2
  obtain ⟨s3, s4, s5⟩ := set_two (Boxed.below b3 hB (by omega)) (Boxed.below b4 hB (by omega)) (by omega) (.int .u64 0) (.int .i64 110)
  have hBf : Below w.heap.size w ((W.setCell ⟨w.heap.size + 1 + 1 + 1, 0, none⟩ (.int .u64 0)).setCell ⟨w.heap.size + 1 + 1 + 1 + 1, 0, none⟩ (.int .i64 110)) := ((hB0.trans (hB.mono hB0.size)).setCell (by simp; omega) _).setCell (by simp; omega) _
  exact run_end rfl rfl hrun.out s3 s4 ⟨rfl, rfl⟩ (hp.below hBf) (Kept.of_below hBf) (fun k e => .inl e) (by have := hB0.size; omega) ((s5 D (by omega) (by omega)).trans hK)
 case stop =>
  rintro D c pre W hD ⟨t, ht⟩ ⟨rfl, ys, x, v', rfl, hno, hfit, hpool, hbx, hbe, hkept, hfr⟩ hK
  have hfind := fits_find ht hno hfit
  have hrun : runV p n align = (takeV p n (wantV n align x), (upV x.a align).1, 0) := by unfold runV; rw [if_pos hask, hfind]
  clear hno hfit hfind ht
  replace hrun := Lib.hid hrun
  gi_wp2
  exact run_end rfl rfl hrun.out hbx hbe ⟨rfl, rfl⟩ hpool hkept (fun k e => .inr (hfr k e)) (by have := hB0.size; omega) hK
end Go.Proofs.YtiblhlaemmdphaaGreat
/- The walk of a pool's Run. -/
namespace Go.Proofs.YtiblhlaemmdphaaGreat
open Go Go.RowKit Go.BigFrame
theorem run_any (B : Nat) (v : Value) (p : Pl) (n align : Int) (w : World) (hok : PlOk p) (hlen : p.used.length ≤ 137438953472) (hp : PoolAt w B v p) (ho : W64 p.out) (hal : W64 align) :
  Calls Tryz.prog 51 #[.pointer (some ⟨B, 0, none⟩), .int .i64 n, .int .u64 align] w fun e w' => ∃ v', e = .returned (.tuple #[.int .u64 (runV p n align).2.1, .int .i64 (runV p n align).2.2]) ∧ PoolAt w' B v' (runV p n align).1 ∧ Kept' B v v' w w' := by
 cases ha : askB n align
 ·have e : runV p n align = (p, 0, 1) := by unfold runV; rw [ha]; rfl
  rw [e]
  exact (run_nil_bad n align _ w ha hal).mono fun e w' ⟨he, hb⟩ => ⟨v, he, hp.below hb, ⟨Kept.of_below hb, fun k e => .inl e⟩⟩
 ·exact run_go B v p n align w hok hlen hp ho hal ha
end Go.Proofs.YtiblhlaemmdphaaGreat
