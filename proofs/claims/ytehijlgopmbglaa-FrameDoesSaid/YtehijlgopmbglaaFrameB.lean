/- The walks of a pool's free stretches: it hands out the stretches of which nothing is handed out, in order. -/
import Derived.RangeFuncNested
import Derived.RangeFuncBound
import Derived.RangeFuncCalls
import Derived.RangeFuncLeaves
import Derived.RangeFuncBox
import Derived.Shelf.Abstract
import Derived.Shelf.RegionOpen
import Derived.WalkKit
import Derived.OwnWalkIn
import Derived.TacticsInMore
import Derived.LoopNIn
import Derived.LoopIn
import Derived.ControlIn
import Derived.Test.YtehijlgopmbglaaFrameA
import Derived.Test.YtehijlgopmbglaaSpanK
namespace Go.Proofs.Ytehijlgopmbglaa
open Go Go.RowKit Go.Shelf Go.BigFrame

attribute [local go_sem] Oper.semAt_some

/-- What is cells lies as it lay. -/
structure KeepsCells (W W' : World) : Prop where
  size : W.heap.size ≤ W'.heap.size
  same : ∀ (k : Nat) (o : Obj), W.heap[k]? = some o → o.isCells = true → W'.heap[k]? = some o
theorem KeepsCells.refl (W : World) : KeepsCells W W := ⟨Nat.le_refl _, fun _ _ h _ => h⟩
theorem KeepsCells.trans {A B C : World} (h : KeepsCells A B) (k : KeepsCells B C) : KeepsCells A C := ⟨Nat.le_trans h.size k.size, fun i o h1 h2 => k.same i o (h.same i o h1 h2) h2⟩
theorem KeepsCells.of_below {W W' : World} (h : Below W.heap.size W W') : KeepsCells W W' := ⟨h.size, fun k _ hk _ => (h.block k (Array.getElem?_eq_some_iff.1 hk).1).trans hk⟩
theorem KeepsCells.putObj (W : World) (l : Nat) (o o' : Obj) (h : W.heap[l]? = some o) (hc : o.isCells = false) : KeepsCells W (W.putObj l o') :=
  ⟨(grownBy_putObj' W l o').size, fun k p hk hp => by
    refine ((grownBy_putObj' W l o').block k (Array.getElem?_eq_some_iff.1 hk).1 (fun e => ?_)).trans hk
    cases e
    rw [h] at hk; cases hk; rw [hc] at hp; cases hp⟩
theorem KeepsCells.cell {W W' : World} (h : KeepsCells W W') {a : Addr} {v : Value} (hc : W.cell? a = some v) : W'.cell? a = some v := by
  obtain ⟨o, ho, hi⟩ := cells_of_cell hc
  exact (World.cell?_of_block ((h.same _ o ho hi).trans ho.symm)).trans hc
theorem RowTwo.kept {W W' : World} {v : Value} {l : List Two} (h : RowTwo W v l) (k : KeepsCells W W') : RowTwo W' v l := by
  obtain ⟨a, cap, h1, hc, h2⟩ := h
  refine ⟨a, cap, h1, hc, fun hl => ?_⟩
  obtain ⟨b, off, ha, hlt, hcell⟩ := h2 hl
  exact ⟨b, off, ha, Nat.lt_of_lt_of_le hlt k.size, fun i hi => ⟨k.cell (hcell i hi).1, k.cell (hcell i hi).2⟩⟩

theorem cutFrom_le (last : Int) : ∀ (M : List Two) (f : Int), (cutFrom last f M).length ≤ M.length + 1
  | [], f => by simp [cutFrom]
  | x :: M, f => by
    have h1 := cutFrom_le last M f
    have h2 := cutFrom_le last M (x.b + 1)
    rw [cutFrom]
    split
    · simp only [List.length_cons]; omega
    · split
      · simp
      · rw [List.length_append]
        split <;> split <;> simp only [List.length_cons, List.length_nil] <;> omega
theorem free_len (p : Pl) : p.free.length ≤ p.used.length + 3 := by
  unfold Pl.free
  split
  · simp
  · unfold cutV
    split
    · have h1 := spansV_len (cutEnds p.whole p.used)
      have h2 := cutFrom_le (lastV p.whole.a p.whole.b) (mergedV p.used) p.whole.a
      have h3 := mergedV_len p.used
      unfold cutEnds at *; omega
    · simp

set_option maxHeartbeats 1000000 in
theorem whole_any (p : Pl) (hp : PlOk p) (w : World) : Calls Try.prog 36 #[.agg #[.int .u64 p.from', .int .u64 p.count]] w fun e w' => e = .returned (.agg #[.int .u64 p.whole.a, .int .u64 p.whole.b]) ∧ Below w.heap.size w w' := by
  obtain ⟨h1, h2⟩ := hp.whole_parts
  have c0 := hp.c0
  have c1 := hp.c1
  rw [h1, h2]
  clear h1 h2
  go_enter Try.func36, Try.ntmps36
  go_wp2
  refine bodyPost_ret (v := .agg #[.int .u64 p.from', .int .u64 (p.count * 4096)]) (by simp [results, Try.results36, go_sem]) rfl ⟨rfl, ?_⟩
  repeat (first | exact Below.refl _ _ | refine Below.setCell ?_ (by simp <;> omega) _ | refine Below.alloc ?_ (by simp <;> omega) _)

set_option maxRecDepth 20000 in
set_option maxHeartbeats 1000000 in
theorem free_in (n : Nat) (q : Option Addr) (w : World) :
    CallsIn Fence.wide n Try.prog 23 #[.pointer q] w fun e w' => e = .returned (.func (.func 34) #[] #[.pointer (some ⟨w.heap.size, 0, none⟩)]) ∧ w' = w.alloc (.cells #[.pointer q] 28) := by
  refine callsIn_of_wp Try.func23 rfl trivial ?_ rfl
  simp only [Try.ntmps23, List.size_toArray, List.length_cons, List.length_nil, Nat.reduceAdd, Nat.reduceSub, Array.replicate_succ, Array.replicate_zero, List.push_toArray, List.append_toArray, List.nil_append, List.cons_append]
  gi_wp2
  go_ret
  exact ⟨rfl, rfl⟩

set_option maxRecDepth 100000 in
set_option maxHeartbeats 4000000 in
theorem free1_in (n l Bs : Nat) (w0 : World) (hn : 1 ≤ n) (B : Nat) (v : Value) (p : Pl) (hok : PlOk p) (hlen : p.used.length ≤ 274877906944) (hp : PoolAt w0 B v p) (J Jx : List Two → World → Prop)
    (hY : ∀ pre (x : Two) W, J pre W → pre.length < p.free.length → YieldAt Fence.wide (n - 1) Try.prog l #[.agg #[.int .u64 x.a, .int .u64 x.b]] W fun e W' =>
      (e = .returned (.bool true) ∧ J (pre ++ [x]) W' ∧ KeepsCells W W') ∨ (e = .returned (.bool false) ∧ Jx (pre ++ [x]) W'))
    (W : World) (hJ : AbidesFrom W.heap.size J) (hBs : W.cell? ⟨Bs, 0, none⟩ = some (.pointer (some ⟨B, 0, none⟩))) (hW : Below w0.heap.size w0 W) (h0 : J [] W) :
    CallsIn Fence.wide n Try.prog 34 #[.func (.yield l) #[] #[], .pointer (some ⟨Bs, 0, none⟩)] W fun e W' => (∃ v, e = .returned v) ∧
      ((∃ ys, ys = p.free ∧ J ys W') ∨ (∃ pre, (∃ t, p.free = pre ++ t) ∧ Jx pre W')) := by
  have hpW := hp.below hW
  obtain ⟨c0, c1, c2, c3⟩ := hpW.cells
  have hBlt := hpW.lt
  refine callsIn_of_wp Try.func34 rfl trivial ?_ rfl
  simp only [Try.ntmps34, List.size_toArray, List.length_cons, List.length_nil, Nat.reduceAdd, Nat.reduceSub, Array.replicate_succ, Array.replicate_zero, List.push_toArray, List.append_toArray, List.nil_append, List.cons_append]
  by_cases hz : p.count = 0
  · have hfree : p.free = [] := by unfold Pl.free; rw [if_pos hz]
    rw [hz] at c1
    replace hfree := Lib.hid hfree
    replace hz := Lib.hid hz
    gi_wp2
    refine bodyPost_ret (results_none rfl _ _ _) rfl ?_
    exact ⟨⟨_, rfl⟩, .inl ⟨_, rfl, by rw [hfree.out]; exact h0⟩⟩
  · have hfree : p.free = cutV p.whole p.used := by unfold Pl.free; rw [if_neg hz]
    have hz' : (p.count == 0) = false := by simpa using hz
    have hwl := fun W => whole_any p hok W
    have hrowV := hpW.row
    have hBsl : Bs < W.heap.size := World.block_lt_of_cell? W _ hBs
    replace hfree := Lib.hid hfree
    clear hz
    gi_wp2
    refine wpIn_wide.2 ?_
    have y0 := later_cell hBs hBsl
    have y1 := later_cell c0 hBlt
    have y2 := later_cell c1 hBlt
    have y3 := later_cell c2 hBlt
    refine region_ord (fun z => ∃ X : Later W.heap.size W, z = X.x) [([0, 1, 2, 3, 5, 6, 7, 8, 11], 4), ([], 9)] [10] (by kernel_rfl) (by kernel_rfl) (by kernel_rfl) (by kernel_rfl) ⟨⟨_, (Below.refl _ _).drew⟩, rfl⟩ ?_
    simp only [List.map_cons, List.map_nil, List.filterMap_cons, List.filterMap_nil, List.getElem?_cons_succ, List.getElem?_cons_zero]
    have hB10 : Below W.heap.size W W.drew := (Below.refl _ _).drew
    generalize W.drew = w10 at *
    refine ord_step ?_
    repeat (change wpQuiet _ _ _ _ (List.cons _ _) _; go_big_quiet_step (fail))
    refine wpQuiet_nil ?_
    intro Q₁ hQ₁
    go_wp2_with fail
    refine (hwl w10).mono ?_; rintro e w11 ⟨rfl, hb11⟩
    have hB11 : Below W.heap.size W w11 := bthen hB10 hb11
    go_wp2_with fail
    refine hQ₁ _ _ ⟨⟨_, hB11⟩, rfl⟩ ?_
    clear hQ₁ Q₁
    refine ord_step ?_
    repeat (change wpQuiet _ _ _ _ (List.cons _ _) _; go_big_quiet_step (fail))
    refine wpQuiet_nil ?_
    intro Q₁ hQ₁
    go_wp2_with fail
    have hrowP := hrowV.below hB11
    refine (cut_any _ p.whole p.used w11 hrowP hlen).mono ?_; rintro e w12 ⟨r, rfl, hr, hb12⟩
    obtain ⟨ar, cr, rfl, hcr, hrow⟩ := OwnTwo.row hr
    have hB12 : Below W.heap.size W w12 := bthen hB11 hb12
    go_wp2_with fail
    refine hQ₁ _ _ ⟨⟨_, hB12⟩, rfl⟩ ?_
    clear hQ₁ Q₁
    refine ord_last ?_
    repeat (change wpQuiet _ _ _ _ (List.cons _ _) _; go_big_quiet_step (fail))
    refine wpQuiet_nil ?_
    clear y0 y1 y2 y3
    rw [← hfree.out] at hrow hr
    have hRow := OwnTwo.row hr
    rw [← hfree.out] at hcr
    simp only [← hfree.out]
    have hJ1 := abides_below hJ h0 hB12
    have hMl := free_len p
    clear hrow hr h0
    generalize hM : p.free = M at *
    replace hM := Lib.hid hM
    gi_wp2
    gi_loopw [22] (fun i wr => ∃ k : Nat, k ≤ M.length ∧ i = .int .i64 k ∧ J (M.take k) wr ∧ KeepsCells w12 wr ∧ W.heap.size ≤ wr.heap.size) (fun i _ => M.length - (intOf i).toNat)
    case atStart => exact ⟨0, Nat.zero_le _, rfl, hJ1, KeepsCells.refl _, hB12.size⟩
    case round =>
      obtain ⟨k, hk, rfl, hJs, hKs, hsz⟩ := hrel
      by_cases hlt : k < M.length
      · have hr2 := hRow.kept hKs
        obtain ⟨a2, cap2, e2, _, hcells⟩ := hr2
        cases e2
        obtain ⟨b, off, rfl, hbl, hcell⟩ := hcells (by rintro rfl; simp at hlt)
        have h1 := (hcell k hlt).1
        have h2 := (hcell k hlt).2
        have hsn : M.take (k + 1) = M.take k ++ [M[k]] := List.take_succ_eq_append_getElem hlt
        have hlk : (M.take k).length < M.length := by rw [List.length_take]; omega
        have hpre : ∃ t, M = M.take (k + 1) ++ t := ⟨_, (List.take_append_drop _ _).symm⟩
        rw [hsn] at hpre
        replace hsn := Lib.hid hsn
        replace hpre := Lib.hid hpre
        clear hcells hcell
        generalize M[k] = x at *
        obtain ⟨fn, tmps, assign, body, hy, hR⟩ := hY _ x (wr.alloc (.cells #[.int .u64 x.a, .int .u64 x.b] 24)) (abides_below (B := W.heap.size) hJ hJs (bone _ _)) hlk
        gi_wp2
        refine hR.mono ?_
        rintro e W3 (⟨rfl, hJ3, hk3⟩ | ⟨rfl, hJx3⟩)
        · gi_wp2
          go_roundw
          case rel => exact ⟨k + 1, by omega, by go_num, by rw [hsn.out]; exact hJ3, (hKs.trans (KeepsCells.of_below (bone _ _))).trans hk3, Nat.le_trans hsz (Nat.le_trans (by simp) hk3.size)⟩
          case measure => simp [intOf]; omega
        · gi_wp2
          refine bodyPost_ret (results_none rfl _ _ _) rfl ?_
          exact ⟨⟨_, rfl⟩, .inr ⟨_, by rw [hM.out]; exact hpre.out, hJx3⟩⟩
      · obtain rfl : k = M.length := by omega
        rw [List.take_length] at hJs
        gi_wp2
        go_end0
        exact ⟨⟨_, rfl⟩, .inl ⟨_, hM.out.symm, hJs⟩⟩

theorem free_stops (n Bs : Nat) (w0 w : World) (hn : 1 ≤ n) (B : Nat) (v : Value) (p : Pl) (hok : PlOk p) (hlen : p.used.length ≤ 274877906944) (hp : PoolAt w0 B v p) (hBs : Bs < w.heap.size) (hc : w.cell? ⟨Bs, 0, none⟩ = some (.pointer (some ⟨B, 0, none⟩))) (hW : Below w0.heap.size w0 w) :
    SeqStopsK Fence.wide n Try.prog 34 #[.pointer (some ⟨Bs, 0, none⟩)] (fun x : Two => #[.agg #[.int .u64 x.a, .int .u64 x.b]]) KeepsCells (fun ys => ys = p.free) (fun pre => ∃ t, p.free = pre ++ t) p.free.length w :=
  fun l J Jx W hW1 hJ _ hY h0 => free1_in n l Bs w0 hn B v p hok hlen hp J Jx hY W hJ ((hW1.cell (p := ⟨Bs, 0, none⟩) hBs).trans hc) (hW.trans (hW1.mono hW.size)) h0
end Go.Proofs.Ytehijlgopmbglaa
