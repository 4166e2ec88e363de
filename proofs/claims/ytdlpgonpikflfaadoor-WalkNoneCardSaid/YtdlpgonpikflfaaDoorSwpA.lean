/- The iterator of a table's descriptors. -/
import Derived.RangeFuncNested
import Derived.RangeFuncBound
import Derived.RangeFuncCalls
import Derived.RangeFuncLeaves
import Derived.RangeFuncBox
import Derived.Shelf.Abstract
import Derived.Shelf.RegionOpen
import Derived.WalkKit
import Derived.OwnWalkIn
import Derived.TacticsInMore
import Derived.LoopNIn
import Derived.LoopIn
import Derived.ControlIn
import Derived.Test.YtdlpgonpikflfaaDoorSwpF
import Derived.Test.YtdlpgonpikflfaaDoorSpanK
import Derived.Test.YtdlpgonpikflfaaDoorOrdI
import Derived.Test.YtdlpgonpikflfaaDoorQuietI
namespace Go.Proofs.YtdlpgonpikflfaaDoor
open Go Go.RowKit Go.Shelf Go.BigFrame

attribute [local go_sem] Oper.semAt_some

/-- What the iterator wants kept: its four boxes, the walker's memory, what lay ahead. -/
structure KeepsD (Bn Bw Ba Bl wb n0 : Nat) (W W' : World) : Prop where
  below : Below n0 W W'
  n : W'.heap[Bn]? = W.heap[Bn]?
  w : W'.heap[Bw]? = W.heap[Bw]?
  a : W'.heap[Ba]? = W.heap[Ba]?
  l : W'.heap[Bl]? = W.heap[Bl]?
  m : W'.cell? ⟨wb, 0, none⟩ = W.cell? ⟨wb, 0, none⟩
theorem KeepsD.refl (Bn Bw Ba Bl wb n0 : Nat) (W : World) : KeepsD Bn Bw Ba Bl wb n0 W W := ⟨Below.refl _ _, rfl, rfl, rfl, rfl, rfl⟩
theorem KeepsD.trans {Bn Bw Ba Bl wb n0 : Nat} {A B C : World} (h : KeepsD Bn Bw Ba Bl wb n0 A B) (k : KeepsD Bn Bw Ba Bl wb n0 B C) : KeepsD Bn Bw Ba Bl wb n0 A C :=
  ⟨h.below.trans k.below, k.n.trans h.n, k.w.trans h.w, k.a.trans h.a, k.l.trans h.l, k.m.trans h.m⟩
/-- The iterator's boxes. -/
structure DBoxes (Bn Bw Ba Bl wb n0 : Nat) (mp : Value) (t k : Int) (n : Nat) (W : World) : Prop where
  n : W.cell? ⟨Bn, 0, none⟩ = some (.int .i64 n)
  w : W.cell? ⟨Bw, 0, none⟩ = some (.pointer (some ⟨wb, 0, none⟩))
  a : W.cell? ⟨Ba, 0, none⟩ = some (.int .u64 t)
  l : W.cell? ⟨Bl, 0, none⟩ = some (.int .i64 k)
  m : W.cell? ⟨wb, 0, none⟩ = some mp
  base : n0 ≤ W.heap.size
theorem DBoxes.kept {Bn Bw Ba Bl wb n0 : Nat} {mp : Value} {t k : Int} {n : Nat} {W W' : World} (h : DBoxes Bn Bw Ba Bl wb n0 mp t k n W) (hk : KeepsD Bn Bw Ba Bl wb n0 W W') : DBoxes Bn Bw Ba Bl wb n0 mp t k n W' :=
  ⟨(World.cell?_of_block hk.n).trans h.n, (World.cell?_of_block hk.w).trans h.w, (World.cell?_of_block hk.a).trans h.a, (World.cell?_of_block hk.l).trans h.l, hk.m.trans h.m, Nat.le_trans h.base hk.below.size⟩
theorem DBoxes.keeps {Bn Bw Ba Bl wb n0 : Nat} {mp : Value} {t k : Int} {n : Nat} {W W' : World} (h : DBoxes Bn Bw Ba Bl wb n0 mp t k n W) (hb : Below W.heap.size W W') : KeepsD Bn Bw Ba Bl wb n0 W W' :=
  ⟨hb.mono h.base, hb.block _ (World.block_lt_of_cell? W _ h.n), hb.block _ (World.block_lt_of_cell? W _ h.w), hb.block _ (World.block_lt_of_cell? W _ h.a), hb.block _ (World.block_lt_of_cell? W _ h.l), hb.cell (p := ⟨wb, 0, none⟩) (World.block_lt_of_cell? W _ h.m)⟩

theorem abides_all {β : Type} {B : Nat} {J : β → World → Prop} (hJ : AbidesFrom B J) {s : β} {w w' : World} (h : J s w) (hb : Below w.heap.size w w') : J s w' :=
  hJ s w w' none h (grown_of_below hb) (fun _ e => by cases e)
set_option maxRecDepth 100000 in
set_option maxHeartbeats 4000000 in
theorem descs1_in (n l Bn Bw Ba Bl wb n0 : Nat) (hn : 1 ≤ n) (p : Option Addr) (rd : Int → Int × Int) (w0 : World) (hrd : Reads (.pointer p) rd n0 w0) (hT : Tab3 w0) (hT0 : 0 < n0) (t k : Int) (c : Nat) (hc : c ≤ 1024) (ht : W64 t) (J Jx : List PD → World → Prop)
    (hY : ∀ pre (x : PD) W, x ∈ descsV rd k t c → J pre W → pre.length < (descsV rd k t c).length → YieldAt Fence.wide (n - 1) Tryd.prog l x.args W fun e W' =>
      (e = .returned (.bool true) ∧ J (pre ++ [x]) W' ∧ KeepsD Bn Bw Ba Bl wb n0 W W') ∨ (e = .returned (.bool false) ∧ Jx (pre ++ [x]) W'))
    (W : World) (hJ : AbidesFrom W.heap.size J) (hD : DBoxes Bn Bw Ba Bl wb n0 (.pointer p) t k c W) (hW0 : Below n0 w0 W) (h0 : J [] W) :
    CallsIn Fence.wide n Tryd.prog 62 #[.func (.yield l) #[] #[], .pointer (some ⟨Bn, 0, none⟩), .pointer (some ⟨Bw, 0, none⟩), .pointer (some ⟨Ba, 0, none⟩), .pointer (some ⟨Bl, 0, none⟩)] W fun e W' => (∃ v, e = .returned v) ∧
      ((∃ ys, ys = descsV rd k t c ∧ J ys W') ∨ (∃ pre, (∃ r, descsV rd k t c = pre ++ r) ∧ Jx pre W')) := by
  have t0 := ht.1
  have t1 := ht.2
  have hwr : IntKind.u64.wrap (c : Int) = c := by rw [IntKind.wrap_u64]; omega
  refine callsIn_of_wp Tryd.func62 rfl trivial ?_ rfl
  simp only [Tryd.ntmps62, List.size_toArray, List.length_cons, List.length_nil, Nat.reduceAdd, Nat.reduceSub, Array.replicate_succ, Array.replicate_zero, List.push_toArray, List.append_toArray, List.nil_append, List.cons_append]
  have q0 := hD.n
  gi_wp2
  clear q0
  gi_loopw [12] (fun i wr => ∃ j : Nat, j ≤ c ∧ i = .int .u64 j ∧ J (descsV rd k t j) wr ∧ KeepsD Bn Bw Ba Bl wb n0 W wr) (fun i _ => c - (intOf i).toNat)
  case atStart => exact ⟨0, Nat.zero_le _, rfl, h0, KeepsD.refl _ _ _ _ _ _ _⟩
  case round =>
    obtain ⟨j, hj, rfl, hJs, hK⟩ := hrel
    by_cases hlt : j < c
    · have hD1 := hD.kept hK
      have hB1 := hW0.trans hK.below
      have hsz := hK.below.size
      have hA : W64 (IntKind.u64.wrap (t + 8 * (j : Int))) := by rw [IntKind.wrap_u64]; unfold W64; omega
      have hw8 : IntKind.u64.wrap (8 * (j : Int)) = 8 * (j : Int) := by rw [IntKind.wrap_u64]; omega
      have hwd := fun W h => hrd.2 _ W h hA
      have hrb := hrd.1 (IntKind.u64.wrap (t + 8 * (j : Int)))
      have hsn : descsV rd k t (j + 1) = descsV rd k t j ++ if (rd (rdAt t j)).2 = 0 ∧ (ofV k (rd (rdAt t j)).1).kind ≠ 0 then [⟨j, ofV k (rd (rdAt t j)).1⟩] else [] := rfl
      have hpre := descsV_pre rd k t (j + 1) (c - (j + 1))
      rw [show j + 1 + (c - (j + 1)) = c by omega] at hpre
      rw [show rdAt t j = IntKind.u64.wrap (t + 8 * (j : Int)) from rfl] at hsn
      generalize hAe : IntKind.u64.wrap (t + 8 * (j : Int)) = A at *
      generalize rd A = ra at *
      obtain ⟨x, ex⟩ := ra
      have hof := fun (W : World) (h : Tab3 W) => of_any k x W h hrb.1 hrb.2
      simp only at hsn
      obtain ⟨q1, q2, q3, q4, q5, q6⟩ := hD1
      gi_wp2
      refine region_later_in wr.heap.size wr (Below.refl _ _) rfl (by kernel_rfl) (by kernel_rfl) ?_
      have y0 := later_cell (B := wr.heap.size) q2 (World.block_lt_of_cell? wr _ q2)
      have y1 := later_cell (B := wr.heap.size) q3 (World.block_lt_of_cell? wr _ q3)
      have y2 := later_cell (B := wr.heap.size) q5 (World.block_lt_of_cell? wr _ q5)
      have hwl : ∀ W', Below wr.heap.size wr W' → Below n0 w0 W' := fun W' h => hB1.trans (h.mono q6)
      repeat (refine wpQuietIn_step (fun _ _ _ _ => trivial) (fun K hK => ?_); go_simp; first | (refine hK _ ?_; clear hK K) | (apply Exists.intro; refine ⟨fun _ => ?_, hK _ ?_⟩; (first | (gi_at_call 23; exact quiet_later_in (Nat.le_refl _) (callsIn_wide.2 (hwd _ (hwl _ (Later.h _)))))); clear hK K))
      refine wpQuietIn_nil ?_
      first | (rintro _ ⟨X, rfl⟩) | (intro X)
      have hX := X.h
      clear y0 y1 y2
      generalize X.x = w3 at *
      have q4' : w3.cell? ⟨Bl, 0, none⟩ = some (.int .i64 k) := cell_lt hX q4 (World.block_lt_of_cell? wr _ q4)
      have hB3 := hwl _ hX
      have hK3 := hK.trans (DBoxes.keeps ⟨q1, q2, q3, q4, q5, q6⟩ hX)
      have hJ3 := abides_all (B := W.heap.size) hJ hJs hX
      have hTw := (hT.belowB hB3 hT0)
      clear hwd hwl q1 q2 q3 q4 q5
      by_cases hex : ex = 0
      · have hq0 : (ex == 0) = true := by rw [hex]; rfl
        rw [hex] at hsn
        have hofw := hof _ hTw
        clear hof
        generalize ofV k x = d at *
        obtain ⟨kd, pa, pm, mm, af⟩ := d
        simp only [DescV.val] at hofw
        gi_wp2
        refine ⟨trivial, ?_⟩
        refine (callsIn_wide.2 hofw).mono ?_; rintro e w4 ⟨rfl, hb4⟩
        have hb5 : Below w3.heap.size w3 (w4.alloc (.cells #[.int .i64 kd, .int .u64 pa, .int .i64 pm, .int .i64 mm, .bool af] 71)) := hb4.alloc hb4.size _
        by_cases hk0 : kd = 0
        · have hq1 : (kd != 0) = false := by rw [hk0]; rfl
          rw [if_neg (by simp [hk0]), List.append_nil] at hsn
          replace hsn := Lib.hid hsn
          replace hk0 := Lib.hid hk0
          gi_wp2
          refine ⟨(fun f h => (by cases h)), ?_⟩
          gi_wp2
          go_roundw
          case rel => exact ⟨j + 1, by omega, by go_num, by rw [hsn.out]; exact abides_all (B := W.heap.size) hJ hJ3 hb5, hK3.trans (DBoxes.keeps (hD.kept hK3) hb5)⟩
          case measure => simp [intOf]; omega
        · have hq1 : (kd != 0) = true := by simpa using hk0
          rw [if_pos (by simp [hk0])] at hsn
          obtain ⟨r, hr⟩ := hpre
          rw [hsn] at hr
          have hlk : (descsV rd k t j).length < (descsV rd k t c).length := by rw [hr]; simp
          have hy0 := hY _ ⟨j, ⟨kd, pa, pm, mm, af⟩⟩ _ (by rw [hr]; simp) (abides_all (B := W.heap.size) hJ hJ3 hb5) hlk
          simp only [PD.args, DescV.val] at hy0
          obtain ⟨fn, tmps, assign, body, hy, hR⟩ := hy0
          have hK5 := hK3.trans (DBoxes.keeps (hD.kept hK3) hb5)
          replace hr := Lib.hid hr
          replace hsn := Lib.hid hsn
          clear hlk hofw
          gi_wp2
          refine hR.mono ?_
          rintro e W3 (⟨rfl, hJ4, hk4⟩ | ⟨rfl, hJx4⟩)
          · gi_wp2
            go_roundw
            case rel => exact ⟨j + 1, by omega, by go_num, by rw [hsn.out]; exact hJ4, hK5.trans hk4⟩
            case measure => simp [intOf]; omega
          · gi_wp2
            refine bodyPost_ret (results_none rfl _ _ _) rfl ?_
            exact ⟨⟨_, rfl⟩, .inr ⟨_, ⟨_, hr.out⟩, hJx4⟩⟩
      · have hq0 : (ex == 0) = false := by simpa using hex
        rw [if_neg (by simp [hex]), List.append_nil] at hsn
        replace hsn := Lib.hid hsn
        gi_wp2
        go_roundw
        case rel => exact ⟨j + 1, by omega, by go_num, by rw [hsn.out]; exact hJ3, hK3⟩
        case measure => simp [intOf]; omega
    · obtain rfl : j = c := by omega
      gi_wp2
      go_end0
      exact ⟨⟨_, rfl⟩, .inl ⟨_, rfl, hJs⟩⟩
end Go.Proofs.YtdlpgonpikflfaaDoor
