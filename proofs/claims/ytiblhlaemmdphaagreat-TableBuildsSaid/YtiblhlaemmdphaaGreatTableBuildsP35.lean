/- Plain: the two guests' tables as they are built, and what a walk of them tells. -/
import Derived.Test.YtiblhlaemmdphaaGreatTableBuildsP2
import Derived.Test.YtiblhlaemmdphaaGreatTableBuildsP17
import Derived.Test.YtiblhlaemmdphaaGreatTableBuildsP29
import Derived.Test.YtiblhlaemmdphaaGreatTableBuildsP30
import Derived.Test.YtiblhlaemmdphaaGreatTableBuildsP33
import Derived.Test.YtiblhlaemmdphaaGreatTableBuildsP34
namespace Go.Proofs.YtiblhlaemmdphaaGreat
open Go Go.RowKit
section
variable {s z : Int}
end
def InG (g a : Int) : Prop := 65536 + 32768 * g ≤ a ∧ a < 65536 + 32768 * g + 4096
instance (g a : Int) : Decidable (InG g a) := by unfold InG; infer_instance
end Go.Proofs.YtiblhlaemmdphaaGreat
/- The reference's frames: a pool and a memory side by side. -/
namespace Go.Proofs.YtiblhlaemmdphaaGreat
open Go Go.RowKit Go.BigFrame Go.Maps
def refAll (rb : Nat) (pv : Value) (L : List Pg) (C : Nat) (vr : Value) : List Nat := C :: (vr.ownBlock.toList ++ refBlks rb pv L)
theorem mem_refAll {rb : Nat} {pv : Value} {L : List Pg} {C : Nat} {vr : Value} {b : Nat} : b ∈ refAll rb pv L C vr ↔ b = C ∨ vr.ownBlock = some b ∨ b ∈ refBlks rb pv L := by
 unfold refAll
 rw [List.mem_cons, List.mem_append, Option.mem_toList]
structure RTurn (B : Nat) (S S' : List Nat) (W W' : World) : Prop where
 off : OffL B S W W'
 blks : ∀ b ∈ S', b ∈ S ∨ W.heap.size ≤ b
theorem RTurn.trans {B : Nat} {S1 S2 S3 : List Nat} {X Y Z : World} (h : RTurn B S1 S2 X Y) (k : RTurn B S2 S3 Y Z) : RTurn B S1 S3 X Z :=
 ⟨h.off.trans k.off h.blks, fun b hb => (k.blks b hb).elim (h.blks b) fun e => .inr (Nat.le_trans h.off.below.size e)⟩
theorem RTurn.of_below {B : Nat} {S : List Nat} {X Y : World} (h : Below X.heap.size X Y) (hB : B ≤ X.heap.size) : RTurn B S S X Y := ⟨OffL.of_below h hB, fun _ hb => .inl hb⟩
theorem RPoolAt.same {W W' : World} {C : Nat} {v : Value} {s : Two} {U : List Int} (h : RPoolAt W C v s U) (hC : W'.heap[C]? = W.heap[C]?) (hr : ∀ k, v.ownBlock = some k → W'.heap[k]? = W.heap[k]?) : RPoolAt W' C v s U :=
 ⟨hC.trans h.blk, ownsRow_eq h.own hr⟩
theorem zall_n (a n : Int) (p : Pg) : (zall a n p).n = p.n := by unfold zall; split <;> rfl
theorem rep_getD (k i : Nat) : (List.replicate k (0 : Int)).getD i 0 = 0 := by
 rw [List.getD_eq_getElem?_getD, List.getElem?_replicate]
 split <;> rfl
theorem zall_bt (a n : Int) (ha : a % 4096 = 0) (hn : n % 4096 = 0) (L : List Pg) (b : Int) : bt ((L.map (zall a n)).map Pg.ab) b = if a ≤ b ∧ b < a + n then 0 else bt (L.map Pg.ab) b := by
 unfold bt pgFind
 rw [List.find?_map, List.find?_map, List.find?_map]
 have e1 : ((fun p => decide (p.1 = b / 4096)) ∘ Pg.ab) ∘ zall a n = (fun p => decide (p.1 = b / 4096)) ∘ Pg.ab := by
  funext p
  show decide ((zall a n p).n = b / 4096) = decide (p.n = b / 4096)
  rw [zall_n]
 rw [e1]
 cases hf : L.find? ((fun p => decide (p.1 = b / 4096)) ∘ Pg.ab) with
 | none => simp
 | some p =>
  have hp0 := List.find?_some hf
  have hp : p.n = b / 4096 := of_decide_eq_true hp0
  simp only [Option.map_some]
  by_cases hc : a ≤ p.n * 4096 ∧ p.n * 4096 < a + n
  ·have hi : inPages a n p.ab = true := by unfold inPages Pg.ab; simp only [Bool.and_eq_true, decide_eq_true_eq]; exact hc
   have hz : zall a n p = { p with bs := zpg } := by unfold zall; rw [if_pos hi]
   rw [hz, if_pos (by omega)]
   exact rep_getD 4096 _
  ·have hi : ¬ inPages a n p.ab = true := by unfold inPages Pg.ab; simp only [Bool.and_eq_true, decide_eq_true_eq]; exact hc
   have hz : zall a n p = p := by unfold zall; rw [if_neg hi]
   rw [hz, if_neg (by omega)]
end Go.Proofs.YtiblhlaemmdphaaGreat
/- The reference's memory and pool beside a builder's state: frames. -/
namespace Go.Proofs.YtiblhlaemmdphaaGreat
open Go Go.RowKit Go.BigFrame Go.Maps
structure RG (W : World) (B rb C : Nat) (pv vr : Value) (s z : Int) (T : Two) (L : List Pg) (U : List Int) (pl : Pl) (pg : PG) : Prop where
 mem : MemR W rb pv s z L
 pool : RPoolAt W C vr T U
 inv : RefInv pl U
 ok : PlOk pl
 sm : pl.from' = (newV T).from' ∧ pl.count = (newV T).count
 lo : ∀ b ∈ refAll rb pv L C vr, B ≤ b
 d : ∀ b ∈ refBlks rb pv L, b ≠ C ∧ vr.ownBlock ≠ some b
 out : pl.out ≤ 1000000
 be : ∀ b, bt (L.map Pg.ab) b = bt pg b
section
variable {W W' : World} {B rb C : Nat} {pv vr : Value} {s z : Int} {T : Two} {L : List Pg} {U : List Int} {pl : Pl} {pg : PG}
theorem RG.lt (h : RG W B rb C pv vr s z T L U pl pg) : ∀ b ∈ refAll rb pv L C vr, b < W.heap.size := by
 intro b hb
 rcases mem_refAll.1 hb with rfl | hb | hb
 ·exact h.pool.lt
 ·exact (World.ownsRow.lt h.pool.own b hb).2
 ·exact h.mem.lt b hb
theorem RG.hB (h : RG W B rb C pv vr s z T L U pl pg) : B ≤ W.heap.size := by
 have := h.lo C (mem_refAll.2 (.inl rfl))
 have := h.pool.lt
 omega
theorem RG.same (h : RG W B rb C pv vr s z T L U pl pg) (hs : ∀ b ∈ refAll rb pv L C vr, W'.heap[b]? = W.heap[b]?) : RG W' B rb C pv vr s z T L U pl pg :=
 ⟨h.mem.same fun b hb => hs b (mem_refAll.2 (.inr (.inr hb))), h.pool.same (hs C (mem_refAll.2 (.inl rfl))) fun k hk => hs k (mem_refAll.2 (.inr (.inl hk))), h.inv, h.ok, h.sm, h.lo, h.d, h.out, h.be⟩
theorem RG.later (h : RG W B rb C pv vr s z T L U pl pg) (hb : Below W.heap.size W W') : RG W' B rb C pv vr s z T L U pl pg :=
 h.same fun b hm => hb.block b (h.lt b hm)
theorem RG.wrote {pv' : Value} {L' : List Pg} {tgt pg' : PG} (h : RG W B rb C pv vr s z T L U pl pg) (hw : WroteR W W' rb pv pv' s z L L' B tgt) (hbe : ∀ b, bt (L'.map Pg.ab) b = bt pg' b) : RG W' B rb C pv' vr s z T L' U pl pg' ∧ RTurn B (refAll rb pv L C vr) (refAll rb pv' L' C vr) W W' := by
 have hC := h.pool.lt
 have hCn : C ∉ refBlks rb pv L := fun e => (h.d C e).1 rfl
 have hvn : ∀ k, vr.ownBlock = some k → k ∉ refBlks rb pv L := fun k hk e => (h.d k e).2 hk
 have hvl : ∀ k, vr.ownBlock = some k → k < W.heap.size := fun k hk => h.lt k (mem_refAll.2 (.inr (.inl hk)))
 refine ⟨⟨hw.mem, h.pool.same (hw.off.rest C hC hCn) fun k hk => hw.off.rest k (hvl k hk) (hvn k hk), h.inv, h.ok, h.sm, fun b hb => ?_, fun b hb => ?_, h.out, hbe⟩, ⟨hw.off.mono fun b hb => mem_refAll.2 (.inr (.inr hb)), fun b hb => ?_⟩⟩
 ·rcases mem_refAll.1 hb with rfl | hb | hb
  ·exact h.lo _ (mem_refAll.2 (.inl rfl))
  ·exact h.lo _ (mem_refAll.2 (.inr (.inl hb)))
  ·exact (hw.blks b hb).elim (fun e => h.lo b (mem_refAll.2 (.inr (.inr e)))) fun e => Nat.le_trans h.hB e
 ·rcases hw.blks b hb with e | e
  ·exact h.d b e
  ·exact ⟨by omega, fun e2 => by have := hvl b e2; omega⟩
 ·rcases mem_refAll.1 hb with rfl | hb | hb
  ·exact .inl (mem_refAll.2 (.inl rfl))
  ·exact .inl (mem_refAll.2 (.inr (.inl hb)))
  ·exact (hw.blks b hb).imp (fun e => mem_refAll.2 (.inr (.inr e))) id
theorem RG.ran {vr' : Value} {U' : List Int} {pl' : Pl} (h : RG W B rb C pv vr s z T L U pl pg) (hp : RPoolAt W' C vr' T U') (hi : RefInv pl' U') (hk : Kept' C vr vr' W W') (hok : PlOk pl') (hs : pl'.from' = pl.from' ∧ pl'.count = pl.count) (ho : pl'.out ≤ 1000000) : RG W' B rb C pv vr' s z T L U' pl' pg ∧ RTurn B (refAll rb pv L C vr) (refAll rb pv L C vr') W W' := by
 have hvl : ∀ k, vr.ownBlock = some k → B ≤ k := fun k hk => h.lo k (mem_refAll.2 (.inr (.inl hk)))
 have hfr : ∀ k, vr'.ownBlock = some k → vr.ownBlock = some k ∨ W.heap.size ≤ k := hk.fresh
 have hsm := h.sm
 refine ⟨⟨h.mem.same fun b hb => hk.kept.block b (h.mem.lt b hb) (h.d b hb).1 (h.d b hb).2, hp, hi, hok, ⟨by rw [hs.1, hsm.1], by rw [hs.2, hsm.2]⟩, fun b hb => ?_, fun b hb => ⟨(h.d b hb).1, fun e => ?_⟩, ho, h.be⟩, ⟨⟨⟨hk.kept.os, hk.kept.tape, hk.kept.output, hk.kept.size, fun k hkB => ?_⟩, fun k h1 h2 => hk.kept.block k h1 (fun e => h2 (mem_refAll.2 (.inl e))) (fun e => h2 (mem_refAll.2 (.inr (.inl e))))⟩, fun b hb => ?_⟩⟩
 ·rcases mem_refAll.1 hb with rfl | hb | hb
  ·exact h.lo _ (mem_refAll.2 (.inl rfl))
  ·exact (hfr b hb).elim (hvl b) fun e => Nat.le_trans h.hB e
  ·exact h.lo _ (mem_refAll.2 (.inr (.inr hb)))
 ·rcases hfr b e with e | e
  ·exact (h.d b hb).2 e
  ·have := h.mem.lt b hb; omega
 ·have hBW := h.hB
  by_cases hk2 : k < W.heap.size
  ·refine hk.kept.block k hk2 (fun e => ?_) (fun e => ?_)
   ·have := h.lo C (mem_refAll.2 (.inl rfl)); omega
   ·have := hvl k e; omega
  ·omega
 ·rcases mem_refAll.1 hb with rfl | hb | hb
  ·exact .inl (mem_refAll.2 (.inl rfl))
  ·exact (hfr b hb).imp (fun e => mem_refAll.2 (.inr (.inl e))) id
  ·exact .inl (mem_refAll.2 (.inr (.inr hb)))
theorem RG.run (h : RG W B rb C pv vr s z T L U pl pg) (n al : Int) (hal : W64 al) : Calls Tryz.prog 69 #[.pointer (some ⟨C, 0, none⟩), .int .i64 n, .int .u64 al] W fun e w' => ∃ v' U', e = .returned (.tuple #[.int .u64 (runV pl n al).2.1, .int .i64 (runV pl n al).2.2]) ∧ RPoolAt w' C v' T U' ∧ RefInv (runV pl n al).1 U' ∧ Kept' C vr v' W w' := by
 have hout := h.inv.out
 have hpo := h.out
 exact refRun_any C vr T U pl n al W h.ok h.sm h.inv h.pool hal (by omega) (by omega)
theorem refFrameNo {n al c : Int} {pl' : Pl} {x : Int} (h : RG W B rb C pv vr s z T L U pl pg) (hr : runV pl n al = (pl', x, c)) (hc : c ≠ 0) (hal : W64 al) (hok : PlOk pl') (ho : pl'.out ≤ 1000000) :
  Calls Tryz.prog 38 #[.pointer (some ⟨rb, 0, none⟩), .pointer (some ⟨C, 0, none⟩), .int .i64 n, .int .u64 al] W fun e w' => ∃ vr' U', e = .returned (.tuple #[.int .u64 0, .int .i64 c]) ∧ RG w' B rb C pv vr' s z T L U' pl' pg ∧ RTurn B (refAll rb pv L C vr) (refAll rb pv L C vr') W w' := by
 have hrun := h.run n al hal
 have hsm := runV_same pl n al
 rw [hr] at hrun hsm
 simp only at hrun hsm
 have hcb : (c == 0) = false := by simpa using hc
 go_enter Tryz.func38, Tryz.ntmps38
 go_wp2_with fail
 refine hrun.mono ?_; rintro e w2 ⟨vr', U', rfl, hp2, hi2, hk2⟩
 obtain ⟨hM2, hT2⟩ := h.ran hp2 hi2 hk2 hok hsm ho
 clear hrun
 go_wp2_with fail
 go_ret2
 exact ⟨vr', U', rfl, hM2, hT2⟩
theorem refFrameOk {n al at' : Int} {pl' : Pl} (h : RG W B rb C pv vr s z T L U pl pg) (hr : runV pl n al = (pl', at', 0)) (hal : W64 al) (hn : n = 1 ∨ n = 2) (hw : withinB at' (4096 * n) s z = true) (ha : W64 at') (hap : at' % 4096 = 0) (hok : PlOk pl') (ho : pl'.out ≤ 1000000) :
  Calls Tryz.prog 38 #[.pointer (some ⟨rb, 0, none⟩), .pointer (some ⟨C, 0, none⟩), .int .i64 n, .int .u64 al] W fun e w' => ∃ vr' U' L', e = .returned (.tuple #[.int .u64 at', .int .i64 0]) ∧ RG w' B rb C pv vr' s z T L' U' pl' (zpgs pg at' (4096 * n)) ∧ L'.length = L.length ∧ RTurn B (refAll rb pv L C vr) (refAll rb pv L' C vr') W w' := by
 have hrun := h.run n al hal
 have hsm := runV_same pl n al
 rw [hr] at hrun hsm
 simp only at hrun hsm
 have hwn : IntKind.u64.wrap n = n := by rcases hn with rfl | rfl <;> rfl
 have hwm : IntKind.u64.wrap (4096 * n) = 4096 * n := by rcases hn with rfl | rfl <;> rfl
 have hnz : ∀ W1 vr' U', RG W1 B rb C pv vr' s z T L U' pl' pg → Calls Tryz.prog 70 #[.pointer (some ⟨rb, 0, none⟩), .agg #[.int .u64 at', .int .u64 (4096 * n)]] W1 fun e w' => e = .returned (.int .i64 0) ∧ WroteR W1 w' rb pv pv s z L (L.map (zall at' (4096 * n))) B ((L.map (zall at' (4096 * n))).map Pg.ab) := fun W1 vr' U' h1 =>
  refZero_any rb pv s z at' (4096 * n) L B W1 h1.mem (fun k hk => h1.lo k (mem_refAll.2 (.inr (.inr hk)))) h1.hB ha (by unfold W64; rcases hn with rfl | rfl <;> omega) hw ⟨hap, by omega⟩
 go_enter Tryz.func38, Tryz.ntmps38
 go_wp2_with fail
 refine hrun.mono ?_; rintro e w2 ⟨vr', U', rfl, hp2, hi2, hk2⟩
 obtain ⟨hM2, hT2⟩ := h.ran hp2 hi2 hk2 hok hsm ho
 have hz2 := hnz w2 vr' U' hM2
 clear hrun hnz
 go_wp2_with fail
 refine hz2.mono ?_; rintro e w3 ⟨rfl, hw3⟩
 obtain ⟨hM3, hT3⟩ := hM2.wrote (pg' := zpgs pg at' (4096 * n)) hw3 fun b => by rw [zall_bt _ _ hap (by omega), bt_zpgs _ _ _ _ hap (by omega), h.be]
 clear hz2
 go_wp2_with fail
 go_ret2
 exact ⟨vr', U', _, rfl, hM3, by rw [List.length_map], hT2.trans hT3⟩
theorem RG.putM (h : RG W B rb C pv vr s z T L U pl pg) (hpg : PgOk pg) (a x : Int) (ha : W64 a) (ha8 : a + 8 ≤ 18446744073709551616) (hx : W64 x) (hq : putE s z a = 0) (hl : L.length ≤ 900000) :
  Calls Tryz.prog 72 #[.pointer (some ⟨rb, 0, none⟩), .int .u64 a, .int .u64 x] W fun e w' => ∃ pv' L', e = .returned (.int .i64 0) ∧ RG w' B rb C pv' vr s z T L' U pl (wpg pg a x) ∧ RTurn B (refAll rb pv L C vr) (refAll rb pv' L' C vr) W w' ∧ L'.length ≤ L.length + 8 := by
 have hc := refPutM_any rb pv s z a x L B W h.mem ha hx (fun k hk => h.lo k (mem_refAll.2 (.inr (.inr hk)))) (by omega)
 rw [hq] at hc
 simp only [if_true] at hc
 refine hc.mono ?_
 rintro e w' ⟨rfl, pv', L', hw⟩
 have hab : L'.map Pg.ab = wpg (L.map Pg.ab) a x := hw.ab
 obtain ⟨h1, h2⟩ := h.wrote (pg' := wpg pg a x) hw fun b => by
  rw [hab, bt_wpg h.mem.ok x ha.1 ha8, bt_wpg hpg x ha.1 ha8, h.be]
 refine ⟨pv', L', rfl, h1, h2, ?_⟩
 have := writeV_len 8 (pg := L.map Pg.ab) (a := a) (l := putB x) (by rw [putB_len]; exact Nat.le_refl _)
 rw [← hw.ab, putB_len] at this
 simpa using this
theorem RG.word (h : RG W B rb C pv vr s z T L U pl pg) (a : Int) : wordV s z (L.map Pg.ab) a = wordV s z pg a := by
 unfold wordV
 rw [wordAt_congr fun i _ => h.be (a + (i : Int))]
end
theorem frS_run {s z n al : Int} {st st1 : BS} {a : Int} (h : frS s z n al st = (st1, a, 0)) : runV st.pl n al = (st1.pl, a, 0) ∧ withinB a (4096 * n) s z = true ∧ st1 = ⟨st1.pl, zpgs st.pg a (4096 * n), st.tb⟩ := by
 unfold frS at h
 split at h
 ·rename_i hc
  simp only [Prod.mk.injEq] at h
  exact absurd h.2.2 hc
 ·rename_i hc
  split at h
  ·simp at h
  ·rename_i hw
   simp only [Prod.mk.injEq, and_true] at h
   obtain ⟨rfl, rfl⟩ := h
   refine ⟨?_, by rw [Int.mul_comm]; simpa using hw, by rw [Int.mul_comm n 4096]⟩
   simp only [ne_eq, Classical.not_not] at hc
   rw [← hc]
theorem frS_dry {s z n al : Int} {st st1 : BS} (h : frS s z n al st = (st1, 0, 110)) : ∃ x, runV st.pl n al = (st1.pl, x, 110) ∧ st1 = ⟨st1.pl, st.pg, st.tb⟩ := by
 unfold frS at h
 split at h
 ·simp only [Prod.mk.injEq, true_and] at h
  obtain ⟨rfl, h2⟩ := h
  exact ⟨(runV st.pl n al).2.1, by rw [← h2], rfl⟩
 ·split at h
  ·simp at h
  ·simp at h
end Go.Proofs.YtiblhlaemmdphaaGreat
