/- The reference's frames: a pool and a memory side by side. -/
import Derived.Test.YtgihknfoncljbaaGreatDoorRingsP36
import Derived.Test.YtgihknfoncljbaaGreatDoorRingsP37
import Derived.Test.YtgihknfoncljbaaGreatDoorRingsP39
import Derived.Test.YtgihknfoncljbaaGreatDoorRingsP40
namespace Go.Proofs.YtgihknfoncljbaaGreatDoor
open Go Go.RowKit Go.BigFrame Go.Maps
def ldrT : Two := tw 1073741824 131072
theorem ldrT_new : (newV ldrT).from' = 1073741824 ∧ (newV ldrT).count = 32 := by rw [show ldrT = tw 1073741824 131072 from rfl, pool_new]; exact ⟨rfl, rfl⟩
def refAll (rb : Nat) (pv : Value) (L : List Pg) (C : Nat) (vr : Value) : List Nat := C :: (vr.ownBlock.toList ++ refBlks rb pv L)
theorem mem_refAll {rb : Nat} {pv : Value} {L : List Pg} {C : Nat} {vr : Value} {b : Nat} : b ∈ refAll rb pv L C vr ↔ b = C ∨ vr.ownBlock = some b ∨ b ∈ refBlks rb pv L := by
 unfold refAll
 rw [List.mem_cons, List.mem_append, Option.mem_toList]
structure RM (W : World) (B rb C : Nat) (pv vr : Value) (L : List Pg) (U : List Int) (p : Pl) : Prop where
 mem : MemR W rb pv 1073741824 1048576 L
 pool : RPoolAt W C vr ldrT U
 inv : RefInv p U
 ok : PlOk p
 sm : p.from' = 1073741824 ∧ p.count = 32
 lo : ∀ b ∈ refAll rb pv L C vr, B ≤ b
 d : ∀ b ∈ refBlks rb pv L, b ≠ C ∧ vr.ownBlock ≠ some b
 out : p.out ≤ 1000
structure RTurn (B : Nat) (S S' : List Nat) (W W' : World) : Prop where
 off : OffL B S W W'
 blks : ∀ b ∈ S', b ∈ S ∨ W.heap.size ≤ b
theorem RTurn.trans {B : Nat} {S1 S2 S3 : List Nat} {X Y Z : World} (h : RTurn B S1 S2 X Y) (k : RTurn B S2 S3 Y Z) : RTurn B S1 S3 X Z :=
 ⟨h.off.trans k.off h.blks, fun b hb => (k.blks b hb).elim (h.blks b) fun e => .inr (Nat.le_trans h.off.below.size e)⟩
theorem RTurn.of_below {B : Nat} {S : List Nat} {X Y : World} (h : Below X.heap.size X Y) (hB : B ≤ X.heap.size) : RTurn B S S X Y := ⟨OffL.of_below h hB, fun _ hb => .inl hb⟩
theorem RM.lt {W : World} {B rb C : Nat} {pv vr : Value} {L : List Pg} {U : List Int} {p : Pl} (h : RM W B rb C pv vr L U p) : ∀ b ∈ refAll rb pv L C vr, b < W.heap.size := by
 intro b hb
 rcases mem_refAll.1 hb with rfl | hb | hb
 ·exact h.pool.lt
 ·exact (World.ownsRow.lt h.pool.own b hb).2
 ·exact h.mem.lt b hb
theorem RM.hB {W : World} {B rb C : Nat} {pv vr : Value} {L : List Pg} {U : List Int} {p : Pl} (h : RM W B rb C pv vr L U p) : B ≤ W.heap.size := by
 have := h.lo C (mem_refAll.2 (.inl rfl))
 have := h.pool.lt
 omega
theorem RPoolAt.same {W W' : World} {C : Nat} {v : Value} {s : Two} {U : List Int} (h : RPoolAt W C v s U) (hC : W'.heap[C]? = W.heap[C]?) (hr : ∀ k, v.ownBlock = some k → W'.heap[k]? = W.heap[k]?) : RPoolAt W' C v s U :=
 ⟨hC.trans h.blk, ownsRow_eq h.own hr⟩
theorem RM.same {W W' : World} {B rb C : Nat} {pv vr : Value} {L : List Pg} {U : List Int} {p : Pl} (h : RM W B rb C pv vr L U p) (hs : ∀ b ∈ refAll rb pv L C vr, W'.heap[b]? = W.heap[b]?) : RM W' B rb C pv vr L U p :=
 ⟨h.mem.same fun b hb => hs b (mem_refAll.2 (.inr (.inr hb))), h.pool.same (hs C (mem_refAll.2 (.inl rfl))) fun k hk => hs k (mem_refAll.2 (.inr (.inl hk))), h.inv, h.ok, h.sm, h.lo, h.d, h.out⟩
theorem RM.later {W W' : World} {B rb C : Nat} {pv vr : Value} {L : List Pg} {U : List Int} {p : Pl} (h : RM W B rb C pv vr L U p) (hb : Below W.heap.size W W') : RM W' B rb C pv vr L U p :=
 h.same fun b hm => hb.block b (h.lt b hm)
theorem RM.wrote {W W' : World} {B rb C : Nat} {pv pv' vr : Value} {L L' : List Pg} {U : List Int} {p : Pl} {tgt : PG} (h : RM W B rb C pv vr L U p) (hw : WroteR W W' rb pv pv' 1073741824 1048576 L L' B tgt) : RM W' B rb C pv' vr L' U p ∧ RTurn B (refAll rb pv L C vr) (refAll rb pv' L' C vr) W W' := by
 have hC := h.pool.lt
 have hCn : C ∉ refBlks rb pv L := fun e => (h.d C e).1 rfl
 have hvn : ∀ k, vr.ownBlock = some k → k ∉ refBlks rb pv L := fun k hk e => (h.d k e).2 hk
 have hvl : ∀ k, vr.ownBlock = some k → k < W.heap.size := fun k hk => h.lt k (mem_refAll.2 (.inr (.inl hk)))
 refine ⟨⟨hw.mem, h.pool.same (hw.off.rest C hC hCn) fun k hk => hw.off.rest k (hvl k hk) (hvn k hk), h.inv, h.ok, h.sm, fun b hb => ?_, fun b hb => ?_, h.out⟩, ⟨hw.off.mono fun b hb => mem_refAll.2 (.inr (.inr hb)), fun b hb => ?_⟩⟩
 ·rcases mem_refAll.1 hb with rfl | hb | hb
  ·exact h.lo _ (mem_refAll.2 (.inl rfl))
  ·exact h.lo _ (mem_refAll.2 (.inr (.inl hb)))
  ·exact (hw.blks b hb).elim (fun e => h.lo b (mem_refAll.2 (.inr (.inr e)))) fun e => Nat.le_trans h.hB e
 ·rcases hw.blks b hb with e | e
  ·exact h.d b e
  ·exact ⟨by omega, fun e2 => by have := hvl b e2; omega⟩
 ·rcases mem_refAll.1 hb with rfl | hb | hb
  ·exact .inl (mem_refAll.2 (.inl rfl))
  ·exact .inl (mem_refAll.2 (.inr (.inl hb)))
  ·exact (hw.blks b hb).imp (fun e => mem_refAll.2 (.inr (.inr e))) id
theorem RM.ran {W W' : World} {B rb C : Nat} {pv vr vr' : Value} {L : List Pg} {U U' : List Int} {p p' : Pl} (h : RM W B rb C pv vr L U p) (hp : RPoolAt W' C vr' ldrT U') (hi : RefInv p' U') (hk : Kept' C vr vr' W W') (hok : PlOk p') (hs : p'.from' = 1073741824 ∧ p'.count = 32) (ho : p'.out ≤ 1000) : RM W' B rb C pv vr' L U' p' ∧ RTurn B (refAll rb pv L C vr) (refAll rb pv L C vr') W W' := by
 have hvl : ∀ k, vr.ownBlock = some k → B ≤ k := fun k hk => h.lo k (mem_refAll.2 (.inr (.inl hk)))
 have hfr : ∀ k, vr'.ownBlock = some k → vr.ownBlock = some k ∨ W.heap.size ≤ k := hk.fresh
 refine ⟨⟨h.mem.same fun b hb => hk.kept.block b (h.mem.lt b hb) (h.d b hb).1 (h.d b hb).2, hp, hi, hok, hs, fun b hb => ?_, fun b hb => ⟨(h.d b hb).1, fun e => ?_⟩, ho⟩, ⟨⟨⟨hk.kept.os, hk.kept.tape, hk.kept.output, hk.kept.size, fun k hkB => ?_⟩, fun k h1 h2 => hk.kept.block k h1 (fun e => h2 (mem_refAll.2 (.inl e))) (fun e => h2 (mem_refAll.2 (.inr (.inl e))))⟩, fun b hb => ?_⟩⟩
 ·rcases mem_refAll.1 hb with rfl | hb | hb
  ·exact h.lo _ (mem_refAll.2 (.inl rfl))
  ·exact (hfr b hb).elim (hvl b) fun e => Nat.le_trans h.hB e
  ·exact h.lo _ (mem_refAll.2 (.inr (.inr hb)))
 ·rcases hfr b e with e | e
  ·exact (h.d b hb).2 e
  ·have := h.mem.lt b hb; omega
 ·have hBW := h.hB
  by_cases hk2 : k < W.heap.size
  ·refine hk.kept.block k hk2 (fun e => ?_) (fun e => ?_)
   ·have := h.lo C (mem_refAll.2 (.inl rfl)); omega
   ·have := hvl k e; omega
  ·omega
 ·rcases mem_refAll.1 hb with rfl | hb | hb
  ·exact .inl (mem_refAll.2 (.inl rfl))
  ·exact (hfr b hb).imp (fun e => mem_refAll.2 (.inr (.inl e))) id
  ·exact .inl (mem_refAll.2 (.inr (.inr hb)))
set_option maxHeartbeats 2000000 in
theorem refFrame_any {W : World} {B rb C : Nat} {pv vr : Value} {L : List Pg} {U : List Int} {p p' : Pl} {at' : Int} (h : RM W B rb C pv vr L U p) (n al : Int) (hr : runV p n al = (p', at', 0)) (hal : W64 al) (hn : n = 1 ∨ n = 2) (hw : withinB at' (4096 * n) 1073741824 1048576 = true) (ha : W64 at') (hap : at' % 4096 = 0) (hok : PlOk p') (hs : p'.from' = 1073741824 ∧ p'.count = 32) (ho : p'.out ≤ 1000) :
  Calls Tryz.prog 49 #[.pointer (some ⟨rb, 0, none⟩), .pointer (some ⟨C, 0, none⟩), .int .i64 n, .int .u64 al] W fun e w' => ∃ vr' U', e = .returned (.tuple #[.int .u64 at', .int .i64 0]) ∧ RM w' B rb C pv vr' (L.map (zall at' (4096 * n))) U' p' ∧ RTurn B (refAll rb pv L C vr) (refAll rb pv (L.map (zall at' (4096 * n))) C vr') W w' := by
 have hout := h.inv.out
 have hpo := h.out
 have hrun := refRun_any C vr ldrT U p n al W h.ok (by rw [ldrT_new.1, ldrT_new.2]; exact h.sm) h.inv h.pool hal (by omega) (by omega)
 rw [hr] at hrun
 simp only at hrun
 have hwn : IntKind.u64.wrap n = n := by rcases hn with rfl | rfl <;> rfl
 have hwm : IntKind.u64.wrap (4096 * n) = 4096 * n := by rcases hn with rfl | rfl <;> rfl
 have hnz : ∀ W1 vr' U', RM W1 B rb C pv vr' L U' p' → Calls Tryz.prog 84 #[.pointer (some ⟨rb, 0, none⟩), .agg #[.int .u64 at', .int .u64 (4096 * n)]] W1 fun e w' => e = .returned (.int .i64 0) ∧ WroteR W1 w' rb pv pv 1073741824 1048576 L (L.map (zall at' (4096 * n))) B ((L.map (zall at' (4096 * n))).map Pg.ab) := fun W1 vr' U' h1 =>
  refZero_any rb pv 1073741824 1048576 at' (4096 * n) L B W1 h1.mem (fun k hk => h1.lo k (mem_refAll.2 (.inr (.inr hk)))) h1.hB ha (by unfold W64; rcases hn with rfl | rfl <;> omega) hw ⟨hap, by omega⟩
 go_enter Tryz.func49, Tryz.ntmps49
 go_wp2_with fail
 refine hrun.mono ?_; rintro e w2 ⟨vr', U', rfl, hp2, hi2, hk2⟩
 obtain ⟨hM2, hT2⟩ := h.ran hp2 hi2 hk2 hok hs ho
 have hz2 := hnz w2 vr' U' hM2
 clear hrun hnz
 go_wp2_with fail
 refine hz2.mono ?_; rintro e w3 ⟨rfl, hw3⟩
 obtain ⟨hM3, hT3⟩ := hM2.wrote hw3
 clear hz2
 go_wp2_with fail
 go_ret2
 exact ⟨vr', U', rfl, hM3, hT2.trans hT3⟩
theorem zall_n (a n : Int) (p : Pg) : (zall a n p).n = p.n := by unfold zall; split <;> rfl
theorem rep_getD (k i : Nat) : (List.replicate k (0 : Int)).getD i 0 = 0 := by
 rw [List.getD_eq_getElem?_getD, List.getElem?_replicate]
 split <;> rfl
theorem zall_bt (a n : Int) (ha : a % 4096 = 0) (hn : n % 4096 = 0) (L : List Pg) (b : Int) : bt ((L.map (zall a n)).map Pg.ab) b = if a ≤ b ∧ b < a + n then 0 else bt (L.map Pg.ab) b := by
 unfold bt pgFind
 rw [List.find?_map, List.find?_map, List.find?_map]
 have e1 : ((fun p => decide (p.1 = b / 4096)) ∘ Pg.ab) ∘ zall a n = (fun p => decide (p.1 = b / 4096)) ∘ Pg.ab := by
  funext p
  show decide ((zall a n p).n = b / 4096) = decide (p.n = b / 4096)
  rw [zall_n]
 rw [e1]
 cases hf : L.find? ((fun p => decide (p.1 = b / 4096)) ∘ Pg.ab) with
 | none => simp
 | some p =>
  have hp0 := List.find?_some hf
  have hp : p.n = b / 4096 := of_decide_eq_true hp0
  simp only [Option.map_some]
  by_cases hc : a ≤ p.n * 4096 ∧ p.n * 4096 < a + n
  ·have hi : inPages a n p.ab = true := by unfold inPages Pg.ab; simp only [Bool.and_eq_true, decide_eq_true_eq]; exact hc
   have hz : zall a n p = { p with bs := zpg } := by unfold zall; rw [if_pos hi]
   rw [hz, if_pos (by omega)]
   exact rep_getD 4096 _
  ·have hi : ¬ inPages a n p.ab = true := by unfold inPages Pg.ab; simp only [Bool.and_eq_true, decide_eq_true_eq]; exact hc
   have hz : zall a n p = p := by unfold zall; rw [if_neg hi]
   rw [hz, if_neg (by omega)]
theorem zall_word (a n : Int) (ha : a % 4096 = 0) (hn : n % 4096 = 0) (L : List Pg) (b : Int) (h1 : a ≤ b) (h2 : b + 8 ≤ a + n) : wordAt ((L.map (zall a n)).map Pg.ab) b = 0 := by
 rw [← wordAt_nil b]
 refine wordAt_congr fun i hi => ?_
 rw [zall_bt a n ha hn, if_pos (by omega), bt_nil]
end Go.Proofs.YtgihknfoncljbaaGreatDoor
/- A new memory with junk, of both. -/
namespace Go.Proofs.YtgihknfoncljbaaGreatDoor
open Go Go.RowKit Go.Shelf Go.BigFrame Go.Maps
theorem GivB.row {w w0 : World} {v : Value} {l : List Int} (h : GivB w0 v l) (hb : Below w0.heap.size w0 w) {Bs : List Nat} (hB : ∀ b ∈ Bs, w0.heap.size ≤ b) :
  ∃ x b off cap, v = .slice x l.length cap ∧ l.length ≤ cap + l.length ∧ (l ≠ [] → x = some ⟨b, off, none⟩ ∧ b < w.heap.size ∧ b ∉ Bs ∧ ∀ i (h : i < l.length), w.cell? ⟨b, off + i, none⟩ = some (.int .u8 l[i])) := by
 rcases h with ⟨rfl, rfl⟩ | ⟨a, cap, rfl, h4⟩
 ·exact ⟨none, 0, 0, 0, rfl, by simp, fun h => absurd rfl h⟩
 ·by_cases hne : l = []
  ·exact ⟨_, 0, 0, cap, rfl, by omega, fun h => absurd hne h⟩
  obtain ⟨b, off, rfl, h2, h3⟩ := h4 hne
  exact ⟨_, b, off, cap, rfl, by omega, fun _ => ⟨rfl, Nat.lt_of_lt_of_le h2 hb.size, fun hm => by have := hB b hm; omega, fun i hi => (hb.cell (p := ⟨b, _, none⟩) h2).trans (h3 i hi)⟩⟩
set_option maxRecDepth 20000 in
set_option maxHeartbeats 2000000 in
theorem newMemJ_any (x : Two) (jb cap : Nat) (v : Value) (l : List Int) (w : World) (h1 : pageBad x = false) (h2 : lastV x.a x.b < 1099511627776) (hj : jb < w.heap.size)
  (c0 : w.cell? ⟨jb, 0, none⟩ = some (.int .u64 1074266112)) (c1 : w.cell? ⟨jb, 1, none⟩ = some v) (hv : GivB w v l) (hcp : ∀ y c, v = .slice y l.length c → l.length ≤ c) (hl : ∀ c ∈ l, 0 ≤ c ∧ c < 256) (hlen : l.length ≤ 300) (hq : askV x.a x.b 1074266112 l.length = 0) :
  Calls Tryz.prog 16 #[.agg #[.int .u64 x.a, .int .u64 x.b], .slice (some ⟨jb, 0, none⟩) 1 cap] w fun e w' =>
   ∃ mb pb L', e = .returned (.tuple #[.pointer (some ⟨mb, 0, none⟩), .int .i64 0]) ∧ MemP w' mb pb x.a x.b L' ∧ L'.map Pg.ab = writeV [] 1074266112 l ∧ Below w.heap.size w w' ∧ ∀ b ∈ memBlks mb pb L', w.heap.size ≤ b := by
 have hp := fun (W : World) => pages_any (.slice (some ⟨W.heap.size, 0, none⟩) 1 1) [x] (W.alloc (.cells #[.int .u64 x.a, .int .u64 x.b] 54)) (rowOne W x) (by simp)
 have hlv := fun W => last_any x.a x.b W x.ha x.hb
 have e1 : ([x] : List Two).any pageBad = false := by simp [h1]
 rw [e1] at hp
 have hw : ∀ (W : World) mb pb, MemP W mb pb x.a x.b [] → Below w.heap.size w W → w.heap.size ≤ mb → w.heap.size ≤ pb → Calls Tryz.prog 38 #[.pointer (some ⟨mb, 0, none⟩), .int .u64 1074266112, v] W fun e W' => e = .returned (.int .i64 0) ∧ ∃ L', Wrote W W' mb pb x.a x.b [] L' w.heap.size (writeV [] 1074266112 l) := by
  intro W mb pb hm hb hmb hpb
  have hB : ∀ k ∈ memBlks mb pb [], w.heap.size ≤ k := by intro k hk; simp [memBlks] at hk; omega
  obtain ⟨y, b, off, cp, rfl, -, hx⟩ := hv.row hb hB
  have h := write_any mb pb x.a x.b 1074266112 [] w.heap.size b off cp y l W hm (by unfold W64; omega) hB hx hl (by omega) (hcp _ _ rfl)
  rw [hq] at h
  exact h
 obtain ⟨y, cp, rfl⟩ := hv.open
 clear hcp hv hq e1 h1 hl hlen
 generalize hN : l.length = N at *
 obtain ⟨lv, hlv'⟩ : ∃ lv, lastV x.a x.b = lv := ⟨_, rfl⟩
 rw [hlv'] at hlv h2
 clear hlv'
 have hmm := @run_makeMap Tryz.prog
 obtain ⟨m0, m1⟩ := two_new w (.int .u64 x.a) (.int .u64 x.b) 54
 have hb0 := bone w (.cells #[.int .u64 x.a, .int .u64 x.b] 54)
 have hz0 : w.heap.size < (w.alloc (.cells #[.int .u64 x.a, .int .u64 x.b] 54)).heap.size := by simp
 replace hw := Lib.hid hw
 go_enter Tryz.func16, Tryz.ntmps16
 have hzz : (w.alloc (.cells #[.int .u64 x.a, .int .u64 x.b] 54)).heap.size = w.heap.size + 1 := by simp
 go_wp2_with fail
 generalize w.alloc (.cells #[.int .u64 x.a, .int .u64 x.b] 54) = w0 at *
 have hp0 := hp w0
 simp only [hzz] at hp0
 refine hp0.mono ?_; rintro e w1 ⟨rfl, hb1⟩
 clear hp0
 rw [World.size_alloc, hzz] at hb1
 replace hb1 : Below w0.heap.size w0 w1 := (bone _ _).trans (hb1.mono (by omega))
 clear hzz
 replace m0 := cell_lt hb1 m0 hz0
 replace m1 := cell_lt hb1 m1 hz0
 replace hz0 := Nat.lt_of_lt_of_le hz0 hb1.size
 replace hb1 := bthen hb0 hb1
 clear hb0 hp
 go_wp2_with fail
 refine (hlv w1).mono ?_; rintro e w2 ⟨rfl, hb2⟩
 replace m0 := cell_lt hb2 m0 hz0
 replace m1 := cell_lt hb2 m1 hz0
 replace hz0 := Nat.lt_of_lt_of_le hz0 hb2.size
 replace hb1 := bthen hb1 hb2
 clear hb2 hlv
 replace c0 := cell_lt hb1 c0 hj
 replace c1 := cell_lt hb1 c1 hj
 replace hj := Nat.lt_of_lt_of_le hj hb1.size
 go_wp2_with fail
 have hlo : ∀ (o1 o2 : Obj), ((w2.alloc o1).alloc o2).heap[w2.heap.size]? = some o1 := fun o1 o2 => ((bone _ _).block _ (by simp)).trans (World.alloc_heap_new w2 o1)
 have hhi : ∀ (o1 o2 : Obj), ((w2.alloc o1).alloc o2).heap[w2.heap.size + 1]? = some o2 := fun o1 o2 => by
  have := World.alloc_heap_new (w2.alloc o1) o2
  rwa [World.size_alloc] at this
 have hm3 : MemP ((w2.alloc (.map #[] 0)).alloc (.cells #[.int .u64 x.a, .int .u64 x.b, .map (some w2.heap.size)] 111)) (w2.heap.size + 1) w2.heap.size x.a x.b [] := ⟨hhi _ _, ⟨#[], 0, hlo _ _, rfl, Go.MapKept.stamped_empty 0⟩, by simp, by simp, PgOk.nil, x.ha, x.hb⟩
 have hb3 : Below w.heap.size w ((w2.alloc (.map #[] 0)).alloc (.cells #[.int .u64 x.a, .int .u64 x.b, .map (some w2.heap.size)] 111)) := (hb1.alloc (by omega) _).alloc (by simp; omega) _
 have hb4 : Below w2.heap.size w2 ((w2.alloc (.map #[] 0)).alloc (.cells #[.int .u64 x.a, .int .u64 x.b, .map (some w2.heap.size)] 111)) := (bone _ _).trans ((bone _ _).mono (by simp))
 have c30 := cell_lt hb4 c0 hj
 have c31 := cell_lt hb4 c1 hj
 generalize hW3 : (w2.alloc (.map #[] 0)).alloc (.cells #[.int .u64 x.a, .int .u64 x.b, .map (some w2.heap.size)] 111) = W3 at *
 have hw3 := fun (o : Obj) => hw.out (W3.alloc o) _ _ (hm3.below (bone _ _) (Nat.le_refl _)) (hb3.trans ((bone _ _).mono hb3.size)) (by omega) (by omega)
 have hb5 := fun (o : Obj) => hb3.trans ((bone W3 o).mono hb3.size)
 have hs3 : w2.heap.size + 2 = W3.heap.size := by rw [← hW3]; simp
 clear hlo hhi hW3 c0 c1 hb4 m0 m1 hz0 h2 hmm
 replace hs3 := Lib.hid hs3
 replace hw := Lib.hid hw3
 clear hw3
 refine wp_loop_rounds 2 ?_
 rw [rounds_succ]
 go_wp2_with fail
 refine (hw.out _).mono ?_; rintro e w4 ⟨rfl, L', hw4⟩
 go_wp2_with fail
 rw [rounds_succ]
 go_wp2_with fail
 go_ret2
 have hm5 : ∀ k ∈ memBlks (w2.heap.size + 1) w2.heap.size L', w.heap.size ≤ k := by
  intro k hk
  have h0 := hb5 (.cells #[Value.int IntKind.u64 1074266112, Value.slice y N cp] 56)
  rcases hw4.blks k hk with h | h
  ·have := hb1.size
   simp [memBlks] at h; omega
  ·exact Nat.le_trans h0.size h
 exact ⟨_, _, L', rfl, hw4.mem, hw4.ab, (hb5 _).trans hw4.off.below, hm5⟩
set_option maxRecDepth 20000 in
set_option maxHeartbeats 2000000 in
theorem refNewMemJ_any (x : Two) (jb cap : Nat) (v : Value) (l : List Int) (w : World) (h1 : pageBad x = false) (h2 : lastV x.a x.b < 1099511627776) (hj : jb < w.heap.size)
  (c0 : w.cell? ⟨jb, 0, none⟩ = some (.int .u64 1074266112)) (c1 : w.cell? ⟨jb, 1, none⟩ = some v) (hv : GivB w v l) (hcp : ∀ y c, v = .slice y l.length c → l.length ≤ c) (hl : ∀ c ∈ l, 0 ≤ c ∧ c < 256) (hlen : l.length ≤ 300) (hq : askV x.a x.b 1074266112 l.length = 0) :
  Calls Tryz.prog 17 #[.agg #[.int .u64 x.a, .int .u64 x.b], .slice (some ⟨jb, 0, none⟩) 1 cap] w fun e w' =>
   ∃ rb pv L', e = .returned (.tuple #[.pointer (some ⟨rb, 0, none⟩), .int .i64 0]) ∧ MemR w' rb pv x.a x.b L' ∧ L'.map Pg.ab = writeV [] 1074266112 l ∧ Below w.heap.size w w' ∧ ∀ b ∈ refBlks rb pv L', w.heap.size ≤ b := by
 have hp := fun (W : World) => refPages_any x W
 have hlv := fun W => refLast_any x.a x.b W x.ha x.hb
 rw [h1] at hp
 have hw : ∀ (W : World) rb, MemR W rb (.slice none 0 0) x.a x.b [] → Below w.heap.size w W → w.heap.size ≤ rb → Calls Tryz.prog 41 #[.pointer (some ⟨rb, 0, none⟩), .int .u64 1074266112, v] W fun e W' => e = .returned (.int .i64 0) ∧ ∃ pv' L', WroteR W W' rb (.slice none 0 0) pv' x.a x.b [] L' w.heap.size (writeV [] 1074266112 l) := by
  intro W rb hm hb hrb
  have hB : ∀ k ∈ refBlks rb (.slice none 0 0) [], w.heap.size ≤ k := by intro k hk; rcases mem_refBlks.1 hk with h | h | h <;> first | omega | exact (nomatch h) | simp at h
  obtain ⟨y, b, off, cp, rfl, -, hx⟩ := hv.row hb hB
  have h := refWrite_any rb (.slice none 0 0) x.a x.b 1074266112 [] w.heap.size b off cp y l W hm (by unfold W64; omega) hB hx hl (by simp; omega) (hcp _ _ rfl)
  rw [hq] at h
  exact h
 obtain ⟨y, cp, rfl⟩ := hv.open
 clear hcp hv hq h1 hl hlen
 generalize hN : l.length = N at *
 obtain ⟨lv, hlv'⟩ : ∃ lv, lastV x.a x.b = lv := ⟨_, rfl⟩
 rw [hlv'] at hlv h2
 clear hlv'
 obtain ⟨m0, m1⟩ := two_new w (.int .u64 x.a) (.int .u64 x.b) 54
 have hb0 := bone w (.cells #[.int .u64 x.a, .int .u64 x.b] 54)
 have hz0 : w.heap.size < (w.alloc (.cells #[.int .u64 x.a, .int .u64 x.b] 54)).heap.size := by simp
 replace hw := Lib.hid hw
 go_enter Tryz.func17, Tryz.ntmps17
 go_wp2_with fail
 generalize w.alloc (.cells #[.int .u64 x.a, .int .u64 x.b] 54) = w0 at *
 refine (hp w0).mono ?_; rintro e w1 ⟨rfl, hb1⟩
 replace m0 := cell_lt hb1 m0 hz0
 replace m1 := cell_lt hb1 m1 hz0
 replace hz0 := Nat.lt_of_lt_of_le hz0 hb1.size
 replace hb1 := bthen hb0 hb1
 clear hb0 hp
 go_wp2_with fail
 refine (hlv w1).mono ?_; rintro e w2 ⟨rfl, hb2⟩
 replace m0 := cell_lt hb2 m0 hz0
 replace m1 := cell_lt hb2 m1 hz0
 replace hz0 := Nat.lt_of_lt_of_le hz0 hb2.size
 replace hb1 := bthen hb1 hb2
 clear hb2 hlv
 replace c0 := cell_lt hb1 c0 hj
 replace c1 := cell_lt hb1 c1 hj
 replace hj := Nat.lt_of_lt_of_le hj hb1.size
 go_wp2_with fail
 have hm3 : MemR (w2.alloc (.cells #[.int .u64 x.a, .int .u64 x.b, .slice none 0 0] 116)) w2.heap.size (.slice none 0 0) x.a x.b [] := ⟨World.alloc_heap_new w2 _, World.ownsRow_nil _ _ _ _, by simp, by simp, PgOk.nil, x.ha, x.hb⟩
 have hb3 : Below w.heap.size w (w2.alloc (.cells #[.int .u64 x.a, .int .u64 x.b, .slice none 0 0] 116)) := hb1.alloc (by omega) _
 have hb4 : Below w2.heap.size w2 (w2.alloc (.cells #[.int .u64 x.a, .int .u64 x.b, .slice none 0 0] 116)) := bone _ _
 have c30 := cell_lt hb4 c0 hj
 have c31 := cell_lt hb4 c1 hj
 generalize hW3 : (w2.alloc (.cells #[.int .u64 x.a, .int .u64 x.b, .slice none 0 0] 116)) = W3 at *
 have hw3 := fun (o : Obj) => hw.out (W3.alloc o) _ (hm3.below (bone _ _) (Nat.le_refl _)) (hb3.trans ((bone _ _).mono hb3.size)) (by omega)
 have hb5 := fun (o : Obj) => hb3.trans ((bone W3 o).mono hb3.size)
 have hs3 : w2.heap.size + 1 = W3.heap.size := by rw [← hW3]; simp
 clear hW3 c0 c1 hb4 m0 m1 hz0 h2
 replace hs3 := Lib.hid hs3
 replace hw := Lib.hid hw3
 clear hw3
 refine wp_loop_rounds 2 ?_
 rw [rounds_succ]
 go_wp2_with fail
 refine (hw.out _).mono ?_; rintro e w4 ⟨rfl, pv', L', hw4⟩
 go_wp2_with fail
 rw [rounds_succ]
 go_wp2_with fail
 go_ret2
 have hm5 : ∀ k ∈ refBlks w2.heap.size pv' L', w.heap.size ≤ k := by
  intro k hk
  have h0 := hb5 (.cells #[Value.int IntKind.u64 1074266112, Value.slice y N cp] 56)
  rcases hw4.blks k hk with h | h
  ·have := hb1.size
   rcases mem_refBlks.1 h with h | h | h <;> first | omega | exact (nomatch h) | simp at h
  ·exact Nat.le_trans h0.size h
 exact ⟨_, _, L', rfl, hw4.mem, hw4.ab, (hb5 _).trans hw4.off.below, hm5⟩
end Go.Proofs.YtgihknfoncljbaaGreatDoor
/- The reference lays the shared page: the tables on its way. -/
namespace Go.Proofs.YtgihknfoncljbaaGreatDoor
open Go Go.RowKit Go.BigFrame Go.Maps
theorem plN_ok (k : Nat) : PlOk (plN k) := ⟨by show (0:Int) ≤ 1073741824; decide, by show (1073741824:Int) ≤ 18446744073709551615; decide, by show (0:Int) ≤ 32; decide, by show (1073741824:Int) + 32 * 4096 ≤ 18446744073709551616; decide, by show (32:Int) * 4096 ≤ 18446744073709551615; decide, by show (1073741824:Int) % 4096 = 0; decide⟩
theorem plN_sm (k : Nat) : (plN k).from' = 1073741824 ∧ (plN k).count = 32 := ⟨rfl, rfl⟩
theorem plN_out (k : Nat) (h : k ≤ 1000) : (plN k).out ≤ 1000 := by show (k : Int) ≤ 1000; omega
theorem word_zero {L : List Pg} {a : Int} (hb : wordBad 1073741824 1048576 a = false) (h : wordAt (L.map Pg.ab) a = 0) : wordV 1073741824 1048576 (L.map Pg.ab) a = (0, 0) := by
 unfold wordV
 rw [if_neg (by rw [hb]; decide), h]
theorem RM.putM {W : World} {B rb C : Nat} {pv vr : Value} {L : List Pg} {U : List Int} {p : Pl} (h : RM W B rb C pv vr L U p) (a x : Int) (ha : W64 a) (hx : W64 x) (hq : putE 1073741824 1048576 a = 0) (hl : L.length ≤ 900000) :
  Calls Tryz.prog 87 #[.pointer (some ⟨rb, 0, none⟩), .int .u64 a, .int .u64 x] W fun e w' => ∃ pv' L', e = .returned (.int .i64 0) ∧ RM w' B rb C pv' vr L' U p ∧ RTurn B (refAll rb pv L C vr) (refAll rb pv' L' C vr) W w' ∧ L'.length ≤ L.length + 8 ∧ L'.map Pg.ab = wpg (L.map Pg.ab) a x := by
 have hc := refPutM_any rb pv 1073741824 1048576 a x L B W h.mem ha hx (fun k hk => h.lo k (mem_refAll.2 (.inr (.inr hk)))) (by omega)
 rw [hq] at hc
 simp only [if_true] at hc
 refine hc.mono ?_
 rintro e w' ⟨rfl, pv', L', hw⟩
 obtain ⟨h1, h2⟩ := h.wrote hw
 refine ⟨pv', L', rfl, h1, h2, ?_, hw.ab⟩
 have := writeV_len 8 (pg := L.map Pg.ab) (a := a) (l := putB x) (by rw [putB_len]; exact Nat.le_refl _)
 rw [← hw.ab, putB_len] at this
 simpa using this
theorem RM.stay {W W' : World} {B rb C : Nat} {pv vr : Value} {L : List Pg} {U : List Int} {p : Pl} (h : RM W B rb C pv vr L U p) (hs : ∀ b ∈ refAll rb pv L C vr, W'.heap[b]? = W.heap[b]?) : RM W' B rb C pv vr L U p := h.same hs
structure LyIn (w0 W : World) (B rb C : Nat) (pv0 vr0 : Value) (L0 : List Pg) (pv vr : Value) (L : List Pg) (U : List Int) (p : Pl) (sl : Int) (qb : Nat) (q : M5) (n0 j : Nat) : Prop where
 rm : RM W B rb C pv vr L U p
 turn : RTurn B (refAll rb pv0 L0 C vr0) (refAll rb pv L C vr) w0 W
 box : W.heap[qb]? = some (.cells #[.int .u64 q.ipa, .int .u64 q.pa, .int .u64 q.sz, .int .i64 q.perm, .int .i64 q.kind] 126 (0, 0))
 qn : qb ∉ refAll rb pv L C vr
 len : L.length ≤ n0 + 8 * j
 zero : wordAt (L.map Pg.ab) sl = 0
theorem LyIn.later {w0 W W' : World} {B rb C : Nat} {pv0 vr0 : Value} {L0 : List Pg} {pv vr : Value} {L : List Pg} {U : List Int} {p : Pl} {sl : Int} {qb : Nat} {q : M5} {n0 j : Nat} (h : LyIn w0 W B rb C pv0 vr0 L0 pv vr L U p sl qb q n0 j) (hb : Below W.heap.size W W') : LyIn w0 W' B rb C pv0 vr0 L0 pv vr L U p sl qb q n0 j :=
 ⟨h.rm.later hb, h.turn.trans (RTurn.of_below hb h.rm.hB), (hb.block _ (Array.getElem?_eq_some_iff.1 h.box).1).trans h.box, h.qn, h.len, h.zero⟩
theorem LyIn.next {w0 W W' : World} {B rb C : Nat} {pv0 vr0 : Value} {L0 : List Pg} {pv vr : Value} {L : List Pg} {U : List Int} {p : Pl} {sl : Int} {qb : Nat} {q : M5} {n0 j : Nat} (h : LyIn w0 W B rb C pv0 vr0 L0 pv vr L U p sl qb q n0 j) {pv' vr' : Value} {L' : List Pg} {U' : List Int} {p' : Pl} (hr : RM W' B rb C pv' vr' L' U' p') (ht : RTurn B (refAll rb pv L C vr) (refAll rb pv' L' C vr') W W') {sl' : Int} {j' : Nat} (hl : L'.length ≤ n0 + 8 * j') (hz : wordAt (L'.map Pg.ab) sl' = 0) : LyIn w0 W' B rb C pv0 vr0 L0 pv' vr' L' U' p' sl' qb q n0 j' :=
 ⟨hr, h.turn.trans ht, (ht.off.rest _ (Array.getElem?_eq_some_iff.1 h.box).1 h.qn).trans h.box, fun e => (ht.blks qb e).elim h.qn fun e => by have := (Array.getElem?_eq_some_iff.1 h.box).1; omega, hl, hz⟩
theorem LyIn.cells {w0 W : World} {B rb C : Nat} {pv0 vr0 : Value} {L0 : List Pg} {pv vr : Value} {L : List Pg} {U : List Int} {p : Pl} {sl : Int} {qb : Nat} {q : M5} {n0 j : Nat} (h : LyIn w0 W B rb C pv0 vr0 L0 pv vr L U p sl qb q n0 j) : W.cell? ⟨qb, 0, none⟩ = some (.int .u64 q.ipa) ∧ W.cell? ⟨qb, 1, none⟩ = some (.int .u64 q.pa) ∧ W.cell? ⟨qb, 2, none⟩ = some (.int .u64 q.sz) ∧ W.cell? ⟨qb, 3, none⟩ = some (.int .i64 q.perm) ∧ W.cell? ⟨qb, 4, none⟩ = some (.int .i64 q.kind) := by
 have := h.box
 refine ⟨?_, ?_, ?_, ?_, ?_⟩ <;> simp [World.cell?, this]
set_option maxRecDepth 100000 in
set_option maxHeartbeats 4000000 in
theorem refLay0 {w : World} {B rb C : Nat} {pv vr : Value} {L : List Pg} {U : List Int} (h : RM w B rb C pv vr L U (plN 2)) (perm : Int) (hp : perm = 1 ∨ perm = 3) (n0 : Nat) (hl : L.length ≤ n0) (hn0 : n0 ≤ 800000) (hz : wordAt (L.map Pg.ab) 1073741824 = 0) :
  Calls Tryz.prog 51 #[.pointer (some ⟨rb, 0, none⟩), .pointer (some ⟨C, 0, none⟩), .int .u64 1073741824, .agg #[.int .u64 65536, .int .u64 1074266112, .int .u64 4096, .int .i64 perm, .int .i64 0]] w
   fun e w' => ∃ pv' vr' L' U', e = .returned (.int .i64 0) ∧ RM w' B rb C pv' vr' L' U' (plN 4) ∧ RTurn B (refAll rb pv L C vr) (refAll rb pv' L' C vr') w w' ∧ L'.length ≤ n0 + 40 := by
 obtain ⟨q, hq⟩ : ∃ q : M5, q = mapN 0 perm (.inl rfl) := ⟨_, rfl⟩
 obtain ⟨W1, hW1⟩ : ∃ W1, W1 = w.alloc (.cells #[.int .u64 65536, .int .u64 1074266112, .int .u64 4096, .int .i64 perm, .int .i64 0] 126) := ⟨_, rfl⟩
 have hb1 : Below w.heap.size w W1 := by rw [hW1]; exact bone _ _
 have hst : LyIn w W1 B rb C pv vr L pv vr L U (plN 2) 1073741824 w.heap.size q n0 1 := by
  refine ⟨h.later hb1, RTurn.of_below hb1 h.hB, ?_, fun e => by have := h.lt _ e; omega, by omega, hz⟩
  rw [hW1, hq]
  exact World.alloc_heap_new _ _
 have c0 : W1.cell? ⟨w.heap.size, 0, none⟩ = some (.int .u64 65536) := by have := hst.cells.1; rw [hq] at this; exact this
 have hrt := fun (W : World) (L' : List Pg) (a : Int) (hm : MemR W rb pv 1073741824 1048576 L') => refWord_any rb pv 1073741824 1048576 a L' W hm
 have hs1 : ∀ W, Calls Tryz.prog 81 #[.int .i64 1] W fun e w' => e = .returned (.int .u64 1073741824) ∧ Below W.heap.size W w' := fun W => refSize_b 1 W (by omega)
 have hs2 : ∀ W, Calls Tryz.prog 81 #[.int .i64 2] W fun e w' => e = .returned (.int .u64 2097152) ∧ Below W.heap.size W w' := fun W => refSize_b 2 W (by omega)
 have hs3 : ∀ W, Calls Tryz.prog 81 #[.int .i64 3] W fun e w' => e = .returned (.int .u64 4096) ∧ Below W.heap.size W w' := fun W => refSize_b 3 W (by omega)
 rw [hW1] at c0
 replace hq := Lib.hid hq
 go_enter Tryz.func51, Tryz.ntmps51
 go_wp2_with fail
 rw [← hW1]
 clear hW1 c0 hb1 hrt
 go_loopw [9, 10] (fun u9 u10 wr => (u10 = .int .i64 1 ∧ u9 = .int .u64 1073741824 ∧ ∃ pv' vr' L' U', LyIn w wr B rb C pv vr L pv' vr' L' U' (plN 2) 1073741824 w.heap.size q n0 1) ∨ (u10 = .int .i64 2 ∧ u9 = .int .u64 1073750016 ∧ ∃ pv' vr' L' U', LyIn w wr B rb C pv vr L pv' vr' L' U' (plN 3) 1073750016 w.heap.size q n0 2) ∨ (u10 = .int .i64 3 ∧ u9 = .int .u64 1073754240 ∧ ∃ pv' vr' L' U', LyIn w wr B rb C pv vr L pv' vr' L' U' (plN 4) 1073754240 w.heap.size q n0 3)) (fun _ u _ => 4 - (intOf u).toNat)
 case atStart => exact .inl ⟨rfl, rfl, pv, vr, L, U, hst⟩
 case round =>
  clear hst
  rcases hrel with ⟨rfl, rfl, pv1, vr1, L1, U1, hI⟩ | ⟨rfl, rfl, pv1, vr1, L1, U1, hI⟩ | ⟨rfl, rfl, pv1, vr1, L1, U1, hI⟩
  ·obtain ⟨d0, d1, d2, d3, d4⟩ := hI.cells
   rw [hq.out] at d0 d1 d2 d3 d4
   change wr.cell? _ = some (.int .u64 65536) at d0
   change wr.cell? _ = some (.int .u64 4096) at d2
   clear d1 d3 d4
   have hbz := (Array.getElem?_eq_some_iff.1 hI.box).1
   obtain ⟨wo, rfl⟩ : ∃ wo, wo = wr := ⟨_, rfl⟩
   go_wp2_with fail
   refine region_later wo.heap.size wo (Below.refl _ _) (by kernel_rfl) (by kernel_rfl) ?_
   have y0 := later_cell (B := wo.heap.size) d2 hbz
   repeat (quiet_step ((go_at_call 81; exact quiet_later (Nat.le_refl _) (hs1 _))))
   refine wpQuiet_nil ?_
   first | (rintro _ ⟨X, rfl⟩) | (intro X)
   have hX := X.h
   clear y0
   generalize X.x = w2 at *
   clear X
   have hI2 := hI.later hX
   have hwd := refWord_any rb pv1 1073741824 1048576 1073741824 L1 w2 hI2.rm.mem (by unfold W64; omega)
   rw [word_zero (by kernel_rfl) hI2.zero] at hwd
   simp only at hwd
   go_wp2_with fail
   refine hwd.mono ?_; rintro e w3 ⟨rfl, hb3⟩
   clear hwd
   have hI3 := hI2.later hb3
   have hof := refOf_any 1 0 w3 (by omega) (by omega)
   rw [show (ofV 1 0).val = .agg #[.int .i64 0, .int .u64 0, .int .i64 0, .int .i64 0, .bool false] from by kernel_rfl] at hof
   go_wp2_with fail
   refine hof.mono ?_; rintro e w4 ⟨rfl, hb4⟩
   clear hof
   have hb4' := bthen hb4 (bone w4 (.cells #[.int .i64 0, .int .u64 0, .int .i64 0, .int .i64 0, .bool false] 184))
   have hI5 := hI3.later hb4'
   have hfr := refFrame_any hI5.rm 1 4096 (runs.2.1) (by unfold W64; omega) (.inl rfl) (by kernel_rfl) (by unfold W64; omega) (by decide) (plN_ok _) (plN_sm _) (plN_out _ (by omega))
   obtain ⟨W5, hW5⟩ : ∃ W5, W5 = w4.alloc (.cells #[.int .i64 0, .int .u64 0, .int .i64 0, .int .i64 0, .bool false] 184) := ⟨_, rfl⟩
   have hd5 : W5.heap[w4.heap.size]? = some (.cells #[.int .i64 0, .int .u64 0, .int .i64 0, .int .i64 0, .bool false] 184 (0, 0)) := by rw [hW5]; exact World.alloc_heap_new _ _
   have hdn : w4.heap.size ∉ refAll rb pv1 L1 C vr1 := fun e => by have := (hI3.later hb4).rm.lt _ e; omega
   rw [← hW5] at hfr hI5
   replace hW5 := Lib.hid hW5
   go_wp2_with fail
   rw [← hW5.out]
   refine hfr.mono ?_; rintro e w6 ⟨vr6, U6, rfl, hM6, hT6⟩
   clear hfr
   have hz5 := (Array.getElem?_eq_some_iff.1 hd5).1
   have hd6 := (hT6.off.rest _ hz5 hdn).trans hd5
   have hdn6 : w4.heap.size ∉ refAll rb pv1 (L1.map (zall 1073750016 (4096 * 1))) C vr6 := fun e => (hT6.blks _ e).elim hdn fun e => by omega
   have k0 : w6.cell? ⟨w4.heap.size, 0, none⟩ = some (.int .i64 0) := by simp [World.cell?, hd6]
   have k1 : w6.cell? ⟨w4.heap.size, 1, none⟩ = some (.int .u64 0) := by simp [World.cell?, hd6]
   have k2 : w6.cell? ⟨w4.heap.size, 2, none⟩ = some (.int .i64 0) := by simp [World.cell?, hd6]
   have k3 : w6.cell? ⟨w4.heap.size, 3, none⟩ = some (.int .i64 0) := by simp [World.cell?, hd6]
   have k4 : w6.cell? ⟨w4.heap.size, 4, none⟩ = some (.bool false) := by simp [World.cell?, hd6]
   have kf : ∀ o, w6.frozen? ⟨w4.heap.size, o, none⟩ = false := fun o => by simp [World.frozen?, hd6]
   have kf0 := kf 0
   have kf1 := kf 1
   have kf2 := kf 2
   have kf3 := kf 3
   have kf4 := kf 4
   clear kf
   obtain ⟨w7, hw7⟩ : ∃ w7, w7 = (((((w6.setCell ⟨w4.heap.size, 0, none⟩ (.int .i64 1)).setCell ⟨w4.heap.size, 1, none⟩ (.int .u64 1073750016)).setCell ⟨w4.heap.size, 2, none⟩ (.int .i64 0)).setCell ⟨w4.heap.size, 3, none⟩ (.int .i64 0)).setCell ⟨w4.heap.size, 4, none⟩ (.bool false)) := ⟨_, rfl⟩
   have ho7 : ∀ b, b ≠ w4.heap.size → w7.heap[b]? = w6.heap[b]? := fun b hb' => by
    have ho : ∀ (i : Nat) (u : Value) (W : World), (W.setCell ⟨w4.heap.size, i, none⟩ u).heap[b]? = W.heap[b]? := fun i u W => Below.heap_setCell _ _ _ _ (by simpa using hb')
    rw [hw7, ho, ho, ho, ho, ho]
   have hd7 : w7.heap[w4.heap.size]? = some (.cells #[.int .i64 1, .int .u64 1073750016, .int .i64 0, .int .i64 0, .bool false] 184 (0, 0)) := by
    rw [hw7]
    exact heapAt_put (heapAt_put (heapAt_put (heapAt_put (heapAt_put hd6 0 (.int .i64 1)) 1 (.int .u64 1073750016)) 2 (.int .i64 0)) 3 (.int .i64 0)) 4 (.bool false)
   have hz67 : w7.heap.size = w6.heap.size := by rw [hw7]; simp
   have hM7 := hM6.stay fun b hb' => ho7 b fun e => hdn6 (e ▸ hb')
   have hI6 := hI5.next hM6 hT6 (sl' := 1073750016) (j' := 1) (by rw [List.length_map]; have := hI5.len; omega) (zall_word _ _ (by decide) (by decide) L1 _ (by omega) (by omega))
   have hbox7 : w7.heap[w.heap.size]? = w6.heap[w.heap.size]? := ho7 _ (by have := (hI3.later hb4).turn.off.below.size; have := (Array.getElem?_eq_some_iff.1 hI.box).1; have := hX.size; have := hb3.size; have := hb4.size; omega)
   have hI7 : LyIn w w7 B rb C pv vr L pv1 vr6 (L1.map (zall 1073750016 (4096 * 1))) U6 (plN 3) 1073750016 w.heap.size q n0 1 := by
    refine ⟨hM7, ⟨⟨?_, fun k h1 h2 => ?_⟩, hI6.turn.blks⟩, hbox7.trans hI6.box, hI6.qn, hI6.len, hI6.zero⟩
    ·rw [hw7]
     have hBw := hI5.rm.hB
     have hBd : B ≤ w4.heap.size := by have := (hI3.later hb4).rm.hB; omega
     exact ((((hI6.turn.off.below.setCell (by simpa using hBd) _).setCell (by simpa using hBd) _).setCell (by simpa using hBd) _).setCell (by simpa using hBd) _).setCell (by simpa using hBd) _
    ·exact (ho7 k (by have := hX.size; have := hb3.size; have := hb4.size; have := hI.turn.off.below.size; omega)).trans (hI6.turn.off.rest k h1 h2)
   have e0 : w7.cell? ⟨w4.heap.size, 0, none⟩ = some (.int .i64 1) := by simp [World.cell?, hd7]
   have e1 : w7.cell? ⟨w4.heap.size, 1, none⟩ = some (.int .u64 1073750016) := by simp [World.cell?, hd7]
   have e2 : w7.cell? ⟨w4.heap.size, 2, none⟩ = some (.int .i64 0) := by simp [World.cell?, hd7]
   have e3 : w7.cell? ⟨w4.heap.size, 3, none⟩ = some (.int .i64 0) := by simp [World.cell?, hd7]
   have e4 : w7.cell? ⟨w4.heap.size, 4, none⟩ = some (.bool false) := by simp [World.cell?, hd7]
   have hpt := refPutTab 1 1073750016 w7 (by omega) (by omega) (by omega) (by decide)
   rw [hw7] at e0 e1 e2 e3 e4
   go_wp2_with fail
   rw [← hw7]
   refine hpt.mono ?_; rintro e w8 ⟨rfl, hb8⟩
   clear hpt e0 e1 e2 e3 e4 hw7
   have hI8 := hI7.later hb8
   have hd8 := (hb8.block _ (Array.getElem?_eq_some_iff.1 hd7).1).trans hd7
   have hpm := hI8.rm.putM 1073741824 1073750019 (by unfold W64; omega) (by unfold W64; omega) (by kernel_rfl) (by have := hI8.len; omega)
   go_wp2_with fail
   refine hpm.mono ?_; rintro e w9 ⟨pv9, L9, rfl, hM9, hT9, hl9, hab9⟩
   clear hpm
   have hI9 := hI8.next hM9 hT9 (sl' := 1073750016) (j' := 2) (by have := hI8.len; omega) (by
    rw [hab9, wordAt_wpg hI8.rm.mem.ok _ (by unfold W64; omega) (by decide) (by decide) (by decide) (by decide), if_neg (by decide)]
    exact hI8.zero)
   have hd9 := (hT9.off.rest _ (Array.getElem?_eq_some_iff.1 hd8).1 hdn6).trans hd8
   have f1 : w9.cell? ⟨w4.heap.size, 1, none⟩ = some (.int .u64 1073750016) := by simp [World.cell?, hd9]
   have f2 := hI9.cells.1
   rw [hq.out] at f2
   change w9.cell? _ = some (.int .u64 65536) at f2
   go_wp2_with fail
   exact ⟨.inr (.inl ⟨rfl, rfl, pv9, vr6, L9, U6, hI9⟩), by decide⟩
  ·obtain ⟨d0, d1, d2, d3, d4⟩ := hI.cells
   rw [hq.out] at d0 d1 d2 d3 d4
   change wr.cell? _ = some (.int .u64 65536) at d0
   change wr.cell? _ = some (.int .u64 4096) at d2
   clear d1 d3 d4
   have hbz := (Array.getElem?_eq_some_iff.1 hI.box).1
   obtain ⟨wo, rfl⟩ : ∃ wo, wo = wr := ⟨_, rfl⟩
   go_wp2_with fail
   refine region_later wo.heap.size wo (Below.refl _ _) (by kernel_rfl) (by kernel_rfl) ?_
   have y0 := later_cell (B := wo.heap.size) d2 hbz
   repeat (quiet_step ((go_at_call 81; exact quiet_later (Nat.le_refl _) (hs2 _))))
   refine wpQuiet_nil ?_
   first | (rintro _ ⟨X, rfl⟩) | (intro X)
   have hX := X.h
   clear y0
   generalize X.x = w2 at *
   clear X
   have hI2 := hI.later hX
   have hwd := refWord_any rb pv1 1073741824 1048576 1073750016 L1 w2 hI2.rm.mem (by unfold W64; omega)
   rw [word_zero (by kernel_rfl) hI2.zero] at hwd
   simp only at hwd
   go_wp2_with fail
   refine hwd.mono ?_; rintro e w3 ⟨rfl, hb3⟩
   clear hwd
   have hI3 := hI2.later hb3
   have hof := refOf_any 2 0 w3 (by omega) (by omega)
   rw [show (ofV 2 0).val = .agg #[.int .i64 0, .int .u64 0, .int .i64 0, .int .i64 0, .bool false] from by kernel_rfl] at hof
   go_wp2_with fail
   refine hof.mono ?_; rintro e w4 ⟨rfl, hb4⟩
   clear hof
   have hb4' := bthen hb4 (bone w4 (.cells #[.int .i64 0, .int .u64 0, .int .i64 0, .int .i64 0, .bool false] 184))
   have hI5 := hI3.later hb4'
   have hfr := refFrame_any hI5.rm 1 4096 (runs.2.2.1) (by unfold W64; omega) (.inl rfl) (by kernel_rfl) (by unfold W64; omega) (by decide) (plN_ok _) (plN_sm _) (plN_out _ (by omega))
   obtain ⟨W5, hW5⟩ : ∃ W5, W5 = w4.alloc (.cells #[.int .i64 0, .int .u64 0, .int .i64 0, .int .i64 0, .bool false] 184) := ⟨_, rfl⟩
   have hd5 : W5.heap[w4.heap.size]? = some (.cells #[.int .i64 0, .int .u64 0, .int .i64 0, .int .i64 0, .bool false] 184 (0, 0)) := by rw [hW5]; exact World.alloc_heap_new _ _
   have hdn : w4.heap.size ∉ refAll rb pv1 L1 C vr1 := fun e => by have := (hI3.later hb4).rm.lt _ e; omega
   rw [← hW5] at hfr hI5
   replace hW5 := Lib.hid hW5
   go_wp2_with fail
   rw [← hW5.out]
   refine hfr.mono ?_; rintro e w6 ⟨vr6, U6, rfl, hM6, hT6⟩
   clear hfr
   have hz5 := (Array.getElem?_eq_some_iff.1 hd5).1
   have hd6 := (hT6.off.rest _ hz5 hdn).trans hd5
   have hdn6 : w4.heap.size ∉ refAll rb pv1 (L1.map (zall 1073754112 (4096 * 1))) C vr6 := fun e => (hT6.blks _ e).elim hdn fun e => by omega
   have k0 : w6.cell? ⟨w4.heap.size, 0, none⟩ = some (.int .i64 0) := by simp [World.cell?, hd6]
   have k1 : w6.cell? ⟨w4.heap.size, 1, none⟩ = some (.int .u64 0) := by simp [World.cell?, hd6]
   have k2 : w6.cell? ⟨w4.heap.size, 2, none⟩ = some (.int .i64 0) := by simp [World.cell?, hd6]
   have k3 : w6.cell? ⟨w4.heap.size, 3, none⟩ = some (.int .i64 0) := by simp [World.cell?, hd6]
   have k4 : w6.cell? ⟨w4.heap.size, 4, none⟩ = some (.bool false) := by simp [World.cell?, hd6]
   have kf : ∀ o, w6.frozen? ⟨w4.heap.size, o, none⟩ = false := fun o => by simp [World.frozen?, hd6]
   have kf0 := kf 0
   have kf1 := kf 1
   have kf2 := kf 2
   have kf3 := kf 3
   have kf4 := kf 4
   clear kf
   obtain ⟨w7, hw7⟩ : ∃ w7, w7 = (((((w6.setCell ⟨w4.heap.size, 0, none⟩ (.int .i64 1)).setCell ⟨w4.heap.size, 1, none⟩ (.int .u64 1073754112)).setCell ⟨w4.heap.size, 2, none⟩ (.int .i64 0)).setCell ⟨w4.heap.size, 3, none⟩ (.int .i64 0)).setCell ⟨w4.heap.size, 4, none⟩ (.bool false)) := ⟨_, rfl⟩
   have ho7 : ∀ b, b ≠ w4.heap.size → w7.heap[b]? = w6.heap[b]? := fun b hb' => by
    have ho : ∀ (i : Nat) (u : Value) (W : World), (W.setCell ⟨w4.heap.size, i, none⟩ u).heap[b]? = W.heap[b]? := fun i u W => Below.heap_setCell _ _ _ _ (by simpa using hb')
    rw [hw7, ho, ho, ho, ho, ho]
   have hd7 : w7.heap[w4.heap.size]? = some (.cells #[.int .i64 1, .int .u64 1073754112, .int .i64 0, .int .i64 0, .bool false] 184 (0, 0)) := by
    rw [hw7]
    exact heapAt_put (heapAt_put (heapAt_put (heapAt_put (heapAt_put hd6 0 (.int .i64 1)) 1 (.int .u64 1073754112)) 2 (.int .i64 0)) 3 (.int .i64 0)) 4 (.bool false)
   have hz67 : w7.heap.size = w6.heap.size := by rw [hw7]; simp
   have hM7 := hM6.stay fun b hb' => ho7 b fun e => hdn6 (e ▸ hb')
   have hI6 := hI5.next hM6 hT6 (sl' := 1073754240) (j' := 2) (by rw [List.length_map]; have := hI5.len; omega) (zall_word _ _ (by decide) (by decide) L1 _ (by omega) (by omega))
   have hbox7 : w7.heap[w.heap.size]? = w6.heap[w.heap.size]? := ho7 _ (by have := (hI3.later hb4).turn.off.below.size; have := (Array.getElem?_eq_some_iff.1 hI.box).1; have := hX.size; have := hb3.size; have := hb4.size; omega)
   have hI7 : LyIn w w7 B rb C pv vr L pv1 vr6 (L1.map (zall 1073754112 (4096 * 1))) U6 (plN 4) 1073754240 w.heap.size q n0 2 := by
    refine ⟨hM7, ⟨⟨?_, fun k h1 h2 => ?_⟩, hI6.turn.blks⟩, hbox7.trans hI6.box, hI6.qn, hI6.len, hI6.zero⟩
    ·rw [hw7]
     have hBw := hI5.rm.hB
     have hBd : B ≤ w4.heap.size := by have := (hI3.later hb4).rm.hB; omega
     exact ((((hI6.turn.off.below.setCell (by simpa using hBd) _).setCell (by simpa using hBd) _).setCell (by simpa using hBd) _).setCell (by simpa using hBd) _).setCell (by simpa using hBd) _
    ·exact (ho7 k (by have := hX.size; have := hb3.size; have := hb4.size; have := hI.turn.off.below.size; omega)).trans (hI6.turn.off.rest k h1 h2)
   have e0 : w7.cell? ⟨w4.heap.size, 0, none⟩ = some (.int .i64 1) := by simp [World.cell?, hd7]
   have e1 : w7.cell? ⟨w4.heap.size, 1, none⟩ = some (.int .u64 1073754112) := by simp [World.cell?, hd7]
   have e2 : w7.cell? ⟨w4.heap.size, 2, none⟩ = some (.int .i64 0) := by simp [World.cell?, hd7]
   have e3 : w7.cell? ⟨w4.heap.size, 3, none⟩ = some (.int .i64 0) := by simp [World.cell?, hd7]
   have e4 : w7.cell? ⟨w4.heap.size, 4, none⟩ = some (.bool false) := by simp [World.cell?, hd7]
   have hpt := refPutTab 2 1073754112 w7 (by omega) (by omega) (by omega) (by decide)
   rw [hw7] at e0 e1 e2 e3 e4
   go_wp2_with fail
   rw [← hw7]
   refine hpt.mono ?_; rintro e w8 ⟨rfl, hb8⟩
   clear hpt e0 e1 e2 e3 e4 hw7
   have hI8 := hI7.later hb8
   have hd8 := (hb8.block _ (Array.getElem?_eq_some_iff.1 hd7).1).trans hd7
   have hpm := hI8.rm.putM 1073750016 1073754115 (by unfold W64; omega) (by unfold W64; omega) (by kernel_rfl) (by have := hI8.len; omega)
   go_wp2_with fail
   refine hpm.mono ?_; rintro e w9 ⟨pv9, L9, rfl, hM9, hT9, hl9, hab9⟩
   clear hpm
   have hI9 := hI8.next hM9 hT9 (sl' := 1073754240) (j' := 3) (by have := hI8.len; omega) (by
    rw [hab9, wordAt_wpg hI8.rm.mem.ok _ (by unfold W64; omega) (by decide) (by decide) (by decide) (by decide), if_neg (by decide)]
    exact hI8.zero)
   have hd9 := (hT9.off.rest _ (Array.getElem?_eq_some_iff.1 hd8).1 hdn6).trans hd8
   have f1 : w9.cell? ⟨w4.heap.size, 1, none⟩ = some (.int .u64 1073754112) := by simp [World.cell?, hd9]
   have f2 := hI9.cells.1
   rw [hq.out] at f2
   change w9.cell? _ = some (.int .u64 65536) at f2
   go_wp2_with fail
   exact ⟨.inr (.inr ⟨rfl, rfl, pv9, vr6, L9, U6, hI9⟩), by decide⟩
  ·obtain ⟨d0, d1, d2, d3, d4⟩ := hI.cells
   rw [hq.out] at d0 d1 d2 d3 d4
   change wr.cell? _ = some (.int .u64 1074266112) at d1
   change wr.cell? _ = some (.int .u64 4096) at d2
   change wr.cell? _ = some (.int .i64 perm) at d3
   change wr.cell? _ = some (.int .i64 0) at d4
   clear d0
   have hbz := (Array.getElem?_eq_some_iff.1 hI.box).1
   obtain ⟨wo, rfl⟩ : ∃ wo, wo = wr := ⟨_, rfl⟩
   go_wp2_with fail
   refine region_later wo.heap.size wo (Below.refl _ _) (by kernel_rfl) (by kernel_rfl) ?_
   have y0 := later_cell (B := wo.heap.size) d2 hbz
   repeat (quiet_step ((go_at_call 81; exact quiet_later (Nat.le_refl _) (hs3 _))))
   refine wpQuiet_nil ?_
   first | (rintro _ ⟨X, rfl⟩) | (intro X)
   have hX := X.h
   clear y0
   generalize X.x = w2 at *
   clear X
   have hI2 := hI.later hX
   have g1 := cell_lt hX d1 hbz
   have g3 := cell_lt hX d3 hbz
   have g4 := cell_lt hX d4 hbz
   have hlf := fun W => refPutLeaf perm W hp
   go_wp2_with fail
   refine (hlf _).mono ?_; rintro e w3 ⟨⟨x, hx, rfl⟩, hb3⟩
   clear hlf
   have hI3 := (hI2.later (bone w2 _)).later hb3
   have hpm := hI3.rm.putM 1073754240 x (by unfold W64; omega) hx (by kernel_rfl) (by have := hI3.len; omega)
   go_wp2_with fail
   refine hpm.mono ?_; rintro e w4 ⟨pv4, L4, rfl, hM4, hT4, hl4, hab4⟩
   clear hpm
   go_wp2_with fail
   go_ret
   exact ⟨pv4, vr1, L4, U1, rfl, hM4, hI3.turn.trans hT4, by have := hI3.len; omega⟩
set_option maxRecDepth 100000 in
set_option maxHeartbeats 4000000 in
theorem refLay1 {w : World} {B rb C : Nat} {pv vr : Value} {L : List Pg} {U : List Int} (h : RM w B rb C pv vr L U (plN 6)) (perm : Int) (hp : perm = 1 ∨ perm = 3) (n0 : Nat) (hl : L.length ≤ n0) (hn0 : n0 ≤ 800000) (hz : wordAt (L.map Pg.ab) 1073758208 = 0) :
  Calls Tryz.prog 51 #[.pointer (some ⟨rb, 0, none⟩), .pointer (some ⟨C, 0, none⟩), .int .u64 1073758208, .agg #[.int .u64 98304, .int .u64 1074266112, .int .u64 4096, .int .i64 perm, .int .i64 0]] w
   fun e w' => ∃ pv' vr' L' U', e = .returned (.int .i64 0) ∧ RM w' B rb C pv' vr' L' U' (plN 8) ∧ RTurn B (refAll rb pv L C vr) (refAll rb pv' L' C vr') w w' ∧ L'.length ≤ n0 + 40 := by
 obtain ⟨q, hq⟩ : ∃ q : M5, q = mapN 1 perm (.inr rfl) := ⟨_, rfl⟩
 obtain ⟨W1, hW1⟩ : ∃ W1, W1 = w.alloc (.cells #[.int .u64 98304, .int .u64 1074266112, .int .u64 4096, .int .i64 perm, .int .i64 0] 126) := ⟨_, rfl⟩
 have hb1 : Below w.heap.size w W1 := by rw [hW1]; exact bone _ _
 have hst : LyIn w W1 B rb C pv vr L pv vr L U (plN 6) 1073758208 w.heap.size q n0 1 := by
  refine ⟨h.later hb1, RTurn.of_below hb1 h.hB, ?_, fun e => by have := h.lt _ e; omega, by omega, hz⟩
  rw [hW1, hq]
  exact World.alloc_heap_new _ _
 have c0 : W1.cell? ⟨w.heap.size, 0, none⟩ = some (.int .u64 98304) := by have := hst.cells.1; rw [hq] at this; exact this
 have hrt := fun (W : World) (L' : List Pg) (a : Int) (hm : MemR W rb pv 1073741824 1048576 L') => refWord_any rb pv 1073741824 1048576 a L' W hm
 have hs1 : ∀ W, Calls Tryz.prog 81 #[.int .i64 1] W fun e w' => e = .returned (.int .u64 1073741824) ∧ Below W.heap.size W w' := fun W => refSize_b 1 W (by omega)
 have hs2 : ∀ W, Calls Tryz.prog 81 #[.int .i64 2] W fun e w' => e = .returned (.int .u64 2097152) ∧ Below W.heap.size W w' := fun W => refSize_b 2 W (by omega)
 have hs3 : ∀ W, Calls Tryz.prog 81 #[.int .i64 3] W fun e w' => e = .returned (.int .u64 4096) ∧ Below W.heap.size W w' := fun W => refSize_b 3 W (by omega)
 rw [hW1] at c0
 replace hq := Lib.hid hq
 go_enter Tryz.func51, Tryz.ntmps51
 go_wp2_with fail
 rw [← hW1]
 clear hW1 c0 hb1 hrt
 go_loopw [9, 10] (fun u9 u10 wr => (u10 = .int .i64 1 ∧ u9 = .int .u64 1073758208 ∧ ∃ pv' vr' L' U', LyIn w wr B rb C pv vr L pv' vr' L' U' (plN 6) 1073758208 w.heap.size q n0 1) ∨ (u10 = .int .i64 2 ∧ u9 = .int .u64 1073766400 ∧ ∃ pv' vr' L' U', LyIn w wr B rb C pv vr L pv' vr' L' U' (plN 7) 1073766400 w.heap.size q n0 2) ∨ (u10 = .int .i64 3 ∧ u9 = .int .u64 1073770688 ∧ ∃ pv' vr' L' U', LyIn w wr B rb C pv vr L pv' vr' L' U' (plN 8) 1073770688 w.heap.size q n0 3)) (fun _ u _ => 4 - (intOf u).toNat)
 case atStart => exact .inl ⟨rfl, rfl, pv, vr, L, U, hst⟩
 case round =>
  clear hst
  rcases hrel with ⟨rfl, rfl, pv1, vr1, L1, U1, hI⟩ | ⟨rfl, rfl, pv1, vr1, L1, U1, hI⟩ | ⟨rfl, rfl, pv1, vr1, L1, U1, hI⟩
  ·obtain ⟨d0, d1, d2, d3, d4⟩ := hI.cells
   rw [hq.out] at d0 d1 d2 d3 d4
   change wr.cell? _ = some (.int .u64 98304) at d0
   change wr.cell? _ = some (.int .u64 4096) at d2
   clear d1 d3 d4
   have hbz := (Array.getElem?_eq_some_iff.1 hI.box).1
   obtain ⟨wo, rfl⟩ : ∃ wo, wo = wr := ⟨_, rfl⟩
   go_wp2_with fail
   refine region_later wo.heap.size wo (Below.refl _ _) (by kernel_rfl) (by kernel_rfl) ?_
   have y0 := later_cell (B := wo.heap.size) d2 hbz
   repeat (quiet_step ((go_at_call 81; exact quiet_later (Nat.le_refl _) (hs1 _))))
   refine wpQuiet_nil ?_
   first | (rintro _ ⟨X, rfl⟩) | (intro X)
   have hX := X.h
   clear y0
   generalize X.x = w2 at *
   clear X
   have hI2 := hI.later hX
   have hwd := refWord_any rb pv1 1073741824 1048576 1073758208 L1 w2 hI2.rm.mem (by unfold W64; omega)
   rw [word_zero (by kernel_rfl) hI2.zero] at hwd
   simp only at hwd
   go_wp2_with fail
   refine hwd.mono ?_; rintro e w3 ⟨rfl, hb3⟩
   clear hwd
   have hI3 := hI2.later hb3
   have hof := refOf_any 1 0 w3 (by omega) (by omega)
   rw [show (ofV 1 0).val = .agg #[.int .i64 0, .int .u64 0, .int .i64 0, .int .i64 0, .bool false] from by kernel_rfl] at hof
   go_wp2_with fail
   refine hof.mono ?_; rintro e w4 ⟨rfl, hb4⟩
   clear hof
   have hb4' := bthen hb4 (bone w4 (.cells #[.int .i64 0, .int .u64 0, .int .i64 0, .int .i64 0, .bool false] 184))
   have hI5 := hI3.later hb4'
   have hfr := refFrame_any hI5.rm 1 4096 (runs.2.2.2.2.1) (by unfold W64; omega) (.inl rfl) (by kernel_rfl) (by unfold W64; omega) (by decide) (plN_ok _) (plN_sm _) (plN_out _ (by omega))
   obtain ⟨W5, hW5⟩ : ∃ W5, W5 = w4.alloc (.cells #[.int .i64 0, .int .u64 0, .int .i64 0, .int .i64 0, .bool false] 184) := ⟨_, rfl⟩
   have hd5 : W5.heap[w4.heap.size]? = some (.cells #[.int .i64 0, .int .u64 0, .int .i64 0, .int .i64 0, .bool false] 184 (0, 0)) := by rw [hW5]; exact World.alloc_heap_new _ _
   have hdn : w4.heap.size ∉ refAll rb pv1 L1 C vr1 := fun e => by have := (hI3.later hb4).rm.lt _ e; omega
   rw [← hW5] at hfr hI5
   replace hW5 := Lib.hid hW5
   go_wp2_with fail
   rw [← hW5.out]
   refine hfr.mono ?_; rintro e w6 ⟨vr6, U6, rfl, hM6, hT6⟩
   clear hfr
   have hz5 := (Array.getElem?_eq_some_iff.1 hd5).1
   have hd6 := (hT6.off.rest _ hz5 hdn).trans hd5
   have hdn6 : w4.heap.size ∉ refAll rb pv1 (L1.map (zall 1073766400 (4096 * 1))) C vr6 := fun e => (hT6.blks _ e).elim hdn fun e => by omega
   have k0 : w6.cell? ⟨w4.heap.size, 0, none⟩ = some (.int .i64 0) := by simp [World.cell?, hd6]
   have k1 : w6.cell? ⟨w4.heap.size, 1, none⟩ = some (.int .u64 0) := by simp [World.cell?, hd6]
   have k2 : w6.cell? ⟨w4.heap.size, 2, none⟩ = some (.int .i64 0) := by simp [World.cell?, hd6]
   have k3 : w6.cell? ⟨w4.heap.size, 3, none⟩ = some (.int .i64 0) := by simp [World.cell?, hd6]
   have k4 : w6.cell? ⟨w4.heap.size, 4, none⟩ = some (.bool false) := by simp [World.cell?, hd6]
   have kf : ∀ o, w6.frozen? ⟨w4.heap.size, o, none⟩ = false := fun o => by simp [World.frozen?, hd6]
   have kf0 := kf 0
   have kf1 := kf 1
   have kf2 := kf 2
   have kf3 := kf 3
   have kf4 := kf 4
   clear kf
   obtain ⟨w7, hw7⟩ : ∃ w7, w7 = (((((w6.setCell ⟨w4.heap.size, 0, none⟩ (.int .i64 1)).setCell ⟨w4.heap.size, 1, none⟩ (.int .u64 1073766400)).setCell ⟨w4.heap.size, 2, none⟩ (.int .i64 0)).setCell ⟨w4.heap.size, 3, none⟩ (.int .i64 0)).setCell ⟨w4.heap.size, 4, none⟩ (.bool false)) := ⟨_, rfl⟩
   have ho7 : ∀ b, b ≠ w4.heap.size → w7.heap[b]? = w6.heap[b]? := fun b hb' => by
    have ho : ∀ (i : Nat) (u : Value) (W : World), (W.setCell ⟨w4.heap.size, i, none⟩ u).heap[b]? = W.heap[b]? := fun i u W => Below.heap_setCell _ _ _ _ (by simpa using hb')
    rw [hw7, ho, ho, ho, ho, ho]
   have hd7 : w7.heap[w4.heap.size]? = some (.cells #[.int .i64 1, .int .u64 1073766400, .int .i64 0, .int .i64 0, .bool false] 184 (0, 0)) := by
    rw [hw7]
    exact heapAt_put (heapAt_put (heapAt_put (heapAt_put (heapAt_put hd6 0 (.int .i64 1)) 1 (.int .u64 1073766400)) 2 (.int .i64 0)) 3 (.int .i64 0)) 4 (.bool false)
   have hz67 : w7.heap.size = w6.heap.size := by rw [hw7]; simp
   have hM7 := hM6.stay fun b hb' => ho7 b fun e => hdn6 (e ▸ hb')
   have hI6 := hI5.next hM6 hT6 (sl' := 1073766400) (j' := 1) (by rw [List.length_map]; have := hI5.len; omega) (zall_word _ _ (by decide) (by decide) L1 _ (by omega) (by omega))
   have hbox7 : w7.heap[w.heap.size]? = w6.heap[w.heap.size]? := ho7 _ (by have := (hI3.later hb4).turn.off.below.size; have := (Array.getElem?_eq_some_iff.1 hI.box).1; have := hX.size; have := hb3.size; have := hb4.size; omega)
   have hI7 : LyIn w w7 B rb C pv vr L pv1 vr6 (L1.map (zall 1073766400 (4096 * 1))) U6 (plN 7) 1073766400 w.heap.size q n0 1 := by
    refine ⟨hM7, ⟨⟨?_, fun k h1 h2 => ?_⟩, hI6.turn.blks⟩, hbox7.trans hI6.box, hI6.qn, hI6.len, hI6.zero⟩
    ·rw [hw7]
     have hBw := hI5.rm.hB
     have hBd : B ≤ w4.heap.size := by have := (hI3.later hb4).rm.hB; omega
     exact ((((hI6.turn.off.below.setCell (by simpa using hBd) _).setCell (by simpa using hBd) _).setCell (by simpa using hBd) _).setCell (by simpa using hBd) _).setCell (by simpa using hBd) _
    ·exact (ho7 k (by have := hX.size; have := hb3.size; have := hb4.size; have := hI.turn.off.below.size; omega)).trans (hI6.turn.off.rest k h1 h2)
   have e0 : w7.cell? ⟨w4.heap.size, 0, none⟩ = some (.int .i64 1) := by simp [World.cell?, hd7]
   have e1 : w7.cell? ⟨w4.heap.size, 1, none⟩ = some (.int .u64 1073766400) := by simp [World.cell?, hd7]
   have e2 : w7.cell? ⟨w4.heap.size, 2, none⟩ = some (.int .i64 0) := by simp [World.cell?, hd7]
   have e3 : w7.cell? ⟨w4.heap.size, 3, none⟩ = some (.int .i64 0) := by simp [World.cell?, hd7]
   have e4 : w7.cell? ⟨w4.heap.size, 4, none⟩ = some (.bool false) := by simp [World.cell?, hd7]
   have hpt := refPutTab 1 1073766400 w7 (by omega) (by omega) (by omega) (by decide)
   rw [hw7] at e0 e1 e2 e3 e4
   go_wp2_with fail
   rw [← hw7]
   refine hpt.mono ?_; rintro e w8 ⟨rfl, hb8⟩
   clear hpt e0 e1 e2 e3 e4 hw7
   have hI8 := hI7.later hb8
   have hd8 := (hb8.block _ (Array.getElem?_eq_some_iff.1 hd7).1).trans hd7
   have hpm := hI8.rm.putM 1073758208 1073766403 (by unfold W64; omega) (by unfold W64; omega) (by kernel_rfl) (by have := hI8.len; omega)
   go_wp2_with fail
   refine hpm.mono ?_; rintro e w9 ⟨pv9, L9, rfl, hM9, hT9, hl9, hab9⟩
   clear hpm
   have hI9 := hI8.next hM9 hT9 (sl' := 1073766400) (j' := 2) (by have := hI8.len; omega) (by
    rw [hab9, wordAt_wpg hI8.rm.mem.ok _ (by unfold W64; omega) (by decide) (by decide) (by decide) (by decide), if_neg (by decide)]
    exact hI8.zero)
   have hd9 := (hT9.off.rest _ (Array.getElem?_eq_some_iff.1 hd8).1 hdn6).trans hd8
   have f1 : w9.cell? ⟨w4.heap.size, 1, none⟩ = some (.int .u64 1073766400) := by simp [World.cell?, hd9]
   have f2 := hI9.cells.1
   rw [hq.out] at f2
   change w9.cell? _ = some (.int .u64 98304) at f2
   go_wp2_with fail
   exact ⟨.inr (.inl ⟨rfl, rfl, pv9, vr6, L9, U6, hI9⟩), by decide⟩
  ·obtain ⟨d0, d1, d2, d3, d4⟩ := hI.cells
   rw [hq.out] at d0 d1 d2 d3 d4
   change wr.cell? _ = some (.int .u64 98304) at d0
   change wr.cell? _ = some (.int .u64 4096) at d2
   clear d1 d3 d4
   have hbz := (Array.getElem?_eq_some_iff.1 hI.box).1
   obtain ⟨wo, rfl⟩ : ∃ wo, wo = wr := ⟨_, rfl⟩
   go_wp2_with fail
   refine region_later wo.heap.size wo (Below.refl _ _) (by kernel_rfl) (by kernel_rfl) ?_
   have y0 := later_cell (B := wo.heap.size) d2 hbz
   repeat (quiet_step ((go_at_call 81; exact quiet_later (Nat.le_refl _) (hs2 _))))
   refine wpQuiet_nil ?_
   first | (rintro _ ⟨X, rfl⟩) | (intro X)
   have hX := X.h
   clear y0
   generalize X.x = w2 at *
   clear X
   have hI2 := hI.later hX
   have hwd := refWord_any rb pv1 1073741824 1048576 1073766400 L1 w2 hI2.rm.mem (by unfold W64; omega)
   rw [word_zero (by kernel_rfl) hI2.zero] at hwd
   simp only at hwd
   go_wp2_with fail
   refine hwd.mono ?_; rintro e w3 ⟨rfl, hb3⟩
   clear hwd
   have hI3 := hI2.later hb3
   have hof := refOf_any 2 0 w3 (by omega) (by omega)
   rw [show (ofV 2 0).val = .agg #[.int .i64 0, .int .u64 0, .int .i64 0, .int .i64 0, .bool false] from by kernel_rfl] at hof
   go_wp2_with fail
   refine hof.mono ?_; rintro e w4 ⟨rfl, hb4⟩
   clear hof
   have hb4' := bthen hb4 (bone w4 (.cells #[.int .i64 0, .int .u64 0, .int .i64 0, .int .i64 0, .bool false] 184))
   have hI5 := hI3.later hb4'
   have hfr := refFrame_any hI5.rm 1 4096 (runs.2.2.2.2.2) (by unfold W64; omega) (.inl rfl) (by kernel_rfl) (by unfold W64; omega) (by decide) (plN_ok _) (plN_sm _) (plN_out _ (by omega))
   obtain ⟨W5, hW5⟩ : ∃ W5, W5 = w4.alloc (.cells #[.int .i64 0, .int .u64 0, .int .i64 0, .int .i64 0, .bool false] 184) := ⟨_, rfl⟩
   have hd5 : W5.heap[w4.heap.size]? = some (.cells #[.int .i64 0, .int .u64 0, .int .i64 0, .int .i64 0, .bool false] 184 (0, 0)) := by rw [hW5]; exact World.alloc_heap_new _ _
   have hdn : w4.heap.size ∉ refAll rb pv1 L1 C vr1 := fun e => by have := (hI3.later hb4).rm.lt _ e; omega
   rw [← hW5] at hfr hI5
   replace hW5 := Lib.hid hW5
   go_wp2_with fail
   rw [← hW5.out]
   refine hfr.mono ?_; rintro e w6 ⟨vr6, U6, rfl, hM6, hT6⟩
   clear hfr
   have hz5 := (Array.getElem?_eq_some_iff.1 hd5).1
   have hd6 := (hT6.off.rest _ hz5 hdn).trans hd5
   have hdn6 : w4.heap.size ∉ refAll rb pv1 (L1.map (zall 1073770496 (4096 * 1))) C vr6 := fun e => (hT6.blks _ e).elim hdn fun e => by omega
   have k0 : w6.cell? ⟨w4.heap.size, 0, none⟩ = some (.int .i64 0) := by simp [World.cell?, hd6]
   have k1 : w6.cell? ⟨w4.heap.size, 1, none⟩ = some (.int .u64 0) := by simp [World.cell?, hd6]
   have k2 : w6.cell? ⟨w4.heap.size, 2, none⟩ = some (.int .i64 0) := by simp [World.cell?, hd6]
   have k3 : w6.cell? ⟨w4.heap.size, 3, none⟩ = some (.int .i64 0) := by simp [World.cell?, hd6]
   have k4 : w6.cell? ⟨w4.heap.size, 4, none⟩ = some (.bool false) := by simp [World.cell?, hd6]
   have kf : ∀ o, w6.frozen? ⟨w4.heap.size, o, none⟩ = false := fun o => by simp [World.frozen?, hd6]
   have kf0 := kf 0
   have kf1 := kf 1
   have kf2 := kf 2
   have kf3 := kf 3
   have kf4 := kf 4
   clear kf
   obtain ⟨w7, hw7⟩ : ∃ w7, w7 = (((((w6.setCell ⟨w4.heap.size, 0, none⟩ (.int .i64 1)).setCell ⟨w4.heap.size, 1, none⟩ (.int .u64 1073770496)).setCell ⟨w4.heap.size, 2, none⟩ (.int .i64 0)).setCell ⟨w4.heap.size, 3, none⟩ (.int .i64 0)).setCell ⟨w4.heap.size, 4, none⟩ (.bool false)) := ⟨_, rfl⟩
   have ho7 : ∀ b, b ≠ w4.heap.size → w7.heap[b]? = w6.heap[b]? := fun b hb' => by
    have ho : ∀ (i : Nat) (u : Value) (W : World), (W.setCell ⟨w4.heap.size, i, none⟩ u).heap[b]? = W.heap[b]? := fun i u W => Below.heap_setCell _ _ _ _ (by simpa using hb')
    rw [hw7, ho, ho, ho, ho, ho]
   have hd7 : w7.heap[w4.heap.size]? = some (.cells #[.int .i64 1, .int .u64 1073770496, .int .i64 0, .int .i64 0, .bool false] 184 (0, 0)) := by
    rw [hw7]
    exact heapAt_put (heapAt_put (heapAt_put (heapAt_put (heapAt_put hd6 0 (.int .i64 1)) 1 (.int .u64 1073770496)) 2 (.int .i64 0)) 3 (.int .i64 0)) 4 (.bool false)
   have hz67 : w7.heap.size = w6.heap.size := by rw [hw7]; simp
   have hM7 := hM6.stay fun b hb' => ho7 b fun e => hdn6 (e ▸ hb')
   have hI6 := hI5.next hM6 hT6 (sl' := 1073770688) (j' := 2) (by rw [List.length_map]; have := hI5.len; omega) (zall_word _ _ (by decide) (by decide) L1 _ (by omega) (by omega))
   have hbox7 : w7.heap[w.heap.size]? = w6.heap[w.heap.size]? := ho7 _ (by have := (hI3.later hb4).turn.off.below.size; have := (Array.getElem?_eq_some_iff.1 hI.box).1; have := hX.size; have := hb3.size; have := hb4.size; omega)
   have hI7 : LyIn w w7 B rb C pv vr L pv1 vr6 (L1.map (zall 1073770496 (4096 * 1))) U6 (plN 8) 1073770688 w.heap.size q n0 2 := by
    refine ⟨hM7, ⟨⟨?_, fun k h1 h2 => ?_⟩, hI6.turn.blks⟩, hbox7.trans hI6.box, hI6.qn, hI6.len, hI6.zero⟩
    ·rw [hw7]
     have hBw := hI5.rm.hB
     have hBd : B ≤ w4.heap.size := by have := (hI3.later hb4).rm.hB; omega
     exact ((((hI6.turn.off.below.setCell (by simpa using hBd) _).setCell (by simpa using hBd) _).setCell (by simpa using hBd) _).setCell (by simpa using hBd) _).setCell (by simpa using hBd) _
    ·exact (ho7 k (by have := hX.size; have := hb3.size; have := hb4.size; have := hI.turn.off.below.size; omega)).trans (hI6.turn.off.rest k h1 h2)
   have e0 : w7.cell? ⟨w4.heap.size, 0, none⟩ = some (.int .i64 1) := by simp [World.cell?, hd7]
   have e1 : w7.cell? ⟨w4.heap.size, 1, none⟩ = some (.int .u64 1073770496) := by simp [World.cell?, hd7]
   have e2 : w7.cell? ⟨w4.heap.size, 2, none⟩ = some (.int .i64 0) := by simp [World.cell?, hd7]
   have e3 : w7.cell? ⟨w4.heap.size, 3, none⟩ = some (.int .i64 0) := by simp [World.cell?, hd7]
   have e4 : w7.cell? ⟨w4.heap.size, 4, none⟩ = some (.bool false) := by simp [World.cell?, hd7]
   have hpt := refPutTab 2 1073770496 w7 (by omega) (by omega) (by omega) (by decide)
   rw [hw7] at e0 e1 e2 e3 e4
   go_wp2_with fail
   rw [← hw7]
   refine hpt.mono ?_; rintro e w8 ⟨rfl, hb8⟩
   clear hpt e0 e1 e2 e3 e4 hw7
   have hI8 := hI7.later hb8
   have hd8 := (hb8.block _ (Array.getElem?_eq_some_iff.1 hd7).1).trans hd7
   have hpm := hI8.rm.putM 1073766400 1073770499 (by unfold W64; omega) (by unfold W64; omega) (by kernel_rfl) (by have := hI8.len; omega)
   go_wp2_with fail
   refine hpm.mono ?_; rintro e w9 ⟨pv9, L9, rfl, hM9, hT9, hl9, hab9⟩
   clear hpm
   have hI9 := hI8.next hM9 hT9 (sl' := 1073770688) (j' := 3) (by have := hI8.len; omega) (by
    rw [hab9, wordAt_wpg hI8.rm.mem.ok _ (by unfold W64; omega) (by decide) (by decide) (by decide) (by decide), if_neg (by decide)]
    exact hI8.zero)
   have hd9 := (hT9.off.rest _ (Array.getElem?_eq_some_iff.1 hd8).1 hdn6).trans hd8
   have f1 : w9.cell? ⟨w4.heap.size, 1, none⟩ = some (.int .u64 1073770496) := by simp [World.cell?, hd9]
   have f2 := hI9.cells.1
   rw [hq.out] at f2
   change w9.cell? _ = some (.int .u64 98304) at f2
   go_wp2_with fail
   exact ⟨.inr (.inr ⟨rfl, rfl, pv9, vr6, L9, U6, hI9⟩), by decide⟩
  ·obtain ⟨d0, d1, d2, d3, d4⟩ := hI.cells
   rw [hq.out] at d0 d1 d2 d3 d4
   change wr.cell? _ = some (.int .u64 1074266112) at d1
   change wr.cell? _ = some (.int .u64 4096) at d2
   change wr.cell? _ = some (.int .i64 perm) at d3
   change wr.cell? _ = some (.int .i64 0) at d4
   clear d0
   have hbz := (Array.getElem?_eq_some_iff.1 hI.box).1
   obtain ⟨wo, rfl⟩ : ∃ wo, wo = wr := ⟨_, rfl⟩
   go_wp2_with fail
   refine region_later wo.heap.size wo (Below.refl _ _) (by kernel_rfl) (by kernel_rfl) ?_
   have y0 := later_cell (B := wo.heap.size) d2 hbz
   repeat (quiet_step ((go_at_call 81; exact quiet_later (Nat.le_refl _) (hs3 _))))
   refine wpQuiet_nil ?_
   first | (rintro _ ⟨X, rfl⟩) | (intro X)
   have hX := X.h
   clear y0
   generalize X.x = w2 at *
   clear X
   have hI2 := hI.later hX
   have g1 := cell_lt hX d1 hbz
   have g3 := cell_lt hX d3 hbz
   have g4 := cell_lt hX d4 hbz
   have hlf := fun W => refPutLeaf perm W hp
   go_wp2_with fail
   refine (hlf _).mono ?_; rintro e w3 ⟨⟨x, hx, rfl⟩, hb3⟩
   clear hlf
   have hI3 := (hI2.later (bone w2 _)).later hb3
   have hpm := hI3.rm.putM 1073770688 x (by unfold W64; omega) hx (by kernel_rfl) (by have := hI3.len; omega)
   go_wp2_with fail
   refine hpm.mono ?_; rintro e w4 ⟨pv4, L4, rfl, hM4, hT4, hl4, hab4⟩
   clear hpm
   go_wp2_with fail
   go_ret
   exact ⟨pv4, vr1, L4, U1, rfl, hM4, hI3.turn.trans hT4, by have := hI3.len; omega⟩
end Go.Proofs.YtgihknfoncljbaaGreatDoor
/- The reference builds the tables of the shared page. -/
namespace Go.Proofs.YtgihknfoncljbaaGreatDoor
open Go Go.RowKit Go.BigFrame Go.Maps
theorem pieces_m (g perm : Int) (h : g = 0 ∨ g = 1) (hp : perm = 1 ∨ perm = 3) : piecesV (mapN g perm h) = [mapN g perm h] := by
 have h1 := (need_m g perm h hp).2
 unfold allP at h1
 simp only [List.flatMap_cons, List.flatMap_nil, List.append_nil] at h1
 unfold piecesV
 rw [if_pos ⟨(needV_ok (need_m g perm h hp).1).1, by rw [h1]; simp⟩, h1]
 rfl
theorem rneed_m (g perm : Int) (h : g = 0 ∨ g = 1) (hp : perm = 1 ∨ perm = 3) : (refNeedV [mapN g perm h]).2 = 0 := by
 rw [need_agree]; exact (need_m g perm h hp).1
set_option maxRecDepth 100000 in
set_option maxHeartbeats 4000000 in
theorem refBuild_gen {w : World} {B rb C : Nat} {pv vr : Value} {L : List Pg} {U : List Int} {p0 p1 p2 : Nat} (h : RM w B rb C pv vr L U (plN p0)) (m : M5) (root : Int) (hpv : piecesV m = [m]) (hnd : (refNeedV [m]).2 = 0) (hrun : runV (plN p0) 2 8192 = (plN p1, root, 0)) (hwi : withinB root (4096 * 2) 1073741824 1048576 = true) (hrt : W64 root) (hra : root % 4096 = 0) (hp1 : p1 ≤ 1000) (n0 : Nat) (hl : L.length ≤ n0) (_hn0 : n0 ≤ 800000)
  (hlay : ∀ {W : World} {vr' : Value} {L' : List Pg} {U' : List Int}, RM W B rb C pv vr' L' U' (plN p1) → L'.length ≤ n0 → wordAt (L'.map Pg.ab) root = 0 →
   Calls Tryz.prog 51 #[.pointer (some ⟨rb, 0, none⟩), .pointer (some ⟨C, 0, none⟩), .int .u64 root, .agg #[.int .u64 m.ipa, .int .u64 m.pa, .int .u64 m.sz, .int .i64 m.perm, .int .i64 m.kind]] W
    fun e w' => ∃ pv2 vr2 L2 U2, e = .returned (.int .i64 0) ∧ RM w' B rb C pv2 vr2 L2 U2 (plN p2) ∧ RTurn B (refAll rb pv L' C vr') (refAll rb pv2 L2 C vr2) W w' ∧ L2.length ≤ n0 + 40)
  (b o c : Nat) (hbl : b < w.heap.size) (hbn : b ∉ refAll rb pv L C vr) (hrow : RowM w (.slice (some ⟨b, o, none⟩) 1 c) [m]) :
  Calls Tryz.prog 21 #[.pointer (some ⟨rb, 0, none⟩), .pointer (some ⟨C, 0, none⟩), .slice (some ⟨b, o, none⟩) 1 c] w
   fun e w' => ∃ pv2 vr2 L2 U2, e = .returned (.tuple #[.int .u64 root, .int .i64 0]) ∧ RM w' B rb C pv2 vr2 L2 U2 (plN p2) ∧ RTurn B (refAll rb pv L C vr) (refAll rb pv2 L2 C vr2) w w' ∧ L2.length ≤ n0 + 40 := by
 have hneed := refNeed_any _ [m] w hrow (by simp)
 generalize hne : refNeedV [m] = ne at *
 obtain ⟨nn, ne2⟩ := ne
 simp only at hnd hneed
 subst hnd
 obtain ⟨a1, c1, e1, _, hrc⟩ := id hrow
 obtain ⟨b1, o1, e2, hb1', hcells⟩ := hrc (by simp)
 injection e1 with e1 ex ey
 clear ex ey
 rw [← e1] at e2
 injection e2 with e2
 injection e2 with e2 e3 ez
 clear ez
 subst e2
 subst e3
 obtain ⟨r0, r1, r2, r3, r4⟩ := hcells 0 (by simp)
 simp only [List.getElem_cons_zero, Nat.zero_mul, Nat.add_zero] at r0 r1 r2 r3 r4
 have hpc := fun W => refPieces_any m W
 rw [hpv] at hpc
 clear hcells hrc e1
 replace hlay := @Lib.hid _ @hlay
 replace hpv := Lib.hid hpv
 replace hne := Lib.hid hne
 replace hrow := Lib.hid hrow
 replace hrun := Lib.hid hrun
 go_enter Tryz.func21, Tryz.ntmps21
 go_wp2_with fail
 refine hneed.mono ?_; rintro e w2 ⟨rfl, hb2⟩
 clear hneed
 have h2 := h.later hb2
 have hfr := refFrame_any h2 2 8192 hrun.out (by unfold W64; omega) (.inr rfl) hwi hrt hra (plN_ok _) (plN_sm _) (plN_out _ hp1)
 go_wp2_with fail
 refine hfr.mono ?_; rintro e w3 ⟨vr3, U3, rfl, hM3, hT3⟩
 clear hfr
 have hT03 := (RTurn.of_below hb2 h.hB).trans hT3
 have hk3 : w3.heap[b]? = w.heap[b]? := hT03.off.rest b hbl hbn
 have hbn3 : b ∉ refAll rb pv (L.map (zall root (4096 * 2))) C vr3 := fun e => (hT03.blks b e).elim hbn fun e => by omega
 have hz3 := hT03.off.below.size
 have hcl : ∀ o v, w.cell? ⟨b, o, none⟩ = some v → w3.cell? ⟨b, o, none⟩ = some v := fun o v hc => by rw [← hc]; simp only [World.cell?, hk3]
 have q0 := hcl _ _ r0
 have q1 := hcl _ _ r1
 have q2 := hcl _ _ r2
 have q3 := hcl _ _ r3
 have q4 := hcl _ _ r4
 have hwz : wordAt ((L.map (zall root (4096 * 2))).map Pg.ab) root = 0 := zall_word _ _ hra (by decide) L root (by omega) (by omega)
 have hl3 : (L.map (zall root (4096 * 2))).length ≤ n0 := by rw [List.length_map]; exact hl
 generalize L.map (zall root (4096 * 2)) = L3 at *
 clear hcl r0 r1 r2 r3 r4 hne hrow
 go_wp2_with fail
 go_loopw [36] (fun u wr => (u = .int .i64 0 ∧ wr = w3) ∨ (u = .int .i64 1 ∧ ∃ pv2 vr2 L2 U2, RM wr B rb C pv2 vr2 L2 U2 (plN p2) ∧ RTurn B (refAll rb pv L C vr) (refAll rb pv2 L2 C vr2) w wr ∧ L2.length ≤ n0 + 40)) (fun u _ => 1 - (intOf u).toNat)
 case atStart => exact .inl ⟨rfl, rfl⟩
 case round =>
  rcases hrel with ⟨rfl, rfl⟩ | ⟨rfl, pv2, vr2, L2, U2, hM2, hT2, hl2⟩
  ·obtain ⟨W4, hW4⟩ : ∃ W4, W4 = wr.alloc (.cells #[.int .u64 m.ipa, .int .u64 m.pa, .int .u64 m.sz, .int .i64 m.perm, .int .i64 m.kind] 126) := ⟨_, rfl⟩
   have hb4 : Below wr.heap.size wr W4 := by rw [hW4]; exact bone _ _
   obtain ⟨wo, rfl⟩ : ∃ wo, wo = wr := ⟨_, rfl⟩
   have hpc4 := hpc W4
   go_wp2_with fail
   rw [← hW4]
   refine hpc4.mono ?_; rintro e w5 ⟨r, rfl, hown, hb5⟩
   clear hpc4 hpc hW4
   have hrow5 : RowM w5 r [m] := OwnM.row hown
   obtain ⟨a5, c5, rfl, hcap5, hrc5⟩ := hrow5
   obtain ⟨b5, o5, rfl, hb5', hcells⟩ := hrc5 (by simp)
   obtain ⟨s0, s1, s2, s3, s4⟩ := hcells 0 (by simp)
   simp only [List.getElem_cons_zero, Nat.zero_mul, Nat.add_zero] at s0 s1 s2 s3 s4
   clear hcells hrc5 hown hcap5
   have hb35 := bthen hb4 hb5
   have hM5 := hM3.later hb35
   have hT05 := hT03.trans (RTurn.of_below hb35 hM3.hB)
   have hlen1 : ([m] : List M5).length = 1 := rfl
   rw [hlen1]
   clear hlen1
   go_wp2_with fail
   go_loopw [43] (fun u W => (u = .int .i64 0 ∧ W = w5) ∨ (u = .int .i64 1 ∧ ∃ pv2 vr2 L2 U2, RM W B rb C pv2 vr2 L2 U2 (plN p2) ∧ RTurn B (refAll rb pv L C vr) (refAll rb pv2 L2 C vr2) w W ∧ L2.length ≤ n0 + 40)) (fun u _ => 1 - (intOf u).toNat)
   case atStart => exact .inl ⟨rfl, rfl⟩
   case round =>
    rcases hrel with ⟨rfl, rfl⟩ | ⟨rfl, pv2, vr2, L2, U2, hM2, hT2, hl2⟩
    ·obtain ⟨W6, hW6⟩ : ∃ W6, W6 = wr.alloc (.cells #[.int .u64 m.ipa, .int .u64 m.pa, .int .u64 m.sz, .int .i64 m.perm, .int .i64 m.kind] 126) := ⟨_, rfl⟩
     have hb6 : Below wr.heap.size wr W6 := by rw [hW6]; exact bone _ _
     obtain ⟨wi, rfl⟩ : ∃ wi, wi = wr := ⟨_, rfl⟩
     have hly := hlay.out (hM5.later hb6) hl3 hwz
     have hT06 := hT05.trans (RTurn.of_below hb6 hM5.hB)
     go_wp2_with fail
     rw [← hW6]
     refine hly.mono ?_; rintro e w7 ⟨pv7, vr7, L7, U7, rfl, hM7, hT7, hl7⟩
     clear hly hW6
     go_wp2_with fail
     exact ⟨.inr ⟨rfl, pv7, vr7, L7, U7, hM7, hT06.trans hT7, hl7⟩, by decide⟩
    ·go_wp2_with fail
     exact ⟨.inr ⟨rfl, pv2, vr2, L2, U2, hM2, hT2, hl2⟩, by decide⟩
  ·go_wp2_with fail
   go_ret2
   exact ⟨pv2, vr2, L2, U2, rfl, hM2, hT2, hl2⟩
theorem refBuild0 {w : World} {B rb C : Nat} {pv vr : Value} {L : List Pg} {U : List Int} (h : RM w B rb C pv vr L U (plN 0)) (perm : Int) (hp : perm = 1 ∨ perm = 3) (n0 : Nat) (hl : L.length ≤ n0) (hn0 : n0 ≤ 800000) (b o c : Nat) (hbl : b < w.heap.size) (hbn : b ∉ refAll rb pv L C vr) (hrow : RowM w (.slice (some ⟨b, o, none⟩) 1 c) [map0 perm]) :
  Calls Tryz.prog 21 #[.pointer (some ⟨rb, 0, none⟩), .pointer (some ⟨C, 0, none⟩), .slice (some ⟨b, o, none⟩) 1 c] w
   fun e w' => ∃ pv2 vr2 L2 U2, e = .returned (.tuple #[.int .u64 1073741824, .int .i64 0]) ∧ RM w' B rb C pv2 vr2 L2 U2 (plN 4) ∧ RTurn B (refAll rb pv L C vr) (refAll rb pv2 L2 C vr2) w w' ∧ L2.length ≤ n0 + 40 :=
 refBuild_gen h (map0 perm) 1073741824 (pieces_m 0 perm (.inl rfl) hp) (rneed_m 0 perm (.inl rfl) hp) runs.1 (by kernel_rfl) (by unfold W64; omega) (by decide) (by omega) n0 hl hn0 (fun hM hl' hz => refLay0 hM perm hp n0 hl' hn0 hz) b o c hbl hbn hrow
theorem refBuild1 {w : World} {B rb C : Nat} {pv vr : Value} {L : List Pg} {U : List Int} (h : RM w B rb C pv vr L U (plN 4)) (perm : Int) (hp : perm = 1 ∨ perm = 3) (n0 : Nat) (hl : L.length ≤ n0) (hn0 : n0 ≤ 800000) (b o c : Nat) (hbl : b < w.heap.size) (hbn : b ∉ refAll rb pv L C vr) (hrow : RowM w (.slice (some ⟨b, o, none⟩) 1 c) [map1 perm]) :
  Calls Tryz.prog 21 #[.pointer (some ⟨rb, 0, none⟩), .pointer (some ⟨C, 0, none⟩), .slice (some ⟨b, o, none⟩) 1 c] w
   fun e w' => ∃ pv2 vr2 L2 U2, e = .returned (.tuple #[.int .u64 1073758208, .int .i64 0]) ∧ RM w' B rb C pv2 vr2 L2 U2 (plN 8) ∧ RTurn B (refAll rb pv L C vr) (refAll rb pv2 L2 C vr2) w w' ∧ L2.length ≤ n0 + 40 :=
 refBuild_gen h (map1 perm) 1073758208 (pieces_m 1 perm (.inr rfl) hp) (rneed_m 1 perm (.inr rfl) hp) runs.2.2.2.1 (by kernel_rfl) (by unfold W64; omega) (by decide) (by omega) n0 hl hn0 (fun hM hl' hz => refLay1 hM perm hp n0 hl' hn0 hz) b o c hbl hbn hrow
end Go.Proofs.YtgihknfoncljbaaGreatDoor
