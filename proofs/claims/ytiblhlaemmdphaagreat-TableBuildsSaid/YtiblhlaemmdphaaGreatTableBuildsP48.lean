/- The walk of the builder's frames. -/
import Derived.Test.YtiblhlaemmdphaaGreatTableBuildsP8
import Derived.Test.YtiblhlaemmdphaaGreatTableBuildsP18
import Derived.Test.YtiblhlaemmdphaaGreatTableBuildsP29
import Derived.Test.YtiblhlaemmdphaaGreatTableBuildsP33
import Derived.Test.YtiblhlaemmdphaaGreatTableBuildsP36
import Derived.Test.YtiblhlaemmdphaaGreatTableBuildsP38
import Derived.Test.YtiblhlaemmdphaaGreatTableBuildsP47
namespace Go.Proofs.YtiblhlaemmdphaaGreat
open Go Go.RowKit Go.BigFrame Go.Maps
theorem MemP.keptBy {w w' : World} {mb pb fb : Nat} {vu : Value} {s z : Int} {L : List Pg} (h : MemP w mb pb s z L) (hk : Kept fb vu w w') (h1 : ∀ b ∈ memBlks mb pb L, b ≠ fb ∧ vu.ownBlock ≠ some b) : MemP w' mb pb s z L :=
 h.same fun b hb => hk.block b (h.lt b hb) (h1 b hb).1 (h1 b hb).2
theorem BdrBlk.keptBy {w w' : World} {bb mb fb mp : Nat} {root : Int} {vu : Value} (h : BdrBlk w bb mb fb mp root) (hk : Kept fb vu w w') (h1 : bb ≠ fb ∧ vu.ownBlock ≠ some bb) : BdrBlk w' bb mb fb mp root := by
 have := hk.block bb h.lt h1.1 h1.2
 unfold BdrBlk at *
 rw [this]; exact h
set_option maxHeartbeats 1000000 in
theorem frames_gen (bb mb pb fb mp B : Nat) (vu : Value) (s z root n al : Int) (pl : Pl) (L : List Pg) (w : World) (hbb : BdrBlk w bb mb fb mp root) (hm : MemP w mb pb s z L) (hp : PoolAt w fb vu pl) (hok : PlOk pl) (hlen : pl.used.length ≤ 137438953472) (ho : W64 pl.out)
  (hal : W64 al) (hn : 0 ≤ n ∧ n ≤ 4096) (h1 : bb ≠ fb ∧ vu.ownBlock ≠ some bb) (h2 : ∀ b ∈ memBlks mb pb L, b ≠ fb ∧ vu.ownBlock ≠ some b) (hB : B ≤ pb)
  (hz : (runV pl n al).2.2 = 0 → W64 (runV pl n al).2.1 ∧ withinB (runV pl n al).2.1 (n * 4096) s z = true ∧ (runV pl n al).2.1 + n * 4096 ≤ 1099511627776 ∧ lastV (runV pl n al).2.1 (n * 4096) = (runV pl n al).2.1 + n * 4096 - 1 ∧ (runV pl n al).2.1 % 4096 = 0) :
  Calls Tryz.prog 24 #[.pointer (some ⟨bb, 0, none⟩), .int .i64 n, .int .u64 al] w fun e w' => ∃ w1 v', e = .returned (.tuple #[.int .u64 (if (runV pl n al).2.2 = 0 then (runV pl n al).2.1 else 0), .int .i64 (runV pl n al).2.2]) ∧ PoolAt w1 fb v' (runV pl n al).1 ∧ Kept' fb vu v' w w1 ∧ OffL B [pb] w1 w' ∧
   MemP w' mb pb s z (if (runV pl n al).2.2 = 0 then L.filter (fun p => !(inPages (runV pl n al).2.1 (n * 4096) p.ab)) else L) := by
 obtain ⟨n0, n1⟩ := hn
 have hpb := hm.lt pb (by simp [memBlks])
 have hr := run_any fb vu pl n al w hok hlen hp ho hal
 obtain ⟨c0, c1, c2, c3⟩ := hbb.cells
 generalize runV pl n al = R at *
 obtain ⟨q, a, e⟩ := R
 simp only at *
 have g0 : IntKind.u64.wrap n = n := by rw [IntKind.wrap_u64]; omega
 have g1 : IntKind.u64.wrap (n * 4096) = n * 4096 := by rw [IntKind.wrap_u64]; omega
 by_cases he : e = 0
 ·subst he
  obtain ⟨z0, z1, z2, z3, z4⟩ := hz rfl
  rw [if_pos rfl, if_pos rfl]
  have hze := fun W (hm : MemP W mb pb s z L) (hW : B ≤ W.heap.size) => zero_any mb pb s z a (n * 4096) L B W hm hB hW z0 ⟨by omega, by omega⟩ z1 z2 z3 ⟨z4, by omega⟩
  clear hz z1 z2 z3 z4
  go_enter Tryz.func24, Tryz.ntmps24
  go_wp2_with fail
  refine hr.mono ?_; rintro e w1 ⟨v', rfl, hp1, hk1⟩
  have hm1 := hm.keptBy hk1.kept h2
  obtain ⟨d0, d1, d2, d3⟩ := (hbb.keptBy hk1.kept h1).cells
  have hz1 := hk1.kept.size
  go_wp2_with fail
  refine (hze _ hm1 (by omega)).mono ?_; rintro e w2 ⟨rfl, hm2, hb2⟩
  go_wp2_with fail
  go_ret2
  exact ⟨w1, v', rfl, hp1, hk1, hb2, hm2⟩
 ·rw [if_neg he, if_neg he]
  go_enter Tryz.func24, Tryz.ntmps24
  go_wp2_with fail
  refine hr.mono ?_; rintro e' w1 ⟨v', rfl, hp1, hk1⟩
  have hm1 := hm.keptBy hk1.kept h2
  go_wp2_with fail
  go_ret2
  exact ⟨w1, v', rfl, hp1, hk1, OffL.refl _ _ _, hm1⟩
end Go.Proofs.YtiblhlaemmdphaaGreat
/- The builder's map of tables: looked up, and grown. -/
namespace Go.Proofs.YtiblhlaemmdphaaGreat
open Go Go.RowKit Go.BigFrame Go.Maps Go.MapKept
open Go.ChangeMaps (setBlock)
section
variable {P : Program} {k e t : TypeId}
theorem kv_lookup_ok (K : Keyed P k) (ht : P.underlying t = some (.map k e)) {z : Value} (hz : ∀ u : World, (zeroValue e).run P u = .ok z u) {W : World} {B : Nat} {kv : List (Value × Value)} (h : MapKV W B kv) (hks : ∀ x ∈ kv, ∃ l, keyOf P k x.1 = some l)
  {x : Value} {l : Lit} (hx : keyOf P k x = some l) : ((∀ y ∈ kv, y.1 ≠ x) ∧ (Instr.lookup t (.map (some B)) x true).run P W = .ok (.tuple #[z, .bool false]) W) ∨ (∃ (j : Nat) (v : Value), kv[j]? = some (x, v) ∧ (Instr.lookup t (.map (some B)) x true).run P W = .ok (.tuple #[v, .bool true]) W) := by
 obtain ⟨es, clock, h1, h2, h3⟩ := h
 rcases kv_find (W := W) K h2 hks hx with ⟨f1, f2⟩ | ⟨j, v, b, f1, f2, f3⟩
 ·exact .inl ⟨f2, by simp [Instr.lookup, run_underlying ht, MapKept.run_getObj_map h1, K.check W _ hx, f1, hz, Result.andThen]⟩
 ·exact .inr ⟨j, v, f2, by simp [Instr.lookup, run_underlying ht, MapKept.run_getObj_map h1, K.check W _ hx, f1, Result.andThen]⟩
end
theorem zero64 (w : World) : (zeroValue 26).run Tryz.prog w = .ok (.int .u64 0) w := by kernel_rfl
theorem mapTab : ∃ k e, Tryz.prog.underlying 70 = some (.map k e) ∧ k = 107 ∧ e = 26 := ⟨_, _, by kernel_rfl, rfl, rfl⟩
def tabKV (e : (Int × Int) × Int) : Value × Value := (placeV e.1, .int .u64 e.2)
def TabKV (W : World) (mp : Nat) (tb : List ((Int × Int) × Int)) : Prop := MapKV W mp (tb.map tabKV)
theorem tab_keys {tb : List ((Int × Int) × Int)} (hk : ∀ e ∈ tb, KeyOk e.1) : ∀ x ∈ tb.map tabKV, ∃ l, keyOf Tryz.prog 107 x.1 = some l := by
 intro x hx
 obtain ⟨e, he, rfl⟩ := List.mem_map.1 hx
 exact place_key e.1 (hk e he).1 (hk e he).2
theorem tab_lookup {W : World} {mp : Nat} {tb : List ((Int × Int) × Int)} (h : TabKV W mp tb) (hn : (tb.map (·.1)).Nodup) (hk : ∀ e ∈ tb, KeyOk e.1) {p : Int × Int} (hp : KeyOk p) :
  (Instr.lookup 70 (.map (some mp)) (placeV p) true).run Tryz.prog W = .ok (match lookT tb p with | some a => .tuple #[.int .u64 a, .bool true] | none => .tuple #[.int .u64 0, .bool false]) W := by
 obtain ⟨k, e, ht, rfl, rfl⟩ := mapTab
 obtain ⟨l, hl⟩ := place_key p hp.1 hp.2
 rcases kv_lookup_ok placeKeyed ht zero64 h (tab_keys hk) hl with ⟨h1, h2⟩ | ⟨j, v, h1, h2⟩
 ·have hno : lookT tb p = none := lookT_none.2 fun hm => by
   obtain ⟨e, he, e1⟩ := List.mem_map.1 hm
   exact h1 _ (List.mem_map.2 ⟨e, he, rfl⟩) (by unfold tabKV; rw [e1])
  rw [hno]; exact h2
 ·rw [List.getElem?_map] at h1
  obtain ⟨e, he, e1⟩ := Option.map_eq_some_iff.1 h1
  unfold tabKV at e1
  have e2 := placeV_inj (congrArg Prod.fst e1)
  have e3 : Value.int .u64 e.2 = v := congrArg Prod.snd e1
  have := lookT_mem hn (List.mem_of_getElem? he)
  rw [e2] at this
  rw [this, h2, ← e3]
theorem tab_store {W : World} {mp : Nat} {tb : List ((Int × Int) × Int)} (h : TabKV W mp tb) (hk : ∀ e ∈ tb, KeyOk e.1) {p : Int × Int} (hp : KeyOk p) (hno : p ∉ tb.map (·.1)) (a : Int) :
  ∃ o, (Instr.mapUpdate 70 (.map (some mp)) (placeV p) (.int .u64 a)).run Tryz.prog W = .ok () (setBlock W mp o) ∧ TabKV (setBlock W mp o) mp (tb ++ [(p, a)]) := by
 obtain ⟨k, e, ht, rfl, rfl⟩ := mapTab
 obtain ⟨l, hl⟩ := place_key p hp.1 hp.2
 obtain ⟨o, h1, h2⟩ := kv_store_new placeKeyed ht h (tab_keys hk) hl (fun y hy e => by
  obtain ⟨x, hx, rfl⟩ := List.mem_map.1 hy
  exact hno (List.mem_map.2 ⟨x, hx, placeV_inj e⟩)) (.int .u64 a)
 refine ⟨o, h1, ?_⟩
 unfold TabKV
 rw [List.map_append]
 exact h2
end Go.Proofs.YtiblhlaemmdphaaGreat
/- The builder's world: its block, memory, pool, tables; it is kept by what is laid and by frames. -/
namespace Go.Proofs.YtiblhlaemmdphaaGreat
open Go Go.RowKit Go.BigFrame Go.Maps Go.MapKept
theorem PoolAt.offL {w w' : World} {B fb : Nat} {Bs : List Nat} {vu : Value} {p : Pl} (h : PoolAt w fb vu p) (ho : OffL B Bs w w') (h1 : fb ∉ Bs) (h2 : ∀ b, vu.ownBlock = some b → b ∉ Bs) : PoolAt w' fb vu p := by
 refine ⟨(ho.rest fb h.lt h1).trans h.blk, h.own.1, ?_⟩
 rcases h.own.2 with hc | ⟨g, cap, cur, hv, hb, hgk, hr⟩
 ·exact .inl hc
 ·refine .inr ⟨g, cap, cur, hv, hb, ?_, hr⟩
  have hlt := (Array.getElem?_eq_some_iff.1 hgk).1
  exact (ho.rest g hlt (h2 g (by rw [hv]; rfl))).trans hgk
structure Bdr (W : World) (B bb mb pb fb mp : Nat) (vu : Value) (s z root : Int) (L : List Pg) (st : BS) : Prop where
 blk : BdrBlk W bb mb fb mp root
 mem : MemP W mb pb s z L
 ab : L.map Pg.ab = st.pg
 pool : PoolAt W fb vu st.pl
 tab : TabKV W mp st.tb
 d1 : bb ≠ fb ∧ bb ≠ mp ∧ mp ≠ fb
 d2 : vu.ownBlock ≠ some bb ∧ vu.ownBlock ≠ some mp
 d3 : ∀ b ∈ memBlks mb pb L, b ≠ bb ∧ b ≠ fb ∧ b ≠ mp ∧ vu.ownBlock ≠ some b
 lo : B ≤ bb ∧ B ≤ fb ∧ B ≤ mp ∧ ∀ b ∈ memBlks mb pb L, B ≤ b
 lv : ∀ b, vu.ownBlock = some b → B ≤ b
def bdrBlks (bb mb pb fb mp : Nat) (vu : Value) (L : List Pg) : List Nat := bb :: fb :: mp :: (vu.ownBlock.toList ++ memBlks mb pb L)
theorem Bdr.wrote {W W' : World} {B bb mb pb fb mp : Nat} {vu : Value} {s z root : Int} {L L' : List Pg} {st : BS} {tgt : PG} (h : Bdr W B bb mb pb fb mp vu s z root L st) (hw : Wrote W W' mb pb s z L L' B tgt) : Bdr W' B bb mb pb fb mp vu s z root L' { st with pg := tgt } := by
 have hbl := h.blk.lt
 have hfl := h.pool.lt
 have htl := MapKV.lt h.tab
 have hvl : ∀ b, vu.ownBlock = some b → b < W.heap.size := fun b hb => by
  rcases h.pool.own.2 with hc | ⟨g, cap, cur, hv, hgb, hgk, hr⟩
  ·rw [hc.1] at hb; simp [Value.ownBlock] at hb
  ·rw [hv] at hb
   have e : g = b := by simpa [Value.ownBlock] using hb
   rw [← e]; exact (Array.getElem?_eq_some_iff.1 hgk).1
 have n1 : bb ∉ memBlks mb pb L := fun e => (h.d3 bb e).1 rfl
 have n2 : fb ∉ memBlks mb pb L := fun e => (h.d3 fb e).2.1 rfl
 have n3 : mp ∉ memBlks mb pb L := fun e => (h.d3 mp e).2.2.1 rfl
 have n4 : ∀ b, vu.ownBlock = some b → b ∉ memBlks mb pb L := fun b hb e => (h.d3 b e).2.2.2 hb
 refine ⟨?_, hw.mem, hw.ab, h.pool.offL hw.off n2 n4, MapKV.same h.tab (hw.off.rest mp htl n3), h.d1, h.d2, fun b hb => ?_, ⟨h.lo.1, h.lo.2.1, h.lo.2.2.1, fun b hb => ?_⟩, h.lv⟩
 ·unfold BdrBlk
  rw [hw.off.rest bb hbl n1]; exact h.blk
 ·rcases hw.blks b hb with h1 | h1
  ·exact h.d3 b h1
  ·exact ⟨by omega, by omega, by omega, fun e => by have := hvl b e; omega⟩
 ·rcases hw.blks b hb with h1 | h1
  ·exact h.lo.2.2.2 b h1
  ·have := h.lo.1; omega
theorem Bdr.kept {W W' : World} {B bb mb pb fb mp : Nat} {vu v' : Value} {s z root : Int} {L : List Pg} {st : BS} {pl' : Pl} (h : Bdr W B bb mb pb fb mp vu s z root L st) (hp : PoolAt W' fb v' pl') (hk : Kept' fb vu v' W W') : Bdr W' B bb mb pb fb mp v' s z root L { st with pl := pl' } := by
 have hbl := h.blk.lt
 have htl := MapKV.lt h.tab
 have hfl := h.pool.lt
 refine ⟨h.blk.keptBy hk.kept ⟨h.d1.1, h.d2.1⟩, h.mem.keptBy hk.kept fun b hb => ⟨(h.d3 b hb).2.1, (h.d3 b hb).2.2.2⟩, h.ab, hp, MapKV.same h.tab (hk.kept.block mp htl h.d1.2.2 h.d2.2), h.d1, ⟨fun e => ?_, fun e => ?_⟩, fun b hb => ⟨(h.d3 b hb).1, (h.d3 b hb).2.1, (h.d3 b hb).2.2.1, fun e => ?_⟩, h.lo, fun b e => ?_⟩
 ·rcases hk.fresh _ e with h1 | h1
  ·exact h.d2.1 h1
  ·omega
 ·rcases hk.fresh _ e with h1 | h1
  ·exact h.d2.2 h1
  ·omega
 ·rcases hk.fresh _ e with h1 | h1
  ·exact (h.d3 b hb).2.2.2 h1
  ·have := h.mem.lt b hb; omega
 ·rcases hk.fresh _ e with h1 | h1
  ·exact h.lv b h1
  ·have := h.lo.1; omega
theorem Bdr.zeroed {W W' : World} {B bb mb pb fb mp : Nat} {vu : Value} {s z root : Int} {L L' : List Pg} {st : BS} {tgt : PG} (h : Bdr W B bb mb pb fb mp vu s z root L st) (ho : OffL B [pb] W W') (hm : MemP W' mb pb s z L') (hs : ∀ b ∈ memBlks mb pb L', b ∈ memBlks mb pb L) (ht : L'.map Pg.ab = tgt) : Bdr W' B bb mb pb fb mp vu s z root L' { st with pg := tgt } := by
 have hpm : pb ∈ memBlks mb pb L := by simp [memBlks]
 obtain ⟨n1, n2, n3, n4⟩ := h.d3 pb hpm
 refine ⟨?_, hm, ht, h.pool.offL ho (by simpa using fun e => n2 e.symm) (fun b hb => by simp; rintro rfl; exact n4 hb), MapKV.same h.tab (ho.rest mp (MapKV.lt h.tab) (by simpa using fun e => n3 e.symm)), h.d1, h.d2, fun b hb => h.d3 b (hs b hb), ⟨h.lo.1, h.lo.2.1, h.lo.2.2.1, fun b hb => h.lo.2.2.2 b (hs b hb)⟩, h.lv⟩
 unfold BdrBlk
 rw [ho.rest bb h.blk.lt (by simpa using fun e => n1 e.symm)]; exact h.blk
theorem filter_blks {mb pb : Nat} {L : List Pg} (f : Pg → Bool) : ∀ b ∈ memBlks mb pb (L.filter f), b ∈ memBlks mb pb L := by
 intro b hb
 unfold memBlks at hb ⊢
 simp only [List.mem_cons] at hb ⊢
 rcases hb with h | h | h
 ·exact .inl h
 ·exact .inr (.inl h)
 ·obtain ⟨p, hp, e⟩ := List.mem_map.1 h
  exact .inr (.inr (List.mem_map.2 ⟨p, (List.mem_filter.1 hp).1, e⟩))
end Go.Proofs.YtiblhlaemmdphaaGreat
/- The builder's world, and a frame for a table. -/
namespace Go.Proofs.YtiblhlaemmdphaaGreat
open Go Go.RowKit Go.BigFrame Go.Maps Go.MapKept
theorem goodB_of {a n c m : Int} (h : withinB a n c m = true) : goodB a n = true := by
 rw [withinB_iff] at h; exact h.1
theorem frames_of {w : World} {B bb mb pb fb mp : Nat} {vu : Value} {s z root n al : Int} {L : List Pg} {st : BS} (h : Bdr w B bb mb pb fb mp vu s z root L st) (hok : PlOk st.pl) (hlen : st.pl.used.length ≤ 137438953472) (ho : W64 st.pl.out) (hal : W64 al) (hn : 0 ≤ n ∧ n ≤ 4096)
  (hz : (runV st.pl n al).2.2 = 0 → W64 (runV st.pl n al).2.1 ∧ withinB (runV st.pl n al).2.1 (n * 4096) s z = true ∧ (runV st.pl n al).2.1 + n * 4096 ≤ 1099511627776 ∧ lastV (runV st.pl n al).2.1 (n * 4096) = (runV st.pl n al).2.1 + n * 4096 - 1 ∧ (runV st.pl n al).2.1 % 4096 = 0) :
  Calls Tryz.prog 24 #[.pointer (some ⟨bb, 0, none⟩), .int .i64 n, .int .u64 al] w fun e w' => ∃ w1 v' L', e = .returned (.tuple #[.int .u64 (frS s z n al st).2.1, .int .i64 (frS s z n al st).2.2]) ∧ Bdr w1 B bb mb pb fb mp v' s z root L { st with pl := (frS s z n al st).1.pl } ∧ Kept' fb vu v' w w1 ∧ OffL B [pb] w1 w' ∧ (∀ b ∈ memBlks mb pb L', b ∈ memBlks mb pb L) ∧ Bdr w' B bb mb pb fb mp v' s z root L' (frS s z n al st).1 := by
 have hfr := frames_gen bb mb pb fb mp B vu s z root n al st.pl L w h.blk h.mem h.pool hok hlen ho hal hn ⟨h.d1.1, h.d2.1⟩ (fun b hb' => ⟨(h.d3 b hb').2.1, (h.d3 b hb').2.2.2⟩) (h.lo.2.2.2 pb (by simp [memBlks])) hz
 refine hfr.mono ?_
 rintro e w' ⟨w1, v', he, hp1, hk1, ho1, hm1⟩
 by_cases hc : (runV st.pl n al).2.2 = 0
 ·obtain ⟨_, z1, _⟩ := hz hc
  have e1 : frS s z n al st = ({ st with pl := (runV st.pl n al).1, pg := zpgs st.pg (runV st.pl n al).2.1 (n * 4096) }, (runV st.pl n al).2.1, 0) := by
   unfold frS
   rw [if_neg (by rw [hc]; simp), if_neg (by rw [z1]; simp)]
  rw [if_pos hc, hc] at he
  rw [if_pos hc] at hm1
  have hb1 := h.kept hp1 hk1
  rw [e1]
  refine ⟨w1, v', _, he, hb1, hk1, ho1, filter_blks _, hb1.zeroed ho1 hm1 (filter_blks _) ?_⟩
  unfold zpgs
  rw [← h.ab, List.filter_map]
  rfl
 ·have e1 : frS s z n al st = ({ st with pl := (runV st.pl n al).1 }, 0, (runV st.pl n al).2.2) := by
   unfold frS
   rw [if_pos hc]
  rw [if_neg hc] at he
  rw [if_neg hc] at hm1
  have hb1 := h.kept hp1 hk1
  rw [e1]
  exact ⟨w1, v', L, he, hb1, hk1, ho1, fun _ hb => hb, hb1.zeroed ho1 hm1 (fun _ hb => hb) h.ab⟩
theorem frames_bd {w : World} {B bb mb pb fb mp : Nat} {vu : Value} {s z o root : Int} {L : List Pg} {E D : List (Int × M5)} {st : BS} (h : Bdr w B bb mb pb fb mp vu s z root L st) (hb : Bd s z o root E D st) (hlen : st.pl.used.length ≤ 137438953472) :
  Calls Tryz.prog 24 #[.pointer (some ⟨bb, 0, none⟩), .int .i64 1, .int .u64 4096] w fun e w' => ∃ w1 v' L', e = .returned (.tuple #[.int .u64 (frS s z 1 4096 st).2.1, .int .i64 (frS s z 1 4096 st).2.2]) ∧ Bdr w1 B bb mb pb fb mp v' s z root L { st with pl := (frS s z 1 4096 st).1.pl } ∧ Kept' fb vu v' w w1 ∧ OffL B [pb] w1 w' ∧ (∀ b ∈ memBlks mb pb L', b ∈ memBlks mb pb L) ∧ Bdr w' B bb mb pb fb mp v' s z root L' (frS s z 1 4096 st).1 := by
 have hal : W64 4096 := ⟨by decide, by decide⟩
 obtain ⟨l1, l2, l3, l4⟩ := hb.lo
 have c1 := hb.plok.c1
 have hf0 := hb.plok.f0
 have ho : W64 st.pl.out := ⟨by have := hb.out; have := (inv_le hb.inv hb.plok.c0).1; omega, by have := hb.cnt; omega⟩
 refine frames_of h hb.plok hlen ho hal ⟨by decide, by decide⟩ fun hc => ?_
 rcases alloc_left hb.plok hb.inv with ⟨h1, h2⟩ | ⟨h1, x, hg, h2, hx1, hx2⟩
 ·rw [h2] at hc; cases hc
 ·rw [h2]
  simp only
  generalize hA : (upV x.a 4096).1 = A at *
  have r0 := (hg.inn A (by omega) (by omega)).1
  have r1 := (hg.inn (A + 4095) (by omega) (by omega)).1
  have hw : withinB A (1 * 4096) s z = true := withinB_of (by decide) (by omega) (by omega) (by omega) (by omega) (by omega) (by omega)
  exact ⟨⟨by omega, by omega⟩, hw, by omega, by rw [lastV_yes (goodB_of hw)]; omega, hg.pg⟩
end Go.Proofs.YtiblhlaemmdphaaGreat
/- The builder's world: a descriptor is laid, a table is stored in the map. -/
namespace Go.Proofs.YtiblhlaemmdphaaGreat
open Go Go.RowKit Go.BigFrame Go.Maps Go.MapKept
open Go.ChangeMaps (setBlock)
theorem lay_bd {w : World} {B bb mb pb fb mp : Nat} {vu : Value} {s z root at' k : Int} {d : DescV} {L : List Pg} {st : BS} (h : Bdr w B bb mb pb fb mp vu s z root L st) (ha : W64 at') (h0 : 0 ≤ d.pa) (h0' : d.pa < 18446744073709551616) :
  Calls Tryz.prog 56 #[.pointer (some ⟨bb, 0, none⟩), .int .u64 at', .int .i64 k, d.val] w fun e w' => ∃ L', e = .returned (.int .i64 (layS s z at' k d st).2) ∧ Bdr w' B bb mb pb fb mp vu s z root L' (layS s z at' k d st).1 ∧ OffL B (memBlks mb pb L) w w' ∧ ∀ b ∈ memBlks mb pb L', b ∈ memBlks mb pb L ∨ w.heap.size ≤ b := by
 refine (lay_any bb mb pb fb mp s z root at' k d L B w h.blk h.mem ha h0 h0' h.lo.2.2.2).mono ?_
 rintro e w' ⟨he, L', hw⟩
 have hB := h.wrote hw
 unfold layS
 by_cases h1 : (putV k d).2 = 0
 ·rw [if_neg (by rw [h1]; simp)] at he
  rw [if_neg (by rw [h1]; simp)]
  by_cases h2 : putE s z at' = 0
  ·rw [if_neg (by rw [h2]; simp)]
   rw [if_pos ⟨h1, h2⟩, h.ab] at hB
   exact ⟨L', by rw [he, h2], hB, hw.off, hw.blks⟩
  ·rw [if_pos h2]
   rw [if_neg (fun e => h2 e.2), h.ab] at hB
   exact ⟨L', he, hB, hw.off, hw.blks⟩
 ·rw [if_pos h1] at he
  rw [if_pos h1]
  rw [if_neg (fun e => h1 e.1), h.ab] at hB
  exact ⟨L', he, hB, hw.off, hw.blks⟩
theorem Bdr.stored {W : World} {B bb mb pb fb mp : Nat} {vu : Value} {s z root : Int} {L : List Pg} {st : BS} {o : Obj} {tb' : List ((Int × Int) × Int)} (h : Bdr W B bb mb pb fb mp vu s z root L st) (ht : TabKV (setBlock W mp o) mp tb') : Bdr (setBlock W mp o) B bb mb pb fb mp vu s z root L { st with tb := tb' } := by
 have ho : OffL B [mp] W (setBlock W mp o) := by
  refine ⟨⟨rfl, rfl, rfl, by simp [setBlock], fun i hi => setB_other o (by have := h.lo.2.2.1; omega)⟩, fun i hi hn => setB_other o (by simpa using hn)⟩
 refine ⟨?_, h.mem.off ho fun b hb => by have := (h.d3 b hb).2.2.1; simpa using this, h.ab, h.pool.offL ho (by have := h.d1.2.2; simpa using fun e => this e.symm) (fun b hb => by have := h.d2.2; simp; rintro rfl; exact this hb), ht, h.d1, h.d2, h.d3, h.lo, h.lv⟩
 unfold BdrBlk
 rw [setB_other o h.d1.2.1]; exact h.blk
end Go.Proofs.YtiblhlaemmdphaaGreat
/- The builder's world, and the root's frames. -/
namespace Go.Proofs.YtiblhlaemmdphaaGreat
open Go Go.RowKit Go.BigFrame Go.Maps Go.MapKept
theorem frames2_bd {w : World} {B bb mb pb fb mp : Nat} {vu : Value} {s z root : Int} {L : List Pg} {pl : Pl} {pg : PG} (h : Bdr w B bb mb pb fb mp vu s z root L ⟨pl, pg, []⟩) (hok : PlOk pl) (hi : PlInv pl) (hlo : s ≤ pl.from' ∧ pl.from' + pl.count * 4096 ≤ s + z ∧ 0 ≤ s ∧ s + z ≤ 1099511627776) (hlen : pl.used.length ≤ 137438953472) :
  Calls Tryz.prog 24 #[.pointer (some ⟨bb, 0, none⟩), .int .i64 2, .int .u64 8192] w fun e w' => ∃ w1 v' L', e = .returned (.tuple #[.int .u64 (frS s z 2 8192 ⟨pl, pg, []⟩).2.1, .int .i64 (frS s z 2 8192 ⟨pl, pg, []⟩).2.2]) ∧ Bdr w1 B bb mb pb fb mp v' s z root L { (⟨pl, pg, []⟩ : BS) with pl := (frS s z 2 8192 ⟨pl, pg, []⟩).1.pl } ∧ Kept' fb vu v' w w1 ∧ OffL B [pb] w1 w' ∧ (∀ b ∈ memBlks mb pb L', b ∈ memBlks mb pb L) ∧ Bdr w' B bb mb pb fb mp v' s z root L' (frS s z 2 8192 ⟨pl, pg, []⟩).1 := by
 have hal : W64 8192 := ⟨by decide, by decide⟩
 have hask : askB 2 8192 = true := by decide
 obtain ⟨l1, l2, l3, l4⟩ := hlo
 have c1 := hok.c1
 have hf0 := hok.f0
 have hle := inv_le hi hok.c0
 have ho : W64 pl.out := ⟨by omega, by omega⟩
 refine frames_of h hok hlen ho hal ⟨by decide, by decide⟩ fun hc => ?_
 dsimp only at hc ⊢
 rcases runV_cases hok 2 8192 hal with ⟨x, hg, h2, hx1, hx2⟩ | ⟨h2, _, hnone⟩ | ⟨_, hbad⟩
 ·rw [h2]
  simp only
  generalize hA : (upV x.a 8192).1 = A at *
  have r0 := (hg.inn A (by omega) (by omega)).1
  have r1 := (hg.inn (A + 8191) (by omega) (by omega)).1
  have hw : withinB A (2 * 4096) s z = true := withinB_of (by decide) (by omega) (by omega) (by omega) (by omega) (by omega) (by omega)
  exact ⟨⟨by omega, by omega⟩, hw, by omega, by rw [lastV_yes (goodB_of hw)]; omega, by have := hg.al; omega⟩
 ·rw [h2] at hc; cases hc
 ·rw [hask] at hbad; cases hbad
end Go.Proofs.YtiblhlaemmdphaaGreat
/- The builder's world: what its steps turn, and how long its pool's row grows. -/
namespace Go.Proofs.YtiblhlaemmdphaaGreat
open Go Go.RowKit Go.BigFrame Go.Maps Go.MapKept
open Go.ChangeMaps (setBlock)
theorem cell_eq {w w' : World} {b o : Nat} (h : w'.heap[b]? = w.heap[b]?) : w'.cell? ⟨b, o, none⟩ = w.cell? ⟨b, o, none⟩ := by simp only [World.cell?, h]
theorem Bdr.lt {W : World} {B bb mb pb fb mp : Nat} {vu : Value} {s z root : Int} {L : List Pg} {st : BS} (h : Bdr W B bb mb pb fb mp vu s z root L st) : ∀ b ∈ bdrBlks bb mb pb fb mp vu L, B ≤ b ∧ b < W.heap.size := by
 intro b hb
 unfold bdrBlks at hb
 simp only [List.mem_cons, List.mem_append] at hb
 rcases hb with rfl | rfl | rfl | hb | hb
 ·exact ⟨h.lo.1, h.blk.lt⟩
 ·exact ⟨h.lo.2.1, h.pool.lt⟩
 ·exact ⟨h.lo.2.2.1, MapKV.lt h.tab⟩
 ·have hb' : vu.ownBlock = some b := by simpa [Option.mem_toList] using hb
  refine ⟨h.lv b hb', ?_⟩
  rcases h.pool.own.2 with hc | ⟨g, cap, cur, hv, hgb, hgk, hr⟩
  ·rw [hc.1] at hb'; simp [Value.ownBlock] at hb'
  ·rw [hv] at hb'
   have e : g = b := by simpa [Value.ownBlock] using hb'
   rw [← e]; exact (Array.getElem?_eq_some_iff.1 hgk).1
 ·exact ⟨h.lo.2.2.2 b hb, h.mem.lt b hb⟩
theorem mem_bdr1 (bb mb pb fb mp : Nat) (vu : Value) (L : List Pg) : bb ∈ bdrBlks bb mb pb fb mp vu L := by simp [bdrBlks]
theorem mem_bdr2 (bb mb pb fb mp : Nat) (vu : Value) (L : List Pg) : fb ∈ bdrBlks bb mb pb fb mp vu L := by simp [bdrBlks]
theorem mem_bdr3 (bb mb pb fb mp : Nat) (vu : Value) (L : List Pg) : mp ∈ bdrBlks bb mb pb fb mp vu L := by simp [bdrBlks]
theorem mem_bdr4 {bb mb pb fb mp : Nat} {vu : Value} {L : List Pg} {b : Nat} (h : vu.ownBlock = some b) : b ∈ bdrBlks bb mb pb fb mp vu L := by
 simp only [bdrBlks, List.mem_cons, List.mem_append, Option.mem_toList]
 exact .inr (.inr (.inr (.inl h)))
theorem mem_bdr5 {bb mb pb fb mp : Nat} {vu : Value} {L : List Pg} {b : Nat} (h : b ∈ memBlks mb pb L) : b ∈ bdrBlks bb mb pb fb mp vu L := by
 simp only [bdrBlks, List.mem_cons, List.mem_append]
 exact .inr (.inr (.inr (.inr h)))
theorem Bdr.same {W W' : World} {B bb mb pb fb mp : Nat} {vu : Value} {s z root : Int} {L : List Pg} {st : BS} (h : Bdr W B bb mb pb fb mp vu s z root L st) (hk : ∀ b ∈ bdrBlks bb mb pb fb mp vu L, W'.heap[b]? = W.heap[b]?) : Bdr W' B bb mb pb fb mp vu s z root L st := by
 refine ⟨?_, h.mem.same fun b hb => hk b (mem_bdr5 hb), h.ab, ⟨(hk fb (mem_bdr2 _ _ _ _ _ _ _)).trans h.pool.blk, h.pool.own.1, ?_⟩, MapKV.same h.tab (hk mp (mem_bdr3 _ _ _ _ _ _ _)), h.d1, h.d2, h.d3, h.lo, h.lv⟩
 ·unfold BdrBlk
  rw [hk bb (mem_bdr1 _ _ _ _ _ _ _)]; exact h.blk
 ·rcases h.pool.own.2 with hc | ⟨g, cap, cur, hv, hb, hgk, hr⟩
  ·exact .inl hc
  ·exact .inr ⟨g, cap, cur, hv, hb, (hk g (mem_bdr4 (by rw [hv]; rfl))).trans hgk, hr⟩
theorem Bdr.later {W W' : World} {B bb mb pb fb mp : Nat} {vu : Value} {s z root : Int} {L : List Pg} {st : BS} (h : Bdr W B bb mb pb fb mp vu s z root L st) (hb : Below W.heap.size W W') : Bdr W' B bb mb pb fb mp vu s z root L st :=
 h.same fun b hm => hb.block b (h.lt b hm).2
structure BTurn (B bb mb pb fb mp : Nat) (v1 : Value) (L1 : List Pg) (v2 : Value) (L2 : List Pg) (X Y : World) : Prop where
 off : OffL B (bdrBlks bb mb pb fb mp v1 L1) X Y
 blks : ∀ b ∈ bdrBlks bb mb pb fb mp v2 L2, b ∈ bdrBlks bb mb pb fb mp v1 L1 ∨ X.heap.size ≤ b
theorem BTurn.of_below {B bb mb pb fb mp : Nat} {v : Value} {L : List Pg} {X Y : World} (hb : Below X.heap.size X Y) (hB : B ≤ X.heap.size) : BTurn B bb mb pb fb mp v L v L X Y := ⟨OffL.of_below hb hB, fun _ h => .inl h⟩
theorem BTurn.refl (B bb mb pb fb mp : Nat) (v : Value) (L : List Pg) (X : World) : BTurn B bb mb pb fb mp v L v L X X := ⟨OffL.refl _ _ _, fun _ h => .inl h⟩
theorem BTurn.trans {B bb mb pb fb mp : Nat} {v1 v2 v3 : Value} {L1 L2 L3 : List Pg} {X Y Z : World} (h : BTurn B bb mb pb fb mp v1 L1 v2 L2 X Y) (k : BTurn B bb mb pb fb mp v2 L2 v3 L3 Y Z) : BTurn B bb mb pb fb mp v1 L1 v3 L3 X Z :=
 ⟨h.off.trans k.off h.blks, fun b hb => (k.blks b hb).elim (fun e => h.blks b e) fun e => .inr (Nat.le_trans h.off.below.size e)⟩
theorem BTurn.of_kept {W W' : World} {B bb mb pb fb mp : Nat} {vu v' : Value} {s z root : Int} {L : List Pg} {st : BS} (h : Bdr W B bb mb pb fb mp vu s z root L st) (hk : Kept' fb vu v' W W') : BTurn B bb mb pb fb mp vu L v' L W W' := by
 have hlo := h.lo.2.1
 have hlv := h.lv
 have hfl := h.pool.lt
 refine ⟨⟨⟨hk.kept.os, hk.kept.tape, hk.kept.output, hk.kept.size, fun i hi => hk.kept.block i (by omega) (by omega) fun e => by have := hlv i e; omega⟩, fun i hi hn => hk.kept.block i hi (fun e => hn (e ▸ mem_bdr2 _ _ _ _ _ _ _)) fun e => hn (mem_bdr4 e)⟩, fun b hb => ?_⟩
 unfold bdrBlks at hb
 simp only [List.mem_cons, List.mem_append] at hb
 rcases hb with rfl | rfl | rfl | hb | hb
 ·exact .inl (mem_bdr1 _ _ _ _ _ _ _)
 ·exact .inl (mem_bdr2 _ _ _ _ _ _ _)
 ·exact .inl (mem_bdr3 _ _ _ _ _ _ _)
 ·have hb' : v'.ownBlock = some b := by simpa [Option.mem_toList] using hb
  exact (hk.fresh b hb').elim (fun e => .inl (mem_bdr4 e)) .inr
 ·exact .inl (mem_bdr5 hb)
theorem BTurn.of_wrote {B bb mb pb fb mp : Nat} {vu : Value} {L L' : List Pg} {W W' : World} (h1 : OffL B (memBlks mb pb L) W W') (h2 : ∀ b ∈ memBlks mb pb L', b ∈ memBlks mb pb L ∨ W.heap.size ≤ b) : BTurn B bb mb pb fb mp vu L vu L' W W' := by
 refine ⟨h1.mono fun b hb => mem_bdr5 hb, fun b hb => ?_⟩
 unfold bdrBlks at hb
 simp only [List.mem_cons, List.mem_append] at hb
 rcases hb with rfl | rfl | rfl | hb | hb
 ·exact .inl (mem_bdr1 _ _ _ _ _ _ _)
 ·exact .inl (mem_bdr2 _ _ _ _ _ _ _)
 ·exact .inl (mem_bdr3 _ _ _ _ _ _ _)
 ·have hb' : vu.ownBlock = some b := by simpa [Option.mem_toList] using hb
  exact .inl (mem_bdr4 hb')
 ·exact (h2 b hb).elim (fun e => .inl (mem_bdr5 e)) .inr
theorem BTurn.of_set {B bb mb pb fb mp : Nat} {v : Value} {L : List Pg} {W : World} (hB : B ≤ mp) (o : Obj) : BTurn B bb mb pb fb mp v L v L W (setBlock W mp o) := by
 refine ⟨⟨⟨rfl, rfl, rfl, by simp [setBlock], fun i hi => setB_other o (by omega)⟩, fun i hi hn => setB_other o fun e => hn (e ▸ mem_bdr3 _ _ _ _ _ _ _)⟩, fun _ h => .inl h⟩
theorem BTurn.of_pages {W W' : World} {B bb mb pb fb mp : Nat} {vu : Value} {s z root : Int} {L L' : List Pg} {st : BS} (_ : Bdr W B bb mb pb fb mp vu s z root L st) (ho : OffL B [pb] W W') (hs : ∀ b ∈ memBlks mb pb L', b ∈ memBlks mb pb L) : BTurn B bb mb pb fb mp vu L vu L' W W' :=
 BTurn.of_wrote (ho.mono fun b hb => by simp at hb; subst hb; simp [memBlks]) fun b hb => .inl (hs b hb)
theorem runV_used {p : Pl} (h : PlOk p) (n al : Int) (ha : W64 al) : (runV p n al).1.used.length ≤ p.used.length + 3 := by
 rcases runV_cases h n al ha with ⟨x, hg, he, hx1, hx2⟩ | ⟨he, _⟩ | ⟨he, _⟩
 ·rw [he]
  show (spansV (mergedV (p.used ++ [wantV n al x]))).length ≤ _
  have q1 := spansV_len (mergedV (p.used ++ [wantV n al x]))
  have q2 := mergedV_len (p.used ++ [wantV n al x])
  rw [List.length_append] at q2
  simp only [List.length_cons, List.length_nil] at q2
  omega
 all_goals
  rw [he]
  show p.used.length ≤ _
  omega
theorem frS_used (s z n al : Int) {st : BS} (h : PlOk st.pl) (ha : W64 al) : (frS s z n al st).1.pl.used.length ≤ st.pl.used.length + 3 := by
 have := runV_used h n al ha
 unfold frS
 split
 ·exact this
 ·split <;> exact this
theorem frames_bt {w : World} {B bb mb pb fb mp : Nat} {vu : Value} {s z o root : Int} {L : List Pg} {E D : List (Int × M5)} {st : BS} (h : Bdr w B bb mb pb fb mp vu s z root L st) (hb : Bd s z o root E D st) (hlen : st.pl.used.length ≤ 137438953472) :
  Calls Tryz.prog 24 #[.pointer (some ⟨bb, 0, none⟩), .int .i64 1, .int .u64 4096] w fun e w' => ∃ v' L', e = .returned (.tuple #[.int .u64 (frS s z 1 4096 st).2.1, .int .i64 (frS s z 1 4096 st).2.2]) ∧ Bdr w' B bb mb pb fb mp v' s z root L' (frS s z 1 4096 st).1 ∧ BTurn B bb mb pb fb mp vu L v' L' w w' := by
 refine (frames_bd h hb hlen).mono ?_
 rintro e w' ⟨w1, v', L', he, hB1, hk, ho, hs, hB⟩
 exact ⟨v', L', he, hB, (BTurn.of_kept h hk).trans (BTurn.of_pages hB1 ho hs)⟩
theorem frames2_bt {w : World} {B bb mb pb fb mp : Nat} {vu : Value} {s z root : Int} {L : List Pg} {pl : Pl} {pg : PG} (h : Bdr w B bb mb pb fb mp vu s z root L ⟨pl, pg, []⟩) (hok : PlOk pl) (hi : PlInv pl) (hlo : s ≤ pl.from' ∧ pl.from' + pl.count * 4096 ≤ s + z ∧ 0 ≤ s ∧ s + z ≤ 1099511627776) (hlen : pl.used.length ≤ 137438953472) :
  Calls Tryz.prog 24 #[.pointer (some ⟨bb, 0, none⟩), .int .i64 2, .int .u64 8192] w fun e w' => ∃ v' L', e = .returned (.tuple #[.int .u64 (frS s z 2 8192 ⟨pl, pg, []⟩).2.1, .int .i64 (frS s z 2 8192 ⟨pl, pg, []⟩).2.2]) ∧ Bdr w' B bb mb pb fb mp v' s z root L' (frS s z 2 8192 ⟨pl, pg, []⟩).1 ∧ BTurn B bb mb pb fb mp vu L v' L' w w' := by
 refine (frames2_bd h hok hi hlo hlen).mono ?_
 rintro e w' ⟨w1, v', L', he, hB1, hk, ho, hs, hB⟩
 exact ⟨v', L', he, hB, (BTurn.of_kept h hk).trans (BTurn.of_pages hB1 ho hs)⟩
theorem lay_bt {w : World} {B bb mb pb fb mp : Nat} {vu : Value} {s z root at' k : Int} {d : DescV} {L : List Pg} {st : BS} (h : Bdr w B bb mb pb fb mp vu s z root L st) (ha : W64 at') (h0 : 0 ≤ d.pa) (h0' : d.pa < 18446744073709551616) :
  Calls Tryz.prog 56 #[.pointer (some ⟨bb, 0, none⟩), .int .u64 at', .int .i64 k, d.val] w fun e w' => ∃ L', e = .returned (.int .i64 (layS s z at' k d st).2) ∧ Bdr w' B bb mb pb fb mp vu s z root L' (layS s z at' k d st).1 ∧ BTurn B bb mb pb fb mp vu L vu L' w w' := by
 refine (lay_bd h ha h0 h0').mono ?_
 rintro e w' ⟨L', he, hB, h1, h2⟩
 exact ⟨L', he, hB, BTurn.of_wrote h1 h2⟩
theorem layS_pl (s z a k : Int) (d : DescV) (st : BS) : (layS s z a k d st).1.pl = st.pl := by
 unfold layS
 split
 ·rfl
 ·split <;> rfl
theorem stepS_used (s z : Int) (q : M5) (k : Int) {st : BS} (t : Int) (h : PlOk st.pl) : (stepS s z q k st t).1.pl.used.length ≤ st.pl.used.length + 3 := by
 have := frS_used s z 1 4096 h ⟨by decide, by decide⟩
 unfold stepS
 split
 ·show st.pl.used.length ≤ _; omega
 ·split
  ·exact this
  ·split
   ·rw [layS_pl]; exact this
   ·show (layS _ _ _ _ _ _).1.pl.used.length ≤ _
    rw [layS_pl]; exact this
end Go.Proofs.YtiblhlaemmdphaaGreat
/- The walk of the builder's piece. -/
namespace Go.Proofs.YtiblhlaemmdphaaGreat
open Go Go.RowKit Go.BigFrame Go.Maps Go.MapKept
open Go.ChangeMaps (setBlock)
theorem pathS_snoc (s z : Int) (q : M5) : ∀ (i : Nat) (k : Int) (st : BS) (t : Int) {st' : BS} {a : Int}, pathS s z q i k st t = (st', a, 0) → pathS s z q (i + 1) k st t = stepS s z q (k + i) st' a
 | 0, k, st, t, st', a, h => by
  have e : (st, t, (0 : Int)) = (st', a, 0) := h
  simp only [Prod.mk.injEq, and_true] at e
  obtain ⟨rfl, rfl⟩ := e
  show (if (stepS s z q k st t).2.2 ≠ 0 then stepS s z q k st t else ((stepS s z q k st t).1, (stepS s z q k st t).2.1, 0)) = _
  rw [show k + ((0 : Nat) : Int) = k by simp]
  split
  ·rfl
  ·rename_i hc
   generalize stepS s z q k st t = X at *
   obtain ⟨x1, x2, x3⟩ := X
   simp only [ne_eq, Classical.not_not] at hc
   rw [hc]
 | i + 1, k, st, t, st', a, h => by
  have h' : (if (stepS s z q k st t).2.2 ≠ 0 then stepS s z q k st t else pathS s z q i (k + 1) (stepS s z q k st t).1 (stepS s z q k st t).2.1) = (st', a, 0) := h
  show (if (stepS s z q k st t).2.2 ≠ 0 then stepS s z q k st t else pathS s z q (i + 1) (k + 1) (stepS s z q k st t).1 (stepS s z q k st t).2.1) = _
  split at h'
  ·rename_i hc
   rw [h'] at hc
   exact absurd rfl hc
  ·rename_i hc
   rw [if_neg hc, pathS_snoc s z q i (k + 1) _ _ h']
   congr 1
   omega
theorem pathS_err (s z : Int) (q : M5) : ∀ (i n : Nat) (k : Int) (st : BS) (t : Int) {st' : BS} {a : Int}, pathS s z q i k st t = (st', a, 0) → (stepS s z q (k + i) st' a).2.2 ≠ 0 → pathS s z q (i + 1 + n) k st t = stepS s z q (k + i) st' a
 | 0, n, k, st, t, st', a, h, hc => by
  have e : (st, t, (0 : Int)) = (st', a, 0) := h
  simp only [Prod.mk.injEq, and_true] at e
  obtain ⟨rfl, rfl⟩ := e
  rw [show k + ((0 : Nat) : Int) = k by simp] at hc ⊢
  rw [show 0 + 1 + n = n + 1 by omega]
  show (if (stepS s z q k st t).2.2 ≠ 0 then _ else _) = _
  rw [if_pos hc]
 | i + 1, n, k, st, t, st', a, h, hc => by
  have h' : (if (stepS s z q k st t).2.2 ≠ 0 then stepS s z q k st t else pathS s z q i (k + 1) (stepS s z q k st t).1 (stepS s z q k st t).2.1) = (st', a, 0) := h
  rw [show i + 1 + 1 + n = (i + 1 + n) + 1 by omega]
  show (if (stepS s z q k st t).2.2 ≠ 0 then stepS s z q k st t else pathS s z q (i + 1 + n) (k + 1) (stepS s z q k st t).1 (stepS s z q k st t).2.1) = _
  split at h'
  ·rename_i hc
   rw [h'] at hc
   exact absurd rfl hc
  ·rename_i hc2
   rw [show k + ((i + 1 : Nat) : Int) = k + 1 + i by omega] at hc ⊢
   rw [if_neg hc2, pathS_err s z q i n (k + 1) _ _ h' hc]
structure Way (s z o root lv : Int) (q : M5) (E D : List (Int × M5)) (st : BS) (i : Nat) (a : Int) (st' : BS) : Prop where
 le : i ≤ (lv - 1).toNat
 path : pathS s z q i 2 st root = (st', a, 0)
 bd : Bd s z o root E D st'
 slot : SlotAt st'.tb root (slotV a q (1 + i)) (1 + i) (q.ipa / szK (1 + i))
 used : st'.pl.used.length ≤ st.pl.used.length + 3 * i
theorem Way.start {s z o root lv : Int} {q : M5} {E D : List (Int × M5)} {st : BS} (h : Bd s z o root E D st) (hq : (lv, q) ∈ E) : Way s z o root lv q E D st 0 root st :=
 ⟨Nat.zero_le _, rfl, h, slot_root h hq, by omega⟩
theorem Way.has {s z o root lv : Int} {q : M5} {E D : List (Int × M5)} {st st' : BS} {i : Nat} {a b : Int} (h : Way s z o root lv q E D st i a st') (hq : (lv, q) ∈ E) (hi : i < (lv - 1).toNat) (hl : lookT st'.tb (2 + i, q.ipa / szK (2 + i - 1)) = some b) : Way s z o root lv q E D st (i + 1) b st' := by
 have hlv := (h.bd.pcs _ hq).lv
 simp only at hlv
 refine ⟨hi, ?_, h.bd, ?_, by have := h.used; omega⟩
 ·rw [pathS_snoc s z q i 2 st root h.path]
  unfold stepS
  rw [hl]
 ·have := slot_tab h.bd hq (k := 2 + i) (t := b) (by omega) (lookT_some hl)
  rw [show (1 : Int) + ((i + 1 : Nat) : Int) = 2 + i by omega]
  exact this
theorem Way.dry {s z o root lv : Int} {q : M5} {E D : List (Int × M5)} {st st' : BS} {i : Nat} {a : Int} (h : Way s z o root lv q E D st i a st') (hi : i < (lv - 1).toNat) (hl : lookT st'.tb (2 + i, q.ipa / szK (2 + i - 1)) = none) (he : (frS s z 1 4096 st').2.2 ≠ 0) : pieceS s z root lv q st = ((frS s z 1 4096 st').1, (frS s z 1 4096 st').2.2) := by
 have hst : stepS s z q (2 + i) st' a = ((frS s z 1 4096 st').1, a, (frS s z 1 4096 st').2.2) := by
  unfold stepS
  rw [hl]
  simp only
  rw [if_pos he]
 have hp := pathS_err s z q i ((lv - 1).toNat - i - 1) 2 st root h.path (by rw [hst]; exact he)
 rw [show i + 1 + ((lv - 1).toNat - i - 1) = (lv - 1).toNat by omega, hst] at hp
 exact piece_err hp he
theorem Way.made {s z o root lv : Int} {q : M5} {E D : List (Int × M5)} {st st' : BS} {i : Nat} {a : Int} (h : Way s z o root lv q E D st i a st') (hq : (lv, q) ∈ E) (hi : i < (lv - 1).toNat) (hl : lookT st'.tb (2 + i, q.ipa / szK (2 + i - 1)) = none) (he : (frS s z 1 4096 st').2.2 = 0) :
  (layS s z (slotV a q (2 + i - 1)) (2 + i - 1) (tabD (frS s z 1 4096 st').2.1) (frS s z 1 4096 st').1).2 = 0 ∧ 0 ≤ (frS s z 1 4096 st').2.1 ∧ (frS s z 1 4096 st').2.1 < 18446744073709551616 ∧ (2 + (i : Int), q.ipa / szK (2 + i - 1)) ∉ st'.tb.map (·.1) ∧ (layS s z (slotV a q (2 + i - 1)) (2 + i - 1) (tabD (frS s z 1 4096 st').2.1) (frS s z 1 4096 st').1).1.tb = st'.tb ∧
  Way s z o root lv q E D st (i + 1) (frS s z 1 4096 st').2.1 { (layS s z (slotV a q (2 + i - 1)) (2 + i - 1) (tabD (frS s z 1 4096 st').2.1) (frS s z 1 4096 st').1).1 with tb := st'.tb ++ [((2 + (i : Int), q.ipa / szK (2 + i - 1)), (frS s z 1 4096 st').2.1)] } := by
 have hlv := (h.bd.pcs _ hq).lv
 simp only at hlv
 have hk23 : 2 + (i : Int) = 2 ∨ 2 + (i : Int) = 3 := by omega
 have e1 : 2 + (i : Int) - 1 = 1 + i := by omega
 have hs := h.slot
 rw [← e1] at hs
 have hsu := stepS_used s z q (2 + i) a h.bd.plok
 have hnot := lookT_none.1 hl
 have htb : (layS s z (slotV a q (2 + i - 1)) (2 + i - 1) (tabD (frS s z 1 4096 st').2.1) (frS s z 1 4096 st').1).1.tb = st'.tb := by
  have hf : (frS s z 1 4096 st').1.tb = st'.tb := by
   unfold frS
   split
   ·rfl
   ·split <;> rfl
  unfold layS
  split
  ·exact hf
  ·split
   ·exact hf
   ·exact hf
 have hst : stepS s z q (2 + i) st' a = (if (layS s z (slotV a q (2 + i - 1)) (2 + i - 1) (tabD (frS s z 1 4096 st').2.1) (frS s z 1 4096 st').1).2 ≠ 0 then ((layS s z (slotV a q (2 + i - 1)) (2 + i - 1) (tabD (frS s z 1 4096 st').2.1) (frS s z 1 4096 st').1).1, a, (layS s z (slotV a q (2 + i - 1)) (2 + i - 1) (tabD (frS s z 1 4096 st').2.1) (frS s z 1 4096 st').1).2)
   else ({ (layS s z (slotV a q (2 + i - 1)) (2 + i - 1) (tabD (frS s z 1 4096 st').2.1) (frS s z 1 4096 st').1).1 with tb := st'.tb ++ [((2 + (i : Int), q.ipa / szK (2 + i - 1)), (frS s z 1 4096 st').2.1)] }, (frS s z 1 4096 st').2.1, 0)) := by
  unfold stepS
  rw [hl]
  simp only
  rw [if_neg (by rw [he]; simp)]
 rcases step_k h.bd hq hk23 (by omega) hs with ⟨st2, b, k1, k2, k3, k4, k5⟩ | ⟨k1, k2, k3⟩
 ·have hle : (layS s z (slotV a q (2 + i - 1)) (2 + i - 1) (tabD (frS s z 1 4096 st').2.1) (frS s z 1 4096 st').1).2 = 0 := Classical.byContradiction fun hc => by
   rw [hst, if_pos hc] at k1
   simp only [Prod.mk.injEq] at k1
   exact hc k1.2.2
  have hst2 := hst
  rw [if_neg (by rw [hle]; simp)] at hst2
  rw [hst2] at k1
  simp only [Prod.mk.injEq, and_true] at k1
  obtain ⟨rfl, rfl⟩ := k1
  have b0 := (k2.tabC _ k3 _ (Int.le_refl _) (by simp only; omega)).1
  have hlo := k2.lo
  have hf0 := k2.plok.f0
  dsimp only at b0 hlo hf0
  refine ⟨hle, by omega, by omega, hnot, htb, hi, ?_, k2, ?_, ?_⟩
  ·rw [pathS_snoc s z q i 2 st root h.path, hst2]
  ·have := slot_tab k2 hq (k := 2 + i) (t := (frS s z 1 4096 st').2.1) hk23 k3
   rw [show (1 : Int) + ((i + 1 : Nat) : Int) = 2 + i by omega]
   exact this
  ·rw [hst2] at hsu
   dsimp only at hsu
   have := h.used
   dsimp only
   omega
 ·exfalso
  rw [hst] at k1
  split at k1
  ·rename_i hc
   have hf := frS_one h.bd
   rcases hf with ⟨q1, q2⟩ | ⟨pl', at', q1, q2⟩
   ·rw [q2] at he; simp at he
   ·have := q2.cnt; omega
  ·simp at k1
end Go.Proofs.YtiblhlaemmdphaaGreat
/- Memory and pool, side by side; what Build needs beside its walk. -/
namespace Go.Proofs.YtiblhlaemmdphaaGreat
open Go Go.RowKit Go.BigFrame Go.Maps Go.MapKept
open Go.ChangeMaps (setBlock)
theorem frS_ok (s z n al : Int) {st : BS} (h : PlOk st.pl) : PlOk (frS s z n al st).1.pl := by
 have := runV_ok h n al
 unfold frS
 split
 ·exact this
 ·split <;> exact this
theorem stepS_ok (s z : Int) (q : M5) (k : Int) {st : BS} (t : Int) (h : PlOk st.pl) : PlOk (stepS s z q k st t).1.pl := by
 have := frS_ok s z 1 4096 h
 unfold stepS
 split
 ·exact h
 ·split
  ·exact this
  ·split
   ·rw [layS_pl]; exact this
   ·show PlOk (layS _ _ _ _ _ _).1.pl
    rw [layS_pl]; exact this
theorem pathS_used (s z : Int) (q : M5) : ∀ (n : Nat) (k : Int) (st : BS) (t : Int), PlOk st.pl → (pathS s z q n k st t).1.pl.used.length ≤ st.pl.used.length + 3 * n ∧ PlOk (pathS s z q n k st t).1.pl
 | 0, _, _, _, h => ⟨Nat.le_refl _, h⟩
 | n + 1, k, st, t, h => by
  have h1 := stepS_used s z q k t h
  have h2 := stepS_ok s z q k t h
  unfold pathS
  split
  ·exact ⟨by omega, h2⟩
  ·obtain ⟨h3, h4⟩ := pathS_used s z q n (k + 1) (stepS s z q k st t).1 (stepS s z q k st t).2.1 h2
   exact ⟨by omega, h4⟩
theorem pieceS_used {s z root lv : Int} {q : M5} {st : BS} (h : PlOk st.pl) (hlv : lv ≤ 3) : (pieceS s z root lv q st).1.pl.used.length ≤ st.pl.used.length + 6 := by
 obtain ⟨h1, h2⟩ := pathS_used s z q (lv - 1).toNat 2 st root h
 unfold pieceS
 split
 ·show (pathS s z q (lv - 1).toNat 2 st root).1.pl.used.length ≤ _; omega
 ·rw [layS_pl]; omega
theorem piecesS_append (s z root : Int) : ∀ (A C : List (Int × M5)) (st : BS), piecesS s z root (A ++ C) st = if (piecesS s z root A st).2 ≠ 0 then piecesS s z root A st else piecesS s z root C (piecesS s z root A st).1
 | [], C, st => by show piecesS s z root C st = if (0 : Int) ≠ 0 then _ else _; rw [if_neg (by simp)]; rfl
 | x :: A, C, st => by
  show (if (pieceS s z root x.1 x.2 st).2 ≠ 0 then pieceS s z root x.1 x.2 st else piecesS s z root (A ++ C) (pieceS s z root x.1 x.2 st).1) = if (if (pieceS s z root x.1 x.2 st).2 ≠ 0 then pieceS s z root x.1 x.2 st else piecesS s z root A (pieceS s z root x.1 x.2 st).1).2 ≠ 0 then (if (pieceS s z root x.1 x.2 st).2 ≠ 0 then pieceS s z root x.1 x.2 st else piecesS s z root A (pieceS s z root x.1 x.2 st).1) else _
  by_cases hc : (pieceS s z root x.1 x.2 st).2 ≠ 0
  ·rw [if_pos hc, if_pos hc, if_pos hc]
  ·rw [if_neg hc, if_neg hc, piecesS_append s z root A C]
   congr 1
   show _ = piecesS s z root C (if (pieceS s z root x.1 x.2 st).2 ≠ 0 then pieceS s z root x.1 x.2 st else piecesS s z root A (pieceS s z root x.1 x.2 st).1).1
   rw [if_neg hc]
theorem piecesS_ok {s z root : Int} {A C : List (Int × M5)} {st st' : BS} (h : piecesS s z root A st = (st', 0)) : piecesS s z root (A ++ C) st = piecesS s z root C st' := by
 rw [piecesS_append, h, if_neg (by simp)]
theorem piecesS_bad {s z root : Int} {A C : List (Int × M5)} {st st' : BS} {c : Int} (h : piecesS s z root A st = (st', c)) (hc : c ≠ 0) : piecesS s z root (A ++ C) st = (st', c) := by
 rw [piecesS_append, h, if_pos hc]
theorem piecesS_one {s z root : Int} {x : Int × M5} {st : BS} : piecesS s z root [x] st = pieceS s z root x.1 x.2 st := by
 show (if (pieceS s z root x.1 x.2 st).2 ≠ 0 then pieceS s z root x.1 x.2 st else ((pieceS s z root x.1 x.2 st).1, 0)) = _
 split
 ·rfl
 ·rename_i hc
  simp only [ne_eq, Classical.not_not] at hc
  exact Prod.ext rfl hc.symm
theorem allP_take (l : List M5) (k : Nat) (h : k < l.length) : allP (l.take (k + 1)) = allP (l.take k) ++ piecesL l[k] := by
 unfold allP
 rw [List.take_succ_eq_append_getElem h, List.flatMap_append]
 simp
theorem allP_split (l : List M5) (k : Nat) (h : k < l.length) : allP l = allP (l.take k) ++ (piecesL l[k] ++ allP (l.drop (k + 1))) := by
 unfold allP
 rw [← List.append_assoc, ← List.flatMap_singleton (f := piecesL) (x := l[k]), ← List.flatMap_append, ← List.flatMap_append, ← List.take_succ_eq_append_getElem h, List.take_append_drop]
structure MPl (W : World) (B mb pb fb : Nat) (vu : Value) (s z : Int) (L : List Pg) (pl : Pl) (pg : PG) : Prop where
 mem : MemP W mb pb s z L
 ab : L.map Pg.ab = pg
 pool : PoolAt W fb vu pl
 d : ∀ b ∈ memBlks mb pb L, b ≠ fb ∧ vu.ownBlock ≠ some b
 lo : B ≤ fb ∧ ∀ b ∈ memBlks mb pb L, B ≤ b
 lv : ∀ b, vu.ownBlock = some b → B ≤ b
def mplBlks (mb pb fb : Nat) (vu : Value) (L : List Pg) : List Nat := fb :: (vu.ownBlock.toList ++ memBlks mb pb L)
theorem mem_mpl {mb pb fb : Nat} {vu : Value} {L : List Pg} {b : Nat} : b ∈ mplBlks mb pb fb vu L ↔ b = fb ∨ vu.ownBlock = some b ∨ b ∈ memBlks mb pb L := by
 simp only [mplBlks, List.mem_cons, List.mem_append, Option.mem_toList]
theorem mem_bdr {bb mb pb fb mp : Nat} {vu : Value} {L : List Pg} {b : Nat} : b ∈ bdrBlks bb mb pb fb mp vu L ↔ b = bb ∨ b = mp ∨ b ∈ mplBlks mb pb fb vu L := by
 rw [mem_mpl]
 simp only [bdrBlks, List.mem_cons, List.mem_append, Option.mem_toList]
 constructor
 ·rintro (h | h | h | h | h)
  ·exact .inl h
  ·exact .inr (.inr (.inl h))
  ·exact .inr (.inl h)
  ·exact .inr (.inr (.inr (.inl h)))
  ·exact .inr (.inr (.inr (.inr h)))
 ·rintro (h | h | h | h | h)
  ·exact .inl h
  ·exact .inr (.inr (.inl h))
  ·exact .inr (.inl h)
  ·exact .inr (.inr (.inr (.inl h)))
  ·exact .inr (.inr (.inr (.inr h)))
theorem own_lt {W : World} {fb : Nat} {vu : Value} {p : Pl} (h : PoolAt W fb vu p) {b : Nat} (hb : vu.ownBlock = some b) : b < W.heap.size ∧ ∃ o : Obj, W.heap[b]? = some o ∧ o.isCells = true := by
 rcases h.own.2 with hc | ⟨g, cap, cur, hv, hgb, hgk, hr⟩
 ·rw [hc.1] at hb; simp [Value.ownBlock] at hb
 ·rw [hv] at hb
  have e : g = b := by simpa [Value.ownBlock] using hb
  subst e
  exact ⟨(Array.getElem?_eq_some_iff.1 hgk).1, _, hgk, rfl⟩
theorem MPl.lt {W : World} {B mb pb fb : Nat} {vu : Value} {s z : Int} {L : List Pg} {pl : Pl} {pg : PG} (h : MPl W B mb pb fb vu s z L pl pg) : ∀ b ∈ mplBlks mb pb fb vu L, B ≤ b ∧ b < W.heap.size := by
 intro b hb
 rcases mem_mpl.1 hb with rfl | hb | hb
 ·exact ⟨h.lo.1, h.pool.lt⟩
 ·exact ⟨h.lv b hb, (own_lt h.pool hb).1⟩
 ·exact ⟨h.lo.2 b hb, h.mem.lt b hb⟩
theorem MPl.same {W W' : World} {B mb pb fb : Nat} {vu : Value} {s z : Int} {L : List Pg} {pl : Pl} {pg : PG} (h : MPl W B mb pb fb vu s z L pl pg) (hk : ∀ b ∈ mplBlks mb pb fb vu L, W'.heap[b]? = W.heap[b]?) : MPl W' B mb pb fb vu s z L pl pg := by
 refine ⟨h.mem.same fun b hb => hk b (mem_mpl.2 (.inr (.inr hb))), h.ab, ⟨(hk fb (mem_mpl.2 (.inl rfl))).trans h.pool.blk, h.pool.own.1, ?_⟩, h.d, h.lo, h.lv⟩
 rcases h.pool.own.2 with hc | ⟨g, cap, cur, hv, hb, hgk, hr⟩
 ·exact .inl hc
 ·exact .inr ⟨g, cap, cur, hv, hb, (hk g (mem_mpl.2 (.inr (.inl (by rw [hv]; rfl))))).trans hgk, hr⟩
theorem MPl.later {W W' : World} {B mb pb fb : Nat} {vu : Value} {s z : Int} {L : List Pg} {pl : Pl} {pg : PG} (h : MPl W B mb pb fb vu s z L pl pg) (hb : Below W.heap.size W W') : MPl W' B mb pb fb vu s z L pl pg :=
 h.same fun b hm => hb.block b (h.lt b hm).2
theorem Bdr.mpl {W : World} {B bb mb pb fb mp : Nat} {vu : Value} {s z root : Int} {L : List Pg} {st : BS} (h : Bdr W B bb mb pb fb mp vu s z root L st) : MPl W B mb pb fb vu s z L st.pl st.pg :=
 ⟨h.mem, h.ab, h.pool, fun b hb => ⟨(h.d3 b hb).2.1, (h.d3 b hb).2.2.2⟩, ⟨h.lo.2.1, h.lo.2.2.2⟩, h.lv⟩
theorem MPl.bdr {W W' : World} {B bb mb pb fb mp : Nat} {vu : Value} {s z root : Int} {L : List Pg} {pl : Pl} {pg : PG} (h : MPl W B mb pb fb vu s z L pl pg) (hb : Below W.heap.size W W') (hB : B ≤ W.heap.size) (h1 : W.heap.size ≤ bb) (h2 : W.heap.size ≤ mp) (hne : bb ≠ mp)
  (hbb : BdrBlk W' bb mb fb mp root) (ht : TabKV W' mp []) : Bdr W' B bb mb pb fb mp vu s z root L ⟨pl, pg, []⟩ := by
 have h' := h.later hb
 have hfl := h.pool.lt
 refine ⟨hbb, h'.mem, h.ab, h'.pool, ht, ⟨by omega, hne, by omega⟩, ⟨fun e => ?_, fun e => ?_⟩, fun b hb' => ⟨?_, (h.d b hb').1, ?_, (h.d b hb').2⟩, ⟨by omega, h.lo.1, by omega, h.lo.2⟩, h.lv⟩
 ·have := (own_lt h.pool e).1; omega
 ·have := (own_lt h.pool e).1; omega
 ·have := h.mem.lt b hb'; omega
 ·have := h.mem.lt b hb'; omega
theorem Bdr.rooted {W : World} {B bb mb pb fb mp : Nat} {vu : Value} {s z root : Int} {L : List Pg} {st : BS} (h : Bdr W B bb mb pb fb mp vu s z root L st) (r : Int) : Bdr (W.setCell ⟨bb, 2, none⟩ (.int .u64 r)) B bb mb pb fb mp vu s z r L st ∧ BTurn B bb mb pb fb mp vu L vu L W (W.setCell ⟨bb, 2, none⟩ (.int .u64 r)) := by
 have hbl := h.blk.lt
 have ho : ∀ b, b ≠ bb → (W.setCell ⟨bb, 2, none⟩ (.int .u64 r)).heap[b]? = W.heap[b]? := fun b hb => Below.heap_setCell _ _ _ _ (by simpa using hb)
 have hblk : BdrBlk (W.setCell ⟨bb, 2, none⟩ (.int .u64 r)) bb mb fb mp r := by
  have := h.blk
  unfold BdrBlk at this ⊢
  simp [World.setCell, Array.getElem?_modify, this]
 have h' : MPl (W.setCell ⟨bb, 2, none⟩ (.int .u64 r)) B mb pb fb vu s z L st.pl st.pg := h.mpl.same fun b hb => ho b fun e => by
  subst e
  rcases mem_mpl.1 hb with e | e | e
  ·exact h.d1.1 e
  ·exact h.d2.1 e
  ·exact (h.d3 _ e).1 rfl
 refine ⟨⟨hblk, h'.mem, h.ab, h'.pool, MapKV.same h.tab (ho mp (fun e => h.d1.2.1 e.symm)), h.d1, h.d2, h.d3, h.lo, h.lv⟩, ⟨⟨⟨rfl, rfl, rfl, by simp, fun i hi => ho i (by have := h.lo.1; omega)⟩, fun i hi hn => ho i fun e => hn (e ▸ mem_bdr1 _ _ _ _ _ _ _)⟩, fun _ hb => .inl hb⟩⟩
theorem Bdr.grown {W W' : World} {B bb mb pb fb mp : Nat} {vu : Value} {s z root : Int} {L : List Pg} {st : BS} {row : Option Nat} {N : Nat} (h : Bdr W B bb mb pb fb mp vu s z root L st) (hN : mb < N ∧ pb < N ∧ mp < N) (hg : W.grownBy W' row) (hr : ∀ r, row = some r → N ≤ r ∧ ∃ o : Obj, W.heap[r]? = some o ∧ o.isCells = false) : Bdr W' B bb mb pb fb mp vu s z root L st := by
 have hc : ∀ (b : Nat) (o : Obj), W.heap[b]? = some o → o.isCells = true → W'.heap[b]? = W.heap[b]? := fun b o ho hcl => grownBy_keeps_cells hg (fun r e => (hr r e).2) ho hcl
 have hl : ∀ b, b < N → b < W.heap.size → W'.heap[b]? = W.heap[b]? := fun b h1 h2 => hg.block b h2 fun e => by have := (hr b e.symm).1; omega
 refine h.same fun b hb => ?_
 rcases mem_bdr.1 hb with rfl | rfl | hb
 ·exact hc _ _ h.blk rfl
 ·exact hl _ hN.2.2 (MapKV.lt h.tab)
 ·rcases mem_mpl.1 hb with rfl | hb | hb
  ·exact hc _ _ h.pool.blk rfl
  ·obtain ⟨_, o, h1, h2⟩ := own_lt h.pool hb
   exact hc _ _ h1 h2
  ·unfold memBlks at hb
   simp only [List.mem_cons] at hb
   rcases hb with rfl | rfl | hb
   ·exact hl _ hN.1 (h.mem.lt _ (by simp [memBlks]))
   ·exact hl _ hN.2.1 (h.mem.lt _ (by simp [memBlks]))
   ·obtain ⟨p, hp, rfl⟩ := List.mem_map.1 hb
    exact hc _ _ (h.mem.page p hp) rfl
end Go.Proofs.YtiblhlaemmdphaaGreat
/- The walk of the builder's piece: the walk. -/
namespace Go.Proofs.YtiblhlaemmdphaaGreat
open Go Go.RowKit Go.BigFrame Go.Maps Go.MapKept
open Go.ChangeMaps (setBlock)
set_option maxRecDepth 100000 in
set_option maxHeartbeats 4000000 in
theorem piece_bd {w : World} {B bb mb pb fb mp : Nat} {vu : Value} {s z o root lv : Int} {q : M5} {L : List Pg} {E D : List (Int × M5)} {st : BS} (h : Bdr w B bb mb pb fb mp vu s z root L st) (hb : Bd s z o root E D st) (hq : (lv, q) ∈ E) (hlen : st.pl.used.length + 6 ≤ 137438953472) :
  Calls Tryz.prog 26 #[.pointer (some ⟨bb, 0, none⟩), .int .i64 lv, q.val] w fun e w' => ∃ vu' L', e = .returned (.int .i64 (pieceS s z root lv q st).2) ∧ Bdr w' B bb mb pb fb mp vu' s z root L' (pieceS s z root lv q st).1 ∧ BTurn B bb mb pb fb mp vu L vu' L' w w' := by
 have hlv := (hb.pcs _ hq).lv
 simp only at hlv
 have hway := Way.start hb hq
 unfold M5.val
 obtain ⟨c0, c1, c2, c3⟩ := h.blk.cells
 have hbl := h.blk.lt
 have hBw : B ≤ w.heap.size := by have := h.lo.1; omega
 have hbx : BoxM (w.alloc (.cells #[.int .u64 q.ipa, .int .u64 q.pa, .int .u64 q.sz, .int .i64 q.perm, .int .i64 q.kind] 59)) w.heap.size q := BoxM.new w q
 have hb0 := bone w (.cells #[.int .u64 q.ipa, .int .u64 q.pa, .int .u64 q.sz, .int .i64 q.perm, .int .i64 q.kind] 59)
 have h1 := h.later hb0
 have d2 := cell_lt hb0 c2 hbl
 have hz1 : (w.alloc (.cells #[.int .u64 q.ipa, .int .u64 q.pa, .int .u64 q.sz, .int .i64 q.perm, .int .i64 q.kind] 59)).heap.size = w.heap.size + 1 := by simp
 go_enter Tryz.func26, Tryz.ntmps26
 go_wp2_with fail
 generalize w.alloc (.cells #[.int .u64 q.ipa, .int .u64 q.pa, .int .u64 q.sz, .int .i64 q.perm, .int .i64 q.kind] 59) = w1 at *
 have hw1 : Below w.heap.size w w1 := hb0
 go_loopw [7, 8] (fun t k wr => ∃ (i : Nat) (a : Int) (vu' : Value) (L' : List Pg) (st' : BS), k = .int .i64 (2 + (i : Int)) ∧ t = .int .u64 a ∧ Way s z o root lv q E D st i a st' ∧ Bdr wr B bb mb pb fb mp vu' s z root L' st' ∧ BoxM wr w.heap.size q ∧ BTurn B bb mb pb fb mp vu L vu' L' w1 wr) (fun t k _ => (lv + 1 - intOf k).toNat)
 case atStart => exact ⟨0, root, vu, L, st, rfl, rfl, hway, h1, hbx, BTurn.refl _ _ _ _ _ _ _ _ _⟩
 case round =>
  obtain ⟨i, a, vu', L', st', rfl, rfl, hw, hB, hx, hT⟩ := hrel
  clear hway h1 hbx hb0 d2 c0 c1 c2 c3
  obtain ⟨x0, x1, x2, x3, x4⟩ := hx.cells
  by_cases hlt : i < (lv - 1).toNat
  ·have hlv' : 2 + (i : Int) ≤ lv := by omega
   have hk23 : 2 + (i : Int) = 2 ∨ 2 + (i : Int) = 3 := by omega
   have hab := fun W => above_any q (2 + i) W hk23
   unfold placeV at hab
   simp only at hab
   go_wp2_with fail
   refine (hab _).mono ?_; rintro e w2 ⟨rfl, hb2⟩
   clear hab
   have hB2 := hB.later hb2
   have hx2 := hx.below hb2 hx.lt
   have hT2 := hT.trans (BTurn.of_below (v := vu') (L := L') hb2 (by have := hB.lo.1; have := hB.blk.lt; omega))
   clear hB hx hT x0 x1 x2 x3 x4 hb2
   go_wp2_with fail
   have hkey : KeyOk (2 + (i : Int), q.ipa / szK (2 + i - 1)) := by
    have hi := q.hi
    unfold W64 at hi
    refine ⟨by simp only; omega, ?_⟩
    simp only
    unfold W64
    rcases szK_of (k := 2 + (i : Int) - 1) (by omega) with ⟨_, e⟩ | ⟨_, e⟩ | ⟨_, e⟩ <;> (rw [e]; omega)
   have hn0 : (w2.alloc (.cells #[.int .i64 (2 + i), .int .u64 (q.ipa / szK (2 + i - 1))] 107)).cell? ⟨w2.heap.size, 0, none⟩ = some (.int .i64 (2 + i)) := by simp [World.cell?_alloc_new]
   have hn1 : (w2.alloc (.cells #[.int .i64 (2 + i), .int .u64 (q.ipa / szK (2 + i - 1))] 107)).cell? ⟨w2.heap.size, 1, none⟩ = some (.int .u64 (q.ipa / szK (2 + i - 1))) := by simp [World.cell?_alloc_new]
   have hb3 := bone w2 (.cells #[.int .i64 (2 + i), .int .u64 (q.ipa / szK (2 + i - 1))] 107)
   have hz3 : w2.heap.size < (w2.alloc (.cells #[.int .i64 (2 + i), .int .u64 (q.ipa / szK (2 + i - 1))] 107)).heap.size := by simp
   have hB3 := hB2.later hb3
   have hx3 := hx2.below hb3 hx2.lt
   have hT3 := hT2.trans (BTurn.of_below (v := vu') (L := L') hb3 (by have := hB2.lo.1; have := hB2.blk.lt; omega))
   have hpl : w2.heap.size ∉ bdrBlks bb mb pb fb mp vu' L' := fun e => by have := (hB2.lt _ e).2; omega
   have hbn : w.heap.size ∉ bdrBlks bb mb pb fb mp vu' L' := fun e => by
    rcases hT2.blks _ e with e | e
    ·have := (h.lt _ e).2; omega
    ·omega
   generalize w2.alloc (.cells #[.int .i64 (2 + i), .int .u64 (q.ipa / szK (2 + i - 1))] 107) = w3 at *
   generalize w2.heap.size = pl at *
   clear hB2 hx2 hT2 hb3
   obtain ⟨c0, c1, c2, c3⟩ := hB3.blk.cells
   have hbl3 := hB3.blk.lt
   have hml3 := (MapKV.lt hB3.tab : mp < w3.heap.size)
   have hkeyK : ∀ e ∈ st'.tb, KeyOk e.1 := fun e he => by
    have := hw.bd.keyK e he
    refine ⟨by omega, ?_⟩
    unfold W64; omega
   have hlk := fun X : Later w3.heap.size w3 => tab_lookup (W := X.x) (MapKV.same hB3.tab (X.h.block mp hml3)) hw.bd.keyN hkeyK hkey
   unfold placeV at hlk
   simp only at hlk
   have y0 := later_cell (B := w3.heap.size) c3 hbl3
   have y1 := later_cell (B := w3.heap.size) hn0 hz3
   have y2 := later_cell (B := w3.heap.size) hn1 hz3
   cases hl : lookT st'.tb (2 + i, q.ipa / szK (2 + i - 1)) with
   | some b =>
    have hw' := hw.has hq hlt hl
    rw [hl] at hlk
    simp only at hlk
    refine region_later w3.heap.size w3 (Below.refl _ _) (by kernel_rfl) (by kernel_rfl) ?_
    repeat (go_big_quiet_step (fail))
    refine wpQuiet_nil ?_
    rintro _ ⟨X, rfl⟩
    have hX := X.h
    generalize X.x = w4 at *
    clear y0 y1 y2 hlk
    go_wp2_with fail
    refine ⟨⟨i + 1, b, vu', L', st', by go_num, rfl, hw', hB3.later hX, hx3.below hX hx3.lt, hT3.trans (BTurn.of_below (v := vu') (L := L') hX (by have := hB3.lo.1; omega))⟩, by simp [intOf]; omega⟩
   | none =>
    rw [hl] at hlk
    simp only at hlk
    have hused : st'.pl.used.length ≤ 137438953472 := by have := hw.used; omega
    have hfr := fun W (hb' : Bdr W B bb mb pb fb mp vu' s z root L' st') => frames_bt hb' hw.bd hused
    by_cases he : (frS s z 1 4096 st').2.2 = 0
    ·obtain ⟨hle, hp0, hp1, hnot, htb, hw'⟩ := hw.made hq hlt hl he
     refine region_later w3.heap.size w3 (Below.refl _ _) (by kernel_rfl) (by kernel_rfl) ?_
     repeat (go_big_quiet_step (fail))
     refine wpQuiet_nil ?_
     rintro _ ⟨X, rfl⟩
     have hX := X.h
     generalize X.x = w4 at *
     clear y0 y1 y2 hlk
     have hB4 := hB3.later hX
     have hx4 := hx3.below hX hx3.lt
     have hT4 := hT3.trans (BTurn.of_below (v := vu') (L := L') hX (by have := hB3.lo.1; omega))
     replace hn0 := cell_lt hX hn0 hz3
     replace hn1 := cell_lt hX hn1 hz3
     have hz4 := hX.size
     clear hB3 hx3 hT3 c0 c1 c2 c3 hX
     go_wp2_with fail
     refine (hfr _ hB4).mono ?_; rintro e w5 ⟨v5, L5, rfl, hB5, hT5⟩
     have hx5 : BoxM w5 w.heap.size q := (hT5.off.rest _ hx4.lt hbn).trans hx4
     have hn05 : w5.cell? ⟨pl, 0, none⟩ = some (.int .i64 (2 + i)) := by rw [cell_eq (hT5.off.rest pl (by omega) hpl)]; exact hn0
     have hn15 : w5.cell? ⟨pl, 1, none⟩ = some (.int .u64 (q.ipa / szK (2 + i - 1))) := by rw [cell_eq (hT5.off.rest pl (by omega) hpl)]; exact hn1
     have hpl5 : pl ∉ bdrBlks bb mb pb fb mp v5 L5 := fun e => by
      rcases hT5.blks _ e with e | e
      ·exact hpl e
      ·omega
     have hbn5 : w.heap.size ∉ bdrBlks bb mb pb fb mp v5 L5 := fun e => by
      rcases hT5.blks _ e with e | e
      ·exact hbn e
      ·have := hx4.lt; omega
     have hp5 : pl < w5.heap.size := by have := hT5.off.below.size; omega
     have hT6 := hT4.trans hT5
     clear hn0 hn1 hpl hbn hx4 hT4 hT5 hB4 hz3 hz4
     obtain ⟨x0, x1, x2, x3, x4⟩ := hx5.cells
     have hsl := fun W => slot_any a (2 + i - 1) q W (by omega)
     have hsw : W64 (slotV a q (2 + i - 1)) := by unfold slotV; rw [IntKind.wrap_u64]; unfold W64; omega
     unfold M5.val at hsl
     have hsub : IntKind.i64.wrap (2 + (i : Int) - 1) = 2 + (i : Int) - 1 := IntWalk.i64_in _ (by omega)
     generalize hat : (frS s z 1 4096 st').2.1 = at' at *
     generalize hfs : (frS s z 1 4096 st').1 = fs at *
     generalize hsv : slotV a q (2 + i - 1) = sl at *
     have hly := fun W (hb' : Bdr W B bb mb pb fb mp v5 s z root L5 fs) => lay_bt (at' := sl) (k := 2 + i - 1) (d := tabD at') hb' hsw hp0 hp1
     unfold tabD at hle htb hw'
     unfold tabD DescV.val at hly
     simp only at hly
     rw [hle] at hly
     go_wp2_with fail
     refine (hsl _).mono ?_; rintro e w6 ⟨rfl, hb6⟩
     have hB6 := hB5.later hb6
     have hx6 := hx5.below hb6 hx5.lt
     replace hn05 := cell_lt hb6 hn05 hp5
     replace hn15 := cell_lt hb6 hn15 hp5
     have hT7 := hT6.trans (BTurn.of_below (v := v5) (L := L5) hb6 (by have := hB5.lo.1; have := hB5.blk.lt; omega))
     have hz6 := hb6.size
     clear hsl hB5 hx5 hT6 hb6 x0 x1 x2 x3 x4
     go_wp2_with fail
     refine (hly _ hB6).mono ?_; rintro e w7 ⟨L7, rfl, hB7, hT8⟩
     have hx7 : BoxM w7 w.heap.size q := (hT8.off.rest _ hx6.lt hbn5).trans hx6
     have hn07 : w7.cell? ⟨pl, 0, none⟩ = some (.int .i64 (2 + i)) := by rw [cell_eq (hT8.off.rest pl (by omega) hpl5)]; exact hn05
     have hn17 : w7.cell? ⟨pl, 1, none⟩ = some (.int .u64 (q.ipa / szK (2 + i - 1))) := by rw [cell_eq (hT8.off.rest pl (by omega) hpl5)]; exact hn15
     have hbn7 : w.heap.size ∉ bdrBlks bb mb pb fb mp v5 L7 := fun e => by
      rcases hT8.blks _ e with e | e
      ·exact hbn5 e
      ·have := hx6.lt; omega
     have hp7 : pl < w7.heap.size := by have := hT8.off.below.size; omega
     have hT9 := hT7.trans hT8
     clear hn05 hn15 hpl5 hbn5 hx6 hT7 hT8 hB6 hp5 hz6 hly hle
     obtain ⟨c0, c1, c2, c3⟩ := hB7.blk.cells
     have hbl7 := hB7.blk.lt
     generalize (layS s z sl (2 + i - 1) ⟨1, at', 0, 0, false⟩ fs).1 = g at *
     have hst := fun X : Later w7.heap.size w7 => tab_store (W := X.x) (hB7.later X.h).tab (by rw [htb]; exact hkeyK) hkey (by rw [htb]; exact hnot) at'
     unfold placeV at hst
     simp only at hst
     go_wp2_with fail
     refine region_later_tl w7.heap.size w7 6 (Below.refl _ _) (by kernel_rfl) (by kernel_rfl) ?_
     have y0 := later_cell (B := w7.heap.size) c3 hbl7
     have y1 := later_cell (B := w7.heap.size) hn07 hp7
     have y2 := later_cell (B := w7.heap.size) hn17 hp7
     simp only [List.take_succ_cons, List.take_zero, List.drop_succ_cons, List.drop_zero]
     repeat (go_big_quiet_step (fail))
     refine wpQuiet_nil ?_
     rintro _ ⟨X, rfl⟩
     obtain ⟨o8, hup, htk⟩ := hst X
     have hX := X.h
     have hB8 := (hB7.later hX).stored htk
     have hx8 : BoxM (setBlock X.x mp o8) w.heap.size q := (setB_other o8 (fun e : w.heap.size = mp => hbn7 (by rw [e]; exact mem_bdr3 _ _ _ _ _ _ _))).trans (hx7.below hX hx7.lt)
     have hT10 := (hT9.trans (BTurn.of_below (v := v5) (L := L7) hX (by have := hB7.lo.1; omega))).trans (BTurn.of_set (v := v5) (L := L7) hB7.lo.2.2.1 o8)
     generalize X.x = w8 at *
     clear y0 y1 y2 hst
     go_wp2_with fail
     rw [htb] at hB8
     exact ⟨⟨i + 1, at', v5, L7, _, by go_num, rfl, hw', hB8, hx8, hT10⟩, by simp [intOf]; omega⟩
    ·have hdry := hw.dry hlt hl he
     replace hdry := Lib.hid hdry
     generalize hat : (frS s z 1 4096 st').2.1 = at' at *
     generalize hfs : (frS s z 1 4096 st').1 = fs at *
     generalize hfe : (frS s z 1 4096 st').2.2 = fe at *
     refine region_later w3.heap.size w3 (Below.refl _ _) (by kernel_rfl) (by kernel_rfl) ?_
     repeat (go_big_quiet_step (fail))
     refine wpQuiet_nil ?_
     rintro _ ⟨X, rfl⟩
     have hX := X.h
     generalize X.x = w4 at *
     clear y0 y1 y2 hlk
     have hB4 := hB3.later hX
     have hT4 := hT3.trans (BTurn.of_below (v := vu') (L := L') hX (by have := hB3.lo.1; omega))
     clear hB3 hx3 hT3 c0 c1 c2 c3 hX
     go_wp2_with fail
     refine (hfr _ hB4).mono ?_; rintro e w5 ⟨v5, L5, rfl, hB5, hT5⟩
     have hne : (fe != 0) = true := by simpa using he
     go_wp2_with fail
     go_ret
     have hdry := hdry.out
     exact ⟨v5, L5, by rw [hdry]; rfl, by rw [hdry]; exact hB5, (BTurn.of_below (v := vu) (L := L) hw1 hBw).trans (hT4.trans hT5)⟩
  ·have hnl : ¬ 2 + (i : Int) ≤ lv := by omega
   have hil : (lv - 1).toNat = i := by have := hw.le; omega
   have hpc : pieceS s z root lv q st = layS s z (slotV a q lv) lv (leafD lv q) st' := by
    have hp := hw.path
    rw [← hil] at hp
    exact piece_run hp rfl
   obtain ⟨x0, x1, x2, x3, x4⟩ := hx.cells
   have hxl := hx.lt
   have hq0 := (hw.bd.pcs _ hq).p0
   have hq1 := (hw.bd.pcs _ hq).p1
   simp only at hq0 hq1
   have hsl := fun W => slot_any a lv q W hlv
   have hsw : W64 (slotV a q lv) := by unfold slotV; rw [IntKind.wrap_u64]; unfold W64; omega
   unfold M5.val at hsl
   have hly := fun W (hb' : Bdr W B bb mb pb fb mp vu' s z root L' st') => lay_bt (at' := slotV a q lv) (k := lv) (d := leafD lv q) hb' hsw (by exact hq0) (by show q.pa < _; omega)
   generalize slotV a q lv = sl at *
   generalize layS s z sl lv (leafD lv q) st' = R at *
   replace hpc := Lib.hid hpc
   have hfin : ∀ w2, Below wr.heap.size wr w2 → ∀ (L8 : List Pg) (w8 : World), Bdr w8 B bb mb pb fb mp vu' s z root L8 R.1 → BTurn B bb mb pb fb mp vu' L' vu' L8 w2 w8 → ∃ vu' L', Ending.returned (.int .i64 R.2) = .returned (.int .i64 (pieceS s z root lv q st).2) ∧ Bdr w8 B bb mb pb fb mp vu' s z root L' (pieceS s z root lv q st).1 ∧ BTurn B bb mb pb fb mp vu L vu' L' w w8 := fun w2 hb2 L8 w8 hB8 hT8 => by
    have hpc := hpc.out
    exact ⟨vu', L8, by rw [hpc], by rw [hpc]; exact hB8, (BTurn.of_below (v := vu) (L := L) hw1 hBw).trans ((hT.trans (BTurn.of_below (v := vu') (L := L') hb2 (by have := hB.lo.1; have := hB.blk.lt; omega))).trans hT8)⟩
   have hBl := fun X : Later wr.heap.size wr => hB.later X.h
   unfold leafD DescV.val at hly
   replace hnl := Lib.hid hnl
   by_cases h3 : lv = 3
   all_goals
    first | rw [if_pos h3] at hly | rw [if_neg h3] at hly
    simp only at hly
    have hb3 : (lv == 3) = decide (lv = 3) := by by_cases h : lv = 3 <;> simp [h]
    first | rw [decide_eq_true h3] at hb3 | rw [decide_eq_false h3] at hb3
    replace h3 := Lib.hid h3
    replace hnl := hnl.out
    go_wp2_with fail
    refine region_later_tl wr.heap.size wr 14 (Below.refl _ _) (by kernel_rfl) (by kernel_rfl) ?_
    have y0 := later_cell (B := wr.heap.size) x0 hxl
    have y1 := later_cell (B := wr.heap.size) x1 hxl
    have y2 := later_cell (B := wr.heap.size) x2 hxl
    have y3 := later_cell (B := wr.heap.size) x3 hxl
    have y4 := later_cell (B := wr.heap.size) x4 hxl
    simp only [List.take_succ_cons, List.take_zero, List.drop_succ_cons, List.drop_zero]
    repeat (quiet_step ((go_at_call 57; exact quiet_later (Nat.le_refl _) (hsl _))))
    refine wpQuiet_nil ?_
    rintro _ ⟨X, rfl⟩
    have hX := X.h
    have hB4 := hBl X
    generalize X.x = w4 at *
    clear y0 y1 y2 y3 y4 hBl
    go_wp2_with fail
    refine (hly _ hB4).mono ?_; rintro e w8 ⟨L8, rfl, hB8, hT8⟩
    go_wp2_with fail
    go_ret
    exact hfin _ hX _ _ hB8 hT8
end Go.Proofs.YtiblhlaemmdphaaGreat
/- The walk of Build. -/
namespace Go.Proofs.YtiblhlaemmdphaaGreat
open Go Go.RowKit Go.Shelf Go.BigFrame Go.Maps Go.MapKept
open Go.ChangeMaps (setBlock)
attribute [local go_sem] Oper.semAt_some
structure MTurn (B mb pb fb : Nat) (v1 : Value) (L1 : List Pg) (v2 : Value) (L2 : List Pg) (X Y : World) : Prop where
 off : OffL B (mplBlks mb pb fb v1 L1) X Y
 blks : ∀ b ∈ mplBlks mb pb fb v2 L2, b ∈ mplBlks mb pb fb v1 L1 ∨ X.heap.size ≤ b
theorem MTurn.of_below {B mb pb fb : Nat} {v : Value} {L : List Pg} {X Y : World} (hb : Below X.heap.size X Y) (hB : B ≤ X.heap.size) : MTurn B mb pb fb v L v L X Y := ⟨OffL.of_below hb hB, fun _ h => .inl h⟩
theorem MTurn.of_bdr {B bb mb pb fb mp : Nat} {v1 v2 : Value} {L1 L2 : List Pg} {X Y Z : World} (hb : Below X.heap.size X Y) (hB : B ≤ X.heap.size) (h1 : X.heap.size ≤ bb) (h2 : X.heap.size ≤ mp) (h : BTurn B bb mb pb fb mp v1 L1 v2 L2 Y Z) : MTurn B mb pb fb v1 L1 v2 L2 X Z := by
 refine ⟨⟨(hb.mono hB).trans h.off.below, fun k hk hn => (h.off.rest k (Nat.lt_of_lt_of_le hk hb.size) fun e => ?_).trans (hb.block k hk)⟩, fun b hm => ?_⟩
 ·rcases mem_bdr.1 e with e | e | e
  ·omega
  ·omega
  ·exact hn e
 ·rcases h.blks b (mem_bdr.2 (.inr (.inr hm))) with e | e
  ·rcases mem_bdr.1 e with e | e | e
   ·exact .inr (by omega)
   ·exact .inr (by omega)
   ·exact .inl e
  ·exact .inr (Nat.le_trans hb.size e)
theorem MTurn.late {B mb pb fb : Nat} {v1 v2 : Value} {L1 L2 : List Pg} {X Y : World} (h : MTurn B mb pb fb v1 L1 v2 L2 X Y) (hB : B ≤ X.heap.size) {D : Nat} (hD : X.heap.size ≤ D) (o : Obj) : MTurn B mb pb fb v1 L1 v2 L2 X (Y.putObj D o) :=
 ⟨⟨⟨h.off.below.os, h.off.below.tape, h.off.below.output, by simpa using h.off.below.size, fun k hk => (World.putObj_heap_other (by omega)).trans (h.off.below.block k hk)⟩, fun k hk hn => (World.putObj_heap_other (by omega)).trans (h.off.rest k hk hn)⟩, h.blks⟩
theorem MPl.grown {W W' : World} {B mb pb fb : Nat} {vu : Value} {s z : Int} {L : List Pg} {pl : Pl} {pg : PG} {row : Option Nat} {N : Nat} (h : MPl W B mb pb fb vu s z L pl pg) (hN : mb < N ∧ pb < N) (hg : W.grownBy W' row) (hr : ∀ r, row = some r → N ≤ r ∧ ∃ o : Obj, W.heap[r]? = some o ∧ o.isCells = false) : MPl W' B mb pb fb vu s z L pl pg := by
 have hc : ∀ (b : Nat) (o : Obj), W.heap[b]? = some o → o.isCells = true → W'.heap[b]? = W.heap[b]? := fun b o ho hcl => grownBy_keeps_cells hg (fun r e => (hr r e).2) ho hcl
 have hl : ∀ b, b < N → b < W.heap.size → W'.heap[b]? = W.heap[b]? := fun b h1 h2 => hg.block b h2 fun e => by have := (hr b e.symm).1; omega
 refine h.same fun b hb => ?_
 rcases mem_mpl.1 hb with rfl | hb | hb
 ·exact hc _ _ h.pool.blk rfl
 ·obtain ⟨_, o, h1, h2⟩ := own_lt h.pool hb
  exact hc _ _ h1 h2
 ·unfold memBlks at hb
  simp only [List.mem_cons] at hb
  rcases hb with rfl | rfl | hb
  ·exact hl _ hN.1 (h.mem.lt _ (by simp [memBlks]))
  ·exact hl _ hN.2 (h.mem.lt _ (by simp [memBlks]))
  ·obtain ⟨p, hp, rfl⟩ := List.mem_map.1 hb
   exact hc _ _ (h.mem.page p hp) rfl
def Done (w : World) (B mb pb fb r6 r7 : Nat) (vu : Value) (L : List Pg) (s z : Int) (R : BS × Int × Int) (W : World) : Prop :=
 Boxed W r6 26 (.int .u64 R.2.1) ∧ Boxed W r7 35 (.int .i64 R.2.2) ∧ ∃ vu' L', MPl W B mb pb fb vu' s z L' R.1.pl R.1.pg ∧ MTurn B mb pb fb vu L vu' L' w W
theorem Done.turned {w W : World} {B mb pb fb r6 r7 : Nat} {vu : Value} {L : List Pg} {s z : Int} {R : BS × Int × Int} (h : Done w B mb pb fb r6 r7 vu L s z R W) {N D : Nat} (hN : mb < N ∧ pb < N ∧ w.heap.size ≤ N) (hB : B ≤ w.heap.size) (hD : N ≤ D) {o : Obj} (hd : W.heap[D]? = some o) (ho : o.isCells = false) (o' : Obj) : Done w B mb pb fb r6 r7 vu L s z R (W.putObj D o') := by
 obtain ⟨h1, h2, vu', L', h3, h4⟩ := h
 have hg := grownBy_putObj' W D o'
 have hr : ∀ r, some D = some r → N ≤ r ∧ ∃ o : Obj, W.heap[r]? = some o ∧ o.isCells = false := fun r e => by cases e; exact ⟨hD, o, hd, ho⟩
 exact ⟨Boxed.keptOff h1 hg fun r e => (hr r e).2, Boxed.keptOff h2 hg fun r e => (hr r e).2, vu', L', h3.grown ⟨hN.1, hN.2.1⟩ hg hr, h4.late hB (by omega) o'⟩
theorem MTurn.set {B mb pb fb : Nat} {v1 v2 : Value} {L1 L2 : List Pg} {X Y : World} (h : MTurn B mb pb fb v1 L1 v2 L2 X Y) (hB : B ≤ X.heap.size) {r : Nat} (hr : X.heap.size ≤ r) (u : Value) : MTurn B mb pb fb v1 L1 v2 L2 X (Y.setCell ⟨r, 0, none⟩ u) :=
 ⟨⟨⟨h.off.below.os, h.off.below.tape, h.off.below.output, by simpa using h.off.below.size, fun k hk => (Below.heap_setCell _ _ _ _ (by simp; omega)).trans (h.off.below.block k hk)⟩, fun k hk hn => (Below.heap_setCell _ _ _ _ (by simp; omega)).trans (h.off.rest k hk hn)⟩, h.blks⟩
theorem MPl.set {W : World} {B mb pb fb : Nat} {vu : Value} {s z : Int} {L : List Pg} {pl : Pl} {pg : PG} (h : MPl W B mb pb fb vu s z L pl pg) {r : Nat} (hr : r ∉ mplBlks mb pb fb vu L) (u : Value) : MPl (W.setCell ⟨r, 0, none⟩ u) B mb pb fb vu s z L pl pg :=
 h.same fun b hb => Below.heap_setCell _ _ _ _ (by simp; rintro rfl; exact hr hb)
theorem Done.stored {w W1 : World} {B mb pb fb r6 r7 : Nat} {vu vu' v6 v7 : Value} {L L' : List Pg} {s z : Int} {R : BS × Int × Int} (x6 : Boxed W1 r6 26 v6) (x7 : Boxed W1 r7 35 v7) (hne : r6 ≠ r7) (hm : MPl W1 B mb pb fb vu' s z L' R.1.pl R.1.pg) (ht : MTurn B mb pb fb vu L vu' L' w W1) (h6 : w.heap.size ≤ r6 ∧ w.heap.size ≤ r7) (hn : r6 ∉ mplBlks mb pb fb vu' L' ∧ r7 ∉ mplBlks mb pb fb vu' L') (hB : B ≤ w.heap.size) {a b : Int} (ha : R.2.1 = a) (hb : R.2.2 = b) :
  Done w B mb pb fb r6 r7 vu L s z R ((W1.setCell ⟨r6, 0, none⟩ (.int .u64 a)).setCell ⟨r7, 0, none⟩ (.int .i64 b)) := by
 subst ha hb
 exact ⟨boxed_off (Boxed.set _ x6) hne _, Boxed.set _ (boxed_off x7 (fun e => hne e.symm) _), vu', L', (hm.set hn.1 _).set hn.2 _, (ht.set hB h6.1 _).set hB h6.2 _⟩
theorem leaves_marksJ {F : Fence} {n : Nat} {P : Program} {fn : Func} {tmps : Array Value} {R : Ending → World → Prop} {N : Nat} {J : World → Prop} (hJ : ∀ W D o', N ≤ D → W.heap[D]? = some (.deferred (some [])) → J W → J (W.putObj D o')) (hR : ∀ W', J W' → LeavesInM F n P fn tmps R [] .returning W') :
  ∀ (ds : List Deferred) (up : Nat) (W : World), Marks W N up ds → J W → LeavesInM F n P fn tmps R ds .returning W
 | [], _, W, _, hb => hR W hb
 | d :: ds, up, W, ⟨D, h1, h2, h3, h4, h5⟩, hb => by
  subst h1
  refine ⟨by simp, .inl ⟨_, _, rfl, run_takeDeferred h4, ?_⟩⟩
  refine leaves_marksJ hJ hR ds D _ (h5.kept fun D' a b h => ?_) (hJ _ _ _ h2 h4 hb)
  rw [World.putObj_heap_other (by omega)]
  exact h
theorem boxed_off' {W : World} {B B' : Nat} {t : TypeId} {v : Value} (h : Boxed W B t v) (hne : B ≠ B') (i : Nat) (u : Value) : Boxed (W.setCell ⟨B', i, none⟩ u) B t v := boxed_off h hne u
theorem BTurn.box {B bb mb pb fb mp : Nat} {v1 v2 : Value} {L1 L2 : List Pg} {X Y : World} (h : BTurn B bb mb pb fb mp v1 L1 v2 L2 X Y) {r : Nat} {t : TypeId} {v : Value} (hx : Boxed X r t v) (hn : r ∉ bdrBlks bb mb pb fb mp v1 L1) : Boxed Y r t v ∧ r ∉ bdrBlks bb mb pb fb mp v2 L2 :=
 ⟨(h.off.rest r (Boxed.lt hx) hn).trans hx, fun e => (h.blks r e).elim hn fun e => by have := Boxed.lt hx; omega⟩
theorem BdrBlk.frozen {W : World} {bb mb fb mp : Nat} {root : Int} (h : BdrBlk W bb mb fb mp root) (o : Nat) : W.frozen? ⟨bb, o, none⟩ = false := by
 unfold BdrBlk at h
 simp [World.frozen?, h]
section
variable {w2 : World} {B bb mb pb fb mp r6 r7 r10 : Nat} {vu : Value} {s z o root : Int} {L : List Pg} {E : List (Int × M5)} {st0 : BS}
structure BW (w2 : World) (B bb mb pb fb mp r6 r7 r10 : Nat) (vu : Value) (s z root : Int) (L : List Pg) (vu' : Value) (L' : List Pg) (st' : BS) (c : Int) (W : World) : Prop where
 bdr : Bdr W B bb mb pb fb mp vu' s z root L' st'
 turn : BTurn B bb mb pb fb mp vu L vu' L' w2 W
 x6 : Boxed W r6 26 (.int .u64 0)
 x7 : Boxed W r7 35 (.int .i64 c)
 x10 : Boxed W r10 69 (.pointer (some ⟨bb, 0, none⟩))
theorem BW.grown {vu' : Value} {L' : List Pg} {st' : BS} {c : Int} {W W' : World} (h : BW w2 B bb mb pb fb mp r6 r7 r10 vu s z root L vu' L' st' c W) {N : Nat} {row : Option Nat} (hN : mb < N ∧ pb < N ∧ mp < N ∧ w2.heap.size ≤ N ∧ B ≤ w2.heap.size) (hg : W.grownBy W' row) (hr : ∀ r, row = some r → N ≤ r ∧ ∃ o : Obj, W.heap[r]? = some o ∧ o.isCells = false) : BW w2 B bb mb pb fb mp r6 r7 r10 vu s z root L vu' L' st' c W' := by
 refine ⟨h.bdr.grown ⟨hN.1, hN.2.1, hN.2.2.1⟩ hg hr, ⟨⟨ownFrom_below (β := Unit) (n₀ := B) (B := N) hN.2.2.2.2 (by omega) () W W' row h.turn.off.below hg hr, fun k hk hn => ?_⟩, h.turn.blks⟩, Boxed.keptOff h.x6 hg fun r e => (hr r e).2, Boxed.keptOff h.x7 hg fun r e => (hr r e).2, Boxed.keptOff h.x10 hg fun r e => (hr r e).2⟩
 exact (hg.block k (by have := h.turn.off.below.size; omega) (fun e => by have := (hr k e.symm).1; omega)).trans (h.turn.off.rest k hk hn)
theorem BW.set {vu' : Value} {L' : List Pg} {st' : BS} {c : Int} {W : World} (h : BW w2 B bb mb pb fb mp r6 r7 r10 vu s z root L vu' L' st' c W) {m : Nat} (hm : m ∉ bdrBlks bb mb pb fb mp vu' L') (h6 : r6 ≠ m ∧ r7 ≠ m ∧ r10 ≠ m) (hw : w2.heap.size ≤ m) (hB : B ≤ w2.heap.size) (i : Nat) (u : Value) : BW w2 B bb mb pb fb mp r6 r7 r10 vu s z root L vu' L' st' c (W.setCell ⟨m, i, none⟩ u) := by
 have ho : ∀ b, b ≠ m → (W.setCell ⟨m, i, none⟩ u).heap[b]? = W.heap[b]? := fun b hb => Below.heap_setCell _ _ _ _ (by simpa using hb)
 refine ⟨h.bdr.same fun b hb => ho b (fun e => hm (e ▸ hb)), ⟨⟨⟨h.turn.off.below.os, h.turn.off.below.tape, h.turn.off.below.output, by simpa using h.turn.off.below.size, fun k hk => (ho k (by omega)).trans (h.turn.off.below.block k hk)⟩, fun k hk hn => (ho k (by omega)).trans (h.turn.off.rest k hk hn)⟩, h.turn.blks⟩, (ho _ h6.1).trans h.x6, (ho _ h6.2.1).trans h.x7, (ho _ h6.2.2).trans h.x10⟩
theorem BW.later {vu' : Value} {L' : List Pg} {st' : BS} {c : Int} {W W' : World} (h : BW w2 B bb mb pb fb mp r6 r7 r10 vu s z root L vu' L' st' c W) (hb : Below W.heap.size W W') : BW w2 B bb mb pb fb mp r6 r7 r10 vu s z root L vu' L' st' c W' :=
 ⟨h.bdr.later hb, h.turn.trans (BTurn.of_below (v := vu') (L := L') hb (by have := h.bdr.lo.1; have := h.bdr.blk.lt; omega)), Boxed.below h.x6 hb (Boxed.lt h.x6), Boxed.below h.x7 hb (Boxed.lt h.x7), Boxed.below h.x10 hb (Boxed.lt h.x10)⟩
theorem BW.off {vu' : Value} {L' : List Pg} {st' : BS} {c : Int} {W : World} (h : BW w2 B bb mb pb fb mp r6 r7 r10 vu s z root L vu' L' st' c W) {r : Nat} (hr : r < w2.heap.size) (hn : r ∉ bdrBlks bb mb pb fb mp vu L) : r ∉ bdrBlks bb mb pb fb mp vu' L' := fun e => by
 rcases h.turn.blks r e with e | e
 ·exact hn e
 ·omega
theorem BW.step {v1 v2 : Value} {L1 L2 : List Pg} {st1 st2 : BS} {W W' : World} (h : BW w2 B bb mb pb fb mp r6 r7 r10 vu s z root L v1 L1 st1 0 W) (hn : (r6 < w2.heap.size ∧ r6 ∉ bdrBlks bb mb pb fb mp vu L) ∧ (r7 < w2.heap.size ∧ r7 ∉ bdrBlks bb mb pb fb mp vu L) ∧ (r10 < w2.heap.size ∧ r10 ∉ bdrBlks bb mb pb fb mp vu L))
  (hb : Bdr W' B bb mb pb fb mp v2 s z root L2 st2) (ht : BTurn B bb mb pb fb mp v1 L1 v2 L2 W W') : BW w2 B bb mb pb fb mp r6 r7 r10 vu s z root L v2 L2 st2 0 W' :=
 ⟨hb, h.turn.trans ht, (ht.box h.x6 (h.off hn.1.1 hn.1.2)).1, (ht.box h.x7 (h.off hn.2.1.1 hn.2.1.2)).1, (ht.box h.x10 (h.off hn.2.2.1 hn.2.2.2)).1⟩
def BI (w2 : World) (B bb mb pb fb mp r6 r7 r10 : Nat) (vu : Value) (s z o root : Int) (L : List Pg) (E : List (Int × M5)) (st0 : BS) (P : Nat → Prop) (D : List (Int × M5)) (W : World) : Prop :=
 ∃ vu' L' st', piecesS s z root D st0 = (st', 0) ∧ Bd s z o root E D st' ∧ st'.pl.used.length ≤ st0.pl.used.length + 6 * D.length ∧ BW w2 B bb mb pb fb mp r6 r7 r10 vu s z root L vu' L' st' 0 W ∧ ∀ b ∈ bdrBlks bb mb pb fb mp vu' L', P b
def BErr (w : World) (B mb pb fb r6 r7 : Nat) (vu : Value) (s z root : Int) (L : List Pg) (st0 : BS) (P : Nat → Prop) (D : List (Int × M5)) (W : World) : Prop :=
 ∃ vu' L' st' c, piecesS s z root D st0 = (st', c) ∧ c ≠ 0 ∧ MPl W B mb pb fb vu' s z L' st'.pl st'.pg ∧ MTurn B mb pb fb vu L vu' L' w W ∧ Boxed W r6 26 (.int .u64 0) ∧ Boxed W r7 35 (.int .i64 c) ∧ ∀ b ∈ mplBlks mb pb fb vu' L', P b
theorem BI.wide {P P' : Nat → Prop} {D : List (Int × M5)} {W : World} (h : BI w2 B bb mb pb fb mp r6 r7 r10 vu s z o root L E st0 P D W) (hn : ∀ b, P b → P' b) : BI w2 B bb mb pb fb mp r6 r7 r10 vu s z o root L E st0 P' D W := by
 obtain ⟨v', L', st', h1, h2, h3, h4, h5⟩ := h
 exact ⟨v', L', st', h1, h2, h3, h4, fun b hb => hn b (h5 b hb)⟩
theorem BI.now {P : Nat → Prop} {D : List (Int × M5)} {W : World} (h : BI w2 B bb mb pb fb mp r6 r7 r10 vu s z o root L E st0 P D W) : BI w2 B bb mb pb fb mp r6 r7 r10 vu s z o root L E st0 (fun b => P b ∧ b < W.heap.size) D W := by
 obtain ⟨v', L', st', h1, h2, h3, h4, h5⟩ := h
 exact ⟨v', L', st', h1, h2, h3, h4, fun b hb => ⟨h5 b hb, (h4.bdr.lt b hb).2⟩⟩
theorem BI.grown {P : Nat → Prop} {D : List (Int × M5)} {W W' : World} (h : BI w2 B bb mb pb fb mp r6 r7 r10 vu s z o root L E st0 P D W) {N : Nat} {row : Option Nat} (hN : mb < N ∧ pb < N ∧ mp < N ∧ w2.heap.size ≤ N ∧ B ≤ w2.heap.size) (hg : W.grownBy W' row) (hr : ∀ r, row = some r → N ≤ r ∧ ∃ o : Obj, W.heap[r]? = some o ∧ o.isCells = false) : BI w2 B bb mb pb fb mp r6 r7 r10 vu s z o root L E st0 P D W' := by
 obtain ⟨v', L', st', h1, h2, h3, h4, h5⟩ := h
 exact ⟨v', L', st', h1, h2, h3, h4.grown hN hg hr, h5⟩
theorem BErr.grown {P : Nat → Prop} {D : List (Int × M5)} {w W W' : World} (h : BErr w B mb pb fb r6 r7 vu s z root L st0 P D W) {N : Nat} {row : Option Nat} (hN : mb < N ∧ pb < N ∧ w.heap.size ≤ N ∧ B ≤ w.heap.size) (hg : W.grownBy W' row) (hr : ∀ r, row = some r → N ≤ r ∧ ∃ o : Obj, W.heap[r]? = some o ∧ o.isCells = false) : BErr w B mb pb fb r6 r7 vu s z root L st0 P D W' := by
 obtain ⟨v', L', st', c, h1, h2, h3, h4, h5, h6, h7⟩ := h
 refine ⟨v', L', st', c, h1, h2, h3.grown ⟨hN.1, hN.2.1⟩ hg hr, ⟨⟨ownFrom_below (β := Unit) (n₀ := B) (B := N) hN.2.2.2 (by omega) () W W' row h4.off.below hg hr, fun k hk hn => ?_⟩, h4.blks⟩, Boxed.keptOff h5 hg fun r e => (hr r e).2, Boxed.keptOff h6 hg fun r e => (hr r e).2, h7⟩
 exact (hg.block k (by have := h4.off.below.size; omega) (fun e => by have := (hr k e.symm).1; omega)).trans (h4.off.rest k hk hn)
theorem BErr.set {P : Nat → Prop} {D : List (Int × M5)} {w W : World} (h : BErr w B mb pb fb r6 r7 vu s z root L st0 P D W) {m : Nat} (hm : ∀ b, P b → b ≠ m) (h6 : r6 ≠ m ∧ r7 ≠ m) (hw : w.heap.size ≤ m) (hB : B ≤ w.heap.size) (i : Nat) (u : Value) : BErr w B mb pb fb r6 r7 vu s z root L st0 P D (W.setCell ⟨m, i, none⟩ u) := by
 obtain ⟨v', L', st', c, h1, h2, h3, h4, h5, h6', h7⟩ := h
 have ho : ∀ b, b ≠ m → (W.setCell ⟨m, i, none⟩ u).heap[b]? = W.heap[b]? := fun b hb => Below.heap_setCell _ _ _ _ (by simpa using hb)
 exact ⟨v', L', st', c, h1, h2, h3.same fun b hb => ho b (hm b (h7 b hb)), ⟨⟨⟨h4.off.below.os, h4.off.below.tape, h4.off.below.output, by simpa using h4.off.below.size, fun k hk => (ho k (by omega)).trans (h4.off.below.block k hk)⟩, fun k hk hn => (ho k (by omega)).trans (h4.off.rest k hk hn)⟩, h4.blks⟩, (ho _ h6.1).trans h5, (ho _ h6.2).trans h6', h7⟩
theorem Bdr.late {W : World} {B bb mb pb fb mp : Nat} {vu : Value} {s z root : Int} {L : List Pg} {st : BS} (h : Bdr W B bb mb pb fb mp vu s z root L st) {N k : Nat} (hN : mb < N ∧ pb < N ∧ mp < N) (hk : N ≤ k) (hm : k ∈ bdrBlks bb mb pb fb mp vu L) : ∃ o : Obj, W.heap[k]? = some o ∧ o.isCells = true := by
 rcases mem_bdr.1 hm with rfl | rfl | hb
 ·exact ⟨_, h.blk, rfl⟩
 ·omega
 ·rcases mem_mpl.1 hb with rfl | hb | hb
  ·exact ⟨_, h.pool.blk, rfl⟩
  ·exact (own_lt h.pool hb).2
  ·unfold memBlks at hb
   simp only [List.mem_cons] at hb
   rcases hb with rfl | rfl | hb
   ·omega
   ·omega
   ·obtain ⟨p, hp, rfl⟩ := List.mem_map.1 hb
    exact ⟨_, h.mem.page p hp, rfl⟩
theorem BI.later {P : Nat → Prop} {D : List (Int × M5)} {W W' : World} (h : BI w2 B bb mb pb fb mp r6 r7 r10 vu s z o root L E st0 P D W) (hb : Below W.heap.size W W') : BI w2 B bb mb pb fb mp r6 r7 r10 vu s z o root L E st0 P D W' := by
 obtain ⟨v', L', st', h1, h2, h3, h4, h5⟩ := h
 exact ⟨v', L', st', h1, h2, h3, h4.later hb, h5⟩
theorem BI.set {P : Nat → Prop} {D : List (Int × M5)} {W : World} (h : BI w2 B bb mb pb fb mp r6 r7 r10 vu s z o root L E st0 P D W) {m : Nat} (hm : ∀ b, P b → b ≠ m) (h6 : r6 ≠ m ∧ r7 ≠ m ∧ r10 ≠ m) (hw : w2.heap.size ≤ m) (hB : B ≤ w2.heap.size) (i : Nat) (u : Value) : BI w2 B bb mb pb fb mp r6 r7 r10 vu s z o root L E st0 P D (W.setCell ⟨m, i, none⟩ u) := by
 obtain ⟨v', L', st', h1, h2, h3, h4, h5⟩ := h
 exact ⟨v', L', st', h1, h2, h3, h4.set (fun e => hm m (h5 m e) rfl) h6 hw hB i u, h5⟩
end
set_option maxRecDepth 100000 in
set_option maxHeartbeats 4000000 in
theorem build_off {w : World} {B mb pb fb : Nat} {vu : Value} {s z : Int} {L : List Pg} {pl : Pl} {pg : PG} (h : MPl w B mb pb fb vu s z L pl pg) (hok : PlOk pl) (hi : PlInv pl) (hlo : s ≤ pl.from' ∧ pl.from' + pl.count * 4096 ≤ s + z ∧ 0 ≤ s ∧ s + z ≤ 1099511627776)
  (v : Value) (l : List M5) (hv : RowM w v l) (hvB : ∀ b o n c, v = .slice (some ⟨b, o, none⟩) n c → l ≠ [] → b ∉ mplBlks mb pb fb vu L) (hl : l.length ≤ 100000) (hlen0 : (needV l).2 = 0 → pl.used.length + 3 + 6 * (allP l).length + 6 ≤ 137438953472) :
  Calls Tryz.prog 10 #[.pointer (some ⟨mb, 0, none⟩), .pointer (some ⟨fb, 0, none⟩), v] w fun e w' => ∃ vu' L', e = .returned (.tuple #[.int .u64 (buildS s z l pl pg).2.1, .int .i64 (buildS s z l pl pg).2.2]) ∧ MPl w' B mb pb fb vu' s z L' (buildS s z l pl pg).1.pl (buildS s z l pl pg).1.pg ∧ MTurn B mb pb fb vu L vu' L' w w' := by
 have hB : B ≤ w.heap.size := by have := h.lo.1; have := h.pool.lt; omega
 have hnd := fun W h => need_any v l W h hl
 have hmb := h.mem.lt mb (by simp [memBlks])
 have hpb := h.mem.lt pb (by simp [memBlks])
 obtain ⟨a1, cp1, rfl, _, hc1⟩ := hv
 have hv : RowM w (.slice a1 l.length cp1) l := ⟨a1, cp1, rfl, by assumption, hc1⟩
 refine (callsIn_wide (n := 9)).1 ?_
 refine callsIn_of_wp_marks Tryz.func10 rfl trivial ?_ rfl
 simp only [Tryz.ntmps10, List.size_toArray, List.length_cons, List.length_nil, Nat.reduceAdd, Nat.reduceSub, Array.replicate_succ, Array.replicate_zero, List.push_toArray, List.append_toArray, List.nil_append, List.cons_append]
 have hb0 : Below w.heap.size w ((w.alloc (.cells #[.int .u64 0] 26)).alloc (.cells #[.int .i64 0] 35)) := bthen (bone _ _) (bone _ _)
 have hx6 : Boxed ((w.alloc (.cells #[.int .u64 0] 26)).alloc (.cells #[.int .i64 0] 35)) w.heap.size 26 (.int .u64 0) := (Boxed.new w _ _).alloc _
 have hx7 : Boxed ((w.alloc (.cells #[.int .u64 0] 26)).alloc (.cells #[.int .i64 0] 35)) (w.heap.size + 1) 35 (.int .i64 0) := by have := Boxed.new (w.alloc (.cells #[.int .u64 0] 26)) 35 (.int .i64 0); simpa using this
 have hz0 : ((w.alloc (.cells #[.int .u64 0] 26)).alloc (.cells #[.int .i64 0] 35)).heap.size = w.heap.size + 2 := by simp
 gi_wp2
 generalize (w.alloc (.cells #[.int .u64 0] 26)).alloc (.cells #[.int .i64 0] 35) = w0 at *
 refine ⟨trivial, ?_⟩
 refine (callsIn_wide.2 (hnd _ (hv.below hb0))).mono ?_; rintro e w1 ⟨rfl, hb1⟩
 have hx6 := Boxed.below hx6 hb1 (Boxed.lt hx6)
 have hx7 := Boxed.below hx7 hb1 (Boxed.lt hx7)
 have hb2 := bthen hb0 hb1
 have hz1 := hb1.size
 have h1 := h.later hb2
 have hv1 := hv.below hb2
 clear hb1 hnd hb0
 have f6 := Boxed.frozen hx6
 have f7 := Boxed.frozen hx7
 have c6 := Boxed.cell hx6
 have c7 := Boxed.cell hx7
 have hbad := buildS_bad (s := s) (z := z) (l := l) (pl := pl) (pg := pg)
 by_cases hn : (needV l).2 = 0
 ·clear hbad
  have hlen := hlen0 hn
  clear hlen0
  generalize hne : needV l = ne at *
  obtain ⟨n1, n2⟩ := ne
  simp only at hn
  subst hn
  have hmm := @run_makeMap Tryz.prog
  obtain ⟨w2, hw2⟩ : ∃ w2, w2 = ((w1.alloc (.map #[] 0)).alloc (.cells #[.pointer (some ⟨mb, 0, none⟩), .pointer (some ⟨fb, 0, none⟩), .int .u64 0, .map (some w1.heap.size)] 72)).alloc (.cells #[.pointer (some ⟨w1.heap.size + 1, 0, none⟩)] 69) := ⟨_, rfl⟩
  have hb12 : Below w1.heap.size w1 w2 := by rw [hw2]; exact bthen (bthen (bone _ _) (bone _ _)) (bone _ _)
  have hz2 : w2.heap.size = w1.heap.size + 3 := by rw [hw2]; simp
  have hblk : BdrBlk w2 (w1.heap.size + 1) mb fb w1.heap.size 0 := by
   unfold BdrBlk
   rw [hw2, (bone _ _).block _ (by simp)]
   have := World.alloc_heap_new (w1.alloc (.map #[] 0)) (.cells #[.pointer (some ⟨mb, 0, none⟩), .pointer (some ⟨fb, 0, none⟩), .int .u64 0, .map (some w1.heap.size)] 72)
   simpa using this
  have htab : TabKV w2 w1.heap.size [] := by
   unfold TabKV
   rw [hw2]
   exact ((MapKV.new w1).same ((bone _ _).block _ (by simp))).same ((bone _ _).block _ (by simp; omega))
  have x10 : Boxed w2 (w1.heap.size + 2) 69 (.pointer (some ⟨w1.heap.size + 1, 0, none⟩)) := by
   have := Boxed.new ((w1.alloc (.map #[] 0)).alloc (.cells #[.pointer (some ⟨mb, 0, none⟩), .pointer (some ⟨fb, 0, none⟩), .int .u64 0, .map (some w1.heap.size)] 72)) 69 (.pointer (some ⟨w1.heap.size + 1, 0, none⟩))
   rw [hw2]
   simpa using this
  have hB2 := h1.bdr (bb := w1.heap.size + 1) (mp := w1.heap.size) (root := 0) hb12 (by omega) (by omega) (by omega) (by omega) hblk htab
  have x6 := Boxed.below hx6 hb12 (Boxed.lt hx6)
  have x7 := Boxed.below hx7 hb12 (Boxed.lt hx7)
  have hv2 := hv1.below hb12
  have hN6 := Boxed.lt hx6
  have hN7 := Boxed.lt hx7
  have hfr := frames2_bt hB2 hok hi hlo (by omega)
  have hgd := allP_ok (needV_ok (l := l) (by rw [hne])).1
  have hst := start_k (s := s) (z := z) (E := allP l) hok hi hlo (by have := h.mem.ok; rw [h.ab] at this; exact this) hgd.1 hgd.2
  gi_wp2
  rw [← hw2]
  refine ⟨trivial, ?_⟩
  refine (callsIn_wide.2 hfr).mono ?_; rintro e w3 ⟨v3, L3, rfl, hB3, hT3⟩
  have hnm : ∀ r, w.heap.size ≤ r → r ≠ w1.heap.size → r ≠ w1.heap.size + 1 → r ∉ bdrBlks (w1.heap.size + 1) mb pb fb w1.heap.size vu L := fun r h0 h1 h2 e => by
   rcases mem_bdr.1 e with e | e | e
   ·omega
   ·omega
   ·have := (h.lt _ e).2; omega
  have hn6 := hnm w.heap.size (Nat.le_refl _) (by omega) (by omega)
  have hn7 := hnm (w.heap.size + 1) (by omega) (by omega) (by omega)
  have hn10 := hnm (w1.heap.size + 2) (by omega) (by omega) (by omega)
  clear hnm
  have hkeep : ∀ b, b < w.heap.size → b ∉ mplBlks mb pb fb vu L → b ∉ bdrBlks (w1.heap.size + 1) mb pb fb w1.heap.size vu L ∧ w2.heap[b]? = w.heap[b]? := fun b h1 h2 => ⟨fun e => by
   rcases mem_bdr.1 e with e | e | e
   ·omega
   ·omega
   ·exact h2 e, (bthen hb2 hb12).block b h1⟩
  replace hkeep := Lib.hid hkeep
  clear hfr hw2 hmm hblk htab
  rcases hst with ⟨pl', root, e1, hbd, hc, hrr⟩ | ⟨e1, hno⟩
  ·rw [e1] at hB3 ⊢
   simp only at hB3
   obtain ⟨x6, o6⟩ := hT3.box x6 hn6
   obtain ⟨x7, o7⟩ := hT3.box x7 hn7
   obtain ⟨x10, o10⟩ := hT3.box x10 hn10
   obtain ⟨d0, d1, d2, d3⟩ := hB3.blk.cells
   have fz := hB3.blk.frozen 2
   have c10 := Boxed.cell x10
   obtain ⟨hB4, hT4⟩ := hB3.rooted root
   have hbb6 : w.heap.size ≠ w1.heap.size + 1 := by omega
   have x6' := boxed_off' x6 hbb6 2 (.int .u64 root)
   have x7' := boxed_off' x7 (show w.heap.size + 1 ≠ w1.heap.size + 1 by omega) 2 (.int .u64 root)
   have x10' := boxed_off' x10 (show w1.heap.size + 2 ≠ w1.heap.size + 1 by omega) 2 (.int .u64 root)
   have hI0 : BI w2 B (w1.heap.size + 1) mb pb fb w1.heap.size w.heap.size (w.heap.size + 1) (w1.heap.size + 2) vu s z (pl.out + 2) root L (allP l) ⟨pl', zpgs pg root 8192, []⟩ (fun _ => True) [] (w3.setCell ⟨w1.heap.size + 1, 2, none⟩ (.int .u64 root)) :=
    ⟨v3, L3, ⟨pl', zpgs pg root 8192, []⟩, rfl, hbd, by simp, ⟨hB4, hT3.trans hT4, x6', x7', x10'⟩, fun _ _ => trivial⟩
   have hused0 : pl'.used.length ≤ pl.used.length + 3 := by
    have := frS_used s z 2 8192 (st := ⟨pl, pg, []⟩) hok ⟨by decide, by decide⟩
    rw [e1] at this
    exact this
   have hR : buildS s z l pl pg = if (piecesS s z root (allP l) ⟨pl', zpgs pg root 8192, []⟩).2 ≠ 0 then ((piecesS s z root (allP l) ⟨pl', zpgs pg root 8192, []⟩).1, 0, (piecesS s z root (allP l) ⟨pl', zpgs pg root 8192, []⟩).2) else ((piecesS s z root (allP l) ⟨pl', zpgs pg root 8192, []⟩).1, root, 0) := by
    unfold buildS
    rw [if_neg (by rw [hne]; simp), e1]
    simp
   have hTw : ∀ {v' : Value} {L' : List Pg} {W : World}, BTurn B (w1.heap.size + 1) mb pb fb w1.heap.size vu L v' L' w2 W → MTurn B mb pb fb vu L v' L' w W := fun ht => MTurn.of_bdr (bthen hb2 hb12) hB (by omega) (by omega) ht
   have hzw3 : w2.heap.size ≤ w3.heap.size := hT3.off.below.size
   have hbelw : Below B w w2 := (bthen hb2 hb12).mono hB
   replace hR := Lib.hid hR
   replace e1 := Lib.hid e1
   gi_wp2
   clear x6 x7 x10 o6 o7 o10 c10 d0 d1 d2 d3 fz hB4 hT4 x6' x7' x10' hB3 hT3
   generalize w3.setCell ⟨w1.heap.size + 1, 2, none⟩ (.int .u64 root) = w4 at *
   have hbn3 : w.heap.size < w2.heap.size ∧ w.heap.size + 1 < w2.heap.size ∧ w1.heap.size + 2 < w2.heap.size := ⟨by omega, by omega, by omega⟩
   have hgood := (needV_ok (l := l) (by rw [hne])).1
   refine wpIn_loop (fun a' wr => ∃ (k : Nat) (ds : List Deferred) (u14 u15 u16 u17 u46 u47 u48 u49 u50 u51 u52 u53 u54 u55 u56 u57 u58 u59 u60 u61 : Value), a' = { tmps := #[.pointer (some ⟨mb, 0, none⟩), .pointer (some ⟨fb, 0, none⟩), .slice a1 l.length cp1, undef, undef, undef, .pointer (some ⟨w.heap.size, 0, none⟩), .pointer (some ⟨w.heap.size + 1, 0, none⟩), .int .i64 n1, .int .i64 0, .pointer (some ⟨w1.heap.size + 1 + 1, 0, none⟩), .int .u64 root, .int .i64 0, undef, u14, u15, u16, u17, .tuple #[.int .i64 n1, .int .i64 0], .slice a1 l.length cp1, .tuple #[.int .i64 n1, .int .i64 0], .int .i64 n1, .int .i64 0, .int .i64 0, .bool false, undef, .pointer (some ⟨mb, 0, none⟩), .pointer (some ⟨fb, 0, none⟩), .map (some w1.heap.size), .agg #[.pointer (some ⟨mb, 0, none⟩), .pointer (some ⟨fb, 0, none⟩), .int .u64 0, .map (some w1.heap.size)], .pointer (some ⟨w1.heap.size + 1, 0, none⟩), .tuple #[.int .u64 root, .int .i64 0], .pointer (some ⟨w1.heap.size + 1, 0, none⟩), .tuple #[.int .u64 root, .int .i64 0], .int .u64 root, .int .i64 0, .int .i64 0, .bool false, undef, .pointer (some ⟨w1.heap.size + 1, 0, none⟩), .int .u64 root, .pointer (some ⟨w1.heap.size + 1, 0, none⟩), .pointer (some ⟨w1.heap.size + 1, 2, none⟩), .slice a1 l.length cp1, .int .i64 l.length, .int .i64 k, u46, u47, u48, u49, u50, u51, u52, u53, u54, u55, u56, u57, u58, u59, u60, u61], defers := ds } ∧ k ≤ l.length ∧ BI w2 B (w1.heap.size + 1) mb pb fb w1.heap.size w.heap.size (w.heap.size + 1) (w1.heap.size + 2) vu s z (pl.out + 2) root L (allP l) ⟨pl', zpgs pg root 8192, []⟩ (fun _ => True) (allP (l.take k)) wr ∧ Marks wr w2.heap.size wr.heap.size ds)
    (fun a' _ => l.length - (intOf (a'.tmps.getD 45 undef)).toNat) ?start ?round
   case start => exact ⟨0, [], _, _, _, _, _, _, _, _, _, _, _, _, _, _, _, _, _, _, _, _, rfl, Nat.zero_le _, hI0, trivial⟩
   case round =>
    clear hI0
    rintro _ wr ⟨k, ds, u14, u15, u16, u17, u46, u47, u48, u49, u50, u51, u52, u53, u54, u55, u56, u57, u58, u59, u60, u61, rfl, hk, hI, hmk⟩
    have hBelw : Below B w wr := by obtain ⟨_, _, _, _, _, _, h4, _⟩ := hI; exact hbelw.trans h4.turn.off.below
    have hzr : w2.heap.size ≤ wr.heap.size := by obtain ⟨_, _, _, _, _, _, h4, _⟩ := hI; exact h4.turn.off.below.size
    by_cases hlt : k < l.length
    ·obtain ⟨b1, o1, rfl, hbl, hcell⟩ := hc1 (by rintro rfl; simp at hlt)
     have hb1n := hvB b1 o1 _ _ rfl (by rintro rfl; simp at hlt)
     have hcw : ∀ o, wr.cell? ⟨b1, o, none⟩ = w.cell? ⟨b1, o, none⟩ := fun o => by
      obtain ⟨_, _, _, _, _, _, h4, _⟩ := hI
      obtain ⟨g1, g2⟩ := hkeep.out b1 hbl hb1n
      have g3 := (h4.turn.off.rest b1 (by omega) g1).trans g2
      simp only [World.cell?, g3]
     obtain ⟨p0, p1, p2, p3, p4⟩ := hcell k hlt
     replace p0 := (hcw _).trans p0
     replace p1 := (hcw _).trans p1
     replace p2 := (hcw _).trans p2
     replace p3 := (hcw _).trans p3
     replace p4 := (hcw _).trans p4
     clear hcw hb1n
     have hcut : Cut l[k] := good_cut (good_one (good_elem hgood (List.getElem_mem hlt)))
     have hsp := allP_split l k hlt
     have htk := allP_take l k hlt
     generalize l[k] = y at *
     generalize hE : allP l = E at *
     generalize hDk : allP (l.take k) = Dk at *
     generalize hRk : allP (l.drop (k + 1)) = Rk at *
     clear hcell hc1
     replace hE := Lib.hid hE
     replace hDk := Lib.hid hDk
     replace hRk := Lib.hid hRk
     replace htk := Lib.hid htk
     replace hsp := Lib.hid hsp
     gi_wp2_with (first | (refine ⟨trivial, ?_⟩; gi_at_call 25; refine (pieces_in 8 y _).mono ?_; rintro e w' ⟨rfl, rfl⟩))
     obtain ⟨W0, hW0⟩ : ∃ W0, W0 = (wr.alloc (.cells #[.int .u64 y.ipa, .int .u64 y.pa, .int .u64 y.sz, .int .i64 y.perm, .int .i64 y.kind] 59)).alloc (.cells #[.int .u64 y.ipa, .int .u64 y.pa, .int .u64 y.sz, .int .i64 y.perm, .int .i64 y.kind] 59) := ⟨_, rfl⟩
     rw [← hW0]
     have hbW : Below wr.heap.size wr W0 := by rw [hW0]; exact bthen (bone _ _) (bone _ _)
     have hzW : W0.heap.size = wr.heap.size + 2 := by rw [hW0]; simp
     have hbx : BoxM W0 (wr.heap.size + 1) y := by
      rw [hW0]
      have := BoxM.new (wr.alloc (.cells #[.int .u64 y.ipa, .int .u64 y.pa, .int .u64 y.sz, .int .i64 y.perm, .int .i64 y.kind] 59)) y
      simpa using this
     have hI1 : BI w2 B (w1.heap.size + 1) mb pb fb w1.heap.size w.heap.size (w.heap.size + 1) (w1.heap.size + 2) vu s z (pl.out + 2) root L E ⟨pl', zpgs pg root 8192, []⟩ (fun b => b ≠ wr.heap.size + 1) Dk W0 := by
      obtain ⟨v', L', st', g1, g2, g3, g4, g5⟩ := hI
      exact ⟨v', L', st', g1, g2, g3, g4.later hbW, fun b hb => by have := (g4.bdr.lt b hb).2; omega⟩
     have hmk0 : Marks W0 w2.heap.size wr.heap.size ds := hmk.kept fun D _ h2 h3 => (hbW.block _ h2).trans h3
     clear hW0 hI hmk p0 p1 p2 p3 p4 hbW hBelw
     generalize wr.heap.size = zr at *
     have hNN : mb < W0.heap.size ∧ pb < W0.heap.size ∧ w1.heap.size < W0.heap.size ∧ w2.heap.size ≤ W0.heap.size ∧ B ≤ w2.heap.size := ⟨by omega, by omega, by omega, by omega, by omega⟩
     have hr6 : w.heap.size ≠ zr + 1 ∧ w.heap.size + 1 ≠ zr + 1 ∧ w1.heap.size + 2 ≠ zr + 1 := ⟨by omega, by omega, by omega⟩
     have hmkG : ∀ W W' (row : Option Nat), Marks W w2.heap.size zr ds → W.grownBy W' row → (∀ r, row = some r → W0.heap.size ≤ r ∧ ∃ o : Obj, W.heap[r]? = some o ∧ o.isCells = false) → Marks W' w2.heap.size zr ds := fun W W' row h hg hr => h.kept fun D _ h2 hd => (hg.block D (Array.getElem?_eq_some_iff.1 hd).1 (fun e => by have := (hr D e.symm).1; omega)).trans hd
     have hmkS : ∀ W o v, Marks W w2.heap.size zr ds → Marks (W.setCell ⟨zr + 1, o, none⟩ v) w2.heap.size zr ds := fun W o v h => h.kept fun D _ h2 hd => (Below.heap_setCell _ _ _ _ (by simp; omega)).trans hd
     have hMI : Mine (β := List (Int × M5)) W0.heap.size (zr + 1) (fun pre W => BI w2 B (w1.heap.size + 1) mb pb fb w1.heap.size w.heap.size (w.heap.size + 1) (w1.heap.size + 2) vu s z (pl.out + 2) root L E ⟨pl', zpgs pg root 8192, []⟩ (fun b => b ≠ zr + 1) (Dk ++ pre) W ∧ Marks W w2.heap.size zr ds ∧ W0.heap.size ≤ W.heap.size) :=
      ⟨fun pre W W' row h hg hr => ⟨h.1.grown hNN hg hr, hmkG W W' row h.2.1 hg hr, Nat.le_trans h.2.2 hg.size⟩,
       fun pre W o v h => ⟨h.1.set (fun b hb => hb) hr6 (by omega) hNN.2.2.2.2 o v, hmkS W o v h.2.1, by simpa using h.2.2⟩⟩
     have hMX : ∀ c : Code, Mine (β := List (Int × M5)) W0.heap.size (zr + 1) (fun pre W => c = .ret ∧ BErr w B mb pb fb w.heap.size (w.heap.size + 1) vu s z root L ⟨pl', zpgs pg root 8192, []⟩ (fun b => b ≠ zr + 1) (Dk ++ pre) W ∧ Marks W w2.heap.size zr ds ∧ W0.heap.size ≤ W.heap.size) := fun c =>
      ⟨fun pre W W' row h hg hr => ⟨h.1, h.2.1.grown ⟨hNN.1, hNN.2.1, by omega, hB⟩ hg hr, hmkG W W' row h.2.2.1 hg hr, Nat.le_trans h.2.2.2 hg.size⟩,
       fun pre W o v h => ⟨h.1, h.2.1.set (fun b hb => hb) ⟨hr6.1, hr6.2.1⟩ (by omega) hB o v, hmkS W o v h.2.2.1, by simpa using h.2.2.2⟩⟩
     refine wpIn_range_state rfl (by decide) (gf := 53) (lb := #[.pointer (some ⟨zr + 1, 0, none⟩)]) rfl trivial (enters_of Tryz.func53 (by kernel_rfl) rfl)
      (pieces_iter _ (zr + 1) (by decide) y hcut W0 hbx) hbx.lt (fun _ => rfl)
      (fun pre W => BI w2 B (w1.heap.size + 1) mb pb fb w1.heap.size w.heap.size (w.heap.size + 1) (w1.heap.size + 2) vu s z (pl.out + 2) root L E ⟨pl', zpgs pg root 8192, []⟩ (fun b => b ≠ zr + 1) (Dk ++ pre) W ∧ Marks W w2.heap.size zr ds ∧ W0.heap.size ≤ W.heap.size)
      (fun c pre W => c = .ret ∧ BErr w B mb pb fb w.heap.size (w.heap.size + 1) vu s z root L ⟨pl', zpgs pg root 8192, []⟩ (fun b => b ≠ zr + 1) (Dk ++ pre) W ∧ Marks W w2.heap.size zr ds ∧ W0.heap.size ≤ W.heap.size) hMI hMX ⟨by rw [List.append_nil]; exact hI1, hmk0, Nat.le_refl _⟩
      (fun n pre W => BI w2 B (w1.heap.size + 1) mb pb fb w1.heap.size w.heap.size (w.heap.size + 1) (w1.heap.size + 2) vu s z (pl.out + 2) root L E ⟨pl', zpgs pg root 8192, []⟩ (fun b => b ≠ zr + 1 ∧ b < n) (Dk ++ pre) W ∧ Marks W w2.heap.size zr ds ∧ W0.heap.size ≤ W.heap.size)
      (fun _ _ h => ⟨h.1.now, h.2⟩) (fun n pre W W' row h hg hr => ⟨h.1.grown hNN hg hr, hmkG W W' row h.2.1 hg hr, Nat.le_trans h.2.2 hg.size⟩)
      (fun x a' W => ∃ b8, a' = { tmps := #[.pointer (some ⟨mb, 0, none⟩), .pointer (some ⟨fb, 0, none⟩), .slice (some ⟨b1, o1, none⟩) l.length cp1, undef, undef, undef, .pointer (some ⟨w.heap.size, 0, none⟩), .pointer (some ⟨w.heap.size + 1, 0, none⟩), .int .i64 n1, .int .i64 0, .pointer (some ⟨w1.heap.size + 1 + 1, 0, none⟩), .int .u64 root, .int .i64 0, undef, .pointer (some ⟨zr, 0, none⟩), .int .i64 x.1, .pointer (some ⟨b8, 0, none⟩), u17, .tuple #[.int .i64 n1, .int .i64 0], .slice (some ⟨b1, o1, none⟩) l.length cp1, .tuple #[.int .i64 n1, .int .i64 0], .int .i64 n1, .int .i64 0, .int .i64 0, .bool false, undef, .pointer (some ⟨mb, 0, none⟩), .pointer (some ⟨fb, 0, none⟩), .map (some w1.heap.size), .agg #[.pointer (some ⟨mb, 0, none⟩), .pointer (some ⟨fb, 0, none⟩), .int .u64 0, .map (some w1.heap.size)], .pointer (some ⟨w1.heap.size + 1, 0, none⟩), .tuple #[.int .u64 root, .int .i64 0], .pointer (some ⟨w1.heap.size + 1, 0, none⟩), .tuple #[.int .u64 root, .int .i64 0], .int .u64 root, .int .i64 0, .int .i64 0, .bool false, undef, .pointer (some ⟨w1.heap.size + 1, 0, none⟩), .int .u64 root, .pointer (some ⟨w1.heap.size + 1, 0, none⟩), .pointer (some ⟨w1.heap.size + 1, 2, none⟩), .slice (some ⟨b1, o1, none⟩) l.length cp1, .int .i64 l.length, .int .i64 k, .bool true, .pointer (some ⟨b1, o1 + k * 5, none⟩), .agg #[.int .u64 y.ipa, .int .u64 y.pa, .int .u64 y.sz, .int .i64 y.perm, .int .i64 y.kind], .agg #[.int .u64 y.ipa, .int .u64 y.pa, .int .u64 y.sz, .int .i64 y.perm, .int .i64 y.kind], .func (.func 53) #[] #[.pointer (some ⟨zr + 1, 0, none⟩)], .int .i64 x.1, .agg #[.int .u64 x.2.ipa, .int .u64 x.2.pa, .int .u64 x.2.sz, .int .i64 x.2.perm, .int .i64 x.2.kind], u53, u54, u55, u56, u57, u58, u59, u60, u61], defers := [] } ∧ BoxM W b8 x.2)
      (fun x a' => Own.from (fun s W W' row h hg hr => by obtain ⟨b8, h1, h2⟩ := h; exact ⟨b8, h1, (grownBy_keeps_cells hg hr h2 rfl).trans h2⟩) _)
      ?assign ?body ?done ?stop
     case assign =>
      rintro l1 Bn pre x W K hB1 hI2 hK
      gi_wp2
      have hbl2 : zr + 1 < W.heap.size := by have := hI2.2.2; omega
      exact hK _ _ ((KeepsOthers.alloc _ _).from _) (KeepN.of_below (bone _ _) hbl2) ⟨hI2.1.later (bone _ _), hI2.2.1.kept fun D _ _ hd => ((bone _ _).block _ (Array.getElem?_eq_some_iff.1 hd).1).trans hd, by have := hI2.2.2; simp; omega⟩ ⟨W.heap.size, rfl, BoxM.new W x.2⟩
     case body =>
      rintro l1 Bn pre x a' W hl1 hB1 hBW ⟨hbi, hmkW, hzW2⟩ ⟨b8, rfl, hb8⟩ ⟨t, ht⟩
      obtain ⟨v1, L1, st1, g1, g2, g3, g4, g5⟩ := hbi
      have hEs : E = (Dk ++ pre) ++ x :: (t ++ Rk) := by rw [hsp.out, ht]; simp
      have hxE : (x.1, x.2) ∈ E := by rw [hEs]; simp
      have hxD : x ∉ Dk ++ pre := apart_notin (L := t ++ Rk) (by rw [← hEs]; exact g2.apart) (g2.pcs x hxE)
      have hlx : (Dk ++ pre).length + 1 ≤ E.length := by rw [hEs]; simp; omega
      have hlv3 : x.1 ≤ 3 := by have := (g2.pcs x hxE).lv; omega
      have g3' : st1.pl.used.length ≤ pl'.used.length + 6 * (Dk ++ pre).length := g3
      have hpu := pieceS_used (s := s) (z := z) (root := root) (q := x.2) g2.plok hlv3
      have hpc := piece_bd (B := B) g4.bdr g2 hxE (by omega)
      have c10 := Boxed.cell g4.x10
      obtain ⟨m0, m1, m2, m3, m4⟩ := hb8.cells
      have hk := piece_k g2 hxE hxD
      have hfz : ∀ D, w2.heap.size ≤ D → W.heap[D]? = some (.deferred (some [])) → D ∉ bdrBlks (w1.heap.size + 1) mb pb fb w1.heap.size v1 L1 := fun D h1 h2 h3 => by
       obtain ⟨o, e1, e2⟩ := g4.bdr.late (N := w2.heap.size) ⟨by omega, by omega, by omega⟩ h1 h3
       rw [h2] at e1; cases e1; cases e2
      have hlate : ∀ (k : Nat) (o : Obj), W0.heap.size ≤ k → W.heap[k]? = some o → o.isCells = false → k ∉ bdrBlks (w1.heap.size + 1) mb pb fb w1.heap.size v1 L1 := fun k o h1 h2 h3 h4 => by
       obtain ⟨o', e1, e2⟩ := g4.bdr.late ⟨hNN.1, hNN.2.1, hNN.2.2.1⟩ h1 h4
       rw [h2] at e1; cases e1; rw [h3] at e2; cases e2
      have hstep : ∀ {v2 : Value} {L2 : List Pg} {W5 : World}, BTurn B (w1.heap.size + 1) mb pb fb w1.heap.size v1 L1 v2 L2 W W5 → KeepsFrom W0.heap.size W W5 ∧ KeepN (zr + 1) Bn W W5 ∧ Marks W5 w2.heap.size zr ds ∧ W0.heap.size ≤ W5.heap.size ∧ ∀ b ∈ bdrBlks (w1.heap.size + 1) mb pb fb w1.heap.size v2 L2, b ≠ zr + 1 := fun {v2 L2 W5} hT5 =>
       ⟨⟨hT5.off.below.size, fun k o h1 h2 h3 => (hT5.off.rest k (Array.getElem?_eq_some_iff.1 h2).1 (hlate k o h1 h2 h3)).trans h2⟩,
        ⟨hT5.off.below.size, hT5.off.rest _ (by omega) (fun e => (g5 _ e).1 rfl), fun k h1 h2 => hT5.off.rest k h2 (fun e => by have := (g5 _ e).2; omega)⟩,
        hmkW.kept fun D h1 _ h3 => (hT5.off.rest D (Array.getElem?_eq_some_iff.1 h3).1 (hfz D h1 h3)).trans h3, by have := hT5.off.below.size; omega,
        fun b hb => (hT5.blks b hb).elim (fun e => (g5 b e).1) fun e => by omega⟩
      unfold M5.val at hpc
      clear hfz hlate hmk0 hI1 hbx hmkG hmkS hMI hMX
      rcases hk with ⟨st2, e2, hb2', hk2, hc2⟩ | ⟨st2, e2, _⟩
      ·rw [e2] at hpc hpu
       simp only at hpc hpu
       replace e2 := Lib.hid e2
       gi_wp2_with (first | (refine ⟨trivial, ?_⟩; gi_at_call 26; refine (CallsIn.inRound l1 (callsIn_wide.2 hpc)).mono ?_; rintro e w5 ⟨v2, L2, rfl, hB5, hT5⟩))
       obtain ⟨q1, q2, q3, q4, q5⟩ := hstep hT5
       refine ⟨q1, q2, ⟨v2, L2, st2, ?_, ?_, ?_, g4.step ⟨⟨by omega, hn6⟩, ⟨by omega, hn7⟩, ⟨by omega, hn10⟩⟩ hB5 hT5, q5⟩, q3, q4⟩
       ·rw [← List.append_assoc, piecesS_ok g1, piecesS_one]; exact e2.out
       ·rw [← List.append_assoc]; exact hb2'
       ·have : (Dk ++ (pre ++ [x])).length = (Dk ++ pre).length + 1 := by simp; omega
        rw [this]
        show _ ≤ pl'.used.length + _
        omega
      ·rw [e2] at hpc hpu
       simp only at hpc hpu
       replace e2 := Lib.hid e2
       gi_wp2_with (first | (refine ⟨trivial, ?_⟩; gi_at_call 26; refine (CallsIn.inRound l1 (callsIn_wide.2 hpc)).mono ?_; rintro e w5 ⟨v2, L2, rfl, hB5, hT5⟩; have x6' := (hT5.box g4.x6 (g4.off hbn3.1 hn6)).1; have x7' := (hT5.box g4.x7 (g4.off hbn3.2.1 hn7)).1; have z6' := Boxed.cell x6'; have z7' := Boxed.cell x7'; have y6' := Boxed.frozen x6'; have y7' := Boxed.frozen x7'))
       have n6' := (hT5.box g4.x6 (g4.off hbn3.1 hn6)).2
       have n7' := (hT5.box g4.x7 (g4.off hbn3.2.1 hn7)).2
       obtain ⟨q1, q2, q3, q4, q5⟩ := hstep hT5
       have hne67 : w.heap.size ≠ w.heap.size + 1 := by omega
       refine ⟨(q1.trans ((KeepsOthers.setCell _ _ _).from _)).trans ((KeepsOthers.setCell _ _ _).from _), rfl, ⟨v2, L2, st2, 110, ?_, by decide, (hB5.mpl.set (fun e => n6' (mem_bdr.2 (.inr (.inr e)))) _).set (fun e => n7' (mem_bdr.2 (.inr (.inr e)))) _, ((hTw (g4.turn.trans hT5)).set hB (Nat.le_refl _) _).set hB (by omega) _, boxed_off (Boxed.set _ x6') hne67 _, Boxed.set _ (boxed_off x7' (fun e => hne67 e.symm) _), fun b hb => q5 b (mem_bdr.2 (.inr (.inr hb)))⟩, q3.kept fun D h1 _ h3 => (Below.heap_setCell _ _ _ _ (by simp; omega)).trans ((Below.heap_setCell _ _ _ _ (by simp; omega)).trans h3), by simpa using q4⟩
       rw [← List.append_assoc, piecesS_ok g1, piecesS_one]; exact e2.out
     case done =>
      rintro D xs W hD rfl ⟨hbi, hmkW, hzW2⟩ hKd
      gi_wp2
      refine ⟨⟨k + 1, _, _, _, _, _, _, _, _, _, _, _, _, _, _, _, _, _, _, _, _, _, rfl, hlt, ?_, ⟨D, rfl, by omega, (Array.getElem?_eq_some_iff.1 hKd).1, hKd, hmkW.up (by omega)⟩⟩, ?_⟩
      ·rw [htk.out]; exact hbi.wide fun _ _ => trivial
      ·simp [intOf]; omega
     case stop =>
      rintro D c pre W hD ⟨t, ht⟩ ⟨rfl, hbe, hmkW, hzW2⟩ hf
      obtain ⟨v', L', st', c, g1, g2, g3, g4, g5, g6, g7⟩ := hbe
      have hEs : E = (Dk ++ pre) ++ (t ++ Rk) := by rw [hsp.out, ht]; simp
      have hR := hR.out
      rw [hEs, piecesS_bad g1 g2] at hR
      simp only at hR
      rw [if_pos g2] at hR
      have hdone : Done w B mb pb fb w.heap.size (w.heap.size + 1) vu L s z (buildS s z l pl pg) W := by rw [hR]; exact ⟨g5, g6, v', L', g3, g4⟩
      clear hmk0 hI1 hbx hmkG hmkS hMI hMX
      replace hR := Lib.hid hR
      gi_wp2
      exact leaves_marksJ (N := w2.heap.size) (J := Done w B mb pb fb w.heap.size (w.heap.size + 1) vu L s z (buildS s z l pl pg)) (fun W D o' hD hd hJ => Done.turned hJ ⟨by omega, by omega, by omega⟩ hB hD hd rfl o') (fun W' hW => by
       obtain ⟨q6, q7, vu', L', q8, q9⟩ := hW
       have r6 := Boxed.cell q6
       have r7 := Boxed.cell q7
       refine ⟨.tuple #[.int .u64 (buildS s z l pl pg).2.1, .int .i64 (buildS s z l pl pg).2.2], by simp [results, Tryz.results10, go_sem, r6, r7], ?_⟩
       first | exact ⟨vu', L', rfl, q8, q9⟩ | exact ⟨rfl, vu', L', q8, q9⟩) _ W.heap.size _ ⟨D, rfl, by omega, (Array.getElem?_eq_some_iff.1 hf).1, hf, hmkW.up (by omega)⟩ hdone
    ·obtain rfl : k = l.length := by omega
     rw [List.take_length] at hI
     obtain ⟨v', L', st', g1, g2, g3, g4, g5⟩ := hI
     have c6 := Boxed.cell g4.x6
     have c7 := Boxed.cell g4.x7
     have f6 := Boxed.frozen g4.x6
     have f7 := Boxed.frozen g4.x7
     have hR := hR.out
     rw [g1, if_neg (by simp)] at hR
     replace hR := Lib.hid hR
     clear hc1
     gi_wp2
     have hR := hR.out
     have hdone : Done w B mb pb fb w.heap.size (w.heap.size + 1) vu L s z (buildS s z l pl pg) ((wr.setCell ⟨w.heap.size, 0, none⟩ (.int .u64 root)).setCell ⟨w.heap.size + 1, 0, none⟩ (.int .i64 0)) :=
      Done.stored g4.x6 g4.x7 (by omega) (by rw [hR]; exact g4.bdr.mpl) (hTw g4.turn) ⟨Nat.le_refl _, by omega⟩ ⟨fun e => g4.off hbn3.1 hn6 (mem_bdr.2 (.inr (.inr e))), fun e => g4.off hbn3.2.1 hn7 (mem_bdr.2 (.inr (.inr e)))⟩ hB (by rw [hR]) (by rw [hR])
     exact leaves_marksJ (N := w2.heap.size) (J := Done w B mb pb fb w.heap.size (w.heap.size + 1) vu L s z (buildS s z l pl pg)) (fun W D o' hD hd hJ => Done.turned hJ ⟨by omega, by omega, by omega⟩ hB hD hd rfl o') (fun W' hW => by
      obtain ⟨q6, q7, vu', L', q8, q9⟩ := hW
      have r6 := Boxed.cell q6
      have r7 := Boxed.cell q7
      refine ⟨.tuple #[.int .u64 (buildS s z l pl pg).2.1, .int .i64 (buildS s z l pl pg).2.2], by simp [results, Tryz.results10, go_sem, r6, r7], ?_⟩
      first | exact ⟨vu', L', rfl, q8, q9⟩ | exact ⟨rfl, vu', L', q8, q9⟩) ds wr.heap.size _ (hmk.kept fun D h1 h2 h3 => (Below.heap_setCell _ _ _ _ (by simp; omega)).trans ((Below.heap_setCell _ _ _ _ (by simp; omega)).trans h3)) hdone
  ·rw [e1] at hB3 ⊢
   simp only at hB3
   have hR : buildS s z l pl pg = (⟨pl, pg, []⟩, 0, 110) := by
    unfold buildS
    rw [if_neg (by rw [hne]; simp), e1]
    simp
   replace hR := Lib.hid hR
   replace e1 := Lib.hid e1
   obtain ⟨x6, o6⟩ := hT3.box x6 hn6
   obtain ⟨x7, o7⟩ := hT3.box x7 hn7
   have f6 := Boxed.frozen x6
   have f7 := Boxed.frozen x7
   have c6 := Boxed.cell x6
   have c7 := Boxed.cell x7
   gi_wp2
   have hR := hR.out
   have hdone : Done w B mb pb fb w.heap.size (w.heap.size + 1) vu L s z (buildS s z l pl pg) ((w3.setCell ⟨w.heap.size, 0, none⟩ (.int .u64 0)).setCell ⟨w.heap.size + 1, 0, none⟩ (.int .i64 110)) :=
    Done.stored x6 x7 (by omega) (by rw [hR]; exact hB3.mpl) (MTurn.of_bdr (bthen hb2 hb12) hB (by omega) (by omega) hT3) ⟨Nat.le_refl _, by omega⟩ ⟨fun e => o6 (mem_bdr.2 (.inr (.inr e))), fun e => o7 (mem_bdr.2 (.inr (.inr e)))⟩ hB (by rw [hR]) (by rw [hR])
   exact leaves_marksJ (N := w.heap.size) (J := Done w B mb pb fb w.heap.size (w.heap.size + 1) vu L s z (buildS s z l pl pg)) (fun W D o' hD hd hJ => Done.turned hJ ⟨hmb, hpb, Nat.le_refl _⟩ hB hD hd rfl o') (fun W' hW => by
    obtain ⟨q6, q7, vu', L', q8, q9⟩ := hW
    have r6 := Boxed.cell q6
    have r7 := Boxed.cell q7
    exact ⟨.tuple #[.int .u64 (buildS s z l pl pg).2.1, .int .i64 (buildS s z l pl pg).2.2], by simp [results, Tryz.results10, go_sem, r6, r7], vu', L', rfl, q8, q9⟩) [] 0 _ trivial hdone
 ·clear hlen0
  replace hbad := hbad hn
  have hn190 : (needV l).2 = 190 := by
   unfold needV at hn ⊢
   split
   ·rename_i hc; rw [if_pos hc] at hn; exact absurd rfl hn
   ·rfl
  have hne : ((needV l).2 != 0) = true := by rw [hn190]; rfl
  replace hbad := Lib.hid hbad
  generalize hnv : needV l = ne at *
  obtain ⟨n1, n2⟩ := ne
  simp only at hn190
  subst hn190
  gi_wp2
  replace hbad := hbad.out
  have hout : w.heap.size ∉ mplBlks mb pb fb vu L ∧ w.heap.size + 1 ∉ mplBlks mb pb fb vu L := ⟨fun e => by have := (h.lt _ e).2; omega, fun e => by have := (h.lt _ e).2; omega⟩
  have hdone : Done w B mb pb fb w.heap.size (w.heap.size + 1) vu L s z (buildS s z l pl pg) ((w1.setCell ⟨w.heap.size, 0, none⟩ (.int .u64 0)).setCell ⟨w.heap.size + 1, 0, none⟩ (.int .i64 190)) :=
   Done.stored hx6 hx7 (by omega) (by rw [hbad]; exact h1) (MTurn.of_below hb2 hB) ⟨Nat.le_refl _, by omega⟩ hout hB (by rw [hbad]) (by rw [hbad])
  exact leaves_marksJ (N := w.heap.size) (J := Done w B mb pb fb w.heap.size (w.heap.size + 1) vu L s z (buildS s z l pl pg)) (fun W D o' hD hd hJ => Done.turned hJ ⟨hmb, hpb, Nat.le_refl _⟩ hB hD hd rfl o') (fun W' hW => by
   obtain ⟨q6, q7, vu', L', q8, q9⟩ := hW
   have r6 := Boxed.cell q6
   have r7 := Boxed.cell q7
   exact ⟨.tuple #[.int .u64 (buildS s z l pl pg).2.1, .int .i64 (buildS s z l pl pg).2.2], by simp [results, Tryz.results10, go_sem, r6, r7], vu', L', rfl, q8, q9⟩) [] 0 _ trivial hdone
theorem build_any {w : World} {B mb pb fb : Nat} {vu : Value} {s z : Int} {L : List Pg} {pl : Pl} {pg : PG} (h : MPl w B mb pb fb vu s z L pl pg) (hok : PlOk pl) (hi : PlInv pl) (hlo : s ≤ pl.from' ∧ pl.from' + pl.count * 4096 ≤ s + z ∧ 0 ≤ s ∧ s + z ≤ 1099511627776)
  (v : Value) (l : List M5) (hv : RowM w v l) (hvB : ∀ b o n c, v = .slice (some ⟨b, o, none⟩) n c → l ≠ [] → b < B) (hl : l.length ≤ 100000) (hlen0 : (needV l).2 = 0 → pl.used.length + 3 + 6 * (allP l).length + 6 ≤ 137438953472) :
  Calls Tryz.prog 10 #[.pointer (some ⟨mb, 0, none⟩), .pointer (some ⟨fb, 0, none⟩), v] w fun e w' => ∃ vu' L', e = .returned (.tuple #[.int .u64 (buildS s z l pl pg).2.1, .int .i64 (buildS s z l pl pg).2.2]) ∧ MPl w' B mb pb fb vu' s z L' (buildS s z l pl pg).1.pl (buildS s z l pl pg).1.pg ∧ MTurn B mb pb fb vu L vu' L' w w' :=
 build_off h hok hi hlo v l hv (fun b o n c e hne hm => by have := hvB b o n c e hne; have := (h.lt b hm).1; omega) hl hlen0
end Go.Proofs.YtiblhlaemmdphaaGreat
