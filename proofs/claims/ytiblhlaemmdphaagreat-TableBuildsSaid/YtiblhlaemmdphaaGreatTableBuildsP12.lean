/- RemX: RemA, RemB, RemC, RemD, as one text. -/
import Derived.Test.YtiblhlaemmdphaaGreatTableBuildsP2
import Derived.Test.YtiblhlaemmdphaaGreatTableBuildsP6
import Derived.Test.YtiblhlaemmdphaaGreatTableBuildsP7
import Derived.Test.YtiblhlaemmdphaaGreatTableBuildsP9
import Derived.Test.YtiblhlaemmdphaaGreatTableBuildsP11
/-! Memory as the reference keeps it: a list of pages; a new memory; what an access asks. -/
namespace Go.Proofs.YtiblhlaemmdphaaGreat
open Go Go.RowKit Go.BigFrame Go.Maps
def Pg.enc (p : Pg) : List Value := [.int .u64 (p.n * 4096), .slice (some ⟨p.blk, 0, none⟩) 4096 4096]
def encPg (L : List Pg) : List Value := L.flatMap Pg.enc
theorem encPg_get (L : List Pg) : ∀ (i : Nat) (h : i < L.length), (encPg L)[i * 2]? = some (.int .u64 (L[i].n * 4096)) ∧ (encPg L)[i * 2 + 1]? = some (.slice (some ⟨L[i].blk, 0, none⟩) 4096 4096) := by
 induction L with
 | nil => intro i h; simp at h
 | cons p L ih =>
  intro i h
  rcases i with _ | i
  ·simp [encPg, Pg.enc]
  ·have := ih i (by simpa using h)
   rw [show (i + 1) * 2 = i * 2 + 1 + 1 by omega]
   simpa [encPg, Pg.enc] using this
structure MemR (W : World) (rb : Nat) (pv : Value) (s z : Int) (L : List Pg) : Prop where
 hd : W.heap[rb]? = some (.cells #[.int .u64 s, .int .u64 z, pv] 95 (0, 0))
 row : W.ownsRow 0 127 2 pv L.length (encPg L)
 page : ∀ p ∈ L, W.heap[p.blk]? = some (.cells (bytesV p.bs) 5 (0, 0))
 blks : (L.map Pg.blk).Nodup
 ok : PgOk (L.map Pg.ab)
 ws : W64 s
 wz : W64 z
def refBlks (rb : Nat) (pv : Value) (L : List Pg) : List Nat := rb :: (pv.ownBlock.toList ++ L.map Pg.blk)
theorem mem_refBlks {rb : Nat} {pv : Value} {L : List Pg} {b : Nat} : b ∈ refBlks rb pv L ↔ b = rb ∨ pv.ownBlock = some b ∨ b ∈ L.map Pg.blk := by
 unfold refBlks
 rw [List.mem_cons, List.mem_append, Option.mem_toList]
theorem MemR.lt {W : World} {rb : Nat} {pv : Value} {s z : Int} {L : List Pg} (h : MemR W rb pv s z L) : ∀ b ∈ refBlks rb pv L, b < W.heap.size := by
 intro b hb
 rcases mem_refBlks.1 hb with rfl | hb | hb
 ·exact (Array.getElem?_eq_some_iff.1 h.hd).1
 ·exact (World.ownsRow.lt h.row b hb).2
 ·obtain ⟨p, hp, rfl⟩ := List.mem_map.1 hb
  exact (Array.getElem?_eq_some_iff.1 (h.page p hp)).1
theorem ownsRow_eq {E : TypeId} {w w' : World} {base k n : Nat} {v : Value} {l : List Value} (h : w.ownsRow base E k v n l) (hb : ∀ r, v.ownBlock = some r → w'.heap[r]? = w.heap[r]?) : w'.ownsRow base E k v n l := by
 obtain ⟨hlen, hc⟩ := h
 refine ⟨hlen, hc.imp id fun ⟨g, cap, cur, hv, hbg, hg, hr⟩ => ⟨g, cap, cur, hv, hbg, ?_, hr⟩⟩
 rw [hb g (by rw [hv]; rfl)]; exact hg
theorem MemR.same {W W' : World} {rb : Nat} {pv : Value} {s z : Int} {L : List Pg} (h : MemR W rb pv s z L) (hs : ∀ b ∈ refBlks rb pv L, W'.heap[b]? = W.heap[b]?) : MemR W' rb pv s z L :=
 ⟨(hs rb (mem_refBlks.2 (.inl rfl))).trans h.hd, ownsRow_eq h.row fun r e => hs r (mem_refBlks.2 (.inr (.inl e))), fun p hp => (hs p.blk (mem_refBlks.2 (.inr (.inr (List.mem_map.2 ⟨p, hp, rfl⟩))))).trans (h.page p hp), h.blks, h.ok, h.ws, h.wz⟩
theorem MemR.below {W W' : World} {rb B : Nat} {pv : Value} {s z : Int} {L : List Pg} (h : MemR W rb pv s z L) (hb : Below B W W') (hB : W.heap.size ≤ B) : MemR W' rb pv s z L :=
 h.same fun b hm => hb.block b (Nat.lt_of_lt_of_le (h.lt b hm) hB)
theorem MemR.cells {W : World} {rb : Nat} {pv : Value} {s z : Int} {L : List Pg} (h : MemR W rb pv s z L) : W.cell? ⟨rb, 0, none⟩ = some (.int .u64 s) ∧ W.cell? ⟨rb, 1, none⟩ = some (.int .u64 z) ∧ W.cell? ⟨rb, 2, none⟩ = some pv := by
 refine ⟨?_, ?_, ?_⟩ <;> simp [World.cell?, h.hd]
theorem MemR.frozen {W : World} {rb : Nat} {pv : Value} {s z : Int} {L : List Pg} (h : MemR W rb pv s z L) (o : Nat) : W.frozen? ⟨rb, o, none⟩ = false := by simp [World.frozen?, h.hd]
theorem MemR.open {W : World} {rb : Nat} {pv : Value} {s z : Int} {L : List Pg} (h : MemR W rb pv s z L) : ∃ (x : Option Addr) (cap : Nat), pv = .slice x L.length cap ∧ L.length ≤ maxLen ∧ (L ≠ [] → ∃ g, x = some ⟨g, 0, none⟩ ∧
  ∀ i (hi : i < L.length), W.cell? ⟨g, i * 2, none⟩ = some (.int .u64 (L[i].n * 4096)) ∧ W.cell? ⟨g, i * 2 + 1, none⟩ = some (.slice (some ⟨L[i].blk, 0, none⟩) 4096 4096)) := by
 obtain ⟨hlen, ⟨hv, h0⟩ | ⟨g, cap, cur, hv, hb, hg, hn, hm, hs, hx⟩⟩ := h.row
 ·have e := List.length_eq_zero_iff.1 h0
  exact ⟨none, 0, by rw [hv, h0], by rw [h0]; unfold maxLen; omega, fun h => absurd e h⟩
 ·refine ⟨some ⟨g, 0, none⟩, cap, hv, Nat.le_trans hn hm, fun _ => ⟨g, rfl, fun i hi => ?_⟩⟩
  have key : ∀ j, j < L.length * 2 → W.cell? ⟨g, j, none⟩ = (encPg L)[j]? := by
   intro j hj
   rw [← hx, List.getElem?_take, if_pos hj]
   simp only [World.cell?, hg]
   simp
  obtain ⟨e0, e1⟩ := encPg_get L i hi
  exact ⟨(key _ (by omega)).trans e0, (key _ (by omega)).trans e1⟩
set_option maxRecDepth 20000 in
set_option maxHeartbeats 1000000 in
theorem refAsk_any (rb : Nat) (pv : Value) (s z a n : Int) (L : List Pg) (w : World) (hm : MemR w rb pv s z L) (ha : W64 a) (hn : W64 n) :
  Calls Tryz.prog 66 #[.pointer (some ⟨rb, 0, none⟩), .int .u64 a, .int .u64 n] w fun e w' => e = .returned (.int .i64 (askV s z a n)) ∧ Below w.heap.size w w' := by
 obtain ⟨c0, c1, c2⟩ := hm.cells
 have hw := refWithin_any a n s z w ha hn hm.ws hm.wz
 have hn0 := hn.1
 clear hm
 by_cases h1 : 1048576 < n
 ·have hr : askV s z a n = 2 := by unfold askV; rw [if_pos h1]
  rw [hr]
  clear hr
  go_enter Tryz.func66, Tryz.ntmps66
  go_wp2_with fail
  go_ret
  exact ⟨rfl, Below.refl _ _⟩
 ·by_cases h2 : 0 < n
  ·cases hb : withinB a n s z
   ·have hr : askV s z a n = 90 := by unfold askV; rw [if_neg h1, if_pos ⟨h2, hb⟩]
    rw [hb] at hw
    rw [hr]
    clear hr hb
    go_enter Tryz.func66, Tryz.ntmps66
    go_wp2_with fail
    refine hw.mono ?_; rintro e w1 ⟨rfl, hb1⟩
    go_wp2_with fail
    go_ret
    exact ⟨rfl, hb1⟩
   ·have hr : askV s z a n = 0 := by unfold askV; rw [if_neg h1, if_neg (fun e => by rw [hb] at e; cases e.2)]
    rw [hb] at hw
    rw [hr]
    clear hr hb
    go_enter Tryz.func66, Tryz.ntmps66
    go_wp2_with fail
    refine hw.mono ?_; rintro e w1 ⟨rfl, hb1⟩
    go_wp2_with fail
    go_ret
    exact ⟨rfl, hb1⟩
  ·have hr : askV s z a n = 0 := by unfold askV; rw [if_neg h1, if_neg (fun e => h2 e.1)]
   rw [hr]
   clear hr
   go_enter Tryz.func66, Tryz.ntmps66
   go_wp2_with fail
   go_ret
   exact ⟨rfl, Below.refl _ _⟩
set_option maxRecDepth 20000 in
set_option maxHeartbeats 1000000 in
theorem refNewMem_any (x : Two) (w : World) (h1 : pageBad x = false) (h2 : lastV x.a x.b < 1099511627776) :
  Calls Tryz.prog 14 #[.agg #[.int .u64 x.a, .int .u64 x.b], .slice none 0 0] w fun e w' =>
   ∃ rb, e = .returned (.tuple #[.pointer (some ⟨rb, 0, none⟩), .int .i64 0]) ∧ MemR w' rb (.slice none 0 0) x.a x.b [] ∧ Below w.heap.size w w' ∧ w.heap.size ≤ rb := by
 have hp := fun (W : World) => refPages_any x W
 have hl := fun W => refLast_any x.a x.b W x.ha x.hb
 rw [h1] at hp
 generalize lastV x.a x.b = lv at *
 obtain ⟨m0, m1⟩ := two_new w (.int .u64 x.a) (.int .u64 x.b) 28
 have hb0 := bone w (.cells #[.int .u64 x.a, .int .u64 x.b] 28)
 have hz0 : w.heap.size < (w.alloc (.cells #[.int .u64 x.a, .int .u64 x.b] 28)).heap.size := by simp
 clear h1
 go_enter Tryz.func14, Tryz.ntmps14
 go_wp2_with fail
 generalize w.alloc (.cells #[.int .u64 x.a, .int .u64 x.b] 28) = w0 at *
 refine (hp w0).mono ?_; rintro e w1 ⟨rfl, hb1⟩
 replace m0 := cell_lt hb1 m0 hz0
 replace m1 := cell_lt hb1 m1 hz0
 replace hz0 := Nat.lt_of_lt_of_le hz0 hb1.size
 replace hb1 := bthen hb0 hb1
 clear hb0 hp
 go_wp2_with fail
 refine (hl w1).mono ?_; rintro e w2 ⟨rfl, hb2⟩
 replace m0 := cell_lt hb2 m0 hz0
 replace m1 := cell_lt hb2 m1 hz0
 replace hz0 := Nat.lt_of_lt_of_le hz0 hb2.size
 replace hb1 := bthen hb1 hb2
 clear hb2 hl
 go_wp2_with fail
 refine wp_loop_rounds 1 ?_
 rw [rounds_succ]
 go_wp2_with fail
 go_ret2
 refine ⟨w2.heap.size, rfl, ⟨World.alloc_heap_new w2 _, World.ownsRow_nil _ _ _ _, by simp, by simp, PgOk.nil, x.ha, x.hb⟩, hb1.alloc (by omega) _, by omega⟩
structure CellIs (b o : Nat) (v : Value) where
 x : World
 h : x.cell? ⟨b, o, none⟩ = some v
structure WroteR (w w' : World) (rb : Nat) (pv pv' : Value) (s z : Int) (L L' : List Pg) (B : Nat) (tgt : PG) : Prop where
 mem : MemR w' rb pv' s z L'
 ab : L'.map Pg.ab = tgt
 off : OffL B (refBlks rb pv L) w w'
 blks : ∀ b ∈ refBlks rb pv' L', b ∈ refBlks rb pv L ∨ w.heap.size ≤ b
theorem pg_idx {L : List Pg} (h : PgOk (L.map Pg.ab)) {i j : Nat} (hi : i < L.length) (hj : j < L.length) (e : L[i].n = L[j].n) : i = j := by
 have hnd := h.nodup
 rw [List.map_map] at hnd
 have hp := List.pairwise_iff_getElem.1 hnd
 have key : ∀ a b (ha : a < L.length) (hb : b < L.length), a < b → L[a].n ≠ L[b].n := fun a b ha hb hab => by
  have := hp a b (by simpa using ha) (by simpa using hb) hab
  simpa [Pg.ab] using this
 rcases Nat.lt_trichotomy i j with h1 | h1 | h1
 ·exact absurd e (key i j hi hj h1)
 ·exact h1
 ·exact absurd e.symm (key j i hj hi h1)
set_option maxRecDepth 20000 in
set_option maxHeartbeats 2000000 in
theorem find_there (rb : Nat) (pv : Value) (s z n : Int) (L : List Pg) (i : Nat) (hi : i < L.length) (hn : L[i].n = n) (made : Bool) (w : World) (hm : MemR w rb pv s z L) :
  Calls Tryz.prog 67 #[.pointer (some ⟨rb, 0, none⟩), .int .u64 (n * 4096), .bool made] w fun e w' => e = .returned (.int .i64 i) ∧ w = w' := by
 obtain ⟨c0, c1, c2⟩ := hm.cells
 obtain ⟨x, cap, rfl, hmx, hx⟩ := hm.open
 obtain ⟨g, rfl, hcell⟩ := hx (by rintro rfl; simp at hi)
 unfold maxLen at hmx
 go_enter Tryz.func67, Tryz.ntmps67
 go_wp2_with fail
 go_loop [13] (fun u => ∃ k : Nat, k ≤ i ∧ u = .int .i64 k ∧ ∀ j (h : j < L.length), j < k → L[j].n ≠ n) (fun u => L.length - (intOf u).toNat)
 case atStart => exact ⟨0, Nat.zero_le _, rfl, fun j _ h => by omega⟩
 case round =>
  obtain ⟨k, hk, rfl, hno⟩ := hrel
  have hkl : k < L.length := by omega
  obtain ⟨d0, d1⟩ := hcell k hkl
  by_cases he : L[k].n = n
  ·have hq : (L[k].n * 4096 == n * 4096) = true := by rw [he]; simp
   obtain rfl : k = i := pg_idx hm.ok hkl hi (by rw [he, hn])
   replace he := Lib.hid he
   replace hn := Lib.hid hn
   go_wp2_with fail
   go_ret
   exact ⟨rfl, rfl⟩
  ·have hq : (L[k].n * 4096 == n * 4096) = false := by simp; omega
   have hki : k ≠ i := by rintro rfl; exact he hn
   have hno' : ∀ j (h : j < L.length), j < k + 1 → L[j].n ≠ n := fun j h h2 => by
    by_cases e : j = k
    ·subst e; exact he
    ·exact hno j h (by omega)
   replace hno' := Lib.hid hno'
   clear hno
   go_wp2_with fail
   go_round
   case rel => exact ⟨k + 1, by omega, by go_num, hno'.out⟩
   case measure => simp [intOf]; omega
set_option maxRecDepth 20000 in
set_option maxHeartbeats 2000000 in
theorem find_none (rb : Nat) (pv : Value) (s z n : Int) (L : List Pg) (hno : ∀ p ∈ L, p.n ≠ n) (w : World) (hm : MemR w rb pv s z L) :
  Calls Tryz.prog 67 #[.pointer (some ⟨rb, 0, none⟩), .int .u64 (n * 4096), .bool false] w fun e w' => e = .returned (.int .i64 (-1)) ∧ w = w' := by
 obtain ⟨c0, c1, c2⟩ := hm.cells
 obtain ⟨x, cap, rfl, hmx, hx⟩ := hm.open
 unfold maxLen at hmx
 go_enter Tryz.func67, Tryz.ntmps67
 go_wp2_with fail
 go_loop [13] (fun u => ∃ k : Nat, k ≤ L.length ∧ u = .int .i64 k) (fun u => L.length - (intOf u).toNat)
 case atStart => exact ⟨0, Nat.zero_le _, rfl⟩
 case round =>
  obtain ⟨k, hk, rfl⟩ := hrel
  by_cases hkl : k < L.length
  ·obtain ⟨g, rfl, hcell⟩ := hx (by rintro rfl; simp at hkl)
   obtain ⟨d0, d1⟩ := hcell k hkl
   have hnk := hno _ (List.getElem_mem hkl)
   have hq : (L[k].n * 4096 == n * 4096) = false := by simp; omega
   clear hno hcell
   replace hnk := Lib.hid hnk
   go_wp2_with fail
   go_round
   case rel => exact ⟨k + 1, by omega, by go_num⟩
   case measure => simp [intOf]; omega
  ·obtain rfl : k = L.length := by omega
   clear hno
   go_wp2_with fail
   go_ret
   exact ⟨rfl, rfl⟩
theorem heapAt_put {w : World} {B : Nat} {cs : Array Value} {T : TypeId} {fz : Nat × Nat} (h : w.heap[B]? = some (.cells cs T fz)) (i : Nat) (u : Value) : (w.setCell ⟨B, i, none⟩ u).heap[B]? = some (.cells (cs.setIfInBounds i u) T fz) := by
 rw [Go.Sort.setCell_eq]
 simp [Go.Sort.mapBlock, Array.getElem?_modify, h, Go.Sort.onCells]
theorem MemR.apart {W : World} {rb : Nat} {pv : Value} {s z : Int} {L : List Pg} (h : MemR W rb pv s z L) : pv.ownBlock ≠ some rb ∧ (∀ p ∈ L, p.blk ≠ rb ∧ pv.ownBlock ≠ some p.blk) := by
 have key : ∀ g, pv.ownBlock = some g → ∃ cur, W.heap[g]? = some (.cells cur 127 (0, 0)) := fun g hg => by
  obtain ⟨_, ⟨hv, _⟩ | ⟨g', cap, cur, hv, _, hg', _⟩⟩ := h.row
  ·rw [hv] at hg; cases hg
  ·rw [hv] at hg; cases hg; exact ⟨cur, hg'⟩
 refine ⟨fun e => ?_, fun p hp => ⟨fun e => ?_, fun e => ?_⟩⟩
 ·obtain ⟨cur, hc⟩ := key _ e
  rw [h.hd] at hc; simp at hc
 ·have := h.page p hp
  rw [e, h.hd] at this; simp at this
 ·obtain ⟨cur, hc⟩ := key _ e
  rw [h.page p hp] at hc; simp at hc
theorem WroteR.added {w w4 : World} {rb : Nat} {pv pv' : Value} {s z n : Int} {L : List Pg} {B blk : Nat} (h : MemR w rb pv s z L) (hB : ∀ k ∈ refBlks rb pv L, B ≤ k) (hno : ∀ p ∈ L, p.n ≠ n) (hn : 0 ≤ n ∧ n < 4503599627370496) (hblk : blk = w.heap.size)
  (hk : ∀ k, k < w.heap.size → pv.ownBlock ≠ some k → w4.heap[k]? = w.heap[k]?) (hp : w4.heap[blk]? = some (.cells (bytesV zpg) 5 (0, 0))) (hr : w4.ownsRow 0 127 2 pv' (L.length + 1) (encPg (L ++ [⟨n, zpg, blk⟩])))
  (hat : pv'.ownBlock = pv.ownBlock ∨ ∀ r, pv'.ownBlock = some r → w.heap.size < r) (hb : Below B w w4) : WroteR w (w4.setCell ⟨rb, 2, none⟩ pv') rb pv pv' s z L (L ++ [⟨n, zpg, blk⟩]) B ((L ++ [⟨n, zpg, blk⟩] : List Pg).map Pg.ab) := by
 subst hblk
 obtain ⟨a1, a2⟩ := h.apart
 have hrb := h.lt rb (mem_refBlks.2 (.inl rfl))
 have hrw : w4.heap[rb]? = some (.cells #[.int .u64 s, .int .u64 z, pv] 95 (0, 0)) := (hk rb hrb a1).trans h.hd
 have hoth : ∀ k, k ≠ rb → (w4.setCell ⟨rb, 2, none⟩ pv').heap[k]? = w4.heap[k]? := fun k e => Below.heap_setCell w4 _ pv' k (by simpa using e)
 have hpr : ∀ r, pv'.ownBlock = some r → r ≠ rb := fun r e1 e2 => by
  rcases hat with e | e
  ·rw [e, e2] at e1; exact a1 e1
  ·have := e r e1; omega
 refine ⟨⟨?_, ownsRow_eq (by rw [List.length_append]; exact hr) fun r e => hoth r (hpr r e), fun q hq => ?_, ?_, ?_, h.ws, h.wz⟩, rfl, ⟨hb.setCell (by simpa using hB rb (mem_refBlks.2 (.inl rfl))) _, fun k h1 h2 => ?_⟩, fun k hk' => ?_⟩
 ·have := heapAt_put hrw 2 pv'
  simpa using this
 ·rcases List.mem_append.1 hq with hq | hq
  ·have hlt := h.lt q.blk (mem_refBlks.2 (.inr (.inr (List.mem_map.2 ⟨q, hq, rfl⟩))))
   exact (hoth q.blk (a2 q hq).1).trans ((hk q.blk hlt (a2 q hq).2).trans (h.page q hq))
  ·simp only [List.mem_singleton] at hq
   subst hq
   exact (hoth w.heap.size (by omega)).trans hp
 ·rw [List.map_append, List.nodup_append]
  refine ⟨h.blks, by simp, fun a ha b hb e => ?_⟩
  simp only [List.map_cons, List.map_nil, List.mem_singleton] at hb
  have := h.lt a (mem_refBlks.2 (.inr (.inr ha)))
  omega
 ·have := h.ok.put (n := n) (o := 0) (m := []) (by simp) (by simp) hn
  unfold pgPut at this
  rw [if_neg (fun hm => by
   obtain ⟨q, hq, e⟩ := List.mem_map.1 hm
   obtain ⟨p, hp, rfl⟩ := List.mem_map.1 hq
   exact hno p hp e)] at this
  rw [List.map_append]
  have e0 : spl zpg 0 [] = zpg := by unfold spl; simp
  rw [e0] at this
  exact this
 ·have n1 : k ≠ rb := fun e => h2 (mem_refBlks.2 (.inl e))
  have n2 : pv.ownBlock ≠ some k := fun e => h2 (mem_refBlks.2 (.inr (.inl e)))
  exact (hoth k n1).trans (hk k h1 n2)
 ·rcases mem_refBlks.1 hk' with rfl | e | e
  ·exact .inl (mem_refBlks.2 (.inl rfl))
  ·rcases hat with e2 | e2
   ·exact .inl (mem_refBlks.2 (.inr (.inl (e2 ▸ e))))
   ·exact .inr (Nat.le_of_lt (e2 k e))
  ·rw [List.map_append] at e
   rcases List.mem_append.1 e with e | e
   ·exact .inl (mem_refBlks.2 (.inr (.inr e)))
   ·simp at e; exact .inr (by omega)
theorem cell_two_newR (W : World) (p q : Value) (t : TypeId) : ∀ (j : Nat) (u : Value), [p, q][j]? = some u → (W.alloc (.cells #[p, q] t)).cell? ((⟨W.heap.size, 0, none⟩ : Addr).add j) = some u := by
 intro j u hj
 have hadd : (⟨W.heap.size, 0, none⟩ : Addr).add j = ⟨W.heap.size, j, none⟩ := by unfold Addr.add; split <;> simp_all
 rw [hadd, World.cell?_alloc_new]
 simpa using hj
theorem ownsRow_slice {w : World} {base size n : Nat} {E : TypeId} {v : Value} {xs : List Value} (h : w.ownsRow base E size v n xs) : ∃ (a : Option Addr) (c : Nat), v = .slice a n c := by
 obtain ⟨_, ⟨rfl, rfl⟩ | ⟨g, cap, cur, hv, _⟩⟩ := h
 ·exact ⟨none, 0, rfl⟩
 ·exact ⟨_, _, hv⟩
theorem infoPage : (Tryz.prog.info? 127).map (fun i => (i.zero, i.size, i.bytes)) = some (some (.agg #[.int .u64 0, .slice none 0 0]), 2, 32) := by kernel_rfl
set_option maxRecDepth 20000 in
set_option maxHeartbeats 4000000 in
theorem find_made (rb : Nat) (pv : Value) (s z n : Int) (L : List Pg) (hno : ∀ p ∈ L, p.n ≠ n) (hn : 0 ≤ n ∧ n < 4503599627370496) (B : Nat) (w : World) (hm : MemR w rb pv s z L) (hB : ∀ k ∈ refBlks rb pv L, B ≤ k) (hl : L.length ≤ 1000000) :
  Calls Tryz.prog 67 #[.pointer (some ⟨rb, 0, none⟩), .int .u64 (n * 4096), .bool true] w fun e w' => e = .returned (.int .i64 L.length) ∧ ∃ pv' blk, WroteR w w' rb pv pv' s z L (L ++ [⟨n, zpg, blk⟩]) B ((L ++ [⟨n, zpg, blk⟩] : List Pg).map Pg.ab) := by
 obtain ⟨c0, c1, c2⟩ := hm.cells
 obtain ⟨x, cap, rfl, hmx, hx⟩ := hm.open
 unfold maxLen at hmx
 go_enter Tryz.func67, Tryz.ntmps67
 go_wp2_with fail
 go_loop [13] (fun u => ∃ k : Nat, k ≤ L.length ∧ u = .int .i64 k) (fun u => L.length - (intOf u).toNat)
 case atStart => exact ⟨0, Nat.zero_le _, rfl⟩
 case round =>
  obtain ⟨k, hk, rfl⟩ := hrel
  by_cases hkl : k < L.length
  ·obtain ⟨g, rfl, hcell⟩ := hx (by rintro rfl; simp at hkl)
   obtain ⟨d0, d1⟩ := hcell k hkl
   have hnk := hno _ (List.getElem_mem hkl)
   have hq : (L[k].n * 4096 == n * 4096) = false := by simp; omega
   clear hno hcell
   replace hnk := Lib.hid hnk
   go_wp2_with fail
   go_round
   case rel => exact ⟨k + 1, by omega, by go_num⟩
   case measure => simp [intOf]; omega
  ·obtain rfl : k = L.length := by omega
   replace hno := Lib.hid hno
   obtain ⟨i0, hi0, hz00, hz01, hz02⟩ : ∃ i, Tryz.prog.info? 127 = some i ∧ i.zero = some (.agg #[.int .u64 0, .slice none 0 0]) ∧ i.size = 2 ∧ i.bytes = 32 := by
    obtain ⟨i0, hi1, hi2⟩ := Option.map_eq_some_iff.1 infoPage
    rw [Prod.mk.injEq, Prod.mk.injEq] at hi2
    exact ⟨i0, hi1, hi2.1, hi2.2.1, hi2.2.2⟩
   go_wp2_with fail
   refine (wpIn_wide (n := 9)).1 ?_
   haveI : Nonempty (CellIs rb 2 (.slice x L.length cap)) := ⟨⟨w, c2⟩⟩
   refine region_ord_last (fun q => ∃ X : CellIs rb 2 (.slice x L.length cap), q = X.x) [([0, 1, 2, 3, 4, 5], 6), ([7], 8), ([], 9)] [10, 11] 12 (fun _ => trivial) (by kernel_rfl) (by kernel_rfl) (by kernel_rfl) (by kernel_rfl) (by kernel_rfl) ⟨⟨w.drew, c2⟩, rfl⟩ ?_
   simp only [List.map_cons, List.map_nil, List.filterMap_cons, List.filterMap_nil, List.getElem?_cons_succ, List.getElem?_cons_zero]
   have y2 := fun X : CellIs rb 2 (.slice x L.length cap) => X.h
   have hd : Below w.heap.size w w.drew := (Below.refl _ _).drew
   have hmd := hm.below hd (Nat.le_refl _)
   have hdz : w.drew.heap.size = w.heap.size := rfl
   generalize w.drew = wd at *
   have hrow := hmd.row
   have hlt := hmd.lt
   refine ordL_step ?_
   repeat (change wpQuiet _ _ _ _ (List.cons _ _) _; go_big_quiet_step (fail))
   refine wpQuiet_nil ?_
   intro Q₁ hQ₁
   have hmk := make_bytes wd 4096 4096 (by omega) (by omega) (by omega)
   change (Instr.makeSlice _ _ _).run _ _ = .ok (.slice (some ⟨wd.heap.size, 0, none⟩) 4096 4096) (wd.alloc (.cells (bytesV zpg) 5)) at hmk
   gi_wp2
   have cd := hmd.cells.2.2
   have ce := cell_lt (bone wd (.cells (bytesV zpg) 5)) cd (World.block_lt_of_cell? _ _ cd)
   refine hQ₁ _ _ ⟨⟨_, ce⟩, rfl⟩ ?_
   clear hQ₁ Q₁ hmk
   have hm1 := hmd.below (bone wd (.cells (bytesV zpg) 5)) (Nat.le_refl _)
   have hnew := World.alloc_heap_new wd (.cells (bytesV zpg) 5)
   have hb1 := bone wd (.cells (bytesV zpg) 5)
   have hz1 : (wd.alloc (.cells (bytesV zpg) 5)).heap.size = wd.heap.size + 1 := by simp
   generalize wd.alloc (.cells (bytesV zpg) 5) = w1 at *
   refine ordL_step ?_
   repeat (change wpQuiet _ _ _ _ (List.cons _ _) _; go_big_quiet_step (fail))
   refine wpQuiet_nil ?_
   intro Q₁ hQ₁
   gi_wp2
   have cf := cell_lt (bone w1 (.cells #[.int .u64 (n * 4096), .slice (some ⟨w.heap.size, 0, none⟩) 4096 4096] 127)) ce (World.block_lt_of_cell? _ _ ce)
   refine hQ₁ _ _ ⟨⟨_, cf⟩, rfl⟩ ?_
   clear hQ₁ Q₁
   have hb2 := bone w1 (.cells #[.int .u64 (n * 4096), .slice (some ⟨w.heap.size, 0, none⟩) 4096 4096] 127)
   have hown2 := ownsRow_eq (hm1.below hb2 (Nat.le_refl _)).row (fun _ _ => rfl)
   refine ordL_step ?_
   refine wpQuiet_nil ?_
   intro Q₁ hQ₁
   simp only [Option.toList]
   gi_wp2_with (gi_at_builtin; (refine wpListIn_append_own_at _ rfl _ _ 93 rfl 0 127 i0 _ 2 32 Tryz.underlying93 hi0 hz00 hz01 hz02 rfl (by decide) _ _ _ rfl hown2 ⟨w1.heap.size, 0, none⟩ 1 1 [.int .u64 (n * 4096), .slice (some ⟨w.heap.size, 0, none⟩) 4096 4096] ?_ rfl ?_ ?_ ?_ ?_ ?_ ?_); (focus (rw [hz1, hdz]; rfl)); (focus (exact cell_two_newR w1 _ _ _)); (focus (intro u hu; simp at hu; rcases hu with rfl | rfl <;> rfl)); (focus (unfold maxLen; omega)); (focus omega); (focus omega); intro v' w4 hown4 hgrow4 _ hat4)
   obtain ⟨x4, c4, rfl⟩ := ownsRow_slice hown4
   obtain ⟨na, nb⟩ := hm.apart
   have hs4 := hgrow4.size
   simp only [World.size_alloc] at hs4
   have hrb := hm.lt rb (mem_refBlks.2 (.inl rfl))
   have hkeep4 : ∀ k, k < w.heap.size → (Value.slice x L.length cap).ownBlock ≠ some k → w4.heap[k]? = w.heap[k]? := fun k h1 h2 =>
    (hgrow4.block k (by rw [World.size_alloc]; omega) (fun e => h2 e.symm)).trans ((hb2.block k (by omega)).trans ((hb1.block k (by omega)).trans (hd.block k h1)))
   have hpg4 : w4.heap[w.heap.size]? = some (.cells (bytesV zpg) 5 (0, 0)) := by
    refine (hgrow4.block w.heap.size (by rw [World.size_alloc]; omega) (fun e => ?_)).trans ((hb2.block _ (by omega)).trans (by rw [← hdz]; exact hnew))
    have := hm.lt w.heap.size (mem_refBlks.2 (.inr (.inl e.symm)))
    omega
   have c42 : w4.cell? ⟨rb, 2, none⟩ = some (.slice x L.length cap) := by
    have := hkeep4 rb hrb na
    simp only [World.cell?, this]
    simpa only [World.cell?] using c2
   have f42 : w4.frozen? ⟨rb, 2, none⟩ = false := by
    have := hkeep4 rb hrb na
    simp only [World.frozen?, this]
    simpa only [World.frozen?] using hm.frozen 2
   have hBw : B ≤ w.heap.size := by have := hB rb (mem_refBlks.2 (.inl rfl)); omega
   have hbel4 : Below B w w4 := (hd.mono hBw).trans ((hb1.mono (by omega)).trans (Below.grown (hb2.mono (by omega)) hgrow4 (by rw [World.size_alloc]; omega) (fun k e => hB k (mem_refBlks.2 (.inr (.inl e))))))
   refine hQ₁ _ _ ⟨⟨_, c42⟩, rfl⟩ ?_
   clear hQ₁ Q₁
   have hwr := WroteR.added (pv' := .slice x4 (L.length + 1) c4) hm hB hno.out hn rfl hkeep4 hpg4 (by
    have e : encPg (L ++ [⟨n, zpg, w.heap.size⟩]) = encPg L ++ [.int .u64 (n * 4096), .slice (some ⟨w.heap.size, 0, none⟩) 4096 4096] := by simp [encPg, Pg.enc]
    rw [e]; exact hown4) (hat4.imp id fun h r e => by rw [h] at e; cases e; rw [World.size_alloc]; omega) hbel4
   clear hown2 hown4 hgrow4 hat4 hb1 hb2 hnew hm1 hmd hrow hlt hkeep4 hpg4 hbel4 na nb cd ce cf hno
   refine ordL_last ?_
   repeat (change wpQuiet _ _ _ _ (List.cons _ _) _; go_big_quiet_step (fail))
   refine wpQuiet_nil ?_
   intro Q₁ hQ₁
   simp only [Option.toList]
   gi_wp2
   clear y2
   obtain ⟨d0, d1, d2⟩ := hwr.mem.cells
   generalize w4.setCell ⟨rb, 2, none⟩ (.slice x4 (L.length + 1) c4) = w5 at *
   go_wp2_with fail
   go_ret
   exact ⟨rfl, _, _, hwr⟩
end Go.Proofs.YtiblhlaemmdphaaGreat
/-! The reference's memory: writing bytes. -/
namespace Go.Proofs.YtiblhlaemmdphaaGreat
open Go Go.RowKit Go.BigFrame Go.Maps
theorem WroteR.stay {w w' : World} {rb : Nat} {pv : Value} {s z : Int} {L : List Pg} {B : Nat} (h : MemR w rb pv s z L) (hb : Below w.heap.size w w') (hB : B ≤ w.heap.size) : WroteR w w' rb pv pv s z L L B (L.map Pg.ab) :=
 ⟨h.below hb (Nat.le_refl _), rfl, OffL.of_below hb hB, fun _ h => .inl h⟩
theorem WroteR.trans {w w1 w2 : World} {rb : Nat} {pv pv1 pv2 : Value} {s z : Int} {L L1 L2 : List Pg} {B : Nat} {t1 t2 : PG} (h : WroteR w w1 rb pv pv1 s z L L1 B t1) (k : WroteR w1 w2 rb pv1 pv2 s z L1 L2 B t2) : WroteR w w2 rb pv pv2 s z L L2 B t2 :=
 ⟨k.mem, k.ab, h.off.trans k.off h.blks, fun b hb => by
  rcases k.blks b hb with e | e
  ·exact h.blks b e
  ·exact .inr (Nat.le_trans h.off.below.size e)⟩
theorem WroteR.pre {w w1 w' : World} {rb : Nat} {pv pv' : Value} {s z : Int} {L L' : List Pg} {B : Nat} {tgt : PG} (h : WroteR w1 w' rb pv pv' s z L L' B tgt) (hb : Below w.heap.size w w1) (hB : B ≤ w.heap.size) : WroteR w w' rb pv pv' s z L L' B tgt :=
 ⟨h.mem, h.ab, ⟨(hb.mono hB).trans h.off.below, fun k h1 h2 => (h.off.rest k (Nat.lt_of_lt_of_le h1 hb.size) h2).trans (hb.block k h1)⟩, fun b hk => (h.blks b hk).imp id fun e => Nat.le_trans hb.size e⟩
theorem WroteR.fresh {w wr : World} {rb : Nat} {pv pv1 : Value} {s z : Int} {L L1 : List Pg} {B : Nat} {tgt : PG} (h : WroteR w wr rb pv pv1 s z L L1 B tgt) : ∀ k, k < w.heap.size → k ∉ refBlks rb pv L → k ∉ refBlks rb pv1 L1 := fun k h1 h2 h3 => by
 rcases h.blks k h3 with e | e
 ·exact h2 e
 ·omega
theorem WroteR.low {w wr : World} {rb : Nat} {pv pv1 : Value} {s z : Int} {L L1 : List Pg} {B : Nat} {tgt : PG} (h : WroteR w wr rb pv pv1 s z L L1 B tgt) (hB : ∀ k ∈ refBlks rb pv L, B ≤ k) (hBw : B ≤ w.heap.size) : ∀ k ∈ refBlks rb pv1 L1, B ≤ k := fun k hk => by
 rcases h.blks k hk with e | e
 ·exact hB k e
 ·omega
theorem upd_enc (n : Int) (o : Nat) (m : List Int) (L : List Pg) : encPg (L.map (Pg.upd n o m)) = encPg L := by
 unfold encPg
 rw [List.flatMap_map]
 congr 1
 funext p
 simp only [Pg.enc, upd_n, upd_blk]
theorem upd_blks' (L : List Pg) (n : Int) (o : Nat) (m : List Int) : (L.map (Pg.upd n o m)).map Pg.blk = L.map Pg.blk := by
 rw [List.map_map]
 exact List.map_congr_left fun p _ => upd_blk n o m p
theorem WroteR.put {w wr : World} {rb : Nat} {pv pv1 : Value} {s z : Int} {L L1 : List Pg} {B : Nat} {tgt : PG} (h : WroteR w wr rb pv pv1 s z L L1 B tgt) (hB : ∀ k ∈ refBlks rb pv L, B ≤ k) (hBw : B ≤ w.heap.size) {p : Pg} (hp : p ∈ L1) {o : Nat} {m : List Int} (ho : o + m.length ≤ 4096) (hm : ∀ c ∈ m, 0 ≤ c ∧ c < 256) :
  WroteR w (wr.setRow p.blk (bytesV (spl p.bs o m))) rb pv pv1 s z L (L1.map (Pg.upd p.n o m)) B (pgPut (L1.map Pg.ab) p.n o m) := by
 have hpb : p.blk ∈ refBlks rb pv1 L1 := mem_refBlks.2 (.inr (.inr (List.mem_map.2 ⟨p, hp, rfl⟩)))
 have hBp := h.low hB hBw _ hpb
 obtain ⟨a1, a2⟩ := h.mem.apart
 have hab : (L1.map (Pg.upd p.n o m)).map Pg.ab = pgPut (L1.map Pg.ab) p.n o m := by
  rw [upd_ab]
  unfold pgPut
  rw [if_pos (show p.n ∈ (L1.map Pg.ab).map (·.1) from List.mem_map.2 ⟨p.ab, List.mem_map.2 ⟨p, hp, rfl⟩, rfl⟩)]
 refine ⟨⟨(setRow_other wr p.blk rb _ (fun e => (a2 p hp).1 e.symm)).trans h.mem.hd, ?_, ?_, by rw [upd_blks']; exact h.mem.blks, by rw [hab]; exact h.mem.ok.put ho hm (h.mem.ok.num p.ab (List.mem_map.2 ⟨p, hp, rfl⟩)), h.mem.ws, h.mem.wz⟩, hab, ⟨below_setRow h.off.below hBp _, fun k h3 h4 => ?_⟩, fun k hk => ?_⟩
 ·rw [upd_enc, List.length_map]
  exact ownsRow_eq h.mem.row fun r e => setRow_other wr p.blk r _ (fun e2 => (a2 p hp).2 (e2 ▸ e))
 ·intro q hq
  obtain ⟨q0, hq0, rfl⟩ := List.mem_map.1 hq
  rw [upd_blk]
  by_cases hn : q0.n = p.n
  ·obtain ⟨e1, e2⟩ := pg_same h.mem.ok hq0 hp hn
   have : (q0.upd p.n o m).bs = spl p.bs o m := by unfold Pg.upd; rw [if_pos hn, ← e2]
   rw [this, e1]
   exact setRow_heap wr p.blk _ _ _ _ (h.mem.page p hp)
  ·have : (q0.upd p.n o m).bs = q0.bs := by unfold Pg.upd; rw [if_neg hn]
   rw [this]
   exact (setRow_other wr p.blk q0.blk _ (fun e => hn (by rw [blk_inj h.mem.blks hq0 hp e]))).trans (h.mem.page q0 hq0)
 ·exact (setRow_other wr p.blk k _ (fun e => h.fresh k h3 h4 (e ▸ hpb))).trans (h.off.rest k h3 h4)
 ·refine h.blks k ?_
  rcases mem_refBlks.1 hk with e | e | e
  ·exact mem_refBlks.2 (.inl e)
  ·exact mem_refBlks.2 (.inr (.inl e))
  ·rw [upd_blks'] at e; exact mem_refBlks.2 (.inr (.inr e))
theorem ref_copy {W : World} {rb : Nat} {pv : Value} {s z : Int} {L : List Pg} (h : MemR W rb pv s z L) {p : Pg} (hp : p ∈ L) (o : Nat) (ho : o < 4096) (b off cap : Nat) (l : List Int)
  (hv : ∀ i (hi : i < l.length), W.cell? ⟨b, off + i, none⟩ = some (.int .u8 l[i])) (ty : TypeId) :
  (Builtin.copy_ #[31, 31] ty #[.slice (some ⟨p.blk, o, none⟩) (4096 - o) (4096 - o), .slice (some ⟨b, off, none⟩) l.length cap]).run Tryz.prog W =
   .ok (goInt ((min (4096 - o) l.length : Nat) : Int)) (W.setRow p.blk (bytesV (spl p.bs o (l.take (min (4096 - o) l.length))))) := by
 have hl : p.bs.length = 4096 := h.ok.len p.ab (List.mem_map.2 ⟨p, hp, rfl⟩)
 have hlen : (List.map (fun x => Value.int .u8 x) (l.take (min (4096 - o) l.length))).length = min (4096 - o) l.length := by
  rw [List.length_map, List.length_take]; omega
 have hr := run_copy_row (P := Tryz.prog) W 31 31 ty 5 p.blk o (4096 - o) (4096 - o) ⟨b, off, none⟩ l.length cap (bytesV p.bs) 5 ((l.take (min (4096 - o) l.length)).map fun x => Value.int .u8 x)
  Tryz.underlying31 (by kernel_rfl) (h.page p hp) (by rw [hlen]; exact Nat.min_comm _ _) ?_ ?_ (bytesV_one _)
 ·rw [hlen] at hr
  rw [hr, spl_bytes, hlen]
 ·intro j v hj
  rw [List.getElem?_map, List.getElem?_take] at hj
  split at hj
  ·rename_i hlt
   have hjl : j < l.length := by omega
   rw [List.getElem?_eq_getElem hjl] at hj
   simp only [Option.map_some, Option.some.injEq] at hj
   subst hj
   have hadd : (⟨b, off, none⟩ : Addr).add j = ⟨b, off + j, none⟩ := by unfold Addr.add; split <;> simp_all
   rw [hadd]; exact hv j hjl
  ·cases hj
 ·rw [hlen]
  have : (bytesV p.bs).size = 4096 := by unfold bytesV; simp [hl]
  omega
theorem find_ok (rb : Nat) (pv : Value) (s z n : Int) (L : List Pg) (hn : 0 ≤ n ∧ n < 4503599627370496) (B : Nat) (w : World) (hm : MemR w rb pv s z L) (hB : ∀ k ∈ refBlks rb pv L, B ≤ k) (hl : L.length ≤ 1000000) :
  Calls Tryz.prog 67 #[.pointer (some ⟨rb, 0, none⟩), .int .u64 (n * 4096), .bool true] w fun e w' =>
   ∃ (pv' : Value) (L2 : List Pg) (i : Nat) (p : Pg), e = .returned (.int .i64 i) ∧ L2[i]? = some p ∧ p.n = n ∧ WroteR w w' rb pv pv' s z L L2 B (L2.map Pg.ab) ∧ L2.length ≤ L.length + 1 ∧ ∀ o m, pgPut (L2.map Pg.ab) n o m = pgPut (L.map Pg.ab) n o m := by
 have hBw : B ≤ w.heap.size := by have := hm.lt rb (mem_refBlks.2 (.inl rfl)); have := hB rb (mem_refBlks.2 (.inl rfl)); omega
 by_cases hx : ∀ p ∈ L, p.n ≠ n
 ·refine (find_made rb pv s z n L hx hn B w hm hB hl).mono fun e w' ⟨he, pv', blk, h⟩ => ?_
  exact ⟨pv', _, L.length, ⟨n, zpg, blk⟩, he, by simp, rfl, h, by simp, fun o m => pgPut_add hx⟩
 ·obtain ⟨p, hp, e1⟩ : ∃ p ∈ L, p.n = n := by
   rcases Classical.em (∃ p ∈ L, p.n = n) with h | h
   ·exact h
   ·exact absurd (fun p hp e => h ⟨p, hp, e⟩) hx
  obtain ⟨i, hi, rfl⟩ := List.getElem_of_mem hp
  refine (find_there rb pv s z n L i hi e1 true w hm).mono fun e w' ⟨he, hw⟩ => ?_
  subst hw
  exact ⟨pv, L, i, L[i], he, List.getElem?_eq_getElem hi, e1, WroteR.stay hm (Below.refl _ _) hBw, by omega, fun o m => rfl⟩
theorem pgPut_len (pg : PG) (n : Int) (o : Nat) (m : List Int) : (pgPut pg n o m).length ≤ pg.length + 1 := by
 unfold pgPut; split <;> simp
theorem writeV_len : ∀ (n : Nat) {pg : PG} {a : Int} {l : List Int} (_ : l.length ≤ n), (writeV pg a l).length ≤ pg.length + l.length
 | 0, pg, a, l, hn => by rw [List.length_eq_zero_iff.1 (Nat.le_zero.1 hn), writeV_nil]; omega
 | n + 1, pg, a, l, hn => by
  by_cases hz : l = []
  ·subst hz; rw [writeV_nil]; omega
  ·rw [writeV_step pg a hz]
   have hp := List.length_pos_iff.2 hz
   have h1 := writeV_len n (pg := pgPut pg (a / 4096) (a % 4096).toNat (l.take (min (4096 - (a % 4096).toNat) l.length))) (a := a + (min (4096 - (a % 4096).toNat) l.length : Nat)) (l := l.drop (min (4096 - (a % 4096).toNat) l.length)) (by rw [List.length_drop]; omega)
   have h2 := pgPut_len pg (a / 4096) (a % 4096).toNat (l.take (min (4096 - (a % 4096).toNat) l.length))
   rw [List.length_drop] at h1
   omega
set_option maxRecDepth 100000 in
set_option maxHeartbeats 4000000 in
theorem refWrite_any (rb : Nat) (pv : Value) (s z a : Int) (L : List Pg) (B b off cap : Nat) (x : Option Addr) (l : List Int) (w : World) (hm : MemR w rb pv s z L) (ha : W64 a) (hB : ∀ k ∈ refBlks rb pv L, B ≤ k)
  (hx : l ≠ [] → x = some ⟨b, off, none⟩ ∧ b < w.heap.size ∧ b ∉ refBlks rb pv L ∧ ∀ i (h : i < l.length), w.cell? ⟨b, off + i, none⟩ = some (.int .u8 l[i])) (hl : ∀ c ∈ l, 0 ≤ c ∧ c < 256) (hlen : l.length + L.length ≤ 1000000) (hcap : l.length ≤ cap) :
  Calls Tryz.prog 36 #[.pointer (some ⟨rb, 0, none⟩), .int .u64 a, .slice x l.length cap] w fun e w' => e = .returned (.int .i64 (askV s z a l.length)) ∧ ∃ pv' L', WroteR w w' rb pv pv' s z L L' B (if askV s z a l.length = 0 then writeV (L.map Pg.ab) a l else L.map Pg.ab) := by
 have hk := fun W h => refAsk_any rb pv s z a l.length L W h ha (by unfold W64; omega)
 have ha0 := ha.1
 have ha1 := ha.2
 have hBw : B ≤ w.heap.size := by have := hm.lt rb (mem_refBlks.2 (.inl rfl)); have := hB rb (mem_refBlks.2 (.inl rfl)); omega
 by_cases hq : askV s z a l.length = 0
 ·have hend := fun h => ask_bd hq h
  rw [hq] at hk ⊢
  rw [if_pos rfl]
  clear hq
  replace hend := Lib.hid hend
  go_enter Tryz.func36, Tryz.ntmps36
  go_wp2_with fail
  refine (hk _ hm).mono ?_; rintro e w1 ⟨rfl, hb1⟩
  clear hk
  go_wp2_with fail
  go_loopw [1, 2] (fun u1 u2 wr => ∃ (pv1 : Value) (L1 : List Pg) (j : Nat) (a1 : Int) (y : Option Addr), j ≤ l.length ∧ u1 = .int .u64 a1 ∧ W64 a1 ∧ u2 = .slice y (l.length - j) (cap - j) ∧ (j < l.length → y = some ⟨b, off + j, none⟩ ∧ a1 = a + j) ∧ WroteR w wr rb pv pv1 s z L L1 B (L1.map Pg.ab) ∧ L1.length ≤ L.length + j ∧ writeV (L1.map Pg.ab) a1 (l.drop j) = writeV (L.map Pg.ab) a l) (fun _ u2 _ => lenV u2)
  case atStart => exact ⟨pv, L, 0, a, x, Nat.zero_le _, rfl, ha, rfl, fun h => ⟨(hx (by rintro rfl; simp at h)).1, by simp⟩, WroteR.stay hm hb1 hBw, Nat.le_refl _, rfl⟩
  case round =>
   obtain ⟨pv1, L1, j, a1, y, hj, rfl, hw1, rfl, hya, hwr, hLl, htgt⟩ := hrel
   clear hb1 hm
   by_cases hlt : j < l.length
   ·obtain ⟨rfl, rfl⟩ := hya hlt
    have hlne : l ≠ [] := by rintro rfl; simp at hlt
    obtain ⟨rfl, hbw, hbn, hcell⟩ := hx hlne
    have hcell1 : ∀ W : World, W.heap[b]? = w.heap[b]? → ∀ i (h : i < (l.drop j).length), W.cell? ⟨b, off + j + i, none⟩ = some (.int .u8 (l.drop j)[i]) := fun W hsame i h => by
     have h1 := hcell (j + i) (by rw [List.length_drop] at h; omega)
     simp only [World.cell?, hsame]
     simp only [World.cell?] at h1
     rw [Nat.add_assoc, List.getElem_drop]; exact h1
    have hdl : (l.drop j).length = l.length - j := List.length_drop
    have hDne : l.drop j ≠ [] := by intro e; rw [e] at hdl; simp at hdl; omega
    have hDb : ∀ c ∈ l.drop j, 0 ≤ c ∧ c < 256 := fun c hc => hl c (List.mem_of_mem_drop hc)
    have hDj : ∀ k, (l.drop j).drop k = l.drop (j + k) := fun k => by rw [List.drop_drop]
    rw [writeV_step _ _ hDne] at htgt
    have hE : a + j + (l.length - j : Nat) ≤ 18446744073709551616 := by have := hend.out (by omega); omega
    have hj0 : (0 : Int) ≤ a + j := by omega
    have hcj : l.length - j ≤ cap - j := by omega
    have hw10 := hw1.1
    have hw11 := hw1.2
    generalize l.drop j = D at *
    rw [← hdl] at hE hcj ⊢
    have hD0 : 0 < D.length := by omega
    generalize hA : a + (j : Int) = a1 at *
    replace hA := Lib.hid hA
    replace htgt := Lib.hid htgt
    replace hdl := Lib.hid hdl
    replace hDj := Lib.hid hDj
    clear hDne hj0 hcell
    have hfi := fun W h => find_ok rb pv1 s z (a1 / 4096) L1 (by omega) B W h (hwr.low hB hBw) (by omega)
    have hmul : IntKind.u64.wrap (a1 / 4096 * 4096) = a1 / 4096 * 4096 := by rw [IntKind.wrap_u64]; omega
    go_wp2_with fail
    refine (hfi _ hwr.mem).mono ?_; rintro e w4 ⟨pv2, L2, i, p, rfl, hip, hpn, hw4, hL2, hpe⟩
    clear hfi
    have hwr2 := hwr.trans hw4
    have hLl2 : L2.length ≤ L.length + (j + 1) := by omega
    obtain ⟨x2, c2, rfl, hmx, hx2⟩ := hw4.mem.open
    have hil : i < L2.length := (List.getElem?_eq_some_iff.1 hip).1
    obtain ⟨g2, rfl, hrow⟩ := hx2 (by rintro rfl; simp at hil)
    have hpi : L2[i] = p := (List.getElem?_eq_some_iff.1 hip).2
    have hp : p ∈ L2 := hpi ▸ List.getElem_mem hil
    obtain ⟨_, d1⟩ := hrow i hil
    rw [hpi] at d1
    obtain ⟨_, _, d2⟩ := hw4.mem.cells
    have hcp := fun ty => ref_copy hw4.mem hp (a1 % 4096).toNat (by omega) b (off + j) (cap - j) D (hcell1 w4 (hwr2.off.rest b hbw hbn)) ty
    unfold maxLen at hmx
    clear hcell1 hw4 hwr hrow hx2 hip hpi
    replace hpn := Lib.hid hpn
    replace hpe := Lib.hid hpe
    go_wp2_with fail
    have hko : (a1 % 4096).toNat < 4096 := by omega
    have hwp := hwr2.put hB hBw hp (o := (a1 % 4096).toNat) (m := D.take (min (4096 - (a1 % 4096).toNat) D.length)) (by rw [List.length_take]; omega) (fun c hc => hDb c (List.mem_of_mem_take hc))
    obtain ⟨r1, r2, r3, r4, r5⟩ := write_left a a1 j b off cap l D _ _ (writeV (L.map Pg.ab) a l) hdl.out hDj.out hA.out hlt hcap hw10 hE (min (4096 - (a1 % 4096).toNat) D.length) (by omega) (by omega) hwp.ab (by rw [hpn.out, hpe.out]; exact htgt.out)
    refine ⟨⟨_, _, j + (min (4096 - (a1 % 4096).toNat) D.length), _, _, r1, rfl, r2, r3, r4, ⟨hwp.mem, rfl, hwp.off, hwp.blks⟩, by rw [List.length_map]; omega, r5⟩, ?_⟩
    simp only [lenV]
    omega
   ·obtain rfl : j = l.length := by omega
    rw [List.drop_length, writeV_nil] at htgt
    have hpos : ¬ 0 < (((l.length - l.length : Nat) : Int)) := by omega
    replace htgt := Lib.hid htgt
    go_wp2_with fail
    go_ret
    exact ⟨rfl, pv1, L1, hwr.mem, htgt.out, hwr.off, hwr.blks⟩
 ·rw [if_neg hq]
  generalize askV s z a l.length = q at *
  have hq' : (q == 0) = false := by simpa using hq
  go_enter Tryz.func36, Tryz.ntmps36
  go_wp2_with fail
  refine (hk _ hm).mono ?_; rintro e w1 ⟨rfl, hb1⟩
  clear hk
  go_wp2_with fail
  go_ret
  exact ⟨rfl, pv, L, WroteR.stay hm hb1 hBw⟩
end Go.Proofs.YtiblhlaemmdphaaGreat
/-! The reference's memory: putting a word; reading bytes; a word. -/
namespace Go.Proofs.YtiblhlaemmdphaaGreat
open Go Go.RowKit Go.BigFrame Go.Maps
set_option maxRecDepth 20000 in
set_option maxHeartbeats 2000000 in
theorem refPutM_any (rb : Nat) (pv : Value) (s z a x : Int) (L : List Pg) (B : Nat) (w : World) (hm : MemR w rb pv s z L) (ha : W64 a) (hx : W64 x) (hB : ∀ k ∈ refBlks rb pv L, B ≤ k) (hl : L.length ≤ 999000) :
  Calls Tryz.prog 72 #[.pointer (some ⟨rb, 0, none⟩), .int .u64 a, .int .u64 x] w fun e w' => e = .returned (.int .i64 (putE s z a)) ∧ ∃ pv' L', WroteR w w' rb pv pv' s z L L' B (if putE s z a = 0 then writeV (L.map Pg.ab) a (putB x) else L.map Pg.ab) := by
 have hBw : B ≤ w.heap.size := by have := hm.lt rb (mem_refBlks.2 (.inl rfl)); have := hB rb (mem_refBlks.2 (.inl rfl)); omega
 have ha0 := ha.1
 have ha1 := ha.2
 by_cases h8 : a % 8 = 0
 ·have hpe : putE s z a = askV s z a 8 := by unfold putE; rw [if_pos h8]
  rw [hpe]
  clear hpe
  generalize hT : (if askV s z a 8 = 0 then writeV (L.map Pg.ab) a (putB x) else L.map Pg.ab) = T
  replace hT := Lib.hid hT
  have hp := refPut_any x w hx
  go_enter Tryz.func72, Tryz.ntmps72
  go_wp2_with fail
  refine hp.mono ?_; rintro e w1 ⟨r, rfl, hown, hb1⟩
  clear hp
  obtain ⟨y, cap, g, rfl, hcap, hg⟩ := hown.open
  have hg' : putB x ≠ [] := by intro e; have := putB_len x; rw [e] at this; simp at this
  obtain ⟨rfl, hgb, hglt, hgc⟩ := hg hg'
  have hm1 := hm.below hb1 (Nat.le_refl _)
  have hgn : g ∉ refBlks rb pv L := fun e => by have := hm.lt g e; omega
  have hw := refWrite_any rb pv s z a L B g 0 cap (some ⟨g, 0, none⟩) (putB x) w1 hm1 ha hB (fun _ => ⟨rfl, hglt, hgn, hgc⟩) (putB_byte x) (by rw [putB_len]; omega) hcap
  have hlen : (((putB x).length : Nat) : Int) = 8 := by rw [putB_len]; rfl
  rw [hlen, hT.out] at hw
  clear hgc hown
  replace hlen := Lib.hid hlen
  go_wp2_with fail
  refine hw.mono ?_; rintro e w2 ⟨rfl, pv', L', hwr⟩
  go_wp2_with fail
  go_ret
  exact ⟨rfl, pv', L', hwr.pre hb1 hBw⟩
 ·have hpe : putE s z a = 90 := by unfold putE; rw [if_neg h8]
  rw [hpe, if_neg (by decide)]
  clear hpe
  go_enter Tryz.func72, Tryz.ntmps72
  go_wp2_with fail
  go_ret
  exact ⟨rfl, pv, L, WroteR.stay hm (Below.refl _ _) hBw⟩
def rdB (pg : PG) (a : Int) (n : Nat) : List Int := (List.range n).map fun i : Nat => bt pg (a + (i : Int))
theorem rdB_len (pg : PG) (a : Int) (n : Nat) : (rdB pg a n).length = n := by simp [rdB]
theorem rdB_add (pg : PG) (a : Int) (n m : Nat) : rdB pg a (n + m) = rdB pg a n ++ rdB pg (a + n) m := by
 unfold rdB
 rw [List.range_add, List.map_append, List.map_map]
 congr 1
 apply List.map_congr_left
 intro i _
 simp only [Function.comp]
 congr 1
 omega
theorem rdB_none {pg : PG} {a : Int} {m : Nat} (h : pgFind pg (a / 4096) = none) (hm : (a % 4096).toNat + m ≤ 4096) : rdB pg a m = List.replicate m 0 := by
 apply List.ext_getElem
 ·simp [rdB]
 ·intro i h1 h2
  have hi : i < m := by simpa [rdB] using h1
  rw [List.getElem_replicate]
  simp only [rdB, List.getElem_map, List.getElem_range]
  unfold bt
  rw [show (a + (i : Int)) / 4096 = a / 4096 by omega, h]
theorem rdB_some {pg : PG} {a : Int} {m : Nat} {bs : List Int} (h : pgFind pg (a / 4096) = some bs) (hl : bs.length = 4096) (hm : (a % 4096).toNat + m ≤ 4096) : rdB pg a m = (bs.drop (a % 4096).toNat).take m := by
 apply List.ext_getElem
 ·rw [rdB_len, List.length_take, List.length_drop]; omega
 ·intro i h1 h2
  have hi : i < m := by rw [rdB_len] at h1; exact h1
  simp only [rdB, List.getElem_map, List.getElem_range, List.getElem_take, List.getElem_drop]
  unfold bt
  rw [show (a + (i : Int)) / 4096 = a / 4096 by omega, h, show ((a + (i : Int)) % 4096).toNat = (a % 4096).toNat + i by omega]
  show bs.getD _ 0 = _
  rw [List.getD_eq_getElem?_getD, List.getElem?_eq_getElem (by omega)]
  rfl
theorem rdB_byte {pg : PG} (h : PgOk pg) (a : Int) (n : Nat) : ∀ c ∈ rdB pg a n, 0 ≤ c ∧ c < 256 := by
 intro c hc
 obtain ⟨i, _, rfl⟩ := List.mem_map.1 hc
 exact bt_bd h _
theorem find_any (rb : Nat) (pv : Value) (s z n : Int) (L : List Pg) (w : World) (hm : MemR w rb pv s z L) :
  (∃ p ∈ L, p.n = n ∧ ∃ i : Nat, L[i]? = some p ∧ Calls Tryz.prog 67 #[.pointer (some ⟨rb, 0, none⟩), .int .u64 (n * 4096), .bool false] w fun e w' => e = .returned (.int .i64 i) ∧ w = w') ∨
  ((∀ p ∈ L, p.n ≠ n) ∧ Calls Tryz.prog 67 #[.pointer (some ⟨rb, 0, none⟩), .int .u64 (n * 4096), .bool false] w fun e w' => e = .returned (.int .i64 (-1)) ∧ w = w') := by
 by_cases hx : ∀ p ∈ L, p.n ≠ n
 ·exact .inr ⟨hx, find_none rb pv s z n L hx w hm⟩
 ·obtain ⟨p, hp, e1⟩ : ∃ p ∈ L, p.n = n := by
   rcases Classical.em (∃ p ∈ L, p.n = n) with h | h
   ·exact h
   ·exact absurd (fun p hp e => h ⟨p, hp, e⟩) hx
  obtain ⟨i, hi, rfl⟩ := List.getElem_of_mem hp
  exact .inl ⟨L[i], hp, e1, i, List.getElem?_eq_getElem hi, find_there rb pv s z n L i hi e1 false w hm⟩
theorem ownsRow_cast {w : World} {base size n n' : Nat} {E : TypeId} {v : Value} {xs xs' : List Value} (h : w.ownsRow base E size v n xs) (hn : n = n') (hx : xs = xs') : w.ownsRow base E size v n' xs' := by subst hn; subst hx; exact h
set_option maxRecDepth 100000 in
set_option maxHeartbeats 4000000 in
theorem refRead_any (rb : Nat) (pv : Value) (s z a : Int) (n : Nat) (L : List Pg) (w : World) (hm : MemR w rb pv s z L) (ha : W64 a) (hq : askV s z a n = 0) (hn : n ≤ 1048576) :
  Calls Tryz.prog 42 #[.pointer (some ⟨rb, 0, none⟩), .int .u64 a, .int .u64 n] w fun e w' => ∃ r, e = .returned (.tuple #[r, .int .i64 0]) ∧ OwnB w' w.heap.size r (rdB (L.map Pg.ab) a n) ∧ Below w.heap.size w w' := by
 have hk := fun W h => refAsk_any rb pv s z a n L W h ha (by unfold W64; omega)
 have ha0 := ha.1
 have ha1 := ha.2
 have hend := fun h => ask_bd hq h
 rw [hq] at hk
 clear hq
 replace hend := Lib.hid hend
 go_enter Tryz.func42, Tryz.ntmps42
 go_wp2_with fail
 refine (hk _ hm).mono ?_; rintro e w1 ⟨rfl, hb1⟩
 clear hk
 go_wp2_with fail
 go_loopw [9] (fun u wr => ∃ j : Nat, j ≤ n ∧ OwnB wr w.heap.size u (rdB (L.map Pg.ab) a j) ∧ Below w.heap.size w wr) (fun u _ => n - lenV u)
 case atStart => exact ⟨0, Nat.zero_le _, OwnB.nil _ _, hb1⟩
 case round =>
  obtain ⟨j, hj, hown, hB⟩ := hrel
  clear hb1
  obtain ⟨x0, c0, rfl⟩ := ownsRow_slice hown
  have hmr := hm.below hB (Nat.le_refl _)
  have hz := hB.size
  have hlj := rdB_len (L.map Pg.ab) a j
  have hownj : wr.ownsRow w.heap.size 5 1 (.slice x0 j c0) j ((rdB (L.map Pg.ab) a j).map fun x => Value.int .u8 x) := by rw [hlj] at hown; exact ownsRow_cast hown hlj rfl
  rw [hlj] at hown ⊢
  by_cases hlt : j < n
  ·have hE : a + (n : Int) ≤ 18446744073709551616 := hend.out (by omega)
   have hj0 : (0 : Int) ≤ a + j := by omega
   have hw : IntKind.u64.wrap (a + (j : Int)) = a + j := by rw [IntKind.wrap_u64]; omega
   have hmul : IntKind.u64.wrap ((a + (j : Int)) / 4096 * 4096) = (a + (j : Int)) / 4096 * 4096 := by rw [IntKind.wrap_u64]; omega
   replace hlj := Lib.hid hlj
   have hf := find_any rb pv s z ((a + (j : Int)) / 4096) L wr hmr
   by_cases hs : (n : Int) - (j : Int) < 4096 - (a + (j : Int)) % 4096
   ·skip
    have hR := rdB_add (L.map Pg.ab) a j (n - j)
    obtain ⟨N, hN⟩ : ∃ N, j + (n - j) = N := ⟨_, rfl⟩
    rw [hN] at hR
    replace hN := Lib.hid hN
    have hlR := rdB_len (L.map Pg.ab) (a + (j : Int)) (n - j)
    have hszi : (((n - j) : Nat) : Int) = (n : Int) - (j : Int) := by omega
    have hol := fun r => World.ownsRow.lt hown r
    rcases hf with ⟨p, hp, hpn, i, hip, hf⟩ | ⟨hno, hf⟩
    ·have hpl : p.bs.length = 4096 := hm.ok.len p.ab (List.mem_map.2 ⟨p, hp, rfl⟩)
     have hsm := rdB_some (m := n - j) (show pgFind (L.map Pg.ab) ((a + (j : Int)) / 4096) = some p.bs by rw [← hpn]; exact pg_find_some hm.ok hp) hpl (by omega)
     obtain ⟨x2, c2, rfl, hmx, hx2⟩ := hmr.open
     have hil : i < L.length := (List.getElem?_eq_some_iff.1 hip).1
     obtain ⟨g2, rfl, hrow⟩ := hx2 (by rintro rfl; simp at hil)
     obtain ⟨_, d1⟩ := hrow i hil
     have hpi : L[i] = p := (List.getElem?_eq_some_iff.1 hip).2
     rw [hpi] at d1
     obtain ⟨_, _, d2⟩ := hmr.cells
     unfold maxLen at hmx
     have hpc := hmr.page p hp
     have hnews : ∀ (k : Nat) (u : Value), ((rdB (L.map Pg.ab) (a + (j : Int)) (n - j)).map fun x => Value.int .u8 x)[k]? = some u → wr.cell? ((⟨p.blk, ((a + (j : Int)) % 4096).toNat, none⟩ : Addr).add k) = some u := fun k u hk => by
      rw [hsm] at hk
      rw [List.getElem?_map, List.getElem?_take] at hk
      split at hk
      ·rename_i hks
       rw [List.getElem?_drop] at hk
       have hadd : (⟨p.blk, ((a + (j : Int)) % 4096).toNat, none⟩ : Addr).add k = ⟨p.blk, ((a + (j : Int)) % 4096).toNat + k, none⟩ := by unfold Addr.add; split <;> simp_all
       rw [hadd]
       simp only [World.cell?, hpc, bytesV]
       rw [← hk]
       simp
      ·cases hk
     obtain ⟨i0, hi1, hi2⟩ := Option.map_eq_some_iff.1 infoByte
     rw [Prod.mk.injEq, Prod.mk.injEq] at hi2
     obtain ⟨hz1, hz2, hz3⟩ := hi2
     have hlo : 0 < 4096 - ((a + (j : Int)) % 4096).toNat := by omega
     replace hR := Lib.hid hR
     replace hlR := Lib.hid hlR
     replace hsm := Lib.hid hsm
     replace hpn := Lib.hid hpn
     replace hszi := Lib.hid hszi
     replace hpl := Lib.hid hpl
     clear hrow hx2 hip hpi hpc
     go_wp2_with fail
     refine hf.mono ?_; rintro e w5 ⟨rfl, rfl⟩
     clear hf
     go_wp2_with (at_builtin; refine wpList_append_own_at _ rfl _ _ 31 rfl w.heap.size 5 i0 _ 1 1 Tryz.underlying31 hi1 hz1 hz2 hz3 rfl (by decide) (.slice x0 j c0) j _ rfl hownj ⟨p.blk, ((a + (j : Int)) % 4096).toNat, none⟩ _ _ ((rdB (L.map Pg.ab) (a + (j : Int)) (n - j)).map fun x => Value.int .u8 x) rfl ?_ hnews (bytesV_one _) ?_ ?_ hz ?_; (focus (rw [List.length_map, hlR.out]; omega)); (focus (unfold maxLen; omega)); (focus omega); intro v' w6 hown6 hgrow6 _ _; obtain ⟨x6, c6, rfl⟩ := ownsRow_slice hown6)
     refine ⟨⟨N, by have := hN.out; omega, ?_, ?_⟩, ?_⟩
     ·refine ownsRow_cast hown6 (by have := hN.out; rw [rdB_len]; omega) ?_
      rw [hR.out, List.map_append]
     ·exact Below.grown hB hgrow6 hz (fun k hk => (hol k hk).1)
     ·have := hN.out
      simp only [lenV]; omega
    ·have hrep := rdB_none (m := n - j) (pg_find_none hno) (by omega)
     obtain ⟨v', w6, hz6, hown6, hgrow6⟩ := append_zeros (w := wr) w.heap.size (.slice x0 j c0) _ 31 (n - j) .u64 hown (by omega) (by rw [hlj.out]; omega) hz
     rw [hszi, ← hrep, ← hR] at *
     obtain ⟨x6, c6, rfl⟩ := ownsRow_slice hown6
     replace hR := Lib.hid hR
     replace hlR := Lib.hid hlR
     replace hrep := Lib.hid hrep
     replace hszi := Lib.hid hszi
     go_wp2_with fail
     refine hf.mono ?_; rintro e w5 ⟨rfl, rfl⟩
     clear hf
     go_wp2_with (at_builtin; refine Lib.wpList_append_run _ rfl _ _ _ _ rfl _ _ rfl rfl _ _ hz6 ?_)
     refine ⟨⟨N, by have := hN.out; omega, hown6, ?_⟩, ?_⟩
     ·exact Below.grown hB hgrow6 hz (fun k hk => (hol k hk).1)
     ·have := hN.out
      simp only [lenV]; rw [rdB_len]; omega
   ·skip
    have hR := rdB_add (L.map Pg.ab) a j (4096 - ((a + (j : Int)) % 4096).toNat)
    obtain ⟨N, hN⟩ : ∃ N, j + (4096 - ((a + (j : Int)) % 4096).toNat) = N := ⟨_, rfl⟩
    rw [hN] at hR
    replace hN := Lib.hid hN
    have hlR := rdB_len (L.map Pg.ab) (a + (j : Int)) (4096 - ((a + (j : Int)) % 4096).toNat)
    have hszi : (((4096 - ((a + (j : Int)) % 4096).toNat) : Nat) : Int) = 4096 - (a + (j : Int)) % 4096 := by omega
    have hol := fun r => World.ownsRow.lt hown r
    rcases hf with ⟨p, hp, hpn, i, hip, hf⟩ | ⟨hno, hf⟩
    ·have hpl : p.bs.length = 4096 := hm.ok.len p.ab (List.mem_map.2 ⟨p, hp, rfl⟩)
     have hsm := rdB_some (m := 4096 - ((a + (j : Int)) % 4096).toNat) (show pgFind (L.map Pg.ab) ((a + (j : Int)) / 4096) = some p.bs by rw [← hpn]; exact pg_find_some hm.ok hp) hpl (by omega)
     obtain ⟨x2, c2, rfl, hmx, hx2⟩ := hmr.open
     have hil : i < L.length := (List.getElem?_eq_some_iff.1 hip).1
     obtain ⟨g2, rfl, hrow⟩ := hx2 (by rintro rfl; simp at hil)
     obtain ⟨_, d1⟩ := hrow i hil
     have hpi : L[i] = p := (List.getElem?_eq_some_iff.1 hip).2
     rw [hpi] at d1
     obtain ⟨_, _, d2⟩ := hmr.cells
     unfold maxLen at hmx
     have hpc := hmr.page p hp
     have hnews : ∀ (k : Nat) (u : Value), ((rdB (L.map Pg.ab) (a + (j : Int)) (4096 - ((a + (j : Int)) % 4096).toNat)).map fun x => Value.int .u8 x)[k]? = some u → wr.cell? ((⟨p.blk, ((a + (j : Int)) % 4096).toNat, none⟩ : Addr).add k) = some u := fun k u hk => by
      rw [hsm] at hk
      rw [List.getElem?_map, List.getElem?_take] at hk
      split at hk
      ·rename_i hks
       rw [List.getElem?_drop] at hk
       have hadd : (⟨p.blk, ((a + (j : Int)) % 4096).toNat, none⟩ : Addr).add k = ⟨p.blk, ((a + (j : Int)) % 4096).toNat + k, none⟩ := by unfold Addr.add; split <;> simp_all
       rw [hadd]
       simp only [World.cell?, hpc, bytesV]
       rw [← hk]
       simp
      ·cases hk
     obtain ⟨i0, hi1, hi2⟩ := Option.map_eq_some_iff.1 infoByte
     rw [Prod.mk.injEq, Prod.mk.injEq] at hi2
     obtain ⟨hz1, hz2, hz3⟩ := hi2
     have hlo : 0 < 4096 - ((a + (j : Int)) % 4096).toNat := by omega
     replace hR := Lib.hid hR
     replace hlR := Lib.hid hlR
     replace hsm := Lib.hid hsm
     replace hpn := Lib.hid hpn
     replace hszi := Lib.hid hszi
     replace hpl := Lib.hid hpl
     clear hrow hx2 hip hpi hpc
     go_wp2_with fail
     refine hf.mono ?_; rintro e w5 ⟨rfl, rfl⟩
     clear hf
     go_wp2_with (at_builtin; refine wpList_append_own_at _ rfl _ _ 31 rfl w.heap.size 5 i0 _ 1 1 Tryz.underlying31 hi1 hz1 hz2 hz3 rfl (by decide) (.slice x0 j c0) j _ rfl hownj ⟨p.blk, ((a + (j : Int)) % 4096).toNat, none⟩ _ _ ((rdB (L.map Pg.ab) (a + (j : Int)) (4096 - ((a + (j : Int)) % 4096).toNat)).map fun x => Value.int .u8 x) rfl ?_ hnews (bytesV_one _) ?_ ?_ hz ?_; (focus (rw [List.length_map, hlR.out]; omega)); (focus (unfold maxLen; omega)); (focus omega); intro v' w6 hown6 hgrow6 _ _; obtain ⟨x6, c6, rfl⟩ := ownsRow_slice hown6)
     refine ⟨⟨N, by have := hN.out; omega, ?_, ?_⟩, ?_⟩
     ·refine ownsRow_cast hown6 (by have := hN.out; rw [rdB_len]; omega) ?_
      rw [hR.out, List.map_append]
     ·exact Below.grown hB hgrow6 hz (fun k hk => (hol k hk).1)
     ·have := hN.out
      simp only [lenV]; omega
    ·have hrep := rdB_none (m := 4096 - ((a + (j : Int)) % 4096).toNat) (pg_find_none hno) (by omega)
     obtain ⟨v', w6, hz6, hown6, hgrow6⟩ := append_zeros (w := wr) w.heap.size (.slice x0 j c0) _ 31 (4096 - ((a + (j : Int)) % 4096).toNat) .u64 hown (by omega) (by rw [hlj.out]; omega) hz
     rw [hszi, ← hrep, ← hR] at *
     obtain ⟨x6, c6, rfl⟩ := ownsRow_slice hown6
     replace hR := Lib.hid hR
     replace hlR := Lib.hid hlR
     replace hrep := Lib.hid hrep
     replace hszi := Lib.hid hszi
     go_wp2_with fail
     refine hf.mono ?_; rintro e w5 ⟨rfl, rfl⟩
     clear hf
     go_wp2_with (at_builtin; refine Lib.wpList_append_run _ rfl _ _ _ _ rfl _ _ rfl rfl _ _ hz6 ?_)
     refine ⟨⟨N, by have := hN.out; omega, hown6, ?_⟩, ?_⟩
     ·exact Below.grown hB hgrow6 hz (fun k hk => (hol k hk).1)
     ·have := hN.out
      simp only [lenV]; rw [rdB_len]; omega
  ·obtain rfl : j = n := by omega
   go_wp2_with fail
   go_ret2
   exact ⟨_, rfl, hown, hB⟩
end Go.Proofs.YtiblhlaemmdphaaGreat
/-! The reference's memory: a word. -/
namespace Go.Proofs.YtiblhlaemmdphaaGreat
open Go Go.RowKit Go.BigFrame Go.Maps
set_option maxRecDepth 20000 in
set_option maxHeartbeats 2000000 in
theorem refWord_any (rb : Nat) (pv : Value) (s z a : Int) (L : List Pg) (w : World) (hm : MemR w rb pv s z L) (ha : W64 a) :
  Calls Tryz.prog 73 #[.pointer (some ⟨rb, 0, none⟩), .int .u64 a] w fun e w' => e = .returned (.tuple #[.int .u64 (wordV s z (L.map Pg.ab) a).1, .int .i64 (wordV s z (L.map Pg.ab) a).2]) ∧ Below w.heap.size w w' := by
 have hk := fun W h => refAsk_any rb pv s z a 8 L W h ha (by unfold W64; omega)
 have ha0 := ha.1
 have ha1 := ha.2
 by_cases h8 : a % 8 = 0
 ·by_cases hq : askV s z a 8 = 0
  ·have hbad : wordBad s z a = false := by unfold wordBad; simp [h8, hq]
   have hrd := fun W h => refRead_any rb pv s z a 8 L W h ha hq (by omega)
   rw [hq] at hk
   have hr : wordV s z (L.map Pg.ab) a = (wordAt (L.map Pg.ab) a, 0) := by unfold wordV; rw [hbad]; rfl
   have hwd : wordAt (L.map Pg.ab) a = le (((rdB (L.map Pg.ab) a 8).drop 0).take 8) := by
    rw [List.drop_zero, List.take_of_length_le (by rw [rdB_len]; omega)]; rfl
   rw [hr, hwd]
   clear hr hbad hwd
   replace hq := Lib.hid hq
   have hby := rdB_byte hm.ok a 8
   have hbl := rdB_len (L.map Pg.ab) a 8
   generalize rdB (L.map Pg.ab) a 8 = R at *
   replace hbl := Lib.hid hbl
   go_enter Tryz.func73, Tryz.ntmps73
   go_wp2_with fail
   refine (hk _ hm).mono ?_; rintro e w1 ⟨rfl, hb1⟩
   go_wp2_with fail
   refine (hrd _ (hm.below hb1 (Nat.le_refl _))).mono ?_; rintro e w2 ⟨r, rfl, hown, hb2⟩
   have hrow := hown.row
   obtain ⟨x, c, rfl⟩ := ownsRow_slice hown
   have hnum := refNumber_any _ R 0 w2 hrow hby (by rw [hbl.out]; omega)
   clear hown hk hrd
   go_wp2_with fail
   refine hnum.mono ?_; rintro e w3 ⟨rfl, rfl⟩
   clear hnum
   go_wp2_with fail
   go_ret2
   exact ⟨rfl, bthen hb1 hb2⟩
  ·have hbad : wordBad s z a = true := by unfold wordBad; simp [hq]
   have hr : wordV s z (L.map Pg.ab) a = (0, 90) := by unfold wordV; rw [hbad]; rfl
   rw [hr]
   clear hr hbad
   go_enter Tryz.func73, Tryz.ntmps73
   go_wp2_with fail
   refine (hk _ hm).mono ?_; rintro e w1 ⟨rfl, hb1⟩
   generalize askV s z a 8 = q at *
   go_wp2_with fail
   go_ret2
   exact ⟨rfl, hb1⟩
 ·have hbad : wordBad s z a = true := by unfold wordBad; simp [h8]
  have hr : wordV s z (L.map Pg.ab) a = (0, 90) := by unfold wordV; rw [hbad]; rfl
  rw [hr]
  clear hr hbad
  go_enter Tryz.func73, Tryz.ntmps73
  go_wp2_with fail
  go_ret2
  exact ⟨rfl, Below.refl _ _⟩
end Go.Proofs.YtiblhlaemmdphaaGreat
/- The reference's Zero over whole pages: those that lie in the span are cleared. -/
namespace Go.Proofs.YtiblhlaemmdphaaGreat
open Go Go.RowKit Go.BigFrame Go.Maps
set_option maxHeartbeats 1000000 in
theorem refHasZ_any (a b at' : Int) (w : World) (ha : W64 a) (hb : W64 b) (ht : W64 at') : Calls Tryz.prog 92 #[.agg #[.int .u64 a, .int .u64 b], .int .u64 at'] w fun e w' => e = .returned (.bool (goodB a b && (decide (a ≤ at') && decide (at' - a < b)))) ∧ Below w.heap.size w w' := by
 have ha0 := ha.1
 have hb0 := hb.1
 have ht1 := ht.2
 cases hg : goodB a b
 ·go_enter Tryz.func92, Tryz.ntmps92
  go_wp2_with fail
  refine (refGood_any _ _ _ ha hb).mono ?_; rintro e1 w1 ⟨rfl, hb1⟩
  rw [hg]
  go_wp2_with fail
  go_ret
  exact ⟨rfl, bnew hb1⟩
 ·by_cases h1 : a ≤ at'
  all_goals
   have hw : a ≤ at' → IntKind.u64.wrap (at' - a) = at' - a := fun h => by rw [IntKind.wrap_u64]; omega
   go_enter Tryz.func92, Tryz.ntmps92
   go_wp2_with fail
   refine (refGood_any _ _ _ ha hb).mono ?_; rintro e1 w1 ⟨rfl, hb1⟩
   have c0 : w1.cell? ⟨w.heap.size, 0, none⟩ = some (.int .u64 a) := cell_lt hb1 (by simp [World.cell?_alloc_new]) (by simp)
   have c1 : w1.cell? ⟨w.heap.size, 1, none⟩ = some (.int .u64 b) := cell_lt hb1 (by simp [World.cell?_alloc_new]) (by simp)
   rw [hg]
   first | (have h2 := hw h1; clear hw) | clear hw
   go_wp2_with fail
   go_ret
   exact ⟨ret_bool (by first | (simp [h1]; done) | (simp; omega)), bnew hb1⟩
def zk (a n : Int) (i k : Nat) (L : List Pg) : List Pg := L.mapIdx fun j p => if inPages a n p.ab then (if j < i then { p with bs := zpg } else if j = i then { p with bs := List.replicate k 0 ++ p.bs.drop k } else p) else p
theorem zk_len (a n : Int) (i k : Nat) (L : List Pg) : (zk a n i k L).length = L.length := by simp [zk]
theorem zk_get {a n : Int} {i k : Nat} {L : List Pg} {j : Nat} (hj : j < L.length) (hj' : j < (zk a n i k L).length) : (zk a n i k L)[j] = if inPages a n L[j].ab then (if j < i then { L[j] with bs := zpg } else if j = i then { L[j] with bs := List.replicate k 0 ++ L[j].bs.drop k } else L[j]) else L[j] := by
 simp [zk, List.getElem_mapIdx]
theorem zk_ext {L M : List Pg} (h : L.length = M.length) (hk : ∀ j (h1 : j < L.length) (h2 : j < M.length), L[j] = M[j]) : L = M := List.ext_getElem h hk
theorem zk_n {a n : Int} {i k : Nat} {L : List Pg} {j : Nat} (hj : j < L.length) (hj' : j < (zk a n i k L).length) : (zk a n i k L)[j].n = L[j].n ∧ (zk a n i k L)[j].blk = L[j].blk := by
 rw [zk_get hj hj']
 split
 ·split
  ·exact ⟨rfl, rfl⟩
  ·split <;> exact ⟨rfl, rfl⟩
 ·exact ⟨rfl, rfl⟩
theorem zk_zero (a n : Int) (L : List Pg) : zk a n 0 0 L = L := by
 refine zk_ext (zk_len ..) fun j h1 h2 => ?_
 rw [zk_get h2 h1]
 split
 ·rw [if_neg (by omega)]
  split
  ·simp
  ·rfl
 ·rfl
theorem zk_next {a n : Int} {i : Nat} {L : List Pg} (hl : ∀ p ∈ L, p.bs.length = 4096) : zk a n i 4096 L = zk a n (i + 1) 0 L := by
 refine zk_ext (by rw [zk_len, zk_len]) fun j h1 h2 => ?_
 rw [zk_len] at h1
 rw [zk_get h1, zk_get h1]
 split
 ·by_cases e1 : j < i
  ·rw [if_pos e1, if_pos (by omega)]
  ·by_cases e2 : j = i
   ·rw [if_neg e1, if_pos e2, if_pos (by omega), List.drop_of_length_le (by rw [hl _ (List.getElem_mem h1)]; exact Nat.le_refl _), List.append_nil]
    rfl
   ·rw [if_neg e1, if_neg e2, if_neg (by omega)]
    split
    ·simp
    ·rfl
 ·rfl
def zall (a n : Int) (p : Pg) : Pg := if inPages a n p.ab then { p with bs := zpg } else p
theorem zk_end (a n : Int) (L : List Pg) : zk a n L.length 0 L = L.map (zall a n) := by
 refine zk_ext (by rw [zk_len, List.length_map]) fun j h1 h2 => ?_
 rw [zk_len] at h1
 rw [zk_get h1, List.getElem_map]
 unfold zall
 rw [if_pos h1]
theorem zk_out {a n : Int} {i k : Nat} {L : List Pg} (hi : i < L.length) (h : inPages a n L[i].ab = false) : zk a n i (k + 1) L = zk a n i k L := by
 refine zk_ext (by rw [zk_len, zk_len]) fun j h1 h2 => ?_
 rw [zk_len] at h1
 rw [zk_get h1, zk_get h1]
 split
 ·split
  ·rfl
  ·split
   ·rename_i h3 _ e
    subst e
    rw [h] at h3
    cases h3
   ·rfl
 ·rfl
theorem zk_in {a n : Int} {i k : Nat} {L : List Pg} (hi : i < L.length) (h : inPages a n L[i].ab = true) (hn : ∀ j (hj : j < L.length), L[j].n = L[i].n → j = i) (hl : L[i].bs.length = 4096) (_hk : k < 4096) : (zk a n i k L).map (Pg.upd L[i].n k [0]) = zk a n i (k + 1) L := by
 refine zk_ext (by rw [List.length_map, zk_len, zk_len]) fun j h1 h2 => ?_
 have h3 : j < L.length := by rw [zk_len] at h2; exact h2
 rw [List.getElem_map]
 have hz := (zk_n (a := a) (n := n) (i := i) (k := k) h3 (by rw [zk_len]; exact h3)).1
 by_cases e : j = i
 ·subst e
  rw [zk_get (k := k) hi (by rw [zk_len]; exact hi), zk_get (k := k + 1) hi (by rw [zk_len]; exact hi)]
  simp only [h, Nat.lt_irrefl, if_true, if_false]
  show (if L[j].n = L[j].n then _ else _) = _
  rw [if_pos rfl]
  have : spl (List.replicate k 0 ++ L[j].bs.drop k) k [0] = List.replicate (k + 1) 0 ++ L[j].bs.drop (k + 1) := by
   unfold spl
   rw [List.take_append_of_le_length (by simp), List.take_of_length_le (by simp), List.drop_append, List.drop_of_length_le (by simp), List.nil_append, List.drop_drop, List.replicate_succ']
   simp
  simp only [this]
 ·unfold Pg.upd
  rw [if_neg (fun e2 => e (hn j h3 (hz.symm.trans e2))), zk_get (k := k) h3 (by rw [zk_len]; exact h3), zk_get (k := k + 1) h3 (by rw [zk_len]; exact h3)]
  simp only [if_neg e]
theorem setRow_one {w : World} {b : Nat} {l : List Int} {k : Nat} (h : w.heap[b]? = some (.cells (bytesV l) 5 (0, 0))) (hk : k < l.length) : w.setCell ⟨b, k, none⟩ (.int .u8 0) = w.setRow b (bytesV (spl l k [0])) := by
 have e : (bytesV l).setIfInBounds k (.int .u8 0) = bytesV (spl l k [0]) := by
  unfold bytesV spl
  apply Array.ext'
  rw [Array.toList_setIfInBounds]
  simp only [List.length_singleton, List.map_append, List.map_cons, List.map_nil, List.map_take, List.map_drop]
  rw [List.set_eq_take_append_cons_drop, if_pos (by simpa using hk)]
  simp
 rw [Go.Sort.setCell_eq]
 unfold Go.Sort.mapBlock World.setRow
 congr 1
 apply Array.ext_getElem?
 intro j
 rw [Array.getElem?_modify, Array.getElem?_modify]
 by_cases hj : b = j
 ·subst hj
  rw [if_pos rfl, if_pos rfl, h]
  simp [Go.Sort.onCells, e]
 ·rw [if_neg hj, if_neg hj]
set_option maxRecDepth 20000 in
set_option maxHeartbeats 4000000 in
theorem refZero_any (rb : Nat) (pv : Value) (s z a n : Int) (L : List Pg) (B : Nat) (w : World) (hm : MemR w rb pv s z L) (hB : ∀ k ∈ refBlks rb pv L, B ≤ k) (hBw : B ≤ w.heap.size) (ha : W64 a) (hn : W64 n) (hw : withinB a n s z = true) (hal : a % 4096 = 0 ∧ n % 4096 = 0) :
  Calls Tryz.prog 70 #[.pointer (some ⟨rb, 0, none⟩), .agg #[.int .u64 a, .int .u64 n]] w fun e w' => e = .returned (.int .i64 0) ∧ WroteR w w' rb pv pv s z L (L.map (zall a n)) B ((L.map (zall a n)).map Pg.ab) := by
 obtain ⟨c0, c1, c2⟩ := hm.cells
 have hrb := hm.lt rb (mem_refBlks.2 (.inl rfl))
 have hwi := fun W => refWithin_any a n s z W ha hn hm.ws hm.wz
 have hg : goodB a n = true := (withinB_iff.1 hw).1
 have hgn : a + n ≤ 18446744073709551616 := by unfold goodB at hg; simp at hg; omega
 rw [hw] at hwi
 have hpl : ∀ p ∈ L, p.bs.length = 4096 := fun p hp => hm.ok.len p.ab (List.mem_map.2 ⟨p, hp, rfl⟩)
 have hpn : ∀ p ∈ L, 0 ≤ p.n ∧ p.n < 4503599627370496 := fun p hp => hm.ok.num p.ab (List.mem_map.2 ⟨p, hp, rfl⟩)
 replace hw := Lib.hid hw
 go_enter Tryz.func70, Tryz.ntmps70
 go_wp2_with fail
 obtain ⟨W1, hW1⟩ : ∃ W1, W1 = w.alloc (.cells #[.int .u64 a, .int .u64 n] 28) := ⟨_, rfl⟩
 have hb0 : Below w.heap.size w W1 := by rw [hW1]; exact bone _ _
 have b0 : W1.cell? ⟨w.heap.size, 0, none⟩ = some (.int .u64 a) := by rw [hW1]; simp [World.cell?_alloc_new]
 have b1 : W1.cell? ⟨w.heap.size, 1, none⟩ = some (.int .u64 n) := by rw [hW1]; simp [World.cell?_alloc_new]
 have hz1 : w.heap.size < W1.heap.size := by rw [hW1]; simp
 have m0 := cell_lt hb0 c0 hrb
 have m1 := cell_lt hb0 c1 hrb
 have hrb1 : rb < W1.heap.size := by omega
 rw [← hW1]
 clear hW1
 refine region_later W1.heap.size W1 (Below.refl _ _) (by kernel_rfl) (by kernel_rfl) ?_
 have y0 := later_cell (B := W1.heap.size) b0 hz1
 have y1 := later_cell (B := W1.heap.size) b1 hz1
 have y2 := later_cell (B := W1.heap.size) m0 hrb1
 have y3 := later_cell (B := W1.heap.size) m1 hrb1
 repeat (quiet_step ((go_at_call 88; exact quiet_later (Nat.le_refl _) (hwi _))))
 refine wpQuiet_nil ?_
 first | (rintro _ ⟨X, rfl⟩) | (intro X)
 have hX := X.h
 clear y0 y1 y2 y3
 generalize X.x = w2 at *
 clear X
 have c20 := cell_lt hX b0 hz1
 have c21 := cell_lt hX b1 hz1
 have hb2 := bthen hb0 hX
 have hz2 : w.heap.size < w2.heap.size := by have := hX.size; omega
 have hW2 : WroteR w w2 rb pv pv s z L L B (L.map Pg.ab) := WroteR.stay hm hb2 hBw
 clear hb0 hX b0 b1 m0 m1 hrb1 hz1
 obtain ⟨d0, d1, d2⟩ := hW2.mem.cells
 obtain ⟨x, cap, hpv, hmx, hx⟩ := hW2.mem.open
 subst hpv
 unfold maxLen at hmx
 go_wp2_with fail
 go_loopw [19] (fun u wr => ∃ i : Nat, i ≤ L.length ∧ u = .int .i64 i ∧ WroteR w wr rb (.slice x L.length cap) (.slice x L.length cap) s z L (zk a n i 0 L) B ((zk a n i 0 L).map Pg.ab) ∧ wr.heap[w.heap.size]? = w2.heap[w.heap.size]?) (fun u _ => L.length - (intOf u).toNat)
 case atStart => exact ⟨0, Nat.zero_le _, rfl, by rw [zk_zero]; exact hW2, rfl⟩
 case round =>
  obtain ⟨i, hi, rfl, hwr, hsp⟩ := hrel
  clear hx d0 d1 d2
  obtain ⟨e0, e1, e2⟩ := hwr.mem.cells
  have hz3 : w.heap.size < wr.heap.size := by have := hwr.off.below.size; have := (Array.getElem?_eq_some_iff.1 (hsp.trans (Array.getElem?_eq_getElem hz2))).1; exact this
  by_cases hlt : i < L.length
  ·have hpn1 := hpn _ (List.getElem_mem hlt)
   have hpl1 := hpl _ (List.getElem_mem hlt)
   have huq : ∀ j (hj : j < L.length), L[j].n = L[i].n → j = i := fun j hj e => pg_idx hm.ok hj hlt e
   have key : ∀ (k : Nat) (W : World), WroteR w W rb (.slice x L.length cap) (.slice x L.length cap) s z L (zk a n i k L) B ((zk a n i k L).map Pg.ab) → ∃ g, x = some ⟨g, 0, none⟩ ∧ W.cell? ⟨rb, 2, none⟩ = some (.slice (some ⟨g, 0, none⟩) L.length cap) ∧ W.cell? ⟨g, i * 2, none⟩ = some (.int .u64 (L[i].n * 4096)) ∧ W.cell? ⟨g, i * 2 + 1, none⟩ = some (.slice (some ⟨L[i].blk, 0, none⟩) 4096 4096) ∧ g < W.heap.size := by
    intro k W hW
    obtain ⟨x2, cap2, e, _, hx2⟩ := hW.mem.open
    rw [zk_len] at e
    injection e with e1 e2 e3
    subst e1
    subst e3
    obtain ⟨g, e4, hc⟩ := hx2 (by intro e; have := zk_len a n i k L; rw [e] at this; simp at this; omega)
    have hi' : i < (zk a n i k L).length := by rw [zk_len]; exact hlt
    obtain ⟨q0, q1⟩ := hc i hi'
    obtain ⟨z0, z1⟩ := zk_n (a := a) (n := n) (i := i) (k := k) hlt hi'
    rw [z0] at q0
    rw [z1] at q1
    refine ⟨g, e4, ?_, q0, q1, ?_⟩
    ·rw [← e4]; exact hW.mem.cells.2.2
    ·exact W.block_lt_of_cell? _ q0
   obtain ⟨g, rfl, f0, f1, f2, hgz⟩ := key 0 wr hwr
   clear hwi e0 e1 e2
   obtain ⟨wo, rfl⟩ : ∃ wo, wo = wr := ⟨_, rfl⟩
   go_wp2_with fail
   go_loopw [31] (fun u W => ∃ k : Nat, k ≤ 4096 ∧ u = .int .i64 k ∧ WroteR w W rb (.slice (some ⟨g, 0, none⟩) L.length cap) (.slice (some ⟨g, 0, none⟩) L.length cap) s z L (zk a n i k L) B ((zk a n i k L).map Pg.ab) ∧ W.heap[w.heap.size]? = w2.heap[w.heap.size]?) (fun u _ => 4096 - (intOf u).toNat)
   case atStart => exact ⟨0, Nat.zero_le _, rfl, hwr, hsp⟩
   case round =>
    obtain ⟨k, hk, rfl, hwr3, hsp3⟩ := hrel
    clear f0 f1 f2 hgz
    have c20' : wr.cell? ⟨w.heap.size, 0, none⟩ = some (.int .u64 a) := by rw [← c20]; simp only [World.cell?]; rw [hsp3]
    have c21' : wr.cell? ⟨w.heap.size, 1, none⟩ = some (.int .u64 n) := by rw [← c21]; simp only [World.cell?]; rw [hsp3]
    have hz4 : w.heap.size < wr.heap.size := (Array.getElem?_eq_some_iff.1 (hsp3.trans (Array.getElem?_eq_getElem hz2))).1
    by_cases hk2 : k < 4096
    ·obtain ⟨g', hg', f0, f1, f2, hgz⟩ := key k wr hwr3
     injection hg' with hg'
     injection hg' with hg' _ _
     subst hg'
     have hrz := hwr3.mem.lt rb (mem_refBlks.2 (.inl rfl))
     have hbz : L[i].blk < wr.heap.size := by
      have hi' : i < (zk a n i k L).length := by rw [zk_len]; exact hlt
      have := hwr3.mem.lt (zk a n i k L)[i].blk (mem_refBlks.2 (.inr (.inr (List.mem_map.2 ⟨_, List.getElem_mem hi', rfl⟩))))
      rwa [(zk_n hlt hi').2] at this
     have hhas := fun W => refHasZ_any a n (L[i].n * 4096 + k) W ha hn (by unfold W64; omega)
     have hval : (goodB a n && (decide (a ≤ L[i].n * 4096 + k) && decide (L[i].n * 4096 + k - a < n))) = inPages a n L[i].ab := by
      rw [hg]
      unfold inPages Pg.ab
      simp only [Bool.true_and]
      rw [Bool.eq_iff_iff]
      simp only [Bool.and_eq_true, decide_eq_true_eq]
      omega
     rw [hval] at hhas
     have hwk : IntKind.u64.wrap (L[i].n * 4096 + k) = L[i].n * 4096 + k := by rw [IntKind.wrap_u64]; omega
     have hck : IntKind.u64.wrap (k : Int) = k := by rw [IntKind.wrap_u64]; omega
     have hrow : ∃ row : List Int, (∀ W, WroteR w W rb (.slice (some ⟨g, 0, none⟩) L.length cap) (.slice (some ⟨g, 0, none⟩) L.length cap) s z L (zk a n i k L) B ((zk a n i k L).map Pg.ab) → inPages a n L[i].ab = true → WroteR w (W.setRow L[i].blk (bytesV (spl row k [0]))) rb (.slice (some ⟨g, 0, none⟩) L.length cap) (.slice (some ⟨g, 0, none⟩) L.length cap) s z L (zk a n i (k + 1) L) B ((zk a n i (k + 1) L).map Pg.ab)) ∧ wr.heap[L[i].blk]? = some (.cells (bytesV row) 5 (0, 0)) ∧ row.length = 4096 := by
      have hi' : i < (zk a n i k L).length := by rw [zk_len]; exact hlt
      have hp : (zk a n i k L)[i] ∈ zk a n i k L := List.getElem_mem hi'
      refine ⟨((zk a n i k L)[i]).bs, fun W hW3 hin => ?_, ?_, ?_⟩
      ·have := hW3.put hB hBw hp (o := k) (m := [0]) (by simp; omega) (by simp)
       rw [(zk_n hlt hi').1, (zk_n hlt hi').2, zk_in hlt hin huq hpl1 hk2] at this
       exact ⟨this.mem, rfl, this.off, this.blks⟩
      ·have := hwr3.mem.page _ hp
       rwa [(zk_n hlt hi').2] at this
      ·exact hwr3.mem.ok.len _ (List.mem_map.2 ⟨_, hp, rfl⟩)
     obtain ⟨row, hput, hcell, hrl⟩ := hrow
     have hbb : L[i].blk < w.heap.size := hm.lt _ (mem_refBlks.2 (.inr (.inr (List.mem_map.2 ⟨_, List.getElem_mem hlt, rfl⟩))))
     have hout : inPages a n L[i].ab = false → zk a n i (k + 1) L = zk a n i k L := fun h => zk_out hlt h
     clear key huq
     generalize L[i].n = n1 at *
     generalize L[i].blk = bb at *
     generalize inPages a n L[i].ab = yes at *
     obtain ⟨wi, rfl⟩ : ∃ wi, wi = wr := ⟨_, rfl⟩
     replace hput := Lib.hid hput
     replace hout := Lib.hid hout
     replace hcell := Lib.hid hcell
     replace hval := Lib.hid hval
     clear c20 c21
     go_wp2_with fail
     refine region_later wi.heap.size wi (Below.refl _ _) (by kernel_rfl) (by kernel_rfl) ?_
     have y0 := later_cell (B := wi.heap.size) c20' hz4
     have y1 := later_cell (B := wi.heap.size) c21' hz4
     have y2 := later_cell (B := wi.heap.size) f0 hrz
     have y3 := later_cell (B := wi.heap.size) f1 hgz
     have y4 := later_cell (B := wi.heap.size) f2 hgz
     repeat (quiet_step ((go_at_call 92; exact quiet_later (Nat.le_refl _) (hhas _))))
     refine wpQuiet_nil ?_
     first | (rintro _ ⟨X, rfl⟩) | (intro X)
     have hX := X.h
     clear y0 y1 y2 y3 y4
     generalize X.x = w3 at *
     clear X
     have f0' := cell_lt hX f0 hrz
     have f2' := cell_lt hX f2 hgz
     have hw3 : WroteR w w3 rb (.slice (some ⟨g, 0, none⟩) L.length cap) (.slice (some ⟨g, 0, none⟩) L.length cap) s z L (zk a n i k L) B ((zk a n i k L).map Pg.ab) := ⟨hwr3.mem.below hX (Nat.le_refl _), rfl, hwr3.off.trans (OffL.of_below (Bs := []) hX (Nat.le_trans hBw hwr3.off.below.size)) (by simp), hwr3.blks⟩
     have hsp4 : w3.heap[w.heap.size]? = w2.heap[w.heap.size]? := (hX.block _ hz4).trans hsp3
     have hcell3 := (hX.block _ hbz).trans hcell.out
     cases yes
     ·go_wp2_with fail
      refine ⟨⟨k + 1, by omega, rfl, ?_, hsp4⟩, by simp [intOf]; omega⟩
      rw [hout.out rfl]
      exact hw3
     ·have hfz : w3.frozen? ⟨bb, k, none⟩ = false := by simp [World.frozen?, hcell3]
      have hcu : w3.cell? ⟨bb, k, none⟩ = some (.int .u8 (row[k]'(by omega))) := by
       simp only [World.cell?, hcell3, bytesV]
       simp [List.getElem?_eq_getElem (show k < row.length by omega)]
      have hnx := hput.out w3 hw3 rfl
      rw [← setRow_one hcell3 (by omega)] at hnx
      clear hput
      go_wp2_with fail
      refine ⟨⟨k + 1, by omega, rfl, hnx, ?_⟩, by simp [intOf]; omega⟩
      rw [Below.heap_setCell _ _ _ _ (by simp; omega)]
      exact hsp4
    ·obtain rfl : k = 4096 := by omega
     rw [zk_next hpl] at hwr3
     clear key
     go_wp2_with fail
     exact ⟨⟨i + 1, hlt, rfl, hwr3, hsp3⟩, by simp [intOf]; omega⟩
  ·obtain rfl : i = L.length := by omega
   rw [zk_end] at hwr
   go_wp2_with fail
   go_ret
   exact ⟨rfl, hwr⟩
end Go.Proofs.YtiblhlaemmdphaaGreat
