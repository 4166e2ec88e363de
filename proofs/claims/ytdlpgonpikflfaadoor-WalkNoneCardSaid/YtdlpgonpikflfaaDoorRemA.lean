/- Memory as the reference keeps it: a list of pages; a new memory; what an access asks. -/
import Derived.Test.YtdlpgonpikflfaaDoorMemF
import Derived.Test.YtdlpgonpikflfaaDoorRefP
import Derived.Test.YtdlpgonpikflfaaDoorOrdL
namespace Go.Proofs.YtdlpgonpikflfaaDoor
open Go Go.RowKit Go.BigFrame Go.Maps

def Pg.enc (p : Pg) : List Value := [.int .u64 (p.n * 4096), .slice (some ⟨p.blk, 0, none⟩) 4096 4096]
def encPg (L : List Pg) : List Value := L.flatMap Pg.enc
theorem encPg_len (L : List Pg) : (encPg L).length = L.length * 2 := by
  induction L with
  | nil => rfl
  | cons p L ih => simp [encPg, Pg.enc] at *; omega
theorem encPg_get (L : List Pg) : ∀ (i : Nat) (h : i < L.length), (encPg L)[i * 2]? = some (.int .u64 (L[i].n * 4096)) ∧ (encPg L)[i * 2 + 1]? = some (.slice (some ⟨L[i].blk, 0, none⟩) 4096 4096) := by
  induction L with
  | nil => intro i h; simp at h
  | cons p L ih =>
    intro i h
    rcases i with _ | i
    · simp [encPg, Pg.enc]
    · have := ih i (by simpa using h)
      rw [show (i + 1) * 2 = i * 2 + 1 + 1 by omega]
      simpa [encPg, Pg.enc] using this
/-- The reference's memory: its variable in block 'rb', its pages in the row 'pv'. -/
structure MemR (W : World) (rb : Nat) (pv : Value) (s z : Int) (L : List Pg) : Prop where
  hd : W.heap[rb]? = some (.cells #[.int .u64 s, .int .u64 z, pv] 97 (0, 0))
  row : W.ownsRow 0 118 2 pv L.length (encPg L)
  page : ∀ p ∈ L, W.heap[p.blk]? = some (.cells (bytesV p.bs) 5 (0, 0))
  blks : (L.map Pg.blk).Nodup
  ok : PgOk (L.map Pg.ab)
  ws : W64 s
  wz : W64 z
def refBlks (rb : Nat) (pv : Value) (L : List Pg) : List Nat := rb :: (pv.ownBlock.toList ++ L.map Pg.blk)
theorem mem_refBlks {rb : Nat} {pv : Value} {L : List Pg} {b : Nat} : b ∈ refBlks rb pv L ↔ b = rb ∨ pv.ownBlock = some b ∨ b ∈ L.map Pg.blk := by
  unfold refBlks
  rw [List.mem_cons, List.mem_append, Option.mem_toList]
theorem MemR.lt {W : World} {rb : Nat} {pv : Value} {s z : Int} {L : List Pg} (h : MemR W rb pv s z L) : ∀ b ∈ refBlks rb pv L, b < W.heap.size := by
  intro b hb
  rcases mem_refBlks.1 hb with rfl | hb | hb
  · exact (Array.getElem?_eq_some_iff.1 h.hd).1
  · exact (World.ownsRow.lt h.row b hb).2
  · obtain ⟨p, hp, rfl⟩ := List.mem_map.1 hb
    exact (Array.getElem?_eq_some_iff.1 (h.page p hp)).1
theorem ownsRow_eq {E : TypeId} {w w' : World} {base k n : Nat} {v : Value} {l : List Value} (h : w.ownsRow base E k v n l) (hb : ∀ r, v.ownBlock = some r → w'.heap[r]? = w.heap[r]?) : w'.ownsRow base E k v n l := by
  obtain ⟨hlen, hc⟩ := h
  refine ⟨hlen, hc.imp id fun ⟨g, cap, cur, hv, hbg, hg, hr⟩ => ⟨g, cap, cur, hv, hbg, ?_, hr⟩⟩
  rw [hb g (by rw [hv]; rfl)]; exact hg
theorem MemR.same {W W' : World} {rb : Nat} {pv : Value} {s z : Int} {L : List Pg} (h : MemR W rb pv s z L) (hs : ∀ b ∈ refBlks rb pv L, W'.heap[b]? = W.heap[b]?) : MemR W' rb pv s z L :=
  ⟨(hs rb (mem_refBlks.2 (.inl rfl))).trans h.hd, ownsRow_eq h.row fun r e => hs r (mem_refBlks.2 (.inr (.inl e))), fun p hp => (hs p.blk (mem_refBlks.2 (.inr (.inr (List.mem_map.2 ⟨p, hp, rfl⟩))))).trans (h.page p hp), h.blks, h.ok, h.ws, h.wz⟩
theorem MemR.below {W W' : World} {rb B : Nat} {pv : Value} {s z : Int} {L : List Pg} (h : MemR W rb pv s z L) (hb : Below B W W') (hB : W.heap.size ≤ B) : MemR W' rb pv s z L :=
  h.same fun b hm => hb.block b (Nat.lt_of_lt_of_le (h.lt b hm) hB)
theorem MemR.off {W W' : World} {rb B : Nat} {pv : Value} {s z : Int} {L : List Pg} {Bs : List Nat} (h : MemR W rb pv s z L) (ho : OffL B Bs W W') (hd : ∀ b ∈ refBlks rb pv L, b ∉ Bs) : MemR W' rb pv s z L :=
  h.same fun b hm => ho.rest b (h.lt b hm) (hd b hm)
theorem MemR.cells {W : World} {rb : Nat} {pv : Value} {s z : Int} {L : List Pg} (h : MemR W rb pv s z L) : W.cell? ⟨rb, 0, none⟩ = some (.int .u64 s) ∧ W.cell? ⟨rb, 1, none⟩ = some (.int .u64 z) ∧ W.cell? ⟨rb, 2, none⟩ = some pv := by
  refine ⟨?_, ?_, ?_⟩ <;> simp [World.cell?, h.hd]
theorem MemR.frozen {W : World} {rb : Nat} {pv : Value} {s z : Int} {L : List Pg} (h : MemR W rb pv s z L) (o : Nat) : W.frozen? ⟨rb, o, none⟩ = false := by simp [World.frozen?, h.hd]
/-- Its row of pages, opened. -/
theorem MemR.open {W : World} {rb : Nat} {pv : Value} {s z : Int} {L : List Pg} (h : MemR W rb pv s z L) : ∃ (x : Option Addr) (cap : Nat), pv = .slice x L.length cap ∧ L.length ≤ maxLen ∧ (L ≠ [] → ∃ g, x = some ⟨g, 0, none⟩ ∧
    ∀ i (hi : i < L.length), W.cell? ⟨g, i * 2, none⟩ = some (.int .u64 (L[i].n * 4096)) ∧ W.cell? ⟨g, i * 2 + 1, none⟩ = some (.slice (some ⟨L[i].blk, 0, none⟩) 4096 4096)) := by
  obtain ⟨hlen, ⟨hv, h0⟩ | ⟨g, cap, cur, hv, hb, hg, hn, hm, hs, hx⟩⟩ := h.row
  · have e := List.length_eq_zero_iff.1 h0
    exact ⟨none, 0, by rw [hv, h0], by rw [h0]; unfold maxLen; omega, fun h => absurd e h⟩
  · refine ⟨some ⟨g, 0, none⟩, cap, hv, Nat.le_trans hn hm, fun _ => ⟨g, rfl, fun i hi => ?_⟩⟩
    have key : ∀ j, j < L.length * 2 → W.cell? ⟨g, j, none⟩ = (encPg L)[j]? := by
      intro j hj
      rw [← hx, List.getElem?_take, if_pos hj]
      simp only [World.cell?, hg]
      simp
    obtain ⟨e0, e1⟩ := encPg_get L i hi
    exact ⟨(key _ (by omega)).trans e0, (key _ (by omega)).trans e1⟩

set_option maxRecDepth 20000 in
set_option maxHeartbeats 1000000 in
theorem refAsk_any (rb : Nat) (pv : Value) (s z a n : Int) (L : List Pg) (w : World) (hm : MemR w rb pv s z L) (ha : W64 a) (hn : W64 n) :
    Calls Tryd.prog 47 #[.pointer (some ⟨rb, 0, none⟩), .int .u64 a, .int .u64 n] w fun e w' => e = .returned (.int .i64 (askV s z a n)) ∧ Below w.heap.size w w' := by
  obtain ⟨c0, c1, c2⟩ := hm.cells
  have hw := refWithin_any a n s z w ha hn hm.ws hm.wz
  have hn0 := hn.1
  clear hm
  by_cases h1 : 1048576 < n
  · have hr : askV s z a n = 2 := by unfold askV; rw [if_pos h1]
    rw [hr]
    clear hr
    go_enter Tryd.func47, Tryd.ntmps47
    go_wp2_with fail
    go_ret
    exact ⟨rfl, Below.refl _ _⟩
  · by_cases h2 : 0 < n
    · cases hb : withinB a n s z
      · have hr : askV s z a n = 90 := by unfold askV; rw [if_neg h1, if_pos ⟨h2, hb⟩]
        rw [hb] at hw
        rw [hr]
        clear hr hb
        go_enter Tryd.func47, Tryd.ntmps47
        go_wp2_with fail
        refine hw.mono ?_; rintro e w1 ⟨rfl, hb1⟩
        go_wp2_with fail
        go_ret
        exact ⟨rfl, hb1⟩
      · have hr : askV s z a n = 0 := by unfold askV; rw [if_neg h1, if_neg (fun e => by rw [hb] at e; cases e.2)]
        rw [hb] at hw
        rw [hr]
        clear hr hb
        go_enter Tryd.func47, Tryd.ntmps47
        go_wp2_with fail
        refine hw.mono ?_; rintro e w1 ⟨rfl, hb1⟩
        go_wp2_with fail
        go_ret
        exact ⟨rfl, hb1⟩
    · have hr : askV s z a n = 0 := by unfold askV; rw [if_neg h1, if_neg (fun e => h2 e.1)]
      rw [hr]
      clear hr
      go_enter Tryd.func47, Tryd.ntmps47
      go_wp2_with fail
      go_ret
      exact ⟨rfl, Below.refl _ _⟩

set_option maxRecDepth 20000 in
set_option maxHeartbeats 1000000 in
/-- A new memory, with nothing in it. -/
theorem refNewMem_any (x : Two) (w : World) (h1 : pageBad x = false) (h2 : lastV x.a x.b < 1099511627776) :
    Calls Tryd.prog 19 #[.agg #[.int .u64 x.a, .int .u64 x.b], .slice none 0 0] w fun e w' =>
      ∃ rb, e = .returned (.tuple #[.pointer (some ⟨rb, 0, none⟩), .int .i64 0]) ∧ MemR w' rb (.slice none 0 0) x.a x.b [] ∧ Below w.heap.size w w' ∧ w.heap.size ≤ rb := by
  have hp := fun (W : World) => refPages_any x W
  have hl := fun W => refLast_any x.a x.b W x.ha x.hb
  rw [h1] at hp
  generalize lastV x.a x.b = lv at *
  obtain ⟨m0, m1⟩ := two_new w (.int .u64 x.a) (.int .u64 x.b) 54
  have hb0 := bone w (.cells #[.int .u64 x.a, .int .u64 x.b] 54)
  have hz0 : w.heap.size < (w.alloc (.cells #[.int .u64 x.a, .int .u64 x.b] 54)).heap.size := by simp
  clear h1
  go_enter Tryd.func19, Tryd.ntmps19
  go_wp2_with fail
  generalize w.alloc (.cells #[.int .u64 x.a, .int .u64 x.b] 54) = w0 at *
  refine (hp w0).mono ?_; rintro e w1 ⟨rfl, hb1⟩
  replace m0 := cell_lt hb1 m0 hz0
  replace m1 := cell_lt hb1 m1 hz0
  replace hz0 := Nat.lt_of_lt_of_le hz0 hb1.size
  replace hb1 := bthen hb0 hb1
  clear hb0 hp
  go_wp2_with fail
  refine (hl w1).mono ?_; rintro e w2 ⟨rfl, hb2⟩
  replace m0 := cell_lt hb2 m0 hz0
  replace m1 := cell_lt hb2 m1 hz0
  replace hz0 := Nat.lt_of_lt_of_le hz0 hb2.size
  replace hb1 := bthen hb1 hb2
  clear hb2 hl
  go_wp2_with fail
  refine wp_loop_rounds 1 ?_
  rw [rounds_succ]
  go_wp2_with fail
  go_ret2
  refine ⟨w2.heap.size, rfl, ⟨World.alloc_heap_new w2 _, World.ownsRow_nil _ _ _ _, by simp, by simp, PgOk.nil, x.ha, x.hb⟩, hb1.alloc (by omega) _, by omega⟩

/-- Where a page stands. -/
def idxPg (L : List Pg) (n : Int) : Option Nat := L.findIdx? fun p => decide (p.n = n)
structure CellIs (b o : Nat) (v : Value) where
  x : World
  h : x.cell? ⟨b, o, none⟩ = some v
/-- What the reference's writing leaves. -/
structure WroteR (w w' : World) (rb : Nat) (pv pv' : Value) (s z : Int) (L L' : List Pg) (B : Nat) (tgt : PG) : Prop where
  mem : MemR w' rb pv' s z L'
  ab : L'.map Pg.ab = tgt
  off : OffL B (refBlks rb pv L) w w'
  blks : ∀ b ∈ refBlks rb pv' L', b ∈ refBlks rb pv L ∨ w.heap.size ≤ b

theorem pg_idx {L : List Pg} (h : PgOk (L.map Pg.ab)) {i j : Nat} (hi : i < L.length) (hj : j < L.length) (e : L[i].n = L[j].n) : i = j := by
  have hnd := h.nodup
  rw [List.map_map] at hnd
  have hp := List.pairwise_iff_getElem.1 hnd
  have key : ∀ a b (ha : a < L.length) (hb : b < L.length), a < b → L[a].n ≠ L[b].n := fun a b ha hb hab => by
    have := hp a b (by simpa using ha) (by simpa using hb) hab
    simpa [Pg.ab] using this
  rcases Nat.lt_trichotomy i j with h1 | h1 | h1
  · exact absurd e (key i j hi hj h1)
  · exact h1
  · exact absurd e.symm (key j i hj hi h1)

set_option maxRecDepth 20000 in
set_option maxHeartbeats 2000000 in
/-- A page that is there. -/
theorem find_there (rb : Nat) (pv : Value) (s z n : Int) (L : List Pg) (i : Nat) (hi : i < L.length) (hn : L[i].n = n) (made : Bool) (w : World) (hm : MemR w rb pv s z L) :
    Calls Tryd.prog 57 #[.pointer (some ⟨rb, 0, none⟩), .int .u64 (n * 4096), .bool made] w fun e w' => e = .returned (.int .i64 i) ∧ w = w' := by
  obtain ⟨c0, c1, c2⟩ := hm.cells
  obtain ⟨x, cap, rfl, hmx, hx⟩ := hm.open
  obtain ⟨g, rfl, hcell⟩ := hx (by rintro rfl; simp at hi)
  unfold maxLen at hmx
  go_enter Tryd.func57, Tryd.ntmps57
  go_wp2_with fail
  go_loop [13] (fun u => ∃ k : Nat, k ≤ i ∧ u = .int .i64 k ∧ ∀ j (h : j < L.length), j < k → L[j].n ≠ n) (fun u => L.length - (intOf u).toNat)
  case atStart => exact ⟨0, Nat.zero_le _, rfl, fun j _ h => by omega⟩
  case round =>
    obtain ⟨k, hk, rfl, hno⟩ := hrel
    have hkl : k < L.length := by omega
    obtain ⟨d0, d1⟩ := hcell k hkl
    by_cases he : L[k].n = n
    · have hq : (L[k].n * 4096 == n * 4096) = true := by rw [he]; simp
      obtain rfl : k = i := pg_idx hm.ok hkl hi (by rw [he, hn])
      replace he := Lib.hid he
      replace hn := Lib.hid hn
      go_wp2_with fail
      go_ret
      exact ⟨rfl, rfl⟩
    · have hq : (L[k].n * 4096 == n * 4096) = false := by simp; omega
      have hki : k ≠ i := by rintro rfl; exact he hn
      have hno' : ∀ j (h : j < L.length), j < k + 1 → L[j].n ≠ n := fun j h h2 => by
        by_cases e : j = k
        · subst e; exact he
        · exact hno j h (by omega)
      replace hno' := Lib.hid hno'
      clear hno
      go_wp2_with fail
      go_round
      case rel => exact ⟨k + 1, by omega, by go_num, hno'.out⟩
      case measure => simp [intOf]; omega

set_option maxRecDepth 20000 in
set_option maxHeartbeats 2000000 in
/-- A page that is not there. -/
theorem find_none (rb : Nat) (pv : Value) (s z n : Int) (L : List Pg) (hno : ∀ p ∈ L, p.n ≠ n) (w : World) (hm : MemR w rb pv s z L) :
    Calls Tryd.prog 57 #[.pointer (some ⟨rb, 0, none⟩), .int .u64 (n * 4096), .bool false] w fun e w' => e = .returned (.int .i64 (-1)) ∧ w = w' := by
  obtain ⟨c0, c1, c2⟩ := hm.cells
  obtain ⟨x, cap, rfl, hmx, hx⟩ := hm.open
  unfold maxLen at hmx
  go_enter Tryd.func57, Tryd.ntmps57
  go_wp2_with fail
  go_loop [13] (fun u => ∃ k : Nat, k ≤ L.length ∧ u = .int .i64 k) (fun u => L.length - (intOf u).toNat)
  case atStart => exact ⟨0, Nat.zero_le _, rfl⟩
  case round =>
    obtain ⟨k, hk, rfl⟩ := hrel
    by_cases hkl : k < L.length
    · obtain ⟨g, rfl, hcell⟩ := hx (by rintro rfl; simp at hkl)
      obtain ⟨d0, d1⟩ := hcell k hkl
      have hnk := hno _ (List.getElem_mem hkl)
      have hq : (L[k].n * 4096 == n * 4096) = false := by simp; omega
      clear hno hcell
      replace hnk := Lib.hid hnk
      go_wp2_with fail
      go_round
      case rel => exact ⟨k + 1, by omega, by go_num⟩
      case measure => simp [intOf]; omega
    · obtain rfl : k = L.length := by omega
      clear hno
      go_wp2_with fail
      go_ret
      exact ⟨rfl, rfl⟩

theorem heapAt_put {w : World} {B : Nat} {cs : Array Value} {T : TypeId} {fz : Nat × Nat} (h : w.heap[B]? = some (.cells cs T fz)) (i : Nat) (u : Value) : (w.setCell ⟨B, i, none⟩ u).heap[B]? = some (.cells (cs.setIfInBounds i u) T fz) := by
  rw [Go.Sort.setCell_eq]
  simp [Go.Sort.mapBlock, Array.getElem?_modify, h, Go.Sort.onCells]
theorem MemR.apart {W : World} {rb : Nat} {pv : Value} {s z : Int} {L : List Pg} (h : MemR W rb pv s z L) : pv.ownBlock ≠ some rb ∧ (∀ p ∈ L, p.blk ≠ rb ∧ pv.ownBlock ≠ some p.blk) := by
  have key : ∀ g, pv.ownBlock = some g → ∃ cur, W.heap[g]? = some (.cells cur 118 (0, 0)) := fun g hg => by
    obtain ⟨_, ⟨hv, _⟩ | ⟨g', cap, cur, hv, _, hg', _⟩⟩ := h.row
    · rw [hv] at hg; cases hg
    · rw [hv] at hg; cases hg; exact ⟨cur, hg'⟩
  refine ⟨fun e => ?_, fun p hp => ⟨fun e => ?_, fun e => ?_⟩⟩
  · obtain ⟨cur, hc⟩ := key _ e
    rw [h.hd] at hc; simp at hc
  · have := h.page p hp
    rw [e, h.hd] at this; simp at this
  · obtain ⟨cur, hc⟩ := key _ e
    rw [h.page p hp] at hc; simp at hc
theorem WroteR.added {w w4 : World} {rb : Nat} {pv pv' : Value} {s z n : Int} {L : List Pg} {B blk : Nat} (h : MemR w rb pv s z L) (hB : ∀ k ∈ refBlks rb pv L, B ≤ k) (hno : ∀ p ∈ L, p.n ≠ n) (hn : 0 ≤ n ∧ n < 4503599627370496) (hblk : blk = w.heap.size)
    (hk : ∀ k, k < w.heap.size → pv.ownBlock ≠ some k → w4.heap[k]? = w.heap[k]?) (hp : w4.heap[blk]? = some (.cells (bytesV zpg) 5 (0, 0))) (hr : w4.ownsRow 0 118 2 pv' (L.length + 1) (encPg (L ++ [⟨n, zpg, blk⟩])))
    (hat : pv'.ownBlock = pv.ownBlock ∨ ∀ r, pv'.ownBlock = some r → w.heap.size < r) (hb : Below B w w4) : WroteR w (w4.setCell ⟨rb, 2, none⟩ pv') rb pv pv' s z L (L ++ [⟨n, zpg, blk⟩]) B ((L ++ [⟨n, zpg, blk⟩] : List Pg).map Pg.ab) := by
  subst hblk
  obtain ⟨a1, a2⟩ := h.apart
  have hrb := h.lt rb (mem_refBlks.2 (.inl rfl))
  have hrw : w4.heap[rb]? = some (.cells #[.int .u64 s, .int .u64 z, pv] 97 (0, 0)) := (hk rb hrb a1).trans h.hd
  have hoth : ∀ k, k ≠ rb → (w4.setCell ⟨rb, 2, none⟩ pv').heap[k]? = w4.heap[k]? := fun k e => Below.heap_setCell w4 _ pv' k (by simpa using e)
  have hpr : ∀ r, pv'.ownBlock = some r → r ≠ rb := fun r e1 e2 => by
    rcases hat with e | e
    · rw [e, e2] at e1; exact a1 e1
    · have := e r e1; omega
  refine ⟨⟨?_, ownsRow_eq (by rw [List.length_append]; exact hr) fun r e => hoth r (hpr r e), fun q hq => ?_, ?_, ?_, h.ws, h.wz⟩, rfl, ⟨hb.setCell (by simpa using hB rb (mem_refBlks.2 (.inl rfl))) _, fun k h1 h2 => ?_⟩, fun k hk' => ?_⟩
  · have := heapAt_put hrw 2 pv'
    simpa using this
  · rcases List.mem_append.1 hq with hq | hq
    · have hlt := h.lt q.blk (mem_refBlks.2 (.inr (.inr (List.mem_map.2 ⟨q, hq, rfl⟩))))
      exact (hoth q.blk (a2 q hq).1).trans ((hk q.blk hlt (a2 q hq).2).trans (h.page q hq))
    · simp only [List.mem_singleton] at hq
      subst hq
      exact (hoth w.heap.size (by omega)).trans hp
  · rw [List.map_append, List.nodup_append]
    refine ⟨h.blks, by simp, fun a ha b hb e => ?_⟩
    simp only [List.map_cons, List.map_nil, List.mem_singleton] at hb
    have := h.lt a (mem_refBlks.2 (.inr (.inr ha)))
    omega
  · have := h.ok.put (n := n) (o := 0) (m := []) (by simp) (by simp) hn
    unfold pgPut at this
    rw [if_neg (fun hm => by
      obtain ⟨q, hq, e⟩ := List.mem_map.1 hm
      obtain ⟨p, hp, rfl⟩ := List.mem_map.1 hq
      exact hno p hp e)] at this
    rw [List.map_append]
    have e0 : spl zpg 0 [] = zpg := by unfold spl; simp
    rw [e0] at this
    exact this
  · have n1 : k ≠ rb := fun e => h2 (mem_refBlks.2 (.inl e))
    have n2 : pv.ownBlock ≠ some k := fun e => h2 (mem_refBlks.2 (.inr (.inl e)))
    exact (hoth k n1).trans (hk k h1 n2)
  · rcases mem_refBlks.1 hk' with rfl | e | e
    · exact .inl (mem_refBlks.2 (.inl rfl))
    · rcases hat with e2 | e2
      · exact .inl (mem_refBlks.2 (.inr (.inl (e2 ▸ e))))
      · exact .inr (Nat.le_of_lt (e2 k e))
    · rw [List.map_append] at e
      rcases List.mem_append.1 e with e | e
      · exact .inl (mem_refBlks.2 (.inr (.inr e)))
      · simp at e; exact .inr (by omega)
theorem cell_two_new (W : World) (p q : Value) (t : TypeId) : ∀ (j : Nat) (u : Value), [p, q][j]? = some u → (W.alloc (.cells #[p, q] t)).cell? ((⟨W.heap.size, 0, none⟩ : Addr).add j) = some u := by
  intro j u hj
  have hadd : (⟨W.heap.size, 0, none⟩ : Addr).add j = ⟨W.heap.size, j, none⟩ := by unfold Addr.add; split <;> simp_all
  rw [hadd, World.cell?_alloc_new]
  simpa using hj
theorem ownsRow_slice {w : World} {base size n : Nat} {E : TypeId} {v : Value} {xs : List Value} (h : w.ownsRow base E size v n xs) : ∃ (a : Option Addr) (c : Nat), v = .slice a n c := by
  obtain ⟨_, ⟨rfl, rfl⟩ | ⟨g, cap, cur, hv, _⟩⟩ := h
  · exact ⟨none, 0, rfl⟩
  · exact ⟨_, _, hv⟩
theorem infoPage : (Tryd.prog.info? 118).map (fun i => (i.zero, i.size, i.bytes)) = some (some (.agg #[.int .u64 0, .slice none 0 0]), 2, 32) := by kernel_rfl
set_option maxRecDepth 20000 in
set_option maxHeartbeats 4000000 in
/-- A page that is not there is made. -/
theorem find_made (rb : Nat) (pv : Value) (s z n : Int) (L : List Pg) (hno : ∀ p ∈ L, p.n ≠ n) (hn : 0 ≤ n ∧ n < 4503599627370496) (B : Nat) (w : World) (hm : MemR w rb pv s z L) (hB : ∀ k ∈ refBlks rb pv L, B ≤ k) (hl : L.length ≤ 1000000) :
    Calls Tryd.prog 57 #[.pointer (some ⟨rb, 0, none⟩), .int .u64 (n * 4096), .bool true] w fun e w' => e = .returned (.int .i64 L.length) ∧ ∃ pv' blk, WroteR w w' rb pv pv' s z L (L ++ [⟨n, zpg, blk⟩]) B ((L ++ [⟨n, zpg, blk⟩] : List Pg).map Pg.ab) := by
  obtain ⟨c0, c1, c2⟩ := hm.cells
  obtain ⟨x, cap, rfl, hmx, hx⟩ := hm.open
  unfold maxLen at hmx
  go_enter Tryd.func57, Tryd.ntmps57
  go_wp2_with fail
  go_loop [13] (fun u => ∃ k : Nat, k ≤ L.length ∧ u = .int .i64 k) (fun u => L.length - (intOf u).toNat)
  case atStart => exact ⟨0, Nat.zero_le _, rfl⟩
  case round =>
    obtain ⟨k, hk, rfl⟩ := hrel
    by_cases hkl : k < L.length
    · obtain ⟨g, rfl, hcell⟩ := hx (by rintro rfl; simp at hkl)
      obtain ⟨d0, d1⟩ := hcell k hkl
      have hnk := hno _ (List.getElem_mem hkl)
      have hq : (L[k].n * 4096 == n * 4096) = false := by simp; omega
      clear hno hcell
      replace hnk := Lib.hid hnk
      go_wp2_with fail
      go_round
      case rel => exact ⟨k + 1, by omega, by go_num⟩
      case measure => simp [intOf]; omega
    · obtain rfl : k = L.length := by omega
      replace hno := Lib.hid hno
      obtain ⟨i0, hi0, hz00, hz01, hz02⟩ : ∃ i, Tryd.prog.info? 118 = some i ∧ i.zero = some (.agg #[.int .u64 0, .slice none 0 0]) ∧ i.size = 2 ∧ i.bytes = 32 := by
        obtain ⟨i0, hi1, hi2⟩ := Option.map_eq_some_iff.1 infoPage
        rw [Prod.mk.injEq, Prod.mk.injEq] at hi2
        exact ⟨i0, hi1, hi2.1, hi2.2.1, hi2.2.2⟩
      go_wp2_with fail
      refine (wpIn_wide (n := 9)).1 ?_
      haveI : Nonempty (CellIs rb 2 (.slice x L.length cap)) := ⟨⟨w, c2⟩⟩
      refine region_ord_last (fun q => ∃ X : CellIs rb 2 (.slice x L.length cap), q = X.x) [([0, 1, 2, 3, 4, 5], 6), ([7], 8), ([], 9)] [10, 11] 12 (fun _ => trivial) (by kernel_rfl) (by kernel_rfl) (by kernel_rfl) (by kernel_rfl) (by kernel_rfl) ⟨⟨w.drew, c2⟩, rfl⟩ ?_
      simp only [List.map_cons, List.map_nil, List.filterMap_cons, List.filterMap_nil, List.getElem?_cons_succ, List.getElem?_cons_zero]
      have y2 := fun X : CellIs rb 2 (.slice x L.length cap) => X.h
      have hd : Below w.heap.size w w.drew := (Below.refl _ _).drew
      have hmd := hm.below hd (Nat.le_refl _)
      have hdz : w.drew.heap.size = w.heap.size := rfl
      generalize w.drew = wd at *
      have hrow := hmd.row
      have hlt := hmd.lt
      refine ordL_step ?_
      repeat (change wpQuiet _ _ _ _ (List.cons _ _) _; go_big_quiet_step (fail))
      refine wpQuiet_nil ?_
      intro Q₁ hQ₁
      have hmk := make_bytes wd 4096 4096 (by omega) (by omega) (by omega)
      change (Instr.makeSlice _ _ _).run _ _ = .ok (.slice (some ⟨wd.heap.size, 0, none⟩) 4096 4096) (wd.alloc (.cells (bytesV zpg) 5)) at hmk
      gi_wp2
      have cd := hmd.cells.2.2
      have ce := cell_lt (bone wd (.cells (bytesV zpg) 5)) cd (World.block_lt_of_cell? _ _ cd)
      refine hQ₁ _ _ ⟨⟨_, ce⟩, rfl⟩ ?_
      clear hQ₁ Q₁ hmk
      have hm1 := hmd.below (bone wd (.cells (bytesV zpg) 5)) (Nat.le_refl _)
      have hnew := World.alloc_heap_new wd (.cells (bytesV zpg) 5)
      have hb1 := bone wd (.cells (bytesV zpg) 5)
      have hz1 : (wd.alloc (.cells (bytesV zpg) 5)).heap.size = wd.heap.size + 1 := by simp
      generalize wd.alloc (.cells (bytesV zpg) 5) = w1 at *
      refine ordL_step ?_
      repeat (change wpQuiet _ _ _ _ (List.cons _ _) _; go_big_quiet_step (fail))
      refine wpQuiet_nil ?_
      intro Q₁ hQ₁
      gi_wp2
      have cf := cell_lt (bone w1 (.cells #[.int .u64 (n * 4096), .slice (some ⟨w.heap.size, 0, none⟩) 4096 4096] 118)) ce (World.block_lt_of_cell? _ _ ce)
      refine hQ₁ _ _ ⟨⟨_, cf⟩, rfl⟩ ?_
      clear hQ₁ Q₁
      have hb2 := bone w1 (.cells #[.int .u64 (n * 4096), .slice (some ⟨w.heap.size, 0, none⟩) 4096 4096] 118)
      have hown2 := ownsRow_eq (hm1.below hb2 (Nat.le_refl _)).row (fun _ _ => rfl)
      refine ordL_step ?_
      refine wpQuiet_nil ?_
      intro Q₁ hQ₁
      simp only [Option.toList]
      gi_wp2_with (gi_at_builtin; (refine wpListIn_append_own_at _ rfl _ _ 95 rfl 0 118 i0 _ 2 32 Tryd.underlying95 hi0 hz00 hz01 hz02 rfl (by decide) _ _ _ rfl hown2 ⟨w1.heap.size, 0, none⟩ 1 1 [.int .u64 (n * 4096), .slice (some ⟨w.heap.size, 0, none⟩) 4096 4096] ?_ rfl ?_ ?_ ?_ ?_ ?_ ?_); (focus (rw [hz1, hdz]; rfl)); (focus (exact cell_two_new w1 _ _ _)); (focus (intro u hu; simp at hu; rcases hu with rfl | rfl <;> rfl)); (focus (unfold maxLen; omega)); (focus omega); (focus omega); intro v' w4 hown4 hgrow4 _ hat4)
      obtain ⟨x4, c4, rfl⟩ := ownsRow_slice hown4
      obtain ⟨na, nb⟩ := hm.apart
      have hs4 := hgrow4.size
      simp only [World.size_alloc] at hs4
      have hrb := hm.lt rb (mem_refBlks.2 (.inl rfl))
      have hkeep4 : ∀ k, k < w.heap.size → (Value.slice x L.length cap).ownBlock ≠ some k → w4.heap[k]? = w.heap[k]? := fun k h1 h2 =>
        (hgrow4.block k (by rw [World.size_alloc]; omega) (fun e => h2 e.symm)).trans ((hb2.block k (by omega)).trans ((hb1.block k (by omega)).trans (hd.block k h1)))
      have hpg4 : w4.heap[w.heap.size]? = some (.cells (bytesV zpg) 5 (0, 0)) := by
        refine (hgrow4.block w.heap.size (by rw [World.size_alloc]; omega) (fun e => ?_)).trans ((hb2.block _ (by omega)).trans (by rw [← hdz]; exact hnew))
        have := hm.lt w.heap.size (mem_refBlks.2 (.inr (.inl e.symm)))
        omega
      have c42 : w4.cell? ⟨rb, 2, none⟩ = some (.slice x L.length cap) := by
        have := hkeep4 rb hrb na
        simp only [World.cell?, this]
        simpa only [World.cell?] using c2
      have f42 : w4.frozen? ⟨rb, 2, none⟩ = false := by
        have := hkeep4 rb hrb na
        simp only [World.frozen?, this]
        simpa only [World.frozen?] using hm.frozen 2
      have hBw : B ≤ w.heap.size := by have := hB rb (mem_refBlks.2 (.inl rfl)); omega
      have hbel4 : Below B w w4 := (hd.mono hBw).trans ((hb1.mono (by omega)).trans (Below.grown (hb2.mono (by omega)) hgrow4 (by rw [World.size_alloc]; omega) (fun k e => hB k (mem_refBlks.2 (.inr (.inl e))))))
      refine hQ₁ _ _ ⟨⟨_, c42⟩, rfl⟩ ?_
      clear hQ₁ Q₁
      have hwr := WroteR.added (pv' := .slice x4 (L.length + 1) c4) hm hB hno.out hn rfl hkeep4 hpg4 (by
        have e : encPg (L ++ [⟨n, zpg, w.heap.size⟩]) = encPg L ++ [.int .u64 (n * 4096), .slice (some ⟨w.heap.size, 0, none⟩) 4096 4096] := by simp [encPg, Pg.enc]
        rw [e]; exact hown4) (hat4.imp id fun h r e => by rw [h] at e; cases e; rw [World.size_alloc]; omega) hbel4
      clear hown2 hown4 hgrow4 hat4 hb1 hb2 hnew hm1 hmd hrow hlt hkeep4 hpg4 hbel4 na nb cd ce cf hno
      refine ordL_last ?_
      repeat (change wpQuiet _ _ _ _ (List.cons _ _) _; go_big_quiet_step (fail))
      refine wpQuiet_nil ?_
      intro Q₁ hQ₁
      simp only [Option.toList]
      gi_wp2
      clear y2
      obtain ⟨d0, d1, d2⟩ := hwr.mem.cells
      generalize w4.setCell ⟨rb, 2, none⟩ (.slice x4 (L.length + 1) c4) = w5 at *
      go_wp2_with fail
      go_ret
      exact ⟨rfl, _, _, hwr⟩
end Go.Proofs.YtdlpgonpikflfaaDoor
