/- RemX: RemA, RemB, RemC, RemD, as one text. -/
import Derived.Lib.AppendZerosOnto
import Derived.Laws.CopyRow
import Derived.Test.YtnieomgopldlhaaGreatDoorWalkPartsP11
import Derived.Test.YtnieomgopldlhaaGreatDoorWalkPartsP23
import Derived.Test.YtnieomgopldlhaaGreatDoorWalkPartsP25
import Derived.Test.YtnieomgopldlhaaGreatDoorWalkPartsP33
/-! Memory as the reference keeps it: a list of pages; a new memory; what an access asks. -/
namespace Go.Proofs.YtnieomgopldlhaaGreatDoor
open Go Go.RowKit Go.BigFrame Go.Maps

def Pg.enc (p : Pg) : List Value := [.int .u64 (p.n * 4096), .slice (some ⟨p.blk, 0, none⟩) 4096 4096]
def encPg (L : List Pg) : List Value := L.flatMap Pg.enc
theorem encPg_get (L : List Pg) : ∀ (i : Nat) (h : i < L.length), (encPg L)[i * 2]? = some (.int .u64 (L[i].n * 4096)) ∧ (encPg L)[i * 2 + 1]? = some (.slice (some ⟨L[i].blk, 0, none⟩) 4096 4096) := by
  induction L with
  | nil => intro i h; simp at h
  | cons p L ih =>
    intro i h
    rcases i with _ | i
    · simp [encPg, Pg.enc]
    · have := ih i (by simpa using h)
      rw [show (i + 1) * 2 = i * 2 + 1 + 1 by omega]
      simpa [encPg, Pg.enc] using this
/-- The reference's memory: its variable in block 'rb', its pages in the row 'pv'. -/
structure MemR (W : World) (rb : Nat) (pv : Value) (s z : Int) (L : List Pg) : Prop where
  hd : W.heap[rb]? = some (.cells #[.int .u64 s, .int .u64 z, pv] 175 (0, 0))
  row : W.ownsRow 0 222 2 pv L.length (encPg L)
  page : ∀ p ∈ L, W.heap[p.blk]? = some (.cells (bytesV p.bs) 5 (0, 0))
  blks : (L.map Pg.blk).Nodup
  ok : PgOk (L.map Pg.ab)
  ws : W64 s
  wz : W64 z
def refBlks (rb : Nat) (pv : Value) (L : List Pg) : List Nat := rb :: (pv.ownBlock.toList ++ L.map Pg.blk)
theorem mem_refBlks {rb : Nat} {pv : Value} {L : List Pg} {b : Nat} : b ∈ refBlks rb pv L ↔ b = rb ∨ pv.ownBlock = some b ∨ b ∈ L.map Pg.blk := by
  unfold refBlks
  rw [List.mem_cons, List.mem_append, Option.mem_toList]
theorem MemR.lt {W : World} {rb : Nat} {pv : Value} {s z : Int} {L : List Pg} (h : MemR W rb pv s z L) : ∀ b ∈ refBlks rb pv L, b < W.heap.size := by
  intro b hb
  rcases mem_refBlks.1 hb with rfl | hb | hb
  · exact (Array.getElem?_eq_some_iff.1 h.hd).1
  · exact (World.ownsRow.lt h.row b hb).2
  · obtain ⟨p, hp, rfl⟩ := List.mem_map.1 hb
    exact (Array.getElem?_eq_some_iff.1 (h.page p hp)).1
theorem ownsRow_eq {E : TypeId} {w w' : World} {base k n : Nat} {v : Value} {l : List Value} (h : w.ownsRow base E k v n l) (hb : ∀ r, v.ownBlock = some r → w'.heap[r]? = w.heap[r]?) : w'.ownsRow base E k v n l := by
  obtain ⟨hlen, hc⟩ := h
  refine ⟨hlen, hc.imp id fun ⟨g, cap, cur, hv, hbg, hg, hr⟩ => ⟨g, cap, cur, hv, hbg, ?_, hr⟩⟩
  rw [hb g (by rw [hv]; rfl)]; exact hg
theorem MemR.same {W W' : World} {rb : Nat} {pv : Value} {s z : Int} {L : List Pg} (h : MemR W rb pv s z L) (hs : ∀ b ∈ refBlks rb pv L, W'.heap[b]? = W.heap[b]?) : MemR W' rb pv s z L :=
  ⟨(hs rb (mem_refBlks.2 (.inl rfl))).trans h.hd, ownsRow_eq h.row fun r e => hs r (mem_refBlks.2 (.inr (.inl e))), fun p hp => (hs p.blk (mem_refBlks.2 (.inr (.inr (List.mem_map.2 ⟨p, hp, rfl⟩))))).trans (h.page p hp), h.blks, h.ok, h.ws, h.wz⟩
theorem MemR.below {W W' : World} {rb B : Nat} {pv : Value} {s z : Int} {L : List Pg} (h : MemR W rb pv s z L) (hb : Below B W W') (hB : W.heap.size ≤ B) : MemR W' rb pv s z L :=
  h.same fun b hm => hb.block b (Nat.lt_of_lt_of_le (h.lt b hm) hB)
theorem MemR.off {W W' : World} {rb B : Nat} {pv : Value} {s z : Int} {L : List Pg} {Bs : List Nat} (h : MemR W rb pv s z L) (ho : OffL B Bs W W') (hd : ∀ b ∈ refBlks rb pv L, b ∉ Bs) : MemR W' rb pv s z L :=
  h.same fun b hm => ho.rest b (h.lt b hm) (hd b hm)
theorem MemR.cells {W : World} {rb : Nat} {pv : Value} {s z : Int} {L : List Pg} (h : MemR W rb pv s z L) : W.cell? ⟨rb, 0, none⟩ = some (.int .u64 s) ∧ W.cell? ⟨rb, 1, none⟩ = some (.int .u64 z) ∧ W.cell? ⟨rb, 2, none⟩ = some pv := by
  refine ⟨?_, ?_, ?_⟩ <;> simp [World.cell?, h.hd]
theorem MemR.frozen {W : World} {rb : Nat} {pv : Value} {s z : Int} {L : List Pg} (h : MemR W rb pv s z L) (o : Nat) : W.frozen? ⟨rb, o, none⟩ = false := by simp [World.frozen?, h.hd]
/-- Its row of pages, opened. -/
theorem MemR.open {W : World} {rb : Nat} {pv : Value} {s z : Int} {L : List Pg} (h : MemR W rb pv s z L) : ∃ (x : Option Addr) (cap : Nat), pv = .slice x L.length cap ∧ L.length ≤ maxLen ∧ (L ≠ [] → ∃ g, x = some ⟨g, 0, none⟩ ∧
    ∀ i (hi : i < L.length), W.cell? ⟨g, i * 2, none⟩ = some (.int .u64 (L[i].n * 4096)) ∧ W.cell? ⟨g, i * 2 + 1, none⟩ = some (.slice (some ⟨L[i].blk, 0, none⟩) 4096 4096)) := by
  obtain ⟨hlen, ⟨hv, h0⟩ | ⟨g, cap, cur, hv, hb, hg, hn, hm, hs, hx⟩⟩ := h.row
  · have e := List.length_eq_zero_iff.1 h0
    exact ⟨none, 0, by rw [hv, h0], by rw [h0]; unfold maxLen; omega, fun h => absurd e h⟩
  · refine ⟨some ⟨g, 0, none⟩, cap, hv, Nat.le_trans hn hm, fun _ => ⟨g, rfl, fun i hi => ?_⟩⟩
    have key : ∀ j, j < L.length * 2 → W.cell? ⟨g, j, none⟩ = (encPg L)[j]? := by
      intro j hj
      rw [← hx, List.getElem?_take, if_pos hj]
      simp only [World.cell?, hg]
      simp
    obtain ⟨e0, e1⟩ := encPg_get L i hi
    exact ⟨(key _ (by omega)).trans e0, (key _ (by omega)).trans e1⟩

/-- What the reference's writing leaves. -/
structure WroteR (w w' : World) (rb : Nat) (pv pv' : Value) (s z : Int) (L L' : List Pg) (B : Nat) (tgt : PG) : Prop where
  mem : MemR w' rb pv' s z L'
  ab : L'.map Pg.ab = tgt
  off : OffL B (refBlks rb pv L) w w'
  blks : ∀ b ∈ refBlks rb pv' L', b ∈ refBlks rb pv L ∨ w.heap.size ≤ b

theorem MemR.apart {W : World} {rb : Nat} {pv : Value} {s z : Int} {L : List Pg} (h : MemR W rb pv s z L) : pv.ownBlock ≠ some rb ∧ (∀ p ∈ L, p.blk ≠ rb ∧ pv.ownBlock ≠ some p.blk) := by
  have key : ∀ g, pv.ownBlock = some g → ∃ cur, W.heap[g]? = some (.cells cur 222 (0, 0)) := fun g hg => by
    obtain ⟨_, ⟨hv, _⟩ | ⟨g', cap, cur, hv, _, hg', _⟩⟩ := h.row
    · rw [hv] at hg; cases hg
    · rw [hv] at hg; cases hg; exact ⟨cur, hg'⟩
  refine ⟨fun e => ?_, fun p hp => ⟨fun e => ?_, fun e => ?_⟩⟩
  · obtain ⟨cur, hc⟩ := key _ e
    rw [h.hd] at hc; simp at hc
  · have := h.page p hp
    rw [e, h.hd] at this; simp at this
  · obtain ⟨cur, hc⟩ := key _ e
    rw [h.page p hp] at hc; simp at hc
end Go.Proofs.YtnieomgopldlhaaGreatDoor
/-! The reference's memory: writing bytes. -/
namespace Go.Proofs.YtnieomgopldlhaaGreatDoor
open Go Go.RowKit Go.BigFrame Go.Maps

theorem WroteR.stay {w w' : World} {rb : Nat} {pv : Value} {s z : Int} {L : List Pg} {B : Nat} (h : MemR w rb pv s z L) (hb : Below w.heap.size w w') (hB : B ≤ w.heap.size) : WroteR w w' rb pv pv s z L L B (L.map Pg.ab) :=
  ⟨h.below hb (Nat.le_refl _), rfl, OffL.of_below hb hB, fun _ h => .inl h⟩
theorem WroteR.trans {w w1 w2 : World} {rb : Nat} {pv pv1 pv2 : Value} {s z : Int} {L L1 L2 : List Pg} {B : Nat} {t1 t2 : PG} (h : WroteR w w1 rb pv pv1 s z L L1 B t1) (k : WroteR w1 w2 rb pv1 pv2 s z L1 L2 B t2) : WroteR w w2 rb pv pv2 s z L L2 B t2 :=
  ⟨k.mem, k.ab, h.off.trans k.off h.blks, fun b hb => by
    rcases k.blks b hb with e | e
    · exact h.blks b e
    · exact .inr (Nat.le_trans h.off.below.size e)⟩
theorem WroteR.pre {w w1 w' : World} {rb : Nat} {pv pv' : Value} {s z : Int} {L L' : List Pg} {B : Nat} {tgt : PG} (h : WroteR w1 w' rb pv pv' s z L L' B tgt) (hb : Below w.heap.size w w1) (hB : B ≤ w.heap.size) : WroteR w w' rb pv pv' s z L L' B tgt :=
  ⟨h.mem, h.ab, ⟨(hb.mono hB).trans h.off.below, fun k h1 h2 => (h.off.rest k (Nat.lt_of_lt_of_le h1 hb.size) h2).trans (hb.block k h1)⟩, fun b hk => (h.blks b hk).imp id fun e => Nat.le_trans hb.size e⟩
theorem WroteR.fresh {w wr : World} {rb : Nat} {pv pv1 : Value} {s z : Int} {L L1 : List Pg} {B : Nat} {tgt : PG} (h : WroteR w wr rb pv pv1 s z L L1 B tgt) : ∀ k, k < w.heap.size → k ∉ refBlks rb pv L → k ∉ refBlks rb pv1 L1 := fun k h1 h2 h3 => by
  rcases h.blks k h3 with e | e
  · exact h2 e
  · omega
theorem WroteR.low {w wr : World} {rb : Nat} {pv pv1 : Value} {s z : Int} {L L1 : List Pg} {B : Nat} {tgt : PG} (h : WroteR w wr rb pv pv1 s z L L1 B tgt) (hB : ∀ k ∈ refBlks rb pv L, B ≤ k) (hBw : B ≤ w.heap.size) : ∀ k ∈ refBlks rb pv1 L1, B ≤ k := fun k hk => by
  rcases h.blks k hk with e | e
  · exact hB k e
  · omega
theorem upd_enc (n : Int) (o : Nat) (m : List Int) (L : List Pg) : encPg (L.map (Pg.upd n o m)) = encPg L := by
  unfold encPg
  rw [List.flatMap_map]
  congr 1
  funext p
  simp only [Pg.enc, upd_n, upd_blk]
theorem upd_blks' (L : List Pg) (n : Int) (o : Nat) (m : List Int) : (L.map (Pg.upd n o m)).map Pg.blk = L.map Pg.blk := by
  rw [List.map_map]
  exact List.map_congr_left fun p _ => upd_blk n o m p
theorem WroteR.put {w wr : World} {rb : Nat} {pv pv1 : Value} {s z : Int} {L L1 : List Pg} {B : Nat} {tgt : PG} (h : WroteR w wr rb pv pv1 s z L L1 B tgt) (hB : ∀ k ∈ refBlks rb pv L, B ≤ k) (hBw : B ≤ w.heap.size) {p : Pg} (hp : p ∈ L1) {o : Nat} {m : List Int} (ho : o + m.length ≤ 4096) (hm : ∀ c ∈ m, 0 ≤ c ∧ c < 256) :
    WroteR w (wr.setRow p.blk (bytesV (spl p.bs o m))) rb pv pv1 s z L (L1.map (Pg.upd p.n o m)) B (pgPut (L1.map Pg.ab) p.n o m) := by
  have hpb : p.blk ∈ refBlks rb pv1 L1 := mem_refBlks.2 (.inr (.inr (List.mem_map.2 ⟨p, hp, rfl⟩)))
  have hBp := h.low hB hBw _ hpb
  obtain ⟨a1, a2⟩ := h.mem.apart
  have hab : (L1.map (Pg.upd p.n o m)).map Pg.ab = pgPut (L1.map Pg.ab) p.n o m := by
    rw [upd_ab]
    unfold pgPut
    rw [if_pos (show p.n ∈ (L1.map Pg.ab).map (·.1) from List.mem_map.2 ⟨p.ab, List.mem_map.2 ⟨p, hp, rfl⟩, rfl⟩)]
  refine ⟨⟨(setRow_other wr p.blk rb _ (fun e => (a2 p hp).1 e.symm)).trans h.mem.hd, ?_, ?_, by rw [upd_blks']; exact h.mem.blks, by rw [hab]; exact h.mem.ok.put ho hm (h.mem.ok.num p.ab (List.mem_map.2 ⟨p, hp, rfl⟩)), h.mem.ws, h.mem.wz⟩, hab, ⟨below_setRow h.off.below hBp _, fun k h3 h4 => ?_⟩, fun k hk => ?_⟩
  · rw [upd_enc, List.length_map]
    exact ownsRow_eq h.mem.row fun r e => setRow_other wr p.blk r _ (fun e2 => (a2 p hp).2 (e2 ▸ e))
  · intro q hq
    obtain ⟨q0, hq0, rfl⟩ := List.mem_map.1 hq
    rw [upd_blk]
    by_cases hn : q0.n = p.n
    · obtain ⟨e1, e2⟩ := pg_same h.mem.ok hq0 hp hn
      have : (q0.upd p.n o m).bs = spl p.bs o m := by unfold Pg.upd; rw [if_pos hn, ← e2]
      rw [this, e1]
      exact setRow_heap wr p.blk _ _ _ _ (h.mem.page p hp)
    · have : (q0.upd p.n o m).bs = q0.bs := by unfold Pg.upd; rw [if_neg hn]
      rw [this]
      exact (setRow_other wr p.blk q0.blk _ (fun e => hn (by rw [blk_inj h.mem.blks hq0 hp e]))).trans (h.mem.page q0 hq0)
  · exact (setRow_other wr p.blk k _ (fun e => h.fresh k h3 h4 (e ▸ hpb))).trans (h.off.rest k h3 h4)
  · refine h.blks k ?_
    rcases mem_refBlks.1 hk with e | e | e
    · exact mem_refBlks.2 (.inl e)
    · exact mem_refBlks.2 (.inr (.inl e))
    · rw [upd_blks'] at e; exact mem_refBlks.2 (.inr (.inr e))
end Go.Proofs.YtnieomgopldlhaaGreatDoor
/-! The reference's memory: putting a word; reading bytes; a word. -/
namespace Go.Proofs.YtnieomgopldlhaaGreatDoor
open Go Go.RowKit Go.BigFrame Go.Maps

end Go.Proofs.YtnieomgopldlhaaGreatDoor
/-! The reference's memory: a word. -/
namespace Go.Proofs.YtnieomgopldlhaaGreatDoor
open Go Go.RowKit Go.BigFrame Go.Maps

end Go.Proofs.YtnieomgopldlhaaGreatDoor
