/- The reference's memory: writing bytes. -/
import Derived.Test.YtdlpgonpikflfaaDoorRemA
namespace Go.Proofs.YtdlpgonpikflfaaDoor
open Go Go.RowKit Go.BigFrame Go.Maps

theorem WroteR.stay {w w' : World} {rb : Nat} {pv : Value} {s z : Int} {L : List Pg} {B : Nat} (h : MemR w rb pv s z L) (hb : Below w.heap.size w w') (hB : B ≤ w.heap.size) : WroteR w w' rb pv pv s z L L B (L.map Pg.ab) :=
  ⟨h.below hb (Nat.le_refl _), rfl, OffL.of_below hb hB, fun _ h => .inl h⟩
theorem WroteR.trans {w w1 w2 : World} {rb : Nat} {pv pv1 pv2 : Value} {s z : Int} {L L1 L2 : List Pg} {B : Nat} {t1 t2 : PG} (h : WroteR w w1 rb pv pv1 s z L L1 B t1) (k : WroteR w1 w2 rb pv1 pv2 s z L1 L2 B t2) : WroteR w w2 rb pv pv2 s z L L2 B t2 :=
  ⟨k.mem, k.ab, h.off.trans k.off h.blks, fun b hb => by
    rcases k.blks b hb with e | e
    · exact h.blks b e
    · exact .inr (Nat.le_trans h.off.below.size e)⟩
theorem WroteR.pre {w w1 w' : World} {rb : Nat} {pv pv' : Value} {s z : Int} {L L' : List Pg} {B : Nat} {tgt : PG} (h : WroteR w1 w' rb pv pv' s z L L' B tgt) (hb : Below w.heap.size w w1) (hB : B ≤ w.heap.size) : WroteR w w' rb pv pv' s z L L' B tgt :=
  ⟨h.mem, h.ab, ⟨(hb.mono hB).trans h.off.below, fun k h1 h2 => (h.off.rest k (Nat.lt_of_lt_of_le h1 hb.size) h2).trans (hb.block k h1)⟩, fun b hk => (h.blks b hk).imp id fun e => Nat.le_trans hb.size e⟩
theorem WroteR.fresh {w wr : World} {rb : Nat} {pv pv1 : Value} {s z : Int} {L L1 : List Pg} {B : Nat} {tgt : PG} (h : WroteR w wr rb pv pv1 s z L L1 B tgt) : ∀ k, k < w.heap.size → k ∉ refBlks rb pv L → k ∉ refBlks rb pv1 L1 := fun k h1 h2 h3 => by
  rcases h.blks k h3 with e | e
  · exact h2 e
  · omega
theorem WroteR.low {w wr : World} {rb : Nat} {pv pv1 : Value} {s z : Int} {L L1 : List Pg} {B : Nat} {tgt : PG} (h : WroteR w wr rb pv pv1 s z L L1 B tgt) (hB : ∀ k ∈ refBlks rb pv L, B ≤ k) (hBw : B ≤ w.heap.size) : ∀ k ∈ refBlks rb pv1 L1, B ≤ k := fun k hk => by
  rcases h.blks k hk with e | e
  · exact hB k e
  · omega
theorem upd_enc (n : Int) (o : Nat) (m : List Int) (L : List Pg) : encPg (L.map (Pg.upd n o m)) = encPg L := by
  unfold encPg
  rw [List.flatMap_map]
  congr 1
  funext p
  simp only [Pg.enc, upd_n, upd_blk]
theorem upd_blks' (L : List Pg) (n : Int) (o : Nat) (m : List Int) : (L.map (Pg.upd n o m)).map Pg.blk = L.map Pg.blk := by
  rw [List.map_map]
  exact List.map_congr_left fun p _ => upd_blk n o m p
theorem WroteR.put {w wr : World} {rb : Nat} {pv pv1 : Value} {s z : Int} {L L1 : List Pg} {B : Nat} {tgt : PG} (h : WroteR w wr rb pv pv1 s z L L1 B tgt) (hB : ∀ k ∈ refBlks rb pv L, B ≤ k) (hBw : B ≤ w.heap.size) {p : Pg} (hp : p ∈ L1) {o : Nat} {m : List Int} (ho : o + m.length ≤ 4096) (hm : ∀ c ∈ m, 0 ≤ c ∧ c < 256) :
    WroteR w (wr.setRow p.blk (bytesV (spl p.bs o m))) rb pv pv1 s z L (L1.map (Pg.upd p.n o m)) B (pgPut (L1.map Pg.ab) p.n o m) := by
  have hpb : p.blk ∈ refBlks rb pv1 L1 := mem_refBlks.2 (.inr (.inr (List.mem_map.2 ⟨p, hp, rfl⟩)))
  have hBp := h.low hB hBw _ hpb
  obtain ⟨a1, a2⟩ := h.mem.apart
  have hab : (L1.map (Pg.upd p.n o m)).map Pg.ab = pgPut (L1.map Pg.ab) p.n o m := by
    rw [upd_ab]
    unfold pgPut
    rw [if_pos (show p.n ∈ (L1.map Pg.ab).map (·.1) from List.mem_map.2 ⟨p.ab, List.mem_map.2 ⟨p, hp, rfl⟩, rfl⟩)]
  refine ⟨⟨(setRow_other wr p.blk rb _ (fun e => (a2 p hp).1 e.symm)).trans h.mem.hd, ?_, ?_, by rw [upd_blks']; exact h.mem.blks, by rw [hab]; exact h.mem.ok.put ho hm (h.mem.ok.num p.ab (List.mem_map.2 ⟨p, hp, rfl⟩)), h.mem.ws, h.mem.wz⟩, hab, ⟨below_setRow h.off.below hBp _, fun k h3 h4 => ?_⟩, fun k hk => ?_⟩
  · rw [upd_enc, List.length_map]
    exact ownsRow_eq h.mem.row fun r e => setRow_other wr p.blk r _ (fun e2 => (a2 p hp).2 (e2 ▸ e))
  · intro q hq
    obtain ⟨q0, hq0, rfl⟩ := List.mem_map.1 hq
    rw [upd_blk]
    by_cases hn : q0.n = p.n
    · obtain ⟨e1, e2⟩ := pg_same h.mem.ok hq0 hp hn
      have : (q0.upd p.n o m).bs = spl p.bs o m := by unfold Pg.upd; rw [if_pos hn, ← e2]
      rw [this, e1]
      exact setRow_heap wr p.blk _ _ _ _ (h.mem.page p hp)
    · have : (q0.upd p.n o m).bs = q0.bs := by unfold Pg.upd; rw [if_neg hn]
      rw [this]
      exact (setRow_other wr p.blk q0.blk _ (fun e => hn (by rw [blk_inj h.mem.blks hq0 hp e]))).trans (h.mem.page q0 hq0)
  · exact (setRow_other wr p.blk k _ (fun e => h.fresh k h3 h4 (e ▸ hpb))).trans (h.off.rest k h3 h4)
  · refine h.blks k ?_
    rcases mem_refBlks.1 hk with e | e | e
    · exact mem_refBlks.2 (.inl e)
    · exact mem_refBlks.2 (.inr (.inl e))
    · rw [upd_blks'] at e; exact mem_refBlks.2 (.inr (.inr e))
theorem ref_copy {W : World} {rb : Nat} {pv : Value} {s z : Int} {L : List Pg} (h : MemR W rb pv s z L) {p : Pg} (hp : p ∈ L) (o : Nat) (ho : o < 4096) (b off cap : Nat) (l : List Int)
    (hv : ∀ i (hi : i < l.length), W.cell? ⟨b, off + i, none⟩ = some (.int .u8 l[i])) (ty : TypeId) :
    (Builtin.copy_ #[90, 90] ty #[.slice (some ⟨p.blk, o, none⟩) (4096 - o) (4096 - o), .slice (some ⟨b, off, none⟩) l.length cap]).run Tryd.prog W =
      .ok (goInt ((min (4096 - o) l.length : Nat) : Int)) (W.setRow p.blk (bytesV (spl p.bs o (l.take (min (4096 - o) l.length))))) := by
  have hl : p.bs.length = 4096 := h.ok.len p.ab (List.mem_map.2 ⟨p, hp, rfl⟩)
  have hlen : (List.map (fun x => Value.int .u8 x) (l.take (min (4096 - o) l.length))).length = min (4096 - o) l.length := by
    rw [List.length_map, List.length_take]; omega
  have hr := run_copy_row (P := Tryd.prog) W 90 90 ty 5 p.blk o (4096 - o) (4096 - o) ⟨b, off, none⟩ l.length cap (bytesV p.bs) 5 ((l.take (min (4096 - o) l.length)).map fun x => Value.int .u8 x)
    Tryd.underlying90 (by kernel_rfl) (h.page p hp) (by rw [hlen]; exact Nat.min_comm _ _) ?_ ?_ (bytesV_one _)
  · rw [hlen] at hr
    rw [hr, spl_bytes, hlen]
  · intro j v hj
    rw [List.getElem?_map, List.getElem?_take] at hj
    split at hj
    · rename_i hlt
      have hjl : j < l.length := by omega
      rw [List.getElem?_eq_getElem hjl] at hj
      simp only [Option.map_some, Option.some.injEq] at hj
      subst hj
      have hadd : (⟨b, off, none⟩ : Addr).add j = ⟨b, off + j, none⟩ := by unfold Addr.add; split <;> simp_all
      rw [hadd]; exact hv j hjl
    · cases hj
  · rw [hlen]
    have : (bytesV p.bs).size = 4096 := by unfold bytesV; simp [hl]
    omega
/-- A page is found, or made. -/
theorem find_ok (rb : Nat) (pv : Value) (s z n : Int) (L : List Pg) (hn : 0 ≤ n ∧ n < 4503599627370496) (B : Nat) (w : World) (hm : MemR w rb pv s z L) (hB : ∀ k ∈ refBlks rb pv L, B ≤ k) (hl : L.length ≤ 1000000) :
    Calls Tryd.prog 57 #[.pointer (some ⟨rb, 0, none⟩), .int .u64 (n * 4096), .bool true] w fun e w' =>
      ∃ (pv' : Value) (L2 : List Pg) (i : Nat) (p : Pg), e = .returned (.int .i64 i) ∧ L2[i]? = some p ∧ p.n = n ∧ WroteR w w' rb pv pv' s z L L2 B (L2.map Pg.ab) ∧ L2.length ≤ L.length + 1 ∧ ∀ o m, pgPut (L2.map Pg.ab) n o m = pgPut (L.map Pg.ab) n o m := by
  have hBw : B ≤ w.heap.size := by have := hm.lt rb (mem_refBlks.2 (.inl rfl)); have := hB rb (mem_refBlks.2 (.inl rfl)); omega
  by_cases hx : ∀ p ∈ L, p.n ≠ n
  · refine (find_made rb pv s z n L hx hn B w hm hB hl).mono fun e w' ⟨he, pv', blk, h⟩ => ?_
    exact ⟨pv', _, L.length, ⟨n, zpg, blk⟩, he, by simp, rfl, h, by simp, fun o m => pgPut_add hx⟩
  · obtain ⟨p, hp, e1⟩ : ∃ p ∈ L, p.n = n := by
      rcases Classical.em (∃ p ∈ L, p.n = n) with h | h
      · exact h
      · exact absurd (fun p hp e => h ⟨p, hp, e⟩) hx
    obtain ⟨i, hi, rfl⟩ := List.getElem_of_mem hp
    refine (find_there rb pv s z n L i hi e1 true w hm).mono fun e w' ⟨he, hw⟩ => ?_
    subst hw
    exact ⟨pv, L, i, L[i], he, List.getElem?_eq_getElem hi, e1, WroteR.stay hm (Below.refl _ _) hBw, by omega, fun o m => rfl⟩
theorem pgPut_len (pg : PG) (n : Int) (o : Nat) (m : List Int) : (pgPut pg n o m).length ≤ pg.length + 1 := by
  unfold pgPut; split <;> simp
theorem writeV_len : ∀ (n : Nat) {pg : PG} {a : Int} {l : List Int} (_ : l.length ≤ n), (writeV pg a l).length ≤ pg.length + l.length
  | 0, pg, a, l, hn => by rw [List.length_eq_zero_iff.1 (Nat.le_zero.1 hn), writeV_nil]; omega
  | n + 1, pg, a, l, hn => by
    by_cases hz : l = []
    · subst hz; rw [writeV_nil]; omega
    · rw [writeV_step pg a hz]
      have hp := List.length_pos_iff.2 hz
      have h1 := writeV_len n (pg := pgPut pg (a / 4096) (a % 4096).toNat (l.take (min (4096 - (a % 4096).toNat) l.length))) (a := a + (min (4096 - (a % 4096).toNat) l.length : Nat)) (l := l.drop (min (4096 - (a % 4096).toNat) l.length)) (by rw [List.length_drop]; omega)
      have h2 := pgPut_len pg (a / 4096) (a % 4096).toNat (l.take (min (4096 - (a % 4096).toNat) l.length))
      rw [List.length_drop] at h1
      omega

set_option maxRecDepth 100000 in
set_option maxHeartbeats 4000000 in
theorem refWrite_any (rb : Nat) (pv : Value) (s z a : Int) (L : List Pg) (B b off cap : Nat) (x : Option Addr) (l : List Int) (w : World) (hm : MemR w rb pv s z L) (ha : W64 a) (hB : ∀ k ∈ refBlks rb pv L, B ≤ k)
    (hx : l ≠ [] → x = some ⟨b, off, none⟩ ∧ b < w.heap.size ∧ b ∉ refBlks rb pv L ∧ ∀ i (h : i < l.length), w.cell? ⟨b, off + i, none⟩ = some (.int .u8 l[i])) (hl : ∀ c ∈ l, 0 ≤ c ∧ c < 256) (hlen : l.length + L.length ≤ 1000000) (hcap : l.length ≤ cap) :
    Calls Tryd.prog 38 #[.pointer (some ⟨rb, 0, none⟩), .int .u64 a, .slice x l.length cap] w fun e w' => e = .returned (.int .i64 (askV s z a l.length)) ∧ ∃ pv' L', WroteR w w' rb pv pv' s z L L' B (if askV s z a l.length = 0 then writeV (L.map Pg.ab) a l else L.map Pg.ab) := by
  have hk := fun W h => refAsk_any rb pv s z a l.length L W h ha (by unfold W64; omega)
  have ha0 := ha.1
  have ha1 := ha.2
  have hBw : B ≤ w.heap.size := by have := hm.lt rb (mem_refBlks.2 (.inl rfl)); have := hB rb (mem_refBlks.2 (.inl rfl)); omega
  by_cases hq : askV s z a l.length = 0
  · have hend := fun h => ask_bd hq h
    rw [hq] at hk ⊢
    rw [if_pos rfl]
    clear hq
    replace hend := Lib.hid hend
    go_enter Tryd.func38, Tryd.ntmps38
    go_wp2_with fail
    refine (hk _ hm).mono ?_; rintro e w1 ⟨rfl, hb1⟩
    clear hk
    go_wp2_with fail
    go_loopw [1, 2] (fun u1 u2 wr => ∃ (pv1 : Value) (L1 : List Pg) (j : Nat) (a1 : Int) (y : Option Addr), j ≤ l.length ∧ u1 = .int .u64 a1 ∧ W64 a1 ∧ u2 = .slice y (l.length - j) (cap - j) ∧ (j < l.length → y = some ⟨b, off + j, none⟩ ∧ a1 = a + j) ∧ WroteR w wr rb pv pv1 s z L L1 B (L1.map Pg.ab) ∧ L1.length ≤ L.length + j ∧ writeV (L1.map Pg.ab) a1 (l.drop j) = writeV (L.map Pg.ab) a l) (fun _ u2 _ => lenV u2)
    case atStart => exact ⟨pv, L, 0, a, x, Nat.zero_le _, rfl, ha, rfl, fun h => ⟨(hx (by rintro rfl; simp at h)).1, by simp⟩, WroteR.stay hm hb1 hBw, Nat.le_refl _, rfl⟩
    case round =>
      obtain ⟨pv1, L1, j, a1, y, hj, rfl, hw1, rfl, hya, hwr, hLl, htgt⟩ := hrel
      clear hb1 hm
      by_cases hlt : j < l.length
      · obtain ⟨rfl, rfl⟩ := hya hlt
        have hlne : l ≠ [] := by rintro rfl; simp at hlt
        obtain ⟨rfl, hbw, hbn, hcell⟩ := hx hlne
        have hcell1 : ∀ W : World, W.heap[b]? = w.heap[b]? → ∀ i (h : i < (l.drop j).length), W.cell? ⟨b, off + j + i, none⟩ = some (.int .u8 (l.drop j)[i]) := fun W hsame i h => by
          have h1 := hcell (j + i) (by rw [List.length_drop] at h; omega)
          simp only [World.cell?, hsame]
          simp only [World.cell?] at h1
          rw [Nat.add_assoc, List.getElem_drop]; exact h1
        have hdl : (l.drop j).length = l.length - j := List.length_drop
        have hDne : l.drop j ≠ [] := by intro e; rw [e] at hdl; simp at hdl; omega
        have hDb : ∀ c ∈ l.drop j, 0 ≤ c ∧ c < 256 := fun c hc => hl c (List.mem_of_mem_drop hc)
        have hDj : ∀ k, (l.drop j).drop k = l.drop (j + k) := fun k => by rw [List.drop_drop]
        rw [writeV_step _ _ hDne] at htgt
        have hE : a + j + (l.length - j : Nat) ≤ 18446744073709551616 := by have := hend.out (by omega); omega
        have hj0 : (0 : Int) ≤ a + j := by omega
        have hcj : l.length - j ≤ cap - j := by omega
        have hw10 := hw1.1
        have hw11 := hw1.2
        generalize l.drop j = D at *
        rw [← hdl] at hE hcj ⊢
        have hD0 : 0 < D.length := by omega
        generalize hA : a + (j : Int) = a1 at *
        replace hA := Lib.hid hA
        replace htgt := Lib.hid htgt
        replace hdl := Lib.hid hdl
        replace hDj := Lib.hid hDj
        clear hDne hj0 hcell
        have hfi := fun W h => find_ok rb pv1 s z (a1 / 4096) L1 (by omega) B W h (hwr.low hB hBw) (by omega)
        have hmul : IntKind.u64.wrap (a1 / 4096 * 4096) = a1 / 4096 * 4096 := by rw [IntKind.wrap_u64]; omega
        go_wp2_with fail
        refine (hfi _ hwr.mem).mono ?_; rintro e w4 ⟨pv2, L2, i, p, rfl, hip, hpn, hw4, hL2, hpe⟩
        clear hfi
        have hwr2 := hwr.trans hw4
        have hLl2 : L2.length ≤ L.length + (j + 1) := by omega
        obtain ⟨x2, c2, rfl, hmx, hx2⟩ := hw4.mem.open
        have hil : i < L2.length := (List.getElem?_eq_some_iff.1 hip).1
        obtain ⟨g2, rfl, hrow⟩ := hx2 (by rintro rfl; simp at hil)
        have hpi : L2[i] = p := (List.getElem?_eq_some_iff.1 hip).2
        have hp : p ∈ L2 := hpi ▸ List.getElem_mem hil
        obtain ⟨_, d1⟩ := hrow i hil
        rw [hpi] at d1
        obtain ⟨_, _, d2⟩ := hw4.mem.cells
        have hcp := fun ty => ref_copy hw4.mem hp (a1 % 4096).toNat (by omega) b (off + j) (cap - j) D (hcell1 w4 (hwr2.off.rest b hbw hbn)) ty
        unfold maxLen at hmx
        clear hcell1 hw4 hwr hrow hx2 hip hpi
        replace hpn := Lib.hid hpn
        replace hpe := Lib.hid hpe
        go_wp2_with fail
        have hko : (a1 % 4096).toNat < 4096 := by omega
        have hwp := hwr2.put hB hBw hp (o := (a1 % 4096).toNat) (m := D.take (min (4096 - (a1 % 4096).toNat) D.length)) (by rw [List.length_take]; omega) (fun c hc => hDb c (List.mem_of_mem_take hc))
        obtain ⟨r1, r2, r3, r4, r5⟩ := write_left a a1 j b off cap l D _ _ (writeV (L.map Pg.ab) a l) hdl.out hDj.out hA.out hlt hcap hw10 hE (min (4096 - (a1 % 4096).toNat) D.length) (by omega) (by omega) hwp.ab (by rw [hpn.out, hpe.out]; exact htgt.out)
        refine ⟨⟨_, _, j + (min (4096 - (a1 % 4096).toNat) D.length), _, _, r1, rfl, r2, r3, r4, ⟨hwp.mem, rfl, hwp.off, hwp.blks⟩, by rw [List.length_map]; omega, r5⟩, ?_⟩
        simp only [lenV]
        omega
      · obtain rfl : j = l.length := by omega
        rw [List.drop_length, writeV_nil] at htgt
        have hpos : ¬ 0 < (((l.length - l.length : Nat) : Int)) := by omega
        replace htgt := Lib.hid htgt
        go_wp2_with fail
        go_ret
        exact ⟨rfl, pv1, L1, hwr.mem, htgt.out, hwr.off, hwr.blks⟩
  · rw [if_neg hq]
    generalize askV s z a l.length = q at *
    have hq' : (q == 0) = false := by simpa using hq
    go_enter Tryd.func38, Tryd.ntmps38
    go_wp2_with fail
    refine (hk _ hm).mono ?_; rintro e w1 ⟨rfl, hb1⟩
    clear hk
    go_wp2_with fail
    go_ret
    exact ⟨rfl, pv, L, WroteR.stay hm hb1 hBw⟩
end Go.Proofs.YtdlpgonpikflfaaDoor
