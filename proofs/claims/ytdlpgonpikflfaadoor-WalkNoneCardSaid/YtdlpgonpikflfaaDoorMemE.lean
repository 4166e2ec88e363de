/- The walk of the program's Write: bytes are written into memory, page by page. -/
import Derived.Test.YtdlpgonpikflfaaDoorMemD
namespace Go.Proofs.YtdlpgonpikflfaaDoor
open Go Go.RowKit Go.BigFrame Go.Maps

/-- What Write leaves. -/
structure Wrote (w w' : World) (mb pb : Nat) (s z : Int) (L L' : List Pg) (B : Nat) (tgt : PG) : Prop where
  mem : MemP w' mb pb s z L'
  ab : L'.map Pg.ab = tgt
  off : OffL B (memBlks mb pb L) w w'
  blks : ∀ b ∈ memBlks mb pb L', b ∈ memBlks mb pb L ∨ w.heap.size ≤ b
def lenV : Value → Nat
  | .slice _ n _ => n
  | _ => 0
theorem ask_bd {s z a n : Int} (h : askV s z a n = 0) (hn : 0 < n) : a + n ≤ 18446744073709551616 := by
  unfold askV at h
  split at h
  · cases h
  · split at h
    · cases h
    · rename_i h1 h2
      have : withinB a n s z = true := by
        cases hb : withinB a n s z
        · exact absurd ⟨hn, hb⟩ h2
        · rfl
      have := (goodB_iff.1 (withinB_iff.1 this).1).2
      omega

theorem Wrote.fresh {w wr : World} {mb pb : Nat} {s z : Int} {L L1 : List Pg} {B : Nat} {tgt : PG} (h : Wrote w wr mb pb s z L L1 B tgt) : ∀ k, k < w.heap.size → k ∉ memBlks mb pb L → k ∉ memBlks mb pb L1 := fun k h1 h2 h3 => by
  rcases h.blks k h3 with e | e
  · exact h2 e
  · omega
theorem Wrote.put {w wr : World} {mb pb : Nat} {s z : Int} {L L1 : List Pg} {B : Nat} {tgt : PG} (h : Wrote w wr mb pb s z L L1 B tgt) (hB : ∀ k ∈ memBlks mb pb L, B ≤ k) (hBw : B ≤ w.heap.size) {p : Pg} (hp : p ∈ L1) {o : Nat} {m : List Int} (ho : o + m.length ≤ 4096) (hm : ∀ c ∈ m, 0 ≤ c ∧ c < 256) :
    Wrote w (wr.setRow p.blk (bytesV (spl p.bs o m))) mb pb s z L (L1.map (Pg.upd p.n o m)) B (pgPut (L1.map Pg.ab) p.n o m) := by
  obtain ⟨h1, h2⟩ := h.mem.put hp ho hm
  have hpb : p.blk ∈ memBlks mb pb L1 := by simp only [memBlks, List.mem_cons]; exact .inr (.inr (List.mem_map.2 ⟨p, hp, rfl⟩))
  have hBp : B ≤ p.blk := by
    rcases h.blks _ hpb with e | e
    · exact hB _ e
    · omega
  refine ⟨h1, h2, ⟨below_setRow h.off.below hBp _, fun k h3 h4 => ?_⟩, fun k hk => ?_⟩
  · exact (setRow_other wr p.blk k _ (fun e => h.fresh k h3 h4 (e ▸ hpb))).trans (h.off.rest k h3 h4)
  · rw [upd_blks] at hk; exact h.blks k hk
theorem Wrote.add {w wr : World} {mb pb : Nat} {s z : Int} {L L1 : List Pg} {B : Nat} {tgt : PG} (h : Wrote w wr mb pb s z L L1 B tgt) (hB : ∀ k ∈ memBlks mb pb L, B ≤ k) {o : Obj} {n : Int}
    (hm : MemP (Go.ChangeMaps.setBlock (wr.alloc (.cells (bytesV zpg) 5)) pb o) mb pb s z (L1 ++ [⟨n, zpg, wr.heap.size⟩])) : Wrote w (Go.ChangeMaps.setBlock (wr.alloc (.cells (bytesV zpg) 5)) pb o) mb pb s z L (L1 ++ [⟨n, zpg, wr.heap.size⟩]) B ((L1 ++ [⟨n, zpg, wr.heap.size⟩] : List Pg).map Pg.ab) := by
  have hbw : wr.heap.size < (wr.alloc (.cells (bytesV zpg) 5)).heap.size := by simp
  have hs := h.off.below.size
  refine ⟨hm, rfl, ⟨⟨h.off.below.os, h.off.below.tape, h.off.below.output, by rw [setB_size]; omega, fun k hk => ?_⟩, fun k h1 h2 => ?_⟩, fun k hk => ?_⟩
  · have h1 : pb ≠ k := fun e => by have := hB pb (by simp [memBlks]); omega
    have hwk : k < wr.heap.size := by
      have := hB pb (by simp [memBlks])
      have := h.mem.lt pb (by simp [memBlks])
      omega
    exact (setB_other o (fun e => h1 e.symm)).trans (((bone wr _).block k hwk).trans (h.off.below.block k hk))
  · have h3 : k ≠ pb := fun e => h2 (by rw [e]; simp [memBlks])
    exact (setB_other o h3).trans (((bone wr _).block k (by omega)).trans (h.off.rest k h1 h2))
  · unfold memBlks at hk
    rw [List.map_append] at hk
    simp only [List.mem_cons, List.mem_append, List.map_cons, List.map_nil, List.not_mem_nil, or_false] at hk
    rcases hk with rfl | rfl | hk | rfl
    · exact h.blks _ (by simp [memBlks])
    · exact h.blks _ (by simp [memBlks])
    · exact h.blks _ (by simp only [memBlks, List.mem_cons]; exact .inr (.inr hk))
    · exact .inr hs
theorem pgPut_add {L : List Pg} {n : Int} {o k : Nat} {m : List Int} (hno : ∀ p ∈ L, p.n ≠ n) : pgPut ((L ++ [⟨n, zpg, k⟩] : List Pg).map Pg.ab) n o m = pgPut (L.map Pg.ab) n o m := by
  have hn : n ∉ (L.map Pg.ab).map (·.1) := fun hm => by
    obtain ⟨q, hq, e⟩ := List.mem_map.1 hm
    obtain ⟨p, hp, rfl⟩ := List.mem_map.1 hq
    exact hno p hp e
  unfold pgPut
  rw [if_neg hn, if_pos (by rw [List.map_append, List.map_append]; simp [Pg.ab]), List.map_append, List.map_append]
  congr 1
  · rw [List.map_map]
    apply List.map_congr_left
    intro p hp
    show (if p.ab.1 = n then (p.ab.1, spl p.ab.2 o m) else p.ab) = p.ab
    rw [if_neg (show ¬ p.ab.1 = n from hno p hp)]
  · simp [Pg.ab]
/-- What a round of Write leaves of the bytes. -/
theorem write_left (a a1 : Int) (j b off cap : Nat) (l D : List Int) (pg pg' tgt : PG) (hD : D.length = l.length - j) (hDj : ∀ k, D.drop k = l.drop (j + k)) (hA : a + (j : Int) = a1) (hj : j < l.length) (hcap : l.length ≤ cap) (h0 : 0 ≤ a1) (h1 : a1 + (D.length : Int) ≤ 18446744073709551616)
    (k : Nat) (hk : 1 ≤ k) (hkD : k ≤ D.length) (hpg : pg' = pg) (ht : writeV pg (a1 + (k : Int)) (D.drop k) = tgt) :
    j + k ≤ l.length ∧ W64 (IntKind.u64.wrap (a1 + (k : Int))) ∧
      Value.slice (if cap - j = k then some ⟨b, off + j, none⟩ else some ⟨b, off + j + k, none⟩) (D.length - k) (cap - j - k) = Value.slice (if cap - j = k then some ⟨b, off + j, none⟩ else some ⟨b, off + j + k, none⟩) (l.length - (j + k)) (cap - (j + k)) ∧
      (j + k < l.length → (if cap - j = k then some (⟨b, off + j, none⟩ : Addr) else some ⟨b, off + j + k, none⟩) = some ⟨b, off + (j + k), none⟩ ∧ IntKind.u64.wrap (a1 + (k : Int)) = a + ((j + k : Nat) : Int)) ∧
      writeV pg' (IntKind.u64.wrap (a1 + (k : Int))) (l.drop (j + k)) = tgt := by
  subst hpg
  have hw : W64 (IntKind.u64.wrap (a1 + (k : Int))) := by rw [IntKind.wrap_u64]; unfold W64; omega
  refine ⟨by omega, hw, by rw [show D.length - k = l.length - (j + k) by omega, show cap - j - k = cap - (j + k) by omega], fun h => ⟨?_, ?_⟩, ?_⟩
  · rw [if_neg (by omega), Nat.add_assoc]
  · rw [IntKind.wrap_u64]; omega
  · rw [← hDj]
    by_cases h : j + k < l.length
    · have : IntKind.u64.wrap (a1 + (k : Int)) = a1 + (k : Int) := by rw [IntKind.wrap_u64]; omega
      rw [this]; exact ht
    · have hn : D.drop k = [] := List.drop_of_length_le (by omega)
      rw [hn, writeV_nil] at ht ⊢
      exact ht

set_option maxRecDepth 100000 in
set_option maxHeartbeats 4000000 in
theorem write_any (mb pb : Nat) (s z a : Int) (L : List Pg) (B b off cap : Nat) (x : Option Addr) (l : List Int) (w : World) (hm : MemP w mb pb s z L) (ha : W64 a) (hB : ∀ k ∈ memBlks mb pb L, B ≤ k)
    (hx : l ≠ [] → x = some ⟨b, off, none⟩ ∧ b < w.heap.size ∧ b ∉ memBlks mb pb L ∧ ∀ i (h : i < l.length), w.cell? ⟨b, off + i, none⟩ = some (.int .u8 l[i])) (hl : ∀ c ∈ l, 0 ≤ c ∧ c < 256) (hlen : l.length ≤ 9223372036854775807) (hcap : l.length ≤ cap) :
    Calls Tryd.prog 35 #[.pointer (some ⟨mb, 0, none⟩), .int .u64 a, .slice x l.length cap] w fun e w' => e = .returned (.int .i64 (askV s z a l.length)) ∧ ∃ L', Wrote w w' mb pb s z L L' B (if askV s z a l.length = 0 then writeV (L.map Pg.ab) a l else L.map Pg.ab) := by
  have hk := fun W h => ask_any mb pb s z a l.length L W h ha (by unfold W64; omega)
  have ha0 := ha.1
  have ha1 := ha.2
  by_cases hq : askV s z a l.length = 0
  · have hend := fun h => ask_bd hq h
    rw [hq] at hk ⊢
    rw [if_pos rfl]
    clear hq
    replace hend := Lib.hid hend
    have hBw : B ≤ w.heap.size := by have := hm.lt mb (by simp [memBlks]); have := hB mb (by simp [memBlks]); omega
    replace hBw := hBw
    go_enter Tryd.func35, Tryd.ntmps35
    go_wp2_with fail
    refine (hk _ hm).mono ?_; rintro e w1 ⟨rfl, hb1⟩
    clear hk
    go_wp2_with fail
    go_loopw [1, 2] (fun u1 u2 wr => ∃ (L1 : List Pg) (j : Nat) (a1 : Int) (y : Option Addr), j ≤ l.length ∧ u1 = .int .u64 a1 ∧ W64 a1 ∧ u2 = .slice y (l.length - j) (cap - j) ∧ (j < l.length → y = some ⟨b, off + j, none⟩ ∧ a1 = a + j) ∧ Wrote w wr mb pb s z L L1 B (L1.map Pg.ab) ∧ writeV (L1.map Pg.ab) a1 (l.drop j) = writeV (L.map Pg.ab) a l) (fun _ u2 _ => lenV u2)
    case atStart => exact ⟨L, 0, a, x, Nat.zero_le _, rfl, ha, rfl, fun h => ⟨(hx (by rintro rfl; simp at h)).1, by simp⟩, ⟨hm.below hb1 (Nat.le_refl _), rfl, OffL.of_below hb1 (by have := hm.lt mb (by simp [memBlks]); have := hB mb (by simp [memBlks]); omega), fun b h => .inl h⟩, rfl⟩
    case round =>
      obtain ⟨L1, j, a1, y, hj, rfl, hw1, rfl, hya, hwr, htgt⟩ := hrel
      clear hb1 hm
      obtain ⟨c0, c1, c2⟩ := hwr.mem.cells
      by_cases hlt : j < l.length
      · obtain ⟨rfl, rfl⟩ := hya hlt
        have hlne : l ≠ [] := by rintro rfl; simp at hlt
        obtain ⟨rfl, hbw, hbn, hcell⟩ := hx hlne
        have hsame : wr.heap[b]? = w.heap[b]? := hwr.off.rest b hbw hbn
        have hcell1 : ∀ i (h : i < (l.drop j).length), wr.cell? ⟨b, off + j + i, none⟩ = some (.int .u8 (l.drop j)[i]) := fun i h => by
          have h1 := hcell (j + i) (by rw [List.length_drop] at h; omega)
          simp only [World.cell?, hsame]
          simp only [World.cell?] at h1
          rw [Nat.add_assoc, List.getElem_drop]; exact h1
        have hdl : (l.drop j).length = l.length - j := List.length_drop
        have hDne : l.drop j ≠ [] := by intro e; rw [e] at hdl; simp at hdl; omega
        have hDb : ∀ c ∈ l.drop j, 0 ≤ c ∧ c < 256 := fun c hc => hl c (List.mem_of_mem_drop hc)
        have hDj : ∀ k, (l.drop j).drop k = l.drop (j + k) := fun k => by rw [List.drop_drop]
        rw [writeV_step _ _ hDne] at htgt
        have hE : a + j + (l.length - j : Nat) ≤ 18446744073709551616 := by have := hend.out (by omega); omega
        have hj0 : (0 : Int) ≤ a + j := by omega
        have hcj : l.length - j ≤ cap - j := by omega
        have hw10 := hw1.1
        have hw11 := hw1.2
        generalize l.drop j = D at *
        rw [← hdl] at hE hcj ⊢
        have hD0 : 0 < D.length := by omega
        generalize hA : a + (j : Int) = a1 at *
        replace hA := Lib.hid hA
        replace htgt := Lib.hid htgt
        replace hdl := Lib.hid hdl
        replace hDj := Lib.hid hDj
        clear hDne hj0 hcell hsame
        rcases pg_lookup hwr.mem (a1 / 4096) (by unfold W64 at *; omega) with ⟨hno, hrun⟩ | ⟨p, hp, hpn, hrun⟩
        · obtain ⟨o, hup, hm2⟩ := hwr.mem.add (n := a1 / 4096) ⟨by omega, by omega⟩ hno
          have hwr2 := hwr.add hB hm2
          have hmk := make_bytes wr 4096 4096 (by omega) (by omega) (by omega)
          change (Instr.makeSlice _ _ _).run _ _ = .ok (.slice (some ⟨wr.heap.size, 0, none⟩) 4096 4096) (wr.alloc (.cells (bytesV zpg) 5)) at hmk
          have hp : (⟨a1 / 4096, zpg, wr.heap.size⟩ : Pg) ∈ L1 ++ [⟨a1 / 4096, zpg, wr.heap.size⟩] := by simp
          have hne := fun (W : World) (x : Option Addr) (n c : Nat) => Lib.run_eql_slice_nil (P := Tryd.prog) W 90 5 x n c 0 0 Tryd.underlying90
          have hc2b : (wr.alloc (.cells (bytesV zpg) 5)).cell? ⟨mb, 2, none⟩ = some (.map (some pb)) := cell_lt (bone _ _) c2 (hwr.mem.lt mb (by simp [memBlks]))
          have hb3 : b ≠ pb := fun e => by have := hwr.fresh b hbw hbn; rw [e] at this; exact this (by simp [memBlks])
          have hcell2 : ∀ i (h : i < D.length), (Go.ChangeMaps.setBlock (wr.alloc (.cells (bytesV zpg) 5)) pb o).cell? ⟨b, off + j + i, none⟩ = some (.int .u8 D[i]) := fun i h => by
            have h1 := hcell1 i h
            have h2 : (Go.ChangeMaps.setBlock (wr.alloc (.cells (bytesV zpg) 5)) pb o).heap[b]? = wr.heap[b]? := (setB_other o hb3).trans ((bone wr _).block b (World.block_lt_of_cell? _ _ h1))
            simp only [World.cell?, h2]
            simpa only [World.cell?] using h1
          have hcp := fun ty => copy_page hm2 hp (a1 % 4096).toNat (by omega) b (off + j) (cap - j) D hcell2 ty
          have hpn : Hid ((⟨a1 / 4096, zpg, wr.heap.size⟩ : Pg).n = a1 / 4096) := Lib.hid rfl
          have htgt2 := htgt.out
          have hpe : pgPut ((L1 ++ [⟨a1 / 4096, zpg, wr.heap.size⟩] : List Pg).map Pg.ab) (a1 / 4096) (a1 % 4096).toNat (D.take (min (4096 - (a1 % 4096).toNat) D.length)) = pgPut (L1.map Pg.ab) (a1 / 4096) (a1 % 4096).toNat (D.take (min (4096 - (a1 % 4096).toNat) D.length)) := pgPut_add hno
          rw [← hpe] at htgt2
          clear htgt hpe
          have htgt := Lib.hid htgt2
          clear htgt2
          clear hcell1 hno hm2
          replace hwr := hwr2
          clear hwr2
          generalize hL2 : L1 ++ [⟨a1 / 4096, zpg, wr.heap.size⟩] = L2 at *
          replace hL2 := Lib.hid hL2
          go_wp2_with fail
          have hko : (a1 % 4096).toNat < 4096 := by omega
          have hwp := hwr.put hB hBw hp (o := (a1 % 4096).toNat) (m := D.take (min (4096 - (a1 % 4096).toNat) D.length)) (by rw [List.length_take]; omega) (fun c hc => hDb c (List.mem_of_mem_take hc))
          obtain ⟨r1, r2, r3, r4, r5⟩ := write_left a a1 j b off cap l D _ _ (writeV (L.map Pg.ab) a l) hdl.out hDj.out hA.out hlt hcap hw10 hE (min (4096 - (a1 % 4096).toNat) D.length) (by omega) (by omega) hwp.ab (by rw [hpn.out]; exact htgt.out)
          refine ⟨⟨_, j + (min (4096 - (a1 % 4096).toNat) D.length), _, _, r1, rfl, r2, r3, r4, ⟨hwp.mem, rfl, hwp.off, hwp.blks⟩, r5⟩, ?_⟩
          simp only [lenV]
          omega
        · have hcp := fun ty => copy_page hwr.mem hp (a1 % 4096).toNat (by omega) b (off + j) (cap - j) D hcell1 ty
          replace hpn := Lib.hid hpn
          have hne := fun (W : World) (x : Option Addr) (n c : Nat) => Lib.run_eql_slice_nil (P := Tryd.prog) W 90 5 x n c 0 0 Tryd.underlying90
          go_wp2_with fail
          have hko : (a1 % 4096).toNat < 4096 := by omega
          have hwp := hwr.put hB hBw hp (o := (a1 % 4096).toNat) (m := D.take (min (4096 - (a1 % 4096).toNat) D.length)) (by rw [List.length_take]; omega) (fun c hc => hDb c (List.mem_of_mem_take hc))
          obtain ⟨r1, r2, r3, r4, r5⟩ := write_left a a1 j b off cap l D _ _ (writeV (L.map Pg.ab) a l) hdl.out hDj.out hA.out hlt hcap hw10 hE (min (4096 - (a1 % 4096).toNat) D.length) (by omega) (by omega) hwp.ab (by rw [hpn.out]; exact htgt.out)
          refine ⟨⟨_, j + (min (4096 - (a1 % 4096).toNat) D.length), _, _, r1, rfl, r2, r3, r4, ⟨hwp.mem, rfl, hwp.off, hwp.blks⟩, r5⟩, ?_⟩
          simp only [lenV]
          omega
      · obtain rfl : j = l.length := by omega
        rw [List.drop_length, writeV_nil] at htgt
        have hpos : ¬ 0 < (((l.length - l.length : Nat) : Int)) := by omega
        replace htgt := Lib.hid htgt
        go_wp2_with fail
        go_ret
        exact ⟨rfl, L1, hwr.mem, htgt.out, hwr.off, hwr.blks⟩
  · rw [if_neg hq]
    generalize askV s z a l.length = q at *
    have hq' : (q == 0) = false := by simpa using hq
    go_enter Tryd.func35, Tryd.ntmps35
    go_wp2_with fail
    refine (hk _ hm).mono ?_; rintro e w1 ⟨rfl, hb1⟩
    clear hk
    go_wp2_with fail
    go_ret
    exact ⟨rfl, L, hm.below hb1 (Nat.le_refl _), rfl, OffL.of_below hb1 (by have := hm.lt mb (by simp [memBlks]); have := hB mb (by simp [memBlks]); omega), fun b h => .inl h⟩
end Go.Proofs.YtdlpgonpikflfaaDoor
