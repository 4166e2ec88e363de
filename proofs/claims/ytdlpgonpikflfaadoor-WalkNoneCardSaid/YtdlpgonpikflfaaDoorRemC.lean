/- The reference's memory: putting a word; reading bytes; a word. -/
import Derived.Test.YtdlpgonpikflfaaDoorRemB
import Derived.Test.YtdlpgonpikflfaaDoorAppZ
namespace Go.Proofs.YtdlpgonpikflfaaDoor
open Go Go.RowKit Go.BigFrame Go.Maps

set_option maxRecDepth 20000 in
set_option maxHeartbeats 2000000 in
theorem refPutM_any (rb : Nat) (pv : Value) (s z a x : Int) (L : List Pg) (B : Nat) (w : World) (hm : MemR w rb pv s z L) (ha : W64 a) (hx : W64 x) (hB : ∀ k ∈ refBlks rb pv L, B ≤ k) (hl : L.length ≤ 999000) :
    Calls Tryd.prog 21 #[.pointer (some ⟨rb, 0, none⟩), .int .u64 a, .int .u64 x] w fun e w' => e = .returned (.int .i64 (putE s z a)) ∧ ∃ pv' L', WroteR w w' rb pv pv' s z L L' B (if putE s z a = 0 then writeV (L.map Pg.ab) a (putB x) else L.map Pg.ab) := by
  have hBw : B ≤ w.heap.size := by have := hm.lt rb (mem_refBlks.2 (.inl rfl)); have := hB rb (mem_refBlks.2 (.inl rfl)); omega
  have ha0 := ha.1
  have ha1 := ha.2
  by_cases h8 : a % 8 = 0
  · have hpe : putE s z a = askV s z a 8 := by unfold putE; rw [if_pos h8]
    rw [hpe]
    clear hpe
    generalize hT : (if askV s z a 8 = 0 then writeV (L.map Pg.ab) a (putB x) else L.map Pg.ab) = T
    replace hT := Lib.hid hT
    have hp := refPut_any x w hx
    go_enter Tryd.func21, Tryd.ntmps21
    go_wp2_with fail
    refine hp.mono ?_; rintro e w1 ⟨r, rfl, hown, hb1⟩
    clear hp
    obtain ⟨y, cap, g, rfl, hcap, hg⟩ := hown.open
    have hg' : putB x ≠ [] := by intro e; have := putB_len x; rw [e] at this; simp at this
    obtain ⟨rfl, hgb, hglt, hgc⟩ := hg hg'
    have hm1 := hm.below hb1 (Nat.le_refl _)
    have hgn : g ∉ refBlks rb pv L := fun e => by have := hm.lt g e; omega
    have hw := refWrite_any rb pv s z a L B g 0 cap (some ⟨g, 0, none⟩) (putB x) w1 hm1 ha hB (fun _ => ⟨rfl, hglt, hgn, hgc⟩) (putB_byte x) (by rw [putB_len]; omega) hcap
    have hlen : (((putB x).length : Nat) : Int) = 8 := by rw [putB_len]; rfl
    rw [hlen, hT.out] at hw
    clear hgc hown
    replace hlen := Lib.hid hlen
    go_wp2_with fail
    refine hw.mono ?_; rintro e w2 ⟨rfl, pv', L', hwr⟩
    go_wp2_with fail
    go_ret
    exact ⟨rfl, pv', L', hwr.pre hb1 hBw⟩
  · have hpe : putE s z a = 90 := by unfold putE; rw [if_neg h8]
    rw [hpe, if_neg (by decide)]
    clear hpe
    go_enter Tryd.func21, Tryd.ntmps21
    go_wp2_with fail
    go_ret
    exact ⟨rfl, pv, L, WroteR.stay hm (Below.refl _ _) hBw⟩

/-- The bytes from an address on. -/
def rdB (pg : PG) (a : Int) (n : Nat) : List Int := (List.range n).map fun i : Nat => bt pg (a + (i : Int))
theorem rdB_len (pg : PG) (a : Int) (n : Nat) : (rdB pg a n).length = n := by simp [rdB]
theorem rdB_add (pg : PG) (a : Int) (n m : Nat) : rdB pg a (n + m) = rdB pg a n ++ rdB pg (a + n) m := by
  unfold rdB
  rw [List.range_add, List.map_append, List.map_map]
  congr 1
  apply List.map_congr_left
  intro i _
  simp only [Function.comp]
  congr 1
  omega
theorem rdB_none {pg : PG} {a : Int} {m : Nat} (h : pgFind pg (a / 4096) = none) (hm : (a % 4096).toNat + m ≤ 4096) : rdB pg a m = List.replicate m 0 := by
  apply List.ext_getElem
  · simp [rdB]
  · intro i h1 h2
    have hi : i < m := by simpa [rdB] using h1
    rw [List.getElem_replicate]
    simp only [rdB, List.getElem_map, List.getElem_range]
    unfold bt
    rw [show (a + (i : Int)) / 4096 = a / 4096 by omega, h]
theorem rdB_some {pg : PG} {a : Int} {m : Nat} {bs : List Int} (h : pgFind pg (a / 4096) = some bs) (hl : bs.length = 4096) (hm : (a % 4096).toNat + m ≤ 4096) : rdB pg a m = (bs.drop (a % 4096).toNat).take m := by
  apply List.ext_getElem
  · rw [rdB_len, List.length_take, List.length_drop]; omega
  · intro i h1 h2
    have hi : i < m := by rw [rdB_len] at h1; exact h1
    simp only [rdB, List.getElem_map, List.getElem_range, List.getElem_take, List.getElem_drop]
    unfold bt
    rw [show (a + (i : Int)) / 4096 = a / 4096 by omega, h, show ((a + (i : Int)) % 4096).toNat = (a % 4096).toNat + i by omega]
    show bs.getD _ 0 = _
    rw [List.getD_eq_getElem?_getD, List.getElem?_eq_getElem (by omega)]
    rfl
theorem rdB_byte {pg : PG} (h : PgOk pg) (a : Int) (n : Nat) : ∀ c ∈ rdB pg a n, 0 ≤ c ∧ c < 256 := by
  intro c hc
  obtain ⟨i, _, rfl⟩ := List.mem_map.1 hc
  exact bt_bd h _
/-- A page is looked for. -/
theorem find_any (rb : Nat) (pv : Value) (s z n : Int) (L : List Pg) (w : World) (hm : MemR w rb pv s z L) :
    (∃ p ∈ L, p.n = n ∧ ∃ i : Nat, L[i]? = some p ∧ Calls Tryd.prog 57 #[.pointer (some ⟨rb, 0, none⟩), .int .u64 (n * 4096), .bool false] w fun e w' => e = .returned (.int .i64 i) ∧ w = w') ∨
    ((∀ p ∈ L, p.n ≠ n) ∧ Calls Tryd.prog 57 #[.pointer (some ⟨rb, 0, none⟩), .int .u64 (n * 4096), .bool false] w fun e w' => e = .returned (.int .i64 (-1)) ∧ w = w') := by
  by_cases hx : ∀ p ∈ L, p.n ≠ n
  · exact .inr ⟨hx, find_none rb pv s z n L hx w hm⟩
  · obtain ⟨p, hp, e1⟩ : ∃ p ∈ L, p.n = n := by
      rcases Classical.em (∃ p ∈ L, p.n = n) with h | h
      · exact h
      · exact absurd (fun p hp e => h ⟨p, hp, e⟩) hx
    obtain ⟨i, hi, rfl⟩ := List.getElem_of_mem hp
    exact .inl ⟨L[i], hp, e1, i, List.getElem?_eq_getElem hi, find_there rb pv s z n L i hi e1 false w hm⟩

theorem ownsRow_cast {w : World} {base size n n' : Nat} {E : TypeId} {v : Value} {xs xs' : List Value} (h : w.ownsRow base E size v n xs) (hn : n = n') (hx : xs = xs') : w.ownsRow base E size v n' xs' := by subst hn; subst hx; exact h

set_option maxRecDepth 100000 in
set_option maxHeartbeats 4000000 in
theorem refRead_any (rb : Nat) (pv : Value) (s z a : Int) (n : Nat) (L : List Pg) (w : World) (hm : MemR w rb pv s z L) (ha : W64 a) (hq : askV s z a n = 0) (hn : n ≤ 1048576) :
    Calls Tryd.prog 48 #[.pointer (some ⟨rb, 0, none⟩), .int .u64 a, .int .u64 n] w fun e w' => ∃ r, e = .returned (.tuple #[r, .int .i64 0]) ∧ OwnB w' w.heap.size r (rdB (L.map Pg.ab) a n) ∧ Below w.heap.size w w' := by
  have hk := fun W h => refAsk_any rb pv s z a n L W h ha (by unfold W64; omega)
  have ha0 := ha.1
  have ha1 := ha.2
  have hend := fun h => ask_bd hq h
  rw [hq] at hk
  clear hq
  replace hend := Lib.hid hend
  go_enter Tryd.func48, Tryd.ntmps48
  go_wp2_with fail
  refine (hk _ hm).mono ?_; rintro e w1 ⟨rfl, hb1⟩
  clear hk
  go_wp2_with fail
  go_loopw [9] (fun u wr => ∃ j : Nat, j ≤ n ∧ OwnB wr w.heap.size u (rdB (L.map Pg.ab) a j) ∧ Below w.heap.size w wr) (fun u _ => n - lenV u)
  case atStart => exact ⟨0, Nat.zero_le _, OwnB.nil _ _, hb1⟩
  case round =>
    obtain ⟨j, hj, hown, hB⟩ := hrel
    clear hb1
    obtain ⟨x0, c0, rfl⟩ := ownsRow_slice hown
    have hmr := hm.below hB (Nat.le_refl _)
    have hz := hB.size
    have hlj := rdB_len (L.map Pg.ab) a j
    have hownj : wr.ownsRow w.heap.size 5 1 (.slice x0 j c0) j ((rdB (L.map Pg.ab) a j).map fun x => Value.int .u8 x) := by rw [hlj] at hown; exact ownsRow_cast hown hlj rfl
    rw [hlj] at hown ⊢
    by_cases hlt : j < n
    · have hE : a + (n : Int) ≤ 18446744073709551616 := hend.out (by omega)
      have hj0 : (0 : Int) ≤ a + j := by omega
      have hw : IntKind.u64.wrap (a + (j : Int)) = a + j := by rw [IntKind.wrap_u64]; omega
      have hmul : IntKind.u64.wrap ((a + (j : Int)) / 4096 * 4096) = (a + (j : Int)) / 4096 * 4096 := by rw [IntKind.wrap_u64]; omega
      replace hlj := Lib.hid hlj
      have hf := find_any rb pv s z ((a + (j : Int)) / 4096) L wr hmr
      by_cases hs : (n : Int) - (j : Int) < 4096 - (a + (j : Int)) % 4096
      · skip
        have hR := rdB_add (L.map Pg.ab) a j (n - j)
        obtain ⟨N, hN⟩ : ∃ N, j + (n - j) = N := ⟨_, rfl⟩
        rw [hN] at hR
        replace hN := Lib.hid hN
        have hlR := rdB_len (L.map Pg.ab) (a + (j : Int)) (n - j)
        have hszi : (((n - j) : Nat) : Int) = (n : Int) - (j : Int) := by omega
        have hol := fun r => World.ownsRow.lt hown r
        rcases hf with ⟨p, hp, hpn, i, hip, hf⟩ | ⟨hno, hf⟩
        · have hpl : p.bs.length = 4096 := hm.ok.len p.ab (List.mem_map.2 ⟨p, hp, rfl⟩)
          have hsm := rdB_some (m := n - j) (show pgFind (L.map Pg.ab) ((a + (j : Int)) / 4096) = some p.bs by rw [← hpn]; exact pg_find_some hm.ok hp) hpl (by omega)
          obtain ⟨x2, c2, rfl, hmx, hx2⟩ := hmr.open
          have hil : i < L.length := (List.getElem?_eq_some_iff.1 hip).1
          obtain ⟨g2, rfl, hrow⟩ := hx2 (by rintro rfl; simp at hil)
          obtain ⟨_, d1⟩ := hrow i hil
          have hpi : L[i] = p := (List.getElem?_eq_some_iff.1 hip).2
          rw [hpi] at d1
          obtain ⟨_, _, d2⟩ := hmr.cells
          unfold maxLen at hmx
          have hpc := hmr.page p hp
          have hnews : ∀ (k : Nat) (u : Value), ((rdB (L.map Pg.ab) (a + (j : Int)) (n - j)).map fun x => Value.int .u8 x)[k]? = some u → wr.cell? ((⟨p.blk, ((a + (j : Int)) % 4096).toNat, none⟩ : Addr).add k) = some u := fun k u hk => by
            rw [hsm] at hk
            rw [List.getElem?_map, List.getElem?_take] at hk
            split at hk
            · rename_i hks
              rw [List.getElem?_drop] at hk
              have hadd : (⟨p.blk, ((a + (j : Int)) % 4096).toNat, none⟩ : Addr).add k = ⟨p.blk, ((a + (j : Int)) % 4096).toNat + k, none⟩ := by unfold Addr.add; split <;> simp_all
              rw [hadd]
              simp only [World.cell?, hpc, bytesV]
              rw [← hk]
              simp
            · cases hk
          obtain ⟨i0, hi1, hi2⟩ := Option.map_eq_some_iff.1 infoByte
          rw [Prod.mk.injEq, Prod.mk.injEq] at hi2
          obtain ⟨hz1, hz2, hz3⟩ := hi2
          have hlo : 0 < 4096 - ((a + (j : Int)) % 4096).toNat := by omega
          replace hR := Lib.hid hR
          replace hlR := Lib.hid hlR
          replace hsm := Lib.hid hsm
          replace hpn := Lib.hid hpn
          replace hszi := Lib.hid hszi
          replace hpl := Lib.hid hpl
          clear hrow hx2 hip hpi hpc
          go_wp2_with fail
          refine hf.mono ?_; rintro e w5 ⟨rfl, rfl⟩
          clear hf
          go_wp2_with (at_builtin; refine wpList_append_own_at _ rfl _ _ 90 rfl w.heap.size 5 i0 _ 1 1 Tryd.underlying90 hi1 hz1 hz2 hz3 rfl (by decide) (.slice x0 j c0) j _ rfl hownj ⟨p.blk, ((a + (j : Int)) % 4096).toNat, none⟩ _ _ ((rdB (L.map Pg.ab) (a + (j : Int)) (n - j)).map fun x => Value.int .u8 x) rfl ?_ hnews (bytesV_one _) ?_ ?_ hz ?_; (focus (rw [List.length_map, hlR.out]; omega)); (focus (unfold maxLen; omega)); (focus omega); intro v' w6 hown6 hgrow6 _ _; obtain ⟨x6, c6, rfl⟩ := ownsRow_slice hown6)
          refine ⟨⟨N, by have := hN.out; omega, ?_, ?_⟩, ?_⟩
          · refine ownsRow_cast hown6 (by have := hN.out; rw [rdB_len]; omega) ?_
            rw [hR.out, List.map_append]
          · exact Below.grown hB hgrow6 hz (fun k hk => (hol k hk).1)
          · have := hN.out
            simp only [lenV]; omega
        · have hrep := rdB_none (m := n - j) (pg_find_none hno) (by omega)
          obtain ⟨v', w6, hz6, hown6, hgrow6⟩ := append_zeros (w := wr) w.heap.size (.slice x0 j c0) _ 90 (n - j) .u64 hown (by omega) (by rw [hlj.out]; omega) hz
          rw [hszi, ← hrep, ← hR] at *
          obtain ⟨x6, c6, rfl⟩ := ownsRow_slice hown6
          replace hR := Lib.hid hR
          replace hlR := Lib.hid hlR
          replace hrep := Lib.hid hrep
          replace hszi := Lib.hid hszi
          go_wp2_with fail
          refine hf.mono ?_; rintro e w5 ⟨rfl, rfl⟩
          clear hf
          go_wp2_with (at_builtin; refine Lib.wpList_append_run _ rfl _ _ _ _ rfl _ _ rfl rfl _ _ hz6 ?_)
          refine ⟨⟨N, by have := hN.out; omega, hown6, ?_⟩, ?_⟩
          · exact Below.grown hB hgrow6 hz (fun k hk => (hol k hk).1)
          · have := hN.out
            simp only [lenV]; rw [rdB_len]; omega
      · skip
        have hR := rdB_add (L.map Pg.ab) a j (4096 - ((a + (j : Int)) % 4096).toNat)
        obtain ⟨N, hN⟩ : ∃ N, j + (4096 - ((a + (j : Int)) % 4096).toNat) = N := ⟨_, rfl⟩
        rw [hN] at hR
        replace hN := Lib.hid hN
        have hlR := rdB_len (L.map Pg.ab) (a + (j : Int)) (4096 - ((a + (j : Int)) % 4096).toNat)
        have hszi : (((4096 - ((a + (j : Int)) % 4096).toNat) : Nat) : Int) = 4096 - (a + (j : Int)) % 4096 := by omega
        have hol := fun r => World.ownsRow.lt hown r
        rcases hf with ⟨p, hp, hpn, i, hip, hf⟩ | ⟨hno, hf⟩
        · have hpl : p.bs.length = 4096 := hm.ok.len p.ab (List.mem_map.2 ⟨p, hp, rfl⟩)
          have hsm := rdB_some (m := 4096 - ((a + (j : Int)) % 4096).toNat) (show pgFind (L.map Pg.ab) ((a + (j : Int)) / 4096) = some p.bs by rw [← hpn]; exact pg_find_some hm.ok hp) hpl (by omega)
          obtain ⟨x2, c2, rfl, hmx, hx2⟩ := hmr.open
          have hil : i < L.length := (List.getElem?_eq_some_iff.1 hip).1
          obtain ⟨g2, rfl, hrow⟩ := hx2 (by rintro rfl; simp at hil)
          obtain ⟨_, d1⟩ := hrow i hil
          have hpi : L[i] = p := (List.getElem?_eq_some_iff.1 hip).2
          rw [hpi] at d1
          obtain ⟨_, _, d2⟩ := hmr.cells
          unfold maxLen at hmx
          have hpc := hmr.page p hp
          have hnews : ∀ (k : Nat) (u : Value), ((rdB (L.map Pg.ab) (a + (j : Int)) (4096 - ((a + (j : Int)) % 4096).toNat)).map fun x => Value.int .u8 x)[k]? = some u → wr.cell? ((⟨p.blk, ((a + (j : Int)) % 4096).toNat, none⟩ : Addr).add k) = some u := fun k u hk => by
            rw [hsm] at hk
            rw [List.getElem?_map, List.getElem?_take] at hk
            split at hk
            · rename_i hks
              rw [List.getElem?_drop] at hk
              have hadd : (⟨p.blk, ((a + (j : Int)) % 4096).toNat, none⟩ : Addr).add k = ⟨p.blk, ((a + (j : Int)) % 4096).toNat + k, none⟩ := by unfold Addr.add; split <;> simp_all
              rw [hadd]
              simp only [World.cell?, hpc, bytesV]
              rw [← hk]
              simp
            · cases hk
          obtain ⟨i0, hi1, hi2⟩ := Option.map_eq_some_iff.1 infoByte
          rw [Prod.mk.injEq, Prod.mk.injEq] at hi2
          obtain ⟨hz1, hz2, hz3⟩ := hi2
          have hlo : 0 < 4096 - ((a + (j : Int)) % 4096).toNat := by omega
          replace hR := Lib.hid hR
          replace hlR := Lib.hid hlR
          replace hsm := Lib.hid hsm
          replace hpn := Lib.hid hpn
          replace hszi := Lib.hid hszi
          replace hpl := Lib.hid hpl
          clear hrow hx2 hip hpi hpc
          go_wp2_with fail
          refine hf.mono ?_; rintro e w5 ⟨rfl, rfl⟩
          clear hf
          go_wp2_with (at_builtin; refine wpList_append_own_at _ rfl _ _ 90 rfl w.heap.size 5 i0 _ 1 1 Tryd.underlying90 hi1 hz1 hz2 hz3 rfl (by decide) (.slice x0 j c0) j _ rfl hownj ⟨p.blk, ((a + (j : Int)) % 4096).toNat, none⟩ _ _ ((rdB (L.map Pg.ab) (a + (j : Int)) (4096 - ((a + (j : Int)) % 4096).toNat)).map fun x => Value.int .u8 x) rfl ?_ hnews (bytesV_one _) ?_ ?_ hz ?_; (focus (rw [List.length_map, hlR.out]; omega)); (focus (unfold maxLen; omega)); (focus omega); intro v' w6 hown6 hgrow6 _ _; obtain ⟨x6, c6, rfl⟩ := ownsRow_slice hown6)
          refine ⟨⟨N, by have := hN.out; omega, ?_, ?_⟩, ?_⟩
          · refine ownsRow_cast hown6 (by have := hN.out; rw [rdB_len]; omega) ?_
            rw [hR.out, List.map_append]
          · exact Below.grown hB hgrow6 hz (fun k hk => (hol k hk).1)
          · have := hN.out
            simp only [lenV]; omega
        · have hrep := rdB_none (m := 4096 - ((a + (j : Int)) % 4096).toNat) (pg_find_none hno) (by omega)
          obtain ⟨v', w6, hz6, hown6, hgrow6⟩ := append_zeros (w := wr) w.heap.size (.slice x0 j c0) _ 90 (4096 - ((a + (j : Int)) % 4096).toNat) .u64 hown (by omega) (by rw [hlj.out]; omega) hz
          rw [hszi, ← hrep, ← hR] at *
          obtain ⟨x6, c6, rfl⟩ := ownsRow_slice hown6
          replace hR := Lib.hid hR
          replace hlR := Lib.hid hlR
          replace hrep := Lib.hid hrep
          replace hszi := Lib.hid hszi
          go_wp2_with fail
          refine hf.mono ?_; rintro e w5 ⟨rfl, rfl⟩
          clear hf
          go_wp2_with (at_builtin; refine Lib.wpList_append_run _ rfl _ _ _ _ rfl _ _ rfl rfl _ _ hz6 ?_)
          refine ⟨⟨N, by have := hN.out; omega, hown6, ?_⟩, ?_⟩
          · exact Below.grown hB hgrow6 hz (fun k hk => (hol k hk).1)
          · have := hN.out
            simp only [lenV]; rw [rdB_len]; omega
    · obtain rfl : j = n := by omega
      go_wp2_with fail
      go_ret2
      exact ⟨_, rfl, hown, hB⟩
end Go.Proofs.YtdlpgonpikflfaaDoor
