/- Put's writing: the channels, the end. -/
import Derived.Test.YtffdfeekpfmbeaaGreatValidChecksP29
import Derived.Test.YtffdfeekpfmbeaaGreatValidChecksP38
import Derived.Test.YtffdfeekpfmbeaaGreatValidChecksP40
import Derived.Test.YtffdfeekpfmbeaaGreatValidChecksP41
namespace Go.Proofs.YtffdfeekpfmbeaaGreat
open Go Go.RowKit Go.BigFrame

set_option maxRecDepth 100000 in
set_option maxHeartbeats 2000000 in
theorem putc6 (u2 u3 u4 u5 u6 u7 u8 u9 u10 u11 u12 u13 u14 u15 u16 u17 u18 u19 u20 u21 u22 u23 u24 u25 u26 u27 u28 u29 u30 u31 u32 u33 u34 u35 u36 u37 u38 u39 u40 u41 u42 u43 u44 u45 u46 u47 u48 u49 u50 u51 u52 u53 u54 u55 u56 u57 u58 u59 u60 u61 u62 u63 u64 u65 u66 u67 u68 u69 u70 u71 u72 u73 u74 u75 u76 u77 u78 u79 u80 u81 u82 u83 u84 u85 u86 u87 u88 u89 u90 u91 u92 u93 u94 : Value) {w0 w W : World} {n : Nat} {v : Value} {ver : Int} {vg vc : Value} {t : Bool} (h : PIn w0 w W n v ver vg vc) (hn : n ≤ 65536) (ht : t = true) :
    (tailC 6 (Tryz.f50.body.getD .skip)).wp Tryz.prog (bodyPost Tryz.prog Tryz.f50 (PPost w0 w t)) ⟨List.toArray (.pointer (some ⟨w0.heap.size, 0, none⟩) :: .pointer (some ⟨w0.heap.size + 2, 0, none⟩) :: u2 :: u3 :: u4 :: u5 :: u6 :: u7 :: u8 :: u9 :: u10 :: u11 :: u12 :: u13 :: u14 :: u15 :: u16 :: u17 :: u18 :: u19 :: u20 :: u21 :: u22 :: u23 :: u24 :: u25 :: u26 :: u27 :: u28 :: u29 :: u30 :: u31 :: u32 :: u33 :: u34 :: u35 :: u36 :: u37 :: u38 :: u39 :: u40 :: u41 :: u42 :: u43 :: u44 :: u45 :: u46 :: u47 :: u48 :: u49 :: u50 :: u51 :: u52 :: u53 :: u54 :: u55 :: u56 :: u57 :: u58 :: u59 :: u60 :: u61 :: u62 :: u63 :: u64 :: u65 :: u66 :: u67 :: u68 :: u69 :: u70 :: u71 :: u72 :: u73 :: u74 :: u75 :: u76 :: u77 :: u78 :: u79 :: u80 :: u81 :: u82 :: u83 :: u84 :: u85 :: u86 :: u87 :: u88 :: u89 :: u90 :: u91 :: u92 :: u93 :: u94 :: []), []⟩ W := by
  have c1 := h.ptr
  have c2 := h.wr.cell
  obtain ⟨a, c, hv⟩ := h.wr.own.slice
  rw [hv] at c2
  have f3 : decide ((n : Int) ≤ 65536) = true := decide_eq_true (by omega)
  replace ht := Lib.hid ht
  clear hv
  conv => arg 2; whnf
  go_wp2_with fail
  refine (cmust_any _ _ _ _).mono ?_; rintro e w1 ⟨rfl, rfl⟩
  go_wp2_with fail
  go_end0
  exact h.yes ht.out
def endAt (c : ChV) (k : Nat) : EndV := if k = 0 then c.e0 else c.e1
theorem chB_no {c : ChV} {k : Nat} (hk : k < 2) (h : eOk (endAt c k) = false) : chB c = false := by
  unfold chB
  obtain rfl | rfl : k = 0 ∨ k = 1 := by omega
  · rw [show eOk c.e0 = false from h]; rfl
  · rw [show eOk c.e1 = false from h, Bool.and_false]
theorem chB_yes {c : ChV} (h : ∀ k, k < 2 → eOk (endAt c k) = true) : chB c = true := by
  unfold chB
  rw [show eOk c.e0 = true from h 0 (by decide), show eOk c.e1 = true from h 1 (by decide)]; rfl
theorem end_at (c : ChV) (k : Nat) (hk : k < 2) (w : World) : (Instr.index 74 (.agg #[.int .i64 c.e0.g, .int .i64 c.e0.perm, .int .u64 c.e0.ipa, .int .i64 c.e1.g, .int .i64 c.e1.perm, .int .u64 c.e1.ipa]) (.int .i64 k)).run Tryz.prog w = .ok (.agg #[.int .i64 (endAt c k).g, .int .i64 (endAt c k).perm, .int .u64 (endAt c k).ipa]) w := by
  obtain rfl | rfl : k = 0 ∨ k = 1 := by omega
  · kernel_rfl
  · kernel_rfl
set_option maxRecDepth 100000 in
set_option maxHeartbeats 8000000 in
theorem putc5 (u2 u3 u4 u5 u6 u7 u8 u9 u10 u11 u12 u13 u14 u15 u16 u17 u18 u19 u20 u21 u22 u23 u24 u25 u26 u27 u28 u29 u30 u31 u32 u33 u34 u35 u36 u37 u38 u39 u40 u41 u42 u43 u44 u45 u46 u47 u48 u49 u50 u51 u52 u53 u54 u55 u56 u57 u58 u59 u60 u61 u62 u63 u64 u65 u66 u67 u68 u69 u70 u71 u72 u73 u74 u75 u76 u77 u78 u79 u80 u81 u82 u83 u84 u85 u86 u87 u88 u89 u90 u91 u92 u93 u94 : Value) {w0 w W : World} {n : Nat} {v : Value} {ver : Int} {vg vc : Value} {t : Bool} {chs : List ChV} (h : PIn w0 w W n v ver vg vc) (hn : n ≤ 60000) (hc : RowC w0 vc chs) (hl : chs.length ≤ 32) (ht : t = chs.all chB) :
    (tailC 5 (Tryz.f50.body.getD .skip)).wp Tryz.prog (bodyPost Tryz.prog Tryz.f50 (PPost w0 w t)) ⟨List.toArray (.pointer (some ⟨w0.heap.size, 0, none⟩) :: .pointer (some ⟨w0.heap.size + 2, 0, none⟩) :: u2 :: u3 :: u4 :: u5 :: u6 :: u7 :: u8 :: u9 :: u10 :: u11 :: u12 :: u13 :: u14 :: u15 :: u16 :: u17 :: u18 :: u19 :: u20 :: u21 :: u22 :: u23 :: u24 :: u25 :: u26 :: u27 :: u28 :: u29 :: u30 :: u31 :: u32 :: u33 :: u34 :: u35 :: u36 :: u37 :: u38 :: u39 :: u40 :: u41 :: u42 :: u43 :: u44 :: u45 :: u46 :: u47 :: u48 :: u49 :: u50 :: u51 :: u52 :: u53 :: u54 :: u55 :: u56 :: u57 :: u58 :: u59 :: u60 :: u61 :: u62 :: u63 :: u64 :: u65 :: u66 :: u67 :: u68 :: u69 :: u70 :: u71 :: u72 :: u73 :: u74 :: u75 :: u76 :: u77 :: u78 :: u79 :: u80 :: u81 :: u82 :: u83 :: u84 :: u85 :: u86 :: u87 :: u88 :: u89 :: u90 :: u91 :: u92 :: u93 :: u94 :: []), []⟩ W := by
  obtain ⟨qa, qc, rfl, hq3, hq4, hq5⟩ := hc
  have c2 := h.cell.2.2
  have hno : ∀ (k : Nat) (hk : k < chs.length), chB chs[k] = false → t = false := fun k hk h => ht.trans (all_false hk h)
  have hyes : (∀ (k : Nat) (hk : k < chs.length), chB chs[k] = true) → t = true := fun h => ht.trans (all_true' h)
  clear ht
  conv => arg 2; whnf
  go_wp2_with fail
  go_loopw [56] (fun i wr => ∃ (j : Nat) (v' : Value), j ≤ chs.length ∧ i = .int .i64 j ∧ PIn w0 w wr (n + 40 * j) v' ver vg (.slice qa chs.length qc) ∧ ∀ (k : Nat) (hk : k < chs.length), k < j → chB chs[k] = true) (fun i _ => chs.length - (intOf i).toNat)
  case atStart => exact ⟨0, v, Nat.zero_le _, rfl, h, fun k _ hk => by omega⟩
  case round =>
    obtain ⟨j, v', hj, rfl, hG, hall⟩ := hrel
    by_cases hlt : j < chs.length
    · obtain ⟨b, off, rfl, hbl, hcl⟩ := hq5 (by intro e; rw [e] at hlt; simp at hlt)
      obtain ⟨cs, ⟨rfl, h64⟩, hcsl, hcell⟩ := hcl j hlt
      have p0 := cell_lt hG.bl (hcell 0 _ rfl) hbl
      have p1 := cell_lt hG.bl (hcell 1 _ rfl) hbl
      have p2 := cell_lt hG.bl (hcell 2 _ rfl) hbl
      have p3 := cell_lt hG.bl (hcell 3 _ rfl) hbl
      have p4 := cell_lt hG.bl (hcell 4 _ rfl) hbl
      have p5 := cell_lt hG.bl (hcell 5 _ rfl) hbl
      have p6 := cell_lt hG.bl (hcell 6 _ rfl) hbl
      have p7 := cell_lt hG.bl (hcell 7 _ rfl) hbl
      simp only [Nat.add_zero] at p0
      have hnk := hno j hlt
      have hyk : chB chs[j] = true → ∀ (k : Nat) (hk : k < chs.length), k < j + 1 → chB chs[k] = true := fun h k hk h2 => by
        by_cases e : k = j
        · subst e; exact h
        · exact hall k hk (by omega)
      clear hall hno hyes hcl hcell hq5 hcsl
      generalize chs[j] = q at *
      replace hnk := Lib.hid hnk
      replace hyk := Lib.hid hyk
      obtain ⟨V, hV, hVz, hVb, hVc⟩ := eight_new wr (.int .u64 q.pa) (.int .u64 q.sz) (.int .i64 q.e0.g) (.int .i64 q.e0.perm) (.int .u64 q.e0.ipa) (.int .i64 q.e1.g) (.int .i64 q.e1.perm) (.int .u64 q.e1.ipa) 76
      have hGV := hG.then hVb
      have hwbV : wr.heap.size ≠ w0.heap.size + 1 := by have := hG.B; omega
      have hovV : v'.ownBlock ≠ some wr.heap.size := fun e => by have := (hG.wr.own.lt _ e).2; omega
      have hVlt : wr.heap.size < V.heap.size := by omega
      have hrow : RowV (V.alloc (.cells #[.int .u64 q.pa, .int .u64 q.sz] 22)) (.slice (some ⟨V.heap.size, 0, none⟩) 2 2) ([q.pa, q.sz].map (Value.int .u64)) := RowV.lit V _ _
      obtain ⟨V2, hV2⟩ : ∃ V2, V2 = V.alloc (.cells #[.int .u64 q.pa, .int .u64 q.sz] 22) := ⟨_, rfl⟩
      have hb2 : Below V.heap.size V V2 := by rw [hV2]; exact bone _ _
      rw [← hV2] at hrow
      have hG2 := hGV.then hb2
      have hcall := eight_any (w0.heap.size + 1) w0.heap.size _ v' _ [q.pa, q.sz] V2 hG2.wr hrow ⟨by omega, by simp⟩ hG2.le (by omega)
      have hkc : ∀ (j : Nat) (u : Value), #[.int .u64 q.pa, .int .u64 q.sz, .int .i64 q.e0.g, .int .i64 q.e0.perm, .int .u64 q.e0.ipa, .int .i64 q.e1.g, .int .i64 q.e1.perm, .int .u64 q.e1.ipa][j]? = some u → V2.cell? ⟨wr.heap.size, j, none⟩ = some u := fun j u hu => cell_lt hb2 (hVc j u hu) hVlt
      have hz2 := hb2.size
      have hpt := hGV.ptr
      clear hrow
      replace hVc := Lib.hid hVc
      replace hV2 := Lib.hid hV2
      replace hV := Lib.hid hV
      replace hVz := Lib.hid hVz
      replace hkc := Lib.hid hkc
      go_upto_region 12 with fail
      rw [← hV.out]
      have d0 := hVc.out 0 _ rfl
      have d1 := hVc.out 1 _ rfl
      go_wp2_with fail
      rw [← hV2.out]
      refine hcall.mono ?_; rintro e W' ⟨vx, rfl, hw', ht'⟩
      have hG3 := hG2.wt hw' ht'
      have hke := (ht'.keep (Nat.lt_of_lt_of_le hVlt hz2) hwbV hovV).1
      have d2 := heapc hke (hkc.out 2 _ rfl)
      have d3 := heapc hke (hkc.out 3 _ rfl)
      have d4 := heapc hke (hkc.out 4 _ rfl)
      have d5 := heapc hke (hkc.out 5 _ rfl)
      have d6 := heapc hke (hkc.out 6 _ rfl)
      have d7 := heapc hke (hkc.out 7 _ rfl)
      clear d0 d1 hVc hcall hV hV2 p0 p1 p2 p3 p4 p5 p6 p7 hw' ht' hke hkc hVb hb2 hGV hG2 hpt
      obtain ⟨wo, rfl⟩ : ∃ wo, wo = wr := ⟨_, rfl⟩
      have hei := fun k hk => end_at q k hk
      replace hei := Lib.hid hei
      go_wp2_with fail
      go_loopw [69] (fun i wr => ∃ (k : Nat) (v2 : Value), k ≤ 2 ∧ i = .int .i64 k ∧ PIn w0 w wr (n + 40 * j + 16 + 12 * k) v2 ver vg (.slice (some ⟨b, off, none⟩) chs.length qc) ∧ ∀ m, m < k → eOk (endAt q m) = true) (fun i _ => 2 - (intOf i).toNat)
      case atStart => exact ⟨0, vx, Nat.zero_le _, rfl, hG3, fun m hm => by omega⟩
      case round =>
        clear hG3 hG d2 d3 d4 d5 d6 d7
        obtain ⟨k, v2, hk, rfl, hG, hall⟩ := hrel
        by_cases hk2 : k < 2
        · have i0 := hei.out k hk2
          have hkn : eOk (endAt q k) = false → t = false := fun h => hnk.out (chB_no hk2 h)
          have hky : eOk (endAt q k) = true → ∀ m, m < k + 1 → eOk (endAt q m) = true := fun h m hm => by
            by_cases e : m = k
            · subst e; exact h
            · exact hall m (by omega)
          clear hall hei
          generalize endAt q k = x at *
          have hxe : eOk x = (decide (0 ≤ x.g ∧ x.g ≤ 65535) && decide (0 ≤ x.perm ∧ x.perm ≤ 7)) := rfl
          replace hkn := Lib.hid hkn
          replace hky := Lib.hid hky
          replace hxe := Lib.hid hxe
          obtain ⟨V, hV, hVz, hVb, v1, v2', v3⟩ := three_new wr (.int .i64 x.g) (.int .i64 x.perm) (.int .u64 x.ipa) 73
          have hGV := hG.then hVb
          have hlG := hG.B
          have hpV := hGV.ptr
          have hVlt : wr.heap.size < V.heap.size := by omega
          replace hVz := Lib.hid hVz
          replace hV := Lib.hid hV
          go_upto_region 16 with fail
          rw [← hV.out]
          clear hV
          refine region_ordP (fun z => ∃ X : Held2 (w0.heap.size + 2) wr.heap.size V, z = X.x) [([0, 1, 2, 4, 5], 3), ([], 6), ([], 7), ([], 8)] [] (by kernel_rfl) (by kernel_rfl) (by kernel_rfl) (by kernel_rfl) ⟨⟨V.drew, rfl, rfl⟩, rfl⟩ (fun _ _ d _ _ h => by cases d <;> exact h) ?_
          simp only [List.map_cons, List.map_nil, List.filterMap_cons, List.filterMap_nil, List.getElem?_cons_succ, List.getElem?_cons_zero]
          have y0 := held2_cell (c := wr.heap.size) (w0 := V) hpV
          have y1 := held2_cell' (b := w0.heap.size + 2) (w0 := V) v1
          have y2 := held2_cell' (b := w0.heap.size + 2) (w0 := V) v2'
          have hbD : Below V.heap.size V V.drew := (Below.refl _ _).drew
          have hGD := hGV.then hbD
          refine ordP_step ?_
          repeat (change wpQuiet _ _ _ _ (List.cons _ _) _; go_big_quiet_step (fail))
          refine wpQuiet_nil ?_
          intro Q₁ hQ₁ hQp
          simp only [Option.toList]
          go_wp2_with fail
          refine (small_any _ _ _).mono ?_; rintro e w1 ⟨he, rfl⟩
          by_cases h1 : 0 ≤ x.g ∧ x.g ≤ 65535
          case neg =>
            rw [decide_eq_false h1] at he
            obtain ⟨p, z, hz, rfl⟩ := he
            exact hQp _ _ _ ⟨rfl, hGD.no (hkn.out (by rw [hxe.out, decide_eq_false h1]; rfl)) hz⟩
          rw [decide_eq_true h1] at he
          obtain rfl : e = _ := he
          go_wp2_with fail
          refine hQ₁ _ _ ⟨⟨V.drew, rfl, rfl⟩, rfl⟩ ?_
          clear hQ₁ hQp Q₁
          refine ordP_step ?_
          refine wpQuiet_nil ?_
          intro Q₁ hQ₁ hQp
          simp only [Option.toList]
          go_wp2_with fail
          refine (small_any _ _ _).mono ?_; rintro e w1 ⟨he, rfl⟩
          by_cases h2 : 0 ≤ x.perm ∧ x.perm ≤ 7
          case neg =>
            rw [decide_eq_false h2] at he
            obtain ⟨p, z, hz, rfl⟩ := he
            exact hQp _ _ _ ⟨rfl, hGD.no (hkn.out (by rw [hxe.out, decide_eq_false h2, Bool.and_false])) hz⟩
          rw [decide_eq_true h2] at he
          obtain rfl : e = _ := he
          go_wp2_with fail
          refine hQ₁ _ _ ⟨⟨V.drew, rfl, rfl⟩, rfl⟩ ?_
          clear hQ₁ hQp Q₁
          refine ordP_step ?_
          refine wpQuiet_nil ?_
          intro Q₁ hQ₁ hQp
          simp only [Option.toList]
          go_wp2_with fail
          have hbA : Below V.heap.size V (V.alloc (.cells #[.int .i64 x.g, .int .i64 x.perm] 3)).drew := (bone V _).drew
          have hhA := hbA.block wr.heap.size hVlt
          have hhB := hbA.block (w0.heap.size + 2) (by omega)
          have hrow : RowV (V.alloc (.cells #[.int .i64 x.g, .int .i64 x.perm] 3)).drew (.slice (some ⟨V.heap.size, 0, none⟩) 2 2) ([x.g, x.perm].map (Value.int .i64)) := (RowV.lit V #[.int .i64 x.g, .int .i64 x.perm] _).below (Below.refl _ _).drew
          refine hQ₁ _ _ ⟨⟨_, hhB, hhA⟩, rfl⟩ ?_
          clear hQ₁ hQp Q₁
          generalize (V.alloc (.cells #[.int .i64 x.g, .int .i64 x.perm] 3)).drew = V2 at *
          have hG2 := hGV.then hbA
          refine ordP_step ?_
          refine wpQuiet_nil ?_
          intro Q₁ hQ₁ hQp
          simp only [Option.toList]
          have hcall := two_any (w0.heap.size + 1) w0.heap.size _ v2 _ [x.g, x.perm] V2 hG2.wr hrow ⟨by omega, by simp⟩ hG2.le (by omega) (fun b off c e => by
            injection e with e
            injection e with e
            injection e with e
            refine ⟨by omega, fun e2 => ?_⟩
            have := (hGV.wr.own.lt _ e2).2
            omega)
          have hV2lt := hbA.size
          have hwbV : wr.heap.size ≠ w0.heap.size + 1 := by omega
          have hovV : v2.ownBlock ≠ some wr.heap.size := fun e => by have := (hG.wr.own.lt _ e).2; omega
          have hovB : v2.ownBlock ≠ some (w0.heap.size + 2) := fun e => by have := hG.own _ e; have := hG.sz; omega
          have v3' := cell_lt hbA v3 hVlt
          clear hrow hGD hbD v1 v2' v3 y0 y1 y2
          go_wp2_with fail
          refine hcall.mono ?_; rintro e W' ⟨v4, rfl, hw', ht'⟩
          have hG3 := hG2.wt hw' ht'
          have hkp := (ht'.keep (Nat.lt_of_lt_of_le hVlt hV2lt) hwbV hovV).1
          have hkq := (ht'.keep (b := w0.heap.size + 2) (by omega) (by omega) hovB).1
          have v5 := heapc hkp v3'
          clear hcall hw' ht' v3'
          go_wp2_with fail
          refine hQ₁ _ _ ⟨⟨_, hkq.trans hhB, hkp.trans hhA⟩, rfl⟩ ?_
          clear hQ₁ hQp Q₁ hhA hhB hkp hkq
          refine ordP_last ?_
          refine wpQuiet_nil ?_
          have hp3 := hG3.ptr
          have hrow : RowV (W'.alloc (.cells #[.int .u64 x.ipa] 22)) (.slice (some ⟨W'.heap.size, 0, none⟩) 1 1) ([x.ipa].map (Value.int .u64)) := RowV.lit W' _ _
          obtain ⟨V4, hV4⟩ : ∃ V4, V4 = W'.alloc (.cells #[.int .u64 x.ipa] 22) := ⟨_, rfl⟩
          have hb4 : Below W'.heap.size W' V4 := by rw [hV4]; exact bone _ _
          rw [← hV4] at hrow
          have hG4 := hG3.then hb4
          have hcall := eight_any (w0.heap.size + 1) w0.heap.size _ v4 _ [x.ipa] V4 hG4.wr hrow ⟨by simp; omega, by simp⟩ hG4.le (by omega)
          clear hrow
          replace hV4 := Lib.hid hV4
          go_wp2_with fail
          rw [← hV4.out]
          refine hcall.mono ?_; rintro e W5 ⟨v6, rfl, hw', ht'⟩
          have hG5 := hG4.wt hw' ht'
          clear hcall hw' ht' hV4 v5 hp3
          go_wp2_with fail
          have e1 : n + 40 * j + 16 + 12 * (k + 1) = n + 40 * j + 16 + 12 * k + 2 * [x.g, x.perm].length + 8 * [x.ipa].length := by simp; omega
          exact ⟨⟨k + 1, v6, by omega, by go_num, by rw [e1]; exact hG5, hky.out (by rw [hxe.out, decide_eq_true h1, decide_eq_true h2]; rfl)⟩, by simp [intOf]; omega⟩
        · obtain rfl : k = 2 := by omega
          have hq := hyk.out (chB_yes hall)
          clear hall hnk hei hyk
          replace hq := Lib.hid hq
          go_wp2_with fail
          exact ⟨⟨j + 1, v2, by omega, by go_num, by rw [show n + 40 * (j + 1) = n + 40 * j + 16 + 12 * 2 by omega]; exact hG, hq.out⟩, by simp [intOf]; omega⟩
    · obtain rfl : j = chs.length := by omega
      have ht := hyes (fun k hk => hall k hk hk)
      clear hyes hno hall
      replace ht := Lib.hid ht
      go_upto_region 999 with ((with_reducible show Code.wp _ _ (bodyPost _ _ _) _ _); exact putc6 _ _ _ _ _ _ _ _ _ _ _ _ _ _ _ _ _ _ _ _ _ _ _ _ _ _ _ _ _ _ _ _ _ _ _ _ _ _ _ _ _ _ _ _ _ _ _ _ _ _ _ _ _ _ _ _ _ _ _ _ _ _ _ _ _ _ _ _ _ _ _ _ _ _ _ _ _ _ _ _ _ _ _ _ _ _ _ _ _ _ _ _ _ hG (by omega) ht.out)
end Go.Proofs.YtffdfeekpfmbeaaGreat
/- Put's writing: the guests, the head. -/
namespace Go.Proofs.YtffdfeekpfmbeaaGreat
open Go Go.RowKit Go.BigFrame

set_option maxRecDepth 100000 in
set_option maxHeartbeats 8000000 in
theorem putc4 (u2 u3 u4 u5 u6 u7 u8 u9 u10 u11 u12 u13 u14 u15 u16 u17 u18 u19 u20 u21 u22 u23 u24 u25 u26 u27 u28 u29 u30 u31 u32 u33 u34 u35 u36 u37 u38 u39 u40 u41 u42 u43 u44 u45 u46 u47 u48 u49 u50 u51 u52 u53 u54 u55 u56 u57 u58 u59 u60 u61 u62 u63 u64 u65 u66 u67 u68 u69 u70 u71 u72 u73 u74 u75 u76 u77 u78 u79 u80 u81 u82 u83 u84 u85 u86 u87 u88 u89 u90 u91 u92 u93 u94 : Value) {w0 w W : World} {n : Nat} {v : Value} {ver : Int} {vg vc : Value} {t : Bool} {gs : List GuestV} {chs : List ChV} (h : PIn w0 w W n v ver vg vc) (hn : n ≤ 16) (hg : RowG w0 vg gs) (hc : RowC w0 vc chs) (hgl : gs.length ≤ 16) (hl : chs.length ≤ 32) (ht : t = (gs.all gOk && chs.all chB)) (hns : ∀ g ∈ gs, g.name.size ≤ 1000000) :
    (tailC 4 (Tryz.f50.body.getD .skip)).wp Tryz.prog (bodyPost Tryz.prog Tryz.f50 (PPost w0 w t)) ⟨List.toArray (.pointer (some ⟨w0.heap.size, 0, none⟩) :: .pointer (some ⟨w0.heap.size + 2, 0, none⟩) :: u2 :: u3 :: u4 :: u5 :: u6 :: u7 :: u8 :: u9 :: u10 :: u11 :: u12 :: u13 :: u14 :: u15 :: u16 :: u17 :: u18 :: u19 :: u20 :: u21 :: u22 :: u23 :: u24 :: u25 :: u26 :: u27 :: u28 :: u29 :: u30 :: u31 :: u32 :: u33 :: u34 :: u35 :: u36 :: u37 :: u38 :: u39 :: u40 :: u41 :: u42 :: u43 :: u44 :: u45 :: u46 :: u47 :: u48 :: u49 :: u50 :: u51 :: u52 :: u53 :: u54 :: u55 :: u56 :: u57 :: u58 :: u59 :: u60 :: u61 :: u62 :: u63 :: u64 :: u65 :: u66 :: u67 :: u68 :: u69 :: u70 :: u71 :: u72 :: u73 :: u74 :: u75 :: u76 :: u77 :: u78 :: u79 :: u80 :: u81 :: u82 :: u83 :: u84 :: u85 :: u86 :: u87 :: u88 :: u89 :: u90 :: u91 :: u92 :: u93 :: u94 :: []), []⟩ W := by
  obtain ⟨qa, qc, rfl, hq3, hq4, hq5⟩ := hg
  have c1 := h.cell.2.1
  have hno : ∀ (k : Nat) (hk : k < gs.length), gOk gs[k] = false → t = false := fun k hk h => by rw [ht, all_false hk h]; rfl
  have hyes : (∀ (k : Nat) (hk : k < gs.length), gOk gs[k] = true) → t = chs.all chB := fun h => by rw [ht, all_true' h]; rfl
  clear ht
  conv => arg 2; whnf
  go_wp2_with fail
  go_loopw [45] (fun i wr => ∃ (j m : Nat) (v' : Value), j ≤ gs.length ∧ i = .int .i64 j ∧ PIn w0 w wr m v' ver (.slice qa gs.length qc) vc ∧ m ≤ n + 1596 * j ∧ ∀ (k : Nat) (hk : k < gs.length), k < j → gOk gs[k] = true) (fun i _ => gs.length - (intOf i).toNat)
  case atStart => exact ⟨0, n, v, Nat.zero_le _, rfl, h, Nat.le_refl _, fun k _ hk => by omega⟩
  case round =>
    obtain ⟨j, m, v', hj, rfl, hG, hm, hall⟩ := hrel
    by_cases hlt : j < gs.length
    · obtain ⟨b, off, rfl, hbl, hcl⟩ := hq5 (by intro e; rw [e] at hlt; simp at hlt)
      obtain ⟨cs, hR, hcsl, hcell⟩ := hcl j hlt
      have hce : ∀ i u, cs[i]? = some u → wr.cell? ⟨b, off + j * 79 + i, none⟩ = some u := fun i u hu => cell_lt hG.bl (hcell i u hu) hbl
      have hsl : cs.toArray.size = 79 := by simpa using hcsl
      have hone := hR.one hcsl
      have hnk := hno j hlt
      have hyk : gOk gs[j] = true → ∀ (k : Nat) (hk : k < gs.length), k < j + 1 → gOk gs[k] = true := fun h k hk h2 => by
        by_cases e : k = j
        · subst e; exact h
        · exact hall k hk (by omega)
      have hnm := hns _ (List.getElem_mem hlt)
      clear hall hno hyes hcl hcell hq5 hns
      generalize gs[j] = q at *
      replace hnk := Lib.hid hnk
      replace hyk := Lib.hid hyk
      obtain ⟨V, hV⟩ : ∃ V, V = wr.alloc (.cells cs.toArray 50) := ⟨_, rfl⟩
      have hVb : Below wr.heap.size wr V := by rw [hV]; exact bone _ _
      have hnew : ∀ i u, cs[i]? = some u → V.cell? ⟨wr.heap.size, 0 + i, none⟩ = some u := fun i u hu => by rw [hV, Nat.zero_add, World.cell?_alloc_new]; simpa using hu
      have hGV := hG.then hVb
      have hpV := hGV.ptr
      have hcall := putGuest_any w0 (w0.heap.size + 1) m v' q cs V hR hcsl hGV.wr hGV.bl (by omega) (by omega) hnm
      replace hnew := Lib.hid hnew
      replace hcsl := Lib.hid hcsl
      replace hsl := Lib.hid hsl
      replace hce := Lib.hid hce
      replace hV := Lib.hid hV
      go_upto_region 7 with (first | (refine wpl_load_x rfl 50 _ rfl b (off + j * 79) 79 cs Tryz.underlying50 rfl guest_size rfl hcsl.out hce.out ?_) | (refine wpl_alloc_x rfl 50 rfl zGuest_info ?_) | (refine wpl_store_x rfl 50 _ _ rfl (by rw [hsl.out]; exact guest_size) (by rw [hsl.out]; rfl) hone rfl rfl ?_))
      rw [← hV.out]
      clear hV
      go_wp2_with (refine wpl_load_x rfl 50 _ rfl wr.heap.size 0 79 cs Tryz.underlying50 rfl guest_size rfl hcsl.out hnew.out ?_)
      refine hcall.mono ?_; rintro e W' ⟨hE, v2, m2, hm2, hw', ht'⟩
      have hG2 := hGV.wt hw' ht'
      clear hcall hw' ht' hpV hnew hce
      by_cases hq : gOk q = true
      case neg =>
        rw [Bool.not_eq_true] at hq
        rw [hq] at hE
        have hb := hG2.bad (hnk.out hq) hE
        obtain ⟨p, z, hz, rfl⟩ := hE
        exact ⟨rfl, hb⟩
      rw [hq] at hE
      obtain rfl : e = _ := hE
      replace hq := Lib.hid hq
      go_wp2_with fail
      exact ⟨⟨j + 1, m2, v2, hlt, by go_num, hG2, by omega, hyk.out hq.out⟩, by simp [intOf]; omega⟩
    · obtain rfl : j = gs.length := by omega
      have ht := hyes (fun k hk => hall k hk hk)
      clear hyes hno hall
      replace ht := Lib.hid ht
      go_upto_region 999 with ((with_reducible show Code.wp _ _ (bodyPost _ _ _) _ _); exact putc5 _ _ _ _ _ _ _ _ _ _ _ _ _ _ _ _ _ _ _ _ _ _ _ _ _ _ _ _ _ _ _ _ _ _ _ _ _ _ _ _ _ _ _ _ _ _ _ _ _ _ _ _ _ _ _ _ _ _ _ _ _ _ _ _ _ _ _ _ _ _ _ _ _ _ _ _ _ _ _ _ _ _ _ _ _ _ _ _ _ _ _ _ _ hG (by omega) hc hl ht.out)
set_option maxRecDepth 100000 in
set_option maxHeartbeats 8000000 in
theorem putc1 (u2 u3 u4 u5 u6 u7 u8 u9 u10 u11 u12 u13 u14 u15 u16 u17 u18 u19 u20 u21 u22 u23 u24 u25 u26 u27 u28 u29 u30 u31 u32 u33 u34 u35 u36 u37 u38 u39 u40 u41 u42 u43 u44 u45 u46 u47 u48 u49 u50 u51 u52 u53 u54 u55 u56 u57 u58 u59 u60 u61 u62 u63 u64 u65 u66 u67 u68 u69 u70 u71 u72 u73 u74 u75 u76 u77 u78 u79 u80 u81 u82 u83 u84 u85 u86 u87 u88 u89 u90 u91 u92 u93 u94 : Value) {w0 w W : World} {v : Value} {ver : Int} {vg vc : Value} {t : Bool} {gs : List GuestV} {chs : List ChV} (h : PIn w0 w W 0 v ver vg vc) (hg : RowG w0 vg gs) (hc : RowC w0 vc chs) (hgl : gs.length ≤ 16) (hl : chs.length ≤ 32) (ht : t = (gs.all gOk && chs.all chB)) (hns : ∀ g ∈ gs, g.name.size ≤ 1000000) :
    (tailC 1 (Tryz.f50.body.getD .skip)).wp Tryz.prog (bodyPost Tryz.prog Tryz.f50 (PPost w0 w t)) ⟨List.toArray (.pointer (some ⟨w0.heap.size, 0, none⟩) :: .pointer (some ⟨w0.heap.size + 2, 0, none⟩) :: u2 :: u3 :: u4 :: u5 :: u6 :: u7 :: u8 :: u9 :: u10 :: u11 :: u12 :: u13 :: u14 :: u15 :: u16 :: u17 :: u18 :: u19 :: u20 :: u21 :: u22 :: u23 :: u24 :: u25 :: u26 :: u27 :: u28 :: u29 :: u30 :: u31 :: u32 :: u33 :: u34 :: u35 :: u36 :: u37 :: u38 :: u39 :: u40 :: u41 :: u42 :: u43 :: u44 :: u45 :: u46 :: u47 :: u48 :: u49 :: u50 :: u51 :: u52 :: u53 :: u54 :: u55 :: u56 :: u57 :: u58 :: u59 :: u60 :: u61 :: u62 :: u63 :: u64 :: u65 :: u66 :: u67 :: u68 :: u69 :: u70 :: u71 :: u72 :: u73 :: u74 :: u75 :: u76 :: u77 :: u78 :: u79 :: u80 :: u81 :: u82 :: u83 :: u84 :: u85 :: u86 :: u87 :: u88 :: u89 :: u90 :: u91 :: u92 :: u93 :: u94 :: []), []⟩ W := by
  have hp := h.ptr
  have hrow : RowV (W.alloc (.cells #[.int .u32 1111705159] 27)) (.slice (some ⟨W.heap.size, 0, none⟩) 1 1) ([1111705159].map (Value.int .u32)) := RowV.lit W _ _
  obtain ⟨V1, hV1⟩ : ∃ V1, V1 = W.alloc (.cells #[.int .u32 1111705159] 27) := ⟨_, rfl⟩
  have hb1 : Below W.heap.size W V1 := by rw [hV1]; exact bone _ _
  rw [← hV1] at hrow
  have hG1 := h.then hb1
  have hcall := four_any (w0.heap.size + 1) w0.heap.size _ v _ [1111705159] V1 hG1.wr hrow ⟨by omega, by simp⟩ hG1.le (by omega)
  clear hrow
  replace hV1 := Lib.hid hV1
  replace ht := Lib.hid ht
  replace hns := Lib.hid hns
  conv => arg 2; whnf
  go_wp2_with fail
  rw [← hV1.out]
  refine hcall.mono ?_; rintro e W2 ⟨v2, rfl, hw', ht'⟩
  have hG2 := hG1.wt hw' ht'
  clear hcall hw' ht' hV1 hb1 hG1 hp
  have hg' := hg
  have hc' := hc
  obtain ⟨ag, cg, rfl, _⟩ := hg'
  obtain ⟨ac, cc, rfl, _⟩ := hc'
  have hp := hG2.ptr
  obtain ⟨c0, c1, c2⟩ := hG2.cell
  have hrow : RowV (W2.alloc (.cells #[.int .i64 1, .int .i64 gs.length, .int .i64 chs.length, .int .i64 0] 3)) (.slice (some ⟨W2.heap.size, 0, none⟩) 4 4) ([(1 : Int), (gs.length : Int), (chs.length : Int), (0 : Int)].map (Value.int .i64)) := RowV.lit W2 _ _
  obtain ⟨V3, hV3⟩ : ∃ V3, V3 = W2.alloc (.cells #[.int .i64 1, .int .i64 gs.length, .int .i64 chs.length, .int .i64 0] 3) := ⟨_, rfl⟩
  have hb3 : Below W2.heap.size W2 V3 := by rw [hV3]; exact bone _ _
  rw [← hV3] at hrow
  have hG3 := hG2.then hb3
  have hB2 := hG2.B
  have hcall := two_any (w0.heap.size + 1) w0.heap.size _ v2 _ [(1 : Int), (gs.length : Int), (chs.length : Int), (0 : Int)] V3 hG3.wr hrow ⟨by simp, by simp⟩ hG3.le (by omega) (fun b off c e => by
    injection e with e
    injection e with e
    injection e with e
    refine ⟨by omega, fun e2 => ?_⟩
    have := (hG2.wr.own.lt _ e2).2
    omega)
  clear hrow
  replace hV3 := Lib.hid hV3
  go_wp2_with fail
  rw [← hV3.out]
  refine hcall.mono ?_; rintro e W4 ⟨v4, rfl, hw', ht'⟩
  have hG4 := hG3.wt hw' ht'
  clear hcall hw' ht' hV3 hb3 hG3 hp c0 c1 c2
  have hp := hG4.ptr
  have c0 := hG4.cell.1
  have hrow : RowV (W4.alloc (.cells #[.int .u32 ver] 27)) (.slice (some ⟨W4.heap.size, 0, none⟩) 1 1) ([ver].map (Value.int .u32)) := RowV.lit W4 _ _
  obtain ⟨V5, hV5⟩ : ∃ V5, V5 = W4.alloc (.cells #[.int .u32 ver] 27) := ⟨_, rfl⟩
  have hb5 : Below W4.heap.size W4 V5 := by rw [hV5]; exact bone _ _
  rw [← hV5] at hrow
  have hG5 := hG4.then hb5
  have hcall := four_any (w0.heap.size + 1) w0.heap.size _ v4 _ [ver] V5 hG5.wr hrow ⟨by simp, by simp⟩ hG5.le (by omega)
  clear hrow
  replace hV5 := Lib.hid hV5
  go_wp2_with fail
  rw [← hV5.out]
  refine hcall.mono ?_; rintro e W6 ⟨v6, rfl, hw', ht'⟩
  have hG6 := hG5.wt hw' ht'
  clear hcall hw' ht' hV5 hb5 hG5 hp c0
  go_upto_region 999 with ((with_reducible show Code.wp _ _ (bodyPost _ _ _) _ _); exact putc4 _ _ _ _ _ _ _ _ _ _ _ _ _ _ _ _ _ _ _ _ _ _ _ _ _ _ _ _ _ _ _ _ _ _ _ _ _ _ _ _ _ _ _ _ _ _ _ _ _ _ _ _ _ _ _ _ _ _ _ _ _ _ _ _ _ _ _ _ _ _ _ _ _ _ _ _ _ _ _ _ _ _ _ _ _ _ _ _ _ _ _ _ _ hG6 (by simp) hg hc hgl hl ht.out hns.out)
set_option maxRecDepth 100000 in
set_option maxHeartbeats 8000000 in
theorem putc_any {w0 w : World} {ver : Int} {vg vc : Value} {gs : List GuestV} {chs : List ChV} (h : PIn w0 w w 0 (.slice none 0 0) ver vg vc) (hg : RowG w0 vg gs) (hc : RowC w0 vc chs) (hns : ∀ g ∈ gs, g.name.size ≤ 1000000) :
    Calls Tryz.prog 50 #[.pointer (some ⟨w0.heap.size, 0, none⟩), .pointer (some ⟨w0.heap.size + 2, 0, none⟩)] w fun e w' => PPost w0 w (putOk gs chs) e w' := by
  have hg' := hg
  have hc' := hc
  obtain ⟨ag, cg, rfl, _⟩ := hg'
  obtain ⟨ac, cc, rfl, _⟩ := hc'
  obtain ⟨c0, c1, c2⟩ := h.cell
  have hok := putOk_eq gs chs
  replace hok := Lib.hid hok
  replace hns := Lib.hid hns
  by_cases b1 : 1 ≤ gs.length
  case neg =>
    have hb := hok.out.trans (by rw [decide_eq_false (by omega)])
    replace hb := Lib.hid hb
    go_enter Tryz.func50, Tryz.ntmps50
    go_wp2_with fail
    refine (cmust_any _ _ _ _).mono ?_; rintro e w1 ⟨rfl, rfl⟩
    exact ⟨rfl, h.no hb.out (by decide)⟩
  by_cases b2 : gs.length ≤ 16
  case neg =>
    have hb := hok.out.trans (by rw [decide_eq_false (by omega)])
    replace hb := Lib.hid hb
    go_enter Tryz.func50, Tryz.ntmps50
    go_wp2_with fail
    refine (cmust_any _ _ _ _).mono ?_; rintro e w1 ⟨rfl, rfl⟩
    exact ⟨rfl, h.no hb.out (by decide)⟩
  by_cases b3 : chs.length ≤ 32
  case neg =>
    have hb := hok.out.trans (by rw [decide_eq_false b3, Bool.and_false])
    have f3 : decide ((chs.length : Int) ≤ 32) = false := decide_eq_false (by omega)
    replace hb := Lib.hid hb
    go_enter Tryz.func50, Tryz.ntmps50
    go_wp2_with fail
    refine (cmust_any _ _ _ _).mono ?_; rintro e w1 ⟨rfl, rfl⟩
    exact ⟨rfl, h.no hb.out (by decide)⟩
  have hb := hok.out.trans (by rw [decide_eq_true ⟨b1, b2⟩, decide_eq_true b3])
  have f3 : decide ((chs.length : Int) ≤ 32) = true := decide_eq_true (by omega)
  replace hb := Lib.hid hb
  go_enter Tryz.func50, Tryz.ntmps50
  go_wp2_with fail
  refine (cmust_any _ _ _ _).mono ?_; rintro e w1 ⟨rfl, rfl⟩
  go_upto_region 999 with ((with_reducible show Code.wp _ _ (bodyPost _ _ _) _ _); exact putc1 _ _ _ _ _ _ _ _ _ _ _ _ _ _ _ _ _ _ _ _ _ _ _ _ _ _ _ _ _ _ _ _ _ _ _ _ _ _ _ _ _ _ _ _ _ _ _ _ _ _ _ _ _ _ _ _ _ _ _ _ _ _ _ _ _ _ _ _ _ _ _ _ _ _ _ _ _ _ _ _ _ _ _ _ _ _ _ _ _ _ _ _ _ h hg hc b2 b3 hb.out hns.out)
/-- Put: its error, nil or not. -/
theorem put_any (ver : Int) (vg vc : Value) (gs : List GuestV) (chs : List ChV) (w : World) (hg : RowG w vg gs) (hc : RowC w vc chs) (hns : ∀ g ∈ gs, g.name.size ≤ 1000000) :
    Calls Tryz.prog 23 #[.agg #[.int .u32 ver, vg, vc]] w fun e w' => (∃ v n, e = .returned (.tuple #[v, .int .i64 n]) ∧ (n = 0 ↔ putOk gs chs = true)) ∧ Below w.heap.size w w' := by
  refine put_of ver vg vc (by obtain ⟨a, c, h, _⟩ := hg; exact ⟨a, _, c, h⟩) (by obtain ⟨a, c, h, _⟩ := hc; exact ⟨a, _, c, h⟩) (putOk gs chs) w ?_
  intro W hb hw hcf hpw
  exact putc_any ⟨hw, hb, WT.refl _ _ _ _, hcf, hpw, (Array.getElem?_eq_some_iff.1 hpw).1⟩ hg hc hns
end Go.Proofs.YtffdfeekpfmbeaaGreat
/- The rules as they are asked, one after the other, and where the asking stands. -/
namespace Go.Proofs.YtffdfeekpfmbeaaGreat
open Go Go.RowKit Go.BigFrame

theorem fb_range {f : Nat → List Rl} {n j : Nat} (hj : j < n) (hp : fb ((List.range j).flatMap f) = none) {x : Int × Int} (h : fb (f j) = some x) : fb ((List.range n).flatMap f) = some x := by
  have e : (List.range n).flatMap f = (List.range (j + 1)).flatMap f ++ ((List.range (n - (j + 1))).map (j + 1 + ·)).flatMap f := by
    rw [← List.flatMap_append, ← List.range_add, show j + 1 + (n - (j + 1)) = n by omega]
  rw [e, fb_append, List.range_succ, List.flatMap_append, fb_append, hp]
  simp [h]
theorem fb_range_succ {f : Nat → List Rl} {j : Nat} (hp : fb ((List.range j).flatMap f) = none) (h : fb (f j) = none) : fb ((List.range (j + 1)).flatMap f) = none := by
  rw [List.range_succ, List.flatMap_append, fb_append, hp]
  simpa using h
theorem fb_left {a b : List Rl} {x : Int × Int} (h : fb a = some x) : fb (a ++ b) = some x := by rw [fb_append, h]; rfl
theorem fb_right {a b : List Rl} (h : fb a = none) : fb (a ++ b) = fb b := by rw [fb_append, h]; rfl
theorem fb_one (t : Bool) (r w : Int) : fb [(t, r, w)] = if t = true then none else some (r, w) := by rw [fb_cons]; rfl
theorem mustE_fb (t : Bool) (r p : Int) : mustE t r p = endE (fb [(t, r, p)]) := by rw [fb_one, mustE_eq]
/-- The rules of a guest, of a channel, of a name, of parts: as they are asked. -/
def procR (b : BrdV) (acc : Int) (t : GuestV) (g : Int) : List Rl := [(!(decide (t.cpus = 0)) && (decide (t.cpus / 2 ^ b.cpus.toNat = 0) && decide (bits .and .u32 t.cpus acc = 0)), 3, g)]
def apartR (O : List Two) (t : GuestV) (g : Int) : List Rl := [(!((firstV (O ++ physG t)).2.2), 10, g)]
def guestO (b : BrdV) (acc : Int) (N S : List Int) (O : List Two) (t : GuestV) (g : Int) : List Rl := procR b acc t g ++ (roomsR b t g ++ (linesR b t N S g ++ apartR O t g))
def physL (l : List GuestV) : List Two := l.flatMap physG
def namesO (gs : List GuestV) (n : Nat) : List Rl := (List.range n).flatMap fun g => [(c2n (gs.take g) gs[g]!, 2, (g : Int))]
def guestsO (b : BrdV) (gs : List GuestV) (n : Nat) : List Rl := (List.range n).flatMap fun g => guestO b (orV (gs.take g)) (numsV (gs.take g)) (strsV (gs.take g)) (physL (gs.take g)) gs[g]! g
def chansO (b : BrdV) (gs : List GuestV) (chs : List ChV) (n : Nat) : List Rl := (List.range n).flatMap fun k => chanP b gs.length (physL gs) ((chs.take k).map chS) chs[k]! k
def mapsO (gs : List GuestV) (chs : List ChV) (n : Nat) : List Rl := (List.range n).flatMap fun g => [(c13 gs chs g, 13, (g : Int))]
def tailO (b : BrdV) (gs : List GuestV) (chs : List ChV) : List Rl := namesO gs gs.length ++ (guestsO b gs gs.length ++ (chansO b gs chs chs.length ++ mapsO gs chs gs.length))
def checkO (b : BrdV) (gs : List GuestV) (chs : List ChV) : Option (Int × Int) := fb (headR b gs chs ++ tailO b gs chs)
/-- One more of a list. -/
theorem take_one {α : Type} [Inhabited α] {l : List α} {k : Nat} (h : k < l.length) : l.take (k + 1) = l.take k ++ [l[k]] := List.take_succ_eq_append_getElem h
theorem orV_snoc (l : List GuestV) (t : GuestV) : orV (l ++ [t]) = bits .or .u32 (orV l) t.cpus := by unfold orV; rw [List.foldl_append]; rfl
theorem numsV_snoc (l : List GuestV) (t : GuestV) : numsV (l ++ [t]) = numsV l ++ t.irq.map IrqV.num := by unfold numsV; rw [List.flatMap_append]; simp
theorem strsV_snoc (l : List GuestV) (t : GuestV) : strsV (l ++ [t]) = strsV l ++ t.str := by unfold strsV; rw [List.flatMap_append]; simp
theorem physL_snoc (l : List GuestV) (t : GuestV) : physL (l ++ [t]) = physL l ++ physG t := by unfold physL; rw [List.flatMap_append]; simp

theorem OwnTwo.base {E : TypeId} {W : World} {base base' : Nat} {v : Value} {l : List Two} (h : OwnTwo E W base v l) (hb : base' ≤ base) : OwnTwo E W base' v l := by
  obtain ⟨hl, hc⟩ := h
  refine ⟨hl, ?_⟩
  rcases hc with hc | ⟨g, cap, cur, rfl, h1, hg⟩
  · exact .inl hc
  · exact .inr ⟨g, cap, cur, rfl, Nat.le_trans hb h1, hg⟩
theorem OwnTwo.keepB {E : TypeId} {W W' : World} {base : Nat} {v : Value} {l : List Two} (h : OwnTwo E W base v l) (hk : ∀ k, v.ownBlock = some k → W'.heap[k]? = W.heap[k]?) : OwnTwo E W' base v l := by
  obtain ⟨hl, hc⟩ := h
  refine ⟨hl, ?_⟩
  rcases hc with hc | ⟨g, cap, cur, rfl, h1, hg, hr⟩
  · exact .inl hc
  · exact .inr ⟨g, cap, cur, rfl, h1, (hk g rfl).trans hg, hr⟩
/-- What stands all along: where the check lies, the maps. -/
structure ACt (w0 w : World) (xb mi ms : Nat) : Prop where
  bl : Below w0.heap.size w0 w
  hx : w0.heap.size ≤ xb
  hi : w0.heap.size ≤ mi
  hs : w0.heap.size ≤ ms
  n1 : mi ≠ ms
  n2 : xb ≠ mi
  n3 : xb ≠ ms
  l1 : xb < w.heap.size
  l2 : mi < w.heap.size
  l3 : ms < w.heap.size
/-- Between the pieces. -/
structure AIn (w0 w W : World) (xb mi ms : Nat) (b : BrdV) (ver : Int) (vg vc : Value) (acc : Int) (N S : List Int) (vo : Value) (O : List Two) (vs : Value) : Prop where
  ck : ChkAt W xb b ver vg vc acc mi ms vo vs
  iq : IrqM W mi N
  st : StrM W ms S
  ow : OwnTwo 24 W w.heap.size vo O
  off : OffV w0.heap.size [xb, mi, ms] w W
section
variable {w0 w W W' : World} {xb mi ms : Nat} {b : BrdV} {ver : Int} {vg vc : Value} {acc : Int} {N S : List Int} {vo vs : Value} {O : List Two}
theorem AIn.then (h : AIn w0 w W xb mi ms b ver vg vc acc N S vo O vs) (hc : ACt w0 w xb mi ms) (hb : Below W.heap.size W W') : AIn w0 w W' xb mi ms b ver vg vc acc N S vo O vs :=
  have hz := h.off.below.size
  have l1 := hc.l1
  have l2 := hc.l2
  have l3 := hc.l3
  ⟨h.ck.below hb, h.iq.same (hb.block mi (by omega)), h.st.same (hb.block ms (by omega)), h.ow.below hb (Nat.le_refl _), h.off.then hb hc.bl.size⟩
theorem AIn.le (h : AIn w0 w W xb mi ms b ver vg vc acc N S vo O vs) : w.heap.size ≤ W.heap.size := h.off.below.size
theorem AIn.low (h : AIn w0 w W xb mi ms b ver vg vc acc N S vo O vs) (hc : ACt w0 w xb mi ms) : Below w0.heap.size w0 W := hc.bl.trans h.off.below
theorem ChkAt.c7 (h : ChkAt W xb b ver vg vc acc mi ms vo vs) : W.cell? ⟨xb, 7, none⟩ = some (.int .u32 ver) := h.cell rfl
theorem ChkAt.c8 (h : ChkAt W xb b ver vg vc acc mi ms vo vs) : W.cell? ⟨xb, 8, none⟩ = some vg := h.cell rfl
theorem ChkAt.c9 (h : ChkAt W xb b ver vg vc acc mi ms vo vs) : W.cell? ⟨xb, 9, none⟩ = some vc := h.cell rfl
/-- What comes of it. -/
def APost (w0 w : World) (xb mi ms : Nat) (o : Option (Int × Int)) (e : Ending) (W' : World) : Prop := e = endE o ∧ OffV w0.heap.size [xb, mi, ms] w W'
theorem ACt.apost {o : Option (Int × Int)} {x : Int × Int} (h : OffV w0.heap.size [xb, mi, ms] w W) (ho : o = some x) : APost w0 w xb mi ms o (.panicked [wrongV x.1 x.2]) W := ⟨by rw [ho]; rfl, h⟩
end
end Go.Proofs.YtffdfeekpfmbeaaGreat
/- All rules: that the parts of each guest may be mapped. -/
namespace Go.Proofs.YtffdfeekpfmbeaaGreat
open Go Go.RowKit Go.BigFrame

set_option maxRecDepth 100000 in
set_option maxHeartbeats 8000000 in
theorem all7 (u1 u2 u3 u4 u5 u6 u7 u8 u9 u10 u11 u12 u13 u14 u15 u16 u17 u18 u19 u20 u21 u22 u23 u24 u25 u26 u27 u28 u29 u30 u31 u32 u33 u34 u35 u36 u37 u38 u39 u40 u41 u42 u43 u44 u45 u46 u47 u48 u49 u50 u51 u52 u53 u54 u55 u56 u57 u58 u59 u60 u61 u62 u63 u64 u65 u66 u67 u68 u69 u70 u71 u72 u73 u74 u75 u76 u77 u78 u79 u80 u81 u82 u83 u84 u85 u86 u87 u88 u89 u90 u91 u92 u93 u94 u95 u96 u97 u98 u99 u100 u101 u102 u103 u104 u105 u106 u107 u108 u109 u110 u111 u112 u113 u114 u115 u116 u117 u118 u119 u120 u121 u122 : Value) {w0 w W : World} {xb mi ms : Nat} {b : BrdV} {ver : Int} {vg vc : Value} {acc : Int} {N S : List Int} {vo vs : Value} {O : List Two} {gs : List GuestV} {chs : List ChV} {o : Option (Int × Int)}
    (hc : ACt w0 w xb mi ms) (h : AIn w0 w W xb mi ms b ver vg vc acc N S vo O vs) (hG : RowG w0 vg gs) (hC : RowC w0 vc chs) (hs : smallP gs chs) (hgl : gs.length ≤ 16) (ho : o = fb (mapsO gs chs gs.length)) :
    (tailC 7 (Tryz.f10.body.getD .skip)).wp Tryz.prog (bodyPost Tryz.prog Tryz.f10 (APost w0 w xb mi ms o)) ⟨List.toArray (.pointer (some ⟨xb, 0, none⟩) :: u1 :: u2 :: u3 :: u4 :: u5 :: u6 :: u7 :: u8 :: u9 :: u10 :: u11 :: u12 :: u13 :: u14 :: u15 :: u16 :: u17 :: u18 :: u19 :: u20 :: u21 :: u22 :: u23 :: u24 :: u25 :: u26 :: u27 :: u28 :: u29 :: u30 :: u31 :: u32 :: u33 :: u34 :: u35 :: u36 :: u37 :: u38 :: u39 :: u40 :: u41 :: u42 :: u43 :: u44 :: u45 :: u46 :: u47 :: u48 :: u49 :: u50 :: u51 :: u52 :: u53 :: u54 :: u55 :: u56 :: u57 :: u58 :: u59 :: u60 :: u61 :: u62 :: u63 :: u64 :: u65 :: u66 :: u67 :: u68 :: u69 :: u70 :: u71 :: u72 :: u73 :: u74 :: u75 :: u76 :: u77 :: u78 :: u79 :: u80 :: u81 :: u82 :: u83 :: u84 :: u85 :: u86 :: u87 :: u88 :: u89 :: u90 :: u91 :: u92 :: u93 :: u94 :: u95 :: u96 :: u97 :: u98 :: u99 :: u100 :: u101 :: u102 :: u103 :: u104 :: u105 :: u106 :: u107 :: u108 :: u109 :: u110 :: u111 :: u112 :: u113 :: u114 :: u115 :: u116 :: u117 :: u118 :: u119 :: u120 :: u121 :: u122 :: []), []⟩ W := by
  obtain ⟨ag, kg, rfl⟩ := hG.slice
  obtain ⟨ac, kc, rfl⟩ := hC.slice
  have c8 := h.ck.c8
  replace ho := Lib.hid ho
  conv => arg 2; whnf
  go_wp2_with fail
  go_loopw [106] (fun i wr => ∃ j : Nat, j ≤ gs.length ∧ i = .int .i64 j ∧ AIn w0 w wr xb mi ms b ver (.slice ag gs.length kg) (.slice ac chs.length kc) acc N S vo O vs ∧ fb (mapsO gs chs j) = none) (fun i _ => gs.length - (intOf i).toNat)
  case atStart => exact ⟨0, Nat.zero_le _, rfl, h, rfl⟩
  case round =>
    obtain ⟨j, hj, rfl, hA, hn⟩ := hrel
    by_cases hlt : j < gs.length
    · have d7 := hA.ck.c7
      have d8 := hA.ck.c8
      have d9 := hA.ck.c9
      have hcall := maps16_any ver _ _ gs chs j wr (hG.below (hA.low hc) lasts_guest) (hC.below (hA.low hc) lasts_ch) hs
      have hnk : ¬ (mapsP gs chs j).2 = 0 → o = some (13, (j : Int)) := fun e => ho.out.trans (fb_range hlt hn (by rw [fb_one, show c13 gs chs j = false from decide_eq_false e]; rfl))
      have hyk : (mapsP gs chs j).2 = 0 → fb (mapsO gs chs (j + 1)) = none := fun e => fb_range_succ hn (by rw [fb_one, show c13 gs chs j = true from decide_eq_true e]; rfl)
      generalize (mapsP gs chs j).2 = z at *
      replace hnk := Lib.hid hnk
      replace hyk := Lib.hid hyk
      replace hn := Lib.hid hn
      go_wp2_with fail
      refine hcall.mono ?_; rintro e W' ⟨⟨v, rfl, -⟩, hb⟩
      have hA2 := hA.then hc hb
      clear hcall d7 d8 d9
      by_cases hz : z = 0
      case neg =>
        have hz' : (z == 0) = false := by simpa using hz
        have hk := hnk.out hz
        clear hz
        replace hk := Lib.hid hk
        go_wp2_with fail
        refine (must_any _ _ _ _).mono ?_; rintro e w1 ⟨rfl, rfl⟩
        exact ⟨rfl, ACt.apost hA2.off hk.out⟩
      have hk := hyk.out hz
      replace hk := Lib.hid hk
      subst hz
      go_wp2_with fail
      refine (must_any _ _ _ _).mono ?_; rintro e w1 ⟨rfl, rfl⟩
      simp only [mustE]
      go_wp2_with fail
      exact ⟨⟨j + 1, hlt, by go_num, hA2, hk.out⟩, by simp [intOf]; omega⟩
    · obtain rfl : j = gs.length := by omega
      replace hn := Lib.hid hn
      go_wp2_with fail
      go_end0
      exact ⟨by rw [ho.out, hn.out]; rfl, hA.off⟩
end Go.Proofs.YtffdfeekpfmbeaaGreat
/- All rules: the channels. -/
namespace Go.Proofs.YtffdfeekpfmbeaaGreat
open Go Go.RowKit Go.BigFrame

set_option maxRecDepth 100000 in
set_option maxHeartbeats 8000000 in
theorem all6 (u1 u2 u3 u4 u5 u6 u7 u8 u9 u10 u11 u12 u13 u14 u15 u16 u17 u18 u19 u20 u21 u22 u23 u24 u25 u26 u27 u28 u29 u30 u31 u32 u33 u34 u35 u36 u37 u38 u39 u40 u41 u42 u43 u44 u45 u46 u47 u48 u49 u50 u51 u52 u53 u54 u55 u56 u57 u58 u59 u60 u61 u62 u63 u64 u65 u66 u67 u68 u69 u70 u71 u72 u73 u74 u75 u76 u77 u78 u79 u80 u81 u82 u83 u84 u85 u86 u87 u88 u89 u90 u91 u92 u93 u94 u95 u96 u97 u98 u99 u100 u101 u102 u103 u104 u105 u106 u107 u108 u109 u110 u111 u112 u113 u114 u115 u116 u117 u118 u119 u120 u121 u122 : Value) {w0 w W : World} {xb mi ms : Nat} {b : BrdV} {ver : Int} {vg vc : Value} {acc : Int} {N S : List Int} {vo : Value} {gs : List GuestV} {chs : List ChV} {o : Option (Int × Int)}
    (hc : ACt w0 w xb mi ms) (h : AIn w0 w W xb mi ms b ver vg vc acc N S vo (physL gs) (.slice none 0 0)) (hG : RowG w0 vg gs) (hC : RowC w0 vc chs) (hs : smallP gs chs) (hgl : gs.length ≤ 16) (hcl : chs.length ≤ 32) (hpl : (physL gs).length ≤ 100000000) (ho : o = fb (chansO b gs chs chs.length ++ mapsO gs chs gs.length)) :
    (tailC 6 (Tryz.f10.body.getD .skip)).wp Tryz.prog (bodyPost Tryz.prog Tryz.f10 (APost w0 w xb mi ms o)) ⟨List.toArray (.pointer (some ⟨xb, 0, none⟩) :: u1 :: u2 :: u3 :: u4 :: u5 :: u6 :: u7 :: u8 :: u9 :: u10 :: u11 :: u12 :: u13 :: u14 :: u15 :: u16 :: u17 :: u18 :: u19 :: u20 :: u21 :: u22 :: u23 :: u24 :: u25 :: u26 :: u27 :: u28 :: u29 :: u30 :: u31 :: u32 :: u33 :: u34 :: u35 :: u36 :: u37 :: u38 :: u39 :: u40 :: u41 :: u42 :: u43 :: u44 :: u45 :: u46 :: u47 :: u48 :: u49 :: u50 :: u51 :: u52 :: u53 :: u54 :: u55 :: u56 :: u57 :: u58 :: u59 :: u60 :: u61 :: u62 :: u63 :: u64 :: u65 :: u66 :: u67 :: u68 :: u69 :: u70 :: u71 :: u72 :: u73 :: u74 :: u75 :: u76 :: u77 :: u78 :: u79 :: u80 :: u81 :: u82 :: u83 :: u84 :: u85 :: u86 :: u87 :: u88 :: u89 :: u90 :: u91 :: u92 :: u93 :: u94 :: u95 :: u96 :: u97 :: u98 :: u99 :: u100 :: u101 :: u102 :: u103 :: u104 :: u105 :: u106 :: u107 :: u108 :: u109 :: u110 :: u111 :: u112 :: u113 :: u114 :: u115 :: u116 :: u117 :: u118 :: u119 :: u120 :: u121 :: u122 :: []), []⟩ W := by
  have hC' := hC
  obtain ⟨ag, kg, rfl⟩ := hG.slice
  obtain ⟨ac, kc, rfl, hq3, hq4, hq5⟩ := hC
  have c9 := h.ck.c9
  replace ho := Lib.hid ho
  have hW0 := h.le
  have hvo := h.ow.lt
  conv => arg 2; whnf
  go_wp2_with fail
  go_loopw [90] (fun i wr => ∃ (j : Nat) (vs : Value), j ≤ chs.length ∧ i = .int .i64 j ∧ AIn w0 w wr xb mi ms b ver (.slice ag gs.length kg) (.slice ac chs.length kc) acc N S vo (physL gs) vs ∧ OwnTwo 24 wr W.heap.size vs ((chs.take j).map chS) ∧ W.heap.size ≤ wr.heap.size ∧ fb (chansO b gs chs j) = none) (fun i _ => chs.length - (intOf i).toNat)
  case atStart => exact ⟨0, _, Nat.zero_le _, rfl, h, OwnTwo.nil _ _ _, Nat.le_refl _, rfl⟩
  case round =>
    obtain ⟨j, vs, hj, rfl, hA, hS, hzW, hn⟩ := hrel
    by_cases hlt : j < chs.length
    · obtain ⟨q, off, rfl, hbl, hcl2⟩ := hq5 (by intro e; rw [e] at hlt; simp at hlt)
      obtain ⟨cs, ⟨rfl, h64⟩, hcsl, hcell⟩ := hcl2 j hlt
      have hlow := hA.low hc
      have p0 := cell_lt hlow (hcell 0 _ rfl) hbl
      have p1 := cell_lt hlow (hcell 1 _ rfl) hbl
      have p2 := cell_lt hlow (hcell 2 _ rfl) hbl
      have p3 := cell_lt hlow (hcell 3 _ rfl) hbl
      have p4 := cell_lt hlow (hcell 4 _ rfl) hbl
      have p5 := cell_lt hlow (hcell 5 _ rfl) hbl
      have p6 := cell_lt hlow (hcell 6 _ rfl) hbl
      have p7 := cell_lt hlow (hcell 7 _ rfl) hbl
      simp only [Nat.add_zero] at p0
      have hix : chs[j]! = chs[j] := getElem!_pos chs j hlt
      have hnk : ∀ x, fb (chanP b gs.length (physL gs) ((chs.take j).map chS) chs[j] j) = some x → o = some x := fun x e => ho.out.trans (fb_left (fb_range hlt hn (by rw [hix]; exact e)))
      have hyk : fb (chanP b gs.length (physL gs) ((chs.take j).map chS) chs[j] j) = none → fb (chansO b gs chs (j + 1)) = none := fun e => fb_range_succ hn (by rw [hix]; exact e)
      have htk : (chs.take (j + 1)).map chS = (chs.take j).map chS ++ [chS chs[j]] := by rw [take_one hlt, List.map_append]; rfl
      have hsl : ((chs.take j).map chS).length ≤ 100000000 := by rw [List.length_map, List.length_take]; omega
      clear hcl2 hcell hq5 hcsl hix
      generalize chs[j] = c at *
      generalize (chs.take j).map chS = Sh at *
      obtain ⟨V, hV, hVz, hVb, hVc⟩ := eight_new wr (.int .u64 c.pa) (.int .u64 c.sz) (.int .i64 c.e0.g) (.int .i64 c.e0.perm) (.int .u64 c.e0.ipa) (.int .i64 c.e1.g) (.int .i64 c.e1.perm) (.int .u64 c.e1.ipa) 76
      have hA2 := hA.then hc hVb
      have hS2 := hS.below hVb (Nat.le_refl _)
      have hcall := channel_any xb b ver ag gs.length kg (.slice (some ⟨q, off, none⟩) chs.length kc) acc mi ms vo vs j c (physL gs) Sh V hA2.ck w0.heap.size W.heap.size (OwnTwo.base hA2.ow hc.bl.size) hS2 (fun k hk => (hvo k hk).2) (by omega) (by have := hc.bl.size; omega) hc.hx ⟨hpl, hsl⟩
      generalize hgf : fb (chanP b gs.length (physL gs) Sh c j) = r at *
      have d0 := hVc 0 _ rfl
      have d1 := hVc 1 _ rfl
      have d2 := hVc 2 _ rfl
      have d3 := hVc 3 _ rfl
      have d4 := hVc 4 _ rfl
      have d5 := hVc 5 _ rfl
      have d6 := hVc 6 _ rfl
      have d7 := hVc 7 _ rfl
      clear hVc hgf
      replace hn := Lib.hid hn
      replace hnk := Lib.hid hnk
      replace hyk := Lib.hid hyk
      replace htk := Lib.hid htk
      replace hVz := Lib.hid hVz
      go_upto_region 21 with fail
      rw [← hV]
      clear hV p0 p1 p2 p3 p4 p5 p6 p7
      go_wp2_with fail
      refine hcall.mono ?_; rintro e W' ⟨rfl, hoff, hres⟩
      have hoff2 : OffV w0.heap.size [xb, mi, ms] w W' := hA2.off.trans hoff (fun k hk => by
        rcases List.mem_cons.1 hk with rfl | hk
        · exact .inl (by simp)
        · rw [Option.mem_toList] at hk
          exact .inr (Nat.le_trans hW0 (hS2.lt k hk).1))
      cases r with
      | some x => exact ⟨rfl, ACt.apost hoff2 (hnk.out x rfl)⟩
      | none =>
        obtain ⟨vs', hck, hS3⟩ := hres rfl
        have hzz := hoff.below.size
        have nb : ∀ k, k < V.heap.size → k ≠ xb → vs.ownBlock ≠ some k → W'.heap[k]? = V.heap[k]? := fun k h1 h2 h3 => hoff.rest k h1 (by
          intro e
          rcases List.mem_cons.1 e with e | e
          · exact h2 e
          · rw [Option.mem_toList] at e; exact h3 e)
        have l2 := hc.l2
        have l3 := hc.l3
        have hle := hA2.le
        have nvs : ∀ k, k < W.heap.size → vs.ownBlock ≠ some k := fun k hk e => by have := (hS2.lt k e).1; omega
        have hA3 : AIn w0 w W' xb mi ms b ver (.slice ag gs.length kg) (.slice (some ⟨q, off, none⟩) chs.length kc) acc N S vo (physL gs) vs' :=
          ⟨hck, hA2.iq.same (nb mi (by omega) (fun e => hc.n2 e.symm) (nvs mi (by omega))), hA2.st.same (nb ms (by omega) (fun e => hc.n3 e.symm) (nvs ms (by omega))),
            hA2.ow.keepB (fun k hk => nb k (hA2.ow.lt k hk).2 (fun e => by have := (hA2.ow.lt k hk).1; have := hc.l1; omega) (nvs k (hvo k hk).2)), hoff2⟩
        have hk := hyk.out rfl
        replace hk := Lib.hid hk
        simp only [endE]
        clear hcall hres d0 d1 d2 d3 d4 d5 d6 d7
        go_wp2_with fail
        exact ⟨⟨j + 1, vs', hlt, by go_num, hA3, by rw [htk.out]; exact hS3, by have := hVb.size; omega, hk.out⟩, by simp [intOf]; omega⟩
    · obtain rfl : j = chs.length := by omega
      have ho' := ho.out.trans (fb_right hn)
      clear ho hn
      replace ho' := Lib.hid ho'
      go_upto_region 999 with ((with_reducible show Code.wp _ _ (bodyPost _ _ _) _ _); exact all7 _ _ _ _ _ _ _ _ _ _ _ _ _ _ _ _ _ _ _ _ _ _ _ _ _ _ _ _ _ _ _ _ _ _ _ _ _ _ _ _ _ _ _ _ _ _ _ _ _ _ _ _ _ _ _ _ _ _ _ _ _ _ _ _ _ _ _ _ _ _ _ _ _ _ _ _ _ _ _ _ _ _ _ _ _ _ _ _ _ _ _ _ _ _ _ _ _ _ _ _ _ _ _ _ _ _ _ _ _ _ _ _ _ _ _ _ _ _ _ _ _ _ hc hA hG hC' hs hgl ho'.out)
end Go.Proofs.YtffdfeekpfmbeaaGreat
/- All rules: the guests. -/
namespace Go.Proofs.YtffdfeekpfmbeaaGreat
open Go Go.RowKit Go.BigFrame

section
variable {w0 w W W' : World} {xb mi ms : Nat} {b : BrdV} {ver : Int} {vg vc : Value} {acc acc' : Int} {N S N' S' : List Int} {vo vs vo' : Value} {O O' : List Two}
theorem AIn.offx (h : AIn w0 w W xb mi ms b ver vg vc acc N S vo O vs) (hc : ACt w0 w xb mi ms) (ho : OffV w0.heap.size [xb] W W') (hk : ChkAt W' xb b ver vg vc acc' mi ms vo vs) : AIn w0 w W' xb mi ms b ver vg vc acc' N S vo O vs := by
  have l1 := hc.l1
  have l2 := hc.l2
  have l3 := hc.l3
  have hz := h.le
  exact ⟨hk, h.iq.same (ho.rest mi (by omega) (by simpa using fun e => hc.n2 e.symm)), h.st.same (ho.rest ms (by omega) (by simpa using fun e => hc.n3 e.symm)),
    h.ow.keepB (fun k hk => ho.rest k (h.ow.lt k hk).2 (by have := (h.ow.lt k hk).1; simp; omega)), h.off.trans ho (by simp)⟩
theorem AIn.offm (h : AIn w0 w W xb mi ms b ver vg vc acc N S vo O vs) (hc : ACt w0 w xb mi ms) (ho : OffV w0.heap.size [mi, ms] W W') (h1 : IrqM W' mi N') (h2 : StrM W' ms S') : AIn w0 w W' xb mi ms b ver vg vc acc N' S' vo O vs := by
  have l1 := hc.l1
  have l2 := hc.l2
  have l3 := hc.l3
  have hz := h.le
  exact ⟨⟨(ho.rest xb (by omega) (by simpa using ⟨hc.n2, hc.n3⟩)).trans h.ck.blk⟩, h1, h2,
    h.ow.keepB (fun k hk => ho.rest k (h.ow.lt k hk).2 (by have := (h.ow.lt k hk).1; simp; omega)), h.off.trans ho (by simp)⟩
theorem AIn.offaO (h : AIn w0 w W xb mi ms b ver vg vc acc N S vo O vs) (ho : OffV w0.heap.size (xb :: vo.ownBlock.toList) W W') : OffV w0.heap.size [xb, mi, ms] w W' :=
  h.off.trans ho (fun k hk => by
    rcases List.mem_cons.1 hk with rfl | hk
    · exact .inl (by simp)
    · rw [Option.mem_toList] at hk
      exact .inr (h.ow.lt k hk).1)
theorem AIn.offa (h : AIn w0 w W xb mi ms b ver vg vc acc N S vo O vs) (hc : ACt w0 w xb mi ms) (ho : OffV w0.heap.size (xb :: vo.ownBlock.toList) W W') (hk : ChkAt W' xb b ver vg vc acc mi ms vo' vs) (hw : OwnTwo 24 W' w.heap.size vo' O') : AIn w0 w W' xb mi ms b ver vg vc acc N S vo' O' vs := by
  have l1 := hc.l1
  have l2 := hc.l2
  have l3 := hc.l3
  have hz := h.le
  have nb : ∀ k, k < w.heap.size → k ≠ xb → W'.heap[k]? = W.heap[k]? := fun k h1 h2 => ho.rest k (by omega) (by
    intro e
    rcases List.mem_cons.1 e with e | e
    · exact h2 e
    · rw [Option.mem_toList] at e
      have := (h.ow.lt k e).1
      omega)
  exact ⟨hk, h.iq.same (nb mi l2 (fun e => hc.n2 e.symm)), h.st.same (nb ms l3 (fun e => hc.n3 e.symm)), hw, h.offaO ho⟩
theorem ACt.box (hc : ACt w0 w xb mi ms) {k : Nat} (hk : w.heap.size ≤ k) : k ≠ xb ∧ k ≠ mi ∧ k ≠ ms := by
  have l1 := hc.l1
  have l2 := hc.l2
  have l3 := hc.l3
  omega
end
theorem phys_in {gs : List GuestV} {j : Nat} (h : j < gs.length) : physV gs j = physG gs[j] := by unfold physV; rw [if_pos ⟨by omega, by omega⟩, Int.toNat_natCast, getElem!_pos gs j h]
theorem phys_ne {t : GuestV} (h : 1 ≤ t.win.length) : physG t ≠ [] := fun e => by
  unfold physG at e
  have := congrArg List.length e
  rw [List.length_append, List.length_map] at this
  simp only [List.length_nil] at this
  omega
theorem U32.or {a c : Int} : U32 (bits .or .u32 a c) := ⟨bits_lo_u32 _ _ _, by have := bits_hi_u32 .or a c; omega⟩
theorem phys_len {t : GuestV} : (physG t).length = t.win.length + t.dev.length := by unfold physG; rw [List.length_append, List.length_map, List.length_map]
set_option maxRecDepth 100000 in
set_option maxHeartbeats 8000000 in
theorem all5 (u1 u2 u3 u4 u5 u6 u7 u8 u9 u10 u11 u12 u13 u14 u15 u16 u17 u18 u19 u20 u21 u22 u23 u24 u25 u26 u27 u28 u29 u30 u31 u32 u33 u34 u35 u36 u37 u38 u39 u40 u41 u42 u43 u44 u45 u46 u47 u48 u49 u50 u51 u52 u53 u54 u55 u56 u57 u58 u59 u60 u61 u62 u63 u64 u65 u66 u67 u68 u69 u70 u71 u72 u73 u74 u75 u76 u77 u78 u79 u80 u81 u82 u83 u84 u85 u86 u87 u88 u89 u90 u91 u92 u93 u94 u95 u96 u97 u98 u99 u100 u101 u102 u103 u104 u105 u106 u107 u108 u109 u110 u111 u112 u113 u114 u115 u116 u117 u118 u119 u120 u121 u122 : Value) {w0 w W : World} {xb mi ms : Nat} {b : BrdV} {ver : Int} {vg vc : Value} {gs : List GuestV} {chs : List ChV} {o : Option (Int × Int)}
    (hc : ACt w0 w xb mi ms) (h : AIn w0 w W xb mi ms b ver vg vc 0 [] [] (.slice none 0 0) [] (.slice none 0 0)) (hG : RowG w0 vg gs) (hC : RowC w0 vc chs) (hs : smallP gs chs) (hgl : gs.length ≤ 16) (hcl : chs.length ≤ 32) (hcnt : ∀ g ∈ gs, cntOk g = true)
    (hcp : 1 ≤ b.cpus ∧ b.cpus ≤ 32) (hst : 0 ≤ b.strs ∧ b.strs ≤ 256) (ho : o = fb (guestsO b gs gs.length ++ (chansO b gs chs chs.length ++ mapsO gs chs gs.length))) :
    (tailC 5 (Tryz.f10.body.getD .skip)).wp Tryz.prog (bodyPost Tryz.prog Tryz.f10 (APost w0 w xb mi ms o)) ⟨List.toArray (.pointer (some ⟨xb, 0, none⟩) :: u1 :: u2 :: u3 :: u4 :: u5 :: u6 :: u7 :: u8 :: u9 :: u10 :: u11 :: u12 :: u13 :: u14 :: u15 :: u16 :: u17 :: u18 :: u19 :: u20 :: u21 :: u22 :: u23 :: u24 :: u25 :: u26 :: u27 :: u28 :: u29 :: u30 :: u31 :: u32 :: u33 :: u34 :: u35 :: u36 :: u37 :: u38 :: u39 :: u40 :: u41 :: u42 :: u43 :: u44 :: u45 :: u46 :: u47 :: u48 :: u49 :: u50 :: u51 :: u52 :: u53 :: u54 :: u55 :: u56 :: u57 :: u58 :: u59 :: u60 :: u61 :: u62 :: u63 :: u64 :: u65 :: u66 :: u67 :: u68 :: u69 :: u70 :: u71 :: u72 :: u73 :: u74 :: u75 :: u76 :: u77 :: u78 :: u79 :: u80 :: u81 :: u82 :: u83 :: u84 :: u85 :: u86 :: u87 :: u88 :: u89 :: u90 :: u91 :: u92 :: u93 :: u94 :: u95 :: u96 :: u97 :: u98 :: u99 :: u100 :: u101 :: u102 :: u103 :: u104 :: u105 :: u106 :: u107 :: u108 :: u109 :: u110 :: u111 :: u112 :: u113 :: u114 :: u115 :: u116 :: u117 :: u118 :: u119 :: u120 :: u121 :: u122 :: []), []⟩ W := by
  have hG' := hG
  obtain ⟨ag, kg, rfl, hq3, hq4, hq5⟩ := hG
  obtain ⟨ac, kc, rfl⟩ := hC.slice
  have c8 := h.ck.c8
  replace ho := Lib.hid ho
  replace hcnt := Lib.hid hcnt
  conv => arg 2; whnf
  go_wp2_with fail
  go_loopw [63] (fun i wr => ∃ (j : Nat) (vo : Value), j ≤ gs.length ∧ i = .int .i64 j ∧ AIn w0 w wr xb mi ms b ver (.slice ag gs.length kg) (.slice ac chs.length kc) (orV (gs.take j)) (numsV (gs.take j)) (strsV (gs.take j)) vo (physL (gs.take j)) (.slice none 0 0) ∧ U32 (orV (gs.take j)) ∧ (physL (gs.take j)).length ≤ 32 * j ∧ fb (guestsO b gs j) = none) (fun i _ => gs.length - (intOf i).toNat)
  case atStart => exact ⟨0, _, Nat.zero_le _, rfl, h, (⟨by decide, by decide⟩ : U32 0), Nat.le_refl _, rfl⟩
  case round =>
    obtain ⟨j, vo, hj, rfl, hA, hu, hpl, hn⟩ := hrel
    by_cases hlt : j < gs.length
    · obtain ⟨q, off, rfl, hbl, hcl2⟩ := hq5 (by intro e; rw [e] at hlt; simp at hlt)
      obtain ⟨cs, hR, hcsl, hcell⟩ := hcl2 j hlt
      have hlow := hA.low hc
      have hce : ∀ i u, cs[i]? = some u → wr.cell? ⟨q, off + j * 79 + i, none⟩ = some u := fun i u hu => cell_lt hlow (hcell i u hu) hbl
      have hsl : cs.toArray.size = 79 := by simpa using hcsl
      have hone := hR.one hcsl
      have hix : gs[j]! = gs[j] := getElem!_pos gs j hlt
      have hpi := phys_in hlt
      have hlen := gOk_len (hcnt.out _ (List.getElem_mem hlt))
      have htk := take_one hlt
      have hnk : ∀ x, fb (guestO b (orV (gs.take j)) (numsV (gs.take j)) (strsV (gs.take j)) (physL (gs.take j)) gs[j] j) = some x → o = some x := fun x e => ho.out.trans (fb_left (fb_range hlt hn (by rw [hix]; exact e)))
      have hyk : fb (guestO b (orV (gs.take j)) (numsV (gs.take j)) (strsV (gs.take j)) (physL (gs.take j)) gs[j] j) = none → fb (guestsO b gs (j + 1)) = none := fun e => fb_range_succ hn (by rw [hix]; exact e)
      have e1 : orV (gs.take (j + 1)) = bits .or .u32 (orV (gs.take j)) gs[j].cpus := by rw [htk, orV_snoc]
      have e2 : numsV (gs.take (j + 1)) = numsV (gs.take j) ++ gs[j].irq.map IrqV.num := by rw [htk, numsV_snoc]
      have e3 : strsV (gs.take (j + 1)) = strsV (gs.take j) ++ gs[j].str := by rw [htk, strsV_snoc]
      have e4 : physL (gs.take (j + 1)) = physL (gs.take j) ++ physG gs[j] := by rw [htk, physL_snoc]
      have hac : U32 (orV (gs.take (j + 1))) := by rw [e1]; exact U32.or
      have hpl4 : (physL (gs.take (j + 1))).length ≤ 32 * (j + 1) := by rw [e4, List.length_append, phys_len]; omega
      have hph : physV gs j ≠ [] := by rw [hpi]; exact phys_ne hlen.1.1
      have k1 : ∀ x, fb (procR b (orV (gs.take j)) gs[j] j) = some x → o = some x := fun x e => hnk x (fb_left e)
      have k2 : fb (procR b (orV (gs.take j)) gs[j] j) = none → ∀ x, fb (roomsR b gs[j] j) = some x → o = some x := fun f1 x e => hnk x ((fb_right f1).trans (fb_left e))
      have k3 : fb (procR b (orV (gs.take j)) gs[j] j) = none → fb (roomsR b gs[j] j) = none → ∀ x, fb (linesR b gs[j] (numsV (gs.take j)) (strsV (gs.take j)) j) = some x → o = some x := fun f1 f2 x e => hnk x ((fb_right f1).trans ((fb_right f2).trans (fb_left e)))
      have k4 : fb (procR b (orV (gs.take j)) gs[j] j) = none → fb (roomsR b gs[j] j) = none → fb (linesR b gs[j] (numsV (gs.take j)) (strsV (gs.take j)) j) = none → ∀ x, fb (apartR (physL (gs.take j)) gs[j] j) = some x → o = some x := fun f1 f2 f3 x e => hnk x ((fb_right f1).trans ((fb_right f2).trans ((fb_right f3).trans e)))
      have k5 : fb (procR b (orV (gs.take j)) gs[j] j) = none → fb (roomsR b gs[j] j) = none → fb (linesR b gs[j] (numsV (gs.take j)) (strsV (gs.take j)) j) = none → fb (apartR (physL (gs.take j)) gs[j] j) = none → fb (guestsO b gs (j + 1)) = none := fun f1 f2 f3 e => hyk ((fb_right f1).trans ((fb_right f2).trans ((fb_right f3).trans e)))
      obtain ⟨V, hV⟩ : ∃ V, V = wr.alloc (.cells cs.toArray 50) := ⟨_, rfl⟩
      have hVb : Below wr.heap.size wr V := by rw [hV]; exact bone _ _
      have hVz : V.heap.size = wr.heap.size + 1 := by rw [hV]; simp
      have hnew : ∀ i u, cs[i]? = some u → V.cell? ⟨wr.heap.size, 0 + i, none⟩ = some u := fun i u hu => by rw [hV, Nat.zero_add, World.cell?_alloc_new]; simpa using hu
      have hA2 := hA.then hc hVb
      have hgw := hA.le
      have hgV : wr.heap.size < V.heap.size := by omega
      obtain ⟨g1, g2, g3⟩ := hc.box (k := wr.heap.size) hgw
      have hR0 := hR
      have hcall := proc_any xb b ver _ _ _ mi ms _ _ (j : Int) gs[j] cs V hA2.ck (lasts_guest _ _ _ _ (hA2.low hc) hR) hcsl hcp hu w0.heap.size hc.hx (hA2.low hc).size
      have hrooms := fun (acc' : Int) (vo' : Value) (X : World) (h1 : ChkAt X xb b ver (.slice (some ⟨q, off, none⟩) gs.length kg) (.slice ac chs.length kc) acc' mi ms vo' (.slice none 0 0)) (h2 : GuestR X cs gs[j]) => rooms_any xb b ver _ _ acc' mi ms vo' _ (j : Int) gs[j] cs X h1 h2 hcsl hlen.1.1 ⟨by omega, by omega⟩
      have hlines := fun (acc' : Int) (vo' : Value) (X : World) (h1 : ChkAt X xb b ver (.slice (some ⟨q, off, none⟩) gs.length kg) (.slice ac chs.length kc) acc' mi ms vo' (.slice none 0 0)) (h2 : GuestR X cs gs[j]) (h3 : IrqM X mi (numsV (gs.take j))) (h4 : StrM X ms (strsV (gs.take j))) (h5 : w0.heap.size ≤ X.heap.size) => lines_any xb b ver _ _ acc' mi ms vo' _ (j : Int) gs[j] cs _ _ X h1 h2 hcsl ⟨by omega, by omega⟩ h3 h4 hc.n1 hst w0.heap.size h5 hc.hi hc.hs ⟨hc.n2, hc.n3⟩
      have hapart := fun (acc' : Int) (vo' : Value) (X : World) (h1 : ChkAt X xb b ver (.slice (some ⟨q, off, none⟩) gs.length kg) (.slice ac chs.length kc) acc' mi ms vo' (.slice none 0 0)) (h2 : RowG X (.slice (some ⟨q, off, none⟩) gs.length kg) gs) (h3 : RowC X (.slice ac chs.length kc) chs) (h4 : OwnTwo 24 X w.heap.size vo' (physL (gs.take j))) (h5 : w.heap.size ≤ X.heap.size) => apart_any xb b ver _ _ acc' mi ms vo' _ j gs chs _ X h1 h2 h3 hs hlt hph (by rw [hpi, phys_len]; omega) w0.heap.size w.heap.size hc.bl.size h5 h4 hc.hx
      rw [mustE_fb] at hcall
      simp only [mustE_fb, hpi] at hapart
      change Calls _ _ _ _ (fun e w' => e = endE (fb (procR b (orV (gs.take j)) gs[j] j)) ∧ _) at hcall
      change ∀ acc' vo' X h1 h2 h3 h4 h5, Calls _ _ _ X (fun e w' => e = endE (fb (apartR (physL (gs.take j)) gs[j] j)) ∧ _) at hapart
      rw [← e1] at hcall
      rw [← e2, ← e3] at hlines
      rw [← e4] at hapart
      clear hnk hyk e1 e2 e3 e4 hpi hlen hph htk hcnt hix hcl2 hcell hq5
      generalize fb (procR b (orV (gs.take j)) gs[j] j) = r1 at *
      generalize fb (roomsR b gs[j] j) = r2 at *
      generalize fb (linesR b gs[j] (numsV (gs.take j)) (strsV (gs.take j)) j) = r3 at *
      generalize fb (apartR (physL (gs.take j)) gs[j] j) = r4 at *
      replace k1 := Lib.hid k1
      replace k2 := Lib.hid k2
      replace k3 := Lib.hid k3
      replace k4 := Lib.hid k4
      replace k5 := Lib.hid k5
      replace hn := Lib.hid hn
      replace hV := Lib.hid hV
      replace hVz := Lib.hid hVz
      replace hcsl := Lib.hid hcsl
      replace hsl := Lib.hid hsl
      replace hce := Lib.hid hce
      replace hone := Lib.hid hone
      replace hnew := Lib.hid hnew
      replace hrooms := Lib.hid hrooms
      replace hlines := Lib.hid hlines
      replace hapart := Lib.hid hapart
      go_upto_region 13 with (first | (refine wpl_load_x rfl 50 _ rfl q (off + j * 79) 79 cs Tryz.underlying50 rfl guest_size rfl hcsl.out hce.out ?_) | (refine wpl_alloc_x rfl 50 rfl zGuest_info ?_) | (refine wpl_store_x rfl 50 _ _ rfl (by rw [hsl.out]; exact guest_size) (by rw [hsl.out]; rfl) hone.out rfl rfl ?_))
      rw [← hV.out]
      clear hV hce
      go_wp2_with (refine wpl_load_x rfl 50 _ rfl wr.heap.size 0 79 cs Tryz.underlying50 rfl guest_size rfl hcsl.out hnew.out ?_)
      refine hcall.mono ?_; rintro e W1 ⟨rfl, hoff1, hres1⟩
      cases r1 with
      | some x => exact ⟨rfl, ACt.apost (hA2.off.trans hoff1 (by simp)) (k1.out x rfl)⟩
      | none =>
        have hA3 := hA2.offx hc hoff1 (hres1 rfl)
        have hnew1 : ∀ i u, cs[i]? = some u → W1.cell? ⟨wr.heap.size, 0 + i, none⟩ = some u := fun i u hu => heapc (hoff1.rest wr.heap.size hgV (by simpa using g1)) (hnew.out i u hu)
        have hgV1 : wr.heap.size < W1.heap.size := Nat.lt_of_lt_of_le hgV hoff1.below.size
        clear hcall hres1 hnew
        replace hnew1 := Lib.hid hnew1
        simp only [endE]
        go_wp2_with (refine wpl_load_x rfl 50 _ rfl wr.heap.size 0 79 cs Tryz.underlying50 rfl guest_size rfl hcsl.out hnew1.out ?_)
        refine (hrooms.out _ _ W1 hA3.ck (lasts_guest _ _ _ _ (hA3.low hc) hR)).mono ?_; rintro e W2 ⟨rfl, hb2⟩
        have hA4 := hA3.then hc hb2
        cases r2 with
        | some x => exact ⟨rfl, ACt.apost hA4.off (k2.out (by first | rfl | trivial) x rfl)⟩
        | none =>
          have hnew2 : ∀ i u, cs[i]? = some u → W2.cell? ⟨wr.heap.size, 0 + i, none⟩ = some u := fun i u hu => cell_lt hb2 (hnew1.out i u hu) hgV1
          clear hrooms hnew1
          replace hnew2 := Lib.hid hnew2
          simp only [endE]
          go_wp2_with (refine wpl_load_x rfl 50 _ rfl wr.heap.size 0 79 cs Tryz.underlying50 rfl guest_size rfl hcsl.out hnew2.out ?_)
          refine (hlines.out _ _ W2 hA4.ck (lasts_guest _ _ _ _ (hA4.low hc) hR) hA4.iq hA4.st (hA4.low hc).size).mono ?_; rintro e W3 ⟨rfl, hoff3, hres3⟩
          cases r3 with
          | some x => exact ⟨rfl, ACt.apost (hA4.off.trans hoff3 (by simp)) (k3.out (by first | rfl | trivial) (by first | rfl | trivial) x rfl)⟩
          | none =>
            have hA5 := hA4.offm hc hoff3 (hres3 rfl).1 (hres3 rfl).2
            clear hlines hnew2 hres3
            simp only [endE]
            go_wp2_with fail
            refine (hapart.out _ _ W3 hA5.ck (hG'.below (hA5.low hc) lasts_guest) (hC.below (hA5.low hc) lasts_ch) hA5.ow hA5.le).mono ?_; rintro e W4 ⟨rfl, hoff4, hres4⟩
            cases r4 with
            | some x => exact ⟨rfl, ACt.apost (hA5.offaO hoff4) (k4.out (by first | rfl | trivial) (by first | rfl | trivial) (by first | rfl | trivial) x rfl)⟩
            | none =>
              obtain ⟨vo', hk4, hw4⟩ := hres4 rfl
              have hA6 := hA5.offa hc hoff4 hk4 hw4
              clear hapart hres4
              simp only [endE]
              go_wp2_with fail
              exact ⟨⟨j + 1, vo', hlt, by go_num, hA6, hac, hpl4, k5.out (by first | rfl | trivial) (by first | rfl | trivial) (by first | rfl | trivial) (by first | rfl | trivial)⟩, by simp [intOf]; omega⟩
    · obtain rfl : j = gs.length := by omega
      have ho' := ho.out.trans (fb_right hn)
      rw [List.take_length] at hA hpl
      clear ho hn hu
      replace ho' := Lib.hid ho'
      go_upto_region 999 with ((with_reducible show Code.wp _ _ (bodyPost _ _ _) _ _); exact all6 _ _ _ _ _ _ _ _ _ _ _ _ _ _ _ _ _ _ _ _ _ _ _ _ _ _ _ _ _ _ _ _ _ _ _ _ _ _ _ _ _ _ _ _ _ _ _ _ _ _ _ _ _ _ _ _ _ _ _ _ _ _ _ _ _ _ _ _ _ _ _ _ _ _ _ _ _ _ _ _ _ _ _ _ _ _ _ _ _ _ _ _ _ _ _ _ _ _ _ _ _ _ _ _ _ _ _ _ _ _ _ _ _ _ _ _ _ _ _ _ _ _ hc hA hG' hC hs hgl hcl (by omega) ho'.out)
end Go.Proofs.YtffdfeekpfmbeaaGreat
