/- Put's writing: the channels, the end. -/
import Derived.Test.YtffdfeekpfmbeaaVGP31
import Derived.Test.YtffdfeekpfmbeaaVGP40
import Derived.Test.YtffdfeekpfmbeaaVGP43
namespace Go.Proofs.Ytffdfeekpfmbeaa
open Go Go.RowKit Go.BigFrame

set_option maxRecDepth 100000 in
set_option maxHeartbeats 2000000 in
theorem putc6 (u2 u3 u4 u5 u6 u7 u8 u9 u10 u11 u12 u13 u14 u15 u16 u17 u18 u19 u20 u21 u22 u23 u24 u25 u26 u27 u28 u29 u30 u31 u32 u33 u34 u35 u36 u37 u38 u39 u40 u41 u42 u43 u44 u45 u46 u47 u48 u49 u50 u51 u52 u53 u54 u55 u56 u57 u58 u59 u60 u61 u62 u63 u64 u65 u66 u67 u68 u69 u70 u71 u72 u73 u74 u75 u76 u77 u78 u79 u80 u81 u82 u83 u84 u85 u86 u87 u88 u89 u90 u91 u92 u93 u94 : Value) {w0 w W : World} {n : Nat} {v : Value} {ver : Int} {vg vc : Value} {t : Bool} (h : PIn w0 w W n v ver vg vc) (hn : n ≤ 65536) (ht : t = true) :
    (tailC 6 (Try.f38.body.getD .skip)).wp Try.prog (bodyPost Try.prog Try.f38 (PPost w0 w t)) ⟨List.toArray (.pointer (some ⟨w0.heap.size, 0, none⟩) :: .pointer (some ⟨w0.heap.size + 2, 0, none⟩) :: u2 :: u3 :: u4 :: u5 :: u6 :: u7 :: u8 :: u9 :: u10 :: u11 :: u12 :: u13 :: u14 :: u15 :: u16 :: u17 :: u18 :: u19 :: u20 :: u21 :: u22 :: u23 :: u24 :: u25 :: u26 :: u27 :: u28 :: u29 :: u30 :: u31 :: u32 :: u33 :: u34 :: u35 :: u36 :: u37 :: u38 :: u39 :: u40 :: u41 :: u42 :: u43 :: u44 :: u45 :: u46 :: u47 :: u48 :: u49 :: u50 :: u51 :: u52 :: u53 :: u54 :: u55 :: u56 :: u57 :: u58 :: u59 :: u60 :: u61 :: u62 :: u63 :: u64 :: u65 :: u66 :: u67 :: u68 :: u69 :: u70 :: u71 :: u72 :: u73 :: u74 :: u75 :: u76 :: u77 :: u78 :: u79 :: u80 :: u81 :: u82 :: u83 :: u84 :: u85 :: u86 :: u87 :: u88 :: u89 :: u90 :: u91 :: u92 :: u93 :: u94 :: []), []⟩ W := by
  have c1 := h.ptr
  have c2 := h.wr.cell
  obtain ⟨a, c, hv⟩ := h.wr.own.slice
  rw [hv] at c2
  have f3 : decide ((n : Int) ≤ 65536) = true := decide_eq_true (by omega)
  replace ht := Lib.hid ht
  clear hv
  conv => arg 2; whnf
  go_wp2_with fail
  refine (cmust_any _ _ _ _).mono ?_; rintro e w1 ⟨rfl, rfl⟩
  go_wp2_with fail
  go_end0
  exact h.yes ht.out
def endAt (c : ChV) (k : Nat) : EndV := if k = 0 then c.e0 else c.e1
theorem chB_no {c : ChV} {k : Nat} (hk : k < 2) (h : eOk (endAt c k) = false) : chB c = false := by
  unfold chB
  obtain rfl | rfl : k = 0 ∨ k = 1 := by omega
  · rw [show eOk c.e0 = false from h]; rfl
  · rw [show eOk c.e1 = false from h, Bool.and_false]
theorem chB_yes {c : ChV} (h : ∀ k, k < 2 → eOk (endAt c k) = true) : chB c = true := by
  unfold chB
  rw [show eOk c.e0 = true from h 0 (by decide), show eOk c.e1 = true from h 1 (by decide)]; rfl
theorem end_at (c : ChV) (k : Nat) (hk : k < 2) (w : World) : (Instr.index 42 (.agg #[.int .i64 c.e0.g, .int .i64 c.e0.perm, .int .u64 c.e0.ipa, .int .i64 c.e1.g, .int .i64 c.e1.perm, .int .u64 c.e1.ipa]) (.int .i64 k)).run Try.prog w = .ok (.agg #[.int .i64 (endAt c k).g, .int .i64 (endAt c k).perm, .int .u64 (endAt c k).ipa]) w := by
  obtain rfl | rfl : k = 0 ∨ k = 1 := by omega
  · kernel_rfl
  · kernel_rfl
set_option maxRecDepth 100000 in
set_option maxHeartbeats 8000000 in
theorem putc5 (u2 u3 u4 u5 u6 u7 u8 u9 u10 u11 u12 u13 u14 u15 u16 u17 u18 u19 u20 u21 u22 u23 u24 u25 u26 u27 u28 u29 u30 u31 u32 u33 u34 u35 u36 u37 u38 u39 u40 u41 u42 u43 u44 u45 u46 u47 u48 u49 u50 u51 u52 u53 u54 u55 u56 u57 u58 u59 u60 u61 u62 u63 u64 u65 u66 u67 u68 u69 u70 u71 u72 u73 u74 u75 u76 u77 u78 u79 u80 u81 u82 u83 u84 u85 u86 u87 u88 u89 u90 u91 u92 u93 u94 : Value) {w0 w W : World} {n : Nat} {v : Value} {ver : Int} {vg vc : Value} {t : Bool} {chs : List ChV} (h : PIn w0 w W n v ver vg vc) (hn : n ≤ 60000) (hc : RowC w0 vc chs) (hl : chs.length ≤ 32) (ht : t = chs.all chB) :
    (tailC 5 (Try.f38.body.getD .skip)).wp Try.prog (bodyPost Try.prog Try.f38 (PPost w0 w t)) ⟨List.toArray (.pointer (some ⟨w0.heap.size, 0, none⟩) :: .pointer (some ⟨w0.heap.size + 2, 0, none⟩) :: u2 :: u3 :: u4 :: u5 :: u6 :: u7 :: u8 :: u9 :: u10 :: u11 :: u12 :: u13 :: u14 :: u15 :: u16 :: u17 :: u18 :: u19 :: u20 :: u21 :: u22 :: u23 :: u24 :: u25 :: u26 :: u27 :: u28 :: u29 :: u30 :: u31 :: u32 :: u33 :: u34 :: u35 :: u36 :: u37 :: u38 :: u39 :: u40 :: u41 :: u42 :: u43 :: u44 :: u45 :: u46 :: u47 :: u48 :: u49 :: u50 :: u51 :: u52 :: u53 :: u54 :: u55 :: u56 :: u57 :: u58 :: u59 :: u60 :: u61 :: u62 :: u63 :: u64 :: u65 :: u66 :: u67 :: u68 :: u69 :: u70 :: u71 :: u72 :: u73 :: u74 :: u75 :: u76 :: u77 :: u78 :: u79 :: u80 :: u81 :: u82 :: u83 :: u84 :: u85 :: u86 :: u87 :: u88 :: u89 :: u90 :: u91 :: u92 :: u93 :: u94 :: []), []⟩ W := by
  obtain ⟨qa, qc, rfl, hq3, hq4, hq5⟩ := hc
  have c2 := h.cell.2.2
  have hno : ∀ (k : Nat) (hk : k < chs.length), chB chs[k] = false → t = false := fun k hk h => ht.trans (all_false hk h)
  have hyes : (∀ (k : Nat) (hk : k < chs.length), chB chs[k] = true) → t = true := fun h => ht.trans (all_true' h)
  clear ht
  conv => arg 2; whnf
  go_wp2_with fail
  go_loopw [56] (fun i wr => ∃ (j : Nat) (v' : Value), j ≤ chs.length ∧ i = .int .i64 j ∧ PIn w0 w wr (n + 40 * j) v' ver vg (.slice qa chs.length qc) ∧ ∀ (k : Nat) (hk : k < chs.length), k < j → chB chs[k] = true) (fun i _ => chs.length - (intOf i).toNat)
  case atStart => exact ⟨0, v, Nat.zero_le _, rfl, h, fun k _ hk => by omega⟩
  case round =>
    obtain ⟨j, v', hj, rfl, hG, hall⟩ := hrel
    by_cases hlt : j < chs.length
    · obtain ⟨b, off, rfl, hbl, hcl⟩ := hq5 (by intro e; rw [e] at hlt; simp at hlt)
      obtain ⟨cs, ⟨rfl, h64⟩, hcsl, hcell⟩ := hcl j hlt
      have p0 := cell_lt hG.bl (hcell 0 _ rfl) hbl
      have p1 := cell_lt hG.bl (hcell 1 _ rfl) hbl
      have p2 := cell_lt hG.bl (hcell 2 _ rfl) hbl
      have p3 := cell_lt hG.bl (hcell 3 _ rfl) hbl
      have p4 := cell_lt hG.bl (hcell 4 _ rfl) hbl
      have p5 := cell_lt hG.bl (hcell 5 _ rfl) hbl
      have p6 := cell_lt hG.bl (hcell 6 _ rfl) hbl
      have p7 := cell_lt hG.bl (hcell 7 _ rfl) hbl
      simp only [Nat.add_zero] at p0
      have hnk := hno j hlt
      have hyk : chB chs[j] = true → ∀ (k : Nat) (hk : k < chs.length), k < j + 1 → chB chs[k] = true := fun h k hk h2 => by
        by_cases e : k = j
        · subst e; exact h
        · exact hall k hk (by omega)
      clear hall hno hyes hcl hcell hq5 hcsl
      generalize chs[j] = q at *
      replace hnk := Lib.hid hnk
      replace hyk := Lib.hid hyk
      obtain ⟨V, hV, hVz, hVb, hVc⟩ := eight_new wr (.int .u64 q.pa) (.int .u64 q.sz) (.int .i64 q.e0.g) (.int .i64 q.e0.perm) (.int .u64 q.e0.ipa) (.int .i64 q.e1.g) (.int .i64 q.e1.perm) (.int .u64 q.e1.ipa) 44
      have hGV := hG.then hVb
      have hwbV : wr.heap.size ≠ w0.heap.size + 1 := by have := hG.B; omega
      have hovV : v'.ownBlock ≠ some wr.heap.size := fun e => by have := (hG.wr.own.lt _ e).2; omega
      have hVlt : wr.heap.size < V.heap.size := by omega
      have hrow : RowV (V.alloc (.cells #[.int .u64 q.pa, .int .u64 q.sz] 22)) (.slice (some ⟨V.heap.size, 0, none⟩) 2 2) ([q.pa, q.sz].map (Value.int .u64)) := RowV.lit V _ _
      obtain ⟨V2, hV2⟩ : ∃ V2, V2 = V.alloc (.cells #[.int .u64 q.pa, .int .u64 q.sz] 22) := ⟨_, rfl⟩
      have hb2 : Below V.heap.size V V2 := by rw [hV2]; exact bone _ _
      rw [← hV2] at hrow
      have hG2 := hGV.then hb2
      have hcall := eight_any (w0.heap.size + 1) w0.heap.size _ v' _ [q.pa, q.sz] V2 hG2.wr hrow ⟨by omega, by simp⟩ hG2.le (by omega)
      have hkc : ∀ (j : Nat) (u : Value), #[.int .u64 q.pa, .int .u64 q.sz, .int .i64 q.e0.g, .int .i64 q.e0.perm, .int .u64 q.e0.ipa, .int .i64 q.e1.g, .int .i64 q.e1.perm, .int .u64 q.e1.ipa][j]? = some u → V2.cell? ⟨wr.heap.size, j, none⟩ = some u := fun j u hu => cell_lt hb2 (hVc j u hu) hVlt
      have hz2 := hb2.size
      have hpt := hGV.ptr
      clear hrow
      replace hVc := Lib.hid hVc
      replace hV2 := Lib.hid hV2
      replace hV := Lib.hid hV
      replace hVz := Lib.hid hVz
      replace hkc := Lib.hid hkc
      go_upto_region 12 with fail
      rw [← hV.out]
      have d0 := hVc.out 0 _ rfl
      have d1 := hVc.out 1 _ rfl
      go_wp2_with fail
      rw [← hV2.out]
      refine hcall.mono ?_; rintro e W' ⟨vx, rfl, hw', ht'⟩
      have hG3 := hG2.wt hw' ht'
      have hke := (ht'.keep (Nat.lt_of_lt_of_le hVlt hz2) hwbV hovV).1
      have d2 := heapc hke (hkc.out 2 _ rfl)
      have d3 := heapc hke (hkc.out 3 _ rfl)
      have d4 := heapc hke (hkc.out 4 _ rfl)
      have d5 := heapc hke (hkc.out 5 _ rfl)
      have d6 := heapc hke (hkc.out 6 _ rfl)
      have d7 := heapc hke (hkc.out 7 _ rfl)
      clear d0 d1 hVc hcall hV hV2 p0 p1 p2 p3 p4 p5 p6 p7 hw' ht' hke hkc hVb hb2 hGV hG2 hpt
      obtain ⟨wo, rfl⟩ : ∃ wo, wo = wr := ⟨_, rfl⟩
      have hei := fun k hk => end_at q k hk
      replace hei := Lib.hid hei
      go_wp2_with fail
      go_loopw [69] (fun i wr => ∃ (k : Nat) (v2 : Value), k ≤ 2 ∧ i = .int .i64 k ∧ PIn w0 w wr (n + 40 * j + 16 + 12 * k) v2 ver vg (.slice (some ⟨b, off, none⟩) chs.length qc) ∧ ∀ m, m < k → eOk (endAt q m) = true) (fun i _ => 2 - (intOf i).toNat)
      case atStart => exact ⟨0, vx, Nat.zero_le _, rfl, hG3, fun m hm => by omega⟩
      case round =>
        clear hG3 hG d2 d3 d4 d5 d6 d7
        obtain ⟨k, v2, hk, rfl, hG, hall⟩ := hrel
        by_cases hk2 : k < 2
        · have i0 := hei.out k hk2
          have hkn : eOk (endAt q k) = false → t = false := fun h => hnk.out (chB_no hk2 h)
          have hky : eOk (endAt q k) = true → ∀ m, m < k + 1 → eOk (endAt q m) = true := fun h m hm => by
            by_cases e : m = k
            · subst e; exact h
            · exact hall m (by omega)
          clear hall hei
          generalize endAt q k = x at *
          have hxe : eOk x = (decide (0 ≤ x.g ∧ x.g ≤ 65535) && decide (0 ≤ x.perm ∧ x.perm ≤ 7)) := rfl
          replace hkn := Lib.hid hkn
          replace hky := Lib.hid hky
          replace hxe := Lib.hid hxe
          obtain ⟨V, hV, hVz, hVb, v1, v2', v3⟩ := three_new wr (.int .i64 x.g) (.int .i64 x.perm) (.int .u64 x.ipa) 41
          have hGV := hG.then hVb
          have hlG := hG.B
          have hpV := hGV.ptr
          have hVlt : wr.heap.size < V.heap.size := by omega
          replace hVz := Lib.hid hVz
          replace hV := Lib.hid hV
          go_upto_region 16 with fail
          rw [← hV.out]
          clear hV
          refine region_ordP (fun z => ∃ X : Held2 (w0.heap.size + 2) wr.heap.size V, z = X.x) [([0, 1, 2, 4, 5], 3), ([], 6), ([], 7), ([], 8)] [] (by kernel_rfl) (by kernel_rfl) (by kernel_rfl) (by kernel_rfl) ⟨⟨V.drew, rfl, rfl⟩, rfl⟩ (fun _ _ d _ _ h => by cases d <;> exact h) ?_
          simp only [List.map_cons, List.map_nil, List.filterMap_cons, List.filterMap_nil, List.getElem?_cons_succ, List.getElem?_cons_zero]
          have y0 := held2_cell (c := wr.heap.size) (w0 := V) hpV
          have y1 := held2_cell' (b := w0.heap.size + 2) (w0 := V) v1
          have y2 := held2_cell' (b := w0.heap.size + 2) (w0 := V) v2'
          have hbD : Below V.heap.size V V.drew := (Below.refl _ _).drew
          have hGD := hGV.then hbD
          refine ordP_step ?_
          repeat (change wpQuiet _ _ _ _ (List.cons _ _) _; go_big_quiet_step (fail))
          refine wpQuiet_nil ?_
          intro Q₁ hQ₁ hQp
          simp only [Option.toList]
          go_wp2_with fail
          refine (small_any _ _ _).mono ?_; rintro e w1 ⟨he, rfl⟩
          by_cases h1 : 0 ≤ x.g ∧ x.g ≤ 65535
          case neg =>
            rw [decide_eq_false h1] at he
            obtain ⟨p, z, hz, rfl⟩ := he
            exact hQp _ _ _ ⟨rfl, hGD.no (hkn.out (by rw [hxe.out, decide_eq_false h1]; rfl)) hz⟩
          rw [decide_eq_true h1] at he
          obtain rfl : e = _ := he
          go_wp2_with fail
          refine hQ₁ _ _ ⟨⟨V.drew, rfl, rfl⟩, rfl⟩ ?_
          clear hQ₁ hQp Q₁
          refine ordP_step ?_
          refine wpQuiet_nil ?_
          intro Q₁ hQ₁ hQp
          simp only [Option.toList]
          go_wp2_with fail
          refine (small_any _ _ _).mono ?_; rintro e w1 ⟨he, rfl⟩
          by_cases h2 : 0 ≤ x.perm ∧ x.perm ≤ 7
          case neg =>
            rw [decide_eq_false h2] at he
            obtain ⟨p, z, hz, rfl⟩ := he
            exact hQp _ _ _ ⟨rfl, hGD.no (hkn.out (by rw [hxe.out, decide_eq_false h2, Bool.and_false])) hz⟩
          rw [decide_eq_true h2] at he
          obtain rfl : e = _ := he
          go_wp2_with fail
          refine hQ₁ _ _ ⟨⟨V.drew, rfl, rfl⟩, rfl⟩ ?_
          clear hQ₁ hQp Q₁
          refine ordP_step ?_
          refine wpQuiet_nil ?_
          intro Q₁ hQ₁ hQp
          simp only [Option.toList]
          go_wp2_with fail
          have hbA : Below V.heap.size V (V.alloc (.cells #[.int .i64 x.g, .int .i64 x.perm] 3)).drew := (bone V _).drew
          have hhA := hbA.block wr.heap.size hVlt
          have hhB := hbA.block (w0.heap.size + 2) (by omega)
          have hrow : RowV (V.alloc (.cells #[.int .i64 x.g, .int .i64 x.perm] 3)).drew (.slice (some ⟨V.heap.size, 0, none⟩) 2 2) ([x.g, x.perm].map (Value.int .i64)) := (RowV.lit V #[.int .i64 x.g, .int .i64 x.perm] _).below (Below.refl _ _).drew
          refine hQ₁ _ _ ⟨⟨_, hhB, hhA⟩, rfl⟩ ?_
          clear hQ₁ hQp Q₁
          generalize (V.alloc (.cells #[.int .i64 x.g, .int .i64 x.perm] 3)).drew = V2 at *
          have hG2 := hGV.then hbA
          refine ordP_step ?_
          refine wpQuiet_nil ?_
          intro Q₁ hQ₁ hQp
          simp only [Option.toList]
          have hcall := two_any (w0.heap.size + 1) w0.heap.size _ v2 _ [x.g, x.perm] V2 hG2.wr hrow ⟨by omega, by simp⟩ hG2.le (by omega) (fun b off c e => by
            injection e with e
            injection e with e
            injection e with e
            refine ⟨by omega, fun e2 => ?_⟩
            have := (hGV.wr.own.lt _ e2).2
            omega)
          have hV2lt := hbA.size
          have hwbV : wr.heap.size ≠ w0.heap.size + 1 := by omega
          have hovV : v2.ownBlock ≠ some wr.heap.size := fun e => by have := (hG.wr.own.lt _ e).2; omega
          have hovB : v2.ownBlock ≠ some (w0.heap.size + 2) := fun e => by have := hG.own _ e; have := hG.sz; omega
          have v3' := cell_lt hbA v3 hVlt
          clear hrow hGD hbD v1 v2' v3 y0 y1 y2
          go_wp2_with fail
          refine hcall.mono ?_; rintro e W' ⟨v4, rfl, hw', ht'⟩
          have hG3 := hG2.wt hw' ht'
          have hkp := (ht'.keep (Nat.lt_of_lt_of_le hVlt hV2lt) hwbV hovV).1
          have hkq := (ht'.keep (b := w0.heap.size + 2) (by omega) (by omega) hovB).1
          have v5 := heapc hkp v3'
          clear hcall hw' ht' v3'
          go_wp2_with fail
          refine hQ₁ _ _ ⟨⟨_, hkq.trans hhB, hkp.trans hhA⟩, rfl⟩ ?_
          clear hQ₁ hQp Q₁ hhA hhB hkp hkq
          refine ordP_last ?_
          refine wpQuiet_nil ?_
          have hp3 := hG3.ptr
          have hrow : RowV (W'.alloc (.cells #[.int .u64 x.ipa] 22)) (.slice (some ⟨W'.heap.size, 0, none⟩) 1 1) ([x.ipa].map (Value.int .u64)) := RowV.lit W' _ _
          obtain ⟨V4, hV4⟩ : ∃ V4, V4 = W'.alloc (.cells #[.int .u64 x.ipa] 22) := ⟨_, rfl⟩
          have hb4 : Below W'.heap.size W' V4 := by rw [hV4]; exact bone _ _
          rw [← hV4] at hrow
          have hG4 := hG3.then hb4
          have hcall := eight_any (w0.heap.size + 1) w0.heap.size _ v4 _ [x.ipa] V4 hG4.wr hrow ⟨by simp; omega, by simp⟩ hG4.le (by omega)
          clear hrow
          replace hV4 := Lib.hid hV4
          go_wp2_with fail
          rw [← hV4.out]
          refine hcall.mono ?_; rintro e W5 ⟨v6, rfl, hw', ht'⟩
          have hG5 := hG4.wt hw' ht'
          clear hcall hw' ht' hV4 v5 hp3
          go_wp2_with fail
          have e1 : n + 40 * j + 16 + 12 * (k + 1) = n + 40 * j + 16 + 12 * k + 2 * [x.g, x.perm].length + 8 * [x.ipa].length := by simp; omega
          exact ⟨⟨k + 1, v6, by omega, by go_num, by rw [e1]; exact hG5, hky.out (by rw [hxe.out, decide_eq_true h1, decide_eq_true h2]; rfl)⟩, by simp [intOf]; omega⟩
        · obtain rfl : k = 2 := by omega
          have hq := hyk.out (chB_yes hall)
          clear hall hnk hei hyk
          replace hq := Lib.hid hq
          go_wp2_with fail
          exact ⟨⟨j + 1, v2, by omega, by go_num, by rw [show n + 40 * (j + 1) = n + 40 * j + 16 + 12 * 2 by omega]; exact hG, hq.out⟩, by simp [intOf]; omega⟩
    · obtain rfl : j = chs.length := by omega
      have ht := hyes (fun k hk => hall k hk hk)
      clear hyes hno hall
      replace ht := Lib.hid ht
      go_upto_region 999 with ((with_reducible show Code.wp _ _ (bodyPost _ _ _) _ _); exact putc6 _ _ _ _ _ _ _ _ _ _ _ _ _ _ _ _ _ _ _ _ _ _ _ _ _ _ _ _ _ _ _ _ _ _ _ _ _ _ _ _ _ _ _ _ _ _ _ _ _ _ _ _ _ _ _ _ _ _ _ _ _ _ _ _ _ _ _ _ _ _ _ _ _ _ _ _ _ _ _ _ _ _ _ _ _ _ _ _ _ _ _ _ _ hG (by omega) ht.out)
end Go.Proofs.Ytffdfeekpfmbeaa
/- Put's writing: the guests, the head. -/
namespace Go.Proofs.Ytffdfeekpfmbeaa
open Go Go.RowKit Go.BigFrame

set_option maxRecDepth 100000 in
set_option maxHeartbeats 8000000 in
theorem putc4 (u2 u3 u4 u5 u6 u7 u8 u9 u10 u11 u12 u13 u14 u15 u16 u17 u18 u19 u20 u21 u22 u23 u24 u25 u26 u27 u28 u29 u30 u31 u32 u33 u34 u35 u36 u37 u38 u39 u40 u41 u42 u43 u44 u45 u46 u47 u48 u49 u50 u51 u52 u53 u54 u55 u56 u57 u58 u59 u60 u61 u62 u63 u64 u65 u66 u67 u68 u69 u70 u71 u72 u73 u74 u75 u76 u77 u78 u79 u80 u81 u82 u83 u84 u85 u86 u87 u88 u89 u90 u91 u92 u93 u94 : Value) {w0 w W : World} {n : Nat} {v : Value} {ver : Int} {vg vc : Value} {t : Bool} {gs : List GuestV} {chs : List ChV} (h : PIn w0 w W n v ver vg vc) (hn : n ≤ 16) (hg : RowG w0 vg gs) (hc : RowC w0 vc chs) (hgl : gs.length ≤ 16) (hl : chs.length ≤ 32) (ht : t = (gs.all gOk && chs.all chB)) (hns : ∀ g ∈ gs, g.name.size ≤ 1000000) :
    (tailC 4 (Try.f38.body.getD .skip)).wp Try.prog (bodyPost Try.prog Try.f38 (PPost w0 w t)) ⟨List.toArray (.pointer (some ⟨w0.heap.size, 0, none⟩) :: .pointer (some ⟨w0.heap.size + 2, 0, none⟩) :: u2 :: u3 :: u4 :: u5 :: u6 :: u7 :: u8 :: u9 :: u10 :: u11 :: u12 :: u13 :: u14 :: u15 :: u16 :: u17 :: u18 :: u19 :: u20 :: u21 :: u22 :: u23 :: u24 :: u25 :: u26 :: u27 :: u28 :: u29 :: u30 :: u31 :: u32 :: u33 :: u34 :: u35 :: u36 :: u37 :: u38 :: u39 :: u40 :: u41 :: u42 :: u43 :: u44 :: u45 :: u46 :: u47 :: u48 :: u49 :: u50 :: u51 :: u52 :: u53 :: u54 :: u55 :: u56 :: u57 :: u58 :: u59 :: u60 :: u61 :: u62 :: u63 :: u64 :: u65 :: u66 :: u67 :: u68 :: u69 :: u70 :: u71 :: u72 :: u73 :: u74 :: u75 :: u76 :: u77 :: u78 :: u79 :: u80 :: u81 :: u82 :: u83 :: u84 :: u85 :: u86 :: u87 :: u88 :: u89 :: u90 :: u91 :: u92 :: u93 :: u94 :: []), []⟩ W := by
  obtain ⟨qa, qc, rfl, hq3, hq4, hq5⟩ := hg
  have c1 := h.cell.2.1
  have hno : ∀ (k : Nat) (hk : k < gs.length), gOk gs[k] = false → t = false := fun k hk h => by rw [ht, all_false hk h]; rfl
  have hyes : (∀ (k : Nat) (hk : k < gs.length), gOk gs[k] = true) → t = chs.all chB := fun h => by rw [ht, all_true' h]; rfl
  clear ht
  conv => arg 2; whnf
  go_wp2_with fail
  go_loopw [45] (fun i wr => ∃ (j m : Nat) (v' : Value), j ≤ gs.length ∧ i = .int .i64 j ∧ PIn w0 w wr m v' ver (.slice qa gs.length qc) vc ∧ m ≤ n + 1596 * j ∧ ∀ (k : Nat) (hk : k < gs.length), k < j → gOk gs[k] = true) (fun i _ => gs.length - (intOf i).toNat)
  case atStart => exact ⟨0, n, v, Nat.zero_le _, rfl, h, Nat.le_refl _, fun k _ hk => by omega⟩
  case round =>
    obtain ⟨j, m, v', hj, rfl, hG, hm, hall⟩ := hrel
    by_cases hlt : j < gs.length
    · obtain ⟨b, off, rfl, hbl, hcl⟩ := hq5 (by intro e; rw [e] at hlt; simp at hlt)
      obtain ⟨cs, hR, hcsl, hcell⟩ := hcl j hlt
      have hce : ∀ i u, cs[i]? = some u → wr.cell? ⟨b, off + j * 79 + i, none⟩ = some u := fun i u hu => cell_lt hG.bl (hcell i u hu) hbl
      have hsl : cs.toArray.size = 79 := by simpa using hcsl
      have hone := hR.one hcsl
      have hnk := hno j hlt
      have hyk : gOk gs[j] = true → ∀ (k : Nat) (hk : k < gs.length), k < j + 1 → gOk gs[k] = true := fun h k hk h2 => by
        by_cases e : k = j
        · subst e; exact h
        · exact hall k hk (by omega)
      have hnm := hns _ (List.getElem_mem hlt)
      clear hall hno hyes hcl hcell hq5 hns
      generalize gs[j] = q at *
      replace hnk := Lib.hid hnk
      replace hyk := Lib.hid hyk
      obtain ⟨V, hV⟩ : ∃ V, V = wr.alloc (.cells cs.toArray 61) := ⟨_, rfl⟩
      have hVb : Below wr.heap.size wr V := by rw [hV]; exact bone _ _
      have hnew : ∀ i u, cs[i]? = some u → V.cell? ⟨wr.heap.size, 0 + i, none⟩ = some u := fun i u hu => by rw [hV, Nat.zero_add, World.cell?_alloc_new]; simpa using hu
      have hGV := hG.then hVb
      have hpV := hGV.ptr
      have hcall := putGuest_any w0 (w0.heap.size + 1) m v' q cs V hR hcsl hGV.wr hGV.bl (by omega) (by omega) hnm
      replace hnew := Lib.hid hnew
      replace hcsl := Lib.hid hcsl
      replace hsl := Lib.hid hsl
      replace hce := Lib.hid hce
      replace hV := Lib.hid hV
      go_upto_region 7 with (first | (refine wpl_load_x rfl 61 _ rfl b (off + j * 79) 79 cs Try.underlying61 rfl guest_size rfl hcsl.out hce.out ?_) | (refine wpl_alloc_x rfl 61 rfl zGuest_info ?_) | (refine wpl_store_x rfl 61 _ _ rfl (by rw [hsl.out]; exact guest_size) (by rw [hsl.out]; rfl) hone rfl rfl ?_))
      rw [← hV.out]
      clear hV
      go_wp2_with (refine wpl_load_x rfl 61 _ rfl wr.heap.size 0 79 cs Try.underlying61 rfl guest_size rfl hcsl.out hnew.out ?_)
      refine hcall.mono ?_; rintro e W' ⟨hE, v2, m2, hm2, hw', ht'⟩
      have hG2 := hGV.wt hw' ht'
      clear hcall hw' ht' hpV hnew hce
      by_cases hq : gOk q = true
      case neg =>
        rw [Bool.not_eq_true] at hq
        rw [hq] at hE
        have hb := hG2.bad (hnk.out hq) hE
        obtain ⟨p, z, hz, rfl⟩ := hE
        exact ⟨rfl, hb⟩
      rw [hq] at hE
      obtain rfl : e = _ := hE
      replace hq := Lib.hid hq
      go_wp2_with fail
      exact ⟨⟨j + 1, m2, v2, hlt, by go_num, hG2, by omega, hyk.out hq.out⟩, by simp [intOf]; omega⟩
    · obtain rfl : j = gs.length := by omega
      have ht := hyes (fun k hk => hall k hk hk)
      clear hyes hno hall
      replace ht := Lib.hid ht
      go_upto_region 999 with ((with_reducible show Code.wp _ _ (bodyPost _ _ _) _ _); exact putc5 _ _ _ _ _ _ _ _ _ _ _ _ _ _ _ _ _ _ _ _ _ _ _ _ _ _ _ _ _ _ _ _ _ _ _ _ _ _ _ _ _ _ _ _ _ _ _ _ _ _ _ _ _ _ _ _ _ _ _ _ _ _ _ _ _ _ _ _ _ _ _ _ _ _ _ _ _ _ _ _ _ _ _ _ _ _ _ _ _ _ _ _ _ hG (by omega) hc hl ht.out)
set_option maxRecDepth 100000 in
set_option maxHeartbeats 8000000 in
theorem putc1 (u2 u3 u4 u5 u6 u7 u8 u9 u10 u11 u12 u13 u14 u15 u16 u17 u18 u19 u20 u21 u22 u23 u24 u25 u26 u27 u28 u29 u30 u31 u32 u33 u34 u35 u36 u37 u38 u39 u40 u41 u42 u43 u44 u45 u46 u47 u48 u49 u50 u51 u52 u53 u54 u55 u56 u57 u58 u59 u60 u61 u62 u63 u64 u65 u66 u67 u68 u69 u70 u71 u72 u73 u74 u75 u76 u77 u78 u79 u80 u81 u82 u83 u84 u85 u86 u87 u88 u89 u90 u91 u92 u93 u94 : Value) {w0 w W : World} {v : Value} {ver : Int} {vg vc : Value} {t : Bool} {gs : List GuestV} {chs : List ChV} (h : PIn w0 w W 0 v ver vg vc) (hg : RowG w0 vg gs) (hc : RowC w0 vc chs) (hgl : gs.length ≤ 16) (hl : chs.length ≤ 32) (ht : t = (gs.all gOk && chs.all chB)) (hns : ∀ g ∈ gs, g.name.size ≤ 1000000) :
    (tailC 1 (Try.f38.body.getD .skip)).wp Try.prog (bodyPost Try.prog Try.f38 (PPost w0 w t)) ⟨List.toArray (.pointer (some ⟨w0.heap.size, 0, none⟩) :: .pointer (some ⟨w0.heap.size + 2, 0, none⟩) :: u2 :: u3 :: u4 :: u5 :: u6 :: u7 :: u8 :: u9 :: u10 :: u11 :: u12 :: u13 :: u14 :: u15 :: u16 :: u17 :: u18 :: u19 :: u20 :: u21 :: u22 :: u23 :: u24 :: u25 :: u26 :: u27 :: u28 :: u29 :: u30 :: u31 :: u32 :: u33 :: u34 :: u35 :: u36 :: u37 :: u38 :: u39 :: u40 :: u41 :: u42 :: u43 :: u44 :: u45 :: u46 :: u47 :: u48 :: u49 :: u50 :: u51 :: u52 :: u53 :: u54 :: u55 :: u56 :: u57 :: u58 :: u59 :: u60 :: u61 :: u62 :: u63 :: u64 :: u65 :: u66 :: u67 :: u68 :: u69 :: u70 :: u71 :: u72 :: u73 :: u74 :: u75 :: u76 :: u77 :: u78 :: u79 :: u80 :: u81 :: u82 :: u83 :: u84 :: u85 :: u86 :: u87 :: u88 :: u89 :: u90 :: u91 :: u92 :: u93 :: u94 :: []), []⟩ W := by
  have hp := h.ptr
  have hrow : RowV (W.alloc (.cells #[.int .u32 1111705159] 27)) (.slice (some ⟨W.heap.size, 0, none⟩) 1 1) ([1111705159].map (Value.int .u32)) := RowV.lit W _ _
  obtain ⟨V1, hV1⟩ : ∃ V1, V1 = W.alloc (.cells #[.int .u32 1111705159] 27) := ⟨_, rfl⟩
  have hb1 : Below W.heap.size W V1 := by rw [hV1]; exact bone _ _
  rw [← hV1] at hrow
  have hG1 := h.then hb1
  have hcall := four_any (w0.heap.size + 1) w0.heap.size _ v _ [1111705159] V1 hG1.wr hrow ⟨by omega, by simp⟩ hG1.le (by omega)
  clear hrow
  replace hV1 := Lib.hid hV1
  replace ht := Lib.hid ht
  replace hns := Lib.hid hns
  conv => arg 2; whnf
  go_wp2_with fail
  rw [← hV1.out]
  refine hcall.mono ?_; rintro e W2 ⟨v2, rfl, hw', ht'⟩
  have hG2 := hG1.wt hw' ht'
  clear hcall hw' ht' hV1 hb1 hG1 hp
  have hg' := hg
  have hc' := hc
  obtain ⟨ag, cg, rfl, _⟩ := hg'
  obtain ⟨ac, cc, rfl, _⟩ := hc'
  have hp := hG2.ptr
  obtain ⟨c0, c1, c2⟩ := hG2.cell
  have hrow : RowV (W2.alloc (.cells #[.int .i64 1, .int .i64 gs.length, .int .i64 chs.length, .int .i64 0] 3)) (.slice (some ⟨W2.heap.size, 0, none⟩) 4 4) ([(1 : Int), (gs.length : Int), (chs.length : Int), (0 : Int)].map (Value.int .i64)) := RowV.lit W2 _ _
  obtain ⟨V3, hV3⟩ : ∃ V3, V3 = W2.alloc (.cells #[.int .i64 1, .int .i64 gs.length, .int .i64 chs.length, .int .i64 0] 3) := ⟨_, rfl⟩
  have hb3 : Below W2.heap.size W2 V3 := by rw [hV3]; exact bone _ _
  rw [← hV3] at hrow
  have hG3 := hG2.then hb3
  have hB2 := hG2.B
  have hcall := two_any (w0.heap.size + 1) w0.heap.size _ v2 _ [(1 : Int), (gs.length : Int), (chs.length : Int), (0 : Int)] V3 hG3.wr hrow ⟨by simp, by simp⟩ hG3.le (by omega) (fun b off c e => by
    injection e with e
    injection e with e
    injection e with e
    refine ⟨by omega, fun e2 => ?_⟩
    have := (hG2.wr.own.lt _ e2).2
    omega)
  clear hrow
  replace hV3 := Lib.hid hV3
  go_wp2_with fail
  rw [← hV3.out]
  refine hcall.mono ?_; rintro e W4 ⟨v4, rfl, hw', ht'⟩
  have hG4 := hG3.wt hw' ht'
  clear hcall hw' ht' hV3 hb3 hG3 hp c0 c1 c2
  have hp := hG4.ptr
  have c0 := hG4.cell.1
  have hrow : RowV (W4.alloc (.cells #[.int .u32 ver] 27)) (.slice (some ⟨W4.heap.size, 0, none⟩) 1 1) ([ver].map (Value.int .u32)) := RowV.lit W4 _ _
  obtain ⟨V5, hV5⟩ : ∃ V5, V5 = W4.alloc (.cells #[.int .u32 ver] 27) := ⟨_, rfl⟩
  have hb5 : Below W4.heap.size W4 V5 := by rw [hV5]; exact bone _ _
  rw [← hV5] at hrow
  have hG5 := hG4.then hb5
  have hcall := four_any (w0.heap.size + 1) w0.heap.size _ v4 _ [ver] V5 hG5.wr hrow ⟨by simp, by simp⟩ hG5.le (by omega)
  clear hrow
  replace hV5 := Lib.hid hV5
  go_wp2_with fail
  rw [← hV5.out]
  refine hcall.mono ?_; rintro e W6 ⟨v6, rfl, hw', ht'⟩
  have hG6 := hG5.wt hw' ht'
  clear hcall hw' ht' hV5 hb5 hG5 hp c0
  go_upto_region 999 with ((with_reducible show Code.wp _ _ (bodyPost _ _ _) _ _); exact putc4 _ _ _ _ _ _ _ _ _ _ _ _ _ _ _ _ _ _ _ _ _ _ _ _ _ _ _ _ _ _ _ _ _ _ _ _ _ _ _ _ _ _ _ _ _ _ _ _ _ _ _ _ _ _ _ _ _ _ _ _ _ _ _ _ _ _ _ _ _ _ _ _ _ _ _ _ _ _ _ _ _ _ _ _ _ _ _ _ _ _ _ _ _ hG6 (by simp) hg hc hgl hl ht.out hns.out)
set_option maxRecDepth 100000 in
set_option maxHeartbeats 8000000 in
theorem putc_any {w0 w : World} {ver : Int} {vg vc : Value} {gs : List GuestV} {chs : List ChV} (h : PIn w0 w w 0 (.slice none 0 0) ver vg vc) (hg : RowG w0 vg gs) (hc : RowC w0 vc chs) (hns : ∀ g ∈ gs, g.name.size ≤ 1000000) :
    Calls Try.prog 38 #[.pointer (some ⟨w0.heap.size, 0, none⟩), .pointer (some ⟨w0.heap.size + 2, 0, none⟩)] w fun e w' => PPost w0 w (putOk gs chs) e w' := by
  have hg' := hg
  have hc' := hc
  obtain ⟨ag, cg, rfl, _⟩ := hg'
  obtain ⟨ac, cc, rfl, _⟩ := hc'
  obtain ⟨c0, c1, c2⟩ := h.cell
  have hok := putOk_eq gs chs
  replace hok := Lib.hid hok
  replace hns := Lib.hid hns
  by_cases b1 : 1 ≤ gs.length
  case neg =>
    have hb := hok.out.trans (by rw [decide_eq_false (by omega)])
    replace hb := Lib.hid hb
    go_enter Try.func38, Try.ntmps38
    go_wp2_with fail
    refine (cmust_any _ _ _ _).mono ?_; rintro e w1 ⟨rfl, rfl⟩
    exact ⟨rfl, h.no hb.out (by decide)⟩
  by_cases b2 : gs.length ≤ 16
  case neg =>
    have hb := hok.out.trans (by rw [decide_eq_false (by omega)])
    replace hb := Lib.hid hb
    go_enter Try.func38, Try.ntmps38
    go_wp2_with fail
    refine (cmust_any _ _ _ _).mono ?_; rintro e w1 ⟨rfl, rfl⟩
    exact ⟨rfl, h.no hb.out (by decide)⟩
  by_cases b3 : chs.length ≤ 32
  case neg =>
    have hb := hok.out.trans (by rw [decide_eq_false b3, Bool.and_false])
    have f3 : decide ((chs.length : Int) ≤ 32) = false := decide_eq_false (by omega)
    replace hb := Lib.hid hb
    go_enter Try.func38, Try.ntmps38
    go_wp2_with fail
    refine (cmust_any _ _ _ _).mono ?_; rintro e w1 ⟨rfl, rfl⟩
    exact ⟨rfl, h.no hb.out (by decide)⟩
  have hb := hok.out.trans (by rw [decide_eq_true ⟨b1, b2⟩, decide_eq_true b3])
  have f3 : decide ((chs.length : Int) ≤ 32) = true := decide_eq_true (by omega)
  replace hb := Lib.hid hb
  go_enter Try.func38, Try.ntmps38
  go_wp2_with fail
  refine (cmust_any _ _ _ _).mono ?_; rintro e w1 ⟨rfl, rfl⟩
  go_upto_region 999 with ((with_reducible show Code.wp _ _ (bodyPost _ _ _) _ _); exact putc1 _ _ _ _ _ _ _ _ _ _ _ _ _ _ _ _ _ _ _ _ _ _ _ _ _ _ _ _ _ _ _ _ _ _ _ _ _ _ _ _ _ _ _ _ _ _ _ _ _ _ _ _ _ _ _ _ _ _ _ _ _ _ _ _ _ _ _ _ _ _ _ _ _ _ _ _ _ _ _ _ _ _ _ _ _ _ _ _ _ _ _ _ _ h hg hc b2 b3 hb.out hns.out)
/-- Put: its error, nil or not. -/
theorem put_any (ver : Int) (vg vc : Value) (gs : List GuestV) (chs : List ChV) (w : World) (hg : RowG w vg gs) (hc : RowC w vc chs) (hns : ∀ g ∈ gs, g.name.size ≤ 1000000) :
    Calls Try.prog 24 #[.agg #[.int .u32 ver, vg, vc]] w fun e w' => (∃ v n, e = .returned (.tuple #[v, .int .i64 n]) ∧ (n = 0 ↔ putOk gs chs = true)) ∧ Below w.heap.size w w' := by
  refine put_of ver vg vc (by obtain ⟨a, c, h, _⟩ := hg; exact ⟨a, _, c, h⟩) (by obtain ⟨a, c, h, _⟩ := hc; exact ⟨a, _, c, h⟩) (putOk gs chs) w ?_
  intro W hb hw hcf hpw
  exact putc_any ⟨hw, hb, WT.refl _ _ _ _, hcf, hpw, (Array.getElem?_eq_some_iff.1 hpw).1⟩ hg hc hns
end Go.Proofs.Ytffdfeekpfmbeaa
