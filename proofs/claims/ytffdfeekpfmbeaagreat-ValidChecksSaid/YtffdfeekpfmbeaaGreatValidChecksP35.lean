/- The writer of a guest: the interrupts. -/
import Derived.Deep.Cut
import Derived.Test.YtffdfeekpfmbeaaGreatValidChecksP17
import Derived.Test.YtffdfeekpfmbeaaGreatValidChecksP31
import Derived.Test.YtffdfeekpfmbeaaGreatValidChecksP34
namespace Go.Proofs.YtffdfeekpfmbeaaGreat
open Go Go.RowKit Go.BigFrame

def irqB (x : IrqV) : Bool := decide (0 ≤ x.num ∧ x.num ≤ 65535) && decide (0 ≤ x.cpu ∧ x.cpu ≤ 65535)
set_option maxRecDepth 100000 in
set_option maxHeartbeats 8000000 in
theorem guest14 (u1 u2 u4 u5 u6 u7 u8 u9 u10 u11 u12 u13 u14 u15 u16 u17 u18 u19 u20 u21 u22 u23 u24 u25 u26 u27 u28 u29 u30 u31 u32 u33 u34 u35 u36 u37 u38 u39 u40 u41 u42 u43 u44 u45 u46 u47 u48 u49 u50 u51 u52 u53 u54 u55 u56 u57 u58 u59 u60 u61 u62 u63 u64 u65 u66 u67 u68 u69 u70 u71 u72 u73 u74 u75 u76 u77 u78 u79 u80 u81 u82 u83 u84 u85 u86 u87 u88 u89 u90 u91 u92 u93 u94 u95 u96 u97 u98 u99 u100 u101 u102 u103 u104 u105 u106 u107 u108 u109 u110 u111 u112 u113 u114 u115 u116 u117 u118 u119 u120 u121 u122 u123 u124 u125 u126 u127 u128 u129 u130 u131 u132 u133 u134 u135 u136 u137 u138 u139 u140 u141 u142 u143 u144 u145 u146 u147 u148 u149 u150 u151 u152 u153 u154 u155 u156 u157 u158 u159 u160 u161 u162 u163 u164 u165 u166 u167 u168 u169 u170 u171 : Value) {w0 w W : World} {wb gb n0 n : Nat} {v0 v : Value} {t : GuestV} {C : Array Value} (h : GIn w0 w W wb gb n v0 v t C) (hn : n ≤ n0 + 956) (h0 : n0 ≤ 1000000) (hc : cntOk t = true) (hg : gOk t = t.irq.all irqB) :
    (tailC 14 (Tryz.f54.body.getD .skip)).wp Tryz.prog (bodyPost Tryz.prog Tryz.f54 (GPost w0 w wb n0 v0 t)) ⟨List.toArray (.pointer (some ⟨wb, 0, none⟩) :: u1 :: u2 :: .pointer (some ⟨gb, 0, none⟩) :: u4 :: u5 :: u6 :: u7 :: u8 :: u9 :: u10 :: u11 :: u12 :: u13 :: u14 :: u15 :: u16 :: u17 :: u18 :: u19 :: u20 :: u21 :: u22 :: u23 :: u24 :: u25 :: u26 :: u27 :: u28 :: u29 :: u30 :: u31 :: u32 :: u33 :: u34 :: u35 :: u36 :: u37 :: u38 :: u39 :: u40 :: u41 :: u42 :: u43 :: u44 :: u45 :: u46 :: u47 :: u48 :: u49 :: u50 :: u51 :: u52 :: u53 :: u54 :: u55 :: u56 :: u57 :: u58 :: u59 :: u60 :: u61 :: u62 :: u63 :: u64 :: u65 :: u66 :: u67 :: u68 :: u69 :: u70 :: u71 :: u72 :: u73 :: u74 :: u75 :: u76 :: u77 :: u78 :: u79 :: u80 :: u81 :: u82 :: u83 :: u84 :: u85 :: u86 :: u87 :: u88 :: u89 :: u90 :: u91 :: u92 :: u93 :: u94 :: u95 :: u96 :: u97 :: u98 :: u99 :: u100 :: u101 :: u102 :: u103 :: u104 :: u105 :: u106 :: u107 :: u108 :: u109 :: u110 :: u111 :: u112 :: u113 :: u114 :: u115 :: u116 :: u117 :: u118 :: u119 :: u120 :: u121 :: u122 :: u123 :: u124 :: u125 :: u126 :: u127 :: u128 :: u129 :: u130 :: u131 :: u132 :: u133 :: u134 :: u135 :: u136 :: u137 :: u138 :: u139 :: u140 :: u141 :: u142 :: u143 :: u144 :: u145 :: u146 :: u147 :: u148 :: u149 :: u150 :: u151 :: u152 :: u153 :: u154 :: u155 :: u156 :: u157 :: u158 :: u159 :: u160 :: u161 :: u162 :: u163 :: u164 :: u165 :: u166 :: u167 :: u168 :: u169 :: u170 :: u171 :: []), []⟩ W := by
  obtain ⟨qv, hq1, hq2⟩ := h.gr.irq
  obtain ⟨qa, qc, rfl, hq3, hq4, hq5⟩ := hq2
  have c10 := h.cell hq1
  have hlen := gOk_len hc
  have hL : t.irq.length ≤ 64 := hlen.2.2.1
  have hno : ∀ (k : Nat) (hk : k < t.irq.length), irqB t.irq[k] = false → gOk t = false := fun k hk h => hg.trans (all_false hk h)
  have hyes : (∀ (k : Nat) (hk : k < t.irq.length), irqB t.irq[k] = true) → gOk t = true := fun h => hg.trans (all_true' h)
  replace hc := Lib.hid hc
  clear hg hq1 hlen
  conv => arg 2; whnf
  go_wp2_with fail
  go_loopw [148] (fun i wr => ∃ (j : Nat) (v' : Value), j ≤ t.irq.length ∧ i = .int .i64 j ∧ GIn w0 w wr wb gb (n + 8 * j) v0 v' t C ∧ ∀ (k : Nat) (hk : k < t.irq.length), k < j → irqB t.irq[k] = true) (fun i _ => t.irq.length - (intOf i).toNat)
  case atStart => exact ⟨0, v, Nat.zero_le _, rfl, h, fun k _ hk => by omega⟩
  case round =>
    obtain ⟨j, v', hj, rfl, hG, hall⟩ := hrel
    by_cases hlt : j < t.irq.length
    · obtain ⟨b, off, rfl, hbl, hcl⟩ := hq5 (by intro e; rw [e] at hlt; simp at hlt)
      obtain ⟨cs, ⟨rfl, hn64, hc64⟩, hcsl, hcell⟩ := hcl j hlt
      have p0 := cell_lt hG.st.bl (hcell 0 _ rfl) hbl
      have p1 := cell_lt hG.st.bl (hcell 1 _ rfl) hbl
      have p2 := cell_lt hG.st.bl (hcell 2 _ rfl) hbl
      simp only [Nat.add_zero] at p0
      have hnk := hno j hlt
      have hyk : irqB t.irq[j] = true → ∀ (k : Nat) (hk : k < t.irq.length), k < j + 1 → irqB t.irq[k] = true := fun h k hk h2 => by
        by_cases e : k = j
        · subst e; exact h
        · exact hall k hk (by omega)
      clear hall hno hyes hcl hcell hq5 hcsl
      generalize t.irq[j] = q at *
      have hqb : irqB q = (decide (0 ≤ q.num ∧ q.num ≤ 65535) && decide (0 ≤ q.cpu ∧ q.cpu ≤ 65535)) := rfl
      replace hnk := Lib.hid hnk
      replace hyk := Lib.hid hyk
      replace hqb := Lib.hid hqb
      obtain ⟨V, hV, hVz, hVb, v1, v2, v3⟩ := three_new wr (.int .i64 q.num) (.int .i64 q.cpu) (.bool q.edge) 101
      have hGV := hG.then hVb
      have hlV := hGV.lt
      have hlG := hG.lt
      replace hVz := Lib.hid hVz
      go_wp2_with fail
      rw [← hV]
      clear hV
      refine region_ordP (fun z => ∃ X : HeldB wr.heap.size V, z = X.x) [([0, 1, 2, 4, 5], 3), ([], 6), ([], 7), ([], 8)] [] (by kernel_rfl) (by kernel_rfl) (by kernel_rfl) (by kernel_rfl) ⟨⟨V.drew, rfl⟩, rfl⟩ (fun _ _ d _ _ h => by cases d <;> exact h) ?_
      simp only [List.map_cons, List.map_nil, List.filterMap_cons, List.filterMap_nil, List.getElem?_cons_succ, List.getElem?_cons_zero]
      have y1 := held_cell (w0 := V) v1
      have y2 := held_cell (w0 := V) v2
      have hbD : Below V.heap.size V V.drew := (Below.refl _ _).drew
      have hGD := hGV.then hbD
      refine ordP_step ?_
      repeat (change wpQuiet _ _ _ _ (List.cons _ _) _; go_big_quiet_step (fail))
      refine wpQuiet_nil ?_
      intro Q₁ hQ₁ hQp
      simp only [Option.toList]
      go_wp2_with fail
      refine (small_any _ _ _).mono ?_; rintro e w1 ⟨he, rfl⟩
      by_cases h1 : 0 ≤ q.num ∧ q.num ≤ 65535
      case neg =>
        rw [decide_eq_false h1] at he
        obtain ⟨p, k, hk, rfl⟩ := he
        exact hQp _ _ _ ⟨rfl, hGD.no (by omega) (hnk.out (by rw [hqb.out, decide_eq_false h1]; rfl)) hk⟩
      rw [decide_eq_true h1] at he
      obtain rfl : e = _ := he
      go_wp2_with fail
      refine hQ₁ _ _ ⟨⟨V.drew, rfl⟩, rfl⟩ ?_
      clear hQ₁ hQp Q₁
      refine ordP_step ?_
      refine wpQuiet_nil ?_
      intro Q₁ hQ₁ hQp
      simp only [Option.toList]
      go_wp2_with fail
      refine (small_any _ _ _).mono ?_; rintro e w1 ⟨he, rfl⟩
      by_cases h2 : 0 ≤ q.cpu ∧ q.cpu ≤ 65535
      case neg =>
        rw [decide_eq_false h2] at he
        obtain ⟨p, k, hk, rfl⟩ := he
        exact hQp _ _ _ ⟨rfl, hGD.no (by omega) (hnk.out (by rw [hqb.out, decide_eq_false h2, Bool.and_false])) hk⟩
      rw [decide_eq_true h2] at he
      obtain rfl : e = _ := he
      go_wp2_with fail
      refine hQ₁ _ _ ⟨⟨V.drew, rfl⟩, rfl⟩ ?_
      clear hQ₁ hQp Q₁
      refine ordP_step ?_
      refine wpQuiet_nil ?_
      intro Q₁ hQ₁ hQp
      simp only [Option.toList]
      go_wp2_with fail
      have hbA : Below V.heap.size V (V.alloc (.cells #[.int .i64 q.num, .int .i64 q.cpu] 3)).drew := (bone V _).drew
      have hhA : (V.alloc (.cells #[.int .i64 q.num, .int .i64 q.cpu] 3)).drew.heap[wr.heap.size]? = V.heap[wr.heap.size]? := hbA.block _ (by have := hVz.out; omega)
      have hrow : RowV (V.alloc (.cells #[.int .i64 q.num, .int .i64 q.cpu] 3)).drew (.slice (some ⟨V.heap.size, 0, none⟩) 2 2) ([q.num, q.cpu].map (Value.int .i64)) := (RowV.lit V #[.int .i64 q.num, .int .i64 q.cpu] _).below (Below.refl _ _).drew
      refine hQ₁ _ _ ⟨⟨_, hhA⟩, rfl⟩ ?_
      clear hQ₁ hQp Q₁
      generalize (V.alloc (.cells #[.int .i64 q.num, .int .i64 q.cpu] 3)).drew = V2 at *
      have hG2 := hGV.then hbA
      refine ordP_step ?_
      refine wpQuiet_nil ?_
      intro Q₁ hQ₁ hQp
      simp only [Option.toList]
      have hcall := two_any wb w0.heap.size _ v' _ [q.num, q.cpu] V2 hG2.st.wr hrow ⟨by omega, by simp⟩ hG2.B hG2.bx (fun b off c e => by
        injection e with e
        injection e with e
        injection e with e
        refine ⟨by omega, fun e2 => ?_⟩
        have := (hGV.st.wr.own.lt _ e2).2
        omega)
      have hVlt : wr.heap.size < V2.heap.size := by have := hVz.out; have := hbA.size; omega
      have hwbV : wr.heap.size ≠ wb := by omega
      have hovV : v'.ownBlock ≠ some wr.heap.size := fun e => by have := (hG.st.wr.own.lt _ e).2; omega
      have v3' := cell_lt hbA v3 (by have := hVz.out; omega)
      clear hrow hGD hbD hbA p0 p1 p2 v1 v2 v3 y1 y2
      go_wp2_with fail
      refine hcall.mono ?_; rintro e W' ⟨v2, rfl, hw', ht'⟩
      have hG3 := hG2.wt hw' ht'
      have hkp := (ht'.keep hVlt hwbV hovV).1
      have v4 := heapc hkp v3'
      clear hcall hw' ht' v3'
      go_wp2_with fail
      refine hQ₁ _ _ ⟨⟨_, hkp.trans hhA⟩, rfl⟩ ?_
      clear hQ₁ hQp Q₁ hhA hkp
      refine ordP_last ?_
      refine wpQuiet_nil ?_
      go_wp2_with fail
      refine (truth_any _ _).mono ?_; rintro e w8 ⟨rfl, rfl⟩
      generalize (if q.edge = true then (1 : Int) else 0) = tv
      have hrow : RowV (W'.alloc (.cells #[.int .u32 tv] 27)) (.slice (some ⟨W'.heap.size, 0, none⟩) 1 1) ([tv].map (Value.int .u32)) := RowV.lit W' _ _
      obtain ⟨V4, hV4⟩ : ∃ V4, V4 = W'.alloc (.cells #[.int .u32 tv] 27) := ⟨_, rfl⟩
      have hb4 : Below W'.heap.size W' V4 := by rw [hV4]; exact bone _ _
      rw [← hV4] at hrow
      have hG4 := hG3.then hb4
      have hcall := four_any wb w0.heap.size _ v2 _ [tv] V4 hG4.st.wr hrow ⟨by simp; omega, by simp⟩ hG4.B hG4.bx
      clear hrow
      replace hV4 := Lib.hid hV4
      go_wp2_with fail
      rw [← hV4.out]
      refine hcall.mono ?_; rintro e W5 ⟨v5, rfl, hw', ht'⟩
      have hG5 := hG4.wt hw' ht'
      clear hcall hw' ht' hV4 v4
      go_wp2_with fail
      have e1 : n + 8 * (j + 1) = n + 8 * j + 2 * [q.num, q.cpu].length + 4 * [tv].length := by simp; omega
      exact ⟨⟨j + 1, v5, hlt, by go_num, by rw [e1]; exact hG5, hyk.out (by rw [hqb.out, decide_eq_true h1, decide_eq_true h2]; rfl)⟩, by simp [intOf]; omega⟩
    · obtain rfl : j = t.irq.length := by omega
      have hg' := hyes (fun k hk => hall k hk hk)
      clear hyes hno hall
      replace hg' := Lib.hid hg'
      go_upto_region 999 with ((with_reducible show Code.wp _ _ (bodyPost _ _ _) _ _); exact guest15 _ _ _ _ _ _ _ _ _ _ _ _ _ _ _ _ _ _ _ _ _ _ _ _ _ _ _ _ _ _ _ _ _ _ _ _ _ _ _ _ _ _ _ _ _ _ _ _ _ _ _ _ _ _ _ _ _ _ _ _ _ _ _ _ _ _ _ _ _ _ _ _ _ _ _ _ _ _ _ _ _ _ _ _ _ _ _ _ _ _ _ _ _ _ _ _ _ _ _ _ _ _ _ _ _ _ _ _ _ _ _ _ _ _ _ _ _ _ _ _ _ _ _ _ _ _ _ _ _ _ _ _ _ _ _ _ _ _ _ _ _ _ _ _ _ _ _ _ _ _ _ _ _ _ _ _ _ _ _ _ _ _ _ _ _ _ _ _ _ _ hG (by omega) h0 hc.out hg'.out)
end Go.Proofs.YtffdfeekpfmbeaaGreat
/- The writer of a guest: the devices. -/
namespace Go.Proofs.YtffdfeekpfmbeaaGreat
open Go Go.RowKit Go.BigFrame

set_option maxRecDepth 100000 in
set_option maxHeartbeats 8000000 in
theorem guest13 (u1 u2 u4 u5 u6 u7 u8 u9 u10 u11 u12 u13 u14 u15 u16 u17 u18 u19 u20 u21 u22 u23 u24 u25 u26 u27 u28 u29 u30 u31 u32 u33 u34 u35 u36 u37 u38 u39 u40 u41 u42 u43 u44 u45 u46 u47 u48 u49 u50 u51 u52 u53 u54 u55 u56 u57 u58 u59 u60 u61 u62 u63 u64 u65 u66 u67 u68 u69 u70 u71 u72 u73 u74 u75 u76 u77 u78 u79 u80 u81 u82 u83 u84 u85 u86 u87 u88 u89 u90 u91 u92 u93 u94 u95 u96 u97 u98 u99 u100 u101 u102 u103 u104 u105 u106 u107 u108 u109 u110 u111 u112 u113 u114 u115 u116 u117 u118 u119 u120 u121 u122 u123 u124 u125 u126 u127 u128 u129 u130 u131 u132 u133 u134 u135 u136 u137 u138 u139 u140 u141 u142 u143 u144 u145 u146 u147 u148 u149 u150 u151 u152 u153 u154 u155 u156 u157 u158 u159 u160 u161 u162 u163 u164 u165 u166 u167 u168 u169 u170 u171 : Value) {w0 w W : World} {wb gb n0 n : Nat} {v0 v : Value} {t : GuestV} {C : Array Value} (h : GIn w0 w W wb gb n v0 v t C) (hn : n ≤ n0 + 572) (h0 : n0 ≤ 1000000) (hc : cntOk t = true) (hg : gOk t = t.irq.all irqB) :
    (tailC 13 (Tryz.f54.body.getD .skip)).wp Tryz.prog (bodyPost Tryz.prog Tryz.f54 (GPost w0 w wb n0 v0 t)) ⟨List.toArray (.pointer (some ⟨wb, 0, none⟩) :: u1 :: u2 :: .pointer (some ⟨gb, 0, none⟩) :: u4 :: u5 :: u6 :: u7 :: u8 :: u9 :: u10 :: u11 :: u12 :: u13 :: u14 :: u15 :: u16 :: u17 :: u18 :: u19 :: u20 :: u21 :: u22 :: u23 :: u24 :: u25 :: u26 :: u27 :: u28 :: u29 :: u30 :: u31 :: u32 :: u33 :: u34 :: u35 :: u36 :: u37 :: u38 :: u39 :: u40 :: u41 :: u42 :: u43 :: u44 :: u45 :: u46 :: u47 :: u48 :: u49 :: u50 :: u51 :: u52 :: u53 :: u54 :: u55 :: u56 :: u57 :: u58 :: u59 :: u60 :: u61 :: u62 :: u63 :: u64 :: u65 :: u66 :: u67 :: u68 :: u69 :: u70 :: u71 :: u72 :: u73 :: u74 :: u75 :: u76 :: u77 :: u78 :: u79 :: u80 :: u81 :: u82 :: u83 :: u84 :: u85 :: u86 :: u87 :: u88 :: u89 :: u90 :: u91 :: u92 :: u93 :: u94 :: u95 :: u96 :: u97 :: u98 :: u99 :: u100 :: u101 :: u102 :: u103 :: u104 :: u105 :: u106 :: u107 :: u108 :: u109 :: u110 :: u111 :: u112 :: u113 :: u114 :: u115 :: u116 :: u117 :: u118 :: u119 :: u120 :: u121 :: u122 :: u123 :: u124 :: u125 :: u126 :: u127 :: u128 :: u129 :: u130 :: u131 :: u132 :: u133 :: u134 :: u135 :: u136 :: u137 :: u138 :: u139 :: u140 :: u141 :: u142 :: u143 :: u144 :: u145 :: u146 :: u147 :: u148 :: u149 :: u150 :: u151 :: u152 :: u153 :: u154 :: u155 :: u156 :: u157 :: u158 :: u159 :: u160 :: u161 :: u162 :: u163 :: u164 :: u165 :: u166 :: u167 :: u168 :: u169 :: u170 :: u171 :: []), []⟩ W := by
  obtain ⟨qv, hq1, hq2⟩ := h.gr.dev
  obtain ⟨qa, qc, rfl, hq3, hq4, hq5⟩ := hq2
  have c10 := h.cell hq1
  have hlen := gOk_len hc
  have hL : t.dev.length ≤ 16 := hlen.2.1
  replace hc := Lib.hid hc
  replace hg := Lib.hid hg
  clear hq1 hlen
  conv => arg 2; whnf
  go_wp2_with fail
  go_loopw [131] (fun i wr => ∃ (j : Nat) (v' : Value), j ≤ t.dev.length ∧ i = .int .i64 j ∧ GIn w0 w wr wb gb (n + 24 * j) v0 v' t C) (fun i _ => t.dev.length - (intOf i).toNat)
  case atStart => exact ⟨0, v, Nat.zero_le _, rfl, h⟩
  case round =>
    obtain ⟨j, v', hj, rfl, hG⟩ := hrel
    by_cases hlt : j < t.dev.length
    · obtain ⟨b, off, rfl, hbl, hcl⟩ := hq5 (by intro e; rw [e] at hlt; simp at hlt)
      obtain ⟨cs, rfl, hcsl, hcell⟩ := hcl j hlt
      have p0 := cell_lt hG.st.bl (hcell 0 _ rfl) hbl
      have p1 := cell_lt hG.st.bl (hcell 1 _ rfl) hbl
      have p2 := cell_lt hG.st.bl (hcell 2 _ rfl) hbl
      simp only [Nat.add_zero] at p0
      clear hcl hcell hq5 hcsl
      generalize t.dev[j] = q at *
      obtain ⟨V, hV, hVz, hVb, v1, v2, v3⟩ := three_new wr (.int .u64 q.ipa) (.int .u64 q.pa) (.int .u64 q.sz) 98
      have hGV := hG.then hVb
      have hBV := hGV.B
      have hrow : RowV (V.alloc (.cells #[.int .u64 q.ipa, .int .u64 q.pa, .int .u64 q.sz] 22)) (.slice (some ⟨V.heap.size, 0, none⟩) 3 3) ([q.ipa, q.pa, q.sz].map (Value.int .u64)) := RowV.lit V _ _
      obtain ⟨V2, hV2⟩ : ∃ V2, V2 = V.alloc (.cells #[.int .u64 q.ipa, .int .u64 q.pa, .int .u64 q.sz] 22) := ⟨_, rfl⟩
      have hb2 : Below V.heap.size V V2 := by rw [hV2]; exact bone _ _
      rw [← hV2] at hrow
      have hG2 := hGV.then hb2
      have hcall := eight_any wb w0.heap.size _ v' _ [q.ipa, q.pa, q.sz] V2 hG2.st.wr hrow ⟨by omega, by simp⟩ hG2.B hG2.bx
      rw [hVz] at hcall
      replace hVz := Lib.hid hVz
      clear hrow
      replace hV2 := Lib.hid hV2
      replace hV := Lib.hid hV
      go_wp2_with fail
      rw [← hV.out, ← hV2.out]
      refine hcall.mono ?_; rintro e W' ⟨v2, rfl, hw', ht'⟩
      go_wp2_with fail
      have e1 : n + 24 * (j + 1) = n + 24 * j + 8 * [q.ipa, q.pa, q.sz].length := by simp; omega
      exact ⟨⟨j + 1, v2, hlt, by go_num, by rw [e1]; exact hG2.wt hw' ht'⟩, by simp [intOf]; omega⟩
    · obtain rfl : j = t.dev.length := by omega
      go_upto_region 999 with ((with_reducible show Code.wp _ _ (bodyPost _ _ _) _ _); exact guest14 _ _ _ _ _ _ _ _ _ _ _ _ _ _ _ _ _ _ _ _ _ _ _ _ _ _ _ _ _ _ _ _ _ _ _ _ _ _ _ _ _ _ _ _ _ _ _ _ _ _ _ _ _ _ _ _ _ _ _ _ _ _ _ _ _ _ _ _ _ _ _ _ _ _ _ _ _ _ _ _ _ _ _ _ _ _ _ _ _ _ _ _ _ _ _ _ _ _ _ _ _ _ _ _ _ _ _ _ _ _ _ _ _ _ _ _ _ _ _ _ _ _ _ _ _ _ _ _ _ _ _ _ _ _ _ _ _ _ _ _ _ _ _ _ _ _ _ _ _ _ _ _ _ _ _ _ _ _ _ _ _ _ _ _ _ _ _ _ _ _ hG (by omega) h0 hc.out hg.out)
end Go.Proofs.YtffdfeekpfmbeaaGreat
/- The writer of a guest: the windows. -/
namespace Go.Proofs.YtffdfeekpfmbeaaGreat
open Go Go.RowKit Go.BigFrame

def permB (x : WinV) : Bool := decide (0 ≤ x.perm ∧ x.perm ≤ 7)
set_option maxRecDepth 100000 in
set_option maxHeartbeats 8000000 in
theorem guest12 (u1 u2 u4 u5 u6 u7 u8 u9 u10 u11 u12 u13 u14 u15 u16 u17 u18 u19 u20 u21 u22 u23 u24 u25 u26 u27 u28 u29 u30 u31 u32 u33 u34 u35 u36 u37 u38 u39 u40 u41 u42 u43 u44 u45 u46 u47 u48 u49 u50 u51 u52 u53 u54 u55 u56 u57 u58 u59 u60 u61 u62 u63 u64 u65 u66 u67 u68 u69 u70 u71 u72 u73 u74 u75 u76 u77 u78 u79 u80 u81 u82 u83 u84 u85 u86 u87 u88 u89 u90 u91 u92 u93 u94 u95 u96 u97 u98 u99 u100 u101 u102 u103 u104 u105 u106 u107 u108 u109 u110 u111 u112 u113 u114 u115 u116 u117 u118 u119 u120 u121 u122 u123 u124 u125 u126 u127 u128 u129 u130 u131 u132 u133 u134 u135 u136 u137 u138 u139 u140 u141 u142 u143 u144 u145 u146 u147 u148 u149 u150 u151 u152 u153 u154 u155 u156 u157 u158 u159 u160 u161 u162 u163 u164 u165 u166 u167 u168 u169 u170 u171 : Value) {w0 w W : World} {wb gb n0 n : Nat} {v0 v : Value} {t : GuestV} {C : Array Value} (h : GIn w0 w W wb gb n v0 v t C) (hn : n ≤ n0 + 124) (h0 : n0 ≤ 1000000) (hc : cntOk t = true) (hg : gOk t = (t.win.all permB && t.irq.all irqB)) :
    (tailC 12 (Tryz.f54.body.getD .skip)).wp Tryz.prog (bodyPost Tryz.prog Tryz.f54 (GPost w0 w wb n0 v0 t)) ⟨List.toArray (.pointer (some ⟨wb, 0, none⟩) :: u1 :: u2 :: .pointer (some ⟨gb, 0, none⟩) :: u4 :: u5 :: u6 :: u7 :: u8 :: u9 :: u10 :: u11 :: u12 :: u13 :: u14 :: u15 :: u16 :: u17 :: u18 :: u19 :: u20 :: u21 :: u22 :: u23 :: u24 :: u25 :: u26 :: u27 :: u28 :: u29 :: u30 :: u31 :: u32 :: u33 :: u34 :: u35 :: u36 :: u37 :: u38 :: u39 :: u40 :: u41 :: u42 :: u43 :: u44 :: u45 :: u46 :: u47 :: u48 :: u49 :: u50 :: u51 :: u52 :: u53 :: u54 :: u55 :: u56 :: u57 :: u58 :: u59 :: u60 :: u61 :: u62 :: u63 :: u64 :: u65 :: u66 :: u67 :: u68 :: u69 :: u70 :: u71 :: u72 :: u73 :: u74 :: u75 :: u76 :: u77 :: u78 :: u79 :: u80 :: u81 :: u82 :: u83 :: u84 :: u85 :: u86 :: u87 :: u88 :: u89 :: u90 :: u91 :: u92 :: u93 :: u94 :: u95 :: u96 :: u97 :: u98 :: u99 :: u100 :: u101 :: u102 :: u103 :: u104 :: u105 :: u106 :: u107 :: u108 :: u109 :: u110 :: u111 :: u112 :: u113 :: u114 :: u115 :: u116 :: u117 :: u118 :: u119 :: u120 :: u121 :: u122 :: u123 :: u124 :: u125 :: u126 :: u127 :: u128 :: u129 :: u130 :: u131 :: u132 :: u133 :: u134 :: u135 :: u136 :: u137 :: u138 :: u139 :: u140 :: u141 :: u142 :: u143 :: u144 :: u145 :: u146 :: u147 :: u148 :: u149 :: u150 :: u151 :: u152 :: u153 :: u154 :: u155 :: u156 :: u157 :: u158 :: u159 :: u160 :: u161 :: u162 :: u163 :: u164 :: u165 :: u166 :: u167 :: u168 :: u169 :: u170 :: u171 :: []), []⟩ W := by
  obtain ⟨qv, hq1, hq2⟩ := h.gr.win
  obtain ⟨qa, qc, rfl, hq3, hq4, hq5⟩ := hq2
  have c10 := h.cell hq1
  have hlen := gOk_len hc
  have hL : t.win.length ≤ 16 := hlen.1.2
  have hno : ∀ (k : Nat) (hk : k < t.win.length), permB t.win[k] = false → gOk t = false := fun k hk h => by rw [hg, all_false hk h]; rfl
  have hyes : (∀ (k : Nat) (hk : k < t.win.length), permB t.win[k] = true) → gOk t = t.irq.all irqB := fun h => by rw [hg, all_true' h]; rfl
  replace hc := Lib.hid hc
  clear hg hq1 hlen
  conv => arg 2; whnf
  go_wp2_with fail
  go_loopw [107] (fun i wr => ∃ (j : Nat) (v' : Value), j ≤ t.win.length ∧ i = .int .i64 j ∧ GIn w0 w wr wb gb (n + 28 * j) v0 v' t C ∧ ∀ (k : Nat) (hk : k < t.win.length), k < j → permB t.win[k] = true) (fun i _ => t.win.length - (intOf i).toNat)
  case atStart => exact ⟨0, v, Nat.zero_le _, rfl, h, fun k _ hk => by omega⟩
  case round =>
    obtain ⟨j, v', hj, rfl, hG, hall⟩ := hrel
    by_cases hlt : j < t.win.length
    · obtain ⟨b, off, rfl, hbl, hcl⟩ := hq5 (by intro e; rw [e] at hlt; simp at hlt)
      obtain ⟨cs, ⟨rfl, hp64⟩, hcsl, hcell⟩ := hcl j hlt
      have p0 := cell_lt hG.st.bl (hcell 0 _ rfl) hbl
      have p1 := cell_lt hG.st.bl (hcell 1 _ rfl) hbl
      have p2 := cell_lt hG.st.bl (hcell 2 _ rfl) hbl
      have p3 := cell_lt hG.st.bl (hcell 3 _ rfl) hbl
      simp only [Nat.add_zero] at p0
      have hnk := hno j hlt
      have hyk : permB t.win[j] = true → ∀ (k : Nat) (hk : k < t.win.length), k < j + 1 → permB t.win[k] = true := fun h k hk h2 => by
        by_cases e : k = j
        · subst e; exact h
        · exact hall k hk (by omega)
      clear hall hno hyes hcl hcell hq5 hcsl
      generalize t.win[j] = q at *
      replace hnk := Lib.hid hnk
      replace hyk := Lib.hid hyk
      obtain ⟨V, hV, hVz, hVb, v1, v2, v3, v4⟩ := four_new wr (.int .u64 q.ipa) (.int .u64 q.pa) (.int .u64 q.sz) (.int .i64 q.perm) 44
      have hGV := hG.then hVb
      have hVlt : wr.heap.size < V.heap.size := by omega
      have hwbV : wr.heap.size ≠ wb := by have := hG.lt.1; omega
      have hovV : v'.ownBlock ≠ some wr.heap.size := fun e => by have := (hG.st.wr.own.lt _ e).2; omega
      have hrow : RowV (V.alloc (.cells #[.int .u64 q.ipa, .int .u64 q.pa, .int .u64 q.sz] 22)) (.slice (some ⟨V.heap.size, 0, none⟩) 3 3) ([q.ipa, q.pa, q.sz].map (Value.int .u64)) := RowV.lit V _ _
      obtain ⟨V2, hV2⟩ : ∃ V2, V2 = V.alloc (.cells #[.int .u64 q.ipa, .int .u64 q.pa, .int .u64 q.sz] 22) := ⟨_, rfl⟩
      have hb2 : Below V.heap.size V V2 := by rw [hV2]; exact bone _ _
      rw [← hV2] at hrow
      have hG2 := hGV.then hb2
      have hcall := eight_any wb w0.heap.size _ v' _ [q.ipa, q.pa, q.sz] V2 hG2.st.wr hrow ⟨by omega, by simp⟩ hG2.B hG2.bx
      rw [hVz] at hcall
      have v4' := cell_lt hb2 v4 hVlt
      have hz2 := hb2.size
      clear hrow
      replace hV2 := Lib.hid hV2
      replace hV := Lib.hid hV
      replace hVz := Lib.hid hVz
      go_wp2_with fail
      rw [← hV.out, ← hV2.out]
      refine hcall.mono ?_; rintro e W' ⟨vx, rfl, hw', ht'⟩
      have hG3 := hG2.wt hw' ht'
      have v5 := heapc (ht'.keep (Nat.lt_of_lt_of_le hVlt hz2) hwbV hovV).1 v4'
      clear hcall hV hV2 v1 v2 v3 v4 v4' p0 p1 p2 p3 hw' ht'
      go_wp2_with fail
      refine (small_any _ _ _).mono ?_; rintro e w1 ⟨he, rfl⟩
      by_cases h1 : 0 ≤ q.perm ∧ q.perm ≤ 7
      case neg =>
        rw [decide_eq_false h1] at he
        obtain ⟨p, k, hk, rfl⟩ := he
        exact ⟨rfl, hG3.no (by simp; omega) (hnk.out (decide_eq_false h1)) hk⟩
      rw [decide_eq_true h1] at he
      obtain rfl : e = _ := he
      have hpq : permB q = true := decide_eq_true h1
      clear h1
      replace hpq := Lib.hid hpq
      go_wp2_with fail
      generalize q.perm % 4294967296 = pv
      have hrow : RowV (W'.alloc (.cells #[.int .u32 pv] 27)) (.slice (some ⟨W'.heap.size, 0, none⟩) 1 1) ([pv].map (Value.int .u32)) := RowV.lit W' _ _
      obtain ⟨V4, hV4⟩ : ∃ V4, V4 = W'.alloc (.cells #[.int .u32 pv] 27) := ⟨_, rfl⟩
      have hb4 : Below W'.heap.size W' V4 := by rw [hV4]; exact bone _ _
      rw [← hV4] at hrow
      have hG4 := hG3.then hb4
      have hcall := four_any wb w0.heap.size _ vx _ [pv] V4 hG4.st.wr hrow ⟨by simp; omega, by simp⟩ hG4.B hG4.bx
      clear hrow
      rw [← hV4]
      replace hV4 := Lib.hid hV4
      refine hcall.mono ?_; rintro e W5 ⟨v5, rfl, hw', ht'⟩
      have hG5 := hG4.wt hw' ht'
      clear hcall hw' ht' hV4
      go_wp2_with fail
      have e1 : n + 28 * (j + 1) = n + 28 * j + 8 * [q.ipa, q.pa, q.sz].length + 4 * [pv].length := by simp; omega
      exact ⟨⟨j + 1, v5, hlt, by go_num, by rw [e1]; exact hG5, hyk.out hpq.out⟩, by simp [intOf]; omega⟩
    · obtain rfl : j = t.win.length := by omega
      have hg' := hyes (fun k hk => hall k hk hk)
      clear hyes hno hall
      replace hg' := Lib.hid hg'
      go_upto_region 999 with ((with_reducible show Code.wp _ _ (bodyPost _ _ _) _ _); exact guest13 _ _ _ _ _ _ _ _ _ _ _ _ _ _ _ _ _ _ _ _ _ _ _ _ _ _ _ _ _ _ _ _ _ _ _ _ _ _ _ _ _ _ _ _ _ _ _ _ _ _ _ _ _ _ _ _ _ _ _ _ _ _ _ _ _ _ _ _ _ _ _ _ _ _ _ _ _ _ _ _ _ _ _ _ _ _ _ _ _ _ _ _ _ _ _ _ _ _ _ _ _ _ _ _ _ _ _ _ _ _ _ _ _ _ _ _ _ _ _ _ _ _ _ _ _ _ _ _ _ _ _ _ _ _ _ _ _ _ _ _ _ _ _ _ _ _ _ _ _ _ _ _ _ _ _ _ _ _ _ _ _ _ _ _ _ _ _ _ _ _ hG (by omega) h0 hc.out hg'.out)
end Go.Proofs.YtffdfeekpfmbeaaGreat
