/- The writer of a guest: the key and the counts. -/
import Derived.Deep.MidRow
import Derived.Test.YtffdfeekpfmbeaaGreatValidChecksP35
namespace Go.Proofs.YtffdfeekpfmbeaaGreat
open Go Go.RowKit Go.BigFrame

theorem gOk_eq (t : GuestV) : gOk t = (nameOk t.name && (keyOk t.key && (cntOk t && (t.win.all permB && t.irq.all irqB)))) := rfl
theorem cnt_no {t : GuestV} (h : ¬ ((1 ≤ t.win.length ∧ t.win.length ≤ 16) ∧ t.dev.length ≤ 16 ∧ t.irq.length ≤ 64 ∧ t.str.length ≤ 32)) : cntOk t = false := by
  cases hc : cntOk t with
  | false => rfl
  | true => exact absurd (gOk_len hc) h
theorem cnt_yes {t : GuestV} (h : (1 ≤ t.win.length ∧ t.win.length ≤ 16) ∧ t.dev.length ≤ 16 ∧ t.irq.length ≤ 64 ∧ t.str.length ≤ 32) : cntOk t = true := by
  unfold cntOk; simp only [Bool.and_eq_true, decide_eq_true_eq]; exact h
theorem RowX.slice {C : Nat} {α : Type} {R : World → List Value → α → Prop} {W : World} {v : Value} {l : List α} (h : RowX C R W v l) : ∃ a c, v = .slice a l.length c := by
  obtain ⟨a, c, h, _⟩ := h
  exact ⟨a, c, h⟩
set_option maxRecDepth 100000 in
set_option maxHeartbeats 8000000 in
theorem guest9 (u1 u2 u4 u5 u6 u7 u8 u9 u10 u11 u12 u13 u14 u15 u16 u17 u18 u19 u20 u21 u22 u23 u24 u25 u26 u27 u28 u29 u30 u31 u32 u33 u34 u35 u36 u37 u38 u39 u40 u41 u42 u43 u44 u45 u46 u47 u48 u49 u50 u51 u52 u53 u54 u55 u56 u57 u58 u59 u60 u61 u62 u63 u64 u65 u66 u67 u68 u69 u70 u71 u72 u73 u74 u75 u76 u77 u78 u79 u80 u81 u82 u83 u84 u85 u86 u87 u88 u89 u90 u91 u92 u93 u94 u95 u96 u97 u98 u99 u100 u101 u102 u103 u104 u105 u106 u107 u108 u109 u110 u111 u112 u113 u114 u115 u116 u117 u118 u119 u120 u121 u122 u123 u124 u125 u126 u127 u128 u129 u130 u131 u132 u133 u134 u135 u136 u137 u138 u139 u140 u141 u142 u143 u144 u145 u146 u147 u148 u149 u150 u151 u152 u153 u154 u155 u156 u157 u158 u159 u160 u161 u162 u163 u164 u165 u166 u167 u168 u169 u170 u171 : Value) {w0 w W : World} {wb gb n0 n : Nat} {v0 v : Value} {t : GuestV} {C : Array Value} (h : GIn w0 w W wb gb n v0 v t C) (hn : n ≤ n0 + 116) (h0 : n0 ≤ 1000000) (hnm : nameOk t.name = true) (hky : keyOk t.key = true) :
    (tailC 9 (Tryz.f54.body.getD .skip)).wp Tryz.prog (bodyPost Tryz.prog Tryz.f54 (GPost w0 w wb n0 v0 t)) ⟨List.toArray (.pointer (some ⟨wb, 0, none⟩) :: u1 :: u2 :: .pointer (some ⟨gb, 0, none⟩) :: u4 :: u5 :: u6 :: u7 :: u8 :: u9 :: u10 :: u11 :: u12 :: u13 :: u14 :: u15 :: u16 :: u17 :: u18 :: u19 :: u20 :: u21 :: u22 :: u23 :: u24 :: u25 :: u26 :: u27 :: u28 :: u29 :: u30 :: u31 :: u32 :: u33 :: u34 :: u35 :: u36 :: u37 :: u38 :: u39 :: u40 :: u41 :: u42 :: u43 :: u44 :: u45 :: u46 :: u47 :: u48 :: u49 :: u50 :: u51 :: u52 :: u53 :: u54 :: u55 :: u56 :: u57 :: u58 :: u59 :: u60 :: u61 :: u62 :: u63 :: u64 :: u65 :: u66 :: u67 :: u68 :: u69 :: u70 :: u71 :: u72 :: u73 :: u74 :: u75 :: u76 :: u77 :: u78 :: u79 :: u80 :: u81 :: u82 :: u83 :: u84 :: u85 :: u86 :: u87 :: u88 :: u89 :: u90 :: u91 :: u92 :: u93 :: u94 :: u95 :: u96 :: u97 :: u98 :: u99 :: u100 :: u101 :: u102 :: u103 :: u104 :: u105 :: u106 :: u107 :: u108 :: u109 :: u110 :: u111 :: u112 :: u113 :: u114 :: u115 :: u116 :: u117 :: u118 :: u119 :: u120 :: u121 :: u122 :: u123 :: u124 :: u125 :: u126 :: u127 :: u128 :: u129 :: u130 :: u131 :: u132 :: u133 :: u134 :: u135 :: u136 :: u137 :: u138 :: u139 :: u140 :: u141 :: u142 :: u143 :: u144 :: u145 :: u146 :: u147 :: u148 :: u149 :: u150 :: u151 :: u152 :: u153 :: u154 :: u155 :: u156 :: u157 :: u158 :: u159 :: u160 :: u161 :: u162 :: u163 :: u164 :: u165 :: u166 :: u167 :: u168 :: u169 :: u170 :: u171 :: []), []⟩ W := by
  obtain ⟨wv, hq1, hr1⟩ := h.gr.win
  obtain ⟨dv, hq2, hr2⟩ := h.gr.dev
  obtain ⟨qv, hq3, hr3⟩ := h.gr.irq
  obtain ⟨sv, hq4, hr4⟩ := h.gr.str
  obtain ⟨wa, wc, rfl⟩ := hr1.slice
  obtain ⟨da, dc, rfl⟩ := hr2.slice
  obtain ⟨qa, qc, rfl⟩ := hr3.slice
  obtain ⟨sa, sc, rfl⟩ := hr4.slice
  have c8 := h.cell hq1
  have c9 := h.cell hq2
  have c10 := h.cell hq3
  have c11 := h.cell hq4
  clear hq1 hq2 hq3 hq4 hr1 hr2 hr3 hr4
  have hgk : gOk t = (cntOk t && (t.win.all permB && t.irq.all irqB)) := by rw [gOk_eq, hnm, hky]; rfl
  replace hgk := Lib.hid hgk
  have hcn : cntOk t = false → gOk t = false := fun e => by rw [hgk.out, e]; rfl
  have hcy : cntOk t = true → gOk t = (t.win.all permB && t.irq.all irqB) := fun e => by rw [hgk.out, e]; rfl
  replace hcn := Lib.hid hcn
  replace hcy := Lib.hid hcy
  clear hnm hky hgk
  have hN := @cnt_no t
  have hY := @cnt_yes t
  generalize hw : t.win.length = lw at *
  generalize hd : t.dev.length = ld at *
  generalize hq : t.irq.length = lq at *
  generalize hs : t.str.length = ls at *
  replace hN := Lib.hid hN
  replace hY := Lib.hid hY
  clear hw hd hq hs
  conv => arg 2; whnf
  by_cases b1 : 1 ≤ lw
  case neg =>
    go_wp2_with fail
    refine (cmust_any _ _ _ _).mono ?_; rintro e w1 ⟨rfl, rfl⟩
    exact ⟨rfl, h.no (by omega) (hcn.out (hN.out (by omega))) (by decide)⟩
  by_cases b2 : lw ≤ 16
  case neg =>
    go_wp2_with fail
    refine (cmust_any _ _ _ _).mono ?_; rintro e w1 ⟨rfl, rfl⟩
    exact ⟨rfl, h.no (by omega) (hcn.out (hN.out (by omega))) (by decide)⟩
  by_cases b3 : ld ≤ 16
  case neg =>
    have f3 : decide ((ld : Int) ≤ 16) = false := decide_eq_false (by omega)
    go_wp2_with fail
    refine (cmust_any _ _ _ _).mono ?_; rintro e w1 ⟨rfl, rfl⟩
    exact ⟨rfl, h.no (by omega) (hcn.out (hN.out (by omega))) (by decide)⟩
  have f3 : decide ((ld : Int) ≤ 16) = true := decide_eq_true (by omega)
  go_wp2_with fail
  refine (cmust_any _ _ _ _).mono ?_; rintro e w1 ⟨rfl, rfl⟩
  clear f3
  by_cases b4 : lq ≤ 64
  case neg =>
    go_wp2_with fail
    refine (cmust_any _ _ _ _).mono ?_; rintro e w1 ⟨rfl, rfl⟩
    exact ⟨rfl, h.no (by omega) (hcn.out (hN.out (by omega))) (by decide)⟩
  by_cases b5 : ls ≤ 32
  case neg =>
    have f3 : decide ((ls : Int) ≤ 32) = false := decide_eq_false (by omega)
    go_wp2_with fail
    refine (cmust_any _ _ _ _).mono ?_; rintro e w1 ⟨rfl, rfl⟩
    exact ⟨rfl, h.no (by omega) (hcn.out (hN.out (by omega))) (by decide)⟩
  have f3 : decide ((ls : Int) ≤ 32) = true := decide_eq_true (by omega)
  go_wp2_with fail
  refine (cmust_any _ _ _ _).mono ?_; rintro e w1 ⟨rfl, rfl⟩
  clear f3
  have hcnt := hY.out ⟨⟨b1, b2⟩, b3, b4, b5⟩
  have hgg := hcy.out hcnt
  replace hcnt := Lib.hid hcnt
  replace hgg := Lib.hid hgg
  have hrow : RowV (W.alloc (.cells #[.int .i64 lw, .int .i64 ld, .int .i64 lq, .int .i64 ls] 3)) (.slice (some ⟨W.heap.size, 0, none⟩) 4 4) ([(lw : Int), (ld : Int), (lq : Int), (ls : Int)].map (Value.int .i64)) := RowV.lit W _ _
  obtain ⟨V2, hV2⟩ : ∃ V2, V2 = W.alloc (.cells #[.int .i64 lw, .int .i64 ld, .int .i64 lq, .int .i64 ls] 3) := ⟨_, rfl⟩
  have hb2 : Below W.heap.size W V2 := by rw [hV2]; exact bone _ _
  rw [← hV2] at hrow
  have hlt := h.lt
  have hG2 := h.then hb2
  have hcall := two_any wb w0.heap.size _ v _ [(lw : Int), (ld : Int), (lq : Int), (ls : Int)] V2 hG2.st.wr hrow ⟨by omega, by simp⟩ hG2.B hG2.bx (fun b off c e => by
    injection e with e
    injection e with e
    injection e with e
    refine ⟨by omega, fun e2 => ?_⟩
    have := (h.st.wr.own.lt _ e2).2
    omega)
  clear hrow
  replace hV2 := Lib.hid hV2
  go_wp2_with fail
  rw [← hV2.out]
  refine hcall.mono ?_; rintro e W' ⟨v2, rfl, hw', ht'⟩
  have hG3 := hG2.wt hw' ht'
  clear hcall hw' ht' hV2
  go_upto_region 999 with ((with_reducible show Code.wp _ _ (bodyPost _ _ _) _ _); exact guest12 _ _ _ _ _ _ _ _ _ _ _ _ _ _ _ _ _ _ _ _ _ _ _ _ _ _ _ _ _ _ _ _ _ _ _ _ _ _ _ _ _ _ _ _ _ _ _ _ _ _ _ _ _ _ _ _ _ _ _ _ _ _ _ _ _ _ _ _ _ _ _ _ _ _ _ _ _ _ _ _ _ _ _ _ _ _ _ _ _ _ _ _ _ _ _ _ _ _ _ _ _ _ _ _ _ _ _ _ _ _ _ _ _ _ _ _ _ _ _ _ _ _ _ _ _ _ _ _ _ _ _ _ _ _ _ _ _ _ _ _ _ _ _ _ _ _ _ _ _ _ _ _ _ _ _ _ _ _ _ _ _ _ _ _ _ _ _ _ _ _ hG3 (by simp; omega) h0 hcnt.out hgg.out)
end Go.Proofs.YtffdfeekpfmbeaaGreat
/- The writer of a guest: the key. -/
namespace Go.Proofs.YtffdfeekpfmbeaaGreat
open Go Go.RowKit Go.BigFrame

theorem gkey_info : (Tryz.prog.info? 40).map (·.size) = some 68 := by kernel_rfl
theorem GIn.keyAt {w0 w W : World} {wb gb n : Nat} {v0 v : Value} {t : GuestV} {C : Array Value} (h : GIn w0 w W wb gb n v0 v t C) : ∀ j u, (t.key.map (Value.int .u8))[j]? = some u → W.cell? ⟨gb, 7 + j, none⟩ = some u := fun j u hu => by
  refine h.cell ?_
  have hk := h.gr.key.1
  rw [← hk, List.getElem?_take] at hu
  split at hu
  · rw [List.getElem?_drop] at hu; exact hu
  · cases hu
set_option maxRecDepth 100000 in
set_option maxHeartbeats 8000000 in
theorem guest8 (u1 u2 u4 u5 u6 u7 u8 u9 u10 u11 u12 u13 u14 u15 u16 u17 u18 u19 u20 u21 u22 u23 u24 u25 u26 u27 u28 u29 u30 u31 u32 u33 u34 u35 u36 u37 u38 u39 u40 u41 u42 u43 u44 u45 u46 u47 u48 u49 u50 u51 u52 u53 u54 u55 u56 u57 u58 u59 u60 u61 u62 u63 u64 u65 u66 u67 u68 u69 u70 u71 u72 u73 u74 u75 u76 u77 u78 u79 u80 u81 u82 u83 u84 u85 u86 u87 u88 u89 u90 u91 u92 u93 u94 u95 u96 u97 u98 u99 u100 u101 u102 u103 u104 u105 u106 u107 u108 u109 u110 u111 u112 u113 u114 u115 u116 u117 u118 u119 u120 u121 u122 u123 u124 u125 u126 u127 u128 u129 u130 u131 u132 u133 u134 u135 u136 u137 u138 u139 u140 u141 u142 u143 u144 u145 u146 u147 u148 u149 u150 u151 u152 u153 u154 u155 u156 u157 u158 u159 u160 u161 u162 u163 u164 u165 u166 u167 u168 u169 u170 u171 : Value) {w0 w W : World} {wb gb n0 n : Nat} {v0 v : Value} {t : GuestV} {C : Array Value} (h : GIn w0 w W wb gb n v0 v t C) (hn : n ≤ n0 + 48) (h0 : n0 ≤ 1000000) (hnm : nameOk t.name = true) (hky : keyOk t.key = true) :
    (tailC 8 (Tryz.f54.body.getD .skip)).wp Tryz.prog (bodyPost Tryz.prog Tryz.f54 (GPost w0 w wb n0 v0 t)) ⟨List.toArray (.pointer (some ⟨wb, 0, none⟩) :: u1 :: u2 :: .pointer (some ⟨gb, 0, none⟩) :: u4 :: u5 :: u6 :: u7 :: u8 :: u9 :: u10 :: u11 :: u12 :: u13 :: u14 :: u15 :: u16 :: u17 :: u18 :: u19 :: u20 :: u21 :: u22 :: u23 :: u24 :: u25 :: u26 :: u27 :: u28 :: u29 :: u30 :: u31 :: u32 :: u33 :: u34 :: u35 :: u36 :: u37 :: u38 :: u39 :: u40 :: u41 :: u42 :: u43 :: u44 :: u45 :: u46 :: u47 :: u48 :: u49 :: u50 :: u51 :: u52 :: u53 :: u54 :: u55 :: u56 :: u57 :: u58 :: u59 :: u60 :: u61 :: u62 :: u63 :: u64 :: u65 :: u66 :: u67 :: u68 :: u69 :: u70 :: u71 :: u72 :: u73 :: u74 :: u75 :: u76 :: u77 :: u78 :: u79 :: u80 :: u81 :: u82 :: u83 :: u84 :: u85 :: u86 :: u87 :: u88 :: u89 :: u90 :: u91 :: u92 :: u93 :: u94 :: u95 :: u96 :: u97 :: u98 :: u99 :: u100 :: u101 :: u102 :: u103 :: u104 :: u105 :: u106 :: u107 :: u108 :: u109 :: u110 :: u111 :: u112 :: u113 :: u114 :: u115 :: u116 :: u117 :: u118 :: u119 :: u120 :: u121 :: u122 :: u123 :: u124 :: u125 :: u126 :: u127 :: u128 :: u129 :: u130 :: u131 :: u132 :: u133 :: u134 :: u135 :: u136 :: u137 :: u138 :: u139 :: u140 :: u141 :: u142 :: u143 :: u144 :: u145 :: u146 :: u147 :: u148 :: u149 :: u150 :: u151 :: u152 :: u153 :: u154 :: u155 :: u156 :: u157 :: u158 :: u159 :: u160 :: u161 :: u162 :: u163 :: u164 :: u165 :: u166 :: u167 :: u168 :: u169 :: u170 :: u171 :: []), []⟩ W := by
  have hkey := h.keyAt
  have h68 := h.gr.key.2.1
  have cw := h.st.wr.cell
  obtain ⟨av, cv, rfl⟩ := h.st.wr.own.slice
  replace hnm := Lib.hid hnm
  replace hky := Lib.hid hky
  replace hkey := Lib.hid hkey
  replace h68 := Lib.hid h68
  conv => arg 2; whnf
  go_upto_region 8 with fail
  refine region_ordS (fun z => ∃ X : HeldB wb W, z = X.x) [([0, 1, 2, 3, 4, 5, 6], 7)] [8, 9] 10 (by kernel_rfl) (by kernel_rfl) (by kernel_rfl) (by kernel_rfl) ⟨⟨W.drew, rfl⟩, rfl⟩ ?_
  simp only [List.map_cons, List.map_nil, List.filterMap_cons, List.filterMap_nil, List.getElem?_cons_succ, List.getElem?_cons_zero]
  have y5 := held_cell (w0 := W) cw
  have hb6 : Below W.heap.size W W.drew := (Below.refl _ _).drew
  refine ordS_step ?_
  repeat (change wpQuiet _ _ _ _ (List.cons _ _) _; go_big_quiet_step (fail))
  refine wpQuiet_nil ?_
  intro Q₁ hQ₁
  simp only [Option.toList]
  have hne5 := h.st.wr.own.ne h.st.wr.blk wr_u8
  have hgl := h.lt
  have hBW := h.B
  have hrowD : RowV W.drew (.slice (some ⟨gb, 7, none⟩) 68 68) (t.key.map (Value.int .u8)) := by
    refine ⟨_, 68, by rw [List.length_map, h68.out], fun _ => ⟨gb, 7, rfl, hgl.2, fun j y hy => hkey.out j y hy⟩⟩
  have hDl : (t.key.map (Value.int .u8)).length = 68 := by rw [List.length_map, h68.out]
  have hD1 : ∀ y ∈ t.key.map (Value.int .u8), y.oneCell' = true := fun y hy => by
    obtain ⟨x, _, rfl⟩ := List.mem_map.1 hy
    rfl
  have hne : t.key.map (Value.int .u8) ≠ [] := fun e => by rw [e] at hDl; simp at hDl
  generalize t.key.map (Value.int .u8) = D at *
  go_wp2_with (at_builtin; go_must (refine OwnN.app rfl _ _ rfl w0.heap.size (.slice av n cv) (.slice (some ⟨gb, 7, none⟩) 68 68) n _ rfl rfl (h.st.wr.own.below hb6) hrowD hne hD1 ?_ ?_ ?_); go_must (focus (omega)); go_must (focus (exact hBW)); intro v6 w6 hown6 hgr hat)
  have hx6 : w6.heap[wb]? = W.heap[wb]? := hgr.block wb hgl.1 (fun e => hne5 e.symm)
  refine hQ₁ _ _ ⟨⟨w6, hx6⟩, rfl⟩ ?_
  clear hQ₁ Q₁
  refine ordS_last ?_
  repeat (change wpQuiet _ _ _ _ (List.cons _ _) _; go_big_quiet_step (fail))
  refine wpQuiet_nil ?_
  intro Q₁ hQ₁
  simp only [Option.toList]
  have hk6 : w6.heap[wb]? = some (.cells #[.slice av n cv] 113 (0, 0)) := hx6.trans h.st.wr.blk
  have hfz6 : w6.frozen? ⟨wb, 0, none⟩ = false := by simp [World.frozen?, hk6]
  have hcx6 : w6.cell? ⟨wb, 0, none⟩ = some (.slice av n cv) := by simp [World.cell?, hk6]
  rw [hDl] at hown6
  obtain ⟨a6, c6, rfl⟩ := hown6.slice
  obtain ⟨hW7, hT7⟩ := h.st.wr.stored hb6 hgr hown6 hat hBW h.bx
  have hG := h.wt hW7 hT7
  clear hW7 hT7 hat hown6 hgr hrowD hne hD1 hDl hkey h68
  go_upto_region 999 with ((with_reducible show Code.wp _ _ (bodyPost _ _ _) _ _); exact guest9 _ _ _ _ _ _ _ _ _ _ _ _ _ _ _ _ _ _ _ _ _ _ _ _ _ _ _ _ _ _ _ _ _ _ _ _ _ _ _ _ _ _ _ _ _ _ _ _ _ _ _ _ _ _ _ _ _ _ _ _ _ _ _ _ _ _ _ _ _ _ _ _ _ _ _ _ _ _ _ _ _ _ _ _ _ _ _ _ _ _ _ _ _ _ _ _ _ _ _ _ _ _ _ _ _ _ _ _ _ _ _ _ _ _ _ _ _ _ _ _ _ _ _ _ _ _ _ _ _ _ _ _ _ _ _ _ _ _ _ _ _ _ _ _ _ _ _ _ _ _ _ _ _ _ _ _ _ _ _ _ _ _ _ _ _ _ _ _ _ _ hG (by omega) h0 hnm.out hky.out)
set_option maxRecDepth 100000 in
set_option maxHeartbeats 8000000 in
theorem guest7 (u1 u2 u4 u5 u6 u7 u8 u9 u10 u11 u12 u13 u14 u15 u16 u17 u18 u19 u20 u21 u22 u23 u24 u25 u26 u27 u28 u29 u30 u31 u32 u33 u34 u35 u36 u37 u38 u39 u40 u41 u42 u43 u44 u45 u46 u47 u48 u49 u50 u51 u52 u53 u54 u55 u56 u57 u58 u59 u60 u61 u62 u63 u64 u65 u66 u67 u68 u69 u70 u71 u72 u73 u74 u75 u76 u77 u78 u79 u80 u81 u82 u83 u84 u85 u86 u87 u88 u89 u90 u91 u92 u93 u94 u95 u96 u97 u98 u99 u100 u101 u102 u103 u104 u105 u106 u107 u108 u109 u110 u111 u112 u113 u114 u115 u116 u117 u118 u119 u120 u121 u122 u123 u124 u125 u126 u127 u128 u129 u130 u131 u132 u133 u134 u135 u136 u137 u138 u139 u140 u141 u142 u143 u144 u145 u146 u147 u148 u149 u150 u151 u152 u153 u154 u155 u156 u157 u158 u159 u160 u161 u162 u163 u164 u165 u166 u167 u168 u169 u170 u171 : Value) {w0 w W : World} {wb gb n0 n : Nat} {v0 v : Value} {t : GuestV} {C : Array Value} (h : GIn w0 w W wb gb n v0 v t C) (hn : n ≤ n0 + 48) (h0 : n0 ≤ 1000000) (hnm : nameOk t.name = true) :
    (tailC 7 (Tryz.f54.body.getD .skip)).wp Tryz.prog (bodyPost Tryz.prog Tryz.f54 (GPost w0 w wb n0 v0 t)) ⟨List.toArray (.pointer (some ⟨wb, 0, none⟩) :: u1 :: u2 :: .pointer (some ⟨gb, 0, none⟩) :: u4 :: u5 :: u6 :: u7 :: u8 :: u9 :: u10 :: u11 :: u12 :: u13 :: u14 :: u15 :: u16 :: u17 :: u18 :: u19 :: u20 :: u21 :: u22 :: u23 :: u24 :: u25 :: u26 :: u27 :: u28 :: u29 :: u30 :: u31 :: u32 :: u33 :: u34 :: u35 :: u36 :: u37 :: u38 :: u39 :: u40 :: u41 :: u42 :: u43 :: u44 :: u45 :: u46 :: u47 :: u48 :: u49 :: u50 :: u51 :: u52 :: u53 :: u54 :: u55 :: u56 :: u57 :: u58 :: u59 :: u60 :: u61 :: u62 :: u63 :: u64 :: u65 :: u66 :: u67 :: u68 :: u69 :: u70 :: u71 :: u72 :: u73 :: u74 :: u75 :: u76 :: u77 :: u78 :: u79 :: u80 :: u81 :: u82 :: u83 :: u84 :: u85 :: u86 :: u87 :: u88 :: u89 :: u90 :: u91 :: u92 :: u93 :: u94 :: u95 :: u96 :: u97 :: u98 :: u99 :: u100 :: u101 :: u102 :: u103 :: u104 :: u105 :: u106 :: u107 :: u108 :: u109 :: u110 :: u111 :: u112 :: u113 :: u114 :: u115 :: u116 :: u117 :: u118 :: u119 :: u120 :: u121 :: u122 :: u123 :: u124 :: u125 :: u126 :: u127 :: u128 :: u129 :: u130 :: u131 :: u132 :: u133 :: u134 :: u135 :: u136 :: u137 :: u138 :: u139 :: u140 :: u141 :: u142 :: u143 :: u144 :: u145 :: u146 :: u147 :: u148 :: u149 :: u150 :: u151 :: u152 :: u153 :: u154 :: u155 :: u156 :: u157 :: u158 :: u159 :: u160 :: u161 :: u162 :: u163 :: u164 :: u165 :: u166 :: u167 :: u168 :: u169 :: u170 :: u171 :: []), []⟩ W := by
  have hkey := h.keyAt
  have h68 := h.gr.key.2.1
  have hcall := keyed_any t.key W h.gr.key.2.2 h68
  have hz := gkey_info
  have hgk : keyOk t.key = false → gOk t = false := fun e => by rw [gOk_eq, e, hnm]; rfl
  replace hnm := Lib.hid hnm
  replace hkey := Lib.hid hkey
  replace h68 := Lib.hid h68
  replace hgk := Lib.hid hgk
  replace hz := Lib.hid hz
  conv => arg 2; whnf
  go_wp2_with (refine wpList_load_mid rfl 40 _ rfl gb 7 rfl (t.key.map (Value.int .u8)) _ hkey.out Tryz.underlying40 rfl (by rw [hz.out, List.length_map, h68.out]) ?_)
  refine hcall.mono ?_; rintro e w1 ⟨rfl, hb1⟩
  have hG := h.then hb1
  clear hcall hkey
  go_wp2_with fail
  refine (cmust_any _ _ _ _).mono ?_; rintro e w2 ⟨rfl, rfl⟩
  by_cases hk : keyOk t.key = true
  case neg =>
    rw [Bool.not_eq_true] at hk
    rw [hk]
    exact ⟨rfl, hG.no (by omega) (hgk.out hk) (by decide)⟩
  rw [hk]
  replace hk := Lib.hid hk
  go_upto_region 999 with ((with_reducible show Code.wp _ _ (bodyPost _ _ _) _ _); exact guest8 _ _ _ _ _ _ _ _ _ _ _ _ _ _ _ _ _ _ _ _ _ _ _ _ _ _ _ _ _ _ _ _ _ _ _ _ _ _ _ _ _ _ _ _ _ _ _ _ _ _ _ _ _ _ _ _ _ _ _ _ _ _ _ _ _ _ _ _ _ _ _ _ _ _ _ _ _ _ _ _ _ _ _ _ _ _ _ _ _ _ _ _ _ _ _ _ _ _ _ _ _ _ _ _ _ _ _ _ _ _ _ _ _ _ _ _ _ _ _ _ _ _ _ _ _ _ _ _ _ _ _ _ _ _ _ _ _ _ _ _ _ _ _ _ _ _ _ _ _ _ _ _ _ _ _ _ _ _ _ _ _ _ _ _ _ _ _ _ _ _ hG (by omega) h0 hnm.out hk.out)
end Go.Proofs.YtffdfeekpfmbeaaGreat
/- The writer of a guest: its numbers. -/
namespace Go.Proofs.YtffdfeekpfmbeaaGreat
open Go Go.RowKit Go.BigFrame

set_option maxRecDepth 100000 in
set_option maxHeartbeats 8000000 in
theorem guest6 (u1 u2 u4 u5 u6 u7 u8 u9 u10 u11 u12 u13 u14 u15 u16 u17 u18 u19 u20 u21 u22 u23 u24 u25 u26 u27 u28 u29 u30 u31 u32 u33 u34 u35 u36 u37 u38 u39 u40 u41 u42 u43 u44 u45 u46 u47 u48 u49 u50 u51 u52 u53 u54 u55 u56 u57 u58 u59 u60 u61 u62 u63 u64 u65 u66 u67 u68 u69 u70 u71 u72 u73 u74 u75 u76 u77 u78 u79 u80 u81 u82 u83 u84 u85 u86 u87 u88 u89 u90 u91 u92 u93 u94 u95 u96 u97 u98 u99 u100 u101 u102 u103 u104 u105 u106 u107 u108 u109 u110 u111 u112 u113 u114 u115 u116 u117 u118 u119 u120 u121 u122 u123 u124 u125 u126 u127 u128 u129 u130 u131 u132 u133 u134 u135 u136 u137 u138 u139 u140 u141 u142 u143 u144 u145 u146 u147 u148 u149 u150 u151 u152 u153 u154 u155 u156 u157 u158 u159 u160 u161 u162 u163 u164 u165 u166 u167 u168 u169 u170 u171 : Value) {w0 w W : World} {wb gb n0 n : Nat} {v0 v : Value} {t : GuestV} {C : Array Value} (h : GIn w0 w W wb gb n v0 v t C) (hn : n ≤ n0 + 32) (h0 : n0 ≤ 1000000) (hnm : nameOk t.name = true) :
    (tailC 6 (Tryz.f54.body.getD .skip)).wp Tryz.prog (bodyPost Tryz.prog Tryz.f54 (GPost w0 w wb n0 v0 t)) ⟨List.toArray (.pointer (some ⟨wb, 0, none⟩) :: u1 :: u2 :: .pointer (some ⟨gb, 0, none⟩) :: u4 :: u5 :: u6 :: u7 :: u8 :: u9 :: u10 :: u11 :: u12 :: u13 :: u14 :: u15 :: u16 :: u17 :: u18 :: u19 :: u20 :: u21 :: u22 :: u23 :: u24 :: u25 :: u26 :: u27 :: u28 :: u29 :: u30 :: u31 :: u32 :: u33 :: u34 :: u35 :: u36 :: u37 :: u38 :: u39 :: u40 :: u41 :: u42 :: u43 :: u44 :: u45 :: u46 :: u47 :: u48 :: u49 :: u50 :: u51 :: u52 :: u53 :: u54 :: u55 :: u56 :: u57 :: u58 :: u59 :: u60 :: u61 :: u62 :: u63 :: u64 :: u65 :: u66 :: u67 :: u68 :: u69 :: u70 :: u71 :: u72 :: u73 :: u74 :: u75 :: u76 :: u77 :: u78 :: u79 :: u80 :: u81 :: u82 :: u83 :: u84 :: u85 :: u86 :: u87 :: u88 :: u89 :: u90 :: u91 :: u92 :: u93 :: u94 :: u95 :: u96 :: u97 :: u98 :: u99 :: u100 :: u101 :: u102 :: u103 :: u104 :: u105 :: u106 :: u107 :: u108 :: u109 :: u110 :: u111 :: u112 :: u113 :: u114 :: u115 :: u116 :: u117 :: u118 :: u119 :: u120 :: u121 :: u122 :: u123 :: u124 :: u125 :: u126 :: u127 :: u128 :: u129 :: u130 :: u131 :: u132 :: u133 :: u134 :: u135 :: u136 :: u137 :: u138 :: u139 :: u140 :: u141 :: u142 :: u143 :: u144 :: u145 :: u146 :: u147 :: u148 :: u149 :: u150 :: u151 :: u152 :: u153 :: u154 :: u155 :: u156 :: u157 :: u158 :: u159 :: u160 :: u161 :: u162 :: u163 :: u164 :: u165 :: u166 :: u167 :: u168 :: u169 :: u170 :: u171 :: []), []⟩ W := by
  have c5 := h.cell h.gr.entry.1
  have c6 := h.cell h.gr.dtb.1
  have hrow : RowV (W.alloc (.cells #[.int .u64 t.entry, .int .u64 t.dtb] 22)) (.slice (some ⟨W.heap.size, 0, none⟩) 2 2) ([t.entry, t.dtb].map (Value.int .u64)) := RowV.lit W _ _
  obtain ⟨V4, hV4⟩ : ∃ V4, V4 = W.alloc (.cells #[.int .u64 t.entry, .int .u64 t.dtb] 22) := ⟨_, rfl⟩
  have hb4 : Below W.heap.size W V4 := by rw [hV4]; exact bone _ _
  rw [← hV4] at hrow
  have hG4 := h.then hb4
  have hcall := eight_any wb w0.heap.size _ v _ [t.entry, t.dtb] V4 hG4.st.wr hrow ⟨by omega, by simp⟩ hG4.B hG4.bx
  clear hrow
  replace hV4 := Lib.hid hV4
  replace hnm := Lib.hid hnm
  conv => arg 2; whnf
  go_wp2_with fail
  rw [← hV4.out]
  refine hcall.mono ?_; rintro e W5 ⟨v5, rfl, hw', ht'⟩
  have hG5 := hG4.wt hw' ht'
  clear hcall hw' ht' hV4
  go_upto_region 999 with ((with_reducible show Code.wp _ _ (bodyPost _ _ _) _ _); exact guest7 _ _ _ _ _ _ _ _ _ _ _ _ _ _ _ _ _ _ _ _ _ _ _ _ _ _ _ _ _ _ _ _ _ _ _ _ _ _ _ _ _ _ _ _ _ _ _ _ _ _ _ _ _ _ _ _ _ _ _ _ _ _ _ _ _ _ _ _ _ _ _ _ _ _ _ _ _ _ _ _ _ _ _ _ _ _ _ _ _ _ _ _ _ _ _ _ _ _ _ _ _ _ _ _ _ _ _ _ _ _ _ _ _ _ _ _ _ _ _ _ _ _ _ _ _ _ _ _ _ _ _ _ _ _ _ _ _ _ _ _ _ _ _ _ _ _ _ _ _ _ _ _ _ _ _ _ _ _ _ _ _ _ _ _ _ _ _ _ _ _ hG5 (by simp; omega) h0 hnm.out)
set_option maxRecDepth 100000 in
set_option maxHeartbeats 8000000 in
theorem guest5 (u1 u2 u4 u5 u6 u7 u8 u9 u10 u11 u12 u13 u14 u15 u16 u17 u18 u19 u20 u21 u22 u23 u24 u25 u26 u27 u28 u29 u30 u31 u32 u33 u34 u35 u36 u37 u38 u39 u40 u41 u42 u43 u44 u45 u46 u47 u48 u49 u50 u51 u52 u53 u54 u55 u56 u57 u58 u59 u60 u61 u62 u63 u64 u65 u66 u67 u68 u69 u70 u71 u72 u73 u74 u75 u76 u77 u78 u79 u80 u81 u82 u83 u84 u85 u86 u87 u88 u89 u90 u91 u92 u93 u94 u95 u96 u97 u98 u99 u100 u101 u102 u103 u104 u105 u106 u107 u108 u109 u110 u111 u112 u113 u114 u115 u116 u117 u118 u119 u120 u121 u122 u123 u124 u125 u126 u127 u128 u129 u130 u131 u132 u133 u134 u135 u136 u137 u138 u139 u140 u141 u142 u143 u144 u145 u146 u147 u148 u149 u150 u151 u152 u153 u154 u155 u156 u157 u158 u159 u160 u161 u162 u163 u164 u165 u166 u167 u168 u169 u170 u171 : Value) {w0 w W : World} {wb gb n0 n : Nat} {v0 v : Value} {t : GuestV} {C : Array Value} (h : GIn w0 w W wb gb n v0 v t C) (hn : n ≤ n0 + 16) (h0 : n0 ≤ 1000000) (hnm : nameOk t.name = true) :
    (tailC 5 (Tryz.f54.body.getD .skip)).wp Tryz.prog (bodyPost Tryz.prog Tryz.f54 (GPost w0 w wb n0 v0 t)) ⟨List.toArray (.pointer (some ⟨wb, 0, none⟩) :: u1 :: u2 :: .pointer (some ⟨gb, 0, none⟩) :: u4 :: u5 :: u6 :: u7 :: u8 :: u9 :: u10 :: u11 :: u12 :: u13 :: u14 :: u15 :: u16 :: u17 :: u18 :: u19 :: u20 :: u21 :: u22 :: u23 :: u24 :: u25 :: u26 :: u27 :: u28 :: u29 :: u30 :: u31 :: u32 :: u33 :: u34 :: u35 :: u36 :: u37 :: u38 :: u39 :: u40 :: u41 :: u42 :: u43 :: u44 :: u45 :: u46 :: u47 :: u48 :: u49 :: u50 :: u51 :: u52 :: u53 :: u54 :: u55 :: u56 :: u57 :: u58 :: u59 :: u60 :: u61 :: u62 :: u63 :: u64 :: u65 :: u66 :: u67 :: u68 :: u69 :: u70 :: u71 :: u72 :: u73 :: u74 :: u75 :: u76 :: u77 :: u78 :: u79 :: u80 :: u81 :: u82 :: u83 :: u84 :: u85 :: u86 :: u87 :: u88 :: u89 :: u90 :: u91 :: u92 :: u93 :: u94 :: u95 :: u96 :: u97 :: u98 :: u99 :: u100 :: u101 :: u102 :: u103 :: u104 :: u105 :: u106 :: u107 :: u108 :: u109 :: u110 :: u111 :: u112 :: u113 :: u114 :: u115 :: u116 :: u117 :: u118 :: u119 :: u120 :: u121 :: u122 :: u123 :: u124 :: u125 :: u126 :: u127 :: u128 :: u129 :: u130 :: u131 :: u132 :: u133 :: u134 :: u135 :: u136 :: u137 :: u138 :: u139 :: u140 :: u141 :: u142 :: u143 :: u144 :: u145 :: u146 :: u147 :: u148 :: u149 :: u150 :: u151 :: u152 :: u153 :: u154 :: u155 :: u156 :: u157 :: u158 :: u159 :: u160 :: u161 :: u162 :: u163 :: u164 :: u165 :: u166 :: u167 :: u168 :: u169 :: u170 :: u171 :: []), []⟩ W := by
  have f1 := h.cell h.gr.mand
  have f2 := h.cell h.gr.off.1
  have f3 := h.cell h.gr.len.1
  have f4 := h.cell h.gr.cpus.1
  have hgl := h.lt
  replace hnm := Lib.hid hnm
  conv => arg 2; whnf
  go_upto_region 5 with fail
  refine region_ord (fun z => ∃ X : HeldB gb W, z = X.x) [([0, 1, 2, 4, 5, 6, 7, 8, 9], 3), ([], 10), ([], 11)] [] (by kernel_rfl) (by kernel_rfl) (by kernel_rfl) (by kernel_rfl) ⟨⟨W.drew, rfl⟩, rfl⟩ ?_
  simp only [List.map_cons, List.map_nil, List.filterMap_cons, List.filterMap_nil, List.getElem?_cons_succ, List.getElem?_cons_zero]
  have y1 := held_cell (w0 := W) f1
  have y2 := held_cell (w0 := W) f2
  have y3 := held_cell (w0 := W) f3
  have y4 := held_cell (w0 := W) f4
  have hb8 : Below W.heap.size W W.drew := (Below.refl _ _).drew
  refine ord_step ?_
  repeat (change wpQuiet _ _ _ _ (List.cons _ _) _; go_big_quiet_step (fail))
  refine wpQuiet_nil ?_
  intro Q₁ hQ₁
  simp only [Option.toList]
  go_wp2_with fail
  refine (truth_any t.mand W.drew).mono ?_; rintro e w8 ⟨rfl, rfl⟩
  generalize (if t.mand = true then (1 : Int) else 0) = tv
  go_wp2_with fail
  refine hQ₁ _ _ ⟨⟨W.drew, rfl⟩, rfl⟩ ?_
  clear hQ₁ Q₁
  refine ord_step ?_
  refine wpQuiet_nil ?_
  intro Q₁ hQ₁
  simp only [Option.toList]
  go_wp2_with fail
  have hb4 : Below W.heap.size W (W.alloc (.cells #[.int .u32 tv, .int .u32 t.off, .int .u32 t.len, .int .u32 t.cpus] 27)).drew := (bone W _).drew
  have hhA := hb4.block gb hgl.2
  have hrow : RowV (W.alloc (.cells #[.int .u32 tv, .int .u32 t.off, .int .u32 t.len, .int .u32 t.cpus] 27)).drew (.slice (some ⟨W.heap.size, 0, none⟩) 4 4) ([tv, t.off, t.len, t.cpus].map (Value.int .u32)) := (RowV.lit W #[.int .u32 tv, .int .u32 t.off, .int .u32 t.len, .int .u32 t.cpus] _).below (Below.refl _ _).drew
  refine hQ₁ _ _ ⟨⟨_, hhA⟩, rfl⟩ ?_
  clear hQ₁ Q₁
  generalize (W.alloc (.cells #[.int .u32 tv, .int .u32 t.off, .int .u32 t.len, .int .u32 t.cpus] 27)).drew = V2 at *
  have hG2 := h.then hb4
  have hcall := four_any wb w0.heap.size _ v _ [tv, t.off, t.len, t.cpus] V2 hG2.st.wr hrow ⟨by omega, by simp⟩ hG2.B hG2.bx
  clear hrow y1 y2 y3 y4 f1 f2 f3 f4
  refine ord_step ?_
  refine wpQuiet_nil ?_
  intro Q₁ hQ₁
  simp only [Option.toList]
  go_wp2_with fail
  refine hcall.mono ?_; rintro e W' ⟨v2, rfl, hw', ht'⟩
  have hG3 := hG2.wt hw' ht'
  have hkp := (ht'.keep hG2.lt.2 hG2.ne hG2.st.own).1
  clear hcall hw' ht'
  go_wp2_with fail
  refine hQ₁ _ _ ⟨⟨_, hkp.trans hhA⟩, rfl⟩ ?_
  clear hQ₁ Q₁ hhA hkp
  refine ord_last ?_
  refine wpQuiet_nil ?_
  go_upto_region 999 with ((with_reducible show Code.wp _ _ (bodyPost _ _ _) _ _); exact guest6 _ _ _ _ _ _ _ _ _ _ _ _ _ _ _ _ _ _ _ _ _ _ _ _ _ _ _ _ _ _ _ _ _ _ _ _ _ _ _ _ _ _ _ _ _ _ _ _ _ _ _ _ _ _ _ _ _ _ _ _ _ _ _ _ _ _ _ _ _ _ _ _ _ _ _ _ _ _ _ _ _ _ _ _ _ _ _ _ _ _ _ _ _ _ _ _ _ _ _ _ _ _ _ _ _ _ _ _ _ _ _ _ _ _ _ _ _ _ _ _ _ _ _ _ _ _ _ _ _ _ _ _ _ _ _ _ _ _ _ _ _ _ _ _ _ _ _ _ _ _ _ _ _ _ _ _ _ _ _ _ _ _ _ _ _ _ _ _ _ _ hG3 (by simp; omega) h0 hnm.out)
end Go.Proofs.YtffdfeekpfmbeaaGreat
/- The walk of cfg's writer of a guest. -/
namespace Go.Proofs.YtffdfeekpfmbeaaGreat
open Go Go.RowKit Go.BigFrame

set_option maxRecDepth 100000 in
set_option maxHeartbeats 8000000 in
theorem putGuest_any (w0 : World) (wb n : Nat) (v : Value) (t : GuestV) (cs : List Value) (w : World) (hg : GuestR w0 cs t) (hl : cs.length = 79) (hw : Wr w wb w0.heap.size n v) (hbw : Below w0.heap.size w0 w) (hBx : w0.heap.size ≤ wb) (hn : n ≤ 1000000) (hns : t.name.size ≤ 1000000) :
    Calls Tryz.prog 54 #[.pointer (some ⟨wb, 0, none⟩), .agg cs.toArray] w fun e w' => GPost w0 w wb n v t e w' := by
  have hB := hbw.size
  obtain ⟨W1, hW1⟩ : ∃ W1, W1 = w.alloc (.cells cs.toArray 50) := ⟨_, rfl⟩
  have hb1 : Below w.heap.size w W1 := by rw [hW1]; exact bone _ _
  have hwlt := hw.lt
  have s1 : GSt w0 W1 wb w.heap.size cs.toArray n v := by
    refine ⟨hw.below hb1, hbw.trans (hb1.mono hB), by rw [hW1]; exact World.alloc_heap_new w _, fun h => ?_⟩
    have := (hw.own.lt _ h).2
    omega
  have ht1 : WT w0.heap.size wb v v w W1 := WT.of_below hb1 hB
  have hne : w.heap.size ≠ wb := by omega
  have C0 : cs.toArray[0]? = some (.string t.name) := by simpa using hg.name
  have C1 : cs.toArray[1]? = some (.bool t.mand) := by simpa using hg.mand
  have C2 : cs.toArray[2]? = some (.int .u32 t.off) := by simpa using hg.off.1
  have C3 : cs.toArray[3]? = some (.int .u32 t.len) := by simpa using hg.len.1
  have C4 : cs.toArray[4]? = some (.int .u32 t.cpus) := by simpa using hg.cpus.1
  have C5 : cs.toArray[5]? = some (.int .u64 t.entry) := by simpa using hg.entry.1
  have C6 : cs.toArray[6]? = some (.int .u64 t.dtb) := by simpa using hg.dtb.1
  have d0 := s1.cell C0
  generalize hC : cs.toArray = C at *
  replace hC := Lib.hid hC
  replace hW1 := Lib.hid hW1
  replace hg := Lib.hid hg
  replace hl := Lib.hid hl
  replace hw := Lib.hid hw
  replace C0 := Lib.hid C0
  replace C1 := Lib.hid C1
  replace C2 := Lib.hid C2
  replace C3 := Lib.hid C3
  replace C4 := Lib.hid C4
  replace C5 := Lib.hid C5
  replace C6 := Lib.hid C6
  go_enter Tryz.func54, Tryz.ntmps54
  go_wp2_with (rw [← hW1.out])
  clear hW1
  refine (name_any t.name W1 hns).mono ?_; rintro e W2 ⟨rfl, hb2⟩
  have s2 := s1.then hb2
  have ht2 := ht1.then hb2 hB
  go_wp2_with fail
  refine (cmust_any _ _ _ W2).mono ?_; rintro e W2' ⟨rfl, rfl⟩
  by_cases h1 : nameOk t.name = true
  case neg =>
    rw [Bool.not_eq_true] at h1
    rw [h1]
    exact ⟨rfl, PutE_no (gOk_name h1) (by decide), v, n, by omega, s2.wr, ht2⟩
  rw [h1]
  go_wp2_with fail
  have hsz : t.name.size ≤ 16 := by
    unfold nameOk at h1
    simp only [Bool.and_eq_true, decide_eq_true_eq] at h1
    exact h1.2.2
  generalize hW3 : W2.alloc (.cells #[.int .u8 0, .int .u8 0, .int .u8 0, .int .u8 0, .int .u8 0, .int .u8 0, .int .u8 0, .int .u8 0, .int .u8 0, .int .u8 0, .int .u8 0, .int .u8 0, .int .u8 0, .int .u8 0, .int .u8 0, .int .u8 0] 152) = W3
  have hb3 : Below W2.heap.size W2 W3 := by rw [← hW3]; exact bone _ _
  have k3 : W3.heap[W2.heap.size]? = some (.cells #[.int .u8 0, .int .u8 0, .int .u8 0, .int .u8 0, .int .u8 0, .int .u8 0, .int .u8 0, .int .u8 0, .int .u8 0, .int .u8 0, .int .u8 0, .int .u8 0, .int .u8 0, .int .u8 0, .int .u8 0, .int .u8 0] 152 (0, 0)) := by rw [← hW3]; exact World.alloc_heap_new W2 _
  clear hW3
  have s3 := s2.then hb3
  have ht3 := ht2.then hb3 hB
  have hgl : w.heap.size < W2.heap.size := by have := (Array.getElem?_eq_some_iff.1 s2.box).1; exact this
  have e0 := s3.cell C0.out
  refine region_ord (fun z => ∃ X : HeldB w.heap.size W3, z = X.x) [([0, 1, 2], 3)] [] (by kernel_rfl) (by kernel_rfl) (by kernel_rfl) (by kernel_rfl) ⟨⟨W3.drew, rfl⟩, rfl⟩ ?_
  simp only [List.map_cons, List.map_nil, List.filterMap_cons, List.filterMap_nil, List.getElem?_cons_succ, List.getElem?_cons_zero]
  have y0 := held_cell (w0 := W3) e0
  have hb4 : Below W3.heap.size W3 W3.drew := (Below.refl _ _).drew
  have hh4 : W3.drew.heap[w.heap.size]? = W3.heap[w.heap.size]? := rfl
  have k4 : W3.drew.heap[W2.heap.size]? = some (.cells #[.int .u8 0, .int .u8 0, .int .u8 0, .int .u8 0, .int .u8 0, .int .u8 0, .int .u8 0, .int .u8 0, .int .u8 0, .int .u8 0, .int .u8 0, .int .u8 0, .int .u8 0, .int .u8 0, .int .u8 0, .int .u8 0] 152 (0, 0)) := k3
  generalize W3.drew = W4 at *
  have hcp : ∀ ty, (Builtin.copy_ #[65, 9] ty #[.slice (some ⟨W2.heap.size, 0, none⟩) 16 16, .string t.name]).run Tryz.prog W4 = _ := fun ty => Lib.run_copy_row_string (P := Tryz.prog) W4 65 9 ty 5 W2.heap.size 0 16 16 t.name _ 152 (by kernel_rfl) (by kernel_rfl) k4 hsz (by simpa using hsz)
  refine ord_step ?_
  repeat (change wpQuiet _ _ _ _ (List.cons _ _) _; go_big_quiet_step (fail))
  refine wpQuiet_nil ?_
  intro Q₁ hQ₁
  simp only [Option.toList]
  go_wp2_with fail
  obtain ⟨D, hDe⟩ : ∃ D : Array Value, D = (Lib.byteCells t.name.data.toList ++ List.drop t.name.size [Value.int .u8 0, Value.int .u8 0, Value.int .u8 0, Value.int .u8 0, Value.int .u8 0, Value.int .u8 0, Value.int .u8 0, Value.int .u8 0, Value.int .u8 0, Value.int .u8 0, Value.int .u8 0, Value.int .u8 0, Value.int .u8 0, Value.int .u8 0, Value.int .u8 0, Value.int .u8 0]).toArray := ⟨_, rfl⟩
  rw [← hDe]
  have k5 := setRow_heap W4 W2.heap.size _ D _ _ k4
  have hb5 : Below W2.heap.size W2 (W4.setRow W2.heap.size D) := below_setRow (hb3.trans (hb4.mono hb3.size)) (Nat.le_refl _) D
  have hh5 : (W4.setRow W2.heap.size D).heap[w.heap.size]? = W3.heap[w.heap.size]? := (setRow_other W4 W2.heap.size w.heap.size D (by omega)).trans hh4
  refine hQ₁ _ _ ⟨⟨_, hh5⟩, rfl⟩ ?_
  clear hQ₁ Q₁ hcp
  generalize W4.setRow W2.heap.size D = W5 at *
  have s5 := s2.then hb5
  have ht5 := ht2.then hb5 hB
  clear k4 hh4 hh5 hb4 k3 y0 e0 ht3 s3
  have hD16 : D.size = 16 := by
    rw [hDe]
    simp [Lib.byteCells_length]
    have : t.name.data.toList.length = t.name.size := by rw [Array.length_toList]; rfl
    have : t.name.data.size = t.name.size := rfl
    omega
  have hD1 : ∀ y ∈ D.toList, y.oneCell' = true := by
    rw [hDe]
    intro y hy
    rcases List.mem_append.1 hy with h | h
    · exact Lib.byteCells_one _ y h
    · have := List.mem_of_mem_drop h
      simp at this
      rw [this]; rfl
  clear hDe
  refine ord_last ?_
  refine wpQuiet_nil ?_
  -- region 4: the sixteen bytes are put behind the others
  have cw5 := s5.wr.cell
  obtain ⟨av, cv, rfl⟩ := s5.wr.own.slice
  go_wp2_with fail
  refine region_ordS (fun z => ∃ X : HeldB wb W5, z = X.x) [([0, 1, 2, 3, 4, 5], 6)] [7, 8] 9 (by kernel_rfl) (by kernel_rfl) (by kernel_rfl) (by kernel_rfl) ⟨⟨W5.drew, rfl⟩, rfl⟩ ?_
  simp only [List.map_cons, List.map_nil, List.filterMap_cons, List.filterMap_nil, List.getElem?_cons_succ, List.getElem?_cons_zero]
  have y5 := held_cell (w0 := W5) cw5
  have hb6 : Below W5.heap.size W5 W5.drew := (Below.refl _ _).drew
  refine ordS_step ?_
  repeat (change wpQuiet _ _ _ _ (List.cons _ _) _; go_big_quiet_step (fail))
  refine wpQuiet_nil ?_
  intro Q₁ hQ₁
  simp only [Option.toList]
  have hne5 := s5.wr.own.ne s5.wr.blk wr_u8
  have hrowD : RowV W5.drew (.slice (some ⟨W2.heap.size, 0, none⟩) 16 16) D.toList := by
    refine ⟨_, 16, by rw [Array.length_toList, hD16], fun _ => ⟨_, _, rfl, (Array.getElem?_eq_some_iff.1 k5).1, fun j y hy => ?_⟩⟩
    simp only [World.cell?]
    rw [show W5.drew.heap[W2.heap.size]? = _ from k5]
    simpa using hy
  have hDl : D.toList.length = 16 := by rw [Array.length_toList, hD16]
  go_wp2_with (at_builtin; go_must (refine OwnN.app rfl _ _ rfl w0.heap.size (.slice av n cv) (.slice (some ⟨W2.heap.size, 0, none⟩) 16 16) n _ rfl rfl (s5.wr.own.below hb6) hrowD ?_ hD1 ?_ ?_ ?_); go_must (focus (intro e; rw [e] at hDl; simp at hDl)); go_must (focus (omega)); go_must (focus (exact s5.bl.size)); intro v6 w6 hown6 hgr hat)
  have hx6 : w6.heap[wb]? = W5.heap[wb]? := hgr.block wb s5.wr.lt (fun e => hne5 e.symm)
  refine hQ₁ _ _ ⟨⟨w6, hx6⟩, rfl⟩ ?_
  clear hQ₁ Q₁
  refine ordS_last ?_
  repeat (change wpQuiet _ _ _ _ (List.cons _ _) _; go_big_quiet_step (fail))
  refine wpQuiet_nil ?_
  intro Q₁ hQ₁
  simp only [Option.toList]
  have hk6 : w6.heap[wb]? = some (.cells #[.slice av n cv] 113 (0, 0)) := hx6.trans s5.wr.blk
  have hfz6 : w6.frozen? ⟨wb, 0, none⟩ = false := by simp [World.frozen?, hk6]
  have hcx6 : w6.cell? ⟨wb, 0, none⟩ = some (.slice av n cv) := by simp [World.cell?, hk6]
  rw [hDl] at hown6
  obtain ⟨a6, c6, rfl⟩ := hown6.slice
  obtain ⟨hW7, hT7⟩ := s5.wr.stored hb6 hgr hown6 hat s5.bl.size hBx
  have hG := GIn.mk (s5.wt hne hW7 hT7) (ht5.trans hT7) hne hBx (by rw [← hC.out]; exact hg.out) (by rw [← hC.out]; simpa using hl.out)
  clear hg hl hC hW7 hT7 hx6 hgr hat hown6 hrowD hne5 y5 cw5 ht5 s5 k5 hb5 hb6 ht2 s2 hb3 hD16 hD1 hDl
  replace h1 := Lib.hid h1
  go_upto_region 999 with ((with_reducible show Code.wp _ _ (bodyPost _ _ _) _ _); exact guest5 _ _ _ _ _ _ _ _ _ _ _ _ _ _ _ _ _ _ _ _ _ _ _ _ _ _ _ _ _ _ _ _ _ _ _ _ _ _ _ _ _ _ _ _ _ _ _ _ _ _ _ _ _ _ _ _ _ _ _ _ _ _ _ _ _ _ _ _ _ _ _ _ _ _ _ _ _ _ _ _ _ _ _ _ _ _ _ _ _ _ _ _ _ _ _ _ _ _ _ _ _ _ _ _ _ _ _ _ _ _ _ _ _ _ _ _ _ _ _ _ _ _ _ _ _ _ _ _ _ _ _ _ _ _ _ _ _ _ _ _ _ _ _ _ _ _ _ _ _ _ _ _ _ _ _ _ _ _ _ _ _ _ _ _ _ _ _ _ _ _ hG (Nat.le_refl _) hn h1.out)
end Go.Proofs.YtffdfeekpfmbeaaGreat
