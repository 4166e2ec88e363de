/- All rules: the names. -/
import Derived.StringKeys
import Derived.Test.YtffdfeekpfmbeaaGreatValidChecksP12
import Derived.Test.YtffdfeekpfmbeaaGreatValidChecksP42
namespace Go.Proofs.YtffdfeekpfmbeaaGreat
open Go Go.RowKit Go.BigFrame Go.Maps Go.MapKept
open Go.ChangeMaps (setBlock)

def keyS (s : ByteArray) : Value := .string s
theorem mapSI : ∃ k e, Tryz.prog.underlying 81 = some (.map k e) ∧ k = 9 ∧ e = 3 := ⟨_, _, by kernel_rfl, rfl, rfl⟩
theorem keyedS : Keyed Tryz.prog 9 := string_keyed Tryz.underlying9
theorem keyS_of {s : ByteArray} (h : s.size ≤ 1000000) : ∃ l, keyOf Tryz.prog 9 (keyS s) = some l := ⟨_, Go.WideMaps.keyOf_string_mk Tryz.underlying9 (by unfold maxLen; omega)⟩
structure NamM (W : World) (mi : Nat) (N : List ByteArray) : Prop where
  kv : CntKV W mi (N.map keyS)
  ok : ∀ n ∈ N, n.size ≤ 1000000
theorem mem_keyS {N : List ByteArray} {n : ByteArray} : keyS n ∈ N.map keyS ↔ n ∈ N := by
  rw [List.mem_map]
  constructor
  · rintro ⟨m, hm, e⟩; injection e with e; rw [← e]; exact hm
  · exact fun h => ⟨n, h, rfl⟩
theorem NamM.same {W W' : World} {mi : Nat} {N : List ByteArray} (h : NamM W mi N) (hb : W'.heap[mi]? = W.heap[mi]?) : NamM W' mi N := ⟨h.kv.same hb, h.ok⟩
theorem nam_up {W : World} {mi : Nat} {N : List ByteArray} (h : NamM W mi N) {n : ByteArray} (hn : n.size ≤ 1000000) :
    (n ∉ N ∧ (∀ W', W'.heap[mi]? = W.heap[mi]? → (Instr.lookup 81 (.map (some mi)) (.string n) false).run Tryz.prog W' = .ok (.int .i64 0) W') ∧ ∀ W', W'.heap[mi]? = W.heap[mi]? → ∃ o, (Instr.mapUpdate 81 (.map (some mi)) (.string n) (.int .i64 1)).run Tryz.prog W' = .ok () (setBlock W' mi o) ∧ NamM (setBlock W' mi o) mi (N ++ [n]) ∧
      ∀ W2, W2.heap[mi]? = (setBlock W' mi o).heap[mi]? → (Instr.lookup 81 (.map (some mi)) (.string n) false).run Tryz.prog W2 = .ok (.int .i64 1) W2) ∨
    (n ∈ N ∧ (∀ W', W'.heap[mi]? = W.heap[mi]? → (Instr.lookup 81 (.map (some mi)) (.string n) false).run Tryz.prog W' = .ok (.int .i64 1) W') ∧ ∀ W', W'.heap[mi]? = W.heap[mi]? → ∃ o, (Instr.mapUpdate 81 (.map (some mi)) (.string n) (.int .i64 2)).run Tryz.prog W' = .ok () (setBlock W' mi o) ∧
      ∀ W2, W2.heap[mi]? = (setBlock W' mi o).heap[mi]? → (Instr.lookup 81 (.map (some mi)) (.string n) false).run Tryz.prog W2 = .ok (.int .i64 2) W2) := by
  obtain ⟨k, e, ht, rfl, rfl⟩ := mapSI
  obtain ⟨l, hl⟩ := keyS_of hn
  rcases cnt_up keyedS ht zeroCnt h.kv (fun x hx => by obtain ⟨m, hm, rfl⟩ := List.mem_map.1 hx; exact keyS_of (h.ok m hm)) hl with ⟨h1, h2, h3⟩ | ⟨h1, h2, h3⟩
  · refine .inl ⟨fun e => h1 (mem_keyS.2 e), h2, fun W' hb => ?_⟩
    obtain ⟨o, g1, g2, g3⟩ := h3 W' hb
    exact ⟨o, g1, ⟨by rw [List.map_append]; exact g2, fun m hm => by
      rcases List.mem_append.1 hm with hm | hm
      · exact h.ok m hm
      · rw [List.mem_singleton.1 hm]; exact hn⟩, g3⟩
  · exact .inr ⟨mem_keyS.1 h1, h2, h3⟩
theorem c2n_no {l : List GuestV} {t : GuestV} (h : t.name ∈ l.map GuestV.name) : c2n l t = false := by
  obtain ⟨x, hx, e⟩ := List.mem_map.1 h
  unfold c2n
  rw [List.all_eq_false]
  exact ⟨x, hx, by rw [decide_eq_true e]; simp⟩
theorem c2n_yes {l : List GuestV} {t : GuestV} (h : t.name ∉ l.map GuestV.name) : c2n l t = true := by
  unfold c2n
  rw [List.all_eq_true]
  intro x hx
  rw [decide_eq_false (fun e => h (List.mem_map.2 ⟨x, hx, e⟩))]; rfl
set_option maxRecDepth 100000 in
set_option maxHeartbeats 8000000 in
theorem all4 (u1 u2 u3 u5 u6 u7 u8 u9 u10 u11 u12 u13 u14 u15 u16 u17 u18 u19 u20 u21 u22 u23 u24 u25 u26 u27 u28 u29 u30 u31 u32 u33 u34 u35 u36 u37 u38 u39 u40 u41 u42 u43 u44 u45 u46 u47 u48 u49 u50 u51 u52 u53 u54 u55 u56 u57 u58 u59 u60 u61 u62 u63 u64 u65 u66 u67 u68 u69 u70 u71 u72 u73 u74 u75 u76 u77 u78 u79 u80 u81 u82 u83 u84 u85 u86 u87 u88 u89 u90 u91 u92 u93 u94 u95 u96 u97 u98 u99 u100 u101 u102 u103 u104 u105 u106 u107 u108 u109 u110 u111 u112 u113 u114 u115 u116 u117 u118 u119 u120 u121 u122 : Value) {w0 w W : World} {xb mi ms mn : Nat} {b : BrdV} {ver : Int} {vg vc : Value} {gs : List GuestV} {chs : List ChV} {o : Option (Int × Int)}
    (hc : ACt w0 w xb mi ms) (h : AIn w0 w W xb mi ms b ver vg vc 0 [] [] (.slice none 0 0) [] (.slice none 0 0)) (hM : NamM W mn []) (hmn : w.heap.size ≤ mn) (hmn2 : mn < W.heap.size) (hG : RowG w0 vg gs) (hC : RowC w0 vc chs) (hs : smallP gs chs) (hgl : gs.length ≤ 16) (hcl : chs.length ≤ 32) (hcnt : ∀ g ∈ gs, cntOk g = true) (hns : ∀ g ∈ gs, g.name.size ≤ 1000000)
    (hcp : 1 ≤ b.cpus ∧ b.cpus ≤ 32) (hst : 0 ≤ b.strs ∧ b.strs ≤ 256) (ho : o = fb (tailO b gs chs)) :
    (tailC 4 (Tryz.f10.body.getD .skip)).wp Tryz.prog (bodyPost Tryz.prog Tryz.f10 (APost w0 w xb mi ms o)) ⟨List.toArray (.pointer (some ⟨xb, 0, none⟩) :: u1 :: u2 :: u3 :: .map (some mn) :: u5 :: u6 :: u7 :: u8 :: u9 :: u10 :: u11 :: u12 :: u13 :: u14 :: u15 :: u16 :: u17 :: u18 :: u19 :: u20 :: u21 :: u22 :: u23 :: u24 :: u25 :: u26 :: u27 :: u28 :: u29 :: u30 :: u31 :: u32 :: u33 :: u34 :: u35 :: u36 :: u37 :: u38 :: u39 :: u40 :: u41 :: u42 :: u43 :: u44 :: u45 :: u46 :: u47 :: u48 :: u49 :: u50 :: u51 :: u52 :: u53 :: u54 :: u55 :: u56 :: u57 :: u58 :: u59 :: u60 :: u61 :: u62 :: u63 :: u64 :: u65 :: u66 :: u67 :: u68 :: u69 :: u70 :: u71 :: u72 :: u73 :: u74 :: u75 :: u76 :: u77 :: u78 :: u79 :: u80 :: u81 :: u82 :: u83 :: u84 :: u85 :: u86 :: u87 :: u88 :: u89 :: u90 :: u91 :: u92 :: u93 :: u94 :: u95 :: u96 :: u97 :: u98 :: u99 :: u100 :: u101 :: u102 :: u103 :: u104 :: u105 :: u106 :: u107 :: u108 :: u109 :: u110 :: u111 :: u112 :: u113 :: u114 :: u115 :: u116 :: u117 :: u118 :: u119 :: u120 :: u121 :: u122 :: []), []⟩ W := by
  have hG' := hG
  obtain ⟨ag, kg, rfl, hq3, hq4, hq5⟩ := hG
  obtain ⟨ac, kc, rfl⟩ := hC.slice
  have c8 := h.ck.c8
  replace ho := Lib.hid ho
  replace hcnt := Lib.hid hcnt
  replace hns := Lib.hid hns
  conv => arg 2; whnf
  go_wp2_with fail
  go_loopw [39] (fun i wr => ∃ (j : Nat), j ≤ gs.length ∧ i = .int .i64 j ∧ AIn w0 w wr xb mi ms b ver (.slice ag gs.length kg) (.slice ac chs.length kc) 0 [] [] (.slice none 0 0) [] (.slice none 0 0) ∧ NamM wr mn ((gs.take j).map GuestV.name) ∧ mn < wr.heap.size ∧ fb (namesO gs j) = none) (fun i _ => gs.length - (intOf i).toNat)
  case atStart => exact ⟨0, Nat.zero_le _, rfl, h, hM, hmn2, rfl⟩
  case round =>
    obtain ⟨j, hj, rfl, hA, hN, hml, hn⟩ := hrel
    by_cases hlt : j < gs.length
    · obtain ⟨q, off, rfl, hbl, hcl2⟩ := hq5 (by intro e; rw [e] at hlt; simp at hlt)
      obtain ⟨cs, hR, hcsl, hcell⟩ := hcl2 j hlt
      have hlow := hA.low hc
      have hce : ∀ i u, cs[i]? = some u → wr.cell? ⟨q, off + j * 79 + i, none⟩ = some u := fun i u hu => cell_lt hlow (hcell i u hu) hbl
      have hsl : cs.toArray.size = 79 := by simpa using hcsl
      have hone := hR.one hcsl
      have hix : gs[j]! = gs[j] := getElem!_pos gs j hlt
      have htk : (gs.take (j + 1)).map GuestV.name = (gs.take j).map GuestV.name ++ [gs[j].name] := by rw [take_one hlt, List.map_append]; rfl
      have hnk : gs[j].name ∈ (gs.take j).map GuestV.name → o = some (2, (j : Int)) := fun e => ho.out.trans (fb_left (fb_range hlt hn (by rw [fb_one, hix, c2n_no e]; rfl)))
      have hyk : gs[j].name ∉ (gs.take j).map GuestV.name → fb (namesO gs (j + 1)) = none := fun e => fb_range_succ hn (by rw [fb_one, hix, c2n_yes e]; rfl)
      have hup := nam_up hN (hns.out _ (List.getElem_mem hlt))
      have hnm := hR.name
      obtain ⟨V, hV⟩ : ∃ V, V = wr.alloc (.cells cs.toArray 50) := ⟨_, rfl⟩
      have hVb : Below wr.heap.size wr V := by rw [hV]; exact bone _ _
      have hVz : V.heap.size = wr.heap.size + 1 := by rw [hV]; simp
      have d0 : V.cell? ⟨wr.heap.size, 0, none⟩ = some (.string gs[j].name) := by rw [hV, World.cell?_alloc_new]; simpa using hnm
      clear hnm hix hcl2 hcell hq5 hcnt hns
      generalize gs[j].name = nm at *
      generalize (gs.take j).map GuestV.name = N at *
      have hA2 := hA.then hc hVb
      have hmV := hVb.block mn hml
      replace hnk := Lib.hid hnk
      replace hyk := Lib.hid hyk
      replace hn := Lib.hid hn
      replace htk := Lib.hid htk
      replace hV := Lib.hid hV
      replace hVz := Lib.hid hVz
      replace hcsl := Lib.hid hcsl
      replace hsl := Lib.hid hsl
      replace hce := Lib.hid hce
      replace hone := Lib.hid hone
      replace hmV := Lib.hid hmV
      go_upto_region 7 with (first | (refine wpl_load_x rfl 50 _ rfl q (off + j * 79) 79 cs Tryz.underlying50 rfl guest_size rfl hcsl.out hce.out ?_) | (refine wpl_alloc_x rfl 50 rfl zGuest_info ?_) | (refine wpl_store_x rfl 50 _ _ rfl (by rw [hsl.out]; exact guest_size) (by rw [hsl.out]; rfl) hone.out rfl rfl ?_))
      rw [← hV.out]
      clear hV hce
      have hgn : wr.heap.size ≠ mn := by omega
      rcases hup with ⟨hin, hlk, hst2⟩ | ⟨hin, hlk, hst2⟩
      · have lk := hlk V hmV.out
        obtain ⟨o1, g1, g2, g3⟩ := hst2 V hmV.out
        have hk := hyk.out hin
        have hoff : OffV w0.heap.size [mn] V (setBlock V mn o1) := (OffV.refl _ _ V).setB (.inl (by simp)) (Nat.le_trans hc.bl.size hmn) o1
        have hA3 : AIn w0 w (setBlock V mn o1) xb mi ms b ver (.slice (some ⟨q, off, none⟩) gs.length kg) (.slice ac chs.length kc) 0 [] [] (.slice none 0 0) [] (.slice none 0 0) := by
          have l1 := hc.l1
          have l2 := hc.l2
          have l3 := hc.l3
          have hz := hA2.le
          have nb : ∀ k, k < w.heap.size → (setBlock V mn o1).heap[k]? = V.heap[k]? := fun k h1 => hoff.rest k (by omega) (by simp; omega)
          exact ⟨⟨(nb xb l1).trans hA2.ck.blk⟩, hA2.iq.same (nb mi l2), hA2.st.same (nb ms l3), OwnTwo.nil _ _ _, hA2.off.trans hoff (fun k hk => by
            obtain rfl : k = mn := by simpa using hk
            exact .inr hmn)⟩
        have e0 := heapc (hoff.rest wr.heap.size (by have := hVz.out; omega) (by simpa using hgn)) d0
        have e1 := g3 _ rfl
        have hml3 : mn < (setBlock V mn o1).heap.size := Nat.lt_of_lt_of_le (Nat.lt_of_lt_of_le hml hVb.size) hoff.below.size
        clear hst2 hlk g3 hyk hnk hoff
        replace hk := Lib.hid hk
        generalize setBlock V mn o1 = V2 at *
        go_wp2_with fail
        refine (must_any _ _ _ _).mono ?_; rintro e w1 ⟨rfl, rfl⟩
        simp only [mustE]
        go_wp2_with fail
        exact ⟨⟨j + 1, hlt, by go_num, hA3, by rw [htk.out]; exact g2, hml3, hk.out⟩, by simp [intOf]; omega⟩
      · have lk := hlk V hmV.out
        obtain ⟨o1, g1, g3⟩ := hst2 V hmV.out
        have hk := hnk.out hin
        have hoff : OffV w0.heap.size [mn] V (setBlock V mn o1) := (OffV.refl _ _ V).setB (.inl (by simp)) (Nat.le_trans hc.bl.size hmn) o1
        have hoff2 := hA2.off.trans hoff (fun k hk => by
            obtain rfl : k = mn := by simpa using hk
            exact .inr hmn)
        have e0 := heapc (hoff.rest wr.heap.size (by have := hVz.out; omega) (by simpa using hgn)) d0
        have e1 := g3 _ rfl
        clear hst2 hlk g3 hyk hnk hoff
        replace hk := Lib.hid hk
        generalize setBlock V mn o1 = V2 at *
        go_wp2_with fail
        refine (must_any _ _ _ _).mono ?_; rintro e w1 ⟨rfl, rfl⟩
        exact ⟨rfl, ACt.apost hoff2 hk.out⟩
    · obtain rfl : j = gs.length := by omega
      have ho' := ho.out.trans (fb_right hn)
      clear ho hn
      replace ho' := Lib.hid ho'
      go_upto_region 999 with ((with_reducible show Code.wp _ _ (bodyPost _ _ _) _ _); exact all5 _ _ _ _ _ _ _ _ _ _ _ _ _ _ _ _ _ _ _ _ _ _ _ _ _ _ _ _ _ _ _ _ _ _ _ _ _ _ _ _ _ _ _ _ _ _ _ _ _ _ _ _ _ _ _ _ _ _ _ _ _ _ _ _ _ _ _ _ _ _ _ _ _ _ _ _ _ _ _ _ _ _ _ _ _ _ _ _ _ _ _ _ _ _ _ _ _ _ _ _ _ _ _ _ _ _ _ _ _ _ _ _ _ _ _ _ _ _ _ _ _ _ hc hA hG' hC hs hgl hcl hcnt.out hcp hst ho'.out)
end Go.Proofs.YtffdfeekpfmbeaaGreat
/- The walk of valid.Check. -/
namespace Go.Proofs.YtffdfeekpfmbeaaGreat
open Go Go.RowKit Go.BigFrame

theorem checkO_eq (b : BrdV) (gs : List GuestV) (chs : List ChV) : checkO b gs chs = if fitV b = true then if putOk gs chs = true then fb (tailO b gs chs) else some (2, 0) else some (1, 0) := by
  unfold checkO headR
  rw [List.cons_append, List.cons_append, List.nil_append, fb_cons, fb_cons]
theorem fit_bounds {b : BrdV} (h : fitV b = true) : (1 ≤ b.cpus ∧ b.cpus ≤ 32) ∧ (0 ≤ b.strs ∧ b.strs ≤ 256) := by
  unfold fitV at h
  simp only [Bool.and_eq_true, decide_eq_true_eq] at h
  exact ⟨h.2.2.2, h.2.2.1⟩
theorem put_bounds {gs : List GuestV} {chs : List ChV} (h : putOk gs chs = true) : gs.length ≤ 16 ∧ chs.length ≤ 32 ∧ ∀ g ∈ gs, cntOk g = true := by
  rw [putOk_eq] at h
  simp only [Bool.and_eq_true, decide_eq_true_eq, List.all_eq_true] at h
  refine ⟨h.1.1.2, h.1.2, fun g hg => ?_⟩
  have := h.2.1 g hg
  rw [gOk_eq] at this
  simp only [Bool.and_eq_true] at this
  exact this.2.2.1
set_option maxRecDepth 100000 in
set_option maxHeartbeats 8000000 in
theorem all_any {w0 w : World} {xb mi ms : Nat} {b : BrdV} {ver : Int} {vg vc : Value} {gs : List GuestV} {chs : List ChV}
    (hc : ACt w0 w xb mi ms) (h : AIn w0 w w xb mi ms b ver vg vc 0 [] [] (.slice none 0 0) [] (.slice none 0 0)) (hG : RowG w0 vg gs) (hC : RowC w0 vc chs) (hs : smallP gs chs) (hns : ∀ g ∈ gs, g.name.size ≤ 1000000) :
    Calls Tryz.prog 10 #[.pointer (some ⟨xb, 0, none⟩)] w fun e w' => APost w0 w xb mi ms (checkO b gs chs) e w' := by
  have hG' := hG
  have hC' := hC
  obtain ⟨ag, kg, rfl⟩ := hG.slice
  obtain ⟨ac, kc, rfl⟩ := hC.slice
  have c0 : w.cell? ⟨xb, 0, none⟩ = some (.int .u64 b.ram.a) := h.ck.cell rfl
  have c1 : w.cell? ⟨xb, 1, none⟩ = some (.int .u64 b.ram.b) := h.ck.cell rfl
  have c2 : w.cell? ⟨xb, 2, none⟩ = some (.int .u64 b.ldr.a) := h.ck.cell rfl
  have c3 : w.cell? ⟨xb, 3, none⟩ = some (.int .u64 b.ldr.b) := h.ck.cell rfl
  have c4 : w.cell? ⟨xb, 4, none⟩ = some (.int .i64 b.irqs) := h.ck.cell rfl
  have c5 : w.cell? ⟨xb, 5, none⟩ = some (.int .i64 b.strs) := h.ck.cell rfl
  have c6 : w.cell? ⟨xb, 6, none⟩ = some (.int .i64 b.cpus) := h.ck.cell rfl
  have hfit := fit_any b w
  unfold BrdV.enc at hfit
  have hb := @fit_bounds b
  have heq := checkO_eq b gs chs
  generalize checkO b gs chs = o at *
  generalize fitV b = q1 at *
  have hpb := @put_bounds gs chs
  have hput := fun W h1 h2 => put_any ver (.slice ag gs.length kg) (.slice ac chs.length kc) gs chs W h1 h2 hns
  generalize putOk gs chs = q2 at *
  replace hb := Lib.hid hb
  replace hpb := Lib.hid hpb
  replace heq := Lib.hid heq
  replace hns := Lib.hid hns
  replace hput := Lib.hid hput
  go_enter Tryz.func10, Tryz.ntmps10
  go_wp2_with fail
  refine hfit.mono ?_; rintro e w1 ⟨rfl, hb1⟩
  have hA1 := h.then hc hb1
  clear hfit c0 c1 c2 c3 c4 c5 c6
  cases q1
  case false =>
    have ho : o = some (1, 0) := heq.out
    clear heq
    replace ho := Lib.hid ho
    go_wp2_with fail
    refine (must_any _ _ _ _).mono ?_; rintro e w2 ⟨rfl, rfl⟩
    exact ⟨rfl, ACt.apost hA1.off ho.out⟩
  obtain ⟨hcp, hst⟩ := hb.out rfl
  have d7 := hA1.ck.c7
  have d8 := hA1.ck.c8
  have d9 := hA1.ck.c9
  simp only [if_true]
  go_wp2_with fail
  refine (must_any _ _ _ _).mono ?_; rintro e w2 ⟨rfl, rfl⟩
  simp only [mustE]
  go_wp2_with fail
  refine (hput.out w1 (hG'.below (hA1.low hc) lasts_guest) (hC'.below (hA1.low hc) lasts_ch)).mono ?_; rintro e w3 ⟨⟨v, n, rfl, hn⟩, hb3⟩
  have hA3 := hA1.then hc hb3
  clear hput d7 d8 d9
  by_cases hz : n = 0
  case neg =>
    have hq : q2 = false := by
      cases q2
      · rfl
      · exact absurd (hn.2 rfl) hz
    have ho : o = some (2, 0) := by rw [heq.out, hq]; rfl
    have hz' : (n == 0) = false := by simpa using hz
    clear heq hz hn hq
    replace ho := Lib.hid ho
    go_wp2_with fail
    refine (must_any _ _ _ _).mono ?_; rintro e w2 ⟨rfl, rfl⟩
    exact ⟨rfl, ACt.apost hA3.off ho.out⟩
  have hq := hn.1 hz
  obtain ⟨hgl, hcl, hcnt⟩ := hpb.out hq
  have ho : o = fb (tailO b gs chs) := by rw [heq.out, hq]; rfl
  clear heq hn hq hpb hb
  subst hz
  replace ho := Lib.hid ho
  replace hcnt := Lib.hid hcnt
  have hms : ∀ W : World, (Instr.makeMap 81 none).run Tryz.prog W = .ok (.map (some W.heap.size)) (W.alloc (.map #[] 0)) := fun _ => rfl
  go_upto_region 3 with fail
  refine (must_any _ _ _ _).mono ?_; rintro e w2 ⟨rfl, rfl⟩
  simp only [mustE]
  have hA4 := hA3.then hc (bone w3 (.map #[] 0))
  have hN : NamM (w3.alloc (.map #[] 0)) w3.heap.size [] := ⟨CntKV.new _, by simp⟩
  have hz3 := hA3.le
  have hz4 : w3.heap.size < (w3.alloc (.map #[] 0)).heap.size := by simp
  go_upto_region 999 with ((with_reducible show Code.wp _ _ (bodyPost _ _ _) _ (World.alloc _ _)); exact all4 _ _ _ _ _ _ _ _ _ _ _ _ _ _ _ _ _ _ _ _ _ _ _ _ _ _ _ _ _ _ _ _ _ _ _ _ _ _ _ _ _ _ _ _ _ _ _ _ _ _ _ _ _ _ _ _ _ _ _ _ _ _ _ _ _ _ _ _ _ _ _ _ _ _ _ _ _ _ _ _ _ _ _ _ _ _ _ _ _ _ _ _ _ _ _ _ _ _ _ _ _ _ _ _ _ _ _ _ _ _ _ _ _ _ _ _ _ _ _ _ _ hc hA4 hN hz3 hz4 hG' hC' hs hgl hcl hcnt.out hns.out hcp hst ho.out)
/-- Check: the first rule that does not hold. -/
theorem check_any (b : BrdV) (ver : Int) (vg vc : Value) (gs : List GuestV) (chs : List ChV) (w : World) (hG : RowG w vg gs) (hC : RowC w vc chs) (hs : smallP gs chs) (hns : ∀ g ∈ gs, g.name.size ≤ 1000000) :
    Calls Tryz.prog 6 #[.agg #[.int .u64 b.ram.a, .int .u64 b.ram.b, .int .u64 b.ldr.a, .int .u64 b.ldr.b, .int .i64 b.irqs, .int .i64 b.strs, .int .i64 b.cpus], .agg #[.int .u32 ver, vg, vc]] w fun e w' =>
      e = .returned (.tuple #[.int .i64 (ruleV (checkO b gs chs)), .int .i64 (placeW (checkO b gs chs)), .int .i64 (errV (checkO b gs chs))]) ∧ Below w.heap.size w w' := by
  obtain ⟨ag, kg, rfl⟩ := hG.slice
  obtain ⟨ac, kc, rfl⟩ := hC.slice
  refine check_of b ver _ _ ⟨_, _, _, rfl⟩ ⟨_, _, _, rfl⟩ _ w ?_
  intro W xb mi ms hb hk hi hs' h1 h2 h3 h4 h5
  have l2 : mi < W.heap.size := by
    obtain ⟨es, c, hh, _⟩ := hi.kv
    exact (Array.getElem?_eq_some_iff.1 hh).1
  have l3 : ms < W.heap.size := by
    obtain ⟨es, c, hh, _⟩ := hs'.kv
    exact (Array.getElem?_eq_some_iff.1 hh).1
  exact all_any ⟨hb, h1, h2, h3, h4, h5.1, h5.2, hk.lt, l2, l3⟩ ⟨hk, hi, hs', OwnTwo.nil _ _ _, OffV.refl _ _ _⟩ hG hC hs hns
end Go.Proofs.YtffdfeekpfmbeaaGreat
/- Plain: what holds of a configuration that may be on a board. -/
namespace Go.Proofs.YtffdfeekpfmbeaaGreat
open Go Go.RowKit

theorem fb_append_none {a b : List Rl} (h : fb (a ++ b) = none) : fb a = none ∧ fb b = none := by
  rw [fb_append] at h
  cases ha : fb a with
  | none => rw [ha] at h; exact ⟨rfl, by simpa using h⟩
  | some x => rw [ha] at h; simp at h
theorem fb_one_none {t : Bool} {r w : Int} (h : fb [(t, r, w)] = none) : t = true := by
  rw [fb_one] at h
  by_cases c : t = true
  · exact c
  · rw [if_neg c] at h; cases h
/-- All rules of a configuration that may be. -/
structure Valid (b : BrdV) (gs : List GuestV) (chs : List ChV) : Prop where
  fit : fitV b = true
  put : putOk gs chs = true
  gst : ∀ (j : Nat) (hj : j < gs.length), fb (guestO b (orV (gs.take j)) (numsV (gs.take j)) (strsV (gs.take j)) (physL (gs.take j)) gs[j] j) = none
  chn : ∀ (k : Nat) (hk : k < chs.length), fb (chanP b gs.length (physL gs) ((chs.take k).map chS) chs[k] k) = none
  maps : ∀ j < gs.length, (mapsP gs chs (j : Nat)).2 = 0
section
variable {b : BrdV} {gs : List GuestV} {chs : List ChV}
structure GValid (b : BrdV) (acc : Int) (N S : List Int) (O : List Two) (t : GuestV) : Prop where
  cpus : bits .and .u32 t.cpus acc = 0
  win : ∀ w ∈ t.win, c4w b w = true
  dev : ∀ d ∈ t.dev, c5d b d = true
  irq : ∀ i < t.irq.length, ((N ++ (t.irq.map IrqV.num).take i).contains t.irq[i]!.num) = false
  str : ∀ i < t.str.length, ((S ++ t.str.take i).contains t.str[i]!) = false
  own : (firstV (O ++ physG t)).2.2 = false
theorem Valid.guest (h : Valid b gs chs) (j : Nat) (hj : j < gs.length) : GValid b (orV (gs.take j)) (numsV (gs.take j)) (strsV (gs.take j)) (physL (gs.take j)) gs[j] := by
  have hg := h.gst j hj
  unfold guestO at hg
  obtain ⟨h3, hg⟩ := fb_append_none hg
  obtain ⟨h4, hg⟩ := fb_append_none hg
  obtain ⟨h8, h10⟩ := fb_append_none hg
  have h3 := fb_one_none h3
  have h10 := fb_one_none h10
  simp only [Bool.and_eq_true, decide_eq_true_eq] at h3
  rw [fb_none] at h4 h8
  have r4 := h4 _ (List.mem_cons_self ..)
  have r5 := h4 _ (List.mem_cons_of_mem _ (List.mem_cons_self ..))
  have r8 := h8 _ (List.mem_cons_self ..)
  have r9 := h8 _ (List.mem_cons_of_mem _ (List.mem_cons_self ..))
  refine ⟨h3.2.2, List.all_eq_true.1 r4, List.all_eq_true.1 r5, fun i hi => ?_, fun i hi => ?_, by simpa using h10⟩
  · have := List.all_eq_true.1 r8 i (List.mem_range.2 hi)
    simp only [Bool.and_eq_true] at this
    simpa using this.2
  · have := List.all_eq_true.1 r9 i (List.mem_range.2 hi)
    simp only [Bool.and_eq_true] at this
    simpa using this.2
structure CValid (b : BrdV) (n : Nat) (O Sh : List Two) (c : ChV) : Prop where
  ins : insB b (chS c) = true
  own : ∀ o ∈ O, overlapB c.pa c.sz o.a o.b = false
  e0 : endOk n c c.e0 = true
  e1 : endOk n c c.e1 = true
theorem Valid.chan (h : Valid b gs chs) (k : Nat) (hk : k < chs.length) : CValid b gs.length (physL gs) ((chs.take k).map chS) chs[k] := by
  have hc := h.chn k hk
  unfold chanP at hc
  rw [fb_none] at hc
  have r1 := hc _ (List.mem_cons_self ..)
  have r2 := hc _ (List.mem_cons_of_mem _ (List.mem_cons_self ..))
  simp only [Bool.and_eq_true, Bool.not_eq_true'] at r1 r2
  exact ⟨r1.1, fun o ho => by simpa [takenB, chS] using List.any_eq_false.1 r1.2.1 o ho, r2.2.1, r2.2.2⟩
theorem Valid.cnt (h : Valid b gs chs) (j : Nat) (hj : j < gs.length) : gOk gs[j] = true := by
  have := h.put
  rw [putOk_eq] at this
  simp only [Bool.and_eq_true] at this
  exact List.all_eq_true.1 this.2.1 _ (List.getElem_mem hj)
/-- A board that fits. -/
theorem fit_ram (h : fitV b = true) : 0 < b.ram.b ∧ b.ram.a + (b.ram.b - 1) < 1099511627776 ∧ goodB b.ram.a b.ram.b = true ∧ withinB b.ldr.a b.ldr.b b.ram.a b.ram.b = true := by
  unfold fitV at h
  simp only [Bool.and_eq_true, decide_eq_true_eq] at h
  obtain ⟨⟨h1, h2, h3, h4⟩, _⟩ := h
  rw [pageBad_not] at h1
  simp only [Bool.and_eq_true, decide_eq_true_eq] at h1
  have hg := goodB_iff.1 h1.1
  rw [lastV_yes h1.1] at h3
  exact ⟨hg.1, h3, h1.1, h4⟩
theorem ins_page {s : Two} (hf : fitV b = true) (h : insB b s = true) : pageM s.a s.b = true ∧ overlapB s.a s.b b.ldr.a b.ldr.b = false ∧ withinB s.a s.b b.ram.a b.ram.b = true := by
  obtain ⟨f1, f2, f3, f4⟩ := fit_ram hf
  unfold insB at h
  rw [pageBad_not] at h
  simp only [Bool.and_eq_true, decide_eq_true_eq, Bool.not_eq_true'] at h
  obtain ⟨⟨h1, h2, h3⟩, h4, h5⟩ := h
  obtain ⟨w1, w2, w3, w4⟩ := withinB_iff.1 h4
  have hg := goodB_iff.1 h1
  exact ⟨pageM_iff.2 ⟨hg.1, by omega, h2, h3⟩, h5, h4⟩
theorem dev_off {b : BrdV} {a n : Int} (_hf : fitV b = true) (h : overlapB a n b.ram.a b.ram.b = false) {c m : Int} (hw : withinB c m b.ram.a b.ram.b = true) : overlapB a n c m = false := by
  rw [Bool.eq_false_iff] at h ⊢
  intro ho
  refine h ?_
  obtain ⟨h1, h2, h3, h4⟩ := overlapB_iff.1 ho
  obtain ⟨w1, w2, w3, w4⟩ := withinB_iff.1 hw
  exact overlapB_iff.2 ⟨h1, w2, by omega, by omega⟩
theorem mem_physL {l : List GuestV} {s : Two} : s ∈ physL l ↔ ∃ t ∈ l, s ∈ physG t := by unfold physL; exact List.mem_flatMap
/-- Two guests own nothing in common. -/
theorem Valid.apart (h : Valid b gs chs) (j i : Nat) (hj : j < gs.length) (hi : i < j) : ∀ s ∈ physG gs[j], ∀ o ∈ physG gs[i], overlapB s.a s.b o.a o.b = false := by
  intro s hs o ho
  have hg := (h.guest j hj).own
  rw [firstV_clear] at hg
  have ho' : o ∈ physL (gs.take j) := mem_physL.2 ⟨gs[i], List.mem_take_iff_getElem.2 ⟨i, by omega, rfl⟩, ho⟩
  obtain ⟨p, hp, rfl⟩ := List.mem_iff_getElem.1 ho'
  obtain ⟨q, hq, rfl⟩ := List.mem_iff_getElem.1 hs
  have := hg p ((physL (gs.take j)).length + q) (by omega) (by rw [List.length_append]; omega)
  rw [getElem!_pos _ p (by rw [List.length_append]; omega), getElem!_pos _ ((physL (gs.take j)).length + q) (by rw [List.length_append]; omega), List.getElem_append_left hp, List.getElem_append_right (by omega)] at this
  simpa using this
theorem Valid.part (h : Valid b gs chs) (j : Nat) (hj : j < gs.length) : ∀ x ∈ partsV gs[j] chs j, elemB x = true := by
  intro x hx
  have hg := h.guest j hj
  unfold partsV at hx
  rcases List.mem_append.1 hx with hx | hx
  · obtain ⟨w, hw, rfl⟩ := List.mem_map.1 hx
    have h4 := hg.win w hw
    unfold c4w at h4
    simp only [Bool.and_eq_true, Bool.not_eq_true', decide_eq_false_iff_not] at h4
    have hk := h.cnt j hj
    rw [gOk_eq] at hk
    simp only [Bool.and_eq_true] at hk
    have hp := List.all_eq_true.1 hk.2.2.2.1 w hw
    unfold permB at hp
    have hp := of_decide_eq_true hp
    unfold elemB winM
    simp only [Bool.and_eq_true, decide_eq_true_eq]
    exact ⟨h4.1, (ins_page h.fit h4.2.2).1, by omega⟩
  · rcases List.mem_append.1 hx with hx | hx
    · obtain ⟨d, hd, rfl⟩ := List.mem_map.1 hx
      have h5 := hg.dev d hd
      unfold c5d at h5
      simp only [Bool.and_eq_true] at h5
      unfold elemB devM
      simp only [Bool.and_eq_true, decide_eq_true_eq]
      exact ⟨h5.1, h5.2.1, by omega⟩
    · obtain ⟨c, hc, hx⟩ := List.mem_flatMap.1 hx
      obtain ⟨k, hk, rfl⟩ := List.mem_iff_getElem.1 hc
      have hcv := h.chan k hk
      have key : ∀ e, endOk gs.length chs[k] e = true → elemB (endPart chs[k] e) = true := fun e he => by
        unfold endOk at he
        simp only [Bool.and_eq_true, decide_eq_true_eq] at he
        unfold elemB endPart
        simp only [Bool.and_eq_true, decide_eq_true_eq]
        exact ⟨he.2.2, (ins_page h.fit hcv.ins).1, by omega⟩
      unfold chM endL at hx
      rcases List.mem_append.1 hx with hx | hx
      · split at hx
        · rw [List.mem_singleton.1 hx]; exact key _ hcv.e0
        · cases hx
      · split at hx
        · rw [List.mem_singleton.1 hx]; exact key _ hcv.e1
        · cases hx
end
end Go.Proofs.YtffdfeekpfmbeaaGreat
