/- All rules: the names. -/
import Derived.StringKeys
import Derived.Test.YtffdfeekpfmbeaaVGP27
import Derived.Test.YtffdfeekpfmbeaaVGP32
import Derived.Test.YtffdfeekpfmbeaaVGP46
import Derived.Test.YtffdfeekpfmbeaaVGP47
namespace Go.Proofs.Ytffdfeekpfmbeaa
open Go Go.RowKit Go.BigFrame Go.Maps Go.MapKept
open Go.ChangeMaps (setBlock)

def keyS (s : ByteArray) : Value := .string s
theorem mapSI : ∃ k e, Try.prog.underlying 86 = some (.map k e) ∧ k = 9 ∧ e = 3 := ⟨_, _, by kernel_rfl, rfl, rfl⟩
theorem keyedS : Keyed Try.prog 9 := string_keyed Try.underlying9
theorem keyS_of {s : ByteArray} (h : s.size ≤ 1000000) : ∃ l, keyOf Try.prog 9 (keyS s) = some l := ⟨_, Go.WideMaps.keyOf_string_mk Try.underlying9 (by unfold maxLen; omega)⟩
structure NamM (W : World) (mi : Nat) (N : List ByteArray) : Prop where
  kv : CntKV W mi (N.map keyS)
  ok : ∀ n ∈ N, n.size ≤ 1000000
theorem mem_keyS {N : List ByteArray} {n : ByteArray} : keyS n ∈ N.map keyS ↔ n ∈ N := by
  rw [List.mem_map]
  constructor
  · rintro ⟨m, hm, e⟩; injection e with e; rw [← e]; exact hm
  · exact fun h => ⟨n, h, rfl⟩
theorem NamM.same {W W' : World} {mi : Nat} {N : List ByteArray} (h : NamM W mi N) (hb : W'.heap[mi]? = W.heap[mi]?) : NamM W' mi N := ⟨h.kv.same hb, h.ok⟩
theorem nam_up {W : World} {mi : Nat} {N : List ByteArray} (h : NamM W mi N) {n : ByteArray} (hn : n.size ≤ 1000000) :
    (n ∉ N ∧ (∀ W', W'.heap[mi]? = W.heap[mi]? → (Instr.lookup 86 (.map (some mi)) (.string n) false).run Try.prog W' = .ok (.int .i64 0) W') ∧ ∀ W', W'.heap[mi]? = W.heap[mi]? → ∃ o, (Instr.mapUpdate 86 (.map (some mi)) (.string n) (.int .i64 1)).run Try.prog W' = .ok () (setBlock W' mi o) ∧ NamM (setBlock W' mi o) mi (N ++ [n]) ∧
      ∀ W2, W2.heap[mi]? = (setBlock W' mi o).heap[mi]? → (Instr.lookup 86 (.map (some mi)) (.string n) false).run Try.prog W2 = .ok (.int .i64 1) W2) ∨
    (n ∈ N ∧ (∀ W', W'.heap[mi]? = W.heap[mi]? → (Instr.lookup 86 (.map (some mi)) (.string n) false).run Try.prog W' = .ok (.int .i64 1) W') ∧ ∀ W', W'.heap[mi]? = W.heap[mi]? → ∃ o, (Instr.mapUpdate 86 (.map (some mi)) (.string n) (.int .i64 2)).run Try.prog W' = .ok () (setBlock W' mi o) ∧
      ∀ W2, W2.heap[mi]? = (setBlock W' mi o).heap[mi]? → (Instr.lookup 86 (.map (some mi)) (.string n) false).run Try.prog W2 = .ok (.int .i64 2) W2) := by
  obtain ⟨k, e, ht, rfl, rfl⟩ := mapSI
  obtain ⟨l, hl⟩ := keyS_of hn
  rcases cnt_up keyedS ht zeroCnt h.kv (fun x hx => by obtain ⟨m, hm, rfl⟩ := List.mem_map.1 hx; exact keyS_of (h.ok m hm)) hl with ⟨h1, h2, h3⟩ | ⟨h1, h2, h3⟩
  · refine .inl ⟨fun e => h1 (mem_keyS.2 e), h2, fun W' hb => ?_⟩
    obtain ⟨o, g1, g2, g3⟩ := h3 W' hb
    exact ⟨o, g1, ⟨by rw [List.map_append]; exact g2, fun m hm => by
      rcases List.mem_append.1 hm with hm | hm
      · exact h.ok m hm
      · rw [List.mem_singleton.1 hm]; exact hn⟩, g3⟩
  · exact .inr ⟨mem_keyS.1 h1, h2, h3⟩
theorem c2n_no {l : List GuestV} {t : GuestV} (h : t.name ∈ l.map GuestV.name) : c2n l t = false := by
  obtain ⟨x, hx, e⟩ := List.mem_map.1 h
  unfold c2n
  rw [List.all_eq_false]
  exact ⟨x, hx, by rw [decide_eq_true e]; simp⟩
theorem c2n_yes {l : List GuestV} {t : GuestV} (h : t.name ∉ l.map GuestV.name) : c2n l t = true := by
  unfold c2n
  rw [List.all_eq_true]
  intro x hx
  rw [decide_eq_false (fun e => h (List.mem_map.2 ⟨x, hx, e⟩))]; rfl
set_option maxRecDepth 100000 in
set_option maxHeartbeats 8000000 in
theorem all4 (u1 u2 u3 u5 u6 u7 u8 u9 u10 u11 u12 u13 u14 u15 u16 u17 u18 u19 u20 u21 u22 u23 u24 u25 u26 u27 u28 u29 u30 u31 u32 u33 u34 u35 u36 u37 u38 u39 u40 u41 u42 u43 u44 u45 u46 u47 u48 u49 u50 u51 u52 u53 u54 u55 u56 u57 u58 u59 u60 u61 u62 u63 u64 u65 u66 u67 u68 u69 u70 u71 u72 u73 u74 u75 u76 u77 u78 u79 u80 u81 u82 u83 u84 u85 u86 u87 u88 u89 u90 u91 u92 u93 u94 u95 u96 u97 u98 u99 u100 u101 u102 u103 u104 u105 u106 u107 u108 u109 u110 u111 u112 u113 u114 u115 u116 u117 u118 u119 u120 u121 u122 : Value) {w0 w W : World} {xb mi ms mn : Nat} {b : BrdV} {ver : Int} {vg vc : Value} {gs : List GuestV} {chs : List ChV} {o : Option (Int × Int)}
    (hc : ACt w0 w xb mi ms) (h : AIn w0 w W xb mi ms b ver vg vc 0 [] [] (.slice none 0 0) [] (.slice none 0 0)) (hM : NamM W mn []) (hmn : w.heap.size ≤ mn) (hmn2 : mn < W.heap.size) (hG : RowG w0 vg gs) (hC : RowC w0 vc chs) (hs : smallP gs chs) (hgl : gs.length ≤ 16) (hcl : chs.length ≤ 32) (hcnt : ∀ g ∈ gs, cntOk g = true) (hns : ∀ g ∈ gs, g.name.size ≤ 1000000)
    (hcp : 1 ≤ b.cpus ∧ b.cpus ≤ 32) (hst : 0 ≤ b.strs ∧ b.strs ≤ 256) (ho : o = fb (tailO b gs chs)) :
    (tailC 4 (Try.f16.body.getD .skip)).wp Try.prog (bodyPost Try.prog Try.f16 (APost w0 w xb mi ms o)) ⟨List.toArray (.pointer (some ⟨xb, 0, none⟩) :: u1 :: u2 :: u3 :: .map (some mn) :: u5 :: u6 :: u7 :: u8 :: u9 :: u10 :: u11 :: u12 :: u13 :: u14 :: u15 :: u16 :: u17 :: u18 :: u19 :: u20 :: u21 :: u22 :: u23 :: u24 :: u25 :: u26 :: u27 :: u28 :: u29 :: u30 :: u31 :: u32 :: u33 :: u34 :: u35 :: u36 :: u37 :: u38 :: u39 :: u40 :: u41 :: u42 :: u43 :: u44 :: u45 :: u46 :: u47 :: u48 :: u49 :: u50 :: u51 :: u52 :: u53 :: u54 :: u55 :: u56 :: u57 :: u58 :: u59 :: u60 :: u61 :: u62 :: u63 :: u64 :: u65 :: u66 :: u67 :: u68 :: u69 :: u70 :: u71 :: u72 :: u73 :: u74 :: u75 :: u76 :: u77 :: u78 :: u79 :: u80 :: u81 :: u82 :: u83 :: u84 :: u85 :: u86 :: u87 :: u88 :: u89 :: u90 :: u91 :: u92 :: u93 :: u94 :: u95 :: u96 :: u97 :: u98 :: u99 :: u100 :: u101 :: u102 :: u103 :: u104 :: u105 :: u106 :: u107 :: u108 :: u109 :: u110 :: u111 :: u112 :: u113 :: u114 :: u115 :: u116 :: u117 :: u118 :: u119 :: u120 :: u121 :: u122 :: []), []⟩ W := by
  have hG' := hG
  obtain ⟨ag, kg, rfl, hq3, hq4, hq5⟩ := hG
  obtain ⟨ac, kc, rfl⟩ := hC.slice
  have c8 := h.ck.c8
  replace ho := Lib.hid ho
  replace hcnt := Lib.hid hcnt
  replace hns := Lib.hid hns
  conv => arg 2; whnf
  go_wp2_with fail
  go_loopw [39] (fun i wr => ∃ (j : Nat), j ≤ gs.length ∧ i = .int .i64 j ∧ AIn w0 w wr xb mi ms b ver (.slice ag gs.length kg) (.slice ac chs.length kc) 0 [] [] (.slice none 0 0) [] (.slice none 0 0) ∧ NamM wr mn ((gs.take j).map GuestV.name) ∧ mn < wr.heap.size ∧ fb (namesO gs j) = none) (fun i _ => gs.length - (intOf i).toNat)
  case atStart => exact ⟨0, Nat.zero_le _, rfl, h, hM, hmn2, rfl⟩
  case round =>
    obtain ⟨j, hj, rfl, hA, hN, hml, hn⟩ := hrel
    by_cases hlt : j < gs.length
    · obtain ⟨q, off, rfl, hbl, hcl2⟩ := hq5 (by intro e; rw [e] at hlt; simp at hlt)
      obtain ⟨cs, hR, hcsl, hcell⟩ := hcl2 j hlt
      have hlow := hA.low hc
      have hce : ∀ i u, cs[i]? = some u → wr.cell? ⟨q, off + j * 79 + i, none⟩ = some u := fun i u hu => cell_lt hlow (hcell i u hu) hbl
      have hsl : cs.toArray.size = 79 := by simpa using hcsl
      have hone := hR.one hcsl
      have hix : gs[j]! = gs[j] := getElem!_pos gs j hlt
      have htk : (gs.take (j + 1)).map GuestV.name = (gs.take j).map GuestV.name ++ [gs[j].name] := by rw [take_one hlt, List.map_append]; rfl
      have hnk : gs[j].name ∈ (gs.take j).map GuestV.name → o = some (2, (j : Int)) := fun e => ho.out.trans (fb_left (fb_range hlt hn (by rw [fb_one, hix, c2n_no e]; rfl)))
      have hyk : gs[j].name ∉ (gs.take j).map GuestV.name → fb (namesO gs (j + 1)) = none := fun e => fb_range_succ hn (by rw [fb_one, hix, c2n_yes e]; rfl)
      have hup := nam_up hN (hns.out _ (List.getElem_mem hlt))
      have hnm := hR.name
      obtain ⟨V, hV⟩ : ∃ V, V = wr.alloc (.cells cs.toArray 61) := ⟨_, rfl⟩
      have hVb : Below wr.heap.size wr V := by rw [hV]; exact bone _ _
      have hVz : V.heap.size = wr.heap.size + 1 := by rw [hV]; simp
      have d0 : V.cell? ⟨wr.heap.size, 0, none⟩ = some (.string gs[j].name) := by rw [hV, World.cell?_alloc_new]; simpa using hnm
      clear hnm hix hcl2 hcell hq5 hcnt hns
      generalize gs[j].name = nm at *
      generalize (gs.take j).map GuestV.name = N at *
      have hA2 := hA.then hc hVb
      have hmV := hVb.block mn hml
      replace hnk := Lib.hid hnk
      replace hyk := Lib.hid hyk
      replace hn := Lib.hid hn
      replace htk := Lib.hid htk
      replace hV := Lib.hid hV
      replace hVz := Lib.hid hVz
      replace hcsl := Lib.hid hcsl
      replace hsl := Lib.hid hsl
      replace hce := Lib.hid hce
      replace hone := Lib.hid hone
      replace hmV := Lib.hid hmV
      go_upto_region 7 with (first | (refine wpl_load_x rfl 61 _ rfl q (off + j * 79) 79 cs Try.underlying61 rfl guest_size rfl hcsl.out hce.out ?_) | (refine wpl_alloc_x rfl 61 rfl zGuest_info ?_) | (refine wpl_store_x rfl 61 _ _ rfl (by rw [hsl.out]; exact guest_size) (by rw [hsl.out]; rfl) hone.out rfl rfl ?_))
      rw [← hV.out]
      clear hV hce
      have hgn : wr.heap.size ≠ mn := by omega
      rcases hup with ⟨hin, hlk, hst2⟩ | ⟨hin, hlk, hst2⟩
      · have lk := hlk V hmV.out
        obtain ⟨o1, g1, g2, g3⟩ := hst2 V hmV.out
        have hk := hyk.out hin
        have hoff : OffV w0.heap.size [mn] V (setBlock V mn o1) := (OffV.refl _ _ V).setB (.inl (by simp)) (Nat.le_trans hc.bl.size hmn) o1
        have hA3 : AIn w0 w (setBlock V mn o1) xb mi ms b ver (.slice (some ⟨q, off, none⟩) gs.length kg) (.slice ac chs.length kc) 0 [] [] (.slice none 0 0) [] (.slice none 0 0) := by
          have l1 := hc.l1
          have l2 := hc.l2
          have l3 := hc.l3
          have hz := hA2.le
          have nb : ∀ k, k < w.heap.size → (setBlock V mn o1).heap[k]? = V.heap[k]? := fun k h1 => hoff.rest k (by omega) (by simp; omega)
          exact ⟨⟨(nb xb l1).trans hA2.ck.blk⟩, hA2.iq.same (nb mi l2), hA2.st.same (nb ms l3), OwnTwo.nil _ _ _, hA2.off.trans hoff (fun k hk => by
            obtain rfl : k = mn := by simpa using hk
            exact .inr hmn)⟩
        have e0 := heapc (hoff.rest wr.heap.size (by have := hVz.out; omega) (by simpa using hgn)) d0
        have e1 := g3 _ rfl
        have hml3 : mn < (setBlock V mn o1).heap.size := Nat.lt_of_lt_of_le (Nat.lt_of_lt_of_le hml hVb.size) hoff.below.size
        clear hst2 hlk g3 hyk hnk hoff
        replace hk := Lib.hid hk
        generalize setBlock V mn o1 = V2 at *
        go_wp2_with fail
        refine (must_any _ _ _ _).mono ?_; rintro e w1 ⟨rfl, rfl⟩
        simp only [mustE]
        go_wp2_with fail
        exact ⟨⟨j + 1, hlt, by go_num, hA3, by rw [htk.out]; exact g2, hml3, hk.out⟩, by simp [intOf]; omega⟩
      · have lk := hlk V hmV.out
        obtain ⟨o1, g1, g3⟩ := hst2 V hmV.out
        have hk := hnk.out hin
        have hoff : OffV w0.heap.size [mn] V (setBlock V mn o1) := (OffV.refl _ _ V).setB (.inl (by simp)) (Nat.le_trans hc.bl.size hmn) o1
        have hoff2 := hA2.off.trans hoff (fun k hk => by
            obtain rfl : k = mn := by simpa using hk
            exact .inr hmn)
        have e0 := heapc (hoff.rest wr.heap.size (by have := hVz.out; omega) (by simpa using hgn)) d0
        have e1 := g3 _ rfl
        clear hst2 hlk g3 hyk hnk hoff
        replace hk := Lib.hid hk
        generalize setBlock V mn o1 = V2 at *
        go_wp2_with fail
        refine (must_any _ _ _ _).mono ?_; rintro e w1 ⟨rfl, rfl⟩
        exact ⟨rfl, ACt.apost hoff2 hk.out⟩
    · obtain rfl : j = gs.length := by omega
      have ho' := ho.out.trans (fb_right hn)
      clear ho hn
      replace ho' := Lib.hid ho'
      go_upto_region 999 with ((with_reducible show Code.wp _ _ (bodyPost _ _ _) _ _); exact all5 _ _ _ _ _ _ _ _ _ _ _ _ _ _ _ _ _ _ _ _ _ _ _ _ _ _ _ _ _ _ _ _ _ _ _ _ _ _ _ _ _ _ _ _ _ _ _ _ _ _ _ _ _ _ _ _ _ _ _ _ _ _ _ _ _ _ _ _ _ _ _ _ _ _ _ _ _ _ _ _ _ _ _ _ _ _ _ _ _ _ _ _ _ _ _ _ _ _ _ _ _ _ _ _ _ _ _ _ _ _ _ _ _ _ _ _ _ _ _ _ _ _ hc hA hG' hC hs hgl hcl hcnt.out hcp hst ho'.out)
end Go.Proofs.Ytffdfeekpfmbeaa
/- The walk of valid.Check. -/
namespace Go.Proofs.Ytffdfeekpfmbeaa
open Go Go.RowKit Go.BigFrame

theorem checkO_eq (b : BrdV) (gs : List GuestV) (chs : List ChV) : checkO b gs chs = if fitV b = true then if putOk gs chs = true then fb (tailO b gs chs) else some (2, 0) else some (1, 0) := by
  unfold checkO headR
  rw [List.cons_append, List.cons_append, List.nil_append, fb_cons, fb_cons]
theorem fit_bounds {b : BrdV} (h : fitV b = true) : (1 ≤ b.cpus ∧ b.cpus ≤ 32) ∧ (0 ≤ b.strs ∧ b.strs ≤ 256) := by
  unfold fitV at h
  simp only [Bool.and_eq_true, decide_eq_true_eq] at h
  exact ⟨h.2.2.2, h.2.2.1⟩
theorem put_bounds {gs : List GuestV} {chs : List ChV} (h : putOk gs chs = true) : gs.length ≤ 16 ∧ chs.length ≤ 32 ∧ ∀ g ∈ gs, cntOk g = true := by
  rw [putOk_eq] at h
  simp only [Bool.and_eq_true, decide_eq_true_eq, List.all_eq_true] at h
  refine ⟨h.1.1.2, h.1.2, fun g hg => ?_⟩
  have := h.2.1 g hg
  rw [gOk_eq] at this
  simp only [Bool.and_eq_true] at this
  exact this.2.2.1
set_option maxRecDepth 100000 in
set_option maxHeartbeats 8000000 in
theorem all_any {w0 w : World} {xb mi ms : Nat} {b : BrdV} {ver : Int} {vg vc : Value} {gs : List GuestV} {chs : List ChV}
    (hc : ACt w0 w xb mi ms) (h : AIn w0 w w xb mi ms b ver vg vc 0 [] [] (.slice none 0 0) [] (.slice none 0 0)) (hG : RowG w0 vg gs) (hC : RowC w0 vc chs) (hs : smallP gs chs) (hns : ∀ g ∈ gs, g.name.size ≤ 1000000) :
    Calls Try.prog 16 #[.pointer (some ⟨xb, 0, none⟩)] w fun e w' => APost w0 w xb mi ms (checkO b gs chs) e w' := by
  have hG' := hG
  have hC' := hC
  obtain ⟨ag, kg, rfl⟩ := hG.slice
  obtain ⟨ac, kc, rfl⟩ := hC.slice
  have c0 : w.cell? ⟨xb, 0, none⟩ = some (.int .u64 b.ram.a) := h.ck.cell rfl
  have c1 : w.cell? ⟨xb, 1, none⟩ = some (.int .u64 b.ram.b) := h.ck.cell rfl
  have c2 : w.cell? ⟨xb, 2, none⟩ = some (.int .u64 b.ldr.a) := h.ck.cell rfl
  have c3 : w.cell? ⟨xb, 3, none⟩ = some (.int .u64 b.ldr.b) := h.ck.cell rfl
  have c4 : w.cell? ⟨xb, 4, none⟩ = some (.int .i64 b.irqs) := h.ck.cell rfl
  have c5 : w.cell? ⟨xb, 5, none⟩ = some (.int .i64 b.strs) := h.ck.cell rfl
  have c6 : w.cell? ⟨xb, 6, none⟩ = some (.int .i64 b.cpus) := h.ck.cell rfl
  have hfit := fit_any b w
  unfold BrdV.enc at hfit
  have hb := @fit_bounds b
  have heq := checkO_eq b gs chs
  generalize checkO b gs chs = o at *
  generalize fitV b = q1 at *
  have hpb := @put_bounds gs chs
  have hput := fun W h1 h2 => put_any ver (.slice ag gs.length kg) (.slice ac chs.length kc) gs chs W h1 h2 hns
  generalize putOk gs chs = q2 at *
  replace hb := Lib.hid hb
  replace hpb := Lib.hid hpb
  replace heq := Lib.hid heq
  replace hns := Lib.hid hns
  replace hput := Lib.hid hput
  go_enter Try.func16, Try.ntmps16
  go_wp2_with fail
  refine hfit.mono ?_; rintro e w1 ⟨rfl, hb1⟩
  have hA1 := h.then hc hb1
  clear hfit c0 c1 c2 c3 c4 c5 c6
  cases q1
  case false =>
    have ho : o = some (1, 0) := heq.out
    clear heq
    replace ho := Lib.hid ho
    go_wp2_with fail
    refine (must_any _ _ _ _).mono ?_; rintro e w2 ⟨rfl, rfl⟩
    exact ⟨rfl, ACt.apost hA1.off ho.out⟩
  obtain ⟨hcp, hst⟩ := hb.out rfl
  have d7 := hA1.ck.c7
  have d8 := hA1.ck.c8
  have d9 := hA1.ck.c9
  simp only [if_true]
  go_wp2_with fail
  refine (must_any _ _ _ _).mono ?_; rintro e w2 ⟨rfl, rfl⟩
  simp only [mustE]
  go_wp2_with fail
  refine (hput.out w1 (hG'.below (hA1.low hc) lasts_guest) (hC'.below (hA1.low hc) lasts_ch)).mono ?_; rintro e w3 ⟨⟨v, n, rfl, hn⟩, hb3⟩
  have hA3 := hA1.then hc hb3
  clear hput d7 d8 d9
  by_cases hz : n = 0
  case neg =>
    have hq : q2 = false := by
      cases q2
      · rfl
      · exact absurd (hn.2 rfl) hz
    have ho : o = some (2, 0) := by rw [heq.out, hq]; rfl
    have hz' : (n == 0) = false := by simpa using hz
    clear heq hz hn hq
    replace ho := Lib.hid ho
    go_wp2_with fail
    refine (must_any _ _ _ _).mono ?_; rintro e w2 ⟨rfl, rfl⟩
    exact ⟨rfl, ACt.apost hA3.off ho.out⟩
  have hq := hn.1 hz
  obtain ⟨hgl, hcl, hcnt⟩ := hpb.out hq
  have ho : o = fb (tailO b gs chs) := by rw [heq.out, hq]; rfl
  clear heq hn hq hpb hb
  subst hz
  replace ho := Lib.hid ho
  replace hcnt := Lib.hid hcnt
  have hms : ∀ W : World, (Instr.makeMap 86 none).run Try.prog W = .ok (.map (some W.heap.size)) (W.alloc (.map #[] 0)) := fun _ => rfl
  go_upto_region 3 with fail
  refine (must_any _ _ _ _).mono ?_; rintro e w2 ⟨rfl, rfl⟩
  simp only [mustE]
  have hA4 := hA3.then hc (bone w3 (.map #[] 0))
  have hN : NamM (w3.alloc (.map #[] 0)) w3.heap.size [] := ⟨CntKV.new _, by simp⟩
  have hz3 := hA3.le
  have hz4 : w3.heap.size < (w3.alloc (.map #[] 0)).heap.size := by simp
  go_upto_region 999 with ((with_reducible show Code.wp _ _ (bodyPost _ _ _) _ (World.alloc _ _)); exact all4 _ _ _ _ _ _ _ _ _ _ _ _ _ _ _ _ _ _ _ _ _ _ _ _ _ _ _ _ _ _ _ _ _ _ _ _ _ _ _ _ _ _ _ _ _ _ _ _ _ _ _ _ _ _ _ _ _ _ _ _ _ _ _ _ _ _ _ _ _ _ _ _ _ _ _ _ _ _ _ _ _ _ _ _ _ _ _ _ _ _ _ _ _ _ _ _ _ _ _ _ _ _ _ _ _ _ _ _ _ _ _ _ _ _ _ _ _ _ _ _ _ hc hA4 hN hz3 hz4 hG' hC' hs hgl hcl hcnt.out hns.out hcp hst ho.out)
/-- Check: the first rule that does not hold. -/
theorem check_any (b : BrdV) (ver : Int) (vg vc : Value) (gs : List GuestV) (chs : List ChV) (w : World) (hG : RowG w vg gs) (hC : RowC w vc chs) (hs : smallP gs chs) (hns : ∀ g ∈ gs, g.name.size ≤ 1000000) :
    Calls Try.prog 9 #[.agg #[.int .u64 b.ram.a, .int .u64 b.ram.b, .int .u64 b.ldr.a, .int .u64 b.ldr.b, .int .i64 b.irqs, .int .i64 b.strs, .int .i64 b.cpus], .agg #[.int .u32 ver, vg, vc]] w fun e w' =>
      e = .returned (.tuple #[.int .i64 (ruleV (checkO b gs chs)), .int .i64 (placeW (checkO b gs chs)), .int .i64 (errV (checkO b gs chs))]) ∧ Below w.heap.size w w' := by
  obtain ⟨ag, kg, rfl⟩ := hG.slice
  obtain ⟨ac, kc, rfl⟩ := hC.slice
  refine check_of b ver _ _ ⟨_, _, _, rfl⟩ ⟨_, _, _, rfl⟩ _ w ?_
  intro W xb mi ms hb hk hi hs' h1 h2 h3 h4 h5
  have l2 : mi < W.heap.size := by
    obtain ⟨es, c, hh, _⟩ := hi.kv
    exact (Array.getElem?_eq_some_iff.1 hh).1
  have l3 : ms < W.heap.size := by
    obtain ⟨es, c, hh, _⟩ := hs'.kv
    exact (Array.getElem?_eq_some_iff.1 hh).1
  exact all_any ⟨hb, h1, h2, h3, h4, h5.1, h5.2, hk.lt, l2, l3⟩ ⟨hk, hi, hs', OwnTwo.nil _ _ _, OffV.refl _ _ _⟩ hG hC hs hns
end Go.Proofs.Ytffdfeekpfmbeaa
/- The small configuration: a guest of it. -/
namespace Go.Proofs.Ytffdfeekpfmbeaa
open Go Go.RowKit Go.BigFrame

def smallCo (s : ByteArray) (c : Nat) (K : List Int) (a8 a10 a11 : Option Addr) : List Value :=
  [.string s, .bool false, .int .u32 0, .int .u32 0, .int .u32 (2 ^ c : Nat), .int .u64 4096, .int .u64 0] ++ (K.map (Value.int .u8) ++ [.slice a8 1 1, .slice none 0 0, .slice a10 1 1, .slice a11 1 1])
def smallC (s : ByteArray) (c : Nat) (K : List Int) (bw bi bs : Nat) : List Value :=
  [.string s, .bool false, .int .u32 0, .int .u32 0, .int .u32 (2 ^ c : Nat), .int .u64 4096, .int .u64 0] ++ (K.map (Value.int .u8) ++ [.slice (some ⟨bw, 0, none⟩) 1 1, .slice none 0 0, .slice (some ⟨bi, 0, none⟩) 1 1, .slice (some ⟨bs, 0, none⟩) 1 1])
/-- Where a small guest's rows lie. -/
structure SmG (W : World) (c : Nat) (pa : Int) (bw bi bs : Nat) : Prop where
  bw : W.heap[bw]? = some (.cells #[.int .u64 0, .int .u64 pa, .int .u64 1048576, .int .i64 7] 65 (0, 0))
  bi : W.heap[bi]? = some (.cells #[.int .i64 (32 + c : Nat), .int .i64 c, .bool false] 63 (0, 0))
  bs : W.heap[bs]? = some (.cells #[.int .u32 c] 27 (0, 0))
theorem SmG.below {W W' : World} {c : Nat} {pa : Int} {bw bi bs : Nat} (h : SmG W c pa bw bi bs) (hb : Below W.heap.size W W') : SmG W' c pa bw bi bs :=
  ⟨(hb.block _ (Array.getElem?_eq_some_iff.1 h.bw).1).trans h.bw, (hb.block _ (Array.getElem?_eq_some_iff.1 h.bi).1).trans h.bi, (hb.block _ (Array.getElem?_eq_some_iff.1 h.bs).1).trans h.bs⟩
theorem of_fn {K : List Int} (h : K.length = 68) : ∃ f : Fin 68 → Int, K = List.ofFn f :=
  ⟨fun i => K[i.1]'(by have := i.2; omega), by
    apply List.ext_getElem
    · rw [List.length_ofFn, h]
    · intro i h1 h2; rw [List.getElem_ofFn]⟩
theorem small_build (s : ByteArray) (c : Nat) (f : Fin 68 → Int) (a8 a10 a11 : Option Addr) (w : World) :
    (Instr.build 61 #[(0, .string s), (4, .int .u32 (2 ^ c : Nat)), (5, .int .u64 4096), (7, .agg ((List.ofFn f).map (Value.int .u8)).toArray), (8, .slice a8 1 1), (10, .slice a10 1 1), (11, .slice a11 1 1)]).run Try.prog w = .ok (.agg (smallCo s c (List.ofFn f) a8 a10 a11).toArray) w :=
  run_build w _ _ _ (by kernel_rfl)
theorem small_len (s : ByteArray) (c : Nat) (f : Fin 68 → Int) (bw bi bs : Nat) : (smallC s c (List.ofFn f) bw bi bs).toArray.size = 79 := by
  unfold smallC
  simp
theorem small_size (s : ByteArray) (c : Nat) (f : Fin 68 → Int) (bw bi bs : Nat) : (Try.prog.info? 61).map (·.size) = some (smallC s c (List.ofFn f) bw bi bs).toArray.size := by rw [small_len]; exact guest_size
theorem small_one (s : ByteArray) (c : Nat) (f : Fin 68 → Int) (bw bi bs : Nat) : (smallC s c (List.ofFn f) bw bi bs).toArray.all (·.oneCell') = true := by
  unfold smallC
  rw [List.all_toArray, List.all_append, List.all_append, Bool.and_eq_true, Bool.and_eq_true]
  refine ⟨rfl, List.all_eq_true.2 fun x hx => ?_, rfl⟩
  obtain ⟨n, _, rfl⟩ := List.mem_map.1 hx
  rfl
theorem one_new (X : World) (o : Obj) : ∃ Y, Y = X.alloc o ∧ Y.heap.size = X.heap.size + 1 ∧ (∀ cs T, o = .cells cs T → Y.heap[X.heap.size]? = some (.cells cs T (0, 0))) ∧ Below X.heap.size X Y :=
  ⟨_, rfl, by simp, fun cs T e => by subst e; exact World.alloc_heap_new X _, bone _ _⟩
structure Leaf (w V : World) (g8 : Nat) (c : Nat) (pa : Int) (bw bi bs : Nat) : Prop where
  hb : Below w.heap.size w V
  k8 : V.heap[g8]? = some (.cells zGuest 61 (0, 0))
  hl : w.heap.size ≤ g8
  sm : SmG V c pa bw bi bs
theorem Leaf.stored {w V : World} {g8 c : Nat} {pa : Int} {bw bi bs : Nat} (h : Leaf w V g8 c pa bw bi bs) (C : Array Value) : SmG (V.setRow g8 C) c pa bw bi bs ∧ Below w.heap.size w (V.setRow g8 C) ∧ (V.setRow g8 C).heap[g8]? = some (.cells C 61 (0, 0)) := by
  have hne : ∀ {b : Nat} {cs : Array Value} {T : TypeId}, V.heap[b]? = some (.cells cs T (0, 0)) → T ≠ 61 → b ≠ g8 := fun h1 h2 e => by
    subst e
    rw [h.k8] at h1
    injection h1 with h1
    injection h1 with _ h1
    exact h2 h1.symm
  exact ⟨⟨(setRow_other V g8 _ C (hne h.sm.bw (by decide))).trans h.sm.bw, (setRow_other V g8 _ C (hne h.sm.bi (by decide))).trans h.sm.bi, (setRow_other V g8 _ C (hne h.sm.bs (by decide))).trans h.sm.bs⟩, below_setRow h.hb h.hl C, setRow_heap V g8 _ C _ _ h.k8⟩
set_option maxRecDepth 100000 in
set_option maxHeartbeats 8000000 in
theorem guest17_any (s : ByteArray) (c : Nat) (ci : Int) (hc : (c = 0 ∧ ci = 0) ∨ (c = 1 ∧ ci = 1)) (pa : Int) (K : List Int) (h68 : K.length = 68) (w : World) :
    Calls Try.prog 21 #[.string s, .int .i64 ci, .int .u64 pa, .agg (K.map (Value.int .u8)).toArray] w fun e w' => ∃ bw bi bs, e = .returned (.agg (smallC s c K bw bi bs).toArray) ∧ SmG w' c pa bw bi bs ∧ w.heap.size ≤ bw ∧ Below w.heap.size w w' := by
  obtain ⟨f, rfl⟩ := of_fn h68
  obtain ⟨KA, hKA⟩ : ∃ KA, KA = ((List.ofFn f).map (Value.int .u8)).toArray := ⟨_, rfl⟩
  have hKs : KA.size = 68 := by rw [hKA]; simp
  rw [← hKA]
  obtain ⟨W1, hW1⟩ : ∃ W1, W1 = (w.alloc (.cells KA 50)).alloc (.cells zGuest 61) := ⟨_, rfl⟩
  have hb1 : Below w.heap.size w W1 := by rw [hW1]; exact bthen (bone w _) (bone _ _)
  have k7 : W1.heap[w.heap.size]? = some (.cells KA 50 (0, 0)) := by rw [hW1]; exact ((bone _ _).block _ (by simp)).trans (World.alloc_heap_new w _)
  have k8 : W1.heap[w.heap.size + 1]? = some (.cells zGuest 61 (0, 0)) := by
    have := World.alloc_heap_new (w.alloc (.cells KA 50)) (.cells zGuest 61)
    rw [hW1]
    simpa using this
  replace hKA := Lib.hid hKA
  replace hW1 := Lib.hid hW1
  replace hKs := Lib.hid hKs
  go_enter Try.func21, Try.ntmps21
  go_upto_region 1 with (refine wpl_alloc_x rfl 61 rfl zGuest_info ?_)
  rw [← hW1.out]
  clear hW1
  have yK : ∀ X : HeldF (· = w.heap.size) W1, (Instr.loadAt 50 (.pointer (some ⟨w.heap.size, 0, none⟩))).run Try.prog X.x = .ok (.agg KA) X.x := fun X => by
    have h := run_loadAt_mid (P := Try.prog) X.x w.heap.size 0 50 KA.toList _ (fun j v hv => by
      simp only [World.cell?, X.h _ rfl, k7]
      simpa using hv) Try.underlying50 rfl (by rw [Array.length_toList, hKs.out]; kernel_rfl)
    rwa [Array.toArray_toList] at h
  simp only [Act.put, List.setIfInBounds_toArray, List.set_cons_succ, List.set_cons_zero, World.size_alloc]
  refine region_tree (fun z => ∃ X : HeldF (· = w.heap.size) W1, z = X.x) (by kernel_rfl) ?_
  obtain ⟨X, hXe⟩ : ∃ X, X = W1.drew := ⟨_, rfl⟩
  rw [← hXe]
  have hX : ∀ b, b = w.heap.size → X.heap[b]? = W1.heap[b]? := fun b _ => by rw [hXe]; rfl
  have hbX : Below w.heap.size w X := by rw [hXe]; exact hb1.drew
  have k8X : X.heap[w.heap.size + 1]? = some (.cells zGuest 61 (0, 0)) := by rw [hXe]; exact k8
  have hzX : w.heap.size + 1 < X.heap.size := (Array.getElem?_eq_some_iff.1 k8X).1
  clear hXe hb1 k7 k8 h68
  rcases hc with hc | hc
  · obtain ⟨rfl, rfl⟩ := hc
    refine tree_step [0, 1, 2, 3, 4, 5, 7, 8, 9, 10, 12, 13] [6, 11, 14] 4 (by kernel_rfl) (fun _ _ d _ _ h => by cases d <;> exact h) (by kernel_rfl) (by simp) rfl ⟨⟨X, hX⟩, rfl⟩ ?_
    simp only [List.filterMap_cons, List.filterMap_nil, List.getElem?_cons_succ, List.getElem?_cons_zero]
    repeat (change wpQuiet _ _ _ _ (List.cons _ _) _; first | go_big_quiet_step (fail) | (refine wpQuiet_load rfl 50 _ rfl (.pointer (some ⟨w.heap.size, 0, none⟩)) (.agg KA) rfl (fun w' hw' => by obtain ⟨X, rfl⟩ := hw'; exact yK X) ?_; simp only [Act.put, List.setIfInBounds_toArray, List.set_cons_succ, List.set_cons_zero]))
    refine wpQuiet_nil ?_
    intro i hi Q₁ hQ₁ hQp
    obtain rfl | rfl | rfl := mem3 hi
    · simp only [List.getElem?_cons_succ, List.getElem?_cons_zero, Option.toList]
      obtain ⟨X6, eX6, zX6, kX6, bX6⟩ := one_new X (.cells #[.int .u64 0, .int .u64 pa, .int .u64 1048576, .int .i64 7] 65)
      replace kX6 := kX6 _ _ rfl
      have hX6 : ∀ b, b = w.heap.size → X6.heap[b]? = W1.heap[b]? := fun b hb => (bX6.block b (by have := zX6; omega)).trans (hX b hb)
      have hzX6 : w.heap.size + 1 < X6.heap.size := by omega
      replace zX6 := Lib.hid zX6
      go_wp2_with fail
      rw [← eX6]
      refine hQ₁ _ _ ⟨⟨X6, hX6⟩, rfl⟩ ?_
      clear hQ₁ hQp Q₁ eX6
      refine tree_step [] [11, 14] 3 (by kernel_rfl) (fun _ _ d _ _ h => by cases d <;> exact h) (by kernel_rfl) (by simp) rfl ⟨⟨X6, hX6⟩, rfl⟩ ?_
      refine wpQuiet_nil ?_
      intro i hi Q₁ hQ₁ hQp
      obtain rfl | rfl := mem2 hi
      · simp only [List.getElem?_cons_succ, List.getElem?_cons_zero, Option.toList]
        obtain ⟨X611, eX611, zX611, kX611, bX611⟩ := one_new X6 (.cells #[.int .i64 32, .int .i64 0, .bool false] 63)
        replace kX611 := kX611 _ _ rfl
        have hX611 : ∀ b, b = w.heap.size → X611.heap[b]? = W1.heap[b]? := fun b hb => (bX611.block b (by have := zX611; omega)).trans (hX6 b hb)
        have hzX611 : w.heap.size + 1 < X611.heap.size := by omega
        replace zX611 := Lib.hid zX611
        go_wp2_with fail
        rw [← eX611]
        refine hQ₁ _ _ ⟨⟨X611, hX611⟩, rfl⟩ ?_
        clear hQ₁ hQp Q₁ eX611
        refine tree_step [] [14] 2 (by kernel_rfl) (fun _ _ d _ _ h => by cases d <;> exact h) (by kernel_rfl) (by simp) rfl ⟨⟨X611, hX611⟩, rfl⟩ ?_
        refine wpQuiet_nil ?_
        intro i hi Q₁ hQ₁ hQp
        obtain rfl := mem1 hi
        simp only [List.getElem?_cons_succ, List.getElem?_cons_zero, Option.toList]
        obtain ⟨X61114, eX61114, zX61114, kX61114, bX61114⟩ := one_new X611 (.cells #[.int .u32 0] 27)
        replace kX61114 := kX61114 _ _ rfl
        have hX61114 : ∀ b, b = w.heap.size → X61114.heap[b]? = W1.heap[b]? := fun b hb => (bX61114.block b (by have := zX61114; omega)).trans (hX611 b hb)
        have hzX61114 : w.heap.size + 1 < X61114.heap.size := by omega
        replace zX61114 := Lib.hid zX61114
        go_wp2_with fail
        rw [← eX61114]
        refine hQ₁ _ _ ⟨⟨X61114, hX61114⟩, rfl⟩ ?_
        clear hQ₁ hQp Q₁ eX61114
        have hV : Below w.heap.size w X61114 := bthen (bthen (bthen hbX bX6) bX611) bX61114
        have hL : Leaf w X61114 (w.heap.size + 1) 0 pa X.heap.size X6.heap.size X611.heap.size := ⟨hV, (bX61114.block _ (by have := hzX611; omega)).trans ((bX611.block _ (by have := hzX6; omega)).trans ((bX6.block _ (by omega)).trans k8X)), by omega, ⟨(bX61114.block _ (Array.getElem?_eq_some_iff.1 ((bX611.block _ (Array.getElem?_eq_some_iff.1 (kX6)).1).trans (kX6))).1).trans ((bX611.block _ (Array.getElem?_eq_some_iff.1 (kX6)).1).trans (kX6)), (bX61114.block _ (Array.getElem?_eq_some_iff.1 (kX611)).1).trans (kX611), kX61114⟩⟩
        obtain ⟨q1, q2, q3⟩ := hL.stored (smallC s 0 (List.ofFn f) X.heap.size X6.heap.size X611.heap.size).toArray
        have hbd : ∀ W : World, (Instr.build 61 #[(0, .string s), (4, .int .u32 1), (5, .int .u64 4096), (7, .agg KA), (8, .slice (some ⟨X.heap.size, 0, none⟩) 1 1), (10, .slice (some ⟨X6.heap.size, 0, none⟩) 1 1), (11, .slice (some ⟨X611.heap.size, 0, none⟩) 1 1)]).run Try.prog W = .ok (.agg (smallC s 0 (List.ofFn f) X.heap.size X6.heap.size X611.heap.size).toArray) W := fun W => by rw [hKA.out]; exact small_build s 0 f _ _ _ W
        refine tree_step [15] [16] 0 (by kernel_rfl) (fun _ _ d _ _ h => by cases d <;> exact h) (by kernel_rfl) (by simp) rfl ⟨⟨X61114, hX61114⟩, rfl⟩ ?_
        simp only [List.filterMap_cons, List.filterMap_nil, List.getElem?_cons_succ, List.getElem?_cons_zero]
        refine wpQuiet_build rfl 61 _ rfl #[(0, .string s), (4, .int .u32 1), (5, .int .u64 4096), (7, .agg KA), (8, .slice (some ⟨X.heap.size, 0, none⟩) 1 1), (10, .slice (some ⟨X6.heap.size, 0, none⟩) 1 1), (11, .slice (some ⟨X611.heap.size, 0, none⟩) 1 1)] (by simp [Act.eval]) _ hbd ?_
        refine wpQuiet_nil ?_
        intro i hi Q₁ hQ₁ hQp
        obtain rfl := mem1 hi
        simp only [List.getElem?_cons_succ, List.getElem?_cons_zero, Option.toList]
        refine wpl_store_row rfl 61 _ _ rfl hL.k8 (small_size _ _ _ _ _ _) (by rw [small_len]; kernel_rfl) (small_one _ _ _ _ _ _) rfl rfl ?_
        refine wpList_nil ?_
        refine hQ₁ _ _ ⟨⟨_, fun b hb => (setRow_other _ _ _ _ (by omega)).trans (hX61114 b hb)⟩, rfl⟩ ?_
        clear hQ₁ hQp Q₁
        refine tree_end [] (by kernel_rfl) (fun _ _ d _ _ h => by cases d <;> exact h) (by kernel_rfl) rfl ⟨⟨_, fun b hb => (setRow_other _ _ _ _ (by omega)).trans (hX61114 b hb)⟩, rfl⟩ ?_
        refine wpQuiet_nil ?_
        go_wp2_with fail
        exact bodyPost_ret (results_cell_row (fn := Try.f21) (p := 8) (ty := 61) (by kernel_rfl) _ _ _ _ _ _ _ rfl q3 Try.underlying61 rfl (by rw [small_len]; exact guest_size)) rfl ⟨_, _, _, rfl, q1, by omega, q2⟩
      · simp only [List.getElem?_cons_succ, List.getElem?_cons_zero, Option.toList]
        obtain ⟨X614, eX614, zX614, kX614, bX614⟩ := one_new X6 (.cells #[.int .u32 0] 27)
        replace kX614 := kX614 _ _ rfl
        have hX614 : ∀ b, b = w.heap.size → X614.heap[b]? = W1.heap[b]? := fun b hb => (bX614.block b (by have := zX614; omega)).trans (hX6 b hb)
        have hzX614 : w.heap.size + 1 < X614.heap.size := by omega
        replace zX614 := Lib.hid zX614
        go_wp2_with fail
        rw [← eX614]
        refine hQ₁ _ _ ⟨⟨X614, hX614⟩, rfl⟩ ?_
        clear hQ₁ hQp Q₁ eX614
        refine tree_step [] [11] 2 (by kernel_rfl) (fun _ _ d _ _ h => by cases d <;> exact h) (by kernel_rfl) (by simp) rfl ⟨⟨X614, hX614⟩, rfl⟩ ?_
        refine wpQuiet_nil ?_
        intro i hi Q₁ hQ₁ hQp
        obtain rfl := mem1 hi
        simp only [List.getElem?_cons_succ, List.getElem?_cons_zero, Option.toList]
        obtain ⟨X61411, eX61411, zX61411, kX61411, bX61411⟩ := one_new X614 (.cells #[.int .i64 32, .int .i64 0, .bool false] 63)
        replace kX61411 := kX61411 _ _ rfl
        have hX61411 : ∀ b, b = w.heap.size → X61411.heap[b]? = W1.heap[b]? := fun b hb => (bX61411.block b (by have := zX61411; omega)).trans (hX614 b hb)
        have hzX61411 : w.heap.size + 1 < X61411.heap.size := by omega
        replace zX61411 := Lib.hid zX61411
        go_wp2_with fail
        rw [← eX61411]
        refine hQ₁ _ _ ⟨⟨X61411, hX61411⟩, rfl⟩ ?_
        clear hQ₁ hQp Q₁ eX61411
        have hV : Below w.heap.size w X61411 := bthen (bthen (bthen hbX bX6) bX614) bX61411
        have hL : Leaf w X61411 (w.heap.size + 1) 0 pa X.heap.size X614.heap.size X6.heap.size := ⟨hV, (bX61411.block _ (by have := hzX614; omega)).trans ((bX614.block _ (by have := hzX6; omega)).trans ((bX6.block _ (by omega)).trans k8X)), by omega, ⟨(bX61411.block _ (Array.getElem?_eq_some_iff.1 ((bX614.block _ (Array.getElem?_eq_some_iff.1 (kX6)).1).trans (kX6))).1).trans ((bX614.block _ (Array.getElem?_eq_some_iff.1 (kX6)).1).trans (kX6)), kX61411, (bX61411.block _ (Array.getElem?_eq_some_iff.1 (kX614)).1).trans (kX614)⟩⟩
        obtain ⟨q1, q2, q3⟩ := hL.stored (smallC s 0 (List.ofFn f) X.heap.size X614.heap.size X6.heap.size).toArray
        have hbd : ∀ W : World, (Instr.build 61 #[(0, .string s), (4, .int .u32 1), (5, .int .u64 4096), (7, .agg KA), (8, .slice (some ⟨X.heap.size, 0, none⟩) 1 1), (10, .slice (some ⟨X614.heap.size, 0, none⟩) 1 1), (11, .slice (some ⟨X6.heap.size, 0, none⟩) 1 1)]).run Try.prog W = .ok (.agg (smallC s 0 (List.ofFn f) X.heap.size X614.heap.size X6.heap.size).toArray) W := fun W => by rw [hKA.out]; exact small_build s 0 f _ _ _ W
        refine tree_step [15] [16] 0 (by kernel_rfl) (fun _ _ d _ _ h => by cases d <;> exact h) (by kernel_rfl) (by simp) rfl ⟨⟨X61411, hX61411⟩, rfl⟩ ?_
        simp only [List.filterMap_cons, List.filterMap_nil, List.getElem?_cons_succ, List.getElem?_cons_zero]
        refine wpQuiet_build rfl 61 _ rfl #[(0, .string s), (4, .int .u32 1), (5, .int .u64 4096), (7, .agg KA), (8, .slice (some ⟨X.heap.size, 0, none⟩) 1 1), (10, .slice (some ⟨X614.heap.size, 0, none⟩) 1 1), (11, .slice (some ⟨X6.heap.size, 0, none⟩) 1 1)] (by simp [Act.eval]) _ hbd ?_
        refine wpQuiet_nil ?_
        intro i hi Q₁ hQ₁ hQp
        obtain rfl := mem1 hi
        simp only [List.getElem?_cons_succ, List.getElem?_cons_zero, Option.toList]
        refine wpl_store_row rfl 61 _ _ rfl hL.k8 (small_size _ _ _ _ _ _) (by rw [small_len]; kernel_rfl) (small_one _ _ _ _ _ _) rfl rfl ?_
        refine wpList_nil ?_
        refine hQ₁ _ _ ⟨⟨_, fun b hb => (setRow_other _ _ _ _ (by omega)).trans (hX61411 b hb)⟩, rfl⟩ ?_
        clear hQ₁ hQp Q₁
        refine tree_end [] (by kernel_rfl) (fun _ _ d _ _ h => by cases d <;> exact h) (by kernel_rfl) rfl ⟨⟨_, fun b hb => (setRow_other _ _ _ _ (by omega)).trans (hX61411 b hb)⟩, rfl⟩ ?_
        refine wpQuiet_nil ?_
        go_wp2_with fail
        exact bodyPost_ret (results_cell_row (fn := Try.f21) (p := 8) (ty := 61) (by kernel_rfl) _ _ _ _ _ _ _ rfl q3 Try.underlying61 rfl (by rw [small_len]; exact guest_size)) rfl ⟨_, _, _, rfl, q1, by omega, q2⟩
    · simp only [List.getElem?_cons_succ, List.getElem?_cons_zero, Option.toList]
      obtain ⟨X11, eX11, zX11, kX11, bX11⟩ := one_new X (.cells #[.int .i64 32, .int .i64 0, .bool false] 63)
      replace kX11 := kX11 _ _ rfl
      have hX11 : ∀ b, b = w.heap.size → X11.heap[b]? = W1.heap[b]? := fun b hb => (bX11.block b (by have := zX11; omega)).trans (hX b hb)
      have hzX11 : w.heap.size + 1 < X11.heap.size := by omega
      replace zX11 := Lib.hid zX11
      go_wp2_with fail
      rw [← eX11]
      refine hQ₁ _ _ ⟨⟨X11, hX11⟩, rfl⟩ ?_
      clear hQ₁ hQp Q₁ eX11
      refine tree_step [] [6, 14] 3 (by kernel_rfl) (fun _ _ d _ _ h => by cases d <;> exact h) (by kernel_rfl) (by simp) rfl ⟨⟨X11, hX11⟩, rfl⟩ ?_
      refine wpQuiet_nil ?_
      intro i hi Q₁ hQ₁ hQp
      obtain rfl | rfl := mem2 hi
      · simp only [List.getElem?_cons_succ, List.getElem?_cons_zero, Option.toList]
        obtain ⟨X116, eX116, zX116, kX116, bX116⟩ := one_new X11 (.cells #[.int .u64 0, .int .u64 pa, .int .u64 1048576, .int .i64 7] 65)
        replace kX116 := kX116 _ _ rfl
        have hX116 : ∀ b, b = w.heap.size → X116.heap[b]? = W1.heap[b]? := fun b hb => (bX116.block b (by have := zX116; omega)).trans (hX11 b hb)
        have hzX116 : w.heap.size + 1 < X116.heap.size := by omega
        replace zX116 := Lib.hid zX116
        go_wp2_with fail
        rw [← eX116]
        refine hQ₁ _ _ ⟨⟨X116, hX116⟩, rfl⟩ ?_
        clear hQ₁ hQp Q₁ eX116
        refine tree_step [] [14] 2 (by kernel_rfl) (fun _ _ d _ _ h => by cases d <;> exact h) (by kernel_rfl) (by simp) rfl ⟨⟨X116, hX116⟩, rfl⟩ ?_
        refine wpQuiet_nil ?_
        intro i hi Q₁ hQ₁ hQp
        obtain rfl := mem1 hi
        simp only [List.getElem?_cons_succ, List.getElem?_cons_zero, Option.toList]
        obtain ⟨X11614, eX11614, zX11614, kX11614, bX11614⟩ := one_new X116 (.cells #[.int .u32 0] 27)
        replace kX11614 := kX11614 _ _ rfl
        have hX11614 : ∀ b, b = w.heap.size → X11614.heap[b]? = W1.heap[b]? := fun b hb => (bX11614.block b (by have := zX11614; omega)).trans (hX116 b hb)
        have hzX11614 : w.heap.size + 1 < X11614.heap.size := by omega
        replace zX11614 := Lib.hid zX11614
        go_wp2_with fail
        rw [← eX11614]
        refine hQ₁ _ _ ⟨⟨X11614, hX11614⟩, rfl⟩ ?_
        clear hQ₁ hQp Q₁ eX11614
        have hV : Below w.heap.size w X11614 := bthen (bthen (bthen hbX bX11) bX116) bX11614
        have hL : Leaf w X11614 (w.heap.size + 1) 0 pa X11.heap.size X.heap.size X116.heap.size := ⟨hV, (bX11614.block _ (by have := hzX116; omega)).trans ((bX116.block _ (by have := hzX11; omega)).trans ((bX11.block _ (by omega)).trans k8X)), by omega, ⟨(bX11614.block _ (Array.getElem?_eq_some_iff.1 (kX116)).1).trans (kX116), (bX11614.block _ (Array.getElem?_eq_some_iff.1 ((bX116.block _ (Array.getElem?_eq_some_iff.1 (kX11)).1).trans (kX11))).1).trans ((bX116.block _ (Array.getElem?_eq_some_iff.1 (kX11)).1).trans (kX11)), kX11614⟩⟩
        obtain ⟨q1, q2, q3⟩ := hL.stored (smallC s 0 (List.ofFn f) X11.heap.size X.heap.size X116.heap.size).toArray
        have hbd : ∀ W : World, (Instr.build 61 #[(0, .string s), (4, .int .u32 1), (5, .int .u64 4096), (7, .agg KA), (8, .slice (some ⟨X11.heap.size, 0, none⟩) 1 1), (10, .slice (some ⟨X.heap.size, 0, none⟩) 1 1), (11, .slice (some ⟨X116.heap.size, 0, none⟩) 1 1)]).run Try.prog W = .ok (.agg (smallC s 0 (List.ofFn f) X11.heap.size X.heap.size X116.heap.size).toArray) W := fun W => by rw [hKA.out]; exact small_build s 0 f _ _ _ W
        refine tree_step [15] [16] 0 (by kernel_rfl) (fun _ _ d _ _ h => by cases d <;> exact h) (by kernel_rfl) (by simp) rfl ⟨⟨X11614, hX11614⟩, rfl⟩ ?_
        simp only [List.filterMap_cons, List.filterMap_nil, List.getElem?_cons_succ, List.getElem?_cons_zero]
        refine wpQuiet_build rfl 61 _ rfl #[(0, .string s), (4, .int .u32 1), (5, .int .u64 4096), (7, .agg KA), (8, .slice (some ⟨X11.heap.size, 0, none⟩) 1 1), (10, .slice (some ⟨X.heap.size, 0, none⟩) 1 1), (11, .slice (some ⟨X116.heap.size, 0, none⟩) 1 1)] (by simp [Act.eval]) _ hbd ?_
        refine wpQuiet_nil ?_
        intro i hi Q₁ hQ₁ hQp
        obtain rfl := mem1 hi
        simp only [List.getElem?_cons_succ, List.getElem?_cons_zero, Option.toList]
        refine wpl_store_row rfl 61 _ _ rfl hL.k8 (small_size _ _ _ _ _ _) (by rw [small_len]; kernel_rfl) (small_one _ _ _ _ _ _) rfl rfl ?_
        refine wpList_nil ?_
        refine hQ₁ _ _ ⟨⟨_, fun b hb => (setRow_other _ _ _ _ (by omega)).trans (hX11614 b hb)⟩, rfl⟩ ?_
        clear hQ₁ hQp Q₁
        refine tree_end [] (by kernel_rfl) (fun _ _ d _ _ h => by cases d <;> exact h) (by kernel_rfl) rfl ⟨⟨_, fun b hb => (setRow_other _ _ _ _ (by omega)).trans (hX11614 b hb)⟩, rfl⟩ ?_
        refine wpQuiet_nil ?_
        go_wp2_with fail
        exact bodyPost_ret (results_cell_row (fn := Try.f21) (p := 8) (ty := 61) (by kernel_rfl) _ _ _ _ _ _ _ rfl q3 Try.underlying61 rfl (by rw [small_len]; exact guest_size)) rfl ⟨_, _, _, rfl, q1, by omega, q2⟩
      · simp only [List.getElem?_cons_succ, List.getElem?_cons_zero, Option.toList]
        obtain ⟨X1114, eX1114, zX1114, kX1114, bX1114⟩ := one_new X11 (.cells #[.int .u32 0] 27)
        replace kX1114 := kX1114 _ _ rfl
        have hX1114 : ∀ b, b = w.heap.size → X1114.heap[b]? = W1.heap[b]? := fun b hb => (bX1114.block b (by have := zX1114; omega)).trans (hX11 b hb)
        have hzX1114 : w.heap.size + 1 < X1114.heap.size := by omega
        replace zX1114 := Lib.hid zX1114
        go_wp2_with fail
        rw [← eX1114]
        refine hQ₁ _ _ ⟨⟨X1114, hX1114⟩, rfl⟩ ?_
        clear hQ₁ hQp Q₁ eX1114
        refine tree_step [] [6] 2 (by kernel_rfl) (fun _ _ d _ _ h => by cases d <;> exact h) (by kernel_rfl) (by simp) rfl ⟨⟨X1114, hX1114⟩, rfl⟩ ?_
        refine wpQuiet_nil ?_
        intro i hi Q₁ hQ₁ hQp
        obtain rfl := mem1 hi
        simp only [List.getElem?_cons_succ, List.getElem?_cons_zero, Option.toList]
        obtain ⟨X11146, eX11146, zX11146, kX11146, bX11146⟩ := one_new X1114 (.cells #[.int .u64 0, .int .u64 pa, .int .u64 1048576, .int .i64 7] 65)
        replace kX11146 := kX11146 _ _ rfl
        have hX11146 : ∀ b, b = w.heap.size → X11146.heap[b]? = W1.heap[b]? := fun b hb => (bX11146.block b (by have := zX11146; omega)).trans (hX1114 b hb)
        have hzX11146 : w.heap.size + 1 < X11146.heap.size := by omega
        replace zX11146 := Lib.hid zX11146
        go_wp2_with fail
        rw [← eX11146]
        refine hQ₁ _ _ ⟨⟨X11146, hX11146⟩, rfl⟩ ?_
        clear hQ₁ hQp Q₁ eX11146
        have hV : Below w.heap.size w X11146 := bthen (bthen (bthen hbX bX11) bX1114) bX11146
        have hL : Leaf w X11146 (w.heap.size + 1) 0 pa X1114.heap.size X.heap.size X11.heap.size := ⟨hV, (bX11146.block _ (by have := hzX1114; omega)).trans ((bX1114.block _ (by have := hzX11; omega)).trans ((bX11.block _ (by omega)).trans k8X)), by omega, ⟨kX11146, (bX11146.block _ (Array.getElem?_eq_some_iff.1 ((bX1114.block _ (Array.getElem?_eq_some_iff.1 (kX11)).1).trans (kX11))).1).trans ((bX1114.block _ (Array.getElem?_eq_some_iff.1 (kX11)).1).trans (kX11)), (bX11146.block _ (Array.getElem?_eq_some_iff.1 (kX1114)).1).trans (kX1114)⟩⟩
        obtain ⟨q1, q2, q3⟩ := hL.stored (smallC s 0 (List.ofFn f) X1114.heap.size X.heap.size X11.heap.size).toArray
        have hbd : ∀ W : World, (Instr.build 61 #[(0, .string s), (4, .int .u32 1), (5, .int .u64 4096), (7, .agg KA), (8, .slice (some ⟨X1114.heap.size, 0, none⟩) 1 1), (10, .slice (some ⟨X.heap.size, 0, none⟩) 1 1), (11, .slice (some ⟨X11.heap.size, 0, none⟩) 1 1)]).run Try.prog W = .ok (.agg (smallC s 0 (List.ofFn f) X1114.heap.size X.heap.size X11.heap.size).toArray) W := fun W => by rw [hKA.out]; exact small_build s 0 f _ _ _ W
        refine tree_step [15] [16] 0 (by kernel_rfl) (fun _ _ d _ _ h => by cases d <;> exact h) (by kernel_rfl) (by simp) rfl ⟨⟨X11146, hX11146⟩, rfl⟩ ?_
        simp only [List.filterMap_cons, List.filterMap_nil, List.getElem?_cons_succ, List.getElem?_cons_zero]
        refine wpQuiet_build rfl 61 _ rfl #[(0, .string s), (4, .int .u32 1), (5, .int .u64 4096), (7, .agg KA), (8, .slice (some ⟨X1114.heap.size, 0, none⟩) 1 1), (10, .slice (some ⟨X.heap.size, 0, none⟩) 1 1), (11, .slice (some ⟨X11.heap.size, 0, none⟩) 1 1)] (by simp [Act.eval]) _ hbd ?_
        refine wpQuiet_nil ?_
        intro i hi Q₁ hQ₁ hQp
        obtain rfl := mem1 hi
        simp only [List.getElem?_cons_succ, List.getElem?_cons_zero, Option.toList]
        refine wpl_store_row rfl 61 _ _ rfl hL.k8 (small_size _ _ _ _ _ _) (by rw [small_len]; kernel_rfl) (small_one _ _ _ _ _ _) rfl rfl ?_
        refine wpList_nil ?_
        refine hQ₁ _ _ ⟨⟨_, fun b hb => (setRow_other _ _ _ _ (by omega)).trans (hX11146 b hb)⟩, rfl⟩ ?_
        clear hQ₁ hQp Q₁
        refine tree_end [] (by kernel_rfl) (fun _ _ d _ _ h => by cases d <;> exact h) (by kernel_rfl) rfl ⟨⟨_, fun b hb => (setRow_other _ _ _ _ (by omega)).trans (hX11146 b hb)⟩, rfl⟩ ?_
        refine wpQuiet_nil ?_
        go_wp2_with fail
        exact bodyPost_ret (results_cell_row (fn := Try.f21) (p := 8) (ty := 61) (by kernel_rfl) _ _ _ _ _ _ _ rfl q3 Try.underlying61 rfl (by rw [small_len]; exact guest_size)) rfl ⟨_, _, _, rfl, q1, by omega, q2⟩
    · simp only [List.getElem?_cons_succ, List.getElem?_cons_zero, Option.toList]
      obtain ⟨X14, eX14, zX14, kX14, bX14⟩ := one_new X (.cells #[.int .u32 0] 27)
      replace kX14 := kX14 _ _ rfl
      have hX14 : ∀ b, b = w.heap.size → X14.heap[b]? = W1.heap[b]? := fun b hb => (bX14.block b (by have := zX14; omega)).trans (hX b hb)
      have hzX14 : w.heap.size + 1 < X14.heap.size := by omega
      replace zX14 := Lib.hid zX14
      go_wp2_with fail
      rw [← eX14]
      refine hQ₁ _ _ ⟨⟨X14, hX14⟩, rfl⟩ ?_
      clear hQ₁ hQp Q₁ eX14
      refine tree_step [] [6, 11] 3 (by kernel_rfl) (fun _ _ d _ _ h => by cases d <;> exact h) (by kernel_rfl) (by simp) rfl ⟨⟨X14, hX14⟩, rfl⟩ ?_
      refine wpQuiet_nil ?_
      intro i hi Q₁ hQ₁ hQp
      obtain rfl | rfl := mem2 hi
      · simp only [List.getElem?_cons_succ, List.getElem?_cons_zero, Option.toList]
        obtain ⟨X146, eX146, zX146, kX146, bX146⟩ := one_new X14 (.cells #[.int .u64 0, .int .u64 pa, .int .u64 1048576, .int .i64 7] 65)
        replace kX146 := kX146 _ _ rfl
        have hX146 : ∀ b, b = w.heap.size → X146.heap[b]? = W1.heap[b]? := fun b hb => (bX146.block b (by have := zX146; omega)).trans (hX14 b hb)
        have hzX146 : w.heap.size + 1 < X146.heap.size := by omega
        replace zX146 := Lib.hid zX146
        go_wp2_with fail
        rw [← eX146]
        refine hQ₁ _ _ ⟨⟨X146, hX146⟩, rfl⟩ ?_
        clear hQ₁ hQp Q₁ eX146
        refine tree_step [] [11] 2 (by kernel_rfl) (fun _ _ d _ _ h => by cases d <;> exact h) (by kernel_rfl) (by simp) rfl ⟨⟨X146, hX146⟩, rfl⟩ ?_
        refine wpQuiet_nil ?_
        intro i hi Q₁ hQ₁ hQp
        obtain rfl := mem1 hi
        simp only [List.getElem?_cons_succ, List.getElem?_cons_zero, Option.toList]
        obtain ⟨X14611, eX14611, zX14611, kX14611, bX14611⟩ := one_new X146 (.cells #[.int .i64 32, .int .i64 0, .bool false] 63)
        replace kX14611 := kX14611 _ _ rfl
        have hX14611 : ∀ b, b = w.heap.size → X14611.heap[b]? = W1.heap[b]? := fun b hb => (bX14611.block b (by have := zX14611; omega)).trans (hX146 b hb)
        have hzX14611 : w.heap.size + 1 < X14611.heap.size := by omega
        replace zX14611 := Lib.hid zX14611
        go_wp2_with fail
        rw [← eX14611]
        refine hQ₁ _ _ ⟨⟨X14611, hX14611⟩, rfl⟩ ?_
        clear hQ₁ hQp Q₁ eX14611
        have hV : Below w.heap.size w X14611 := bthen (bthen (bthen hbX bX14) bX146) bX14611
        have hL : Leaf w X14611 (w.heap.size + 1) 0 pa X14.heap.size X146.heap.size X.heap.size := ⟨hV, (bX14611.block _ (by have := hzX146; omega)).trans ((bX146.block _ (by have := hzX14; omega)).trans ((bX14.block _ (by omega)).trans k8X)), by omega, ⟨(bX14611.block _ (Array.getElem?_eq_some_iff.1 (kX146)).1).trans (kX146), kX14611, (bX14611.block _ (Array.getElem?_eq_some_iff.1 ((bX146.block _ (Array.getElem?_eq_some_iff.1 (kX14)).1).trans (kX14))).1).trans ((bX146.block _ (Array.getElem?_eq_some_iff.1 (kX14)).1).trans (kX14))⟩⟩
        obtain ⟨q1, q2, q3⟩ := hL.stored (smallC s 0 (List.ofFn f) X14.heap.size X146.heap.size X.heap.size).toArray
        have hbd : ∀ W : World, (Instr.build 61 #[(0, .string s), (4, .int .u32 1), (5, .int .u64 4096), (7, .agg KA), (8, .slice (some ⟨X14.heap.size, 0, none⟩) 1 1), (10, .slice (some ⟨X146.heap.size, 0, none⟩) 1 1), (11, .slice (some ⟨X.heap.size, 0, none⟩) 1 1)]).run Try.prog W = .ok (.agg (smallC s 0 (List.ofFn f) X14.heap.size X146.heap.size X.heap.size).toArray) W := fun W => by rw [hKA.out]; exact small_build s 0 f _ _ _ W
        refine tree_step [15] [16] 0 (by kernel_rfl) (fun _ _ d _ _ h => by cases d <;> exact h) (by kernel_rfl) (by simp) rfl ⟨⟨X14611, hX14611⟩, rfl⟩ ?_
        simp only [List.filterMap_cons, List.filterMap_nil, List.getElem?_cons_succ, List.getElem?_cons_zero]
        refine wpQuiet_build rfl 61 _ rfl #[(0, .string s), (4, .int .u32 1), (5, .int .u64 4096), (7, .agg KA), (8, .slice (some ⟨X14.heap.size, 0, none⟩) 1 1), (10, .slice (some ⟨X146.heap.size, 0, none⟩) 1 1), (11, .slice (some ⟨X.heap.size, 0, none⟩) 1 1)] (by simp [Act.eval]) _ hbd ?_
        refine wpQuiet_nil ?_
        intro i hi Q₁ hQ₁ hQp
        obtain rfl := mem1 hi
        simp only [List.getElem?_cons_succ, List.getElem?_cons_zero, Option.toList]
        refine wpl_store_row rfl 61 _ _ rfl hL.k8 (small_size _ _ _ _ _ _) (by rw [small_len]; kernel_rfl) (small_one _ _ _ _ _ _) rfl rfl ?_
        refine wpList_nil ?_
        refine hQ₁ _ _ ⟨⟨_, fun b hb => (setRow_other _ _ _ _ (by omega)).trans (hX14611 b hb)⟩, rfl⟩ ?_
        clear hQ₁ hQp Q₁
        refine tree_end [] (by kernel_rfl) (fun _ _ d _ _ h => by cases d <;> exact h) (by kernel_rfl) rfl ⟨⟨_, fun b hb => (setRow_other _ _ _ _ (by omega)).trans (hX14611 b hb)⟩, rfl⟩ ?_
        refine wpQuiet_nil ?_
        go_wp2_with fail
        exact bodyPost_ret (results_cell_row (fn := Try.f21) (p := 8) (ty := 61) (by kernel_rfl) _ _ _ _ _ _ _ rfl q3 Try.underlying61 rfl (by rw [small_len]; exact guest_size)) rfl ⟨_, _, _, rfl, q1, by omega, q2⟩
      · simp only [List.getElem?_cons_succ, List.getElem?_cons_zero, Option.toList]
        obtain ⟨X1411, eX1411, zX1411, kX1411, bX1411⟩ := one_new X14 (.cells #[.int .i64 32, .int .i64 0, .bool false] 63)
        replace kX1411 := kX1411 _ _ rfl
        have hX1411 : ∀ b, b = w.heap.size → X1411.heap[b]? = W1.heap[b]? := fun b hb => (bX1411.block b (by have := zX1411; omega)).trans (hX14 b hb)
        have hzX1411 : w.heap.size + 1 < X1411.heap.size := by omega
        replace zX1411 := Lib.hid zX1411
        go_wp2_with fail
        rw [← eX1411]
        refine hQ₁ _ _ ⟨⟨X1411, hX1411⟩, rfl⟩ ?_
        clear hQ₁ hQp Q₁ eX1411
        refine tree_step [] [6] 2 (by kernel_rfl) (fun _ _ d _ _ h => by cases d <;> exact h) (by kernel_rfl) (by simp) rfl ⟨⟨X1411, hX1411⟩, rfl⟩ ?_
        refine wpQuiet_nil ?_
        intro i hi Q₁ hQ₁ hQp
        obtain rfl := mem1 hi
        simp only [List.getElem?_cons_succ, List.getElem?_cons_zero, Option.toList]
        obtain ⟨X14116, eX14116, zX14116, kX14116, bX14116⟩ := one_new X1411 (.cells #[.int .u64 0, .int .u64 pa, .int .u64 1048576, .int .i64 7] 65)
        replace kX14116 := kX14116 _ _ rfl
        have hX14116 : ∀ b, b = w.heap.size → X14116.heap[b]? = W1.heap[b]? := fun b hb => (bX14116.block b (by have := zX14116; omega)).trans (hX1411 b hb)
        have hzX14116 : w.heap.size + 1 < X14116.heap.size := by omega
        replace zX14116 := Lib.hid zX14116
        go_wp2_with fail
        rw [← eX14116]
        refine hQ₁ _ _ ⟨⟨X14116, hX14116⟩, rfl⟩ ?_
        clear hQ₁ hQp Q₁ eX14116
        have hV : Below w.heap.size w X14116 := bthen (bthen (bthen hbX bX14) bX1411) bX14116
        have hL : Leaf w X14116 (w.heap.size + 1) 0 pa X1411.heap.size X14.heap.size X.heap.size := ⟨hV, (bX14116.block _ (by have := hzX1411; omega)).trans ((bX1411.block _ (by have := hzX14; omega)).trans ((bX14.block _ (by omega)).trans k8X)), by omega, ⟨kX14116, (bX14116.block _ (Array.getElem?_eq_some_iff.1 (kX1411)).1).trans (kX1411), (bX14116.block _ (Array.getElem?_eq_some_iff.1 ((bX1411.block _ (Array.getElem?_eq_some_iff.1 (kX14)).1).trans (kX14))).1).trans ((bX1411.block _ (Array.getElem?_eq_some_iff.1 (kX14)).1).trans (kX14))⟩⟩
        obtain ⟨q1, q2, q3⟩ := hL.stored (smallC s 0 (List.ofFn f) X1411.heap.size X14.heap.size X.heap.size).toArray
        have hbd : ∀ W : World, (Instr.build 61 #[(0, .string s), (4, .int .u32 1), (5, .int .u64 4096), (7, .agg KA), (8, .slice (some ⟨X1411.heap.size, 0, none⟩) 1 1), (10, .slice (some ⟨X14.heap.size, 0, none⟩) 1 1), (11, .slice (some ⟨X.heap.size, 0, none⟩) 1 1)]).run Try.prog W = .ok (.agg (smallC s 0 (List.ofFn f) X1411.heap.size X14.heap.size X.heap.size).toArray) W := fun W => by rw [hKA.out]; exact small_build s 0 f _ _ _ W
        refine tree_step [15] [16] 0 (by kernel_rfl) (fun _ _ d _ _ h => by cases d <;> exact h) (by kernel_rfl) (by simp) rfl ⟨⟨X14116, hX14116⟩, rfl⟩ ?_
        simp only [List.filterMap_cons, List.filterMap_nil, List.getElem?_cons_succ, List.getElem?_cons_zero]
        refine wpQuiet_build rfl 61 _ rfl #[(0, .string s), (4, .int .u32 1), (5, .int .u64 4096), (7, .agg KA), (8, .slice (some ⟨X1411.heap.size, 0, none⟩) 1 1), (10, .slice (some ⟨X14.heap.size, 0, none⟩) 1 1), (11, .slice (some ⟨X.heap.size, 0, none⟩) 1 1)] (by simp [Act.eval]) _ hbd ?_
        refine wpQuiet_nil ?_
        intro i hi Q₁ hQ₁ hQp
        obtain rfl := mem1 hi
        simp only [List.getElem?_cons_succ, List.getElem?_cons_zero, Option.toList]
        refine wpl_store_row rfl 61 _ _ rfl hL.k8 (small_size _ _ _ _ _ _) (by rw [small_len]; kernel_rfl) (small_one _ _ _ _ _ _) rfl rfl ?_
        refine wpList_nil ?_
        refine hQ₁ _ _ ⟨⟨_, fun b hb => (setRow_other _ _ _ _ (by omega)).trans (hX14116 b hb)⟩, rfl⟩ ?_
        clear hQ₁ hQp Q₁
        refine tree_end [] (by kernel_rfl) (fun _ _ d _ _ h => by cases d <;> exact h) (by kernel_rfl) rfl ⟨⟨_, fun b hb => (setRow_other _ _ _ _ (by omega)).trans (hX14116 b hb)⟩, rfl⟩ ?_
        refine wpQuiet_nil ?_
        go_wp2_with fail
        exact bodyPost_ret (results_cell_row (fn := Try.f21) (p := 8) (ty := 61) (by kernel_rfl) _ _ _ _ _ _ _ rfl q3 Try.underlying61 rfl (by rw [small_len]; exact guest_size)) rfl ⟨_, _, _, rfl, q1, by omega, q2⟩
  · obtain ⟨rfl, rfl⟩ := hc
    refine tree_step [0, 1, 2, 3, 4, 5, 7, 8, 9, 10, 12, 13] [6, 11, 14] 4 (by kernel_rfl) (fun _ _ d _ _ h => by cases d <;> exact h) (by kernel_rfl) (by simp) rfl ⟨⟨X, hX⟩, rfl⟩ ?_
    simp only [List.filterMap_cons, List.filterMap_nil, List.getElem?_cons_succ, List.getElem?_cons_zero]
    repeat (change wpQuiet _ _ _ _ (List.cons _ _) _; first | go_big_quiet_step (fail) | (refine wpQuiet_load rfl 50 _ rfl (.pointer (some ⟨w.heap.size, 0, none⟩)) (.agg KA) rfl (fun w' hw' => by obtain ⟨X, rfl⟩ := hw'; exact yK X) ?_; simp only [Act.put, List.setIfInBounds_toArray, List.set_cons_succ, List.set_cons_zero]))
    refine wpQuiet_nil ?_
    intro i hi Q₁ hQ₁ hQp
    obtain rfl | rfl | rfl := mem3 hi
    · simp only [List.getElem?_cons_succ, List.getElem?_cons_zero, Option.toList]
      obtain ⟨X6, eX6, zX6, kX6, bX6⟩ := one_new X (.cells #[.int .u64 0, .int .u64 pa, .int .u64 1048576, .int .i64 7] 65)
      replace kX6 := kX6 _ _ rfl
      have hX6 : ∀ b, b = w.heap.size → X6.heap[b]? = W1.heap[b]? := fun b hb => (bX6.block b (by have := zX6; omega)).trans (hX b hb)
      have hzX6 : w.heap.size + 1 < X6.heap.size := by omega
      replace zX6 := Lib.hid zX6
      go_wp2_with fail
      rw [← eX6]
      refine hQ₁ _ _ ⟨⟨X6, hX6⟩, rfl⟩ ?_
      clear hQ₁ hQp Q₁ eX6
      refine tree_step [] [11, 14] 3 (by kernel_rfl) (fun _ _ d _ _ h => by cases d <;> exact h) (by kernel_rfl) (by simp) rfl ⟨⟨X6, hX6⟩, rfl⟩ ?_
      refine wpQuiet_nil ?_
      intro i hi Q₁ hQ₁ hQp
      obtain rfl | rfl := mem2 hi
      · simp only [List.getElem?_cons_succ, List.getElem?_cons_zero, Option.toList]
        obtain ⟨X611, eX611, zX611, kX611, bX611⟩ := one_new X6 (.cells #[.int .i64 33, .int .i64 1, .bool false] 63)
        replace kX611 := kX611 _ _ rfl
        have hX611 : ∀ b, b = w.heap.size → X611.heap[b]? = W1.heap[b]? := fun b hb => (bX611.block b (by have := zX611; omega)).trans (hX6 b hb)
        have hzX611 : w.heap.size + 1 < X611.heap.size := by omega
        replace zX611 := Lib.hid zX611
        go_wp2_with fail
        rw [← eX611]
        refine hQ₁ _ _ ⟨⟨X611, hX611⟩, rfl⟩ ?_
        clear hQ₁ hQp Q₁ eX611
        refine tree_step [] [14] 2 (by kernel_rfl) (fun _ _ d _ _ h => by cases d <;> exact h) (by kernel_rfl) (by simp) rfl ⟨⟨X611, hX611⟩, rfl⟩ ?_
        refine wpQuiet_nil ?_
        intro i hi Q₁ hQ₁ hQp
        obtain rfl := mem1 hi
        simp only [List.getElem?_cons_succ, List.getElem?_cons_zero, Option.toList]
        obtain ⟨X61114, eX61114, zX61114, kX61114, bX61114⟩ := one_new X611 (.cells #[.int .u32 1] 27)
        replace kX61114 := kX61114 _ _ rfl
        have hX61114 : ∀ b, b = w.heap.size → X61114.heap[b]? = W1.heap[b]? := fun b hb => (bX61114.block b (by have := zX61114; omega)).trans (hX611 b hb)
        have hzX61114 : w.heap.size + 1 < X61114.heap.size := by omega
        replace zX61114 := Lib.hid zX61114
        go_wp2_with fail
        rw [← eX61114]
        refine hQ₁ _ _ ⟨⟨X61114, hX61114⟩, rfl⟩ ?_
        clear hQ₁ hQp Q₁ eX61114
        have hV : Below w.heap.size w X61114 := bthen (bthen (bthen hbX bX6) bX611) bX61114
        have hL : Leaf w X61114 (w.heap.size + 1) 1 pa X.heap.size X6.heap.size X611.heap.size := ⟨hV, (bX61114.block _ (by have := hzX611; omega)).trans ((bX611.block _ (by have := hzX6; omega)).trans ((bX6.block _ (by omega)).trans k8X)), by omega, ⟨(bX61114.block _ (Array.getElem?_eq_some_iff.1 ((bX611.block _ (Array.getElem?_eq_some_iff.1 (kX6)).1).trans (kX6))).1).trans ((bX611.block _ (Array.getElem?_eq_some_iff.1 (kX6)).1).trans (kX6)), (bX61114.block _ (Array.getElem?_eq_some_iff.1 (kX611)).1).trans (kX611), kX61114⟩⟩
        obtain ⟨q1, q2, q3⟩ := hL.stored (smallC s 1 (List.ofFn f) X.heap.size X6.heap.size X611.heap.size).toArray
        have hbd : ∀ W : World, (Instr.build 61 #[(0, .string s), (4, .int .u32 2), (5, .int .u64 4096), (7, .agg KA), (8, .slice (some ⟨X.heap.size, 0, none⟩) 1 1), (10, .slice (some ⟨X6.heap.size, 0, none⟩) 1 1), (11, .slice (some ⟨X611.heap.size, 0, none⟩) 1 1)]).run Try.prog W = .ok (.agg (smallC s 1 (List.ofFn f) X.heap.size X6.heap.size X611.heap.size).toArray) W := fun W => by rw [hKA.out]; exact small_build s 1 f _ _ _ W
        refine tree_step [15] [16] 0 (by kernel_rfl) (fun _ _ d _ _ h => by cases d <;> exact h) (by kernel_rfl) (by simp) rfl ⟨⟨X61114, hX61114⟩, rfl⟩ ?_
        simp only [List.filterMap_cons, List.filterMap_nil, List.getElem?_cons_succ, List.getElem?_cons_zero]
        refine wpQuiet_build rfl 61 _ rfl #[(0, .string s), (4, .int .u32 2), (5, .int .u64 4096), (7, .agg KA), (8, .slice (some ⟨X.heap.size, 0, none⟩) 1 1), (10, .slice (some ⟨X6.heap.size, 0, none⟩) 1 1), (11, .slice (some ⟨X611.heap.size, 0, none⟩) 1 1)] (by simp [Act.eval]) _ hbd ?_
        refine wpQuiet_nil ?_
        intro i hi Q₁ hQ₁ hQp
        obtain rfl := mem1 hi
        simp only [List.getElem?_cons_succ, List.getElem?_cons_zero, Option.toList]
        refine wpl_store_row rfl 61 _ _ rfl hL.k8 (small_size _ _ _ _ _ _) (by rw [small_len]; kernel_rfl) (small_one _ _ _ _ _ _) rfl rfl ?_
        refine wpList_nil ?_
        refine hQ₁ _ _ ⟨⟨_, fun b hb => (setRow_other _ _ _ _ (by omega)).trans (hX61114 b hb)⟩, rfl⟩ ?_
        clear hQ₁ hQp Q₁
        refine tree_end [] (by kernel_rfl) (fun _ _ d _ _ h => by cases d <;> exact h) (by kernel_rfl) rfl ⟨⟨_, fun b hb => (setRow_other _ _ _ _ (by omega)).trans (hX61114 b hb)⟩, rfl⟩ ?_
        refine wpQuiet_nil ?_
        go_wp2_with fail
        exact bodyPost_ret (results_cell_row (fn := Try.f21) (p := 8) (ty := 61) (by kernel_rfl) _ _ _ _ _ _ _ rfl q3 Try.underlying61 rfl (by rw [small_len]; exact guest_size)) rfl ⟨_, _, _, rfl, q1, by omega, q2⟩
      · simp only [List.getElem?_cons_succ, List.getElem?_cons_zero, Option.toList]
        obtain ⟨X614, eX614, zX614, kX614, bX614⟩ := one_new X6 (.cells #[.int .u32 1] 27)
        replace kX614 := kX614 _ _ rfl
        have hX614 : ∀ b, b = w.heap.size → X614.heap[b]? = W1.heap[b]? := fun b hb => (bX614.block b (by have := zX614; omega)).trans (hX6 b hb)
        have hzX614 : w.heap.size + 1 < X614.heap.size := by omega
        replace zX614 := Lib.hid zX614
        go_wp2_with fail
        rw [← eX614]
        refine hQ₁ _ _ ⟨⟨X614, hX614⟩, rfl⟩ ?_
        clear hQ₁ hQp Q₁ eX614
        refine tree_step [] [11] 2 (by kernel_rfl) (fun _ _ d _ _ h => by cases d <;> exact h) (by kernel_rfl) (by simp) rfl ⟨⟨X614, hX614⟩, rfl⟩ ?_
        refine wpQuiet_nil ?_
        intro i hi Q₁ hQ₁ hQp
        obtain rfl := mem1 hi
        simp only [List.getElem?_cons_succ, List.getElem?_cons_zero, Option.toList]
        obtain ⟨X61411, eX61411, zX61411, kX61411, bX61411⟩ := one_new X614 (.cells #[.int .i64 33, .int .i64 1, .bool false] 63)
        replace kX61411 := kX61411 _ _ rfl
        have hX61411 : ∀ b, b = w.heap.size → X61411.heap[b]? = W1.heap[b]? := fun b hb => (bX61411.block b (by have := zX61411; omega)).trans (hX614 b hb)
        have hzX61411 : w.heap.size + 1 < X61411.heap.size := by omega
        replace zX61411 := Lib.hid zX61411
        go_wp2_with fail
        rw [← eX61411]
        refine hQ₁ _ _ ⟨⟨X61411, hX61411⟩, rfl⟩ ?_
        clear hQ₁ hQp Q₁ eX61411
        have hV : Below w.heap.size w X61411 := bthen (bthen (bthen hbX bX6) bX614) bX61411
        have hL : Leaf w X61411 (w.heap.size + 1) 1 pa X.heap.size X614.heap.size X6.heap.size := ⟨hV, (bX61411.block _ (by have := hzX614; omega)).trans ((bX614.block _ (by have := hzX6; omega)).trans ((bX6.block _ (by omega)).trans k8X)), by omega, ⟨(bX61411.block _ (Array.getElem?_eq_some_iff.1 ((bX614.block _ (Array.getElem?_eq_some_iff.1 (kX6)).1).trans (kX6))).1).trans ((bX614.block _ (Array.getElem?_eq_some_iff.1 (kX6)).1).trans (kX6)), kX61411, (bX61411.block _ (Array.getElem?_eq_some_iff.1 (kX614)).1).trans (kX614)⟩⟩
        obtain ⟨q1, q2, q3⟩ := hL.stored (smallC s 1 (List.ofFn f) X.heap.size X614.heap.size X6.heap.size).toArray
        have hbd : ∀ W : World, (Instr.build 61 #[(0, .string s), (4, .int .u32 2), (5, .int .u64 4096), (7, .agg KA), (8, .slice (some ⟨X.heap.size, 0, none⟩) 1 1), (10, .slice (some ⟨X614.heap.size, 0, none⟩) 1 1), (11, .slice (some ⟨X6.heap.size, 0, none⟩) 1 1)]).run Try.prog W = .ok (.agg (smallC s 1 (List.ofFn f) X.heap.size X614.heap.size X6.heap.size).toArray) W := fun W => by rw [hKA.out]; exact small_build s 1 f _ _ _ W
        refine tree_step [15] [16] 0 (by kernel_rfl) (fun _ _ d _ _ h => by cases d <;> exact h) (by kernel_rfl) (by simp) rfl ⟨⟨X61411, hX61411⟩, rfl⟩ ?_
        simp only [List.filterMap_cons, List.filterMap_nil, List.getElem?_cons_succ, List.getElem?_cons_zero]
        refine wpQuiet_build rfl 61 _ rfl #[(0, .string s), (4, .int .u32 2), (5, .int .u64 4096), (7, .agg KA), (8, .slice (some ⟨X.heap.size, 0, none⟩) 1 1), (10, .slice (some ⟨X614.heap.size, 0, none⟩) 1 1), (11, .slice (some ⟨X6.heap.size, 0, none⟩) 1 1)] (by simp [Act.eval]) _ hbd ?_
        refine wpQuiet_nil ?_
        intro i hi Q₁ hQ₁ hQp
        obtain rfl := mem1 hi
        simp only [List.getElem?_cons_succ, List.getElem?_cons_zero, Option.toList]
        refine wpl_store_row rfl 61 _ _ rfl hL.k8 (small_size _ _ _ _ _ _) (by rw [small_len]; kernel_rfl) (small_one _ _ _ _ _ _) rfl rfl ?_
        refine wpList_nil ?_
        refine hQ₁ _ _ ⟨⟨_, fun b hb => (setRow_other _ _ _ _ (by omega)).trans (hX61411 b hb)⟩, rfl⟩ ?_
        clear hQ₁ hQp Q₁
        refine tree_end [] (by kernel_rfl) (fun _ _ d _ _ h => by cases d <;> exact h) (by kernel_rfl) rfl ⟨⟨_, fun b hb => (setRow_other _ _ _ _ (by omega)).trans (hX61411 b hb)⟩, rfl⟩ ?_
        refine wpQuiet_nil ?_
        go_wp2_with fail
        exact bodyPost_ret (results_cell_row (fn := Try.f21) (p := 8) (ty := 61) (by kernel_rfl) _ _ _ _ _ _ _ rfl q3 Try.underlying61 rfl (by rw [small_len]; exact guest_size)) rfl ⟨_, _, _, rfl, q1, by omega, q2⟩
    · simp only [List.getElem?_cons_succ, List.getElem?_cons_zero, Option.toList]
      obtain ⟨X11, eX11, zX11, kX11, bX11⟩ := one_new X (.cells #[.int .i64 33, .int .i64 1, .bool false] 63)
      replace kX11 := kX11 _ _ rfl
      have hX11 : ∀ b, b = w.heap.size → X11.heap[b]? = W1.heap[b]? := fun b hb => (bX11.block b (by have := zX11; omega)).trans (hX b hb)
      have hzX11 : w.heap.size + 1 < X11.heap.size := by omega
      replace zX11 := Lib.hid zX11
      go_wp2_with fail
      rw [← eX11]
      refine hQ₁ _ _ ⟨⟨X11, hX11⟩, rfl⟩ ?_
      clear hQ₁ hQp Q₁ eX11
      refine tree_step [] [6, 14] 3 (by kernel_rfl) (fun _ _ d _ _ h => by cases d <;> exact h) (by kernel_rfl) (by simp) rfl ⟨⟨X11, hX11⟩, rfl⟩ ?_
      refine wpQuiet_nil ?_
      intro i hi Q₁ hQ₁ hQp
      obtain rfl | rfl := mem2 hi
      · simp only [List.getElem?_cons_succ, List.getElem?_cons_zero, Option.toList]
        obtain ⟨X116, eX116, zX116, kX116, bX116⟩ := one_new X11 (.cells #[.int .u64 0, .int .u64 pa, .int .u64 1048576, .int .i64 7] 65)
        replace kX116 := kX116 _ _ rfl
        have hX116 : ∀ b, b = w.heap.size → X116.heap[b]? = W1.heap[b]? := fun b hb => (bX116.block b (by have := zX116; omega)).trans (hX11 b hb)
        have hzX116 : w.heap.size + 1 < X116.heap.size := by omega
        replace zX116 := Lib.hid zX116
        go_wp2_with fail
        rw [← eX116]
        refine hQ₁ _ _ ⟨⟨X116, hX116⟩, rfl⟩ ?_
        clear hQ₁ hQp Q₁ eX116
        refine tree_step [] [14] 2 (by kernel_rfl) (fun _ _ d _ _ h => by cases d <;> exact h) (by kernel_rfl) (by simp) rfl ⟨⟨X116, hX116⟩, rfl⟩ ?_
        refine wpQuiet_nil ?_
        intro i hi Q₁ hQ₁ hQp
        obtain rfl := mem1 hi
        simp only [List.getElem?_cons_succ, List.getElem?_cons_zero, Option.toList]
        obtain ⟨X11614, eX11614, zX11614, kX11614, bX11614⟩ := one_new X116 (.cells #[.int .u32 1] 27)
        replace kX11614 := kX11614 _ _ rfl
        have hX11614 : ∀ b, b = w.heap.size → X11614.heap[b]? = W1.heap[b]? := fun b hb => (bX11614.block b (by have := zX11614; omega)).trans (hX116 b hb)
        have hzX11614 : w.heap.size + 1 < X11614.heap.size := by omega
        replace zX11614 := Lib.hid zX11614
        go_wp2_with fail
        rw [← eX11614]
        refine hQ₁ _ _ ⟨⟨X11614, hX11614⟩, rfl⟩ ?_
        clear hQ₁ hQp Q₁ eX11614
        have hV : Below w.heap.size w X11614 := bthen (bthen (bthen hbX bX11) bX116) bX11614
        have hL : Leaf w X11614 (w.heap.size + 1) 1 pa X11.heap.size X.heap.size X116.heap.size := ⟨hV, (bX11614.block _ (by have := hzX116; omega)).trans ((bX116.block _ (by have := hzX11; omega)).trans ((bX11.block _ (by omega)).trans k8X)), by omega, ⟨(bX11614.block _ (Array.getElem?_eq_some_iff.1 (kX116)).1).trans (kX116), (bX11614.block _ (Array.getElem?_eq_some_iff.1 ((bX116.block _ (Array.getElem?_eq_some_iff.1 (kX11)).1).trans (kX11))).1).trans ((bX116.block _ (Array.getElem?_eq_some_iff.1 (kX11)).1).trans (kX11)), kX11614⟩⟩
        obtain ⟨q1, q2, q3⟩ := hL.stored (smallC s 1 (List.ofFn f) X11.heap.size X.heap.size X116.heap.size).toArray
        have hbd : ∀ W : World, (Instr.build 61 #[(0, .string s), (4, .int .u32 2), (5, .int .u64 4096), (7, .agg KA), (8, .slice (some ⟨X11.heap.size, 0, none⟩) 1 1), (10, .slice (some ⟨X.heap.size, 0, none⟩) 1 1), (11, .slice (some ⟨X116.heap.size, 0, none⟩) 1 1)]).run Try.prog W = .ok (.agg (smallC s 1 (List.ofFn f) X11.heap.size X.heap.size X116.heap.size).toArray) W := fun W => by rw [hKA.out]; exact small_build s 1 f _ _ _ W
        refine tree_step [15] [16] 0 (by kernel_rfl) (fun _ _ d _ _ h => by cases d <;> exact h) (by kernel_rfl) (by simp) rfl ⟨⟨X11614, hX11614⟩, rfl⟩ ?_
        simp only [List.filterMap_cons, List.filterMap_nil, List.getElem?_cons_succ, List.getElem?_cons_zero]
        refine wpQuiet_build rfl 61 _ rfl #[(0, .string s), (4, .int .u32 2), (5, .int .u64 4096), (7, .agg KA), (8, .slice (some ⟨X11.heap.size, 0, none⟩) 1 1), (10, .slice (some ⟨X.heap.size, 0, none⟩) 1 1), (11, .slice (some ⟨X116.heap.size, 0, none⟩) 1 1)] (by simp [Act.eval]) _ hbd ?_
        refine wpQuiet_nil ?_
        intro i hi Q₁ hQ₁ hQp
        obtain rfl := mem1 hi
        simp only [List.getElem?_cons_succ, List.getElem?_cons_zero, Option.toList]
        refine wpl_store_row rfl 61 _ _ rfl hL.k8 (small_size _ _ _ _ _ _) (by rw [small_len]; kernel_rfl) (small_one _ _ _ _ _ _) rfl rfl ?_
        refine wpList_nil ?_
        refine hQ₁ _ _ ⟨⟨_, fun b hb => (setRow_other _ _ _ _ (by omega)).trans (hX11614 b hb)⟩, rfl⟩ ?_
        clear hQ₁ hQp Q₁
        refine tree_end [] (by kernel_rfl) (fun _ _ d _ _ h => by cases d <;> exact h) (by kernel_rfl) rfl ⟨⟨_, fun b hb => (setRow_other _ _ _ _ (by omega)).trans (hX11614 b hb)⟩, rfl⟩ ?_
        refine wpQuiet_nil ?_
        go_wp2_with fail
        exact bodyPost_ret (results_cell_row (fn := Try.f21) (p := 8) (ty := 61) (by kernel_rfl) _ _ _ _ _ _ _ rfl q3 Try.underlying61 rfl (by rw [small_len]; exact guest_size)) rfl ⟨_, _, _, rfl, q1, by omega, q2⟩
      · simp only [List.getElem?_cons_succ, List.getElem?_cons_zero, Option.toList]
        obtain ⟨X1114, eX1114, zX1114, kX1114, bX1114⟩ := one_new X11 (.cells #[.int .u32 1] 27)
        replace kX1114 := kX1114 _ _ rfl
        have hX1114 : ∀ b, b = w.heap.size → X1114.heap[b]? = W1.heap[b]? := fun b hb => (bX1114.block b (by have := zX1114; omega)).trans (hX11 b hb)
        have hzX1114 : w.heap.size + 1 < X1114.heap.size := by omega
        replace zX1114 := Lib.hid zX1114
        go_wp2_with fail
        rw [← eX1114]
        refine hQ₁ _ _ ⟨⟨X1114, hX1114⟩, rfl⟩ ?_
        clear hQ₁ hQp Q₁ eX1114
        refine tree_step [] [6] 2 (by kernel_rfl) (fun _ _ d _ _ h => by cases d <;> exact h) (by kernel_rfl) (by simp) rfl ⟨⟨X1114, hX1114⟩, rfl⟩ ?_
        refine wpQuiet_nil ?_
        intro i hi Q₁ hQ₁ hQp
        obtain rfl := mem1 hi
        simp only [List.getElem?_cons_succ, List.getElem?_cons_zero, Option.toList]
        obtain ⟨X11146, eX11146, zX11146, kX11146, bX11146⟩ := one_new X1114 (.cells #[.int .u64 0, .int .u64 pa, .int .u64 1048576, .int .i64 7] 65)
        replace kX11146 := kX11146 _ _ rfl
        have hX11146 : ∀ b, b = w.heap.size → X11146.heap[b]? = W1.heap[b]? := fun b hb => (bX11146.block b (by have := zX11146; omega)).trans (hX1114 b hb)
        have hzX11146 : w.heap.size + 1 < X11146.heap.size := by omega
        replace zX11146 := Lib.hid zX11146
        go_wp2_with fail
        rw [← eX11146]
        refine hQ₁ _ _ ⟨⟨X11146, hX11146⟩, rfl⟩ ?_
        clear hQ₁ hQp Q₁ eX11146
        have hV : Below w.heap.size w X11146 := bthen (bthen (bthen hbX bX11) bX1114) bX11146
        have hL : Leaf w X11146 (w.heap.size + 1) 1 pa X1114.heap.size X.heap.size X11.heap.size := ⟨hV, (bX11146.block _ (by have := hzX1114; omega)).trans ((bX1114.block _ (by have := hzX11; omega)).trans ((bX11.block _ (by omega)).trans k8X)), by omega, ⟨kX11146, (bX11146.block _ (Array.getElem?_eq_some_iff.1 ((bX1114.block _ (Array.getElem?_eq_some_iff.1 (kX11)).1).trans (kX11))).1).trans ((bX1114.block _ (Array.getElem?_eq_some_iff.1 (kX11)).1).trans (kX11)), (bX11146.block _ (Array.getElem?_eq_some_iff.1 (kX1114)).1).trans (kX1114)⟩⟩
        obtain ⟨q1, q2, q3⟩ := hL.stored (smallC s 1 (List.ofFn f) X1114.heap.size X.heap.size X11.heap.size).toArray
        have hbd : ∀ W : World, (Instr.build 61 #[(0, .string s), (4, .int .u32 2), (5, .int .u64 4096), (7, .agg KA), (8, .slice (some ⟨X1114.heap.size, 0, none⟩) 1 1), (10, .slice (some ⟨X.heap.size, 0, none⟩) 1 1), (11, .slice (some ⟨X11.heap.size, 0, none⟩) 1 1)]).run Try.prog W = .ok (.agg (smallC s 1 (List.ofFn f) X1114.heap.size X.heap.size X11.heap.size).toArray) W := fun W => by rw [hKA.out]; exact small_build s 1 f _ _ _ W
        refine tree_step [15] [16] 0 (by kernel_rfl) (fun _ _ d _ _ h => by cases d <;> exact h) (by kernel_rfl) (by simp) rfl ⟨⟨X11146, hX11146⟩, rfl⟩ ?_
        simp only [List.filterMap_cons, List.filterMap_nil, List.getElem?_cons_succ, List.getElem?_cons_zero]
        refine wpQuiet_build rfl 61 _ rfl #[(0, .string s), (4, .int .u32 2), (5, .int .u64 4096), (7, .agg KA), (8, .slice (some ⟨X1114.heap.size, 0, none⟩) 1 1), (10, .slice (some ⟨X.heap.size, 0, none⟩) 1 1), (11, .slice (some ⟨X11.heap.size, 0, none⟩) 1 1)] (by simp [Act.eval]) _ hbd ?_
        refine wpQuiet_nil ?_
        intro i hi Q₁ hQ₁ hQp
        obtain rfl := mem1 hi
        simp only [List.getElem?_cons_succ, List.getElem?_cons_zero, Option.toList]
        refine wpl_store_row rfl 61 _ _ rfl hL.k8 (small_size _ _ _ _ _ _) (by rw [small_len]; kernel_rfl) (small_one _ _ _ _ _ _) rfl rfl ?_
        refine wpList_nil ?_
        refine hQ₁ _ _ ⟨⟨_, fun b hb => (setRow_other _ _ _ _ (by omega)).trans (hX11146 b hb)⟩, rfl⟩ ?_
        clear hQ₁ hQp Q₁
        refine tree_end [] (by kernel_rfl) (fun _ _ d _ _ h => by cases d <;> exact h) (by kernel_rfl) rfl ⟨⟨_, fun b hb => (setRow_other _ _ _ _ (by omega)).trans (hX11146 b hb)⟩, rfl⟩ ?_
        refine wpQuiet_nil ?_
        go_wp2_with fail
        exact bodyPost_ret (results_cell_row (fn := Try.f21) (p := 8) (ty := 61) (by kernel_rfl) _ _ _ _ _ _ _ rfl q3 Try.underlying61 rfl (by rw [small_len]; exact guest_size)) rfl ⟨_, _, _, rfl, q1, by omega, q2⟩
    · simp only [List.getElem?_cons_succ, List.getElem?_cons_zero, Option.toList]
      obtain ⟨X14, eX14, zX14, kX14, bX14⟩ := one_new X (.cells #[.int .u32 1] 27)
      replace kX14 := kX14 _ _ rfl
      have hX14 : ∀ b, b = w.heap.size → X14.heap[b]? = W1.heap[b]? := fun b hb => (bX14.block b (by have := zX14; omega)).trans (hX b hb)
      have hzX14 : w.heap.size + 1 < X14.heap.size := by omega
      replace zX14 := Lib.hid zX14
      go_wp2_with fail
      rw [← eX14]
      refine hQ₁ _ _ ⟨⟨X14, hX14⟩, rfl⟩ ?_
      clear hQ₁ hQp Q₁ eX14
      refine tree_step [] [6, 11] 3 (by kernel_rfl) (fun _ _ d _ _ h => by cases d <;> exact h) (by kernel_rfl) (by simp) rfl ⟨⟨X14, hX14⟩, rfl⟩ ?_
      refine wpQuiet_nil ?_
      intro i hi Q₁ hQ₁ hQp
      obtain rfl | rfl := mem2 hi
      · simp only [List.getElem?_cons_succ, List.getElem?_cons_zero, Option.toList]
        obtain ⟨X146, eX146, zX146, kX146, bX146⟩ := one_new X14 (.cells #[.int .u64 0, .int .u64 pa, .int .u64 1048576, .int .i64 7] 65)
        replace kX146 := kX146 _ _ rfl
        have hX146 : ∀ b, b = w.heap.size → X146.heap[b]? = W1.heap[b]? := fun b hb => (bX146.block b (by have := zX146; omega)).trans (hX14 b hb)
        have hzX146 : w.heap.size + 1 < X146.heap.size := by omega
        replace zX146 := Lib.hid zX146
        go_wp2_with fail
        rw [← eX146]
        refine hQ₁ _ _ ⟨⟨X146, hX146⟩, rfl⟩ ?_
        clear hQ₁ hQp Q₁ eX146
        refine tree_step [] [11] 2 (by kernel_rfl) (fun _ _ d _ _ h => by cases d <;> exact h) (by kernel_rfl) (by simp) rfl ⟨⟨X146, hX146⟩, rfl⟩ ?_
        refine wpQuiet_nil ?_
        intro i hi Q₁ hQ₁ hQp
        obtain rfl := mem1 hi
        simp only [List.getElem?_cons_succ, List.getElem?_cons_zero, Option.toList]
        obtain ⟨X14611, eX14611, zX14611, kX14611, bX14611⟩ := one_new X146 (.cells #[.int .i64 33, .int .i64 1, .bool false] 63)
        replace kX14611 := kX14611 _ _ rfl
        have hX14611 : ∀ b, b = w.heap.size → X14611.heap[b]? = W1.heap[b]? := fun b hb => (bX14611.block b (by have := zX14611; omega)).trans (hX146 b hb)
        have hzX14611 : w.heap.size + 1 < X14611.heap.size := by omega
        replace zX14611 := Lib.hid zX14611
        go_wp2_with fail
        rw [← eX14611]
        refine hQ₁ _ _ ⟨⟨X14611, hX14611⟩, rfl⟩ ?_
        clear hQ₁ hQp Q₁ eX14611
        have hV : Below w.heap.size w X14611 := bthen (bthen (bthen hbX bX14) bX146) bX14611
        have hL : Leaf w X14611 (w.heap.size + 1) 1 pa X14.heap.size X146.heap.size X.heap.size := ⟨hV, (bX14611.block _ (by have := hzX146; omega)).trans ((bX146.block _ (by have := hzX14; omega)).trans ((bX14.block _ (by omega)).trans k8X)), by omega, ⟨(bX14611.block _ (Array.getElem?_eq_some_iff.1 (kX146)).1).trans (kX146), kX14611, (bX14611.block _ (Array.getElem?_eq_some_iff.1 ((bX146.block _ (Array.getElem?_eq_some_iff.1 (kX14)).1).trans (kX14))).1).trans ((bX146.block _ (Array.getElem?_eq_some_iff.1 (kX14)).1).trans (kX14))⟩⟩
        obtain ⟨q1, q2, q3⟩ := hL.stored (smallC s 1 (List.ofFn f) X14.heap.size X146.heap.size X.heap.size).toArray
        have hbd : ∀ W : World, (Instr.build 61 #[(0, .string s), (4, .int .u32 2), (5, .int .u64 4096), (7, .agg KA), (8, .slice (some ⟨X14.heap.size, 0, none⟩) 1 1), (10, .slice (some ⟨X146.heap.size, 0, none⟩) 1 1), (11, .slice (some ⟨X.heap.size, 0, none⟩) 1 1)]).run Try.prog W = .ok (.agg (smallC s 1 (List.ofFn f) X14.heap.size X146.heap.size X.heap.size).toArray) W := fun W => by rw [hKA.out]; exact small_build s 1 f _ _ _ W
        refine tree_step [15] [16] 0 (by kernel_rfl) (fun _ _ d _ _ h => by cases d <;> exact h) (by kernel_rfl) (by simp) rfl ⟨⟨X14611, hX14611⟩, rfl⟩ ?_
        simp only [List.filterMap_cons, List.filterMap_nil, List.getElem?_cons_succ, List.getElem?_cons_zero]
        refine wpQuiet_build rfl 61 _ rfl #[(0, .string s), (4, .int .u32 2), (5, .int .u64 4096), (7, .agg KA), (8, .slice (some ⟨X14.heap.size, 0, none⟩) 1 1), (10, .slice (some ⟨X146.heap.size, 0, none⟩) 1 1), (11, .slice (some ⟨X.heap.size, 0, none⟩) 1 1)] (by simp [Act.eval]) _ hbd ?_
        refine wpQuiet_nil ?_
        intro i hi Q₁ hQ₁ hQp
        obtain rfl := mem1 hi
        simp only [List.getElem?_cons_succ, List.getElem?_cons_zero, Option.toList]
        refine wpl_store_row rfl 61 _ _ rfl hL.k8 (small_size _ _ _ _ _ _) (by rw [small_len]; kernel_rfl) (small_one _ _ _ _ _ _) rfl rfl ?_
        refine wpList_nil ?_
        refine hQ₁ _ _ ⟨⟨_, fun b hb => (setRow_other _ _ _ _ (by omega)).trans (hX14611 b hb)⟩, rfl⟩ ?_
        clear hQ₁ hQp Q₁
        refine tree_end [] (by kernel_rfl) (fun _ _ d _ _ h => by cases d <;> exact h) (by kernel_rfl) rfl ⟨⟨_, fun b hb => (setRow_other _ _ _ _ (by omega)).trans (hX14611 b hb)⟩, rfl⟩ ?_
        refine wpQuiet_nil ?_
        go_wp2_with fail
        exact bodyPost_ret (results_cell_row (fn := Try.f21) (p := 8) (ty := 61) (by kernel_rfl) _ _ _ _ _ _ _ rfl q3 Try.underlying61 rfl (by rw [small_len]; exact guest_size)) rfl ⟨_, _, _, rfl, q1, by omega, q2⟩
      · simp only [List.getElem?_cons_succ, List.getElem?_cons_zero, Option.toList]
        obtain ⟨X1411, eX1411, zX1411, kX1411, bX1411⟩ := one_new X14 (.cells #[.int .i64 33, .int .i64 1, .bool false] 63)
        replace kX1411 := kX1411 _ _ rfl
        have hX1411 : ∀ b, b = w.heap.size → X1411.heap[b]? = W1.heap[b]? := fun b hb => (bX1411.block b (by have := zX1411; omega)).trans (hX14 b hb)
        have hzX1411 : w.heap.size + 1 < X1411.heap.size := by omega
        replace zX1411 := Lib.hid zX1411
        go_wp2_with fail
        rw [← eX1411]
        refine hQ₁ _ _ ⟨⟨X1411, hX1411⟩, rfl⟩ ?_
        clear hQ₁ hQp Q₁ eX1411
        refine tree_step [] [6] 2 (by kernel_rfl) (fun _ _ d _ _ h => by cases d <;> exact h) (by kernel_rfl) (by simp) rfl ⟨⟨X1411, hX1411⟩, rfl⟩ ?_
        refine wpQuiet_nil ?_
        intro i hi Q₁ hQ₁ hQp
        obtain rfl := mem1 hi
        simp only [List.getElem?_cons_succ, List.getElem?_cons_zero, Option.toList]
        obtain ⟨X14116, eX14116, zX14116, kX14116, bX14116⟩ := one_new X1411 (.cells #[.int .u64 0, .int .u64 pa, .int .u64 1048576, .int .i64 7] 65)
        replace kX14116 := kX14116 _ _ rfl
        have hX14116 : ∀ b, b = w.heap.size → X14116.heap[b]? = W1.heap[b]? := fun b hb => (bX14116.block b (by have := zX14116; omega)).trans (hX1411 b hb)
        have hzX14116 : w.heap.size + 1 < X14116.heap.size := by omega
        replace zX14116 := Lib.hid zX14116
        go_wp2_with fail
        rw [← eX14116]
        refine hQ₁ _ _ ⟨⟨X14116, hX14116⟩, rfl⟩ ?_
        clear hQ₁ hQp Q₁ eX14116
        have hV : Below w.heap.size w X14116 := bthen (bthen (bthen hbX bX14) bX1411) bX14116
        have hL : Leaf w X14116 (w.heap.size + 1) 1 pa X1411.heap.size X14.heap.size X.heap.size := ⟨hV, (bX14116.block _ (by have := hzX1411; omega)).trans ((bX1411.block _ (by have := hzX14; omega)).trans ((bX14.block _ (by omega)).trans k8X)), by omega, ⟨kX14116, (bX14116.block _ (Array.getElem?_eq_some_iff.1 (kX1411)).1).trans (kX1411), (bX14116.block _ (Array.getElem?_eq_some_iff.1 ((bX1411.block _ (Array.getElem?_eq_some_iff.1 (kX14)).1).trans (kX14))).1).trans ((bX1411.block _ (Array.getElem?_eq_some_iff.1 (kX14)).1).trans (kX14))⟩⟩
        obtain ⟨q1, q2, q3⟩ := hL.stored (smallC s 1 (List.ofFn f) X1411.heap.size X14.heap.size X.heap.size).toArray
        have hbd : ∀ W : World, (Instr.build 61 #[(0, .string s), (4, .int .u32 2), (5, .int .u64 4096), (7, .agg KA), (8, .slice (some ⟨X1411.heap.size, 0, none⟩) 1 1), (10, .slice (some ⟨X14.heap.size, 0, none⟩) 1 1), (11, .slice (some ⟨X.heap.size, 0, none⟩) 1 1)]).run Try.prog W = .ok (.agg (smallC s 1 (List.ofFn f) X1411.heap.size X14.heap.size X.heap.size).toArray) W := fun W => by rw [hKA.out]; exact small_build s 1 f _ _ _ W
        refine tree_step [15] [16] 0 (by kernel_rfl) (fun _ _ d _ _ h => by cases d <;> exact h) (by kernel_rfl) (by simp) rfl ⟨⟨X14116, hX14116⟩, rfl⟩ ?_
        simp only [List.filterMap_cons, List.filterMap_nil, List.getElem?_cons_succ, List.getElem?_cons_zero]
        refine wpQuiet_build rfl 61 _ rfl #[(0, .string s), (4, .int .u32 2), (5, .int .u64 4096), (7, .agg KA), (8, .slice (some ⟨X1411.heap.size, 0, none⟩) 1 1), (10, .slice (some ⟨X14.heap.size, 0, none⟩) 1 1), (11, .slice (some ⟨X.heap.size, 0, none⟩) 1 1)] (by simp [Act.eval]) _ hbd ?_
        refine wpQuiet_nil ?_
        intro i hi Q₁ hQ₁ hQp
        obtain rfl := mem1 hi
        simp only [List.getElem?_cons_succ, List.getElem?_cons_zero, Option.toList]
        refine wpl_store_row rfl 61 _ _ rfl hL.k8 (small_size _ _ _ _ _ _) (by rw [small_len]; kernel_rfl) (small_one _ _ _ _ _ _) rfl rfl ?_
        refine wpList_nil ?_
        refine hQ₁ _ _ ⟨⟨_, fun b hb => (setRow_other _ _ _ _ (by omega)).trans (hX14116 b hb)⟩, rfl⟩ ?_
        clear hQ₁ hQp Q₁
        refine tree_end [] (by kernel_rfl) (fun _ _ d _ _ h => by cases d <;> exact h) (by kernel_rfl) rfl ⟨⟨_, fun b hb => (setRow_other _ _ _ _ (by omega)).trans (hX14116 b hb)⟩, rfl⟩ ?_
        refine wpQuiet_nil ?_
        go_wp2_with fail
        exact bodyPost_ret (results_cell_row (fn := Try.f21) (p := 8) (ty := 61) (by kernel_rfl) _ _ _ _ _ _ _ rfl q3 Try.underlying61 rfl (by rw [small_len]; exact guest_size)) rfl ⟨_, _, _, rfl, q1, by omega, q2⟩
end Go.Proofs.Ytffdfeekpfmbeaa
/- Plain: what holds of a configuration that may be on a board. -/
namespace Go.Proofs.Ytffdfeekpfmbeaa
open Go Go.RowKit

theorem fb_append_none {a b : List Rl} (h : fb (a ++ b) = none) : fb a = none ∧ fb b = none := by
  rw [fb_append] at h
  cases ha : fb a with
  | none => rw [ha] at h; exact ⟨rfl, by simpa using h⟩
  | some x => rw [ha] at h; simp at h
theorem fb_flat_none {f : Nat → List Rl} {n : Nat} (h : fb ((List.range n).flatMap f) = none) (j : Nat) (hj : j < n) : fb (f j) = none := by
  rw [fb_none] at h ⊢
  exact fun x hx => h x (List.mem_flatMap.2 ⟨j, List.mem_range.2 hj, hx⟩)
theorem fb_one_none {t : Bool} {r w : Int} (h : fb [(t, r, w)] = none) : t = true := by
  rw [fb_one] at h
  by_cases c : t = true
  · exact c
  · rw [if_neg c] at h; cases h
/-- All rules of a configuration that may be. -/
structure Valid (b : BrdV) (gs : List GuestV) (chs : List ChV) : Prop where
  fit : fitV b = true
  put : putOk gs chs = true
  gst : ∀ (j : Nat) (hj : j < gs.length), fb (guestO b (orV (gs.take j)) (numsV (gs.take j)) (strsV (gs.take j)) (physL (gs.take j)) gs[j] j) = none
  chn : ∀ (k : Nat) (hk : k < chs.length), fb (chanP b gs.length (physL gs) ((chs.take k).map chS) chs[k] k) = none
  maps : ∀ j < gs.length, (mapsP gs chs (j : Nat)).2 = 0
theorem valid_of {b : BrdV} {gs : List GuestV} {chs : List ChV} (h : checkO b gs chs = none) : Valid b gs chs := by
  rw [checkO_eq] at h
  by_cases hf : fitV b = true
  · rw [if_pos hf] at h
    by_cases hp : putOk gs chs = true
    · rw [if_pos hp] at h
      unfold tailO at h
      obtain ⟨_, h⟩ := fb_append_none h
      obtain ⟨h1, h⟩ := fb_append_none h
      obtain ⟨h2, h3⟩ := fb_append_none h
      refine ⟨hf, hp, fun j hj => ?_, fun k hk => ?_, fun j hj => ?_⟩
      · have := fb_flat_none h1 j hj
        rwa [getElem!_pos gs j hj] at this
      · have := fb_flat_none h2 k hk
        rwa [getElem!_pos chs k hk] at this
      · have := fb_one_none (fb_flat_none h3 j hj)
        exact of_decide_eq_true this
    · rw [if_neg hp] at h; cases h
  · rw [if_neg hf] at h; cases h
section
variable {b : BrdV} {gs : List GuestV} {chs : List ChV}
structure GValid (b : BrdV) (acc : Int) (N S : List Int) (O : List Two) (t : GuestV) : Prop where
  cpus : bits .and .u32 t.cpus acc = 0
  win : ∀ w ∈ t.win, c4w b w = true
  dev : ∀ d ∈ t.dev, c5d b d = true
  irq : ∀ i < t.irq.length, ((N ++ (t.irq.map IrqV.num).take i).contains t.irq[i]!.num) = false
  str : ∀ i < t.str.length, ((S ++ t.str.take i).contains t.str[i]!) = false
  own : (firstV (O ++ physG t)).2.2 = false
theorem Valid.guest (h : Valid b gs chs) (j : Nat) (hj : j < gs.length) : GValid b (orV (gs.take j)) (numsV (gs.take j)) (strsV (gs.take j)) (physL (gs.take j)) gs[j] := by
  have hg := h.gst j hj
  unfold guestO at hg
  obtain ⟨h3, hg⟩ := fb_append_none hg
  obtain ⟨h4, hg⟩ := fb_append_none hg
  obtain ⟨h8, h10⟩ := fb_append_none hg
  have h3 := fb_one_none h3
  have h10 := fb_one_none h10
  simp only [Bool.and_eq_true, decide_eq_true_eq] at h3
  rw [fb_none] at h4 h8
  have r4 := h4 _ (List.mem_cons_self ..)
  have r5 := h4 _ (List.mem_cons_of_mem _ (List.mem_cons_self ..))
  have r8 := h8 _ (List.mem_cons_self ..)
  have r9 := h8 _ (List.mem_cons_of_mem _ (List.mem_cons_self ..))
  refine ⟨h3.2.2, List.all_eq_true.1 r4, List.all_eq_true.1 r5, fun i hi => ?_, fun i hi => ?_, by simpa using h10⟩
  · have := List.all_eq_true.1 r8 i (List.mem_range.2 hi)
    simp only [Bool.and_eq_true] at this
    simpa using this.2
  · have := List.all_eq_true.1 r9 i (List.mem_range.2 hi)
    simp only [Bool.and_eq_true] at this
    simpa using this.2
structure CValid (b : BrdV) (n : Nat) (O Sh : List Two) (c : ChV) : Prop where
  ins : insB b (chS c) = true
  own : ∀ o ∈ O, overlapB c.pa c.sz o.a o.b = false
  e0 : endOk n c c.e0 = true
  e1 : endOk n c c.e1 = true
theorem Valid.chan (h : Valid b gs chs) (k : Nat) (hk : k < chs.length) : CValid b gs.length (physL gs) ((chs.take k).map chS) chs[k] := by
  have hc := h.chn k hk
  unfold chanP at hc
  rw [fb_none] at hc
  have r1 := hc _ (List.mem_cons_self ..)
  have r2 := hc _ (List.mem_cons_of_mem _ (List.mem_cons_self ..))
  simp only [Bool.and_eq_true, Bool.not_eq_true'] at r1 r2
  exact ⟨r1.1, fun o ho => by simpa [takenB, chS] using List.any_eq_false.1 r1.2.1 o ho, r2.2.1, r2.2.2⟩
theorem Valid.cnt (h : Valid b gs chs) (j : Nat) (hj : j < gs.length) : gOk gs[j] = true := by
  have := h.put
  rw [putOk_eq] at this
  simp only [Bool.and_eq_true] at this
  exact List.all_eq_true.1 this.2.1 _ (List.getElem_mem hj)
/-- A board that fits. -/
theorem fit_ram (h : fitV b = true) : 0 < b.ram.b ∧ b.ram.a + (b.ram.b - 1) < 1099511627776 ∧ goodB b.ram.a b.ram.b = true ∧ withinB b.ldr.a b.ldr.b b.ram.a b.ram.b = true := by
  unfold fitV at h
  simp only [Bool.and_eq_true, decide_eq_true_eq] at h
  obtain ⟨⟨h1, h2, h3, h4⟩, _⟩ := h
  rw [pageBad_not] at h1
  simp only [Bool.and_eq_true, decide_eq_true_eq] at h1
  have hg := goodB_iff.1 h1.1
  rw [lastV_yes h1.1] at h3
  exact ⟨hg.1, h3, h1.1, h4⟩
theorem ins_page {s : Two} (hf : fitV b = true) (h : insB b s = true) : pageM s.a s.b = true ∧ overlapB s.a s.b b.ldr.a b.ldr.b = false ∧ withinB s.a s.b b.ram.a b.ram.b = true := by
  obtain ⟨f1, f2, f3, f4⟩ := fit_ram hf
  unfold insB at h
  rw [pageBad_not] at h
  simp only [Bool.and_eq_true, decide_eq_true_eq, Bool.not_eq_true'] at h
  obtain ⟨⟨h1, h2, h3⟩, h4, h5⟩ := h
  obtain ⟨w1, w2, w3, w4⟩ := withinB_iff.1 h4
  have hg := goodB_iff.1 h1
  exact ⟨pageM_iff.2 ⟨hg.1, by omega, h2, h3⟩, h5, h4⟩
theorem dev_off {b : BrdV} {a n : Int} (_hf : fitV b = true) (h : overlapB a n b.ram.a b.ram.b = false) {c m : Int} (hw : withinB c m b.ram.a b.ram.b = true) : overlapB a n c m = false := by
  rw [Bool.eq_false_iff] at h ⊢
  intro ho
  refine h ?_
  obtain ⟨h1, h2, h3, h4⟩ := overlapB_iff.1 ho
  obtain ⟨w1, w2, w3, w4⟩ := withinB_iff.1 hw
  exact overlapB_iff.2 ⟨h1, w2, by omega, by omega⟩
/-- Nobody owns what is the loader's. -/
theorem Valid.loader (h : Valid b gs chs) (j : Nat) (hj : j < gs.length) : ∀ s ∈ physG gs[j], overlapB s.a s.b b.ldr.a b.ldr.b = false := by
  intro s hs
  have hg := h.guest j hj
  obtain ⟨f1, f2, f3, f4⟩ := fit_ram h.fit
  rcases List.mem_append.1 hs with hs | hs
  · obtain ⟨w, hw, rfl⟩ := List.mem_map.1 hs
    have := hg.win w hw
    unfold c4w at this
    simp only [Bool.and_eq_true] at this
    exact (ins_page h.fit this.2.2).2.1
  · obtain ⟨d, hd, rfl⟩ := List.mem_map.1 hs
    have := hg.dev d hd
    unfold c5d at this
    simp only [Bool.and_eq_true, Bool.not_eq_true'] at this
    exact dev_off h.fit this.2.2 f4
theorem mem_physL {l : List GuestV} {s : Two} : s ∈ physL l ↔ ∃ t ∈ l, s ∈ physG t := by unfold physL; exact List.mem_flatMap
/-- Two guests own nothing in common. -/
theorem Valid.apart (h : Valid b gs chs) (j i : Nat) (hj : j < gs.length) (hi : i < j) : ∀ s ∈ physG gs[j], ∀ o ∈ physG gs[i], overlapB s.a s.b o.a o.b = false := by
  intro s hs o ho
  have hg := (h.guest j hj).own
  rw [firstV_clear] at hg
  have ho' : o ∈ physL (gs.take j) := mem_physL.2 ⟨gs[i], List.mem_take_iff_getElem.2 ⟨i, by omega, rfl⟩, ho⟩
  obtain ⟨p, hp, rfl⟩ := List.mem_iff_getElem.1 ho'
  obtain ⟨q, hq, rfl⟩ := List.mem_iff_getElem.1 hs
  have := hg p ((physL (gs.take j)).length + q) (by omega) (by rw [List.length_append]; omega)
  rw [getElem!_pos _ p (by rw [List.length_append]; omega), getElem!_pos _ ((physL (gs.take j)).length + q) (by rw [List.length_append]; omega), List.getElem_append_left hp, List.getElem_append_right (by omega)] at this
  simpa using this
/-- Nobody owns what is a channel's. -/
theorem Valid.chans (h : Valid b gs chs) (j k : Nat) (hj : j < gs.length) (hk : k < chs.length) : ∀ s ∈ physG gs[j], overlapB s.a s.b chs[k].pa chs[k].sz = false := by
  intro s hs
  rw [overlapB_comm]
  exact (h.chan k hk).own s (mem_physL.2 ⟨gs[j], List.getElem_mem hj, hs⟩)
theorem Valid.part (h : Valid b gs chs) (j : Nat) (hj : j < gs.length) : ∀ x ∈ partsV gs[j] chs j, elemB x = true := by
  intro x hx
  have hg := h.guest j hj
  unfold partsV at hx
  rcases List.mem_append.1 hx with hx | hx
  · obtain ⟨w, hw, rfl⟩ := List.mem_map.1 hx
    have h4 := hg.win w hw
    unfold c4w at h4
    simp only [Bool.and_eq_true, Bool.not_eq_true', decide_eq_false_iff_not] at h4
    have hk := h.cnt j hj
    rw [gOk_eq] at hk
    simp only [Bool.and_eq_true] at hk
    have hp := List.all_eq_true.1 hk.2.2.2.1 w hw
    unfold permB at hp
    have hp := of_decide_eq_true hp
    unfold elemB winM
    simp only [Bool.and_eq_true, decide_eq_true_eq]
    exact ⟨h4.1, (ins_page h.fit h4.2.2).1, by omega⟩
  · rcases List.mem_append.1 hx with hx | hx
    · obtain ⟨d, hd, rfl⟩ := List.mem_map.1 hx
      have h5 := hg.dev d hd
      unfold c5d at h5
      simp only [Bool.and_eq_true] at h5
      unfold elemB devM
      simp only [Bool.and_eq_true, decide_eq_true_eq]
      exact ⟨h5.1, h5.2.1, by omega⟩
    · obtain ⟨c, hc, hx⟩ := List.mem_flatMap.1 hx
      obtain ⟨k, hk, rfl⟩ := List.mem_iff_getElem.1 hc
      have hcv := h.chan k hk
      have key : ∀ e, endOk gs.length chs[k] e = true → elemB (endPart chs[k] e) = true := fun e he => by
        unfold endOk at he
        simp only [Bool.and_eq_true, decide_eq_true_eq] at he
        unfold elemB endPart
        simp only [Bool.and_eq_true, decide_eq_true_eq]
        exact ⟨he.2.2, (ins_page h.fit hcv.ins).1, by omega⟩
      unfold chM endL at hx
      rcases List.mem_append.1 hx with hx | hx
      · split at hx
        · rw [List.mem_singleton.1 hx]; exact key _ hcv.e0
        · cases hx
      · split at hx
        · rw [List.mem_singleton.1 hx]; exact key _ hcv.e1
        · cases hx
end
end Go.Proofs.Ytffdfeekpfmbeaa
