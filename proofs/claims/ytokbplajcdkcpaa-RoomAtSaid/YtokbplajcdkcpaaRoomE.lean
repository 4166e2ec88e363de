/- The reference's Maps. -/
import Derived.Test.YtokbplajcdkcpaaRoomQ
namespace Go.Proofs.Ytokbplajcdkcpaa
open Go Go.RowKit Go.Shelf Go.BigFrame

theorem putOwn {l : List M5} {x : M5} {v : Value} {W w : World} {B : Nat} (hB : Below B W w) (h : OwnM 39 w B v l) (hnil : l = [] → v = .slice none 0 0) (hz : B ≤ w.heap.size) (hl : l.length ≤ 1000000) :
    Calls Try.prog 39 #[v, .agg #[.int .u64 x.ipa, .int .u64 x.pa, .int .u64 x.sz, .int .i64 x.perm, .int .i64 x.kind]] w fun e w' => ∃ v', e = .returned v' ∧ OwnM 39 w' B v' (putM16 l x) ∧ (putM16 l x = [] → v' = .slice none 0 0) ∧ Below B W w' ∧ Below w.heap.size w w' := by
  refine (refPut16_any l x v w h.row hnil hl).mono ?_
  rintro e w' ⟨⟨v', rfl, ho⟩, hb⟩
  exact ⟨v', rfl, ho.mono hz, fun he => by have := putM16_len l x; rw [he] at this; simp at this, hB.trans (hb.mono hz), hb⟩
set_option maxRecDepth 100000 in
set_option maxHeartbeats 4000000 in
theorem refMaps16_go (ver : Int) (vg vc : Value) (gs : List GuestV) (chs : List ChV) (gi : Nat) (w : World) (hG : RowG w vg gs) (hC : RowC w vc chs) (hgi : gi < gs.length) (hlen : (partsV gs[gi] chs gi).length ≤ 1000000) :
    Calls Try.prog 14 #[.agg #[.int .u32 ver, vg, vc], .int .i64 gi] w fun e w' => (∃ v, e = .returned (.tuple #[v, .int .i64 (checkM (putAll (partsV gs[gi] chs gi))).2]) ∧ OwnM 39 w' w.heap.size v (checkM (putAll (partsV gs[gi] chs gi))).1) ∧ Below w.heap.size w w' := by
  obtain ⟨ag, kg, rfl, hgl, hgm, hgc⟩ := hG
  obtain ⟨bg, og, rfl, hbg, hgc⟩ := hgc (by rintro rfl; simp at hgi)
  obtain ⟨cs, hR, hcl, hce⟩ := hgc gi hgi
  clear hgc
  generalize gs[gi] = g at *
  obtain ⟨v8, e8, r8⟩ := hR.win
  obtain ⟨v9, e9, r9⟩ := hR.dev
  have q8 := hce _ _ e8
  have q9 := hce _ _ e9
  obtain ⟨a8, k8, rfl, hl8, hm8, h8⟩ := r8
  obtain ⟨a9, k9, rfl, hl9, hm9, h9⟩ := r9
  obtain ⟨ac, kc, rfl, hlc, hmc, hc⟩ := hC
  have hx8 : g.win.length ≤ 9223372036854775807 := by unfold maxLen at hm8; omega
  have hx9 : g.dev.length ≤ 9223372036854775807 := by unfold maxLen at hm9; omega
  have hxc : chs.length ≤ 9223372036854775807 := by unfold maxLen at hmc; omega
  have hP : partsV g chs gi = g.win.map winM ++ (g.dev.map devM ++ chs.flatMap (chM gi)) := rfl
  clear hR e8 e9 hce hcl
  generalize partsV g chs gi = P at *
  replace hP := Lib.hid hP
  have hng : ¬ (gi : Int) < 0 := by omega
  have hlt0 : ¬ (gs.length : Int) ≤ gi := by omega
  obtain ⟨b0, b1, b2⟩ : (w.alloc (.cells #[.int .u32 ver, .slice (some ⟨bg, og, none⟩) gs.length kg, .slice ac chs.length kc] 26)).cell? ⟨w.heap.size, 0, none⟩ = some (.int .u32 ver) ∧ (w.alloc (.cells #[.int .u32 ver, .slice (some ⟨bg, og, none⟩) gs.length kg, .slice ac chs.length kc] 26)).cell? ⟨w.heap.size, 1, none⟩ = some (.slice (some ⟨bg, og, none⟩) gs.length kg) ∧ (w.alloc (.cells #[.int .u32 ver, .slice (some ⟨bg, og, none⟩) gs.length kg, .slice ac chs.length kc] 26)).cell? ⟨w.heap.size, 2, none⟩ = some (.slice ac chs.length kc) := by
    refine ⟨?_, ?_, ?_⟩ <;> simp [World.cell?_alloc_new]
  have q8W := cell_lt (bone w (.cells #[.int .u32 ver, .slice (some ⟨bg, og, none⟩) gs.length kg, .slice ac chs.length kc] 26)) q8 hbg
  go_enter Try.func14, Try.ntmps14
  go_wp2_with fail
  have hzX : w.heap.size < (w.alloc (.cells #[.int .u32 ver, .slice (some ⟨bg, og, none⟩) gs.length kg, .slice ac chs.length kc] 26)).heap.size := by simp
  have hbX := bone w (.cells #[.int .u32 ver, .slice (some ⟨bg, og, none⟩) gs.length kg, .slice ac chs.length kc] 26)
  generalize w.alloc (.cells #[.int .u32 ver, .slice (some ⟨bg, og, none⟩) gs.length kg, .slice ac chs.length kc] 26) = X at *
  have hrow : ∀ b o u, b < w.heap.size → w.cell? ⟨b, o, none⟩ = some u → ∀ V, Below X.heap.size X V → V.cell? ⟨b, o, none⟩ = some u := fun b o u hb hc V hV => cell_lt hV (cell_lt hbX hc hb) (by omega)
  have hXz := hbX.size
  go_loopw [6, 35] (fun v6 i wr => ∃ k : Nat, k ≤ g.win.length ∧ i = .int .i64 k ∧ OwnM 39 wr X.heap.size v6 (putAll ((g.win.take k).map winM)) ∧ (putAll ((g.win.take k).map winM) = [] → v6 = .slice none 0 0) ∧ Below X.heap.size X wr) (fun _ i _ => g.win.length - (intOf i).toNat)
  case atStart => exact ⟨0, Nat.zero_le _, rfl, OwnM.nil _ _ _, fun _ => rfl, Below.refl _ _⟩
  case round =>
    clear q8W
    obtain ⟨k, hk, rfl, hown, hnil, hB⟩ := hrel
    obtain ⟨a6s, cs6, he⟩ := ownsRow_slice hown
    generalize (putAll ((g.win.take k).map winM)).length = n6 at he
    have hzB := hB.size
    by_cases hlt : k < g.win.length
    · obtain ⟨b, off, rfl, hb, hcell⟩ := h8 (by intro e; simp [e] at hlt)
      obtain ⟨cs, ⟨rfl, _⟩, hcl, hce⟩ := hcell k hlt
      have p0 : wr.cell? ⟨b, off + k * 4, none⟩ = some (.int .u64 g.win[k].ipa) := hrow _ _ _ hb (hce 0 _ rfl) _ hB
      have p1 : wr.cell? ⟨b, off + k * 4 + 1, none⟩ = some (.int .u64 g.win[k].pa) := hrow _ _ _ hb (hce 1 _ rfl) _ hB
      have p2 : wr.cell? ⟨b, off + k * 4 + 2, none⟩ = some (.int .u64 g.win[k].sz) := hrow _ _ _ hb (hce 2 _ rfl) _ hB
      have p3 : wr.cell? ⟨b, off + k * 4 + 3, none⟩ = some (.int .i64 g.win[k].perm) := hrow _ _ _ hb (hce 3 _ rfl) _ hB
      have hsn : putAll ((g.win.take (k + 1)).map winM) = putM16 (putAll ((g.win.take k).map winM)) (winM g.win[k]) := by rw [List.take_succ_eq_append_getElem hlt, List.map_append, List.map_singleton, putAll_snoc]
      have hlen6 : (putAll ((g.win.take k).map winM)).length ≤ 1000000 := by
        have h1 := pre_lt_map hlt (a := []) hP.out
        rw [putAll_len]; simp only [List.nil_append] at h1; omega
      clear hce hcell hcl
      generalize putAll ((g.win.take k).map winM) = L at *
      generalize g.win[k] = x at *
      have hput := putOwn (x := winM x) (hB.alloc hzB (.cells #[.int .u64 x.ipa, .int .u64 x.pa, .int .u64 x.sz, .int .i64 x.perm] 76)) (hown.below (bone _ _) (Nat.le_refl _)) hnil (by simp; omega) hlen6
      rw [← hsn] at hput
      clear hsn
      generalize hLn : putAll ((g.win.take (k + 1)).map winM) = Ln at hput
      replace hLn := Lib.hid hLn
      simp only [winM] at hput
      subst he
      clear hown hnil
      go_wp2_with fail
      refine hput.mono ?_; rintro e w2 ⟨v', rfl, ho', hn', hB', _⟩
      obtain ⟨a', c', rfl⟩ := ownsRow_slice ho'
      go_wp2_with fail
      go_roundw
      case rel => exact ⟨k + 1, by omega, by go_num, by rw [hLn.out]; exact ho', by rw [hLn.out]; exact hn', hB'⟩
      case measure => simp [intOf]; omega
    · obtain rfl : k = g.win.length := by omega
      rw [List.take_length] at hown hnil
      subst he
      have b1' := cell_lt hB b1 hzX
      have q9W := hrow _ _ _ hbg q9 _ hB
      clear h8
      have hown0 : OwnM 39 wr X.heap.size (.slice a6s n6 cs6) (putAll (g.win.map winM ++ (g.dev.take 0).map devM)) := by simpa using hown
      have hnil0 : putAll (g.win.map winM ++ (g.dev.take 0).map devM) = [] → (.slice a6s n6 cs6 : Value) = .slice none 0 0 := by simpa using hnil
      clear hown hnil
      go_wp2_with fail
      go_loopw [6, 58] (fun v6 i wr => ∃ k : Nat, k ≤ g.dev.length ∧ i = .int .i64 k ∧ OwnM 39 wr X.heap.size v6 (putAll (g.win.map winM ++ (g.dev.take k).map devM)) ∧ (putAll (g.win.map winM ++ (g.dev.take k).map devM) = [] → v6 = .slice none 0 0) ∧ Below X.heap.size X wr) (fun _ i _ => g.dev.length - (intOf i).toNat)
      case atStart => exact ⟨0, Nat.zero_le _, rfl, hown0, hnil0, hB⟩
      case round =>
        clear hown0 hnil0 hB b1' q9W hzB
        obtain ⟨k, hk, rfl, hown, hnil, hB⟩ := hrel
        obtain ⟨a6s, cs6, he⟩ := ownsRow_slice hown
        generalize (putAll (g.win.map winM ++ (g.dev.take k).map devM)).length = n6 at he
        have hzB := hB.size
        by_cases hlt : k < g.dev.length
        · obtain ⟨b, off, rfl, hb, hcell⟩ := h9 (by intro e; simp [e] at hlt)
          obtain ⟨cs, rfl, hcl, hce⟩ := hcell k hlt
          have p0 : wr.cell? ⟨b, off + k * 3, none⟩ = some (.int .u64 g.dev[k].ipa) := hrow _ _ _ hb (hce 0 _ rfl) _ hB
          have p1 : wr.cell? ⟨b, off + k * 3 + 1, none⟩ = some (.int .u64 g.dev[k].pa) := hrow _ _ _ hb (hce 1 _ rfl) _ hB
          have p2 : wr.cell? ⟨b, off + k * 3 + 2, none⟩ = some (.int .u64 g.dev[k].sz) := hrow _ _ _ hb (hce 2 _ rfl) _ hB
          have hsn : putAll (g.win.map winM ++ (g.dev.take (k + 1)).map devM) = putM16 (putAll (g.win.map winM ++ (g.dev.take k).map devM)) (devM g.dev[k]) := by rw [List.take_succ_eq_append_getElem hlt, List.map_append, List.map_singleton, ← List.append_assoc, putAll_snoc]
          have hlen6 : (putAll (g.win.map winM ++ (g.dev.take k).map devM)).length ≤ 1000000 := by
            have h1 := pre_lt_map hlt hP.out
            rw [putAll_len]; omega
          clear hce hcell hcl
          generalize putAll (g.win.map winM ++ (g.dev.take k).map devM) = L at *
          generalize g.dev[k] = x at *
          have hput := putOwn (x := devM x) (hB.alloc hzB (.cells #[.int .u64 x.ipa, .int .u64 x.pa, .int .u64 x.sz] 92)) (hown.below (bone _ _) (Nat.le_refl _)) hnil (by simp; omega) hlen6
          rw [← hsn] at hput
          clear hsn
          generalize hLn : putAll (g.win.map winM ++ (g.dev.take (k + 1)).map devM) = Ln at hput
          replace hLn := Lib.hid hLn
          simp only [devM] at hput
          subst he
          clear hown hnil
          go_wp2_with fail
          refine hput.mono ?_; rintro e w2 ⟨v', rfl, ho', hn', hB', _⟩
          obtain ⟨a', c', rfl⟩ := ownsRow_slice ho'
          go_wp2_with fail
          go_roundw
          case rel => exact ⟨k + 1, by omega, by go_num, by rw [hLn.out]; exact ho', by rw [hLn.out]; exact hn', hB'⟩
          case measure => simp [intOf]; omega
        · obtain rfl : k = g.dev.length := by omega
          rw [List.take_length] at hown hnil
          subst he
          have b2' := cell_lt hB b2 hzX
          clear h9
          have hown0 : OwnM 39 wr X.heap.size (.slice a6s n6 cs6) (putAll (g.win.map winM ++ (g.dev.map devM ++ (chs.take 0).flatMap (chM gi)))) := by simpa using hown
          have hnil0 : putAll (g.win.map winM ++ (g.dev.map devM ++ (chs.take 0).flatMap (chM gi))) = [] → (.slice a6s n6 cs6 : Value) = .slice none 0 0 := by simpa using hnil
          clear hown hnil
          go_wp2_with fail
          go_loopw [6, 75] (fun v6 i wr => ∃ k : Nat, k ≤ chs.length ∧ i = .int .i64 k ∧ OwnM 39 wr X.heap.size v6 (putAll (g.win.map winM ++ (g.dev.map devM ++ (chs.take k).flatMap (chM gi)))) ∧ (putAll (g.win.map winM ++ (g.dev.map devM ++ (chs.take k).flatMap (chM gi))) = [] → v6 = .slice none 0 0) ∧ Below X.heap.size X wr) (fun _ i _ => chs.length - (intOf i).toNat)
          case atStart => exact ⟨0, Nat.zero_le _, rfl, hown0, hnil0, hB⟩
          case round =>
            clear hown0 hnil0 hB b2' hzB
            obtain ⟨k, hk, rfl, hown, hnil, hB⟩ := hrel
            obtain ⟨a6s, cs6, he⟩ := ownsRow_slice hown
            generalize (putAll (g.win.map winM ++ (g.dev.map devM ++ (chs.take k).flatMap (chM gi)))).length = n6 at he
            have hzB := hB.size
            by_cases hlt : k < chs.length
            · obtain ⟨b, off, rfl, hb, hcell⟩ := hc (by intro e; simp [e] at hlt)
              obtain ⟨cs, ⟨rfl, _⟩, hcl, hce⟩ := hcell k hlt
              have p0 : wr.cell? ⟨b, off + k * 8, none⟩ = some (.int .u64 chs[k].pa) := hrow _ _ _ hb (hce 0 _ rfl) _ hB
              have p1 : wr.cell? ⟨b, off + k * 8 + 1, none⟩ = some (.int .u64 chs[k].sz) := hrow _ _ _ hb (hce 1 _ rfl) _ hB
              have p2 : wr.cell? ⟨b, off + k * 8 + 2, none⟩ = some (.int .i64 chs[k].e0.g) := hrow _ _ _ hb (hce 2 _ rfl) _ hB
              have p3 : wr.cell? ⟨b, off + k * 8 + 3, none⟩ = some (.int .i64 chs[k].e0.perm) := hrow _ _ _ hb (hce 3 _ rfl) _ hB
              have p4 : wr.cell? ⟨b, off + k * 8 + 4, none⟩ = some (.int .u64 chs[k].e0.ipa) := hrow _ _ _ hb (hce 4 _ rfl) _ hB
              have p5 : wr.cell? ⟨b, off + k * 8 + 5, none⟩ = some (.int .i64 chs[k].e1.g) := hrow _ _ _ hb (hce 5 _ rfl) _ hB
              have p6 : wr.cell? ⟨b, off + k * 8 + 6, none⟩ = some (.int .i64 chs[k].e1.perm) := hrow _ _ _ hb (hce 6 _ rfl) _ hB
              have p7 : wr.cell? ⟨b, off + k * 8 + 7, none⟩ = some (.int .u64 chs[k].e1.ipa) := hrow _ _ _ hb (hce 7 _ rfl) _ hB
              have hsn : g.win.map winM ++ (g.dev.map devM ++ (chs.take (k + 1)).flatMap (chM gi)) = g.win.map winM ++ (g.dev.map devM ++ (chs.take k).flatMap (chM gi)) ++ chM gi chs[k] := by rw [List.take_succ_eq_append_getElem hlt, List.flatMap_append]; simp
              have hlenA : (g.win.map winM ++ (g.dev.map devM ++ (chs.take k).flatMap (chM gi))).length + (chM gi chs[k]).length ≤ P.length := by
                have e : chs = chs.take k ++ chs[k] :: chs.drop (k + 1) := by rw [← List.drop_eq_getElem_cons hlt, List.take_append_drop]
                have e2 : (chs.flatMap (chM gi)).length = ((chs.take k).flatMap (chM gi)).length + (chM gi chs[k]).length + ((chs.drop (k + 1)).flatMap (chM gi)).length := by
                  conv => lhs; rw [e]
                  rw [List.flatMap_append, List.flatMap_cons, List.length_append, List.length_append]; omega
                rw [hP.out]
                simp only [List.length_append] at e2 ⊢
                omega
              clear hce hcell hcl
              generalize g.win.map winM ++ (g.dev.map devM ++ (chs.take k).flatMap (chM gi)) = A at *
              generalize chs[k] = c at *
              obtain ⟨wo, rfl⟩ : ∃ wo, wo = wr := ⟨_, rfl⟩
              obtain ⟨V, hV, hVz, hVb, x0, x1, hVc⟩ := eight_newX wo (.int .u64 c.pa) (.int .u64 c.sz) (.int .i64 c.e0.g) (.int .i64 c.e0.perm) (.int .u64 c.e0.ipa) (.int .i64 c.e1.g) (.int .i64 c.e1.perm) (.int .u64 c.e1.ipa) 47
              have x2 := hVc 2 _ rfl
              have x3 := hVc 3 _ rfl
              have x4 := hVc 4 _ rfl
              have x5 := hVc 5 _ rfl
              have x6 := hVc 6 _ rfl
              have x7 := hVc 7 _ rfl
              have hBV : Below X.heap.size X V := bthen hB hVb
              have hownV : OwnM 39 V X.heap.size (.slice a6s n6 cs6) (putAll (A ++ endsTo gi c 0)) := by
                have := he ▸ hown.below hVb (Nat.le_refl _)
                simpa [endsTo] using this
              have hnilV : putAll (A ++ endsTo gi c 0) = [] → (.slice a6s n6 cs6 : Value) = .slice none 0 0 := by
                have := he ▸ hnil
                simpa [endsTo] using this
              subst he
              clear hown hnil
              go_wp2_with fail
              try rw [← hV]
              clear hVc
              go_loopw [6, 81] (fun v6 i wr => ∃ j : Nat, j ≤ 2 ∧ i = .int .i64 j ∧ OwnM 39 wr X.heap.size v6 (putAll (A ++ endsTo gi c j)) ∧ (putAll (A ++ endsTo gi c j) = [] → v6 = .slice none 0 0) ∧ Below X.heap.size X wr ∧ Below V.heap.size V wr) (fun _ i _ => 2 - (intOf i).toNat)
              case atStart => exact ⟨0, by omega, rfl, hownV, hnilV, hBV, Below.refl _ _⟩
              case round =>
                clear hownV hnilV hBV x2 x3 x4 x5 x6 x7 p0 p1 p2 p3 p4 p5 p6 p7
                obtain ⟨j, hj, rfl, hown, hnil, hBj, hbV⟩ := hrel
                obtain ⟨a6s, cs6, he⟩ := ownsRow_slice hown
                generalize (putAll (A ++ endsTo gi c j)).length = n6 at he
                have hzj := hbV.size
                have y0 := cell_lt hbV x0 (by omega)
                have y1 := cell_lt hbV x1 (by omega)
                clear x0 x1
                by_cases hj2 : j < 2
                · rcases (show j = 0 ∨ j = 1 by omega) with rfl | rfl
                  · have i0 : ∀ w : World, (Instr.index 45 (.agg #[.int .i64 c.e0.g, .int .i64 c.e0.perm, .int .u64 c.e0.ipa, .int .i64 c.e1.g, .int .i64 c.e1.perm, .int .u64 c.e1.ipa]) (.int .i64 0)).run Try.prog w = .ok (.agg #[.int .i64 c.e0.g, .int .i64 c.e0.perm, .int .u64 c.e0.ipa]) w := fun _ => by kernel_rfl
                    have hst : endsTo gi c (0 + 1) = endsTo gi c 0 ++ endL gi c c.e0 := by simp [endsTo]
                    have hlE : (endsTo gi c 0).length + (endL gi c c.e0).length ≤ (chM gi c).length := by simp [endsTo, chM]
                    by_cases hg : c.e0.g = gi
                    · have hsn : putAll (A ++ endsTo gi c (0 + 1)) = putM16 (putAll (A ++ endsTo gi c 0)) (endPart c c.e0) := by
                        rw [hst, ← List.append_assoc]; unfold endL; rw [if_pos hg, putAll_snoc]
                      have hq : (c.e0.g == (gi : Int)) = true := by simpa using hg
                      have y0q := keepA (x := .cells #[.int .i64 c.e0.g, .int .i64 c.e0.perm, .int .u64 c.e0.ipa] 44) y0
                      have y1q := keepA (x := .cells #[.int .i64 c.e0.g, .int .i64 c.e0.perm, .int .u64 c.e0.ipa] 44) y1
                      have hlen6 : (putAll (A ++ endsTo gi c 0)).length ≤ 1000000 := by
                        rw [putAll_len, List.length_append]; omega
                      generalize hLo : putAll (A ++ endsTo gi c 0) = Lo at *
                      have hput := putOwn (x := endPart c c.e0) (hBj.alloc (by omega) (.cells #[.int .i64 c.e0.g, .int .i64 c.e0.perm, .int .u64 c.e0.ipa] 44)) (hown.below (bone _ _) (Nat.le_refl _)) hnil (by simp; omega) hlen6
                      rw [← hsn] at hput
                      clear hsn hst hlE hg hlen6
                      generalize hLn : putAll (A ++ endsTo gi c (0 + 1)) = Ln at hput
                      replace hLn := Lib.hid hLn
                      simp only [endPart] at hput
                      subst he
                      clear hown hnil hLo
                      go_wp2_with fail
                      refine hput.mono ?_; rintro e w2 ⟨v', rfl, ho', hn', hB', hb2⟩
                      obtain ⟨a', c', rfl⟩ := ownsRow_slice ho'
                      have hbV' := (hbV.alloc (by omega) (.cells #[.int .i64 c.e0.g, .int .i64 c.e0.perm, .int .u64 c.e0.ipa] 44)).trans (hb2.mono (by simp; omega))
                      go_wp2_with fail
                      go_roundw
                      case rel => exact ⟨0 + 1, by omega, by go_num, by rw [hLn.out]; exact ho', by rw [hLn.out]; exact hn', hB', hbV'⟩
                      case measure => simp [intOf]
                    · have hsn : putAll (A ++ endsTo gi c (0 + 1)) = putAll (A ++ endsTo gi c 0) := by rw [hst]; unfold endL; rw [if_neg hg, List.append_nil]
                      have hq : (c.e0.g == (gi : Int)) = false := by simpa using hg
                      rw [← hsn] at hown hnil
                      clear hst hlE hsn hg
                      generalize hLn : putAll (A ++ endsTo gi c (0 + 1)) = Ln at hown hnil
                      replace hLn := Lib.hid hLn
                      replace hown := hown.below (bone wr (.cells #[.int .i64 c.e0.g, .int .i64 c.e0.perm, .int .u64 c.e0.ipa] 44)) (Nat.le_refl _)
                      replace hBj := hBj.alloc (by omega) (.cells #[.int .i64 c.e0.g, .int .i64 c.e0.perm, .int .u64 c.e0.ipa] 44)
                      replace hbV := hbV.alloc (by omega) (.cells #[.int .i64 c.e0.g, .int .i64 c.e0.perm, .int .u64 c.e0.ipa] 44)
                      go_wp2_with fail
                      go_roundw
                      case rel => exact ⟨0 + 1, by omega, by go_num, by rw [hLn.out]; exact hown, by rw [hLn.out]; exact hnil, hBj, hbV⟩
                      case measure => simp [intOf]
                  · have i0 : ∀ w : World, (Instr.index 45 (.agg #[.int .i64 c.e0.g, .int .i64 c.e0.perm, .int .u64 c.e0.ipa, .int .i64 c.e1.g, .int .i64 c.e1.perm, .int .u64 c.e1.ipa]) (.int .i64 1)).run Try.prog w = .ok (.agg #[.int .i64 c.e1.g, .int .i64 c.e1.perm, .int .u64 c.e1.ipa]) w := fun _ => by kernel_rfl
                    have hst : endsTo gi c (1 + 1) = endsTo gi c 1 ++ endL gi c c.e1 := by simp [endsTo, chM]
                    have hlE : (endsTo gi c 1).length + (endL gi c c.e1).length ≤ (chM gi c).length := by simp [endsTo, chM]
                    by_cases hg : c.e1.g = gi
                    · have hsn : putAll (A ++ endsTo gi c (1 + 1)) = putM16 (putAll (A ++ endsTo gi c 1)) (endPart c c.e1) := by
                        rw [hst, ← List.append_assoc]; unfold endL; rw [if_pos hg, putAll_snoc]
                      have hq : (c.e1.g == (gi : Int)) = true := by simpa using hg
                      have y0q := keepA (x := .cells #[.int .i64 c.e1.g, .int .i64 c.e1.perm, .int .u64 c.e1.ipa] 44) y0
                      have y1q := keepA (x := .cells #[.int .i64 c.e1.g, .int .i64 c.e1.perm, .int .u64 c.e1.ipa] 44) y1
                      have hlen6 : (putAll (A ++ endsTo gi c 1)).length ≤ 1000000 := by
                        rw [putAll_len, List.length_append]; omega
                      generalize hLo : putAll (A ++ endsTo gi c 1) = Lo at *
                      have hput := putOwn (x := endPart c c.e1) (hBj.alloc (by omega) (.cells #[.int .i64 c.e1.g, .int .i64 c.e1.perm, .int .u64 c.e1.ipa] 44)) (hown.below (bone _ _) (Nat.le_refl _)) hnil (by simp; omega) hlen6
                      rw [← hsn] at hput
                      clear hsn hst hlE hg hlen6
                      generalize hLn : putAll (A ++ endsTo gi c (1 + 1)) = Ln at hput
                      replace hLn := Lib.hid hLn
                      simp only [endPart] at hput
                      subst he
                      clear hown hnil hLo
                      go_wp2_with fail
                      refine hput.mono ?_; rintro e w2 ⟨v', rfl, ho', hn', hB', hb2⟩
                      obtain ⟨a', c', rfl⟩ := ownsRow_slice ho'
                      have hbV' := (hbV.alloc (by omega) (.cells #[.int .i64 c.e1.g, .int .i64 c.e1.perm, .int .u64 c.e1.ipa] 44)).trans (hb2.mono (by simp; omega))
                      go_wp2_with fail
                      go_roundw
                      case rel => exact ⟨1 + 1, by omega, by go_num, by rw [hLn.out]; exact ho', by rw [hLn.out]; exact hn', hB', hbV'⟩
                      case measure => simp [intOf]
                    · have hsn : putAll (A ++ endsTo gi c (1 + 1)) = putAll (A ++ endsTo gi c 1) := by rw [hst]; unfold endL; rw [if_neg hg, List.append_nil]
                      have hq : (c.e1.g == (gi : Int)) = false := by simpa using hg
                      rw [← hsn] at hown hnil
                      clear hst hlE hsn hg
                      generalize hLn : putAll (A ++ endsTo gi c (1 + 1)) = Ln at hown hnil
                      replace hLn := Lib.hid hLn
                      replace hown := hown.below (bone wr (.cells #[.int .i64 c.e1.g, .int .i64 c.e1.perm, .int .u64 c.e1.ipa] 44)) (Nat.le_refl _)
                      replace hBj := hBj.alloc (by omega) (.cells #[.int .i64 c.e1.g, .int .i64 c.e1.perm, .int .u64 c.e1.ipa] 44)
                      replace hbV := hbV.alloc (by omega) (.cells #[.int .i64 c.e1.g, .int .i64 c.e1.perm, .int .u64 c.e1.ipa] 44)
                      go_wp2_with fail
                      go_roundw
                      case rel => exact ⟨1 + 1, by omega, by go_num, by rw [hLn.out]; exact hown, by rw [hLn.out]; exact hnil, hBj, hbV⟩
                      case measure => simp [intOf]
                · obtain rfl : j = 2 := by omega
                  subst he
                  have hown2 : OwnM 39 wr X.heap.size (.slice a6s n6 cs6) (putAll (g.win.map winM ++ (g.dev.map devM ++ (chs.take (k + 1)).flatMap (chM gi)))) := by rw [hsn]; exact hown
                  have hnil2 : putAll (g.win.map winM ++ (g.dev.map devM ++ (chs.take (k + 1)).flatMap (chM gi))) = [] → (.slice a6s n6 cs6 : Value) = .slice none 0 0 := by rw [hsn]; exact hnil
                  clear hown hnil hsn
                  generalize hLn : putAll (g.win.map winM ++ (g.dev.map devM ++ (chs.take (k + 1)).flatMap (chM gi))) = Ln at hown2 hnil2
                  replace hLn := Lib.hid hLn
                  go_wp2_with fail
                  go_roundw
                  case rel => exact ⟨k + 1, by omega, by go_num, by rw [hLn.out]; exact hown2, by rw [hLn.out]; exact hnil2, hBj⟩
                  case measure => simp [intOf]; omega
            · obtain rfl : k = chs.length := by omega
              rw [List.take_length, ← hP.out] at hown hnil
              subst he
              obtain ⟨Y, rfl⟩ : ∃ Y, Y = wr := ⟨_, rfl⟩
              have hLl : (putAll P).length ≤ 1000000 := by rw [putAll_len]; exact hlen
              have hLe : ∃ L, L = putAll P := ⟨_, rfl⟩
              obtain ⟨L, hLe⟩ := hLe
              rw [← hLe] at hown hnil hLl
              replace hLe := Lib.hid hLe
              obtain ⟨aL, cL, he', hcapL, hrowL⟩ := hown.row
              cases he'
              clear hnil hc
              go_wp2_with fail
              go_loopw [103] (fun i wr => ∃ k : Nat, k ≤ L.length ∧ i = .int .i64 k ∧ (∀ j, j < k → badAt L j = false) ∧ Below Y.heap.size Y wr) (fun i _ => L.length - (intOf i).toNat)
              case atStart => exact ⟨0, Nat.zero_le _, rfl, fun j h => absurd h (Nat.not_lt_zero j), Below.refl _ _⟩
              case round =>
                obtain ⟨k, hk, rfl, hall, hB5⟩ := hrel
                have hBw : Below w.heap.size w wr := hbX.trans ((hB.mono (by omega)).trans (hB5.mono (by omega)))
                have hz5 := hB5.size
                by_cases hlt : k < L.length
                · obtain ⟨b, off, rfl, hb, hcell⟩ := hrowL (by rintro rfl; simp at hlt)
                  obtain ⟨p0, p1, p2, p3, p4⟩ := hcell k hlt
                  replace p0 := cell_lt hB5 p0 hb
                  replace p1 := cell_lt hB5 p1 hb
                  replace p2 := cell_lt hB5 p2 hb
                  replace p3 := cell_lt hB5 p3 hb
                  replace p4 := cell_lt hB5 p4 hb
                  have hxe : L[k]! = L[k] := getElem!_pos L k hlt
                  have hbad : badAt L k = true → checkM (putAll P) = ([], 160) := fun h => by rw [← hLe.out]; exact checkM_bad hlt h
                  have hbd : badAt L k = (!(goodB L[k].ipa L[k].sz && goodB L[k].pa L[k].sz) || (L.take k).any fun n => overlapB L[k].ipa L[k].sz n.ipa n.sz) := by unfold badAt fineM; rw [hxe]
                  have hnx : badAt L k = false → ∀ j, j < k + 1 → badAt L j = false := fun h j hj => by
                    by_cases e : j = k
                    · subst e; exact h
                    · exact hall j (by omega)
                  clear hall
                  generalize L[k] = x at *
                  rw [hbd] at hbad hnx
                  obtain ⟨n0, n1, n2, n3, n4⟩ := five_new wr (.int .u64 x.ipa) (.int .u64 x.pa) (.int .u64 x.sz) (.int .i64 x.perm) (.int .i64 x.kind) 39
                  have hTl : wr.heap.size < (wr.alloc (.cells #[.int .u64 x.ipa, .int .u64 x.pa, .int .u64 x.sz, .int .i64 x.perm, .int .i64 x.kind] 39)).heap.size := by simp
                  have hba := bone wr (.cells #[.int .u64 x.ipa, .int .u64 x.pa, .int .u64 x.sz, .int .i64 x.perm, .int .i64 x.kind] 39)
                  replace hbad := Lib.hid hbad
                  replace hnx := Lib.hid hnx
                  clear hbd hxe
                  go_wp2_with fail
                  refine (refGood_any _ _ _ x.hi x.hs).mono ?_; rintro e w7 ⟨rfl, hb7⟩
                  have hT7 := Nat.lt_of_lt_of_le hTl hb7.size
                  have hB7 : Below wr.heap.size wr w7 := bthen hba hb7
                  have q0 := cell_lt hb7 n0 hTl
                  have q1 := cell_lt hb7 n1 hTl
                  have q2 := cell_lt hb7 n2 hTl
                  clear n0 n1 n2 n3 n4 hTl hba hb7 p0 p1 p2 p3 p4
                  cases hg : goodB x.ipa x.sz
                  · have hC := Lib.hid (hbad.out (by rw [hg]; rfl))
                    clear hbad hnx q0 q1 q2
                    go_wp2_with fail
                    refine bodyPost_ret (v := .tuple #[.slice none 0 0, .int .i64 160]) (by simp [results, Try.results14, go_sem]) rfl ⟨⟨.slice none 0 0, by rw [hC.out], by rw [hC.out]; exact OwnM.nil _ _ _⟩, bthen hBw hB7⟩
                  · go_wp2_with fail
                    refine (refGood_any _ _ _ x.hp x.hs).mono ?_; rintro e w9 ⟨rfl, hb9⟩
                    have hT9 := Nat.lt_of_lt_of_le hT7 hb9.size
                    have hB9 : Below wr.heap.size wr w9 := bthen hB7 hb9
                    replace q0 := cell_lt hb9 q0 hT7
                    replace q1 := cell_lt hb9 q1 hT7
                    replace q2 := cell_lt hb9 q2 hT7
                    clear hb9 hT7 hB7
                    cases hg2 : goodB x.pa x.sz
                    · have hC := Lib.hid (hbad.out (by rw [hg, hg2]; rfl))
                      clear hbad hnx q0 q1 q2
                      go_wp2_with fail
                      refine bodyPost_ret (v := .tuple #[.slice none 0 0, .int .i64 160]) (by simp [results, Try.results14, go_sem]) rfl ⟨⟨.slice none 0 0, by rw [hC.out], by rw [hC.out]; exact OwnM.nil _ _ _⟩, bthen hBw hB9⟩
                    · have hB59 : Below Y.heap.size Y w9 := bthen hB5 hB9
                      have hBw9 := bthen hBw hB9
                      have hov : ∀ q, q < L.length → (q < k ∧ overlapB x.ipa x.sz L[q]!.ipa L[q]!.sz = true) → checkM (putAll P) = ([], 160) := fun q hq h => hbad.out (by
                        rw [hg, hg2]
                        simp only [Bool.and_self, Bool.not_true, Bool.false_or, List.any_eq_true]
                        exact ⟨L[q]!, by rw [getElem!_pos L q hq]; exact List.mem_take_iff_getElem.2 ⟨q, by omega, rfl⟩, h.2⟩)
                      have hfin : (∀ t, t < k → overlapB x.ipa x.sz L[t]!.ipa L[t]!.sz = false) → ∀ j, j < k + 1 → badAt L j = false := fun h => hnx.out (by
                        rw [hg, hg2]
                        simp only [Bool.and_self, Bool.not_true, Bool.false_or, List.any_eq_false]
                        intro y hy
                        obtain ⟨t, ht, rfl⟩ := List.mem_take_iff_getElem.1 hy
                        have := h t (by omega)
                        rw [getElem!_pos L t (by omega)] at this
                        rw [this]; simp)
                      obtain ⟨w5, rfl⟩ : ∃ w5, w5 = wr := ⟨_, rfl⟩
                      replace hov := Lib.hid hov
                      replace hfin := Lib.hid hfin
                      have hz9 := hB59.size
                      clear hbad hnx hBw hB5 hB9 hz5
                      go_wp2_with fail
                      go_loopw [128] (fun j wr => ∃ q : Nat, q ≤ k ∧ j = .int .i64 q ∧ (∀ t, t < q → overlapB x.ipa x.sz L[t]!.ipa L[t]!.sz = false) ∧ Below w9.heap.size w9 wr) (fun j _ => k - (intOf j).toNat)
                      case atStart => exact ⟨0, Nat.zero_le _, rfl, fun j h => absurd h (Nat.not_lt_zero j), Below.refl _ _⟩
                      case round =>
                        obtain ⟨q, hq, rfl, hno, hB6⟩ := hrel
                        have hz6 := hB6.size
                        have s0 := cell_lt hB6 q0 hT9
                        have s2 := cell_lt hB6 q2 hT9
                        have hB56 : Below Y.heap.size Y wr := bthen hB59 hB6
                        by_cases hlq : q < k
                        · obtain ⟨p0, p1, p2, p3, p4⟩ := hcell q (by omega)
                          replace p0 := cell_lt hB56 p0 hb
                          replace p1 := cell_lt hB56 p1 hb
                          replace p2 := cell_lt hB56 p2 hb
                          replace p3 := cell_lt hB56 p3 hb
                          replace p4 := cell_lt hB56 p4 hb
                          have hye : L[q]! = L[q]'(by omega) := getElem!_pos L q (by omega)
                          have hov2 := hov.out q (by omega)
                          have hno2 : overlapB x.ipa x.sz L[q]!.ipa L[q]!.sz = false → ∀ t, t < q + 1 → overlapB x.ipa x.sz L[t]!.ipa L[t]!.sz = false := fun h t ht => by
                            by_cases e : t = q
                            · subst e; exact h
                            · exact hno t (by omega)
                          rw [hye] at hov2 hno2
                          generalize L[q]'(by omega) = y at *
                          have s0' := keepA (x := .cells #[.int .u64 y.ipa, .int .u64 y.pa, .int .u64 y.sz, .int .i64 y.perm, .int .i64 y.kind] 39) s0
                          have s2' := keepA (x := .cells #[.int .u64 y.ipa, .int .u64 y.pa, .int .u64 y.sz, .int .i64 y.perm, .int .i64 y.kind] 39) s2
                          replace hov2 := Lib.hid hov2
                          replace hno2 := Lib.hid hno2
                          clear hye hno q0 q1 q2
                          go_wp2_with fail
                          refine (refOverlap_any _ _ _ _ _ x.hi x.hs y.hi y.hs).mono ?_; rintro e w10 ⟨rfl, hb10⟩
                          have hB10 : Below wr.heap.size wr w10 := bnew hb10
                          cases ho : overlapB x.ipa x.sz y.ipa y.sz
                          · have hn3 := Lib.hid (hno2.out ho)
                            clear hov2 hno2
                            go_wp2_with fail
                            go_roundw
                            case rel => exact ⟨q + 1, by omega, by go_num, hn3.out, bthen hB6 hB10⟩
                            case measure => simp [intOf]; omega
                          · have hC := Lib.hid (hov2.out ⟨hlq, ho⟩)
                            clear hov2 hno2
                            go_wp2_with fail
                            refine bodyPost_ret (v := .tuple #[.slice none 0 0, .int .i64 160]) (by simp [results, Try.results14, go_sem]) rfl ⟨⟨.slice none 0 0, by rw [hC.out], by rw [hC.out]; exact OwnM.nil _ _ _⟩, bthen (bthen hBw9 hB6) hB10⟩
                        · obtain rfl : q = k := by omega
                          have hf := Lib.hid (hfin.out hno)
                          clear hno
                          go_wp2_with fail
                          go_roundw
                          case rel => exact ⟨q + 1, by omega, by go_num, hf.out, hB56⟩
                          case measure => simp [intOf]; omega
                · obtain rfl : k = L.length := by omega
                  have hC : checkM (putAll P) = (L, 0) := by rw [← hLe.out]; exact checkM_good hall
                  replace hC := Lib.hid hC
                  clear hall
                  have hownF := (hown.below hB5 (Nat.le_refl _)).mono (show w.heap.size ≤ X.heap.size by omega)
                  go_wp2_with fail
                  refine bodyPost_ret (v := .tuple #[.slice a6s L.length cs6, .int .i64 0]) (by simp [results, Try.results14, go_sem]) rfl ⟨⟨.slice a6s L.length cs6, by rw [hC.out], by rw [hC.out]; exact hownF⟩, hBw⟩
end Go.Proofs.Ytokbplajcdkcpaa
