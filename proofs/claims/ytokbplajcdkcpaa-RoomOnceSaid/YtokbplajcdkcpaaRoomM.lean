/- The walk of the statement RoomOnce. -/
import Derived.Test.YtokbplajcdkcpaaRoomH
import Derived.Test.YtokbplajcdkcpaaAtA
namespace Go.Proofs.Ytokbplajcdkcpaa
open Go Go.RowKit Go.Shelf Go.BigFrame Go.Sort

theorem sortedM_le (ps : List M5) : (sortedM ps).Pairwise (fun x y => x.ipa ≤ y.ipa) := by
  unfold sortedM
  rw [List.pairwise_map]
  refine (sortR_sorted ps (ranks ps.length)).imp fun h => ?_
  rw [Bool.eq_false_iff, Ne, ltR_iff] at h
  omega
structure OnceL (L : List M5) : Prop where
  fine : ∀ i (h : i < L.length), 0 < L[i].sz
  apart : ∀ i j (hi : i < j) (hj : j < L.length), L[i].ipa + L[i].sz ≤ L[j].ipa
theorem once_of {ps L : List M5} (h : checkM (sortedM ps) = (L, 0)) : L = sortedM ps ∧ OnceL L := by
  unfold checkM at h
  split at h
  · rename_i hc
    obtain ⟨h1, h2⟩ := hc
    cases h
    refine ⟨rfl, ?_⟩
    rw [List.all_eq_true] at h1
    have hg : ∀ i (h : i < (sortedM ps).length), 0 < (sortedM ps)[i].sz ∧ (sortedM ps)[i].ipa + ((sortedM ps)[i].sz - 1) < 18446744073709551616 := fun i hi => by
      have := h1 _ (List.getElem_mem hi)
      unfold fineM at this
      rw [Bool.and_eq_true] at this
      exact goodB_iff.1 this.1
    refine ⟨fun i hi => (hg i hi).1, fun i j hij hj => ?_⟩
    have ho := firstV_clear.1 h2 i j hij (by simpa using hj)
    rw [getElem!_pos _ j (by simpa using hj), getElem!_pos _ i (by simp; omega), List.getElem_map, List.getElem_map] at ho
    unfold spanM at ho
    simp only at ho
    have hle := (List.pairwise_iff_getElem.1 (sortedM_le ps)) i j (by omega) hj hij
    have g1 := hg i (by omega)
    have g2 := hg j hj
    rw [Bool.eq_false_iff, Ne, overlapB_iff] at ho
    rcases Int.lt_or_le ((sortedM ps)[j].ipa) ((sortedM ps)[i].ipa + (sortedM ps)[i].sz) with hlt | hge
    · exact absurd ⟨goodB_iff.2 g2, goodB_iff.2 g1, by omega, by omega⟩ ho
    · exact hge
  · cases h
def cntM (L : List M5) (a : Int) (k : Nat) : Nat := ((L.take k).filter fun x => x.has a).length
theorem cntM_succ {L : List M5} {a : Int} {k : Nat} (h : k < L.length) : cntM L a (k + 1) = if L[k].has a = true then cntM L a k + 1 else cntM L a k := by
  unfold cntM
  rw [List.take_succ_eq_append_getElem h, List.filter_append, List.length_append]
  by_cases e : L[k].has a = true
  · rw [if_pos e]; simp [e]
  · rw [if_neg e]; simp [e]
theorem has_iff {x : M5} {a : Int} (h : x.has a = true) : x.ipa ≤ a ∧ a < x.ipa + x.sz := by
  unfold M5.has holdsB at h
  simp only [Bool.and_eq_true, decide_eq_true_eq] at h
  omega
theorem cntM_zero {L : List M5} (hL : OnceL L) {a : Int} {k : Nat} (hk : k < L.length) (h : L[k].has a = true) : cntM L a k = 0 := by
  unfold cntM
  rw [List.length_eq_zero_iff, List.filter_eq_nil_iff]
  intro x hx hh
  obtain ⟨i, hi, rfl⟩ := List.mem_take_iff_getElem.1 hx
  have h1 := has_iff h
  have h2 := has_iff hh
  have := hL.apart i k (by omega) hk
  omega
theorem cntM_one {L : List M5} (hL : OnceL L) (a : Int) : ∀ k, k ≤ L.length → cntM L a k ≤ 1
  | 0, _ => by simp [cntM]
  | k + 1, hk => by
    have ih := cntM_one hL a k (by omega)
    rw [cntM_succ (by omega)]
    split
    · rename_i h
      have := cntM_zero hL (by omega) h
      omega
    · exact ih
theorem few_len {gs : List GuestV} {chs : List ChV} (h : fewV gs chs = true) : chs.length ≤ 40 := by
  unfold fewV at h
  simp only [Bool.and_eq_true, decide_eq_true_eq] at h
  omega
def endsN (chs : List ChV) (g : Int) (k : Nat) : Nat := ((chs.take k).flatMap (chM g)).length
theorem endsN_succ {chs : List ChV} {g : Int} {k : Nat} (h : k < chs.length) : endsN chs g (k + 1) = endsN chs g k + (chM g chs[k]).length := by
  unfold endsN
  rw [List.take_succ_eq_append_getElem h, List.flatMap_append, List.length_append]
  simp
theorem endsN_le (chs : List ChV) (g : Int) : ∀ k, k ≤ chs.length → endsN chs g k ≤ 2 * k
  | 0, _ => by simp [endsN]
  | k + 1, hk => by
    have := endsN_le chs g k (by omega)
    rw [endsN_succ (by omega)]
    have : (chM g chs[k]).length ≤ 2 := by
      unfold chM endL
      rw [List.length_append]
      split <;> split <;> simp
    omega
set_option maxRecDepth 100000 in
set_option maxHeartbeats 4000000 in
theorem roomOnce_walk (ver : Int) (vg vc : Value) (gs : List GuestV) (chs : List ChV) (g a : Int) (w : World) (hG : RowG w vg gs) (hC : RowC w vc chs) (ha : W64 a) :
    Calls Try.prog 4 #[.agg #[.int .u32 ver, vg, vc], .int .i64 g, .int .u64 a] w fun e w' => e = .returned (.bool true) ∧ Below w.heap.size w w' := by
  obtain ⟨ag, kg, rfl, hgl, hgm, hgc⟩ := id hG
  obtain ⟨ac, kc, rfl, hlc, hmc, hc⟩ := id hC
  obtain ⟨n0, n1, n2⟩ := box3 w (.int .u32 ver) (.slice ag gs.length kg) (.slice ac chs.length kc) 26
  have hb0 := bone w (.cells #[.int .u32 ver, .slice ag gs.length kg, .slice ac chs.length kc] 26)
  have hl0 : w.heap.size < (w.alloc (.cells #[.int .u32 ver, .slice ag gs.length kg, .slice ac chs.length kc] 26)).heap.size := by simp
  go_enter Try.func4, Try.ntmps4
  go_wp2_with fail
  refine (awake16_any _).mono ?_; rintro e w1 ⟨rfl, hb1⟩
  replace n0 := cell_lt hb1 n0 hl0
  replace n1 := cell_lt hb1 n1 hl0
  replace n2 := cell_lt hb1 n2 hl0
  have hB1 := bthen hb0 hb1
  replace hl0 := Nat.lt_of_lt_of_le hl0 hb1.size
  clear hb0 hb1
  go_wp2_with fail
  refine (few_any ver _ _ gs chs w1 (hG.below hB1 lasts_guest) (hC.below hB1 lasts_ch)).mono ?_; rintro e w2 ⟨rfl, hb2⟩
  replace n0 := cell_lt hb2 n0 hl0
  replace n1 := cell_lt hb2 n1 hl0
  replace n2 := cell_lt hb2 n2 hl0
  have hB2 := bthen hB1 hb2
  replace hl0 := Nat.lt_of_lt_of_le hl0 hb2.size
  clear hB1 hb2
  cases hf : fewV gs chs
  · go_wp2_with fail
    go_ret
    exact ⟨rfl, hB2⟩
  · have hs := few_small hf
    have hc40 := few_len hf
    have hlt20 : ∀ gi (h : gi < gs.length), (partsV gs[gi] chs gi).length ≤ 120 := fun gi h => few_parts hf gi h
    have hmp := maps16_any ver _ _ gs chs g w2 (hG.below hB2 lasts_guest) (hC.below hB2 lasts_ch) hs
    by_cases hg : 0 ≤ g ∧ g < gs.length
    · obtain ⟨gi, rfl⟩ := Int.eq_ofNat_of_zero_le hg.1
      have hgi : gi < gs.length := by omega
      rw [mapsP_in hgi] at hmp
      have h120 := hlt20 gi hgi
      have hck : checkM (sortedM (partsV gs[gi] chs gi)) = ([], 160) ∨ ∃ L, checkM (sortedM (partsV gs[gi] chs gi)) = (L, 0) := by
        unfold checkM; split
        · exact .inr ⟨_, rfl⟩
        · exact .inl rfl
      rcases hck with hck | ⟨L, hck⟩
      · rw [hck] at hmp
        clear hlt20 hck hf hs hgc hc hG hC
        go_wp2_with fail
        refine hmp.mono ?_; rintro e w3 ⟨⟨v3, rfl, ho3⟩, hb3⟩
        obtain ⟨a3, k3, rfl⟩ := ownsRow_slice ho3
        go_wp2_with fail
        go_ret
        exact ⟨rfl, bthen hB2 hb3⟩
      · rw [hck] at hmp
        obtain ⟨hLs, hL⟩ := once_of hck
        have hLl : L.length = gs[gi].win.length + gs[gi].dev.length + endsN chs gi chs.length := by
          rw [hLs, sortedM_len]; unfold partsV endsN
          rw [List.take_length]
          simp only [List.length_append, List.length_map]; omega
        have hL120 : L.length ≤ 120 := by rw [hLs, sortedM_len]; exact h120
        clear hlt20 hck hf hs hLs h120
        obtain ⟨bg, og, rfl, hbg, hgc⟩ := hgc (by rintro rfl; simp at hgi)
        obtain ⟨cs, hR, hcl, hce⟩ := hgc gi hgi
        clear hgc
        generalize gs[gi] = gd at *
        obtain ⟨v8, e8, r8⟩ := hR.win
        obtain ⟨v9, e9, r9⟩ := hR.dev
        have q8 := hce _ _ e8
        have q9 := hce _ _ e9
        obtain ⟨a8, k8, rfl, _⟩ := r8
        obtain ⟨a9, k9, rfl, _⟩ := r9
        clear hR e8 e9 hce hcl hG hC
        go_wp2_with fail
        refine hmp.mono ?_; rintro e w3 ⟨⟨v3, rfl, ho3⟩, hb3⟩
        replace n0 := cell_lt hb3 n0 hl0
        replace n1 := cell_lt hb3 n1 hl0
        replace n2 := cell_lt hb3 n2 hl0
        have hB3 := bthen hB2 hb3
        replace hl0 := Nat.lt_of_lt_of_le hl0 hb3.size
        have hr3 := ho3.row
        obtain ⟨a3, k3, rfl, hk3, hrow3⟩ := hr3
        clear hB2 hb3 hmp
        replace hLl := Lib.hid hLl
        go_wp2_with fail
        go_loopw [9, 35] (fun v9 i wr => ∃ k : Nat, k ≤ L.length ∧ i = .int .i64 k ∧ v9 = .int .i64 (cntM L a k) ∧ Below w3.heap.size w3 wr) (fun _ i _ => L.length - (intOf i).toNat)
        case atStart => exact ⟨0, Nat.zero_le _, rfl, rfl, Below.refl _ _⟩
        case round =>
          obtain ⟨k, hk, rfl, rfl, hB⟩ := hrel
          have hc1 := cntM_one hL a k hk
          by_cases hlt : k < L.length
          · obtain ⟨b, off, rfl, hb, hcell⟩ := hrow3 (by rintro rfl; simp at hlt)
            have hcell' := fun i (hi : i < L.length) => cell_lt hB (hcell i hi).1 hb
            obtain ⟨p0, p1, p2, p3, p4⟩ := hcell k hlt
            replace p0 := cell_lt hB p0 hb
            replace p1 := cell_lt hB p1 hb
            replace p2 := cell_lt hB p2 hb
            replace p3 := cell_lt hB p3 hb
            replace p4 := cell_lt hB p4 hb
            have hsc := cntM_succ (a := a) hlt
            have hprev : 0 < k → wr.cell? ⟨b, off + (k - 1) * 5, none⟩ = some (.int .u64 L[k - 1].ipa) ∧ L[k - 1].ipa < L[k].ipa := fun h => ⟨hcell' (k - 1) (by omega), by have := hL.apart (k - 1) k (by omega) hlt; have := hL.fine (k - 1) (by omega); omega⟩
            clear hcell hcell'
            generalize L[k] = x at *
            obtain ⟨m0, m1, m2, m3, m4⟩ := five_new wr (.int .u64 x.ipa) (.int .u64 x.pa) (.int .u64 x.sz) (.int .i64 x.perm) (.int .i64 x.kind) 39
            have hTl : wr.heap.size < (wr.alloc (.cells #[.int .u64 x.ipa, .int .u64 x.pa, .int .u64 x.sz, .int .i64 x.perm, .int .i64 x.kind] 39)).heap.size := by simp
            have hhas := fun W => refHasS_any x.ipa x.sz a W x.hi x.hs ha
            have hxh : x.has a = holdsB x.ipa x.sz a := rfl
            rw [← hxh] at hhas
            generalize cntM L a k = c at *
            generalize hcn : cntM L a (k + 1) = cn at *
            replace hcn := Lib.hid hcn
            have hz3 := hB.size
            clear hxh
            go_wp2_with fail
            refine (hhas _).mono ?_; rintro e w4 ⟨rfl, hb4⟩
            have hB4 : Below wr.heap.size wr w4 := bnew hb4
            replace m0 := cell_lt hb4 m0 hTl
            have hT4 := Nat.lt_of_lt_of_le hTl hb4.size
            have hB34 := bthen hB hB4
            clear m1 m2 m3 m4 p0 p1 p2 p3 p4 hhas
            cases hh : x.has a
            all_goals
              rw [hh] at hsc
              first | rw [if_pos rfl] at hsc | rw [if_neg (by simp)] at hsc
              go_wp2_with fail
              have y0 := later_cell m0 hT4
              by_cases h0 : k = 0
              · subst h0
                clear hprev
                refine region_ord (fun z => ∃ X : Later w4.heap.size w4, z = X.x) [] [0, 1, 2, 3, 4, 5, 6, 7, 8, 9, 10, 11, 12] (by kernel_rfl) (by kernel_rfl) (by kernel_rfl) (by kernel_rfl) ⟨⟨_, (Below.refl _ _).drew⟩, rfl⟩ ?_
                simp only [List.map_cons, List.map_nil, List.filterMap_cons, List.filterMap_nil, List.getElem?_cons_succ, List.getElem?_cons_zero]
                refine ord_last ?_
                repeat (change wpQuiet _ _ _ _ (List.cons _ _) _; go_big_quiet_step (fail))
                refine wpQuiet_nil ?_
                replace hB34 := hB34.drew
                go_wp2_with fail
                go_roundw
                case rel => exact ⟨1, by omega, by go_num, by rw [hcn.out, hsc]; first | done | go_num, hB34⟩
                case measure => simp [intOf]; omega
              · obtain ⟨pq, hlp⟩ := hprev (by omega)
                have hkp : (0 : Int) < (k : Int) := by omega
                generalize L[k - 1].ipa = yi at *
                have pq4 := cell_lt hB4 pq (by omega)
                have y1 := later_cell (B := w4.heap.size) pq4 (by omega)
                have hnle : ¬ x.ipa ≤ yi := by omega
                have i1 : IntKind.i64.wrap ((k : Int) - 1) = (k : Int) - 1 := IntWalk.i64_in _ (by omega)
                have i3 : (0 : Int) ≤ (k : Int) - 1 := by omega
                have i4 : (k : Int) - 1 < (L.length : Int) := by omega
                have i5 : ((k : Int) - 1).toNat = k - 1 := by omega
                have hk0 : 0 < k := by omega
                clear pq
                refine region_ord (fun z => ∃ X : Later w4.heap.size w4, z = X.x) [] [0, 1, 2, 3, 4, 5, 6, 7, 8, 9, 10, 11, 12] (by kernel_rfl) (by kernel_rfl) (by kernel_rfl) (by kernel_rfl) ⟨⟨_, (Below.refl _ _).drew⟩, rfl⟩ ?_
                simp only [List.map_cons, List.map_nil, List.filterMap_cons, List.filterMap_nil, List.getElem?_cons_succ, List.getElem?_cons_zero]
                refine ord_last ?_
                repeat (change wpQuiet _ _ _ _ (List.cons _ _) _; go_big_quiet_step (fail))
                refine wpQuiet_nil ?_
                replace hB34 := hB34.drew
                go_wp2_with fail
                go_roundw
                case rel => exact ⟨k + 1, by omega, by go_num, by rw [hcn.out, hsc]; first | done | go_num, hB34⟩
                case measure => simp [intOf]; omega
          · obtain rfl : k = L.length := by omega
            obtain ⟨Y, rfl⟩ : ∃ Y, Y = wr := ⟨_, rfl⟩
            have hBY := bthen hB3 hB
            have hzY := hB.size
            replace n0 := cell_lt hB n0 hl0
            replace n1 := cell_lt hB n1 hl0
            replace n2 := cell_lt hB n2 hl0
            replace hl0 := Nat.lt_of_lt_of_le hl0 hB.size
            have hwY := hBY.size
            have hrow : ∀ b o u, b < w.heap.size → w.cell? ⟨b, o, none⟩ = some u → ∀ V, Below Y.heap.size Y V → V.cell? ⟨b, o, none⟩ = some u := fun b o u hb hc V hV => cell_lt hV (cell_lt hBY hc hb) (by omega)
            generalize cntM L a L.length = cn at *
            have hxc : chs.length ≤ 9223372036854775807 := by omega
            clear hrow3 ho3 hL
            go_wp2_with fail
            go_loopw [12, 66] (fun v12 i wr => ∃ k : Nat, k ≤ chs.length ∧ i = .int .i64 k ∧ v12 = .int .i64 (endsN chs gi k) ∧ Below Y.heap.size Y wr) (fun _ i _ => chs.length - (intOf i).toNat)
            case atStart => exact ⟨0, Nat.zero_le _, rfl, rfl, Below.refl _ _⟩
            case round =>
              obtain ⟨k, hk, rfl, rfl, hBk⟩ := hrel
              have he80 := endsN_le chs gi k hk
              have hzk := hBk.size
              by_cases hlt : k < chs.length
              · obtain ⟨b, off, rfl, hb, hcell⟩ := hc (by intro e; simp [e] at hlt)
                obtain ⟨cs, ⟨rfl, _⟩, hcl, hce⟩ := hcell k hlt
                have p0 : wr.cell? ⟨b, off + k * 8, none⟩ = some (.int .u64 chs[k].pa) := hrow _ _ _ hb (hce 0 _ rfl) _ hBk
                have p1 : wr.cell? ⟨b, off + k * 8 + 1, none⟩ = some (.int .u64 chs[k].sz) := hrow _ _ _ hb (hce 1 _ rfl) _ hBk
                have p2 : wr.cell? ⟨b, off + k * 8 + 2, none⟩ = some (.int .i64 chs[k].e0.g) := hrow _ _ _ hb (hce 2 _ rfl) _ hBk
                have p3 : wr.cell? ⟨b, off + k * 8 + 3, none⟩ = some (.int .i64 chs[k].e0.perm) := hrow _ _ _ hb (hce 3 _ rfl) _ hBk
                have p4 : wr.cell? ⟨b, off + k * 8 + 4, none⟩ = some (.int .u64 chs[k].e0.ipa) := hrow _ _ _ hb (hce 4 _ rfl) _ hBk
                have p5 : wr.cell? ⟨b, off + k * 8 + 5, none⟩ = some (.int .i64 chs[k].e1.g) := hrow _ _ _ hb (hce 5 _ rfl) _ hBk
                have p6 : wr.cell? ⟨b, off + k * 8 + 6, none⟩ = some (.int .i64 chs[k].e1.perm) := hrow _ _ _ hb (hce 6 _ rfl) _ hBk
                have p7 : wr.cell? ⟨b, off + k * 8 + 7, none⟩ = some (.int .u64 chs[k].e1.ipa) := hrow _ _ _ hb (hce 7 _ rfl) _ hBk
                have hsc := endsN_succ (g := (gi : Int)) hlt
                clear hce hcell hcl
                generalize chs[k] = c at *
                generalize endsN chs gi k = E0 at *
                generalize hE1 : endsN chs gi (k + 1) = E1 at *
                replace hE1 := Lib.hid hE1
                replace hsc := Lib.hid hsc
                obtain ⟨wo, rfl⟩ : ∃ wo, wo = wr := ⟨_, rfl⟩
                obtain ⟨V, hV, hVz, hVb, x0, x1, hVc⟩ := eight_newX wo (.int .u64 c.pa) (.int .u64 c.sz) (.int .i64 c.e0.g) (.int .i64 c.e0.perm) (.int .u64 c.e0.ipa) (.int .i64 c.e1.g) (.int .i64 c.e1.perm) (.int .u64 c.e1.ipa) 47
                have x2 := hVc 2 _ rfl
                have x3 := hVc 3 _ rfl
                have x4 := hVc 4 _ rfl
                have x5 := hVc 5 _ rfl
                have x6 := hVc 6 _ rfl
                have x7 := hVc 7 _ rfl
                go_wp2_with fail
                try rw [← hV]
                clear hVc
                go_loopw [12, 72] (fun v12 i wr => ∃ j : Nat, j ≤ 2 ∧ i = .int .i64 j ∧ v12 = .int .i64 ((E0 : Int) + ((endsTo gi c j).length : Int)) ∧ Below wo.heap.size wo wr) (fun _ i _ => 2 - (intOf i).toNat)
                case atStart => exact ⟨0, by omega, rfl, by simp [endsTo], hVb⟩
                case round =>
                  clear x0 x1 x2 x3 x4 x5 x6 x7 p0 p1 p2 p3 p4 p5 p6 p7
                  obtain ⟨j, hj, rfl, rfl, hbV⟩ := hrel
                  have hXl := hbV.size
                  have h2 : (endsTo gi c j).length ≤ 2 := by
                    have : (chM gi c).length ≤ 2 := by
                      unfold chM endL
                      rw [List.length_append]
                      split <;> split <;> simp
                    have h1 : (endL gi c c.e0).length ≤ 1 := by unfold endL; split <;> simp
                    unfold endsTo
                    split
                    · simp
                    · omega
                    · exact this
                  by_cases hj2 : j < 2
                  · rcases (show j = 0 ∨ j = 1 by omega) with rfl | rfl
                    · have i0 : ∀ w : World, (Instr.index 45 (.agg #[.int .i64 c.e0.g, .int .i64 c.e0.perm, .int .u64 c.e0.ipa, .int .i64 c.e1.g, .int .i64 c.e1.perm, .int .u64 c.e1.ipa]) (.int .i64 0)).run Try.prog w = .ok (.agg #[.int .i64 c.e0.g, .int .i64 c.e0.perm, .int .u64 c.e0.ipa]) w := fun _ => by kernel_rfl
                      have hst : (endsTo gi c (0 + 1)).length = (endsTo gi c 0).length + (endL gi c c.e0).length := by simp [endsTo]
                      replace hbV := hbV.alloc hXl (.cells #[.int .i64 c.e0.g, .int .i64 c.e0.perm, .int .u64 c.e0.ipa] 44)
                      by_cases hg2 : c.e0.g = gi
                      · have hq : (c.e0.g == (gi : Int)) = true := by simpa using hg2
                        have hsn : (endsTo gi c (0 + 1)).length = (endsTo gi c 0).length + 1 := by rw [hst]; unfold endL; rw [if_pos hg2]; rfl
                        generalize (endsTo gi c 0).length = el at *
                        generalize hEn : (endsTo gi c (0 + 1)).length = en at *
                        replace hEn := Lib.hid hEn
                        replace hsn := Lib.hid hsn
                        clear hst hg2
                        go_wp2_with fail
                        go_roundw
                        case rel => exact ⟨0 + 1, by omega, by go_num, by rw [hEn.out, hsn.out]; go_num, hbV⟩
                        case measure => simp [intOf]
                      · have hq : (c.e0.g == (gi : Int)) = false := by simpa using hg2
                        have hsn : (endsTo gi c (0 + 1)).length = (endsTo gi c 0).length := by rw [hst]; unfold endL; rw [if_neg hg2]; rfl
                        generalize (endsTo gi c 0).length = el at *
                        generalize hEn : (endsTo gi c (0 + 1)).length = en at *
                        replace hEn := Lib.hid hEn
                        replace hsn := Lib.hid hsn
                        clear hst hg2
                        go_wp2_with fail
                        go_roundw
                        case rel => exact ⟨0 + 1, by omega, by go_num, by rw [hEn.out, hsn.out], hbV⟩
                        case measure => simp [intOf]
                    · have i0 : ∀ w : World, (Instr.index 45 (.agg #[.int .i64 c.e0.g, .int .i64 c.e0.perm, .int .u64 c.e0.ipa, .int .i64 c.e1.g, .int .i64 c.e1.perm, .int .u64 c.e1.ipa]) (.int .i64 1)).run Try.prog w = .ok (.agg #[.int .i64 c.e1.g, .int .i64 c.e1.perm, .int .u64 c.e1.ipa]) w := fun _ => by kernel_rfl
                      have hst : (endsTo gi c (1 + 1)).length = (endsTo gi c 1).length + (endL gi c c.e1).length := by simp [endsTo, chM]
                      replace hbV := hbV.alloc hXl (.cells #[.int .i64 c.e1.g, .int .i64 c.e1.perm, .int .u64 c.e1.ipa] 44)
                      by_cases hg2 : c.e1.g = gi
                      · have hq : (c.e1.g == (gi : Int)) = true := by simpa using hg2
                        have hsn : (endsTo gi c (1 + 1)).length = (endsTo gi c 1).length + 1 := by rw [hst]; unfold endL; rw [if_pos hg2]; rfl
                        generalize (endsTo gi c 1).length = el at *
                        generalize hEn : (endsTo gi c (1 + 1)).length = en at *
                        replace hEn := Lib.hid hEn
                        replace hsn := Lib.hid hsn
                        clear hst hg2
                        go_wp2_with fail
                        go_roundw
                        case rel => exact ⟨1 + 1, by omega, by go_num, by rw [hEn.out, hsn.out]; go_num, hbV⟩
                        case measure => simp [intOf]
                      · have hq : (c.e1.g == (gi : Int)) = false := by simpa using hg2
                        have hsn : (endsTo gi c (1 + 1)).length = (endsTo gi c 1).length := by rw [hst]; unfold endL; rw [if_neg hg2]; rfl
                        generalize (endsTo gi c 1).length = el at *
                        generalize hEn : (endsTo gi c (1 + 1)).length = en at *
                        replace hEn := Lib.hid hEn
                        replace hsn := Lib.hid hsn
                        clear hst hg2
                        go_wp2_with fail
                        go_roundw
                        case rel => exact ⟨1 + 1, by omega, by go_num, by rw [hEn.out, hsn.out], hbV⟩
                        case measure => simp [intOf]
                  · obtain rfl : j = 2 := by omega
                    have hfin : (E1 : Int) = (E0 : Int) + ((endsTo gi c 2).length : Int) := by
                      have := hsc.out
                      rw [this, show endsTo gi c 2 = chM gi c from rfl]; omega
                    generalize (endsTo gi c 2).length = el at *
                    replace hfin := Lib.hid hfin
                    have hBk' := bthen hBk hbV
                    go_wp2_with fail
                    go_roundw
                    case rel => exact ⟨k + 1, by omega, by go_num, by rw [hE1.out, hfin.out], hBk'⟩
                    case measure => simp [intOf]; omega
              · obtain rfl : k = chs.length := by omega
                have z1 := cell_lt hBk n1 hl0
                have z8 := hrow _ _ _ hbg q8 _ hBk
                have z9 := hrow _ _ _ hbg q9 _ hBk
                have y1 := later_cell (B := wr.heap.size) z1 (by omega)
                have y8 := later_cell (B := wr.heap.size) z8 (by omega)
                have y9 := later_cell (B := wr.heap.size) z9 (by omega)
                have hll := hLl.out
                generalize endsN chs gi chs.length = E at *
                have h1c : (cn : Int) ≤ 1 := by omega
                have hgi' : (gi : Int) < (gs.length : Int) := by omega
                have s1 : IntKind.i64.wrap ((gd.win.length : Int) + (gd.dev.length : Int)) = (gd.win.length : Int) + (gd.dev.length : Int) := IntWalk.i64_in _ (by omega)
                have s2 : IntKind.i64.wrap ((gd.win.length : Int) + (gd.dev.length : Int) + (E : Int)) = (gd.win.length : Int) + (gd.dev.length : Int) + (E : Int) := IntWalk.i64_in _ (by omega)
                have s3 : ((L.length : Int) == (gd.win.length : Int) + (gd.dev.length : Int) + (E : Int)) = true := by simp; omega
                have hBz := bthen hBY hBk
                clear hll hLl hL120 n0 n1 n2 hrow hc z1 z8 z9
                go_wp2_with fail
                refine region_ord (fun z => ∃ X : Later wr.heap.size wr, z = X.x) [] [0, 1, 2, 3, 4, 5, 6, 7, 8, 9, 10, 11, 12, 13, 14, 15, 16, 17, 18, 19, 20, 21, 22, 23, 24, 25, 26, 27, 28, 29, 30, 31, 32, 33, 34, 35] (by kernel_rfl) (by kernel_rfl) (by kernel_rfl) (by kernel_rfl) ⟨⟨_, (Below.refl _ _).drew⟩, rfl⟩ ?_
                simp only [List.map_cons, List.map_nil, List.filterMap_cons, List.filterMap_nil, List.getElem?_cons_succ, List.getElem?_cons_zero]
                refine ord_last ?_
                repeat (change wpQuiet _ _ _ _ (List.cons _ _) _; go_big_quiet_step (fail))
                refine wpQuiet_nil ?_
                go_wp2_with fail
                go_ret
                exact ⟨rfl, hBz.drew⟩
    · rw [mapsP_out hg] at hmp
      clear hlt20 hf hs hgc hc hG hC
      go_wp2_with fail
      refine hmp.mono ?_; rintro e w3 ⟨⟨v3, rfl, ho3⟩, hb3⟩
      obtain ⟨a3, k3, rfl⟩ := ownsRow_slice ho3
      go_wp2_with fail
      go_ret
      exact ⟨rfl, bthen hB2 hb3⟩
end Go.Proofs.Ytokbplajcdkcpaa
