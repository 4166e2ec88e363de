/- Physical and Shared, of the program and of the reference. -/
import Derived.Test.YtokbplajcdkcpaaRoomH
import Derived.Test.YtokbplajcdkcpaaSpanI
namespace Go.Proofs.Ytokbplajcdkcpaa
open Go Go.RowKit Go.Shelf Go.BigFrame

def winS (x : WinV) : Two := ⟨x.pa, x.sz, x.hp, x.hs⟩
def devS (x : DevV) : Two := ⟨x.pa, x.sz, x.hp, x.hs⟩
def chS (x : ChV) : Two := ⟨x.pa, x.sz, x.hp, x.hs⟩
def physG (g : GuestV) : List Two := g.win.map winS ++ g.dev.map devS
def namesB (g : Int) (c : ChV) : Bool := decide (c.e0.g = g) || decide (c.e1.g = g)
def physV (gs : List GuestV) (g : Int) : List Two := if 0 ≤ g ∧ g < gs.length then physG gs[g.toNat]! else []
def sharedV (gs : List GuestV) (chs : List ChV) (g : Int) : List Two := if 0 ≤ g ∧ g < gs.length then (chs.filter (namesB g)).map chS else []
theorem filt_succ {α : Type} {p : α → Bool} {l : List α} {k : Nat} (h : k < l.length) : (l.take (k + 1)).filter p = if p l[k] then (l.take k).filter p ++ [l[k]] else (l.take k).filter p := by
  rw [List.take_succ_eq_append_getElem h, List.filter_append]
  by_cases e : p l[k] = true
  · rw [if_pos e]; simp [e]
  · rw [if_neg e]; simp [e]
theorem phys_out {gs : List GuestV} {g : Int} (h : ¬ (0 ≤ g ∧ g < gs.length)) : physV gs g = [] := by unfold physV; rw [if_neg h]
theorem shared_out {gs : List GuestV} {chs : List ChV} {g : Int} (h : ¬ (0 ≤ g ∧ g < gs.length)) : sharedV gs chs g = [] := by unfold sharedV; rw [if_neg h]
set_option maxRecDepth 100000 in
set_option maxHeartbeats 4000000 in
theorem phys16_any (ver : Int) (vg vc : Value) (gs : List GuestV) (chs : List ChV) (g0 : Int) (w : World) (hG : RowG w vg gs) (hC : RowC w vc chs) (hs : smallP gs chs) :
    Calls Try.prog 18 #[.agg #[.int .u32 ver, vg, vc], .int .i64 g0] w fun e w' => (∃ v, e = .returned v ∧ OwnTwo 42 w' w.heap.size v (physV gs g0)) ∧ Below w.heap.size w w' := by
  by_cases hg : 0 ≤ g0 ∧ g0 < gs.length
  · obtain ⟨gi, rfl⟩ := Int.eq_ofNat_of_zero_le hg.1
    have hgi : gi < gs.length := by omega
    have hgst := fun W h => guest_any ver vg vc gs (gi : Int) W h
    have hgt : decide (0 ≤ (gi : Int) ∧ (gi : Int) < gs.length) = true := by simp; omega
    rw [hgt] at hgst
    have hgs := hgst _ (hG.below (bone w (.cells #[.int .u32 ver, vg, vc] 26)) lasts_guest)
    clear hgst hgt
    have hlen := hs gi hgi
    have hpe : physV gs gi = physG gs[gi] := by unfold physV; rw [if_pos ⟨by omega, by omega⟩, Int.toNat_natCast, getElem!_pos gs gi hgi]
    rw [hpe]
    obtain ⟨ag, kg, rfl, hgl, hgm, hgc⟩ := hG
    obtain ⟨ac, kc, rfl, _, _, _⟩ := hC
    obtain ⟨bg, og, rfl, hbg, hgc⟩ := hgc (by rintro rfl; simp at hgi)
    obtain ⟨cs, hR, hcl, hce⟩ := hgc gi hgi
    clear hgc hpe
    have hll : gs[gi].win.length + gs[gi].dev.length ≤ 1000000 := by unfold partsV at hlen; simp only [List.length_append, List.length_map] at hlen; omega
    clear hlen hs
    generalize gs[gi] = g at *
    obtain ⟨v8, e8, r8⟩ := hR.win
    obtain ⟨v9, e9, r9⟩ := hR.dev
    have q8 := hce _ _ e8
    have q9 := hce _ _ e9
    obtain ⟨a8, k8, rfl, hl8, hm8, h8⟩ := r8
    obtain ⟨a9, k9, rfl, hl9, hm9, h9⟩ := r9
    clear hR e8 e9 hce hcl hgm hl8 hm8 hl9 hm9
    obtain ⟨_, n1, n2⟩ := box3 w (.int .u32 ver) (.slice (some ⟨bg, og, none⟩) gs.length kg) (.slice ac chs.length kc) 26
    go_enter Try.func18, Try.ntmps18
    go_wp2_with fail
    refine hgs.mono ?_; rintro e X ⟨rfl, hb1⟩
    have b1 := cell_lt hb1 n1 (by simp)
    have b2 := cell_lt hb1 n2 (by simp)
    have hbX : Below w.heap.size w X := bnew hb1
    have hzX : w.heap.size < X.heap.size := by have := hb1.size; simp at this; omega
    clear hb1 n1 n2 hgs
    have q8W := cell_lt hbX q8 hbg
    go_wp2_with fail
    have hrow : ∀ b o u, b < w.heap.size → w.cell? ⟨b, o, none⟩ = some u → ∀ V, Below X.heap.size X V → V.cell? ⟨b, o, none⟩ = some u := fun b o u hb hc V hV => cell_lt hV (cell_lt hbX hc hb) (by omega)
    go_loopw [5, 21] (fun v5 i wr => ∃ k : Nat, k ≤ g.win.length ∧ i = .int .i64 k ∧ OwnTwo 42 wr X.heap.size v5 ((g.win.take k).map winS) ∧ Below X.heap.size X wr) (fun _ i _ => g.win.length - (intOf i).toNat)
    case atStart => exact ⟨0, Nat.zero_le _, rfl, OwnTwo.nil _ _ _, Below.refl _ _⟩
    case round =>
      clear q8W
      obtain ⟨k, hk, rfl, hown, hB⟩ := hrel
      obtain ⟨a5, c5, he⟩ := ownsRow_slice hown
      have hn5 : ((g.win.take k).map winS).length = k := by simp; omega
      rw [hn5] at he
      obtain ⟨n5, rfl⟩ : ∃ n5, n5 = k := ⟨_, rfl⟩
      subst he
      have hnL := hn5
      have hzB := hB.size
      by_cases hlt : n5 < g.win.length
      · obtain ⟨b, off, rfl, hb, hcell⟩ := h8 (by intro e; simp [e] at hlt)
        obtain ⟨cs, ⟨rfl, _⟩, hcl, hce⟩ := hcell n5 hlt
        have p0 : wr.cell? ⟨b, off + n5 * 4, none⟩ = some (.int .u64 g.win[n5].ipa) := hrow _ _ _ hb (hce 0 _ rfl) _ hB
        have p1 : wr.cell? ⟨b, off + n5 * 4 + 1, none⟩ = some (.int .u64 g.win[n5].pa) := hrow _ _ _ hb (hce 1 _ rfl) _ hB
        have p2 : wr.cell? ⟨b, off + n5 * 4 + 2, none⟩ = some (.int .u64 g.win[n5].sz) := hrow _ _ _ hb (hce 2 _ rfl) _ hB
        have p3 : wr.cell? ⟨b, off + n5 * 4 + 3, none⟩ = some (.int .i64 g.win[n5].perm) := hrow _ _ _ hb (hce 3 _ rfl) _ hB
        have hsn : (g.win.take (n5 + 1)).map winS = (g.win.take n5).map winS ++ [winS g.win[n5]] := by rw [List.take_succ_eq_append_getElem hlt, List.map_append]; rfl
        clear hce hcell hcl
        generalize g.win[n5] = x at *
        clear hn5
        generalize hLL : (g.win.take n5).map winS = L at *
        replace hnL := Lib.hid hnL
        generalize hLn : (g.win.take (n5 + 1)).map winS = Ln at *
        replace hLn := Lib.hid hLn
        replace hsn := Lib.hid hsn
        clear hLL
        go_wp2_with (at_builtin; go_must (refine wpl_append_two rfl _ _ 57 rfl X.heap.size 42 infoS16 Try.underlying57 (.slice a5 n5 c5) L (winS x) rfl rfl ?_ ?_ ⟨rfl, rfl⟩ ?_ ?_ ?_); go_must (focus (exact OwnTwo.alloc hown (.cells #[.int .u64 x.ipa, .int .u64 x.pa, .int .u64 x.sz, .int .i64 x.perm] 76))); go_must (focus (simp)); go_must (focus (have := hnL.out; omega)); go_must (focus (simp; omega)); intro v' w6 hown' hbel hgrow; obtain ⟨a6, c6, e6⟩ := ownsRow_slice hown'; rw [List.length_append, List.length_singleton, hnL.out] at e6; subst e6)
        have hB6 : Below X.heap.size X w6 := (hB.alloc hzB _).trans (hbel _ (Nat.le_refl _))
        go_roundw
        case rel => exact ⟨n5 + 1, by omega, by go_num, by rw [hLn.out, hsn.out]; exact hown', hB6⟩
        case measure => simp [intOf]; omega
      · obtain rfl : n5 = g.win.length := by omega
        rw [List.take_length] at hown
        have b1' := cell_lt hB b1 hzX
        have q9W := hrow _ _ _ hbg q9 _ hB
        have hown0 : OwnTwo 42 wr X.heap.size (.slice a5 g.win.length c5) (g.win.map winS ++ (g.dev.take 0).map devS) := by simpa using hown
        clear h8 hn5 hown hnL
        go_wp2_with fail
        go_loopw [5, 41] (fun v5 i wr => ∃ k : Nat, k ≤ g.dev.length ∧ i = .int .i64 k ∧ OwnTwo 42 wr X.heap.size v5 (g.win.map winS ++ (g.dev.take k).map devS) ∧ Below X.heap.size X wr) (fun _ i _ => g.dev.length - (intOf i).toNat)
        case atStart => exact ⟨0, Nat.zero_le _, rfl, hown0, hB⟩
        case round =>
          clear hown0 hB b1' q9W hzB
          obtain ⟨k, hk, rfl, hown, hB⟩ := hrel
          obtain ⟨a5, c5, he⟩ := ownsRow_slice hown
          have hn5 : (g.win.map winS ++ (g.dev.take k).map devS).length = g.win.length + k := by simp; omega
          generalize hn : (g.win.map winS ++ (g.dev.take k).map devS).length = n5 at he
          have hnL := hn
          rw [hn5] at hn
          clear hn5
          subst he
          have hzB := hB.size
          by_cases hlt : k < g.dev.length
          · obtain ⟨b, off, rfl, hb, hcell⟩ := h9 (by intro e; simp [e] at hlt)
            obtain ⟨cs, rfl, hcl, hce⟩ := hcell k hlt
            have p0 : wr.cell? ⟨b, off + k * 3, none⟩ = some (.int .u64 g.dev[k].ipa) := hrow _ _ _ hb (hce 0 _ rfl) _ hB
            have p1 : wr.cell? ⟨b, off + k * 3 + 1, none⟩ = some (.int .u64 g.dev[k].pa) := hrow _ _ _ hb (hce 1 _ rfl) _ hB
            have p2 : wr.cell? ⟨b, off + k * 3 + 2, none⟩ = some (.int .u64 g.dev[k].sz) := hrow _ _ _ hb (hce 2 _ rfl) _ hB
            have hsn : g.win.map winS ++ (g.dev.take (k + 1)).map devS = g.win.map winS ++ (g.dev.take k).map devS ++ [devS g.dev[k]] := by rw [List.take_succ_eq_append_getElem hlt, List.map_append, List.append_assoc]; rfl
            clear hce hcell hcl
            generalize g.dev[k] = x at *
            generalize hLL : g.win.map winS ++ (g.dev.take k).map devS = L at *
            replace hnL := Lib.hid hnL
            generalize hLn : g.win.map winS ++ (g.dev.take (k + 1)).map devS = Ln at *
            replace hLn := Lib.hid hLn
            replace hsn := Lib.hid hsn
            replace hn := Lib.hid hn
            clear hLL
            have hn5' : n5 < 4398046511104 := by have := hn.out; omega
            go_wp2_with (at_builtin; go_must (refine wpl_append_two rfl _ _ 57 rfl X.heap.size 42 infoS16 Try.underlying57 (.slice a5 n5 c5) L (devS x) rfl rfl ?_ ?_ ⟨rfl, rfl⟩ ?_ ?_ ?_); go_must (focus (exact OwnTwo.alloc hown (.cells #[.int .u64 x.ipa, .int .u64 x.pa, .int .u64 x.sz] 92))); go_must (focus (simp)); go_must (focus (have := hnL.out; omega)); go_must (focus (simp; omega)); intro v' w6 hown' hbel hgrow; obtain ⟨a6, c6, e6⟩ := ownsRow_slice hown'; rw [List.length_append, List.length_singleton, hnL.out] at e6; subst e6)
            have hB6 : Below X.heap.size X w6 := (hB.alloc hzB _).trans (hbel _ (Nat.le_refl _))
            go_roundw
            case rel => exact ⟨k + 1, by omega, by go_num, by rw [hLn.out, hsn.out]; exact hown', hB6⟩
            case measure => simp [intOf]; omega
          · obtain rfl : k = g.dev.length := by omega
            rw [List.take_length] at hown
            clear hn hnL
            go_wp2_with fail
            go_ret
            exact ⟨⟨_, rfl, OwnTwo.mono hown (by omega)⟩, hbX.trans (hB.mono (by omega))⟩
  · rw [phys_out hg]
    obtain ⟨ag, kg, rfl, _⟩ := id hG
    obtain ⟨ac, kc, rfl, _⟩ := id hC
    have hgst := fun W h => guest_any ver (.slice ag gs.length kg) (.slice ac chs.length kc) gs g0 W h
    rw [decide_eq_false hg] at hgst
    have hgs := hgst _ (hG.below (bone w (.cells #[.int .u32 ver, .slice ag gs.length kg, .slice ac chs.length kc] 26)) lasts_guest)
    clear hgst hG hC
    go_enter Try.func18, Try.ntmps18
    go_wp2_with fail
    refine hgs.mono ?_; rintro e w1 ⟨rfl, hb1⟩
    go_wp2_with fail
    go_ret
    exact ⟨⟨_, rfl, OwnTwo.nil _ _ _⟩, bnew hb1⟩
set_option maxRecDepth 100000 in
set_option maxHeartbeats 4000000 in
theorem refPhys16_any (ver : Int) (vg vc : Value) (gs : List GuestV) (chs : List ChV) (g0 : Int) (w : World) (hG : RowG w vg gs) (hC : RowC w vc chs) (hs : smallP gs chs) :
    Calls Try.prog 19 #[.agg #[.int .u32 ver, vg, vc], .int .i64 g0] w fun e w' => (∃ v, e = .returned v ∧ OwnTwo 42 w' w.heap.size v (physV gs g0)) ∧ Below w.heap.size w w' := by
  by_cases hg : 0 ≤ g0 ∧ g0 < gs.length
  · obtain ⟨gi, rfl⟩ := Int.eq_ofNat_of_zero_le hg.1
    have hgi : gi < gs.length := by omega
    have hlen := hs gi hgi
    have hpe : physV gs gi = physG gs[gi] := by unfold physV; rw [if_pos ⟨by omega, by omega⟩, Int.toNat_natCast, getElem!_pos gs gi hgi]
    rw [hpe]
    obtain ⟨ag, kg, rfl, hgl, hgm, hgc⟩ := hG
    obtain ⟨ac, kc, rfl, _, _, _⟩ := hC
    obtain ⟨bg, og, rfl, hbg, hgc⟩ := hgc (by rintro rfl; simp at hgi)
    obtain ⟨cs, hR, hcl, hce⟩ := hgc gi hgi
    clear hgc hpe
    have hll : gs[gi].win.length + gs[gi].dev.length ≤ 1000000 := by unfold partsV at hlen; simp only [List.length_append, List.length_map] at hlen; omega
    clear hlen hs
    generalize gs[gi] = g at *
    obtain ⟨v8, e8, r8⟩ := hR.win
    obtain ⟨v9, e9, r9⟩ := hR.dev
    have q8 := hce _ _ e8
    have q9 := hce _ _ e9
    obtain ⟨a8, k8, rfl, hl8, hm8, h8⟩ := r8
    obtain ⟨a9, k9, rfl, hl9, hm9, h9⟩ := r9
    clear hR e8 e9 hce hcl hgm hl8 hm8 hl9 hm9
    obtain ⟨_, n1, n2⟩ := box3 w (.int .u32 ver) (.slice (some ⟨bg, og, none⟩) gs.length kg) (.slice ac chs.length kc) 26
    have hng : ¬ (gi : Int) < 0 := by omega
    have hlt0 : ¬ (gs.length : Int) ≤ gi := by omega
    have hbX := bone w (.cells #[.int .u32 ver, .slice (some ⟨bg, og, none⟩) gs.length kg, .slice ac chs.length kc] 26)
    have hzX : w.heap.size < (w.alloc (.cells #[.int .u32 ver, .slice (some ⟨bg, og, none⟩) gs.length kg, .slice ac chs.length kc] 26)).heap.size := by simp
    have q8W := cell_lt hbX q8 hbg
    go_enter Try.func19, Try.ntmps19
    go_wp2_with fail
    have b1 := n1
    have b2 := n2
    clear n1 n2 
    generalize w.alloc (.cells #[.int .u32 ver, .slice (some ⟨bg, og, none⟩) gs.length kg, .slice ac chs.length kc] 26) = X at *
    have hrow : ∀ b o u, b < w.heap.size → w.cell? ⟨b, o, none⟩ = some u → ∀ V, Below X.heap.size X V → V.cell? ⟨b, o, none⟩ = some u := fun b o u hb hc V hV => cell_lt hV (cell_lt hbX hc hb) (by omega)
    go_loopw [5, 26] (fun v5 i wr => ∃ k : Nat, k ≤ g.win.length ∧ i = .int .i64 k ∧ OwnTwo 42 wr X.heap.size v5 ((g.win.take k).map winS) ∧ Below X.heap.size X wr) (fun _ i _ => g.win.length - (intOf i).toNat)
    case atStart => exact ⟨0, Nat.zero_le _, rfl, OwnTwo.nil _ _ _, Below.refl _ _⟩
    case round =>
      clear q8W
      obtain ⟨k, hk, rfl, hown, hB⟩ := hrel
      obtain ⟨a5, c5, he⟩ := ownsRow_slice hown
      have hn5 : ((g.win.take k).map winS).length = k := by simp; omega
      rw [hn5] at he
      obtain ⟨n5, rfl⟩ : ∃ n5, n5 = k := ⟨_, rfl⟩
      subst he
      have hnL := hn5
      have hzB := hB.size
      by_cases hlt : n5 < g.win.length
      · obtain ⟨b, off, rfl, hb, hcell⟩ := h8 (by intro e; simp [e] at hlt)
        obtain ⟨cs, ⟨rfl, _⟩, hcl, hce⟩ := hcell n5 hlt
        have p0 : wr.cell? ⟨b, off + n5 * 4, none⟩ = some (.int .u64 g.win[n5].ipa) := hrow _ _ _ hb (hce 0 _ rfl) _ hB
        have p1 : wr.cell? ⟨b, off + n5 * 4 + 1, none⟩ = some (.int .u64 g.win[n5].pa) := hrow _ _ _ hb (hce 1 _ rfl) _ hB
        have p2 : wr.cell? ⟨b, off + n5 * 4 + 2, none⟩ = some (.int .u64 g.win[n5].sz) := hrow _ _ _ hb (hce 2 _ rfl) _ hB
        have p3 : wr.cell? ⟨b, off + n5 * 4 + 3, none⟩ = some (.int .i64 g.win[n5].perm) := hrow _ _ _ hb (hce 3 _ rfl) _ hB
        have hsn : (g.win.take (n5 + 1)).map winS = (g.win.take n5).map winS ++ [winS g.win[n5]] := by rw [List.take_succ_eq_append_getElem hlt, List.map_append]; rfl
        clear hce hcell hcl
        generalize g.win[n5] = x at *
        clear hn5
        generalize hLL : (g.win.take n5).map winS = L at *
        replace hnL := Lib.hid hnL
        generalize hLn : (g.win.take (n5 + 1)).map winS = Ln at *
        replace hLn := Lib.hid hLn
        replace hsn := Lib.hid hsn
        clear hLL
        go_wp2_with (at_builtin; go_must (refine wpl_append_two rfl _ _ 57 rfl X.heap.size 42 infoS16 Try.underlying57 (.slice a5 n5 c5) L (winS x) rfl rfl ?_ ?_ ⟨rfl, rfl⟩ ?_ ?_ ?_); go_must (focus (exact OwnTwo.alloc hown (.cells #[.int .u64 x.ipa, .int .u64 x.pa, .int .u64 x.sz, .int .i64 x.perm] 76))); go_must (focus (simp)); go_must (focus (have := hnL.out; omega)); go_must (focus (simp; omega)); intro v' w6 hown' hbel hgrow; obtain ⟨a6, c6, e6⟩ := ownsRow_slice hown'; rw [List.length_append, List.length_singleton, hnL.out] at e6; subst e6)
        have hB6 : Below X.heap.size X w6 := (hB.alloc hzB _).trans (hbel _ (Nat.le_refl _))
        go_roundw
        case rel => exact ⟨n5 + 1, by omega, by go_num, by rw [hLn.out, hsn.out]; exact hown', hB6⟩
        case measure => simp [intOf]; omega
      · obtain rfl : n5 = g.win.length := by omega
        rw [List.take_length] at hown
        have b1' := cell_lt hB b1 hzX
        have q9W := hrow _ _ _ hbg q9 _ hB
        have hown0 : OwnTwo 42 wr X.heap.size (.slice a5 g.win.length c5) (g.win.map winS ++ (g.dev.take 0).map devS) := by simpa using hown
        clear h8 hn5 hown hnL
        go_wp2_with fail
        go_loopw [5, 46] (fun v5 i wr => ∃ k : Nat, k ≤ g.dev.length ∧ i = .int .i64 k ∧ OwnTwo 42 wr X.heap.size v5 (g.win.map winS ++ (g.dev.take k).map devS) ∧ Below X.heap.size X wr) (fun _ i _ => g.dev.length - (intOf i).toNat)
        case atStart => exact ⟨0, Nat.zero_le _, rfl, hown0, hB⟩
        case round =>
          clear hown0 hB b1' q9W hzB
          obtain ⟨k, hk, rfl, hown, hB⟩ := hrel
          obtain ⟨a5, c5, he⟩ := ownsRow_slice hown
          have hn5 : (g.win.map winS ++ (g.dev.take k).map devS).length = g.win.length + k := by simp; omega
          generalize hn : (g.win.map winS ++ (g.dev.take k).map devS).length = n5 at he
          have hnL := hn
          rw [hn5] at hn
          clear hn5
          subst he
          have hzB := hB.size
          by_cases hlt : k < g.dev.length
          · obtain ⟨b, off, rfl, hb, hcell⟩ := h9 (by intro e; simp [e] at hlt)
            obtain ⟨cs, rfl, hcl, hce⟩ := hcell k hlt
            have p0 : wr.cell? ⟨b, off + k * 3, none⟩ = some (.int .u64 g.dev[k].ipa) := hrow _ _ _ hb (hce 0 _ rfl) _ hB
            have p1 : wr.cell? ⟨b, off + k * 3 + 1, none⟩ = some (.int .u64 g.dev[k].pa) := hrow _ _ _ hb (hce 1 _ rfl) _ hB
            have p2 : wr.cell? ⟨b, off + k * 3 + 2, none⟩ = some (.int .u64 g.dev[k].sz) := hrow _ _ _ hb (hce 2 _ rfl) _ hB
            have hsn : g.win.map winS ++ (g.dev.take (k + 1)).map devS = g.win.map winS ++ (g.dev.take k).map devS ++ [devS g.dev[k]] := by rw [List.take_succ_eq_append_getElem hlt, List.map_append, List.append_assoc]; rfl
            clear hce hcell hcl
            generalize g.dev[k] = x at *
            generalize hLL : g.win.map winS ++ (g.dev.take k).map devS = L at *
            replace hnL := Lib.hid hnL
            generalize hLn : g.win.map winS ++ (g.dev.take (k + 1)).map devS = Ln at *
            replace hLn := Lib.hid hLn
            replace hsn := Lib.hid hsn
            replace hn := Lib.hid hn
            clear hLL
            have hn5' : n5 < 4398046511104 := by have := hn.out; omega
            go_wp2_with (at_builtin; go_must (refine wpl_append_two rfl _ _ 57 rfl X.heap.size 42 infoS16 Try.underlying57 (.slice a5 n5 c5) L (devS x) rfl rfl ?_ ?_ ⟨rfl, rfl⟩ ?_ ?_ ?_); go_must (focus (exact OwnTwo.alloc hown (.cells #[.int .u64 x.ipa, .int .u64 x.pa, .int .u64 x.sz] 92))); go_must (focus (simp)); go_must (focus (have := hnL.out; omega)); go_must (focus (simp; omega)); intro v' w6 hown' hbel hgrow; obtain ⟨a6, c6, e6⟩ := ownsRow_slice hown'; rw [List.length_append, List.length_singleton, hnL.out] at e6; subst e6)
            have hB6 : Below X.heap.size X w6 := (hB.alloc hzB _).trans (hbel _ (Nat.le_refl _))
            go_roundw
            case rel => exact ⟨k + 1, by omega, by go_num, by rw [hLn.out, hsn.out]; exact hown', hB6⟩
            case measure => simp [intOf]; omega
          · obtain rfl : k = g.dev.length := by omega
            rw [List.take_length] at hown
            clear hn hnL
            go_wp2_with fail
            go_ret
            exact ⟨⟨_, rfl, OwnTwo.mono hown (by omega)⟩, hbX.trans (hB.mono (by omega))⟩
  · rw [phys_out hg]
    obtain ⟨ag, kg, rfl, _⟩ := id hG
    obtain ⟨ac, kc, rfl, _⟩ := id hC
    clear hG hC
    by_cases h0 : g0 < 0
    · go_enter Try.func19, Try.ntmps19
      go_wp2_with fail
      go_ret
      exact ⟨⟨_, rfl, OwnTwo.nil _ _ _⟩, bone _ _⟩
    · have h1 : (gs.length : Int) ≤ g0 := by omega
      go_enter Try.func19, Try.ntmps19
      go_wp2_with fail
      go_ret
      exact ⟨⟨_, rfl, OwnTwo.nil _ _ _⟩, bone _ _⟩
set_option maxRecDepth 100000 in
set_option maxHeartbeats 4000000 in
theorem shared16_any (ver : Int) (vg vc : Value) (gs : List GuestV) (chs : List ChV) (g0 : Int) (w : World) (hG : RowG w vg gs) (hC : RowC w vc chs) (hl40 : chs.length ≤ 1000000) :
    Calls Try.prog 20 #[.agg #[.int .u32 ver, vg, vc], .int .i64 g0] w fun e w' => (∃ v, e = .returned v ∧ OwnTwo 42 w' w.heap.size v (sharedV gs chs g0)) ∧ Below w.heap.size w w' := by
  by_cases hg : 0 ≤ g0 ∧ g0 < gs.length
  · obtain ⟨gi, rfl⟩ := Int.eq_ofNat_of_zero_le hg.1
    have hgi : gi < gs.length := by omega
    have hgst := fun W h => guest_any ver vg vc gs (gi : Int) W h
    have hgt : decide (0 ≤ (gi : Int) ∧ (gi : Int) < gs.length) = true := by simp; omega
    rw [hgt] at hgst
    have hgs := hgst _ (hG.below (bone w (.cells #[.int .u32 ver, vg, vc] 26)) lasts_guest)
    clear hgst hgt
    have hpe : sharedV gs chs gi = (chs.filter (namesB gi)).map chS := by unfold sharedV; rw [if_pos ⟨by omega, by omega⟩]
    rw [hpe]
    obtain ⟨ag, kg, rfl, _⟩ := id hG
    obtain ⟨ac, kc, rfl, hlc, hmc, hc⟩ := hC
    clear hpe
    obtain ⟨_, n1, n2⟩ := box3 w (.int .u32 ver) (.slice ag gs.length kg) (.slice ac chs.length kc) 26
    go_enter Try.func20, Try.ntmps20
    go_wp2_with fail
    refine hgs.mono ?_; rintro e X ⟨rfl, hb1⟩
    have b1 := cell_lt hb1 n1 (by simp)
    have b2 := cell_lt hb1 n2 (by simp)
    have hbX : Below w.heap.size w X := bnew hb1
    have hzX : w.heap.size < X.heap.size := by have := hb1.size; simp at this; omega
    clear hb1 n1 n2 hgs
    go_wp2_with fail
    have hrow : ∀ b o u, b < w.heap.size → w.cell? ⟨b, o, none⟩ = some u → ∀ V, Below X.heap.size X V → V.cell? ⟨b, o, none⟩ = some u := fun b o u hb hc V hV => cell_lt hV (cell_lt hbX hc hb) (by omega)
    clear b1 b2
    go_loopw [5, 15] (fun v5 i wr => ∃ k : Nat, k ≤ chs.length ∧ i = .int .i64 k ∧ OwnTwo 42 wr X.heap.size v5 (((chs.take k).filter (namesB gi)).map chS) ∧ Below X.heap.size X wr) (fun _ i _ => chs.length - (intOf i).toNat)
    case atStart => exact ⟨0, Nat.zero_le _, rfl, OwnTwo.nil _ _ _, Below.refl _ _⟩
    case round =>
      obtain ⟨k, hk, rfl, hown, hB⟩ := hrel
      obtain ⟨a5, c5, he⟩ := ownsRow_slice hown
      have hn5 : (((chs.take k).filter (namesB gi)).map chS).length ≤ k := by
        have := List.length_filter_le (namesB (gi : Int)) (chs.take k)
        simp only [List.length_map, List.length_take] at this ⊢; omega
      generalize hnL : (((chs.take k).filter (namesB gi)).map chS).length = n5 at he hn5
      subst he
      have hzB := hB.size
      by_cases hlt : k < chs.length
      · obtain ⟨b, off, rfl, hb, hcell⟩ := hc (by intro e; simp [e] at hlt)
        obtain ⟨cs, ⟨rfl, _⟩, hcl, hce⟩ := hcell k hlt
        have p0 : wr.cell? ⟨b, off + k * 8, none⟩ = some (.int .u64 chs[k].pa) := hrow _ _ _ hb (hce 0 _ rfl) _ hB
        have p1 : wr.cell? ⟨b, off + k * 8 + 1, none⟩ = some (.int .u64 chs[k].sz) := hrow _ _ _ hb (hce 1 _ rfl) _ hB
        have p2 : wr.cell? ⟨b, off + k * 8 + 2, none⟩ = some (.int .i64 chs[k].e0.g) := hrow _ _ _ hb (hce 2 _ rfl) _ hB
        have p3 : wr.cell? ⟨b, off + k * 8 + 3, none⟩ = some (.int .i64 chs[k].e0.perm) := hrow _ _ _ hb (hce 3 _ rfl) _ hB
        have p4 : wr.cell? ⟨b, off + k * 8 + 4, none⟩ = some (.int .u64 chs[k].e0.ipa) := hrow _ _ _ hb (hce 4 _ rfl) _ hB
        have p5 : wr.cell? ⟨b, off + k * 8 + 5, none⟩ = some (.int .i64 chs[k].e1.g) := hrow _ _ _ hb (hce 5 _ rfl) _ hB
        have p6 : wr.cell? ⟨b, off + k * 8 + 6, none⟩ = some (.int .i64 chs[k].e1.perm) := hrow _ _ _ hb (hce 6 _ rfl) _ hB
        have p7 : wr.cell? ⟨b, off + k * 8 + 7, none⟩ = some (.int .u64 chs[k].e1.ipa) := hrow _ _ _ hb (hce 7 _ rfl) _ hB
        have hsn := filt_succ (p := namesB (gi : Int)) hlt
        clear hce hcell hcl
        generalize chs[k] = c at *
        generalize hLL : (chs.take k).filter (namesB gi) = L at *
        replace hnL := Lib.hid hnL
        generalize hLn : (chs.take (k + 1)).filter (namesB gi) = Ln at *
        replace hLn := Lib.hid hLn
        clear hLL
        have hY : namesB gi c = true → Ln = L ++ [c] := fun h => by rw [hsn, if_pos h]
        have hN : namesB gi c = false → Ln = L := fun h => by rw [hsn, if_neg (by rw [h]; simp)]
        clear hsn
        by_cases h1 : c.e0.g = gi
        · have hq : (c.e0.g == (gi : Int)) = true := by simpa using h1
          have hy := Lib.hid (hY (by unfold namesB; simp [h1]))
          clear hY hN h1
          go_wp2_with (at_builtin; go_must (refine wpl_append_two rfl _ _ 57 rfl X.heap.size 42 infoS16 Try.underlying57 (.slice a5 n5 c5) (L.map chS) (chS c) rfl rfl ?_ ?_ ⟨rfl, rfl⟩ ?_ ?_ ?_); go_must (focus (exact OwnTwo.alloc hown (.cells #[.int .u64 c.pa, .int .u64 c.sz, .int .i64 c.e0.g, .int .i64 c.e0.perm, .int .u64 c.e0.ipa, .int .i64 c.e1.g, .int .i64 c.e1.perm, .int .u64 c.e1.ipa] 47))); go_must (focus (simp)); go_must (focus (have := hnL.out; omega)); go_must (focus (simp; omega)); intro v' w6 hown' hbel hgrow; obtain ⟨a6, c6, e6⟩ := ownsRow_slice hown'; rw [List.length_append, List.length_singleton, hnL.out] at e6; subst e6)
          have hB6 : Below X.heap.size X w6 := (hB.alloc hzB _).trans (hbel _ (Nat.le_refl _))
          go_roundw
          case rel => exact ⟨k + 1, by omega, by go_num, by rw [hLn.out, hy.out, List.map_append]; exact hown', hB6⟩
          case measure => simp [intOf]; omega
        · have hq : (c.e0.g == (gi : Int)) = false := by simpa using h1
          by_cases h2 : c.e1.g = gi
          · have hq2 : (c.e1.g == (gi : Int)) = true := by simpa using h2
            have hy := Lib.hid (hY (by unfold namesB; simp [h2]))
            clear hY hN h1 h2
            go_wp2_with (at_builtin; go_must (refine wpl_append_two rfl _ _ 57 rfl X.heap.size 42 infoS16 Try.underlying57 (.slice a5 n5 c5) (L.map chS) (chS c) rfl rfl ?_ ?_ ⟨rfl, rfl⟩ ?_ ?_ ?_); go_must (focus (exact OwnTwo.alloc hown (.cells #[.int .u64 c.pa, .int .u64 c.sz, .int .i64 c.e0.g, .int .i64 c.e0.perm, .int .u64 c.e0.ipa, .int .i64 c.e1.g, .int .i64 c.e1.perm, .int .u64 c.e1.ipa] 47))); go_must (focus (simp)); go_must (focus (have := hnL.out; omega)); go_must (focus (simp; omega)); intro v' w6 hown' hbel hgrow; obtain ⟨a6, c6, e6⟩ := ownsRow_slice hown'; rw [List.length_append, List.length_singleton, hnL.out] at e6; subst e6)
            have hB6 : Below X.heap.size X w6 := (hB.alloc hzB _).trans (hbel _ (Nat.le_refl _))
            go_roundw
            case rel => exact ⟨k + 1, by omega, by go_num, by rw [hLn.out, hy.out, List.map_append]; exact hown', hB6⟩
            case measure => simp [intOf]; omega
          · have hq2 : (c.e1.g == (gi : Int)) = false := by simpa using h2
            have hn := Lib.hid (hN (by unfold namesB; simp [h1, h2]))
            clear hY hN h1 h2
            have hown2 := OwnTwo.alloc hown (.cells #[.int .u64 c.pa, .int .u64 c.sz, .int .i64 c.e0.g, .int .i64 c.e0.perm, .int .u64 c.e0.ipa, .int .i64 c.e1.g, .int .i64 c.e1.perm, .int .u64 c.e1.ipa] 47)
            have hB2 := hB.alloc hzB (.cells #[.int .u64 c.pa, .int .u64 c.sz, .int .i64 c.e0.g, .int .i64 c.e0.perm, .int .u64 c.e0.ipa, .int .i64 c.e1.g, .int .i64 c.e1.perm, .int .u64 c.e1.ipa] 47)
            go_wp2_with fail
            go_roundw
            case rel => exact ⟨k + 1, by omega, by go_num, by rw [hLn.out, hn.out]; exact hown2, hB2⟩
            case measure => simp [intOf]; omega
      · obtain rfl : k = chs.length := by omega
        rw [List.take_length] at hown
        clear hnL
        go_wp2_with fail
        go_ret
        exact ⟨⟨_, rfl, OwnTwo.mono hown (by omega)⟩, hbX.trans (hB.mono (by omega))⟩
  · rw [shared_out hg]
    obtain ⟨ag, kg, rfl, _⟩ := id hG
    obtain ⟨ac, kc, rfl, _⟩ := id hC
    have hgst := fun W h => guest_any ver (.slice ag gs.length kg) (.slice ac chs.length kc) gs g0 W h
    rw [decide_eq_false hg] at hgst
    have hgs := hgst _ (hG.below (bone w (.cells #[.int .u32 ver, .slice ag gs.length kg, .slice ac chs.length kc] 26)) lasts_guest)
    clear hgst hG hC
    go_enter Try.func20, Try.ntmps20
    go_wp2_with fail
    refine hgs.mono ?_; rintro e w1 ⟨rfl, hb1⟩
    go_wp2_with fail
    go_ret
    exact ⟨⟨_, rfl, OwnTwo.nil _ _ _⟩, bnew hb1⟩
set_option maxRecDepth 100000 in
set_option maxHeartbeats 4000000 in
theorem refShared16_any (ver : Int) (vg vc : Value) (gs : List GuestV) (chs : List ChV) (g0 : Int) (w : World) (hG : RowG w vg gs) (hC : RowC w vc chs) (hl40 : chs.length ≤ 1000000) :
    Calls Try.prog 21 #[.agg #[.int .u32 ver, vg, vc], .int .i64 g0] w fun e w' => (∃ v, e = .returned v ∧ OwnTwo 42 w' w.heap.size v (sharedV gs chs g0)) ∧ Below w.heap.size w w' := by
  by_cases hg : 0 ≤ g0 ∧ g0 < gs.length
  · obtain ⟨gi, rfl⟩ := Int.eq_ofNat_of_zero_le hg.1
    have hgi : gi < gs.length := by omega
    have hpe : sharedV gs chs gi = (chs.filter (namesB gi)).map chS := by unfold sharedV; rw [if_pos ⟨by omega, by omega⟩]
    rw [hpe]
    obtain ⟨ag, kg, rfl, _⟩ := id hG
    obtain ⟨ac, kc, rfl, hlc, hmc, hc⟩ := hC
    clear hpe
    obtain ⟨_, n1, n2⟩ := box3 w (.int .u32 ver) (.slice ag gs.length kg) (.slice ac chs.length kc) 26
    have hng : ¬ (gi : Int) < 0 := by omega
    have hlt0 : ¬ (gs.length : Int) ≤ gi := by omega
    have hbX := bone w (.cells #[.int .u32 ver, .slice ag gs.length kg, .slice ac chs.length kc] 26)
    have hzX : w.heap.size < (w.alloc (.cells #[.int .u32 ver, .slice ag gs.length kg, .slice ac chs.length kc] 26)).heap.size := by simp
    go_enter Try.func21, Try.ntmps21
    go_wp2_with fail
    have b1 := n1
    have b2 := n2
    clear n1 n2 
    generalize w.alloc (.cells #[.int .u32 ver, .slice ag gs.length kg, .slice ac chs.length kc] 26) = X at *
    have hrow : ∀ b o u, b < w.heap.size → w.cell? ⟨b, o, none⟩ = some u → ∀ V, Below X.heap.size X V → V.cell? ⟨b, o, none⟩ = some u := fun b o u hb hc V hV => cell_lt hV (cell_lt hbX hc hb) (by omega)
    clear b1 b2
    go_loopw [5, 20] (fun v5 i wr => ∃ k : Nat, k ≤ chs.length ∧ i = .int .i64 k ∧ OwnTwo 42 wr X.heap.size v5 (((chs.take k).filter (namesB gi)).map chS) ∧ Below X.heap.size X wr) (fun _ i _ => chs.length - (intOf i).toNat)
    case atStart => exact ⟨0, Nat.zero_le _, rfl, OwnTwo.nil _ _ _, Below.refl _ _⟩
    case round =>
      obtain ⟨k, hk, rfl, hown, hB⟩ := hrel
      obtain ⟨a5, c5, he⟩ := ownsRow_slice hown
      have hn5 : (((chs.take k).filter (namesB gi)).map chS).length ≤ k := by
        have := List.length_filter_le (namesB (gi : Int)) (chs.take k)
        simp only [List.length_map, List.length_take] at this ⊢; omega
      generalize hnL : (((chs.take k).filter (namesB gi)).map chS).length = n5 at he hn5
      subst he
      have hzB := hB.size
      by_cases hlt : k < chs.length
      · obtain ⟨b, off, rfl, hb, hcell⟩ := hc (by intro e; simp [e] at hlt)
        obtain ⟨cs, ⟨rfl, _⟩, hcl, hce⟩ := hcell k hlt
        have p0 : wr.cell? ⟨b, off + k * 8, none⟩ = some (.int .u64 chs[k].pa) := hrow _ _ _ hb (hce 0 _ rfl) _ hB
        have p1 : wr.cell? ⟨b, off + k * 8 + 1, none⟩ = some (.int .u64 chs[k].sz) := hrow _ _ _ hb (hce 1 _ rfl) _ hB
        have p2 : wr.cell? ⟨b, off + k * 8 + 2, none⟩ = some (.int .i64 chs[k].e0.g) := hrow _ _ _ hb (hce 2 _ rfl) _ hB
        have p3 : wr.cell? ⟨b, off + k * 8 + 3, none⟩ = some (.int .i64 chs[k].e0.perm) := hrow _ _ _ hb (hce 3 _ rfl) _ hB
        have p4 : wr.cell? ⟨b, off + k * 8 + 4, none⟩ = some (.int .u64 chs[k].e0.ipa) := hrow _ _ _ hb (hce 4 _ rfl) _ hB
        have p5 : wr.cell? ⟨b, off + k * 8 + 5, none⟩ = some (.int .i64 chs[k].e1.g) := hrow _ _ _ hb (hce 5 _ rfl) _ hB
        have p6 : wr.cell? ⟨b, off + k * 8 + 6, none⟩ = some (.int .i64 chs[k].e1.perm) := hrow _ _ _ hb (hce 6 _ rfl) _ hB
        have p7 : wr.cell? ⟨b, off + k * 8 + 7, none⟩ = some (.int .u64 chs[k].e1.ipa) := hrow _ _ _ hb (hce 7 _ rfl) _ hB
        have hsn := filt_succ (p := namesB (gi : Int)) hlt
        clear hce hcell hcl
        generalize chs[k] = c at *
        generalize hLL : (chs.take k).filter (namesB gi) = L at *
        replace hnL := Lib.hid hnL
        generalize hLn : (chs.take (k + 1)).filter (namesB gi) = Ln at *
        replace hLn := Lib.hid hLn
        clear hLL
        have hY : namesB gi c = true → Ln = L ++ [c] := fun h => by rw [hsn, if_pos h]
        have hN : namesB gi c = false → Ln = L := fun h => by rw [hsn, if_neg (by rw [h]; simp)]
        clear hsn
        by_cases h1 : c.e0.g = gi
        · have hq : (c.e0.g == (gi : Int)) = true := by simpa using h1
          have hy := Lib.hid (hY (by unfold namesB; simp [h1]))
          clear hY hN h1
          go_wp2_with (at_builtin; go_must (refine wpl_append_two rfl _ _ 57 rfl X.heap.size 42 infoS16 Try.underlying57 (.slice a5 n5 c5) (L.map chS) (chS c) rfl rfl ?_ ?_ ⟨rfl, rfl⟩ ?_ ?_ ?_); go_must (focus (exact OwnTwo.alloc hown (.cells #[.int .u64 c.pa, .int .u64 c.sz, .int .i64 c.e0.g, .int .i64 c.e0.perm, .int .u64 c.e0.ipa, .int .i64 c.e1.g, .int .i64 c.e1.perm, .int .u64 c.e1.ipa] 47))); go_must (focus (simp)); go_must (focus (have := hnL.out; omega)); go_must (focus (simp; omega)); intro v' w6 hown' hbel hgrow; obtain ⟨a6, c6, e6⟩ := ownsRow_slice hown'; rw [List.length_append, List.length_singleton, hnL.out] at e6; subst e6)
          have hB6 : Below X.heap.size X w6 := (hB.alloc hzB _).trans (hbel _ (Nat.le_refl _))
          go_roundw
          case rel => exact ⟨k + 1, by omega, by go_num, by rw [hLn.out, hy.out, List.map_append]; exact hown', hB6⟩
          case measure => simp [intOf]; omega
        · have hq : (c.e0.g == (gi : Int)) = false := by simpa using h1
          by_cases h2 : c.e1.g = gi
          · have hq2 : (c.e1.g == (gi : Int)) = true := by simpa using h2
            have hy := Lib.hid (hY (by unfold namesB; simp [h2]))
            clear hY hN h1 h2
            go_wp2_with (at_builtin; go_must (refine wpl_append_two rfl _ _ 57 rfl X.heap.size 42 infoS16 Try.underlying57 (.slice a5 n5 c5) (L.map chS) (chS c) rfl rfl ?_ ?_ ⟨rfl, rfl⟩ ?_ ?_ ?_); go_must (focus (exact OwnTwo.alloc hown (.cells #[.int .u64 c.pa, .int .u64 c.sz, .int .i64 c.e0.g, .int .i64 c.e0.perm, .int .u64 c.e0.ipa, .int .i64 c.e1.g, .int .i64 c.e1.perm, .int .u64 c.e1.ipa] 47))); go_must (focus (simp)); go_must (focus (have := hnL.out; omega)); go_must (focus (simp; omega)); intro v' w6 hown' hbel hgrow; obtain ⟨a6, c6, e6⟩ := ownsRow_slice hown'; rw [List.length_append, List.length_singleton, hnL.out] at e6; subst e6)
            have hB6 : Below X.heap.size X w6 := (hB.alloc hzB _).trans (hbel _ (Nat.le_refl _))
            go_roundw
            case rel => exact ⟨k + 1, by omega, by go_num, by rw [hLn.out, hy.out, List.map_append]; exact hown', hB6⟩
            case measure => simp [intOf]; omega
          · have hq2 : (c.e1.g == (gi : Int)) = false := by simpa using h2
            have hn := Lib.hid (hN (by unfold namesB; simp [h1, h2]))
            clear hY hN h1 h2
            have hown2 := OwnTwo.alloc hown (.cells #[.int .u64 c.pa, .int .u64 c.sz, .int .i64 c.e0.g, .int .i64 c.e0.perm, .int .u64 c.e0.ipa, .int .i64 c.e1.g, .int .i64 c.e1.perm, .int .u64 c.e1.ipa] 47)
            have hB2 := hB.alloc hzB (.cells #[.int .u64 c.pa, .int .u64 c.sz, .int .i64 c.e0.g, .int .i64 c.e0.perm, .int .u64 c.e0.ipa, .int .i64 c.e1.g, .int .i64 c.e1.perm, .int .u64 c.e1.ipa] 47)
            go_wp2_with fail
            go_roundw
            case rel => exact ⟨k + 1, by omega, by go_num, by rw [hLn.out, hn.out]; exact hown2, hB2⟩
            case measure => simp [intOf]; omega
      · obtain rfl : k = chs.length := by omega
        rw [List.take_length] at hown
        clear hnL
        go_wp2_with fail
        go_ret
        exact ⟨⟨_, rfl, OwnTwo.mono hown (by omega)⟩, hbX.trans (hB.mono (by omega))⟩
  · rw [shared_out hg]
    obtain ⟨ag, kg, rfl, _⟩ := id hG
    obtain ⟨ac, kc, rfl, _⟩ := id hC
    clear hG hC
    by_cases h0 : g0 < 0
    · go_enter Try.func21, Try.ntmps21
      go_wp2_with fail
      go_ret
      exact ⟨⟨_, rfl, OwnTwo.nil _ _ _⟩, bone _ _⟩
    · have h1 : (gs.length : Int) ≤ g0 := by omega
      go_enter Try.func21, Try.ntmps21
      go_wp2_with fail
      go_ret
      exact ⟨⟨_, rfl, OwnTwo.nil _ _ _⟩, bone _ _⟩
end Go.Proofs.Ytokbplajcdkcpaa
