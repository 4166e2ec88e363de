/- Maps, of the program and of the reference, for any guest's number; chapter 16's example. -/
import Derived.Test.YtffdfeekpfmbeaaGreatValidChecksP4
import Derived.Test.YtffdfeekpfmbeaaGreatValidChecksP9
import Derived.Test.YtffdfeekpfmbeaaGreatValidChecksP12
import Derived.Test.YtffdfeekpfmbeaaGreatValidChecksP28
import Derived.Test.YtffdfeekpfmbeaaGreatValidChecksP29
namespace Go.Proofs.YtffdfeekpfmbeaaGreat
open Go Go.RowKit Go.Shelf Go.BigFrame

theorem few_parts {gs : List GuestV} {chs : List ChV} (h : fewV gs chs = true) (gi : Nat) (hg : gi < gs.length) : (partsV gs[gi] chs gi).length ≤ 120 := by
  unfold fewV at h
  simp only [Bool.and_eq_true, decide_eq_true_eq, List.all_eq_true] at h
  obtain ⟨_, h2, h3⟩ := h
  have h4 := h3 gs[gi] (List.getElem_mem hg)
  unfold fewG at h4
  simp only [Bool.and_eq_true, decide_eq_true_eq] at h4
  have key : ∀ l : List ChV, (l.flatMap (chM gi)).length ≤ l.length * 2 := by
    intro l
    induction l with
    | nil => simp
    | cons c l ih =>
      have : (chM (gi : Int) c).length ≤ 2 := by
        unfold chM endL
        rw [List.length_append]
        split <;> split <;> simp
      rw [List.flatMap_cons, List.length_append, List.length_cons]; omega
  have := key chs
  unfold partsV
  simp only [List.length_append, List.length_map]
  omega
theorem mapsP_in {gs : List GuestV} {chs : List ChV} {gi : Nat} (hg : gi < gs.length) : mapsP gs chs gi = checkM (sortedM (partsV gs[gi] chs gi)) := by
  unfold mapsP
  rw [if_pos ⟨by omega, by omega⟩, Int.toNat_natCast, getElem!_pos gs gi hg]
theorem mapsP_out {gs : List GuestV} {chs : List ChV} {g : Int} (hg : ¬ (0 ≤ g ∧ g < gs.length)) : mapsP gs chs g = ([], 1) := by
  unfold mapsP
  rw [if_neg hg]
def smallP (gs : List GuestV) (chs : List ChV) : Prop := ∀ (gi : Nat) (h : gi < gs.length), (partsV gs[gi] chs gi).length ≤ 1000000
theorem few_small {gs : List GuestV} {chs : List ChV} (h : fewV gs chs = true) : smallP gs chs := fun gi hg => by have := few_parts h gi hg; omega
set_option maxHeartbeats 1000000 in
theorem maps16_any (ver : Int) (vg vc : Value) (gs : List GuestV) (chs : List ChV) (g : Int) (w : World) (hG : RowG w vg gs) (hC : RowC w vc chs) (hs : smallP gs chs) :
    Calls Tryz.prog 29 #[.agg #[.int .u32 ver, vg, vc], .int .i64 g] w fun e w' => (∃ v, e = .returned (.tuple #[v, .int .i64 (mapsP gs chs g).2]) ∧ OwnM 108 w' w.heap.size v (mapsP gs chs g).1) ∧ Below w.heap.size w w' := by
  by_cases hg : 0 ≤ g ∧ g < gs.length
  · obtain ⟨gi, rfl⟩ := Int.eq_ofNat_of_zero_le hg.1
    have hgi : gi < gs.length := by omega
    rw [mapsP_in hgi]
    exact maps16_go ver vg vc gs chs gi w hG hC hgi (hs gi hgi)
  · rw [mapsP_out hg]
    have hgst := fun W h => guest_any ver vg vc gs g W h
    rw [decide_eq_false hg] at hgst
    have hG' := hG.below (bone w (.cells #[.int .u32 ver, vg, vc] 31)) lasts_guest
    have hgs := hgst _ hG'
    obtain ⟨ag, kg, rfl, _⟩ := id hG
    obtain ⟨ac, kc, rfl, _⟩ := id hC
    clear hgst hG' hG hC
    go_enter Tryz.func29, Tryz.ntmps29
    go_wp2_with fail
    refine hgs.mono ?_; rintro e w1 ⟨rfl, hb1⟩
    go_wp2_with fail
    refine bodyPost_ret (v := .tuple #[.slice none 0 0, .int .i64 1]) (by simp [results, Tryz.results29, go_sem]) rfl ⟨⟨.slice none 0 0, rfl, OwnM.nil _ _ _⟩, bnew hb1⟩
set_option maxHeartbeats 1000000 in
theorem refMaps16_any (ver : Int) (vg vc : Value) (gs : List GuestV) (chs : List ChV) (g : Int) (w : World) (hG : RowG w vg gs) (hC : RowC w vc chs) (hs : smallP gs chs) :
    Calls Tryz.prog 19 #[.agg #[.int .u32 ver, vg, vc], .int .i64 g] w fun e w' => (∃ v, e = .returned (.tuple #[v, .int .i64 (mapsP gs chs g).2]) ∧ OwnM 108 w' w.heap.size v (mapsP gs chs g).1) ∧ Below w.heap.size w w' := by
  by_cases hg : 0 ≤ g ∧ g < gs.length
  · obtain ⟨gi, rfl⟩ := Int.eq_ofNat_of_zero_le hg.1
    have hgi : gi < gs.length := by omega
    have hsm := hs gi hgi
    rw [mapsP_in hgi, ← putAll_eq _ (by omega)]
    exact refMaps16_go ver vg vc gs chs gi w hG hC hgi hsm
  · rw [mapsP_out hg]
    obtain ⟨ag, kg, rfl, _⟩ := id hG
    obtain ⟨ac, kc, rfl, _⟩ := id hC
    clear hG hC
    by_cases h0 : g < 0
    · go_enter Tryz.func19, Tryz.ntmps19
      go_wp2_with fail
      refine bodyPost_ret (v := .tuple #[.slice none 0 0, .int .i64 1]) (by simp [results, Tryz.results19, go_sem]) rfl ⟨⟨.slice none 0 0, rfl, OwnM.nil _ _ _⟩, bone _ _⟩
    · have h1 : (gs.length : Int) ≤ g := by omega
      go_enter Tryz.func19, Tryz.ntmps19
      go_wp2_with fail
      refine bodyPost_ret (v := .tuple #[.slice none 0 0, .int .i64 1]) (by simp [results, Tryz.results19, go_sem]) rfl ⟨⟨.slice none 0 0, rfl, OwnM.nil _ _ _⟩, bone _ _⟩
end Go.Proofs.YtffdfeekpfmbeaaGreat
/- Chapter 16's example; its laws' walks. -/
namespace Go.Proofs.YtffdfeekpfmbeaaGreat
open Go Go.RowKit Go.Shelf Go.BigFrame

theorem rowX_blk {α : Type} {C : Nat} {R : World → List Value → α → Prop} {w : World} {b n : Nat} {T : TypeId} {cells : Array Value} {l : List α} (hb : w.heap[b]? = some (.cells cells T (0, 0))) (hn : n = l.length) (hm : l.length ≤ maxLen)
    (h : ∀ i (hi : i < l.length), R w ((cells.toList.drop (i * C)).take C) l[i] ∧ ((cells.toList.drop (i * C)).take C).length = C) : RowX C R w (.slice (some ⟨b, 0, none⟩) n n) l := by
  subst hn
  refine ⟨_, _, rfl, Nat.le_refl _, hm, fun _ => ⟨b, 0, rfl, (Array.getElem?_eq_some_iff.1 hb).1, fun i hi => ?_⟩⟩
  obtain ⟨h1, h2⟩ := h i hi
  refine ⟨_, h1, h2, fun j u hu => ?_⟩
  have hj : j < C := by rw [← h2]; exact (List.getElem?_eq_some_iff.1 hu).1
  rw [List.getElem?_take, if_pos hj, List.getElem?_drop] at hu
  simp only [World.cell?, hb, Nat.zero_add]
  simpa using hu
theorem rowX_nil {α : Type} {C : Nat} {R : World → List Value → α → Prop} {w : World} : RowX C R w (.slice none 0 0) [] := ⟨none, 0, rfl, Nat.le_refl _, Nat.zero_le _, fun h => absurd rfl h⟩
theorem u32_0 : U32 0 := ⟨by decide, by decide⟩
end Go.Proofs.YtffdfeekpfmbeaaGreat
/- The walk of the statement RoomMaps. -/
namespace Go.Proofs.YtffdfeekpfmbeaaGreat
open Go Go.RowKit Go.Shelf Go.BigFrame

theorem box3 (w : World) (a b c : Value) (T : TypeId) : (w.alloc (.cells #[a, b, c] T)).cell? ⟨w.heap.size, 0, none⟩ = some a ∧ (w.alloc (.cells #[a, b, c] T)).cell? ⟨w.heap.size, 1, none⟩ = some b ∧ (w.alloc (.cells #[a, b, c] T)).cell? ⟨w.heap.size, 2, none⟩ = some c := by
  refine ⟨?_, ?_, ?_⟩ <;> simp [World.cell?_alloc_new]
end Go.Proofs.YtffdfeekpfmbeaaGreat
/- Physical and Shared, of the program and of the reference. -/
namespace Go.Proofs.YtffdfeekpfmbeaaGreat
open Go Go.RowKit Go.Shelf Go.BigFrame

def winS (x : WinV) : Two := ⟨x.pa, x.sz, x.hp, x.hs⟩
def devS (x : DevV) : Two := ⟨x.pa, x.sz, x.hp, x.hs⟩
def chS (x : ChV) : Two := ⟨x.pa, x.sz, x.hp, x.hs⟩
def physG (g : GuestV) : List Two := g.win.map winS ++ g.dev.map devS
def physV (gs : List GuestV) (g : Int) : List Two := if 0 ≤ g ∧ g < gs.length then physG gs[g.toNat]! else []
theorem phys_out {gs : List GuestV} {g : Int} (h : ¬ (0 ≤ g ∧ g < gs.length)) : physV gs g = [] := by unfold physV; rw [if_neg h]
set_option maxRecDepth 100000 in
set_option maxHeartbeats 4000000 in
theorem phys16_any (ver : Int) (vg vc : Value) (gs : List GuestV) (chs : List ChV) (g0 : Int) (w : World) (hG : RowG w vg gs) (hC : RowC w vc chs) (hs : smallP gs chs) :
    Calls Tryz.prog 63 #[.agg #[.int .u32 ver, vg, vc], .int .i64 g0] w fun e w' => (∃ v, e = .returned v ∧ OwnTwo 24 w' w.heap.size v (physV gs g0)) ∧ Below w.heap.size w w' := by
  by_cases hg : 0 ≤ g0 ∧ g0 < gs.length
  · obtain ⟨gi, rfl⟩ := Int.eq_ofNat_of_zero_le hg.1
    have hgi : gi < gs.length := by omega
    have hgst := fun W h => guest_any ver vg vc gs (gi : Int) W h
    have hgt : decide (0 ≤ (gi : Int) ∧ (gi : Int) < gs.length) = true := by simp; omega
    rw [hgt] at hgst
    have hgs := hgst _ (hG.below (bone w (.cells #[.int .u32 ver, vg, vc] 31)) lasts_guest)
    clear hgst hgt
    have hlen := hs gi hgi
    have hpe : physV gs gi = physG gs[gi] := by unfold physV; rw [if_pos ⟨by omega, by omega⟩, Int.toNat_natCast, getElem!_pos gs gi hgi]
    rw [hpe]
    obtain ⟨ag, kg, rfl, hgl, hgm, hgc⟩ := hG
    obtain ⟨ac, kc, rfl, _, _, _⟩ := hC
    obtain ⟨bg, og, rfl, hbg, hgc⟩ := hgc (by rintro rfl; simp at hgi)
    obtain ⟨cs, hR, hcl, hce⟩ := hgc gi hgi
    clear hgc hpe
    have hll : gs[gi].win.length + gs[gi].dev.length ≤ 1000000 := by unfold partsV at hlen; simp only [List.length_append, List.length_map] at hlen; omega
    clear hlen hs
    generalize gs[gi] = g at *
    obtain ⟨v8, e8, r8⟩ := hR.win
    obtain ⟨v9, e9, r9⟩ := hR.dev
    have q8 := hce _ _ e8
    have q9 := hce _ _ e9
    obtain ⟨a8, k8, rfl, hl8, hm8, h8⟩ := r8
    obtain ⟨a9, k9, rfl, hl9, hm9, h9⟩ := r9
    clear hR e8 e9 hce hcl hgm hl8 hm8 hl9 hm9
    obtain ⟨_, n1, n2⟩ := box3 w (.int .u32 ver) (.slice (some ⟨bg, og, none⟩) gs.length kg) (.slice ac chs.length kc) 31
    go_enter Tryz.func63, Tryz.ntmps63
    go_wp2_with fail
    refine hgs.mono ?_; rintro e X ⟨rfl, hb1⟩
    have b1 := cell_lt hb1 n1 (by simp)
    have b2 := cell_lt hb1 n2 (by simp)
    have hbX : Below w.heap.size w X := bnew hb1
    have hzX : w.heap.size < X.heap.size := by have := hb1.size; simp at this; omega
    clear hb1 n1 n2 hgs
    have q8W := cell_lt hbX q8 hbg
    go_wp2_with fail
    have hrow : ∀ b o u, b < w.heap.size → w.cell? ⟨b, o, none⟩ = some u → ∀ V, Below X.heap.size X V → V.cell? ⟨b, o, none⟩ = some u := fun b o u hb hc V hV => cell_lt hV (cell_lt hbX hc hb) (by omega)
    go_loopw [5, 21] (fun v5 i wr => ∃ k : Nat, k ≤ g.win.length ∧ i = .int .i64 k ∧ OwnTwo 24 wr X.heap.size v5 ((g.win.take k).map winS) ∧ Below X.heap.size X wr) (fun _ i _ => g.win.length - (intOf i).toNat)
    case atStart => exact ⟨0, Nat.zero_le _, rfl, OwnTwo.nil _ _ _, Below.refl _ _⟩
    case round =>
      clear q8W
      obtain ⟨k, hk, rfl, hown, hB⟩ := hrel
      obtain ⟨a5, c5, he⟩ := ownsRow_slice hown
      have hn5 : ((g.win.take k).map winS).length = k := by simp; omega
      rw [hn5] at he
      obtain ⟨n5, rfl⟩ : ∃ n5, n5 = k := ⟨_, rfl⟩
      subst he
      have hnL := hn5
      have hzB := hB.size
      by_cases hlt : n5 < g.win.length
      · obtain ⟨b, off, rfl, hb, hcell⟩ := h8 (by intro e; simp [e] at hlt)
        obtain ⟨cs, ⟨rfl, _⟩, hcl, hce⟩ := hcell n5 hlt
        have p0 : wr.cell? ⟨b, off + n5 * 4, none⟩ = some (.int .u64 g.win[n5].ipa) := hrow _ _ _ hb (hce 0 _ rfl) _ hB
        have p1 : wr.cell? ⟨b, off + n5 * 4 + 1, none⟩ = some (.int .u64 g.win[n5].pa) := hrow _ _ _ hb (hce 1 _ rfl) _ hB
        have p2 : wr.cell? ⟨b, off + n5 * 4 + 2, none⟩ = some (.int .u64 g.win[n5].sz) := hrow _ _ _ hb (hce 2 _ rfl) _ hB
        have p3 : wr.cell? ⟨b, off + n5 * 4 + 3, none⟩ = some (.int .i64 g.win[n5].perm) := hrow _ _ _ hb (hce 3 _ rfl) _ hB
        have hsn : (g.win.take (n5 + 1)).map winS = (g.win.take n5).map winS ++ [winS g.win[n5]] := by rw [List.take_succ_eq_append_getElem hlt, List.map_append]; rfl
        clear hce hcell hcl
        generalize g.win[n5] = x at *
        clear hn5
        generalize hLL : (g.win.take n5).map winS = L at *
        replace hnL := Lib.hid hnL
        generalize hLn : (g.win.take (n5 + 1)).map winS = Ln at *
        replace hLn := Lib.hid hLn
        replace hsn := Lib.hid hsn
        clear hLL
        go_wp2_with (at_builtin; go_must (refine wpl_append_two rfl _ _ 57 rfl X.heap.size 24 infoS16 Tryz.underlying57 (.slice a5 n5 c5) L (winS x) rfl rfl ?_ ?_ ⟨rfl, rfl⟩ ?_ ?_ ?_); go_must (focus (exact OwnTwo.alloc hown (.cells #[.int .u64 x.ipa, .int .u64 x.pa, .int .u64 x.sz, .int .i64 x.perm] 44))); go_must (focus (simp)); go_must (focus (have := hnL.out; omega)); go_must (focus (simp; omega)); intro v' w6 hown' hbel hgrow; obtain ⟨a6, c6, e6⟩ := ownsRow_slice hown'; rw [List.length_append, List.length_singleton, hnL.out] at e6; subst e6)
        have hB6 : Below X.heap.size X w6 := (hB.alloc hzB _).trans (hbel _ (Nat.le_refl _))
        go_roundw
        case rel => exact ⟨n5 + 1, by omega, by go_num, by rw [hLn.out, hsn.out]; exact hown', hB6⟩
        case measure => simp [intOf]; omega
      · obtain rfl : n5 = g.win.length := by omega
        rw [List.take_length] at hown
        have b1' := cell_lt hB b1 hzX
        have q9W := hrow _ _ _ hbg q9 _ hB
        have hown0 : OwnTwo 24 wr X.heap.size (.slice a5 g.win.length c5) (g.win.map winS ++ (g.dev.take 0).map devS) := by simpa using hown
        clear h8 hn5 hown hnL
        go_wp2_with fail
        go_loopw [5, 41] (fun v5 i wr => ∃ k : Nat, k ≤ g.dev.length ∧ i = .int .i64 k ∧ OwnTwo 24 wr X.heap.size v5 (g.win.map winS ++ (g.dev.take k).map devS) ∧ Below X.heap.size X wr) (fun _ i _ => g.dev.length - (intOf i).toNat)
        case atStart => exact ⟨0, Nat.zero_le _, rfl, hown0, hB⟩
        case round =>
          clear hown0 hB b1' q9W hzB
          obtain ⟨k, hk, rfl, hown, hB⟩ := hrel
          obtain ⟨a5, c5, he⟩ := ownsRow_slice hown
          have hn5 : (g.win.map winS ++ (g.dev.take k).map devS).length = g.win.length + k := by simp; omega
          generalize hn : (g.win.map winS ++ (g.dev.take k).map devS).length = n5 at he
          have hnL := hn
          rw [hn5] at hn
          clear hn5
          subst he
          have hzB := hB.size
          by_cases hlt : k < g.dev.length
          · obtain ⟨b, off, rfl, hb, hcell⟩ := h9 (by intro e; simp [e] at hlt)
            obtain ⟨cs, rfl, hcl, hce⟩ := hcell k hlt
            have p0 : wr.cell? ⟨b, off + k * 3, none⟩ = some (.int .u64 g.dev[k].ipa) := hrow _ _ _ hb (hce 0 _ rfl) _ hB
            have p1 : wr.cell? ⟨b, off + k * 3 + 1, none⟩ = some (.int .u64 g.dev[k].pa) := hrow _ _ _ hb (hce 1 _ rfl) _ hB
            have p2 : wr.cell? ⟨b, off + k * 3 + 2, none⟩ = some (.int .u64 g.dev[k].sz) := hrow _ _ _ hb (hce 2 _ rfl) _ hB
            have hsn : g.win.map winS ++ (g.dev.take (k + 1)).map devS = g.win.map winS ++ (g.dev.take k).map devS ++ [devS g.dev[k]] := by rw [List.take_succ_eq_append_getElem hlt, List.map_append, List.append_assoc]; rfl
            clear hce hcell hcl
            generalize g.dev[k] = x at *
            generalize hLL : g.win.map winS ++ (g.dev.take k).map devS = L at *
            replace hnL := Lib.hid hnL
            generalize hLn : g.win.map winS ++ (g.dev.take (k + 1)).map devS = Ln at *
            replace hLn := Lib.hid hLn
            replace hsn := Lib.hid hsn
            replace hn := Lib.hid hn
            clear hLL
            have hn5' : n5 < 4398046511104 := by have := hn.out; omega
            go_wp2_with (at_builtin; go_must (refine wpl_append_two rfl _ _ 57 rfl X.heap.size 24 infoS16 Tryz.underlying57 (.slice a5 n5 c5) L (devS x) rfl rfl ?_ ?_ ⟨rfl, rfl⟩ ?_ ?_ ?_); go_must (focus (exact OwnTwo.alloc hown (.cells #[.int .u64 x.ipa, .int .u64 x.pa, .int .u64 x.sz] 98))); go_must (focus (simp)); go_must (focus (have := hnL.out; omega)); go_must (focus (simp; omega)); intro v' w6 hown' hbel hgrow; obtain ⟨a6, c6, e6⟩ := ownsRow_slice hown'; rw [List.length_append, List.length_singleton, hnL.out] at e6; subst e6)
            have hB6 : Below X.heap.size X w6 := (hB.alloc hzB _).trans (hbel _ (Nat.le_refl _))
            go_roundw
            case rel => exact ⟨k + 1, by omega, by go_num, by rw [hLn.out, hsn.out]; exact hown', hB6⟩
            case measure => simp [intOf]; omega
          · obtain rfl : k = g.dev.length := by omega
            rw [List.take_length] at hown
            clear hn hnL
            go_wp2_with fail
            go_ret
            exact ⟨⟨_, rfl, OwnTwo.mono hown (by omega)⟩, hbX.trans (hB.mono (by omega))⟩
  · rw [phys_out hg]
    obtain ⟨ag, kg, rfl, _⟩ := id hG
    obtain ⟨ac, kc, rfl, _⟩ := id hC
    have hgst := fun W h => guest_any ver (.slice ag gs.length kg) (.slice ac chs.length kc) gs g0 W h
    rw [decide_eq_false hg] at hgst
    have hgs := hgst _ (hG.below (bone w (.cells #[.int .u32 ver, .slice ag gs.length kg, .slice ac chs.length kc] 31)) lasts_guest)
    clear hgst hG hC
    go_enter Tryz.func63, Tryz.ntmps63
    go_wp2_with fail
    refine hgs.mono ?_; rintro e w1 ⟨rfl, hb1⟩
    go_wp2_with fail
    go_ret
    exact ⟨⟨_, rfl, OwnTwo.nil _ _ _⟩, bnew hb1⟩
set_option maxRecDepth 100000 in
set_option maxHeartbeats 4000000 in
theorem refPhys16_any (ver : Int) (vg vc : Value) (gs : List GuestV) (chs : List ChV) (g0 : Int) (w : World) (hG : RowG w vg gs) (hC : RowC w vc chs) (hs : smallP gs chs) :
    Calls Tryz.prog 40 #[.agg #[.int .u32 ver, vg, vc], .int .i64 g0] w fun e w' => (∃ v, e = .returned v ∧ OwnTwo 24 w' w.heap.size v (physV gs g0)) ∧ Below w.heap.size w w' := by
  by_cases hg : 0 ≤ g0 ∧ g0 < gs.length
  · obtain ⟨gi, rfl⟩ := Int.eq_ofNat_of_zero_le hg.1
    have hgi : gi < gs.length := by omega
    have hlen := hs gi hgi
    have hpe : physV gs gi = physG gs[gi] := by unfold physV; rw [if_pos ⟨by omega, by omega⟩, Int.toNat_natCast, getElem!_pos gs gi hgi]
    rw [hpe]
    obtain ⟨ag, kg, rfl, hgl, hgm, hgc⟩ := hG
    obtain ⟨ac, kc, rfl, _, _, _⟩ := hC
    obtain ⟨bg, og, rfl, hbg, hgc⟩ := hgc (by rintro rfl; simp at hgi)
    obtain ⟨cs, hR, hcl, hce⟩ := hgc gi hgi
    clear hgc hpe
    have hll : gs[gi].win.length + gs[gi].dev.length ≤ 1000000 := by unfold partsV at hlen; simp only [List.length_append, List.length_map] at hlen; omega
    clear hlen hs
    generalize gs[gi] = g at *
    obtain ⟨v8, e8, r8⟩ := hR.win
    obtain ⟨v9, e9, r9⟩ := hR.dev
    have q8 := hce _ _ e8
    have q9 := hce _ _ e9
    obtain ⟨a8, k8, rfl, hl8, hm8, h8⟩ := r8
    obtain ⟨a9, k9, rfl, hl9, hm9, h9⟩ := r9
    clear hR e8 e9 hce hcl hgm hl8 hm8 hl9 hm9
    obtain ⟨_, n1, n2⟩ := box3 w (.int .u32 ver) (.slice (some ⟨bg, og, none⟩) gs.length kg) (.slice ac chs.length kc) 31
    have hng : ¬ (gi : Int) < 0 := by omega
    have hlt0 : ¬ (gs.length : Int) ≤ gi := by omega
    have hbX := bone w (.cells #[.int .u32 ver, .slice (some ⟨bg, og, none⟩) gs.length kg, .slice ac chs.length kc] 31)
    have hzX : w.heap.size < (w.alloc (.cells #[.int .u32 ver, .slice (some ⟨bg, og, none⟩) gs.length kg, .slice ac chs.length kc] 31)).heap.size := by simp
    have q8W := cell_lt hbX q8 hbg
    go_enter Tryz.func40, Tryz.ntmps40
    go_wp2_with fail
    have b1 := n1
    have b2 := n2
    clear n1 n2 
    generalize w.alloc (.cells #[.int .u32 ver, .slice (some ⟨bg, og, none⟩) gs.length kg, .slice ac chs.length kc] 31) = X at *
    have hrow : ∀ b o u, b < w.heap.size → w.cell? ⟨b, o, none⟩ = some u → ∀ V, Below X.heap.size X V → V.cell? ⟨b, o, none⟩ = some u := fun b o u hb hc V hV => cell_lt hV (cell_lt hbX hc hb) (by omega)
    go_loopw [5, 26] (fun v5 i wr => ∃ k : Nat, k ≤ g.win.length ∧ i = .int .i64 k ∧ OwnTwo 24 wr X.heap.size v5 ((g.win.take k).map winS) ∧ Below X.heap.size X wr) (fun _ i _ => g.win.length - (intOf i).toNat)
    case atStart => exact ⟨0, Nat.zero_le _, rfl, OwnTwo.nil _ _ _, Below.refl _ _⟩
    case round =>
      clear q8W
      obtain ⟨k, hk, rfl, hown, hB⟩ := hrel
      obtain ⟨a5, c5, he⟩ := ownsRow_slice hown
      have hn5 : ((g.win.take k).map winS).length = k := by simp; omega
      rw [hn5] at he
      obtain ⟨n5, rfl⟩ : ∃ n5, n5 = k := ⟨_, rfl⟩
      subst he
      have hnL := hn5
      have hzB := hB.size
      by_cases hlt : n5 < g.win.length
      · obtain ⟨b, off, rfl, hb, hcell⟩ := h8 (by intro e; simp [e] at hlt)
        obtain ⟨cs, ⟨rfl, _⟩, hcl, hce⟩ := hcell n5 hlt
        have p0 : wr.cell? ⟨b, off + n5 * 4, none⟩ = some (.int .u64 g.win[n5].ipa) := hrow _ _ _ hb (hce 0 _ rfl) _ hB
        have p1 : wr.cell? ⟨b, off + n5 * 4 + 1, none⟩ = some (.int .u64 g.win[n5].pa) := hrow _ _ _ hb (hce 1 _ rfl) _ hB
        have p2 : wr.cell? ⟨b, off + n5 * 4 + 2, none⟩ = some (.int .u64 g.win[n5].sz) := hrow _ _ _ hb (hce 2 _ rfl) _ hB
        have p3 : wr.cell? ⟨b, off + n5 * 4 + 3, none⟩ = some (.int .i64 g.win[n5].perm) := hrow _ _ _ hb (hce 3 _ rfl) _ hB
        have hsn : (g.win.take (n5 + 1)).map winS = (g.win.take n5).map winS ++ [winS g.win[n5]] := by rw [List.take_succ_eq_append_getElem hlt, List.map_append]; rfl
        clear hce hcell hcl
        generalize g.win[n5] = x at *
        clear hn5
        generalize hLL : (g.win.take n5).map winS = L at *
        replace hnL := Lib.hid hnL
        generalize hLn : (g.win.take (n5 + 1)).map winS = Ln at *
        replace hLn := Lib.hid hLn
        replace hsn := Lib.hid hsn
        clear hLL
        go_wp2_with (at_builtin; go_must (refine wpl_append_two rfl _ _ 57 rfl X.heap.size 24 infoS16 Tryz.underlying57 (.slice a5 n5 c5) L (winS x) rfl rfl ?_ ?_ ⟨rfl, rfl⟩ ?_ ?_ ?_); go_must (focus (exact OwnTwo.alloc hown (.cells #[.int .u64 x.ipa, .int .u64 x.pa, .int .u64 x.sz, .int .i64 x.perm] 44))); go_must (focus (simp)); go_must (focus (have := hnL.out; omega)); go_must (focus (simp; omega)); intro v' w6 hown' hbel hgrow; obtain ⟨a6, c6, e6⟩ := ownsRow_slice hown'; rw [List.length_append, List.length_singleton, hnL.out] at e6; subst e6)
        have hB6 : Below X.heap.size X w6 := (hB.alloc hzB _).trans (hbel _ (Nat.le_refl _))
        go_roundw
        case rel => exact ⟨n5 + 1, by omega, by go_num, by rw [hLn.out, hsn.out]; exact hown', hB6⟩
        case measure => simp [intOf]; omega
      · obtain rfl : n5 = g.win.length := by omega
        rw [List.take_length] at hown
        have b1' := cell_lt hB b1 hzX
        have q9W := hrow _ _ _ hbg q9 _ hB
        have hown0 : OwnTwo 24 wr X.heap.size (.slice a5 g.win.length c5) (g.win.map winS ++ (g.dev.take 0).map devS) := by simpa using hown
        clear h8 hn5 hown hnL
        go_wp2_with fail
        go_loopw [5, 46] (fun v5 i wr => ∃ k : Nat, k ≤ g.dev.length ∧ i = .int .i64 k ∧ OwnTwo 24 wr X.heap.size v5 (g.win.map winS ++ (g.dev.take k).map devS) ∧ Below X.heap.size X wr) (fun _ i _ => g.dev.length - (intOf i).toNat)
        case atStart => exact ⟨0, Nat.zero_le _, rfl, hown0, hB⟩
        case round =>
          clear hown0 hB b1' q9W hzB
          obtain ⟨k, hk, rfl, hown, hB⟩ := hrel
          obtain ⟨a5, c5, he⟩ := ownsRow_slice hown
          have hn5 : (g.win.map winS ++ (g.dev.take k).map devS).length = g.win.length + k := by simp; omega
          generalize hn : (g.win.map winS ++ (g.dev.take k).map devS).length = n5 at he
          have hnL := hn
          rw [hn5] at hn
          clear hn5
          subst he
          have hzB := hB.size
          by_cases hlt : k < g.dev.length
          · obtain ⟨b, off, rfl, hb, hcell⟩ := h9 (by intro e; simp [e] at hlt)
            obtain ⟨cs, rfl, hcl, hce⟩ := hcell k hlt
            have p0 : wr.cell? ⟨b, off + k * 3, none⟩ = some (.int .u64 g.dev[k].ipa) := hrow _ _ _ hb (hce 0 _ rfl) _ hB
            have p1 : wr.cell? ⟨b, off + k * 3 + 1, none⟩ = some (.int .u64 g.dev[k].pa) := hrow _ _ _ hb (hce 1 _ rfl) _ hB
            have p2 : wr.cell? ⟨b, off + k * 3 + 2, none⟩ = some (.int .u64 g.dev[k].sz) := hrow _ _ _ hb (hce 2 _ rfl) _ hB
            have hsn : g.win.map winS ++ (g.dev.take (k + 1)).map devS = g.win.map winS ++ (g.dev.take k).map devS ++ [devS g.dev[k]] := by rw [List.take_succ_eq_append_getElem hlt, List.map_append, List.append_assoc]; rfl
            clear hce hcell hcl
            generalize g.dev[k] = x at *
            generalize hLL : g.win.map winS ++ (g.dev.take k).map devS = L at *
            replace hnL := Lib.hid hnL
            generalize hLn : g.win.map winS ++ (g.dev.take (k + 1)).map devS = Ln at *
            replace hLn := Lib.hid hLn
            replace hsn := Lib.hid hsn
            replace hn := Lib.hid hn
            clear hLL
            have hn5' : n5 < 4398046511104 := by have := hn.out; omega
            go_wp2_with (at_builtin; go_must (refine wpl_append_two rfl _ _ 57 rfl X.heap.size 24 infoS16 Tryz.underlying57 (.slice a5 n5 c5) L (devS x) rfl rfl ?_ ?_ ⟨rfl, rfl⟩ ?_ ?_ ?_); go_must (focus (exact OwnTwo.alloc hown (.cells #[.int .u64 x.ipa, .int .u64 x.pa, .int .u64 x.sz] 98))); go_must (focus (simp)); go_must (focus (have := hnL.out; omega)); go_must (focus (simp; omega)); intro v' w6 hown' hbel hgrow; obtain ⟨a6, c6, e6⟩ := ownsRow_slice hown'; rw [List.length_append, List.length_singleton, hnL.out] at e6; subst e6)
            have hB6 : Below X.heap.size X w6 := (hB.alloc hzB _).trans (hbel _ (Nat.le_refl _))
            go_roundw
            case rel => exact ⟨k + 1, by omega, by go_num, by rw [hLn.out, hsn.out]; exact hown', hB6⟩
            case measure => simp [intOf]; omega
          · obtain rfl : k = g.dev.length := by omega
            rw [List.take_length] at hown
            clear hn hnL
            go_wp2_with fail
            go_ret
            exact ⟨⟨_, rfl, OwnTwo.mono hown (by omega)⟩, hbX.trans (hB.mono (by omega))⟩
  · rw [phys_out hg]
    obtain ⟨ag, kg, rfl, _⟩ := id hG
    obtain ⟨ac, kc, rfl, _⟩ := id hC
    clear hG hC
    by_cases h0 : g0 < 0
    · go_enter Tryz.func40, Tryz.ntmps40
      go_wp2_with fail
      go_ret
      exact ⟨⟨_, rfl, OwnTwo.nil _ _ _⟩, bone _ _⟩
    · have h1 : (gs.length : Int) ≤ g0 := by omega
      go_enter Tryz.func40, Tryz.ntmps40
      go_wp2_with fail
      go_ret
      exact ⟨⟨_, rfl, OwnTwo.nil _ _ _⟩, bone _ _⟩
end Go.Proofs.YtffdfeekpfmbeaaGreat
