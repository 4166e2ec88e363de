/- The program's sweep: the walk. -/
import Derived.Test.YtdlpgonpikflfaaDoorSwpC
namespace Go.Proofs.YtdlpgonpikflfaaDoor
open Go Go.RowKit Go.Shelf Go.BigFrame

attribute [local go_sem] Oper.semAt_some

/-- Two cells. -/
structure CellsAre (b o b' o' : Nat) (v v' : Value) where
  x : World
  h : x.cell? ⟨b, o, none⟩ = some v
  h' : x.cell? ⟨b', o', none⟩ = some v'
theorem rowSlice {w : World} {base size n : Nat} {E : TypeId} {v : Value} {xs : List Value} (h : w.ownsRow base E size v n xs) : ∃ (a : Option Addr) (c : Nat), v = .slice a n c := by
  obtain ⟨_, ⟨rfl, rfl⟩ | ⟨g, cap, cur, hv, _⟩⟩ := h
  · exact ⟨none, 0, rfl⟩
  · exact ⟨_, _, hv⟩
theorem infoU64 : (Tryd.prog.info? 23).map (fun i => (i.zero, i.size, i.bytes)) = some (some (.int .u64 0), 1, 8) := by kernel_rfl

section
variable {σ : Type} {len : σ → Nat} {step : σ → M5 → σ} {n0 : Nat}
set_option maxRecDepth 100000 in
set_option maxHeartbeats 4000000 in
theorem sweep_any (Z : PutsP n0 σ len step) (wb : Nat) (p : Option Addr) (rd : Int → Int × Int) (w0 : World) (hrd : Reads (.pointer p) rd n0 w0) (hT : Tab3 w0) (hT0 : 0 < n0) (pf : Nat) (pb : Array Value) (hput : Puts Z pf pb) :
    ∀ (D : Nat) (t : Int) (n : Nat) (k : Int) (ipa : Int) (s : Sw σ) (W : World), k = 4 - (D : Int) → 1 ≤ k → k ≤ 3 → n ≤ 1024 → W64 t → 0 ≤ ipa → ipa + n * szV k ≤ 1099511627776 → SwP Z wb (.pointer p) 23 66 s W → Below n0 w0 W → SwOk len s 0 →
      Calls Tryd.prog 28 #[.pointer (some ⟨wb, 0, none⟩), .int .u64 t, .int .i64 n, .int .i64 k, .int .u64 ipa, .func (.func pf) #[] pb] W fun e W' => (∃ v, e = .returned v) ∧ SwP Z wb (.pointer p) 23 66 (sw rd step D t n k ipa s) W' ∧ Fr (Both2 (OwnW wb) Z.O) W W' := by
  intro D
  induction D with
  | zero => intro t n k ipa s W hk h1 h3; omega
  | succ D ih =>
    intro t n k ipa s W hk h1 h3 hn ht hi0 hi1 hs hW hok
    obtain ⟨tabs, long, st⟩ := s
    obtain ⟨v0, hv0, hr0⟩ := hs.wk.row
    obtain ⟨xa, xc, rfl⟩ := rowSlice hr0
    have hwl := hs.wk.lt
    obtain ⟨W1, hW1⟩ : ∃ W1, W1 = (((W.alloc (.cells #[.pointer (some ⟨wb, 0, none⟩)] 110)).alloc (.cells #[.int .i64 k] 3)).alloc (.cells #[.int .u64 ipa] 23)).alloc (.cells #[.func (.func pf) #[] pb] 78) := ⟨_, rfl⟩
    obtain ⟨b0, b1, b2, b3, hz1, hB1⟩ := box_four W W1 _ _ _ _ _ _ _ _ hW1
    obtain ⟨hs1, hf1⟩ := hs.later hB1
    simp only at hv0 hr0
    have c1 : W1.cell? ⟨wb, 1, none⟩ = some (.slice xa tabs.length xc) := cell_lt hB1 (by simp [World.cell?, hv0]) hwl
    have c2 : W1.cell? ⟨wb, 2, none⟩ = some (.bool long) := cell_lt hB1 (by simp [World.cell?, hv0]) hwl
    replace hk := Lib.hid hk
    by_cases hL : (long || decide (tabs.length = 2000)) = true
    · have hsw : sw rd step (D + 1) t n k ipa ⟨tabs, long, st⟩ = ⟨tabs, true, st⟩ := by
        unfold sw; rw [if_pos (by simpa using hL)]
      rw [hsw]
      clear hsw ih
      refine (callsIn_wide (n := 9)).1 ?_
      refine callsIn_of_wp_marks Tryd.func28 rfl trivial ?_ rfl
      simp only [Tryd.ntmps28, List.size_toArray, List.length_cons, List.length_nil, Nat.reduceAdd, Nat.reduceSub, Array.replicate_succ, Array.replicate_zero, List.push_toArray, List.append_toArray, List.nil_append, List.cons_append]
      gi_wp2
      rw [← hW1]
      clear hW1
      refine region_later_tail_in W1.heap.size W1 15 (Below.refl _ _) rfl (by kernel_rfl) (by kernel_rfl) ?_
      have y0 := later_cell (B := W1.heap.size) b0 (by omega)
      have y1 := later_cell (B := W1.heap.size) c1 (by omega)
      have y2 := later_cell (B := W1.heap.size) c2 (by omega)
      simp only [List.take_succ_cons, List.take_zero, List.drop_succ_cons, List.drop_zero]
      have hE : ∀ x : Later W1.heap.size W1, ∃ W3, W3 = x.x.setCell ⟨wb, 2, none⟩ (.bool true) ∧ W3.cell? ⟨W.heap.size, 0, none⟩ = some (.pointer (some ⟨wb, 0, none⟩)) ∧ W3.cell? ⟨wb, 2, none⟩ = some (.bool true) ∧ x.x.frozen? ⟨wb, 2, none⟩ = false ∧ x.x.cell? ⟨wb, 2, none⟩ = some (.bool long) ∧ SwP Z wb (.pointer p) 23 66 ⟨tabs, true, st⟩ W3 ∧ Fr (Both2 (OwnW wb) Z.O) W W3 := by
        intro x
        obtain ⟨hs2, hf2⟩ := hs1.later x.h
        obtain ⟨hs3, hf3⟩ := hs2.mark true
        obtain ⟨v2, hv2, _⟩ := hs2.wk.row
        obtain ⟨v3, hv3, _⟩ := hs3.wk.row
        refine ⟨_, rfl, ?_, by simp [World.cell?, hv3], by simp [World.frozen?, hv2], by simp [World.cell?, hv2], hs3, (hf1.trans hf2).trans hf3⟩
        refine (World.cell?_of_block (Below.heap_setCell _ ⟨wb, 2, none⟩ _ _ ?_)).trans (cell_lt x.h b0 (by omega))
        show W.heap.size ≠ wb
        omega
      rcases long with _ | _
      · have hq : ((tabs.length : Int) == 2000) = true := by simp at hL; simp; omega
        repeat (refine wpQuietIn_step (fun _ _ _ _ => trivial) (fun K hK => ?_); go_simp; first | (refine hK _ ?_; clear hK K))
        refine wpQuietIn_nil ?_
        first | (rintro _ ⟨X, rfl⟩) | (intro X)
        obtain ⟨_, rfl, g0, g2, gf, gc, hS3, hF3⟩ := hE X
        clear y0 y1 y2 hE
        generalize X.x = w3 at *
        gi_wp2
        exact ⟨_, results_none rfl _ _ _, ⟨_, rfl⟩, hS3, hF3⟩
      · repeat (refine wpQuietIn_step (fun _ _ _ _ => trivial) (fun K hK => ?_); go_simp; first | (refine hK _ ?_; clear hK K))
        refine wpQuietIn_nil ?_
        first | (rintro _ ⟨X, rfl⟩) | (intro X)
        obtain ⟨_, rfl, g0, g2, gf, gc, hS3, hF3⟩ := hE X
        clear y0 y1 y2 hE
        generalize X.x = w3 at *
        gi_wp2
        exact ⟨_, results_none rfl _ _ _, ⟨_, rfl⟩, hS3, hF3⟩
    · obtain ⟨rfl, hln⟩ : long = false ∧ tabs.length ≠ 2000 := by
        simp at hL; exact hL
      have hsw : sw rd step (D + 1) t n k ipa ⟨tabs, false, st⟩ = (descsV rd k t n).foldl (swX step (fun t' a' => sw rd step D t' 512 (k + 1) a') k ipa) ⟨tabs ++ [t], false, st⟩ := by
        show (if _ then _ else _) = _
        rw [if_neg (by simp; exact hln)]
      rw [hsw]
      clear hsw hL
      have hq : ((tabs.length : Int) == 2000) = false := by simp; omega
      refine (callsIn_wide (n := 9)).1 ?_
      refine callsIn_of_wp_marks Tryd.func28 rfl trivial ?_ rfl
      simp only [Tryd.ntmps28, List.size_toArray, List.length_cons, List.length_nil, Nat.reduceAdd, Nat.reduceSub, Array.replicate_succ, Array.replicate_zero, List.push_toArray, List.append_toArray, List.nil_append, List.cons_append]
      gi_wp2
      rw [← hW1]
      clear hW1
      refine region_later_tail_in W1.heap.size W1 15 (Below.refl _ _) rfl (by kernel_rfl) (by kernel_rfl) ?_
      have y0 := later_cell (B := W1.heap.size) b0 (by omega)
      have y1 := later_cell (B := W1.heap.size) c1 (by omega)
      have y2 := later_cell (B := W1.heap.size) c2 (by omega)
      simp only [List.take_succ_cons, List.take_zero, List.drop_succ_cons, List.drop_zero]
      have hE : ∀ x : Later W1.heap.size W1, ∃ W3, W3 = x.x.setCell ⟨wb, 2, none⟩ (.bool false) ∧ W3.cell? ⟨W.heap.size, 0, none⟩ = some (.pointer (some ⟨wb, 0, none⟩)) ∧ W3.cell? ⟨wb, 2, none⟩ = some (.bool false) ∧ x.x.frozen? ⟨wb, 2, none⟩ = false ∧ x.x.cell? ⟨wb, 2, none⟩ = some (.bool false) ∧ W3.cell? ⟨wb, 1, none⟩ = some (.slice xa tabs.length xc) ∧ W3.cell? ⟨W.heap.size + 1, 0, none⟩ = some (.int .i64 k) ∧ W3.cell? ⟨W.heap.size + 1 + 1, 0, none⟩ = some (.int .u64 ipa) ∧ W3.cell? ⟨W.heap.size + 1 + 1 + 1, 0, none⟩ = some (.func (.func pf) #[] pb) ∧ W.heap.size + 4 ≤ W3.heap.size ∧ SwP Z wb (.pointer p) 23 66 ⟨tabs, false, st⟩ W3 ∧ Fr (Both2 (OwnW wb) Z.O) W1 W3 := by
        intro x
        obtain ⟨hs2, hf2⟩ := hs1.later x.h
        obtain ⟨hs3, hf3⟩ := hs2.mark false
        obtain ⟨v2, hv2, _⟩ := hs2.wk.row
        obtain ⟨v3, hv3, _⟩ := hs3.wk.row
        have hof : ∀ b, b ≠ wb → b < W1.heap.size → ∀ u, W1.cell? ⟨b, 0, none⟩ = some u → (x.x.setCell ⟨wb, 2, none⟩ (.bool false)).cell? ⟨b, 0, none⟩ = some u := fun b hb hl u hu =>
          (World.cell?_of_block (Below.heap_setCell _ ⟨wb, 2, none⟩ _ _ hb)).trans (cell_lt x.h hu hl)
        refine ⟨_, rfl, hof _ (by omega) (by omega) _ b0, by simp [World.cell?, hv3], by simp [World.frozen?, hv2], by simp [World.cell?, hv2], ?_, hof _ (by omega) (by omega) _ b1, hof _ (by omega) (by omega) _ b2, hof _ (by omega) (by omega) _ b3, ?_, hs3, hf2.trans hf3⟩
        · exact (World.cell?_setCell_other _ ⟨wb, 2, none⟩ ⟨wb, 1, none⟩ _ (by simp)).trans (cell_lt x.h c1 (by omega))
        · have := x.h.size; simp [World.setCell]; omega
      repeat (refine wpQuietIn_step (fun _ _ _ _ => trivial) (fun K hK => ?_); go_simp; first | (refine hK _ ?_; clear hK K))
      refine wpQuietIn_nil ?_
      first | (rintro _ ⟨X, rfl⟩) | (intro X)
      obtain ⟨_, rfl, g0, g2, gf, gc, g1, gk, gi, gp, hz3, hS3, hF3⟩ := hE X
      clear y0 y1 y2 hE
      generalize X.x = w3 at *
      gi_wp2
      clear gf gc
      generalize w3.setCell ⟨wb, 2, none⟩ (.bool false) = W3 at *
      haveI : Nonempty (CellsAre W.heap.size 0 wb 1 (.pointer (some ⟨wb, 0, none⟩)) (.slice xa tabs.length xc)) := ⟨⟨W3, g0, g1⟩⟩
      refine region_ord_last (fun q => ∃ X : CellsAre W.heap.size 0 wb 1 (.pointer (some ⟨wb, 0, none⟩)) (.slice xa tabs.length xc), q = X.x) [([0, 1, 2, 3, 4, 5], 6), ([], 7)] [8, 9] 10 (fun _ => trivial) (by kernel_rfl) (by kernel_rfl) (by kernel_rfl) (by kernel_rfl) (by kernel_rfl) ⟨⟨W3.drew, g0, g1⟩, rfl⟩ ?_
      simp only [List.map_cons, List.map_nil, List.filterMap_cons, List.filterMap_nil, List.getElem?_cons_succ, List.getElem?_cons_zero]
      have y0 := fun X : CellsAre W.heap.size 0 wb 1 (.pointer (some ⟨wb, 0, none⟩)) (.slice xa tabs.length xc) => X.h
      have y1 := fun X : CellsAre W.heap.size 0 wb 1 (.pointer (some ⟨wb, 0, none⟩)) (.slice xa tabs.length xc) => X.h'
      have hd : Below W3.heap.size W3 W3.drew := (Below.refl _ _).drew
      have hzd : W3.drew.heap.size = W3.heap.size := rfl
      have g0d := cell_lt hd g0 (World.block_lt_of_cell? _ _ g0)
      have g1d := cell_lt hd g1 (World.block_lt_of_cell? _ _ g1)
      obtain ⟨hSd, hFd⟩ := hS3.later hd
      generalize W3.drew = wd at *
      refine ordL_step ?_
      repeat (change wpQuiet _ _ _ _ (List.cons _ _) _; go_big_quiet_step (fail))
      refine wpQuiet_nil ?_
      intro Q₁ hQ₁
      gi_wp2
      obtain ⟨i0, hi0, hz00, hz01, hz02⟩ : ∃ i, Tryd.prog.info? 23 = some i ∧ i.zero = some (.int .u64 0) ∧ i.size = 1 ∧ i.bytes = 8 := by
        obtain ⟨i0, hi1, hi2⟩ := Option.map_eq_some_iff.1 infoU64
        rw [Prod.mk.injEq, Prod.mk.injEq] at hi2
        exact ⟨i0, hi1, hi2.1, hi2.2.1, hi2.2.2⟩
      have hb1d := bone wd (.cells #[.int .u64 t] 23)
      have g0e := cell_lt hb1d g0d (World.block_lt_of_cell? _ _ g0d)
      have g1e := cell_lt hb1d g1d (World.block_lt_of_cell? _ _ g1d)
      refine hQ₁ _ _ ⟨⟨_, g0e, g1e⟩, rfl⟩ ?_
      clear hQ₁ Q₁
      refine ordL_step ?_
      refine wpQuiet_nil ?_
      intro Q₁ hQ₁
      have hownd : (wd.alloc (.cells #[.int .u64 t] 23)).ownsRow n0 23 1 (.slice xa tabs.length xc) tabs.length (tabs.map (Value.int .u64)) := by
        obtain ⟨vd, hvd, hr⟩ := hSd.wk.row
        have e : wd.cell? ⟨wb, 1, none⟩ = some vd := by simp [World.cell?, hvd]
        rw [g1d] at e; injection e with e; subst e
        exact World.ownsRow.alloc hr _
      obtain ⟨hne1, hne2⟩ := hSd.rowne g1d
      have hlow : ∀ k, (Value.slice xa tabs.length xc).ownBlock = some k → k < W.heap.size := fun k e => (hs.rowne (v := .slice xa tabs.length xc) (by simp [World.cell?, hv0])).2 k e |>.2
      have htl := hok.tabs
      simp only at htl
      have hn0 : n0 ≤ wd.heap.size := hSd.base
      have hzb : (wd.alloc (.cells #[.int .u64 t] 23)).heap.size = wd.heap.size + 1 := by simp
      replace hi1 := Lib.hid hi1
      simp only [Option.toList]
      gi_wp2_with (gi_at_builtin; (refine wpListIn_append_own_at _ rfl _ _ 45 rfl n0 23 i0 _ 1 8 Tryd.underlying45 hi0 hz00 hz01 hz02 rfl (by decide) _ _ _ rfl hownd ⟨W3.heap.size, 0, none⟩ 1 1 [.int .u64 t] ?_ rfl ?_ ?_ ?_ ?_ ?_ ?_); (focus rfl); (focus (rw [← hzd]; intro j u hj; rcases j with _ | j; (simp at hj; rw [← hj]; simp [Addr.add, World.cell?_alloc_new]); (simp at hj))); (focus (intro u hu; simp at hu; rcases hu with rfl; rfl)); (focus (unfold maxLen; omega)); (focus omega); (focus omega); intro v' w4 hown4 hgrow4 _ hat4)
      replace hgrow4 : (wd.alloc (.cells #[.int .u64 t] 23)).grownBy w4 (Value.slice xa tabs.length xc).ownBlock := hgrow4
      have hat' : v'.ownBlock = (Value.slice xa tabs.length xc).ownBlock ∨ ∀ k, v'.ownBlock = some k → wd.heap.size ≤ k := hat4.imp id fun h k e => by rw [h] at e; cases e; omega
      obtain ⟨hS5, hF5⟩ := hSd.app (t := t) g1d hgrow4 (by simpa using hown4) hat'
      obtain ⟨g', cap', rfl⟩ := ownsRow_succ hown4
      have hb4 : ∀ (b o : Nat) (u : Value), (Value.slice xa tabs.length xc).ownBlock ≠ some b → W3.cell? ⟨b, o, none⟩ = some u → w4.cell? ⟨b, o, none⟩ = some u := fun b o u h1 h2 =>
        have h3 := cell_lt hd h2 (World.block_lt_of_cell? _ _ h2)
        have h4 := cell_lt hb1d h3 (World.block_lt_of_cell? _ _ h3)
        (grown_cell hgrow4 o (World.block_lt_of_cell? _ _ h4) h1).trans h4
      have hfar : ∀ b, W.heap.size ≤ b → (Value.slice xa tabs.length xc).ownBlock ≠ some b := fun b hb e => by have := hlow b e; omega
      have g0f := hb4 _ _ _ (hfar _ (Nat.le_refl _)) g0
      have g1f := hb4 _ _ _ hne1 g1
      have gkf := hb4 _ _ _ (hfar _ (by omega)) gk
      have gif := hb4 _ _ _ (hfar _ (by omega)) gi
      have gpf := hb4 _ _ _ (hfar _ (by omega)) gp
      refine hQ₁ _ _ ⟨⟨w4, g0f, g1f⟩, rfl⟩ ?_
      clear hQ₁ Q₁
      refine ordL_last ?_
      repeat (change wpQuiet _ _ _ _ (List.cons _ _) _; go_big_quiet_step (fail))
      refine wpQuiet_nil ?_
      intro Q₁ hQ₁
      have f1 : w4.frozen? ⟨wb, 1, none⟩ = false := by
        obtain ⟨v5, hv5, _⟩ := hS5.wk.row
        have e : w4.frozen? ⟨wb, 1, none⟩ = (w4.setCell ⟨wb, 1, none⟩ (.slice (some ⟨g', 0, none⟩) (tabs.length + 1) cap')).frozen? ⟨wb, 1, none⟩ := (World.frozen?_setCell _ _ _ _).symm
        rw [e]
        simp [World.frozen?, hv5]
      have hset : ∀ b, W.heap.size ≤ b → ∀ u, w4.cell? ⟨b, 0, none⟩ = some u → (w4.setCell ⟨wb, 1, none⟩ (.slice (some ⟨g', 0, none⟩) (tabs.length + 1) cap')).cell? ⟨b, 0, none⟩ = some u := fun b hb u hu =>
        (World.cell?_of_block (Below.heap_setCell _ ⟨wb, 1, none⟩ _ _ (by show b ≠ wb; omega))).trans hu
      have g0s := hset _ (Nat.le_refl _) _ g0f
      have gks := hset _ (by omega) _ gkf
      have gis := hset _ (by omega) _ gif
      have gps := hset _ (by omega) _ gpf
      clear y0 y1 hat4 hown4 hownd g0 g1 gk gi gp g0d g1d g0e g1e hb4 hset gkf gif gpf b0 b1 b2 b3 c1 c2
      simp only [Option.toList]
      gi_wp2_with (refine ⟨trivial, ?_⟩; gi_at_call 51; refine (descs_in _ _ _ _ _ _).mono ?_; rintro e w' ⟨rfl, rfl⟩)
      have hW5z : (w4.setCell ⟨wb, 1, none⟩ (.slice (some ⟨g', 0, none⟩) (tabs.length + 1) cap')).heap.size = w4.heap.size := by simp [World.setCell]
      obtain ⟨W5, hW5⟩ : ∃ W5, W5 = w4.setCell ⟨wb, 1, none⟩ (.slice (some ⟨g', 0, none⟩) (tabs.length + 1) cap') := ⟨_, rfl⟩
      rw [← hW5] at hS5 hF5 g0s gks gis gps hW5z ⊢
      rw [← hW5z]
      clear hW5 hW5z f1
      obtain ⟨W0, hW0⟩ : ∃ W0, W0 = (((W5.alloc (.cells #[.pointer (some ⟨wb, 0, none⟩)] 110)).alloc (.cells #[.int .u64 t] 23)).alloc (.cells #[.int .i64 n] 3)).alloc (.cells #[.int .i64 k] 3) := ⟨_, rfl⟩
      rw [← hW0]
      obtain ⟨b0, b1, b2, b3, hz0, hB0⟩ := box_four W5 W0 _ _ _ _ _ _ _ _ hW0
      clear hW0
      obtain ⟨hS0, hF0⟩ := hS5.later hB0
      have hW10 : Fr (Both2 (OwnW wb) Z.O) W1 W0 := (hF3.trans hFd).trans (hF5.trans hF0)
      have hWW0 := hf1.trans hW10
      have hb0 : Below n0 w0 W0 := hW.trans (hWW0.below hs.base (fun k h => (hs.own h).1))
      have no1 : ∀ i, i < 4 → ¬ Both2 (OwnW wb) Z.O W0 (W.heap.size + i) := fun i hi =>
        (hW10.block _ (by omega) (fun h => by have := hs.later_lt hB1 h; omega)).2
      have no2 : ∀ b, W5.heap.size ≤ b → ¬ Both2 (OwnW wb) Z.O W0 b := fun b hb h => by have := hS5.later_lt hB0 h; omega
      have hD0 : DBoxes (W5.heap.size + 1 + 1) W5.heap.size (W5.heap.size + 1) (W5.heap.size + 1 + 1 + 1) wb n0 (.pointer p) t k n W0 := by
        obtain ⟨v6, hv6, _⟩ := hS0.wk.row
        exact ⟨b2, b0, b1, b3, by simp [World.cell?, hv6], hS0.base⟩
      have g0z := cell_lt hB0 g0s (World.block_lt_of_cell? _ _ g0s)
      have gkz := cell_lt hB0 gks (World.block_lt_of_cell? _ _ gks)
      have giz := cell_lt hB0 gis (World.block_lt_of_cell? _ _ gis)
      have gpz := cell_lt hB0 gps (World.block_lt_of_cell? _ _ gps)
      have hWz := hWW0.size
      have hW5z : W.heap.size + 4 ≤ W5.heap.size := by have := (hF3.trans hFd).trans hF5 |>.size; omega
      have hKD : ∀ (s' : Sw σ) (V : World), SwP Z wb (.pointer p) 23 66 s' V → Fr (Both2 (OwnW wb) Z.O) W0 V → KeepsD (W5.heap.size + 1 + 1) W5.heap.size (W5.heap.size + 1) (W5.heap.size + 1 + 1 + 1) wb n0 W0 V := fun s' V h1 h2 =>
        KeepsD.of_fr hS0 h2 h1 hD0 (no2 _ (by omega)) (no2 _ (by omega)) (no2 _ (by omega)) (no2 _ (by omega))
      have hn2 : ∀ (s' : Sw σ) (V : World), Fr (Both2 (OwnW wb) Z.O) W0 V → ∀ b, W5.heap.size ≤ b → b < W0.heap.size → ¬ Both2 (OwnW wb) Z.O V b := fun s' V h2 b hb hl => (h2.block b hl (no2 b hb)).2
      clear b0 b1 b2 b3 g0s gks gis gps g0f g1f hfar hgrow4 hat' hlow hne1 hne2
      generalize hfoe : swX step (fun t' a' => sw rd step D t' 512 (k + 1) a') k ipa = fo
      replace hfoe := Lib.hid hfoe
      refine wpIn_rangeFunc_ownH rfl (by decide) (gf := 62) (lb := #[.pointer (some ⟨W5.heap.size + 1 + 1, 0, none⟩), .pointer (some ⟨W5.heap.size, 0, none⟩), .pointer (some ⟨W5.heap.size + 1, 0, none⟩), .pointer (some ⟨W5.heap.size + 1 + 1 + 1, 0, none⟩)]) rfl trivial (enters_of Tryd.func62 (by kernel_rfl) rfl)
        (descs_stops _ _ _ _ _ wb n0 (by decide) p rd w0 W0 hrd hT hT0 t k n hn ht hD0 hb0) KeepsD.trans (keepsD_put hD0) (Below.refl _ _) (fun _ => rfl)
        (fun pre V => ((pre.map (·.1)).foldl fo ⟨tabs ++ [t], false, st⟩).long = false ∧ SwP Z wb (.pointer p) 23 66 ((pre.map (·.1)).foldl fo ⟨tabs ++ [t], false, st⟩) V ∧ Fr (Both2 (OwnW wb) Z.O) W0 V)
        (fun c pre V => (c = .ret ∧ ((pre.map (·.1)).foldl fo ⟨tabs ++ [t], false, st⟩).long = true) ∧ SwP Z wb (.pointer p) 23 66 ((pre.map (·.1)).foldl fo ⟨tabs ++ [t], false, st⟩) V ∧ Fr (Both2 (OwnW wb) Z.O) W0 V)
        (ownFrom_sw W0 _ _) (fun c => ownFrom_sw W0 _ _) ⟨rfl, hS0, Fr.refl _ _⟩
        (fun x a' V => ∃ Bx, W0.heap.size ≤ Bx ∧ V.heap[Bx]? = some (.cells #[.int .i64 x.1.d.kind, .int .u64 x.1.d.pa, .int .i64 x.1.d.perm, .int .i64 x.1.d.mem, .bool x.1.d.af] 71 (0, 0)) ∧ a' = { tmps := #[.pointer (some ⟨wb, 0, none⟩), .int .u64 t, .int .i64 n, .int .i64 k, .int .u64 ipa, .func (.func pf) #[] pb, .pointer (some ⟨W.heap.size, 0, none⟩), undef, undef, .pointer (some ⟨W.heap.size + 1, 0, none⟩), .pointer (some ⟨W.heap.size + 1 + 1, 0, none⟩), .pointer (some ⟨W.heap.size + 1 + 1 + 1, 0, none⟩), .int .u64 x.1.i, .pointer (some ⟨Bx, 0, none⟩), undef, .pointer (some ⟨wb, 0, none⟩), .pointer (some ⟨wb, 0, none⟩), .pointer (some ⟨wb, 0, none⟩), .pointer (some ⟨wb, 2, none⟩), .bool false, .bool false, .pointer (some ⟨wb, 0, none⟩), .pointer (some ⟨wb, 0, none⟩), .pointer (some ⟨wb, 1, none⟩), .slice xa tabs.length xc, .int .i64 tabs.length, .bool false, .bool false, .pointer (some ⟨wb, 0, none⟩), .pointer (some ⟨wb, 2, none⟩), .pointer (some ⟨wb, 0, none⟩), .pointer (some ⟨wb, 0, none⟩), .pointer (some ⟨wb, 2, none⟩), .bool false, .pointer (some ⟨wb, 0, none⟩), .pointer (some ⟨wb, 0, none⟩), .pointer (some ⟨wb, 0, none⟩), .pointer (some ⟨wb, 1, none⟩), .slice xa tabs.length xc, .int .u64 t, .slice (some ⟨W3.heap.size, 0, none⟩) 1 1, .slice (some ⟨g', 0, none⟩) (tabs.length + 1) cap', .pointer (some ⟨wb, 0, none⟩), .pointer (some ⟨wb, 1, none⟩), .pointer (some ⟨wb, 0, none⟩), .int .u64 t, .int .i64 n, .int .i64 k, .func (.func 62) #[] #[.pointer (some ⟨W5.heap.size + 1 + 1, 0, none⟩), .pointer (some ⟨W5.heap.size, 0, none⟩), .pointer (some ⟨W5.heap.size + 1, 0, none⟩), .pointer (some ⟨W5.heap.size + 1 + 1 + 1, 0, none⟩)], .int .u64 x.1.i, x.1.d.val, undef, undef, undef, undef, undef, undef, undef, undef, undef, undef, undef, undef, undef, undef, undef, undef, undef, undef, undef, undef, undef, undef, undef, undef, undef, undef, undef, undef, undef, undef, undef, undef, undef, undef, undef, undef, undef, undef, undef, undef, undef, undef], defers := [] })
        (fun x a' _ X Y row hs hg hr => by obtain ⟨Bx, h1, h2, h3⟩ := hs; exact ⟨Bx, h1, (hg.block Bx (Array.getElem?_eq_some_iff.1 h2).1 (fun e => by obtain ⟨_, o, e1, e2⟩ := hr Bx e.symm; rw [h2] at e1; cases e1; cases e2)).trans h2, h3⟩)
        ?assign ?body ?done ?stop
      case assign =>
        rintro l1 pre ⟨⟨i, kd, pa, pm, mm, af⟩, hx⟩ V K ⟨hlg, hsp, hf⟩ hK
        simp only [PD.args, DescV.val]
        obtain ⟨hl1, hl2⟩ := hsp.later (bone V (.cells #[.int .i64 kd, .int .u64 pa, .int .i64 pm, .int .i64 mm, .bool af] 71))
        gi_wp2
        exact hK _ _ ((KeepsOthers.alloc _ _).from _) ((hD0.kept (hKD _ V hsp hf)).keeps (bone _ _)) ⟨hlg, hl1, hf.trans hl2⟩ ⟨V.heap.size, hf.size, World.alloc_heap_new _ _, rfl⟩
      case body =>
        rintro l1 pre ⟨⟨i, kd, pa, pm, mm, af⟩, hx⟩ a' V hl1 ⟨rr, hrr⟩ ⟨hlg, hsp, hf⟩ ⟨Bx, hBx, hbx, rfl⟩ hlt
        obtain ⟨hin, hdd, he0, hk0⟩ := descsV_mem hx
        simp only at hin hdd he0 hk0 hbx
        have hpa : W64 pa := by
          have := ofV_pa' k (rd (rdAt t i)).1
          rw [← hdd] at this
          exact ⟨this.1, this.2⟩
        have hlow : k = 3 → kd ≠ 1 := fun e => by
          have := ofV_low (k := k) (a := (rd (rdAt t i)).1) e
          rw [← hdd] at this
          exact this
        have hsk : SwOk len ((pre.map (·.1)).foldl fo ⟨tabs ++ [t], false, st⟩) (1024 - pre.length) := by
          have e := hfoe.out
          subst e
          have hpl : pre.length ≤ 1024 := by have := descsV_len rd k t n; omega
          refine swL_ok Z.grows (fun t' a' s' c' h' => sw_ok Z.grows D t' 512 (k + 1) a' s' c' (by omega) h') k ipa (pre.map (·.1)) ?_
          have h6 := sw_enter (c := 0) t hok hln
          rw [List.length_map]
          have h7 : len st + (0 + 1024) ≤ 1024 * (tabs ++ [t]).length := h6.st
          exact ⟨h6.tabs, by show len st + (1024 - pre.length + pre.length) ≤ 1024 * (tabs ++ [t]).length; omega⟩
        have hnx : ((pre ++ [(⟨⟨i, ⟨kd, pa, pm, mm, af⟩⟩, hx⟩ : PDIn rd k t n)]).map (·.1)).foldl fo ⟨tabs ++ [t], false, st⟩ = fo ((pre.map (·.1)).foldl fo ⟨tabs ++ [t], false, st⟩) ⟨i, ⟨kd, pa, pm, mm, af⟩⟩ := by rw [List.map_append, List.foldl_append]; rfl
        clear hdd he0
        generalize (pre.map (·.1)).foldl fo ⟨tabs ++ [t], false, st⟩ = s' at *
        have hfo : fo s' ⟨i, ⟨kd, pa, pm, mm, af⟩⟩ = if kd = 1 then sw rd step D pa 512 (k + 1) (ipa + i * szV k) s' else if af = true ∧ pa < 1099511627776 then { s' with st := step s'.st (mkM (ipa + i * szV k) pa (szV k) pm mm) } else s' := by
          have e := hfoe.out
          subst e
          unfold swX
          rw [if_neg (by rw [hlg]; simp)]
        rw [hfo] at hnx
        replace hnx := Lib.hid hnx
        clear hfo
        have hbl : ∀ b, b < W0.heap.size → ¬ Both2 (OwnW wb) Z.O W0 b → V.heap[b]? = W0.heap[b]? := fun b h1 h2 => (hf.block b h1 h2).1
        have q6 : V.cell? ⟨W.heap.size, 0, none⟩ = some (.pointer (some ⟨wb, 0, none⟩)) := (World.cell?_of_block (hbl W.heap.size (by omega) (no1 0 (by omega)))).trans g0z
        have q9 : V.cell? ⟨W.heap.size + 1, 0, none⟩ = some (.int .i64 k) := (World.cell?_of_block (hbl (W.heap.size + 1) (by omega) (no1 1 (by omega)))).trans gkz
        have q10 : V.cell? ⟨W.heap.size + 1 + 1, 0, none⟩ = some (.int .u64 ipa) := (World.cell?_of_block (hbl (W.heap.size + 1 + 1) (by omega) (no1 2 (by omega)))).trans giz
        have q11 : V.cell? ⟨W.heap.size + 1 + 1 + 1, 0, none⟩ = some (.func (.func pf) #[] pb) := (World.cell?_of_block (hbl (W.heap.size + 1 + 1 + 1) (by omega) (no1 3 (by omega)))).trans gpz
        have hVz := hf.size
        have hBxl := (Array.getElem?_eq_some_iff.1 hbx).1
        have hk' : k = 1 ∨ k = 2 ∨ k = 3 := by omega
        have hsz : 0 < szV k ∧ szV k ≤ 1073741824 := by rcases hk' with h | h | h <;> rw [h] <;> decide
        have hsze := fun W => size_any k W
        have hin1 : ((i : Int) + 1) * szV k ≤ n * szV k := Int.mul_le_mul_of_nonneg_right (by omega) (by omega)
        have hin2 : ((i : Int) + 1) * szV k = i * szV k + szV k := by rw [Int.add_mul, Int.one_mul]
        have hin3 : 0 ≤ (i : Int) * szV k := Int.mul_nonneg (by omega) (by omega)
        have hi1' := hi1.out
        have hwm : IntKind.u64.wrap ((i : Int) * szV k) = i * szV k := by rw [IntKind.wrap_u64]; omega
        have hwa : IntKind.u64.wrap (ipa + (i : Int) * szV k) = ipa + i * szV k := by rw [IntKind.wrap_u64]; omega
        have hk2 := hk.out
        have hchild : kd = 1 → 1 ≤ k + 1 ∧ k + 1 ≤ 3 ∧ (ipa + i * szV k) + (512 : Nat) * szV (k + 1) ≤ 1099511627776 := fun e => by
          have h3' : k ≠ 3 := fun e' => hlow e' e
          have : (512 : Int) * szV (k + 1) = szV k := by
            rcases hk' with h | h | h
            · rw [h]; decide
            · rw [h]; decide
            · exact absurd h h3'
          refine ⟨by omega, by omega, ?_⟩
          show (ipa + i * szV k) + 512 * szV (k + 1) ≤ _
          rw [this]; omega
        replace hi1 := Lib.hid hi1.out
        clear hi1'
        replace hchild := Lib.hid hchild
        replace hlow := Lib.hid hlow
        replace hk0 := Lib.hid hk0
        replace hk2 := Lib.hid hk2
        replace hin2 := Lib.hid hin2
        gi_wp2
        refine region_ord_in (fun z => ∃ X : Later V.heap.size V, z = X.x) [([0, 1, 2], 3)] [4, 5, 6] (fun _ => trivial) (by kernel_rfl) (by kernel_rfl) (by kernel_rfl) (by kernel_rfl) (by kernel_rfl) ⟨⟨_, (Below.refl _ _).drew⟩, rfl⟩ ?_
        simp only [List.map_cons, List.map_nil, List.filterMap_cons, List.filterMap_nil, List.getElem?_cons_succ, List.getElem?_cons_zero]
        have y0 := later_cell (B := V.heap.size) q9 (by omega)
        have y1 := later_cell (B := V.heap.size) q10 (by omega)
        have hd7 : Below V.heap.size V V.drew := (Below.refl _ _).drew
        generalize V.drew = vd at *
        refine ord_step_in ?_
        repeat (change wpQuiet _ _ _ _ (List.cons _ _) _; go_big_quiet_step (fail))
        refine wpQuiet_nil ?_
        intro Q₁ hQ₁
        simp only [Option.toList]
        gi_wp2_with (refine ⟨trivial, ?_⟩; gi_at_call 22; refine (CallsIn.inRound l1 (callsIn_wide.2 (hsze _))).mono ?_; rintro e v1 ⟨rfl, rfl⟩)
        refine hQ₁ _ _ ⟨⟨vd, hd7⟩, rfl⟩ ?_
        clear hQ₁ Q₁
        refine ord_last_in ?_
        repeat (change wpQuiet _ _ _ _ (List.cons _ _) _; go_big_quiet_step (fail))
        refine wpQuiet_nil ?_
        clear y0 y1 hwm hwa
        obtain ⟨hsd, hfd⟩ := hsp.later hd7
        have hfd0 := hf.trans hfd
        have hbxd := (hd7.block _ hBxl).trans hbx
        have e0 : vd.cell? ⟨Bx, 0, none⟩ = some (.int .i64 kd) := by simp [World.cell?, hbxd]
        have e1 : vd.cell? ⟨Bx, 1, none⟩ = some (.int .u64 pa) := by simp [World.cell?, hbxd]
        have e2 : vd.cell? ⟨Bx, 2, none⟩ = some (.int .i64 pm) := by simp [World.cell?, hbxd]
        have e3 : vd.cell? ⟨Bx, 3, none⟩ = some (.int .i64 mm) := by simp [World.cell?, hbxd]
        have e4 : vd.cell? ⟨Bx, 4, none⟩ = some (.bool af) := by simp [World.cell?, hbxd]
        have p6 := cell_lt hd7 q6 (by omega)
        have p9 := cell_lt hd7 q9 (by omega)
        have p11 := cell_lt hd7 q11 (by omega)
        have hkpd := (hD0.kept (hKD _ V hsp hf))
        have hki : IntKind.i64.wrap (k + 1) = k + 1 := by rw [IntKind.wrap_i64]; omega
        have hbd0 : Below n0 w0 vd := hb0.trans ((hfd0.below hS0.base (fun k h => (hS0.own h).1)))
        clear q6 q9 q10 q11 hbx
        -- what every way comes to
        have hend : ∀ (s2 : Sw σ) (v2 : World), SwP Z wb (.pointer p) 23 66 s2 v2 → Fr (Both2 (OwnW wb) Z.O) vd v2 → v2.cell? ⟨W.heap.size, 0, none⟩ = some (.pointer (some ⟨wb, 0, none⟩)) ∧ v2.cell? ⟨wb, 2, none⟩ = some (.bool s2.long) ∧ KeepsFrom W0.heap.size V v2 ∧ KeepsD (W5.heap.size + 1 + 1) W5.heap.size (W5.heap.size + 1) (W5.heap.size + 1 + 1 + 1) wb n0 V v2 ∧ Fr (Both2 (OwnW wb) Z.O) W0 v2 := by
          intro s2 v2 h2 f2
          have f3 := hfd.trans f2
          obtain ⟨v7, hv7, _⟩ := h2.wk.row
          refine ⟨(World.cell?_of_block ((hfd0.trans f2).block W.heap.size (by omega) (no1 0 (by omega))).1).trans g0z, by simp [World.cell?, hv7], (f3.keeps (fun k h => (hsp.own h).2.2)).from _, KeepsD.of_fr hsp f3 h2 hkpd ?_ ?_ ?_ ?_, hf.trans f3⟩
          all_goals exact hn2 s' V hf _ (by omega) (by omega)
        replace hz0 := Lib.hid hz0
        by_cases hk1 : kd = 1
        · have hq1 : (kd == 1) = true := by rw [hk1]; rfl
          obtain ⟨hc1, hc2, hc3⟩ := hchild.out hk1
          have hnx1 := hnx.out
          rw [if_pos hk1] at hnx1
          replace hnx := Lib.hid hnx1
          clear hnx1
          have hih := ih pa 512 (k + 1) (ipa + i * szV k) s' vd (by have := hk2.out; omega) hc1 hc2 (by omega) hpa (by omega) hc3 hsd hbd0 ⟨hsk.tabs, by have := hsk.st; omega⟩
          replace hk1 := Lib.hid hk1
          replace hc3 := Lib.hid hc3
          generalize sw rd step D pa 512 (k + 1) (ipa + i * szV k) s' = s2 at *
          cases hlg2 : s2.long
          · gi_wp2_with (refine ⟨trivial, ?_⟩; gi_at_call 28; refine (CallsIn.inRound l1 (callsIn_wide.2 hih)).mono ?_; rintro e v2 ⟨⟨vr, rfl⟩, hS2, hF2⟩; obtain ⟨z1, z2, z3, z4, z5⟩ := hend _ _ hS2 hF2)
            have e := hnx.out
            exact ⟨z3, z4, by rw [e]; exact hlg2, by rw [e]; exact hS2, z5⟩
          · gi_wp2_with (refine ⟨trivial, ?_⟩; gi_at_call 28; refine (CallsIn.inRound l1 (callsIn_wide.2 hih)).mono ?_; rintro e v2 ⟨⟨vr, rfl⟩, hS2, hF2⟩; obtain ⟨z1, z2, z3, z4, z5⟩ := hend _ _ hS2 hF2)
            have e := hnx.out
            exact ⟨z3, ⟨rfl, by rw [e]; exact hlg2⟩, by rw [e]; exact hS2, z5⟩
        · have hq1 : (kd == 1) = false := by simpa using hk1
          have hnx1 := hnx.out
          rw [if_neg hk1] at hnx1
          replace hnx := Lib.hid hnx1
          clear hnx1 ih
          by_cases hg : af = true ∧ pa < 1099511627776
          · have hnx1 := hnx.out
            rw [if_pos hg] at hnx1
            replace hnx := Lib.hid hnx1
            clear hnx1
            obtain ⟨rfl, hq2⟩ := hg
            gi_wp2
            haveI : Nonempty (Later vd.heap.size vd) := ⟨⟨vd, Below.refl _ _⟩⟩
            refine region_ord_last (fun z => ∃ X : Later vd.heap.size vd, z = X.x) [([0, 1, 2, 3, 4, 6, 7, 8, 9], 5)] [10] 11 (fun _ => trivial) (by kernel_rfl) (by kernel_rfl) (by kernel_rfl) (by kernel_rfl) (by kernel_rfl) ⟨⟨_, (Below.refl _ _).drew⟩, rfl⟩ ?_
            simp only [List.map_cons, List.map_nil, List.filterMap_cons, List.filterMap_nil, List.getElem?_cons_succ, List.getElem?_cons_zero]
            have y0 := later_cell (B := vd.heap.size) e1 (World.block_lt_of_cell? _ _ e1)
            have y1 := later_cell (B := vd.heap.size) e2 (World.block_lt_of_cell? _ _ e2)
            have y2 := later_cell (B := vd.heap.size) e3 (World.block_lt_of_cell? _ _ e3)
            have y3 := later_cell (B := vd.heap.size) p9 (World.block_lt_of_cell? _ _ p9)
            have y4 := later_cell (B := vd.heap.size) p11 (World.block_lt_of_cell? _ _ p11)
            have hda : Below vd.heap.size vd vd.drew := (Below.refl _ _).drew
            generalize vd.drew = ve at *
            obtain ⟨hse, hfe⟩ := hsd.later hda
            refine ordL_step ?_
            repeat (change wpQuiet _ _ _ _ (List.cons _ _) _; go_big_quiet_step (fail))
            refine wpQuiet_nil ?_
            intro Q₁ hQ₁
            simp only [Option.toList]
            gi_wp2_with (refine ⟨trivial, ?_⟩; gi_at_call 22; refine (CallsIn.inRound l1 (callsIn_wide.2 (hsze _))).mono ?_; rintro e v1 ⟨rfl, rfl⟩)
            refine hQ₁ _ _ ⟨⟨ve, hda⟩, rfl⟩ ?_
            clear hQ₁ Q₁
            refine ordL_last ?_
            repeat (change wpQuiet _ _ _ _ (List.cons _ _) _; go_big_quiet_step (fail))
            refine wpQuiet_nil ?_
            intro Q₁ hQ₁
            simp only [Option.toList]
            have hp0 := hpa.1
            have hM : (mkM (ipa + i * szV k) pa (szV k) pm mm).enc.toArray = #[.int .u64 (ipa + i * szV k), .int .u64 pa, .int .u64 (szV k), .int .i64 pm, .int .i64 mm] := by
              have hin2' := hin2.out
              have hi1' := hi1.out
              show #[Value.int .u64 (IntKind.u64.wrap (ipa + i * szV k)), .int .u64 (IntKind.u64.wrap pa), .int .u64 (IntKind.u64.wrap (szV k)), _, _] = _
              rw [IntKind.wrap_u64, IntKind.wrap_u64, IntKind.wrap_u64, Int.emod_eq_of_lt (by omega) (by omega), Int.emod_eq_of_lt (by omega) (by omega), Int.emod_eq_of_lt (by omega) (by omega)]
              rfl
            have hpt := hput.2 (mkM (ipa + i * szV k) pa (szV k) pm mm) s'.st ve hse.put hse.base (by have := hsk.st; have := hsk.tabs; omega)
            rw [hM] at hpt
            have heg := hput.1
            clear hM y0 y1 y2 y3 y4
            gi_wp2
            refine ⟨trivial, ?_⟩
            refine (CallsIn.inRound l1 (callsIn_wide.2 hpt)).mono ?_
            rintro e v2 ⟨⟨vr, rfl⟩, hI2, hF2⟩
            obtain ⟨hS2, hF2'⟩ := hse.puts hF2 hI2
            obtain ⟨z1, z2, z3, z4, z5⟩ := hend _ _ hS2 (hfe.trans hF2')
            have z2' : v2.cell? ⟨wb, 2, none⟩ = some (.bool false) := by rw [← hlg]; exact z2
            clear z2
            gi_wp2
            first | (refine hQ₁ _ _ ?_; gi_wp2) | skip
            have e := hnx.out
            exact ⟨z3, z4, by rw [e]; exact hlg, by rw [e]; exact hS2, z5⟩
          · have hnx1 := hnx.out
            rw [if_neg hg] at hnx1
            replace hnx := Lib.hid hnx1
            clear hnx1
            obtain ⟨z1, z2, z3, z4, z5⟩ := hend _ _ hsd (Fr.refl _ _)
            cases af
            · gi_wp2
              have e := hnx.out
              exact ⟨z3, z4, by rw [e]; exact hlg, by rw [e]; exact hsd, z5⟩
            · have hq2 : ¬ pa < 1099511627776 := fun h => hg ⟨rfl, h⟩
              replace hg := Lib.hid hg
              gi_wp2
              have e := hnx.out
              exact ⟨z3, z4, by rw [e]; exact hlg, by rw [e]; exact hsd, z5⟩
      case done =>
        rintro D' xs V hD hxs ⟨hlg, hsp, hf⟩ hK
        rw [hxs] at hlg hsp
        gi_wp2
        refine ⟨by simp, .inl ⟨_, _, rfl, run_takeDeferred hK, ?_⟩⟩
        obtain ⟨_, q1, q2⟩ := (ownFrom_sw (Z := Z) (wb := wb) (mp := .pointer p) (E := 23) (T := 66) W0 (fun _ : Unit => (descsV rd k t n).foldl fo ⟨tabs ++ [t], false, st⟩) (fun _ => True)).putObj (s := ()) (.deferred none) ⟨trivial, hsp, hf⟩ hD hK rfl
        have e := hfoe.out
        subst e
        exact ⟨_, results_none rfl _ _ _, ⟨_, rfl⟩, q1, hWW0.trans q2⟩
      case stop =>
        rintro D' cc pre V hD ⟨r, hr⟩ ⟨⟨rfl, hlg⟩, hsp, hf⟩ hK
        have hfin : (descsV rd k t n).foldl fo ⟨tabs ++ [t], false, st⟩ = (pre.map (·.1)).foldl fo ⟨tabs ++ [t], false, st⟩ := by
          rw [hr, List.foldl_append]
          have e := hfoe.out
          subst e
          exact swX_long _ _ _ _ _ _ hlg
        replace hfin := Lib.hid hfin
        clear hr
        gi_wp2
        refine ⟨by simp, .inl ⟨_, _, rfl, run_takeDeferred hK, ?_⟩⟩
        obtain ⟨_, q1, q2⟩ := (ownFrom_sw (Z := Z) (wb := wb) (mp := .pointer p) (E := 23) (T := 66) W0 (fun _ : Unit => (pre.map (·.1)).foldl fo ⟨tabs ++ [t], false, st⟩) (fun _ => True)).putObj (s := ()) (.deferred none) ⟨trivial, hsp, hf⟩ hD hK rfl
        have hfin' := hfin.out
        have e := hfoe.out
        subst e
        exact ⟨_, results_none rfl _ _ _, ⟨_, rfl⟩, by rw [hfin']; exact q1, hWW0.trans q2⟩
end
end Go.Proofs.YtdlpgonpikflfaaDoor
