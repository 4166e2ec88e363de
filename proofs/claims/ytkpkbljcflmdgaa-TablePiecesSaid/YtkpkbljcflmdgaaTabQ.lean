/- The reference's Need: numbers among numbers, of two levels. -/
import Derived.Test.YtkpkbljcflmdgaaTabP
import Derived.Test.YtkpkbljcflmdgaaTabS
namespace Go.Proofs.Ytkpkbljcflmdgaa
open Go Go.RowKit Go.Shelf Go.BigFrame

/-- Two rows of words, apart. -/
structure TwoW (W : World) (base : Nat) (u v : Value) (S T : List Int) : Prop where
  a : OwnW W base u S
  b : OwnW W base v T
  ab : ∀ r, u.ownBlock = some r → v.ownBlock ≠ some r
/-- .. and a row of maps. -/
structure Three (W : World) (base : Nat) (u v r : Value) (S T : List Int) (P : List M5) : Prop where
  two : TwoW W base u v S T
  c : OwnM 27 W base r P
  ac : ∀ k, u.ownBlock = some k → r.ownBlock ≠ some k
  bc : ∀ k, v.ownBlock = some k → r.ownBlock ≠ some k
theorem OwnW.lt {w : World} {base : Nat} {v : Value} {l : List Int} (h : OwnW w base v l) : ∀ r, v.ownBlock = some r → base ≤ r ∧ r < w.heap.size := World.ownsRow.lt h
theorem TwoW.nil (W : World) (base : Nat) : TwoW W base (.slice none 0 0) (.slice none 0 0) [] [] := ⟨OwnW.nil _ _, OwnW.nil _ _, fun r h => by cases h⟩
theorem TwoW.below {W W' : World} {base B : Nat} {u v : Value} {S T : List Int} (h : TwoW W base u v S T) (hb : Below B W W') (hB : W.heap.size ≤ B) : TwoW W' base u v S T :=
  ⟨h.a.same fun r e => hb.block r (Nat.lt_of_lt_of_le (h.a.lt r e).2 hB), h.b.same fun r e => hb.block r (Nat.lt_of_lt_of_le (h.b.lt r e).2 hB), h.ab⟩
theorem Three.below {W W' : World} {base B : Nat} {u v r : Value} {S T : List Int} {P : List M5} (h : Three W base u v r S T P) (hb : Below B W W') (hB : W.heap.size ≤ B) : Three W' base u v r S T P :=
  ⟨h.two.below hb hB, h.c.below hb hB, h.ac, h.bc⟩
theorem Three.left {W W' : World} {base : Nat} {u u' v r : Value} {S S' T : List Int} {P : List M5} (h : Three W base u v r S T P) (ho : AddOut W W' base u u' S') : Three W' base u' v r S' T P := by
  have hv := h.two.b.lt
  have hr := World.ownsRow.lt h.c
  refine ⟨⟨ho.own, h.two.b.same fun k e => ho.rest k (hv k e).2 (fun e2 => h.two.ab k e2 e), fun k e e2 => ?_⟩, ownsRow_same h.c fun k e => ho.rest k (hr k e).2 (fun e2 => h.ac k e2 e), fun k e e2 => ?_, h.bc⟩
  · rcases ho.at' with h1 | h1
    · exact h.two.ab k (h1 ▸ e) e2
    · have := h1 k e; have := (hv k e2).2; omega
  · rcases ho.at' with h1 | h1
    · exact h.ac k (h1 ▸ e) e2
    · have := h1 k e; have := (hr k e2).2; omega
theorem Three.right {W W' : World} {base : Nat} {u v v' r : Value} {S T T' : List Int} {P : List M5} (h : Three W base u v r S T P) (ho : AddOut W W' base v v' T') : Three W' base u v' r S T' P := by
  have hu := h.two.a.lt
  have hr := World.ownsRow.lt h.c
  refine ⟨⟨h.two.a.same fun k e => ho.rest k (hu k e).2 (fun e2 => h.two.ab k e e2), ho.own, fun k e e2 => ?_⟩, ownsRow_same h.c fun k e => ho.rest k (hr k e).2 (fun e2 => h.bc k e2 e), h.ac, fun k e e2 => ?_⟩
  · rcases ho.at' with h1 | h1
    · exact h.two.ab k e (h1 ▸ e2)
    · have := h1 k e2; have := (hu k e).2; omega
  · rcases ho.at' with h1 | h1
    · exact h.bc k (h1 ▸ e) e2
    · have := h1 k e; have := (hr k e2).2; omega
theorem AddOut.cell {w w' : World} {base b o : Nat} {v v' x : Value} {l : List Int} (h : AddOut w w' base v v' l) (c : w.cell? ⟨b, o, none⟩ = some x) (hn : v.ownBlock ≠ some b) : w'.cell? ⟨b, o, none⟩ = w.cell? ⟨b, o, none⟩ := by
  have := h.rest b (World.block_lt_of_cell? _ _ c) hn
  simp only [World.cell?, this]

set_option maxRecDepth 100000 in
set_option maxHeartbeats 4000000 in
theorem refNeed_any (v : Value) (l : List M5) (w : World) (hv : RowM w v l) (hl : l.length ≤ 100000) :
    Calls Try.prog 12 #[v] w fun e w' => e = .returned (.tuple #[.int .i64 (refNeedV l).1, .int .i64 (refNeedV l).2]) ∧ Below w.heap.size w w' := by
  have hgd := fun W h => refGoodM_any v l W h (by omega)
  have hv' := hv
  obtain ⟨a1, cp1, rfl, _, hc1⟩ := hv'
  cases hg : goodM l
  · have hno : refNeedV l = (0, 190) := by unfold refNeedV; rw [if_neg (fun h => by rw [h.1] at hg; cases hg)]
    rw [hg] at hgd
    rw [hno]
    clear hg hno
    go_enter Try.func12, Try.ntmps12
    go_wp2_with fail
    refine (hgd _ hv).mono ?_; rintro e w1 ⟨rfl, hb1⟩
    go_wp2_with fail
    go_ret2
    exact ⟨rfl, hb1⟩
  · rw [hg] at hgd
    replace hg := Lib.hid hg
    go_enter Try.func12, Try.ntmps12
    go_wp2_with fail
    refine (hgd _ hv).mono ?_; rintro e w1 ⟨rfl, hb1⟩
    clear hgd
    go_wp2_with fail
    go_loopw [4, 5, 16] (fun u v' i wr => ∃ k : Nat, k ≤ l.length ∧ i = .int .i64 k ∧ (∀ j (h : j < l.length), j < k → piecesV l[j] ≠ []) ∧ TwoW wr w.heap.size u v' (secs (l.take k)) (this (l.take k)) ∧ (secs (l.take k)).length ≤ 10000 * k ∧ (this (l.take k)).length ≤ 10000 * k ∧ Below w.heap.size w wr) (fun _ _ i _ => l.length - (intOf i).toNat)
    case atStart => exact ⟨0, Nat.zero_le _, rfl, fun j _ h => by omega, TwoW.nil _ _, Nat.le_refl _, Nat.le_refl _, hb1⟩
    case round =>
      obtain ⟨k, hk, rfl, hne, htwo, hS, hT, hB⟩ := hrel
      by_cases hlt : k < l.length
      · obtain ⟨b1, o1, rfl, hbl, hcell⟩ := hc1 (by rintro rfl; simp at hlt)
        obtain ⟨p0, p1, p2, p3, p4⟩ := hcell k hlt
        replace p0 := cell_lt hB p0 hbl
        replace p1 := cell_lt hB p1 hbl
        replace p2 := cell_lt hB p2 hbl
        replace p3 := cell_lt hB p3 hbl
        replace p4 := cell_lt hB p4 hbl
        have hss := secs_snoc l k hlt
        have hts := this_snoc l k hlt
        have hno : piecesV l[k] = [] → refNeedV l = (0, 190) := fun h => by unfold refNeedV; rw [if_neg (fun e => e.2 _ (List.getElem_mem hlt) h)]
        have hne' : piecesV l[k] ≠ [] → ∀ j (h : j < l.length), j < k + 1 → piecesV l[j] ≠ [] := fun h j hj h2 => by
          by_cases e : j = k
          · subst e; exact h
          · exact hne j hj (by omega)
        have hrp := fun W => refPieces_any l[k] W
        have hPl := piecesV_len l[k]
        clear hcell hne hc1
        generalize l[k] = x at *
        generalize hS1 : secs (l.take (k + 1)) = S1 at *
        generalize hT1 : this (l.take (k + 1)) = T1 at *
        replace hS1 := Lib.hid hS1
        replace hT1 := Lib.hid hT1
        generalize secs (l.take k) = S0 at *
        generalize this (l.take k) = T0 at *
        generalize piecesV x = P at *
        replace hss := Lib.hid hss
        replace hts := Lib.hid hts
        replace hno := Lib.hid hno
        replace hne' := Lib.hid hne'
        have hz := hB.size
        obtain ⟨m0, m1, m2, m3, m4⟩ := five_new wr (.int .u64 x.ipa) (.int .u64 x.pa) (.int .u64 x.sz) (.int .i64 x.perm) (.int .i64 x.kind) 27
        go_wp2_with fail
        refine (hrp _).mono ?_
        rintro e w3 ⟨r, rfl, hown, hb3⟩
        obtain ⟨ar, cr, rfl, _, hcr⟩ := hown.row
        by_cases hP : P = []
        · have hno' := hno.out hP
          have hq : ((P.length : Int) == 0) = true := by rw [hP]; rfl
          replace hno' := Lib.hid hno'
          clear hno hss hts hne' hcr hrp
          replace hP := Lib.hid hP
          go_wp2_with fail
          go_ret2
          rw [hno'.out]
          exact ⟨rfl, bthen' (bthen (bone _ _) hb3) (Below.refl _ _) |> fun h => hB.trans (h.mono hz)⟩
        · have hq : ((P.length : Int) == 0) = false := by
            have := List.length_pos_iff.2 hP
            simp; omega
          have hne2 := hne'.out hP
          clear hno hne' hrp m0 m1 m2 m3 m4 p0 p1 p2 p3 p4
          replace hP := Lib.hid hP
          replace hne2 := Lib.hid hne2
          have hz3 := hb3.size
          have hz3' : wr.heap.size < w3.heap.size := by simp at hz3; omega
          have h3 : Three w3 w.heap.size u4 u5 (.slice ar P.length cr) S0 T0 P := by
            have ht3 := htwo.below (bthen (bone _ _) hb3) (Nat.le_refl _)
            refine ⟨ht3, hown.mono (by simp; omega), fun k e e2 => ?_, fun k e e2 => ?_⟩
            · have h1 := (htwo.a.lt k e).2
              have h2 := (World.ownsRow.lt hown k e2).1
              simp at h2; omega
            · have h1 := (htwo.b.lt k e).2
              have h2 := (World.ownsRow.lt hown k e2).1
              simp at h2; omega
          have hB3 : Below w.heap.size w w3 := hB.trans ((bthen (bone _ _) hb3).mono hz)
          clear hown hb3 htwo hcr hz3
          go_wp2_with fail
          obtain ⟨wo, rfl⟩ : ∃ wo : World, wo = wr := ⟨_, rfl⟩
          go_loopw [4, 5, 27] (fun u v' i w4 => ∃ j : Nat, j ≤ P.length ∧ i = .int .i64 j ∧ Three w4 w.heap.size u v' (.slice ar P.length cr) ((P.take j).foldl secF S0) ((P.take j).foldl thiF T0) P ∧ ((P.take j).foldl secF S0).length ≤ 10000 * k + j ∧ ((P.take j).foldl thiF T0).length ≤ 10000 * k + j ∧ Below w.heap.size w w4) (fun _ _ i _ => P.length - (intOf i).toNat)
          case atStart => exact ⟨0, Nat.zero_le _, rfl, h3, hS, hT, hB3⟩
          case round =>
            clear h3 hB3 hS hT hz3' hB hz
            obtain ⟨j, hj, rfl, h3, hS, hT, hB⟩ := hrel
            have hz := hB.size
            by_cases hjl : j < P.length
            · obtain ⟨a0, c0, ea, _, hcell⟩ := h3.c.row
              simp only [Value.slice.injEq, true_and] at ea
              obtain ⟨rfl, rfl⟩ := ea
              obtain ⟨b5, o5, rfl, hb5, hcell⟩ := hcell (by rintro rfl; simp at hjl)
              obtain ⟨q0, q1, q2, q3, q4⟩ := hcell j hjl
              clear hcell
              have hSf := take_fold secF P S0 j hjl
              have hTf := take_fold thiF P T0 j hjl
              generalize hS2 : (P.take (j + 1)).foldl secF S0 = S2 at *
              generalize hT2 : (P.take (j + 1)).foldl thiF T0 = T2 at *
              replace hS2 := Lib.hid hS2
              replace hT2 := Lib.hid hT2
              generalize (P.take j).foldl secF S0 = S3 at *
              generalize (P.take j).foldl thiF T0 = T3 at *
              generalize P[j] = y at *
              obtain ⟨m0, m1, m2, m3, m4⟩ := five_new wr (.int .u64 y.ipa) (.int .u64 y.pa) (.int .u64 y.sz) (.int .i64 y.perm) (.int .i64 y.kind) 27
              replace hSf := Lib.hid hSf
              replace hTf := Lib.hid hTf
              have s1 : ∀ W, Calls Try.prog 17 #[.int .i64 1] W fun e w' => e = .returned (.int .u64 1073741824) ∧ Below W.heap.size W w' := fun W => (refSize_any 1 W (by omega)).mono fun e w' ⟨h, e2⟩ => ⟨h, by subst e2; exact Below.refl _ _⟩
              have s2 : ∀ W, Calls Try.prog 17 #[.int .i64 2] W fun e w' => e = .returned (.int .u64 2097152) ∧ Below W.heap.size W w' := fun W => (refSize_any 2 W (by omega)).mono fun e w' ⟨h, e2⟩ => ⟨h, by subst e2; exact Below.refl _ _⟩
              go_wp2_with fail
              have hlt4 : ∀ r, u4.ownBlock = some r → r < wr.heap.size := fun r e => (h3.two.a.lt r e).2
              have hlt5 : ∀ r, u5.ownBlock = some r → r < wr.heap.size := fun r e => (h3.two.b.lt r e).2
              have hbw := bone wr (.cells #[.int .u64 y.ipa, .int .u64 y.pa, .int .u64 y.sz, .int .i64 y.perm, .int .i64 y.kind] 27)
              replace h3 := h3.below hbw (Nat.le_refl _)
              replace hB := hB.trans (hbw.mono hz)
              replace hz := hB.size
              have hnu : u4.ownBlock ≠ some wr.heap.size := fun e => by have := (hlt4 _ e); omega
              have hnv : u5.ownBlock ≠ some wr.heap.size := fun e => by have := (hlt5 _ e); omega
              replace hnu := Lib.hid hnu
              replace hnv := Lib.hid hnv
              have hwz : wr.heap.size < (wr.alloc (.cells #[.int .u64 y.ipa, .int .u64 y.pa, .int .u64 y.sz, .int .i64 y.perm, .int .i64 y.kind] 27)).heap.size := by simp
              generalize wr.alloc (.cells #[.int .u64 y.ipa, .int .u64 y.pa, .int .u64 y.sz, .int .i64 y.perm, .int .i64 y.kind] 27) = w5 at *
              clear hbw q0 q1 q2 q3 q4 m1 m3 m4 hb5
              refine region_later w5.heap.size w5 (Below.refl _ _) (by kernel_rfl) (by kernel_rfl) ?_
              have y2 := later_cell (B := w5.heap.size) m2 (World.block_lt_of_cell? _ _ m2)
              repeat (first | go_big_quiet_step (fail) | go_big_quiet_step ((go_at_call 17; exact quiet_later (Nat.le_refl _) (s1 _))))
              refine wpQuiet_nil ?_
              first | (rintro _ ⟨X, rfl⟩) | (intro X)
              have hX := X.h
              clear y2
              replace h3 := h3.below hX (Nat.le_refl _)
              replace hB := hB.trans (hX.mono (by omega))
              replace m0 := cell_lt hX m0 (World.block_lt_of_cell? _ _ m0)
              replace m2 := cell_lt hX m2 (World.block_lt_of_cell? _ _ m2)
              replace hz := hB.size
              generalize X.x = w6 at *
              clear hX X
              obtain ⟨w5, rfl⟩ : ∃ w5 : World, w5 = w6 := ⟨_, rfl⟩
              have hn4 : u4.ownBlock ≠ some wr.heap.size := hnu.out
              have hn5 : u5.ownBlock ≠ some wr.heap.size := hnv.out
              by_cases k1 : y.sz < 1073741824
              · have f1 : secF S3 y = insN S3 (y.ipa / 1073741824) := by unfold secF; rw [if_pos k1]
                have hl1 := insN_len S3 (y.ipa / 1073741824)
                replace f1 := Lib.hid f1
                go_wp2_with fail
                refine (add_any u4 _ _ w.heap.size _ h3.two.a hz (by omega)).mono ?_
                rintro e w6 ⟨v6, rfl, ho⟩
                replace h3 := h3.left ho
                replace hB := hB.trans ho.low
                replace hz := hB.size
                replace m0 := (ho.cell m0 hn4).trans m0
                replace m2 := (ho.cell m2 hn4).trans m2
                clear ho
                generalize insN S3 (y.ipa / 1073741824) = S4 at *
                obtain ⟨w5, rfl⟩ : ∃ w5 : World, w5 = w6 := ⟨_, rfl⟩
                go_wp2_with fail
                refine region_later w5.heap.size w5 (Below.refl _ _) (by kernel_rfl) (by kernel_rfl) ?_
                have y2 := later_cell (B := w5.heap.size) m2 (World.block_lt_of_cell? _ _ m2)
                repeat (first | go_big_quiet_step (fail) | go_big_quiet_step ((go_at_call 17; exact quiet_later (Nat.le_refl _) (s2 _))))
                refine wpQuiet_nil ?_
                first | (rintro _ ⟨X, rfl⟩) | (intro X)
                have hX := X.h
                clear y2
                replace h3 := h3.below hX (Nat.le_refl _)
                replace hB := hB.trans (hX.mono (by omega))
                replace m0 := cell_lt hX m0 (World.block_lt_of_cell? _ _ m0)
                replace m2 := cell_lt hX m2 (World.block_lt_of_cell? _ _ m2)
                replace hz := hB.size
                generalize X.x = w6 at *
                clear hX X
                obtain ⟨w5, rfl⟩ : ∃ w5 : World, w5 = w6 := ⟨_, rfl⟩
                by_cases k2 : y.sz < 2097152
                · have f2 : thiF T3 y = insN T3 (y.ipa / 2097152) := by unfold thiF; rw [if_pos k2]
                  have hl2 := insN_len T3 (y.ipa / 2097152)
                  replace f2 := Lib.hid f2
                  go_wp2_with fail
                  refine (add_any u5 _ _ w.heap.size _ h3.two.b hz (by omega)).mono ?_
                  rintro e w6 ⟨v7, rfl, ho⟩
                  replace h3 := h3.right ho
                  replace hB := hB.trans ho.low
                  clear ho m0 m2
                  generalize insN T3 (y.ipa / 2097152) = T4 at *
                  go_wp2_with fail
                  refine ⟨⟨j + 1, hjl, by go_num, ?_, ?_, ?_, hB⟩, ?_⟩
                  · rw [hS2.out, hT2.out, hSf.out, hTf.out, f1.out, f2.out]; exact h3
                  · rw [hS2.out, hSf.out, f1.out]; omega
                  · rw [hT2.out, hTf.out, f2.out]; omega
                  · simp [intOf]; omega
                · have f2 : thiF T3 y = T3 := by unfold thiF; rw [if_neg k2]
                  replace f2 := Lib.hid f2
                  go_wp2_with fail
                  refine ⟨⟨j + 1, hjl, by go_num, ?_, ?_, ?_, hB⟩, ?_⟩
                  · rw [hS2.out, hT2.out, hSf.out, hTf.out, f1.out, f2.out]; exact h3
                  · rw [hS2.out, hSf.out, f1.out]; omega
                  · rw [hT2.out, hTf.out, f2.out]; omega
                  · simp [intOf]; omega
              · have k2 : ¬ y.sz < 2097152 := by omega
                have f1 : secF S3 y = S3 := by unfold secF; rw [if_neg k1]
                have f2 : thiF T3 y = T3 := by unfold thiF; rw [if_neg k2]
                replace f1 := Lib.hid f1
                replace f2 := Lib.hid f2
                go_wp2_with fail
                refine region_later w5.heap.size w5 (Below.refl _ _) (by kernel_rfl) (by kernel_rfl) ?_
                have y2 := later_cell (B := w5.heap.size) m2 (World.block_lt_of_cell? _ _ m2)
                repeat (first | go_big_quiet_step (fail) | go_big_quiet_step ((go_at_call 17; exact quiet_later (Nat.le_refl _) (s2 _))))
                refine wpQuiet_nil ?_
                first | (rintro _ ⟨X, rfl⟩) | (intro X)
                have hX := X.h
                clear y2
                replace h3 := h3.below hX (Nat.le_refl _)
                replace hB := hB.trans (hX.mono (by omega))
                replace m0 := cell_lt hX m0 (World.block_lt_of_cell? _ _ m0)
                replace m2 := cell_lt hX m2 (World.block_lt_of_cell? _ _ m2)
                replace hz := hB.size
                generalize X.x = w6 at *
                clear hX X
                obtain ⟨w5, rfl⟩ : ∃ w5 : World, w5 = w6 := ⟨_, rfl⟩
                go_wp2_with fail
                refine ⟨⟨j + 1, hjl, by go_num, ?_, ?_, ?_, hB⟩, ?_⟩
                · rw [hS2.out, hT2.out, hSf.out, hTf.out, f1.out, f2.out]; exact h3
                · rw [hS2.out, hSf.out, f1.out]; omega
                · rw [hT2.out, hTf.out, f2.out]; omega
                · simp [intOf]; omega
            · obtain rfl : j = P.length := by omega
              rw [List.take_length, ← hss.out, ← hts.out] at h3
              rw [List.take_length, ← hss.out] at hS
              rw [List.take_length, ← hts.out] at hT
              go_wp2_with fail
              refine ⟨⟨k + 1, hlt, by go_num, hne2.out, ?_, ?_, ?_, hB⟩, ?_⟩
              · rw [hS1.out, hT1.out]; exact h3.two
              · rw [hS1.out]; omega
              · rw [hT1.out]; omega
              · simp [intOf]; omega
      · obtain rfl : k = l.length := by omega
        rw [List.take_length] at htwo hS hT
        have hr : refNeedV l = (2 + ((secs l).length : Int) + ((this l).length : Int), 0) := by
          unfold refNeedV
          rw [if_pos ⟨hg.out, fun y hy => by obtain ⟨i, hi, rfl⟩ := List.getElem_of_mem hy; exact hne i hi hi⟩]
        replace hr := Lib.hid hr
        clear hne hc1 hg
        generalize secs l = S0 at *
        generalize this l = T0 at *
        obtain ⟨a4, c4, rfl, _, _⟩ := htwo.a.parts
        obtain ⟨a5, c5, rfl, _, _⟩ := htwo.b.parts
        go_wp2_with fail
        go_ret2
        rw [hr.out]
        exact ⟨rfl, hB⟩
end Go.Proofs.Ytkpkbljcflmdgaa
