/- The reference's Pieces. -/
import Derived.Test.YtnieomgopldlhaaTableNeedsP21
import Derived.Test.YtnieomgopldlhaaTableNeedsP46
namespace Go.Proofs.Ytnieomgopldlhaa
open Go Go.RowKit Go.BigFrame

theorem BoxM.other {W : World} {b c o : Nat} {y : M5} (h : BoxM W b y) (hne : b ≠ c) (u : Value) : BoxM (W.setCell ⟨c, o, none⟩ u) b y := (Below.heap_setCell W _ u b (by simpa using hne)).trans h
theorem BoxM.grown {W W' : World} {row : Option Nat} {b : Nat} {y : M5} (h : BoxM W b y) (hg : W.grownBy W' row) (hne : some b ≠ row) : BoxM W' b y := (hg.block b h.lt hne).trans h
theorem BoxM.step {W : World} {b : Nat} {y : M5} (h : BoxM W b y) : BoxM (((W.setCell ⟨b, 0, none⟩ (.int .u64 (restP y).ipa)).setCell ⟨b, 1, none⟩ (.int .u64 (restP y).pa)).setCell ⟨b, 2, none⟩ (.int .u64 (restP y).sz)) b (restP y) := heapAt_set (heapAt_set (heapAt_set h 0 _) 1 _) 2 _

def tailP (y : M5) : List M5 := (piecesL y).map (·.2)
theorem tailP_cons {y : M5} (h : Cut y) (h0 : 0 < y.sz) : tailP y = headP y :: tailP (restP y) := by unfold tailP; rw [piecesL_cons h h0]; rfl
theorem tailP_nil {y : M5} (h0 : ¬ 0 < y.sz) : tailP y = [] := by unfold tailP; rw [piecesL_nil h0]; rfl

set_option maxRecDepth 20000 in
set_option maxHeartbeats 4000000 in
theorem refPieces_any (x0 : M5) (w : World) : Calls Try.prog 15 #[.agg #[.int .u64 x0.ipa, .int .u64 x0.pa, .int .u64 x0.sz, .int .i64 x0.perm, .int .i64 x0.kind]] w fun e w' => ∃ r, e = .returned r ∧ OwnM 44 w' w.heap.size r (piecesV x0) ∧ Below w.heap.size w w' := by
  have hgd := fun W => refGoodM_any _ [x0] _ (rowM_one W x0) (by simp)
  obtain ⟨m0, m1, m2, m3, m4⟩ := five_new w (.int .u64 x0.ipa) (.int .u64 x0.pa) (.int .u64 x0.sz) (.int .i64 x0.perm) (.int .i64 x0.kind) 44
  have hbx := BoxM.new w x0
  obtain ⟨w0, hw0⟩ : ∃ w0, w0 = w.alloc (.cells #[.int .u64 x0.ipa, .int .u64 x0.pa, .int .u64 x0.sz, .int .i64 x0.perm, .int .i64 x0.kind] 44) := ⟨_, rfl⟩
  cases hg : goodM [x0]
  · rw [hg] at hgd
    have hv : piecesV x0 = [] := by unfold piecesV; rw [if_neg (by rw [hg]; simp)]
    rw [hv]
    clear hv hg
    go_enter Try.func15, Try.ntmps15
    go_wp2_with fail
    rw [← hw0] at m0 m1 m2 m3 m4 ⊢
    have hb0 : Below w.heap.size w w0 := by rw [hw0]; exact bone _ _
    have hgd0 := hgd w0
    have hz0 : w0.heap.size = w.heap.size + 1 := by rw [hw0]; simp
    rw [hz0] at hgd0
    clear hw0 hgd
    refine hgd0.mono ?_; rintro e w1 ⟨rfl, hb1⟩
    go_wp2_with fail
    go_ret
    exact ⟨_, rfl, OwnM.nil _ _ _, bthen (bthen hb0 (bone _ _)) hb1⟩
  · have hcut := good_cut hg
    rw [hg] at hgd
    have hv : piecesV x0 = if (tailP x0).length ≤ 10000 then tailP x0 else [] := by
      unfold piecesV tailP
      rw [List.length_map]
      by_cases h : (piecesL x0).length ≤ 10000
      · rw [if_pos ⟨hg, h⟩, if_pos h]
      · rw [if_neg (fun h' => h h'.2), if_neg h]
    rw [hv]
    obtain ⟨P0, hP0⟩ : ∃ P0, P0 = tailP x0 := ⟨_, rfl⟩
    rw [← hP0]
    replace hP0 := Lib.hid hP0
    clear hv hg
    go_enter Try.func15, Try.ntmps15
    go_wp2_with fail
    rw [← hw0] at m0 m1 m2 m3 m4 hbx ⊢
    have hb0 : Below w.heap.size w w0 := by rw [hw0]; exact bone _ _
    have hgd0 := hgd w0
    have hz0 : w0.heap.size = w.heap.size + 1 := by rw [hw0]; simp
    rw [hz0] at hgd0
    clear hw0 hgd
    refine hgd0.mono ?_; rintro e w1 ⟨rfl, hb1⟩
    have hbx1 : BoxM w1 w.heap.size x0 := (hbx.below (bone _ _) (by omega)).below hb1 (by simp; omega)
    have hB1 : Below w.heap.size w w1 := bthen (bthen hb0 (bone _ _)) hb1
    clear hb1 hb0 hgd0 m0 m1 m2 m3 m4 hbx hz0
    go_wp2_with fail
    go_loopw [3] (fun v wr => ∃ (out : List M5) (y : M5), P0 = out ++ tailP y ∧ Cut y ∧ out.length ≤ 10000 ∧ BoxM wr w.heap.size y ∧ OwnM 44 wr (w.heap.size + 1) v out ∧ Below w.heap.size w wr) (fun _ wr => szAt wr w.heap.size)
    case atStart => exact ⟨[], x0, hP0.out, hcut, by simp, hbx1, OwnM.nil _ _ _, hB1⟩
    case round =>
      clear hbx1 hB1
      obtain ⟨out, y, hpre, hcut', hlen, hbox, hown, hB⟩ := hrel
      obtain ⟨c0, c1, c2, c3, c4⟩ := hbox.cells
      have hBl := hbox.lt
      have hz0 := y.hs.1
      obtain ⟨ao, co, rfl, _, _⟩ := hown.row
      by_cases hlt : 0 < y.sz
      · obtain ⟨hs1, hs2, hs3, hs4, hcutR⟩ := hcut'.step hlt
        have hcons := tailP_cons hcut' hlt
        by_cases h10 : out.length = 10000
        · have hno : ¬ P0.length ≤ 10000 := by rw [hpre, hcons, List.length_append]; simp; omega
          have hk : ((out.length : Int) == 10000) = true := by rw [h10]; rfl
          replace hpre := Lib.hid hpre
          replace hcons := Lib.hid hcons
          replace hs2 := Lib.hid hs2
          replace hs3 := Lib.hid hs3
          replace hs4 := Lib.hid hs4
          replace h10 := Lib.hid h10
          replace hno := Lib.hid hno
          go_wp2_with fail
          go_ret
          try rw [if_neg hno.out]
          exact ⟨_, rfl, OwnM.nil _ _ _, hB⟩
        · have hk : ((out.length : Int) == 10000) = false := by simp; omega
          have hlv := fun W => refLevel_any y W
          have hsk := fun W => refSize_any (lvM y) W (lvM_cases y)
          change ∀ W, Calls _ _ _ W fun e w' => e = .returned (.int .u64 (stepK y)) ∧ W = w' at hsk
          have hst := stepK_cases y
          have hl9 : out.length < 10000 := by omega
          have hol := fun r => World.ownsRow.lt hown r
          have hlv5 : ∀ (e5 : List Value), e5 = encM [headP y] → e5 = [.int .u64 y.ipa, .int .u64 y.pa, .int .u64 (stepK y), .int .i64 y.perm, .int .i64 y.kind] := fun e5 h => by rw [h]; rfl
          replace hpre := Lib.hid hpre
          replace hcons := Lib.hid hcons
          replace hs2 := Lib.hid hs2
          replace hs3 := Lib.hid hs3
          replace hs4 := Lib.hid hs4
          replace hst := Lib.hid hst
          have w0' : IntKind.u64.wrap (y.ipa + stepK y) = (restP y).ipa := IntKind.wrap_u64 _
          have w1' : IntKind.u64.wrap (y.pa + stepK y) = (restP y).pa := IntKind.wrap_u64 _
          have w2' : IntKind.u64.wrap (y.sz - stepK y) = (restP y).sz := IntKind.wrap_u64 _
          have hnp := BoxM.new wr y
          go_wp2_with fail
          refine (hlv _).mono ?_
          clear hlv
          rintro e w2 ⟨rfl, hb2⟩
          have bm2 : BoxM w2 w.heap.size y := (hbox.below (bone _ _) hBl).below hb2 (by simp; omega)
          have bp2 : BoxM w2 wr.heap.size y := hnp.below hb2 (by simp)
          have ow2 : OwnM 44 w2 (w.heap.size + 1) (.slice ao out.length co) out := (hown.below (bone _ _) (Nat.le_refl _)).below hb2 (Nat.le_refl _)
          have hB2 : Below w.heap.size w w2 := hB.trans ((bthen (bone _ _) hb2).mono hB.size)
          have bp3 : BoxM (w2.setCell ⟨wr.heap.size, 2, none⟩ (.int .u64 (stepK y))) wr.heap.size (headP y) := heapAt_set bp2 2 _
          have bm3 : BoxM (w2.setCell ⟨wr.heap.size, 2, none⟩ (.int .u64 (stepK y))) w.heap.size y := bm2.other (by omega) _
          have ow3 : OwnM 44 (w2.setCell ⟨wr.heap.size, 2, none⟩ (.int .u64 (stepK y))) (w.heap.size + 1) (.slice ao out.length co) out := ownsRow_off ow2 (fun r e => by have := hol r e; omega) _
          have hB3 : Below w.heap.size w (w2.setCell ⟨wr.heap.size, 2, none⟩ (.int .u64 (stepK y))) := hB2.setCell (by simp; omega) _
          obtain ⟨d0, d1, d2, d3, d4⟩ := bp2.cells
          have fp2 := bp2.frozen 2
          have hz2 := bp2.lt
          clear hb2 hnp
          go_wp2_with (first | (go_at_call 30; refine (hsk _).mono ?_; rintro e w5 ⟨rfl, rfl⟩) | (at_builtin; refine wpl_append_map rfl _ _ 22 rfl (w.heap.size + 1) 44 infoMap Try.underlying22 (.slice ao out.length co) out [headP y] rfl rfl ?_ ?_ ?_ ?_ ?_ ?_ ?_; (focus (exact ow3)); (focus rfl); (focus (first | rfl | (simp; done))); (focus rfl); (focus (simp; omega)); (focus (simp; omega)); intro v' w6 hown' hbel hgrow; have bm6 : BoxM w6 w.heap.size y := BoxM.grown (bm3.below (bone _ _) bm3.lt) hgrow (fun e => by have := hol _ e.symm; omega); have bp6 : BoxM w6 wr.heap.size (headP y) := BoxM.grown (bp3.below (bone _ _) bp3.lt) hgrow (fun e => by have := hol _ e.symm; omega); obtain ⟨e0, e1, e2, _, _⟩ := bm6.cells; have e3 : w6.cell? ⟨wr.heap.size, 2, none⟩ = some (.int .u64 (stepK y)) := bp6.cells.2.2.1; have f0 := bm6.frozen 0; have f1 := bm6.frozen 1; have f2 := bm6.frozen 2; obtain ⟨a6, c6, rfl, _, _⟩ := hown'.row))
          have hle : (out ++ [headP y]).length = out.length + 1 := by simp
          rw [hle] at hown'
          refine ⟨⟨out ++ [headP y], restP y, by rw [hpre.out, hcons.out]; simp, hcutR, by simp; omega, bm6.step, ?_, ?_⟩, ?_⟩
          · have hno : ∀ r, (Value.slice a6 (out.length + 1) c6).ownBlock = some r → r ≠ w.heap.size := fun r e => by have := (World.ownsRow.lt hown' r e).1; omega
            exact ownsRow_off (ownsRow_off (ownsRow_off hown' hno _) hno _) hno _
          · exact (((hB3.trans (hbel _ (by omega))).setCell (by simp) _).setCell (by simp) _).setCell (by simp) _
          · rw [bm6.step.szAt, hbox.szAt, hs4.out]
            have := hst.out
            omega
      · have hz : y.sz = 0 := by omega
        rw [tailP_nil hlt, List.append_nil] at hpre
        subst hpre
        replace hz := Lib.hid hz
        go_wp2_with fail
        go_ret
        try rw [if_pos hlen]
        exact ⟨_, rfl, hown.mono (by omega), hB⟩
end Go.Proofs.Ytnieomgopldlhaa
/- The reference's Need: numbers among numbers, of two levels. -/
namespace Go.Proofs.Ytnieomgopldlhaa
open Go Go.RowKit Go.Shelf Go.BigFrame

/-- Two rows of words, apart. -/
structure TwoW (W : World) (base : Nat) (u v : Value) (S T : List Int) : Prop where
  a : OwnWd W base u S
  b : OwnWd W base v T
  ab : ∀ r, u.ownBlock = some r → v.ownBlock ≠ some r
/-- .. and a row of maps. -/
structure Three (W : World) (base : Nat) (u v r : Value) (S T : List Int) (P : List M5) : Prop where
  two : TwoW W base u v S T
  c : OwnM 44 W base r P
  ac : ∀ k, u.ownBlock = some k → r.ownBlock ≠ some k
  bc : ∀ k, v.ownBlock = some k → r.ownBlock ≠ some k
theorem OwnWd.lt {w : World} {base : Nat} {v : Value} {l : List Int} (h : OwnWd w base v l) : ∀ r, v.ownBlock = some r → base ≤ r ∧ r < w.heap.size := World.ownsRow.lt h
theorem TwoW.nil (W : World) (base : Nat) : TwoW W base (.slice none 0 0) (.slice none 0 0) [] [] := ⟨OwnWd.nil _ _, OwnWd.nil _ _, fun r h => by cases h⟩
theorem TwoW.below {W W' : World} {base B : Nat} {u v : Value} {S T : List Int} (h : TwoW W base u v S T) (hb : Below B W W') (hB : W.heap.size ≤ B) : TwoW W' base u v S T :=
  ⟨h.a.same fun r e => hb.block r (Nat.lt_of_lt_of_le (h.a.lt r e).2 hB), h.b.same fun r e => hb.block r (Nat.lt_of_lt_of_le (h.b.lt r e).2 hB), h.ab⟩
theorem Three.below {W W' : World} {base B : Nat} {u v r : Value} {S T : List Int} {P : List M5} (h : Three W base u v r S T P) (hb : Below B W W') (hB : W.heap.size ≤ B) : Three W' base u v r S T P :=
  ⟨h.two.below hb hB, h.c.below hb hB, h.ac, h.bc⟩
theorem Three.left {W W' : World} {base : Nat} {u u' v r : Value} {S S' T : List Int} {P : List M5} (h : Three W base u v r S T P) (ho : AddOut W W' base u u' S') : Three W' base u' v r S' T P := by
  have hv := h.two.b.lt
  have hr := World.ownsRow.lt h.c
  refine ⟨⟨ho.own, h.two.b.same fun k e => ho.rest k (hv k e).2 (fun e2 => h.two.ab k e2 e), fun k e e2 => ?_⟩, ownsRow_sameF h.c fun k e => ho.rest k (hr k e).2 (fun e2 => h.ac k e2 e), fun k e e2 => ?_, h.bc⟩
  · rcases ho.at' with h1 | h1
    · exact h.two.ab k (h1 ▸ e) e2
    · have := h1 k e; have := (hv k e2).2; omega
  · rcases ho.at' with h1 | h1
    · exact h.ac k (h1 ▸ e) e2
    · have := h1 k e; have := (hr k e2).2; omega
theorem Three.right {W W' : World} {base : Nat} {u v v' r : Value} {S T T' : List Int} {P : List M5} (h : Three W base u v r S T P) (ho : AddOut W W' base v v' T') : Three W' base u v' r S T' P := by
  have hu := h.two.a.lt
  have hr := World.ownsRow.lt h.c
  refine ⟨⟨h.two.a.same fun k e => ho.rest k (hu k e).2 (fun e2 => h.two.ab k e e2), ho.own, fun k e e2 => ?_⟩, ownsRow_sameF h.c fun k e => ho.rest k (hr k e).2 (fun e2 => h.bc k e2 e), h.ac, fun k e e2 => ?_⟩
  · rcases ho.at' with h1 | h1
    · exact h.two.ab k e (h1 ▸ e2)
    · have := h1 k e2; have := (hu k e).2; omega
  · rcases ho.at' with h1 | h1
    · exact h.bc k (h1 ▸ e) e2
    · have := h1 k e; have := (hr k e2).2; omega
theorem AddOut.cell {w w' : World} {base b o : Nat} {v v' x : Value} {l : List Int} (h : AddOut w w' base v v' l) (c : w.cell? ⟨b, o, none⟩ = some x) (hn : v.ownBlock ≠ some b) : w'.cell? ⟨b, o, none⟩ = w.cell? ⟨b, o, none⟩ := by
  have := h.rest b (World.block_lt_of_cell? _ _ c) hn
  simp only [World.cell?, this]

end Go.Proofs.Ytnieomgopldlhaa
