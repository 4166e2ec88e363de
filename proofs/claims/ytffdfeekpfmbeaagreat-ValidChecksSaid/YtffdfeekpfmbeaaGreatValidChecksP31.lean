/- The walk of valid's apart: rule 10. -/
import Derived.Test.YtffdfeekpfmbeaaGreatValidChecksP16
import Derived.Test.YtffdfeekpfmbeaaGreatValidChecksP21
import Derived.Test.YtffdfeekpfmbeaaGreatValidChecksP30
namespace Go.Proofs.YtffdfeekpfmbeaaGreat
open Go Go.RowKit Go.BigFrame Go.Maps Go.MapKept
open Go.ChangeMaps (setBlock)

/-- Worlds in which a block lies as it lay. -/
structure HeldB (b : Nat) (w0 : World) where
  x : World
  h : x.heap[b]? = w0.heap[b]?
instance heldNonempty (b : Nat) (w0 : World) : Nonempty (HeldB b w0) := ⟨⟨w0, rfl⟩⟩
theorem held_cell {b o : Nat} {w0 : World} {v : Value} (h : w0.cell? ⟨b, o, none⟩ = some v) : ∀ X : HeldB b w0, X.x.cell? ⟨b, o, none⟩ = some v := fun X => heapc X.h h
theorem own_ne {W : World} {xb : Nat} {cells : Array Value} {T E : TypeId} {base : Nat} {v : Value} {l : List Two} (h : W.heap[xb]? = some (.cells cells T (0, 0))) (hne : T ≠ E) (ho : OwnTwo E W base v l) : v.ownBlock ≠ some xb := by
  obtain ⟨_, ⟨rfl, _⟩ | ⟨g, cap, cur, rfl, _, hg, _⟩⟩ := ho
  · simp [Value.ownBlock]
  · intro e
    injection e with e
    have e : g = xb := e
    subst e
    rw [h] at hg
    injection hg with hg
    injection hg with _ hg
    exact hne hg
theorem check_span : 59 ≠ 24 := by decide
theorem OwnTwo.app {E S : TypeId} {P : Program} {ops : Array Oper} {rest : List Oper} {o : Oper} {a : Act} {Q : Exit → Act → World → Prop} {w : World} (hgd : o.guard = none) (s x : Operand)
    (ho : o.op = .call { callee := .builtin .append, args := #[s, x], argTypes := #[S, S] })
    (base : Nat) (hi : InfoTwo P E) (ht : P.underlying S = some (.slice E)) (v u : Value) (l ys : List Two) (hs : a.eval s = v) (hx : a.eval x = u) (hown : OwnTwo E w base v l) (hu : RowTwo w u ys) (hne : ys ≠ []) (hl : l.length + ys.length ≤ 4398046511104) (hbase : base ≤ w.heap.size)
    (h : ∀ v' w', OwnTwo E w' base v' (l ++ ys) → w.grownBy w' v.ownBlock → wpList P ops Q rest (a.put o.dst v') w') : wpList P ops Q (o :: rest) a w := by
  obtain ⟨i0, hi1, hz0, hz1, hz2⟩ := info_parts hi
  obtain ⟨a1, cap, rfl, hc, hcell⟩ := hu
  obtain ⟨b, off, rfl, hb, hcell⟩ := hcell hne
  refine wpList_append_own _ hgd s x S ho base E i0 _ 2 16 ht hi1 hz0 hz1 hz2 rfl (by decide) v l.length (encs l) hs hown ⟨b, off, none⟩ ys.length cap (encs ys) hx (encs_len ys) ?_ ?_ ?_ ?_ hbase ?_
  · intro j q hq
    have hadd : (⟨b, off, none⟩ : Addr).add j = ⟨b, off + j, none⟩ := Go.WideShapes.add_plain ..
    rw [hadd]
    have hj : j < ys.length * 2 := by rw [← encs_len]; exact (List.getElem?_eq_some_iff.1 hq).1
    obtain ⟨e0, e1⟩ := encs_get ys (j / 2) (by omega)
    obtain ⟨c0, c1⟩ := hcell (j / 2) (by omega)
    rcases Nat.mod_two_eq_zero_or_one j with h2 | h2
    · have ej : j = j / 2 * 2 := by omega
      rw [ej] at hq
      rw [e0] at hq
      rw [ej, ← hq]; exact c0
    · have ej : j = j / 2 * 2 + 1 := by omega
      rw [ej] at hq
      rw [e1] at hq
      rw [ej, ← hq, ← Nat.add_assoc]; exact c1
  · intro q hq
    obtain ⟨j, hj⟩ := List.mem_iff_getElem?.1 hq
    exact encs_get' ys j q hj
  · unfold maxLen; omega
  · omega
  · intro v' w' hown' hg _
    refine h v' w' ?_ hg
    unfold OwnTwo
    have e : encs (l ++ ys) = encs l ++ encs ys := by simp [encs]
    rw [e, List.length_append]; exact hown'
theorem OwnTwo.set_other {E : TypeId} {W : World} {base xb o : Nat} {v u : Value} {l : List Two} (h : OwnTwo E W base v l) (hne : v.ownBlock ≠ some xb) : OwnTwo E (W.setCell ⟨xb, o, none⟩ u) base v l := by
  obtain ⟨hl, hc⟩ := h
  refine ⟨hl, ?_⟩
  rcases hc with hc | ⟨g, cap, cur, rfl, hb, hg, hr⟩
  · exact .inl hc
  · exact .inr ⟨g, cap, cur, rfl, hb, (setCell_other (fun e => hne (by rw [← e]; rfl))).trans hg, hr⟩
set_option maxRecDepth 100000 in
set_option maxHeartbeats 4000000 in
theorem apart_any (xb : Nat) (b : BrdV) (ver : Int) (vg vc : Value) (acc : Int) (mi ms : Nat) (vo vs : Value) (g : Nat) (gs : List GuestV) (chs : List ChV) (O : List Two) (w : World) (hc : ChkAt w xb b ver vg vc acc mi ms vo vs) (hG : RowG w vg gs) (hC : RowC w vc chs) (hs : smallP gs chs)
    (_hgn : g < gs.length) (hph : physV gs g ≠ []) (hlen : O.length + (physV gs g).length ≤ 100000000) (B Bo : Nat) (hBo : B ≤ Bo) (hBoW : Bo ≤ w.heap.size) (hO : OwnTwo 24 w Bo vo O) (hBx : B ≤ xb) :
    Calls Tryz.prog 27 #[.pointer (some ⟨xb, 0, none⟩), .int .i64 g] w fun e w' => e = mustE (!((firstV (O ++ physV gs g)).2.2)) 10 g ∧ OffV B (xb :: vo.ownBlock.toList) w w' ∧
      (e = .returned (.tuple #[]) → ∃ vo', ChkAt w' xb b ver vg vc acc mi ms vo' vs ∧ OwnTwo 24 w' Bo vo' (O ++ physV gs g)) := by
  have hBw : B ≤ w.heap.size := Nat.le_trans hBo hBoW
  have hph16 := fun W h1 h2 => phys16_any ver vg vc gs chs g W h1 h2 hs
  generalize physV gs g = ys at *
  have hx := hc.lt
  have c7 := hc.cell (j := 7) rfl
  have c8 := hc.cell (j := 8) rfl
  have c9 := hc.cell (j := 9) rfl
  have c13 := hc.cell (j := 13) rfl
  simp only [List.getElem_toArray, List.getElem_cons_succ, List.getElem_cons_zero] at c7 c8 c9 c13
  obtain ⟨av, cv, hvo⟩ := ownsRow_slice hO
  subst hvo
  have hne := own_ne hc.blk check_span hO
  go_enter Tryz.func27, Tryz.ntmps27
  go_wp2_with fail
  refine region_ordS (fun z => ∃ X : HeldB xb w, z = X.x) [([0, 1, 2, 3, 4, 5, 6, 7, 8, 9], 10), ([], 11)] [12, 13] 14 (by kernel_rfl) (by kernel_rfl) (by kernel_rfl) (by kernel_rfl) ⟨⟨w.drew, rfl⟩, rfl⟩ ?_
  simp only [List.map_cons, List.map_nil, List.filterMap_cons, List.filterMap_nil, List.getElem?_cons_succ, List.getElem?_cons_zero]
  have y7 := held_cell (w0 := w) c7
  have y8 := held_cell (w0 := w) c8
  have y9 := held_cell (w0 := w) c9
  have y13 := held_cell (w0 := w) c13
  have hB0 : Below w.heap.size w w.drew := (Below.refl _ _).drew
  generalize w.drew = w1 at *
  have hz1 := hB0.size
  refine ordS_step ?_
  repeat (change wpQuiet _ _ _ _ (List.cons _ _) _; go_big_quiet_step (fail))
  refine wpQuiet_nil ?_
  intro Q₁ hQ₁
  simp only [Option.toList]
  go_wp2_with fail
  refine (hph16 _ (hG.below hB0 lasts_guest) (hC.below hB0 lasts_ch)).mono ?_; rintro e w2 ⟨⟨v, rfl, hown⟩, hb2⟩
  have hB2 := bthen hB0 hb2
  have hO2 := hO.below hB2 (Nat.le_refl _)
  have hrow := hown.row
  clear hph16
  go_wp2_with fail
  refine hQ₁ _ _ ⟨⟨w2, hB2.block xb hx⟩, rfl⟩ ?_
  clear hQ₁ Q₁
  refine ordS_step ?_
  refine wpQuiet_nil ?_
  intro Q₁ hQ₁
  simp only [Option.toList]
  go_wp2_with (at_builtin; refine OwnTwo.app rfl _ _ rfl Bo infoS16 Tryz.underlying57 (.slice av O.length cv) v O ys rfl rfl hO2 hrow hph (by omega) (Nat.le_trans hBoW hB2.size) ?_; intro v' w3 hO3 hgr)
  refine hQ₁ _ _ ⟨⟨w3, (hgr.block xb (by have := hB2.size; omega) (fun e => hne e.symm)).trans (hB2.block xb hx)⟩, rfl⟩ ?_
  clear hQ₁ Q₁
  refine ordS_last ?_
  repeat (change wpQuiet _ _ _ _ (List.cons _ _) _; go_big_quiet_step (fail))
  refine wpQuiet_nil ?_
  intro Q₁ hQ₁
  simp only [Option.toList]
  have hx2 : xb < w2.heap.size := by have := hB2.size; omega
  have hk3 : w3.heap[xb]? = w.heap[xb]? := (hgr.block xb hx2 (fun e => hne e.symm)).trans (hB2.block xb hx)
  have hC3 : ChkAt w3 xb b ver vg vc acc mi ms (.slice av O.length cv) vs := ⟨hk3.trans hc.blk⟩
  have hz3 := hgr.size
  have hfz : w3.frozen? ⟨xb, 13, none⟩ = false := by simp [World.frozen?, hC3.blk]
  have hcx : (w3.cell? ⟨xb, 13, none⟩).isSome := by rw [hC3.cell (j := 13) rfl]; rfl
  have hcx' := hC3.cell (j := 13) rfl
  simp only [List.getElem_toArray, List.getElem_cons_succ, List.getElem_cons_zero] at hcx'
  obtain ⟨a3, c3, hv3⟩ := ownsRow_slice hO3
  rw [List.length_append] at hv3
  subst hv3
  have hO4 := hO3.set_other (o := 13) (u := .slice a3 (O.length + ys.length) c3) (own_ne hC3.blk check_span hO3)
  have hoff : OffV B (xb :: (Value.slice av O.length cv).ownBlock.toList) w (w3.setCell ⟨xb, 13, none⟩ (.slice a3 (O.length + ys.length) c3)) := by
    refine OffV.set ?_ (.inl (by simp)) hBx
    refine ⟨((hB2.mono hBw).grown hgr (by have := hB2.size; omega) fun k hk => Nat.le_trans hBo (hO2.lt k hk).1), fun k hk hn => ?_⟩
    refine (hgr.block k (by have := hB2.size; omega) fun e => hn ?_).trans (hB2.block k hk)
    rw [List.mem_cons]; right; rw [← e]; simp
  have hC4 : ChkAt (w3.setCell ⟨xb, 13, none⟩ (.slice a3 (O.length + ys.length) c3)) xb b ver vg vc acc mi ms (.slice a3 (O.length + ys.length) c3) vs := ⟨(setCell_at hC3.blk 13 _).trans rfl⟩
  go_wp2_with fail
  obtain ⟨w4, hw4⟩ : ∃ w4, w4 = w3.setCell ⟨xb, 13, none⟩ (.slice a3 (O.length + ys.length) c3) := ⟨_, rfl⟩
  rw [← hw4] at hO4 hoff hC4 ⊢
  clear hw4
  refine (first_any _ (O ++ ys) w4 hO4.row (by rw [List.length_append]; omega)).mono ?_; rintro e w5 ⟨rfl, hb5⟩
  have hO5 := hO4.below hb5 (Nat.le_refl _)
  have hC5 := hC4.below hb5
  have hoff5 := hoff.then hb5 hBw
  generalize (firstV (O ++ ys)).1 = i1 at *
  generalize (firstV (O ++ ys)).2.1 = i2 at *
  generalize hq : (firstV (O ++ ys)).2.2 = q at *
  replace hq := Lib.hid hq
  clear hO4 hC4 hoff hb5
  go_wp2_with fail
  refine (must_any _ _ _ _).mono ?_; rintro e w6 ⟨rfl, rfl⟩
  cases q
  · simp only [mustE, Bool.not_false]
    go_wp2_with fail
    go_end0
    exact ⟨by rw [hq.out]; rfl, hoff5, fun _ => ⟨_, hC5, hO5⟩⟩
  · exact ⟨rfl, by rw [hq.out]; rfl, hoff5, fun h => by simp at h⟩
end Go.Proofs.YtffdfeekpfmbeaaGreat
