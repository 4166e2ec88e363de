/- The program's Pieces: a range over the iterator of pieces that appends into a captured slice. -/
import Derived.Maps.OwnIn
import Derived.Test.YtiblhlaemmdphaaGreatTableFreshP24
import Derived.Test.YtiblhlaemmdphaaGreatTableFreshP25
import Derived.Test.YtiblhlaemmdphaaGreatTableFreshP26
namespace Go.Proofs.YtiblhlaemmdphaaGreat
open Go Go.RowKit Go.Shelf Go.BigFrame
attribute [local go_sem] Oper.semAt_some
theorem info_partsM {P : Program} {E : TypeId} (h : InfoM P E) : ∃ i, P.info? E = some i ∧ i.zero = some (.agg #[.int .u64 0, .int .u64 0, .int .u64 0, .int .i64 0, .int .i64 0]) ∧ i.size = 5 ∧ i.bytes = 40 := by
 obtain ⟨i0, hi1, hi2⟩ := Option.map_eq_some_iff.1 h
 rw [Prod.mk.injEq, Prod.mk.injEq] at hi2
 exact ⟨i0, hi1, hi2.1, hi2.2.1, hi2.2.2⟩
theorem good_cut {y : M5} (h : goodM [y] = true) : Cut y := by
 have h1 := List.all_eq_true.1 h 0 (by simp)
 unfold okM elemB at h1
 rw [Bool.and_eq_true, Bool.and_eq_true] at h1
 have e : ([y] : List M5)[0]! = y := rfl
 rw [e] at h1
 have h2 := h1.1.1
 have h3 := h1.1.2
 rw [Bool.and_eq_true] at h3
 have h4 := pageM_iff.1 h2
 have h5 := pageM_iff.1 h3.1
 exact ⟨h4.2.2.2, by omega, by omega⟩
def piecesV (y : M5) : List M5 := if goodM [y] = true ∧ (piecesL y).length ≤ 10000 then (piecesL y).map (·.2) else []
theorem rowM_one (W : World) (y : M5) : RowM (W.alloc (.cells #[.int .u64 y.ipa, .int .u64 y.pa, .int .u64 y.sz, .int .i64 y.perm, .int .i64 y.kind] 59)) (.slice (some ⟨W.heap.size, 0, none⟩) 1 1) [y] := by
 refine ⟨_, _, rfl, Nat.le_refl _, fun _ => ⟨_, _, rfl, by simp, fun i hi => ?_⟩⟩
 have : i = 0 := by simp at hi; omega
 subst this
 exact five_new W _ _ _ _ _ _
theorem ownsRow_off {W : World} {base c o : Nat} {E : TypeId} {s k : Nat} {v : Value} {xs : List Value} (h : W.ownsRow base E s v k xs) (hne : ∀ r, v.ownBlock = some r → r ≠ c) (u : Value) : (W.setCell ⟨c, o, none⟩ u).ownsRow base E s v k xs := by
 obtain ⟨hlen, hc⟩ := h
 refine ⟨hlen, hc.imp id fun ⟨g, cap, cur, hv, hb, hg, hr⟩ => ⟨g, cap, cur, hv, hb, ?_, hr⟩⟩
 exact (Below.heap_setCell W _ u g (by have := hne g (by rw [hv]; rfl); simpa using this)).trans hg
theorem keep_appM {W w1 : World} {tmp : Obj} {v u : Value} {B b : Nat} (hg : (W.alloc tmp).grownBy w1 v.ownBlock) (hb : b < W.heap.size) (hne : b ≠ B) (hown : ∀ r, v.ownBlock = some r → r ≠ b) : (w1.setCell ⟨B, 0, none⟩ u).heap[b]? = W.heap[b]? := by
 refine (Below.heap_setCell _ _ _ b (by simpa using hne)).trans ((hg.block b (by simp; omega) (fun e => hown b e.symm rfl)).trans ?_)
 exact (bone W tmp).block b hb
theorem five_two (y : M5) (w W0 : World) (h : W0 = (w.alloc (.cells #[.slice none 0 0] 22)).alloc (.cells #[.int .u64 y.ipa, .int .u64 y.pa, .int .u64 y.sz, .int .i64 y.perm, .int .i64 y.kind] 59)) :
  Boxed W0 w.heap.size 22 (.slice none 0 0) ∧ BoxM W0 (w.heap.size + 1) y ∧ W0.heap.size = w.heap.size + 2 ∧ Below w.heap.size w W0 := by
 subst h
 refine ⟨(Boxed.new _ _ _).alloc _, ?_, by simp, ((Below.refl _ w).alloc (Nat.le_refl _) _).alloc (by simp) _⟩
 have := BoxM.new (w.alloc (.cells #[.slice none 0 0] 22)) y
 rwa [World.size_alloc] at this
def Gath (L b B : Nat) (w2 : World) (f : List (Int × M5) → List M5) (pre : List (Int × M5)) (W : World) : Prop :=
 (∃ v, Boxed W L 22 v ∧ W.ownsRow L 59 5 v pre.length (encM (f pre)) ∧ (∀ r, v.ownBlock = some r → b < r ∧ r < B)) ∧ Below L w2 W
theorem gath_own (L b B : Nat) (w2 : World) (f : List (Int × M5) → List M5) (N : Nat) (hN : L ≤ N) (hw : L ≤ w2.heap.size) : OwnFrom N (Gath L b B w2 f) :=
 OwnFrom.and (Own.from (holdsRow_own L L 22 59 5 (fun pre : List (Int × M5) => pre.length) (fun pre => encM (f pre)) (fun _ v => ∀ r, v.ownBlock = some r → b < r ∧ r < B)) _) (ownFrom_below hw hN)
theorem gath_cells {L b B : Nat} {w2 : World} {f : List (Int × M5) → List M5} {pre : List (Int × M5)} {W : World} (h : Gath L b B w2 f pre W) (hL : L < b) (o : Nat) (u : Value) : Gath L b B w2 f pre (W.setCell ⟨b, o, none⟩ u) := by
 obtain ⟨⟨v, h1, h2, h3⟩, h4⟩ := h
 exact ⟨⟨v, boxed_off h1 (by omega) _, ownsRow_off h2 (fun r e => by have := h3 r e; omega) _, h3⟩, h4.setCell (by simp; omega) _⟩
theorem cell_five_new (W : World) (p q r s v : Value) (t : TypeId) : ∀ (j : Nat) (u : Value), [p, q, r, s, v][j]? = some u → (W.alloc (.cells #[p, q, r, s, v] t)).cell? ((⟨W.heap.size, 0, none⟩ : Addr).add j) = some u := by
 intro j u hu
 have hadd : (⟨W.heap.size, 0, none⟩ : Addr).add j = ⟨W.heap.size, j, none⟩ := by unfold Addr.add; split <;> simp_all
 rw [hadd, World.cell?_alloc_new]
 simpa using hu
set_option maxRecDepth 100000 in
set_option maxHeartbeats 2000000 in
theorem pieces_any (y : M5) (w : World) : Calls Tryz.prog 19 #[.agg #[.int .u64 y.ipa, .int .u64 y.pa, .int .u64 y.sz, .int .i64 y.perm, .int .i64 y.kind]] w fun e w' => ∃ r, e = .returned r ∧ OwnM 59 w' w.heap.size r (piecesV y) ∧ Below w.heap.size w w' := by
 have hgd := fun W => goodM_any _ [y] _ (rowM_one W y) (by simp)
 obtain ⟨m0, m1, m2, m3, m4⟩ := five_new w (.int .u64 y.ipa) (.int .u64 y.pa) (.int .u64 y.sz) (.int .i64 y.perm) (.int .i64 y.kind) 59
 obtain ⟨w0, hw0⟩ : ∃ w0, w0 = w.alloc (.cells #[.int .u64 y.ipa, .int .u64 y.pa, .int .u64 y.sz, .int .i64 y.perm, .int .i64 y.kind] 59) := ⟨_, rfl⟩
 cases hg : goodM [y]
 ·rw [hg] at hgd
  have hv : piecesV y = [] := by unfold piecesV; rw [if_neg (by rw [hg]; simp)]
  rw [hv]
  clear hv hg
  go_enter Tryz.func19, Tryz.ntmps19
  go_wp2_with fail
  rw [← hw0] at m0 m1 m2 m3 m4 ⊢
  have hb0 : Below w.heap.size w w0 := by rw [hw0]; exact bone _ _
  have hgd0 := hgd w0
  have hz0 : w0.heap.size = w.heap.size + 1 := by rw [hw0]; simp
  rw [hz0] at hgd0
  clear hw0 hgd
  refine hgd0.mono ?_; rintro e w1 ⟨rfl, hb1⟩
  go_wp2_with fail
  go_ret
  exact ⟨_, rfl, OwnM.nil _ _ _, bthen (bthen hb0 (bone _ _)) hb1⟩
 ·have hcut := good_cut hg
  have hfew := fun W => few_any y hcut W
  rw [hg] at hgd
  by_cases hF : (piecesL y).length ≤ 10000
  ·have hv : piecesV y = (piecesL y).map (·.2) := by unfold piecesV; rw [if_pos ⟨hg, hF⟩]
   rw [hv]
   rw [decide_eq_true hF] at hfew
   clear hv hg
   refine (callsIn_wide (n := 9)).1 ?_
   refine callsIn_of_wp_marks Tryz.func19 rfl trivial ?_ rfl
   simp only [Tryz.ntmps19, List.size_toArray, List.length_cons, List.length_nil, Nat.reduceAdd, Nat.reduceSub, Array.replicate_succ, Array.replicate_zero, List.push_toArray, List.append_toArray, List.nil_append, List.cons_append]
   gi_wp2
   rw [← hw0] at m0 m1 m2 m3 m4 ⊢
   have hb0 : Below w.heap.size w w0 := by rw [hw0]; exact bone _ _
   have hgd0 := hgd w0
   have hz0 : w0.heap.size = w.heap.size + 1 := by rw [hw0]; simp
   rw [hz0] at hgd0
   clear hw0 hgd
   refine ⟨trivial, ?_⟩
   refine (callsIn_wide.2 hgd0).mono ?_; rintro e w1 ⟨rfl, hb1⟩
   have n0 := cell_lt hb1 (keepA m0) (by simp; omega)
   have n1 := cell_lt hb1 (keepA m1) (by simp; omega)
   have n2 := cell_lt hb1 (keepA m2) (by simp; omega)
   have n3 := cell_lt hb1 (keepA m3) (by simp; omega)
   have n4 := cell_lt hb1 (keepA m4) (by simp; omega)
   have hz1 : w.heap.size + 2 ≤ w1.heap.size := by have := hb1.size; simp at this; omega
   have hB1 : Below w.heap.size w w1 := bthen (bthen hb0 (bone _ _)) hb1
   clear hb1 hb0 hgd0 m0 m1 m2 m3 m4
   replace hz0 := Lib.hid hz0
   gi_wp2
   refine ⟨trivial, ?_⟩
   refine (callsIn_wide.2 (hfew _)).mono ?_; rintro e w2 ⟨rfl, hb2⟩
   replace n0 := cell_lt hb2 n0 (by omega)
   replace n1 := cell_lt hb2 n1 (by omega)
   replace n2 := cell_lt hb2 n2 (by omega)
   replace n3 := cell_lt hb2 n3 (by omega)
   replace n4 := cell_lt hb2 n4 (by omega)
   have hz2 : w.heap.size + 2 ≤ w2.heap.size := Nat.le_trans hz1 hb2.size
   have hB2 : Below w.heap.size w w2 := bthen hB1 hb2
   clear hb2 hB1 hz1 hfew
   have k0 := keepA (x := .cells #[.slice none 0 0] 22) n0
   have k1 := keepA (x := .cells #[.slice none 0 0] 22) n1
   have k2 := keepA (x := .cells #[.slice none 0 0] 22) n2
   have k3 := keepA (x := .cells #[.slice none 0 0] 22) n3
   have k4 := keepA (x := .cells #[.slice none 0 0] 22) n4
   have hpi := pieces_in 8 y (w2.alloc (.cells #[.slice none 0 0] 22))
   rw [World.size_alloc] at hpi
   gi_wp2_with (refine ⟨trivial, ?_⟩; gi_at_call 25; refine hpi.mono ?_; rintro e w' ⟨rfl, rfl⟩)
   clear hpi k0 k1 k2 k3 k4 n0 n1 n2 n3 n4
   obtain ⟨W0, hW0⟩ : ∃ W0, W0 = (w2.alloc (.cells #[.slice none 0 0] 22)).alloc (.cells #[.int .u64 y.ipa, .int .u64 y.pa, .int .u64 y.sz, .int .i64 y.perm, .int .i64 y.kind] 59) := ⟨_, rfl⟩
   rw [← hW0]
   obtain ⟨bL, bM, hzW, hB0⟩ := five_two y w2 W0 hW0
   clear hW0
   obtain ⟨i0, hi0, hz00, hz01, hz02⟩ := info_partsM infoMap
   obtain ⟨L, hL⟩ : ∃ L, L = w2.heap.size := ⟨_, rfl⟩
   rw [← hL] at bL bM hzW hB0 hz2 ⊢
   have hw2L : L ≤ w2.heap.size := by omega
   replace hL := Lib.hid hL
   have hI : Mine (β := List (Int × M5)) W0.heap.size (L + 1) (fun pre W => Gath L (L + 1) W.heap.size W0 (fun q => q.map (·.2)) pre W) :=
    ⟨fun s W W' row h hg hr => by
     have h1 := gath_own L (L + 1) W.heap.size W0 (fun q => q.map (·.2)) W0.heap.size (by omega) (by omega) s W W' row h hg hr
     obtain ⟨⟨v, q1, q2, q3⟩, q4⟩ := h1
     exact ⟨⟨v, q1, q2, fun r e => ⟨(q3 r e).1, Nat.lt_of_lt_of_le (q3 r e).2 hg.size⟩⟩, q4⟩,
    fun s W o v h => by
     have h1 := gath_cells h (by omega) o v
     obtain ⟨⟨v, q1, q2, q3⟩, q4⟩ := h1
     exact ⟨⟨v, q1, q2, fun r e => ⟨(q3 r e).1, by simpa using (q3 r e).2⟩⟩, q4⟩⟩
   refine wpIn_range_state rfl (by decide) (gf := 53) (lb := #[.pointer (some ⟨L + 1, 0, none⟩)]) rfl trivial (enters_of Tryz.func53 (by kernel_rfl) rfl)
    (pieces_iter _ (L + 1) (by decide) y hcut W0 bM) bM.lt (fun _ => rfl)
    (fun pre W => Gath L (L + 1) W.heap.size W0 (fun q => q.map (·.2)) pre W)
    (fun _ _ _ => False)
    hI (fun c => ⟨fun _ _ _ _ h _ _ => h, fun _ _ _ _ h => h⟩)
    ⟨⟨_, bL, World.ownsRow_nil _ _ _ _, fun r e => by simp [Value.ownBlock] at e⟩, Below.refl _ _⟩
    (fun B pre W => L + 1 < B ∧ Gath L (L + 1) B W0 (fun q => q.map (·.2)) pre W)
    (fun s W h => ⟨by have := h.2.size; obtain ⟨⟨v, q1, _⟩, _⟩ := h; omega, h⟩) (fun B s W W' row h hg hr => ⟨h.1, gath_own L (L + 1) B W0 _ _ (by omega) (by omega) s W W' row h.2 hg hr⟩)
    (fun x a' W => ∃ Bx, L < Bx ∧ BoxM W Bx x.2 ∧ a' = { tmps := #[.agg #[.int .u64 y.ipa, .int .u64 y.pa, .int .u64 y.sz, .int .i64 y.perm, .int .i64 y.kind], .pointer (some ⟨w.heap.size, 0, none⟩), .slice none 0 0, .pointer (some ⟨L, 0, none⟩), undef, .pointer (some ⟨Bx, 0, none⟩), .agg #[.int .u64 y.ipa, .int .u64 y.pa, .int .u64 y.sz, .int .i64 y.perm, .int .i64 y.kind], .slice (some ⟨w.heap.size + 1, 0, none⟩) 1 1, .bool true, .bool false, .bool false, .agg #[.int .u64 y.ipa, .int .u64 y.pa, .int .u64 y.sz, .int .i64 y.perm, .int .i64 y.kind], .bool true, .bool false, .bool false, .agg #[.int .u64 y.ipa, .int .u64 y.pa, .int .u64 y.sz, .int .i64 y.perm, .int .i64 y.kind], .func (.func 53) #[] #[.pointer (some ⟨L + 1, 0, none⟩)], .int .i64 x.1, .agg #[.int .u64 x.2.ipa, .int .u64 x.2.pa, .int .u64 x.2.sz, .int .i64 x.2.perm, .int .i64 x.2.kind], undef, undef, undef, undef, undef], defers := [] })
    (fun x a' _ X Y row hs hg hr => by obtain ⟨Bx, h1, h2, h3⟩ := hs; exact ⟨Bx, h1, (grownBy_keeps_cells hg (fun r e => (hr r e).2) h2 rfl).trans h2, h3⟩)
    ?assign ?body ?done ?stop
   case assign =>
    rintro l1 B pre x W K hBW ⟨hLB, ⟨v, hv, hown, hG⟩, hB⟩ hK
    gi_wp2
    refine hK _ _ ((KeepsOthers.alloc _ _).from _) (KeepN.of_below (bone _ _) (by omega)) ⟨hLB, ⟨v, hv.alloc _, hown.alloc _, hG⟩, hB.alloc (by omega) _⟩ ⟨W.heap.size, by omega, BoxM.new _ _, rfl⟩
   case body =>
    rintro l1 B pre x a' W hl1 hB0' hBW ⟨hLB, ⟨v, hv, hown, hG⟩, hB⟩ ⟨Bx, hBx, hbx, rfl⟩ ⟨tl, htl⟩
    have hlt : pre.length < (piecesL y).length := by rw [htl]; simp
    clear htl
    have hc := hv.cell
    have hz := hB.size
    obtain ⟨c0, c1, c2, c3, c4⟩ := hbx.cells
    have hLW : L ≤ W.heap.size := by omega
    have hlx : pre.length < 10000 := by omega
    replace hzW := Lib.hid hzW
    gi_wp2_with (gi_at_builtin; refine wpListIn_append_own_at _ rfl _ _ 22 rfl L 59 i0 _ 5 40 Tryz.underlying22 hi0 hz00 hz01 hz02 rfl (by decide) _ _ _ rfl (hown.alloc _) ⟨W.heap.size, 0, none⟩ 1 1 [.int .u64 x.2.ipa, .int .u64 x.2.pa, .int .u64 x.2.sz, .int .i64 x.2.perm, .int .i64 x.2.kind] rfl rfl (cell_five_new _ _ _ _ _ _ _) (by intro u hu; simp at hu; rcases hu with rfl | rfl | rfl | rfl | rfl <;> rfl) (by unfold maxLen; omega) (by omega) (by simp; omega) ?_; intro v' w5 hown' hgrow _ hat; replace hgrow : (W.alloc (.cells #[.int .u64 x.2.ipa, .int .u64 x.2.pa, .int .u64 x.2.sz, .int .i64 x.2.perm, .int .i64 x.2.kind] 59)).grownBy w5 v.ownBlock := hgrow; replace hat : v'.ownBlock = v.ownBlock ∨ v'.ownBlock = some (W.alloc (.cells #[.int .u64 x.2.ipa, .int .u64 x.2.pa, .int .u64 x.2.sz, .int .i64 x.2.perm, .int .i64 x.2.kind] 59)).heap.size := hat; obtain ⟨g', cap', rfl⟩ := ownsRow_succ hown'; obtain ⟨hv1, hv2, hr2, hk2, hb2⟩ := hv.appended (by decide) hown hLW (Nat.le_refl _) hown' hgrow; have hc1 := hv1.cell; have hf1 := hv1.frozen; have hc2 := hv2.cell)
    have hzW' := hzW.out
    refine ⟨hk2.from _, ⟨hb2.size, keep_appM hgrow (by omega) (by omega) (fun r e => by have := hG r e; omega), fun k h1 h2 => keep_appM hgrow h2 (by omega) (fun r e => by have := hG r e; omega)⟩, ⟨_, hv2, ?_, fun r e => ⟨?_, (World.ownsRow.lt hr2 r e).2⟩⟩, hB.trans hb2⟩
    ·have e : encM ((pre ++ [x]).map (·.2)) = encM (pre.map (·.2)) ++ [.int .u64 x.2.ipa, .int .u64 x.2.pa, .int .u64 x.2.sz, .int .i64 x.2.perm, .int .i64 x.2.kind] := by rw [List.map_append]; exact encM_snoc _ _
     show World.ownsRow _ L _ 5 _ (pre ++ [x]).length (encM ((pre ++ [x]).map (·.2)))
     rw [List.length_append, e]
     exact hr2
    ·rcases hat with h | h
     ·exact (hG r (h.symm.trans e)).1
     ·rw [h] at e; cases e; simp <;> omega
   case done =>
    rintro D ys W hD rfl ⟨⟨v, hv, hown, hG⟩, hB⟩ hK
    have hc := hv.cell
    have hz := hB.size
    gi_wp2
    refine ⟨by simp, .inl ⟨_, _, rfl, run_takeDeferred hK, ?_⟩⟩
    have hLw := hL.out
    have hown' : OwnM 59 W w.heap.size v ((piecesL y).map (·.2)) := OwnM.mono (base := L) (by unfold OwnM; rw [List.length_map]; exact hown) (by omega)
    obtain ⟨a9, c9, rfl, _, _⟩ := hown'.row
    refine ⟨_, by simp [results, Tryz.results19, go_sem], _, rfl, ownsRow_putObj hown' _ hK rfl, ?_⟩
    exact (bthen hB2 (hB0.mono (by omega))).trans ((hB.mono (by omega)).trans (belowK_b (w := w) (Nat.le_refl _) W D _ _ (by omega) hK rfl rfl))
   case stop =>
    rintro D cc pre W hD _ h _
    exact h.elim
  ·have hv : piecesV y = [] := by unfold piecesV; rw [if_neg (fun h => hF h.2)]
   rw [hv]
   rw [decide_eq_false hF] at hfew
   clear hv hg hF
   go_enter Tryz.func19, Tryz.ntmps19
   go_wp2_with fail
   rw [← hw0] at m0 m1 m2 m3 m4 ⊢
   have hb0 : Below w.heap.size w w0 := by rw [hw0]; exact bone _ _
   have hgd0 := hgd w0
   have hz0 : w0.heap.size = w.heap.size + 1 := by rw [hw0]; simp
   rw [hz0] at hgd0
   clear hw0 hgd
   refine hgd0.mono ?_; rintro e w1 ⟨rfl, hb1⟩
   have n0 := cell_lt hb1 (keepA m0) (by simp; omega)
   have n1 := cell_lt hb1 (keepA m1) (by simp; omega)
   have n2 := cell_lt hb1 (keepA m2) (by simp; omega)
   have n3 := cell_lt hb1 (keepA m3) (by simp; omega)
   have n4 := cell_lt hb1 (keepA m4) (by simp; omega)
   go_wp2_with fail
   refine (hfew _).mono ?_; rintro e w2 ⟨rfl, hb2⟩
   go_wp2_with fail
   go_ret
   exact ⟨_, rfl, OwnM.nil _ _ _, bthen (bthen (bthen hb0 (bone _ _)) hb1) hb2⟩
end Go.Proofs.YtiblhlaemmdphaaGreat
/- The reference's add: a number among numbers, once. -/
namespace Go.Proofs.YtiblhlaemmdphaaGreat
open Go Go.RowKit Go.Shelf Go.BigFrame
def insN (l : List Int) (n : Int) : List Int := if n ∈ l then l else l ++ [n]
end Go.Proofs.YtiblhlaemmdphaaGreat
/- The plain law of tables: how many frames parts take, by places and by numbers. -/
namespace Go.Proofs.YtiblhlaemmdphaaGreat
open Go Go.RowKit
def placesOf (x : Int × M5) : List (Int × Int) := if x.1 = 3 then [(2, x.2.ipa / szK 1), (3, x.2.ipa / szK 2)] else if x.1 = 2 then [(2, x.2.ipa / szK 1)] else []
def insP (ks : List (Int × Int)) (p : Int × Int) : List (Int × Int) := if p ∈ ks then ks else ks ++ [p]
def keysOf (ks : List (Int × Int)) (L : List (Int × M5)) : List (Int × Int) := L.foldl (fun ks x => (placesOf x).foldl insP ks) ks
def allKeys (l : List M5) : List (Int × Int) := l.foldl (fun ks y => keysOf ks (piecesL y)) []
def needOk (l : List M5) : Prop := goodM l = true ∧ ∀ y ∈ l, (piecesL y).length ≤ 10000
instance (l : List M5) : Decidable (needOk l) := by unfold needOk; infer_instance
def needV (l : List M5) : Int × Int := if needOk l then (2 + ((allKeys l).length : Int), 0) else (0, 190)
def KeyOk (p : Int × Int) : Prop := (p.1 = 2 ∨ p.1 = 3) ∧ W64 p.2
def thiF (T : List Int) (p : M5) : List Int := if p.sz < 2097152 then insN T (p.ipa / 2097152) else T
def this (l : List M5) : List Int := l.foldl (fun S y => (piecesV y).foldl thiF S) []
def refOk (l : List M5) : Prop := goodM l = true ∧ ∀ y ∈ l, piecesV y ≠ []
instance (l : List M5) : Decidable (refOk l) := by unfold refOk; infer_instance
theorem piecesL_facts (y : M5) : ∀ x ∈ piecesL y, x.2.sz = szK x.1 ∧ (x.1 = 1 ∨ x.1 = 2 ∨ x.1 = 3) := by
 have key : ∀ (n : Nat) (y : M5), y.sz.toNat ≤ n → ∀ x ∈ piecesL y, x.2.sz = szK x.1 ∧ (x.1 = 1 ∨ x.1 = 2 ∨ x.1 = 3) := by
  intro n
  induction n with
  | zero =>
   intro y hy x hx
   rw [piecesL_nil (by omega)] at hx
   cases hx
  | succ n ih =>
   intro y hy x hx
   rw [piecesL] at hx
   split at hx
   ·rename_i h
    rcases List.mem_cons.1 hx with rfl | hx
    ·exact ⟨rfl, lvM_cases y⟩
    ·exact ih (restP y) (by omega) x hx
   ·cases hx
 exact key _ y (Nat.le_refl _)
theorem good_elem {l : List M5} (h : goodM l = true) {y : M5} (hy : y ∈ l) : elemB y = true := by
 obtain ⟨i, hi, rfl⟩ := List.getElem_of_mem hy
 have h1 := List.all_eq_true.1 h i (by simpa using hi)
 unfold okM at h1
 rw [Bool.and_eq_true, getElem!_pos l i hi] at h1
 exact h1.1
theorem good_one {y : M5} (h : elemB y = true) : goodM [y] = true := by
 refine goodM_yes fun k hk => ?_
 obtain rfl : k = 0 := by simp at hk; exact hk
 unfold okM nextB
 rw [Bool.and_eq_true]
 exact ⟨by simpa using h, by simp⟩
theorem insP_len (ks : List (Int × Int)) (p : Int × Int) : (insP ks p).length ≤ ks.length + 1 := by unfold insP; split <;> simp
theorem piecesV_len (y : M5) : (piecesV y).length ≤ 10000 := by
 unfold piecesV; split
 ·rename_i h; simpa using h.2
 ·simp
theorem take_fold {α β : Type} (f : β → α → β) (l : List α) (b : β) (k : Nat) (h : k < l.length) : (l.take (k + 1)).foldl f b = f ((l.take k).foldl f b) l[k] := by
 rw [List.take_succ_eq_append_getElem h, List.foldl_append]; rfl
end Go.Proofs.YtiblhlaemmdphaaGreat
/- The reference's Pieces. -/
namespace Go.Proofs.YtiblhlaemmdphaaGreat
open Go Go.RowKit Go.BigFrame
theorem BoxM.other {W : World} {b c o : Nat} {y : M5} (h : BoxM W b y) (hne : b ≠ c) (u : Value) : BoxM (W.setCell ⟨c, o, none⟩ u) b y := (Below.heap_setCell W _ u b (by simpa using hne)).trans h
theorem BoxM.grown {W W' : World} {row : Option Nat} {b : Nat} {y : M5} (h : BoxM W b y) (hg : W.grownBy W' row) (hne : some b ≠ row) : BoxM W' b y := (hg.block b h.lt hne).trans h
theorem BoxM.step {W : World} {b : Nat} {y : M5} (h : BoxM W b y) : BoxM (((W.setCell ⟨b, 0, none⟩ (.int .u64 (restP y).ipa)).setCell ⟨b, 1, none⟩ (.int .u64 (restP y).pa)).setCell ⟨b, 2, none⟩ (.int .u64 (restP y).sz)) b (restP y) := heapAt_set (heapAt_set (heapAt_set h 0 _) 1 _) 2 _
def tailP (y : M5) : List M5 := (piecesL y).map (·.2)
theorem tailP_cons {y : M5} (h : Cut y) (h0 : 0 < y.sz) : tailP y = headP y :: tailP (restP y) := by unfold tailP; rw [piecesL_cons h h0]; rfl
theorem tailP_nil {y : M5} (h0 : ¬ 0 < y.sz) : tailP y = [] := by unfold tailP; rw [piecesL_nil h0]; rfl
set_option maxRecDepth 20000 in
set_option maxHeartbeats 4000000 in
theorem refPieces_any (x0 : M5) (w : World) : Calls Tryz.prog 20 #[.agg #[.int .u64 x0.ipa, .int .u64 x0.pa, .int .u64 x0.sz, .int .i64 x0.perm, .int .i64 x0.kind]] w fun e w' => ∃ r, e = .returned r ∧ OwnM 59 w' w.heap.size r (piecesV x0) ∧ Below w.heap.size w w' := by
 have hgd := fun W => refGoodM_any _ [x0] _ (rowM_one W x0) (by simp)
 obtain ⟨m0, m1, m2, m3, m4⟩ := five_new w (.int .u64 x0.ipa) (.int .u64 x0.pa) (.int .u64 x0.sz) (.int .i64 x0.perm) (.int .i64 x0.kind) 59
 have hbx := BoxM.new w x0
 obtain ⟨w0, hw0⟩ : ∃ w0, w0 = w.alloc (.cells #[.int .u64 x0.ipa, .int .u64 x0.pa, .int .u64 x0.sz, .int .i64 x0.perm, .int .i64 x0.kind] 59) := ⟨_, rfl⟩
 cases hg : goodM [x0]
 ·rw [hg] at hgd
  have hv : piecesV x0 = [] := by unfold piecesV; rw [if_neg (by rw [hg]; simp)]
  rw [hv]
  clear hv hg
  go_enter Tryz.func20, Tryz.ntmps20
  go_wp2_with fail
  rw [← hw0] at m0 m1 m2 m3 m4 ⊢
  have hb0 : Below w.heap.size w w0 := by rw [hw0]; exact bone _ _
  have hgd0 := hgd w0
  have hz0 : w0.heap.size = w.heap.size + 1 := by rw [hw0]; simp
  rw [hz0] at hgd0
  clear hw0 hgd
  refine hgd0.mono ?_; rintro e w1 ⟨rfl, hb1⟩
  go_wp2_with fail
  go_ret
  exact ⟨_, rfl, OwnM.nil _ _ _, bthen (bthen hb0 (bone _ _)) hb1⟩
 ·have hcut := good_cut hg
  rw [hg] at hgd
  have hv : piecesV x0 = if (tailP x0).length ≤ 10000 then tailP x0 else [] := by
   unfold piecesV tailP
   rw [List.length_map]
   by_cases h : (piecesL x0).length ≤ 10000
   ·rw [if_pos ⟨hg, h⟩, if_pos h]
   ·rw [if_neg (fun h' => h h'.2), if_neg h]
  rw [hv]
  obtain ⟨P0, hP0⟩ : ∃ P0, P0 = tailP x0 := ⟨_, rfl⟩
  rw [← hP0]
  replace hP0 := Lib.hid hP0
  clear hv hg
  go_enter Tryz.func20, Tryz.ntmps20
  go_wp2_with fail
  rw [← hw0] at m0 m1 m2 m3 m4 hbx ⊢
  have hb0 : Below w.heap.size w w0 := by rw [hw0]; exact bone _ _
  have hgd0 := hgd w0
  have hz0 : w0.heap.size = w.heap.size + 1 := by rw [hw0]; simp
  rw [hz0] at hgd0
  clear hw0 hgd
  refine hgd0.mono ?_; rintro e w1 ⟨rfl, hb1⟩
  have hbx1 : BoxM w1 w.heap.size x0 := (hbx.below (bone _ _) (by omega)).below hb1 (by simp; omega)
  have hB1 : Below w.heap.size w w1 := bthen (bthen hb0 (bone _ _)) hb1
  clear hb1 hb0 hgd0 m0 m1 m2 m3 m4 hbx hz0
  go_wp2_with fail
  go_loopw [3] (fun v wr => ∃ (out : List M5) (y : M5), P0 = out ++ tailP y ∧ Cut y ∧ out.length ≤ 10000 ∧ BoxM wr w.heap.size y ∧ OwnM 59 wr (w.heap.size + 1) v out ∧ Below w.heap.size w wr) (fun _ wr => szAt wr w.heap.size)
  case atStart => exact ⟨[], x0, hP0.out, hcut, by simp, hbx1, OwnM.nil _ _ _, hB1⟩
  case round =>
   clear hbx1 hB1
   obtain ⟨out, y, hpre, hcut', hlen, hbox, hown, hB⟩ := hrel
   obtain ⟨c0, c1, c2, c3, c4⟩ := hbox.cells
   have hBl := hbox.lt
   have hz0 := y.hs.1
   obtain ⟨ao, co, rfl, _, _⟩ := hown.row
   by_cases hlt : 0 < y.sz
   ·obtain ⟨hs1, hs2, hs3, hs4, hcutR⟩ := hcut'.step hlt
    have hcons := tailP_cons hcut' hlt
    by_cases h10 : out.length = 10000
    ·have hno : ¬ P0.length ≤ 10000 := by rw [hpre, hcons, List.length_append]; simp; omega
     have hk : ((out.length : Int) == 10000) = true := by rw [h10]; rfl
     replace hpre := Lib.hid hpre
     replace hcons := Lib.hid hcons
     replace hs2 := Lib.hid hs2
     replace hs3 := Lib.hid hs3
     replace hs4 := Lib.hid hs4
     replace h10 := Lib.hid h10
     replace hno := Lib.hid hno
     go_wp2_with fail
     go_ret
     try rw [if_neg hno.out]
     exact ⟨_, rfl, OwnM.nil _ _ _, hB⟩
    ·have hk : ((out.length : Int) == 10000) = false := by simp; omega
     have hlv := fun W => refLevel_any y W
     have hsk := fun W => refSize_any (lvM y) W (lvM_cases y)
     change ∀ W, Calls _ _ _ W fun e w' => e = .returned (.int .u64 (stepK y)) ∧ W = w' at hsk
     have hst := stepK_cases y
     have hl9 : out.length < 10000 := by omega
     have hol := fun r => World.ownsRow.lt hown r
     have hlv5 : ∀ (e5 : List Value), e5 = encM [headP y] → e5 = [.int .u64 y.ipa, .int .u64 y.pa, .int .u64 (stepK y), .int .i64 y.perm, .int .i64 y.kind] := fun e5 h => by rw [h]; rfl
     replace hpre := Lib.hid hpre
     replace hcons := Lib.hid hcons
     replace hs2 := Lib.hid hs2
     replace hs3 := Lib.hid hs3
     replace hs4 := Lib.hid hs4
     replace hst := Lib.hid hst
     have w0' : IntKind.u64.wrap (y.ipa + stepK y) = (restP y).ipa := IntKind.wrap_u64 _
     have w1' : IntKind.u64.wrap (y.pa + stepK y) = (restP y).pa := IntKind.wrap_u64 _
     have w2' : IntKind.u64.wrap (y.sz - stepK y) = (restP y).sz := IntKind.wrap_u64 _
     have hnp := BoxM.new wr y
     go_wp2_with fail
     refine (hlv _).mono ?_
     clear hlv
     rintro e w2 ⟨rfl, hb2⟩
     have bm2 : BoxM w2 w.heap.size y := (hbox.below (bone _ _) hBl).below hb2 (by simp; omega)
     have bp2 : BoxM w2 wr.heap.size y := hnp.below hb2 (by simp)
     have ow2 : OwnM 59 w2 (w.heap.size + 1) (.slice ao out.length co) out := (hown.below (bone _ _) (Nat.le_refl _)).below hb2 (Nat.le_refl _)
     have hB2 : Below w.heap.size w w2 := hB.trans ((bthen (bone _ _) hb2).mono hB.size)
     have bp3 : BoxM (w2.setCell ⟨wr.heap.size, 2, none⟩ (.int .u64 (stepK y))) wr.heap.size (headP y) := heapAt_set bp2 2 _
     have bm3 : BoxM (w2.setCell ⟨wr.heap.size, 2, none⟩ (.int .u64 (stepK y))) w.heap.size y := bm2.other (by omega) _
     have ow3 : OwnM 59 (w2.setCell ⟨wr.heap.size, 2, none⟩ (.int .u64 (stepK y))) (w.heap.size + 1) (.slice ao out.length co) out := ownsRow_off ow2 (fun r e => by have := hol r e; omega) _
     have hB3 : Below w.heap.size w (w2.setCell ⟨wr.heap.size, 2, none⟩ (.int .u64 (stepK y))) := hB2.setCell (by simp; omega) _
     obtain ⟨d0, d1, d2, d3, d4⟩ := bp2.cells
     have fp2 := bp2.frozen 2
     have hz2 := bp2.lt
     clear hb2 hnp
     go_wp2_with (first | (go_at_call 47; refine (hsk _).mono ?_; rintro e w5 ⟨rfl, rfl⟩) | (at_builtin; refine wpl_append_map rfl _ _ 22 rfl (w.heap.size + 1) 59 infoMap Tryz.underlying22 (.slice ao out.length co) out [headP y] rfl rfl ?_ ?_ ?_ ?_ ?_ ?_ ?_; (focus (exact ow3)); (focus rfl); (focus (first | rfl | (simp; done))); (focus rfl); (focus (simp; omega)); (focus (simp; omega)); intro v' w6 hown' hbel hgrow; have bm6 : BoxM w6 w.heap.size y := BoxM.grown (bm3.below (bone _ _) bm3.lt) hgrow (fun e => by have := hol _ e.symm; omega); have bp6 : BoxM w6 wr.heap.size (headP y) := BoxM.grown (bp3.below (bone _ _) bp3.lt) hgrow (fun e => by have := hol _ e.symm; omega); obtain ⟨e0, e1, e2, _, _⟩ := bm6.cells; have e3 : w6.cell? ⟨wr.heap.size, 2, none⟩ = some (.int .u64 (stepK y)) := bp6.cells.2.2.1; have f0 := bm6.frozen 0; have f1 := bm6.frozen 1; have f2 := bm6.frozen 2; obtain ⟨a6, c6, rfl, _, _⟩ := hown'.row))
     have hle : (out ++ [headP y]).length = out.length + 1 := by simp
     rw [hle] at hown'
     refine ⟨⟨out ++ [headP y], restP y, by rw [hpre.out, hcons.out]; simp, hcutR, by simp; omega, bm6.step, ?_, ?_⟩, ?_⟩
     ·have hno : ∀ r, (Value.slice a6 (out.length + 1) c6).ownBlock = some r → r ≠ w.heap.size := fun r e => by have := (World.ownsRow.lt hown' r e).1; omega
      exact ownsRow_off (ownsRow_off (ownsRow_off hown' hno _) hno _) hno _
     ·exact (((hB3.trans (hbel _ (by omega))).setCell (by simp) _).setCell (by simp) _).setCell (by simp) _
     ·rw [bm6.step.szAt, hbox.szAt, hs4.out]
      have := hst.out
      omega
   ·have hz : y.sz = 0 := by omega
    rw [tailP_nil hlt, List.append_nil] at hpre
    subst hpre
    replace hz := Lib.hid hz
    go_wp2_with fail
    go_ret
    try rw [if_pos hlen]
    exact ⟨_, rfl, hown.mono (by omega), hB⟩
end Go.Proofs.YtiblhlaemmdphaaGreat
