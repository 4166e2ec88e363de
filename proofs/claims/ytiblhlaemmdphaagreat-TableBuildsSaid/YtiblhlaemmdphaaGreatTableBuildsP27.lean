/- The walk of span.merged, its first loop: all good ones, collected. -/
import Derived.RangeFuncBox
import Derived.Maps.AppendAt
import Derived.ControlIn
import Derived.Deep.DeepCutAuto
import Derived.BigQuiet
import Derived.Test.YtiblhlaemmdphaaGreatTableBuildsP6
import Derived.Test.YtiblhlaemmdphaaGreatTableBuildsP13
import Derived.Test.YtiblhlaemmdphaaGreatTableBuildsP19
import Derived.Test.YtiblhlaemmdphaaGreatTableBuildsP20
import Derived.Test.YtiblhlaemmdphaaGreatTableBuildsP21
import Derived.Test.YtiblhlaemmdphaaGreatTableBuildsP22
namespace Go.Proofs.YtiblhlaemmdphaaGreat
open Go Go.RowKit Go.Shelf Go.BigFrame
attribute [local go_sem] Oper.semAt_some
theorem infoEnds : InfoTwo Tryz.prog 177 := by unfold InfoTwo; kernel_rfl
theorem cell_two_new (W : World) (p q : Value) (t : TypeId) : ∀ (j : Nat) (u : Value), [p, q][j]? = some u → (W.alloc (.cells #[p, q] t)).cell? ((⟨W.heap.size, 0, none⟩ : Addr).add j) = some u := by
 intro j u hu
 rcases j with _ | _ | j
 ·simp at hu; rw [← hu]; simp [Addr.add, World.cell?_alloc_new]
 ·simp at hu; rw [← hu]; simp [Addr.add, World.cell?_alloc_new]
 ·simp at hu
theorem lastMax (t x : Two) : (tw t.a (max t.b x.b)).a = t.a ∧ (tw t.a (max t.b x.b)).b = (if t.b < x.b then x.b else t.b) ∧ (tw t.a (max t.b x.b)).b = max t.b x.b := by
 have e : max t.b x.b = if t.b < x.b then x.b else t.b := by split <;> omega
 have h : (tw t.a (max t.b x.b)).b = max t.b x.b := by
  refine W64.eq ?_
  rw [e]; split
  ·exact x.hb
  ·exact t.hb
 exact ⟨W64.eq t.ha, h.trans e, h⟩
def mergedV (l : List Two) : List Two := (sortV (goodEnds l)).foldl mergeStep []
set_option maxRecDepth 100000 in
set_option maxHeartbeats 4000000 in
theorem merged_any (v : Value) (l : List Two) (w : World) (hv : RowTwo w v l) (hl : l.length ≤ 1099511627776) :
  Calls Tryz.prog 100 #[v] w (RetOwn 177 w (mergedV l)) := by
 have hv0 := hv
 obtain ⟨i0, hi, hz0, hz1, hz2⟩ := info_parts infoEnds
 obtain ⟨a, cap, rfl, hcap, hrow⟩ := hv
 refine (callsIn_wide (n := 9)).1 ?_
 refine callsIn_of_wp_marks Tryz.func100 rfl trivial ?_ rfl
 simp only [Tryz.ntmps100, List.size_toArray, List.length_cons, List.length_nil, Nat.reduceAdd, Nat.reduceSub, Array.replicate_succ, Array.replicate_zero, List.push_toArray, List.append_toArray, List.nil_append, List.cons_append]
 gi_wp2_with (refine ⟨trivial, ?_⟩; gi_at_call 116; refine (good_in _ _ _ _ _).mono ?_; rintro e w' ⟨rfl, rfl⟩)
 have bO := Boxed.new w 156 (.slice none 0 0)
 have bN := Boxed.new (w.alloc (.cells #[.slice none 0 0] 156)) 80 (.slice a l.length cap)
 rw [World.size_alloc] at bN
 have hB0 : Below w.heap.size w ((w.alloc (.cells #[.slice none 0 0] 156)).alloc (.cells #[.slice a l.length cap] 80)) := ((Below.refl _ w).alloc (Nat.le_refl _) _).alloc (by simp) _
 have bO2 := bO.alloc (.cells #[.slice a l.length cap] 80)
 have hsz : ((w.alloc (.cells #[.slice none 0 0] 156)).alloc (.cells #[.slice a l.length cap] 80)).heap.size = w.heap.size + 2 := by simp
 obtain ⟨W0, hW0⟩ : ∃ W0, (w.alloc (.cells #[.slice none 0 0] 156)).alloc (.cells #[.slice a l.length cap] 80) = W0 := ⟨_, rfl⟩
 rw [hW0] at bO2 bN hB0 hsz ⊢
 clear hW0 bO
 refine wpIn_rangeFunc_ownH rfl (by decide) (gf := 128) (lb := #[.pointer (some ⟨w.heap.size + 1, 0, none⟩)]) rfl trivial (enters_of Tryz.func128 (by kernel_rfl) rfl)
  (good_stops _ (w.heap.size + 1) w W0 (by decide) _ l hl hv0 (by omega) bN.cell hB0) belowK_t (belowK_b (by omega)) (Below.refl _ _) (fun _ => rfl)
  (fun pre W => (∃ v, Boxed W w.heap.size 156 v ∧ W.ownsRow w.heap.size 177 2 v pre.length (encs pre) ∧ True) ∧ Below w.heap.size w W)
  (fun _ _ _ => False)
  (OwnFrom.and (Own.from (holdsRow_own w.heap.size w.heap.size 156 177 2 (fun pre => pre.length) (fun pre => encs pre) (fun pre v => True)) _) (ownFrom_below (Nat.le_refl _) (by omega)))
  (fun _ _ _ _ _ hs _ _ => hs)
  ⟨⟨_, bO2, World.ownsRow_nil _ _ _ _, trivial⟩, hB0⟩
  (fun x a' W => ∃ Bx, w.heap.size < Bx ∧ W.cell? ⟨Bx, 0, none⟩ = some (.int .u64 x.a) ∧ W.cell? ⟨Bx, 1, none⟩ = some (.int .u64 x.b) ∧ a' = { tmps := #[.slice a l.length cap, undef, .slice none 0 0, .pointer (some ⟨w.heap.size, 0, none⟩), .slice none 0 0, .pointer (some ⟨Bx, 0, none⟩), undef, undef, undef, .slice a l.length cap, .func (.func 128) #[] #[.pointer (some ⟨w.heap.size + 1, 0, none⟩)], .agg #[.int .u64 x.a, .int .u64 x.b], undef, undef, undef, undef, undef, undef, undef, undef, undef, undef, undef, undef, undef, undef, undef, undef, undef, undef, undef, undef, undef, undef, undef, undef, undef, undef, undef, undef, undef, undef, undef, undef, undef, undef, undef, undef, undef, undef, undef, undef, undef, undef, undef, undef, undef, undef, undef, undef, undef, undef, undef, undef, undef, undef, undef, undef, undef], defers := [] })
  (fun x a' _ X Y row hs hg hr => by obtain ⟨Bx, h1, h2, h3, h4⟩ := hs; exact ⟨Bx, h1, cell_kept h2 hg (fun r e => (hr r e).2), cell_kept h3 hg (fun r e => (hr r e).2), h4⟩)
  ?assign ?body ?done ?stop
 case assign =>
  rintro l1 pre x W K ⟨⟨v, hv, hown, _⟩, hB⟩ hK
  gi_wp2
  exact hK _ _ ((KeepsOthers.alloc _ _).from _) ((Below.refl _ W).alloc hB.size _) ⟨⟨v, hv.alloc _, hown.alloc _, trivial⟩, hB.alloc hB.size _⟩ ⟨W.heap.size, hv.lt, by simp [World.cell?_alloc_new], by simp [World.cell?_alloc_new], rfl⟩
 case body =>
  rintro l1 pre x a' W hl1 ⟨r, hr⟩ ⟨⟨v, hv, hown, _⟩, hB⟩ ⟨Bx, hBx, c0, c1, rfl⟩ hlt
  have hc := hv.cell
  have hlen : (goodEnds l).length ≤ l.length := by unfold goodEnds; rw [List.length_map]; exact List.length_filter_le _ _
  gi_wp2_with (gi_at_builtin; refine wpListIn_append_own _ rfl _ _ 156 rfl w.heap.size 177 i0 _ 2 16 Tryz.underlying156 hi hz0 hz1 hz2 rfl (by decide) _ _ _ rfl (hown.alloc _) ⟨W.heap.size, 0, none⟩ 1 1 [.int .u64 x.a, .int .u64 x.b] rfl rfl (cell_two_new _ _ _ _) (by intro u hu; simp at hu; rcases hu with rfl | rfl <;> rfl) (by unfold maxLen; omega) (by omega) (by have := hB.size; simp; omega) ?_; intro v' w1 hown' hgrow _; obtain ⟨g', cap', rfl⟩ := ownsRow_succ hown'; obtain ⟨hv1, hv2, hr2, hk2, hb2⟩ := hv.appended (by decide) hown hB.size (Nat.le_refl _) hown' hgrow; have hc1 := hv1.cell; have hf1 := hv1.frozen)
  exact ⟨hk2.from _, hb2, ⟨_, hv2, by rw [encs_snoc, List.length_append]; exact hr2, trivial⟩, hB.trans hb2⟩
 case done =>
  rintro D ys W hD rfl ⟨⟨v, hv, hown, _⟩, hB⟩ hK
  have hc := hv.cell
  have hsz2 := hB.size
  have hlen : (goodEnds l).length ≤ l.length := by unfold goodEnds; rw [List.length_map]; exact List.length_filter_le _ _
  obtain ⟨a2, cap2, rfl, hcap2, hrow2⟩ := OwnTwo.row hown
  gi_wp2_with (refine ⟨trivial, ?_⟩; gi_at_call 117; refine (callsIn_wide.2 (sortEnds_any w.heap.size _ _ _ hown (by omega))).mono ?_; rintro e w1 ⟨rfl, hown1, hg1⟩; have hv1 := hv.kept hg1 (hv.not_row (by decide) hown); have hc1 := hv1.cell)
  refine wpIn_wide.2 ?_
  have hsl := sortV_len (goodEnds l)
  have hM : Hid (mergedV l = (sortV (goodEnds l)).foldl mergeStep []) := rfl
  have hB1 : Below w.heap.size w w1 := hB.grown hg1 hsz2 (fun k e => (World.ownsRow.lt hown k e).1)
  have hD1 : w1.heap[D]? = some (.deferred (some [])) := by
   rw [hg1.block D (Array.getElem?_eq_some_iff.1 hK).1 (fun e => by
    rcases hown.2 with ⟨e1, _⟩ | ⟨g, cp, cur, e1, _, hgb, _⟩
    ·rw [e1] at e; simp [Value.ownBlock] at e
    ·rw [e1] at e; simp [Value.ownBlock] at e; subst e; rw [hK] at hgb; cases hgb)]; exact hK
  clear hrow2 hown hv hc hv1 hg1 hc1
  generalize sortV (goodEnds l) = S at *
  generalize (goodEnds l).length = nS at *
  subst hsl
  obtain ⟨a3, cap3, e3, hcap3, hrow3⟩ := OwnTwo.row hown1
  cases e3
  clear hrow
  go_loopw [4, 20] (fun o i wr => ∃ k : Nat, k ≤ S.length ∧ i = .int .i64 k ∧ OwnTwo 177 wr w1.heap.size o ((S.take k).foldl mergeStep []) ∧ Below w1.heap.size w1 wr) (fun _ i _ => S.length - (intOf i).toNat)
  case atStart => exact ⟨0, Nat.zero_le _, rfl, OwnTwo.nil _ _ _, Below.refl _ _⟩
  case round =>
   obtain ⟨k, hk, rfl, hout, hBr⟩ := hrel
   by_cases hlt : k < S.length
   ·obtain ⟨b3, off3, rfl, hbl3, hcell3⟩ := hrow3 (by rintro rfl; simp at hlt)
    have h1 := (hcell3 k hlt).1
    have h2 := (hcell3 k hlt).2
    rw [← hBr.cell (p := ⟨b3, _, none⟩) hbl3] at h1 h2
    have hsn : (S.take (k + 1)).foldl mergeStep [] = mergeStep ((S.take k).foldl mergeStep []) S[k] := by rw [List.take_succ_eq_append_getElem hlt, List.foldl_append]; rfl
    have hlenk := mergeFold_len (S.take k) []
    rw [List.length_take, Nat.min_eq_left hk, List.length_nil] at hlenk
    clear hcell3 hrow3
    generalize S[k] = x at *
    generalize (S.take k).foldl mergeStep [] = out at *
    have hB1r : w1.heap.size ≤ wr.heap.size := hBr.size
    rcases List.eq_nil_or_concat out with rfl | ⟨ys, t, rfl⟩
    ·rw [mergeStep_nil] at hsn
     replace hsn := Lib.hid hsn
     obtain ⟨ao, co, rfl, _, _⟩ := OwnTwo.row hout
     simp only [List.length_nil] at hout ⊢
     go_wp2_with fail
     obtain ⟨w2, hw2⟩ : ∃ w2, w2 = wr.alloc (.cells #[.int .u64 x.a, .int .u64 x.b] 177) := ⟨_, rfl⟩
     have d0 : w2.cell? ⟨wr.heap.size, 0, none⟩ = some (.int .u64 x.a) := by rw [hw2]; simp [World.cell?_alloc_new]
     have d1 : w2.cell? ⟨wr.heap.size, 1, none⟩ = some (.int .u64 x.b) := by rw [hw2]; simp [World.cell?_alloc_new]
     have hS2 : w2.heap.size = wr.heap.size + 1 := by rw [hw2]; simp
     have hA : Below wr.heap.size wr w2 := by rw [hw2]; exact bone _ _
     rw [← hw2]
     clear hw2 h1 h2
     refine region_later w2.heap.size w2 (Below.refl _ _) (by kernel_rfl) (by kernel_rfl) ?_
     have y0 := later_cell (B := w2.heap.size) d0 (by omega)
     have y1 := later_cell (B := w2.heap.size) d1 (by omega)
     repeat (go_big_quiet_step (fail))
     refine wpQuiet_nil ?_
     first | (rintro _ ⟨X, rfl⟩) | (intro X)
     have hX := X.h
     have m0 := y0 X
     have m1 := y1 X
     clear y0 y1 d0 d1
     generalize X.x = w3 at *
     have hA3 : Below wr.heap.size wr w3 := hA.trans (hX.mono (by omega))
     have hz3 : wr.heap.size < w3.heap.size := by have := hX.size; omega
     have hownA := hout.below hA3 (Nat.le_refl _)
     go_wp2_with (at_builtin; refine wpl_append_many rfl _ _ 156 rfl w1.heap.size 177 infoEnds Tryz.underlying156 _ [] [x] rfl rfl ?_ ?_ ?_ ?_ ?_ ?_ ?_; (focus (exact hownA)); (focus rfl); (focus (first | rfl | (simp; done))); (focus rfl); (focus (simp only [List.length_cons, List.length_nil]; omega)); (focus (first | omega | (simp; omega))); intro v' w5 hown' hbel hgrow)
     go_roundw
     case rel => exact ⟨k + 1, by omega, by go_num, by rw [hsn.out]; exact hown', hBr.trans ((hA3.mono hB1r).trans (hbel _ (Nat.le_refl _)))⟩
     case measure => simp [intOf]; omega
    ·rw [List.concat_eq_append] at *
     obtain ⟨g, co, rfl, hco, hgl, hgb, e0, e1, e2⟩ := OwnTwo.last hout
     have hS1 : ys.length + 1 ≤ 1099511627776 := by simp at hlenk; omega
     have hta := t.ha
     have htb := t.hb
     have hxb := x.hb
     have hnj := mergeStep_join ys t x
     have hnn := mergeStep_new ys t x
     unfold W64 at hta htb hxb
     have hgr : w1.heap.size ≤ wr.heap.size := hB1r
     have hmm := lastMax t x
     have key : ∀ w2 w3 : World, Below wr.heap.size wr w2 → Below w2.heap.size w2 w3 → Below wr.heap.size wr w3 := fun w2 w3 h1 h2 => h1.trans (h2.mono h1.size)
     by_cases k1 : t.b = 18446744073709551615
     ·have q1 : (t.b == 18446744073709551615) = true := by simpa using k1
      replace k1 := Lib.hid k1
      go_wp2_with fail
      obtain ⟨w2, hw2⟩ : ∃ w2, w2 = wr.alloc (.cells #[.int .u64 x.a, .int .u64 x.b] 177) := ⟨_, rfl⟩
      have d0 : w2.cell? ⟨wr.heap.size, 0, none⟩ = some (.int .u64 x.a) := by rw [hw2]; simp [World.cell?_alloc_new]
      have d1 : w2.cell? ⟨wr.heap.size, 1, none⟩ = some (.int .u64 x.b) := by rw [hw2]; simp [World.cell?_alloc_new]
      have hS2 : w2.heap.size = wr.heap.size + 1 := by rw [hw2]; simp
      have hA : Below wr.heap.size wr w2 := by rw [hw2]; exact bone _ _
      have d2 : w2.cell? ⟨g, ys.length * 2 + 1, none⟩ = some (.int .u64 t.b) := cell_lt hA e1 hgl
      rw [← hw2]
      clear hw2 h1 h2
      refine region_later w2.heap.size w2 (Below.refl _ _) (by kernel_rfl) (by kernel_rfl) ?_
      have y0 := later_cell (B := w2.heap.size) d0 (by omega)
      have y1 := later_cell (B := w2.heap.size) d1 (by omega)
      have y2 := later_cell (B := w2.heap.size) d2 (by omega)
      have i1 : IntKind.i64.wrap ((ys.length : Int) + 1 - 1) = (ys.length : Int) := by rw [show (ys.length : Int) + 1 - 1 = (ys.length : Int) by omega]; exact IntWalk.i64_in _ (by omega)
      have i2 : (0 : Int) < (ys.length : Int) + 1 := by omega
      have i3 : (0 : Int) ≤ (ys.length : Int) := by omega
      have i4 : (ys.length : Int) < (ys.length : Int) + 1 := by omega
      have i5 : ((ys.length : Int)).toNat = ys.length := by omega
      repeat (go_big_quiet_step (fail))
      refine wpQuiet_nil ?_
      first | (rintro _ ⟨X, rfl⟩) | (intro X)
      have hX := X.h
      have m0 := y0 X
      have m1 := y1 X
      have m2 := y2 X
      clear y0 y1 y2 d0 d1 d2
      generalize X.x = w3 at *
      have hA3 : Below wr.heap.size wr w3 := key _ _ hA hX
      have hz3 : wr.heap.size < w3.heap.size := by have := hX.size; omega
      clear key
      replace hnj := Lib.hid (hsn.trans (hnj (.inl k1.out)))
      clear hsn hnn hlenk
      have hown3 := hout.below hA3 (Nat.le_refl _)
      have hf3 : w3.frozen? ⟨g, ys.length * 2 + 1, none⟩ = false := frozen_lt hA3 e2 hgl
      clear hout e0 e1 e2
      go_wp2_with fail
      refine wp_region_quiet_tail (C := fun w' => ∃ X : Later w3.heap.size w3, w' = X.x) 14 (by kernel_rfl) (by kernel_rfl) ⟨⟨_, (Below.refl _ _).drew⟩, rfl⟩ ?_
      have y0 := later_cell (B := w3.heap.size) m0 (by omega)
      have y1 := later_cell (B := w3.heap.size) m1 (by omega)
      have y2 := later_cell (B := w3.heap.size) m2 (by omega)
      simp only [List.take_succ_cons, List.take_zero, List.drop_succ_cons, List.drop_zero]
      repeat (go_big_quiet_step (fail))
      refine wpQuiet_nil ?_
      first | (rintro _ ⟨X, rfl⟩) | (intro X)
      have hX2 := X.h
      have m0' := y0 X
      have m1' := y1 X
      have m2' := y2 X
      have hown4 := hown3.below hX2 (Nat.le_refl _)
      have hf4 : X.x.frozen? ⟨g, ys.length * 2 + 1, none⟩ = false := frozen_lt hX2 hf3 (by omega)
      clear y0 y1 y2 m0 m1 m2 hown3 hf3
      generalize X.x = w4 at *
      have hset := OwnTwo.setLast hown4 (tw t.a (max t.b x.b)) hmm.1
      have hset2 := hset
      rw [hmm.2.1] at hset
      rw [hmm.2.2] at hset2
      go_wp2_with fail
      go_roundw
      case rel => exact ⟨k + 1, by omega, by go_num, by rw [hnj.out]; (first | exact hset | exact hset2), hBr.trans (((hA3.trans (hX2.mono hA3.size)).mono hB1r).setCell hgb _)⟩
      case measure => simp [intOf]; omega
     ·have q1 : (t.b == 18446744073709551615) = false := by simpa using k1
      have q0 : IntKind.u64.wrap (t.b + 1) = t.b + 1 := by rw [IntKind.wrap_u64]; omega
      by_cases k2 : x.a ≤ t.b + 1
      ·have q2 := Lib.hid k2
       go_wp2_with fail
       obtain ⟨w2, hw2⟩ : ∃ w2, w2 = wr.alloc (.cells #[.int .u64 x.a, .int .u64 x.b] 177) := ⟨_, rfl⟩
       have d0 : w2.cell? ⟨wr.heap.size, 0, none⟩ = some (.int .u64 x.a) := by rw [hw2]; simp [World.cell?_alloc_new]
       have d1 : w2.cell? ⟨wr.heap.size, 1, none⟩ = some (.int .u64 x.b) := by rw [hw2]; simp [World.cell?_alloc_new]
       have hS2 : w2.heap.size = wr.heap.size + 1 := by rw [hw2]; simp
       have hA : Below wr.heap.size wr w2 := by rw [hw2]; exact bone _ _
       have d2 : w2.cell? ⟨g, ys.length * 2 + 1, none⟩ = some (.int .u64 t.b) := cell_lt hA e1 hgl
       rw [← hw2]
       clear hw2 h1 h2
       refine region_later w2.heap.size w2 (Below.refl _ _) (by kernel_rfl) (by kernel_rfl) ?_
       have y0 := later_cell (B := w2.heap.size) d0 (by omega)
       have y1 := later_cell (B := w2.heap.size) d1 (by omega)
       have y2 := later_cell (B := w2.heap.size) d2 (by omega)
       have i1 : IntKind.i64.wrap ((ys.length : Int) + 1 - 1) = (ys.length : Int) := by rw [show (ys.length : Int) + 1 - 1 = (ys.length : Int) by omega]; exact IntWalk.i64_in _ (by omega)
       have i2 : (0 : Int) < (ys.length : Int) + 1 := by omega
       have i3 : (0 : Int) ≤ (ys.length : Int) := by omega
       have i4 : (ys.length : Int) < (ys.length : Int) + 1 := by omega
       have i5 : ((ys.length : Int)).toNat = ys.length := by omega
       repeat (go_big_quiet_step (fail))
       refine wpQuiet_nil ?_
       first | (rintro _ ⟨X, rfl⟩) | (intro X)
       have hX := X.h
       have m0 := y0 X
       have m1 := y1 X
       have m2 := y2 X
       clear y0 y1 y2 d0 d1 d2
       generalize X.x = w3 at *
       have hA3 : Below wr.heap.size wr w3 := key _ _ hA hX
       have hz3 : wr.heap.size < w3.heap.size := by have := hX.size; omega
       clear key
       replace hnj := Lib.hid (hsn.trans (hnj (.inr k2)))
       clear hsn hnn hlenk
       have hown3 := hout.below hA3 (Nat.le_refl _)
       have hf3 : w3.frozen? ⟨g, ys.length * 2 + 1, none⟩ = false := frozen_lt hA3 e2 hgl
       clear hout e0 e1 e2
       go_wp2_with fail
       refine wp_region_quiet_tail (C := fun w' => ∃ X : Later w3.heap.size w3, w' = X.x) 14 (by kernel_rfl) (by kernel_rfl) ⟨⟨_, (Below.refl _ _).drew⟩, rfl⟩ ?_
       have y0 := later_cell (B := w3.heap.size) m0 (by omega)
       have y1 := later_cell (B := w3.heap.size) m1 (by omega)
       have y2 := later_cell (B := w3.heap.size) m2 (by omega)
       simp only [List.take_succ_cons, List.take_zero, List.drop_succ_cons, List.drop_zero]
       repeat (go_big_quiet_step (fail))
       refine wpQuiet_nil ?_
       first | (rintro _ ⟨X, rfl⟩) | (intro X)
       have hX2 := X.h
       have m0' := y0 X
       have m1' := y1 X
       have m2' := y2 X
       have hown4 := hown3.below hX2 (Nat.le_refl _)
       have hf4 : X.x.frozen? ⟨g, ys.length * 2 + 1, none⟩ = false := frozen_lt hX2 hf3 (by omega)
       clear y0 y1 y2 m0 m1 m2 hown3 hf3
       generalize X.x = w4 at *
       have hset := OwnTwo.setLast hown4 (tw t.a (max t.b x.b)) hmm.1
       have hset2 := hset
       rw [hmm.2.1] at hset
       rw [hmm.2.2] at hset2
       go_wp2_with fail
       go_roundw
       case rel => exact ⟨k + 1, by omega, by go_num, by rw [hnj.out]; (first | exact hset | exact hset2), hBr.trans (((hA3.trans (hX2.mono hA3.size)).mono hB1r).setCell hgb _)⟩
       case measure => simp [intOf]; omega
      ·have q2 := Lib.hid k2
       go_wp2_with fail
       obtain ⟨w2, hw2⟩ : ∃ w2, w2 = wr.alloc (.cells #[.int .u64 x.a, .int .u64 x.b] 177) := ⟨_, rfl⟩
       have d0 : w2.cell? ⟨wr.heap.size, 0, none⟩ = some (.int .u64 x.a) := by rw [hw2]; simp [World.cell?_alloc_new]
       have d1 : w2.cell? ⟨wr.heap.size, 1, none⟩ = some (.int .u64 x.b) := by rw [hw2]; simp [World.cell?_alloc_new]
       have hS2 : w2.heap.size = wr.heap.size + 1 := by rw [hw2]; simp
       have hA : Below wr.heap.size wr w2 := by rw [hw2]; exact bone _ _
       have d2 : w2.cell? ⟨g, ys.length * 2 + 1, none⟩ = some (.int .u64 t.b) := cell_lt hA e1 hgl
       rw [← hw2]
       clear hw2 h1 h2
       refine region_later w2.heap.size w2 (Below.refl _ _) (by kernel_rfl) (by kernel_rfl) ?_
       have y0 := later_cell (B := w2.heap.size) d0 (by omega)
       have y1 := later_cell (B := w2.heap.size) d1 (by omega)
       have y2 := later_cell (B := w2.heap.size) d2 (by omega)
       have i1 : IntKind.i64.wrap ((ys.length : Int) + 1 - 1) = (ys.length : Int) := by rw [show (ys.length : Int) + 1 - 1 = (ys.length : Int) by omega]; exact IntWalk.i64_in _ (by omega)
       have i2 : (0 : Int) < (ys.length : Int) + 1 := by omega
       have i3 : (0 : Int) ≤ (ys.length : Int) := by omega
       have i4 : (ys.length : Int) < (ys.length : Int) + 1 := by omega
       have i5 : ((ys.length : Int)).toNat = ys.length := by omega
       repeat (go_big_quiet_step (fail))
       refine wpQuiet_nil ?_
       first | (rintro _ ⟨X, rfl⟩) | (intro X)
       have hX := X.h
       have m0 := y0 X
       have m1 := y1 X
       have m2 := y2 X
       clear y0 y1 y2 d0 d1 d2
       generalize X.x = w3 at *
       have hA3 : Below wr.heap.size wr w3 := key _ _ hA hX
       have hz3 : wr.heap.size < w3.heap.size := by have := hX.size; omega
       clear key
       replace hnn := Lib.hid (hsn.trans (hnn (by omega)))
       clear hsn hnj hlenk
       have hownA := hout.below hA3 (Nat.le_refl _)
       clear hout e0 e1 e2
       go_wp2_with (at_builtin; refine wpl_append_many rfl _ _ 156 rfl w1.heap.size 177 infoEnds Tryz.underlying156 _ (ys ++ [t]) [x] (by first | rfl | (simp; done)) rfl ?_ ?_ ?_ ?_ ?_ ?_ ?_; (focus (exact hownA)); (focus rfl); (focus (first | rfl | (simp; done))); (focus rfl); (focus (simp only [List.length_append, List.length_cons, List.length_nil]; omega)); (focus (first | omega | (simp; omega))); intro v' w5 hown' hbel hgrow)
       go_roundw
       case rel => exact ⟨k + 1, by omega, by go_num, by rw [hnn.out]; exact hown', hBr.trans ((hA3.mono hB1r).trans (hbel _ (Nat.le_refl _)))⟩
       case measure => simp [intOf]; omega
   ·obtain rfl : k = S.length := by omega
    rw [List.take_length] at hout
    go_wp2
    have hfin : wr.heap[D]? = some (.deferred (some [])) := (hBr.block D (Array.getElem?_eq_some_iff.1 hD1).1).trans hD1
    have hbase : w.heap.size ≤ w1.heap.size := hB1.size
    gi_wp2
    refine ⟨by simp, .inl ⟨_, _, rfl, run_takeDeferred hfin, ?_⟩⟩
    refine ⟨_, results_tmp rfl _ _ _, _, rfl, ?_, hB1.trans ((hBr.mono hbase).trans (belowK_b (w := w) (Nat.le_refl _) wr D _ _ (by omega) hfin rfl rfl))⟩
    rw [hM.out]
    exact ownsRow_putObj (OwnTwo.mono hout hbase) _ hfin rfl
 case stop =>
  rintro D c pre W _ _ h _
  exact h.elim
end Go.Proofs.YtiblhlaemmdphaaGreat
/- Plain: stretches that neither touch nor overlap, rising, are given by what they hold; so span.Merge and span.Cut give what the reference gives. -/
namespace Go.Proofs.YtiblhlaemmdphaaGreat
open Go Go.RowKit Go.Shelf Go.Lib Go.Sort
def cov (l : List Two) (p : Int) : Prop := ∃ x ∈ l, x.a ≤ p ∧ p ≤ x.b
def Canon (l : List Two) : Prop := l.Pairwise (fun x y => x.b + 1 < y.a) ∧ ∀ x ∈ l, x.a ≤ x.b
theorem cov_nil (p : Int) : ¬ cov [] p := by rintro ⟨x, hx, _⟩; cases hx
theorem cov_cons {x : Two} {l : List Two} {p : Int} : cov (x :: l) p ↔ (x.a ≤ p ∧ p ≤ x.b) ∨ cov l p := by
 unfold cov; simp
theorem cov_append {l m : List Two} {p : Int} : cov (l ++ m) p ↔ cov l p ∨ cov m p := by
 unfold cov; simp only [List.mem_append]
 constructor
 ·rintro ⟨x, hx | hx, h⟩
  ·exact .inl ⟨x, hx, h⟩
  ·exact .inr ⟨x, hx, h⟩
 ·rintro (⟨x, hx, h⟩ | ⟨x, hx, h⟩)
  ·exact ⟨x, .inl hx, h⟩
  ·exact ⟨x, .inr hx, h⟩
theorem cov_one {x : Two} {p : Int} : cov [x] p ↔ x.a ≤ p ∧ p ≤ x.b := by rw [cov_cons]; exact ⟨fun h => h.resolve_right (cov_nil p), .inl⟩
theorem canon_nil : Canon [] := ⟨.nil, by simp⟩
theorem canon_cons {x : Two} {l : List Two} : Canon (x :: l) ↔ (∀ y ∈ l, x.b + 1 < y.a) ∧ x.a ≤ x.b ∧ Canon l := by
 unfold Canon; rw [List.pairwise_cons]; simp only [List.mem_cons, forall_eq_or_imp]
 constructor
 ·rintro ⟨⟨h1, h2⟩, h3, h4⟩; exact ⟨h1, h3, h2, h4⟩
 ·rintro ⟨h1, h3, h2, h4⟩; exact ⟨⟨h1, h2⟩, h3, h4⟩
theorem canon_append {l m : List Two} : Canon (l ++ m) ↔ Canon l ∧ Canon m ∧ ∀ x ∈ l, ∀ y ∈ m, x.b + 1 < y.a := by
 unfold Canon; rw [List.pairwise_append]; simp only [List.mem_append]
 constructor
 ·rintro ⟨⟨h1, h2, h3⟩, h4⟩; exact ⟨⟨h1, fun x hx => h4 x (.inl hx)⟩, ⟨h2, fun x hx => h4 x (.inr hx)⟩, h3⟩
 ·rintro ⟨⟨h1, h4⟩, ⟨h2, h5⟩, h3⟩; exact ⟨⟨h1, h2, h3⟩, fun x hx => hx.elim (h4 x) (h5 x)⟩
theorem canon_snoc {l : List Two} {x : Two} : Canon (l ++ [x]) ↔ Canon l ∧ x.a ≤ x.b ∧ ∀ y ∈ l, y.b + 1 < x.a := by
 rw [canon_append, canon_cons]; simp [canon_nil]
theorem canon_unique : ∀ (l m : List Two), Canon l → Canon m → (∀ p, cov l p ↔ cov m p) → l = m
 | [], [], _, _, _ => rfl
 | [], y :: m, _, hm, h => by
  have := canon_cons.1 hm
  exact absurd ((h y.a).2 (cov_cons.2 (.inl ⟨Int.le_refl _, this.2.1⟩))) (cov_nil _)
 | x :: l, [], hl, _, h => by
  have := canon_cons.1 hl
  exact absurd ((h x.a).1 (cov_cons.2 (.inl ⟨Int.le_refl _, this.2.1⟩))) (cov_nil _)
 | x :: l, y :: m, hl, hm, h => by
  obtain ⟨l1, l2, l3⟩ := canon_cons.1 hl
  obtain ⟨m1, m2, m3⟩ := canon_cons.1 hm
  have low : ∀ {x : Two} {l : List Two} {p : Int}, (∀ y ∈ l, x.b + 1 < y.a) → x.a ≤ x.b → cov (x :: l) p → x.a ≤ p := fun {x l p} h1 h2 hc => by
   rcases cov_cons.1 hc with hc | ⟨z, hz, hc⟩
   ·exact hc.1
   ·have := h1 z hz; omega
  have e1 : x.a = y.a := by
   have a1 := low m1 m2 ((h x.a).1 (cov_cons.2 (.inl ⟨Int.le_refl _, l2⟩)))
   have a2 := low l1 l2 ((h y.a).2 (cov_cons.2 (.inl ⟨Int.le_refl _, m2⟩)))
   omega
  have e2 : x.b = y.b := by
   rcases Int.lt_trichotomy x.b y.b with hlt | heq | hgt
   ·rcases cov_cons.1 ((h (x.b + 1)).2 (cov_cons.2 (.inl ⟨by omega, by omega⟩))) with hc | ⟨z, hz, hc⟩
    ·omega
    ·have := l1 z hz; omega
   ·exact heq
   ·rcases cov_cons.1 ((h (y.b + 1)).1 (cov_cons.2 (.inl ⟨by omega, by omega⟩))) with hc | ⟨z, hz, hc⟩
    ·omega
    ·have := m1 z hz; omega
  have e := Two.ext e1 e2
  subst e
  rw [canon_unique l m l3 m3 fun p => ?_]
  constructor
  ·intro hc
   rcases cov_cons.1 ((h p).1 (cov_cons.2 (.inr hc))) with h1 | h1
   ·obtain ⟨z, hz, hz2⟩ := hc; have := l1 z hz; omega
   ·exact h1
  ·intro hc
   rcases cov_cons.1 ((h p).2 (cov_cons.2 (.inr hc))) with h1 | h1
   ·obtain ⟨z, hz, hz2⟩ := hc; have := m1 z hz; omega
   ·exact h1
theorem insAll_inv (s : Two) (hs : s.a ≤ s.b) : ∀ (rest pre : List Two), Canon (pre ++ rest) → ∀ (out : List Two) (t : Two) (d : Bool), insAll pre s = (out, t, d) →
  (t.a ≤ t.b ∧ Canon out ∧ (∀ x ∈ out, ∀ y ∈ rest, x.b + 1 < y.a) ∧
   (d = false → (∀ x ∈ out, x.b + 1 < t.a) ∧ ∀ p, cov (out ++ [t]) p ↔ cov pre p ∨ (s.a ≤ p ∧ p ≤ s.b)) ∧
   (d = true → (∀ y ∈ rest, t.b + 1 < y.a) ∧ ∀ p, cov out p ↔ cov pre p ∨ (s.a ≤ p ∧ p ≤ s.b))) →
  Canon (insertV (pre ++ rest) s) ∧ ∀ p, cov (insertV (pre ++ rest) s) p ↔ cov (pre ++ rest) p ∨ (s.a ≤ p ∧ p ≤ s.b)
 | [], pre, hc, out, t, d, he, ⟨h1, h2, h3, h4, h5⟩ => by
  rw [List.append_nil]
  unfold insertV
  rw [he]
  cases d
  ·obtain ⟨h6, h7⟩ := h4 rfl
   exact ⟨canon_snoc.2 ⟨h2, h1, h6⟩, h7⟩
  ·obtain ⟨h6, h7⟩ := h5 rfl
   exact ⟨h2, h7⟩
 | x :: rest, pre, hc, out, t, d, he, ⟨h1, h2, h3, h4, h5⟩ => by
  have hc' := hc
  rw [show pre ++ x :: rest = (pre ++ [x]) ++ rest by simp] at hc ⊢
  obtain ⟨c1, c2, c3⟩ := canon_append.1 hc
  obtain ⟨_, c5, _⟩ := canon_append.1 hc'
  obtain ⟨x1, x2, _⟩ := canon_cons.1 c5
  have hx3 : ∀ z ∈ out, z.b + 1 < x.a := fun z hz => h3 z hz x (by simp)
  have hr3 : ∀ z ∈ out, ∀ y ∈ rest, z.b + 1 < y.a := fun z hz y hy => h3 z hz y (by simp [hy])
  have step : insAll (pre ++ [x]) s = insStep (out, t, d) x := by rw [insAll_snoc, he]
  by_cases k1 : x.b < t.a ∧ 1 < t.a - x.b
  ·have e : insStep (out, t, d) x = (out ++ [x], t, d) := by unfold insStep; rw [if_pos k1]
   refine insAll_inv s hs rest (pre ++ [x]) hc (out ++ [x]) t d (by rw [step, e]) ⟨h1, canon_snoc.2 ⟨h2, x2, hx3⟩, ?_, ?_, ?_⟩
   ·intro z hz y hy
    rcases List.mem_append.1 hz with hz | hz
    ·exact hr3 z hz y hy
    ·obtain rfl : z = x := by simpa using hz
     exact x1 y hy
   ·intro hd
    obtain ⟨h6, h7⟩ := h4 hd
    refine ⟨fun z hz => ?_, fun p => ?_⟩
    ·rcases List.mem_append.1 hz with hz | hz
     ·exact h6 z hz
     ·obtain rfl : z = x := by simpa using hz
      omega
    ·have := h7 p
     simp only [cov_append, cov_one] at this ⊢
     constructor
     ·rintro ((h | h) | h)
      ·rcases this.1 (.inl h) with h | h
       ·exact .inl (.inl h)
       ·exact .inr h
      ·exact .inl (.inr h)
      ·rcases this.1 (.inr h) with h | h
       ·exact .inl (.inl h)
       ·exact .inr h
     ·rintro ((h | h) | h)
      ·rcases this.2 (.inl h) with h | h
       ·exact .inl (.inl h)
       ·exact .inr h
      ·exact .inl (.inr h)
      ·rcases this.2 (.inr h) with h | h
       ·exact .inl (.inl h)
       ·exact .inr h
   ·intro hd
    obtain ⟨h6, h7⟩ := h5 hd
    have := h6 x (by simp)
    omega
  ·by_cases k2 : t.b < x.a ∧ 1 < x.a - t.b
   ·cases d
    ·have e : insStep (out, t, false) x = (out ++ [t] ++ [x], t, true) := by unfold insStep; rw [if_neg k1, if_pos k2]; rfl
     obtain ⟨h6, h7⟩ := h4 rfl
     refine insAll_inv s hs rest (pre ++ [x]) hc (out ++ [t] ++ [x]) t true (by rw [step, e]) ⟨h1, canon_snoc.2 ⟨canon_snoc.2 ⟨h2, h1, h6⟩, x2, ?_⟩, ?_, (fun h => by cases h), fun _ => ⟨fun y hy => ?_, fun p => ?_⟩⟩
     ·intro z hz
      rcases List.mem_append.1 hz with hz | hz
      ·exact hx3 z hz
      ·obtain rfl : z = t := by simpa using hz
       omega
     ·intro z hz y hy
      rcases List.mem_append.1 hz with hz | hz
      ·rcases List.mem_append.1 hz with hz | hz
       ·exact hr3 z hz y hy
       ·obtain rfl : z = t := by simpa using hz
        have := x1 y hy; omega
      ·obtain rfl : z = x := by simpa using hz
       exact x1 y hy
     ·have := x1 y hy; omega
     ·rw [cov_append, h7 p, cov_append, cov_one]
      constructor
      ·rintro ((h | h) | h)
       ·exact .inl (.inl h)
       ·exact .inr h
       ·exact .inl (.inr h)
      ·rintro ((h | h) | h)
       ·exact .inl (.inl h)
       ·exact .inr h
       ·exact .inl (.inr h)
    ·have e : insStep (out, t, true) x = (out ++ [x], t, true) := by unfold insStep; rw [if_neg k1, if_pos k2]; rfl
     obtain ⟨h6, h7⟩ := h5 rfl
     refine insAll_inv s hs rest (pre ++ [x]) hc (out ++ [x]) t true (by rw [step, e]) ⟨h1, canon_snoc.2 ⟨h2, x2, hx3⟩, ?_, (fun h => by cases h), fun _ => ⟨fun y hy => h6 y (by simp [hy]), fun p => ?_⟩⟩
     ·intro z hz y hy
      rcases List.mem_append.1 hz with hz | hz
      ·exact hr3 z hz y hy
      ·obtain rfl : z = x := by simpa using hz
       exact x1 y hy
     ·rw [cov_append, h7 p, cov_append, cov_one]
      constructor
      ·rintro ((h | h) | h)
       ·exact .inl (.inl h)
       ·exact .inr h
       ·exact .inl (.inr h)
      ·rintro ((h | h) | h)
       ·exact .inl (.inl h)
       ·exact .inr h
       ·exact .inl (.inr h)
   ·have e : insStep (out, t, d) x = (out, joinMin x t, d) := by unfold insStep; rw [if_neg k1, if_neg k2]
    have ja : (joinMin x t).a ≤ x.a ∧ (joinMin x t).a ≤ t.a ∧ ((joinMin x t).a = x.a ∨ (joinMin x t).a = t.a) := by
     unfold joinMin; dsimp only; split <;> omega
    have jb : x.b ≤ (joinMin x t).b ∧ t.b ≤ (joinMin x t).b ∧ ((joinMin x t).b = x.b ∨ (joinMin x t).b = t.b) := by
     unfold joinMin; dsimp only; split <;> omega
    generalize joinMin x t = u at *
    cases d
    ·obtain ⟨h6, h7⟩ := h4 rfl
     refine insAll_inv s hs rest (pre ++ [x]) hc out u false (by rw [step, e]) ⟨by omega, h2, hr3, fun _ => ⟨fun z hz => ?_, fun p => ?_⟩, fun h => by cases h⟩
     ·have := hx3 z hz; have := h6 z hz; omega
     ·have h8 := h7 p
      simp only [cov_append, cov_one] at h8 ⊢
      have hu : (u.a ≤ p ∧ p ≤ u.b) ↔ (t.a ≤ p ∧ p ≤ t.b) ∨ (x.a ≤ p ∧ p ≤ x.b) := by omega
      rw [hu]
      constructor
      ·rintro (h | h | h)
       ·rcases h8.1 (.inl h) with h | h
        ·exact .inl (.inl h)
        ·exact .inr h
       ·rcases h8.1 (.inr h) with h | h
        ·exact .inl (.inl h)
        ·exact .inr h
       ·exact .inl (.inr h)
      ·rintro ((h | h) | h)
       ·rcases h8.2 (.inl h) with h | h
        ·exact .inl h
        ·exact .inr (.inl h)
       ·exact .inr (.inr h)
       ·rcases h8.2 (.inr h) with h | h
        ·exact .inl h
        ·exact .inr (.inl h)
    ·obtain ⟨h6, h7⟩ := h5 rfl
     have := h6 x (by simp)
     omega
theorem insert_canon (l : List Two) (s : Two) (hl : Canon l) (hs : s.a ≤ s.b) : Canon (insertV l s) ∧ ∀ p, cov (insertV l s) p ↔ cov l p ∨ (s.a ≤ p ∧ p ≤ s.b) :=
 insAll_inv s hs l [] hl [] s false rfl ⟨hs, canon_nil, by simp, fun _ => ⟨by simp, fun p => by simp [cov_one, cov_nil]⟩, fun h => by cases h⟩
def covS (l : List Two) (p : Int) : Prop := ∃ x ∈ l, hasB x.a x.b p = true
theorem covS_append {l m : List Two} {p : Int} : covS (l ++ m) p ↔ covS l p ∨ covS m p := by
 unfold covS; simp only [List.mem_append]
 constructor
 ·rintro ⟨x, hx | hx, h⟩
  ·exact .inl ⟨x, hx, h⟩
  ·exact .inr ⟨x, hx, h⟩
 ·rintro (⟨x, hx, h⟩ | ⟨x, hx, h⟩)
  ·exact ⟨x, .inl hx, h⟩
  ·exact ⟨x, .inr hx, h⟩
theorem covS_inV {l : List Two} {p : Int} : inV l p = true ↔ covS l p := by unfold inV covS; simp
theorem endsV_le {x : Two} (h : goodB x.a x.b = true) : (endsV x).a ≤ (endsV x).b := by
 have h1 := goodB_iff.1 h
 show x.a ≤ lastV x.a x.b
 rw [lastV_yes h]; omega
theorem hasB_ends {x : Two} {p : Int} : hasB x.a x.b p = true ↔ goodB x.a x.b = true ∧ (endsV x).a ≤ p ∧ p ≤ (endsV x).b := by
 rw [hasB_iff]
 constructor
 ·rintro ⟨h, h2, h3⟩; exact ⟨h, h2, by show _ ≤ lastV x.a x.b; rw [lastV_yes h]; exact h3⟩
 ·rintro ⟨h, h2, h3⟩; have h4 : p ≤ lastV x.a x.b := h3; rw [lastV_yes h] at h4; exact ⟨h, h2, h4⟩
theorem refAll_canon : ∀ (l acc : List Two), Canon acc → Canon (l.foldl refStep acc) ∧ ∀ p, cov (l.foldl refStep acc) p ↔ cov acc p ∨ covS l p
 | [], acc, h => ⟨h, fun p => by simp [covS]⟩
 | x :: l, acc, h => by
  have hx : Canon (refStep acc x) ∧ ∀ p, cov (refStep acc x) p ↔ cov acc p ∨ hasB x.a x.b p = true := by
   cases hg : goodB x.a x.b
   ·have e : refStep acc x = acc := by unfold refStep; rw [if_neg (by rw [hg]; simp)]
    rw [e]
    exact ⟨h, fun p => by rw [hasB_ends, hg]; simp⟩
   ·have e : refStep acc x = insertV acc (endsV x) := by unfold refStep; rw [if_pos hg]
    rw [e]
    obtain ⟨h1, h2⟩ := insert_canon acc (endsV x) h (endsV_le hg)
    exact ⟨h1, fun p => by rw [h2, hasB_ends, hg]; simp⟩
  obtain ⟨h1, h2⟩ := refAll_canon l _ hx.1
  refine ⟨h1, fun p => ?_⟩
  rw [List.foldl_cons, h2 p, hx.2 p]
  unfold covS
  simp only [List.mem_cons, exists_eq_or_imp]
  constructor
  ·rintro ((h | h) | h)
   ·exact .inl h
   ·exact .inr (.inl h)
   ·exact .inr (.inr h)
  ·rintro (h | h | h)
   ·exact .inl (.inl h)
   ·exact .inl (.inr h)
   ·exact .inr h
theorem refAllV_canon (l : List Two) : Canon (refAllV l) ∧ ∀ p, cov (refAllV l) p ↔ covS l p := by
 obtain ⟨h1, h2⟩ := refAll_canon l [] canon_nil
 exact ⟨h1, fun p => by rw [refAllV, h2 p]; simp [cov_nil]⟩
theorem cmpTwo_le {x y : Two} (h : (!(ltOf cmpTwo) y x) = true) : x.a ≤ y.a := by
 have h2 : ¬ ltOf cmpTwo y x = true := by simpa using h
 rw [ltTwo_iff] at h2
 omega
theorem mergeFold_canon : ∀ (l out : List Two), l.Pairwise (fun x y => x.a ≤ y.a) → (∀ x ∈ l, x.a ≤ x.b) → Canon out → (∀ t ∈ out, ∀ x ∈ l, t.a ≤ x.a) →
  Canon (l.foldl mergeStep out) ∧ ∀ p, cov (l.foldl mergeStep out) p ↔ cov out p ∨ cov l p
 | [], out, _, _, hc, _ => ⟨hc, fun p => by simp [cov_nil]⟩
 | x :: l, out, hp, hw, hc, ho => by
  rw [List.pairwise_cons] at hp
  have hx := hw x (by simp)
  have key : Canon (mergeStep out x) ∧ (∀ t ∈ mergeStep out x, ∀ y ∈ l, t.a ≤ y.a) ∧ ∀ p, cov (mergeStep out x) p ↔ cov out p ∨ (x.a ≤ p ∧ p ≤ x.b) := by
   rcases List.eq_nil_or_concat out with rfl | ⟨ys, t, rfl⟩
   ·rw [mergeStep_nil]
    refine ⟨canon_cons.2 ⟨by simp, hx, canon_nil⟩, ?_, fun p => by simp [cov_one, cov_nil]⟩
    intro t ht y hy
    obtain rfl : t = x := by simpa using ht
    exact hp.1 y hy
   ·rw [List.concat_eq_append] at *
    obtain ⟨c1, c2, c3⟩ := canon_snoc.1 hc
    have hta := ho t (by simp) x (by simp)
    by_cases k : t.b = 18446744073709551615 ∨ x.a ≤ t.b + 1
    ·rw [mergeStep_join _ _ _ k]
     have hbb : (tw t.a (max t.b x.b)).a = t.a ∧ (tw t.a (max t.b x.b)).b = max t.b x.b := by
      have := t.hb; have := x.hb
      refine ⟨W64.eq t.ha, W64.eq ?_⟩
      rcases Int.le_total t.b x.b with h | h
      ·rw [Int.max_eq_right h]; exact x.hb
      ·rw [Int.max_eq_left h]; exact t.hb
     have hx2 := x.ha
     have hx3 := x.hb
     unfold W64 at hx2 hx3
     generalize tw t.a (max t.b x.b) = u at *
     obtain ⟨u1, u2⟩ := hbb
     have hmax : (t.b ≤ u.b ∧ x.b ≤ u.b) ∧ (u.b = t.b ∨ u.b = x.b) := by rw [u2]; omega
     refine ⟨canon_snoc.2 ⟨c1, by omega, fun y hy => by have := c3 y hy; omega⟩, ?_, fun p => ?_⟩
     ·intro z hz y hy
      rcases List.mem_append.1 hz with hz | hz
      ·exact ho z (by simp [hz]) y (by simp [hy])
      ·obtain rfl : z = u := by simpa using hz
       have := ho t (by simp) y (by simp [hy]); omega
     ·rw [cov_append, cov_append, cov_one, cov_one]
      have : (u.a ≤ p ∧ p ≤ u.b) ↔ (t.a ≤ p ∧ p ≤ t.b) ∨ (x.a ≤ p ∧ p ≤ x.b) := by omega
      rw [this, or_assoc]
    ·rw [mergeStep_new _ _ _ k]
     refine ⟨canon_snoc.2 ⟨hc, hx, fun y hy => ?_⟩, ?_, fun p => by rw [cov_append, cov_one]⟩
     ·rcases List.mem_append.1 hy with hy | hy
      ·have := c3 y hy; omega
      ·obtain rfl : y = t := by simpa using hy
       omega
     ·intro z hz y hy
      rcases List.mem_append.1 hz with hz | hz
      ·exact ho z hz y (by simp [hy])
      ·obtain rfl : z = x := by simpa using hz
       exact hp.1 y hy
  obtain ⟨h1, h2⟩ := mergeFold_canon l _ hp.2 (fun y hy => hw y (by simp [hy])) key.1 key.2.1
  refine ⟨h1, fun p => ?_⟩
  rw [List.foldl_cons, h2 p, key.2.2 p, cov_cons, or_assoc]
theorem cov_mem {l m : List Two} (h : ∀ x, x ∈ l ↔ x ∈ m) (p : Int) : cov l p ↔ cov m p := by
 unfold cov; constructor <;> rintro ⟨x, hx, h2⟩
 ·exact ⟨x, (h x).1 hx, h2⟩
 ·exact ⟨x, (h x).2 hx, h2⟩
theorem endOf_ends (x : Two) : endOf x = endsV x := Two.ext (endOf_parts x).1 (endOf_parts x).2
theorem goodEnds_cov (l : List Two) (p : Int) : cov (goodEnds l) p ↔ covS l p := by
 unfold cov covS goodEnds
 simp only [List.mem_map, List.mem_filter]
 constructor
 ·rintro ⟨_, ⟨x, ⟨hx, hg⟩, rfl⟩, h1, h2⟩
  rw [endOf_ends] at h1 h2
  exact ⟨x, hx, hasB_ends.2 ⟨hg, h1, h2⟩⟩
 ·rintro ⟨x, hx, h⟩
  obtain ⟨hg, h1, h2⟩ := hasB_ends.1 h
  exact ⟨_, ⟨x, ⟨hx, hg⟩, rfl⟩, by rw [endOf_ends]; exact h1, by rw [endOf_ends]; exact h2⟩
theorem goodEnds_le (l : List Two) : ∀ x ∈ goodEnds l, x.a ≤ x.b := by
 unfold goodEnds
 simp only [List.mem_map, List.mem_filter]
 rintro _ ⟨x, ⟨_, hg⟩, rfl⟩
 rw [endOf_ends]
 exact endsV_le hg
theorem sortV_mem (l : List Two) (x : Two) : x ∈ sortV l ↔ x ∈ l := by unfold sortV; exact List.mem_mergeSort
theorem mergedV_canon (l : List Two) : Canon (mergedV l) ∧ ∀ p, cov (mergedV l) p ↔ covS l p := by
 have hs : (sortV (goodEnds l)).Pairwise (fun x y => x.a ≤ y.a) := by
  unfold sortV
  refine (List.pairwise_mergeSort ?_ ?_ (goodEnds l)).imp fun h => cmpTwo_le h
  ·intro x y z h1 h2
   simp only [Bool.not_eq_true'] at *
   exact swoTwo.ntrans _ _ _ h2 h1
  ·intro x y
   by_cases h : ltOf cmpTwo x y = true
   ·have h2 : ltOf cmpTwo y x = false := by
     rw [Bool.eq_false_iff]; intro h3
     have := swoTwo.trans _ _ _ h h3
     rw [swoTwo.irrefl] at this; cases this
    simp [h2]
   ·simp [h]
 obtain ⟨h1, h2⟩ := mergeFold_canon (sortV (goodEnds l)) [] hs (fun x hx => goodEnds_le l x ((sortV_mem _ x).1 hx)) canon_nil (by simp)
 refine ⟨h1, fun p => ?_⟩
 rw [mergedV, h2 p, ← goodEnds_cov, cov_mem (sortV_mem (goodEnds l)) p]
 simp [cov_nil]
theorem merged_eq (l : List Two) : mergedV l = refAllV l :=
 canon_unique _ _ (mergedV_canon l).1 (refAllV_canon l).1 fun p => by rw [(mergedV_canon l).2, (refAllV_canon l).2]
theorem full_alone {M : List Two} (h : Canon M) {x : Two} (hx : x ∈ M) (hf : fullB x = true) : M = [x] := by
 obtain ⟨h0, h1⟩ : x.a = 0 ∧ x.b = 18446744073709551615 := by simpa [fullB] using hf
 obtain ⟨l, m, rfl⟩ := List.append_of_mem hx
 obtain ⟨c1, c2, c3⟩ := canon_append.1 h
 obtain ⟨c4, c5, c6⟩ := canon_cons.1 c2
 have e1 : l = [] := by
  rcases l with _ | ⟨y, l⟩
  ·rfl
  ·have := c3 y (by simp) x (by simp); have := y.hb; unfold W64 at this; have := (canon_cons.1 c1).2.1; have := y.ha; unfold W64 at this; omega
 have e2 : m = [] := by
  rcases m with _ | ⟨y, m⟩
  ·rfl
  ·have := c4 y (by simp); have := y.ha; unfold W64 at this; omega
 rw [e1, e2]; rfl
theorem spans_eq {M : List Two} (h : Canon M) : spansV M = M.flatMap conv2 := by
 unfold spansV
 by_cases hf : M.any fullB = true
 ·rw [if_pos hf]
  obtain ⟨x, hx, hfx⟩ := List.any_eq_true.1 hf
  rw [full_alone h hx hfx]
  simp [conv2, hfx]
 ·rw [if_neg hf]
  have : ∀ x ∈ M, fullB x = false := by
   intro x hx
   rw [Bool.eq_false_iff]; intro hfx
   exact hf (List.any_eq_true.2 ⟨x, hx, hfx⟩)
  clear hf h
  induction M with
  | nil => rfl
  | cons x M ih =>
   rw [List.map_cons, List.flatMap_cons, ih fun y hy => this y (by simp [hy])]
   simp [conv2, this x (by simp)]
theorem merge_eq (l : List Two) : spansV (mergedV l) = refMergeV l := by
 rw [spans_eq (mergedV_canon l).1, merged_eq]; rfl
theorem conv_has {x : Two} (h : x.a ≤ x.b) (hf : fullB x = false) : goodB (convV x).a (convV x).b = true ∧ endsV (convV x) = x := by
 have h1 := x.ha
 have h2 := x.hb
 unfold W64 at h1 h2
 have hb : (convV x).b = x.b - x.a + 1 := by
  refine W64.eq ?_
  have : ¬ (x.a = 0 ∧ x.b = 18446744073709551615) := by simpa [fullB] using hf
  unfold W64; omega
 have ha : (convV x).a = x.a := W64.eq x.ha
 have hg : goodB (convV x).a (convV x).b = true := goodB_iff.2 ⟨by rw [hb]; omega, by rw [ha, hb]; omega⟩
 refine ⟨hg, Two.ext ha ?_⟩
 show lastV (convV x).a (convV x).b = _
 rw [lastV_yes hg, ha, hb]; omega
theorem half_has (p : Int) (hp : W64 p) : hasB halfA.a halfA.b p = true ∨ hasB halfB.a halfB.b p = true := by
 unfold W64 at hp
 rw [hasB_iff, hasB_iff, goodB_iff, goodB_iff]
 simp only [halfA, halfB]
 omega
theorem conv2_cov {x : Two} (h : x.a ≤ x.b) (p : Int) (hp : W64 p) : covS (conv2 x) p ↔ x.a ≤ p ∧ p ≤ x.b := by
 unfold conv2
 cases hf : fullB x
 ·rw [if_neg (by simp)]
  obtain ⟨hg, he⟩ := conv_has h hf
  unfold covS
  simp only [List.mem_singleton, exists_eq_left]
  rw [hasB_ends, he, hg]; simp
 ·rw [if_pos rfl]
  obtain ⟨h0, h1⟩ : x.a = 0 ∧ x.b = 18446744073709551615 := by simpa [fullB] using hf
  unfold covS
  simp only [List.mem_cons, List.not_mem_nil, or_false, exists_eq_or_imp, exists_eq_left]
  have := half_has p hp
  unfold W64 at hp
  constructor
  ·intro _; omega
  ·intro _; exact this
theorem conv2s_cov (p : Int) (hp : W64 p) : ∀ M : List Two, (∀ x ∈ M, x.a ≤ x.b) → (covS (M.flatMap conv2) p ↔ cov M p)
 | [], _ => by simp [covS, cov]
 | x :: M, h => by
  have h1 := conv2s_cov p hp M fun y hy => h y (List.mem_cons_of_mem _ hy)
  have h2 := conv2_cov (h x List.mem_cons_self) p hp
  rw [List.flatMap_cons, covS_append, cov_cons]
  exact or_congr h2 h1
theorem refMerge_cov (l : List Two) (p : Int) (hp : W64 p) : covS (refMergeV l) p ↔ covS l p := by
 rw [← (refAllV_canon l).2]
 exact conv2s_cov p hp _ (refAllV_canon l).1.2
def cutFrom (last : Int) : Int → List Two → List Two
 | f, [] => [tw f last]
 | f, x :: M => if x.b < f then cutFrom last f M else if last < x.a then [tw f last] else (if f < x.a then [tw f (x.a - 1)] else []) ++ (if last ≤ x.b then [] else cutFrom last (x.b + 1) M)
theorem tw_parts {a b : Int} (ha : W64 a) (hb : W64 b) : (tw a b).a = a ∧ (tw a b).b = b := ⟨W64.eq ha, W64.eq hb⟩
theorem cutFrom_canon (last : Int) (hl : W64 last) : ∀ (M : List Two) (f : Int), W64 f → f ≤ last → Canon M →
  Canon (cutFrom last f M) ∧ (∀ y ∈ cutFrom last f M, f ≤ y.a) ∧ ∀ p, cov (cutFrom last f M) p ↔ (f ≤ p ∧ p ≤ last) ∧ ¬ cov M p
 | [], f, hf, hfl, _ => by
  obtain ⟨h1, h2⟩ := tw_parts hf hl
  refine ⟨canon_cons.2 ⟨by simp, by omega, canon_nil⟩, ?_, fun p => ?_⟩
  ·intro y hy
   obtain rfl : y = tw f last := by simpa [cutFrom] using hy
   omega
  ·show cov [tw f last] p ↔ _
   rw [cov_one, h1, h2]; simp [cov_nil]
 | x :: M, f, hf, hfl, hM => by
  obtain ⟨c1, c2, c3⟩ := canon_cons.1 hM
  have hx1 := x.ha
  have hx2 := x.hb
  have hrest : ∀ p, p ≤ x.b → ¬ cov M p := by
   rintro p hp ⟨z, hz, h1, _⟩
   have := c1 z hz; omega
  rw [cutFrom]
  by_cases k1 : x.b < f
  ·rw [if_pos k1]
   obtain ⟨h1, h2, h3⟩ := cutFrom_canon last hl M f hf hfl c3
   refine ⟨h1, h2, fun p => ?_⟩
   rw [h3 p, cov_cons]
   constructor
   ·rintro ⟨h4, h5⟩; exact ⟨h4, fun h => h.elim (fun h => by omega) h5⟩
   ·rintro ⟨h4, h5⟩; exact ⟨h4, fun h => h5 (.inr h)⟩
  ·rw [if_neg k1]
   by_cases k2 : last < x.a
   ·rw [if_pos k2]
    obtain ⟨h1, h2⟩ := tw_parts hf hl
    refine ⟨canon_cons.2 ⟨by simp, by omega, canon_nil⟩, ?_, fun p => ?_⟩
    ·intro y hy
     obtain rfl : y = tw f last := by simpa using hy
     omega
    ·rw [cov_one, h1, h2, cov_cons]
     constructor
     ·intro h; exact ⟨h, fun h' => h'.elim (fun h' => by omega) (hrest p (by omega))⟩
     ·rintro ⟨h, _⟩; exact h
   ·rw [if_neg k2]
    unfold W64 at hx1 hx2 hl hf
    have hA : Canon (if f < x.a then [tw f (x.a - 1)] else []) ∧ (∀ y ∈ (if f < x.a then [tw f (x.a - 1)] else []), f ≤ y.a ∧ y.b + 1 = x.a) ∧ ∀ p, cov (if f < x.a then [tw f (x.a - 1)] else []) p ↔ f ≤ p ∧ p < x.a := by
     by_cases k3 : f < x.a
     ·rw [if_pos k3]
      obtain ⟨h1, h2⟩ := tw_parts (a := f) (b := x.a - 1) ⟨by omega, by omega⟩ ⟨by omega, by omega⟩
      refine ⟨canon_cons.2 ⟨by simp, by omega, canon_nil⟩, ?_, fun p => by rw [cov_one, h1, h2]; omega⟩
      intro y hy
      obtain rfl : y = tw f (x.a - 1) := by simpa using hy
      omega
     ·rw [if_neg k3]
      exact ⟨canon_nil, by simp, fun p => ⟨fun h => absurd h (cov_nil p), fun h => by omega⟩⟩
    have hB : Canon (if last ≤ x.b then [] else cutFrom last (x.b + 1) M) ∧ (∀ y ∈ (if last ≤ x.b then [] else cutFrom last (x.b + 1) M), x.b + 1 ≤ y.a) ∧ ∀ p, cov (if last ≤ x.b then [] else cutFrom last (x.b + 1) M) p ↔ (x.b + 1 ≤ p ∧ p ≤ last) ∧ ¬ cov M p := by
     by_cases k4 : last ≤ x.b
     ·rw [if_pos k4]
      exact ⟨canon_nil, by simp, fun p => ⟨fun h => absurd h (cov_nil p), fun h => by omega⟩⟩
     ·rw [if_neg k4]
      exact cutFrom_canon last ⟨by omega, by omega⟩ M (x.b + 1) ⟨by omega, by omega⟩ (by omega) c3
    generalize (if f < x.a then [tw f (x.a - 1)] else []) = A at *
    generalize (if last ≤ x.b then [] else cutFrom last (x.b + 1) M) = B at *
    obtain ⟨a1, a2, a3⟩ := hA
    obtain ⟨b1, b2, b3⟩ := hB
    refine ⟨canon_append.2 ⟨a1, b1, fun y hy z hz => by have := a2 y hy; have := b2 z hz; omega⟩, ?_, fun p => ?_⟩
    ·intro y hy
     rcases List.mem_append.1 hy with hy | hy
     ·exact (a2 y hy).1
     ·have := b2 y hy; omega
    ·rw [cov_append, a3, b3, cov_cons]
     constructor
     ·rintro (h | ⟨h, h2⟩)
      ·exact ⟨by omega, fun h' => h'.elim (fun h' => by omega) (hrest p (by omega))⟩
      ·exact ⟨by omega, fun h' => h'.elim (fun h' => by omega) h2⟩
     ·rintro ⟨h, h2⟩
      by_cases k : p < x.a
      ·exact .inl ⟨h.1, k⟩
      ·refine .inr ⟨⟨?_, h.2⟩, fun h' => h2 (.inr h')⟩
       by_cases k5 : p ≤ x.b
       ·exact absurd (.inl ⟨by omega, k5⟩) h2
       ·omega
def cutEnds (s : Two) (l : List Two) : List Two := cutFrom (lastV s.a s.b) s.a (mergedV l)
def cutV (s : Two) (l : List Two) : List Two := if goodB s.a s.b = true then spansV (cutEnds s l) else []
def CanonS (out : List Two) : Prop := (∀ y ∈ out, goodB y.a y.b = true) ∧ Canon (out.map endsV)
theorem covS_ends {out : List Two} (h : ∀ y ∈ out, goodB y.a y.b = true) (p : Int) : covS out p ↔ cov (out.map endsV) p := by
 unfold covS cov
 constructor
 ·rintro ⟨y, hy, h1⟩; exact ⟨_, List.mem_map_of_mem hy, (hasB_ends.1 h1).2⟩
 ·rintro ⟨z, hz, h1⟩
  obtain ⟨y, hy, rfl⟩ := List.mem_map.1 hz
  exact ⟨y, hy, hasB_ends.2 ⟨h y hy, h1⟩⟩
theorem pieces_inv {x y : Two} (hx : goodB x.a x.b = true) (hy : goodB y.a y.b = true) :
  CanonS (pcsSV x y) ∧ (∀ z ∈ pcsSV x y, y.a ≤ z.a ∧ lastV z.a z.b ≤ lastV y.a y.b) ∧ ∀ p, covS (pcsSV x y) p ↔ hasB y.a y.b p = true ∧ ¬ hasB x.a x.b p = true := by
 have gx := goodB_iff.1 hx
 have gy := goodB_iff.1 hy
 have hxa := x.ha
 have hya := y.ha
 have hxb := x.hb
 have hyb := y.hb
 unfold W64 at hxa hya hxb hyb
 have one : ∀ z : Two, goodB z.a z.b = true → CanonS [z] := fun z hz => ⟨by simpa using hz, canon_cons.2 ⟨by simp, endsV_le hz, canon_nil⟩⟩
 unfold pcsSV
 by_cases ho : overlapB x.a x.b y.a y.b = false
 ·rw [if_pos ho]
  refine ⟨one y hy, by simp, fun p => ?_⟩
  have h1 : ¬ _ := fun h => by rw [overlapB_iff.2 h] at ho; cases ho
  unfold covS
  simp only [List.mem_singleton, exists_eq_left, hasB_iff, hx, hy, true_and]
  simp only [hx, hy, true_and] at h1
  omega
 ·rw [if_neg ho]
  have h1 := overlapB_iff.1 (by simpa using ho)
  obtain ⟨_, _, h2, h3⟩ := h1
  rw [lastV_yes hx, lastV_yes hy]
  have hA : ∀ A, A = (if y.a < x.a then [tw y.a (x.a - y.a)] else []) → CanonS A ∧ (∀ z ∈ A, z.a = y.a ∧ lastV z.a z.b + 1 = x.a) ∧ ∀ p, covS A p ↔ y.a ≤ p ∧ p < x.a := by
   rintro A rfl
   by_cases k : y.a < x.a
   ·rw [if_pos k]
    obtain ⟨t1, t2⟩ := tw_parts (a := y.a) (b := x.a - y.a) ⟨by omega, by omega⟩ ⟨by omega, by omega⟩
    generalize tw y.a (x.a - y.a) = t at *
    have hg : goodB t.a t.b = true := goodB_iff.2 ⟨by omega, by omega⟩
    refine ⟨one t hg, ?_, fun p => ?_⟩
    ·intro z hz
     obtain rfl : z = t := by simpa using hz
     rw [lastV_yes hg]; omega
    ·unfold covS
     simp only [List.mem_singleton, exists_eq_left, hasB_iff, hg, true_and]
     omega
   ·rw [if_neg k]
    exact ⟨⟨by simp, canon_nil⟩, by simp, fun p => ⟨(by rintro ⟨z, hz, _⟩; cases hz), fun h => by omega⟩⟩
  have hB : ∀ B, B = (if x.a + (x.b - 1) < y.a + (y.b - 1) then [tw (x.a + (x.b - 1) + 1) (y.a + (y.b - 1) - (x.a + (x.b - 1)))] else []) → CanonS B ∧ (∀ z ∈ B, z.a = x.a + (x.b - 1) + 1 ∧ lastV z.a z.b = y.a + (y.b - 1)) ∧ ∀ p, covS B p ↔ x.a + (x.b - 1) < p ∧ p ≤ y.a + (y.b - 1) := by
   rintro B rfl
   by_cases k : x.a + (x.b - 1) < y.a + (y.b - 1)
   ·rw [if_pos k]
    obtain ⟨t1, t2⟩ := tw_parts (a := x.a + (x.b - 1) + 1) (b := y.a + (y.b - 1) - (x.a + (x.b - 1))) ⟨by omega, by omega⟩ ⟨by omega, by omega⟩
    generalize tw (x.a + (x.b - 1) + 1) (y.a + (y.b - 1) - (x.a + (x.b - 1))) = t at *
    have hg : goodB t.a t.b = true := goodB_iff.2 ⟨by omega, by omega⟩
    refine ⟨one t hg, ?_, fun p => ?_⟩
    ·intro z hz
     obtain rfl : z = t := by simpa using hz
     rw [lastV_yes hg]; omega
    ·unfold covS
     simp only [List.mem_singleton, exists_eq_left, hasB_iff, hg, true_and]
     omega
   ·rw [if_neg k]
    exact ⟨⟨by simp, canon_nil⟩, by simp, fun p => ⟨(by rintro ⟨z, hz, _⟩; cases hz), fun h => by omega⟩⟩
  have hA := hA _ rfl
  have hB := hB _ rfl
  generalize (if y.a < x.a then [tw y.a (x.a - y.a)] else []) = A at *
  generalize (if x.a + (x.b - 1) < y.a + (y.b - 1) then [tw (x.a + (x.b - 1) + 1) (y.a + (y.b - 1) - (x.a + (x.b - 1)))] else []) = B at *
  obtain ⟨⟨a1, a2⟩, a3, a4⟩ := hA
  obtain ⟨⟨b1, b2⟩, b3, b4⟩ := hB
  refine ⟨⟨?_, ?_⟩, ?_, fun p => ?_⟩
  ·intro z hz
   rcases List.mem_append.1 hz with hz | hz
   ·exact a1 z hz
   ·exact b1 z hz
  ·rw [List.map_append]
   refine canon_append.2 ⟨a2, b2, ?_⟩
   intro u hu v hv
   obtain ⟨u, hu', rfl⟩ := List.mem_map.1 hu
   obtain ⟨v, hv', rfl⟩ := List.mem_map.1 hv
   have h4 := a3 u hu'
   have h5 := b3 v hv'
   show lastV u.a u.b + 1 < v.a
   omega
  ·intro z hz
   rcases List.mem_append.1 hz with hz | hz
   ·have := a3 z hz; omega
   ·have := b3 z hz; omega
  ·rw [covS_append, a4, b4]
   simp only [hasB_iff, hx, hy, true_and]
   omega
theorem cutEnds_inv (s : Two) (l : List Two) (hg : goodB s.a s.b = true) : Canon (cutEnds s l) ∧ (∀ y ∈ cutEnds s l, fullB y = false) ∧ ∀ p, cov (cutEnds s l) p ↔ hasB s.a s.b p = true ∧ ¬ covS l p := by
 have h1 := goodB_iff.1 hg
 have h2 := lastV_yes hg
 obtain ⟨c1, c2, c3⟩ := cutFrom_canon (lastV s.a s.b) (lastV_w s.ha s.hb) (mergedV l) s.a s.ha (by omega) (mergedV_canon l).1
 have hcov : ∀ p, cov (cutEnds s l) p ↔ hasB s.a s.b p = true ∧ ¬ covS l p := fun p => by
  rw [cutEnds, c3 p, (mergedV_canon l).2, hasB_iff, hg, h2]; simp
 refine ⟨c1, fun y hy => ?_, hcov⟩
 rw [Bool.eq_false_iff]; intro hf
 obtain ⟨y0, y1⟩ : y.a = 0 ∧ y.b = 18446744073709551615 := by simpa [fullB] using hf
 have k0 := hasB_iff.1 ((hcov 0).1 ⟨y, hy, by omega, by omega⟩).1
 have k1 := hasB_iff.1 ((hcov 18446744073709551615).1 ⟨y, hy, by omega, by omega⟩).1
 have := s.hb; unfold W64 at this
 omega
theorem cutV_inv (s : Two) (l : List Two) : CanonS (cutV s l) ∧ ∀ p, covS (cutV s l) p ↔ hasB s.a s.b p = true ∧ ¬ covS l p := by
 unfold cutV
 cases hg : goodB s.a s.b
 ·rw [if_neg (by simp)]
  exact ⟨⟨by simp, canon_nil⟩, fun p => by simp [covS, hasB_iff, hg]⟩
 ·rw [if_pos rfl]
  obtain ⟨c1, c2, c3⟩ := cutEnds_inv s l hg
  have e : spansV (cutEnds s l) = (cutEnds s l).map convV := by
   unfold spansV
   rw [if_neg]
   intro h
   obtain ⟨x, hx, hf⟩ := List.any_eq_true.1 h
   rw [c2 x hx] at hf; cases hf
  have e2 : ((cutEnds s l).map convV).map endsV = cutEnds s l := by
   rw [List.map_map]
   conv => rhs; rw [← List.map_id (cutEnds s l)]
   exact List.map_congr_left fun y hy => (conv_has (c1.2 y hy) (c2 y hy)).2
  have hgood : ∀ y ∈ (cutEnds s l).map convV, goodB y.a y.b = true := by
   intro y hy
   obtain ⟨x, hx, rfl⟩ := List.mem_map.1 hy
   exact (conv_has (c1.2 x hx) (c2 x hx)).1
  rw [e]
  exact ⟨⟨hgood, by rw [e2]; exact c1⟩, fun p => by rw [covS_ends hgood, e2, c3]⟩
theorem covS_w {l : List Two} {p : Int} (h : covS l p) : W64 p := by
 obtain ⟨x, _, h⟩ := h
 obtain ⟨h1, h2, h3⟩ := hasB_iff.1 h
 have := goodB_iff.1 h1
 have := x.ha; unfold W64 at *; omega
end Go.Proofs.YtiblhlaemmdphaaGreat
/- Plain: a pool of frames: what a run takes, that no frame is handed out twice, and that a frame is refused just if none is left. -/
namespace Go.Proofs.YtiblhlaemmdphaaGreat
open Go Go.RowKit
def upV (n a : Int) : Int × Bool :=
 if a = 0 then (0, false) else if n % a = 0 then (n, true) else if n - n % a + a < 18446744073709551616 then (n - n % a + a, true) else (0, false)
theorem upV_yes {n a : Int} (hn : W64 n) (ha : W64 a) (h : (upV n a).2 = true) : 0 < a ∧ (upV n a).1 % a = 0 ∧ n ≤ (upV n a).1 ∧ (upV n a).1 < n + a ∧ W64 (upV n a).1 := by
 unfold W64 at *
 unfold upV at *
 by_cases h0 : a = 0
 ·rw [if_pos h0] at h; cases h
 ·rw [if_neg h0] at h ⊢
  have hp : 0 < a := by omega
  have hm := Int.emod_nonneg n h0
  have hl := Int.emod_lt_of_pos n hp
  by_cases h1 : n % a = 0
  ·rw [if_pos h1] at h ⊢
   exact ⟨hp, h1, Int.le_refl _, by omega, hn⟩
  ·rw [if_neg h1] at h ⊢
   by_cases h2 : n - n % a + a < 18446744073709551616
   ·rw [if_pos h2]
    refine ⟨hp, ?_, by show n ≤ n - n % a + a; omega, by show n - n % a + a < n + a; omega, by show 0 ≤ n - n % a + a; omega, h2⟩
    show (n - n % a + a) % a = 0
    rw [Int.add_emod_right, Int.sub_emod, Int.emod_emod, Int.sub_self, Int.zero_emod]
   ·rw [if_neg h2] at h; cases h
theorem upV_fix {n a : Int} (ha : 0 < a) (h : n % a = 0) : upV n a = (n, true) := by
 unfold upV; rw [if_neg (by omega), if_pos h]
structure Pl where
 from' : Int
 count : Int
 used : List Two
 out : Int
def Pl.whole (p : Pl) : Two := tw p.from' (p.count * 4096)
def Pl.free (p : Pl) : List Two := if p.count = 0 then [] else cutV p.whole p.used
def fitsV (n align : Int) (s : Two) : Bool := (upV s.a align).2 && withinB (upV s.a align).1 (n * 4096) s.a s.b
def askB (n align : Int) : Bool := decide (1 ≤ n) && decide (n ≤ 4096) && (decide (align ≠ 0) && decide (align % 4096 = 0))
def wantV (n align : Int) (s : Two) : Two := tw (upV s.a align).1 (n * 4096)
def takeV (p : Pl) (n : Int) (x : Two) : Pl := { p with used := spansV (mergedV (p.used ++ [x])), out := (p.out + n) % 18446744073709551616 }
def runV (p : Pl) (n align : Int) : Pl × Int × Int :=
 if askB n align = true then
  match p.free.find? (fitsV n align) with
  | some s => (takeV p n (wantV n align s), (upV s.a align).1, 0)
  | none => (p, 0, 110)
 else (p, 0, 1)
def newV (s : Two) : Pl :=
 if goodB s.a s.b = true ∧ (upV s.a 4096).2 = true ∧ (upV s.a 4096).1 ≤ lastV s.a s.b then ⟨(upV s.a 4096).1, (lastV s.a s.b - (upV s.a 4096).1 + 1) / 4096, [], 0⟩ else ⟨0, 0, [], 0⟩
structure PlOk (p : Pl) : Prop where
 f0 : 0 ≤ p.from'
 f1 : p.from' ≤ 18446744073709551615
 c0 : 0 ≤ p.count
 top : p.from' + p.count * 4096 ≤ 18446744073709551616
 c1 : p.count * 4096 ≤ 18446744073709551615
 al : p.from' % 4096 = 0
theorem newV_ok (s : Two) : PlOk (newV s) ∧ (0 < (newV s).count → s.a ≤ (newV s).from' ∧ (newV s).from' + (newV s).count * 4096 ≤ s.a + s.b) ∧ (newV s).used = [] ∧ (newV s).out = 0 := by
 unfold newV
 split
 ·rename_i h
  obtain ⟨h1, h2, h3⟩ := h
  obtain ⟨u1, u2, u3, u4, u5⟩ := upV_yes s.ha (by unfold W64; omega) h2
  have hg := goodB_iff.1 h1
  rw [lastV_yes h1] at h3 ⊢
  have hb := s.hb
  have ha := s.ha
  unfold W64 at u5 hb ha
  generalize (upV s.a 4096).1 = f at *
  refine ⟨⟨u5.1, by have := u5.2; show f ≤ _; omega, ?_, ?_, ?_, u2⟩, ?_, rfl, rfl⟩
  ·show 0 ≤ (s.a + (s.b - 1) - f + 1) / 4096; omega
  ·show f + (s.a + (s.b - 1) - f + 1) / 4096 * 4096 ≤ _; omega
  ·show (s.a + (s.b - 1) - f + 1) / 4096 * 4096 ≤ _; omega
  ·intro _
   show s.a ≤ f ∧ f + (s.a + (s.b - 1) - f + 1) / 4096 * 4096 ≤ s.a + s.b
   omega
 ·exact ⟨⟨by decide, by decide, by decide, by decide, by decide, by decide⟩, fun h => absurd h (by decide), rfl, rfl⟩
theorem PlOk.whole_parts {p : Pl} (h : PlOk p) : p.whole.a = p.from' ∧ p.whole.b = p.count * 4096 := by
 have := h.f0; have := h.f1; have := h.c0; have := h.top; have := h.c1
 exact tw_parts ⟨by omega, by omega⟩ ⟨by omega, by omega⟩
theorem PlOk.free_inv {p : Pl} (h : PlOk p) : CanonS p.free ∧ ∀ x, covS p.free x ↔ (p.from' ≤ x ∧ x < p.from' + p.count * 4096) ∧ ¬ covS p.used x := by
 have := h.f0; have := h.f1; have := h.c0; have := h.top; have := h.c1
 obtain ⟨w1, w2⟩ := h.whole_parts
 unfold Pl.free
 by_cases hc : p.count = 0
 ·rw [if_pos hc]
  exact ⟨⟨by simp, canon_nil⟩, fun x => ⟨(by rintro ⟨z, hz, _⟩; cases hz), fun h => by omega⟩⟩
 ·rw [if_neg hc]
  obtain ⟨c1, c2⟩ := cutV_inv p.whole p.used
  refine ⟨c1, fun x => ?_⟩
  rw [c2 x, hasB_iff, goodB_iff, w1, w2]
  constructor
  ·rintro ⟨⟨_, h1, h2⟩, h3⟩; exact ⟨by omega, h3⟩
  ·rintro ⟨h1, h2⟩; exact ⟨⟨by omega, by omega, by omega⟩, h2⟩
theorem takeV_cov (p : Pl) (n : Int) (x : Two) (y : Int) : covS (takeV p n x).used y ↔ covS p.used y ∨ hasB x.a x.b y = true := by
 have h1 : covS [x] y ↔ hasB x.a x.b y = true := by unfold covS; simp
 rw [← h1, ← covS_append]
 show covS (spansV (mergedV (p.used ++ [x]))) y ↔ _
 constructor
 ·intro h; rw [merge_eq] at h; exact (refMerge_cov _ y (covS_w h)).1 h
 ·intro h; rw [merge_eq]; exact (refMerge_cov _ y (covS_w h)).2 h
theorem askB_iff {n align : Int} : askB n align = true ↔ 1 ≤ n ∧ n ≤ 4096 ∧ align ≠ 0 ∧ align % 4096 = 0 := by
 unfold askB; simp [and_assoc]
structure Granted (p : Pl) (n align : Int) (s : Two) (at' : Int) : Prop where
 mem : s ∈ p.free
 n1 : 1 ≤ n
 n2 : n ≤ 4096
 al : at' % align = 0
 al0 : align ≠ 0
 pg : at' % 4096 = 0
 w : W64 at'
 hi : at' + n * 4096 ≤ 18446744073709551616
 lo : s.a ≤ at'
 inn : ∀ x, at' ≤ x → x < at' + n * 4096 → (p.from' ≤ x ∧ x < p.from' + p.count * 4096) ∧ ¬ covS p.used x
theorem granted {p : Pl} (h : PlOk p) {n align : Int} (hal : W64 align) (ha : askB n align = true) {s : Two} (hs : p.free.find? (fitsV n align) = some s) :
  Granted p n align s (upV s.a align).1 ∧ (wantV n align s).a = (upV s.a align).1 ∧ (wantV n align s).b = n * 4096 := by
 obtain ⟨n1, n2, a0, a1⟩ := askB_iff.1 ha
 have hm := List.mem_of_find?_eq_some hs
 have hp := List.find?_some hs
 unfold fitsV at hp
 rw [Bool.and_eq_true] at hp
 obtain ⟨u1, u2, u3, u4, u5⟩ := upV_yes s.ha hal hp.1
 obtain ⟨g1, g2, g3, g4⟩ := withinB_iff.1 hp.2
 have g5 := goodB_iff.1 g1
 have hpg : (upV s.a align).1 % 4096 = 0 := by
  have h1 : (4096 : Int) ∣ align := Int.dvd_of_emod_eq_zero a1
  have h2 : align ∣ (upV s.a align).1 := Int.dvd_of_emod_eq_zero u2
  exact Int.emod_eq_zero_of_dvd (Int.dvd_trans h1 h2)
 have hw : W64 (n * 4096) := by unfold W64; omega
 refine ⟨⟨hm, n1, n2, u2, a0, hpg, u5, by omega, u3, fun x h1 h2 => ?_⟩, (tw_parts u5 hw).1, (tw_parts u5 hw).2⟩
 exact (h.free_inv.2 x).1 ⟨s, hm, hasB_iff.2 ⟨g2, by omega, by omega⟩⟩
theorem want_has {p : Pl} {n align : Int} {s : Two} {at' : Int} (h : Granted p n align s at') (x : Int) : hasB at' (n * 4096) x = true ↔ at' ≤ x ∧ x < at' + n * 4096 := by
 have := h.n1; have := h.hi; have := h.w; unfold W64 at this
 rw [hasB_iff, goodB_iff]; omega
theorem takeV_ok {p : Pl} (h : PlOk p) (n : Int) (x : Two) : PlOk (takeV p n x) := ⟨h.f0, h.f1, h.c0, h.top, h.c1, h.al⟩
theorem runV_ok {p : Pl} (h : PlOk p) (n align : Int) : PlOk (runV p n align).1 := by
 unfold runV
 split
 ·split
  ·exact takeV_ok h _ _
  ·exact h
 ·exact h
theorem runV_same (p : Pl) (n align : Int) : (runV p n align).1.from' = p.from' ∧ (runV p n align).1.count = p.count := by
 unfold runV
 split
 ·split <;> exact ⟨rfl, rfl⟩
 ·exact ⟨rfl, rfl⟩
theorem runV_cases {p : Pl} (h : PlOk p) (n align : Int) (hal : W64 align) :
  (∃ s, Granted p n align s (upV s.a align).1 ∧ runV p n align = (takeV p n (wantV n align s), (upV s.a align).1, 0) ∧ (wantV n align s).a = (upV s.a align).1 ∧ (wantV n align s).b = n * 4096) ∨
  (runV p n align = (p, 0, 110) ∧ askB n align = true ∧ p.free.find? (fitsV n align) = none) ∨ (runV p n align = (p, 0, 1) ∧ askB n align = false) := by
 cases ha : askB n align
 ·exact .inr (.inr ⟨by unfold runV; rw [ha]; rfl, rfl⟩)
 ·cases hf : p.free.find? (fitsV n align) with
  | none => exact .inr (.inl ⟨by unfold runV; rw [if_pos ha, hf], rfl, rfl⟩)
  | some s =>
   obtain ⟨h1, h2, h3⟩ := granted h hal ha hf
   exact .inl ⟨s, h1, by unfold runV; rw [if_pos ha, hf], h2, h3⟩
structure PlInv (p : Pl) : Prop where
 inn : ∀ x, covS p.used x → p.from' ≤ x ∧ x < p.from' + p.count * 4096
 page : ∀ x, 0 ≤ x → (covS p.used x ↔ covS p.used (x - x % 4096))
 num : p.out = ((List.range p.count.toNat).countP fun (k : Nat) => inV p.used (p.from' + 4096 * (k : Int)))
theorem count_or {α : Type} (p q : α → Bool) : ∀ l : List α, (∀ x ∈ l, p x = true → q x = true → False) → l.countP (fun x => p x || q x) = l.countP p + l.countP q
 | [], _ => rfl
 | x :: l, h => by
  have ih := count_or p q l fun y hy => h y (by simp [hy])
  have hx := h x (by simp)
  rw [List.countP_cons, List.countP_cons, List.countP_cons, ih]
  cases hp : p x <;> cases hq : q x <;> simp [hp, hq] at hx ⊢ <;> omega
theorem count_range (lo n : Nat) : ∀ N, (List.range N).countP (fun k => decide (lo ≤ k ∧ k < lo + n)) = min n (N - lo)
 | 0 => by simp
 | N + 1 => by
  rw [List.range_succ, List.countP_append, count_range lo n N]
  by_cases h : lo ≤ N ∧ N < lo + n
  ·simp [h]; omega
  ·simp [h]; omega
theorem inV_or {a b : List Two} {c d x : Int} (h : covS a x ↔ covS b x ∨ hasB c d x = true) : inV a x = (inV b x || hasB c d x) := by
 rw [Bool.eq_iff_iff, covS_inV, h, Bool.or_eq_true, covS_inV]
theorem newV_inv (s : Two) : PlInv (newV s) := by
 obtain ⟨_, _, h3, h4⟩ := newV_ok s
 have hn : ∀ x, ¬ covS (newV s).used x := by rw [h3]; rintro x ⟨z, hz, _⟩; cases hz
 refine ⟨fun x h => absurd h (hn x), fun x _ => ⟨fun h => absurd h (hn x), fun h => absurd h (hn _)⟩, ?_⟩
 rw [h4, h3]
 simp [inV]
theorem take_inv {p : Pl} (h : PlOk p) (hi : PlInv p) {n align : Int} {s : Two} {at' : Int} (hg : Granted p n align s at') (x : Two) (hx1 : x.a = at') (hx2 : x.b = n * 4096) (ho : p.out + n < 18446744073709551616) :
  PlInv (takeV p n x) ∧ (takeV p n x).out = p.out + n := by
 have hc := takeV_cov p n x
 rw [hx1, hx2] at hc
 have hw := want_has hg
 have hf0 := h.f0; have hc0 := h.c0; have hal := h.al
 have n1 := hg.n1; have n2 := hg.n2; have pg := hg.pg; have w := hg.w
 unfold W64 at w
 have hnum := hi.num
 have ho2 : (takeV p n x).out = p.out + n := by
  show (p.out + n) % 18446744073709551616 = _
  rw [hnum] at ho ⊢
  exact Int.emod_eq_of_lt (by omega) ho
 refine ⟨⟨fun y hy => ?_, fun y hy => ?_, ?_⟩, ho2⟩
 ·rcases (hc y).1 hy with h1 | h1
  ·exact hi.inn y h1
  ·obtain ⟨h2, h3⟩ := (hw y).1 h1
   exact (hg.inn y h2 h3).1
 ·rw [hc, hc, ← hi.page y hy, hw, hw]
  have : (at' ≤ y ∧ y < at' + n * 4096) ↔ (at' ≤ y - y % 4096 ∧ y - y % 4096 < at' + n * 4096) := by omega
  rw [this]
 ·rw [ho2, hnum]
  show _ = (((List.range p.count.toNat).countP fun (k : Nat) => inV (takeV p n x).used (p.from' + 4096 * (k : Int)) : Nat) : Int)
  have lo := hg.inn at' (by omega) (by omega)
  have hi2 := hg.inn (at' + n * 4096 - 1) (by omega) (by omega)
  have e : (fun k : Nat => inV (takeV p n x).used (p.from' + 4096 * (k : Int))) = fun k : Nat => (inV p.used (p.from' + 4096 * (k : Int)) || decide (((at' - p.from') / 4096).toNat ≤ k ∧ k < ((at' - p.from') / 4096).toNat + n.toNat)) := by
   funext k
   rw [inV_or (hc _)]
   congr 1
   rw [Bool.eq_iff_iff, hw, decide_eq_true_eq]
   omega
  rw [e, count_or, count_range]
  ·have : min n.toNat (p.count.toNat - ((at' - p.from') / 4096).toNat) = n.toNat := by omega
   rw [this]; omega
  ·intro k _ h1 h2
   rw [decide_eq_true_eq] at h2
   exact (hg.inn (p.from' + 4096 * (k : Int)) (by omega) (by omega)).2 (covS_inV.1 h1)
theorem alloc_left {p : Pl} (h : PlOk p) (hi : PlInv p) : (p.out = p.count ∧ runV p 1 4096 = (p, 0, 110)) ∨ (p.out < p.count ∧ ∃ s, Granted p 1 4096 s (upV s.a 4096).1 ∧ runV p 1 4096 = (takeV p 1 (wantV 1 4096 s), (upV s.a 4096).1, 0) ∧ (wantV 1 4096 s).a = (upV s.a 4096).1 ∧ (wantV 1 4096 s).b = 1 * 4096) := by
 have hf0 := h.f0; have hc0 := h.c0; have hal := h.al; have htop := h.top
 have hnum := hi.num
 have hle : (List.range p.count.toNat).countP (fun (k : Nat) => inV p.used (p.from' + 4096 * (k : Int))) ≤ p.count.toNat := by
  have := List.countP_le_length (p := fun (k : Nat) => inV p.used (p.from' + 4096 * (k : Int))) (l := List.range p.count.toNat)
  simpa using this
 have hask : askB 1 4096 = true := by decide
 obtain ⟨⟨fg, fc⟩, fcov⟩ := h.free_inv
 by_cases hall : p.out = p.count
 ·refine .inl ⟨hall, ?_⟩
  have hAll : ∀ k ∈ List.range p.count.toNat, inV p.used (p.from' + 4096 * (k : Int)) = true := by
   have : (List.range p.count.toNat).countP (fun (k : Nat) => inV p.used (p.from' + 4096 * (k : Int))) = (List.range p.count.toNat).length := by simp; omega
   exact List.countP_eq_length.1 this
  have hempty : p.free = [] := by
   rcases hfr : p.free with _ | ⟨y, l⟩
   ·rfl
   ·exfalso
    have hy : goodB y.a y.b = true := fg y (by rw [hfr]; simp)
    have hyg := goodB_iff.1 hy
    have := (fcov y.a).1 ⟨y, by rw [hfr]; simp, hasB_iff.2 ⟨hy, by omega, by omega⟩⟩
    obtain ⟨⟨q1, q2⟩, q3⟩ := this
    have hk := hAll ((y.a - p.from') / 4096).toNat (List.mem_range.2 (by omega))
    have e : p.from' + 4096 * ((((y.a - p.from') / 4096).toNat : Nat) : Int) = y.a - y.a % 4096 := by omega
    rw [e, covS_inV, ← hi.page y.a (by omega)] at hk
    exact q3 hk
  unfold runV; rw [if_pos hask, hempty]; rfl
 ·have hlt : p.out < p.count := by omega
  refine .inr ⟨hlt, ?_⟩
  have hex : ∃ k ∈ List.range p.count.toNat, ¬ inV p.used (p.from' + 4096 * (k : Int)) = true := by
   refine Classical.byContradiction fun hno => ?_
   have hAll : ∀ k ∈ List.range p.count.toNat, inV p.used (p.from' + 4096 * (k : Int)) = true := fun k hk => Classical.byContradiction fun h => hno ⟨k, hk, h⟩
   have := List.countP_eq_length.2 hAll
   simp at this; omega
  obtain ⟨k, hk, hkn⟩ := hex
  have hkr := List.mem_range.1 hk
  have hfree : ∃ s ∈ p.free, True := by
   obtain ⟨s, hs, _⟩ := (fcov (p.from' + 4096 * (k : Int))).2 ⟨by omega, fun hc => hkn (covS_inV.2 hc)⟩
   exact ⟨s, hs, trivial⟩
  -- every free stretch is whole pages
  have hpages : ∀ s ∈ p.free, s.a % 4096 = 0 ∧ 4096 ≤ s.b := by
   intro s hs
   have hg := fg s hs
   have hgi := goodB_iff.1 hg
   have hin : ∀ x, s.a ≤ x → x < s.a + s.b → (p.from' ≤ x ∧ x < p.from' + p.count * 4096) ∧ ¬ covS p.used x := fun x h1 h2 => (fcov x).1 ⟨s, hs, hasB_iff.2 ⟨hg, h1, by omega⟩⟩
   -- an address that touches the stretch and is free lies in it
   have touch : ∀ x, covS p.free x → (x = s.a - 1 ∨ x = s.a + s.b) → False := by
    rintro x ⟨z, hz, hzx⟩ hx
    obtain ⟨z1, z2, z3⟩ := hasB_iff.1 hzx
    have hzg := goodB_iff.1 z1
    obtain ⟨i, hi', ei⟩ := List.getElem_of_mem hs
    obtain ⟨j, hj, ej⟩ := List.getElem_of_mem hz
    have hpw := List.pairwise_iff_getElem.1 fc.1
    rcases Nat.lt_trichotomy i j with hij | hij | hij
    ·have := hpw i j (by simpa using hi') (by simpa using hj) hij
     simp only [List.getElem_map, ei, ej] at this
     have t : lastV s.a s.b + 1 < z.a := this
     rw [lastV_yes hg] at t; omega
    ·subst hij
     have : s = z := ei.symm.trans ej
     subst this; omega
    ·have := hpw j i (by simpa using hj) (by simpa using hi') hij
     simp only [List.getElem_map, ei, ej] at this
     have t : lastV z.a z.b + 1 < s.a := this
     rw [lastV_yes z1] at t; omega
   obtain ⟨⟨q1, q2⟩, q3⟩ := hin s.a (by omega) (by omega)
   have ha : s.a % 4096 = 0 := by
    refine Classical.byContradiction fun hne => ?_
    have hp1 : covS p.free (s.a - 1) := by
     refine (fcov _).2 ⟨by omega, fun hc => ?_⟩
     have := (hi.page (s.a - 1) (by omega)).1 hc
     rw [show s.a - 1 - (s.a - 1) % 4096 = s.a - s.a % 4096 by omega] at this
     exact q3 ((hi.page s.a (by omega)).2 this)
    exact touch _ hp1 (.inl rfl)
   refine ⟨ha, Classical.byContradiction fun hlt2 => ?_⟩
   have hp1 : covS p.free (s.a + s.b) := by
    refine (fcov _).2 ⟨by omega, fun hc => ?_⟩
    have := (hi.page (s.a + s.b) (by omega)).1 hc
    rw [show s.a + s.b - (s.a + s.b) % 4096 = s.a - s.a % 4096 by omega] at this
    exact q3 ((hi.page s.a (by omega)).2 this)
   exact touch _ hp1 (.inr rfl)
  have hfind : ∃ s, p.free.find? (fitsV 1 4096) = some s := by
   obtain ⟨s, hs, _⟩ := hfree
   cases hf : p.free.find? (fitsV 1 4096) with
   | some t => exact ⟨t, rfl⟩
   | none =>
    exfalso
    have := List.find?_eq_none.1 hf s hs
    apply this
    obtain ⟨a1, a2⟩ := hpages s hs
    have hg := fg s hs
    have hgi := goodB_iff.1 hg
    unfold fitsV
    rw [upV_fix (by omega) a1]
    rw [Bool.and_eq_true]
    refine ⟨rfl, withinB_iff.2 ⟨goodB_iff.2 ⟨by omega, by show s.a + (1 * 4096 - 1) < _; omega⟩, hg, by show s.a ≤ s.a; omega, by show s.a + (1 * 4096 - 1) ≤ _; omega⟩⟩
  obtain ⟨s, hs⟩ := hfind
  obtain ⟨g1, g2, g3⟩ := granted h (by unfold W64; omega) hask hs
  exact ⟨s, g1, by unfold runV; rw [if_pos hask, hs], g2, g3⟩
end Go.Proofs.YtiblhlaemmdphaaGreat
/- Plain: a run that is granted is the least that fits; what the reference keeps beside a pool. -/
namespace Go.Proofs.YtiblhlaemmdphaaGreat
open Go Go.RowKit
def FitAt (p : Pl) (n m : Int) : Prop := ∀ x, m ≤ x → x < m + n * 4096 → (p.from' ≤ x ∧ x < p.from' + p.count * 4096) ∧ ¬ covS p.used x
theorem upV_least {n a m : Int} (h0 : 0 < a) (hm : m % a = 0) (hn : n ≤ m) (hw : m < 18446744073709551616) : (upV n a).2 = true ∧ (upV n a).1 ≤ m := by
 unfold upV
 rw [if_neg (by omega)]
 by_cases h1 : n % a = 0
 ·rw [if_pos h1]; exact ⟨rfl, hn⟩
 ·rw [if_neg h1]
  have hle : n - n % a + a ≤ m := by
   have e1 := Int.emod_add_mul_ediv n a
   have e2 := Int.emod_add_mul_ediv m a
   have m1 := Int.emod_lt_of_pos n h0
   have m0 := Int.emod_nonneg n (by omega : a ≠ 0)
   rw [hm] at e2
   have hq : n / a < m / a := by
    refine Classical.byContradiction fun hh => ?_
    have := Int.mul_le_mul_of_nonneg_left (Int.not_lt.1 hh) (Int.le_of_lt h0)
    omega
   have := Int.mul_le_mul_of_nonneg_left (show n / a + 1 ≤ m / a by omega) (Int.le_of_lt h0)
   rw [Int.mul_add, Int.mul_one] at this
   omega
  rw [if_pos (by omega)]; exact ⟨rfl, hle⟩
theorem PlOk.free_touch {p : Pl} (h : PlOk p) {s : Two} (hs : s ∈ p.free) : ¬ covS p.free (s.a + s.b) := by
 obtain ⟨⟨fg, fc⟩, fcov⟩ := h.free_inv
 have hg := fg s hs
 have hgi := goodB_iff.1 hg
 rintro ⟨z, hz, hzx⟩
 obtain ⟨z1, z2, z3⟩ := hasB_iff.1 hzx
 have hzg := goodB_iff.1 z1
 obtain ⟨i, hi', ei⟩ := List.getElem_of_mem hs
 obtain ⟨j, hj, ej⟩ := List.getElem_of_mem hz
 have hpw := List.pairwise_iff_getElem.1 fc.1
 rcases Nat.lt_trichotomy i j with hij | hij | hij
 ·have := hpw i j (by simpa using hi') (by simpa using hj) hij
  simp only [List.getElem_map, ei, ej] at this
  have t : lastV s.a s.b + 1 < z.a := this
  rw [lastV_yes hg] at t; omega
 ·subst hij
  have : s = z := ei.symm.trans ej
  subst this; omega
 ·have := hpw j i (by simpa using hj) (by simpa using hi') hij
  simp only [List.getElem_map, ei, ej] at this
  have t : lastV z.a z.b + 1 < s.a := this
  rw [lastV_yes z1] at t; omega
theorem fit_stretch {p : Pl} (h : PlOk p) {n m align : Int} (n1 : 1 ≤ n) (hal : W64 align) (ha0 : align ≠ 0) (hm : m % align = 0) (hf : FitAt p n m) :
  ∃ s ∈ p.free, s.a ≤ m ∧ m + n * 4096 ≤ s.a + s.b ∧ fitsV n align s = true ∧ (upV s.a align).1 ≤ m := by
 have hf0 := h.f0; have htop := h.top
 obtain ⟨⟨fg, fc⟩, fcov⟩ := h.free_inv
 have hm0 := hf m (by omega) (by omega)
 obtain ⟨s, hs, hsm⟩ := (fcov m).2 hm0
 obtain ⟨q1, q2, q3⟩ := hasB_iff.1 hsm
 have hg := goodB_iff.1 q1
 have hend : m + n * 4096 ≤ s.a + s.b := by
  refine Classical.byContradiction fun hh => ?_
  exact h.free_touch hs ((fcov _).2 (hf (s.a + s.b) (by omega) (by omega)))
 have hal0 : 0 < align := by unfold W64 at hal; omega
 obtain ⟨u1, u2⟩ := upV_least hal0 hm q2 (by omega)
 obtain ⟨y1, y2, y3, y4, y5⟩ := upV_yes s.ha hal u1
 unfold W64 at y5
 refine ⟨s, hs, q2, hend, ?_, u2⟩
 unfold fitsV
 rw [u1, Bool.true_and]
 exact withinB_iff.2 ⟨goodB_iff.2 ⟨by omega, by omega⟩, q1, y3, by omega⟩
theorem granted_least {p : Pl} (h : PlOk p) {n align m : Int} (hal : W64 align) (ha : askB n align = true) {s : Two} (hs : p.free.find? (fitsV n align) = some s) (hm : m % align = 0) (hf : FitAt p n m) : (upV s.a align).1 ≤ m := by
 obtain ⟨n1, n2, a0, a1⟩ := askB_iff.1 ha
 obtain ⟨t, ht, t1, t2, t3, t4⟩ := fit_stretch h n1 hal a0 hm hf
 obtain ⟨hps, l1, l2, e, hno⟩ := List.find?_eq_some_iff_append.1 hs
 obtain ⟨⟨fg, fc⟩, fcov⟩ := h.free_inv
 rw [e] at ht
 rcases List.mem_append.1 ht with ht | ht
 ·have := hno t ht; rw [t3] at this; simp at this
 ·rcases List.mem_cons.1 ht with rfl | ht
  ·exact t4
  ·have hpw := fc.1
   rw [e, List.map_append, List.map_cons] at hpw
   have := (List.pairwise_cons.1 (List.pairwise_append.1 hpw).2.1).1 _ (List.mem_map_of_mem ht)
   have tt : lastV s.a s.b + 1 < t.a := this
   have hsg : goodB s.a s.b = true := fg s (by rw [e]; simp)
   rw [lastV_yes hsg] at tt
   unfold fitsV at hps
   rw [Bool.and_eq_true] at hps
   obtain ⟨g1, g2, g3, g4⟩ := withinB_iff.1 hps.2
   omega
theorem run_least {p : Pl} (h : PlOk p) {n align m : Int} (hal : W64 align) (ha : askB n align = true) (hm : m % align = 0) (hf : FitAt p n m) (hmin : ∀ q, q % align = 0 → q < m → ¬ FitAt p n q) :
  ∃ t x, Granted p n align t m ∧ x.a = m ∧ x.b = n * 4096 ∧ runV p n align = (takeV p n x, m, 0) := by
 obtain ⟨n1, n2, a0, a1⟩ := askB_iff.1 ha
 rcases runV_cases h n align hal with ⟨s, hg, he, hx1, hx2⟩ | ⟨he, _, hnone⟩ | ⟨he, hb⟩
 ·have hfs : p.free.find? (fitsV n align) = some s ∨ True := .inr trivial
  have hge : m ≤ (upV s.a align).1 := by
   refine Classical.byContradiction fun hh => hmin _ hg.al (by omega) ?_
   exact fun x h1 h2 => hg.inn x h1 h2
  have hle : (upV s.a align).1 ≤ m := by
   cases hfd : p.free.find? (fitsV n align) with
   | none =>
    obtain ⟨t, ht, _, _, t3, _⟩ := fit_stretch h n1 hal a0 hm hf
    exact absurd t3 (List.find?_eq_none.1 hfd t ht)
   | some s' =>
    have e2 : runV p n align = (takeV p n (wantV n align s'), (upV s'.a align).1, 0) := by unfold runV; rw [if_pos ha, hfd]
    have e3 : (upV s.a align).1 = (upV s'.a align).1 := by
     have := he.symm.trans e2
     exact congrArg (fun q => q.2.1) this
    rw [e3]; exact granted_least h hal ha hfd hm hf
  have e : (upV s.a align).1 = m := by omega
  rw [e] at hg he hx1
  exact ⟨s, _, hg, hx1, hx2, he⟩
 ·obtain ⟨t, ht, _, _, t3, _⟩ := fit_stretch h n1 hal a0 hm hf
  exact absurd t3 (List.find?_eq_none.1 hnone t ht)
 ·rw [ha] at hb; cases hb
theorem run_none {p : Pl} (h : PlOk p) {n align : Int} (hal : W64 align) (ha : askB n align = true) (hno : ∀ q, q % align = 0 → ¬ FitAt p n q) : runV p n align = (p, 0, 110) := by
 rcases runV_cases h n align hal with ⟨s, hg, _⟩ | ⟨he, _⟩ | ⟨_, hb⟩
 ·exact absurd (fun x h1 h2 => hg.inn x h1 h2) (hno _ hg.al)
 ·exact he
 ·rw [ha] at hb; cases hb
structure RefInv (p : Pl) (U : List Int) : Prop where
 cov : ∀ x, covS p.used x ↔ ∃ u ∈ U, u ≤ x ∧ x < u + 4096
 pg : ∀ u ∈ U, u % 4096 = 0
 out : p.out = U.length
def frames (m : Int) (k : Nat) : List Int := (List.range k).map fun (i : Nat) => m + 4096 * (i : Int)
theorem frames_len (m : Int) (k : Nat) : (frames m k).length = k := by simp [frames]
theorem frames_mem {m u : Int} {k : Nat} : u ∈ frames m k ↔ ∃ i : Nat, i < k ∧ m + 4096 * (i : Int) = u := by simp [frames]
theorem frames_succ (m : Int) (k : Nat) : frames m (k + 1) = frames m k ++ [m + 4096 * (k : Int)] := by simp [frames, List.range_succ]
theorem RefInv.new (s : Two) : RefInv (newV s) [] := by
 obtain ⟨_, _, h3, h4⟩ := newV_ok s
 refine ⟨fun x => ?_, by simp, by rw [h4]; rfl⟩
 rw [h3]
 exact ⟨(by rintro ⟨z, hz, _⟩; cases hz), (by rintro ⟨z, hz, _⟩; cases hz)⟩
theorem RefInv.step {p : Pl} {U : List Int} {n align : Int} {t : Two} {m : Int} (h : RefInv p U) (hg : Granted p n align t m) (x : Two) (hx1 : x.a = m) (hx2 : x.b = n * 4096) (ho : p.out + n < 18446744073709551616) :
  RefInv (takeV p n x) (U ++ frames m n.toNat) := by
 have hw := want_has hg
 have n1 := hg.n1
 have pg := hg.pg
 refine ⟨fun y => ?_, fun u hu => ?_, ?_⟩
 ·rw [takeV_cov, hx1, hx2, hw, h.cov]
  constructor
  ·rintro (⟨u, hu, h1⟩ | h1)
   ·exact ⟨u, List.mem_append_left _ hu, h1⟩
   ·refine ⟨m + 4096 * (((y - m) / 4096).toNat : Int), List.mem_append_right _ (frames_mem.2 ⟨_, by omega, rfl⟩), by omega, by omega⟩
  ·rintro ⟨u, hu, h1⟩
   rcases List.mem_append.1 hu with hu | hu
   ·exact .inl ⟨u, hu, h1⟩
   ·obtain ⟨i, hi, rfl⟩ := frames_mem.1 hu
    exact .inr (by omega)
 ·rcases List.mem_append.1 hu with hu | hu
  ·exact h.pg u hu
  ·obtain ⟨i, hi, rfl⟩ := frames_mem.1 hu
   omega
 ·show (p.out + n) % 18446744073709551616 = _
  have := h.out
  rw [List.length_append, frames_len, Int.emod_eq_of_lt (by omega) ho]
  omega
theorem RefInv.fit {p : Pl} {U : List Int} (h : RefInv p U) {n m : Int} (hm : m % 4096 = 0) (n1 : 1 ≤ n) :
  FitAt p n m ↔ p.from' ≤ m ∧ m + n * 4096 ≤ p.from' + p.count * 4096 ∧ ∀ k : Nat, (k : Int) < n → m + 4096 * (k : Int) ∉ U := by
 constructor
 ·intro hf
  have a1 := (hf m (by omega) (by omega)).1
  have a2 := (hf (m + n * 4096 - 1) (by omega) (by omega)).1
  refine ⟨by omega, by omega, fun k hk hu => ?_⟩
  exact (hf (m + 4096 * (k : Int)) (by omega) (by omega)).2 ((h.cov _).2 ⟨_, hu, by omega, by omega⟩)
 ·rintro ⟨h1, h2, h3⟩ x x1 x2
  refine ⟨by omega, fun hc => ?_⟩
  obtain ⟨u, hu, u1, u2⟩ := (h.cov x).1 hc
  have := h.pg u hu
  refine h3 ((x - m) / 4096).toNat (by omega) ?_
  have e : m + 4096 * (((x - m) / 4096).toNat : Int) = u := by omega
  rw [e]; exact hu
end Go.Proofs.YtiblhlaemmdphaaGreat
