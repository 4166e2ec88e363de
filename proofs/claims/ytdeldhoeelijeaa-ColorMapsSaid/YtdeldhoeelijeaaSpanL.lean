/- The walk of span.merged, its first loop: all good ones, collected. -/
import Derived.RangeFuncBox
import Derived.Maps.AppendAt
import Derived.Test.YtdeldhoeelijeaaSpanK
import Derived.Test.YtdeldhoeelijeaaSpanN
import Derived.ControlIn
import Derived.Deep.DeepCutAuto
import Derived.Test.YtdeldhoeelijeaaApp
import Derived.Test.YtdeldhoeelijeaaSpanO
import Derived.BigQuiet
namespace Go.Proofs.Ytdeldhoeelijeaa
open Go Go.RowKit Go.Shelf Go.BigFrame

attribute [local go_sem] Oper.semAt_some

theorem infoEnds : InfoTwo Try.prog 82 := by unfold InfoTwo; kernel_rfl

theorem cell_two_new (W : World) (p q : Value) (t : TypeId) : ∀ (j : Nat) (u : Value), [p, q][j]? = some u → (W.alloc (.cells #[p, q] t)).cell? ((⟨W.heap.size, 0, none⟩ : Addr).add j) = some u := by
  intro j u hu
  rcases j with _ | _ | j
  · simp at hu; rw [← hu]; simp [Addr.add, World.cell?_alloc_new]
  · simp at hu; rw [← hu]; simp [Addr.add, World.cell?_alloc_new]
  · simp at hu

theorem lastMax (t x : Two) : (tw t.a (max t.b x.b)).a = t.a ∧ (tw t.a (max t.b x.b)).b = (if t.b < x.b then x.b else t.b) ∧ (tw t.a (max t.b x.b)).b = max t.b x.b := by
  have e : max t.b x.b = if t.b < x.b then x.b else t.b := by split <;> omega
  have h : (tw t.a (max t.b x.b)).b = max t.b x.b := by
    refine W64.eq ?_
    rw [e]; split
    · exact x.hb
    · exact t.hb
  exact ⟨W64.eq t.ha, h.trans e, h⟩
def mergedV (l : List Two) : List Two := (sortV (goodEnds l)).foldl mergeStep []
set_option maxRecDepth 100000 in
set_option maxHeartbeats 4000000 in
theorem merged_any (v : Value) (l : List Two) (w : World) (hv : RowTwo w v l) (hl : l.length ≤ 1099511627776) :
    Calls Try.prog 41 #[v] w (RetOwn 82 w (mergedV l)) := by
  have hv0 := hv
  obtain ⟨i0, hi, hz0, hz1, hz2⟩ := info_parts infoEnds
  obtain ⟨a, cap, rfl, hcap, hrow⟩ := hv
  refine (callsIn_wide (n := 9)).1 ?_
  refine callsIn_of_wp_marks Try.func41 rfl trivial ?_ rfl
  simp only [Try.ntmps41, List.size_toArray, List.length_cons, List.length_nil, Nat.reduceAdd, Nat.reduceSub, Array.replicate_succ, Array.replicate_zero, List.push_toArray, List.append_toArray, List.nil_append, List.cons_append]
  gi_wp2_with (refine ⟨trivial, ?_⟩; gi_at_call 47; refine (good_in _ _ _ _ _).mono ?_; rintro e w' ⟨rfl, rfl⟩)
  have bO := Boxed.new w 71 (.slice none 0 0)
  have bN := Boxed.new (w.alloc (.cells #[.slice none 0 0] 71)) 26 (.slice a l.length cap)
  rw [World.size_alloc] at bN
  have hB0 : Below w.heap.size w ((w.alloc (.cells #[.slice none 0 0] 71)).alloc (.cells #[.slice a l.length cap] 26)) := ((Below.refl _ w).alloc (Nat.le_refl _) _).alloc (by simp) _
  have bO2 := bO.alloc (.cells #[.slice a l.length cap] 26)
  have hsz : ((w.alloc (.cells #[.slice none 0 0] 71)).alloc (.cells #[.slice a l.length cap] 26)).heap.size = w.heap.size + 2 := by simp
  obtain ⟨W0, hW0⟩ : ∃ W0, (w.alloc (.cells #[.slice none 0 0] 71)).alloc (.cells #[.slice a l.length cap] 26) = W0 := ⟨_, rfl⟩
  rw [hW0] at bO2 bN hB0 hsz ⊢
  clear hW0 bO
  refine wpIn_rangeFunc_ownH rfl (by decide) (gf := 53) (lb := #[.pointer (some ⟨w.heap.size + 1, 0, none⟩)]) rfl trivial (enters_of Try.func53 (by kernel_rfl) rfl)
    (good_stops _ (w.heap.size + 1) w W0 (by decide) _ l hl hv0 (by omega) bN.cell hB0) belowK_t (belowK_b (by omega)) (Below.refl _ _) (fun _ => rfl)
    (fun pre W => (∃ v, Boxed W w.heap.size 71 v ∧ W.ownsRow w.heap.size 82 2 v pre.length (encs pre) ∧ True) ∧ Below w.heap.size w W)
    (fun _ _ _ => False)
    (OwnFrom.and (Own.from (holdsRow_own w.heap.size w.heap.size 71 82 2 (fun pre => pre.length) (fun pre => encs pre) (fun pre v => True)) _) (ownFrom_below (Nat.le_refl _) (by omega)))
    (fun _ _ _ _ _ hs _ _ => hs)
    ⟨⟨_, bO2, World.ownsRow_nil _ _ _ _, trivial⟩, hB0⟩
    (fun x a' W => ∃ Bx, w.heap.size < Bx ∧ W.cell? ⟨Bx, 0, none⟩ = some (.int .u64 x.a) ∧ W.cell? ⟨Bx, 1, none⟩ = some (.int .u64 x.b) ∧ a' = { tmps := #[.slice a l.length cap, undef, .slice none 0 0, .pointer (some ⟨w.heap.size, 0, none⟩), .slice none 0 0, .pointer (some ⟨Bx, 0, none⟩), undef, undef, undef, .slice a l.length cap, .func (.func 53) #[] #[.pointer (some ⟨w.heap.size + 1, 0, none⟩)], .agg #[.int .u64 x.a, .int .u64 x.b], undef, undef, undef, undef, undef, undef, undef, undef, undef, undef, undef, undef, undef, undef, undef, undef, undef, undef, undef, undef, undef, undef, undef, undef, undef, undef, undef, undef, undef, undef, undef, undef, undef, undef, undef, undef, undef, undef, undef, undef, undef, undef, undef, undef, undef, undef, undef, undef, undef, undef, undef, undef, undef, undef, undef, undef, undef], defers := [] })
    (fun x a' _ X Y row hs hg hr => by obtain ⟨Bx, h1, h2, h3, h4⟩ := hs; exact ⟨Bx, h1, cell_kept h2 hg (fun r e => (hr r e).2), cell_kept h3 hg (fun r e => (hr r e).2), h4⟩)
    ?assign ?body ?done ?stop
  case assign =>
    rintro l1 pre x W K ⟨⟨v, hv, hown, _⟩, hB⟩ hK
    gi_wp2
    exact hK _ _ ((KeepsOthers.alloc _ _).from _) ((Below.refl _ W).alloc hB.size _) ⟨⟨v, hv.alloc _, hown.alloc _, trivial⟩, hB.alloc hB.size _⟩ ⟨W.heap.size, hv.lt, by simp [World.cell?_alloc_new], by simp [World.cell?_alloc_new], rfl⟩
  case body =>
    rintro l1 pre x a' W hl1 ⟨r, hr⟩ ⟨⟨v, hv, hown, _⟩, hB⟩ ⟨Bx, hBx, c0, c1, rfl⟩ hlt
    have hc := hv.cell
    have hlen : (goodEnds l).length ≤ l.length := by unfold goodEnds; rw [List.length_map]; exact List.length_filter_le _ _
    gi_wp2_with (gi_at_builtin; refine wpListIn_append_own _ rfl _ _ 71 rfl w.heap.size 82 i0 _ 2 16 Try.underlying71 hi hz0 hz1 hz2 rfl (by decide) _ _ _ rfl (hown.alloc _) ⟨W.heap.size, 0, none⟩ 1 1 [.int .u64 x.a, .int .u64 x.b] rfl rfl (cell_two_new _ _ _ _) (by intro u hu; simp at hu; rcases hu with rfl | rfl <;> rfl) (by unfold maxLen; omega) (by omega) (by have := hB.size; simp; omega) ?_; intro v' w1 hown' hgrow _; obtain ⟨g', cap', rfl⟩ := ownsRow_succ hown'; obtain ⟨hv1, hv2, hr2, hk2, hb2⟩ := hv.appended (by decide) hown hB.size (Nat.le_refl _) hown' hgrow; have hc1 := hv1.cell; have hf1 := hv1.frozen)
    exact ⟨hk2.from _, hb2, ⟨_, hv2, by rw [encs_snoc, List.length_append]; exact hr2, trivial⟩, hB.trans hb2⟩
  case done =>
    rintro D ys W hD rfl ⟨⟨v, hv, hown, _⟩, hB⟩ hK
    have hc := hv.cell
    have hsz2 := hB.size
    have hlen : (goodEnds l).length ≤ l.length := by unfold goodEnds; rw [List.length_map]; exact List.length_filter_le _ _
    obtain ⟨a2, cap2, rfl, hcap2, hrow2⟩ := OwnTwo.row hown
    gi_wp2_with (refine ⟨trivial, ?_⟩; gi_at_call 48; refine (callsIn_wide.2 (sortEnds_any w.heap.size _ _ _ hown (by omega))).mono ?_; rintro e w1 ⟨rfl, hown1, hg1⟩; have hv1 := hv.kept hg1 (hv.not_row (by decide) hown); have hc1 := hv1.cell)
    refine wpIn_wide.2 ?_
    have hsl := sortV_len (goodEnds l)
    have hM : Hid (mergedV l = (sortV (goodEnds l)).foldl mergeStep []) := rfl
    have hB1 : Below w.heap.size w w1 := hB.grown hg1 hsz2 (fun k e => (World.ownsRow.lt hown k e).1)
    have hD1 : w1.heap[D]? = some (.deferred (some [])) := by
      rw [hg1.block D (Array.getElem?_eq_some_iff.1 hK).1 (fun e => by
        rcases hown.2 with ⟨e1, _⟩ | ⟨g, cp, cur, e1, _, hgb, _⟩
        · rw [e1] at e; simp [Value.ownBlock] at e
        · rw [e1] at e; simp [Value.ownBlock] at e; subst e; rw [hK] at hgb; cases hgb)]; exact hK
    clear hrow2 hown hv hc hv1 hg1 hc1
    generalize sortV (goodEnds l) = S at *
    generalize (goodEnds l).length = nS at *
    subst hsl
    obtain ⟨a3, cap3, e3, hcap3, hrow3⟩ := OwnTwo.row hown1
    cases e3
    clear hrow
    go_loopw [4, 20] (fun o i wr => ∃ k : Nat, k ≤ S.length ∧ i = .int .i64 k ∧ OwnTwo 82 wr w1.heap.size o ((S.take k).foldl mergeStep []) ∧ Below w1.heap.size w1 wr) (fun _ i _ => S.length - (intOf i).toNat)
    case atStart => exact ⟨0, Nat.zero_le _, rfl, OwnTwo.nil _ _ _, Below.refl _ _⟩
    case round =>
      obtain ⟨k, hk, rfl, hout, hBr⟩ := hrel
      by_cases hlt : k < S.length
      · obtain ⟨b3, off3, rfl, hbl3, hcell3⟩ := hrow3 (by rintro rfl; simp at hlt)
        have h1 := (hcell3 k hlt).1
        have h2 := (hcell3 k hlt).2
        rw [← hBr.cell (p := ⟨b3, _, none⟩) hbl3] at h1 h2
        have hsn : (S.take (k + 1)).foldl mergeStep [] = mergeStep ((S.take k).foldl mergeStep []) S[k] := by rw [List.take_succ_eq_append_getElem hlt, List.foldl_append]; rfl
        have hlenk := mergeFold_len (S.take k) []
        rw [List.length_take, Nat.min_eq_left hk, List.length_nil] at hlenk
        clear hcell3 hrow3
        generalize S[k] = x at *
        generalize (S.take k).foldl mergeStep [] = out at *
        have hB1r : w1.heap.size ≤ wr.heap.size := hBr.size
        rcases List.eq_nil_or_concat out with rfl | ⟨ys, t, rfl⟩
        · rw [mergeStep_nil] at hsn
          replace hsn := Lib.hid hsn
          obtain ⟨ao, co, rfl, _, _⟩ := OwnTwo.row hout
          simp only [List.length_nil] at hout ⊢
          go_wp2_with fail
          obtain ⟨w2, hw2⟩ : ∃ w2, w2 = wr.alloc (.cells #[.int .u64 x.a, .int .u64 x.b] 82) := ⟨_, rfl⟩
          have d0 : w2.cell? ⟨wr.heap.size, 0, none⟩ = some (.int .u64 x.a) := by rw [hw2]; simp [World.cell?_alloc_new]
          have d1 : w2.cell? ⟨wr.heap.size, 1, none⟩ = some (.int .u64 x.b) := by rw [hw2]; simp [World.cell?_alloc_new]
          have hS2 : w2.heap.size = wr.heap.size + 1 := by rw [hw2]; simp
          have hA : Below wr.heap.size wr w2 := by rw [hw2]; exact bone _ _
          rw [← hw2]
          clear hw2 h1 h2
          refine region_later w2.heap.size w2 (Below.refl _ _) (by kernel_rfl) (by kernel_rfl) ?_
          have y0 := later_cell (B := w2.heap.size) d0 (by omega)
          have y1 := later_cell (B := w2.heap.size) d1 (by omega)
          repeat (go_big_quiet_step (fail))
          refine wpQuiet_nil ?_
          first | (rintro _ ⟨X, rfl⟩) | (intro X)
          have hX := X.h
          have m0 := y0 X
          have m1 := y1 X
          clear y0 y1 d0 d1
          generalize X.x = w3 at *
          have hA3 : Below wr.heap.size wr w3 := hA.trans (hX.mono (by omega))
          have hz3 : wr.heap.size < w3.heap.size := by have := hX.size; omega
          have hownA := hout.below hA3 (Nat.le_refl _)
          go_wp2_with (at_builtin; refine wpl_append_many rfl _ _ 71 rfl w1.heap.size 82 infoEnds Try.underlying71 _ [] [x] rfl rfl ?_ ?_ ?_ ?_ ?_ ?_ ?_; (focus (exact hownA)); (focus rfl); (focus (first | rfl | (simp; done))); (focus rfl); (focus (simp only [List.length_cons, List.length_nil]; omega)); (focus (first | omega | (simp; omega))); intro v' w5 hown' hbel hgrow)
          go_roundw
          case rel => exact ⟨k + 1, by omega, by go_num, by rw [hsn.out]; exact hown', hBr.trans ((hA3.mono hB1r).trans (hbel _ (Nat.le_refl _)))⟩
          case measure => simp [intOf]; omega
        · rw [List.concat_eq_append] at *
          obtain ⟨g, co, rfl, hco, hgl, hgb, e0, e1, e2⟩ := OwnTwo.last hout
          have hS1 : ys.length + 1 ≤ 1099511627776 := by simp at hlenk; omega
          have hta := t.ha
          have htb := t.hb
          have hxb := x.hb
          have hnj := mergeStep_join ys t x
          have hnn := mergeStep_new ys t x
          unfold W64 at hta htb hxb
          have hgr : w1.heap.size ≤ wr.heap.size := hB1r
          have hmm := lastMax t x
          have key : ∀ w2 w3 : World, Below wr.heap.size wr w2 → Below w2.heap.size w2 w3 → Below wr.heap.size wr w3 := fun w2 w3 h1 h2 => h1.trans (h2.mono h1.size)
          by_cases k1 : t.b = 18446744073709551615
          · have q1 : (t.b == 18446744073709551615) = true := by simpa using k1
            replace k1 := Lib.hid k1
            go_wp2_with fail
            obtain ⟨w2, hw2⟩ : ∃ w2, w2 = wr.alloc (.cells #[.int .u64 x.a, .int .u64 x.b] 82) := ⟨_, rfl⟩
            have d0 : w2.cell? ⟨wr.heap.size, 0, none⟩ = some (.int .u64 x.a) := by rw [hw2]; simp [World.cell?_alloc_new]
            have d1 : w2.cell? ⟨wr.heap.size, 1, none⟩ = some (.int .u64 x.b) := by rw [hw2]; simp [World.cell?_alloc_new]
            have hS2 : w2.heap.size = wr.heap.size + 1 := by rw [hw2]; simp
            have hA : Below wr.heap.size wr w2 := by rw [hw2]; exact bone _ _
            have d2 : w2.cell? ⟨g, ys.length * 2 + 1, none⟩ = some (.int .u64 t.b) := cell_lt hA e1 hgl
            rw [← hw2]
            clear hw2 h1 h2
            refine region_later w2.heap.size w2 (Below.refl _ _) (by kernel_rfl) (by kernel_rfl) ?_
            have y0 := later_cell (B := w2.heap.size) d0 (by omega)
            have y1 := later_cell (B := w2.heap.size) d1 (by omega)
            have y2 := later_cell (B := w2.heap.size) d2 (by omega)
            have i1 : IntKind.i64.wrap ((ys.length : Int) + 1 - 1) = (ys.length : Int) := by rw [show (ys.length : Int) + 1 - 1 = (ys.length : Int) by omega]; exact IntWalk.i64_in _ (by omega)
            have i2 : (0 : Int) < (ys.length : Int) + 1 := by omega
            have i3 : (0 : Int) ≤ (ys.length : Int) := by omega
            have i4 : (ys.length : Int) < (ys.length : Int) + 1 := by omega
            have i5 : ((ys.length : Int)).toNat = ys.length := by omega
            repeat (go_big_quiet_step (fail))
            refine wpQuiet_nil ?_
            first | (rintro _ ⟨X, rfl⟩) | (intro X)
            have hX := X.h
            have m0 := y0 X
            have m1 := y1 X
            have m2 := y2 X
            clear y0 y1 y2 d0 d1 d2
            generalize X.x = w3 at *
            have hA3 : Below wr.heap.size wr w3 := key _ _ hA hX
            have hz3 : wr.heap.size < w3.heap.size := by have := hX.size; omega
            clear key
            replace hnj := Lib.hid (hsn.trans (hnj (.inl k1.out)))
            clear hsn hnn hlenk
            have hown3 := hout.below hA3 (Nat.le_refl _)
            have hf3 : w3.frozen? ⟨g, ys.length * 2 + 1, none⟩ = false := frozen_lt hA3 e2 hgl
            clear hout e0 e1 e2
            go_wp2_with fail
            refine wp_region_quiet_tail (C := fun w' => ∃ X : Later w3.heap.size w3, w' = X.x) 14 (by kernel_rfl) (by kernel_rfl) ⟨⟨_, (Below.refl _ _).drew⟩, rfl⟩ ?_
            have y0 := later_cell (B := w3.heap.size) m0 (by omega)
            have y1 := later_cell (B := w3.heap.size) m1 (by omega)
            have y2 := later_cell (B := w3.heap.size) m2 (by omega)
            simp only [List.take_succ_cons, List.take_zero, List.drop_succ_cons, List.drop_zero]
            repeat (go_big_quiet_step (fail))
            refine wpQuiet_nil ?_
            first | (rintro _ ⟨X, rfl⟩) | (intro X)
            have hX2 := X.h
            have m0' := y0 X
            have m1' := y1 X
            have m2' := y2 X
            have hown4 := hown3.below hX2 (Nat.le_refl _)
            have hf4 : X.x.frozen? ⟨g, ys.length * 2 + 1, none⟩ = false := frozen_lt hX2 hf3 (by omega)
            clear y0 y1 y2 m0 m1 m2 hown3 hf3
            generalize X.x = w4 at *
            have hset := OwnTwo.setLast hown4 (tw t.a (max t.b x.b)) hmm.1
            have hset2 := hset
            rw [hmm.2.1] at hset
            rw [hmm.2.2] at hset2
            go_wp2_with fail
            go_roundw
            case rel => exact ⟨k + 1, by omega, by go_num, by rw [hnj.out]; (first | exact hset | exact hset2), hBr.trans (((hA3.trans (hX2.mono hA3.size)).mono hB1r).setCell hgb _)⟩
            case measure => simp [intOf]; omega
          · have q1 : (t.b == 18446744073709551615) = false := by simpa using k1
            have q0 : IntKind.u64.wrap (t.b + 1) = t.b + 1 := by rw [IntKind.wrap_u64]; omega
            by_cases k2 : x.a ≤ t.b + 1
            · have q2 := Lib.hid k2
              go_wp2_with fail
              obtain ⟨w2, hw2⟩ : ∃ w2, w2 = wr.alloc (.cells #[.int .u64 x.a, .int .u64 x.b] 82) := ⟨_, rfl⟩
              have d0 : w2.cell? ⟨wr.heap.size, 0, none⟩ = some (.int .u64 x.a) := by rw [hw2]; simp [World.cell?_alloc_new]
              have d1 : w2.cell? ⟨wr.heap.size, 1, none⟩ = some (.int .u64 x.b) := by rw [hw2]; simp [World.cell?_alloc_new]
              have hS2 : w2.heap.size = wr.heap.size + 1 := by rw [hw2]; simp
              have hA : Below wr.heap.size wr w2 := by rw [hw2]; exact bone _ _
              have d2 : w2.cell? ⟨g, ys.length * 2 + 1, none⟩ = some (.int .u64 t.b) := cell_lt hA e1 hgl
              rw [← hw2]
              clear hw2 h1 h2
              refine region_later w2.heap.size w2 (Below.refl _ _) (by kernel_rfl) (by kernel_rfl) ?_
              have y0 := later_cell (B := w2.heap.size) d0 (by omega)
              have y1 := later_cell (B := w2.heap.size) d1 (by omega)
              have y2 := later_cell (B := w2.heap.size) d2 (by omega)
              have i1 : IntKind.i64.wrap ((ys.length : Int) + 1 - 1) = (ys.length : Int) := by rw [show (ys.length : Int) + 1 - 1 = (ys.length : Int) by omega]; exact IntWalk.i64_in _ (by omega)
              have i2 : (0 : Int) < (ys.length : Int) + 1 := by omega
              have i3 : (0 : Int) ≤ (ys.length : Int) := by omega
              have i4 : (ys.length : Int) < (ys.length : Int) + 1 := by omega
              have i5 : ((ys.length : Int)).toNat = ys.length := by omega
              repeat (go_big_quiet_step (fail))
              refine wpQuiet_nil ?_
              first | (rintro _ ⟨X, rfl⟩) | (intro X)
              have hX := X.h
              have m0 := y0 X
              have m1 := y1 X
              have m2 := y2 X
              clear y0 y1 y2 d0 d1 d2
              generalize X.x = w3 at *
              have hA3 : Below wr.heap.size wr w3 := key _ _ hA hX
              have hz3 : wr.heap.size < w3.heap.size := by have := hX.size; omega
              clear key
              replace hnj := Lib.hid (hsn.trans (hnj (.inr k2)))
              clear hsn hnn hlenk
              have hown3 := hout.below hA3 (Nat.le_refl _)
              have hf3 : w3.frozen? ⟨g, ys.length * 2 + 1, none⟩ = false := frozen_lt hA3 e2 hgl
              clear hout e0 e1 e2
              go_wp2_with fail
              refine wp_region_quiet_tail (C := fun w' => ∃ X : Later w3.heap.size w3, w' = X.x) 14 (by kernel_rfl) (by kernel_rfl) ⟨⟨_, (Below.refl _ _).drew⟩, rfl⟩ ?_
              have y0 := later_cell (B := w3.heap.size) m0 (by omega)
              have y1 := later_cell (B := w3.heap.size) m1 (by omega)
              have y2 := later_cell (B := w3.heap.size) m2 (by omega)
              simp only [List.take_succ_cons, List.take_zero, List.drop_succ_cons, List.drop_zero]
              repeat (go_big_quiet_step (fail))
              refine wpQuiet_nil ?_
              first | (rintro _ ⟨X, rfl⟩) | (intro X)
              have hX2 := X.h
              have m0' := y0 X
              have m1' := y1 X
              have m2' := y2 X
              have hown4 := hown3.below hX2 (Nat.le_refl _)
              have hf4 : X.x.frozen? ⟨g, ys.length * 2 + 1, none⟩ = false := frozen_lt hX2 hf3 (by omega)
              clear y0 y1 y2 m0 m1 m2 hown3 hf3
              generalize X.x = w4 at *
              have hset := OwnTwo.setLast hown4 (tw t.a (max t.b x.b)) hmm.1
              have hset2 := hset
              rw [hmm.2.1] at hset
              rw [hmm.2.2] at hset2
              go_wp2_with fail
              go_roundw
              case rel => exact ⟨k + 1, by omega, by go_num, by rw [hnj.out]; (first | exact hset | exact hset2), hBr.trans (((hA3.trans (hX2.mono hA3.size)).mono hB1r).setCell hgb _)⟩
              case measure => simp [intOf]; omega
            · have q2 := Lib.hid k2
              go_wp2_with fail
              obtain ⟨w2, hw2⟩ : ∃ w2, w2 = wr.alloc (.cells #[.int .u64 x.a, .int .u64 x.b] 82) := ⟨_, rfl⟩
              have d0 : w2.cell? ⟨wr.heap.size, 0, none⟩ = some (.int .u64 x.a) := by rw [hw2]; simp [World.cell?_alloc_new]
              have d1 : w2.cell? ⟨wr.heap.size, 1, none⟩ = some (.int .u64 x.b) := by rw [hw2]; simp [World.cell?_alloc_new]
              have hS2 : w2.heap.size = wr.heap.size + 1 := by rw [hw2]; simp
              have hA : Below wr.heap.size wr w2 := by rw [hw2]; exact bone _ _
              have d2 : w2.cell? ⟨g, ys.length * 2 + 1, none⟩ = some (.int .u64 t.b) := cell_lt hA e1 hgl
              rw [← hw2]
              clear hw2 h1 h2
              refine region_later w2.heap.size w2 (Below.refl _ _) (by kernel_rfl) (by kernel_rfl) ?_
              have y0 := later_cell (B := w2.heap.size) d0 (by omega)
              have y1 := later_cell (B := w2.heap.size) d1 (by omega)
              have y2 := later_cell (B := w2.heap.size) d2 (by omega)
              have i1 : IntKind.i64.wrap ((ys.length : Int) + 1 - 1) = (ys.length : Int) := by rw [show (ys.length : Int) + 1 - 1 = (ys.length : Int) by omega]; exact IntWalk.i64_in _ (by omega)
              have i2 : (0 : Int) < (ys.length : Int) + 1 := by omega
              have i3 : (0 : Int) ≤ (ys.length : Int) := by omega
              have i4 : (ys.length : Int) < (ys.length : Int) + 1 := by omega
              have i5 : ((ys.length : Int)).toNat = ys.length := by omega
              repeat (go_big_quiet_step (fail))
              refine wpQuiet_nil ?_
              first | (rintro _ ⟨X, rfl⟩) | (intro X)
              have hX := X.h
              have m0 := y0 X
              have m1 := y1 X
              have m2 := y2 X
              clear y0 y1 y2 d0 d1 d2
              generalize X.x = w3 at *
              have hA3 : Below wr.heap.size wr w3 := key _ _ hA hX
              have hz3 : wr.heap.size < w3.heap.size := by have := hX.size; omega
              clear key
              replace hnn := Lib.hid (hsn.trans (hnn (by omega)))
              clear hsn hnj hlenk
              have hownA := hout.below hA3 (Nat.le_refl _)
              clear hout e0 e1 e2
              go_wp2_with (at_builtin; refine wpl_append_many rfl _ _ 71 rfl w1.heap.size 82 infoEnds Try.underlying71 _ (ys ++ [t]) [x] (by first | rfl | (simp; done)) rfl ?_ ?_ ?_ ?_ ?_ ?_ ?_; (focus (exact hownA)); (focus rfl); (focus (first | rfl | (simp; done))); (focus rfl); (focus (simp only [List.length_append, List.length_cons, List.length_nil]; omega)); (focus (first | omega | (simp; omega))); intro v' w5 hown' hbel hgrow)
              go_roundw
              case rel => exact ⟨k + 1, by omega, by go_num, by rw [hnn.out]; exact hown', hBr.trans ((hA3.mono hB1r).trans (hbel _ (Nat.le_refl _)))⟩
              case measure => simp [intOf]; omega
      · obtain rfl : k = S.length := by omega
        rw [List.take_length] at hout
        go_wp2
        have hfin : wr.heap[D]? = some (.deferred (some [])) := (hBr.block D (Array.getElem?_eq_some_iff.1 hD1).1).trans hD1
        have hbase : w.heap.size ≤ w1.heap.size := hB1.size
        gi_wp2
        refine ⟨by simp, .inl ⟨_, _, rfl, run_takeDeferred hfin, ?_⟩⟩
        refine ⟨_, results_tmp rfl _ _ _, _, rfl, ?_, hB1.trans ((hBr.mono hbase).trans (belowK_b (w := w) (Nat.le_refl _) wr D _ _ (by omega) hfin rfl rfl))⟩
        rw [hM.out]
        exact ownsRow_putObj (OwnTwo.mono hout hbase) _ hfin rfl
  case stop =>
    rintro D c pre W _ _ h _
    exact h.elim
end Go.Proofs.Ytdeldhoeelijeaa
