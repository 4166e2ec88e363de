/- The walk of the statement SpanTells, and of the reference's Pages. -/
import Derived.Test.YtcfblkmcaaaipaaSpanT
import Derived.Test.YtcfblkmcaaaipaaSpanD
import Derived.Laws.Bits64
namespace Go.Proofs.Ytcfblkmcaaaipaa
open Go.RowKit Go.BigFrame

theorem or_mod (a b : Int) (ha : W64 a) (hb : W64 b) : (bits BinOp.or IntKind.u64 a b % 4096 != 0) = !(decide (a % 4096 = 0) && decide (b % 4096 = 0)) := by
  obtain ⟨ha0, ha1⟩ := ha
  obtain ⟨hb0, hb1⟩ := hb
  obtain ⟨x, rfl⟩ := Int.eq_ofNat_of_zero_le ha0
  obtain ⟨y, rfl⟩ := Int.eq_ofNat_of_zero_le hb0
  rw [bits_or_u64_nat _ _ (by omega) (by omega)]
  have h1 : (x ||| y) % 4096 = (x % 4096) ||| (y % 4096) := Nat.or_mod_two_pow (n := 12)
  have h2 : ((x ||| y) % 4096 = 0) ↔ x % 4096 = 0 ∧ y % 4096 = 0 := by rw [h1, Nat.or_eq_zero_iff]
  rw [Bool.eq_iff_iff]
  simp only [bne_iff_ne, ne_eq, Bool.not_eq_true', Bool.and_eq_false_iff, decide_eq_false_iff_not]
  have e1 : (((x ||| y : Nat) : Int) % 4096 = 0) ↔ (x ||| y) % 4096 = 0 := by omega
  rw [e1, h2]
  omega
theorem pageBad_not (x : Two) : (!(pageBad x)) = (goodB x.a x.b && (decide (x.a % 4096 = 0) && decide (x.b % 4096 = 0))) := by
  unfold pageBad
  rw [or_mod _ _ x.ha x.hb]
  cases goodB x.a x.b <;> simp

set_option maxHeartbeats 1000000 in
theorem refPages_any (x : Two) (w : World) : Calls Try.prog 29 #[.agg #[.int .u64 x.a, .int .u64 x.b]] w fun e w' => e = .returned (.bool (!(pageBad x))) ∧ Below w.heap.size w w' := by
  rw [pageBad_not]
  have hxa := x.ha.1
  have hxb := x.hb.1
  cases hg : goodB x.a x.b
  · go_enter Try.func29, Try.ntmps29
    go_wp2_with fail
    refine (refGood_any _ _ _ x.ha x.hb).mono ?_; rintro e1 w1 ⟨rfl, hb1⟩
    rw [hg]
    go_wp2_with fail
    go_ret
    exact ⟨rfl, bnew hb1⟩
  · by_cases h1 : x.a % 4096 = 0
    all_goals
      go_enter Try.func29, Try.ntmps29
      go_wp2_with fail
      refine (refGood_any _ _ _ x.ha x.hb).mono ?_; rintro e1 w1 ⟨rfl, hb1⟩
      have c0 : w1.cell? ⟨w.heap.size, 0, none⟩ = some (.int .u64 x.a) := cell_lt hb1 (by simp [World.cell?_alloc_new]) (by simp)
      have c1 : w1.cell? ⟨w.heap.size, 1, none⟩ = some (.int .u64 x.b) := cell_lt hb1 (by simp [World.cell?_alloc_new]) (by simp)
      have hW : Below w.heap.size w w1 := bnew hb1
      rw [hg]
      clear hb1
      first | (have q : (x.a % 4096 == 0) = true := by simpa using h1) | (have q : (x.a % 4096 == 0) = false := by simpa using h1)
      go_wp2_with fail
      go_ret
      exact ⟨ret_bool (by rw [Bool.eq_iff_iff]; simp [h1]), hW⟩

set_option maxRecDepth 100000 in
set_option maxHeartbeats 4000000 in
theorem spanTells_walk (s t : Two) (at' : Int) (w : World) (ha : W64 at') :
    Calls Try.prog 7 #[.agg #[.int .u64 s.a, .int .u64 s.b], .agg #[.int .u64 t.a, .int .u64 t.b], .int .u64 at'] w fun e w' => e = .returned (.bool true) ∧ Below w.heap.size w w' := by
  have G1 := fun W => good_any s.a s.b W s.ha s.hb
  have G2 := fun W => refGood_any s.a s.b W s.ha s.hb
  have L1 := fun W => last_any s.a s.b W s.ha s.hb
  have L2 := fun W => refLast_any s.a s.b W s.ha s.hb
  have H1 := fun W => has_any s.a s.b at' W s.ha s.hb
  have H2 := fun W => refHas_any s.a s.b at' W s.ha s.hb ha
  have W1 := fun W => within_any s.a s.b t.a t.b W s.ha s.hb t.ha t.hb
  have W2 := fun W => refWithin_any s.a s.b t.a t.b W s.ha s.hb t.ha t.hb
  have O1 := fun W => overlap_any s.a s.b t.a t.b W s.ha s.hb t.ha t.hb
  have O2 := fun W => refOverlap_any s.a s.b t.a t.b W s.ha s.hb t.ha t.hb
  have P1 := fun v W h => pages_any v [s, t] W h (by simp)
  have P2 := fun W => refPages_any s W
  have P3 := fun W => refPages_any t W
  have e : (!([s, t].any pageBad)) = ((!(pageBad s)) && !(pageBad t)) := by simp
  rw [e] at P1
  clear e
  generalize (!(pageBad s)) = p1 at *
  generalize (!(pageBad t)) = p2 at *
  generalize goodB s.a s.b = gv at *
  generalize lastV s.a s.b = lv at *
  generalize hasB s.a s.b at' = hv at *
  generalize withinB s.a s.b t.a t.b = wv at *
  generalize overlapB s.a s.b t.a t.b = ov at *
  cases p1 <;> cases p2
  all_goals simp only [Bool.and_true, Bool.and_false] at P1
  · skip
    go_enter Try.func7, Try.ntmps7
    go_wp2_with fail
    refine (awake_any _).mono ?_; rintro e w1 ⟨rfl, hb1⟩
    obtain ⟨⟨c0, c1⟩, ⟨c2, c3⟩, hz2, hz1, hW⟩ := boxes2 hb1
    clear hb1
    go_wp2_with fail
    have y0 := later_cell c0 hz2
    have y1 := later_cell c1 hz2
    have y2 := later_cell c2 hz1
    have y3 := later_cell c3 hz1
    refine region_ord (fun z => ∃ X : Later w1.heap.size w1, z = X.x) [([0, 2], 1), ([], 3), ([4, 5, 6, 8], 7), ([], 9), ([10, 11, 12, 13, 14, 16, 17], 15), ([], 18), ([19, 20, 21, 22, 23, 25, 26], 24), ([], 27), ([28, 29, 30, 31, 32, 34, 35], 33), ([], 36), ([37, 38, 39, 40, 41, 44], 42), ([], 43), ([], 45), ([46, 47], 48)] [49, 50, 51, 52] (by kernel_rfl) (by kernel_rfl) (by kernel_rfl) (by kernel_rfl) ⟨⟨_, (Below.refl _ _).drew⟩, rfl⟩ ?_
    simp only [List.map_cons, List.map_nil, List.filterMap_cons, List.filterMap_nil, List.getElem?_cons_succ, List.getElem?_cons_zero]
    have hB : Below w1.heap.size w1 w1.drew := (Below.refl _ _).drew
    generalize w1.drew = wc at *
    refine ord_step ?_
    repeat (change wpQuiet _ _ _ _ (List.cons _ _) _; go_big_quiet_step (fail))
    refine wpQuiet_nil ?_
    intro Q₁ hQ₁
    go_wp2_with fail
    refine (G1 _).mono ?_; rintro e wn ⟨rfl, hbn⟩
    replace hB : Below w1.heap.size w1 wn := bthen hB hbn
    clear hbn
    go_wp2_with fail
    refine hQ₁ _ _ ⟨⟨_, hB⟩, rfl⟩ ?_
    clear hQ₁ Q₁
    revert hB; generalize wn = wc; intro hB
    refine ord_step ?_
    repeat (change wpQuiet _ _ _ _ (List.cons _ _) _; go_big_quiet_step (fail))
    refine wpQuiet_nil ?_
    intro Q₁ hQ₁
    go_wp2_with fail
    refine (G2 _).mono ?_; rintro e wn ⟨rfl, hbn⟩
    replace hB : Below w1.heap.size w1 wn := bthen hB hbn
    clear hbn
    go_wp2_with fail
    refine hQ₁ _ _ ⟨⟨_, hB⟩, rfl⟩ ?_
    clear hQ₁ Q₁
    revert hB; generalize wn = wc; intro hB
    refine ord_step ?_
    repeat (change wpQuiet _ _ _ _ (List.cons _ _) _; go_big_quiet_step (fail))
    refine wpQuiet_nil ?_
    intro Q₁ hQ₁
    go_wp2_with fail
    refine (L1 _).mono ?_; rintro e wn ⟨rfl, hbn⟩
    replace hB : Below w1.heap.size w1 wn := bthen hB hbn
    clear hbn
    go_wp2_with fail
    refine hQ₁ _ _ ⟨⟨_, hB⟩, rfl⟩ ?_
    clear hQ₁ Q₁
    revert hB; generalize wn = wc; intro hB
    refine ord_step ?_
    repeat (change wpQuiet _ _ _ _ (List.cons _ _) _; go_big_quiet_step (fail))
    refine wpQuiet_nil ?_
    intro Q₁ hQ₁
    go_wp2_with fail
    refine (L2 _).mono ?_; rintro e wn ⟨rfl, hbn⟩
    replace hB : Below w1.heap.size w1 wn := bthen hB hbn
    clear hbn
    go_wp2_with fail
    refine hQ₁ _ _ ⟨⟨_, hB⟩, rfl⟩ ?_
    clear hQ₁ Q₁
    revert hB; generalize wn = wc; intro hB
    refine ord_step ?_
    repeat (change wpQuiet _ _ _ _ (List.cons _ _) _; go_big_quiet_step (fail))
    refine wpQuiet_nil ?_
    intro Q₁ hQ₁
    go_wp2_with fail
    refine (H1 _).mono ?_; rintro e wn ⟨rfl, hbn⟩
    replace hB : Below w1.heap.size w1 wn := bthen hB hbn
    clear hbn
    go_wp2_with fail
    refine hQ₁ _ _ ⟨⟨_, hB⟩, rfl⟩ ?_
    clear hQ₁ Q₁
    revert hB; generalize wn = wc; intro hB
    refine ord_step ?_
    repeat (change wpQuiet _ _ _ _ (List.cons _ _) _; go_big_quiet_step (fail))
    refine wpQuiet_nil ?_
    intro Q₁ hQ₁
    go_wp2_with fail
    refine (H2 _).mono ?_; rintro e wn ⟨rfl, hbn⟩
    replace hB : Below w1.heap.size w1 wn := bthen hB hbn
    clear hbn
    go_wp2_with fail
    refine hQ₁ _ _ ⟨⟨_, hB⟩, rfl⟩ ?_
    clear hQ₁ Q₁
    revert hB; generalize wn = wc; intro hB
    refine ord_step ?_
    repeat (change wpQuiet _ _ _ _ (List.cons _ _) _; go_big_quiet_step (fail))
    refine wpQuiet_nil ?_
    intro Q₁ hQ₁
    go_wp2_with fail
    refine (W1 _).mono ?_; rintro e wn ⟨rfl, hbn⟩
    replace hB : Below w1.heap.size w1 wn := bthen hB hbn
    clear hbn
    go_wp2_with fail
    refine hQ₁ _ _ ⟨⟨_, hB⟩, rfl⟩ ?_
    clear hQ₁ Q₁
    revert hB; generalize wn = wc; intro hB
    refine ord_step ?_
    repeat (change wpQuiet _ _ _ _ (List.cons _ _) _; go_big_quiet_step (fail))
    refine wpQuiet_nil ?_
    intro Q₁ hQ₁
    go_wp2_with fail
    refine (W2 _).mono ?_; rintro e wn ⟨rfl, hbn⟩
    replace hB : Below w1.heap.size w1 wn := bthen hB hbn
    clear hbn
    go_wp2_with fail
    refine hQ₁ _ _ ⟨⟨_, hB⟩, rfl⟩ ?_
    clear hQ₁ Q₁
    revert hB; generalize wn = wc; intro hB
    refine ord_step ?_
    repeat (change wpQuiet _ _ _ _ (List.cons _ _) _; go_big_quiet_step (fail))
    refine wpQuiet_nil ?_
    intro Q₁ hQ₁
    go_wp2_with fail
    refine (O1 _).mono ?_; rintro e wn ⟨rfl, hbn⟩
    replace hB : Below w1.heap.size w1 wn := bthen hB hbn
    clear hbn
    go_wp2_with fail
    refine hQ₁ _ _ ⟨⟨_, hB⟩, rfl⟩ ?_
    clear hQ₁ Q₁
    revert hB; generalize wn = wc; intro hB
    refine ord_step ?_
    repeat (change wpQuiet _ _ _ _ (List.cons _ _) _; go_big_quiet_step (fail))
    refine wpQuiet_nil ?_
    intro Q₁ hQ₁
    go_wp2_with fail
    refine (O2 _).mono ?_; rintro e wn ⟨rfl, hbn⟩
    replace hB : Below w1.heap.size w1 wn := bthen hB hbn
    clear hbn
    go_wp2_with fail
    refine hQ₁ _ _ ⟨⟨_, hB⟩, rfl⟩ ?_
    clear hQ₁ Q₁
    revert hB; generalize wn = wc; intro hB
    refine ord_step ?_
    repeat (change wpQuiet _ _ _ _ (List.cons _ _) _; go_big_quiet_step (fail))
    refine wpQuiet_nil ?_
    intro Q₁ hQ₁
    go_wp2_with fail
    have hrow := OwnTwo.row (OwnTwo.lit 30 wc w1.heap.size hB.size [s, t] (by simp))
    have hB0 : Below w1.heap.size w1 (wc.alloc (.cells #[.int .u64 s.a, .int .u64 s.b, .int .u64 t.a, .int .u64 t.b] 30)) := hB.alloc hB.size _
    refine hQ₁ _ _ ⟨⟨_, hB0⟩, rfl⟩ ?_
    clear hQ₁ Q₁
    refine ord_step ?_
    repeat (change wpQuiet _ _ _ _ (List.cons _ _) _; go_big_quiet_step (fail))
    refine wpQuiet_nil ?_
    intro Q₁ hQ₁
    go_wp2_with fail
    refine (P1 _ _ hrow).mono ?_
    clear hrow hB
    rintro e wn ⟨rfl, hbn⟩
    have hB : Below w1.heap.size w1 wn := bthen hB0 hbn
    clear hbn hB0
    go_wp2_with fail
    refine hQ₁ _ _ ⟨⟨_, hB⟩, rfl⟩ ?_
    clear hQ₁ Q₁
    revert hB; generalize wn = wc; intro hB
    refine ord_step ?_
    repeat (change wpQuiet _ _ _ _ (List.cons _ _) _; go_big_quiet_step (fail))
    refine wpQuiet_nil ?_
    intro Q₁ hQ₁
    go_wp2_with fail
    refine (P2 _).mono ?_; rintro e wn ⟨rfl, hbn⟩
    replace hB : Below w1.heap.size w1 wn := bthen hB hbn
    clear hbn
    go_wp2_with fail
    refine hQ₁ _ _ ⟨⟨_, hB⟩, rfl⟩ ?_
    clear hQ₁ Q₁
    revert hB; generalize wn = wc; intro hB
    refine ord_step ?_
    repeat (change wpQuiet _ _ _ _ (List.cons _ _) _; go_big_quiet_step (fail))
    refine wpQuiet_nil ?_
    intro Q₁ hQ₁
    go_wp2_with fail
    refine hQ₁ _ _ ⟨⟨_, hB⟩, rfl⟩ ?_
    clear hQ₁ Q₁
    refine ord_last ?_
    repeat (change wpQuiet _ _ _ _ (List.cons _ _) _; go_big_quiet_step (fail))
    refine wpQuiet_nil ?_
    go_wp2_with fail
    go_ret
    exact ⟨rfl, hW.trans (hB.mono hW.size)⟩
  · skip
    go_enter Try.func7, Try.ntmps7
    go_wp2_with fail
    refine (awake_any _).mono ?_; rintro e w1 ⟨rfl, hb1⟩
    obtain ⟨⟨c0, c1⟩, ⟨c2, c3⟩, hz2, hz1, hW⟩ := boxes2 hb1
    clear hb1
    go_wp2_with fail
    have y0 := later_cell c0 hz2
    have y1 := later_cell c1 hz2
    have y2 := later_cell c2 hz1
    have y3 := later_cell c3 hz1
    refine region_ord (fun z => ∃ X : Later w1.heap.size w1, z = X.x) [([0, 2], 1), ([], 3), ([4, 5, 6, 8], 7), ([], 9), ([10, 11, 12, 13, 14, 16, 17], 15), ([], 18), ([19, 20, 21, 22, 23, 25, 26], 24), ([], 27), ([28, 29, 30, 31, 32, 34, 35], 33), ([], 36), ([37, 38, 39, 40, 41, 44], 42), ([], 43), ([], 45), ([46, 47], 48)] [49, 50, 51, 52] (by kernel_rfl) (by kernel_rfl) (by kernel_rfl) (by kernel_rfl) ⟨⟨_, (Below.refl _ _).drew⟩, rfl⟩ ?_
    simp only [List.map_cons, List.map_nil, List.filterMap_cons, List.filterMap_nil, List.getElem?_cons_succ, List.getElem?_cons_zero]
    have hB : Below w1.heap.size w1 w1.drew := (Below.refl _ _).drew
    generalize w1.drew = wc at *
    refine ord_step ?_
    repeat (change wpQuiet _ _ _ _ (List.cons _ _) _; go_big_quiet_step (fail))
    refine wpQuiet_nil ?_
    intro Q₁ hQ₁
    go_wp2_with fail
    refine (G1 _).mono ?_; rintro e wn ⟨rfl, hbn⟩
    replace hB : Below w1.heap.size w1 wn := bthen hB hbn
    clear hbn
    go_wp2_with fail
    refine hQ₁ _ _ ⟨⟨_, hB⟩, rfl⟩ ?_
    clear hQ₁ Q₁
    revert hB; generalize wn = wc; intro hB
    refine ord_step ?_
    repeat (change wpQuiet _ _ _ _ (List.cons _ _) _; go_big_quiet_step (fail))
    refine wpQuiet_nil ?_
    intro Q₁ hQ₁
    go_wp2_with fail
    refine (G2 _).mono ?_; rintro e wn ⟨rfl, hbn⟩
    replace hB : Below w1.heap.size w1 wn := bthen hB hbn
    clear hbn
    go_wp2_with fail
    refine hQ₁ _ _ ⟨⟨_, hB⟩, rfl⟩ ?_
    clear hQ₁ Q₁
    revert hB; generalize wn = wc; intro hB
    refine ord_step ?_
    repeat (change wpQuiet _ _ _ _ (List.cons _ _) _; go_big_quiet_step (fail))
    refine wpQuiet_nil ?_
    intro Q₁ hQ₁
    go_wp2_with fail
    refine (L1 _).mono ?_; rintro e wn ⟨rfl, hbn⟩
    replace hB : Below w1.heap.size w1 wn := bthen hB hbn
    clear hbn
    go_wp2_with fail
    refine hQ₁ _ _ ⟨⟨_, hB⟩, rfl⟩ ?_
    clear hQ₁ Q₁
    revert hB; generalize wn = wc; intro hB
    refine ord_step ?_
    repeat (change wpQuiet _ _ _ _ (List.cons _ _) _; go_big_quiet_step (fail))
    refine wpQuiet_nil ?_
    intro Q₁ hQ₁
    go_wp2_with fail
    refine (L2 _).mono ?_; rintro e wn ⟨rfl, hbn⟩
    replace hB : Below w1.heap.size w1 wn := bthen hB hbn
    clear hbn
    go_wp2_with fail
    refine hQ₁ _ _ ⟨⟨_, hB⟩, rfl⟩ ?_
    clear hQ₁ Q₁
    revert hB; generalize wn = wc; intro hB
    refine ord_step ?_
    repeat (change wpQuiet _ _ _ _ (List.cons _ _) _; go_big_quiet_step (fail))
    refine wpQuiet_nil ?_
    intro Q₁ hQ₁
    go_wp2_with fail
    refine (H1 _).mono ?_; rintro e wn ⟨rfl, hbn⟩
    replace hB : Below w1.heap.size w1 wn := bthen hB hbn
    clear hbn
    go_wp2_with fail
    refine hQ₁ _ _ ⟨⟨_, hB⟩, rfl⟩ ?_
    clear hQ₁ Q₁
    revert hB; generalize wn = wc; intro hB
    refine ord_step ?_
    repeat (change wpQuiet _ _ _ _ (List.cons _ _) _; go_big_quiet_step (fail))
    refine wpQuiet_nil ?_
    intro Q₁ hQ₁
    go_wp2_with fail
    refine (H2 _).mono ?_; rintro e wn ⟨rfl, hbn⟩
    replace hB : Below w1.heap.size w1 wn := bthen hB hbn
    clear hbn
    go_wp2_with fail
    refine hQ₁ _ _ ⟨⟨_, hB⟩, rfl⟩ ?_
    clear hQ₁ Q₁
    revert hB; generalize wn = wc; intro hB
    refine ord_step ?_
    repeat (change wpQuiet _ _ _ _ (List.cons _ _) _; go_big_quiet_step (fail))
    refine wpQuiet_nil ?_
    intro Q₁ hQ₁
    go_wp2_with fail
    refine (W1 _).mono ?_; rintro e wn ⟨rfl, hbn⟩
    replace hB : Below w1.heap.size w1 wn := bthen hB hbn
    clear hbn
    go_wp2_with fail
    refine hQ₁ _ _ ⟨⟨_, hB⟩, rfl⟩ ?_
    clear hQ₁ Q₁
    revert hB; generalize wn = wc; intro hB
    refine ord_step ?_
    repeat (change wpQuiet _ _ _ _ (List.cons _ _) _; go_big_quiet_step (fail))
    refine wpQuiet_nil ?_
    intro Q₁ hQ₁
    go_wp2_with fail
    refine (W2 _).mono ?_; rintro e wn ⟨rfl, hbn⟩
    replace hB : Below w1.heap.size w1 wn := bthen hB hbn
    clear hbn
    go_wp2_with fail
    refine hQ₁ _ _ ⟨⟨_, hB⟩, rfl⟩ ?_
    clear hQ₁ Q₁
    revert hB; generalize wn = wc; intro hB
    refine ord_step ?_
    repeat (change wpQuiet _ _ _ _ (List.cons _ _) _; go_big_quiet_step (fail))
    refine wpQuiet_nil ?_
    intro Q₁ hQ₁
    go_wp2_with fail
    refine (O1 _).mono ?_; rintro e wn ⟨rfl, hbn⟩
    replace hB : Below w1.heap.size w1 wn := bthen hB hbn
    clear hbn
    go_wp2_with fail
    refine hQ₁ _ _ ⟨⟨_, hB⟩, rfl⟩ ?_
    clear hQ₁ Q₁
    revert hB; generalize wn = wc; intro hB
    refine ord_step ?_
    repeat (change wpQuiet _ _ _ _ (List.cons _ _) _; go_big_quiet_step (fail))
    refine wpQuiet_nil ?_
    intro Q₁ hQ₁
    go_wp2_with fail
    refine (O2 _).mono ?_; rintro e wn ⟨rfl, hbn⟩
    replace hB : Below w1.heap.size w1 wn := bthen hB hbn
    clear hbn
    go_wp2_with fail
    refine hQ₁ _ _ ⟨⟨_, hB⟩, rfl⟩ ?_
    clear hQ₁ Q₁
    revert hB; generalize wn = wc; intro hB
    refine ord_step ?_
    repeat (change wpQuiet _ _ _ _ (List.cons _ _) _; go_big_quiet_step (fail))
    refine wpQuiet_nil ?_
    intro Q₁ hQ₁
    go_wp2_with fail
    have hrow := OwnTwo.row (OwnTwo.lit 30 wc w1.heap.size hB.size [s, t] (by simp))
    have hB0 : Below w1.heap.size w1 (wc.alloc (.cells #[.int .u64 s.a, .int .u64 s.b, .int .u64 t.a, .int .u64 t.b] 30)) := hB.alloc hB.size _
    refine hQ₁ _ _ ⟨⟨_, hB0⟩, rfl⟩ ?_
    clear hQ₁ Q₁
    refine ord_step ?_
    repeat (change wpQuiet _ _ _ _ (List.cons _ _) _; go_big_quiet_step (fail))
    refine wpQuiet_nil ?_
    intro Q₁ hQ₁
    go_wp2_with fail
    refine (P1 _ _ hrow).mono ?_
    clear hrow hB
    rintro e wn ⟨rfl, hbn⟩
    have hB : Below w1.heap.size w1 wn := bthen hB0 hbn
    clear hbn hB0
    go_wp2_with fail
    refine hQ₁ _ _ ⟨⟨_, hB⟩, rfl⟩ ?_
    clear hQ₁ Q₁
    revert hB; generalize wn = wc; intro hB
    refine ord_step ?_
    repeat (change wpQuiet _ _ _ _ (List.cons _ _) _; go_big_quiet_step (fail))
    refine wpQuiet_nil ?_
    intro Q₁ hQ₁
    go_wp2_with fail
    refine (P2 _).mono ?_; rintro e wn ⟨rfl, hbn⟩
    replace hB : Below w1.heap.size w1 wn := bthen hB hbn
    clear hbn
    go_wp2_with fail
    refine hQ₁ _ _ ⟨⟨_, hB⟩, rfl⟩ ?_
    clear hQ₁ Q₁
    revert hB; generalize wn = wc; intro hB
    refine ord_step ?_
    repeat (change wpQuiet _ _ _ _ (List.cons _ _) _; go_big_quiet_step (fail))
    refine wpQuiet_nil ?_
    intro Q₁ hQ₁
    go_wp2_with fail
    refine hQ₁ _ _ ⟨⟨_, hB⟩, rfl⟩ ?_
    clear hQ₁ Q₁
    refine ord_last ?_
    repeat (change wpQuiet _ _ _ _ (List.cons _ _) _; go_big_quiet_step (fail))
    refine wpQuiet_nil ?_
    go_wp2_with fail
    go_ret
    exact ⟨rfl, hW.trans (hB.mono hW.size)⟩
  · skip
    go_enter Try.func7, Try.ntmps7
    go_wp2_with fail
    refine (awake_any _).mono ?_; rintro e w1 ⟨rfl, hb1⟩
    obtain ⟨⟨c0, c1⟩, ⟨c2, c3⟩, hz2, hz1, hW⟩ := boxes2 hb1
    clear hb1
    go_wp2_with fail
    have y0 := later_cell c0 hz2
    have y1 := later_cell c1 hz2
    have y2 := later_cell c2 hz1
    have y3 := later_cell c3 hz1
    refine region_ord (fun z => ∃ X : Later w1.heap.size w1, z = X.x) [([0, 2], 1), ([], 3), ([4, 5, 6, 8], 7), ([], 9), ([10, 11, 12, 13, 14, 16, 17], 15), ([], 18), ([19, 20, 21, 22, 23, 25, 26], 24), ([], 27), ([28, 29, 30, 31, 32, 34, 35], 33), ([], 36), ([37, 38, 39, 40, 41, 44], 42), ([], 43), ([], 45), ([46, 47], 48)] [49, 50, 51, 52] (by kernel_rfl) (by kernel_rfl) (by kernel_rfl) (by kernel_rfl) ⟨⟨_, (Below.refl _ _).drew⟩, rfl⟩ ?_
    simp only [List.map_cons, List.map_nil, List.filterMap_cons, List.filterMap_nil, List.getElem?_cons_succ, List.getElem?_cons_zero]
    have hB : Below w1.heap.size w1 w1.drew := (Below.refl _ _).drew
    generalize w1.drew = wc at *
    refine ord_step ?_
    repeat (change wpQuiet _ _ _ _ (List.cons _ _) _; go_big_quiet_step (fail))
    refine wpQuiet_nil ?_
    intro Q₁ hQ₁
    go_wp2_with fail
    refine (G1 _).mono ?_; rintro e wn ⟨rfl, hbn⟩
    replace hB : Below w1.heap.size w1 wn := bthen hB hbn
    clear hbn
    go_wp2_with fail
    refine hQ₁ _ _ ⟨⟨_, hB⟩, rfl⟩ ?_
    clear hQ₁ Q₁
    revert hB; generalize wn = wc; intro hB
    refine ord_step ?_
    repeat (change wpQuiet _ _ _ _ (List.cons _ _) _; go_big_quiet_step (fail))
    refine wpQuiet_nil ?_
    intro Q₁ hQ₁
    go_wp2_with fail
    refine (G2 _).mono ?_; rintro e wn ⟨rfl, hbn⟩
    replace hB : Below w1.heap.size w1 wn := bthen hB hbn
    clear hbn
    go_wp2_with fail
    refine hQ₁ _ _ ⟨⟨_, hB⟩, rfl⟩ ?_
    clear hQ₁ Q₁
    revert hB; generalize wn = wc; intro hB
    refine ord_step ?_
    repeat (change wpQuiet _ _ _ _ (List.cons _ _) _; go_big_quiet_step (fail))
    refine wpQuiet_nil ?_
    intro Q₁ hQ₁
    go_wp2_with fail
    refine (L1 _).mono ?_; rintro e wn ⟨rfl, hbn⟩
    replace hB : Below w1.heap.size w1 wn := bthen hB hbn
    clear hbn
    go_wp2_with fail
    refine hQ₁ _ _ ⟨⟨_, hB⟩, rfl⟩ ?_
    clear hQ₁ Q₁
    revert hB; generalize wn = wc; intro hB
    refine ord_step ?_
    repeat (change wpQuiet _ _ _ _ (List.cons _ _) _; go_big_quiet_step (fail))
    refine wpQuiet_nil ?_
    intro Q₁ hQ₁
    go_wp2_with fail
    refine (L2 _).mono ?_; rintro e wn ⟨rfl, hbn⟩
    replace hB : Below w1.heap.size w1 wn := bthen hB hbn
    clear hbn
    go_wp2_with fail
    refine hQ₁ _ _ ⟨⟨_, hB⟩, rfl⟩ ?_
    clear hQ₁ Q₁
    revert hB; generalize wn = wc; intro hB
    refine ord_step ?_
    repeat (change wpQuiet _ _ _ _ (List.cons _ _) _; go_big_quiet_step (fail))
    refine wpQuiet_nil ?_
    intro Q₁ hQ₁
    go_wp2_with fail
    refine (H1 _).mono ?_; rintro e wn ⟨rfl, hbn⟩
    replace hB : Below w1.heap.size w1 wn := bthen hB hbn
    clear hbn
    go_wp2_with fail
    refine hQ₁ _ _ ⟨⟨_, hB⟩, rfl⟩ ?_
    clear hQ₁ Q₁
    revert hB; generalize wn = wc; intro hB
    refine ord_step ?_
    repeat (change wpQuiet _ _ _ _ (List.cons _ _) _; go_big_quiet_step (fail))
    refine wpQuiet_nil ?_
    intro Q₁ hQ₁
    go_wp2_with fail
    refine (H2 _).mono ?_; rintro e wn ⟨rfl, hbn⟩
    replace hB : Below w1.heap.size w1 wn := bthen hB hbn
    clear hbn
    go_wp2_with fail
    refine hQ₁ _ _ ⟨⟨_, hB⟩, rfl⟩ ?_
    clear hQ₁ Q₁
    revert hB; generalize wn = wc; intro hB
    refine ord_step ?_
    repeat (change wpQuiet _ _ _ _ (List.cons _ _) _; go_big_quiet_step (fail))
    refine wpQuiet_nil ?_
    intro Q₁ hQ₁
    go_wp2_with fail
    refine (W1 _).mono ?_; rintro e wn ⟨rfl, hbn⟩
    replace hB : Below w1.heap.size w1 wn := bthen hB hbn
    clear hbn
    go_wp2_with fail
    refine hQ₁ _ _ ⟨⟨_, hB⟩, rfl⟩ ?_
    clear hQ₁ Q₁
    revert hB; generalize wn = wc; intro hB
    refine ord_step ?_
    repeat (change wpQuiet _ _ _ _ (List.cons _ _) _; go_big_quiet_step (fail))
    refine wpQuiet_nil ?_
    intro Q₁ hQ₁
    go_wp2_with fail
    refine (W2 _).mono ?_; rintro e wn ⟨rfl, hbn⟩
    replace hB : Below w1.heap.size w1 wn := bthen hB hbn
    clear hbn
    go_wp2_with fail
    refine hQ₁ _ _ ⟨⟨_, hB⟩, rfl⟩ ?_
    clear hQ₁ Q₁
    revert hB; generalize wn = wc; intro hB
    refine ord_step ?_
    repeat (change wpQuiet _ _ _ _ (List.cons _ _) _; go_big_quiet_step (fail))
    refine wpQuiet_nil ?_
    intro Q₁ hQ₁
    go_wp2_with fail
    refine (O1 _).mono ?_; rintro e wn ⟨rfl, hbn⟩
    replace hB : Below w1.heap.size w1 wn := bthen hB hbn
    clear hbn
    go_wp2_with fail
    refine hQ₁ _ _ ⟨⟨_, hB⟩, rfl⟩ ?_
    clear hQ₁ Q₁
    revert hB; generalize wn = wc; intro hB
    refine ord_step ?_
    repeat (change wpQuiet _ _ _ _ (List.cons _ _) _; go_big_quiet_step (fail))
    refine wpQuiet_nil ?_
    intro Q₁ hQ₁
    go_wp2_with fail
    refine (O2 _).mono ?_; rintro e wn ⟨rfl, hbn⟩
    replace hB : Below w1.heap.size w1 wn := bthen hB hbn
    clear hbn
    go_wp2_with fail
    refine hQ₁ _ _ ⟨⟨_, hB⟩, rfl⟩ ?_
    clear hQ₁ Q₁
    revert hB; generalize wn = wc; intro hB
    refine ord_step ?_
    repeat (change wpQuiet _ _ _ _ (List.cons _ _) _; go_big_quiet_step (fail))
    refine wpQuiet_nil ?_
    intro Q₁ hQ₁
    go_wp2_with fail
    have hrow := OwnTwo.row (OwnTwo.lit 30 wc w1.heap.size hB.size [s, t] (by simp))
    have hB0 : Below w1.heap.size w1 (wc.alloc (.cells #[.int .u64 s.a, .int .u64 s.b, .int .u64 t.a, .int .u64 t.b] 30)) := hB.alloc hB.size _
    refine hQ₁ _ _ ⟨⟨_, hB0⟩, rfl⟩ ?_
    clear hQ₁ Q₁
    refine ord_step ?_
    repeat (change wpQuiet _ _ _ _ (List.cons _ _) _; go_big_quiet_step (fail))
    refine wpQuiet_nil ?_
    intro Q₁ hQ₁
    go_wp2_with fail
    refine (P1 _ _ hrow).mono ?_
    clear hrow hB
    rintro e wn ⟨rfl, hbn⟩
    have hB : Below w1.heap.size w1 wn := bthen hB0 hbn
    clear hbn hB0
    go_wp2_with fail
    refine hQ₁ _ _ ⟨⟨_, hB⟩, rfl⟩ ?_
    clear hQ₁ Q₁
    revert hB; generalize wn = wc; intro hB
    refine ord_step ?_
    repeat (change wpQuiet _ _ _ _ (List.cons _ _) _; go_big_quiet_step (fail))
    refine wpQuiet_nil ?_
    intro Q₁ hQ₁
    go_wp2_with fail
    refine (P2 _).mono ?_; rintro e wn ⟨rfl, hbn⟩
    replace hB : Below w1.heap.size w1 wn := bthen hB hbn
    clear hbn
    go_wp2_with fail
    refine hQ₁ _ _ ⟨⟨_, hB⟩, rfl⟩ ?_
    clear hQ₁ Q₁
    revert hB; generalize wn = wc; intro hB
    refine ord_step ?_
    repeat (change wpQuiet _ _ _ _ (List.cons _ _) _; go_big_quiet_step (fail))
    refine wpQuiet_nil ?_
    intro Q₁ hQ₁
    go_wp2_with fail
    refine (P3 _).mono ?_; rintro e wn ⟨rfl, hbn⟩
    replace hB : Below w1.heap.size w1 wn := bthen hB hbn
    clear hbn
    go_wp2_with fail
    refine hQ₁ _ _ ⟨⟨_, hB⟩, rfl⟩ ?_
    clear hQ₁ Q₁
    revert hB; generalize wn = wc; intro hB
    refine ord_last ?_
    repeat (change wpQuiet _ _ _ _ (List.cons _ _) _; go_big_quiet_step (fail))
    refine wpQuiet_nil ?_
    go_wp2_with fail
    go_ret
    exact ⟨rfl, hW.trans (hB.mono hW.size)⟩
  · skip
    go_enter Try.func7, Try.ntmps7
    go_wp2_with fail
    refine (awake_any _).mono ?_; rintro e w1 ⟨rfl, hb1⟩
    obtain ⟨⟨c0, c1⟩, ⟨c2, c3⟩, hz2, hz1, hW⟩ := boxes2 hb1
    clear hb1
    go_wp2_with fail
    have y0 := later_cell c0 hz2
    have y1 := later_cell c1 hz2
    have y2 := later_cell c2 hz1
    have y3 := later_cell c3 hz1
    refine region_ord (fun z => ∃ X : Later w1.heap.size w1, z = X.x) [([0, 2], 1), ([], 3), ([4, 5, 6, 8], 7), ([], 9), ([10, 11, 12, 13, 14, 16, 17], 15), ([], 18), ([19, 20, 21, 22, 23, 25, 26], 24), ([], 27), ([28, 29, 30, 31, 32, 34, 35], 33), ([], 36), ([37, 38, 39, 40, 41, 44], 42), ([], 43), ([], 45), ([46, 47], 48)] [49, 50, 51, 52] (by kernel_rfl) (by kernel_rfl) (by kernel_rfl) (by kernel_rfl) ⟨⟨_, (Below.refl _ _).drew⟩, rfl⟩ ?_
    simp only [List.map_cons, List.map_nil, List.filterMap_cons, List.filterMap_nil, List.getElem?_cons_succ, List.getElem?_cons_zero]
    have hB : Below w1.heap.size w1 w1.drew := (Below.refl _ _).drew
    generalize w1.drew = wc at *
    refine ord_step ?_
    repeat (change wpQuiet _ _ _ _ (List.cons _ _) _; go_big_quiet_step (fail))
    refine wpQuiet_nil ?_
    intro Q₁ hQ₁
    go_wp2_with fail
    refine (G1 _).mono ?_; rintro e wn ⟨rfl, hbn⟩
    replace hB : Below w1.heap.size w1 wn := bthen hB hbn
    clear hbn
    go_wp2_with fail
    refine hQ₁ _ _ ⟨⟨_, hB⟩, rfl⟩ ?_
    clear hQ₁ Q₁
    revert hB; generalize wn = wc; intro hB
    refine ord_step ?_
    repeat (change wpQuiet _ _ _ _ (List.cons _ _) _; go_big_quiet_step (fail))
    refine wpQuiet_nil ?_
    intro Q₁ hQ₁
    go_wp2_with fail
    refine (G2 _).mono ?_; rintro e wn ⟨rfl, hbn⟩
    replace hB : Below w1.heap.size w1 wn := bthen hB hbn
    clear hbn
    go_wp2_with fail
    refine hQ₁ _ _ ⟨⟨_, hB⟩, rfl⟩ ?_
    clear hQ₁ Q₁
    revert hB; generalize wn = wc; intro hB
    refine ord_step ?_
    repeat (change wpQuiet _ _ _ _ (List.cons _ _) _; go_big_quiet_step (fail))
    refine wpQuiet_nil ?_
    intro Q₁ hQ₁
    go_wp2_with fail
    refine (L1 _).mono ?_; rintro e wn ⟨rfl, hbn⟩
    replace hB : Below w1.heap.size w1 wn := bthen hB hbn
    clear hbn
    go_wp2_with fail
    refine hQ₁ _ _ ⟨⟨_, hB⟩, rfl⟩ ?_
    clear hQ₁ Q₁
    revert hB; generalize wn = wc; intro hB
    refine ord_step ?_
    repeat (change wpQuiet _ _ _ _ (List.cons _ _) _; go_big_quiet_step (fail))
    refine wpQuiet_nil ?_
    intro Q₁ hQ₁
    go_wp2_with fail
    refine (L2 _).mono ?_; rintro e wn ⟨rfl, hbn⟩
    replace hB : Below w1.heap.size w1 wn := bthen hB hbn
    clear hbn
    go_wp2_with fail
    refine hQ₁ _ _ ⟨⟨_, hB⟩, rfl⟩ ?_
    clear hQ₁ Q₁
    revert hB; generalize wn = wc; intro hB
    refine ord_step ?_
    repeat (change wpQuiet _ _ _ _ (List.cons _ _) _; go_big_quiet_step (fail))
    refine wpQuiet_nil ?_
    intro Q₁ hQ₁
    go_wp2_with fail
    refine (H1 _).mono ?_; rintro e wn ⟨rfl, hbn⟩
    replace hB : Below w1.heap.size w1 wn := bthen hB hbn
    clear hbn
    go_wp2_with fail
    refine hQ₁ _ _ ⟨⟨_, hB⟩, rfl⟩ ?_
    clear hQ₁ Q₁
    revert hB; generalize wn = wc; intro hB
    refine ord_step ?_
    repeat (change wpQuiet _ _ _ _ (List.cons _ _) _; go_big_quiet_step (fail))
    refine wpQuiet_nil ?_
    intro Q₁ hQ₁
    go_wp2_with fail
    refine (H2 _).mono ?_; rintro e wn ⟨rfl, hbn⟩
    replace hB : Below w1.heap.size w1 wn := bthen hB hbn
    clear hbn
    go_wp2_with fail
    refine hQ₁ _ _ ⟨⟨_, hB⟩, rfl⟩ ?_
    clear hQ₁ Q₁
    revert hB; generalize wn = wc; intro hB
    refine ord_step ?_
    repeat (change wpQuiet _ _ _ _ (List.cons _ _) _; go_big_quiet_step (fail))
    refine wpQuiet_nil ?_
    intro Q₁ hQ₁
    go_wp2_with fail
    refine (W1 _).mono ?_; rintro e wn ⟨rfl, hbn⟩
    replace hB : Below w1.heap.size w1 wn := bthen hB hbn
    clear hbn
    go_wp2_with fail
    refine hQ₁ _ _ ⟨⟨_, hB⟩, rfl⟩ ?_
    clear hQ₁ Q₁
    revert hB; generalize wn = wc; intro hB
    refine ord_step ?_
    repeat (change wpQuiet _ _ _ _ (List.cons _ _) _; go_big_quiet_step (fail))
    refine wpQuiet_nil ?_
    intro Q₁ hQ₁
    go_wp2_with fail
    refine (W2 _).mono ?_; rintro e wn ⟨rfl, hbn⟩
    replace hB : Below w1.heap.size w1 wn := bthen hB hbn
    clear hbn
    go_wp2_with fail
    refine hQ₁ _ _ ⟨⟨_, hB⟩, rfl⟩ ?_
    clear hQ₁ Q₁
    revert hB; generalize wn = wc; intro hB
    refine ord_step ?_
    repeat (change wpQuiet _ _ _ _ (List.cons _ _) _; go_big_quiet_step (fail))
    refine wpQuiet_nil ?_
    intro Q₁ hQ₁
    go_wp2_with fail
    refine (O1 _).mono ?_; rintro e wn ⟨rfl, hbn⟩
    replace hB : Below w1.heap.size w1 wn := bthen hB hbn
    clear hbn
    go_wp2_with fail
    refine hQ₁ _ _ ⟨⟨_, hB⟩, rfl⟩ ?_
    clear hQ₁ Q₁
    revert hB; generalize wn = wc; intro hB
    refine ord_step ?_
    repeat (change wpQuiet _ _ _ _ (List.cons _ _) _; go_big_quiet_step (fail))
    refine wpQuiet_nil ?_
    intro Q₁ hQ₁
    go_wp2_with fail
    refine (O2 _).mono ?_; rintro e wn ⟨rfl, hbn⟩
    replace hB : Below w1.heap.size w1 wn := bthen hB hbn
    clear hbn
    go_wp2_with fail
    refine hQ₁ _ _ ⟨⟨_, hB⟩, rfl⟩ ?_
    clear hQ₁ Q₁
    revert hB; generalize wn = wc; intro hB
    refine ord_step ?_
    repeat (change wpQuiet _ _ _ _ (List.cons _ _) _; go_big_quiet_step (fail))
    refine wpQuiet_nil ?_
    intro Q₁ hQ₁
    go_wp2_with fail
    have hrow := OwnTwo.row (OwnTwo.lit 30 wc w1.heap.size hB.size [s, t] (by simp))
    have hB0 : Below w1.heap.size w1 (wc.alloc (.cells #[.int .u64 s.a, .int .u64 s.b, .int .u64 t.a, .int .u64 t.b] 30)) := hB.alloc hB.size _
    refine hQ₁ _ _ ⟨⟨_, hB0⟩, rfl⟩ ?_
    clear hQ₁ Q₁
    refine ord_step ?_
    repeat (change wpQuiet _ _ _ _ (List.cons _ _) _; go_big_quiet_step (fail))
    refine wpQuiet_nil ?_
    intro Q₁ hQ₁
    go_wp2_with fail
    refine (P1 _ _ hrow).mono ?_
    clear hrow hB
    rintro e wn ⟨rfl, hbn⟩
    have hB : Below w1.heap.size w1 wn := bthen hB0 hbn
    clear hbn hB0
    go_wp2_with fail
    refine hQ₁ _ _ ⟨⟨_, hB⟩, rfl⟩ ?_
    clear hQ₁ Q₁
    revert hB; generalize wn = wc; intro hB
    refine ord_step ?_
    repeat (change wpQuiet _ _ _ _ (List.cons _ _) _; go_big_quiet_step (fail))
    refine wpQuiet_nil ?_
    intro Q₁ hQ₁
    go_wp2_with fail
    refine (P2 _).mono ?_; rintro e wn ⟨rfl, hbn⟩
    replace hB : Below w1.heap.size w1 wn := bthen hB hbn
    clear hbn
    go_wp2_with fail
    refine hQ₁ _ _ ⟨⟨_, hB⟩, rfl⟩ ?_
    clear hQ₁ Q₁
    revert hB; generalize wn = wc; intro hB
    refine ord_step ?_
    repeat (change wpQuiet _ _ _ _ (List.cons _ _) _; go_big_quiet_step (fail))
    refine wpQuiet_nil ?_
    intro Q₁ hQ₁
    go_wp2_with fail
    refine (P3 _).mono ?_; rintro e wn ⟨rfl, hbn⟩
    replace hB : Below w1.heap.size w1 wn := bthen hB hbn
    clear hbn
    go_wp2_with fail
    refine hQ₁ _ _ ⟨⟨_, hB⟩, rfl⟩ ?_
    clear hQ₁ Q₁
    revert hB; generalize wn = wc; intro hB
    refine ord_last ?_
    repeat (change wpQuiet _ _ _ _ (List.cons _ _) _; go_big_quiet_step (fail))
    refine wpQuiet_nil ?_
    go_wp2_with fail
    go_ret
    exact ⟨rfl, hW.trans (hB.mono hW.size)⟩
end Go.Proofs.Ytcfblkmcaaaipaa
