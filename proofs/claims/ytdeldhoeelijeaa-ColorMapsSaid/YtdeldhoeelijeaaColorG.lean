/- What the program takes of colored pages, where it does not refuse. -/
import Derived.Maps.OwnIn
import Derived.Test.YtdeldhoeelijeaaColorF
namespace Go.Proofs.Ytdeldhoeelijeaa
open Go Go.RowKit Go.Shelf Go.BigFrame

attribute [local go_sem] Oper.semAt_some

theorem pageBad_parts {s : Two} (h : pageBad s = false) : 0 < s.b ∧ s.a + s.b ≤ 18446744073709551616 ∧ s.a % 4096 = 0 ∧ s.b % 4096 = 0 ∧ (newV s).from' = s.a ∧ (newV s).count = s.b / 4096 := by
  have h1 := pageBad_not s
  rw [h] at h1
  simp only [Bool.not_false] at h1
  have h2 := h1.symm
  rw [Bool.and_eq_true, Bool.and_eq_true, decide_eq_true_iff, decide_eq_true_iff] at h2
  obtain ⟨hg, ha, hb⟩ := h2
  obtain ⟨g1, g2⟩ := goodB_iff.1 hg
  have hu : upV s.a 4096 = (s.a, true) := upV_fix (by decide) ha
  have hl := lastV_yes hg
  have hN : newV s = ⟨s.a, (lastV s.a s.b - s.a + 1) / 4096, [], 0⟩ := by
    unfold newV
    rw [hu, if_pos ⟨hg, rfl, by show s.a ≤ _; omega⟩]
  refine ⟨by omega, by omega, ha, hb, by rw [hN], ?_⟩
  rw [hN]
  show (lastV s.a s.b - s.a + 1) / 4096 = _
  rw [hl]; omega
theorem pages_stops (n Bs Bm Bn : Nat) (w : World) (hn : 1 ≤ n) (s : Two) (nn m : Int) (hm : W64 m) (hM : maskedV nn m = true) (N A c : Nat) (hN : nn = N) (hA : s.a = 4096 * (A : Int)) (hc : s.b = 4096 * (c : Int)) (htop : s.a + s.b ≤ 18446744073709551616)
    (h0 : w.cell? ⟨Bs, 0, none⟩ = some (.int .u64 s.a)) (h1 : w.cell? ⟨Bs, 1, none⟩ = some (.int .u64 s.b)) (h2 : w.cell? ⟨Bm, 0, none⟩ = some (.int .u64 m)) (h3 : w.cell? ⟨Bn, 0, none⟩ = some (.int .i64 nn)) :
    SeqStopsK Fence.wide n Try.prog 39 #[.pointer (some ⟨Bs, 0, none⟩), .pointer (some ⟨Bm, 0, none⟩), .pointer (some ⟨Bn, 0, none⟩)] (fun x : Two => #[.agg #[.int .u64 x.a, .int .u64 x.b]]) (Keeps3 Bs Bm Bn) (fun ys => ys = pagesV m N A c) (fun pre => ∃ t, pagesV m N A c = pre ++ t) (pagesV m N A c).length w :=
  fun l J Jx W hW1 hJ _ hY h00 => pages1_in n l Bs Bm Bn hn s nn m hm hM N A c hN hA hc htop J Jx hY W hJ (cell_lt hW1 h0 (World.block_lt_of_cell? w _ h0)) (cell_lt hW1 h1 (World.block_lt_of_cell? w _ h1)) (cell_lt hW1 h2 (World.block_lt_of_cell? w _ h2)) (cell_lt hW1 h3 (World.block_lt_of_cell? w _ h3)) h00
theorem keeps3_put {Bs Bm Bn : Nat} {w : World} (h1 : Bs < w.heap.size) (h2 : Bm < w.heap.size) (h3 : Bn < w.heap.size) (W : World) (l : Nat) (o o' : Obj) (hl : w.heap.size ≤ l) (_ : W.heap[l]? = some o) (_ : o.isCells = false) (_ : o.isWalk = false) : Keeps3 Bs Bm Bn W (W.putObj l o') := by
  have hg := grownBy_putObj' W l o'
  have hb : ∀ b, b < w.heap.size → (W.putObj l o').heap[b]? = W.heap[b]? := fun b hb => by
    rw [show (W.putObj l o').heap = W.heap.setIfInBounds l o' from rfl, Array.getElem?_setIfInBounds_ne (by omega)]
  exact ⟨hg.size, hb _ h1, hb _ h2, hb _ h3⟩

theorem four_boxes (s : Two) (n m : Int) (w W0 : World) (h : W0 = (((w.alloc (.cells #[.slice none 0 0] 26)).alloc (.cells #[.int .u64 s.a, .int .u64 s.b] 24)).alloc (.cells #[.int .i64 n] 3)).alloc (.cells #[.int .u64 m] 22)) :
    Boxed W0 w.heap.size 26 (.slice none 0 0) ∧ W0.cell? ⟨w.heap.size + 1, 0, none⟩ = some (.int .u64 s.a) ∧ W0.cell? ⟨w.heap.size + 1, 1, none⟩ = some (.int .u64 s.b) ∧ W0.cell? ⟨w.heap.size + 1 + 1, 0, none⟩ = some (.int .i64 n) ∧ W0.cell? ⟨w.heap.size + 1 + 1 + 1, 0, none⟩ = some (.int .u64 m) ∧ w.heap.size + 1 + 1 + 1 + 1 ≤ W0.heap.size ∧ Below w.heap.size w W0 := by
  obtain ⟨x1, h1⟩ : ∃ x, x = w.alloc (.cells #[.slice none 0 0] 26) := ⟨_, rfl⟩
  obtain ⟨x2, h2⟩ : ∃ x, x = x1.alloc (.cells #[.int .u64 s.a, .int .u64 s.b] 24) := ⟨_, rfl⟩
  obtain ⟨x3, h3⟩ : ∃ x, x = x2.alloc (.cells #[.int .i64 n] 3) := ⟨_, rfl⟩
  rw [← h1, ← h2, ← h3] at h
  have z1 : x1.heap.size = w.heap.size + 1 := by rw [h1]; simp
  have z2 : x2.heap.size = w.heap.size + 1 + 1 := by rw [h2]; simp [z1]
  have z3 : x3.heap.size = w.heap.size + 1 + 1 + 1 := by rw [h3]; simp [z2]
  have z4 : W0.heap.size = w.heap.size + 1 + 1 + 1 + 1 := by rw [h]; simp [z3]
  have b1 : Boxed x1 w.heap.size 26 (.slice none 0 0) := by rw [h1]; exact Boxed.new _ _ _
  have b2 : Boxed x2 w.heap.size 26 (.slice none 0 0) := by rw [h2]; exact b1.alloc _
  have b3 : Boxed x3 w.heap.size 26 (.slice none 0 0) := by rw [h3]; exact b2.alloc _
  have c2 := alloc_two x1 (.int .u64 s.a) (.int .u64 s.b) 24
  rw [← h2, z1] at c2
  have d3 : x3.cell? ⟨x2.heap.size, 0, none⟩ = some (.int .i64 n) := by rw [h3]; simp [World.cell?_alloc_new]
  rw [z2] at d3
  have d4 : W0.cell? ⟨x3.heap.size, 0, none⟩ = some (.int .u64 m) := by rw [h]; simp [World.cell?_alloc_new]
  rw [z3] at d4
  have e3 := bone x2 (.cells #[.int .i64 n] 3)
  have e4 := bone x3 (.cells #[.int .u64 m] 22)
  rw [← h3] at e3
  rw [← h] at e4
  have f1 := bone w (.cells #[.slice none 0 0] 26)
  rw [← h1] at f1
  have f2 := bone x1 (.cells #[.int .u64 s.a, .int .u64 s.b] 24)
  rw [← h2] at f2
  refine ⟨by rw [h]; exact b3.alloc _, cell_lt e4 (cell_lt e3 c2.1 (by omega)) (by omega), cell_lt e4 (cell_lt e3 c2.2 (by omega)) (by omega), cell_lt e4 d3 (by omega), d4, by omega, bthen (bthen (bthen f1 f2) e3) e4⟩
theorem keep_app {W w1 : World} {tmp : Obj} {v u : Value} {B b : Nat} (hg : (W.alloc tmp).grownBy w1 v.ownBlock) (hb : b < W.heap.size) (hne : b ≠ B) (hown : ∀ r, v.ownBlock = some r → r ≠ b) : (w1.setCell ⟨B, 0, none⟩ u).heap[b]? = W.heap[b]? := by
  refine (Below.heap_setCell _ _ _ b (by simpa using hne)).trans ((hg.block b (by simp; omega) (fun e => hown b e.symm rfl)).trans ?_)
  exact (bone W tmp).block b hb

set_option maxRecDepth 100000 in
set_option maxHeartbeats 1000000 in
theorem take_go (s : Two) (n m many : Int) (w : World) (hm : W64 m) (he : takeErr s n m many = 0) : Calls Try.prog 8 #[.agg #[.int .u64 s.a, .int .u64 s.b], .int .i64 n, .int .u64 m, .int .i64 many] w (TakeOut w (spansV (mergedV (takenV s n m many))) 0) := by
  have hma := fun W => masked_any n m W hm
  have hpg := fun W => pages_any _ [s] _ (rowOne W s) (by simp)
  have hpe : (!([s].any pageBad)) = !(pageBad s) := by simp
  rw [hpe] at hpg
  have hct := fun W => count_any s n m W hm
  obtain ⟨hM, hpb, h1, h2, hcn⟩ : maskedV n m = true ∧ pageBad s = false ∧ ¬ many < 1 ∧ ¬ 4096 < many ∧ ¬ countV s n m < many := by
    unfold takeErr at he
    by_cases hM : maskedV n m = true
    · rw [if_pos hM] at he
      by_cases hp : pageBad s = true ∨ many < 1 ∨ 4096 < many
      · rw [if_pos hp] at he; cases he
      · rw [if_neg hp] at he
        by_cases hc : countV s n m < many
        · rw [if_pos hc] at he; cases he
        · exact ⟨hM, by rw [Bool.eq_false_iff]; exact fun h => hp (.inl h), fun h => hp (.inr (.inl h)), fun h => hp (.inr (.inr h)), hc⟩
    · rw [if_neg hM] at he; cases he
  obtain ⟨g1, g2, g3, g4, g5, g6⟩ := pageBad_parts hpb
  have hv := someV_iff.1 (maskedV_iff.1 hM).1
  have hsa := s.ha.1
  obtain ⟨N, hN⟩ := Int.eq_ofNat_of_zero_le (show 0 ≤ n by omega)
  obtain ⟨A, hA⟩ := Int.eq_ofNat_of_zero_le (show 0 ≤ s.a / 4096 by omega)
  obtain ⟨c, hc⟩ := Int.eq_ofNat_of_zero_le (show 0 ≤ s.b / 4096 by omega)
  obtain ⟨q, hq⟩ := Int.eq_ofNat_of_zero_le (show 0 ≤ many by omega)
  have hL : takenV s n m many = (pagesV m N A c).take q := by
    unfold takenV; rw [hA, hc, hN, hq]; rfl
  have hCl : countV s n m = ((pagesV m N A c).length : Int) := by
    unfold countV; rw [if_pos hM, g5, g6, hA, hc, hN, pagesV_len]; rfl
  have hql : q ≤ (pagesV m N A c).length := by omega
  have hA' : s.a = 4096 * (A : Int) := by omega
  have hc' : s.b = 4096 * (c : Int) := by omega
  rw [hL]
  rw [hM] at hma
  rw [hpb] at hpg
  clear he hpe hv hCl hA hc hL g3 g4 g5 g6 hpb
  have hq4 : q ≤ 4096 := by omega
  replace hN := Lib.hid hN
  replace hA' := Lib.hid hA'
  replace hc' := Lib.hid hc'
  replace hq := Lib.hid hq
  generalize countV s n m = C at *
  obtain ⟨i0, hi0, hz00, hz01, hz02⟩ := info_parts infoSpan
  refine (callsIn_wide (n := 9)).1 ?_
  refine callsIn_of_wp_marks Try.func8 rfl trivial ?_ rfl
  simp only [Try.ntmps8, List.size_toArray, List.length_cons, List.length_nil, Nat.reduceAdd, Nat.reduceSub, Array.replicate_succ, Array.replicate_zero, List.push_toArray, List.append_toArray, List.nil_append, List.cons_append]
  gi_wp2_with (refine ⟨trivial, ?_⟩; gi_at_call 21; refine (callsIn_wide.2 (hma _)).mono ?_; rintro e w1 ⟨rfl, rfl⟩)
  obtain ⟨W1, hW1⟩ : ∃ W1, W1 = (w.alloc (.cells #[.int .u64 s.a, .int .u64 s.b] 24)).alloc (.cells #[.int .i64 many] 3) := ⟨_, rfl⟩
  obtain ⟨b0, b1, b2, hz1, hb0⟩ := two_boxes s many w W1 hW1
  have hpgW := hpg W1
  have hszW : W1.heap.size = w.heap.size + 1 + 1 := by rw [hW1]; simp
  rw [hszW] at hpgW
  rw [← hW1]
  clear hW1 hszW hpg
  gi_wp2
  refine ⟨trivial, ?_⟩
  refine (callsIn_wide.2 hpgW).mono ?_; rintro e w2 ⟨rfl, hb2⟩
  have hz2 : W1.heap.size + 1 ≤ w2.heap.size := by have := hb2.size; simpa using this
  have c2 : w2.cell? ⟨w.heap.size + 1, 0, none⟩ = some (.int .i64 many) := cell_lt hb2 (cell_lt (bone _ _) b2 (by omega)) (by simp; omega)
  have c0 : w2.cell? ⟨w.heap.size, 0, none⟩ = some (.int .u64 s.a) := cell_lt hb2 (cell_lt (bone _ _) b0 (by omega)) (by simp; omega)
  have c1 : w2.cell? ⟨w.heap.size, 1, none⟩ = some (.int .u64 s.b) := cell_lt hb2 (cell_lt (bone _ _) b1 (by omega)) (by simp; omega)
  have hB2 := bthen (hb0.alloc hb0.size _) hb2
  clear hb2 hb0 b0 b1 b2 hpgW
  gi_wp2
  refine wpIn_wide.2 ?_
  refine region_later w2.heap.size w2 (Below.refl _ _) (by kernel_rfl) (by kernel_rfl) ?_
  have y0 := later_cell (B := w2.heap.size) c0 (by omega)
  have y1 := later_cell (B := w2.heap.size) c1 (by omega)
  have y2 := later_cell (B := w2.heap.size) c2 (by omega)
  have hwm : IntKind.u64.wrap many = many := by rw [IntKind.wrap_u64]; omega
  repeat (quiet_step ((go_at_call 13; exact quiet_later (Nat.le_refl _) (hct _))))
  refine wpQuiet_nil ?_
  first | (rintro _ ⟨X, rfl⟩) | (intro X)
  have hX := X.h
  clear y0 y1 y2
  generalize X.x = w3 at *
  have d0 := cell_lt hX c0 (by omega)
  have d1 := cell_lt hX c1 (by omega)
  have d2 := cell_lt hX c2 (by omega)
  have hz3 : w.heap.size + 2 ≤ w3.heap.size := by have := hX.size; omega
  have hB3 := bthen hB2 hX
  clear hX c0 c1 c2 hct hma
  obtain ⟨Wl, hWl⟩ : ∃ Wl, Wl = w3.alloc (.cells #[.slice none 0 0] 26) := ⟨_, rfl⟩
  have hlz : Wl.heap.size = w3.heap.size + 1 := by rw [hWl]; simp
  have e0 : (w3.alloc (.cells #[.slice none 0 0] 26)).cell? ⟨w.heap.size, 0, none⟩ = some (.int .u64 s.a) := cell_lt (bone _ _) d0 (by omega)
  have e1 : (w3.alloc (.cells #[.slice none 0 0] 26)).cell? ⟨w.heap.size, 1, none⟩ = some (.int .u64 s.b) := cell_lt (bone _ _) d1 (by omega)
  have hpi := pages_in 8 s n m Wl
  rw [hlz, hWl] at hpi
  clear hlz
  gi_wp2_with (refine ⟨trivial, ?_⟩; gi_at_call 23; refine hpi.mono ?_; rintro e w' ⟨rfl, rfl⟩)
  clear hWl hpi e0 e1 d0 d1
  obtain ⟨W0, hW0⟩ : ∃ W0, W0 = (((w3.alloc (.cells #[.slice none 0 0] 26)).alloc (.cells #[.int .u64 s.a, .int .u64 s.b] 24)).alloc (.cells #[.int .i64 n] 3)).alloc (.cells #[.int .u64 m] 22) := ⟨_, rfl⟩
  rw [← hW0]
  obtain ⟨bL, f0, f1, f2, f3, hz0, hB0⟩ := four_boxes s n m w3 W0 hW0
  clear hW0
  refine wpIn_rangeFunc_ownH rfl (by decide) (gf := 39) (lb := #[.pointer (some ⟨w3.heap.size + 1, 0, none⟩), .pointer (some ⟨w3.heap.size + 1 + 1 + 1, 0, none⟩), .pointer (some ⟨w3.heap.size + 1 + 1, 0, none⟩)]) rfl trivial (enters_of Try.func39 (by kernel_rfl) rfl)
    (pages_stops _ (w3.heap.size + 1) (w3.heap.size + 1 + 1 + 1) (w3.heap.size + 1 + 1) W0 (by decide) s n m hm hM N A c hN.out hA'.out hc'.out g2 f0 f1 f3 f2) Keeps3.trans (keeps3_put (by omega) (by omega) (by omega)) (Below.refl _ _) (fun _ => rfl)
    (fun pre W => (∃ v, Boxed W w3.heap.size 26 v ∧ W.ownsRow w3.heap.size 24 2 v pre.length (encs pre) ∧ (pre.length < q ∧ ∀ r, v.ownBlock = some r → W0.heap.size ≤ r)) ∧ Below w3.heap.size W0 W)
    (fun c pre W => c = .exit 1 ∧ (∃ v, Boxed W w3.heap.size 26 v ∧ W.ownsRow w3.heap.size 24 2 v pre.length (encs pre) ∧ pre.length = q) ∧ Below w3.heap.size W0 W)
    (OwnFrom.and (Own.from (holdsRow_own w3.heap.size w3.heap.size 26 24 2 (fun pre => pre.length) (fun pre => encs pre) (fun pre v => pre.length < q ∧ ∀ r, v.ownBlock = some r → W0.heap.size ≤ r)) _) (ownFrom_below hB0.size hB0.size))
    (fun c s W W' row hs hg hr => ⟨hs.1, (OwnFrom.and (Own.from (holdsRow_own w3.heap.size w3.heap.size 26 24 2 (fun pre : List Two => pre.length) (fun pre => encs pre) (fun pre v => pre.length = q)) _) (ownFrom_below hB0.size hB0.size)) s W W' row hs.2 hg hr⟩)
    ⟨⟨_, bL, World.ownsRow_nil _ _ _ _, by have := hq.out; simp; omega, fun r e => by simp [Value.ownBlock] at e⟩, Below.refl _ _⟩
    (fun x a' W => ∃ Bx, W0.heap.size ≤ Bx ∧ W.cell? ⟨Bx, 0, none⟩ = some (.int .u64 x.a) ∧ W.cell? ⟨Bx, 1, none⟩ = some (.int .u64 x.b) ∧ a' = { tmps := #[.agg #[.int .u64 s.a, .int .u64 s.b], .int .i64 n, .int .u64 m, .int .i64 many, .pointer (some ⟨w.heap.size, 0, none⟩), undef, undef, .pointer (some ⟨w.heap.size + 1, 0, none⟩), .slice none 0 0, .int .i64 0, .pointer (some ⟨w3.heap.size, 0, none⟩), .pointer (some ⟨Bx, 0, none⟩), .bool false, .int .i64 n, .int .u64 m, .bool true, .bool false, .bool (decide (many < 1) || decide (4096 < many)), .agg #[.int .u64 s.a, .int .u64 s.b], .slice (some ⟨w.heap.size + 1 + 1, 0, none⟩) 1 1, .bool true, .bool false, .bool false, .int .i64 many, .bool (decide (many < 1)), .bool (decide (many < 1)), .bool (decide (many < 1)), .int .i64 many, .bool (decide (4096 < many)), .bool (decide (many < 1) || decide (4096 < many)), .bool (decide (C < many)), .agg #[.int .u64 s.a, .int .u64 s.b], .int .i64 n, .int .u64 m, .int .u64 C, .int .i64 many, .int .u64 many, .bool (decide (C < many)), .agg #[.int .u64 s.a, .int .u64 s.b], .int .i64 n, .int .u64 m, .func (.func 39) #[] #[.pointer (some ⟨w3.heap.size + 1, 0, none⟩), .pointer (some ⟨w3.heap.size + 1 + 1 + 1, 0, none⟩), .pointer (some ⟨w3.heap.size + 1 + 1, 0, none⟩)], .agg #[.int .u64 x.a, .int .u64 x.b], undef, undef, undef, undef, undef, undef, undef, undef, undef, undef], defers := [] })
    (fun x a' _ X Y row hs hg hr => by obtain ⟨Bx, h1, h2, h3, h4⟩ := hs; exact ⟨Bx, h1, cell_kept h2 hg (fun r e => (hr r e).2), cell_kept h3 hg (fun r e => (hr r e).2), h4⟩)
    ?assign ?body ?done ?stop
  case assign =>
    rintro l1 pre x W K ⟨⟨v, hv, hown, hG⟩, hB⟩ hK
    gi_wp2
    have hz := hB.size
    exact hK _ _ ((KeepsOthers.alloc _ _).from _) (Keeps3.of_below (bone _ _) (by omega) (by omega) (by omega)) ⟨⟨v, hv.alloc _, hown.alloc _, hG⟩, hB.alloc (by omega) _⟩ ⟨W.heap.size, hz, by simp [World.cell?_alloc_new], by simp [World.cell?_alloc_new], rfl⟩
  case body =>
    rintro l1 pre x a' W hl1 ⟨r, hr⟩ ⟨⟨v, hv, hown, hG1, hG2⟩, hB⟩ ⟨Bx, hBx, c0, c1, rfl⟩ hlt
    have hc := hv.cell
    have hz := hB.size
    have hw3 : w3.heap.size ≤ W.heap.size := by omega
    have hq' := hq.out
    have p2 : W.cell? ⟨w.heap.size + 1, 0, none⟩ = some (.int .i64 many) := cell_lt hB (cell_lt hB0 d2 (by omega)) (by omega)
    by_cases hlast : pre.length + 1 = q
    · have k1 : ((pre.length : Int) + 1 == many) = true := by simp; omega
      replace hlast := Lib.hid hlast
      replace hq' := Lib.hid hq'
      gi_wp2_with (gi_at_builtin; refine wpListIn_append_own_at _ rfl _ _ 26 rfl w3.heap.size 24 i0 _ 2 16 Try.underlying26 hi0 hz00 hz01 hz02 rfl (by decide) _ _ _ rfl (hown.alloc _) ⟨W.heap.size, 0, none⟩ 1 1 [.int .u64 x.a, .int .u64 x.b] rfl rfl (cell_two_new _ _ _ _) (by intro u hu; simp at hu; rcases hu with rfl | rfl <;> rfl) (by unfold maxLen; omega) (by omega) (by simp; omega) ?_; intro v' w1 hown' hgrow _ hat; replace hgrow : (W.alloc (.cells #[.int .u64 x.a, .int .u64 x.b] 24)).grownBy w1 v.ownBlock := hgrow; replace hat : v'.ownBlock = v.ownBlock ∨ v'.ownBlock = some (W.alloc (.cells #[.int .u64 x.a, .int .u64 x.b] 24)).heap.size := hat; obtain ⟨g', cap', rfl⟩ := ownsRow_succ hown'; obtain ⟨hv1, hv2, hr2, hk2, hb2⟩ := hv.appended (by decide) hown hw3 (Nat.le_refl _) hown' hgrow; have hc1 := hv1.cell; have hf1 := hv1.frozen; have hc2 := hv2.cell; have p2' := cell_lt hb2 p2 (by omega))
      exact ⟨hk2.from _, rfl, ⟨_, hv2, by rw [encs_snoc, List.length_append]; exact hr2, by rw [List.length_append]; exact hlast.out⟩, hB.trans hb2⟩
    · have k1 : ((pre.length : Int) + 1 == many) = false := by simp; omega
      have hlt' : pre.length + 1 < q := by omega
      clear hlast
      replace hq' := Lib.hid hq'
      gi_wp2_with (gi_at_builtin; refine wpListIn_append_own_at _ rfl _ _ 26 rfl w3.heap.size 24 i0 _ 2 16 Try.underlying26 hi0 hz00 hz01 hz02 rfl (by decide) _ _ _ rfl (hown.alloc _) ⟨W.heap.size, 0, none⟩ 1 1 [.int .u64 x.a, .int .u64 x.b] rfl rfl (cell_two_new _ _ _ _) (by intro u hu; simp at hu; rcases hu with rfl | rfl <;> rfl) (by unfold maxLen; omega) (by omega) (by simp; omega) ?_; intro v' w1 hown' hgrow _ hat; replace hgrow : (W.alloc (.cells #[.int .u64 x.a, .int .u64 x.b] 24)).grownBy w1 v.ownBlock := hgrow; replace hat : v'.ownBlock = v.ownBlock ∨ v'.ownBlock = some (W.alloc (.cells #[.int .u64 x.a, .int .u64 x.b] 24)).heap.size := hat; obtain ⟨g', cap', rfl⟩ := ownsRow_succ hown'; obtain ⟨hv1, hv2, hr2, hk2, hb2⟩ := hv.appended (by decide) hown hw3 (Nat.le_refl _) hown' hgrow; have hc1 := hv1.cell; have hf1 := hv1.frozen; have hc2 := hv2.cell; have p2' := cell_lt hb2 p2 (by omega))
      have hGn : ∀ r, (Value.slice (some ⟨g', 0, none⟩) (pre.length + 1) cap').ownBlock = some r → W0.heap.size ≤ r := fun r e => by
        rcases hat with h | h
        · exact hG2 r (h.symm.trans e)
        · rw [h] at e; cases e; simp; omega
      exact ⟨hk2.from _, ⟨hb2.size, keep_app hgrow (by omega) (by omega) (fun r e => by have := hG2 r e; omega), keep_app hgrow (by omega) (by omega) (fun r e => by have := hG2 r e; omega), keep_app hgrow (by omega) (by omega) (fun r e => by have := hG2 r e; omega)⟩, ⟨_, hv2, by rw [encs_snoc, List.length_append]; exact hr2, by rw [List.length_append]; exact hlt', hGn⟩, hB.trans hb2⟩
  case done =>
    rintro D ys W hD rfl ⟨⟨v, hv, hown, hG⟩, hB⟩ hK
    exact absurd hG.1 (by omega)
  case stop =>
    rintro D cc pre W hD ⟨t, ht⟩ ⟨rfl, ⟨v, hv, hown, hlen⟩, hB⟩ hK
    have hc := hv.cell
    have hz := hB.size
    have hpre : (pagesV m N A c).take q = pre := by rw [ht, ← hlen, List.take_left']; rfl
    have hrow := OwnTwo.row (E := 24) hown
    have hmg := fun W h => merge_any v pre W h (by omega)
    replace hpre := Lib.hid hpre
    clear ht hlen
    obtain ⟨a9, c9, rfl, _, _⟩ := id hrow
    gi_wp2_with (refine ⟨trivial, ?_⟩; gi_at_call 24; refine (callsIn_wide.2 (hmg _ hrow)).mono ?_; rintro e w5 ⟨rv, rfl, hr5, hb5⟩)
    have hD5 : w5.heap[D]? = some (.deferred (some [])) := (hb5.block D (Array.getElem?_eq_some_iff.1 hK).1).trans hK
    have hB5 : Below w.heap.size w w5 := bthen (hB3.trans ((hB0.mono (by omega)).trans (hB.mono (by omega)))) hb5
    obtain ⟨a8, c8, rfl, _, _⟩ := OwnTwo.row hr5
    rw [hpre.out]
    refine ⟨by simp, .inl ⟨_, _, rfl, run_takeDeferred hD5, ?_⟩⟩
    refine ⟨.tuple #[.slice a8 (spansV (mergedV pre)).length c8, .int .i64 0], by simp [results, Try.results8, go_sem], _, rfl, ?_, hB5.trans (belowK_b (w := w) (Nat.le_refl _) w5 D _ _ (by omega) hD5 rfl rfl)⟩
    exact ownsRow_putObj (OwnTwo.mono hr5 (by omega)) _ hD5 rfl
end Go.Proofs.Ytdeldhoeelijeaa
