/- What the program takes of colored pages, where it refuses. -/
import Derived.Test.YtdeldhoeelijeaaColorE
import Derived.Test.YtdeldhoeelijeaaSpanQ
namespace Go.Proofs.Ytdeldhoeelijeaa
open Go Go.RowKit Go.BigFrame

/-- Why there are no pages of some colors; 0: there are. -/
def takeErr (s : Two) (n m many : Int) : Int :=
  if maskedV n m = true then (if pageBad s = true ∨ many < 1 ∨ 4096 < many then 1 else if countV s n m < many then 110 else 0) else 340
def takenV (s : Two) (n m many : Int) : List Two := (pagesV m n.toNat (s.a / 4096).toNat (s.b / 4096).toNat).take many.toNat
def takeL (s : Two) (n m many : Int) : List Two := if takeErr s n m many = 0 then spansV (mergedV (takenV s n m many)) else []
/-- What 'Take' leaves: spans of its own, and the error's number. -/
def TakeOut (w : World) (l : List Two) (er : Int) (e : Ending) (w' : World) : Prop := ∃ r, e = .returned (.tuple #[r, .int .i64 er]) ∧ OwnTwo 24 w' w.heap.size r l ∧ Below w.heap.size w w'
theorem rowOne (W : World) (s : Two) : RowTwo (W.alloc (.cells #[.int .u64 s.a, .int .u64 s.b] 24)) (.slice (some ⟨W.heap.size, 0, none⟩) 1 1) [s] := by
  refine ⟨_, _, rfl, Nat.le_refl _, fun _ => ⟨_, _, rfl, by simp, fun i hi => ?_⟩⟩
  have : i = 0 := by simp at hi; omega
  subst this
  exact alloc_two W _ _ _

theorem two_boxes (s : Two) (many : Int) (w W1 : World) (h : W1 = (w.alloc (.cells #[.int .u64 s.a, .int .u64 s.b] 24)).alloc (.cells #[.int .i64 many] 3)) :
    W1.cell? ⟨w.heap.size, 0, none⟩ = some (.int .u64 s.a) ∧ W1.cell? ⟨w.heap.size, 1, none⟩ = some (.int .u64 s.b) ∧ W1.cell? ⟨w.heap.size + 1, 0, none⟩ = some (.int .i64 many) ∧ w.heap.size + 2 ≤ W1.heap.size ∧ Below w.heap.size w W1 := by
  subst h
  have k := alloc_two w (.int .u64 s.a) (.int .u64 s.b) 24
  refine ⟨cell_lt (bone _ _) k.1 (by simp), cell_lt (bone _ _) k.2 (by simp), ?_, by simp, ((Below.refl _ w).alloc (Nat.le_refl _) _).alloc (by simp) _⟩
  have h : ((w.alloc (.cells #[.int .u64 s.a, .int .u64 s.b] 24)).alloc (.cells #[.int .i64 many] 3)).cell? ⟨(w.alloc (.cells #[.int .u64 s.a, .int .u64 s.b] 24)).heap.size, 0, none⟩ = some (.int .i64 many) := by simp
  rw [World.size_alloc] at h
  exact h

set_option maxRecDepth 20000 in
set_option maxHeartbeats 4000000 in
theorem take_bad (s : Two) (n m many : Int) (w : World) (hm : W64 m) (he : takeErr s n m many ≠ 0) : Calls Try.prog 8 #[.agg #[.int .u64 s.a, .int .u64 s.b], .int .i64 n, .int .u64 m, .int .i64 many] w (TakeOut w [] (takeErr s n m many)) := by
  have hma := fun W => masked_any n m W hm
  have hpg := fun W => pages_any _ [s] _ (rowOne W s) (by simp)
  have hpe : (!([s].any pageBad)) = !(pageBad s) := by simp
  rw [hpe] at hpg
  have hct := fun W => count_any s n m W hm
  cases hM : maskedV n m
  · have e : takeErr s n m many = 340 := by unfold takeErr; rw [if_neg (by rw [hM]; simp)]
    rw [e]
    rw [hM] at hma
    clear he e
    go_enter Try.func8, Try.ntmps8
    go_wp2_with fail
    refine (hma _).mono ?_; rintro e w1 ⟨rfl, rfl⟩
    go_wp2_with fail
    go_ret2
    exact ⟨_, rfl, OwnTwo.nil _ _ _, ((Below.refl _ w).alloc (Nat.le_refl _) _).alloc (by simp) _⟩
  · rw [hM] at hma
    by_cases hp : pageBad s = true ∨ many < 1 ∨ 4096 < many
    · have e : takeErr s n m many = 1 := by unfold takeErr; rw [if_pos hM, if_pos hp]
      rw [e]
      clear he e
      cases hpb : pageBad s
      · rw [hpb] at hpg
        have hp' : many < 1 ∨ (¬ many < 1 ∧ 4096 < many) := by rw [hpb] at hp; simp at hp; omega
        clear hp
        rcases hp' with h1 | ⟨h1, h2⟩
        all_goals
          go_enter Try.func8, Try.ntmps8
          go_wp2_with fail
          refine (hma _).mono ?_; rintro e w1 ⟨rfl, rfl⟩
          obtain ⟨W1, hW1⟩ : ∃ W1, W1 = (w.alloc (.cells #[.int .u64 s.a, .int .u64 s.b] 24)).alloc (.cells #[.int .i64 many] 3) := ⟨_, rfl⟩
          obtain ⟨b0, b1, b2, hz1, hb0⟩ := two_boxes s many w W1 hW1
          rw [← hW1]
          clear hW1
          go_wp2_with fail
          refine (hpg _).mono ?_; rintro e w2 ⟨rfl, hb2⟩
          have hz2 : W1.heap.size + 1 ≤ w2.heap.size := by have := hb2.size; simpa using this
          have c2 : w2.cell? ⟨w.heap.size + 1, 0, none⟩ = some (.int .i64 many) := cell_lt hb2 (cell_lt (bone _ _) b2 (by omega)) (by simp; omega)
          have c0 : w2.cell? ⟨w.heap.size, 0, none⟩ = some (.int .u64 s.a) := cell_lt hb2 (cell_lt (bone _ _) b0 (by omega)) (by simp; omega)
          have c1 : w2.cell? ⟨w.heap.size, 1, none⟩ = some (.int .u64 s.b) := cell_lt hb2 (cell_lt (bone _ _) b1 (by omega)) (by simp; omega)
          have hB2 := bthen (hb0.alloc hb0.size _) hb2
          clear hb2 hb0 b0 b1 b2
          go_wp2_with fail
          go_ret2
          exact ⟨_, rfl, OwnTwo.nil _ _ _, hB2⟩
      · rw [hpb] at hpg
        clear hp
        go_enter Try.func8, Try.ntmps8
        go_wp2_with fail
        refine (hma _).mono ?_; rintro e w1 ⟨rfl, rfl⟩
        obtain ⟨W1, hW1⟩ : ∃ W1, W1 = (w.alloc (.cells #[.int .u64 s.a, .int .u64 s.b] 24)).alloc (.cells #[.int .i64 many] 3) := ⟨_, rfl⟩
        obtain ⟨b0, b1, b2, hz1, hb0⟩ := two_boxes s many w W1 hW1
        rw [← hW1]
        clear hW1
        go_wp2_with fail
        refine (hpg _).mono ?_; rintro e w2 ⟨rfl, hb2⟩
        have hz2 : W1.heap.size + 1 ≤ w2.heap.size := by have := hb2.size; simpa using this
        have c2 : w2.cell? ⟨w.heap.size + 1, 0, none⟩ = some (.int .i64 many) := cell_lt hb2 (cell_lt (bone _ _) b2 (by omega)) (by simp; omega)
        have c0 : w2.cell? ⟨w.heap.size, 0, none⟩ = some (.int .u64 s.a) := cell_lt hb2 (cell_lt (bone _ _) b0 (by omega)) (by simp; omega)
        have c1 : w2.cell? ⟨w.heap.size, 1, none⟩ = some (.int .u64 s.b) := cell_lt hb2 (cell_lt (bone _ _) b1 (by omega)) (by simp; omega)
        have hB2 := bthen (hb0.alloc hb0.size _) hb2
        clear hb2 hb0 b0 b1 b2
        go_wp2_with fail
        go_ret2
        exact ⟨_, rfl, OwnTwo.nil _ _ _, hB2⟩
    · have hpb : pageBad s = false := by rw [Bool.eq_false_iff]; exact fun h => hp (.inl h)
      have h1 : ¬ many < 1 := fun h => hp (.inr (.inl h))
      have h2 : ¬ 4096 < many := fun h => hp (.inr (.inr h))
      have hcn : countV s n m < many := by
        rcases Int.lt_or_le (countV s n m) many with h | h
        · exact h
        · exact absurd (by unfold takeErr; rw [if_pos hM, if_neg hp, if_neg (by omega)]) he
      have e : takeErr s n m many = 110 := by unfold takeErr; rw [if_pos hM, if_neg hp, if_pos hcn]
      rw [e]
      rw [hpb] at hpg
      clear he e hp
      generalize countV s n m = C at *
      go_enter Try.func8, Try.ntmps8
      go_wp2_with fail
      refine (hma _).mono ?_; rintro e w1 ⟨rfl, rfl⟩
      obtain ⟨W1, hW1⟩ : ∃ W1, W1 = (w.alloc (.cells #[.int .u64 s.a, .int .u64 s.b] 24)).alloc (.cells #[.int .i64 many] 3) := ⟨_, rfl⟩
      obtain ⟨b0, b1, b2, hz1, hb0⟩ := two_boxes s many w W1 hW1
      rw [← hW1]
      clear hW1
      go_wp2_with fail
      refine (hpg _).mono ?_; rintro e w2 ⟨rfl, hb2⟩
      have hz2 : W1.heap.size + 1 ≤ w2.heap.size := by have := hb2.size; simpa using this
      have c2 : w2.cell? ⟨w.heap.size + 1, 0, none⟩ = some (.int .i64 many) := cell_lt hb2 (cell_lt (bone _ _) b2 (by omega)) (by simp; omega)
      have c0 : w2.cell? ⟨w.heap.size, 0, none⟩ = some (.int .u64 s.a) := cell_lt hb2 (cell_lt (bone _ _) b0 (by omega)) (by simp; omega)
      have c1 : w2.cell? ⟨w.heap.size, 1, none⟩ = some (.int .u64 s.b) := cell_lt hb2 (cell_lt (bone _ _) b1 (by omega)) (by simp; omega)
      have hB2 := bthen (hb0.alloc hb0.size _) hb2
      clear hb2 hb0 b0 b1 b2
      go_wp2_with fail
      refine region_later w2.heap.size w2 (Below.refl _ _) (by kernel_rfl) (by kernel_rfl) ?_
      have y0 := later_cell (B := w2.heap.size) c0 (by omega)
      have y1 := later_cell (B := w2.heap.size) c1 (by omega)
      have y2 := later_cell (B := w2.heap.size) c2 (by omega)
      have hwm : IntKind.u64.wrap many = many := by rw [IntKind.wrap_u64]; omega
      repeat (quiet_step ((go_at_call 13; exact quiet_later (Nat.le_refl _) (hct _))))
      refine wpQuiet_nil ?_
      first | (rintro _ ⟨X, rfl⟩) | (intro X)
      have hX := X.h
      clear y0 y1 y2
      go_wp2_with fail
      go_ret2
      exact ⟨_, rfl, OwnTwo.nil _ _ _, bthen hB2 hX⟩
end Go.Proofs.Ytdeldhoeelijeaa
