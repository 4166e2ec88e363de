/- The walk of the statement SpanMutual. -/
import Derived.Test.YtcfblkmcaaaipaaSpanR
import Derived.Test.YtcfblkmcaaaipaaSpanE
import Derived.Test.YtcfblkmcaaaipaaOrd
import Derived.BigQuiet
namespace Go.Proofs.Ytcfblkmcaaaipaa
open Go.RowKit Go.BigFrame

theorem boxes2 {w w1 : World} {p q r s : Value} {E F : TypeId} (hb : Below ((w.alloc (.cells #[p, q] E)).alloc (.cells #[r, s] F)).heap.size ((w.alloc (.cells #[p, q] E)).alloc (.cells #[r, s] F)) w1) :
    (w1.cell? ⟨w.heap.size, 0, none⟩ = some p ∧ w1.cell? ⟨w.heap.size, 1, none⟩ = some q) ∧ (w1.cell? ⟨w.heap.size + 1, 0, none⟩ = some r ∧ w1.cell? ⟨w.heap.size + 1, 1, none⟩ = some s) ∧ w.heap.size < w1.heap.size ∧ w.heap.size + 1 < w1.heap.size ∧ Below w.heap.size w w1 := by
  have h1 := alloc_two w p q E
  have h2 := alloc_two (w.alloc (.cells #[p, q] E)) r s F
  have hz : (w.alloc (.cells #[p, q] E)).heap.size = w.heap.size + 1 := by simp
  rw [hz] at h2
  have hs := hb.size
  simp only [World.size_alloc] at hs
  have hq := (bone (w.alloc (.cells #[p, q] E)) (.cells #[r, s] F))
  exact ⟨⟨cell_lt hb (cell_lt hq h1.1 (by simp)) (by simp; omega), cell_lt hb (cell_lt hq h1.2 (by simp)) (by simp; omega)⟩, ⟨cell_lt hb h2.1 (by simp), cell_lt hb h2.2 (by simp)⟩, by omega, by omega, bnew (bnew hb)⟩

theorem within_overlap {s t : Two} (h : withinB s.a s.b t.a t.b = true) : overlapB s.a s.b t.a t.b = true := by
  obtain ⟨h1, h2, h3, h4⟩ := withinB_iff.1 h
  have := goodB_iff.1 h1
  have := goodB_iff.1 h2
  exact overlapB_iff.2 ⟨h1, h2, by omega, by omega⟩
theorem within_self (s : Two) : withinB s.a s.b s.a s.b = goodB s.a s.b := by
  rw [Bool.eq_iff_iff, withinB_iff]
  constructor
  · rintro ⟨h, _⟩; exact h
  · intro h; exact ⟨h, h, by omega, by omega⟩

set_option maxRecDepth 20000 in
set_option maxHeartbeats 4000000 in
theorem spanMutual_walk (s t : Two) (w : World) :
    Calls Try.prog 6 #[.agg #[.int .u64 s.a, .int .u64 s.b], .agg #[.int .u64 t.a, .int .u64 t.b]] w fun e w' => e = .returned (.bool true) ∧ Below w.heap.size w w' := by
  have O1 := fun W => overlap_any s.a s.b t.a t.b W s.ha s.hb t.ha t.hb
  have O2 := fun W => overlap_any t.a t.b s.a s.b W t.ha t.hb s.ha s.hb
  have W1 := fun W => within_any s.a s.b t.a t.b W s.ha s.hb t.ha t.hb
  have W2 := fun W => within_any s.a s.b s.a s.b W s.ha s.hb s.ha s.hb
  have G1 := fun W => good_any s.a s.b W s.ha s.hb
  have hi := within_overlap (s := s) (t := t)
  rw [within_self] at W2
  rw [overlapB_comm] at O2
  generalize hw : withinB s.a s.b t.a t.b = wv at *
  generalize ho : overlapB s.a s.b t.a t.b = ov at *
  generalize goodB s.a s.b = gv at *
  clear hw ho
  rcases Bool.eq_false_or_eq_true wv with rfl | rfl
  · obtain rfl := hi rfl
    clear hi
    cases gv
    all_goals

      go_enter Try.func6, Try.ntmps6
      go_wp2_with fail
      refine (awake_any _).mono ?_; rintro e w1 ⟨rfl, hb1⟩
      obtain ⟨⟨c0, c1⟩, ⟨c2, c3⟩, hz2, hz1, hW⟩ := boxes2 hb1
      clear hb1
      go_wp2_with fail
      have y0 := later_cell c0 hz2
      have y1 := later_cell c1 hz2
      have y2 := later_cell c2 hz1
      have y3 := later_cell c3 hz1
      refine region_later w1.heap.size w1 (Below.refl _ _) (by kernel_rfl) (by kernel_rfl) ?_
      repeat (go_big_quiet_step (fail))
      quiet_step ((go_at_call 19; exact quiet_later (Nat.le_refl _) (O1 _)))
      repeat (go_big_quiet_step (fail))
      quiet_step ((go_at_call 19; exact quiet_later (Nat.le_refl _) (O2 _)))
      repeat (go_big_quiet_step (fail))
      quiet_step ((go_at_call 20; exact quiet_later (Nat.le_refl _) (W1 _)))
      repeat (go_big_quiet_step (fail))
      quiet_step ((go_at_call 19; exact quiet_later (Nat.le_refl _) (O1 _)))
      repeat (go_big_quiet_step (fail))
      quiet_step ((go_at_call 20; exact quiet_later (Nat.le_refl _) (W2 _)))
      repeat (go_big_quiet_step (fail))
      quiet_step ((go_at_call 21; exact quiet_later (Nat.le_refl _) (G1 _)))
      repeat (go_big_quiet_step (fail))
      refine wpQuiet_nil ?_
      rintro _ ⟨X, rfl⟩
      have hX := X.h
      clear y0 y1 y2 y3
      go_wp2_with fail
      go_ret
      exact ⟨rfl, hW.trans (hX.mono hW.size)⟩
  · clear hi
    cases gv <;> cases ov
    all_goals
      go_enter Try.func6, Try.ntmps6
      go_wp2_with fail
      refine (awake_any _).mono ?_; rintro e w1 ⟨rfl, hb1⟩
      obtain ⟨⟨c0, c1⟩, ⟨c2, c3⟩, hz2, hz1, hW⟩ := boxes2 hb1
      clear hb1
      go_wp2_with fail
      have y0 := later_cell c0 hz2
      have y1 := later_cell c1 hz2
      have y2 := later_cell c2 hz1
      have y3 := later_cell c3 hz1
      refine region_later w1.heap.size w1 (Below.refl _ _) (by kernel_rfl) (by kernel_rfl) ?_
      repeat (go_big_quiet_step (fail))
      quiet_step ((go_at_call 19; exact quiet_later (Nat.le_refl _) (O1 _)))
      repeat (go_big_quiet_step (fail))
      quiet_step ((go_at_call 19; exact quiet_later (Nat.le_refl _) (O2 _)))
      repeat (go_big_quiet_step (fail))
      quiet_step ((go_at_call 20; exact quiet_later (Nat.le_refl _) (W1 _)))
      repeat (go_big_quiet_step (fail))
      quiet_step ((go_at_call 20; exact quiet_later (Nat.le_refl _) (W2 _)))
      repeat (go_big_quiet_step (fail))
      quiet_step ((go_at_call 21; exact quiet_later (Nat.le_refl _) (G1 _)))
      repeat (go_big_quiet_step (fail))
      refine wpQuiet_nil ?_
      rintro _ ⟨X, rfl⟩
      have hX := X.h
      clear y0 y1 y2 y3
      go_wp2_with fail
      go_ret
      exact ⟨rfl, hW.trans (hX.mono hW.size)⟩
end Go.Proofs.Ytcfblkmcaaaipaa
