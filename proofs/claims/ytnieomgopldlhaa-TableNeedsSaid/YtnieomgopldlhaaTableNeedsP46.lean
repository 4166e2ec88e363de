/- The reference's level. -/
import Derived.Test.YtnieomgopldlhaaTableNeedsP4
import Derived.Test.YtnieomgopldlhaaTableNeedsP16
namespace Go.Proofs.Ytnieomgopldlhaa
open Go Go.RowKit Go.BigFrame

theorem refSize_b (k : Int) (W : World) (hk : k = 1 ∨ k = 2 ∨ k = 3) : Calls Try.prog 30 #[.int .i64 k] W fun e w' => e = .returned (.int .u64 (szK k)) ∧ Below W.heap.size W w' :=
  (refSize_any k W hk).mono fun e w' ⟨h, e2⟩ => ⟨h, by subst e2; exact Below.refl _ _⟩

set_option maxRecDepth 20000 in
set_option maxHeartbeats 4000000 in
theorem refLevel_any (x : M5) (w : World) : Calls Try.prog 31 #[.agg #[.int .u64 x.ipa, .int .u64 x.pa, .int .u64 x.sz, .int .i64 x.perm, .int .i64 x.kind]] w fun e w' => e = .returned (.int .i64 (lvM x)) ∧ Below w.heap.size w w' := by
  have e1 : lvB x 1 = (decide (x.ipa % 1073741824 = 0) && decide (x.pa % 1073741824 = 0) && decide (1073741824 ≤ x.sz)) := rfl
  have e2 : lvB x 2 = (decide (x.ipa % 2097152 = 0) && decide (x.pa % 2097152 = 0) && decide (2097152 ≤ x.sz)) := rfl
  obtain ⟨m0, m1, m2, m3, m4⟩ := five_new w (.int .u64 x.ipa) (.int .u64 x.pa) (.int .u64 x.sz) (.int .i64 x.perm) (.int .i64 x.kind) 44
  have hb := bone w (.cells #[.int .u64 x.ipa, .int .u64 x.pa, .int .u64 x.sz, .int .i64 x.perm, .int .i64 x.kind] 44)
  have s1 := fun W => refSize_b 1 W (by omega)
  have s2 := fun W => refSize_b 2 W (by omega)
  change ∀ W, Calls _ _ _ W fun e w' => e = .returned (.int .u64 1073741824) ∧ Below W.heap.size W w' at s1
  change ∀ W, Calls _ _ _ W fun e w' => e = .returned (.int .u64 2097152) ∧ Below W.heap.size W w' at s2
  have hl : lvM x = if lvB x 1 = true then 1 else if lvB x 2 = true then 2 else 3 := rfl
  have hi0 := x.hi.1
  have hp0 := x.hp.1
  replace e1 := Lib.hid e1
  replace e2 := Lib.hid e2
  replace hl := Lib.hid hl
  have hz : (w.alloc (.cells #[.int .u64 x.ipa, .int .u64 x.pa, .int .u64 x.sz, .int .i64 x.perm, .int .i64 x.kind] 44)).heap.size = w.heap.size + 1 := by simp
  go_enter Try.func31, Try.ntmps31
  go_wp2_with fail
  generalize w.alloc (.cells #[.int .u64 x.ipa, .int .u64 x.pa, .int .u64 x.sz, .int .i64 x.perm, .int .i64 x.kind] 44) = w0 at *
  replace hz := Lib.hid hz
  go_loopw [3] (fun i wr => ((i = .int .i64 1) ∨ (i = .int .i64 2 ∧ lvB x 1 = false) ∨ (i = .int .i64 3 ∧ lvB x 1 = false ∧ lvB x 2 = false)) ∧ Below w0.heap.size w0 wr) (fun i _ => 3 - (intOf i).toNat)
  case atStart => exact ⟨.inl rfl, Below.refl _ _⟩
  case round =>
    obtain ⟨hrel, hB⟩ := hrel
    have hs := hB.size
    have hbl : w.heap.size < w0.heap.size := by have := hz.out; omega
    have hblr : w.heap.size < wr.heap.size := by omega
    have c0 := cell_lt hB m0 hbl
    have c1 := cell_lt hB m1 hbl
    have c2 := cell_lt hB m2 hbl
    have key : ∀ (n : Int), 0 < n → (x.ipa % n = 0 → x.ipa.tmod n = 0) ∧ (¬ x.ipa % n = 0 → (x.ipa % n == 0) = false) ∧ (x.pa % n = 0 → x.pa.tmod n = 0) ∧ (¬ x.pa % n = 0 → (x.pa % n == 0) = false) := fun n hn => by
      rw [Int.tmod_eq_emod_of_nonneg hi0, Int.tmod_eq_emod_of_nonneg hp0]
      exact ⟨id, fun h => by simpa using h, id, fun h => by simpa using h⟩
    rcases hrel with rfl | ⟨rfl, hv1⟩ | ⟨rfl, hv1, hv2⟩
    · obtain ⟨t1, t2, t3, t4⟩ := key 1073741824 (by omega)
      have hnz : ¬ (1073741824 : Int) = 0 := by omega
      clear key
      by_cases q1 : x.ipa % 1073741824 = 0
      · have r1 := t1 q1
        by_cases q2 : x.pa % 1073741824 = 0
        · have r2 := t3 q2
          by_cases q3 : 1073741824 ≤ x.sz
          · have hr : lvM x = 1 := by rw [hl.out, e1.out, decide_eq_true q1, decide_eq_true q2, decide_eq_true q3]; rfl
            replace hr := Lib.hid hr
            clear t1 t2 t3 t4 q1 q2
            go_wp2_with fail
            refine region_later wr.heap.size wr (Below.refl _ _) (by kernel_rfl) (by kernel_rfl) ?_
            have y0 := later_cell (B := wr.heap.size) c0 (by omega)
            have y1 := later_cell (B := wr.heap.size) c1 (by omega)
            have y2 := later_cell (B := wr.heap.size) c2 (by omega)
            repeat (first | go_big_quiet_step (fail) | go_big_quiet_step ((go_at_call 30; exact quiet_later (Nat.le_refl _) (s1 _))))
            refine wpQuiet_nil ?_
            first | (rintro _ ⟨X, rfl⟩) | (intro X)
            have hX := X.h
            clear y0 y1 y2
            go_wp2_with fail
            go_ret
            exact ⟨by rw [hr.out]; rfl, bthen hb (bthen hB hX)⟩
          · have hn : lvB x 1 = false := by rw [e1.out, decide_eq_false q3, Bool.and_false]
            replace hn := Lib.hid hn
            clear t1 t2 t3 t4 q1 q2
            go_wp2_with fail
            refine region_later wr.heap.size wr (Below.refl _ _) (by kernel_rfl) (by kernel_rfl) ?_
            have y0 := later_cell (B := wr.heap.size) c0 (by omega)
            have y1 := later_cell (B := wr.heap.size) c1 (by omega)
            have y2 := later_cell (B := wr.heap.size) c2 (by omega)
            repeat (first | go_big_quiet_step (fail) | go_big_quiet_step ((go_at_call 30; exact quiet_later (Nat.le_refl _) (s1 _))))
            refine wpQuiet_nil ?_
            first | (rintro _ ⟨X, rfl⟩) | (intro X)
            have hX := X.h
            clear y0 y1 y2
            go_wp2_with fail
            exact ⟨⟨.inr (.inl ⟨rfl, hn.out⟩), bthen hB hX⟩, by simp [intOf]⟩
        · have hn : lvB x 1 = false := by rw [e1.out, decide_eq_false q2, Bool.and_false, Bool.false_and]
          replace hn := Lib.hid hn
          have r2 := t4 q2
          clear t1 t2 t3 t4 q1 q2
          go_wp2_with fail
          refine region_later wr.heap.size wr (Below.refl _ _) (by kernel_rfl) (by kernel_rfl) ?_
          have y0 := later_cell (B := wr.heap.size) c0 (by omega)
          have y1 := later_cell (B := wr.heap.size) c1 (by omega)
          have y2 := later_cell (B := wr.heap.size) c2 (by omega)
          repeat (first | go_big_quiet_step (fail) | go_big_quiet_step ((go_at_call 30; exact quiet_later (Nat.le_refl _) (s1 _))))
          refine wpQuiet_nil ?_
          first | (rintro _ ⟨X, rfl⟩) | (intro X)
          have hX := X.h
          clear y0 y1 y2
          go_wp2_with fail
          exact ⟨⟨.inr (.inl ⟨rfl, hn.out⟩), bthen hB hX⟩, by simp [intOf]⟩
      · have hn : lvB x 1 = false := by rw [e1.out, decide_eq_false q1, Bool.false_and, Bool.false_and]
        replace hn := Lib.hid hn
        have r1 := t2 q1
        clear t1 t2 t3 t4 q1
        go_wp2_with fail
        refine region_later wr.heap.size wr (Below.refl _ _) (by kernel_rfl) (by kernel_rfl) ?_
        have y0 := later_cell (B := wr.heap.size) c0 (by omega)
        have y1 := later_cell (B := wr.heap.size) c1 (by omega)
        have y2 := later_cell (B := wr.heap.size) c2 (by omega)
        repeat (first | go_big_quiet_step (fail) | go_big_quiet_step ((go_at_call 30; exact quiet_later (Nat.le_refl _) (s1 _))))
        refine wpQuiet_nil ?_
        first | (rintro _ ⟨X, rfl⟩) | (intro X)
        have hX := X.h
        clear y0 y1 y2
        go_wp2_with fail
        exact ⟨⟨.inr (.inl ⟨rfl, hn.out⟩), bthen hB hX⟩, by simp [intOf]⟩
    · obtain ⟨t1, t2, t3, t4⟩ := key 2097152 (by omega)
      have hnz : ¬ (2097152 : Int) = 0 := by omega
      clear key
      replace hv1 := Lib.hid hv1
      by_cases q1 : x.ipa % 2097152 = 0
      · have r1 := t1 q1
        by_cases q2 : x.pa % 2097152 = 0
        · have r2 := t3 q2
          by_cases q3 : 2097152 ≤ x.sz
          · have hr : lvM x = 2 := by rw [hl.out, hv1.out, e2.out, decide_eq_true q1, decide_eq_true q2, decide_eq_true q3]; rfl
            replace hr := Lib.hid hr
            clear t1 t2 t3 t4 q1 q2
            go_wp2_with fail
            refine region_later wr.heap.size wr (Below.refl _ _) (by kernel_rfl) (by kernel_rfl) ?_
            have y0 := later_cell (B := wr.heap.size) c0 (by omega)
            have y1 := later_cell (B := wr.heap.size) c1 (by omega)
            have y2 := later_cell (B := wr.heap.size) c2 (by omega)
            repeat (first | go_big_quiet_step (fail) | go_big_quiet_step ((go_at_call 30; exact quiet_later (Nat.le_refl _) (s2 _))))
            refine wpQuiet_nil ?_
            first | (rintro _ ⟨X, rfl⟩) | (intro X)
            have hX := X.h
            clear y0 y1 y2
            go_wp2_with fail
            go_ret
            exact ⟨by rw [hr.out]; rfl, bthen hb (bthen hB hX)⟩
          · have hn : lvB x 2 = false := by rw [e2.out, decide_eq_false q3, Bool.and_false]
            replace hn := Lib.hid hn
            clear t1 t2 t3 t4 q1 q2
            go_wp2_with fail
            refine region_later wr.heap.size wr (Below.refl _ _) (by kernel_rfl) (by kernel_rfl) ?_
            have y0 := later_cell (B := wr.heap.size) c0 (by omega)
            have y1 := later_cell (B := wr.heap.size) c1 (by omega)
            have y2 := later_cell (B := wr.heap.size) c2 (by omega)
            repeat (first | go_big_quiet_step (fail) | go_big_quiet_step ((go_at_call 30; exact quiet_later (Nat.le_refl _) (s2 _))))
            refine wpQuiet_nil ?_
            first | (rintro _ ⟨X, rfl⟩) | (intro X)
            have hX := X.h
            clear y0 y1 y2
            go_wp2_with fail
            exact ⟨⟨.inr (.inr ⟨rfl, hv1.out, hn.out⟩), bthen hB hX⟩, by simp [intOf]⟩
        · have hn : lvB x 2 = false := by rw [e2.out, decide_eq_false q2, Bool.and_false, Bool.false_and]
          replace hn := Lib.hid hn
          have r2 := t4 q2
          clear t1 t2 t3 t4 q1 q2
          go_wp2_with fail
          refine region_later wr.heap.size wr (Below.refl _ _) (by kernel_rfl) (by kernel_rfl) ?_
          have y0 := later_cell (B := wr.heap.size) c0 (by omega)
          have y1 := later_cell (B := wr.heap.size) c1 (by omega)
          have y2 := later_cell (B := wr.heap.size) c2 (by omega)
          repeat (first | go_big_quiet_step (fail) | go_big_quiet_step ((go_at_call 30; exact quiet_later (Nat.le_refl _) (s2 _))))
          refine wpQuiet_nil ?_
          first | (rintro _ ⟨X, rfl⟩) | (intro X)
          have hX := X.h
          clear y0 y1 y2
          go_wp2_with fail
          exact ⟨⟨.inr (.inr ⟨rfl, hv1.out, hn.out⟩), bthen hB hX⟩, by simp [intOf]⟩
      · have hn : lvB x 2 = false := by rw [e2.out, decide_eq_false q1, Bool.false_and, Bool.false_and]
        replace hn := Lib.hid hn
        have r1 := t2 q1
        clear t1 t2 t3 t4 q1
        go_wp2_with fail
        refine region_later wr.heap.size wr (Below.refl _ _) (by kernel_rfl) (by kernel_rfl) ?_
        have y0 := later_cell (B := wr.heap.size) c0 (by omega)
        have y1 := later_cell (B := wr.heap.size) c1 (by omega)
        have y2 := later_cell (B := wr.heap.size) c2 (by omega)
        repeat (first | go_big_quiet_step (fail) | go_big_quiet_step ((go_at_call 30; exact quiet_later (Nat.le_refl _) (s2 _))))
        refine wpQuiet_nil ?_
        first | (rintro _ ⟨X, rfl⟩) | (intro X)
        have hX := X.h
        clear y0 y1 y2
        go_wp2_with fail
        exact ⟨⟨.inr (.inr ⟨rfl, hv1.out, hn.out⟩), bthen hB hX⟩, by simp [intOf]⟩
    · have hr : lvM x = 3 := by rw [hl.out, hv1, hv2]; rfl
      replace hr := Lib.hid hr
      clear hv1 hv2
      go_wp2_with fail
      go_ret
      exact ⟨by rw [hr.out]; rfl, bthen hb hB⟩
end Go.Proofs.Ytnieomgopldlhaa
