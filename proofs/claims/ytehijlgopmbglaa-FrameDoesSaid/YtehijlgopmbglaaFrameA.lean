/- A pool of frames as it lies in memory; the walks of frame.New, of the span of all frames, and of what a pool tells. -/
import Derived.Test.YtehijlgopmbglaaWordA
import Derived.Test.YtehijlgopmbglaaSpanQ
import Derived.Test.YtehijlgopmbglaaOrd
import Derived.BigQuiet
import Derived.OneCell
namespace Go.Proofs.Ytehijlgopmbglaa
open Go Go.RowKit Go.BigFrame

/-- The pool 'p' lies in block 'B'; what is handed out, in the row of slice 'v'. -/
structure PoolAt (w : World) (B : Nat) (v : Value) (p : Pl) : Prop where
  blk : w.heap[B]? = some (.cells #[.int .u64 p.from', .int .u64 p.count, v, .int .u64 p.out] 56 (0, 0))
  own : OwnTwo 24 w (B + 1) v p.used
theorem PoolAt.lt {w : World} {B : Nat} {v : Value} {p : Pl} (h : PoolAt w B v p) : B < w.heap.size := (Array.getElem?_eq_some_iff.1 h.blk).1
theorem PoolAt.cells {w : World} {B : Nat} {v : Value} {p : Pl} (h : PoolAt w B v p) : w.cell? ⟨B, 0, none⟩ = some (.int .u64 p.from') ∧ w.cell? ⟨B, 1, none⟩ = some (.int .u64 p.count) ∧ w.cell? ⟨B, 2, none⟩ = some v ∧ w.cell? ⟨B, 3, none⟩ = some (.int .u64 p.out) := by
  refine ⟨?_, ?_, ?_, ?_⟩ <;> simp [World.cell?, h.blk]
theorem PoolAt.frozen {w : World} {B : Nat} {v : Value} {p : Pl} (h : PoolAt w B v p) (o : Nat) : w.frozen? ⟨B, o, none⟩ = false := by simp [World.frozen?, h.blk]
theorem PoolAt.below {w w' : World} {B : Nat} {v : Value} {p : Pl} (h : PoolAt w B v p) (hb : Below w.heap.size w w') : PoolAt w' B v p :=
  ⟨(hb.block B h.lt).trans h.blk, h.own.below hb (Nat.le_refl _)⟩
theorem PoolAt.row {w : World} {B : Nat} {v : Value} {p : Pl} (h : PoolAt w B v p) : RowTwo w v p.used := h.own.row

/-- All that lay lies as it lay, but for the pool and its row. -/
structure Kept (B : Nat) (v : Value) (w w' : World) : Prop where
  os : w'.os = w.os
  tape : w'.tape = w.tape
  output : w'.output = w.output
  size : w.heap.size ≤ w'.heap.size
  block : ∀ k, k < w.heap.size → k ≠ B → v.ownBlock ≠ some k → w'.heap[k]? = w.heap[k]?

theorem heap_setCell_at {w : World} {B i : Nat} {cs : Array Value} {T : TypeId} {fz : Nat × Nat} (h : w.heap[B]? = some (.cells cs T fz)) (u : Value) : (w.setCell ⟨B, i, none⟩ u).heap[B]? = some (.cells (cs.setIfInBounds i u) T fz) := by
  rw [Go.Sort.setCell_eq]
  simp [Go.Sort.mapBlock, Array.getElem?_modify, h, Go.Sort.onCells]

theorem box_pool {w w1 : World} {p q : Value} {T1 T2 : TypeId} {cs : Array Value} (hb : Below ((w.alloc (.cells #[p, q] T1)).alloc (.cells cs T2)).heap.size ((w.alloc (.cells #[p, q] T1)).alloc (.cells cs T2)) w1) :
    w1.cell? ⟨w.heap.size, 0, none⟩ = some p ∧ w1.cell? ⟨w.heap.size, 1, none⟩ = some q ∧ w1.heap[w.heap.size + 1]? = some (.cells cs T2 (0, 0)) ∧ w.heap.size + 1 < w1.heap.size ∧ w.heap.size < w1.heap.size ∧ Below w.heap.size w w1 := by
  have h1 := alloc_two w p q T1
  have hq := bone (w.alloc (.cells #[p, q] T1)) (.cells cs T2)
  have h2 : ((w.alloc (.cells #[p, q] T1)).alloc (.cells cs T2)).heap[w.heap.size + 1]? = some (.cells cs T2 (0, 0)) := by
    have := World.alloc_heap_new (w.alloc (.cells #[p, q] T1)) (.cells cs T2); rwa [World.size_alloc] at this
  have hs := hb.size
  simp only [World.size_alloc] at hs
  exact ⟨cell_lt hb (cell_lt hq h1.1 (by simp)) (by simp; omega), cell_lt hb (cell_lt hq h1.2 (by simp)) (by simp; omega), (hb.block _ (by simp)).trans h2, by omega, by omega, bnew (bnew hb)⟩
theorem pool_cells {w : World} {B : Nat} {a b c d : Value} {T : TypeId} (h : w.heap[B]? = some (.cells #[a, b, c, d] T (0, 0))) :
    (w.frozen? ⟨B, 0, none⟩ = false ∧ w.frozen? ⟨B, 1, none⟩ = false) ∧ (w.cell? ⟨B, 0, none⟩ = some a ∧ w.cell? ⟨B, 1, none⟩ = some b) := by
  simp [World.frozen?, World.cell?, h]
theorem pool_set {w : World} {B : Nat} {a b c d : Value} {T : TypeId} (h : w.heap[B]? = some (.cells #[a, b, c, d] T (0, 0))) (u x : Value) :
    ((w.setCell ⟨B, 0, none⟩ u).setCell ⟨B, 1, none⟩ x).heap[B]? = some (.cells #[u, x, c, d] T (0, 0)) := by
  rw [heap_setCell_at (heap_setCell_at h u) x]; rfl

set_option maxHeartbeats 2000000 in
theorem new_any (s : Two) (w : World) : Calls Try.prog 9 #[.agg #[.int .u64 s.a, .int .u64 s.b]] w fun e w' => ∃ B, e = .returned (.pointer (some ⟨B, 0, none⟩)) ∧ w.heap.size ≤ B ∧ PoolAt w' B (.slice none 0 0) (newV s) ∧ Below w.heap.size w w' := by
  have hu := fun W => up_any s.a 4096 W s.ha (by unfold W64; omega)
  have hg := fun W => good_any s.a s.b W s.ha s.hb
  have hl := fun W => last_any s.a s.b W s.ha s.hb
  have hlw := lastV_w s.ha s.hb
  have hN : newV s = (if goodB s.a s.b = true ∧ (upV s.a 4096).2 = true ∧ (upV s.a 4096).1 ≤ lastV s.a s.b then ⟨(upV s.a 4096).1, (lastV s.a s.b - (upV s.a 4096).1 + 1) / 4096, [], 0⟩ else ⟨0, 0, [], 0⟩) := rfl
  have hlt : goodB s.a s.b = true → lastV s.a s.b < 18446744073709551615 ∨ 0 < s.a := fun h => by
    have h1 := lastV_yes h; have := s.hb; have := s.ha; unfold W64 at *; omega
  have huw : W64 (upV s.a 4096).1 ∧ (0 < s.a → 0 < (upV s.a 4096).1 ∨ (upV s.a 4096).2 = false) := by
    cases hh : (upV s.a 4096).2
    · refine ⟨?_, fun _ => .inr rfl⟩
      have : (upV s.a 4096) = (0, false) ∨ (upV s.a 4096).2 = true := by
        unfold upV; rw [if_neg (by decide)]; split
        · exact .inr rfl
        · split
          · exact .inr rfl
          · exact .inl rfl
      rcases this with h | h
      · rw [h]; unfold W64; omega
      · rw [hh] at h; cases h
    · obtain ⟨_, _, h3, _, h5⟩ := upV_yes s.ha (by unfold W64; omega) hh
      exact ⟨h5, fun h => .inl (by omega)⟩
  generalize newV s = N at *
  generalize lastV s.a s.b = L at *
  generalize goodB s.a s.b = G at *
  generalize (upV s.a 4096).1 = U at *
  generalize (upV s.a 4096).2 = I at *
  rcases Bool.eq_false_or_eq_true G with rfl | rfl
  · rcases Bool.eq_false_or_eq_true I with rfl | rfl
    · by_cases hle : U ≤ L
      · rw [if_pos ⟨rfl, rfl, hle⟩] at hN
        obtain ⟨u0, u1⟩ := huw.1
        obtain ⟨l0, l1⟩ := hlw
        have hlt := hlt rfl
        have hL1 : L - U + 1 ≤ 18446744073709551615 := by
          rcases hlt with h | h
          · omega
          · rcases huw.2 h with h | h
            · omega
            · cases h
        replace hN := Lib.hid hN
        clear huw hlt
        go_enter Try.func9, Try.ntmps9
        go_wp2_with fail
        refine (hu _).mono ?_; rintro e w1 ⟨rfl, hb1⟩
        obtain ⟨c0, c1, hP, hz1, hz0, hW⟩ := box_pool hb1
        clear hb1
        go_wp2_with fail
        refine (hg _).mono ?_; rintro e w2 ⟨rfl, hb2⟩
        have c0' := cell_lt hb2 c0 hz0
        have c1' := cell_lt hb2 c1 hz0
        have hz0' : w.heap.size < w2.heap.size := Nat.lt_of_lt_of_le hz0 hb2.size
        clear c0 c1
        go_wp2_with fail
        refine (hl _).mono ?_; rintro e w3 ⟨rfl, hb3⟩
        have c0 := cell_lt hb3 c0' hz0'
        have c1 := cell_lt hb3 c1' hz0'
        clear c0' c1'
        go_wp2_with fail
        refine (hl _).mono ?_; rintro e w4 ⟨rfl, hb4⟩
        have hbb := bthen (bthen hb2 hb3) hb4
        have hP4 := (hbb.block _ hz1).trans hP
        have hW4 : Below w.heap.size w w4 := bthen hW hbb
        clear c0 c1 hP hb2 hb3 hb4 hbb hW
        obtain ⟨⟨f0, f1⟩, g0, g1⟩ := pool_cells hP4
        have hd : (0 : Int) ≤ L - U + 1 := by omega
        go_wp2_with fail
        go_ret
        refine ⟨w.heap.size + 1, rfl, by omega, ?_, (hW4.setCell (by simp) _).setCell (by simp) _⟩
        rw [hN.out]
        exact ⟨pool_set hP4 _ _, OwnTwo.nil _ _ _⟩
      · rw [if_neg (fun h => hle h.2.2)] at hN
        replace hN := Lib.hid hN
        clear huw hlt hlw
        go_enter Try.func9, Try.ntmps9
        go_wp2_with fail
        refine (hu _).mono ?_; rintro e w1 ⟨rfl, hb1⟩
        obtain ⟨c0, c1, hP, hz1, hz0, hW⟩ := box_pool hb1
        clear hb1
        go_wp2_with fail
        refine (hg _).mono ?_; rintro e w2 ⟨rfl, hb2⟩
        have c0' := cell_lt hb2 c0 hz0
        have c1' := cell_lt hb2 c1 hz0
        clear c0 c1
        go_wp2_with fail
        refine (hl _).mono ?_; rintro e w3 ⟨rfl, hb3⟩
        have hbb := bthen hb2 hb3
        go_wp2_with fail
        go_ret
        exact ⟨w.heap.size + 1, rfl, by omega, by rw [hN.out]; exact ⟨(hbb.block _ hz1).trans hP, OwnTwo.nil _ _ _⟩, bthen hW hbb⟩
    · rw [if_neg (fun h => by cases h.2.1)] at hN
      replace hN := Lib.hid hN
      clear huw hlt hlw
      go_enter Try.func9, Try.ntmps9
      go_wp2_with fail
      refine (hu _).mono ?_; rintro e w1 ⟨rfl, hb1⟩
      obtain ⟨c0, c1, hP, hz1, hz0, hW⟩ := box_pool hb1
      clear hb1
      go_wp2_with fail
      refine (hg _).mono ?_; rintro e w2 ⟨rfl, hb2⟩
      go_wp2_with fail
      go_ret
      exact ⟨w.heap.size + 1, rfl, by omega, by rw [hN.out]; exact ⟨(hb2.block _ hz1).trans hP, OwnTwo.nil _ _ _⟩, bthen hW hb2⟩
  · rw [if_neg (fun h => by cases h.1)] at hN
    replace hN := Lib.hid hN
    clear huw hlt hlw
    go_enter Try.func9, Try.ntmps9
    go_wp2_with fail
    refine (hu _).mono ?_; rintro e w1 ⟨rfl, hb1⟩
    obtain ⟨c0, c1, hP, hz1, hz0, hW⟩ := box_pool hb1
    clear hb1
    go_wp2_with fail
    refine (hg _).mono ?_; rintro e w2 ⟨rfl, hb2⟩
    go_wp2_with fail
    go_ret
    exact ⟨w.heap.size + 1, rfl, by omega, by rw [hN.out]; exact ⟨(hb2.block _ hz1).trans hP, OwnTwo.nil _ _ _⟩, bthen hW hb2⟩

theorem run_nil_bad (n align : Int) (q : Option Addr) (w : World) (h : askB n align = false) (ha : W64 align) :
    Calls Try.prog 10 #[.pointer q, .int .i64 n, .int .u64 align] w fun e w' => e = .returned (.tuple #[.int .u64 0, .int .i64 1]) ∧ Below w.heap.size w w' := by
  have a0 := ha.1
  have hcase : n < 1 ∨ (1 ≤ n ∧ 4096 < n) ∨ (1 ≤ n ∧ n ≤ 4096 ∧ align = 0) ∨ (1 ≤ n ∧ n ≤ 4096 ∧ align ≠ 0 ∧ align % 4096 ≠ 0) := by
    have : ¬ _ := fun hh => by rw [askB_iff.2 hh] at h; cases h
    omega
  rcases hcase with h1 | ⟨h1, h2⟩ | ⟨h1, h2, h3⟩ | ⟨h1, h2, h3, h4⟩
  · have k1 : n < 1 := h1
    go_enter Try.func10, Try.ntmps10
    go_wp2_with fail
    refine bodyPost_ret (v := .tuple #[.int .u64 0, .int .i64 1]) (by simp [results, Try.results10, go_sem]) rfl ⟨rfl, ?_⟩
    repeat (first | exact Below.refl _ _ | refine Below.setCell ?_ (by simp <;> omega) _ | refine Below.alloc ?_ (by simp <;> omega) _)
  · have k1 : ¬ n < 1 := by omega
    go_enter Try.func10, Try.ntmps10
    go_wp2_with fail
    refine bodyPost_ret (v := .tuple #[.int .u64 0, .int .i64 1]) (by simp [results, Try.results10, go_sem]) rfl ⟨rfl, ?_⟩
    repeat (first | exact Below.refl _ _ | refine Below.setCell ?_ (by simp <;> omega) _ | refine Below.alloc ?_ (by simp <;> omega) _)
  · have k1 : ¬ n < 1 := by omega
    have k2 : ¬ 4096 < n := by omega
    subst h3
    go_enter Try.func10, Try.ntmps10
    go_wp2_with fail
    refine bodyPost_ret (v := .tuple #[.int .u64 0, .int .i64 1]) (by simp [results, Try.results10, go_sem]) rfl ⟨rfl, ?_⟩
    repeat (first | exact Below.refl _ _ | refine Below.setCell ?_ (by simp <;> omega) _ | refine Below.alloc ?_ (by simp <;> omega) _)
  · have k1 : ¬ n < 1 := by omega
    have k2 : ¬ 4096 < n := by omega
    have k3 : (align == 0) = false := by simpa using h3
    have k4 : (align % 4096 != 0) = true := by simpa using h4
    go_enter Try.func10, Try.ntmps10
    go_wp2_with fail
    refine bodyPost_ret (v := .tuple #[.int .u64 0, .int .i64 1]) (by simp [results, Try.results10, go_sem]) rfl ⟨rfl, ?_⟩
    repeat (first | exact Below.refl _ _ | refine Below.setCell ?_ (by simp <;> omega) _ | refine Below.alloc ?_ (by simp <;> omega) _)

theorem run_nil (n align : Int) (w : World) (h : askB n align = true) (ha : W64 align) :
    Calls Try.prog 10 #[.pointer none, .int .i64 n, .int .u64 align] w fun e w' => e = .returned (.tuple #[.int .u64 0, .int .i64 110]) ∧ Below w.heap.size w w' := by
  have a0 := ha.1
  obtain ⟨h1, h2, h3, h4⟩ := askB_iff.1 h
  have k1 : ¬ n < 1 := by omega
  have k2 : ¬ 4096 < n := by omega
  have k3 : (align == 0) = false := by simpa using h3
  have k4 : (align % 4096 != 0) = false := by simpa using h4
  go_enter Try.func10, Try.ntmps10
  go_wp2_with fail
  refine bodyPost_ret (v := .tuple #[.int .u64 0, .int .i64 110]) (by simp [results, Try.results10, go_sem]) rfl ⟨rfl, ?_⟩
  repeat (first | exact Below.refl _ _ | refine Below.setCell ?_ (by simp <;> omega) _ | refine Below.alloc ?_ (by simp <;> omega) _)

theorem left_nil (w : World) : Calls Try.prog 13 #[.pointer none] w fun e w' => e = .returned (.int .u64 0) ∧ w = w' := by
  go_enter Try.func13, Try.ntmps13
  go_wp2
  go_ret
  exact ⟨rfl, rfl⟩
theorem used_nil (w : World) : Calls Try.prog 14 #[.pointer none] w fun e w' => e = .returned (.int .u64 0) ∧ w = w' := by
  go_enter Try.func14, Try.ntmps14
  go_wp2
  go_ret
  exact ⟨rfl, rfl⟩
theorem has_nil (x : Int) (w : World) : Calls Try.prog 18 #[.pointer none, .int .u64 x] w fun e w' => e = .returned (.bool false) ∧ w = w' := by
  go_enter Try.func18, Try.ntmps18
  go_wp2
  go_ret
  exact ⟨rfl, rfl⟩
theorem used_any (B : Nat) (v : Value) (p : Pl) (w : World) (h : PoolAt w B v p) : Calls Try.prog 14 #[.pointer (some ⟨B, 0, none⟩)] w fun e w' => e = .returned (.int .u64 p.out) ∧ w = w' := by
  obtain ⟨c0, c1, c2, c3⟩ := h.cells
  go_enter Try.func14, Try.ntmps14
  go_wp2
  go_ret
  exact ⟨rfl, rfl⟩
theorem left_any (B : Nat) (v : Value) (p : Pl) (w : World) (h : PoolAt w B v p) (h0 : 0 ≤ p.out) (h1 : p.out ≤ p.count) (h2 : p.count ≤ 18446744073709551615) : Calls Try.prog 13 #[.pointer (some ⟨B, 0, none⟩)] w fun e w' => e = .returned (.int .u64 (p.count - p.out)) ∧ Below w.heap.size w w' := by
  obtain ⟨c0, c1, c2, c3⟩ := h.cells
  have hlt := h.lt
  go_enter Try.func13, Try.ntmps13
  go_wp2_with fail
  refine region_later w.heap.size w (Below.refl _ _) (by kernel_rfl) (by kernel_rfl) ?_
  have y1 := later_cell c1 hlt
  have y3 := later_cell c3 hlt
  repeat (quiet_step (fail))
  refine wpQuiet_nil ?_
  rintro _ ⟨X, rfl⟩
  have hX := X.h
  clear y1 y3
  go_wp2_with fail
  go_ret
  exact ⟨ret_u64 (by first | rfl | (rw [IntKind.wrap_u64]; omega)), hX⟩
end Go.Proofs.Ytehijlgopmbglaa
