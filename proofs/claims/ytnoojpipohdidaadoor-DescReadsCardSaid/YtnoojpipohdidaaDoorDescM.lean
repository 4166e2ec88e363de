/- The walks of the four statements of chapter 18: each returns true. Conditions: the library's table for trailing zeros is as its initialiser lays it. -/
import Derived.Test.YtnoojpipohdidaaDoorDescJ
import Derived.Test.YtnoojpipohdidaaDoorDescL
import Derived.Deep.QuietTactic
import Derived.BigQuiet
namespace Go.Proofs.YtnoojpipohdidaaDoor
open Go.RowKit

theorem u64_bd {a : Int} (h : (Lit.int .u64 a).wf = true) : 0 ≤ a ∧ a < 18446744073709551616 := by
  have h1 : IntKind.u64.min = 0 := rfl
  have h2 : IntKind.u64.max = 18446744073709551615 := rfl
  simp [Lit.wf, h1, h2] at h
  omega

set_option maxHeartbeats 1000000 in
theorem descFields_walk (a h l : Int) (w : World) (hT : Tab3 w) (h0 : 0 ≤ a) (h0' : a < 18446744073709551616) :
    Calls Tryd.prog 4 #[.int .u64 a, .int .i64 h, .int .i64 l] w fun e w' => e = .returned (.bool true) ∧ Below w.heap.size w w' := by
  go_enter Tryd.func4, Tryd.ntmps4
  go_wp2_with fail
  refine (awake18_any _ hT).mono ?_; rintro e w1 ⟨rfl, hb1⟩
  go_wp2_with fail
  refine (field_any _ _ _ _ h0 h0').mono ?_; rintro e w2 ⟨rfl, rfl⟩
  go_wp2_with fail
  refine (refField_any _ _ _ _ h0 h0').mono ?_; rintro e w2 ⟨rfl, rfl⟩
  go_wp2_with fail
  go_ret
  exact ⟨by simp, hb1⟩

set_option maxHeartbeats 1000000 in
theorem descReads_walk (l a : Int) (w : World) (hT : Tab3 w) (h0 : 0 ≤ a) (h0' : a < 18446744073709551616) :
    Calls Tryd.prog 3 #[.int .i64 l, .int .u64 a] w fun e w' => e = .returned (.bool true) ∧ Below w.heap.size w w' := by
  go_enter Tryd.func3, Tryd.ntmps3
  go_wp2_with fail
  refine (awake18_any _ hT).mono ?_; rintro e w1 ⟨rfl, hb1⟩
  go_wp2_with fail
  refine (of_any _ _ _ (hT.below hb1) h0 h0').mono ?_; rintro e w2 ⟨rfl, hb2⟩
  go_wp2_with fail
  refine (refOf_any _ _ _ h0 h0').mono ?_; rintro e w3 ⟨rfl, hb3⟩
  generalize ofV l a = d
  obtain ⟨k, pa, perm, mem, af⟩ := d
  unfold DescV.val
  go_wp2_with fail
  go_ret
  exact ⟨by simp, (hb1.trans (hb2.mono hb1.size)).trans (hb3.mono (Nat.le_trans hb1.size hb2.size))⟩

theorem bits_u64_bd (op : BinOp) (x y : Int) : 0 ≤ bits op .u64 x y ∧ bits op .u64 x y < 18446744073709551616 := by
  unfold bits
  split <;> (try rw [IntKind.wrap_u64]) <;> omega
theorem joinV_bd (fs : List (Int × Int)) : 0 ≤ joinV fs ∧ joinV fs < 18446744073709551616 := by
  rcases List.eq_nil_or_concat fs with rfl | ⟨L, x, rfl⟩
  · decide
  · rw [List.concat_eq_append, joinV_snoc]; exact bits_u64_bd _ _ _
theorem putV_bd (l : Int) (d : DescV) : 0 ≤ (putV l d).1 ∧ (putV l d).1 < 18446744073709551616 := by
  unfold putV
  split; decide; split; decide; split; exact joinV_bd _; exact joinV_bd _
theorem putV_ok (l : Int) (d : DescV) : (mayV l d = true ∧ (putV l d).2 = 0) ∨ (mayV l d = false ∧ (putV l d).2 = 180) := by
  cases h : mayV l d
  · right; unfold putV; rw [if_pos h]; exact ⟨rfl, rfl⟩
  · left; unfold putV; rw [if_neg (by rw [h]; simp)]; refine ⟨rfl, ?_⟩; split; rfl; split <;> rfl
theorem put_yes (l : Int) (k pa perm mem : Int) (af : Bool) (w : World) (h0 : 0 ≤ pa) (h0' : pa < 18446744073709551616) (hm : mayV l ⟨k, pa, perm, mem, af⟩ = true) :
    ∃ W : Int, 0 ≤ W ∧ W < 18446744073709551616 ∧ ofV l W = ⟨k, pa, perm, mem, af⟩ ∧ Calls Tryd.prog 12 #[.int .i64 l, .agg #[.int .i64 k, .int .u64 pa, .int .i64 perm, .int .i64 mem, .bool af]] w fun e w' => e = .returned (.tuple #[.int .u64 W, .int .i64 0]) ∧ Below w.heap.size w w' := by
  have h := put_any l ⟨k, pa, perm, mem, af⟩ w h0 h0'
  rcases putV_ok l ⟨k, pa, perm, mem, af⟩ with ⟨_, e⟩ | ⟨e, _⟩
  · rw [e] at h
    exact ⟨_, (putV_bd _ _).1, (putV_bd _ _).2, of_put _ _ h0 hm, h⟩
  · rw [hm] at e; cases e

set_option maxHeartbeats 1000000 in
theorem descBack_walk (l k pa perm mem : Int) (af : Bool) (w : World) (hT : Tab3 w) (h0 : 0 ≤ pa) (h0' : pa < 18446744073709551616) :
    Calls Tryd.prog 5 #[.int .i64 l, .agg #[.int .i64 k, .int .u64 pa, .int .i64 perm, .int .i64 mem, .bool af]] w fun e w' => e = .returned (.bool true) ∧ Below w.heap.size w w' := by
  have hT1 := hT.alloc (.cells #[.int .i64 k, .int .u64 pa, .int .i64 perm, .int .i64 mem, .bool af] 25)
  cases hm : mayV l ⟨k, pa, perm, mem, af⟩
  · go_enter Tryd.func5, Tryd.ntmps5
    go_wp2_with fail
    refine (awake18_any _ hT1).mono ?_; rintro e w1 ⟨rfl, hb1⟩; obtain ⟨hc1, hf1⟩ := bcell hb1
    have hz := hb1.size
    go_wp2_with fail
    refine (put_no l k pa perm mem af _ h0 h0' hm).mono ?_; rintro e w2 ⟨rfl, hb2⟩
    go_wp2_with fail
    go_quiet (fail)
    go_wp2
    go_ret
    exact ⟨rfl, below_drewN (((Below.refl _ _).alloc (Nat.le_refl _) _).trans ((hb1.mono (by simp)).trans (hb2.mono (by simp at hz; omega)))) _⟩
  · go_enter Tryd.func5, Tryd.ntmps5
    go_wp2_with fail
    refine (awake18_any _ hT1).mono ?_; rintro e w1 ⟨rfl, hb1⟩; obtain ⟨hc1, hf1⟩ := bcell hb1
    have hz := hb1.size
    go_wp2_with fail
    obtain ⟨W, hW0, hW1, hof, hput⟩ := put_yes l k pa perm mem af w1 h0 h0' hm
    refine hput.mono ?_; rintro e w2 ⟨rfl, hb2⟩; obtain ⟨hc2, hf2⟩ := bcell hb2
    clear hput
    go_wp2_with fail
    have hz2 := hb2.size
    have hw : w.heap.size < w1.heap.size := by simp at hz; omega
    have hw2 : w.heap.size < w2.heap.size := by omega
    have c0 : w2.cell? ⟨w.heap.size, 0, none⟩ = some (.int .i64 k) := by rw [hc2 _ _ hw, hc1 _ _ (by simp)]; simp [World.cell?_alloc_new]
    have c1 : w2.cell? ⟨w.heap.size, 1, none⟩ = some (.int .u64 pa) := by rw [hc2 _ _ hw, hc1 _ _ (by simp)]; simp [World.cell?_alloc_new]
    have c2 : w2.cell? ⟨w.heap.size, 2, none⟩ = some (.int .i64 perm) := by rw [hc2 _ _ hw, hc1 _ _ (by simp)]; simp [World.cell?_alloc_new]
    have c3 : w2.cell? ⟨w.heap.size, 3, none⟩ = some (.int .i64 mem) := by rw [hc2 _ _ hw, hc1 _ _ (by simp)]; simp [World.cell?_alloc_new]
    have c4 : w2.cell? ⟨w.heap.size, 4, none⟩ = some (.bool af) := by rw [hc2 _ _ hw, hc1 _ _ (by simp)]; simp [World.cell?_alloc_new]
    have hT2 : Tab3 w2.drew := ((hT1.below hb1).below hb2).below (Below.refl _ _).drew
    have hw2' : w.heap.size < w2.drew.heap.size := hw2
    have hO := of_any l W w2.drew hT2 hW0 hW1
    rw [hof] at hO
    dsimp only [DescV.val] at hO
    clear hof hc1 hc2 hf1 hf2 hm
    go_region_held3 (fun w' => w'.cell? ⟨w.heap.size, 0, none⟩ = some (.int .i64 k) ∧ w'.cell? ⟨w.heap.size, 1, none⟩ = some (.int .u64 pa) ∧ w'.cell? ⟨w.heap.size, 2, none⟩ = some (.int .i64 perm) ∧ w'.cell? ⟨w.heap.size, 3, none⟩ = some (.int .i64 mem) ∧ w'.cell? ⟨w.heap.size, 4, none⟩ = some (.bool af)) (first | assumption | go_keep)
      (first | (go_at_call 8; refine hO.mono ?_; rintro e w3 ⟨rfl, hb3⟩; obtain ⟨hc3, hf3⟩ := bcell (B := w2.heap.size) hb3))
    all_goals
      go_wp2_with fail
      go_ret
      exact ⟨by simp, (((Below.refl _ _).alloc (Nat.le_refl _) _).trans ((hb1.mono (by simp)).trans ((hb2.mono (by omega)).drew.trans (hb3.mono (by simp; omega)))))⟩

theorem ofV_pa (l a : Int) : 0 ≤ (ofV l a).pa ∧ (ofV l a).pa < 18446744073709551616 := by
  have hf : ∀ a lo, 0 ≤ fromV a lo ∧ fromV a lo < 18446744073709551616 := fun a lo => by unfold fromV; rw [IntKind.wrap_u64]; omega
  unfold ofV
  split
  · decide
  · split
    · exact hf _ _
    · exact hf _ _

set_option maxHeartbeats 1000000 in
theorem descOnce_walk (l a : Int) (w : World) (hT : Tab3 w) (ha0 : 0 ≤ a) (ha1 : a < 18446744073709551616) :
    Calls Tryd.prog 6 #[.int .i64 l, .int .u64 a] w fun e w' => e = .returned (.bool true) ∧ Below w.heap.size w w' := by
  have hpa := ofV_pa l a
  have hOf := fun w hT => of_any l a w hT ha0 ha1
  generalize ofV l a = d at *
  obtain ⟨k, pa, perm, mem, af⟩ := d
  dsimp only [DescV.val] at hOf hpa
  obtain ⟨h0, h0'⟩ := hpa
  cases hm : mayV l ⟨k, pa, perm, mem, af⟩
  · go_enter Tryd.func6, Tryd.ntmps6
    go_wp2_with fail
    refine (awake18_any _ hT).mono ?_; rintro e w1 ⟨rfl, hb1⟩
    have hz := hb1.size
    go_wp2_with fail
    refine (hOf _ (hT.below hb1)).mono ?_; rintro e w2 ⟨rfl, hb2⟩
    have hz2 := hb2.size
    go_wp2_with fail
    refine (put_no l k pa perm mem af _ h0 h0' hm).mono ?_; rintro e w3 ⟨rfl, hb3⟩
    clear hOf
    go_wp2_with fail
    go_quiet (fail)
    go_wp2
    go_ret
    exact ⟨rfl, below_drewN ((hb1.trans (hb2.mono hz)).trans (((Below.refl _ _).alloc (by omega) _).trans (hb3.mono (by simp; omega)))) _⟩
  · go_enter Tryd.func6, Tryd.ntmps6
    go_wp2_with fail
    refine (awake18_any _ hT).mono ?_; rintro e w1 ⟨rfl, hb1⟩
    have hz := hb1.size
    go_wp2_with fail
    refine (hOf _ (hT.below hb1)).mono ?_; rintro e w2 ⟨rfl, hb2⟩
    have hT2 := (hT.below hb1).below hb2
    have hz2 := hb2.size
    go_wp2_with fail
    obtain ⟨W, hW0, hW1, hof, hput⟩ := put_yes l k pa perm mem af (w2.alloc (.cells #[.int .i64 k, .int .u64 pa, .int .i64 perm, .int .i64 mem, .bool af] 25)) h0 h0' hm
    refine hput.mono ?_; rintro e w3 ⟨rfl, hb3⟩; obtain ⟨hc3, hf3⟩ := bcell hb3
    clear hput hOf
    go_wp2_with fail
    have hz3 := hb3.size
    have hw2 : w2.heap.size < w3.heap.size := by simp at hz3; omega
    have c0 : w3.cell? ⟨w2.heap.size, 0, none⟩ = some (.int .i64 k) := by rw [hc3 _ _ (by simp)]; simp [World.cell?_alloc_new]
    have c1 : w3.cell? ⟨w2.heap.size, 1, none⟩ = some (.int .u64 pa) := by rw [hc3 _ _ (by simp)]; simp [World.cell?_alloc_new]
    have c2 : w3.cell? ⟨w2.heap.size, 2, none⟩ = some (.int .i64 perm) := by rw [hc3 _ _ (by simp)]; simp [World.cell?_alloc_new]
    have c3 : w3.cell? ⟨w2.heap.size, 3, none⟩ = some (.int .i64 mem) := by rw [hc3 _ _ (by simp)]; simp [World.cell?_alloc_new]
    have c4 : w3.cell? ⟨w2.heap.size, 4, none⟩ = some (.bool af) := by rw [hc3 _ _ (by simp)]; simp [World.cell?_alloc_new]
    have hT3 : Tab3 w3.drew := ((hT2.alloc _).below hb3).below (Below.refl _ _).drew
    have hO := of_any l W w3.drew hT3 hW0 hW1
    rw [hof] at hO
    dsimp only [DescV.val] at hO
    clear hof hc3 hf3 hm
    go_region_held3 (fun w' => w'.cell? ⟨w2.heap.size, 0, none⟩ = some (.int .i64 k) ∧ w'.cell? ⟨w2.heap.size, 1, none⟩ = some (.int .u64 pa) ∧ w'.cell? ⟨w2.heap.size, 2, none⟩ = some (.int .i64 perm) ∧ w'.cell? ⟨w2.heap.size, 3, none⟩ = some (.int .i64 mem) ∧ w'.cell? ⟨w2.heap.size, 4, none⟩ = some (.bool af)) (first | assumption | go_keep)
      (first | (go_at_call 8; refine hO.mono ?_; rintro e w4 ⟨rfl, hb4⟩; obtain ⟨hc4, hf4⟩ := bcell (B := w3.heap.size) hb4))
    all_goals
      go_wp2_with fail
      go_ret
      exact ⟨by simp, (hb1.trans (hb2.mono hz)).trans (((Below.refl _ _).alloc (by omega) _).trans ((hb3.mono (by simp; omega)).drew.trans (hb4.mono (by simp; omega))))⟩
end Go.Proofs.YtnoojpipohdidaaDoor
