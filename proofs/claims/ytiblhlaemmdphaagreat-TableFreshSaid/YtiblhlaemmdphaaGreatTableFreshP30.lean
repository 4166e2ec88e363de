/- The walk of desc.Put. Conditions: words are of 64 bits. -/
import Derived.Deep.RegionHeld3
import Derived.Deep.QuietTactic
import Derived.BigQuiet
import Derived.Test.YtiblhlaemmdphaaGreatTableFreshP28
namespace Go.Proofs.YtiblhlaemmdphaaGreat
open Go.RowKit
def leafFields (l : Int) (d : DescV) : List (Int × Int) :=
 [(0, d.pa), (0, 1), (1, oneV (l == 3)), (2, if d.mem = 1 then 1 else 15), (8, if d.mem = 1 then 2 else 3), (6, oneV (bits BinOp.and IntKind.i64 d.perm 1 != 0)),
  (7, oneV (bits BinOp.and IntKind.i64 d.perm 2 != 0)), (10, oneV d.af), (54, oneV (bits BinOp.and IntKind.i64 d.perm 4 == 0))]
def putV (l : Int) (d : DescV) : Int × Int :=
 if mayV l d = false then (0, 180)
 else if d.kind = 0 then (0, 0)
 else if d.kind = 1 then (joinV [(0, d.pa), (0, 1), (1, 1)], 0)
 else (joinV (leafFields l d), 0)
set_option maxHeartbeats 1000000 in
theorem put_no (l k pa perm mem : Int) (af : Bool) (w : World) (h0 : 0 ≤ pa) (h0' : pa < 18446744073709551616) (hm : mayV l ⟨k, pa, perm, mem, af⟩ = false) :
  Calls Tryz.prog 81 #[.int .i64 l, .agg #[.int .i64 k, .int .u64 pa, .int .i64 perm, .int .i64 mem, .bool af]] w fun e w' => e = .returned (.tuple #[.int .u64 0, .int .i64 180]) ∧ Below w.heap.size w w' := by
 go_enter Tryz.func81, Tryz.ntmps81
 go_wp2_with (go_at_call 101; refine (may_any _ _ _ _ _ _ _ h0 h0').mono ?_; rintro e w1 ⟨rfl, hb1⟩)
 go_ret2
 exact ⟨rfl, ((((Below.refl _ _).alloc (Nat.le_refl _) _).alloc (by simp) _).trans (hb1.mono (by simp; omega)))⟩
set_option maxHeartbeats 1000000 in
theorem put_zero (l pa perm mem : Int) (af : Bool) (w : World) (h0 : 0 ≤ pa) (h0' : pa < 18446744073709551616) (hm : mayV l ⟨0, pa, perm, mem, af⟩ = true) :
  Calls Tryz.prog 81 #[.int .i64 l, .agg #[.int .i64 0, .int .u64 pa, .int .i64 perm, .int .i64 mem, .bool af]] w fun e w' => e = .returned (.tuple #[.int .u64 0, .int .i64 0]) ∧ Below w.heap.size w w' := by
 go_enter Tryz.func81, Tryz.ntmps81
 go_wp2_with (go_at_call 101; refine (may_any _ _ _ _ _ _ _ h0 h0').mono ?_; rintro e w1 ⟨rfl, hb1⟩; obtain ⟨hc1, hf1⟩ := bcell hb1)
 go_ret2
 exact ⟨rfl, ((((Below.refl _ _).alloc (Nat.le_refl _) _).alloc (by simp) _).trans (hb1.mono (by simp; omega)))⟩
set_option maxHeartbeats 1000000 in
theorem put_table (l pa perm mem : Int) (af : Bool) (w : World) (h0 : 0 ≤ pa) (h0' : pa < 18446744073709551616) (hm : mayV l ⟨1, pa, perm, mem, af⟩ = true) :
  Calls Tryz.prog 81 #[.int .i64 l, .agg #[.int .i64 1, .int .u64 pa, .int .i64 perm, .int .i64 mem, .bool af]] w fun e w' => e = .returned (.tuple #[.int .u64 (joinV [(0, pa), (0, 1), (1, 1)]), .int .i64 0]) ∧ Below w.heap.size w w' := by
 go_enter Tryz.func81, Tryz.ntmps81
 go_wp2_with fail
 refine (may_any _ _ _ _ _ _ _ h0 h0').mono ?_; rintro e w1 ⟨rfl, hb1⟩; obtain ⟨hc1, hf1⟩ := bcell hb1; have hz : w.heap.size + 1 < w1.heap.size := by have := hb1.size; simp at this; omega
 go_wp2_with fail
 refine (joined_any [(0, pa), (0, 1), (1, 1)] _ _ _ _ (by simp) (by simp) ?_ (by simp)).mono ?_
 ·intro i h
  rcases i with _ | _ | _ | i
  ·simp [World.cell?_alloc_new]
  ·simp [World.cell?_alloc_new]
  ·simp [World.cell?_alloc_new]
  ·simp at h; omega
 rintro e w2 ⟨rfl, hb2⟩
 go_wp2_with fail
 go_ret2
 exact ⟨rfl, ((((Below.refl _ _).alloc (Nat.le_refl _) _).alloc (by simp) _).trans (hb1.mono (by simp; omega))).trans (((Below.refl _ _).alloc (by omega) _).trans (hb2.mono (by simp; omega)))⟩
theorem leafFields_yes (l k pa perm mem : Int) (af : Bool) (h : mem = 1) : leafFields l ⟨k, pa, perm, mem, af⟩ = [(0, pa), (0, 1), (1, oneV (l == 3)), (2, 1), (8, 2), (6, oneV (bits BinOp.and IntKind.i64 perm 1 != 0)),
   (7, oneV (bits BinOp.and IntKind.i64 perm 2 != 0)), (10, oneV af), (54, oneV (bits BinOp.and IntKind.i64 perm 4 == 0))] := by simp [leafFields, h]
theorem leafFields_no (l k pa perm mem : Int) (af : Bool) (h : ¬ mem = 1) : leafFields l ⟨k, pa, perm, mem, af⟩ = [(0, pa), (0, 1), (1, oneV (l == 3)), (2, 15), (8, 3), (6, oneV (bits BinOp.and IntKind.i64 perm 1 != 0)),
   (7, oneV (bits BinOp.and IntKind.i64 perm 2 != 0)), (10, oneV af), (54, oneV (bits BinOp.and IntKind.i64 perm 4 == 0))] := by simp [leafFields, h]
theorem joined_leaf (w : World) (pa a b c d e f g h : Int) :
  Calls Tryz.prog 102 #[.slice (some ⟨w.heap.size, 0, none⟩) 9 9] (w.alloc (.cells #[.int .i64 0, .int .u64 pa, .int .i64 0, .int .u64 a, .int .i64 1, .int .u64 b, .int .i64 2, .int .u64 c, .int .i64 8, .int .u64 d, .int .i64 6, .int .u64 e, .int .i64 7, .int .u64 f, .int .i64 10, .int .u64 g, .int .i64 54, .int .u64 h] 162)).drew
   fun x w' => x = .returned (.int .u64 (joinV [(0, pa), (0, a), (1, b), (2, c), (8, d), (6, e), (7, f), (10, g), (54, h)])) ∧ Below (w.heap.size + 1) (w.alloc (.cells #[.int .i64 0, .int .u64 pa, .int .i64 0, .int .u64 a, .int .i64 1, .int .u64 b, .int .i64 2, .int .u64 c, .int .i64 8, .int .u64 d, .int .i64 6, .int .u64 e, .int .i64 7, .int .u64 f, .int .i64 10, .int .u64 g, .int .i64 54, .int .u64 h] 162)).drew w' := by
 refine (joined_any [(0, pa), (0, a), (1, b), (2, c), (8, d), (6, e), (7, f), (10, g), (54, h)] w.heap.size 0 9 _ (by simp) (by simp) ?_ (by simp)).mono ?_
 ·intro i hi
  rcases i with _ | _ | _ | _ | _ | _ | _ | _ | _ | i
  case succ.succ.succ.succ.succ.succ.succ.succ.succ => simp at hi; omega
  all_goals simp [World.cell?_alloc_new]
 ·intro x w' h
  simpa using h
set_option maxHeartbeats 4000000 in
theorem put_leaf (l k pa perm mem : Int) (af : Bool) (w : World) (h0 : 0 ≤ pa) (h0' : pa < 18446744073709551616) (hm : mayV l ⟨k, pa, perm, mem, af⟩ = true) (hk : k = 2 ∨ k = 3) :
  Calls Tryz.prog 81 #[.int .i64 l, .agg #[.int .i64 k, .int .u64 pa, .int .i64 perm, .int .i64 mem, .bool af]] w fun e w' => e = .returned (.tuple #[.int .u64 (joinV (leafFields l ⟨k, pa, perm, mem, af⟩)), .int .i64 0]) ∧ Below w.heap.size w w' := by
 have k0 : (k == 0) = false := by rcases hk with rfl | rfl <;> rfl
 have k1 : (k == 1) = false := by rcases hk with rfl | rfl <;> rfl
 clear hk
 by_cases hmem : mem = 1
 ·have m1 : (mem == 1) = true := by simpa using hmem
  go_enter Tryz.func81, Tryz.ntmps81
  have e := Lib.hid (leafFields_yes l k pa perm mem af hmem)
  clear hmem
  go_wp2_with fail
  refine (may_any _ _ _ _ _ _ _ h0 h0').mono ?_; rintro e w1 ⟨rfl, hb1⟩; obtain ⟨hc1, hf1⟩ := bcell hb1; have hz : w.heap.size + 1 < w1.heap.size := by have := hb1.size; simp at this; omega
  go_wp2_with fail
  have c1 : w1.cell? ⟨w.heap.size, 1, none⟩ = some (.int .u64 pa) := by rw [hc1 _ _ (by simp; omega)]; simp [World.cell?_alloc_past]
  have c2 : w1.cell? ⟨w.heap.size, 2, none⟩ = some (.int .i64 perm) := by rw [hc1 _ _ (by simp; omega)]; simp [World.cell?_alloc_past]
  have c4 : w1.cell? ⟨w.heap.size, 4, none⟩ = some (.bool af) := by rw [hc1 _ _ (by simp; omega)]; simp [World.cell?_alloc_past]
  have hz1 : w.heap.size < w1.heap.size + 1 := by omega
  clear hc1 hf1 hm
  go_region_held3 (fun w' => w'.cell? ⟨w.heap.size, 1, none⟩ = some (.int .u64 pa) ∧ w'.cell? ⟨w.heap.size, 2, none⟩ = some (.int .i64 perm) ∧ w'.cell? ⟨w.heap.size, 4, none⟩ = some (.bool af)) (first | assumption | go_keep)
   (first
    | (go_at_call 103; refine (one_any _ _).mono ?_; rintro e w' ⟨rfl, rfl⟩)
    | (go_at_call 102; refine (joined_leaf w1 pa _ _ _ _ _ _ _ _).mono ?_; rintro e w2 ⟨rfl, hb2⟩; obtain ⟨hc2, hf2⟩ := bcell hb2))
  go_wp2_with fail
  go_ret2
  exact ⟨by rw [e.out]; rfl, ((((Below.refl _ _).alloc (Nat.le_refl _) _).alloc (by simp) _).trans (hb1.mono (by simp; omega))).trans (((Below.refl _ _).alloc (by omega) _).drew.trans (hb2.mono (by omega)))⟩
 ·have m1 : (mem == 1) = false := by simpa using hmem
  go_enter Tryz.func81, Tryz.ntmps81
  have e := Lib.hid (leafFields_no l k pa perm mem af hmem)
  clear hmem
  go_wp2_with fail
  refine (may_any _ _ _ _ _ _ _ h0 h0').mono ?_; rintro e w1 ⟨rfl, hb1⟩; obtain ⟨hc1, hf1⟩ := bcell hb1; have hz : w.heap.size + 1 < w1.heap.size := by have := hb1.size; simp at this; omega
  go_wp2_with fail
  have c1 : w1.cell? ⟨w.heap.size, 1, none⟩ = some (.int .u64 pa) := by rw [hc1 _ _ (by simp; omega)]; simp [World.cell?_alloc_past]
  have c2 : w1.cell? ⟨w.heap.size, 2, none⟩ = some (.int .i64 perm) := by rw [hc1 _ _ (by simp; omega)]; simp [World.cell?_alloc_past]
  have c4 : w1.cell? ⟨w.heap.size, 4, none⟩ = some (.bool af) := by rw [hc1 _ _ (by simp; omega)]; simp [World.cell?_alloc_past]
  have hz1 : w.heap.size < w1.heap.size + 1 := by omega
  clear hc1 hf1 hm
  go_region_held3 (fun w' => w'.cell? ⟨w.heap.size, 1, none⟩ = some (.int .u64 pa) ∧ w'.cell? ⟨w.heap.size, 2, none⟩ = some (.int .i64 perm) ∧ w'.cell? ⟨w.heap.size, 4, none⟩ = some (.bool af)) (first | assumption | go_keep)
   (first
    | (go_at_call 103; refine (one_any _ _).mono ?_; rintro e w' ⟨rfl, rfl⟩)
    | (go_at_call 102; refine (joined_leaf w1 pa _ _ _ _ _ _ _ _).mono ?_; rintro e w2 ⟨rfl, hb2⟩; obtain ⟨hc2, hf2⟩ := bcell hb2))
  go_wp2_with fail
  go_ret2
  exact ⟨by rw [e.out]; rfl, ((((Below.refl _ _).alloc (Nat.le_refl _) _).alloc (by simp) _).trans (hb1.mono (by simp; omega))).trans (((Below.refl _ _).alloc (by omega) _).drew.trans (hb2.mono (by omega)))⟩
theorem put_any (l : Int) (d : DescV) (w : World) (h0 : 0 ≤ d.pa) (h0' : d.pa < 18446744073709551616) :
  Calls Tryz.prog 81 #[.int .i64 l, d.val] w fun e w' => e = .returned (.tuple #[.int .u64 (putV l d).1, .int .i64 (putV l d).2]) ∧ Below w.heap.size w w' := by
 obtain ⟨k, pa, perm, mem, af⟩ := d
 unfold putV
 cases hm : mayV l ⟨k, pa, perm, mem, af⟩
 ·exact put_no l k pa perm mem af w h0 h0' hm
 ·by_cases e0 : k = 0
  ·subst e0; rw [if_neg (by simp), if_pos rfl]; exact put_zero l pa perm mem af w h0 h0' hm
  ·by_cases e1 : k = 1
   ·subst e1; rw [if_neg (by simp), if_neg e0, if_pos rfl]; exact put_table l pa perm mem af w h0 h0' hm
   ·have hk : k = 2 ∨ k = 3 := by
     apply Classical.byContradiction
     intro hk
     have : mayV l ⟨k, pa, perm, mem, af⟩ = false := by
      simp only [mayV]
      rw [if_neg e0, if_neg e1, if_neg hk]; simp
     rw [this] at hm; cases hm
    rw [if_neg (by simp), if_neg e0, if_neg e1]; exact put_leaf l k pa perm mem af w h0 h0' hm hk
end Go.Proofs.YtiblhlaemmdphaaGreat
/- The walks of the four statements of chapter 18: each returns true. Conditions: the library's table for trailing zeros is as its initialiser lays it. -/
namespace Go.Proofs.YtiblhlaemmdphaaGreat
open Go.RowKit
theorem bits_u64_bd (op : BinOp) (x y : Int) : 0 ≤ bits op .u64 x y ∧ bits op .u64 x y < 18446744073709551616 := by
 unfold bits
 split <;> (try rw [IntKind.wrap_u64]) <;> omega
theorem joinV_bd (fs : List (Int × Int)) : 0 ≤ joinV fs ∧ joinV fs < 18446744073709551616 := by
 rcases List.eq_nil_or_concat fs with rfl | ⟨L, x, rfl⟩
 ·decide
 ·rw [List.concat_eq_append, joinV_snoc]; exact bits_u64_bd _ _ _
theorem putV_bd (l : Int) (d : DescV) : 0 ≤ (putV l d).1 ∧ (putV l d).1 < 18446744073709551616 := by
 unfold putV
 split; decide; split; decide; split; exact joinV_bd _; exact joinV_bd _
theorem putV_ok (l : Int) (d : DescV) : (mayV l d = true ∧ (putV l d).2 = 0) ∨ (mayV l d = false ∧ (putV l d).2 = 180) := by
 cases h : mayV l d
 ·right; unfold putV; rw [if_pos h]; exact ⟨rfl, rfl⟩
 ·left; unfold putV; rw [if_neg (by rw [h]; simp)]; refine ⟨rfl, ?_⟩; split; rfl; split <;> rfl
end Go.Proofs.YtiblhlaemmdphaaGreat
