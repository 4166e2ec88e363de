/- The walks of word.Down, word.Up and word.Add at two numbers. Conditions: words of 64 bits. -/
import Derived.Shelf.Spec.BitsCarry
import Derived.BigQuiet
import Derived.OneCell
import Derived.RangeFuncNested
import Derived.RangeFuncBound
import Derived.RangeFuncCalls
import Derived.RangeFuncLeaves
import Derived.RangeFuncBox
import Derived.Shelf.Abstract
import Derived.Shelf.RegionOpen
import Derived.WalkKit
import Derived.OwnWalkIn
import Derived.TacticsInMore
import Derived.LoopNIn
import Derived.LoopIn
import Derived.ControlIn
import Derived.Test.YtiblhlaemmdphaaGreatTableFreshP7
import Derived.Test.YtiblhlaemmdphaaGreatTableFreshP10
import Derived.Test.YtiblhlaemmdphaaGreatTableFreshP17
import Derived.Test.YtiblhlaemmdphaaGreatTableFreshP33
namespace Go.Proofs.YtiblhlaemmdphaaGreat
open Go Go.RowKit
set_option maxHeartbeats 400000 in
theorem down_any (n a : Int) (w : World) (hn : W64 n) (ha : W64 a) :
  Calls Tryz.prog 58 #[.int .u64 n, .int .u64 a] w fun e w' => e = .returned (.int .u64 (if a = 0 then 0 else n - n % a)) ∧ w' = w := by
 obtain ⟨n0, n1⟩ := hn
 obtain ⟨a0, a1⟩ := ha
 by_cases h : a = 0
 ·have e : (if a = 0 then 0 else n - n % a) = 0 := if_pos h
  rw [e]; clear e
  subst h
  go_enter Tryz.func58, Tryz.ntmps58
  go_wp2
  go_ret
  exact ⟨rfl, rfl⟩
 ·have e : (if a = 0 then 0 else n - n % a) = n - n % a := if_neg h
  rw [e]; clear e
  have h1 : 1 ≤ a := by omega
  have h2 : (a == 0) = false := by simpa using h
  have m0 := Int.emod_nonneg n h
  have m1 : n % a ≤ n := by
   have := Int.emod_lt_of_pos n (by omega : 0 < a)
   rcases Int.lt_or_le n a with hlt | hle
   ·rw [Int.emod_eq_of_lt n0 hlt]; exact Int.le_refl _
   ·omega
  go_enter Tryz.func58, Tryz.ntmps58
  go_wp2
  go_ret
  exact ⟨rfl, rfl⟩
def add2 (x y : Int) : Int × Bool := if x + y < 18446744073709551616 then (x + y, true) else (0, false)
theorem add64_run (x y : Int) (w : World) (hx : W64 x) (hy : W64 y) :
  (callFunc 83 #[.int .u64 x, .int .u64 y, .int .u64 0]).run Tryz.prog w =
   .ok (.value (.tuple #[.int .u64 ((x + y) % 18446744073709551616), .int .u64 ((x + y) / 18446744073709551616)])) w := by
 rw [run_callFunc_extern Tryz.func83 (by kernel_rfl) (by kernel_rfl) (by kernel_rfl) (e := add64Entry) (by kernel_rfl), run_add64 x y 0 hx.1 hy.1 (by omega) (by omega)]
 simp only [Result.andThen, Int.add_zero]
set_option maxHeartbeats 1000000 in
theorem add_any (x y : Int) (b : Nat) (w : World) (hx : W64 x) (hy : W64 y) (c0 : w.cell? ⟨b, 0, none⟩ = some (.int .u64 x)) (c1 : w.cell? ⟨b, 1, none⟩ = some (.int .u64 y)) :
  Calls Tryz.prog 59 #[.slice (some ⟨b, 0, none⟩) 2 2] w fun e w' => e = .returned (.tuple #[.int .u64 (add2 x y).1, .bool (add2 x y).2]) ∧ w' = w := by
 have e1 : (0 + x) % 18446744073709551616 = x := by rw [Int.zero_add]; exact W64.eq hx
 have e2 : (0 + x) / 18446744073709551616 = 0 := by have := hx.1; have := hx.2; omega
 have hA := fun w => add64_run 0 x w (by unfold W64; omega) hx
 have hB := fun w => add64_run x y w hx hy
 rw [e1, e2] at hA
 clear e1 e2
 have e3 : (add2 x y = (x + y, true) ∧ (x + y) % 18446744073709551616 = x + y ∧ (x + y) / 18446744073709551616 = 0) ∨ (add2 x y = (0, false) ∧ (x + y) / 18446744073709551616 = 1) := by
  have := hx.1; have := hx.2; have := hy.1; have := hy.2
  unfold add2
  by_cases h : x + y < 18446744073709551616
  ·rw [if_pos h]; exact .inl ⟨rfl, by omega, by omega⟩
  ·rw [if_neg h]; exact .inr ⟨rfl, by omega⟩
 rcases e3 with ⟨e3, e4, e5⟩ | ⟨e3, e5⟩
 ·rw [e4, e5] at hB
  replace e3 := Lib.hid e3
  generalize x + y = z at *
  clear e4 e5
  go_enter Tryz.func59, Tryz.ntmps59
  go_wp2
  go_loop [4, 11] (fun s i => (i = .int .i64 0 ∧ s = .int .u64 0) ∨ (i = .int .i64 1 ∧ s = .int .u64 x) ∨ (i = .int .i64 2 ∧ s = .int .u64 z)) (fun _ i => 2 - (intOf i).toNat)
  case atStart => exact .inl ⟨rfl, rfl⟩
  case round =>
   rcases hrel with ⟨rfl, rfl⟩ | ⟨rfl, rfl⟩ | ⟨rfl, rfl⟩
   ·go_wp2
    go_round
    case rel => exact .inr (.inl ⟨rfl, rfl⟩)
    case measure => simp [intOf]
   ·go_wp2
    go_round
    case rel => exact .inr (.inr ⟨rfl, rfl⟩)
    case measure => simp [intOf]
   ·go_wp2
    go_ret2
    exact ⟨by rw [e3.out]; rfl, rfl⟩
 ·rw [e5] at hB
  replace e3 := Lib.hid e3
  clear e5
  go_enter Tryz.func59, Tryz.ntmps59
  go_wp2
  go_loop [4, 11] (fun s i => (i = .int .i64 0 ∧ s = .int .u64 0) ∨ (i = .int .i64 1 ∧ s = .int .u64 x)) (fun _ i => 2 - (intOf i).toNat)
  case atStart => exact .inl ⟨rfl, rfl⟩
  case round =>
   rcases hrel with ⟨rfl, rfl⟩ | ⟨rfl, rfl⟩
   ·go_wp2
    go_round
    case rel => exact .inr ⟨rfl, rfl⟩
    case measure => simp [intOf]
   ·go_wp2
    go_ret2
    exact ⟨by rw [e3.out]; rfl, rfl⟩
theorem alloc_pair (W : World) (p q : Value) (t : TypeId) : (W.alloc (.cells #[p, q] t)).cell? ⟨W.heap.size, 0, none⟩ = some p ∧ (W.alloc (.cells #[p, q] t)).cell? ⟨W.heap.size, 1, none⟩ = some q := ⟨by simp [World.cell?_alloc_new], by simp [World.cell?_alloc_new]⟩
set_option maxHeartbeats 1000000 in
theorem up_any (n a : Int) (w : World) (hn : W64 n) (ha : W64 a) :
  Calls Tryz.prog 27 #[.int .u64 n, .int .u64 a] w fun e w' => e = .returned (.tuple #[.int .u64 (upV n a).1, .bool (upV n a).2]) ∧ Below w.heap.size w w' := by
 by_cases h0 : a = 0
 ·have e : upV n a = (0, false) := by unfold upV; rw [if_pos h0]
  replace e := Lib.hid e
  subst h0
  go_enter Tryz.func27, Tryz.ntmps27
  go_wp2
  go_ret2
  exact ⟨by rw [e.out]; rfl, Below.refl _ _⟩
 ·have h2 : (a == 0) = false := by simpa using h0
  have hd := fun w => down_any n a w hn ha
  rw [if_neg h0] at hd
  have hp : 0 < a := by have := ha.1; omega
  have m0 := Int.emod_nonneg n h0
  have m1 : n % a ≤ n := by
   have := Int.emod_lt_of_pos n hp
   rcases Int.lt_or_le n a with hlt | hle
   ·rw [Int.emod_eq_of_lt hn.1 hlt]; exact Int.le_refl _
   ·omega
  by_cases h1 : n % a = 0
  ·have e : upV n a = (n, true) := upV_fix hp h1
   replace e := Lib.hid e
   rw [h1, Int.sub_zero] at hd
   clear h1 m0 m1
   go_enter Tryz.func27, Tryz.ntmps27
   go_wp2_with (go_at_call 58; refine (hd _).mono ?_; rintro e w1 ⟨rfl, rfl⟩)
   go_ret2
   exact ⟨by rw [e.out]; rfl, Below.refl _ _⟩
  ·have e : upV n a = add2 (n - n % a) a := by unfold upV add2; rw [if_neg h0, if_neg h1]
   replace e := Lib.hid e
   have hl : W64 (n - n % a) := by have := hn.2; unfold W64; omega
   have hne : ((n - n % a) == n) = false := by simp; omega
   generalize n - n % a = m at *
   have hc := fun w => alloc_pair w (.int .u64 m) (.int .u64 a) 42
   have c0 := fun w => (alloc_pair w (.int .u64 m) (.int .u64 a) 26).1
   have c1 := fun w => (alloc_pair w (.int .u64 m) (.int .u64 a) 26).2
   clear hc m0 m1 h1
   go_enter Tryz.func27, Tryz.ntmps27
   go_wp2_with (first | (go_at_call 58; refine (hd _).mono ?_; rintro e w1 ⟨rfl, rfl⟩) | (go_at_call 59; refine (add_any m a _ _ hl ha (c0 _) (c1 _)).mono ?_; rintro e w1 ⟨rfl, rfl⟩))
   go_ret2
   exact ⟨by rw [e.out]; rfl, bone _ _⟩
end Go.Proofs.YtiblhlaemmdphaaGreat
/- A pool of frames as it lies in memory; the walks of frame.New, of the span of all frames, and of what a pool tells. -/
namespace Go.Proofs.YtiblhlaemmdphaaGreat
open Go Go.RowKit Go.BigFrame
structure PoolAt (w : World) (B : Nat) (v : Value) (p : Pl) : Prop where
 blk : w.heap[B]? = some (.cells #[.int .u64 p.from', .int .u64 p.count, v, .int .u64 p.out] 82 (0, 0))
 own : OwnTwo 28 w (B + 1) v p.used
theorem PoolAt.lt {w : World} {B : Nat} {v : Value} {p : Pl} (h : PoolAt w B v p) : B < w.heap.size := (Array.getElem?_eq_some_iff.1 h.blk).1
theorem PoolAt.cells {w : World} {B : Nat} {v : Value} {p : Pl} (h : PoolAt w B v p) : w.cell? ⟨B, 0, none⟩ = some (.int .u64 p.from') ∧ w.cell? ⟨B, 1, none⟩ = some (.int .u64 p.count) ∧ w.cell? ⟨B, 2, none⟩ = some v ∧ w.cell? ⟨B, 3, none⟩ = some (.int .u64 p.out) := by
 refine ⟨?_, ?_, ?_, ?_⟩ <;> simp [World.cell?, h.blk]
theorem PoolAt.below {w w' : World} {B : Nat} {v : Value} {p : Pl} (h : PoolAt w B v p) (hb : Below w.heap.size w w') : PoolAt w' B v p :=
 ⟨(hb.block B h.lt).trans h.blk, h.own.below hb (Nat.le_refl _)⟩
theorem PoolAt.row {w : World} {B : Nat} {v : Value} {p : Pl} (h : PoolAt w B v p) : RowTwo w v p.used := h.own.row
structure Kept (B : Nat) (v : Value) (w w' : World) : Prop where
 os : w'.os = w.os
 tape : w'.tape = w.tape
 output : w'.output = w.output
 size : w.heap.size ≤ w'.heap.size
 block : ∀ k, k < w.heap.size → k ≠ B → v.ownBlock ≠ some k → w'.heap[k]? = w.heap[k]?
theorem heap_setCell_at {w : World} {B i : Nat} {cs : Array Value} {T : TypeId} {fz : Nat × Nat} (h : w.heap[B]? = some (.cells cs T fz)) (u : Value) : (w.setCell ⟨B, i, none⟩ u).heap[B]? = some (.cells (cs.setIfInBounds i u) T fz) := by
 rw [Go.Sort.setCell_eq]
 simp [Go.Sort.mapBlock, Array.getElem?_modify, h, Go.Sort.onCells]
theorem box_pool {w w1 : World} {p q : Value} {T1 T2 : TypeId} {cs : Array Value} (hb : Below ((w.alloc (.cells #[p, q] T1)).alloc (.cells cs T2)).heap.size ((w.alloc (.cells #[p, q] T1)).alloc (.cells cs T2)) w1) :
  w1.cell? ⟨w.heap.size, 0, none⟩ = some p ∧ w1.cell? ⟨w.heap.size, 1, none⟩ = some q ∧ w1.heap[w.heap.size + 1]? = some (.cells cs T2 (0, 0)) ∧ w.heap.size + 1 < w1.heap.size ∧ w.heap.size < w1.heap.size ∧ Below w.heap.size w w1 := by
 have h1 := alloc_two w p q T1
 have hq := bone (w.alloc (.cells #[p, q] T1)) (.cells cs T2)
 have h2 : ((w.alloc (.cells #[p, q] T1)).alloc (.cells cs T2)).heap[w.heap.size + 1]? = some (.cells cs T2 (0, 0)) := by
  have := World.alloc_heap_new (w.alloc (.cells #[p, q] T1)) (.cells cs T2); rwa [World.size_alloc] at this
 have hs := hb.size
 simp only [World.size_alloc] at hs
 exact ⟨cell_lt hb (cell_lt hq h1.1 (by simp)) (by simp; omega), cell_lt hb (cell_lt hq h1.2 (by simp)) (by simp; omega), (hb.block _ (by simp)).trans h2, by omega, by omega, bnew (bnew hb)⟩
theorem pool_cells {w : World} {B : Nat} {a b c d : Value} {T : TypeId} (h : w.heap[B]? = some (.cells #[a, b, c, d] T (0, 0))) :
  (w.frozen? ⟨B, 0, none⟩ = false ∧ w.frozen? ⟨B, 1, none⟩ = false) ∧ (w.cell? ⟨B, 0, none⟩ = some a ∧ w.cell? ⟨B, 1, none⟩ = some b) := by
 simp [World.frozen?, World.cell?, h]
theorem pool_set {w : World} {B : Nat} {a b c d : Value} {T : TypeId} (h : w.heap[B]? = some (.cells #[a, b, c, d] T (0, 0))) (u x : Value) :
  ((w.setCell ⟨B, 0, none⟩ u).setCell ⟨B, 1, none⟩ x).heap[B]? = some (.cells #[u, x, c, d] T (0, 0)) := by
 rw [heap_setCell_at (heap_setCell_at h u) x]; rfl
set_option maxHeartbeats 2000000 in
theorem new_any (s : Two) (w : World) : Calls Tryz.prog 11 #[.agg #[.int .u64 s.a, .int .u64 s.b]] w fun e w' => ∃ B, e = .returned (.pointer (some ⟨B, 0, none⟩)) ∧ w.heap.size ≤ B ∧ PoolAt w' B (.slice none 0 0) (newV s) ∧ Below w.heap.size w w' := by
 have hu := fun W => up_any s.a 4096 W s.ha (by unfold W64; omega)
 have hg := fun W => good_any s.a s.b W s.ha s.hb
 have hl := fun W => last_any s.a s.b W s.ha s.hb
 have hlw := lastV_w s.ha s.hb
 have hN : newV s = (if goodB s.a s.b = true ∧ (upV s.a 4096).2 = true ∧ (upV s.a 4096).1 ≤ lastV s.a s.b then ⟨(upV s.a 4096).1, (lastV s.a s.b - (upV s.a 4096).1 + 1) / 4096, [], 0⟩ else ⟨0, 0, [], 0⟩) := rfl
 have hlt : goodB s.a s.b = true → lastV s.a s.b < 18446744073709551615 ∨ 0 < s.a := fun h => by
  have h1 := lastV_yes h; have := s.hb; have := s.ha; unfold W64 at *; omega
 have huw : W64 (upV s.a 4096).1 ∧ (0 < s.a → 0 < (upV s.a 4096).1 ∨ (upV s.a 4096).2 = false) := by
  cases hh : (upV s.a 4096).2
  ·refine ⟨?_, fun _ => .inr rfl⟩
   have : (upV s.a 4096) = (0, false) ∨ (upV s.a 4096).2 = true := by
    unfold upV; rw [if_neg (by decide)]; split
    ·exact .inr rfl
    ·split
     ·exact .inr rfl
     ·exact .inl rfl
   rcases this with h | h
   ·rw [h]; unfold W64; omega
   ·rw [hh] at h; cases h
  ·obtain ⟨_, _, h3, _, h5⟩ := upV_yes s.ha (by unfold W64; omega) hh
   exact ⟨h5, fun h => .inl (by omega)⟩
 generalize newV s = N at *
 generalize lastV s.a s.b = L at *
 generalize goodB s.a s.b = G at *
 generalize (upV s.a 4096).1 = U at *
 generalize (upV s.a 4096).2 = I at *
 rcases Bool.eq_false_or_eq_true G with rfl | rfl
 ·rcases Bool.eq_false_or_eq_true I with rfl | rfl
  ·by_cases hle : U ≤ L
   ·rw [if_pos ⟨rfl, rfl, hle⟩] at hN
    obtain ⟨u0, u1⟩ := huw.1
    obtain ⟨l0, l1⟩ := hlw
    have hlt := hlt rfl
    have hL1 : L - U + 1 ≤ 18446744073709551615 := by
     rcases hlt with h | h
     ·omega
     ·rcases huw.2 h with h | h
      ·omega
      ·cases h
    replace hN := Lib.hid hN
    clear huw hlt
    go_enter Tryz.func11, Tryz.ntmps11
    go_wp2_with fail
    refine (hu _).mono ?_; rintro e w1 ⟨rfl, hb1⟩
    obtain ⟨c0, c1, hP, hz1, hz0, hW⟩ := box_pool hb1
    clear hb1
    go_wp2_with fail
    refine (hg _).mono ?_; rintro e w2 ⟨rfl, hb2⟩
    have c0' := cell_lt hb2 c0 hz0
    have c1' := cell_lt hb2 c1 hz0
    have hz0' : w.heap.size < w2.heap.size := Nat.lt_of_lt_of_le hz0 hb2.size
    clear c0 c1
    go_wp2_with fail
    refine (hl _).mono ?_; rintro e w3 ⟨rfl, hb3⟩
    have c0 := cell_lt hb3 c0' hz0'
    have c1 := cell_lt hb3 c1' hz0'
    clear c0' c1'
    go_wp2_with fail
    refine (hl _).mono ?_; rintro e w4 ⟨rfl, hb4⟩
    have hbb := bthen (bthen hb2 hb3) hb4
    have hP4 := (hbb.block _ hz1).trans hP
    have hW4 : Below w.heap.size w w4 := bthen hW hbb
    clear c0 c1 hP hb2 hb3 hb4 hbb hW
    obtain ⟨⟨f0, f1⟩, g0, g1⟩ := pool_cells hP4
    have hd : (0 : Int) ≤ L - U + 1 := by omega
    go_wp2_with fail
    go_ret
    refine ⟨w.heap.size + 1, rfl, by omega, ?_, (hW4.setCell (by simp) _).setCell (by simp) _⟩
    rw [hN.out]
    exact ⟨pool_set hP4 _ _, OwnTwo.nil _ _ _⟩
   ·rw [if_neg (fun h => hle h.2.2)] at hN
    replace hN := Lib.hid hN
    clear huw hlt hlw
    go_enter Tryz.func11, Tryz.ntmps11
    go_wp2_with fail
    refine (hu _).mono ?_; rintro e w1 ⟨rfl, hb1⟩
    obtain ⟨c0, c1, hP, hz1, hz0, hW⟩ := box_pool hb1
    clear hb1
    go_wp2_with fail
    refine (hg _).mono ?_; rintro e w2 ⟨rfl, hb2⟩
    have c0' := cell_lt hb2 c0 hz0
    have c1' := cell_lt hb2 c1 hz0
    clear c0 c1
    go_wp2_with fail
    refine (hl _).mono ?_; rintro e w3 ⟨rfl, hb3⟩
    have hbb := bthen hb2 hb3
    go_wp2_with fail
    go_ret
    exact ⟨w.heap.size + 1, rfl, by omega, by rw [hN.out]; exact ⟨(hbb.block _ hz1).trans hP, OwnTwo.nil _ _ _⟩, bthen hW hbb⟩
  ·rw [if_neg (fun h => by cases h.2.1)] at hN
   replace hN := Lib.hid hN
   clear huw hlt hlw
   go_enter Tryz.func11, Tryz.ntmps11
   go_wp2_with fail
   refine (hu _).mono ?_; rintro e w1 ⟨rfl, hb1⟩
   obtain ⟨c0, c1, hP, hz1, hz0, hW⟩ := box_pool hb1
   clear hb1
   go_wp2_with fail
   refine (hg _).mono ?_; rintro e w2 ⟨rfl, hb2⟩
   go_wp2_with fail
   go_ret
   exact ⟨w.heap.size + 1, rfl, by omega, by rw [hN.out]; exact ⟨(hb2.block _ hz1).trans hP, OwnTwo.nil _ _ _⟩, bthen hW hb2⟩
 ·rw [if_neg (fun h => by cases h.1)] at hN
  replace hN := Lib.hid hN
  clear huw hlt hlw
  go_enter Tryz.func11, Tryz.ntmps11
  go_wp2_with fail
  refine (hu _).mono ?_; rintro e w1 ⟨rfl, hb1⟩
  obtain ⟨c0, c1, hP, hz1, hz0, hW⟩ := box_pool hb1
  clear hb1
  go_wp2_with fail
  refine (hg _).mono ?_; rintro e w2 ⟨rfl, hb2⟩
  go_wp2_with fail
  go_ret
  exact ⟨w.heap.size + 1, rfl, by omega, by rw [hN.out]; exact ⟨(hb2.block _ hz1).trans hP, OwnTwo.nil _ _ _⟩, bthen hW hb2⟩
theorem run_nil_bad (n align : Int) (q : Option Addr) (w : World) (h : askB n align = false) (ha : W64 align) :
  Calls Tryz.prog 51 #[.pointer q, .int .i64 n, .int .u64 align] w fun e w' => e = .returned (.tuple #[.int .u64 0, .int .i64 1]) ∧ Below w.heap.size w w' := by
 have a0 := ha.1
 have hcase : n < 1 ∨ (1 ≤ n ∧ 4096 < n) ∨ (1 ≤ n ∧ n ≤ 4096 ∧ align = 0) ∨ (1 ≤ n ∧ n ≤ 4096 ∧ align ≠ 0 ∧ align % 4096 ≠ 0) := by
  have : ¬ _ := fun hh => by rw [askB_iff.2 hh] at h; cases h
  omega
 rcases hcase with h1 | ⟨h1, h2⟩ | ⟨h1, h2, h3⟩ | ⟨h1, h2, h3, h4⟩
 ·have k1 : n < 1 := h1
  go_enter Tryz.func51, Tryz.ntmps51
  go_wp2_with fail
  refine bodyPost_ret (v := .tuple #[.int .u64 0, .int .i64 1]) (by simp [results, Tryz.results51, go_sem]) rfl ⟨rfl, ?_⟩
  repeat (first | exact Below.refl _ _ | refine Below.setCell ?_ (by simp <;> omega) _ | refine Below.alloc ?_ (by simp <;> omega) _)
 ·have k1 : ¬ n < 1 := by omega
  go_enter Tryz.func51, Tryz.ntmps51
  go_wp2_with fail
  refine bodyPost_ret (v := .tuple #[.int .u64 0, .int .i64 1]) (by simp [results, Tryz.results51, go_sem]) rfl ⟨rfl, ?_⟩
  repeat (first | exact Below.refl _ _ | refine Below.setCell ?_ (by simp <;> omega) _ | refine Below.alloc ?_ (by simp <;> omega) _)
 ·have k1 : ¬ n < 1 := by omega
  have k2 : ¬ 4096 < n := by omega
  subst h3
  go_enter Tryz.func51, Tryz.ntmps51
  go_wp2_with fail
  refine bodyPost_ret (v := .tuple #[.int .u64 0, .int .i64 1]) (by simp [results, Tryz.results51, go_sem]) rfl ⟨rfl, ?_⟩
  repeat (first | exact Below.refl _ _ | refine Below.setCell ?_ (by simp <;> omega) _ | refine Below.alloc ?_ (by simp <;> omega) _)
 ·have k1 : ¬ n < 1 := by omega
  have k2 : ¬ 4096 < n := by omega
  have k3 : (align == 0) = false := by simpa using h3
  have k4 : (align % 4096 != 0) = true := by simpa using h4
  go_enter Tryz.func51, Tryz.ntmps51
  go_wp2_with fail
  refine bodyPost_ret (v := .tuple #[.int .u64 0, .int .i64 1]) (by simp [results, Tryz.results51, go_sem]) rfl ⟨rfl, ?_⟩
  repeat (first | exact Below.refl _ _ | refine Below.setCell ?_ (by simp <;> omega) _ | refine Below.alloc ?_ (by simp <;> omega) _)
end Go.Proofs.YtiblhlaemmdphaaGreat
/- The walks of a pool's free stretches: it hands out the stretches of which nothing is handed out, in order. -/
namespace Go.Proofs.YtiblhlaemmdphaaGreat
open Go Go.RowKit Go.Shelf Go.BigFrame
attribute [local go_sem] Oper.semAt_some
structure KeepsCells (W W' : World) : Prop where
 size : W.heap.size ≤ W'.heap.size
 same : ∀ (k : Nat) (o : Obj), W.heap[k]? = some o → o.isCells = true → W'.heap[k]? = some o
theorem KeepsCells.refl (W : World) : KeepsCells W W := ⟨Nat.le_refl _, fun _ _ h _ => h⟩
theorem KeepsCells.trans {A B C : World} (h : KeepsCells A B) (k : KeepsCells B C) : KeepsCells A C := ⟨Nat.le_trans h.size k.size, fun i o h1 h2 => k.same i o (h.same i o h1 h2) h2⟩
theorem KeepsCells.of_below {W W' : World} (h : Below W.heap.size W W') : KeepsCells W W' := ⟨h.size, fun k _ hk _ => (h.block k (Array.getElem?_eq_some_iff.1 hk).1).trans hk⟩
theorem KeepsCells.putObj (W : World) (l : Nat) (o o' : Obj) (h : W.heap[l]? = some o) (hc : o.isCells = false) : KeepsCells W (W.putObj l o') :=
 ⟨(grownBy_putObj' W l o').size, fun k p hk hp => by
  refine ((grownBy_putObj' W l o').block k (Array.getElem?_eq_some_iff.1 hk).1 (fun e => ?_)).trans hk
  cases e
  rw [h] at hk; cases hk; rw [hc] at hp; cases hp⟩
theorem KeepsCells.cell {W W' : World} (h : KeepsCells W W') {a : Addr} {v : Value} (hc : W.cell? a = some v) : W'.cell? a = some v := by
 obtain ⟨o, ho, hi⟩ := cells_of_cell hc
 exact (World.cell?_of_block ((h.same _ o ho hi).trans ho.symm)).trans hc
theorem RowTwo.kept {W W' : World} {v : Value} {l : List Two} (h : RowTwo W v l) (k : KeepsCells W W') : RowTwo W' v l := by
 obtain ⟨a, cap, h1, hc, h2⟩ := h
 refine ⟨a, cap, h1, hc, fun hl => ?_⟩
 obtain ⟨b, off, ha, hlt, hcell⟩ := h2 hl
 exact ⟨b, off, ha, Nat.lt_of_lt_of_le hlt k.size, fun i hi => ⟨k.cell (hcell i hi).1, k.cell (hcell i hi).2⟩⟩
theorem cutFrom_le (last : Int) : ∀ (M : List Two) (f : Int), (cutFrom last f M).length ≤ M.length + 1
 | [], f => by simp [cutFrom]
 | x :: M, f => by
  have h1 := cutFrom_le last M f
  have h2 := cutFrom_le last M (x.b + 1)
  rw [cutFrom]
  split
  ·simp only [List.length_cons]; omega
  ·split
   ·simp
   ·rw [List.length_append]
    split <;> split <;> simp only [List.length_cons, List.length_nil] <;> omega
theorem free_len (p : Pl) : p.free.length ≤ p.used.length + 3 := by
 unfold Pl.free
 split
 ·simp
 ·unfold cutV
  split
  ·have h1 := spansV_len (cutEnds p.whole p.used)
   have h2 := cutFrom_le (lastV p.whole.a p.whole.b) (mergedV p.used) p.whole.a
   have h3 := mergedV_len p.used
   unfold cutEnds at *; omega
  ·simp
set_option maxHeartbeats 1000000 in
theorem whole_any (p : Pl) (hp : PlOk p) (w : World) : Calls Tryz.prog 98 #[.agg #[.int .u64 p.from', .int .u64 p.count]] w fun e w' => e = .returned (.agg #[.int .u64 p.whole.a, .int .u64 p.whole.b]) ∧ Below w.heap.size w w' := by
 obtain ⟨h1, h2⟩ := hp.whole_parts
 have c0 := hp.c0
 have c1 := hp.c1
 rw [h1, h2]
 clear h1 h2
 go_enter Tryz.func98, Tryz.ntmps98
 go_wp2
 refine bodyPost_ret (v := .agg #[.int .u64 p.from', .int .u64 (p.count * 4096)]) (by simp [results, Tryz.results98, go_sem]) rfl ⟨rfl, ?_⟩
 repeat (first | exact Below.refl _ _ | refine Below.setCell ?_ (by simp <;> omega) _ | refine Below.alloc ?_ (by simp <;> omega) _)
set_option maxRecDepth 20000 in
set_option maxHeartbeats 1000000 in
theorem free_in (n : Nat) (q : Option Addr) (w : World) :
  CallsIn Fence.wide n Tryz.prog 79 #[.pointer q] w fun e w' => e = .returned (.func (.func 96) #[] #[.pointer (some ⟨w.heap.size, 0, none⟩)]) ∧ w' = w.alloc (.cells #[.pointer q] 40) := by
 refine callsIn_of_wp Tryz.func79 rfl trivial ?_ rfl
 simp only [Tryz.ntmps79, List.size_toArray, List.length_cons, List.length_nil, Nat.reduceAdd, Nat.reduceSub, Array.replicate_succ, Array.replicate_zero, List.push_toArray, List.append_toArray, List.nil_append, List.cons_append]
 gi_wp2
 go_ret
 exact ⟨rfl, rfl⟩
set_option maxRecDepth 100000 in
set_option maxHeartbeats 4000000 in
theorem free1_in (n l Bs : Nat) (w0 : World) (hn : 1 ≤ n) (B : Nat) (v : Value) (p : Pl) (hok : PlOk p) (hlen : p.used.length ≤ 274877906944) (hp : PoolAt w0 B v p) (J Jx : List Two → World → Prop)
  (hY : ∀ pre (x : Two) W, J pre W → pre.length < p.free.length → YieldAt Fence.wide (n - 1) Tryz.prog l #[.agg #[.int .u64 x.a, .int .u64 x.b]] W fun e W' =>
   (e = .returned (.bool true) ∧ J (pre ++ [x]) W' ∧ KeepsCells W W') ∨ (e = .returned (.bool false) ∧ Jx (pre ++ [x]) W'))
  (W : World) (hJ : AbidesFrom W.heap.size J) (hBs : W.cell? ⟨Bs, 0, none⟩ = some (.pointer (some ⟨B, 0, none⟩))) (hW : Below w0.heap.size w0 W) (h0 : J [] W) :
  CallsIn Fence.wide n Tryz.prog 96 #[.func (.yield l) #[] #[], .pointer (some ⟨Bs, 0, none⟩)] W fun e W' => (∃ v, e = .returned v) ∧
   ((∃ ys, ys = p.free ∧ J ys W') ∨ (∃ pre, (∃ t, p.free = pre ++ t) ∧ Jx pre W')) := by
 have hpW := hp.below hW
 obtain ⟨c0, c1, c2, c3⟩ := hpW.cells
 have hBlt := hpW.lt
 refine callsIn_of_wp Tryz.func96 rfl trivial ?_ rfl
 simp only [Tryz.ntmps96, List.size_toArray, List.length_cons, List.length_nil, Nat.reduceAdd, Nat.reduceSub, Array.replicate_succ, Array.replicate_zero, List.push_toArray, List.append_toArray, List.nil_append, List.cons_append]
 by_cases hz : p.count = 0
 ·have hfree : p.free = [] := by unfold Pl.free; rw [if_pos hz]
  rw [hz] at c1
  replace hfree := Lib.hid hfree
  replace hz := Lib.hid hz
  gi_wp2
  refine bodyPost_ret (results_none rfl _ _ _) rfl ?_
  exact ⟨⟨_, rfl⟩, .inl ⟨_, rfl, by rw [hfree.out]; exact h0⟩⟩
 ·have hfree : p.free = cutV p.whole p.used := by unfold Pl.free; rw [if_neg hz]
  have hz' : (p.count == 0) = false := by simpa using hz
  have hwl := fun W => whole_any p hok W
  have hrowV := hpW.row
  have hBsl : Bs < W.heap.size := World.block_lt_of_cell? W _ hBs
  replace hfree := Lib.hid hfree
  clear hz
  gi_wp2
  refine wpIn_wide.2 ?_
  have y0 := later_cell hBs hBsl
  have y1 := later_cell c0 hBlt
  have y2 := later_cell c1 hBlt
  have y3 := later_cell c2 hBlt
  refine region_ord (fun z => ∃ X : Later W.heap.size W, z = X.x) [([0, 1, 2, 3, 5, 6, 7, 8, 11], 4), ([], 9)] [10] (by kernel_rfl) (by kernel_rfl) (by kernel_rfl) (by kernel_rfl) ⟨⟨_, (Below.refl _ _).drew⟩, rfl⟩ ?_
  simp only [List.map_cons, List.map_nil, List.filterMap_cons, List.filterMap_nil, List.getElem?_cons_succ, List.getElem?_cons_zero]
  have hB10 : Below W.heap.size W W.drew := (Below.refl _ _).drew
  generalize W.drew = w10 at *
  refine ord_step ?_
  repeat (change wpQuiet _ _ _ _ (List.cons _ _) _; go_big_quiet_step (fail))
  refine wpQuiet_nil ?_
  intro Q₁ hQ₁
  go_wp2_with fail
  refine (hwl w10).mono ?_; rintro e w11 ⟨rfl, hb11⟩
  have hB11 : Below W.heap.size W w11 := bthen hB10 hb11
  go_wp2_with fail
  refine hQ₁ _ _ ⟨⟨_, hB11⟩, rfl⟩ ?_
  clear hQ₁ Q₁
  refine ord_step ?_
  repeat (change wpQuiet _ _ _ _ (List.cons _ _) _; go_big_quiet_step (fail))
  refine wpQuiet_nil ?_
  intro Q₁ hQ₁
  go_wp2_with fail
  have hrowP := hrowV.below hB11
  refine (cut_any _ p.whole p.used w11 hrowP hlen).mono ?_; rintro e w12 ⟨r, rfl, hr, hb12⟩
  obtain ⟨ar, cr, rfl, hcr, hrow⟩ := OwnTwo.row hr
  have hB12 : Below W.heap.size W w12 := bthen hB11 hb12
  go_wp2_with fail
  refine hQ₁ _ _ ⟨⟨_, hB12⟩, rfl⟩ ?_
  clear hQ₁ Q₁
  refine ord_last ?_
  repeat (change wpQuiet _ _ _ _ (List.cons _ _) _; go_big_quiet_step (fail))
  refine wpQuiet_nil ?_
  clear y0 y1 y2 y3
  rw [← hfree.out] at hrow hr
  have hRow := OwnTwo.row hr
  rw [← hfree.out] at hcr
  simp only [← hfree.out]
  have hJ1 := abides_below hJ h0 hB12
  have hMl := free_len p
  clear hrow hr h0
  generalize hM : p.free = M at *
  replace hM := Lib.hid hM
  gi_wp2
  gi_loopw [22] (fun i wr => ∃ k : Nat, k ≤ M.length ∧ i = .int .i64 k ∧ J (M.take k) wr ∧ KeepsCells w12 wr ∧ W.heap.size ≤ wr.heap.size) (fun i _ => M.length - (intOf i).toNat)
  case atStart => exact ⟨0, Nat.zero_le _, rfl, hJ1, KeepsCells.refl _, hB12.size⟩
  case round =>
   obtain ⟨k, hk, rfl, hJs, hKs, hsz⟩ := hrel
   by_cases hlt : k < M.length
   ·have hr2 := hRow.kept hKs
    obtain ⟨a2, cap2, e2, _, hcells⟩ := hr2
    cases e2
    obtain ⟨b, off, rfl, hbl, hcell⟩ := hcells (by rintro rfl; simp at hlt)
    have h1 := (hcell k hlt).1
    have h2 := (hcell k hlt).2
    have hsn : M.take (k + 1) = M.take k ++ [M[k]] := List.take_succ_eq_append_getElem hlt
    have hlk : (M.take k).length < M.length := by rw [List.length_take]; omega
    have hpre : ∃ t, M = M.take (k + 1) ++ t := ⟨_, (List.take_append_drop _ _).symm⟩
    rw [hsn] at hpre
    replace hsn := Lib.hid hsn
    replace hpre := Lib.hid hpre
    clear hcells hcell
    generalize M[k] = x at *
    obtain ⟨fn, tmps, assign, body, hy, hR⟩ := hY _ x (wr.alloc (.cells #[.int .u64 x.a, .int .u64 x.b] 28)) (abides_below (B := W.heap.size) hJ hJs (bone _ _)) hlk
    gi_wp2
    refine hR.mono ?_
    rintro e W3 (⟨rfl, hJ3, hk3⟩ | ⟨rfl, hJx3⟩)
    ·gi_wp2
     go_roundw
     case rel => exact ⟨k + 1, by omega, by go_num, by rw [hsn.out]; exact hJ3, (hKs.trans (KeepsCells.of_below (bone _ _))).trans hk3, Nat.le_trans hsz (Nat.le_trans (by simp) hk3.size)⟩
     case measure => simp [intOf]; omega
    ·gi_wp2
     refine bodyPost_ret (results_none rfl _ _ _) rfl ?_
     exact ⟨⟨_, rfl⟩, .inr ⟨_, by rw [hM.out]; exact hpre.out, hJx3⟩⟩
   ·obtain rfl : k = M.length := by omega
    rw [List.take_length] at hJs
    gi_wp2
    go_end0
    exact ⟨⟨_, rfl⟩, .inl ⟨_, hM.out.symm, hJs⟩⟩
theorem free_stops (n Bs : Nat) (w0 w : World) (hn : 1 ≤ n) (B : Nat) (v : Value) (p : Pl) (hok : PlOk p) (hlen : p.used.length ≤ 274877906944) (hp : PoolAt w0 B v p) (hBs : Bs < w.heap.size) (hc : w.cell? ⟨Bs, 0, none⟩ = some (.pointer (some ⟨B, 0, none⟩))) (hW : Below w0.heap.size w0 w) :
  SeqStopsK Fence.wide n Tryz.prog 96 #[.pointer (some ⟨Bs, 0, none⟩)] (fun x : Two => #[.agg #[.int .u64 x.a, .int .u64 x.b]]) KeepsCells (fun ys => ys = p.free) (fun pre => ∃ t, p.free = pre ++ t) p.free.length w :=
 fun l J Jx W hW1 hJ _ hY h0 => free1_in n l Bs w0 hn B v p hok hlen hp J Jx hY W hJ ((hW1.cell (p := ⟨Bs, 0, none⟩) hBs).trans hc) (hW.trans (hW1.mono hW.size)) h0
end Go.Proofs.YtiblhlaemmdphaaGreat
