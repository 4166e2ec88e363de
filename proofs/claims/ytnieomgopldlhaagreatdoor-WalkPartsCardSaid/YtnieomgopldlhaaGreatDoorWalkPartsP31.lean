/- The walks of word.Down, word.Up and word.Add at two numbers. Conditions: words of 64 bits. -/
import Derived.Shelf.Spec.BitsCarry
import Derived.Test.YtnieomgopldlhaaGreatDoorWalkPartsP11
import Derived.Test.YtnieomgopldlhaaGreatDoorWalkPartsP30
namespace Go.Proofs.YtnieomgopldlhaaGreatDoor
open Go Go.RowKit

set_option maxHeartbeats 400000 in
theorem down_any (n a : Int) (w : World) (hn : W64 n) (ha : W64 a) :
    Calls Tryz.prog 73 #[.int .u64 n, .int .u64 a] w fun e w' => e = .returned (.int .u64 (if a = 0 then 0 else n - n % a)) ∧ w' = w := by
  obtain ⟨n0, n1⟩ := hn
  obtain ⟨a0, a1⟩ := ha
  by_cases h : a = 0
  · have e : (if a = 0 then 0 else n - n % a) = 0 := if_pos h
    rw [e]; clear e
    subst h
    go_enter Tryz.func73, Tryz.ntmps73
    go_wp2
    go_ret
    exact ⟨rfl, rfl⟩
  · have e : (if a = 0 then 0 else n - n % a) = n - n % a := if_neg h
    rw [e]; clear e
    have h1 : 1 ≤ a := by omega
    have h2 : (a == 0) = false := by simpa using h
    have m0 := Int.emod_nonneg n h
    have m1 : n % a ≤ n := by
      have := Int.emod_lt_of_pos n (by omega : 0 < a)
      rcases Int.lt_or_le n a with hlt | hle
      · rw [Int.emod_eq_of_lt n0 hlt]; exact Int.le_refl _
      · omega
    go_enter Tryz.func73, Tryz.ntmps73
    go_wp2
    go_ret
    exact ⟨rfl, rfl⟩

/-- Two numbers' sum, and whether it is of 64 bits. -/
def add2 (x y : Int) : Int × Bool := if x + y < 18446744073709551616 then (x + y, true) else (0, false)

theorem add64_run (x y : Int) (w : World) (hx : W64 x) (hy : W64 y) :
    (callFunc 106 #[.int .u64 x, .int .u64 y, .int .u64 0]).run Tryz.prog w =
      .ok (.value (.tuple #[.int .u64 ((x + y) % 18446744073709551616), .int .u64 ((x + y) / 18446744073709551616)])) w := by
  rw [run_callFunc_extern Tryz.func106 (by kernel_rfl) (by kernel_rfl) (by kernel_rfl) (e := add64Entry) (by kernel_rfl), run_add64 x y 0 hx.1 hy.1 (by omega) (by omega)]
  simp only [Result.andThen, Int.add_zero]

set_option maxHeartbeats 1000000 in
theorem add_any (x y : Int) (b : Nat) (w : World) (hx : W64 x) (hy : W64 y) (c0 : w.cell? ⟨b, 0, none⟩ = some (.int .u64 x)) (c1 : w.cell? ⟨b, 1, none⟩ = some (.int .u64 y)) :
    Calls Tryz.prog 74 #[.slice (some ⟨b, 0, none⟩) 2 2] w fun e w' => e = .returned (.tuple #[.int .u64 (add2 x y).1, .bool (add2 x y).2]) ∧ w' = w := by
  have e1 : (0 + x) % 18446744073709551616 = x := by rw [Int.zero_add]; exact W64.eq hx
  have e2 : (0 + x) / 18446744073709551616 = 0 := by have := hx.1; have := hx.2; omega
  have hA := fun w => add64_run 0 x w (by unfold W64; omega) hx
  have hB := fun w => add64_run x y w hx hy
  rw [e1, e2] at hA
  clear e1 e2
  have e3 : (add2 x y = (x + y, true) ∧ (x + y) % 18446744073709551616 = x + y ∧ (x + y) / 18446744073709551616 = 0) ∨ (add2 x y = (0, false) ∧ (x + y) / 18446744073709551616 = 1) := by
    have := hx.1; have := hx.2; have := hy.1; have := hy.2
    unfold add2
    by_cases h : x + y < 18446744073709551616
    · rw [if_pos h]; exact .inl ⟨rfl, by omega, by omega⟩
    · rw [if_neg h]; exact .inr ⟨rfl, by omega⟩
  rcases e3 with ⟨e3, e4, e5⟩ | ⟨e3, e5⟩
  · rw [e4, e5] at hB
    replace e3 := Lib.hid e3
    generalize x + y = z at *
    clear e4 e5
    go_enter Tryz.func74, Tryz.ntmps74
    go_wp2
    go_loop [4, 11] (fun s i => (i = .int .i64 0 ∧ s = .int .u64 0) ∨ (i = .int .i64 1 ∧ s = .int .u64 x) ∨ (i = .int .i64 2 ∧ s = .int .u64 z)) (fun _ i => 2 - (intOf i).toNat)
    case atStart => exact .inl ⟨rfl, rfl⟩
    case round =>
      rcases hrel with ⟨rfl, rfl⟩ | ⟨rfl, rfl⟩ | ⟨rfl, rfl⟩
      · go_wp2
        go_round
        case rel => exact .inr (.inl ⟨rfl, rfl⟩)
        case measure => simp [intOf]
      · go_wp2
        go_round
        case rel => exact .inr (.inr ⟨rfl, rfl⟩)
        case measure => simp [intOf]
      · go_wp2
        go_ret2
        exact ⟨by rw [e3.out]; rfl, rfl⟩
  · rw [e5] at hB
    replace e3 := Lib.hid e3
    clear e5
    go_enter Tryz.func74, Tryz.ntmps74
    go_wp2
    go_loop [4, 11] (fun s i => (i = .int .i64 0 ∧ s = .int .u64 0) ∨ (i = .int .i64 1 ∧ s = .int .u64 x)) (fun _ i => 2 - (intOf i).toNat)
    case atStart => exact .inl ⟨rfl, rfl⟩
    case round =>
      rcases hrel with ⟨rfl, rfl⟩ | ⟨rfl, rfl⟩
      · go_wp2
        go_round
        case rel => exact .inr ⟨rfl, rfl⟩
        case measure => simp [intOf]
      · go_wp2
        go_ret2
        exact ⟨by rw [e3.out]; rfl, rfl⟩

theorem alloc_pair (W : World) (p q : Value) (t : TypeId) : (W.alloc (.cells #[p, q] t)).cell? ⟨W.heap.size, 0, none⟩ = some p ∧ (W.alloc (.cells #[p, q] t)).cell? ⟨W.heap.size, 1, none⟩ = some q := ⟨by simp [World.cell?_alloc_new], by simp [World.cell?_alloc_new]⟩
set_option maxHeartbeats 1000000 in
theorem up_any (n a : Int) (w : World) (hn : W64 n) (ha : W64 a) :
    Calls Tryz.prog 34 #[.int .u64 n, .int .u64 a] w fun e w' => e = .returned (.tuple #[.int .u64 (upV n a).1, .bool (upV n a).2]) ∧ Below w.heap.size w w' := by
  by_cases h0 : a = 0
  · have e : upV n a = (0, false) := by unfold upV; rw [if_pos h0]
    replace e := Lib.hid e
    subst h0
    go_enter Tryz.func34, Tryz.ntmps34
    go_wp2
    go_ret2
    exact ⟨by rw [e.out]; rfl, Below.refl _ _⟩
  · have h2 : (a == 0) = false := by simpa using h0
    have hd := fun w => down_any n a w hn ha
    rw [if_neg h0] at hd
    have hp : 0 < a := by have := ha.1; omega
    have m0 := Int.emod_nonneg n h0
    have m1 : n % a ≤ n := by
      have := Int.emod_lt_of_pos n hp
      rcases Int.lt_or_le n a with hlt | hle
      · rw [Int.emod_eq_of_lt hn.1 hlt]; exact Int.le_refl _
      · omega
    by_cases h1 : n % a = 0
    · have e : upV n a = (n, true) := upV_fix hp h1
      replace e := Lib.hid e
      rw [h1, Int.sub_zero] at hd
      clear h1 m0 m1
      go_enter Tryz.func34, Tryz.ntmps34
      go_wp2_with (go_at_call 73; refine (hd _).mono ?_; rintro e w1 ⟨rfl, rfl⟩)
      go_ret2
      exact ⟨by rw [e.out]; rfl, Below.refl _ _⟩
    · have e : upV n a = add2 (n - n % a) a := by unfold upV add2; rw [if_neg h0, if_neg h1]
      replace e := Lib.hid e
      have hl : W64 (n - n % a) := by have := hn.2; unfold W64; omega
      have hne : ((n - n % a) == n) = false := by simp; omega
      generalize n - n % a = m at *
      have hc := fun w => alloc_pair w (.int .u64 m) (.int .u64 a) 106
      have c0 := fun w => (alloc_pair w (.int .u64 m) (.int .u64 a) 24).1
      have c1 := fun w => (alloc_pair w (.int .u64 m) (.int .u64 a) 24).2
      clear hc m0 m1 h1
      go_enter Tryz.func34, Tryz.ntmps34
      go_wp2_with (first | (go_at_call 73; refine (hd _).mono ?_; rintro e w1 ⟨rfl, rfl⟩) | (go_at_call 74; refine (add_any m a _ _ hl ha (c0 _) (c1 _)).mono ?_; rintro e w1 ⟨rfl, rfl⟩))
      go_ret2
      exact ⟨by rw [e.out]; rfl, bone _ _⟩
end Go.Proofs.YtnieomgopldlhaaGreatDoor
