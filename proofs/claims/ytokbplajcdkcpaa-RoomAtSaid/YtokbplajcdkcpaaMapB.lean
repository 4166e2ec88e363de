/- The walks of the reference's page, SameMaps (at lists alike) and Good. -/
import Derived.Test.YtokbplajcdkcpaaMapA
import Derived.Test.YtokbplajcdkcpaaRefP
import Derived.Test.YtokbplajcdkcpaaSpanM
namespace Go.Proofs.Ytokbplajcdkcpaa
open Go Go.RowKit Go.BigFrame

theorem infoMap : InfoM Try.prog 39 := by unfold InfoM; kernel_rfl
/-- Whole pages below 2^40. -/
def pageM (b n : Int) : Bool := (goodB b n && (decide (b % 4096 = 0) && decide (n % 4096 = 0))) && decide (lastV b n < 1099511627776)
theorem pageM_iff {b n : Int} : pageM b n = true ↔ 0 < n ∧ b + (n - 1) < 1099511627776 ∧ b % 4096 = 0 ∧ n % 4096 = 0 := by
  unfold pageM
  rw [Bool.and_eq_true, Bool.and_eq_true, Bool.and_eq_true, decide_eq_true_iff, decide_eq_true_iff, decide_eq_true_iff, goodB_iff]
  constructor
  · rintro ⟨⟨h1, h2, h3⟩, h4⟩
    rw [lastV_yes (goodB_iff.2 h1)] at h4
    exact ⟨h1.1, h4, h2, h3⟩
  · rintro ⟨h1, h2, h3, h4⟩
    have hg : goodB b n = true := goodB_iff.2 ⟨h1, by omega⟩
    exact ⟨⟨⟨h1, by omega⟩, h3, h4⟩, by rw [lastV_yes hg]; exact h2⟩

set_option maxHeartbeats 1000000 in
theorem page_any (x : Two) (w : World) : Calls Try.prog 47 #[.int .u64 x.a, .int .u64 x.b] w fun e w' => e = .returned (.bool (pageM x.a x.b)) ∧ Below w.heap.size w w' := by
  have hp := fun W => refPages_any x W
  have hl := fun W => refLast_any x.a x.b W x.ha x.hb
  rw [pageBad_not] at hp
  unfold pageM
  have k1 := alloc_two w (.int .u64 x.a) (.int .u64 x.b) 42
  generalize (goodB x.a x.b && (decide (x.a % 4096 = 0) && decide (x.b % 4096 = 0))) = b at *
  generalize lastV x.a x.b = L at *
  cases b
  · go_enter Try.func47, Try.ntmps47
    go_wp2_with fail
    refine (hp _).mono ?_; rintro e w1 ⟨rfl, hb1⟩
    go_wp2_with fail
    go_ret
    exact ⟨rfl, bnew hb1⟩
  · go_enter Try.func47, Try.ntmps47
    go_wp2_with fail
    refine (hp _).mono ?_; rintro e w1 ⟨rfl, hb1⟩
    have c0 := cell_lt hb1 k1.1 (by simp)
    have c1 := cell_lt hb1 k1.2 (by simp)
    go_wp2_with fail
    refine (hl _).mono ?_; rintro e w2 ⟨rfl, hb2⟩
    go_wp2_with fail
    go_ret
    exact ⟨ret_bool (by simp), bthen (bnew hb1) hb2⟩

set_option maxRecDepth 20000 in
set_option maxHeartbeats 2000000 in
theorem sameMaps_any (v u : Value) (l : List M5) (w : World) (hv : RowM w v l) (hu : RowM w u l) (hl : l.length ≤ 1099511627776) :
    Calls Try.prog 15 #[v, u] w fun e w' => e = .returned (.bool true) ∧ Below w.heap.size w w' := by
  obtain ⟨a1, cp1, rfl, _, hc1⟩ := hv
  obtain ⟨a2, cp2, rfl, _, hc2⟩ := hu
  go_enter Try.func15, Try.ntmps15
  go_wp2_with fail
  go_loopw [13] (fun i wr => ∃ k : Nat, k ≤ l.length ∧ i = .int .i64 k ∧ Below w.heap.size w wr) (fun i _ => l.length - (intOf i).toNat)
  case atStart => exact ⟨0, Nat.zero_le _, rfl, Below.refl _ _⟩
  case round =>
    obtain ⟨k, hk, rfl, hB⟩ := hrel
    have hz := hB.size
    by_cases hlt : k < l.length
    · obtain ⟨b1, o1, rfl, hb1, hcell1⟩ := hc1 (by rintro rfl; simp at hlt)
      obtain ⟨b2, o2, rfl, hb2, hcell2⟩ := hc2 (by rintro rfl; simp at hlt)
      obtain ⟨p0, p1, p2, p3, p4⟩ := hcell1 k hlt
      obtain ⟨q0, q1, q2, q3, q4⟩ := hcell2 k hlt
      have e0 := later_cell (B := wr.heap.size) (cell_lt hB p0 hb1) (by omega)
      have e1 := later_cell (B := wr.heap.size) (cell_lt hB p1 hb1) (by omega)
      have e2 := later_cell (B := wr.heap.size) (cell_lt hB p2 hb1) (by omega)
      have e3 := later_cell (B := wr.heap.size) (cell_lt hB p3 hb1) (by omega)
      have e4 := later_cell (B := wr.heap.size) (cell_lt hB p4 hb1) (by omega)
      have f0 := later_cell (B := wr.heap.size) (cell_lt hB q0 hb2) (by omega)
      have f1 := later_cell (B := wr.heap.size) (cell_lt hB q1 hb2) (by omega)
      have f2 := later_cell (B := wr.heap.size) (cell_lt hB q2 hb2) (by omega)
      have f3 := later_cell (B := wr.heap.size) (cell_lt hB q3 hb2) (by omega)
      have f4 := later_cell (B := wr.heap.size) (cell_lt hB q4 hb2) (by omega)
      clear hcell1 hcell2 p0 p1 p2 p3 p4 q0 q1 q2 q3 q4
      generalize l[k] = x at *
      go_wp2_with fail
      refine region_later wr.heap.size wr (Below.refl _ _) (by kernel_rfl) (by kernel_rfl) ?_
      repeat (quiet_step (fail))
      refine wpQuiet_nil ?_
      first | (rintro _ ⟨X, rfl⟩) | (intro X)
      have hX := X.h
      clear e0 e1 e2 e3 e4 f0 f1 f2 f3 f4
      go_wp2_with fail
      go_roundw
      case rel => exact ⟨k + 1, by omega, by go_num, hB.trans (hX.mono hz)⟩
      case measure => simp [intOf]; omega
    · obtain rfl : k = l.length := by omega
      go_wp2_with fail
      go_ret
      exact ⟨rfl, hB⟩
end Go.Proofs.Ytokbplajcdkcpaa
