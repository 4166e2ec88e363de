/- The walks of the reference's page, SameMaps (at lists alike) and Good. -/
import Derived.Test.YtdlpgonpikflfaaDoorMapA
import Derived.Test.YtdlpgonpikflfaaDoorRefP
import Derived.Test.YtdlpgonpikflfaaDoorSpanM
namespace Go.Proofs.YtdlpgonpikflfaaDoor
open Go Go.RowKit Go.BigFrame

theorem infoMap : InfoM Tryd.prog 42 := by unfold InfoM; kernel_rfl
/-- Whole pages below 2^40. -/
def pageM (b n : Int) : Bool := (goodB b n && (decide (b % 4096 = 0) && decide (n % 4096 = 0))) && decide (lastV b n < 1099511627776)
theorem pageM_iff {b n : Int} : pageM b n = true ↔ 0 < n ∧ b + (n - 1) < 1099511627776 ∧ b % 4096 = 0 ∧ n % 4096 = 0 := by
  unfold pageM
  rw [Bool.and_eq_true, Bool.and_eq_true, Bool.and_eq_true, decide_eq_true_iff, decide_eq_true_iff, decide_eq_true_iff, goodB_iff]
  constructor
  · rintro ⟨⟨h1, h2, h3⟩, h4⟩
    rw [lastV_yes (goodB_iff.2 h1)] at h4
    exact ⟨h1.1, h4, h2, h3⟩
  · rintro ⟨h1, h2, h3, h4⟩
    have hg : goodB b n = true := goodB_iff.2 ⟨h1, by omega⟩
    exact ⟨⟨⟨h1, by omega⟩, h3, h4⟩, by rw [lastV_yes hg]; exact h2⟩


set_option maxRecDepth 20000 in
set_option maxHeartbeats 2000000 in
theorem sameMaps_any (v u : Value) (l : List M5) (w : World) (hv : RowM w v l) (hu : RowM w u l) (hl : l.length ≤ 1099511627776) :
    Calls Tryd.prog 15 #[v, u] w fun e w' => e = .returned (.bool true) ∧ Below w.heap.size w w' := by
  obtain ⟨a1, cp1, rfl, _, hc1⟩ := hv
  obtain ⟨a2, cp2, rfl, _, hc2⟩ := hu
  go_enter Tryd.func15, Tryd.ntmps15
  go_wp2_with fail
  go_loopw [13] (fun i wr => ∃ k : Nat, k ≤ l.length ∧ i = .int .i64 k ∧ Below w.heap.size w wr) (fun i _ => l.length - (intOf i).toNat)
  case atStart => exact ⟨0, Nat.zero_le _, rfl, Below.refl _ _⟩
  case round =>
    obtain ⟨k, hk, rfl, hB⟩ := hrel
    have hz := hB.size
    by_cases hlt : k < l.length
    · obtain ⟨b1, o1, rfl, hb1, hcell1⟩ := hc1 (by rintro rfl; simp at hlt)
      obtain ⟨b2, o2, rfl, hb2, hcell2⟩ := hc2 (by rintro rfl; simp at hlt)
      obtain ⟨p0, p1, p2, p3, p4⟩ := hcell1 k hlt
      obtain ⟨q0, q1, q2, q3, q4⟩ := hcell2 k hlt
      have e0 := later_cell (B := wr.heap.size) (cell_lt hB p0 hb1) (by omega)
      have e1 := later_cell (B := wr.heap.size) (cell_lt hB p1 hb1) (by omega)
      have e2 := later_cell (B := wr.heap.size) (cell_lt hB p2 hb1) (by omega)
      have e3 := later_cell (B := wr.heap.size) (cell_lt hB p3 hb1) (by omega)
      have e4 := later_cell (B := wr.heap.size) (cell_lt hB p4 hb1) (by omega)
      have f0 := later_cell (B := wr.heap.size) (cell_lt hB q0 hb2) (by omega)
      have f1 := later_cell (B := wr.heap.size) (cell_lt hB q1 hb2) (by omega)
      have f2 := later_cell (B := wr.heap.size) (cell_lt hB q2 hb2) (by omega)
      have f3 := later_cell (B := wr.heap.size) (cell_lt hB q3 hb2) (by omega)
      have f4 := later_cell (B := wr.heap.size) (cell_lt hB q4 hb2) (by omega)
      clear hcell1 hcell2 p0 p1 p2 p3 p4 q0 q1 q2 q3 q4
      generalize l[k] = x at *
      go_wp2_with fail
      refine region_later wr.heap.size wr (Below.refl _ _) (by kernel_rfl) (by kernel_rfl) ?_
      repeat (quiet_step (fail))
      refine wpQuiet_nil ?_
      first | (rintro _ ⟨X, rfl⟩) | (intro X)
      have hX := X.h
      clear e0 e1 e2 e3 e4 f0 f1 f2 f3 f4
      go_wp2_with fail
      go_roundw
      case rel => exact ⟨k + 1, by omega, by go_num, hB.trans (hX.mono hz)⟩
      case measure => simp [intOf]; omega
    · obtain rfl : k = l.length := by omega
      go_wp2_with fail
      go_ret
      exact ⟨rfl, hB⟩
end Go.Proofs.YtdlpgonpikflfaaDoor
