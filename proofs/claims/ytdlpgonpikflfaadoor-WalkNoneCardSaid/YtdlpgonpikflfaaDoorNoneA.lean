/- Memory that nobody made: a word of it is none. -/
import Derived.Test.YtdlpgonpikflfaaDoorSwpI
import Derived.Test.YtdlpgonpikflfaaDoorLaidA
namespace Go.Proofs.YtdlpgonpikflfaaDoor
open Go Go.RowKit Go.Shelf Go.BigFrame

set_option maxRecDepth 20000 in
set_option maxHeartbeats 1000000 in
theorem ask_none (a : Int) (w : World) : Calls Tryd.prog 41 #[.pointer none, .int .u64 a, .int .u64 8] w fun e w' => e = .returned (.int .i64 90) ∧ Below w.heap.size w w' := by
  go_enter Tryd.func41, Tryd.ntmps41
  go_wp2_with fail
  go_ret
  exact ⟨rfl, Below.refl _ _⟩
set_option maxRecDepth 20000 in
set_option maxHeartbeats 1000000 in
theorem word_none (a : Int) (w : World) (ha : W64 a) : Calls Tryd.prog 23 #[.pointer none, .int .u64 a] w fun e w' => e = .returned (.tuple #[.int .u64 0, .int .i64 90]) ∧ Below w.heap.size w w' := by
  have hk := ask_none a w
  have ha0 := ha.1
  have ha1 := ha.2
  by_cases h8 : a % 8 = 0
  · go_enter Tryd.func23, Tryd.ntmps23
    go_wp2_with fail
    refine hk.mono ?_; rintro e w1 ⟨rfl, hb1⟩
    go_wp2_with fail
    go_ret2
    exact ⟨rfl, hb1⟩
  · go_enter Tryd.func23, Tryd.ntmps23
    go_wp2_with fail
    go_ret2
    exact ⟨rfl, Below.refl _ _⟩
theorem none_reads (n0 : Nat) (w0 : World) : Reads (.pointer none) (fun _ => (0, 90)) n0 w0 :=
  ⟨fun _ => (by show 0 ≤ (0 : Int) ∧ (0 : Int) < 18446744073709551616; decide), fun t W _ ht => word_none t W ht⟩
theorem descs_none (k t : Int) : ∀ n, descsV (fun _ => (0, 90)) k t n = []
  | 0 => rfl
  | n + 1 => by
    unfold descsV
    rw [descs_none k t n, if_neg (fun h => absurd h.1 (by decide))]
    rfl
theorem swAll_none (D : Nat) (hD : D = 3) (root : Int) : swAll D (fun _ => (0, 90)) root = ⟨[root], false, []⟩ := by
  obtain ⟨d, rfl⟩ : ∃ d, D = d + 1 := ⟨2, hD⟩
  unfold swAll sw
  rw [if_neg (by simp), descs_none]
  rfl
theorem walkV_none (root ipa : Int) : walkV (fun _ => (0, 90)) root ipa = if 1099511627776 ≤ ipa then (⟨0, 0, 0, 0⟩, 200) else (⟨0, 0, 0, 1⟩, 90) := by
  unfold walkV
  split
  · rfl
  · show walkL _ ipa (2 + 1) 1 root = _
    unfold walkL
    exact if_pos (by decide)
set_option maxRecDepth 100000 in
set_option maxHeartbeats 4000000 in
theorem walkNone_walk (root ipa : Int) (w : World) (hT : Tab3 w) (hr : W64 root) (hi : W64 ipa) :
    Calls Tryd.prog 4 #[.int .u64 root, .int .u64 ipa] w fun e w' => e = .returned (.bool true) ∧ Below w.heap.size w w' := by
  obtain ⟨D, hD⟩ : ∃ D : Nat, D = 3 := ⟨3, rfl⟩
  have hw1 := fun W (h : Tab3 W) => walk_gen none _ root ipa W (none_reads _ _) h hr hi
  have hw2 := fun W (h : Tab3 W) => all_any D hD none _ W (none_reads _ _) h root hr
  rw [walkV_none] at hw1
  rw [swAll_none D hD] at hw2
  clear hD
  go_enter Tryd.func4, Tryd.ntmps4
  go_wp2_with fail
  refine (awake20_any _ hT).mono ?_; rintro e w1 ⟨rfl, hb1⟩
  have hT1 := hT.below' hb1
  by_cases hbig : 1099511627776 ≤ ipa
  · rw [if_pos hbig] at hw1
    simp only [HitV.val] at hw1
    go_wp2_with fail
    refine (hw1 _ hT1).mono ?_; rintro e w2 ⟨rfl, hb2⟩
    have hT2 := hT1.below' hb2
    replace hb2 := bthen hb1 hb2
    clear hw1 hb1
    go_wp2_with fail
    have hT3 := hT2.below' (bone w2 (.cells #[.int .u64 0, .int .i64 0, .int .i64 0, .int .i64 0] 30))
    have h3 := World.alloc_heap_new w2 (.cells #[.int .u64 0, .int .i64 0, .int .i64 0, .int .i64 0] 30)
    have hb3 := bthen hb2 (bone w2 (.cells #[.int .u64 0, .int .i64 0, .int .i64 0, .int .i64 0] 30))
    have l3 : w2.heap.size < (w2.alloc (.cells #[.int .u64 0, .int .i64 0, .int .i64 0, .int .i64 0] 30)).heap.size := by simp
    generalize w2.alloc (.cells #[.int .u64 0, .int .i64 0, .int .i64 0, .int .i64 0] 30) = w3 at *
    refine (hw2 _ hT3).mono ?_; rintro e w4 ⟨hb4, v, rfl, hv⟩
    replace h3 := (hb4.block _ l3).trans h3
    have c0 : w4.cell? ⟨w2.heap.size, 0, none⟩ = some (.int .u64 0) := by simp [World.cell?, h3]
    have c1 : w4.cell? ⟨w2.heap.size, 1, none⟩ = some (.int .i64 0) := by simp [World.cell?, h3]
    have c2 : w4.cell? ⟨w2.heap.size, 2, none⟩ = some (.int .i64 0) := by simp [World.cell?, h3]
    have c3 : w4.cell? ⟨w2.heap.size, 3, none⟩ = some (.int .i64 0) := by simp [World.cell?, h3]
    obtain ⟨a4, k4, rfl⟩ := rowSlice hv
    have hb5 := bthen hb3 hb4
    simp only [Bool.false_eq_true, if_false, List.length_nil]
    clear hv h3 hw2
    go_wp2_with fail
    go_ret
    exact ⟨rfl, hb5⟩
  · rw [if_neg hbig] at hw1
    simp only [HitV.val] at hw1
    go_wp2_with fail
    refine (hw1 _ hT1).mono ?_; rintro e w2 ⟨rfl, hb2⟩
    have hT2 := hT1.below' hb2
    replace hb2 := bthen hb1 hb2
    clear hw1 hb1
    go_wp2_with fail
    have hT3 := hT2.below' (bone w2 (.cells #[.int .u64 0, .int .i64 0, .int .i64 0, .int .i64 1] 30))
    have h3 := World.alloc_heap_new w2 (.cells #[.int .u64 0, .int .i64 0, .int .i64 0, .int .i64 1] 30)
    have hb3 := bthen hb2 (bone w2 (.cells #[.int .u64 0, .int .i64 0, .int .i64 0, .int .i64 1] 30))
    have l3 : w2.heap.size < (w2.alloc (.cells #[.int .u64 0, .int .i64 0, .int .i64 0, .int .i64 1] 30)).heap.size := by simp
    generalize w2.alloc (.cells #[.int .u64 0, .int .i64 0, .int .i64 0, .int .i64 1] 30) = w3 at *
    refine (hw2 _ hT3).mono ?_; rintro e w4 ⟨hb4, v, rfl, hv⟩
    replace h3 := (hb4.block _ l3).trans h3
    have c0 : w4.cell? ⟨w2.heap.size, 0, none⟩ = some (.int .u64 0) := by simp [World.cell?, h3]
    have c1 : w4.cell? ⟨w2.heap.size, 1, none⟩ = some (.int .i64 0) := by simp [World.cell?, h3]
    have c2 : w4.cell? ⟨w2.heap.size, 2, none⟩ = some (.int .i64 0) := by simp [World.cell?, h3]
    have c3 : w4.cell? ⟨w2.heap.size, 3, none⟩ = some (.int .i64 1) := by simp [World.cell?, h3]
    obtain ⟨a4, k4, rfl⟩ := rowSlice hv
    have hb5 := bthen hb3 hb4
    simp only [Bool.false_eq_true, if_false, List.length_nil]
    clear hv h3 hw2
    go_wp2_with fail
    go_ret
    exact ⟨rfl, hb5⟩
end Go.Proofs.YtdlpgonpikflfaaDoor
