/- The statements' small functions of chapter 19: awake, bounded, Few. -/
import Derived.Test.YtnieomgopldlhaaDoorWalkBuiltP20
import Derived.Test.YtnieomgopldlhaaDoorWalkBuiltP42
import Derived.Test.YtnieomgopldlhaaDoorWalkBuiltP47
namespace Go.Proofs.YtnieomgopldlhaaDoor
open Go Go.RowKit Go.Shelf Go.BigFrame

/-- How many pieces the first parts have, as the reference tells them. -/
def cntP (l : List M5) : Nat := (l.map fun y => (piecesV y).length).sum
theorem cntP_snoc (l : List M5) (k : Nat) (h : k < l.length) : cntP (l.take (k + 1)) = cntP (l.take k) + (piecesV l[k]).length := by
  unfold cntP; rw [List.take_succ_eq_append_getElem h, List.map_append, List.sum_append]; simp
theorem cntP_le (l : List M5) : cntP l ≤ 10000 * l.length := by
  unfold cntP
  induction l with
  | nil => simp
  | cons y l ih => have := piecesV_len y; simp; omega

set_option maxRecDepth 20000 in
set_option maxHeartbeats 1000000 in
theorem fewL_any (v : Value) (l : List M5) (w : World) (hv : RowM w v l) : Calls Tryd.prog 5 #[v] w fun e w' => e = .returned (.bool (decide (l.length ≤ 12) && decide (cntP l ≤ 600))) ∧ Below w.heap.size w w' := by
  obtain ⟨a1, cp1, rfl, _, hc1⟩ := hv
  by_cases h12 : l.length ≤ 12
  · have h12' : ¬ (12 : Int) < (l.length : Int) := by omega
    rw [decide_eq_true h12]
    replace h12 := Lib.hid h12
    go_enter Tryd.func5, Tryd.ntmps5
    go_wp2_with fail
    go_loopw [3, 11] (fun n i wr => ∃ k : Nat, k ≤ l.length ∧ i = .int .i64 k ∧ n = .int .i64 (cntP (l.take k)) ∧ Below w.heap.size w wr) (fun _ i _ => l.length - (intOf i).toNat)
    case atStart => exact ⟨0, Nat.zero_le _, rfl, rfl, Below.refl _ _⟩
    case round =>
      obtain ⟨k, hk, rfl, rfl, hB⟩ := hrel
      have hz := hB.size
      by_cases hlt : k < l.length
      · obtain ⟨b1, o1, rfl, hbl, hcell⟩ := hc1 (by rintro rfl; simp at hlt)
        obtain ⟨p0, p1, p2, p3, p4⟩ := hcell k hlt
        replace p0 := cell_lt hB p0 hbl
        replace p1 := cell_lt hB p1 hbl
        replace p2 := cell_lt hB p2 hbl
        replace p3 := cell_lt hB p3 hbl
        replace p4 := cell_lt hB p4 hbl
        have hsn := cntP_snoc l k hlt
        have hcl := cntP_le (l.take k)
        have htl : (l.take k).length ≤ 12 := by have := h12.out; rw [List.length_take]; omega
        have hrp := fun W => refPieces_any l[k] W
        have hPl := piecesV_len l[k]
        clear hcell hc1
        generalize l[k] = x at *
        generalize hC1 : cntP (l.take (k + 1)) = C1 at *
        generalize cntP (l.take k) = C0 at *
        generalize piecesV x = P at *
        replace hsn := Lib.hid hsn
        replace hC1 := Lib.hid hC1
        have hC0 : C0 ≤ 120000 := by omega
        clear hcl htl
        obtain ⟨m0, m1, m2, m3, m4⟩ := five_new wr (.int .u64 x.ipa) (.int .u64 x.pa) (.int .u64 x.sz) (.int .i64 x.perm) (.int .i64 x.kind) 26
        go_wp2_with fail
        refine (hrp _).mono ?_; rintro e w3 ⟨r, rfl, hown, hb3⟩
        obtain ⟨ar, cr, rfl, _, _⟩ := hown.row
        clear hrp hown m0 m1 m2 m3 m4
        go_wp2_with fail
        refine ⟨⟨k + 1, hlt, by go_num, ?_, hB.trans ((bthen (bone _ _) hb3).mono hz)⟩, by simp [intOf]; omega⟩
        rw [hC1.out, hsn.out]
        go_num
      · obtain rfl : k = l.length := by omega
        rw [List.take_length]
        go_wp2_with fail
        go_ret
        exact ⟨ret_bool (by simp; omega), hB⟩
  · have h12' : (12 : Int) < (l.length : Int) := by omega
    rw [decide_eq_false h12]
    replace h12 := Lib.hid h12
    go_enter Tryd.func5, Tryd.ntmps5
    go_wp2_with fail
    go_ret
    exact ⟨rfl, Below.refl _ _⟩
end Go.Proofs.YtnieomgopldlhaaDoor
