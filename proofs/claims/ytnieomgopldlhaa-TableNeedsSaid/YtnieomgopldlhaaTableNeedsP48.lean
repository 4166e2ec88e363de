/- The statements' small functions of chapter 19: awake, bounded, Few. -/
import Derived.Test.YtnieomgopldlhaaTableNeedsP16
import Derived.Test.YtnieomgopldlhaaTableNeedsP41
import Derived.Test.YtnieomgopldlhaaTableNeedsP47
namespace Go.Proofs.Ytnieomgopldlhaa
open Go Go.RowKit Go.Shelf Go.BigFrame

/-- Chapter 19's example. -/
def exM : M5 := ⟨2093056, 1075834880, 2105344, 1, 0, by unfold W64; omega, by unfold W64; omega, by unfold W64; omega⟩
theorem exM_pieces : piecesL exM = [(3, headP exM), (2, headP (restP exM)), (3, headP (restP (restP exM)))] := by
  have h1 : 0 < exM.sz ∧ (restP exM).sz.toNat < exM.sz.toNat := of_decide_eq_true (by kernel_rfl)
  have h2 : 0 < (restP exM).sz ∧ (restP (restP exM)).sz.toNat < (restP exM).sz.toNat := of_decide_eq_true (by kernel_rfl)
  have h3 : 0 < (restP (restP exM)).sz ∧ (restP (restP (restP exM))).sz.toNat < (restP (restP exM)).sz.toNat := of_decide_eq_true (by kernel_rfl)
  have h4 : ¬ 0 < (restP (restP (restP exM))).sz := of_decide_eq_true (by kernel_rfl)
  rw [piecesL, dif_pos h1, piecesL, dif_pos h2, piecesL, dif_pos h3, piecesL_nil h4]
  rw [show lvM exM = 3 by kernel_rfl, show lvM (restP exM) = 2 by kernel_rfl, show lvM (restP (restP exM)) = 3 by kernel_rfl]
theorem exM_good : goodM [exM] = true := by kernel_rfl
theorem exM_need : needV [exM] = (5, 0) := by
  have h : needOk [exM] := ⟨exM_good, fun y hy => by simp at hy; subst hy; rw [exM_pieces]; simp⟩
  have hk : (allKeys [exM]).length = 3 := by
    show (keysOf [] (piecesL exM)).length = 3
    rw [exM_pieces]
    kernel_rfl
  unfold needV
  rw [if_pos h, hk]
  rfl
theorem exM_piecesV : ∃ a b c, piecesV exM = [a, b, c] ∧ b.sz = 2097152 := by
  refine ⟨headP exM, headP (restP exM), headP (restP (restP exM)), ?_, by kernel_rfl⟩
  unfold piecesV
  rw [if_pos ⟨exM_good, by rw [exM_pieces]; simp⟩, exM_pieces]
  rfl

set_option maxRecDepth 20000 in
set_option maxHeartbeats 1000000 in
theorem awake_any (w : World) : Calls Try.prog 4 #[] w fun e w' => e = .returned (.bool true) ∧ Below w.heap.size w w' := by
  have hn : ∀ W : World, Calls Try.prog 10 #[.slice (some ⟨W.heap.size, 0, none⟩) 1 1] (W.alloc (.cells #[.int .u64 2093056, .int .u64 1075834880, .int .u64 2105344, .int .i64 1, .int .i64 0] 44)) fun e w' => e = .returned (.tuple #[.int .i64 5, .int .i64 0]) ∧ Below (W.alloc (.cells #[.int .u64 2093056, .int .u64 1075834880, .int .u64 2105344, .int .i64 1, .int .i64 0] 44)).heap.size (W.alloc (.cells #[.int .u64 2093056, .int .u64 1075834880, .int .u64 2105344, .int .i64 1, .int .i64 0] 44)) w' := fun W => by
    have h := need_any _ [exM] _ (rowM_one W exM) (by simp)
    rw [exM_need] at h
    exact h
  obtain ⟨pa, pb, pc, hP, hsz⟩ := exM_piecesV
  have hp : ∀ W : World, Calls Try.prog 14 #[.agg #[.int .u64 2093056, .int .u64 1075834880, .int .u64 2105344, .int .i64 1, .int .i64 0]] W fun e w' => ∃ a c, e = .returned (.slice (some ⟨a, 0, none⟩) 3 c) ∧ w'.cell? ⟨a, 7, none⟩ = some (.int .u64 2097152) ∧ Below W.heap.size W w' := fun W => by
    refine (pieces_any exM W).mono fun e w' ⟨r, he, ho, hb⟩ => ?_
    rw [hP] at ho
    obtain ⟨a, c, rfl, _, hc⟩ := ho.row
    obtain ⟨b, off, rfl, _, hc⟩ := hc (by simp)
    have h7 := (hc 1 (by simp)).2.2.1
    obtain ⟨_, h | ⟨g, cap, cur, hv, _⟩⟩ := ho
    · simp at h
    · simp at hv
      obtain ⟨⟨rfl, rfl⟩, rfl⟩ := hv
      refine ⟨b, c, he, ?_, hb⟩
      rw [← hsz]; exact h7
  obtain ⟨m0, m1, m2, m3, m4⟩ := five_new w (.int .u64 2093056) (.int .u64 1075834880) (.int .u64 2105344) (.int .i64 1) (.int .i64 0) 44
  have hbx := bone w (.cells #[.int .u64 2093056, .int .u64 1075834880, .int .u64 2105344, .int .i64 1, .int .i64 0] 44)
  go_enter Try.func4, Try.ntmps4
  have hn1 := hn (w.alloc (.cells #[.int .u64 2093056, .int .u64 1075834880, .int .u64 2105344, .int .i64 1, .int .i64 0] 44))
  clear hn
  simp only [World.size_alloc] at hn1
  go_wp2_with fail
  with_reducible refine hn1.mono ?_
  rintro e w1 ⟨rfl, hb0⟩
  have hb1 : Below w.heap.size w w1 := (((Below.refl _ w).alloc (Nat.le_refl _) _).alloc (by simp) _).trans (hb0.mono (by omega))
  replace m0 := cell_lt hb0 (keepA m0) (by omega)
  replace m1 := cell_lt hb0 (keepA m1) (by omega)
  replace m2 := cell_lt hb0 (keepA m2) (by omega)
  replace m3 := cell_lt hb0 (keepA m3) (by omega)
  replace m4 := cell_lt hb0 (keepA m4) (by omega)
  have hz1 : w.heap.size < w1.heap.size := by have := hb0.size; simp at this; omega
  clear hn1 hbx hb0
  go_wp2_with fail
  refine (hp _).mono ?_; rintro e w2 ⟨a2, c2, rfl, _, hb2⟩
  replace m0 := cell_lt hb2 m0
  replace m1 := cell_lt hb2 m1
  replace m2 := cell_lt hb2 m2
  replace m3 := cell_lt hb2 m3
  replace m4 := cell_lt hb2 m4
  go_wp2_with fail
  refine (hp _).mono ?_; rintro e w3 ⟨a3, c3, rfl, h7, hb3⟩
  go_wp2_with fail
  go_ret
  exact ⟨rfl, bthen (bthen hb1 hb2) hb3⟩

set_option maxRecDepth 20000 in
set_option maxHeartbeats 1000000 in
theorem bounded_any (v : Value) (l : List M5) (w : World) (hv : RowM w v l) (hl : l.length ≤ 9223372036854775807) : Calls Try.prog 5 #[v] w fun e w' => e = .returned (.bool (l.all (fun m => decide (m.sz ≤ 1099511627776)) && decide (l.length ≤ 12))) ∧ Below w.heap.size w w' := by
  obtain ⟨a1, cp1, rfl, _, hc1⟩ := hv
  go_enter Try.func5, Try.ntmps5
  go_wp2_with fail
  go_loopw [7] (fun i wr => ∃ k : Nat, k ≤ l.length ∧ i = .int .i64 k ∧ (∀ j (h : j < l.length), j < k → l[j].sz ≤ 1099511627776) ∧ Below w.heap.size w wr) (fun i _ => l.length - (intOf i).toNat)
  case atStart => exact ⟨0, Nat.zero_le _, rfl, fun j _ h => by omega, Below.refl _ _⟩
  case round =>
    obtain ⟨k, hk, rfl, hall, hB⟩ := hrel
    by_cases hlt : k < l.length
    · obtain ⟨b1, o1, rfl, hbl, hcell⟩ := hc1 (by rintro rfl; simp at hlt)
      obtain ⟨p0, p1, p2, p3, p4⟩ := hcell k hlt
      replace p0 := cell_lt hB p0 hbl
      replace p1 := cell_lt hB p1 hbl
      replace p2 := cell_lt hB p2 hbl
      replace p3 := cell_lt hB p3 hbl
      replace p4 := cell_lt hB p4 hbl
      have hz := hB.size
      by_cases hs : l[k].sz ≤ 1099511627776
      · have hall' : ∀ j (h : j < l.length), j < k + 1 → l[j].sz ≤ 1099511627776 := fun j h h2 => by
          by_cases e : j = k
          · subst e; exact hs
          · exact hall j h (by omega)
        clear hcell hall
        generalize l[k] = x at *
        replace hall' := Lib.hid hall'
        have hs' : ¬ 1099511627776 < x.sz := by omega
        go_wp2_with fail
        exact ⟨⟨k + 1, hlt, by go_num, hall'.out, hB.alloc hz _⟩, by simp [intOf]; omega⟩
      · have hr : l.all (fun m => decide (m.sz ≤ 1099511627776)) = false := by
          rw [List.all_eq_false]
          exact ⟨l[k], List.getElem_mem hlt, by simp at hs ⊢; exact hs⟩
        clear hcell hall
        generalize l[k] = x at *
        replace hr := Lib.hid hr
        have hs' : 1099511627776 < x.sz := by omega
        go_wp2_with fail
        go_ret
        rw [hr.out]
        exact ⟨rfl, hB.alloc hz _⟩
    · obtain rfl : k = l.length := by omega
      have hr : l.all (fun m => decide (m.sz ≤ 1099511627776)) = true := by
        rw [List.all_eq_true]
        intro y hy
        obtain ⟨i, hi, rfl⟩ := List.getElem_of_mem hy
        exact decide_eq_true (hall i hi hi)
      clear hall hc1
      replace hr := Lib.hid hr
      go_wp2_with fail
      go_ret
      rw [hr.out]
      exact ⟨ret_bool (by simp; omega), hB⟩

/-- How many pieces the first parts have, as the reference tells them. -/
def cntP (l : List M5) : Nat := (l.map fun y => (piecesV y).length).sum
theorem cntP_snoc (l : List M5) (k : Nat) (h : k < l.length) : cntP (l.take (k + 1)) = cntP (l.take k) + (piecesV l[k]).length := by
  unfold cntP; rw [List.take_succ_eq_append_getElem h, List.map_append, List.sum_append]; simp
theorem cntP_le (l : List M5) : cntP l ≤ 10000 * l.length := by
  unfold cntP
  induction l with
  | nil => simp
  | cons y l ih => have := piecesV_len y; simp; omega

set_option maxRecDepth 20000 in
set_option maxHeartbeats 1000000 in
theorem fewL_any (v : Value) (l : List M5) (w : World) (hv : RowM w v l) : Calls Try.prog 6 #[v] w fun e w' => e = .returned (.bool (decide (l.length ≤ 12) && decide (cntP l ≤ 600))) ∧ Below w.heap.size w w' := by
  obtain ⟨a1, cp1, rfl, _, hc1⟩ := hv
  by_cases h12 : l.length ≤ 12
  · have h12' : ¬ (12 : Int) < (l.length : Int) := by omega
    rw [decide_eq_true h12]
    replace h12 := Lib.hid h12
    go_enter Try.func6, Try.ntmps6
    go_wp2_with fail
    go_loopw [3, 11] (fun n i wr => ∃ k : Nat, k ≤ l.length ∧ i = .int .i64 k ∧ n = .int .i64 (cntP (l.take k)) ∧ Below w.heap.size w wr) (fun _ i _ => l.length - (intOf i).toNat)
    case atStart => exact ⟨0, Nat.zero_le _, rfl, rfl, Below.refl _ _⟩
    case round =>
      obtain ⟨k, hk, rfl, rfl, hB⟩ := hrel
      have hz := hB.size
      by_cases hlt : k < l.length
      · obtain ⟨b1, o1, rfl, hbl, hcell⟩ := hc1 (by rintro rfl; simp at hlt)
        obtain ⟨p0, p1, p2, p3, p4⟩ := hcell k hlt
        replace p0 := cell_lt hB p0 hbl
        replace p1 := cell_lt hB p1 hbl
        replace p2 := cell_lt hB p2 hbl
        replace p3 := cell_lt hB p3 hbl
        replace p4 := cell_lt hB p4 hbl
        have hsn := cntP_snoc l k hlt
        have hcl := cntP_le (l.take k)
        have htl : (l.take k).length ≤ 12 := by have := h12.out; rw [List.length_take]; omega
        have hrp := fun W => refPieces_any l[k] W
        have hPl := piecesV_len l[k]
        clear hcell hc1
        generalize l[k] = x at *
        generalize hC1 : cntP (l.take (k + 1)) = C1 at *
        generalize cntP (l.take k) = C0 at *
        generalize piecesV x = P at *
        replace hsn := Lib.hid hsn
        replace hC1 := Lib.hid hC1
        have hC0 : C0 ≤ 120000 := by omega
        clear hcl htl
        obtain ⟨m0, m1, m2, m3, m4⟩ := five_new wr (.int .u64 x.ipa) (.int .u64 x.pa) (.int .u64 x.sz) (.int .i64 x.perm) (.int .i64 x.kind) 44
        go_wp2_with fail
        refine (hrp _).mono ?_; rintro e w3 ⟨r, rfl, hown, hb3⟩
        obtain ⟨ar, cr, rfl, _, _⟩ := hown.row
        clear hrp hown m0 m1 m2 m3 m4
        go_wp2_with fail
        refine ⟨⟨k + 1, hlt, by go_num, ?_, hB.trans ((bthen (bone _ _) hb3).mono hz)⟩, by simp [intOf]; omega⟩
        rw [hC1.out, hsn.out]
        go_num
      · obtain rfl : k = l.length := by omega
        rw [List.take_length]
        go_wp2_with fail
        go_ret
        exact ⟨ret_bool (by simp; omega), hB⟩
  · have h12' : (12 : Int) < (l.length : Int) := by omega
    rw [decide_eq_false h12]
    replace h12 := Lib.hid h12
    go_enter Try.func6, Try.ntmps6
    go_wp2_with fail
    go_ret
    exact ⟨rfl, Below.refl _ _⟩
end Go.Proofs.Ytnieomgopldlhaa
