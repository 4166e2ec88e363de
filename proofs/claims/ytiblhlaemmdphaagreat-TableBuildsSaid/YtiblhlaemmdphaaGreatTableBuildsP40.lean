/- Sorting rows of words: the pivot. -/
import Derived.Sort.LotD4
import Derived.Shelf.SortG.Walk7aIn
import Derived.Sort.EveryDepth
import Derived.Deep.CutRange
import Derived.Test.YtiblhlaemmdphaaGreatShelf
import Derived.Test.YtiblhlaemmdphaaGreatTableBuildsP39
namespace Go.Proofs.YtiblhlaemmdphaaGreat
open Go Go.RowKit Go.Shelf Go.BigFrame Go.Maps
theorem HU.offs {w w' : World} {g B : Nat} {d : Array Int} {Bs : List Nat} (h : HU w g d) (ho : OffL B Bs w w') (hg : g ∉ Bs) : HU w' g d := by
 have hb := ho.rest g h.1 hg
 exact ⟨Nat.lt_of_lt_of_le h.1 ho.below.size, fun j hj => ⟨(World.cell?_of_block (a := ⟨g, j, none⟩) hb).trans (h.2 j hj).1, (World.frozen?_of_block (a := ⟨g, j, none⟩) hb).trans (h.2 j hj).2⟩⟩
structure Cnt64 (w W : World) (sb s : Nat) : Prop where
 bx : Boxed W sb 3 (.int .i64 s)
 off : OffL 0 [sb] w W
theorem Cnt64.trans {w W W' : World} {sb s t : Nat} (h : Cnt64 w W sb s) (k : Cnt64 W W' sb t) : Cnt64 w W' sb t := ⟨k.bx, h.off.trans k.off (fun _ hb => .inl hb)⟩
set_option maxRecDepth 20000 in
set_option maxHeartbeats 2000000 in
theorem order64_any (g cap a b N sb s : Nat) (d : Array Int) (hN : d.size = N) (w : World) (hH : HU w g d) (ha : a < N) (hb : b < N) (hB : Boxed w sb 3 (.int .i64 s)) (hs : s < 1000) :
  Calls Tryz.prog 131 #[.slice (some ⟨g, 0, none⟩) N cap, .int .i64 a, .int .i64 b, .pointer (some ⟨sb, 0, none⟩)] w fun e w' => e = .returned (.tuple #[.int .i64 (Sort.order2 Sort.ltInt d a b s).1, .int .i64 (Sort.order2 Sort.ltInt d a b s).2.1]) ∧ Cnt64 w w' sb (Sort.order2 Sort.ltInt d a b s).2.2 := by
 have hgl := hH.1
 obtain ⟨c0, fc0⟩ := hH.2 b (by omega)
 obtain ⟨c1, fc1⟩ := hH.2 a (by omega)
 have hsl : sb < w.heap.size := (Array.getElem?_eq_some_iff.1 hB).1
 have hdef : Sort.order2 Sort.ltInt d a b s = if Sort.ltInt d[b]! d[a]! then (b, a, s + 1) else (a, b, s) := rfl
 rw [hdef]
 clear hdef hH
 generalize d[b]! = x at *
 generalize d[a]! = y at *
 obtain ⟨q, hq⟩ : ∃ q, Sort.ltInt x y = q := ⟨_, rfl⟩
 rw [hq]
 have hw1 : IntKind.i64.wrap ((s : Int) + 1) = (s : Int) + 1 := IntWalk.i64_in _ (by omega)
 replace hq := Lib.hid hq
 replace hB := Lib.hid hB
 go_enter Tryz.func131, Tryz.ntmps131
 go_wp2_with fail
 refine region_later w.heap.size w (Below.refl _ _) (by kernel_rfl) (by kernel_rfl) ?_
 have z0 := later_cell (B := w.heap.size) c0 hgl
 have z1 := later_cell (B := w.heap.size) c1 hgl
 repeat (first | go_big_quiet_step (fail) | quiet_step ((go_at_call 111; exact quiet_later (Nat.le_refl _) (less64_q hq _))))
 refine wpQuiet_nil ?_
 first | (rintro _ ⟨X, rfl⟩) | (intro X)
 have hX := X.h
 have hB2 : Boxed X.x sb 3 (.int .i64 s) := (hX.block sb hsl).trans hB.out
 have hO : OffL 0 [sb] w X.x := ⟨hX.mono (Nat.zero_le _), fun i hi _ => hX.block i hi⟩
 clear z0 z1 hX
 generalize X.x = w3 at *
 have cb := hB2.cell
 have fb : w3.frozen? ⟨sb, 0, none⟩ = false := by simp [World.frozen?, show w3.heap[sb]? = _ from hB2]
 have hB3 := Lib.hid (hB2.set (.int .i64 ((s + 1 : Nat) : Int)))
 replace hB2 := Lib.hid hB2
 cases q
 ·go_wp2_with fail
  go_ret2
  exact ⟨rfl, hB2.out, hO⟩
 ·go_wp2_with fail
  go_ret2
  refine ⟨rfl, hB3.out, ⟨hO.below.setCell (Nat.zero_le _) _, fun i hi hn => (Below.heap_setCell _ _ _ _ (by simpa using hn)).trans (hO.rest i hi hn)⟩⟩
theorem ord_bd (d : Array Int) {a b N : Nat} (s : Nat) (ha : a < N) (hb : b < N) : (Sort.order2 Sort.ltInt d a b s).1 < N ∧ (Sort.order2 Sort.ltInt d a b s).2.1 < N ∧ (Sort.order2 Sort.ltInt d a b s).2.2 ≤ s + 1 := by
 have h1 := Sort.order2_count Sort.ltInt d a b s
 rcases Sort.order2_mem Sort.ltInt d a b s with ⟨e1, e2⟩ | ⟨e1, e2⟩
 ·exact ⟨by omega, by omega, h1⟩
 ·exact ⟨by omega, by omega, h1⟩
set_option maxRecDepth 20000 in
set_option maxHeartbeats 2000000 in
theorem median64_any (g cap a b c N sb s : Nat) (d : Array Int) (hN : d.size = N) (w : World) (hH : HU w g d) (ha : a < N) (hb : b < N) (hc : c < N) (hB : Boxed w sb 3 (.int .i64 s)) (hs : s < 900) (hne : g ≠ sb) :
  Calls Tryz.prog 126 #[.slice (some ⟨g, 0, none⟩) N cap, .int .i64 a, .int .i64 b, .int .i64 c, .pointer (some ⟨sb, 0, none⟩)] w fun e w' => e = .returned (.int .i64 (Sort.median Sort.ltInt d a b c s).1) ∧ Cnt64 w w' sb (Sort.median Sort.ltInt d a b c s).2 := by
 have ho := fun a b s W hW h1 h2 h3 h4 => order64_any g cap a b N sb s d hN W hW h1 h2 h3 h4
 have hm : Sort.median Sort.ltInt d a b c s = ((Sort.order2 Sort.ltInt d (Sort.order2 Sort.ltInt d a b s).1 (Sort.order2 Sort.ltInt d (Sort.order2 Sort.ltInt d a b s).2.1 c (Sort.order2 Sort.ltInt d a b s).2.2).1 (Sort.order2 Sort.ltInt d (Sort.order2 Sort.ltInt d a b s).2.1 c (Sort.order2 Sort.ltInt d a b s).2.2).2.2).2.1, (Sort.order2 Sort.ltInt d (Sort.order2 Sort.ltInt d a b s).1 (Sort.order2 Sort.ltInt d (Sort.order2 Sort.ltInt d a b s).2.1 c (Sort.order2 Sort.ltInt d a b s).2.2).1 (Sort.order2 Sort.ltInt d (Sort.order2 Sort.ltInt d a b s).2.1 c (Sort.order2 Sort.ltInt d a b s).2.2).2.2).2.2) := rfl
 rw [hm]
 have b1 := ord_bd d s ha hb
 have h1 := ho a b s w hH ha hb hB (by omega)
 generalize Sort.order2 Sort.ltInt d a b s = r1 at *
 obtain ⟨x1, y1, s1⟩ := r1
 simp only at b1 h1 ⊢
 have b2 := ord_bd d s1 b1.2.1 hc
 have h2 := fun W hW hB => ho y1 c s1 W hW b1.2.1 hc hB (by omega)
 generalize Sort.order2 Sort.ltInt d y1 c s1 = r2 at *
 obtain ⟨x2, y2, s2⟩ := r2
 simp only at b2 h2 ⊢
 have h3 := fun W hW hB => ho x1 x2 s2 W hW b1.1 b2.1 hB (by omega)
 generalize Sort.order2 Sort.ltInt d x1 x2 s2 = r3 at *
 obtain ⟨x3, y3, s3⟩ := r3
 simp only at h3 ⊢
 clear ho hm b1 b2
 replace h2 := Lib.hid h2
 replace h3 := Lib.hid h3
 replace hH := Lib.hid hH
 replace hB := Lib.hid hB
 go_enter Tryz.func126, Tryz.ntmps126
 go_wp2_with fail
 refine h1.mono ?_; rintro e w1 ⟨rfl, hC1⟩
 have hH1 := hH.out.offs hC1.off (by simpa using hne)
 have k2 := h2.out w1 hH1 hC1.bx
 replace hC1 := Lib.hid hC1
 replace hH1 := Lib.hid hH1
 clear h1 h2
 go_wp2_with fail
 refine k2.mono ?_; rintro e w2 ⟨rfl, hC2⟩
 have hH2 := hH1.out.offs hC2.off (by simpa using hne)
 have k3 := h3.out w2 hH2 hC2.bx
 have hC12 := Lib.hid (hC1.out.trans hC2)
 clear hC2 hH2 k2 h3
 go_wp2_with fail
 refine k3.mono ?_; rintro e w3 ⟨rfl, hC3⟩
 have hC13 := Lib.hid (hC12.out.trans hC3)
 clear hC3 k3
 go_wp2_with fail
 go_ret
 exact ⟨rfl, hC13.out⟩
set_option maxRecDepth 20000 in
set_option maxHeartbeats 2000000 in
theorem medadj64_any (g cap a N sb s : Nat) (d : Array Int) (hN : d.size = N) (w : World) (hH : HU w g d) (h1 : 1 ≤ a) (ha : a + 1 < N) (hB : Boxed w sb 3 (.int .i64 s)) (hs : s < 900) (hne : g ≠ sb) (hN62 : N < 1152921504606846976) :
  Calls Tryz.prog 125 #[.slice (some ⟨g, 0, none⟩) N cap, .int .i64 a, .pointer (some ⟨sb, 0, none⟩)] w fun e w' => e = .returned (.int .i64 (Sort.medianAdjacent Sort.ltInt d a s).1) ∧ Cnt64 w w' sb (Sort.medianAdjacent Sort.ltInt d a s).2 := by
 have hm := median64_any g cap (a - 1) a (a + 1) N sb s d hN w hH (by omega) (by omega) (by omega) hB hs hne
 have hdef : Sort.medianAdjacent Sort.ltInt d a s = Sort.median Sort.ltInt d (a - 1) a (a + 1) s := rfl
 rw [hdef]
 have e1 : ((a - 1 : Nat) : Int) = (a : Int) - 1 := by omega
 have e2 : ((a + 1 : Nat) : Int) = (a : Int) + 1 := by omega
 rw [e1, e2] at hm
 have hw1 : IntKind.i64.wrap ((a : Int) - 1) = (a : Int) - 1 := IntWalk.i64_in _ (by omega)
 have hw2 : IntKind.i64.wrap ((a : Int) + 1) = (a : Int) + 1 := IntWalk.i64_in _ (by omega)
 replace hm := Lib.hid hm
 clear hdef e1 e2 hH hB
 go_enter Tryz.func125, Tryz.ntmps125
 go_wp2_with fail
 refine hm.out.mono ?_; rintro e w1 ⟨rfl, hC1⟩
 clear hm
 go_wp2_with fail
 go_ret
 exact ⟨rfl, hC1⟩
theorem medadj_bd (d : Array Int) (a s : Nat) : (Sort.medianAdjacent Sort.ltInt d a s).1 ≤ a + 1 ∧ (Sort.medianAdjacent Sort.ltInt d a s).2 ≤ s + 3 := by
 have h1 := Sort.medianAdjacent_count Sort.ltInt d a s
 rcases Sort.medianAdjacent_mem Sort.ltInt d a s with e | e | e
 ·exact ⟨by omega, h1⟩
 ·exact ⟨by omega, h1⟩
 ·exact ⟨by omega, h1⟩
theorem hint_code (s : Nat) : Sort.hintCode (Sort.hintOf s) = if s = 0 then 1 else if s = 12 then 2 else 0 := by
 unfold Sort.hintOf
 by_cases h0 : s = 0
 ·rw [if_pos h0, if_pos h0]; rfl
 ·rw [if_neg h0, if_neg h0]
  by_cases h1 : s = 12
  ·rw [if_pos h1, if_pos h1]; rfl
  ·rw [if_neg h1, if_neg h1]; rfl
theorem td4 (n : Nat) (y : Int) (h : y = (n : Int)) : y.tdiv 4 = ((n / 4 : Nat) : Int) := by
 subst h
 rw [Int.tdiv_eq_ediv_of_nonneg (by omega)]
 omega
set_option maxRecDepth 20000 in
set_option maxHeartbeats 4000000 in
theorem pivot64_any (g cap a b N : Nat) (d : Array Int) (hN : d.size = N) (w : World) (hH : HU w g d) (hab : a + 12 < b) (hb : b ≤ N) (hN62 : N < 1152921504606846976) :
  Calls Tryz.prog 108 #[.slice (some ⟨g, 0, none⟩) N cap, .int .i64 a, .int .i64 b] w fun e w' => e = .returned (.tuple #[.int .i64 (Sort.choosePivot Sort.ltInt d a b).1, .int .i64 (Sort.hintCode (Sort.choosePivot Sort.ltInt d a b).2)]) ∧ Below w.heap.size w w' := by
 rw [Sort.choosePivot_eq]
 obtain ⟨l, hl⟩ : ∃ l, l = b - a := ⟨_, rfl⟩
 obtain ⟨I, hI⟩ : ∃ I, I = a + l / 4 * 1 := ⟨_, rfl⟩
 obtain ⟨J, hJ⟩ : ∃ J, J = a + l / 4 * 2 := ⟨_, rfl⟩
 obtain ⟨K, hK⟩ : ∃ K, K = a + l / 4 * 3 := ⟨_, rfl⟩
 have hwl : IntKind.i64.wrap ((b : Int) - (a : Int)) = (l : Int) := by rw [show (b : Int) - (a : Int) = (l : Int) by omega]; exact IntWalk.i64_in _ (by omega)
 have ht : (l : Int).tdiv 4 = ((l / 4 : Nat) : Int) := td4 l _ rfl
 have hq0 : IntKind.i64.wrap ((l / 4 : Nat) : Int) = ((l / 4 : Nat) : Int) := IntWalk.i64_in _ (by omega)
 obtain ⟨Q, hQ⟩ : ∃ Q, Q = l / 4 := ⟨_, rfl⟩
 rw [← hQ] at ht hq0 hI hJ hK
 have hq1 : IntKind.i64.wrap ((Q : Int) * 1) = (Q : Int) := by rw [Int.mul_one]; exact hq0
 have hq2 : IntKind.i64.wrap ((Q : Int) * 2) = (Q : Int) * 2 := IntWalk.i64_in _ (by omega)
 have hq3 : IntKind.i64.wrap ((Q : Int) * 3) = (Q : Int) * 3 := IntWalk.i64_in _ (by omega)
 have hi1 : IntKind.i64.wrap ((a : Int) + (Q : Int)) = (I : Int) := by rw [show (a : Int) + (Q : Int) = (I : Int) by omega]; exact IntWalk.i64_in _ (by omega)
 have hi2 : IntKind.i64.wrap ((a : Int) + (Q : Int) * 2) = (J : Int) := by rw [show (a : Int) + (Q : Int) * 2 = (J : Int) by omega]; exact IntWalk.i64_in _ (by omega)
 have hi3 : IntKind.i64.wrap ((a : Int) + (Q : Int) * 3) = (K : Int) := by rw [show (a : Int) + (Q : Int) * 3 = (K : Int) by omega]; exact IntWalk.i64_in _ (by omega)
 have hl8 : (8 : Int) ≤ (l : Int) := by omega
 obtain ⟨w1, hw1⟩ : ∃ w1, w1 = w.alloc (.cells #[.int .i64 0] 3) := ⟨_, rfl⟩
 have hb1 : Below w.heap.size w w1 := by rw [hw1]; exact bone _ _
 have hB1 : Boxed w1 w.heap.size 3 (.int .i64 ((0 : Nat) : Int)) := by rw [hw1]; exact Boxed.new _ _ _
 have hH1 := hH.later hb1
 have hne : g ≠ w.heap.size := by have := hH.1; omega
 have hkb : K + 1 < b := by omega
 have hraw : Sort.rawPivot Sort.ltInt d a b = if 50 ≤ l then Sort.median Sort.ltInt d (Sort.medianAdjacent Sort.ltInt d I 0).1 (Sort.medianAdjacent Sort.ltInt d J (Sort.medianAdjacent Sort.ltInt d I 0).2).1 (Sort.medianAdjacent Sort.ltInt d K (Sort.medianAdjacent Sort.ltInt d J (Sort.medianAdjacent Sort.ltInt d I 0).2).2).1 (Sort.medianAdjacent Sort.ltInt d K (Sort.medianAdjacent Sort.ltInt d J (Sort.medianAdjacent Sort.ltInt d I 0).2).2).2 else Sort.median Sort.ltInt d I J K 0 := by
  unfold Sort.rawPivot
  rw [if_pos (by omega), ← hl, ← hQ, ← hI, ← hJ, ← hK]
 have hma := fun x s W hW h1 h2 hB hs => medadj64_any g cap x N w.heap.size s d hN W hW h1 h2 hB hs hne hN62
 have hmd := fun x y z s W hW h1 h2 h3 hB hs => median64_any g cap x y z N w.heap.size s d hN W hW h1 h2 h3 hB hs hne
 have hcx : ∀ W', OffL 0 [w.heap.size] w1 W' → Below w.heap.size w1 W' := fun W' ho => ⟨ho.below.os, ho.below.tape, ho.below.output, ho.below.size, fun i hi => ho.rest i (Nat.lt_of_lt_of_le hi hb1.size) (by simp; omega)⟩
 by_cases h50 : 50 ≤ l
 ·rw [if_pos h50] at hraw
  have h50' : (50 : Int) ≤ (l : Int) := by omega
  have m1 := medadj_bd d I 0
  have k1 := hma I 0 w1 hH1 (by omega) (by omega) hB1 (by omega)
  generalize Sort.medianAdjacent Sort.ltInt d I 0 = r1 at *
  obtain ⟨i1, s1⟩ := r1
  simp only at m1 k1 hraw
  have m2 := medadj_bd d J s1
  have k2 := fun W hW hB => hma J s1 W hW (by omega) (by omega) hB (by omega)
  generalize Sort.medianAdjacent Sort.ltInt d J s1 = r2 at *
  obtain ⟨j1, s2⟩ := r2
  simp only at m2 k2 hraw
  have m3 := medadj_bd d K s2
  have k3 := fun W hW hB => hma K s2 W hW (by omega) (by omega) hB (by omega)
  generalize Sort.medianAdjacent Sort.ltInt d K s2 = r3 at *
  obtain ⟨p1, s3⟩ := r3
  simp only at m3 k3 hraw
  have k4 := fun W hW hB => hmd i1 j1 p1 s3 W hW (by omega) (by omega) (by omega) hB (by omega)
  rw [hraw]
  generalize Sort.median Sort.ltInt d i1 j1 p1 s3 = r4 at *
  obtain ⟨P, s⟩ := r4
  simp only at k4 ⊢
  replace k2 := Lib.hid k2
  replace k3 := Lib.hid k3
  replace k4 := Lib.hid k4
  replace hcx := Lib.hid hcx
  replace hI := Lib.hid hI
  replace hJ := Lib.hid hJ
  replace hK := Lib.hid hK
  replace hQ := Lib.hid hQ
  replace hl := Lib.hid hl
  replace hH1 := Lib.hid hH1
  clear hraw hma hmd m1 m2 m3 hB1 hH
  go_enter Tryz.func108, Tryz.ntmps108
  go_wp2_with fail
  rw [← hw1]
  refine k1.mono ?_; rintro e w2 ⟨rfl, hC1⟩
  have hH2 := hH1.out.offs hC1.off (by simpa using hne)
  have k2 := k2.out w2 hH2 hC1.bx
  replace hC1 := Lib.hid hC1
  replace hH2 := Lib.hid hH2
  clear k1
  go_wp2_with fail
  refine k2.mono ?_; rintro e w3 ⟨rfl, hC2⟩
  have hH3 := hH2.out.offs hC2.off (by simpa using hne)
  have k3 := k3.out w3 hH3 hC2.bx
  have hC12 := Lib.hid (hC1.out.trans hC2)
  replace hH3 := Lib.hid hH3
  clear hC2 k2 hC1 hH2
  go_wp2_with fail
  refine k3.mono ?_; rintro e w4 ⟨rfl, hC3⟩
  have hH4 := hH3.out.offs hC3.off (by simpa using hne)
  have k4 := k4.out w4 hH4 hC3.bx
  have hC13 := Lib.hid (hC12.out.trans hC3)
  clear hC3 k3 hC12 hH3 hH4
  go_wp2_with fail
  refine k4.mono ?_; rintro e w5 ⟨rfl, hC4⟩
  have hC14 := Lib.hid (hC13.out.trans hC4)
  have hcx := hcx.out
  clear hC4 k4 hC13
  have cb := hC14.out.bx.cell
  have hbz := hb1.trans (hcx w5 hC14.out.off)
  clear hC14
  by_cases e0 : s = 0
  ·subst e0
   go_wp2_with fail
   go_ret2
   exact ⟨rfl, hbz⟩
  ·by_cases e12 : s = 12
   ·subst e12
    go_wp2_with fail
    go_ret2
    exact ⟨rfl, hbz⟩
   ·have e0' : ¬ (s : Int) = 0 := by omega
    have e12' : ¬ (s : Int) = 12 := by omega
    go_wp2_with fail
    go_ret2
    exact ⟨by rw [hint_code, if_neg e0, if_neg e12]; rfl, hbz⟩
 ·rw [if_neg h50] at hraw
  have h50' : ¬ (50 : Int) ≤ (l : Int) := by omega
  have k4 := hmd I J K 0 w1 hH1 (by omega) (by omega) (by omega) hB1 (by omega)
  rw [hraw]
  generalize Sort.median Sort.ltInt d I J K 0 = r4 at *
  obtain ⟨P, s⟩ := r4
  simp only at k4 ⊢
  replace hcx := Lib.hid hcx
  replace hI := Lib.hid hI
  replace hJ := Lib.hid hJ
  replace hK := Lib.hid hK
  replace hQ := Lib.hid hQ
  replace hl := Lib.hid hl
  clear hraw hma hmd hB1 hH hH1
  go_enter Tryz.func108, Tryz.ntmps108
  go_wp2_with fail
  rw [← hw1]
  refine k4.mono ?_; rintro e w5 ⟨rfl, hC4⟩
  replace hC4 := Lib.hid hC4
  have hcx := hcx.out
  clear k4
  have cb := hC4.out.bx.cell
  have hbz := hb1.trans (hcx w5 hC4.out.off)
  clear hC4
  by_cases e0 : s = 0
  ·subst e0
   go_wp2_with fail
   go_ret2
   exact ⟨rfl, hbz⟩
  ·by_cases e12 : s = 12
   ·subst e12
    go_wp2_with fail
    go_ret2
    exact ⟨rfl, hbz⟩
   ·have e0' : ¬ (s : Int) = 0 := by omega
    have e12' : ¬ (s : Int) = 12 := by omega
    go_wp2_with fail
    go_ret2
    exact ⟨by rw [hint_code, if_neg e0, if_neg e12]; rfl, hbz⟩
end Go.Proofs.YtiblhlaemmdphaaGreat
/- Sorting rows of words: patterns broken. -/
namespace Go.Proofs.YtiblhlaemmdphaaGreat
open Go Go.RowKit Go.Shelf Go.BigFrame Go.Maps
theorem npow64_any (n : Nat) (hn : n < 4611686018427387904) (w : World) : Calls Tryz.prog 123 #[.int .i64 n] w fun e w' => e = .returned (.int .u64 ((1 <<< Sort.bitsLen n : Nat) : Int)) ∧ w = w' :=
 (calls_of_every_depth fun D => AnySG.nextPowerOfTwoIn Tryz.npow D n hn w).mono fun _ _ ⟨h1, h2⟩ => ⟨h1, h2.symm⟩
theorem next64_any (rb X : Nat) (hX : X < 18446744073709551616) (w : World) (hB : Boxed w rb 186 (.int .u64 X)) :
  Calls Tryz.prog 124 #[.pointer (some ⟨rb, 0, none⟩)] w fun e w' => e = .returned (.int .u64 (Sort.xorNextN X : Nat)) ∧ Boxed w' rb 186 (.int .u64 (Sort.xorNextN X : Nat)) ∧ OffL 0 [rb] w w' := by
 refine (calls_of_every_depth fun D => AnySG.xorshift_NextIn Tryz.xorNext D rb 0 X hX w hB.cell (by simp [World.frozen?, show w.heap[rb]? = _ from hB])).mono ?_
 rintro e w' ⟨h1, rfl⟩
 have bl : Below 0 w (w.setCell ⟨rb, 0, none⟩ (.int .u64 (Sort.xorNextN X : Nat))) := (Below.refl _ _).setCell (Nat.zero_le _) _
 exact ⟨h1, hB.set _, ⟨⟨bl.os, bl.tape, bl.output, bl.size, bl.block⟩, fun i hi hn => Below.heap_setCell _ _ _ _ (by simpa using hn)⟩⟩
def bpS (a L M I0 : Nat) (s0 : UInt64 × Array Int) : Nat → UInt64 × Array Int
 | 0 => s0
 | t + 1 => Sort.breakStep a L M (bpS a L M I0 s0 t) (I0 + t)
theorem bp_eq (d : Array Int) (a b L : Nat) (hL : L = b - a) (h8 : 8 ≤ L) : Sort.breakPatterns d a b = (bpS a L (1 <<< Sort.bitsLen L) (a + L / 4 * 2 - 1) (UInt64.ofNat L, d) 3).2 := by
 subst hL
 unfold Sort.breakPatterns
 simp only
 rw [if_pos h8]
 rfl
theorem Row64.offs {w W W' : World} {g N b : Nat} {d : Array Int} (h : Row64 w W g N d) (ho : OffL 0 [b] W W') (hb : w.heap.size ≤ b) (hne : g ≠ b) : Row64 w W' g N d :=
 ⟨h.hu.offs ho (by simpa using hne), h.off.trans ho (fun x hx => .inr (by simp at hx; omega)), h.sz⟩
theorem Boxed.swapped {W : World} {g i j sb : Nat} {T : TypeId} {v x y : Value} (h : Boxed W sb T v) (hne : sb ≠ g) : Boxed ((W.setCell ⟨g, i, none⟩ x).setCell ⟨g, j, none⟩ y).drew sb T v :=
 ((Below.heap_setCell _ _ _ _ hne).trans (Below.heap_setCell _ _ _ _ hne)).trans h
set_option maxRecDepth 20000 in
set_option maxHeartbeats 4000000 in
theorem break64_any (g cap a b N : Nat) (d : Array Int) (hN : d.size = N) (w : World) (hH : HU w g d) (hab : a + 8 ≤ b) (hb : b ≤ N) (hN62 : N < 1152921504606846976) :
  Calls Tryz.prog 107 #[.slice (some ⟨g, 0, none⟩) N cap, .int .i64 a, .int .i64 b] w fun e w' => e = .returned (.tuple #[]) ∧ Row64 w w' g N (Sort.breakPatterns d a b) := by
 obtain ⟨L, hL⟩ : ∃ L, L = b - a := ⟨_, rfl⟩
 rw [bp_eq d a b L hL (by omega)]
 obtain ⟨M, hM⟩ : ∃ M : Nat, M = 1 <<< Sort.bitsLen L := ⟨_, rfl⟩
 have hM1 : 1 ≤ M := by rw [hM, Nat.one_shiftLeft]; exact Nat.two_pow_pos _
 have hM2 : M ≤ 2 * L := by rw [hM, Nat.one_shiftLeft]; exact Sort.two_pow_bitsLen_le (by omega)
 have hnp := npow64_any L (by omega)
 rw [← hM] at hnp ⊢
 have hgl := hH.1
 obtain ⟨Q, hQ⟩ : ∃ Q, Q = L / 4 := ⟨_, rfl⟩
 obtain ⟨I0, hI0⟩ : ∃ I0, I0 = a + L / 4 * 2 - 1 := ⟨_, rfl⟩
 rw [← hI0]
 rw [← hQ] at hI0
 have hwl : IntKind.i64.wrap ((b : Int) - (a : Int)) = (L : Int) := by rw [show (b : Int) - (a : Int) = (L : Int) by omega]; exact IntWalk.i64_in _ (by omega)
 have hcv : IntKind.u64.wrap (L : Int) = (L : Int) := IntWalk.u64_in _ (by omega)
 have ht4 : (L : Int).tdiv 4 = (Q : Int) := by rw [td4 L _ rfl, ← hQ]
 have hq0 : IntKind.i64.wrap (Q : Int) = (Q : Int) := IntWalk.i64_in _ (by omega)
 have hq2 : IntKind.i64.wrap ((Q : Int) * 2) = (Q : Int) * 2 := IntWalk.i64_in _ (by omega)
 have hq3 : IntKind.i64.wrap ((a : Int) + (Q : Int) * 2) = (I0 : Int) + 1 := by rw [show (a : Int) + (Q : Int) * 2 = (I0 : Int) + 1 by omega]; exact IntWalk.i64_in _ (by omega)
 have hq4 : IntKind.i64.wrap ((I0 : Int) + 1 - 1) = (I0 : Int) := by rw [show (I0 : Int) + 1 - 1 = (I0 : Int) by omega]; exact IntWalk.i64_in _ (by omega)
 have hq5 : IntKind.i64.wrap ((I0 : Int) + 1 + 1) = (I0 : Int) + 1 + 1 := IntWalk.i64_in _ (by omega)
 have hq6 : IntKind.i64.wrap (I0 : Int) = (I0 : Int) := IntWalk.i64_in _ (by omega)
 have hl8 : (8 : Int) ≤ (L : Int) := by omega
 have hm1 : IntKind.u64.wrap ((M : Int) - 1) = (M : Int) - 1 := IntWalk.u64_in _ (by omega)
 obtain ⟨w1, hw1⟩ : ∃ w1, w1 = w.alloc (.cells #[.int .u64 (L : Int)] 186) := ⟨_, rfl⟩
 have hb1 : Below w.heap.size w w1 := by rw [hw1]; exact bone _ _
 have hR1 : Row64 w w1 g N d := (Row64.refl hH hN).later hb1
 have hr0 : (UInt64.ofNat L).toNat = L := by simp; omega
 have hB1 : Boxed w1 w.heap.size 186 (.int .u64 (((UInt64.ofNat L).toNat : Nat) : Int)) := by rw [hr0, hw1]; exact Boxed.new _ _ _
 generalize UInt64.ofNat L = r0 at *
 replace hnp := Lib.hid hnp
 replace hR1 := Lib.hid hR1
 replace hB1 := Lib.hid hB1
 replace hL := Lib.hid hL
 replace hQ := Lib.hid hQ
 replace hI0 := Lib.hid hI0
 replace hM := Lib.hid hM
 clear hH hb1 hr0
 go_enter Tryz.func107, Tryz.ntmps107
 go_wp2_with fail
 rw [← hw1]
 refine (hnp.out w1).mono ?_; rintro e w' ⟨rfl, rfl⟩
 clear hnp hw1
 go_wp2_with fail
 go_loopw [9] (fun s wr => ∃ t : Nat, t ≤ 3 ∧ s = .int .i64 ((I0 + t : Nat) : Int) ∧ Row64 w wr g N (bpS a L M I0 (r0, d) t).2 ∧ Boxed wr w.heap.size 186 (.int .u64 (((bpS a L M I0 (r0, d) t).1.toNat : Nat) : Int))) (fun s _ => ((I0 : Int) + 3 - intOf s).toNat)
 case atStart => exact ⟨0, by omega, rfl, hR1.out, hB1.out⟩
 case round =>
  obtain ⟨t, ht, rfl, hR, hB⟩ := hrel
  have hLo := hL.out
  have hQo := hQ.out
  have hIo := hI0.out
  by_cases hlt : t < 3
  ·have hle : ((I0 + t : Nat) : Int) ≤ (I0 : Int) + 1 + 1 := by omega
   have hwn : IntKind.i64.wrap (((I0 + t : Nat) : Int) + 1) = ((I0 + (t + 1) : Nat) : Int) := by rw [show ((I0 + t : Nat) : Int) + 1 = ((I0 + (t + 1) : Nat) : Int) by omega]; exact IntWalk.i64_in _ (by omega)
   have hst : bpS a L M I0 (r0, d) (t + 1) = Sort.breakStep a L M (bpS a L M I0 (r0, d) t) (I0 + t) := rfl
   generalize bpS a L M I0 (r0, d) t = st at *
   obtain ⟨r, dk⟩ := st
   simp only at hR hB
   have lR : r.toNat < 18446744073709551616 := r.toNat_lt
   have hnx := next64_any w.heap.size r.toNat lR wr hB
   have exn : Sort.xorNextN r.toNat = (Sort.xorNext r).toNat := (Sort.xorNext_toNat r).symm
   rw [exn] at hnx
   have lR' := (Sort.xorNext r).toNat_lt
   obtain ⟨R', hR'⟩ : ∃ R', R' = (Sort.xorNext r).toNat := ⟨_, rfl⟩
   rw [← hR'] at hnx lR'
   obtain ⟨O, hO⟩ : ∃ O : Nat, O = R' &&& (M - 1) := ⟨_, rfl⟩
   have lO : O ≤ M - 1 := by rw [hO]; exact Nat.and_le_right
   have eAnd : bits .and .u64 (R' : Int) ((M : Int) - 1) = (O : Int) := by
    rw [show ((M : Int) - 1) = ((M - 1 : Nat) : Int) by omega, bits_and_u64_nat _ _ lR' (by omega), hO]
   have hOx : O = (Sort.xorNext r).toNat &&& (M - 1) := by rw [hO, hR']
   have hcO : IntKind.i64.wrap (O : Int) = (O : Int) := IntWalk.i64_in _ (by omega)
   clear hO
   have hbw : ∀ W', OffL 0 [w.heap.size] wr W' → Row64 w W' g N dk := fun W' ho => hR.offs ho (Nat.le_refl _) (by omega)
   replace hnx := Lib.hid hnx
   have hRh := Lib.hid hR
   have hR'h := Lib.hid hR'
   have hsth := Lib.hid hst
   have hOh := Lib.hid hOx
   have hLh := Lib.hid hLo
   have hQh := Lib.hid hQo
   have hIh := Lib.hid hIo
   clear hR hR' hst hOx hLo hQo hIo
   go_wp2_with fail
   refine hnx.out.mono ?_; rintro e w2 ⟨rfl, hBx, hox⟩
   have hRx := hbw w2 hox
   clear hnx hbw hox hB
   have hOx := hOh.out
   have hR := hRh.out
   have hR' := hR'h.out
   have hst := hsth.out
   have hLo := hLh.out
   have hQo := hQh.out
   have hIo := hIh.out
   clear hOh hRh hR'h hsth hLh hQh hIh
   by_cases hLO : L ≤ O
   ·have hLO' : (L : Int) ≤ (O : Int) := by omega
    have e4 : Sort.breakStep a L M (r, dk) (I0 + t) = (Sort.xorNext r, Sort.swp dk (I0 + t) (a + (O - L))) := by
     unfold Sort.breakStep
     simp only [← hOx]
     rw [if_pos hLO]
    rw [e4] at hst
    clear e4
    have hbi : I0 + t < N := by omega
    obtain ⟨P, hP⟩ : ∃ P, P = a + (O - L) := ⟨_, rfl⟩
    have hbo : P < N := by omega
    rw [← hP] at hst
    have hwo : IntKind.i64.wrap ((a : Int) + ((O : Int) - (L : Int))) = (P : Int) := by rw [show (a : Int) + ((O : Int) - (L : Int)) = (P : Int) by omega]; exact IntWalk.i64_in _ (by omega)
    have hwl2 : IntKind.i64.wrap ((O : Int) - (L : Int)) = (O : Int) - (L : Int) := IntWalk.i64_in _ (by omega)
    clear hP
    obtain ⟨c0, fc0⟩ := hRx.hu.2 (I0 + t) (by have := hR.sz; omega)
    obtain ⟨c1, fc1⟩ := hRx.hu.2 P (by have := hR.sz; omega)
    have hR2 := (hRx.swap (i := I0 + t) (j := P) (by have := hR.sz; omega) (by have := hR.sz; omega)).drew
    have hB2 : ∀ x y, Boxed ((w2.setCell ⟨g, I0 + t, none⟩ x).setCell ⟨g, P, none⟩ y).drew w.heap.size 186 (.int .u64 (R' : Int)) := fun x y => Boxed.swapped hBx (by omega)
    replace hOx := Lib.hid hOx
    replace hLo := Lib.hid hLo
    replace hQo := Lib.hid hQo
    replace hIo := Lib.hid hIo
    generalize hIi : I0 + t = Ii at *
    by_cases hEq : Ii = P
    ·subst hEq
     clear c1 fc1
     generalize dk[Ii]! = x at *
     replace hR2 := Lib.hid hR2
     replace hB2 := Lib.hid hB2
     replace hst := Lib.hid hst
     replace hIi := Lib.hid hIi
     replace hRx := Lib.hid hRx
     replace hBx := Lib.hid hBx
     replace hR' := Lib.hid hR'
     replace hR := Lib.hid hR
     go_wp2_with fail
     go_region
     all_goals go_wp2_with fail
     have e := hst.out
     refine ⟨⟨t + 1, by omega, rfl, ?_, ?_⟩, by simp [intOf]; omega⟩
     ·rw [e]; exact hR2.out
     ·rw [e, ← hR'.out]; exact hB2.out _ _
    ·generalize dk[Ii]! = x at *
     generalize dk[P]! = y at *
     replace hR2 := Lib.hid hR2
     replace hB2 := Lib.hid hB2
     replace hst := Lib.hid hst
     replace hIi := Lib.hid hIi
     replace hRx := Lib.hid hRx
     replace hBx := Lib.hid hBx
     replace hR' := Lib.hid hR'
     replace hR := Lib.hid hR
     go_wp2_with fail
     go_region
     all_goals go_wp2_with fail
     have e := hst.out
     refine ⟨⟨t + 1, by omega, rfl, ?_, ?_⟩, by simp [intOf]; omega⟩
     ·rw [e]; exact hR2.out
     ·rw [e, ← hR'.out]; exact hB2.out _ _
   ·have hLO' : ¬ (L : Int) ≤ (O : Int) := by omega
    have e4 : Sort.breakStep a L M (r, dk) (I0 + t) = (Sort.xorNext r, Sort.swp dk (I0 + t) (a + O)) := by
     unfold Sort.breakStep
     simp only [← hOx]
     rw [if_neg hLO]
    rw [e4] at hst
    clear e4
    have hbi : I0 + t < N := by omega
    obtain ⟨P, hP⟩ : ∃ P, P = a + O := ⟨_, rfl⟩
    have hbo : P < N := by omega
    rw [← hP] at hst
    have hwo : IntKind.i64.wrap ((a : Int) + (O : Int)) = (P : Int) := by rw [show (a : Int) + (O : Int) = (P : Int) by omega]; exact IntWalk.i64_in _ (by omega)
    clear hP
    obtain ⟨c0, fc0⟩ := hRx.hu.2 (I0 + t) (by have := hR.sz; omega)
    obtain ⟨c1, fc1⟩ := hRx.hu.2 P (by have := hR.sz; omega)
    have hR2 := (hRx.swap (i := I0 + t) (j := P) (by have := hR.sz; omega) (by have := hR.sz; omega)).drew
    have hB2 : ∀ x y, Boxed ((w2.setCell ⟨g, I0 + t, none⟩ x).setCell ⟨g, P, none⟩ y).drew w.heap.size 186 (.int .u64 (R' : Int)) := fun x y => Boxed.swapped hBx (by omega)
    replace hOx := Lib.hid hOx
    replace hLo := Lib.hid hLo
    replace hQo := Lib.hid hQo
    replace hIo := Lib.hid hIo
    generalize hIi : I0 + t = Ii at *
    by_cases hEq : Ii = P
    ·subst hEq
     clear c1 fc1
     generalize dk[Ii]! = x at *
     replace hR2 := Lib.hid hR2
     replace hB2 := Lib.hid hB2
     replace hst := Lib.hid hst
     replace hIi := Lib.hid hIi
     replace hRx := Lib.hid hRx
     replace hBx := Lib.hid hBx
     replace hR' := Lib.hid hR'
     replace hR := Lib.hid hR
     go_wp2_with fail
     go_region
     all_goals go_wp2_with fail
     have e := hst.out
     refine ⟨⟨t + 1, by omega, rfl, ?_, ?_⟩, by simp [intOf]; omega⟩
     ·rw [e]; exact hR2.out
     ·rw [e, ← hR'.out]; exact hB2.out _ _
    ·generalize dk[Ii]! = x at *
     generalize dk[P]! = y at *
     replace hR2 := Lib.hid hR2
     replace hB2 := Lib.hid hB2
     replace hst := Lib.hid hst
     replace hIi := Lib.hid hIi
     replace hRx := Lib.hid hRx
     replace hBx := Lib.hid hBx
     replace hR' := Lib.hid hR'
     replace hR := Lib.hid hR
     go_wp2_with fail
     go_region
     all_goals go_wp2_with fail
     have e := hst.out
     refine ⟨⟨t + 1, by omega, rfl, ?_, ?_⟩, by simp [intOf]; omega⟩
     ·rw [e]; exact hR2.out
     ·rw [e, ← hR'.out]; exact hB2.out _ _
  ·obtain rfl : t = 3 := by omega
   have hle : ¬ ((I0 + 3 : Nat) : Int) ≤ (I0 : Int) + 1 + 1 := by omega
   replace hR := Lib.hid hR
   clear hB hLo hQo hIo
   go_wp2_with fail
   go_end0
   exact ⟨rfl, hR.out⟩
end Go.Proofs.YtiblhlaemmdphaaGreat
/- Sorting rows of words: a few insertions. -/
namespace Go.Proofs.YtiblhlaemmdphaaGreat
open Go Go.RowKit Go.Shelf Go.BigFrame Go.Maps
set_option maxRecDepth 20000 in
set_option maxHeartbeats 8000000 in
theorem part64_any (g cap a b N : Nat) (d : Array Int) (hN : d.size = N) (w : World) (hH : HU w g d) (hab : a < b) (hb : b ≤ N) (hN62 : N < 1152921504606846976) :
  Calls Tryz.prog 110 #[.slice (some ⟨g, 0, none⟩) N cap, .int .i64 a, .int .i64 b] w fun e w' => e = .returned (.bool (Sort.partialInsertionSort Sort.ltInt d a b).2) ∧ Row64 w w' g N (Sort.partialInsertionSort Sort.ltInt d a b).1 := by
 have hR0 := Lib.hid (Row64.refl hH hN)
 clear hH
 have hT0 : Sort.partialIns Sort.ltInt a b 5 (a + 1) d = Sort.partialInsertionSort Sort.ltInt d a b := rfl
 generalize Sort.partialInsertionSort Sort.ltInt d a b = T at *
 replace hT0 := Lib.hid hT0
 have ha1 : IntKind.i64.wrap ((a : Int) + 1) = (a : Int) + 1 := IntWalk.i64_in _ (by omega)
 have hba : IntKind.i64.wrap ((b : Int) - (a : Int)) = (b : Int) - (a : Int) := IntWalk.i64_in _ (by omega)
 go_enter Tryz.func110, Tryz.ntmps110
 go_wp2_with fail
 go_loopw [7, 8] (fun s7 s8 wr => ∃ (i c : Nat) (dk : Array Int), a < i ∧ i ≤ b ∧ c ≤ 5 ∧ s7 = .int .i64 i ∧ s8 = .int .i64 c ∧ Row64 w wr g N dk ∧ Sort.partialIns Sort.ltInt a b (5 - c) i dk = T) (fun _ s8 _ => (5 - intOf s8).toNat)
 case atStart => exact ⟨a + 1, 0, d, by omega, by omega, by omega, congrArg (Value.int .i64) (by omega), rfl, hR0.out, hT0.out⟩
 case round =>
  obtain ⟨i0, c, dk, hi1, hi2, hc5, rfl, rfl, hR, heq⟩ := hrel
  obtain ⟨wo, rfl⟩ : ∃ wo, wo = wr := ⟨_, rfl⟩
  by_cases hc : c < 5
  ·have hc' : (c : Int) < 5 := by omega
   have hwc : IntKind.i64.wrap ((c : Int) + 1) = (c : Int) + 1 := IntWalk.i64_in _ (by omega)
   obtain ⟨s, hs⟩ : ∃ s, 5 - c = s + 1 := ⟨4 - c, by omega⟩
   rw [hs, Sort.partialIns_succ] at heq
   replace hs := Lib.hid hs
   replace hR := Lib.hid hR
   replace heq := Lib.hid heq
   go_wp2_with fail
   go_loopw [7] (fun s7 wr => ∃ i : Nat, a < i ∧ i ≤ b ∧ s7 = .int .i64 i ∧ Row64 w wr g N dk ∧ Sort.scanSorted Sort.ltInt dk b i = Sort.scanSorted Sort.ltInt dk b i0) (fun s7 _ => b - (intOf s7).toNat)
   case atStart => exact ⟨i0, hi1, hi2, rfl, hR.out, rfl⟩
   case round =>
    obtain ⟨i, hia, hib, rfl, hRi, hsc⟩ := hrel
    clear hR
    rw [Sort.scanSorted] at hsc
    by_cases hlt : i < b
    ·have hlt' : (i : Int) < (b : Int) := by omega
     obtain ⟨m, rfl⟩ : ∃ k, i = k + 1 := ⟨i - 1, by omega⟩
     simp only [Nat.add_sub_cancel] at hsc
     obtain ⟨q, hq⟩ : ∃ q, Sort.ltInt dk[m + 1]! dk[m]! = q := ⟨_, rfl⟩
     rw [hq] at hsc
     have eF : q = false → Sort.scanSorted Sort.ltInt dk b (m + 1 + 1) = Sort.scanSorted Sort.ltInt dk b i0 := fun h => by rw [h] at hsc; simpa [hlt] using hsc
     have eT : q = true → Sort.scanSorted Sort.ltInt dk b i0 = m + 1 := fun h => by rw [h] at hsc; simpa [hlt] using hsc.symm
     replace hq := Lib.hid hq
     replace eF := Lib.hid eF
     replace eT := Lib.hid eT
     clear hsc
     have hlt2 : (m : Int) + 1 < (b : Int) := by omega
     obtain ⟨c1, fc1⟩ := hRi.hu.2 (m + 1) (by have := hRi.sz; omega)
     obtain ⟨c0, fc0⟩ := hRi.hu.2 m (by have := hRi.sz; omega)
     have hgl := hRi.hu.1
     have hsw := Lib.hid (fun (W : World) (h : Row64 w W g N dk) => h.swap (i := m + 1) (j := m) (by have := h.sz; omega) (by have := h.sz; omega))
     generalize hx : dk[m + 1]! = x at *
     generalize hy : dk[m]! = y at *
     replace hx := Lib.hid hx
     replace hy := Lib.hid hy
     replace hRi := Lib.hid hRi
     have hw1 : IntKind.i64.wrap ((m : Int) + 1 - 1) = (m : Int) := by rw [show (m : Int) + 1 - 1 = (m : Int) by omega]; exact IntWalk.i64_in _ (by omega)
     have hw2 : IntKind.i64.wrap ((m : Int) + 1 + 1) = (m : Int) + 1 + 1 := IntWalk.i64_in _ (by omega)
     have hmN : m + 1 < N ∧ m < N := by omega
     go_wp2_with fail
     refine region_later wr.heap.size wr (Below.refl _ _) (by kernel_rfl) (by kernel_rfl) ?_
     have zc1 := later_cell (B := wr.heap.size) c1 hgl
     have zc0 := later_cell (B := wr.heap.size) c0 hgl
     repeat (first | go_big_quiet_step (fail) | quiet_step ((go_at_call 111; exact quiet_later (Nat.le_refl _) (less64_q hq _))))
     refine wpQuiet_nil ?_
     first | (rintro _ ⟨X, rfl⟩) | (intro X)
     have hX := X.h
     have hR5 := hRi.out.later hX
     have hgl3 := hR5.hu.1
     have c13 := (hX.cell (p := ⟨g, m + 1, none⟩) hgl).trans c1
     have fc13 := (hX.frozen (p := ⟨g, m + 1, none⟩) hgl).trans fc1
     have c03 := (hX.cell (p := ⟨g, m, none⟩) hgl).trans c0
     have fc03 := (hX.frozen (p := ⟨g, m, none⟩) hgl).trans fc0
     clear zc1 c1 fc1 zc0 c0 fc0
     generalize X.x = w5 at *
     replace hR5 := Lib.hid hR5
     clear hX
     cases q
     ·have e := Lib.hid (eF.out rfl)
      clear eF eT
      go_wp2_with fail
      exact ⟨⟨m + 1 + 1, by omega, by omega, rfl, hR5.out, e.out⟩, by simp [intOf]; omega⟩
     ·have e := eT.out rfl
      have heq := heq.out
      rw [e, if_neg (by omega)] at heq
      have hne : ¬ (m : Int) + 1 = (b : Int) := by omega
      have hR4 := Lib.hid (hsw.out w5 hR5.out)
      clear eF eT e hsw
      by_cases h50 : b - a < 50
      ·rw [if_pos h50] at heq
       have h50' : (b : Int) - (a : Int) < 50 := by omega
       replace heq := Lib.hid heq
       clear hR4
       go_wp2_with fail
       go_ret
       exact ⟨by rw [← heq.out]; rfl, by rw [← heq.out]; exact hR5.out⟩
      ·rw [if_neg h50] at heq
       have h50' : ¬ (b : Int) - (a : Int) < 50 := by omega
       replace heq := Lib.hid heq
       go_wp2_with fail
       go_region
       have hRd := Lib.hid hR4.out.drew
       simp only [Nat.add_sub_cancel] at heq
       clear hR4 hR5 hRi hx hy hgl hgl3
       generalize Sort.swp dk (m + 1) m = d1 at *
       generalize ((w5.setCell ⟨g, m + 1, none⟩ (.int .u64 y)).setCell ⟨g, m, none⟩ (.int .u64 x)).drew = w6 at *
       generalize hi : m + 1 = i at *
       generalize hz : (m : Int) + 1 = z at *
       obtain rfl : z = (i : Int) := by omega
       clear hz hw1 hw2
       replace hi := Lib.hid hi
       have hwe := IntWalk.i64_in ((i : Int) - (a : Int)) (by omega)
       have hwj : IntKind.i64.wrap ((i : Int) - 1) = (i : Int) - 1 := IntWalk.i64_in _ (by omega)
       by_cases h12 : 2 ≤ i - a
       ·have h12' : (2 : Int) ≤ (i : Int) - (a : Int) := by omega
        have heq1 : Sort.partialIns Sort.ltInt a b s i (Sort.fixUp Sort.ltInt b i (Sort.shiftDown Sort.ltInt (i - 1) d1)) = T := by
         have e := heq.out
         unfold Sort.fixDown at e
         rwa [if_pos h12] at e
        replace heq1 := Lib.hid heq1
        clear heq
        go_wp2_with fail
        go_loopw [9] (fun s wr => ∃ (j : Nat) (dj : Array Int), j ≤ i - 1 ∧ s = .int .i64 j ∧ Row64 w wr g N dj ∧ Sort.shiftDown Sort.ltInt j dj = Sort.shiftDown Sort.ltInt (i - 1) d1) (fun s _ => (intOf s).toNat)
        case atStart => exact ⟨i - 1, d1, Nat.le_refl _, congrArg (Value.int .i64) (by omega), hRd.out, rfl⟩
        case round =>
         obtain ⟨j, dj, hj1, rfl, hRj, hej⟩ := hrel
         rcases j with _ | m
         ·have h0 : ¬ (1 : Int) ≤ ((0 : Nat) : Int) := by omega
          have heq : RowKit.Hid (Sort.partialIns Sort.ltInt a b s i (Sort.fixUp Sort.ltInt b i dj) = T) := by
           have e : dj = _ := hej
           rw [e]; exact heq1.out
          replace hRj := Lib.hid hRj
          clear hej heq1
          try simp only [Int.natCast_zero] at h0
          have hwd := IntWalk.i64_in ((b : Int) - (i : Int)) (by omega)
          have hwi : IntKind.i64.wrap ((i : Int) + 1) = (i : Int) + 1 := IntWalk.i64_in _ (by omega)
          by_cases h18 : 2 ≤ b - i
          ·have h18' : (2 : Int) ≤ (b : Int) - (i : Int) := by omega
           have heq2 : Sort.partialIns Sort.ltInt a b s i (Sort.shiftUp Sort.ltInt b (i + 1) dj) = T := by
            have e := heq.out
            unfold Sort.fixUp at e
            rwa [if_pos h18] at e
           replace heq2 := Lib.hid heq2
           clear heq
           go_wp2_with fail
           go_loopw [10] (fun s wr => ∃ (j : Nat) (dq : Array Int), i + 1 ≤ j ∧ j ≤ b ∧ s = .int .i64 j ∧ Row64 w wr g N dq ∧ Sort.shiftUp Sort.ltInt b j dq = Sort.shiftUp Sort.ltInt b (i + 1) dj) (fun s _ => b - (intOf s).toNat)
           case atStart => exact ⟨i + 1, dj, Nat.le_refl _, by omega, congrArg (Value.int .i64) (by omega), hRj.out, rfl⟩
           case round =>
            obtain ⟨j, dq, hj1, hj2, rfl, hRj, hej⟩ := hrel
            rw [Sort.shiftUp] at hej
            by_cases hjb : j < b
            ·rw [if_pos hjb] at hej
             obtain ⟨m, rfl⟩ : ∃ k, j = k + 1 := ⟨j - 1, by omega⟩
             have hjb' : (m : Int) + 1 < (b : Int) := by omega
             simp only [Nat.add_sub_cancel] at hej
             obtain ⟨c1, fc1⟩ := hRj.hu.2 (m + 1) (by have := hRj.sz; omega)
             obtain ⟨c0, fc0⟩ := hRj.hu.2 m (by have := hRj.sz; omega)
             have hgl := hRj.hu.1
             have hsw := Lib.hid (fun (W : World) (h : Row64 w W g N dq) => h.swap (i := m + 1) (j := m) (by have := h.sz; omega) (by have := h.sz; omega))
             obtain ⟨q, hq⟩ : ∃ q, Sort.ltInt dq[m + 1]! dq[m]! = q := ⟨_, rfl⟩
             rw [hq] at hej
             have eF : q = false → dq = Sort.shiftUp Sort.ltInt b (i + 1) dj := fun h => by rw [h] at hej; simpa using hej
             have eT : q = true → Sort.shiftUp Sort.ltInt b (m + 1 + 1) (Sort.swp dq (m + 1) m) = Sort.shiftUp Sort.ltInt b (i + 1) dj := fun h => by rw [h] at hej; simpa using hej
             replace hq := Lib.hid hq
             replace eF := Lib.hid eF
             replace eT := Lib.hid eT
             clear hej
             generalize dq[m + 1]! = x at *
             generalize dq[m]! = y at *
             replace hRj := Lib.hid hRj
             have hw1 : IntKind.i64.wrap ((m : Int) + 1 - 1) = (m : Int) := by rw [show (m : Int) + 1 - 1 = (m : Int) by omega]; exact IntWalk.i64_in _ (by omega)
             have hw2 : IntKind.i64.wrap ((m : Int) + 1 + 1) = (m : Int) + 1 + 1 := IntWalk.i64_in _ (by omega)
             have hmN : m + 1 < N ∧ m < N := by omega
             go_wp2_with fail
             refine region_later wr.heap.size wr (Below.refl _ _) (by kernel_rfl) (by kernel_rfl) ?_
             have zc1 := later_cell (B := wr.heap.size) c1 hgl
             have zc0 := later_cell (B := wr.heap.size) c0 hgl
             repeat (first | go_big_quiet_step (fail) | quiet_step ((go_at_call 111; exact quiet_later (Nat.le_refl _) (less64_q hq _))))
             refine wpQuiet_nil ?_
             first | (rintro _ ⟨X, rfl⟩) | (intro X)
             have hX := X.h
             have hR8 := hRj.out.later hX
             have hgl3 := hR8.hu.1
             have c13 := (hX.cell (p := ⟨g, m + 1, none⟩) hgl).trans c1
             have fc13 := (hX.frozen (p := ⟨g, m + 1, none⟩) hgl).trans fc1
             have c03 := (hX.cell (p := ⟨g, m, none⟩) hgl).trans c0
             have fc03 := (hX.frozen (p := ⟨g, m, none⟩) hgl).trans fc0
             clear zc1 c1 fc1 zc0 c0 fc0
             generalize X.x = w8 at *
             replace hR8 := Lib.hid hR8
             clear hX
             have hR4 := Lib.hid (hsw.out w8 hR8.out)
             clear hsw
             cases q
             ·have e := Lib.hid (eF.out rfl)
              clear eF eT hR4
              try simp only [Bool.not_false]
              go_wp2_with fail
              exact ⟨⟨i, c + 1, dq, by omega, by omega, by omega, rfl, congrArg (Value.int .i64) (by omega), hR8.out, by rw [show 5 - (c + 1) = s by have := hs.out; omega]; exact (by rw [e.out]; exact heq2.out)⟩, by simp [intOf]; omega⟩
             ·have e := Lib.hid (eT.out rfl)
              clear eF eT
              go_wp2_with fail
              go_region
              all_goals go_wp2_with fail
              exact ⟨⟨m + 1 + 1, _, by omega, by omega, rfl, hR4.out.drew, e.out⟩, by simp [intOf]; omega⟩
            ·rw [if_neg hjb] at hej
             have hjb' : ¬ (j : Int) < (b : Int) := by omega
             replace hej := Lib.hid hej
             replace hRj := Lib.hid hRj
             go_wp2_with fail
             exact ⟨⟨i, c + 1, dq, by omega, by omega, by omega, rfl, congrArg (Value.int .i64) (by omega), hRj.out, by rw [show 5 - (c + 1) = s by have := hs.out; omega]; exact (by rw [hej.out]; exact heq2.out)⟩, by simp [intOf]; omega⟩
          ·have h18' : ¬ (2 : Int) ≤ (b : Int) - (i : Int) := by omega
           have heq2 : Sort.partialIns Sort.ltInt a b s i dj = T := by
            have e := heq.out
            unfold Sort.fixUp at e
            rwa [if_neg (by omega)] at e
           replace heq2 := Lib.hid heq2
           clear heq
           go_wp2_with fail
           exact ⟨⟨i, c + 1, dj, by omega, by omega, by omega, rfl, congrArg (Value.int .i64) (by omega), hRj.out, by rw [show 5 - (c + 1) = s by have := hs.out; omega]; exact heq2.out⟩, by simp [intOf]; omega⟩
         ·have h0 : (1 : Int) ≤ (m : Int) + 1 := by omega
          rw [Sort.shiftDown] at hej
          obtain ⟨c1, fc1⟩ := hRj.hu.2 (m + 1) (by have := hRj.sz; omega)
          obtain ⟨c0, fc0⟩ := hRj.hu.2 m (by have := hRj.sz; omega)
          have hgl := hRj.hu.1
          have hsw := Lib.hid (fun (W : World) (h : Row64 w W g N dj) => h.swap (i := m + 1) (j := m) (by have := h.sz; omega) (by have := h.sz; omega))
          obtain ⟨q, hq⟩ : ∃ q, Sort.ltInt dj[m + 1]! dj[m]! = q := ⟨_, rfl⟩
          rw [hq] at hej
          have eF : q = false → dj = Sort.shiftDown Sort.ltInt (i - 1) d1 := fun h => by rw [h] at hej; simpa using hej
          have eT : q = true → Sort.shiftDown Sort.ltInt m (Sort.swp dj (m + 1) m) = Sort.shiftDown Sort.ltInt (i - 1) d1 := fun h => by rw [h] at hej; simpa using hej
          replace hq := Lib.hid hq
          replace eF := Lib.hid eF
          replace eT := Lib.hid eT
          clear hej
          generalize dj[m + 1]! = x at *
          generalize dj[m]! = y at *
          replace hRj := Lib.hid hRj
          have hw1 : IntKind.i64.wrap ((m : Int) + 1 - 1) = (m : Int) := by rw [show (m : Int) + 1 - 1 = (m : Int) by omega]; exact IntWalk.i64_in _ (by omega)
          have hw2 : IntKind.i64.wrap ((m : Int) + 1 + 1) = (m : Int) + 1 + 1 := IntWalk.i64_in _ (by omega)
          have hmN : m + 1 < N ∧ m < N := by omega
          go_wp2_with fail
          refine region_later wr.heap.size wr (Below.refl _ _) (by kernel_rfl) (by kernel_rfl) ?_
          have zc1 := later_cell (B := wr.heap.size) c1 hgl
          have zc0 := later_cell (B := wr.heap.size) c0 hgl
          repeat (first | go_big_quiet_step (fail) | quiet_step ((go_at_call 111; exact quiet_later (Nat.le_refl _) (less64_q hq _))))
          refine wpQuiet_nil ?_
          first | (rintro _ ⟨X, rfl⟩) | (intro X)
          have hX := X.h
          have hR7 := hRj.out.later hX
          have hgl3 := hR7.hu.1
          have c13 := (hX.cell (p := ⟨g, m + 1, none⟩) hgl).trans c1
          have fc13 := (hX.frozen (p := ⟨g, m + 1, none⟩) hgl).trans fc1
          have c03 := (hX.cell (p := ⟨g, m, none⟩) hgl).trans c0
          have fc03 := (hX.frozen (p := ⟨g, m, none⟩) hgl).trans fc0
          clear zc1 c1 fc1 zc0 c0 fc0
          generalize X.x = w7 at *
          replace hR7 := Lib.hid hR7
          clear hX
          have hR4 := Lib.hid (hsw.out w7 hR7.out)
          clear hsw
          cases q
          ·have e := Lib.hid (eF.out rfl)
           clear eF eT hR4
           try simp only [Bool.not_false]
           have heq : RowKit.Hid (Sort.partialIns Sort.ltInt a b s i (Sort.fixUp Sort.ltInt b i dj) = T) := by rw [e.out]; exact heq1.out
           clear heq1
           have hwd := IntWalk.i64_in ((b : Int) - (i : Int)) (by omega)
           have hwi : IntKind.i64.wrap ((i : Int) + 1) = (i : Int) + 1 := IntWalk.i64_in _ (by omega)
           by_cases h18 : 2 ≤ b - i
           ·have h18' : (2 : Int) ≤ (b : Int) - (i : Int) := by omega
            have heq2 : Sort.partialIns Sort.ltInt a b s i (Sort.shiftUp Sort.ltInt b (i + 1) dj) = T := by
             have e := heq.out
             unfold Sort.fixUp at e
             rwa [if_pos h18] at e
            replace heq2 := Lib.hid heq2
            clear heq
            go_wp2_with fail
            go_loopw [10] (fun s wr => ∃ (j : Nat) (dq : Array Int), i + 1 ≤ j ∧ j ≤ b ∧ s = .int .i64 j ∧ Row64 w wr g N dq ∧ Sort.shiftUp Sort.ltInt b j dq = Sort.shiftUp Sort.ltInt b (i + 1) dj) (fun s _ => b - (intOf s).toNat)
            case atStart => exact ⟨i + 1, dj, Nat.le_refl _, by omega, congrArg (Value.int .i64) (by omega), hR7.out, rfl⟩
            case round =>
             obtain ⟨j, dq, hj1, hj2, rfl, hRj, hej⟩ := hrel
             rw [Sort.shiftUp] at hej
             by_cases hjb : j < b
             ·rw [if_pos hjb] at hej
              obtain ⟨m, rfl⟩ : ∃ k, j = k + 1 := ⟨j - 1, by omega⟩
              have hjb' : (m : Int) + 1 < (b : Int) := by omega
              simp only [Nat.add_sub_cancel] at hej
              obtain ⟨c1, fc1⟩ := hRj.hu.2 (m + 1) (by have := hRj.sz; omega)
              obtain ⟨c0, fc0⟩ := hRj.hu.2 m (by have := hRj.sz; omega)
              have hgl := hRj.hu.1
              have hsw := Lib.hid (fun (W : World) (h : Row64 w W g N dq) => h.swap (i := m + 1) (j := m) (by have := h.sz; omega) (by have := h.sz; omega))
              obtain ⟨q, hq⟩ : ∃ q, Sort.ltInt dq[m + 1]! dq[m]! = q := ⟨_, rfl⟩
              rw [hq] at hej
              have eF : q = false → dq = Sort.shiftUp Sort.ltInt b (i + 1) dj := fun h => by rw [h] at hej; simpa using hej
              have eT : q = true → Sort.shiftUp Sort.ltInt b (m + 1 + 1) (Sort.swp dq (m + 1) m) = Sort.shiftUp Sort.ltInt b (i + 1) dj := fun h => by rw [h] at hej; simpa using hej
              replace hq := Lib.hid hq
              replace eF := Lib.hid eF
              replace eT := Lib.hid eT
              clear hej
              generalize dq[m + 1]! = x at *
              generalize dq[m]! = y at *
              replace hRj := Lib.hid hRj
              have hw1 : IntKind.i64.wrap ((m : Int) + 1 - 1) = (m : Int) := by rw [show (m : Int) + 1 - 1 = (m : Int) by omega]; exact IntWalk.i64_in _ (by omega)
              have hw2 : IntKind.i64.wrap ((m : Int) + 1 + 1) = (m : Int) + 1 + 1 := IntWalk.i64_in _ (by omega)
              have hmN : m + 1 < N ∧ m < N := by omega
              go_wp2_with fail
              refine region_later wr.heap.size wr (Below.refl _ _) (by kernel_rfl) (by kernel_rfl) ?_
              have zc1 := later_cell (B := wr.heap.size) c1 hgl
              have zc0 := later_cell (B := wr.heap.size) c0 hgl
              repeat (first | go_big_quiet_step (fail) | quiet_step ((go_at_call 111; exact quiet_later (Nat.le_refl _) (less64_q hq _))))
              refine wpQuiet_nil ?_
              first | (rintro _ ⟨X, rfl⟩) | (intro X)
              have hX := X.h
              have hR8 := hRj.out.later hX
              have hgl3 := hR8.hu.1
              have c13 := (hX.cell (p := ⟨g, m + 1, none⟩) hgl).trans c1
              have fc13 := (hX.frozen (p := ⟨g, m + 1, none⟩) hgl).trans fc1
              have c03 := (hX.cell (p := ⟨g, m, none⟩) hgl).trans c0
              have fc03 := (hX.frozen (p := ⟨g, m, none⟩) hgl).trans fc0
              clear zc1 c1 fc1 zc0 c0 fc0
              generalize X.x = w8 at *
              replace hR8 := Lib.hid hR8
              clear hX
              have hR4 := Lib.hid (hsw.out w8 hR8.out)
              clear hsw
              cases q
              ·have e := Lib.hid (eF.out rfl)
               clear eF eT hR4
               try simp only [Bool.not_false]
               go_wp2_with fail
               exact ⟨⟨i, c + 1, dq, by omega, by omega, by omega, rfl, congrArg (Value.int .i64) (by omega), hR8.out, by rw [show 5 - (c + 1) = s by have := hs.out; omega]; exact (by rw [e.out]; exact heq2.out)⟩, by simp [intOf]; omega⟩
              ·have e := Lib.hid (eT.out rfl)
               clear eF eT
               go_wp2_with fail
               go_region
               all_goals go_wp2_with fail
               exact ⟨⟨m + 1 + 1, _, by omega, by omega, rfl, hR4.out.drew, e.out⟩, by simp [intOf]; omega⟩
             ·rw [if_neg hjb] at hej
              have hjb' : ¬ (j : Int) < (b : Int) := by omega
              replace hej := Lib.hid hej
              replace hRj := Lib.hid hRj
              go_wp2_with fail
              exact ⟨⟨i, c + 1, dq, by omega, by omega, by omega, rfl, congrArg (Value.int .i64) (by omega), hRj.out, by rw [show 5 - (c + 1) = s by have := hs.out; omega]; exact (by rw [hej.out]; exact heq2.out)⟩, by simp [intOf]; omega⟩
           ·have h18' : ¬ (2 : Int) ≤ (b : Int) - (i : Int) := by omega
            have heq2 : Sort.partialIns Sort.ltInt a b s i dj = T := by
             have e := heq.out
             unfold Sort.fixUp at e
             rwa [if_neg (by omega)] at e
            replace heq2 := Lib.hid heq2
            clear heq
            go_wp2_with fail
            exact ⟨⟨i, c + 1, dj, by omega, by omega, by omega, rfl, congrArg (Value.int .i64) (by omega), hR7.out, by rw [show 5 - (c + 1) = s by have := hs.out; omega]; exact heq2.out⟩, by simp [intOf]; omega⟩
          ·have e := Lib.hid (eT.out rfl)
           clear eF eT
           go_wp2_with fail
           go_region
           all_goals go_wp2_with fail
           exact ⟨⟨m, _, by omega, rfl, hR4.out.drew, e.out⟩, by simp [intOf]⟩
       ·have h12' : ¬ (2 : Int) ≤ (i : Int) - (a : Int) := by omega
        have heq1 : Sort.partialIns Sort.ltInt a b s i (Sort.fixUp Sort.ltInt b i d1) = T := by
         have e := heq.out
         unfold Sort.fixDown at e
         rwa [if_neg (by omega)] at e
        clear heq
        have heq := Lib.hid heq1
        clear heq1
        have hwd := IntWalk.i64_in ((b : Int) - (i : Int)) (by omega)
        have hwi : IntKind.i64.wrap ((i : Int) + 1) = (i : Int) + 1 := IntWalk.i64_in _ (by omega)
        by_cases h18 : 2 ≤ b - i
        ·have h18' : (2 : Int) ≤ (b : Int) - (i : Int) := by omega
         have heq2 : Sort.partialIns Sort.ltInt a b s i (Sort.shiftUp Sort.ltInt b (i + 1) d1) = T := by
          have e := heq.out
          unfold Sort.fixUp at e
          rwa [if_pos h18] at e
         replace heq2 := Lib.hid heq2
         clear heq
         go_wp2_with fail
         go_loopw [10] (fun s wr => ∃ (j : Nat) (dq : Array Int), i + 1 ≤ j ∧ j ≤ b ∧ s = .int .i64 j ∧ Row64 w wr g N dq ∧ Sort.shiftUp Sort.ltInt b j dq = Sort.shiftUp Sort.ltInt b (i + 1) d1) (fun s _ => b - (intOf s).toNat)
         case atStart => exact ⟨i + 1, d1, Nat.le_refl _, by omega, congrArg (Value.int .i64) (by omega), hRd.out, rfl⟩
         case round =>
          obtain ⟨j, dq, hj1, hj2, rfl, hRj, hej⟩ := hrel
          rw [Sort.shiftUp] at hej
          by_cases hjb : j < b
          ·rw [if_pos hjb] at hej
           obtain ⟨m, rfl⟩ : ∃ k, j = k + 1 := ⟨j - 1, by omega⟩
           have hjb' : (m : Int) + 1 < (b : Int) := by omega
           simp only [Nat.add_sub_cancel] at hej
           obtain ⟨c1, fc1⟩ := hRj.hu.2 (m + 1) (by have := hRj.sz; omega)
           obtain ⟨c0, fc0⟩ := hRj.hu.2 m (by have := hRj.sz; omega)
           have hgl := hRj.hu.1
           have hsw := Lib.hid (fun (W : World) (h : Row64 w W g N dq) => h.swap (i := m + 1) (j := m) (by have := h.sz; omega) (by have := h.sz; omega))
           obtain ⟨q, hq⟩ : ∃ q, Sort.ltInt dq[m + 1]! dq[m]! = q := ⟨_, rfl⟩
           rw [hq] at hej
           have eF : q = false → dq = Sort.shiftUp Sort.ltInt b (i + 1) d1 := fun h => by rw [h] at hej; simpa using hej
           have eT : q = true → Sort.shiftUp Sort.ltInt b (m + 1 + 1) (Sort.swp dq (m + 1) m) = Sort.shiftUp Sort.ltInt b (i + 1) d1 := fun h => by rw [h] at hej; simpa using hej
           replace hq := Lib.hid hq
           replace eF := Lib.hid eF
           replace eT := Lib.hid eT
           clear hej
           generalize dq[m + 1]! = x at *
           generalize dq[m]! = y at *
           replace hRj := Lib.hid hRj
           have hw1 : IntKind.i64.wrap ((m : Int) + 1 - 1) = (m : Int) := by rw [show (m : Int) + 1 - 1 = (m : Int) by omega]; exact IntWalk.i64_in _ (by omega)
           have hw2 : IntKind.i64.wrap ((m : Int) + 1 + 1) = (m : Int) + 1 + 1 := IntWalk.i64_in _ (by omega)
           have hmN : m + 1 < N ∧ m < N := by omega
           go_wp2_with fail
           refine region_later wr.heap.size wr (Below.refl _ _) (by kernel_rfl) (by kernel_rfl) ?_
           have zc1 := later_cell (B := wr.heap.size) c1 hgl
           have zc0 := later_cell (B := wr.heap.size) c0 hgl
           repeat (first | go_big_quiet_step (fail) | quiet_step ((go_at_call 111; exact quiet_later (Nat.le_refl _) (less64_q hq _))))
           refine wpQuiet_nil ?_
           first | (rintro _ ⟨X, rfl⟩) | (intro X)
           have hX := X.h
           have hR8 := hRj.out.later hX
           have hgl3 := hR8.hu.1
           have c13 := (hX.cell (p := ⟨g, m + 1, none⟩) hgl).trans c1
           have fc13 := (hX.frozen (p := ⟨g, m + 1, none⟩) hgl).trans fc1
           have c03 := (hX.cell (p := ⟨g, m, none⟩) hgl).trans c0
           have fc03 := (hX.frozen (p := ⟨g, m, none⟩) hgl).trans fc0
           clear zc1 c1 fc1 zc0 c0 fc0
           generalize X.x = w8 at *
           replace hR8 := Lib.hid hR8
           clear hX
           have hR4 := Lib.hid (hsw.out w8 hR8.out)
           clear hsw
           cases q
           ·have e := Lib.hid (eF.out rfl)
            clear eF eT hR4
            try simp only [Bool.not_false]
            go_wp2_with fail
            exact ⟨⟨i, c + 1, dq, by omega, by omega, by omega, rfl, congrArg (Value.int .i64) (by omega), hR8.out, by rw [show 5 - (c + 1) = s by have := hs.out; omega]; exact (by rw [e.out]; exact heq2.out)⟩, by simp [intOf]; omega⟩
           ·have e := Lib.hid (eT.out rfl)
            clear eF eT
            go_wp2_with fail
            go_region
            all_goals go_wp2_with fail
            exact ⟨⟨m + 1 + 1, _, by omega, by omega, rfl, hR4.out.drew, e.out⟩, by simp [intOf]; omega⟩
          ·rw [if_neg hjb] at hej
           have hjb' : ¬ (j : Int) < (b : Int) := by omega
           replace hej := Lib.hid hej
           replace hRj := Lib.hid hRj
           go_wp2_with fail
           exact ⟨⟨i, c + 1, dq, by omega, by omega, by omega, rfl, congrArg (Value.int .i64) (by omega), hRj.out, by rw [show 5 - (c + 1) = s by have := hs.out; omega]; exact (by rw [hej.out]; exact heq2.out)⟩, by simp [intOf]; omega⟩
        ·have h18' : ¬ (2 : Int) ≤ (b : Int) - (i : Int) := by omega
         have heq2 : Sort.partialIns Sort.ltInt a b s i d1 = T := by
          have e := heq.out
          unfold Sort.fixUp at e
          rwa [if_neg (by omega)] at e
         replace heq2 := Lib.hid heq2
         clear heq
         go_wp2_with fail
         exact ⟨⟨i, c + 1, d1, by omega, by omega, by omega, rfl, congrArg (Value.int .i64) (by omega), hRd.out, by rw [show 5 - (c + 1) = s by have := hs.out; omega]; exact heq2.out⟩, by simp [intOf]; omega⟩
    ·have hlt' : ¬ (i : Int) < (b : Int) := by omega
     obtain rfl : i = b := by omega
     rw [if_neg (by simp)] at hsc
     have heq := heq.out
     rw [← hsc, if_pos rfl] at heq
     replace heq := Lib.hid heq
     replace hRi := Lib.hid hRi
     clear hsc
     go_wp2_with fail
     try replace hlt' : ¬ (i : Int) < (i : Int) := by omega
     refine region_later wr.heap.size wr (Below.refl _ _) (by kernel_rfl) (by kernel_rfl) ?_
     repeat (go_big_quiet_step (fail))
     refine wpQuiet_nil ?_
     first | (rintro _ ⟨X, rfl⟩) | (intro X)
     have hX := X.h
     have hR5 := hRi.out.later hX
     have hgl3 := hR5.hu.1
     generalize X.x = w5 at *
     replace hR5 := Lib.hid hR5
     clear hX
     go_wp2_with fail
     go_ret
     exact ⟨by rw [← heq.out]; rfl, by rw [← heq.out]; exact hR5.out⟩
  ·obtain rfl : c = 5 := by omega
   have hc' : ¬ ((5 : Nat) : Int) < 5 := by omega
   have heq2 : ((dk, false) : Array Int × Bool) = T := heq
   replace heq2 := Lib.hid heq2
   replace hR := Lib.hid hR
   clear heq
   go_wp2_with fail
   go_ret
   exact ⟨by rw [← heq2.out]; rfl, by rw [← heq2.out]; exact hR.out⟩
end Go.Proofs.YtiblhlaemmdphaaGreat
/- Sorting rows of words: equals put aside. -/
namespace Go.Proofs.YtiblhlaemmdphaaGreat
open Go Go.RowKit Go.Shelf Go.BigFrame Go.Maps
theorem Row64.mid {w W : World} {g i j N : Nat} {d : Array Int} (h : Row64 w W g N d) (hi : i < d.size) (hj : j < d.size) : (W.setCell ⟨g, i, none⟩ (.int .u64 d[j]!)).cell? ⟨g, j, none⟩ = some (.int .u64 d[j]!) := by
 by_cases e : j = i
 ·subst e
  exact World.cell?_setCell_same _ _ _ (by rw [(h.hu.2 j hj).1])
 ·rw [World.cell?_setCell_other _ _ _ _ (by intro h; cases h; exact e rfl)]
  exact (h.hu.2 j hj).1
set_option maxRecDepth 20000 in
set_option maxHeartbeats 16000000 in
theorem parteq64_any (g cap a b pv N : Nat) (d : Array Int) (hN : d.size = N) (w : World) (hH : HU w g d) (hap : a ≤ pv) (hpb : pv < b) (hb : b ≤ N) (hN62 : N < 1152921504606846976) :
  Calls Tryz.prog 112 #[.slice (some ⟨g, 0, none⟩) N cap, .int .i64 a, .int .i64 b, .int .i64 pv] w fun e w' => e = .returned (.int .i64 (Sort.partitionEqual Sort.ltInt d a b pv).1) ∧ Row64 w w' g N (Sort.partitionEqual Sort.ltInt d a b pv).2 ∧ a < (Sort.partitionEqual Sort.ltInt d a b pv).1 ∧ (Sort.partitionEqual Sort.ltInt d a b pv).1 ≤ b := by
 have hR0 := Lib.hid (Row64.refl hH hN)
 clear hH
 have hT0 : Sort.partEqLoop Sort.ltInt a (a + 1) (b - 1) (Sort.swp d a pv) = Sort.partitionEqual Sort.ltInt d a b pv := rfl
 generalize Sort.partitionEqual Sort.ltInt d a b pv = T at *
 have ha1 : IntKind.i64.wrap ((a : Int) + 1) = (a : Int) + 1 := IntWalk.i64_in _ (by omega)
 have hb1 : IntKind.i64.wrap ((b : Int) - 1) = (b : Int) - 1 := IntWalk.i64_in _ (by omega)
 have haN : a < N ∧ pv < N := by omega
 obtain ⟨k0, fk0⟩ := hR0.out.hu.2 (a) (by have := hR0.out.sz; omega)
 obtain ⟨k1, fk1⟩ := hR0.out.hu.2 (pv) (by have := hR0.out.sz; omega)
 have dm := hR0.out.mid (i := a) (j := pv) (by have := hR0.out.sz; omega) (by have := hR0.out.sz; omega)
 have hR1 := Lib.hid (hR0.out.swap (i := a) (j := pv) (by have := hR0.out.sz; omega) (by have := hR0.out.sz; omega)).drew
 generalize d[a]! = X1 at *
 generalize d[pv]! = X2 at *
 clear hR0 hN
 generalize Sort.swp d a pv = d1 at *
 replace hT0 := Lib.hid hT0
 go_enter Tryz.func112, Tryz.ntmps112
 go_wp2_with fail
 go_region
 generalize ((w.setCell ⟨g, a, none⟩ (.int .u64 X2)).setCell ⟨g, pv, none⟩ (.int .u64 X1)).drew = w1 at *
 clear dm
 go_wp2_with fail
 go_loopw [9, 10] (fun s t wr => ∃ (i j : Nat) (dk : Array Int), a < i ∧ i ≤ j + 1 ∧ j < b ∧ s = .int .i64 i ∧ t = .int .i64 j ∧ Row64 w wr g N dk ∧ Sort.partEqLoop Sort.ltInt a i j dk = T) (fun s t _ => (intOf t + 1 - intOf s).toNat)
 case atStart => exact ⟨a + 1, b - 1, d1, by omega, by omega, by omega, congrArg (Value.int .i64) (by omega), congrArg (Value.int .i64) (by omega), hR1.out, hT0.out⟩
 case round =>
  obtain ⟨i, j, dk, hai, hij1, hjb, rfl, rfl, hR, heq⟩ := hrel
  obtain ⟨wo, rfl⟩ : ∃ wo, wo = wr := ⟨_, rfl⟩
  replace hR := Lib.hid hR
  replace heq := Lib.hid heq
  go_wp2_with fail
  go_loopw [9] (fun s wr => ∃ i2 : Nat, i ≤ i2 ∧ i2 ≤ j + 1 ∧ s = .int .i64 i2 ∧ Row64 w wr g N dk ∧ Sort.scanUp (fun x => !Sort.ltInt dk[a]! x) dk j i2 = Sort.scanUp (fun x => !Sort.ltInt dk[a]! x) dk j i) (fun s _ => j + 1 - (intOf s).toNat)
  case atStart => exact ⟨i, Nat.le_refl _, by omega, by first | rfl | exact congrArg (Value.int .i64) (by omega), hR.out, rfl⟩
  case round =>
   obtain ⟨i2, hi1, hi2, rfl, hRu, hsu⟩ := hrel
   clear hR
   rw [Sort.scanUp] at hsu
   have hwi : IntKind.i64.wrap ((i2 : Int) + 1) = (i2 : Int) + 1 := IntWalk.i64_in _ (by omega)
   by_cases hle : i2 ≤ j
   ·have hle' : (i2 : Int) ≤ (j : Int) := by omega
    obtain ⟨c0, fc0⟩ := hRu.hu.2 a (by have := hRu.sz; omega)
    obtain ⟨c1, fc1⟩ := hRu.hu.2 i2 (by have := hRu.sz; omega)
    have hgl := hRu.hu.1
    have hiN : i2 < N ∧ a < N := by omega
    obtain ⟨x, hx⟩ : ∃ x, dk[i2]! = x := ⟨_, rfl⟩
    obtain ⟨y, hy⟩ : ∃ y, dk[a]! = y := ⟨_, rfl⟩
    rw [hx] at c1
    rw [hy] at c0
    obtain ⟨q, hq⟩ : ∃ q, Sort.ltInt y x = q := ⟨_, rfl⟩
    have eC : q = false → Sort.scanUp (fun x => !Sort.ltInt dk[a]! x) dk j (i2 + 1) = Sort.scanUp (fun x => !Sort.ltInt dk[a]! x) dk j i := fun h => by rw [h] at hq; simpa [hle, hx, hy, hq] using hsu
    have eE : q = true → Sort.scanUp (fun x => !Sort.ltInt dk[a]! x) dk j i = i2 := fun h => by rw [h] at hq; simpa [hle, hx, hy, hq] using hsu.symm
    replace hq := Lib.hid hq
    replace eC := Lib.hid eC
    replace eE := Lib.hid eE
    have hUq : Sort.ltInt dk[a]! dk[i2]! = q := by rw [hx, hy]; exact hq.out
    replace hUq := Lib.hid hUq
    replace hRu := Lib.hid hRu
    clear hsu hx hy
    go_wp2_with fail
    refine region_later wr.heap.size wr (Below.refl _ _) (by kernel_rfl) (by kernel_rfl) ?_
    have zc1 := later_cell (B := wr.heap.size) c1 hgl
    have zc0 := later_cell (B := wr.heap.size) c0 hgl
    repeat (first | go_big_quiet_step (fail) | quiet_step ((go_at_call 111; exact quiet_later (Nat.le_refl _) (less64_q hq _))))
    refine wpQuiet_nil ?_
    first | (rintro _ ⟨X, rfl⟩) | (intro X)
    have hX := X.h
    have hR3 := hRu.out.later hX
    have hgl3 := hR3.hu.1
    have c13 := (hX.cell (p := ⟨g, i2, none⟩) hgl).trans c1
    have fc13 := (hX.frozen (p := ⟨g, i2, none⟩) hgl).trans fc1
    have c03 := (hX.cell (p := ⟨g, a, none⟩) hgl).trans c0
    have fc03 := (hX.frozen (p := ⟨g, a, none⟩) hgl).trans fc0
    clear zc1 c1 fc1 zc0 c0 fc0
    generalize X.x = w3 at *
    replace hR3 := Lib.hid hR3
    clear hX
    cases q
    ·have e := eC.out rfl
     clear eC eE c13 c03 fc13 fc03
     replace e := Lib.hid e
     try simp only [Bool.not_false]
     go_wp2_with fail
     exact ⟨⟨i2 + 1, by omega, by omega, rfl, hR3.out, e.out⟩, by simp [intOf]; omega⟩
    ·have hSU := Lib.hid (eE.out rfl)
     clear eC eE c13 c03 fc13 fc03
     try simp only [Bool.not_true]
     go_wp2_with fail
     go_loopw [10] (fun s wr => ∃ j2 : Nat, j2 ≤ j ∧ i2 ≤ j2 + 1 ∧ s = .int .i64 j2 ∧ Row64 w wr g N dk ∧ Sort.scanDown (fun x => Sort.ltInt dk[a]! x) dk i2 j2 = Sort.scanDown (fun x => Sort.ltInt dk[a]! x) dk i2 j) (fun s _ => (intOf s).toNat)
     case atStart => exact ⟨j, Nat.le_refl _, by omega, by first | rfl | exact congrArg (Value.int .i64) (by omega), hR3.out, rfl⟩
     case round =>
      obtain ⟨j2, hj1, hj2, rfl, hRd, hsd⟩ := hrel
      clear hR3
      by_cases hle2 : i2 ≤ j2
      ·have hle2' : (i2 : Int) ≤ (j2 : Int) := by omega
       obtain ⟨m, hm⟩ : ∃ m, j2 = m + 1 := ⟨j2 - 1, by omega⟩
       have hwj : IntKind.i64.wrap ((j2 : Int) - 1) = (m : Int) := by rw [show (j2 : Int) - 1 = (m : Int) by omega]; exact IntWalk.i64_in _ (by omega)
       obtain ⟨c0, fc0⟩ := hRd.hu.2 a (by have := hRd.sz; omega)
       obtain ⟨c1, fc1⟩ := hRd.hu.2 j2 (by have := hRd.sz; omega)
       have hgl := hRd.hu.1
       have hjN : j2 < N ∧ a < N := by omega
       obtain ⟨x, hx⟩ : ∃ x, dk[j2]! = x := ⟨_, rfl⟩
       obtain ⟨y, hy⟩ : ∃ y, dk[a]! = y := ⟨_, rfl⟩
       rw [hx] at c1
       rw [hy] at c0
       obtain ⟨q, hq⟩ : ∃ q, Sort.ltInt y x = q := ⟨_, rfl⟩
       have eC : q = true → Sort.scanDown (fun x => Sort.ltInt dk[a]! x) dk i2 m = Sort.scanDown (fun x => Sort.ltInt dk[a]! x) dk i2 j := fun h => by
        rw [h] at hq
        rw [hm, Sort.scanDown, ← hm] at hsd
        simpa [hle2, hx, hy, hq] using hsd
       have eE : q = false → Sort.scanDown (fun x => Sort.ltInt dk[a]! x) dk i2 j = j2 := fun h => by
        rw [h] at hq
        rw [hm, Sort.scanDown, ← hm] at hsd
        simpa [hle2, hx, hy, hq] using hsd.symm
       replace hq := Lib.hid hq
       replace eC := Lib.hid eC
       replace eE := Lib.hid eE
       have hDq : Sort.ltInt dk[a]! dk[j2]! = q := by rw [hx, hy]; exact hq.out
       replace hDq := Lib.hid hDq
       replace hRd := Lib.hid hRd
       replace hm := Lib.hid hm
       clear hsd hx hy
       go_wp2_with fail
       refine region_later wr.heap.size wr (Below.refl _ _) (by kernel_rfl) (by kernel_rfl) ?_
       have zc1 := later_cell (B := wr.heap.size) c1 hgl
       have zc0 := later_cell (B := wr.heap.size) c0 hgl
       repeat (first | go_big_quiet_step (fail) | quiet_step ((go_at_call 111; exact quiet_later (Nat.le_refl _) (less64_q hq _))))
       refine wpQuiet_nil ?_
       first | (rintro _ ⟨X, rfl⟩) | (intro X)
       have hX := X.h
       have hR4 := hRd.out.later hX
       have hgl3 := hR4.hu.1
       have c13 := (hX.cell (p := ⟨g, j2, none⟩) hgl).trans c1
       have fc13 := (hX.frozen (p := ⟨g, j2, none⟩) hgl).trans fc1
       have c03 := (hX.cell (p := ⟨g, a, none⟩) hgl).trans c0
       have fc03 := (hX.frozen (p := ⟨g, a, none⟩) hgl).trans fc0
       clear zc1 c1 fc1 zc0 c0 fc0
       generalize X.x = w4 at *
       replace hR4 := Lib.hid hR4
       clear hX
       cases q
       ·have hSD := Lib.hid (eE.out rfl)
        clear eC eE c13 c03 fc13 fc03
        try simp only [Bool.not_false, Bool.not_true]
        have hne : i2 ≠ j2 := fun h => by have h1 := hUq.out; have h2 := hDq.out; rw [h, h2] at h1; cases h1
        have e := heq.out
        rw [Sort.partEqLoop_eq, hSU.out, hSD.out, if_neg (by omega)] at e
        have hgt : ¬ (j2 : Int) < (i2 : Int) := by omega
        have hwi2 : IntKind.i64.wrap ((i2 : Int) + 1) = (i2 : Int) + 1 := IntWalk.i64_in _ (by omega)
        have hwj2 : IntKind.i64.wrap ((j2 : Int) - 1) = (j2 : Int) - 1 := IntWalk.i64_in _ (by omega)
        have hjN : j2 < N ∧ i2 < N := by omega
        replace e := Lib.hid e
        clear heq hSU hSD hUq hDq
        obtain ⟨k0, fk0⟩ := hR4.out.hu.2 (i2) (by have := hR4.out.sz; omega)
        obtain ⟨k1, fk1⟩ := hR4.out.hu.2 (j2) (by have := hR4.out.sz; omega)
        have dm := hR4.out.mid (i := i2) (j := j2) (by have := hR4.out.sz; omega) (by have := hR4.out.sz; omega)
        have hR9 := Lib.hid (hR4.out.swap (i := i2) (j := j2) (by have := hR4.out.sz; omega) (by have := hR4.out.sz; omega)).drew
        generalize dk[i2]! = X1 at *
        generalize dk[j2]! = X2 at *
        go_wp2_with fail
        go_region
        all_goals go_wp2_with fail
        exact ⟨⟨i2 + 1, j2 - 1, _, by omega, by omega, by omega, rfl, congrArg (Value.int .i64) (by omega), hR9.out, e.out⟩, by simp [intOf]; omega⟩
       ·have e := Lib.hid (eC.out rfl)
        have hmo := hm.out
        clear eC eE c13 c03 fc13 fc03
        try simp only [Bool.not_false, Bool.not_true]
        replace hmo := Lib.hid hmo
        go_wp2_with fail
        exact ⟨⟨m, by have := hmo.out; omega, by have := hmo.out; omega, rfl, hR4.out, e.out⟩, by have := hmo.out; simp [intOf]; omega⟩
      ·have hle2' : ¬ (i2 : Int) ≤ (j2 : Int) := by omega
       have hSD : Sort.scanDown (fun x => Sort.ltInt dk[a]! x) dk i2 j = j2 := by
        rw [← hsd]
        cases j2 with
        | zero => rfl
        | succ m => rw [Sort.scanDown, if_neg (by simp; omega)]
       replace hSD := Lib.hid hSD
       replace hRd := Lib.hid hRd
       clear hsd
       go_wp2_with fail
       try replace hle2' : ¬ (i2 : Int) ≤ (j2 : Int) := by omega
       refine region_later wr.heap.size wr (Below.refl _ _) (by kernel_rfl) (by kernel_rfl) ?_
       repeat (go_big_quiet_step (fail))
       refine wpQuiet_nil ?_
       first | (rintro _ ⟨X, rfl⟩) | (intro X)
       have hX := X.h
       have hR4 := hRd.out.later hX
       have hgl3 := hR4.hu.1
       generalize X.x = w4 at *
       replace hR4 := Lib.hid hR4
       clear hX
       have e := heq.out
       rw [Sort.partEqLoop_eq, hSU.out, hSD.out, if_pos (by omega)] at e
       have hgt : (j2 : Int) < (i2 : Int) := by omega
       replace e := Lib.hid e
       clear heq hSU hSD
       go_wp2_with fail
       go_ret
       exact ⟨by rw [← e.out]; rfl, by rw [← e.out]; exact hR4.out, by rw [← e.out]; show a < i2 ∧ i2 ≤ b; omega⟩
   ·have hle' : ¬ (i2 : Int) ≤ (j : Int) := by omega
    rw [if_neg (by simp [hle])] at hsu
    have hSU := Lib.hid hsu.symm
    have hij : i2 = j + 1 := by omega
    replace hij := Lib.hid hij
    replace hRu := Lib.hid hRu
    clear hsu
    go_wp2_with fail
    try replace hle' : ¬ (i2 : Int) ≤ (j : Int) := by omega
    refine region_later wr.heap.size wr (Below.refl _ _) (by kernel_rfl) (by kernel_rfl) ?_
    repeat (go_big_quiet_step (fail))
    refine wpQuiet_nil ?_
    first | (rintro _ ⟨X, rfl⟩) | (intro X)
    have hX := X.h
    have hR3 := hRu.out.later hX
    have hgl3 := hR3.hu.1
    generalize X.x = w3 at *
    replace hR3 := Lib.hid hR3
    clear hX
    go_wp2_with fail
    go_loopw [10] (fun s wr => ∃ j2 : Nat, j2 ≤ j ∧ i2 ≤ j2 + 1 ∧ s = .int .i64 j2 ∧ Row64 w wr g N dk ∧ Sort.scanDown (fun x => Sort.ltInt dk[a]! x) dk i2 j2 = Sort.scanDown (fun x => Sort.ltInt dk[a]! x) dk i2 j) (fun s _ => (intOf s).toNat)
    case atStart => exact ⟨j, Nat.le_refl _, by omega, by first | rfl | exact congrArg (Value.int .i64) (by omega), hR3.out, rfl⟩
    case round =>
     obtain ⟨j2, hj1, hj2, rfl, hRd, hsd⟩ := hrel
     clear hR3
     by_cases hle2 : i2 ≤ j2
     ·have hle2' : (i2 : Int) ≤ (j2 : Int) := by omega
      obtain ⟨m, hm⟩ : ∃ m, j2 = m + 1 := ⟨j2 - 1, by omega⟩
      have hwj : IntKind.i64.wrap ((j2 : Int) - 1) = (m : Int) := by rw [show (j2 : Int) - 1 = (m : Int) by omega]; exact IntWalk.i64_in _ (by omega)
      obtain ⟨c0, fc0⟩ := hRd.hu.2 a (by have := hRd.sz; omega)
      obtain ⟨c1, fc1⟩ := hRd.hu.2 j2 (by have := hRd.sz; omega)
      have hgl := hRd.hu.1
      have hjN : j2 < N ∧ a < N := by omega
      obtain ⟨x, hx⟩ : ∃ x, dk[j2]! = x := ⟨_, rfl⟩
      obtain ⟨y, hy⟩ : ∃ y, dk[a]! = y := ⟨_, rfl⟩
      rw [hx] at c1
      rw [hy] at c0
      obtain ⟨q, hq⟩ : ∃ q, Sort.ltInt y x = q := ⟨_, rfl⟩
      have eC : q = true → Sort.scanDown (fun x => Sort.ltInt dk[a]! x) dk i2 m = Sort.scanDown (fun x => Sort.ltInt dk[a]! x) dk i2 j := fun h => by
       rw [h] at hq
       rw [hm, Sort.scanDown, ← hm] at hsd
       simpa [hle2, hx, hy, hq] using hsd
      have eE : q = false → Sort.scanDown (fun x => Sort.ltInt dk[a]! x) dk i2 j = j2 := fun h => by
       rw [h] at hq
       rw [hm, Sort.scanDown, ← hm] at hsd
       simpa [hle2, hx, hy, hq] using hsd.symm
      replace hq := Lib.hid hq
      replace eC := Lib.hid eC
      replace eE := Lib.hid eE
      have hDq : Sort.ltInt dk[a]! dk[j2]! = q := by rw [hx, hy]; exact hq.out
      replace hDq := Lib.hid hDq
      replace hRd := Lib.hid hRd
      replace hm := Lib.hid hm
      clear hsd hx hy
      go_wp2_with fail
      refine region_later wr.heap.size wr (Below.refl _ _) (by kernel_rfl) (by kernel_rfl) ?_
      have zc1 := later_cell (B := wr.heap.size) c1 hgl
      have zc0 := later_cell (B := wr.heap.size) c0 hgl
      repeat (first | go_big_quiet_step (fail) | quiet_step ((go_at_call 111; exact quiet_later (Nat.le_refl _) (less64_q hq _))))
      refine wpQuiet_nil ?_
      first | (rintro _ ⟨X, rfl⟩) | (intro X)
      have hX := X.h
      have hR4 := hRd.out.later hX
      have hgl3 := hR4.hu.1
      have c13 := (hX.cell (p := ⟨g, j2, none⟩) hgl).trans c1
      have fc13 := (hX.frozen (p := ⟨g, j2, none⟩) hgl).trans fc1
      have c03 := (hX.cell (p := ⟨g, a, none⟩) hgl).trans c0
      have fc03 := (hX.frozen (p := ⟨g, a, none⟩) hgl).trans fc0
      clear zc1 c1 fc1 zc0 c0 fc0
      generalize X.x = w4 at *
      replace hR4 := Lib.hid hR4
      clear hX
      cases q
      ·have hSD := Lib.hid (eE.out rfl)
       clear eC eE c13 c03 fc13 fc03
       try simp only [Bool.not_false, Bool.not_true]
       exfalso
       have := hij.out
       omega
      ·have e := Lib.hid (eC.out rfl)
       have hmo := hm.out
       clear eC eE c13 c03 fc13 fc03
       try simp only [Bool.not_false, Bool.not_true]
       replace hmo := Lib.hid hmo
       go_wp2_with fail
       exact ⟨⟨m, by have := hmo.out; omega, by have := hmo.out; omega, rfl, hR4.out, e.out⟩, by have := hmo.out; simp [intOf]; omega⟩
     ·have hle2' : ¬ (i2 : Int) ≤ (j2 : Int) := by omega
      have hSD : Sort.scanDown (fun x => Sort.ltInt dk[a]! x) dk i2 j = j2 := by
       rw [← hsd]
       cases j2 with
       | zero => rfl
       | succ m => rw [Sort.scanDown, if_neg (by simp; omega)]
      replace hSD := Lib.hid hSD
      replace hRd := Lib.hid hRd
      clear hsd
      go_wp2_with fail
      try replace hle2' : ¬ (i2 : Int) ≤ (j2 : Int) := by omega
      refine region_later wr.heap.size wr (Below.refl _ _) (by kernel_rfl) (by kernel_rfl) ?_
      repeat (go_big_quiet_step (fail))
      refine wpQuiet_nil ?_
      first | (rintro _ ⟨X, rfl⟩) | (intro X)
      have hX := X.h
      have hR4 := hRd.out.later hX
      have hgl3 := hR4.hu.1
      generalize X.x = w4 at *
      replace hR4 := Lib.hid hR4
      clear hX
      have e := heq.out
      rw [Sort.partEqLoop_eq, hSU.out, hSD.out, if_pos (by omega)] at e
      have hgt : (j2 : Int) < (i2 : Int) := by omega
      replace e := Lib.hid e
      clear heq hSU hSD
      go_wp2_with fail
      go_ret
      exact ⟨by rw [← e.out]; rfl, by rw [← e.out]; exact hR4.out, by rw [← e.out]; show a < i2 ∧ i2 ≤ b; omega⟩
end Go.Proofs.YtiblhlaemmdphaaGreat
/- Sorting rows of words: partition. -/
namespace Go.Proofs.YtiblhlaemmdphaaGreat
open Go Go.RowKit Go.Shelf Go.BigFrame Go.Maps
set_option maxRecDepth 20000 in
set_option maxHeartbeats 16000000 in
theorem partn64_any (g cap a b pv N : Nat) (d : Array Int) (hN : d.size = N) (w : World) (hH : HU w g d) (hap : a ≤ pv) (hpb : pv < b) (hb : b ≤ N) (hN62 : N < 1152921504606846976) :
  Calls Tryz.prog 113 #[.slice (some ⟨g, 0, none⟩) N cap, .int .i64 a, .int .i64 b, .int .i64 pv] w fun e w' => e = .returned (.tuple #[.int .i64 (Sort.partition Sort.ltInt d a b pv).1, .bool (Sort.partition Sort.ltInt d a b pv).2.1]) ∧ Row64 w w' g N (Sort.partition Sort.ltInt d a b pv).2.2 ∧ a ≤ (Sort.partition Sort.ltInt d a b pv).1 ∧ (Sort.partition Sort.ltInt d a b pv).1 < b := by
 have hR0 := Lib.hid (Row64.refl hH hN)
 clear hH
 have hT0 : (if Sort.scanUp (fun x => Sort.ltInt x (Sort.swp d a pv)[a]!) (Sort.swp d a pv) (b - 1) (a + 1) > Sort.scanDown (fun x => !Sort.ltInt x (Sort.swp d a pv)[a]!) (Sort.swp d a pv) (Sort.scanUp (fun x => Sort.ltInt x (Sort.swp d a pv)[a]!) (Sort.swp d a pv) (b - 1) (a + 1)) (b - 1) then (Sort.scanDown (fun x => !Sort.ltInt x (Sort.swp d a pv)[a]!) (Sort.swp d a pv) (Sort.scanUp (fun x => Sort.ltInt x (Sort.swp d a pv)[a]!) (Sort.swp d a pv) (b - 1) (a + 1)) (b - 1), true, Sort.swp (Sort.swp d a pv) (Sort.scanDown (fun x => !Sort.ltInt x (Sort.swp d a pv)[a]!) (Sort.swp d a pv) (Sort.scanUp (fun x => Sort.ltInt x (Sort.swp d a pv)[a]!) (Sort.swp d a pv) (b - 1) (a + 1)) (b - 1)) a) else ((Sort.partLoop Sort.ltInt a (Sort.scanUp (fun x => Sort.ltInt x (Sort.swp d a pv)[a]!) (Sort.swp d a pv) (b - 1) (a + 1) + 1) (Sort.scanDown (fun x => !Sort.ltInt x (Sort.swp d a pv)[a]!) (Sort.swp d a pv) (Sort.scanUp (fun x => Sort.ltInt x (Sort.swp d a pv)[a]!) (Sort.swp d a pv) (b - 1) (a + 1)) (b - 1) - 1) (Sort.swp (Sort.swp d a pv) (Sort.scanUp (fun x => Sort.ltInt x (Sort.swp d a pv)[a]!) (Sort.swp d a pv) (b - 1) (a + 1)) (Sort.scanDown (fun x => !Sort.ltInt x (Sort.swp d a pv)[a]!) (Sort.swp d a pv) (Sort.scanUp (fun x => Sort.ltInt x (Sort.swp d a pv)[a]!) (Sort.swp d a pv) (b - 1) (a + 1)) (b - 1)))).1, false, Sort.swp (Sort.partLoop Sort.ltInt a (Sort.scanUp (fun x => Sort.ltInt x (Sort.swp d a pv)[a]!) (Sort.swp d a pv) (b - 1) (a + 1) + 1) (Sort.scanDown (fun x => !Sort.ltInt x (Sort.swp d a pv)[a]!) (Sort.swp d a pv) (Sort.scanUp (fun x => Sort.ltInt x (Sort.swp d a pv)[a]!) (Sort.swp d a pv) (b - 1) (a + 1)) (b - 1) - 1) (Sort.swp (Sort.swp d a pv) (Sort.scanUp (fun x => Sort.ltInt x (Sort.swp d a pv)[a]!) (Sort.swp d a pv) (b - 1) (a + 1)) (Sort.scanDown (fun x => !Sort.ltInt x (Sort.swp d a pv)[a]!) (Sort.swp d a pv) (Sort.scanUp (fun x => Sort.ltInt x (Sort.swp d a pv)[a]!) (Sort.swp d a pv) (b - 1) (a + 1)) (b - 1)))).2 (Sort.partLoop Sort.ltInt a (Sort.scanUp (fun x => Sort.ltInt x (Sort.swp d a pv)[a]!) (Sort.swp d a pv) (b - 1) (a + 1) + 1) (Sort.scanDown (fun x => !Sort.ltInt x (Sort.swp d a pv)[a]!) (Sort.swp d a pv) (Sort.scanUp (fun x => Sort.ltInt x (Sort.swp d a pv)[a]!) (Sort.swp d a pv) (b - 1) (a + 1)) (b - 1) - 1) (Sort.swp (Sort.swp d a pv) (Sort.scanUp (fun x => Sort.ltInt x (Sort.swp d a pv)[a]!) (Sort.swp d a pv) (b - 1) (a + 1)) (Sort.scanDown (fun x => !Sort.ltInt x (Sort.swp d a pv)[a]!) (Sort.swp d a pv) (Sort.scanUp (fun x => Sort.ltInt x (Sort.swp d a pv)[a]!) (Sort.swp d a pv) (b - 1) (a + 1)) (b - 1)))).1 a)) = Sort.partition Sort.ltInt d a b pv := rfl
 generalize Sort.partition Sort.ltInt d a b pv = P at *
 have ha1 : IntKind.i64.wrap ((a : Int) + 1) = (a : Int) + 1 := IntWalk.i64_in _ (by omega)
 have hb1 : IntKind.i64.wrap ((b : Int) - 1) = (b : Int) - 1 := IntWalk.i64_in _ (by omega)
 have haN : a < N ∧ pv < N := by omega
 obtain ⟨k0, fk0⟩ := hR0.out.hu.2 (a) (by have := hR0.out.sz; omega)
 obtain ⟨k1, fk1⟩ := hR0.out.hu.2 (pv) (by have := hR0.out.sz; omega)
 have dm := hR0.out.mid (i := a) (j := pv) (by have := hR0.out.sz; omega) (by have := hR0.out.sz; omega)
 have hR1 := Lib.hid (hR0.out.swap (i := a) (j := pv) (by have := hR0.out.sz; omega) (by have := hR0.out.sz; omega)).drew
 generalize d[a]! = X1 at *
 generalize d[pv]! = X2 at *
 clear hR0 hN
 generalize Sort.swp d a pv = d1 at *
 replace hT0 := Lib.hid hT0
 go_enter Tryz.func113, Tryz.ntmps113
 go_wp2_with fail
 go_region
 generalize ((w.setCell ⟨g, a, none⟩ (.int .u64 X2)).setCell ⟨g, pv, none⟩ (.int .u64 X1)).drew = w1 at *
 clear dm
 obtain ⟨b1, hb2⟩ : ∃ b1, b - 1 = b1 := ⟨_, rfl⟩
 have hb3 : (b : Int) - 1 = (b1 : Int) := by omega
 obtain ⟨a1, ha2⟩ : ∃ a1, a + 1 = a1 := ⟨_, rfl⟩
 have ha3 : (a : Int) + 1 = (a1 : Int) := by omega
 rw [hb2, ha2] at hT0
 rw [ha3] at ha1
 rw [hb3] at hb1
 have hbd : a < a1 ∧ a1 ≤ b1 + 1 ∧ b1 < b := by omega
 clear hb2 ha2
 go_wp2_with fail
 go_loopw [10] (fun s wr => ∃ i2 : Nat, a1 ≤ i2 ∧ i2 ≤ b1 + 1 ∧ s = .int .i64 i2 ∧ Row64 w wr g N d1 ∧ Sort.scanUp (fun x => Sort.ltInt x d1[a]!) d1 b1 i2 = Sort.scanUp (fun x => Sort.ltInt x d1[a]!) d1 b1 a1) (fun s _ => b1 + 1 - (intOf s).toNat)
 case atStart => exact ⟨a1, Nat.le_refl _, by omega, by first | rfl | exact congrArg (Value.int .i64) (by omega), hR1.out, rfl⟩
 case round =>
  obtain ⟨i2, hi1, hi2, rfl, hRu, hsu⟩ := hrel
  clear hR1
  rw [Sort.scanUp] at hsu
  have hwi : IntKind.i64.wrap ((i2 : Int) + 1) = (i2 : Int) + 1 := IntWalk.i64_in _ (by omega)
  by_cases hle : i2 ≤ b1
  ·have hle' : (i2 : Int) ≤ (b1 : Int) := by omega
   obtain ⟨c0, fc0⟩ := hRu.hu.2 a (by have := hRu.sz; omega)
   obtain ⟨c1, fc1⟩ := hRu.hu.2 i2 (by have := hRu.sz; omega)
   have hgl := hRu.hu.1
   have hiN : i2 < N ∧ a < N := by omega
   obtain ⟨x, hx⟩ : ∃ x, d1[i2]! = x := ⟨_, rfl⟩
   obtain ⟨y, hy⟩ : ∃ y, d1[a]! = y := ⟨_, rfl⟩
   rw [hx] at c1
   rw [hy] at c0
   obtain ⟨q, hq⟩ : ∃ q, Sort.ltInt x y = q := ⟨_, rfl⟩
   have eC : q = true → Sort.scanUp (fun x => Sort.ltInt x d1[a]!) d1 b1 (i2 + 1) = Sort.scanUp (fun x => Sort.ltInt x d1[a]!) d1 b1 a1 := fun h => by rw [h] at hq; simpa [hle, hx, hy, hq] using hsu
   have eE : q = false → Sort.scanUp (fun x => Sort.ltInt x d1[a]!) d1 b1 a1 = i2 := fun h => by rw [h] at hq; simpa [hle, hx, hy, hq] using hsu.symm
   replace hq := Lib.hid hq
   replace eC := Lib.hid eC
   replace eE := Lib.hid eE
   have hUq : Sort.ltInt d1[i2]! d1[a]! = q := by rw [hx, hy]; exact hq.out
   replace hUq := Lib.hid hUq
   replace hRu := Lib.hid hRu
   clear hsu hx hy
   go_wp2_with fail
   refine region_later wr.heap.size wr (Below.refl _ _) (by kernel_rfl) (by kernel_rfl) ?_
   have zc1 := later_cell (B := wr.heap.size) c1 hgl
   have zc0 := later_cell (B := wr.heap.size) c0 hgl
   repeat (first | go_big_quiet_step (fail) | quiet_step ((go_at_call 111; exact quiet_later (Nat.le_refl _) (less64_q hq _))))
   refine wpQuiet_nil ?_
   first | (rintro _ ⟨X, rfl⟩) | (intro X)
   have hX := X.h
   have hR3 := hRu.out.later hX
   have hgl3 := hR3.hu.1
   have c13 := (hX.cell (p := ⟨g, i2, none⟩) hgl).trans c1
   have fc13 := (hX.frozen (p := ⟨g, i2, none⟩) hgl).trans fc1
   have c03 := (hX.cell (p := ⟨g, a, none⟩) hgl).trans c0
   have fc03 := (hX.frozen (p := ⟨g, a, none⟩) hgl).trans fc0
   clear zc1 c1 fc1 zc0 c0 fc0
   generalize X.x = w3 at *
   replace hR3 := Lib.hid hR3
   clear hX
   cases q
   ·have hSU := Lib.hid (eE.out rfl)
    clear eC eE c13 c03 fc13 fc03
    try simp only [Bool.not_false, Bool.not_true]
    go_wp2_with fail
    go_loopw [11] (fun s wr => ∃ j2 : Nat, j2 ≤ b1 ∧ i2 ≤ j2 + 1 ∧ s = .int .i64 j2 ∧ Row64 w wr g N d1 ∧ Sort.scanDown (fun x => !Sort.ltInt x d1[a]!) d1 i2 j2 = Sort.scanDown (fun x => !Sort.ltInt x d1[a]!) d1 i2 b1) (fun s _ => (intOf s).toNat)
    case atStart => exact ⟨b1, Nat.le_refl _, by omega, by first | rfl | exact congrArg (Value.int .i64) (by omega), hR3.out, rfl⟩
    case round =>
     obtain ⟨j2, hj1, hj2, rfl, hRd, hsd⟩ := hrel
     clear hR3
     by_cases hle2 : i2 ≤ j2
     ·have hle2' : (i2 : Int) ≤ (j2 : Int) := by omega
      obtain ⟨m, hm⟩ : ∃ m, j2 = m + 1 := ⟨j2 - 1, by omega⟩
      have hwj : IntKind.i64.wrap ((j2 : Int) - 1) = (m : Int) := by rw [show (j2 : Int) - 1 = (m : Int) by omega]; exact IntWalk.i64_in _ (by omega)
      obtain ⟨c0, fc0⟩ := hRd.hu.2 a (by have := hRd.sz; omega)
      obtain ⟨c1, fc1⟩ := hRd.hu.2 j2 (by have := hRd.sz; omega)
      have hgl := hRd.hu.1
      have hjN : j2 < N ∧ a < N := by omega
      obtain ⟨x, hx⟩ : ∃ x, d1[j2]! = x := ⟨_, rfl⟩
      obtain ⟨y, hy⟩ : ∃ y, d1[a]! = y := ⟨_, rfl⟩
      rw [hx] at c1
      rw [hy] at c0
      obtain ⟨q, hq⟩ : ∃ q, Sort.ltInt x y = q := ⟨_, rfl⟩
      have eC : q = false → Sort.scanDown (fun x => !Sort.ltInt x d1[a]!) d1 i2 m = Sort.scanDown (fun x => !Sort.ltInt x d1[a]!) d1 i2 b1 := fun h => by
       rw [h] at hq
       rw [hm, Sort.scanDown, ← hm] at hsd
       simpa [hle2, hx, hy, hq] using hsd
      have eE : q = true → Sort.scanDown (fun x => !Sort.ltInt x d1[a]!) d1 i2 b1 = j2 := fun h => by
       rw [h] at hq
       rw [hm, Sort.scanDown, ← hm] at hsd
       simpa [hle2, hx, hy, hq] using hsd.symm
      replace hq := Lib.hid hq
      replace eC := Lib.hid eC
      replace eE := Lib.hid eE
      have hDq : Sort.ltInt d1[j2]! d1[a]! = q := by rw [hx, hy]; exact hq.out
      replace hDq := Lib.hid hDq
      replace hRd := Lib.hid hRd
      replace hm := Lib.hid hm
      clear hsd hx hy
      go_wp2_with fail
      refine region_later wr.heap.size wr (Below.refl _ _) (by kernel_rfl) (by kernel_rfl) ?_
      have zc1 := later_cell (B := wr.heap.size) c1 hgl
      have zc0 := later_cell (B := wr.heap.size) c0 hgl
      repeat (first | go_big_quiet_step (fail) | quiet_step ((go_at_call 111; exact quiet_later (Nat.le_refl _) (less64_q hq _))))
      refine wpQuiet_nil ?_
      first | (rintro _ ⟨X, rfl⟩) | (intro X)
      have hX := X.h
      have hR4 := hRd.out.later hX
      have hgl3 := hR4.hu.1
      have c13 := (hX.cell (p := ⟨g, j2, none⟩) hgl).trans c1
      have fc13 := (hX.frozen (p := ⟨g, j2, none⟩) hgl).trans fc1
      have c03 := (hX.cell (p := ⟨g, a, none⟩) hgl).trans c0
      have fc03 := (hX.frozen (p := ⟨g, a, none⟩) hgl).trans fc0
      clear zc1 c1 fc1 zc0 c0 fc0
      generalize X.x = w4 at *
      replace hR4 := Lib.hid hR4
      clear hX
      cases q
      ·have e := Lib.hid (eC.out rfl)
       have hmo := hm.out
       clear eC eE c13 c03 fc13 fc03
       try simp only [Bool.not_false]
       replace hmo := Lib.hid hmo
       go_wp2_with fail
       exact ⟨⟨m, by have := hmo.out; omega, by have := hmo.out; omega, rfl, hR4.out, e.out⟩, by have := hmo.out; simp [intOf]; omega⟩
      ·have hSD := Lib.hid (eE.out rfl)
       clear eC eE c13 c03 fc13 fc03
       try simp only [Bool.not_true]
       have hne : i2 ≠ j2 := fun h => by have h1 := hUq.out; have h2 := hDq.out; rw [h, h2] at h1; cases h1
       have e := hT0.out
       rw [hSU.out, hSD.out, if_neg (by omega)] at e
       have hgt : ¬ (j2 : Int) < (i2 : Int) := by omega
       have hwi2 : IntKind.i64.wrap ((i2 : Int) + 1) = (i2 : Int) + 1 := IntWalk.i64_in _ (by omega)
       have hwj2 : IntKind.i64.wrap ((j2 : Int) - 1) = (j2 : Int) - 1 := IntWalk.i64_in _ (by omega)
       have hjN : j2 < N ∧ i2 < N := by omega
       clear hT0 hSU hSD hUq hDq
       obtain ⟨k0, fk0⟩ := hR4.out.hu.2 (i2) (by have := hR4.out.sz; omega)
       obtain ⟨k1, fk1⟩ := hR4.out.hu.2 (j2) (by have := hR4.out.sz; omega)
       have dm := hR4.out.mid (i := i2) (j := j2) (by have := hR4.out.sz; omega) (by have := hR4.out.sz; omega)
       have hR9 := Lib.hid (hR4.out.swap (i := i2) (j := j2) (by have := hR4.out.sz; omega) (by have := hR4.out.sz; omega)).drew
       generalize d1[i2]! = X1 at *
       generalize d1[j2]! = X2 at *
       generalize Sort.swp d1 i2 j2 = d2 at *
       obtain ⟨T, hTT⟩ : ∃ T, Sort.partLoop Sort.ltInt a (i2 + 1) (j2 - 1) d2 = T := ⟨_, rfl⟩
       rw [hTT] at e
       have hT := Lib.hid e
       replace hTT := Lib.hid hTT
       clear e
       go_wp2_with fail
       go_region
       all_goals go_wp2_with fail
       go_loopw [10, 11] (fun s t wr => ∃ (i j : Nat) (dk : Array Int), a < i ∧ i ≤ j + 1 ∧ j < b ∧ s = .int .i64 i ∧ t = .int .i64 j ∧ Row64 w wr g N dk ∧ Sort.partLoop Sort.ltInt a i j dk = T) (fun s t _ => (intOf t + 1 - intOf s).toNat)
       case atStart => exact ⟨i2 + 1, j2 - 1, d2, by omega, by omega, by omega, congrArg (Value.int .i64) (by omega), congrArg (Value.int .i64) (by omega), hR9.out, hTT.out⟩
       case round =>
        obtain ⟨i, j, dk, hai, hij1, hjb, rfl, rfl, hR, heq⟩ := hrel
        obtain ⟨wo, rfl⟩ : ∃ wo, wo = wr := ⟨_, rfl⟩
        replace hR := Lib.hid hR
        replace heq := Lib.hid heq
        go_wp2_with fail
        go_loopw [10] (fun s wr => ∃ i2 : Nat, i ≤ i2 ∧ i2 ≤ j + 1 ∧ s = .int .i64 i2 ∧ Row64 w wr g N dk ∧ Sort.scanUp (fun x => Sort.ltInt x dk[a]!) dk j i2 = Sort.scanUp (fun x => Sort.ltInt x dk[a]!) dk j i) (fun s _ => j + 1 - (intOf s).toNat)
        case atStart => exact ⟨i, Nat.le_refl _, by omega, by first | rfl | exact congrArg (Value.int .i64) (by omega), hR.out, rfl⟩
        case round =>
         obtain ⟨i2, hi1, hi2, rfl, hRu, hsu⟩ := hrel
         clear hR
         rw [Sort.scanUp] at hsu
         have hwi : IntKind.i64.wrap ((i2 : Int) + 1) = (i2 : Int) + 1 := IntWalk.i64_in _ (by omega)
         by_cases hle : i2 ≤ j
         ·have hle' : (i2 : Int) ≤ (j : Int) := by omega
          obtain ⟨c0, fc0⟩ := hRu.hu.2 a (by have := hRu.sz; omega)
          obtain ⟨c1, fc1⟩ := hRu.hu.2 i2 (by have := hRu.sz; omega)
          have hgl := hRu.hu.1
          have hiN : i2 < N ∧ a < N := by omega
          obtain ⟨x, hx⟩ : ∃ x, dk[i2]! = x := ⟨_, rfl⟩
          obtain ⟨y, hy⟩ : ∃ y, dk[a]! = y := ⟨_, rfl⟩
          rw [hx] at c1
          rw [hy] at c0
          obtain ⟨q, hq⟩ : ∃ q, Sort.ltInt x y = q := ⟨_, rfl⟩
          have eC : q = true → Sort.scanUp (fun x => Sort.ltInt x dk[a]!) dk j (i2 + 1) = Sort.scanUp (fun x => Sort.ltInt x dk[a]!) dk j i := fun h => by rw [h] at hq; simpa [hle, hx, hy, hq] using hsu
          have eE : q = false → Sort.scanUp (fun x => Sort.ltInt x dk[a]!) dk j i = i2 := fun h => by rw [h] at hq; simpa [hle, hx, hy, hq] using hsu.symm
          replace hq := Lib.hid hq
          replace eC := Lib.hid eC
          replace eE := Lib.hid eE
          have hUq : Sort.ltInt dk[i2]! dk[a]! = q := by rw [hx, hy]; exact hq.out
          replace hUq := Lib.hid hUq
          replace hRu := Lib.hid hRu
          clear hsu hx hy
          go_wp2_with fail
          refine region_later wr.heap.size wr (Below.refl _ _) (by kernel_rfl) (by kernel_rfl) ?_
          have zc1 := later_cell (B := wr.heap.size) c1 hgl
          have zc0 := later_cell (B := wr.heap.size) c0 hgl
          repeat (first | go_big_quiet_step (fail) | quiet_step ((go_at_call 111; exact quiet_later (Nat.le_refl _) (less64_q hq _))))
          refine wpQuiet_nil ?_
          first | (rintro _ ⟨X, rfl⟩) | (intro X)
          have hX := X.h
          have hR3 := hRu.out.later hX
          have hgl3 := hR3.hu.1
          have c13 := (hX.cell (p := ⟨g, i2, none⟩) hgl).trans c1
          have fc13 := (hX.frozen (p := ⟨g, i2, none⟩) hgl).trans fc1
          have c03 := (hX.cell (p := ⟨g, a, none⟩) hgl).trans c0
          have fc03 := (hX.frozen (p := ⟨g, a, none⟩) hgl).trans fc0
          clear zc1 c1 fc1 zc0 c0 fc0
          generalize X.x = w3 at *
          replace hR3 := Lib.hid hR3
          clear hX
          cases q
          ·have hSU := Lib.hid (eE.out rfl)
           clear eC eE c13 c03 fc13 fc03
           try simp only [Bool.not_false, Bool.not_true]
           go_wp2_with fail
           go_loopw [11] (fun s wr => ∃ j2 : Nat, j2 ≤ j ∧ i2 ≤ j2 + 1 ∧ s = .int .i64 j2 ∧ Row64 w wr g N dk ∧ Sort.scanDown (fun x => !Sort.ltInt x dk[a]!) dk i2 j2 = Sort.scanDown (fun x => !Sort.ltInt x dk[a]!) dk i2 j) (fun s _ => (intOf s).toNat)
           case atStart => exact ⟨j, Nat.le_refl _, by omega, by first | rfl | exact congrArg (Value.int .i64) (by omega), hR3.out, rfl⟩
           case round =>
            obtain ⟨j2, hj1, hj2, rfl, hRd, hsd⟩ := hrel
            clear hR3
            by_cases hle2 : i2 ≤ j2
            ·have hle2' : (i2 : Int) ≤ (j2 : Int) := by omega
             obtain ⟨m, hm⟩ : ∃ m, j2 = m + 1 := ⟨j2 - 1, by omega⟩
             have hwj : IntKind.i64.wrap ((j2 : Int) - 1) = (m : Int) := by rw [show (j2 : Int) - 1 = (m : Int) by omega]; exact IntWalk.i64_in _ (by omega)
             obtain ⟨c0, fc0⟩ := hRd.hu.2 a (by have := hRd.sz; omega)
             obtain ⟨c1, fc1⟩ := hRd.hu.2 j2 (by have := hRd.sz; omega)
             have hgl := hRd.hu.1
             have hjN : j2 < N ∧ a < N := by omega
             obtain ⟨x, hx⟩ : ∃ x, dk[j2]! = x := ⟨_, rfl⟩
             obtain ⟨y, hy⟩ : ∃ y, dk[a]! = y := ⟨_, rfl⟩
             rw [hx] at c1
             rw [hy] at c0
             obtain ⟨q, hq⟩ : ∃ q, Sort.ltInt x y = q := ⟨_, rfl⟩
             have eC : q = false → Sort.scanDown (fun x => !Sort.ltInt x dk[a]!) dk i2 m = Sort.scanDown (fun x => !Sort.ltInt x dk[a]!) dk i2 j := fun h => by
              rw [h] at hq
              rw [hm, Sort.scanDown, ← hm] at hsd
              simpa [hle2, hx, hy, hq] using hsd
             have eE : q = true → Sort.scanDown (fun x => !Sort.ltInt x dk[a]!) dk i2 j = j2 := fun h => by
              rw [h] at hq
              rw [hm, Sort.scanDown, ← hm] at hsd
              simpa [hle2, hx, hy, hq] using hsd.symm
             replace hq := Lib.hid hq
             replace eC := Lib.hid eC
             replace eE := Lib.hid eE
             have hDq : Sort.ltInt dk[j2]! dk[a]! = q := by rw [hx, hy]; exact hq.out
             replace hDq := Lib.hid hDq
             replace hRd := Lib.hid hRd
             replace hm := Lib.hid hm
             clear hsd hx hy
             go_wp2_with fail
             refine region_later wr.heap.size wr (Below.refl _ _) (by kernel_rfl) (by kernel_rfl) ?_
             have zc1 := later_cell (B := wr.heap.size) c1 hgl
             have zc0 := later_cell (B := wr.heap.size) c0 hgl
             repeat (first | go_big_quiet_step (fail) | quiet_step ((go_at_call 111; exact quiet_later (Nat.le_refl _) (less64_q hq _))))
             refine wpQuiet_nil ?_
             first | (rintro _ ⟨X, rfl⟩) | (intro X)
             have hX := X.h
             have hR4 := hRd.out.later hX
             have hgl3 := hR4.hu.1
             have c13 := (hX.cell (p := ⟨g, j2, none⟩) hgl).trans c1
             have fc13 := (hX.frozen (p := ⟨g, j2, none⟩) hgl).trans fc1
             have c03 := (hX.cell (p := ⟨g, a, none⟩) hgl).trans c0
             have fc03 := (hX.frozen (p := ⟨g, a, none⟩) hgl).trans fc0
             clear zc1 c1 fc1 zc0 c0 fc0
             generalize X.x = w4 at *
             replace hR4 := Lib.hid hR4
             clear hX
             cases q
             ·have e := Lib.hid (eC.out rfl)
              have hmo := hm.out
              clear eC eE c13 c03 fc13 fc03
              try simp only [Bool.not_false]
              replace hmo := Lib.hid hmo
              go_wp2_with fail
              exact ⟨⟨m, by have := hmo.out; omega, by have := hmo.out; omega, rfl, hR4.out, e.out⟩, by have := hmo.out; simp [intOf]; omega⟩
             ·have hSD := Lib.hid (eE.out rfl)
              clear eC eE c13 c03 fc13 fc03
              try simp only [Bool.not_true]
              have hne : i2 ≠ j2 := fun h => by have h1 := hUq.out; have h2 := hDq.out; rw [h, h2] at h1; cases h1
              have e := heq.out
              rw [Sort.partLoop_eq, hSU.out, hSD.out, if_neg (by omega)] at e
              have hgt : ¬ (j2 : Int) < (i2 : Int) := by omega
              have hwi2 : IntKind.i64.wrap ((i2 : Int) + 1) = (i2 : Int) + 1 := IntWalk.i64_in _ (by omega)
              have hwj2 : IntKind.i64.wrap ((j2 : Int) - 1) = (j2 : Int) - 1 := IntWalk.i64_in _ (by omega)
              have hjN : j2 < N ∧ i2 < N := by omega
              replace e := Lib.hid e
              clear heq hSU hSD hUq hDq
              obtain ⟨k0, fk0⟩ := hR4.out.hu.2 (i2) (by have := hR4.out.sz; omega)
              obtain ⟨k1, fk1⟩ := hR4.out.hu.2 (j2) (by have := hR4.out.sz; omega)
              have dm := hR4.out.mid (i := i2) (j := j2) (by have := hR4.out.sz; omega) (by have := hR4.out.sz; omega)
              have hR9 := Lib.hid (hR4.out.swap (i := i2) (j := j2) (by have := hR4.out.sz; omega) (by have := hR4.out.sz; omega)).drew
              generalize dk[i2]! = X1 at *
              generalize dk[j2]! = X2 at *
              go_wp2_with fail
              go_region
              all_goals go_wp2_with fail
              exact ⟨⟨i2 + 1, j2 - 1, _, by omega, by omega, by omega, rfl, congrArg (Value.int .i64) (by omega), hR9.out, e.out⟩, by simp [intOf]; omega⟩
            ·have hle2' : ¬ (i2 : Int) ≤ (j2 : Int) := by omega
             have hSD : Sort.scanDown (fun x => !Sort.ltInt x dk[a]!) dk i2 j = j2 := by
              rw [← hsd]
              cases j2 with
              | zero => rfl
              | succ m => rw [Sort.scanDown, if_neg (by simp; omega)]
             replace hSD := Lib.hid hSD
             replace hRd := Lib.hid hRd
             clear hsd
             go_wp2_with fail
             try replace hle2' : ¬ (i2 : Int) ≤ (j2 : Int) := by omega
             refine region_later wr.heap.size wr (Below.refl _ _) (by kernel_rfl) (by kernel_rfl) ?_
             repeat (go_big_quiet_step (fail))
             refine wpQuiet_nil ?_
             first | (rintro _ ⟨X, rfl⟩) | (intro X)
             have hX := X.h
             have hR4 := hRd.out.later hX
             have hgl3 := hR4.hu.1
             generalize X.x = w4 at *
             replace hR4 := Lib.hid hR4
             clear hX
             have e := heq.out
             rw [Sort.partLoop_eq, hSU.out, hSD.out, if_pos (by omega)] at e
             have hgt : (j2 : Int) < (i2 : Int) := by omega
             have hjN : j2 < N ∧ a < N := by omega
             replace e := Lib.hid e
             clear heq hSU hSD
             obtain ⟨k0, fk0⟩ := hR4.out.hu.2 (j2) (by have := hR4.out.sz; omega)
             obtain ⟨k1, fk1⟩ := hR4.out.hu.2 (a) (by have := hR4.out.sz; omega)
             have dm := hR4.out.mid (i := j2) (j := a) (by have := hR4.out.sz; omega) (by have := hR4.out.sz; omega)
             have hR9 := Lib.hid (hR4.out.swap (i := j2) (j := a) (by have := hR4.out.sz; omega) (by have := hR4.out.sz; omega)).drew
             generalize dk[j2]! = X1 at *
             generalize dk[a]! = X2 at *
             go_wp2_with fail
             go_region
             all_goals go_wp2_with fail
             go_ret2
             exact ⟨by rw [← hT.out, ← e.out]; rfl, by rw [← hT.out, ← e.out]; exact hR9.out, by rw [← hT.out, ← e.out]; show a ≤ j2 ∧ j2 < b; omega⟩
          ·have e := eC.out rfl
           clear eC eE c13 c03 fc13 fc03
           replace e := Lib.hid e
           try simp only [Bool.not_false, Bool.not_true]
           go_wp2_with fail
           exact ⟨⟨i2 + 1, by omega, by omega, rfl, hR3.out, e.out⟩, by simp [intOf]; omega⟩
         ·have hle' : ¬ (i2 : Int) ≤ (j : Int) := by omega
          rw [if_neg (by simp [hle])] at hsu
          have hSU := Lib.hid hsu.symm
          have hij : i2 = j + 1 := by omega
          replace hij := Lib.hid hij
          replace hRu := Lib.hid hRu
          clear hsu
          go_wp2_with fail
          try replace hle' : ¬ (i2 : Int) ≤ (j : Int) := by omega
          refine region_later wr.heap.size wr (Below.refl _ _) (by kernel_rfl) (by kernel_rfl) ?_
          repeat (go_big_quiet_step (fail))
          refine wpQuiet_nil ?_
          first | (rintro _ ⟨X, rfl⟩) | (intro X)
          have hX := X.h
          have hR3 := hRu.out.later hX
          have hgl3 := hR3.hu.1
          generalize X.x = w3 at *
          replace hR3 := Lib.hid hR3
          clear hX
          go_wp2_with fail
          go_loopw [11] (fun s wr => ∃ j2 : Nat, j2 ≤ j ∧ i2 ≤ j2 + 1 ∧ s = .int .i64 j2 ∧ Row64 w wr g N dk ∧ Sort.scanDown (fun x => !Sort.ltInt x dk[a]!) dk i2 j2 = Sort.scanDown (fun x => !Sort.ltInt x dk[a]!) dk i2 j) (fun s _ => (intOf s).toNat)
          case atStart => exact ⟨j, Nat.le_refl _, by omega, by first | rfl | exact congrArg (Value.int .i64) (by omega), hR3.out, rfl⟩
          case round =>
           obtain ⟨j2, hj1, hj2, rfl, hRd, hsd⟩ := hrel
           clear hR3
           by_cases hle2 : i2 ≤ j2
           ·have hle2' : (i2 : Int) ≤ (j2 : Int) := by omega
            obtain ⟨m, hm⟩ : ∃ m, j2 = m + 1 := ⟨j2 - 1, by omega⟩
            have hwj : IntKind.i64.wrap ((j2 : Int) - 1) = (m : Int) := by rw [show (j2 : Int) - 1 = (m : Int) by omega]; exact IntWalk.i64_in _ (by omega)
            obtain ⟨c0, fc0⟩ := hRd.hu.2 a (by have := hRd.sz; omega)
            obtain ⟨c1, fc1⟩ := hRd.hu.2 j2 (by have := hRd.sz; omega)
            have hgl := hRd.hu.1
            have hjN : j2 < N ∧ a < N := by omega
            obtain ⟨x, hx⟩ : ∃ x, dk[j2]! = x := ⟨_, rfl⟩
            obtain ⟨y, hy⟩ : ∃ y, dk[a]! = y := ⟨_, rfl⟩
            rw [hx] at c1
            rw [hy] at c0
            obtain ⟨q, hq⟩ : ∃ q, Sort.ltInt x y = q := ⟨_, rfl⟩
            have eC : q = false → Sort.scanDown (fun x => !Sort.ltInt x dk[a]!) dk i2 m = Sort.scanDown (fun x => !Sort.ltInt x dk[a]!) dk i2 j := fun h => by
             rw [h] at hq
             rw [hm, Sort.scanDown, ← hm] at hsd
             simpa [hle2, hx, hy, hq] using hsd
            have eE : q = true → Sort.scanDown (fun x => !Sort.ltInt x dk[a]!) dk i2 j = j2 := fun h => by
             rw [h] at hq
             rw [hm, Sort.scanDown, ← hm] at hsd
             simpa [hle2, hx, hy, hq] using hsd.symm
            replace hq := Lib.hid hq
            replace eC := Lib.hid eC
            replace eE := Lib.hid eE
            have hDq : Sort.ltInt dk[j2]! dk[a]! = q := by rw [hx, hy]; exact hq.out
            replace hDq := Lib.hid hDq
            replace hRd := Lib.hid hRd
            replace hm := Lib.hid hm
            clear hsd hx hy
            go_wp2_with fail
            refine region_later wr.heap.size wr (Below.refl _ _) (by kernel_rfl) (by kernel_rfl) ?_
            have zc1 := later_cell (B := wr.heap.size) c1 hgl
            have zc0 := later_cell (B := wr.heap.size) c0 hgl
            repeat (first | go_big_quiet_step (fail) | quiet_step ((go_at_call 111; exact quiet_later (Nat.le_refl _) (less64_q hq _))))
            refine wpQuiet_nil ?_
            first | (rintro _ ⟨X, rfl⟩) | (intro X)
            have hX := X.h
            have hR4 := hRd.out.later hX
            have hgl3 := hR4.hu.1
            have c13 := (hX.cell (p := ⟨g, j2, none⟩) hgl).trans c1
            have fc13 := (hX.frozen (p := ⟨g, j2, none⟩) hgl).trans fc1
            have c03 := (hX.cell (p := ⟨g, a, none⟩) hgl).trans c0
            have fc03 := (hX.frozen (p := ⟨g, a, none⟩) hgl).trans fc0
            clear zc1 c1 fc1 zc0 c0 fc0
            generalize X.x = w4 at *
            replace hR4 := Lib.hid hR4
            clear hX
            cases q
            ·have e := Lib.hid (eC.out rfl)
             have hmo := hm.out
             clear eC eE c13 c03 fc13 fc03
             try simp only [Bool.not_false]
             replace hmo := Lib.hid hmo
             go_wp2_with fail
             exact ⟨⟨m, by have := hmo.out; omega, by have := hmo.out; omega, rfl, hR4.out, e.out⟩, by have := hmo.out; simp [intOf]; omega⟩
            ·have hSD := Lib.hid (eE.out rfl)
             clear eC eE c13 c03 fc13 fc03
             try simp only [Bool.not_true]
             exfalso
             have := hij.out
             omega
           ·have hle2' : ¬ (i2 : Int) ≤ (j2 : Int) := by omega
            have hSD : Sort.scanDown (fun x => !Sort.ltInt x dk[a]!) dk i2 j = j2 := by
             rw [← hsd]
             cases j2 with
             | zero => rfl
             | succ m => rw [Sort.scanDown, if_neg (by simp; omega)]
            replace hSD := Lib.hid hSD
            replace hRd := Lib.hid hRd
            clear hsd
            go_wp2_with fail
            try replace hle2' : ¬ (i2 : Int) ≤ (j2 : Int) := by omega
            refine region_later wr.heap.size wr (Below.refl _ _) (by kernel_rfl) (by kernel_rfl) ?_
            repeat (go_big_quiet_step (fail))
            refine wpQuiet_nil ?_
            first | (rintro _ ⟨X, rfl⟩) | (intro X)
            have hX := X.h
            have hR4 := hRd.out.later hX
            have hgl3 := hR4.hu.1
            generalize X.x = w4 at *
            replace hR4 := Lib.hid hR4
            clear hX
            have e := heq.out
            rw [Sort.partLoop_eq, hSU.out, hSD.out, if_pos (by omega)] at e
            have hgt : (j2 : Int) < (i2 : Int) := by omega
            have hjN : j2 < N ∧ a < N := by omega
            replace e := Lib.hid e
            clear heq hSU hSD
            obtain ⟨k0, fk0⟩ := hR4.out.hu.2 (j2) (by have := hR4.out.sz; omega)
            obtain ⟨k1, fk1⟩ := hR4.out.hu.2 (a) (by have := hR4.out.sz; omega)
            have dm := hR4.out.mid (i := j2) (j := a) (by have := hR4.out.sz; omega) (by have := hR4.out.sz; omega)
            have hR9 := Lib.hid (hR4.out.swap (i := j2) (j := a) (by have := hR4.out.sz; omega) (by have := hR4.out.sz; omega)).drew
            generalize dk[j2]! = X1 at *
            generalize dk[a]! = X2 at *
            go_wp2_with fail
            go_region
            all_goals go_wp2_with fail
            go_ret2
            exact ⟨by rw [← hT.out, ← e.out]; rfl, by rw [← hT.out, ← e.out]; exact hR9.out, by rw [← hT.out, ← e.out]; show a ≤ j2 ∧ j2 < b; omega⟩
     ·have hle2' : ¬ (i2 : Int) ≤ (j2 : Int) := by omega
      have hSD : Sort.scanDown (fun x => !Sort.ltInt x d1[a]!) d1 i2 b1 = j2 := by
       rw [← hsd]
       cases j2 with
       | zero => rfl
       | succ m => rw [Sort.scanDown, if_neg (by simp; omega)]
      replace hSD := Lib.hid hSD
      replace hRd := Lib.hid hRd
      clear hsd
      go_wp2_with fail
      try replace hle2' : ¬ (i2 : Int) ≤ (j2 : Int) := by omega
      refine region_later wr.heap.size wr (Below.refl _ _) (by kernel_rfl) (by kernel_rfl) ?_
      repeat (go_big_quiet_step (fail))
      refine wpQuiet_nil ?_
      first | (rintro _ ⟨X, rfl⟩) | (intro X)
      have hX := X.h
      have hR4 := hRd.out.later hX
      have hgl3 := hR4.hu.1
      generalize X.x = w4 at *
      replace hR4 := Lib.hid hR4
      clear hX
      have e := hT0.out
      rw [hSU.out, hSD.out, if_pos (by omega)] at e
      have hgt : (j2 : Int) < (i2 : Int) := by omega
      have hjN : j2 < N ∧ a < N := by omega
      replace e := Lib.hid e
      clear hT0 hSU hSD
      obtain ⟨k0, fk0⟩ := hR4.out.hu.2 (j2) (by have := hR4.out.sz; omega)
      obtain ⟨k1, fk1⟩ := hR4.out.hu.2 (a) (by have := hR4.out.sz; omega)
      have dm := hR4.out.mid (i := j2) (j := a) (by have := hR4.out.sz; omega) (by have := hR4.out.sz; omega)
      have hR9 := Lib.hid (hR4.out.swap (i := j2) (j := a) (by have := hR4.out.sz; omega) (by have := hR4.out.sz; omega)).drew
      generalize d1[j2]! = X1 at *
      generalize d1[a]! = X2 at *
      go_wp2_with fail
      go_region
      all_goals go_wp2_with fail
      go_ret2
      exact ⟨by rw [← e.out]; rfl, by rw [← e.out]; exact hR9.out, by rw [← e.out]; show a ≤ j2 ∧ j2 < b; omega⟩
   ·have e := eC.out rfl
    clear eC eE c13 c03 fc13 fc03
    replace e := Lib.hid e
    try simp only [Bool.not_false, Bool.not_true]
    go_wp2_with fail
    exact ⟨⟨i2 + 1, by omega, by omega, rfl, hR3.out, e.out⟩, by simp [intOf]; omega⟩
  ·have hle' : ¬ (i2 : Int) ≤ (b1 : Int) := by omega
   rw [if_neg (by simp [hle])] at hsu
   have hSU := Lib.hid hsu.symm
   have hij : i2 = b1 + 1 := by omega
   replace hij := Lib.hid hij
   replace hRu := Lib.hid hRu
   clear hsu
   go_wp2_with fail
   try replace hle' : ¬ (i2 : Int) ≤ (b1 : Int) := by omega
   refine region_later wr.heap.size wr (Below.refl _ _) (by kernel_rfl) (by kernel_rfl) ?_
   repeat (go_big_quiet_step (fail))
   refine wpQuiet_nil ?_
   first | (rintro _ ⟨X, rfl⟩) | (intro X)
   have hX := X.h
   have hR3 := hRu.out.later hX
   have hgl3 := hR3.hu.1
   generalize X.x = w3 at *
   replace hR3 := Lib.hid hR3
   clear hX
   go_wp2_with fail
   go_loopw [11] (fun s wr => ∃ j2 : Nat, j2 ≤ b1 ∧ i2 ≤ j2 + 1 ∧ s = .int .i64 j2 ∧ Row64 w wr g N d1 ∧ Sort.scanDown (fun x => !Sort.ltInt x d1[a]!) d1 i2 j2 = Sort.scanDown (fun x => !Sort.ltInt x d1[a]!) d1 i2 b1) (fun s _ => (intOf s).toNat)
   case atStart => exact ⟨b1, Nat.le_refl _, by omega, by first | rfl | exact congrArg (Value.int .i64) (by omega), hR3.out, rfl⟩
   case round =>
    obtain ⟨j2, hj1, hj2, rfl, hRd, hsd⟩ := hrel
    clear hR3
    by_cases hle2 : i2 ≤ j2
    ·have hle2' : (i2 : Int) ≤ (j2 : Int) := by omega
     obtain ⟨m, hm⟩ : ∃ m, j2 = m + 1 := ⟨j2 - 1, by omega⟩
     have hwj : IntKind.i64.wrap ((j2 : Int) - 1) = (m : Int) := by rw [show (j2 : Int) - 1 = (m : Int) by omega]; exact IntWalk.i64_in _ (by omega)
     obtain ⟨c0, fc0⟩ := hRd.hu.2 a (by have := hRd.sz; omega)
     obtain ⟨c1, fc1⟩ := hRd.hu.2 j2 (by have := hRd.sz; omega)
     have hgl := hRd.hu.1
     have hjN : j2 < N ∧ a < N := by omega
     obtain ⟨x, hx⟩ : ∃ x, d1[j2]! = x := ⟨_, rfl⟩
     obtain ⟨y, hy⟩ : ∃ y, d1[a]! = y := ⟨_, rfl⟩
     rw [hx] at c1
     rw [hy] at c0
     obtain ⟨q, hq⟩ : ∃ q, Sort.ltInt x y = q := ⟨_, rfl⟩
     have eC : q = false → Sort.scanDown (fun x => !Sort.ltInt x d1[a]!) d1 i2 m = Sort.scanDown (fun x => !Sort.ltInt x d1[a]!) d1 i2 b1 := fun h => by
      rw [h] at hq
      rw [hm, Sort.scanDown, ← hm] at hsd
      simpa [hle2, hx, hy, hq] using hsd
     have eE : q = true → Sort.scanDown (fun x => !Sort.ltInt x d1[a]!) d1 i2 b1 = j2 := fun h => by
      rw [h] at hq
      rw [hm, Sort.scanDown, ← hm] at hsd
      simpa [hle2, hx, hy, hq] using hsd.symm
     replace hq := Lib.hid hq
     replace eC := Lib.hid eC
     replace eE := Lib.hid eE
     have hDq : Sort.ltInt d1[j2]! d1[a]! = q := by rw [hx, hy]; exact hq.out
     replace hDq := Lib.hid hDq
     replace hRd := Lib.hid hRd
     replace hm := Lib.hid hm
     clear hsd hx hy
     go_wp2_with fail
     refine region_later wr.heap.size wr (Below.refl _ _) (by kernel_rfl) (by kernel_rfl) ?_
     have zc1 := later_cell (B := wr.heap.size) c1 hgl
     have zc0 := later_cell (B := wr.heap.size) c0 hgl
     repeat (first | go_big_quiet_step (fail) | quiet_step ((go_at_call 111; exact quiet_later (Nat.le_refl _) (less64_q hq _))))
     refine wpQuiet_nil ?_
     first | (rintro _ ⟨X, rfl⟩) | (intro X)
     have hX := X.h
     have hR4 := hRd.out.later hX
     have hgl3 := hR4.hu.1
     have c13 := (hX.cell (p := ⟨g, j2, none⟩) hgl).trans c1
     have fc13 := (hX.frozen (p := ⟨g, j2, none⟩) hgl).trans fc1
     have c03 := (hX.cell (p := ⟨g, a, none⟩) hgl).trans c0
     have fc03 := (hX.frozen (p := ⟨g, a, none⟩) hgl).trans fc0
     clear zc1 c1 fc1 zc0 c0 fc0
     generalize X.x = w4 at *
     replace hR4 := Lib.hid hR4
     clear hX
     cases q
     ·have e := Lib.hid (eC.out rfl)
      have hmo := hm.out
      clear eC eE c13 c03 fc13 fc03
      try simp only [Bool.not_false]
      replace hmo := Lib.hid hmo
      go_wp2_with fail
      exact ⟨⟨m, by have := hmo.out; omega, by have := hmo.out; omega, rfl, hR4.out, e.out⟩, by have := hmo.out; simp [intOf]; omega⟩
     ·have hSD := Lib.hid (eE.out rfl)
      clear eC eE c13 c03 fc13 fc03
      try simp only [Bool.not_true]
      exfalso
      have := hij.out
      omega
    ·have hle2' : ¬ (i2 : Int) ≤ (j2 : Int) := by omega
     have hSD : Sort.scanDown (fun x => !Sort.ltInt x d1[a]!) d1 i2 b1 = j2 := by
      rw [← hsd]
      cases j2 with
      | zero => rfl
      | succ m => rw [Sort.scanDown, if_neg (by simp; omega)]
     replace hSD := Lib.hid hSD
     replace hRd := Lib.hid hRd
     clear hsd
     go_wp2_with fail
     try replace hle2' : ¬ (i2 : Int) ≤ (j2 : Int) := by omega
     refine region_later wr.heap.size wr (Below.refl _ _) (by kernel_rfl) (by kernel_rfl) ?_
     repeat (go_big_quiet_step (fail))
     refine wpQuiet_nil ?_
     first | (rintro _ ⟨X, rfl⟩) | (intro X)
     have hX := X.h
     have hR4 := hRd.out.later hX
     have hgl3 := hR4.hu.1
     generalize X.x = w4 at *
     replace hR4 := Lib.hid hR4
     clear hX
     have e := hT0.out
     rw [hSU.out, hSD.out, if_pos (by omega)] at e
     have hgt : (j2 : Int) < (i2 : Int) := by omega
     have hjN : j2 < N ∧ a < N := by omega
     replace e := Lib.hid e
     clear hT0 hSU hSD
     obtain ⟨k0, fk0⟩ := hR4.out.hu.2 (j2) (by have := hR4.out.sz; omega)
     obtain ⟨k1, fk1⟩ := hR4.out.hu.2 (a) (by have := hR4.out.sz; omega)
     have dm := hR4.out.mid (i := j2) (j := a) (by have := hR4.out.sz; omega) (by have := hR4.out.sz; omega)
     have hR9 := Lib.hid (hR4.out.swap (i := j2) (j := a) (by have := hR4.out.sz; omega) (by have := hR4.out.sz; omega)).drew
     generalize d1[j2]! = X1 at *
     generalize d1[a]! = X2 at *
     go_wp2_with fail
     go_region
     all_goals go_wp2_with fail
     go_ret2
     exact ⟨by rw [← e.out]; rfl, by rw [← e.out]; exact hR9.out, by rw [← e.out]; show a ≤ j2 ∧ j2 < b; omega⟩
end Go.Proofs.YtiblhlaemmdphaaGreat
/- Sorting rows of words: pdqsort. -/
namespace Go.Proofs.YtiblhlaemmdphaaGreat
open Go Go.RowKit Go.Shelf Go.BigFrame Go.Maps
set_option maxRecDepth 20000 in
set_option maxHeartbeats 16000000 in
theorem pdq64_any : ∀ (M g cap a b lim N : Nat) (d : Array Int) (w : World), b - a < M → d.size = N → HU w g d → a ≤ b → b ≤ N → N < 1152921504606846976 → lim < 4611686018427387904 →
  Calls Tryz.prog 85 #[.slice (some ⟨g, 0, none⟩) N cap, .int .i64 a, .int .i64 b, .int .i64 lim] w fun e w' => e = .returned (.tuple #[]) ∧ Row64 w w' g N (Sort.pdq Sort.ltInt d a b lim true true) := by
 intro M
 induction M with
 | zero => intro g cap a b lim N d w h; omega
 | succ M ih =>
 intro g cap a0 b0 lim0 N d w hM hN hH hab0 hb0 hN62 hlim0
 have hR0 := Lib.hid (Row64.refl hH hN)
 clear hH
 obtain ⟨T, hT⟩ : ∃ T, Sort.pdq Sort.ltInt d a0 b0 lim0 true true = T := ⟨_, rfl⟩
 rw [hT]
 replace hT := Lib.hid hT
 have hrec := fun a b lim dk W h1 h2 h3 h4 h5 h6 => ih g cap a b lim N dk W h1 h2 h3 h4 h5 hN62 h6
 replace hrec := Lib.hid hrec
 clear ih hN
 go_enter Tryz.func85, Tryz.ntmps85
 go_wp2_with fail
 go_loopw [1, 2, 3, 8, 9] (fun s1 s2 s3 s8 s9 wr => ∃ (a b lim : Nat) (wb wp : Bool) (dk : Array Int), a0 ≤ a ∧ a ≤ b ∧ b ≤ b0 ∧ lim ≤ lim0 ∧ s1 = .int .i64 a ∧ s2 = .int .i64 b ∧ s3 = .int .i64 lim ∧ s8 = .bool wb ∧ s9 = .bool wp ∧ Row64 w wr g N dk ∧ Sort.pdq Sort.ltInt dk a b lim wb wp = T) (fun s1 s2 _ _ _ _ => (intOf s2 - intOf s1).toNat)
 case atStart => exact ⟨a0, b0, lim0, true, true, d, Nat.le_refl _, hab0, Nat.le_refl _, Nat.le_refl _, rfl, rfl, rfl, rfl, rfl, hR0.out, hT.out⟩
 case round =>
  obtain ⟨a, b, lim, wb, wp, dk, hla, hab, hlb, hll, rfl, rfl, rfl, rfl, rfl, hR, heq⟩ := hrel
  rw [Sort.pdq] at heq
  have hwl : IntKind.i64.wrap ((b : Int) - (a : Int)) = (b : Int) - (a : Int) := IntWalk.i64_in _ (by omega)
  by_cases h12 : b - a ≤ 12
  ·rw [if_pos h12] at heq
   have h12' : (b : Int) - (a : Int) ≤ 12 := by omega
   have hc := ins64_any g cap a b N dk hR.sz wr hR.hu hab (by omega) (by omega)
   replace hc := Lib.hid hc
   replace hR := Lib.hid hR
   replace heq := Lib.hid heq
   go_wp2_with fail
   refine hc.out.mono ?_; rintro e w2 ⟨rfl, hR2⟩
   have hR3 := Lib.hid (hR.out.trans hR2)
   clear hc hR2 hR
   go_wp2_with fail
   refine bodyPost_ret (v := .tuple #[]) (by simp [results, Tryz.results85, go_sem]) rfl ?_
   exact ⟨rfl, by rw [← heq.out]; exact hR3.out⟩
  ·rw [if_neg h12] at heq
   have h12' : ¬ (b : Int) - (a : Int) ≤ 12 := by omega
   by_cases hl0 : lim = 0
   ·rw [if_pos hl0] at heq
    subst hl0
    have hc := heap64_any g cap a b N dk hR.sz wr hR.hu hab (by omega) hN62
    replace hc := Lib.hid hc
    replace hR := Lib.hid hR
    replace heq := Lib.hid heq
    go_wp2_with fail
    refine hc.out.mono ?_; rintro e w2 ⟨rfl, hR2⟩
    have hR3 := Lib.hid (hR.out.trans hR2)
    clear hc hR2 hR
    go_wp2_with fail
    refine bodyPost_ret (v := .tuple #[]) (by simp [results, Tryz.results85, go_sem]) rfl ?_
    exact ⟨rfl, by rw [← heq.out]; exact hR3.out⟩
   ·rw [if_neg hl0] at heq
    have hl0' : ¬ (lim : Int) = 0 := by omega
    have hl0b : ((lim : Int) == 0) = false := by simp [hl0]
    have hwm : IntKind.i64.wrap ((lim : Int) - 1) = ((lim - 1 : Nat) : Int) := by rw [show (lim : Int) - 1 = ((lim - 1 : Nat) : Int) by omega]; exact IntWalk.i64_in _ (by omega)
    -- the parts' results under names
    obtain ⟨d1, hd1⟩ : ∃ d1, (if (!wb) = true then Sort.breakPatterns dk a b else dk) = d1 := ⟨_, rfl⟩
    obtain ⟨l1, hl1⟩ : ∃ l1, (if (!wb) = true then lim - 1 else lim) = l1 := ⟨_, rfl⟩
    simp only [hd1, hl1] at heq
    obtain ⟨c, hcp⟩ : ∃ c, Sort.choosePivot Sort.ltInt d1 a b = c := ⟨_, rfl⟩
    have hcb := Sort.choosePivot_holds Sort.ltInt d1 a b (by omega)
    rw [hcp] at hcb
    simp only [hcp] at heq
    obtain ⟨P, hint⟩ := c
    simp only at heq hcb
    obtain ⟨d2, hd2⟩ : ∃ d2, (if hint = Sort.Hint.decreasing then Sort.reverseRange d1 a b else d1) = d2 := ⟨_, rfl⟩
    obtain ⟨pv, hpv⟩ : ∃ pv, (if hint = Sort.Hint.decreasing then b - 1 - (P - a) else P) = pv := ⟨_, rfl⟩
    obtain ⟨h2, hh2⟩ : ∃ h2, (if hint = Sort.Hint.decreasing then Sort.Hint.increasing else hint) = h2 := ⟨_, rfl⟩
    simp only [hd2, hpv, hh2] at heq
    obtain ⟨B, hBv⟩ : ∃ B, (wb && wp && decide (h2 = Sort.Hint.increasing)) = B := ⟨_, rfl⟩
    rw [hBv] at heq
    obtain ⟨pi, hpi⟩ : ∃ pi, (if B = true then Sort.partialInsertionSort Sort.ltInt d2 a b else (d2, false)) = pi := ⟨_, rfl⟩
    rw [hpi] at heq
    obtain ⟨d3, pb⟩ := pi
    simp only at heq
    obtain ⟨B2, hB2⟩ : ∃ B2, (decide (a > 0) && !Sort.ltInt d3[a - 1]! d3[pv]!) = B2 := ⟨_, rfl⟩
    rw [hB2] at heq
    have hpvb : a ≤ pv ∧ pv < b := by rw [← hpv]; split <;> omega
    have hl1b : l1 ≤ lim := by rw [← hl1]; split <;> omega
    obtain ⟨Q8, hQ8⟩ : ∃ Q, Q = (b - a) / 8 := ⟨_, rfl⟩
    have ht8 : ((b : Int) - (a : Int)).tdiv 8 = (Q8 : Int) := by rw [Int.tdiv_eq_ediv_of_nonneg (by omega)]; omega
    have hw8 : IntKind.i64.wrap (Q8 : Int) = (Q8 : Int) := IntWalk.i64_in _ (by omega)
    have hbr := fun (h : wb = false) => break64_any g cap a b N dk hR.sz wr hR.hu (by omega) (by omega) hN62
    rw [← hQ8] at heq
    replace hd1 := Lib.hid hd1
    replace hl1 := Lib.hid hl1
    replace hcp := Lib.hid hcp
    replace heq := Lib.hid heq
    replace hd2 := Lib.hid hd2
    replace hpv := Lib.hid hpv
    replace hh2 := Lib.hid hh2
    replace hBv := Lib.hid hBv
    replace hpi := Lib.hid hpi
    replace hB2 := Lib.hid hB2
    replace hQ8 := Lib.hid hQ8
    replace hbr := Lib.hid hbr
    replace hR := Lib.hid hR
    go_upto_if 35 with fail
    go_cut [3] from 19 to 133 (fun s3 wx => s3 = .int .i64 l1 ∧ Row64 w wx g N d1)
    case first =>
     cases wb
     ·have e1 : Sort.breakPatterns dk a b = d1 := hd1.out
      have e2 : lim - 1 = l1 := hl1.out
      have hb := hbr.out rfl
      rw [e1] at hb
      rw [e2] at hwm
      replace hb := Lib.hid hb
      replace e2 := Lib.hid e2
      clear e1 hbr
      go_wp2_with fail
      refine hb.out.mono ?_; rintro e w2 ⟨rfl, hR2⟩
      have hR3 := Lib.hid (hR.out.trans hR2)
      clear hb hR2
      go_wp2_with fail
      go_meet
      exact ⟨rfl, hR3.out⟩
     ·have e1 : dk = d1 := hd1.out
      have e2 : lim = l1 := hl1.out
      subst e1 e2
      clear hbr
      go_wp2_with fail
      go_meet
      exact ⟨rfl, hR.out⟩
    case rest =>
     obtain ⟨rfl, hR1⟩ := hcut
     clear hR hbr hwm hl0' hl0b
     have hp := pivot64_any g cap a b N d1 hR1.sz wc hR1.hu (by omega) (by omega) hN62
     rw [hcp.out] at hp
     simp only at hp
     replace hp := Lib.hid hp
     replace hR1 := Lib.hid hR1
     go_wp2_with fail
     refine hp.out.mono ?_; rintro e w3 ⟨rfl, hb3⟩
     have hR3 := Lib.hid (hR1.out.later hb3)
     clear hp hb3 hR1
     go_upto_if 50 with fail
     go_cut [11, 12] from 19 to 133 (fun s11 s12 wx => s11 = .int .i64 pv ∧ s12 = .int .i64 (Sort.hintCode h2) ∧ Row64 w wx g N d2)
     case first =>
      have hc0 : Sort.hintCode Sort.Hint.unknown = 0 := rfl
      have hc1 : Sort.hintCode Sort.Hint.increasing = 1 := rfl
      have hc2 : Sort.hintCode Sort.Hint.decreasing = 2 := rfl
      cases hint
      ·have e1 : d1 = d2 := hd2.out
       have e2 : P = pv := hpv.out
       have e3 : Sort.Hint.unknown = h2 := hh2.out
       subst e1 e2 e3
       go_wp2_with fail
       go_meet
       exact ⟨rfl, rfl, hR3.out⟩
      ·have e1 : d1 = d2 := hd2.out
       have e2 : P = pv := hpv.out
       have e3 : Sort.Hint.increasing = h2 := hh2.out
       subst e1 e2 e3
       go_wp2_with fail
       go_meet
       exact ⟨rfl, rfl, hR3.out⟩
      ·have e1 : Sort.reverseRange d1 a b = d2 := hd2.out
       have e2 : b - 1 - (P - a) = pv := hpv.out
       have e3 : Sort.Hint.increasing = h2 := hh2.out
       subst e3
       have hr := rev64_any g cap a b N d1 hR3.out.sz w3 hR3.out.hu hab (by omega) hN62
       rw [e1] at hr
       have hwb : IntKind.i64.wrap ((b : Int) - 1) = (b : Int) - 1 := IntWalk.i64_in _ (by omega)
       have hwp : IntKind.i64.wrap ((P : Int) - (a : Int)) = (P : Int) - (a : Int) := IntWalk.i64_in _ (by omega)
       have hwq : IntKind.i64.wrap ((b : Int) - 1 - ((P : Int) - (a : Int))) = (pv : Int) := by rw [show (b : Int) - 1 - ((P : Int) - (a : Int)) = (pv : Int) by omega]; exact IntWalk.i64_in _ (by omega)
       replace hr := Lib.hid hr
       replace e2 := Lib.hid e2
       clear e1
       go_wp2_with fail
       refine hr.out.mono ?_; rintro e w4 ⟨rfl, hR4⟩
       have hR5 := Lib.hid (hR3.out.trans hR4)
       clear hr hR4
       go_wp2_with fail
       go_meet
       exact ⟨rfl, rfl, hR5.out⟩
     case rest =>
      obtain ⟨rfl, rfl, hR4⟩ := hcut
      clear hR3 hd2 hpv hh2 hcb
      replace hR4 := Lib.hid hR4
      go_upto_region 15 with fail
      go_cut [68] from 19 to 133 (fun s68 wx => s68 = .bool B ∧ wx = wc)
      case first =>
       have hc0 : Sort.hintCode Sort.Hint.unknown = 0 := rfl
       have hc1 : Sort.hintCode Sort.Hint.increasing = 1 := rfl
       have hc2 : Sort.hintCode Sort.Hint.decreasing = 2 := rfl
       cases wb <;> cases wp <;> cases h2 <;> (have e1 := hBv.out; simp at e1; subst e1; go_wp2_with fail; go_meet; exact ⟨rfl, rfl⟩)
      case rest =>
       obtain ⟨rfl, rfl⟩ := hcut
       go_upto_if 68 with fail
       go_cut [68] from 19 to 133 (fun _ wx => pb = false ∧ Row64 w wx g N d3)
       case first =>
        cases B
        ·have e1 : ((d2, false) : Array Int × Bool) = (d3, pb) := hpi.out
         injection e1 with e1 e2
         subst e1 e2
         go_wp2_with fail
         go_meet
         exact ⟨by first | rfl | trivial, hR4.out⟩
        ·have e1 : Sort.partialInsertionSort Sort.ltInt d2 a b = (d3, pb) := hpi.out
         have hr := part64_any g cap a b N d2 hR4.out.sz wc hR4.out.hu (by omega) (by omega) hN62
         rw [e1] at hr
         simp only at hr
         replace hr := Lib.hid hr
         clear e1
         go_wp2_with fail
         refine hr.out.mono ?_; rintro e w4 ⟨rfl, hR5⟩
         have hR6 := Lib.hid (hR4.out.trans hR5)
         clear hr hR5
         cases pb
         ·go_wp2_with fail
          go_meet
          exact ⟨by first | rfl | trivial, hR6.out⟩
         ·have e2 := heq.out
          rw [if_pos rfl] at e2
          replace e2 := Lib.hid e2
          go_wp2_with fail
          refine bodyPost_ret (v := .tuple #[]) (by simp [results, Tryz.results85, go_sem]) rfl ?_
          exact ⟨rfl, by rw [← e2.out]; exact hR6.out⟩
       case rest =>
        obtain ⟨rfl, hR5⟩ := hcut
        clear hR4 hpi
        replace heq := heq.out
        rw [if_neg (by simp)] at heq
        replace heq := Lib.hid heq
        replace hR5 := Lib.hid hR5
        go_upto_region 17 with fail
        go_cut [87] from 19 to 133 (fun s87 wx => s87 = .bool B2 ∧ Row64 w wx g N d3)
        case first =>
         by_cases h0 : a = 0
         ·have e1 : false = B2 := by rw [← hB2.out]; simp [h0]
          subst e1
          have h0' : ¬ (0 : Int) < (a : Int) := by omega
          have hgz : (0 < a) = False := by simp [h0]
          replace h0 := Lib.hid h0
          refine region_later wc.heap.size wc (Below.refl _ _) (by kernel_rfl) (by kernel_rfl) ?_
          repeat (go_big_quiet_step (fail))
          refine wpQuiet_nil ?_
          first | (rintro _ ⟨X, rfl⟩) | (intro X)
          have hX := X.h
          have hR6 := Lib.hid (hR5.out.later hX)
          generalize X.x = w4 at *
          go_wp2_with fail
          go_meet
          exact ⟨rfl, hR6.out⟩
         ·obtain ⟨c0, fc0⟩ := hR5.out.hu.2 (a - 1) (by have := hR5.out.sz; omega)
          obtain ⟨c1, fc1⟩ := hR5.out.hu.2 pv (by have := hR5.out.sz; omega)
          have hgl := hR5.out.hu.1
          have e1 : (!Sort.ltInt d3[a - 1]! d3[pv]!) = B2 := by rw [← hB2.out]; simp [show 0 < a by omega]
          generalize d3[a - 1]! = x at *
          generalize d3[pv]! = y at *
          obtain ⟨q, hq⟩ : ∃ q, Sort.ltInt x y = q := ⟨_, rfl⟩
          rw [hq] at e1
          subst e1
          have h0' : (0 : Int) < (a : Int) := by omega
          have hw1 : IntKind.i64.wrap ((a : Int) - 1) = (a : Int) - 1 := IntWalk.i64_in _ (by omega)
          have ht1 : ((a : Int) - 1).toNat = a - 1 := by omega
          have hb1 : 0 ≤ (a : Int) - 1 ∧ (a : Int) - 1 < (N : Int) := by omega
          have hpN : pv < N := by omega
          have hgz : (0 < a) = True := by simp; omega
          replace hq := Lib.hid hq
          refine region_later wc.heap.size wc (Below.refl _ _) (by kernel_rfl) (by kernel_rfl) ?_
          have z0 := later_cell (B := wc.heap.size) c0 hgl
          have z1 := later_cell (B := wc.heap.size) c1 hgl
          repeat (first | go_big_quiet_step (fail) | quiet_step ((go_at_call 111; exact quiet_later (Nat.le_refl _) (less64_q hq _))))
          refine wpQuiet_nil ?_
          first | (rintro _ ⟨X, rfl⟩) | (intro X)
          have hX := X.h
          have hR6 := Lib.hid (hR5.out.later hX)
          clear z0 z1
          generalize X.x = w4 at *
          go_wp2_with fail
          go_meet
          exact ⟨rfl, hR6.out⟩
        case rest =>
         obtain ⟨rfl, hR6⟩ := hcut
         clear hR5 hB2
         replace heq := heq.out
         cases B2
         ·simp only [Bool.false_eq_true, if_false] at heq
          have hpt := partn64_any g cap a b pv N d3 hR6.sz wc hR6.hu hpvb.1 hpvb.2 (by omega) hN62
          generalize Sort.partition Sort.ltInt d3 a b pv = R at *
          obtain ⟨mid, ap, d4⟩ := R
          simp only at hpt heq
          replace hpt := Lib.hid hpt
          replace heq := Lib.hid heq
          replace hR6 := Lib.hid hR6
          go_wp2_with fail
          refine hpt.out.mono ?_; rintro e w7 ⟨rfl, hR7, hm1, hm2⟩
          have hR8 := hR6.out.trans hR7
          replace heq := heq.out
          rw [dif_pos ⟨hm1, hm2⟩] at heq
          have hwa : IntKind.i64.wrap ((mid : Int) - (a : Int)) = (mid : Int) - (a : Int) := IntWalk.i64_in _ (by omega)
          have hwb : IntKind.i64.wrap ((b : Int) - (mid : Int)) = (b : Int) - (mid : Int) := IntWalk.i64_in _ (by omega)
          have hwm : IntKind.i64.wrap ((mid : Int) + 1) = (mid : Int) + 1 := IntWalk.i64_in _ (by omega)
          clear hpt hR7 hR6
          by_cases hlr : mid - a < b - mid
          ·rw [if_pos hlr] at heq
           have hlr' : (mid : Int) - (a : Int) < (b : Int) - (mid : Int) := by omega
           have hrc := hrec.out a mid l1 d4 w7 (by omega) hR8.sz hR8.hu hm1 (by omega) (by omega)
           replace hrc := Lib.hid hrc
           replace hR8 := Lib.hid hR8
           replace heq := Lib.hid heq
           go_wp2_with fail
           refine hrc.out.mono ?_; rintro e w8 ⟨rfl, hR9⟩
           have hR10 := Lib.hid (hR8.out.trans hR9)
           clear hrc hR9 hR8
           go_wp2_with fail
           exact ⟨⟨mid + 1, b, l1, decide (mid - a ≥ Q8), ap, _, by omega, by omega, hlb, by omega, rfl, rfl, rfl, congrArg Value.bool (decide_eq_decide.2 (by omega)), rfl, hR10.out, heq.out⟩, by simp [intOf]; omega⟩
          ·rw [if_neg hlr] at heq
           have hlr' : ¬ (mid : Int) - (a : Int) < (b : Int) - (mid : Int) := by omega
           have hrc := hrec.out (mid + 1) b l1 d4 w7 (by omega) hR8.sz hR8.hu (by omega) (by omega) (by omega)
           rw [show ((mid + 1 : Nat) : Int) = (mid : Int) + 1 from rfl] at hrc
           replace hrc := Lib.hid hrc
           replace hR8 := Lib.hid hR8
           replace heq := Lib.hid heq
           go_wp2_with fail
           refine hrc.out.mono ?_; rintro e w8 ⟨rfl, hR9⟩
           have hR10 := Lib.hid (hR8.out.trans hR9)
           clear hrc hR9 hR8
           go_wp2_with fail
           exact ⟨⟨a, mid, l1, decide (b - mid ≥ Q8), ap, _, hla, hm1, by omega, by omega, rfl, rfl, rfl, congrArg Value.bool (decide_eq_decide.2 (by omega)), rfl, hR10.out, heq.out⟩, by simp [intOf]; omega⟩
         ·simp only [if_true] at heq
          have hpt := parteq64_any g cap a b pv N d3 hR6.sz wc hR6.hu hpvb.1 hpvb.2 (by omega) hN62
          generalize Sort.partitionEqual Sort.ltInt d3 a b pv = R at *
          obtain ⟨mid, d4⟩ := R
          simp only at hpt heq
          replace hpt := Lib.hid hpt
          replace heq := Lib.hid heq
          replace hR6 := Lib.hid hR6
          go_wp2_with fail
          refine hpt.out.mono ?_; rintro e w7 ⟨rfl, hR7, hm1, hm2⟩
          have hR8 := Lib.hid (hR6.out.trans hR7)
          replace heq := heq.out
          rw [dif_pos ⟨hm1, hm2⟩] at heq
          replace heq := Lib.hid heq
          clear hpt hR7 hR6
          go_wp2_with fail
          exact ⟨⟨mid, b, l1, wb, wp, d4, by omega, hm2, hlb, by omega, rfl, rfl, rfl, rfl, rfl, hR8.out, heq.out⟩, by simp [intOf]; omega⟩
end Go.Proofs.YtiblhlaemmdphaaGreat
/- Sorting rows of words: slices.Sort. -/
namespace Go.Proofs.YtiblhlaemmdphaaGreat
open Go Go.RowKit Go.Shelf Go.BigFrame Go.Maps
theorem len64_any (n : Nat) (hn : n < 4611686018427387904) (w : World) : Calls Tryz.prog 86 #[.int .u64 (n : Int)] w fun e w' => e = .returned (.int .i64 (Sort.bitsLen n : Nat)) ∧ w = w' := by
 have h := calls_of_every_depth fun D => AnySG.bits_LenIn { Tryz.npow with } D (n : Int) w (by omega) (by omega)
 rw [Int.toNat_natCast, bitLen_eq _ (by omega)] at h
 exact h.mono fun _ _ ⟨h1, h2⟩ => ⟨h1, h2.symm⟩
set_option maxRecDepth 20000 in
set_option maxHeartbeats 2000000 in
theorem sort64_any (g cap N : Nat) (d : Array Int) (hN : d.size = N) (w : World) (hH : HU w g d) (hN62 : N < 1152921504606846976) :
  Calls Tryz.prog 61 #[.slice (some ⟨g, 0, none⟩) N cap] w fun e w' => e = .returned (.tuple #[]) ∧ Row64 w w' g N (Sort.sort Sort.ltInt d) := by
 have hk : Sort.bitsLen N ≤ 62 := (Sort.bitsLen_le_iff N 62).2 (by omega)
 have hl := len64_any N (by omega) w
 have hp := pdq64_any (N + 1) g cap 0 N (Sort.bitsLen N) N d w (by omega) hN hH (Nat.zero_le _) (Nat.le_refl _) hN62 (by omega)
 have hs : Sort.sort Sort.ltInt d = Sort.pdq Sort.ltInt d 0 N (Sort.bitsLen N) true true := by rw [← hN]; rfl
 rw [hs]
 have hw1 : IntKind.u64.wrap (N : Int) = (N : Int) := IntWalk.u64_in _ (by omega)
 rw [Int.natCast_zero] at hp
 replace hp := Lib.hid hp
 replace hl := Lib.hid hl
 clear hH hs
 generalize Sort.bitsLen N = K at *
 go_enter Tryz.func61, Tryz.ntmps61
 go_wp2_with fail
 refine hl.out.mono ?_; rintro e w1 ⟨rfl, rfl⟩
 clear hl
 go_wp2_with fail
 refine hp.out.mono ?_; rintro e w2 ⟨rfl, hR⟩
 clear hp
 go_wp2_with fail
 go_end0
 exact ⟨rfl, hR⟩
set_option maxRecDepth 20000 in
set_option maxHeartbeats 2000000 in
theorem ins64_nil (w : World) : Calls Tryz.prog 105 #[.slice none 0 0, .int .i64 0, .int .i64 0] w fun e w' => e = .returned (.tuple #[]) ∧ w = w' := by
 go_enter Tryz.func105, Tryz.ntmps105
 go_wp2_with fail
 go_loopw [6] (fun s wr => s = .int .i64 1 ∧ wr = w) (fun _ _ => 0)
 case atStart => exact ⟨by simp, rfl⟩
 case round =>
  obtain ⟨rfl, rfl⟩ := hrel
  go_wp2_with fail
  go_end0
  exact ⟨rfl, rfl⟩
set_option maxRecDepth 20000 in
set_option maxHeartbeats 2000000 in
theorem pdq64_nil (lim : Int) (w : World) : Calls Tryz.prog 85 #[.slice none 0 0, .int .i64 0, .int .i64 0, .int .i64 lim] w fun e w' => e = .returned (.tuple #[]) ∧ w = w' := by
 have hi := ins64_nil w
 go_enter Tryz.func85, Tryz.ntmps85
 go_wp2_with fail
 go_loopw [1, 2, 3, 8, 9] (fun s1 s2 _ _ _ wr => s1 = .int .i64 0 ∧ s2 = .int .i64 0 ∧ wr = w) (fun _ _ _ _ _ _ => 0)
 case atStart => exact ⟨rfl, rfl, rfl⟩
 case round =>
  obtain ⟨rfl, rfl, rfl⟩ := hrel
  go_wp2_with fail
  refine hi.mono ?_; rintro e w2 ⟨rfl, rfl⟩
  go_wp2_with fail
  refine bodyPost_ret (v := .tuple #[]) (by simp [results, Tryz.results85, go_sem]) rfl ?_
  exact ⟨rfl, rfl⟩
set_option maxRecDepth 20000 in
set_option maxHeartbeats 2000000 in
theorem sort64_nil (w : World) : Calls Tryz.prog 61 #[.slice none 0 0] w fun e w' => e = .returned (.tuple #[]) ∧ w = w' := by
 have hl := len64_any 0 (by omega) w
 have hp := pdq64_nil (Sort.bitsLen 0 : Nat) w
 rw [Int.natCast_zero] at hl
 generalize Sort.bitsLen 0 = K at *
 go_enter Tryz.func61, Tryz.ntmps61
 go_wp2_with fail
 refine hl.mono ?_; rintro e w1 ⟨rfl, rfl⟩
 clear hl
 go_wp2_with fail
 refine hp.mono ?_; rintro e w2 ⟨rfl, rfl⟩
 go_wp2_with fail
 go_end0
 exact ⟨rfl, rfl⟩
end Go.Proofs.YtiblhlaemmdphaaGreat
