/- Sorting rows of words: the row, its exchanges; comparisons; insertion sort. -/
import Derived.Sort.AssemblyPlain
import Derived.Test.YtiblhlaemmdphaaGreatTableBuildsP5
import Derived.Test.YtiblhlaemmdphaaGreatTableBuildsP7
namespace Go.Proofs.YtiblhlaemmdphaaGreat
open Go Go.RowKit Go.Shelf Go.BigFrame Go.Maps
def HU (w : World) (g : Nat) (d : Array Int) : Prop := g < w.heap.size ∧ ∀ j, j < d.size → w.cell? ⟨g, j, none⟩ = some (.int .u64 d[j]!) ∧ w.frozen? ⟨g, j, none⟩ = false
structure Row64 (w W : World) (g N : Nat) (d : Array Int) : Prop where
 hu : HU W g d
 off : OffL 0 [g] w W
 sz : d.size = N
theorem Row64.refl {w : World} {g N : Nat} {d : Array Int} (h : HU w g d) (hN : d.size = N) : Row64 w w g N d := ⟨h, OffL.refl _ _ _, hN⟩
theorem HU.later {w w' : World} {g : Nat} {d : Array Int} (h : HU w g d) (hb : Below w.heap.size w w') : HU w' g d :=
 ⟨Nat.lt_of_lt_of_le h.1 hb.size, fun j hj => ⟨(hb.cell (p := ⟨g, j, none⟩) h.1).trans (h.2 j hj).1, (hb.frozen (p := ⟨g, j, none⟩) h.1).trans (h.2 j hj).2⟩⟩
theorem Row64.later {w W W' : World} {g N : Nat} {d : Array Int} (h : Row64 w W g N d) (hb : Below W.heap.size W W') : Row64 w W' g N d :=
 ⟨h.hu.later hb, h.off.trans (OffL.of_below (Bs := []) hb (Nat.zero_le _)) (by simp), h.sz⟩
theorem Row64.trans {w W W' : World} {g N M : Nat} {d d' : Array Int} (h : Row64 w W g M d) (k : Row64 W W' g N d') : Row64 w W' g N d' :=
 ⟨k.hu, h.off.trans k.off (fun _ hb => .inl hb), k.sz⟩
theorem Row64.drew {w W : World} {g N : Nat} {d : Array Int} (h : Row64 w W g N d) : Row64 w W.drew g N d := ⟨⟨h.hu.1, h.hu.2⟩, ⟨h.off.below.drew, h.off.rest⟩, h.sz⟩
theorem Row64.swap {w W : World} {g i j N : Nat} {d : Array Int} (h : Row64 w W g N d) (hi : i < d.size) (hj : j < d.size) :
  Row64 w ((W.setCell ⟨g, i, none⟩ (.int .u64 d[j]!)).setCell ⟨g, j, none⟩ (.int .u64 d[i]!)) g N (Sort.swp d i j) := by
 have hoff : OffL 0 [g] W ((W.setCell ⟨g, i, none⟩ (.int .u64 d[j]!)).setCell ⟨g, j, none⟩ (.int .u64 d[i]!)) :=
  ⟨((Below.refl 0 W).setCell (Nat.zero_le _) _).setCell (Nat.zero_le _) _, fun k hk hn => by
   have hne : k ≠ g := by simpa using hn
   exact (Below.heap_setCell _ _ _ _ hne).trans (Below.heap_setCell _ _ _ _ hne)⟩
 refine ⟨⟨by simpa using h.hu.1, fun k hk => ?_⟩, h.off.trans hoff (fun _ hb => .inl hb), (Sort.swp_size d i j).trans h.sz⟩
 have hk' : k < d.size := by simpa [Sort.swp] using hk
 obtain ⟨c, f⟩ := h.hu.2 k hk'
 obtain ⟨ci, fi⟩ := h.hu.2 i hi
 obtain ⟨cj, fj⟩ := h.hu.2 j hj
 have e := Sort.swp_get d hi hj k
 refine ⟨?_, by simpa using f⟩
 rw [e]
 by_cases h2 : k = j
 ·subst h2
  rw [World.cell?_setCell_same _ _ _ (by
   by_cases h1 : k = i
   ·subst h1; rw [World.cell?_setCell_same _ _ _ (by rw [ci])]
   ·rw [World.cell?_setCell_other _ _ _ _ (by intro e; cases e; exact h1 rfl), cj])]
  by_cases h1 : k = i
  ·subst h1; simp
  ·simp
 ·rw [World.cell?_setCell_other _ _ _ _ (by intro e; cases e; exact h2 rfl)]
  by_cases h1 : k = i
  ·subst h1
   rw [World.cell?_setCell_same _ _ _ (by rw [c])]
   simp [h2]
  ·rw [World.cell?_setCell_other _ _ _ _ (by intro e; cases e; exact h1 rfl), c]
   simp [h1, h2]
set_option maxHeartbeats 1000000 in
theorem nan64_any (x : Int) (w : World) : Calls Tryz.prog 127 #[.int .u64 x] w fun e w' => e = .returned (.bool false) ∧ w = w' := by
 go_enter Tryz.func127, Tryz.ntmps127
 go_wp2
 go_ret
 exact ⟨by simp, rfl⟩
set_option maxHeartbeats 1000000 in
theorem less64_any (x y : Int) (w : World) : Calls Tryz.prog 111 #[.int .u64 x, .int .u64 y] w fun e w' => e = .returned (.bool (Sort.ltInt x y)) ∧ w = w' := by
 have hn := fun x W => nan64_any x W
 go_enter Tryz.func111, Tryz.ntmps111
 go_wp2_with fail
 refine (hn _ _).mono ?_; rintro e w' ⟨rfl, rfl⟩
 go_wp2_with fail
 go_ret
 exact ⟨by simp [Sort.ltInt], rfl⟩
theorem less64_q {x y : Int} {q : Bool} (hq : RowKit.Hid (Sort.ltInt x y = q)) (w : World) : Calls Tryz.prog 111 #[.int .u64 x, .int .u64 y] w fun e w' => e = .returned (.bool q) ∧ Below w.heap.size w w' :=
 (less64_any x y w).mono fun _ _ ⟨h1, h2⟩ => ⟨by rw [← hq.out]; exact h1, h2 ▸ Below.refl _ _⟩
set_option maxRecDepth 20000 in
set_option maxHeartbeats 2000000 in
theorem ins64_any (g cap a b N : Nat) (d : Array Int) (hN : d.size = N) (w : World) (hH : HU w g d) (hab : a ≤ b) (hb : b ≤ N) (hN62 : N < 4611686018427387904) :
  Calls Tryz.prog 105 #[.slice (some ⟨g, 0, none⟩) N cap, .int .i64 a, .int .i64 b] w fun e w' => e = .returned (.tuple #[]) ∧ Row64 w w' g N (Sort.insertionSort Sort.ltInt d a b) := by
 have hR0 := Lib.hid (Row64.refl hH hN)
 clear hH
 have ha1 : IntKind.i64.wrap ((a : Int) + 1) = (a : Int) + 1 := IntWalk.i64_in _ (by omega)
 go_enter Tryz.func105, Tryz.ntmps105
 go_wp2_with fail
 go_loopw [6] (fun s wr => ∃ (i : Nat) (dk : Array Int), a + 1 ≤ i ∧ s = .int .i64 i ∧ dk.size = N ∧ Row64 w wr g N dk ∧ Sort.insOuter Sort.ltInt a b i dk = Sort.insertionSort Sort.ltInt d a b) (fun s _ => b - (intOf s).toNat)
 case atStart => exact ⟨a + 1, d, Nat.le_refl _, by simp, hN, hR0.out, rfl⟩
 case round =>
  obtain ⟨i, dk, hi, rfl, hs, hR, heq⟩ := hrel
  by_cases hlt : i < b
  ·rw [Sort.insOuter, if_pos hlt] at heq
   obtain ⟨wo, rfl⟩ : ∃ wo, wo = wr := ⟨_, rfl⟩
   replace hs := Lib.hid hs
   replace hR := Lib.hid hR
   replace heq := Lib.hid heq
   go_wp2_with fail
   go_loopw [7] (fun s wr => ∃ (j : Nat) (dj : Array Int), j ≤ i ∧ s = .int .i64 j ∧ dj.size = N ∧ Row64 w wr g N dj ∧ Sort.insInner Sort.ltInt a j dj = Sort.insInner Sort.ltInt a i dk) (fun s _ => (intOf s).toNat)
   case atStart => exact ⟨i, dk, Nat.le_refl _, rfl, hs.out, hR.out, rfl⟩
   case round =>
    obtain ⟨j, dj, hj, rfl, hsj, hRj, hej⟩ := hrel
    by_cases hja : a < j
    ·obtain ⟨m, rfl⟩ : ∃ k, j = k + 1 := ⟨j - 1, by omega⟩
     obtain ⟨c1, f1⟩ := hRj.hu.2 (m + 1) (by omega)
     obtain ⟨c0, f0⟩ := hRj.hu.2 m (by omega)
     have hgl := hRj.hu.1
     have hj1 : (a : Int) < (m : Int) + 1 := by omega
     have hbr : Sort.insInner Sort.ltInt a (m + 1) dj = if Sort.ltInt dj[m + 1]! dj[m]! = true then Sort.insInner Sort.ltInt a m (Sort.swp dj (m + 1) m) else dj := by
      rw [Sort.insInner]
      simp [hja]
     have hsw := fun W (h : Row64 w W g N dj) => h.swap (i := m + 1) (j := m) (by omega) (by omega)
     have hss := Sort.swp_size dj (m + 1) m
     rw [hbr] at hej
     clear hbr
     replace hss := Lib.hid hss
     replace hRj := Lib.hid hRj
     replace hsj := Lib.hid hsj
     generalize dj[m + 1]! = x at *
     generalize dj[m]! = y at *
     have hw1 : IntKind.i64.wrap ((m : Int) + 1 - 1) = (m : Int) := by rw [show (m : Int) + 1 - 1 = (m : Int) by omega]; exact IntWalk.i64_in _ (by omega)
     have hin : m + 1 < N ∧ m < N := by omega
     obtain ⟨q, hq⟩ : ∃ q, Sort.ltInt x y = q := ⟨_, rfl⟩
     rw [hq] at hej
     replace hq := Lib.hid hq
     replace hej := Lib.hid hej
     replace hsw := Lib.hid hsw
     go_wp2_with fail
     refine region_later wr.heap.size wr (Below.refl _ _) (by kernel_rfl) (by kernel_rfl) ?_
     have z1 := later_cell (B := wr.heap.size) c1 hgl
     have z0 := later_cell (B := wr.heap.size) c0 hgl
     repeat (first | go_big_quiet_step (fail) | quiet_step ((go_at_call 111; exact quiet_later (Nat.le_refl _) (less64_q hq _))))
     refine wpQuiet_nil ?_
     first | (rintro _ ⟨X, rfl⟩) | (intro X)
     have hX := X.h
     have hR3 := hRj.out.later hX
     have c13 := (hX.cell (p := ⟨g, m + 1, none⟩) hgl).trans c1
     have c03 := (hX.cell (p := ⟨g, m, none⟩) hgl).trans c0
     have f13 := (hX.frozen (p := ⟨g, m + 1, none⟩) hgl).trans f1
     have f03 := (hX.frozen (p := ⟨g, m, none⟩) hgl).trans f0
     clear z1 z0 c1 c0 f1 f0
     generalize X.x = w3 at *
     have hR4 := Lib.hid (hsw.out w3 hR3)
     replace hR3 := Lib.hid hR3
     clear hX hsw
     cases q
     ·go_wp2_with fail
      have e := hej.out
      rw [if_neg (by simp)] at e
      refine ⟨⟨i + 1, dj, by omega, rfl, hsj.out, hR3.out, ?_⟩, by simp [intOf]; omega⟩
      rw [e]; exact heq.out
     ·go_wp2_with fail
      go_region
      all_goals go_wp2_with fail
      have e := hej.out
      rw [if_pos trivial] at e
      exact ⟨⟨m, Sort.swp dj (m + 1) m, by omega, rfl, hss.out.trans hsj.out, hR4.out.drew, e⟩, by simp [intOf]⟩
    ·have hej' : dj = Sort.insInner Sort.ltInt a i dk := by
      rw [← hej]
      cases j with
      | zero => rw [Sort.insInner]
      | succ m => rw [Sort.insInner]; simp [hja]
     have hj1 : ¬ (a : Int) < (j : Int) := by omega
     replace hej' := Lib.hid hej'
     replace hRj := Lib.hid hRj
     replace hsj := Lib.hid hsj
     clear hej
     go_wp2_with fail
     refine region_later wr.heap.size wr (Below.refl _ _) (by kernel_rfl) (by kernel_rfl) ?_
     repeat (go_big_quiet_step (fail))
     refine wpQuiet_nil ?_
     first | (rintro _ ⟨X, rfl⟩) | (intro X)
     have hX := X.h
     have hR3 := Lib.hid (hRj.out.later hX)
     generalize X.x = w3 at *
     go_wp2_with fail
     refine ⟨⟨i + 1, dj, by omega, rfl, hsj.out, hR3.out, ?_⟩, by simp [intOf]; omega⟩
     rw [hej'.out]; exact heq.out
  ·rw [Sort.insOuter, if_neg hlt] at heq
   subst heq
   replace hR := Lib.hid hR
   go_wp2_with fail
   go_end0
   exact ⟨rfl, hR.out⟩
end Go.Proofs.YtiblhlaemmdphaaGreat
/- Sorting rows of words: sifting down, heap sort, reversal. -/
namespace Go.Proofs.YtiblhlaemmdphaaGreat
open Go Go.RowKit Go.Shelf Go.BigFrame Go.Maps
set_option maxRecDepth 20000 in
set_option maxHeartbeats 4000000 in
theorem sift64_any (g cap lo hi F N : Nat) (d : Array Int) (hN : d.size = N) (w : World) (hH : HU w g d) (hlo : lo ≤ hi) (hb : F + hi ≤ N) (hN62 : N < 1152921504606846976) :
  Calls Tryz.prog 122 #[.slice (some ⟨g, 0, none⟩) N cap, .int .i64 lo, .int .i64 hi, .int .i64 F] w fun e w' => e = .returned (.tuple #[]) ∧ Row64 w w' g N (Sort.siftDown Sort.ltInt hi F lo d) := by
 have hR0 := Lib.hid (Row64.refl hH hN)
 clear hH
 go_enter Tryz.func122, Tryz.ntmps122
 go_wp2_with fail
 go_loopw [8] (fun s wr => ∃ (r : Nat) (dk : Array Int), r ≤ hi ∧ s = .int .i64 r ∧ dk.size = N ∧ Row64 w wr g N dk ∧ Sort.siftDown Sort.ltInt hi F r dk = Sort.siftDown Sort.ltInt hi F lo d) (fun s _ => hi - (intOf s).toNat)
 case atStart => exact ⟨lo, d, hlo, rfl, hN, hR0.out, rfl⟩
 case round =>
  obtain ⟨r, dk, hrh, rfl, hs, hR, heq⟩ := hrel
  rw [Sort.siftDown] at heq
  have hw1 : IntKind.i64.wrap (2 * (r : Int)) = 2 * (r : Int) := IntWalk.i64_in _ (by omega)
  have hw2 : IntKind.i64.wrap (2 * (r : Int) + 1) = 2 * (r : Int) + 1 := IntWalk.i64_in _ (by omega)
  by_cases h1 : 2 * r + 1 ≥ hi
  ·rw [dif_pos h1] at heq
   subst heq
   replace hR := Lib.hid hR
   have h1' : (hi : Int) ≤ 2 * (r : Int) + 1 := by omega
   go_wp2_with fail
   go_end0
   exact ⟨rfl, hR.out⟩
  ·rw [dif_neg h1] at heq
   have h1' : ¬ (hi : Int) ≤ 2 * (r : Int) + 1 := by omega
   have hw3 : IntKind.i64.wrap (2 * (r : Int) + 1 + 1) = 2 * (r : Int) + 1 + 1 := IntWalk.i64_in _ (by omega)
   have hw4 : IntKind.i64.wrap ((F : Int) + (2 * (r : Int) + 1)) = (F : Int) + (2 * (r : Int) + 1) := IntWalk.i64_in _ (by omega)
   have hw5 : IntKind.i64.wrap ((F : Int) + (2 * (r : Int) + 1) + 1) = (F : Int) + (2 * (r : Int) + 1) + 1 := IntWalk.i64_in _ (by omega)
   have hw6 : IntKind.i64.wrap ((F : Int) + (r : Int)) = (F : Int) + (r : Int) := IntWalk.i64_in _ (by omega)
   have hw7 : IntKind.i64.wrap ((F : Int) + (2 * (r : Int) + 1 + 1)) = (F : Int) + (2 * (r : Int) + 1 + 1) := IntWalk.i64_in _ (by omega)
   have ht1 : ((F : Int) + (2 * (r : Int) + 1)).toNat = F + (2 * r + 1) := by omega
   have ht2 : ((F : Int) + (2 * (r : Int) + 1) + 1).toNat = F + (2 * r + 1) + 1 := by omega
   have ht3 : ((F : Int) + (r : Int)).toNat = F + r := by omega
   have ht4 : ((F : Int) + (2 * (r : Int) + 1 + 1)).toNat = F + (2 * r + 2) := by omega
   have hb1 : 0 ≤ (F : Int) + (2 * (r : Int) + 1) ∧ (F : Int) + (2 * (r : Int) + 1) < (N : Int) := by omega
   have hb3 : 0 ≤ (F : Int) + (r : Int) ∧ (F : Int) + (r : Int) < (N : Int) := by omega
   have hgl := hR.hu.1
   by_cases h2 : 2 * r + 2 < hi
   ·have h2' : 2 * (r : Int) + 1 + 1 < (hi : Int) := by omega
    have hb2 : 0 ≤ (F : Int) + (2 * (r : Int) + 1) + 1 ∧ (F : Int) + (2 * (r : Int) + 1) + 1 < (N : Int) := by omega
    have hb4 : 0 ≤ (F : Int) + (2 * (r : Int) + 1 + 1) ∧ (F : Int) + (2 * (r : Int) + 1 + 1) < (N : Int) := by omega
    obtain ⟨c0, fc0⟩ := hR.hu.2 (F + (2 * r + 1)) (by omega)
    obtain ⟨c1, fc1⟩ := hR.hu.2 (F + (2 * r + 1) + 1) (by omega)
    obtain ⟨q1, hq1⟩ : ∃ q, Sort.ltInt dk[F + (2 * r + 1)]! dk[F + (2 * r + 1) + 1]! = q := ⟨_, rfl⟩
    rw [hq1] at heq
    replace hR := Lib.hid hR
    replace hq1 := Lib.hid hq1
    replace heq := Lib.hid heq
    go_wp2_with fail
    refine region_later wr.heap.size wr (Below.refl _ _) (by kernel_rfl) (by kernel_rfl) ?_
    have zc0 := later_cell (B := wr.heap.size) c0 hgl
    have zc1 := later_cell (B := wr.heap.size) c1 hgl
    repeat (first | go_big_quiet_step (fail) | quiet_step ((go_at_call 111; exact quiet_later (Nat.le_refl _) (less64_q hq1 _))))
    refine wpQuiet_nil ?_
    first | (rintro _ ⟨X, rfl⟩) | (intro X)
    have hX := X.h
    have hR3 := hR.out.later hX
    have hgl3 := hR3.hu.1
    have c03 := (hX.cell (p := ⟨g, F + (2 * r + 1), none⟩) hgl).trans c0
    have fc03 := (hX.frozen (p := ⟨g, F + (2 * r + 1), none⟩) hgl).trans fc0
    have c13 := (hX.cell (p := ⟨g, F + (2 * r + 1) + 1, none⟩) hgl).trans c1
    have fc13 := (hX.frozen (p := ⟨g, F + (2 * r + 1) + 1, none⟩) hgl).trans fc1
    clear zc0 c0 fc0 zc1 c1 fc1
    generalize X.x = w3 at *
    replace hR3 := Lib.hid hR3
    clear hX
    clear c03 fc03 c13 fc13
    replace hgl := hgl3
    have heq := heq.out
    clear hR
    cases q1
    ·rw [if_neg (by simp)] at heq
     obtain ⟨a0, fa0⟩ := hR3.out.hu.2 (F + r) (by omega)
     obtain ⟨a1, fa1⟩ := hR3.out.hu.2 (F + (2 * r + 1)) (by omega)
     have hsw := Lib.hid (fun (W : World) (h : Row64 w W g N dk) => h.swap (i := F + r) (j := F + (2 * r + 1)) (by omega) (by omega))
     have hss := Lib.hid ((Sort.swp_size dk (F + r) (F + (2 * r + 1))).trans hs)
     generalize dk[F + r]! = x at *
     generalize dk[F + (2 * r + 1)]! = y at *
     obtain ⟨q, hq⟩ : ∃ q, Sort.ltInt x y = q := ⟨_, rfl⟩
     rw [hq] at heq
     have eF : q = false → dk = Sort.siftDown Sort.ltInt hi F lo d := fun h => by rw [h] at heq; simpa using heq
     have eT : q = true → Sort.siftDown Sort.ltInt hi F (2 * r + 1) (Sort.swp dk (F + r) (F + (2 * r + 1))) = Sort.siftDown Sort.ltInt hi F lo d := fun h => by rw [h] at heq; simpa using heq
     replace hq := Lib.hid hq
     replace eF := Lib.hid eF
     replace eT := Lib.hid eT
     clear heq
     go_wp2_with fail
     refine region_later w3.heap.size w3 (Below.refl _ _) (by kernel_rfl) (by kernel_rfl) ?_
     have za0 := later_cell (B := w3.heap.size) a0 hgl
     have za1 := later_cell (B := w3.heap.size) a1 hgl
     repeat (first | go_big_quiet_step (fail) | quiet_step ((go_at_call 111; exact quiet_later (Nat.le_refl _) (less64_q hq _))))
     refine wpQuiet_nil ?_
     first | (rintro _ ⟨X, rfl⟩) | (intro X)
     have hX := X.h
     have hR5 := hR3.out.later hX
     have hgl3 := hR5.hu.1
     have a03 := (hX.cell (p := ⟨g, F + r, none⟩) hgl).trans a0
     have fa03 := (hX.frozen (p := ⟨g, F + r, none⟩) hgl).trans fa0
     have a13 := (hX.cell (p := ⟨g, F + (2 * r + 1), none⟩) hgl).trans a1
     have fa13 := (hX.frozen (p := ⟨g, F + (2 * r + 1), none⟩) hgl).trans fa1
     clear za0 a0 fa0 za1 a1 fa1
     generalize X.x = w5 at *
     replace hR5 := Lib.hid hR5
     clear hX
     cases q
     ·have e := Lib.hid (eF.out rfl)
      clear eF eT hsw
      go_wp2_with fail
      refine bodyPost_ret (v := .tuple #[]) (by simp [results, Tryz.results122, go_sem]) rfl ?_
      exact ⟨rfl, e.out ▸ hR5.out⟩
     ·have e := Lib.hid (eT.out rfl)
      have hR6 := Lib.hid (hsw.out w5 hR5.out)
      clear eF eT hsw
      go_wp2_with fail
      go_region
      all_goals go_wp2_with fail
      exact ⟨⟨2 * r + 1, _, by omega, congrArg (Value.int .i64) (by omega), hss.out, hR6.out.drew, e.out⟩, by simp [intOf]; omega⟩
    ·rw [if_pos (by simp; omega), dif_pos h2] at heq
     obtain ⟨a0, fa0⟩ := hR3.out.hu.2 (F + r) (by omega)
     obtain ⟨a1, fa1⟩ := hR3.out.hu.2 (F + (2 * r + 2)) (by omega)
     have hsw := Lib.hid (fun (W : World) (h : Row64 w W g N dk) => h.swap (i := F + r) (j := F + (2 * r + 2)) (by omega) (by omega))
     have hss := Lib.hid ((Sort.swp_size dk (F + r) (F + (2 * r + 2))).trans hs)
     generalize dk[F + r]! = x at *
     generalize dk[F + (2 * r + 2)]! = y at *
     obtain ⟨q, hq⟩ : ∃ q, Sort.ltInt x y = q := ⟨_, rfl⟩
     rw [hq] at heq
     have eF : q = false → dk = Sort.siftDown Sort.ltInt hi F lo d := fun h => by rw [h] at heq; simpa using heq
     have eT : q = true → Sort.siftDown Sort.ltInt hi F (2 * r + 2) (Sort.swp dk (F + r) (F + (2 * r + 2))) = Sort.siftDown Sort.ltInt hi F lo d := fun h => by rw [h] at heq; simpa using heq
     replace hq := Lib.hid hq
     replace eF := Lib.hid eF
     replace eT := Lib.hid eT
     clear heq
     go_wp2_with fail
     refine region_later w3.heap.size w3 (Below.refl _ _) (by kernel_rfl) (by kernel_rfl) ?_
     have za0 := later_cell (B := w3.heap.size) a0 hgl
     have za1 := later_cell (B := w3.heap.size) a1 hgl
     repeat (first | go_big_quiet_step (fail) | quiet_step ((go_at_call 111; exact quiet_later (Nat.le_refl _) (less64_q hq _))))
     refine wpQuiet_nil ?_
     first | (rintro _ ⟨X, rfl⟩) | (intro X)
     have hX := X.h
     have hR5 := hR3.out.later hX
     have hgl3 := hR5.hu.1
     have a03 := (hX.cell (p := ⟨g, F + r, none⟩) hgl).trans a0
     have fa03 := (hX.frozen (p := ⟨g, F + r, none⟩) hgl).trans fa0
     have a13 := (hX.cell (p := ⟨g, F + (2 * r + 2), none⟩) hgl).trans a1
     have fa13 := (hX.frozen (p := ⟨g, F + (2 * r + 2), none⟩) hgl).trans fa1
     clear za0 a0 fa0 za1 a1 fa1
     generalize X.x = w5 at *
     replace hR5 := Lib.hid hR5
     clear hX
     cases q
     ·have e := Lib.hid (eF.out rfl)
      clear eF eT hsw
      go_wp2_with fail
      refine bodyPost_ret (v := .tuple #[]) (by simp [results, Tryz.results122, go_sem]) rfl ?_
      exact ⟨rfl, e.out ▸ hR5.out⟩
     ·have e := Lib.hid (eT.out rfl)
      have hR6 := Lib.hid (hsw.out w5 hR5.out)
      clear eF eT hsw
      go_wp2_with fail
      go_region
      all_goals go_wp2_with fail
      exact ⟨⟨2 * r + 2, _, by omega, congrArg (Value.int .i64) (by omega), hss.out, hR6.out.drew, e.out⟩, by simp [intOf]; omega⟩
   ·have h2' : ¬ 2 * (r : Int) + 1 + 1 < (hi : Int) := by omega
    rw [if_neg (by simp; omega)] at heq
    replace hR := Lib.hid hR
    replace heq := Lib.hid heq
    go_wp2_with fail
    try replace h2' : ¬ 2 * (r : Int) + 1 + 1 < (hi : Int) := by omega
    refine region_later wr.heap.size wr (Below.refl _ _) (by kernel_rfl) (by kernel_rfl) ?_
    repeat (go_big_quiet_step (fail))
    refine wpQuiet_nil ?_
    first | (rintro _ ⟨X, rfl⟩) | (intro X)
    have hX := X.h
    have hR3 := hR.out.later hX
    have hgl3 := hR3.hu.1
    generalize X.x = w3 at *
    replace hR3 := Lib.hid hR3
    clear hX
    replace hgl := hgl3
    have heq := heq.out
    clear hR
    obtain ⟨a0, fa0⟩ := hR3.out.hu.2 (F + r) (by omega)
    obtain ⟨a1, fa1⟩ := hR3.out.hu.2 (F + (2 * r + 1)) (by omega)
    have hsw := Lib.hid (fun (W : World) (h : Row64 w W g N dk) => h.swap (i := F + r) (j := F + (2 * r + 1)) (by omega) (by omega))
    have hss := Lib.hid ((Sort.swp_size dk (F + r) (F + (2 * r + 1))).trans hs)
    generalize dk[F + r]! = x at *
    generalize dk[F + (2 * r + 1)]! = y at *
    obtain ⟨q, hq⟩ : ∃ q, Sort.ltInt x y = q := ⟨_, rfl⟩
    rw [hq] at heq
    have eF : q = false → dk = Sort.siftDown Sort.ltInt hi F lo d := fun h => by rw [h] at heq; simpa using heq
    have eT : q = true → Sort.siftDown Sort.ltInt hi F (2 * r + 1) (Sort.swp dk (F + r) (F + (2 * r + 1))) = Sort.siftDown Sort.ltInt hi F lo d := fun h => by rw [h] at heq; simpa using heq
    replace hq := Lib.hid hq
    replace eF := Lib.hid eF
    replace eT := Lib.hid eT
    clear heq
    go_wp2_with fail
    refine region_later w3.heap.size w3 (Below.refl _ _) (by kernel_rfl) (by kernel_rfl) ?_
    have za0 := later_cell (B := w3.heap.size) a0 hgl
    have za1 := later_cell (B := w3.heap.size) a1 hgl
    repeat (first | go_big_quiet_step (fail) | quiet_step ((go_at_call 111; exact quiet_later (Nat.le_refl _) (less64_q hq _))))
    refine wpQuiet_nil ?_
    first | (rintro _ ⟨X, rfl⟩) | (intro X)
    have hX := X.h
    have hR5 := hR3.out.later hX
    have hgl3 := hR5.hu.1
    have a03 := (hX.cell (p := ⟨g, F + r, none⟩) hgl).trans a0
    have fa03 := (hX.frozen (p := ⟨g, F + r, none⟩) hgl).trans fa0
    have a13 := (hX.cell (p := ⟨g, F + (2 * r + 1), none⟩) hgl).trans a1
    have fa13 := (hX.frozen (p := ⟨g, F + (2 * r + 1), none⟩) hgl).trans fa1
    clear za0 a0 fa0 za1 a1 fa1
    generalize X.x = w5 at *
    replace hR5 := Lib.hid hR5
    clear hX
    cases q
    ·have e := Lib.hid (eF.out rfl)
     clear eF eT hsw
     go_wp2_with fail
     refine bodyPost_ret (v := .tuple #[]) (by simp [results, Tryz.results122, go_sem]) rfl ?_
     exact ⟨rfl, e.out ▸ hR5.out⟩
    ·have e := Lib.hid (eT.out rfl)
     have hR6 := Lib.hid (hsw.out w5 hR5.out)
     clear eF eT hsw
     go_wp2_with fail
     go_region
     all_goals go_wp2_with fail
     exact ⟨⟨2 * r + 1, _, by omega, congrArg (Value.int .i64) (by omega), hss.out, hR6.out.drew, e.out⟩, by simp [intOf]; omega⟩
end Go.Proofs.YtiblhlaemmdphaaGreat
/- Sorting rows of words: heap sort, reversal. -/
namespace Go.Proofs.YtiblhlaemmdphaaGreat
open Go Go.RowKit Go.Shelf Go.BigFrame Go.Maps
set_option maxRecDepth 20000 in
set_option maxHeartbeats 4000000 in
theorem rev64_any (g cap a b N : Nat) (d : Array Int) (hN : d.size = N) (w : World) (hH : HU w g d) (hab : a ≤ b) (hb : b ≤ N) (hN62 : N < 1152921504606846976) :
  Calls Tryz.prog 109 #[.slice (some ⟨g, 0, none⟩) N cap, .int .i64 a, .int .i64 b] w fun e w' => e = .returned (.tuple #[]) ∧ Row64 w w' g N (Sort.reverseRange d a b) := by
 have hR0 := Lib.hid (Row64.refl hH hN)
 clear hH
 have hwb : IntKind.i64.wrap ((b : Int) - 1) = (b : Int) - 1 := IntWalk.i64_in _ (by omega)
 go_enter Tryz.func109, Tryz.ntmps109
 go_wp2_with fail
 go_loopw [6, 7] (fun s t wr => ∃ (i jn : Nat) (jz : Int) (dk : Array Int), s = .int .i64 i ∧ t = .int .i64 jz ∧ ((i : Int) < jz → jz = jn ∧ jn < N) ∧ (¬ (i : Int) < jz → ¬ i < jn) ∧ i ≤ N ∧ -1 ≤ jz ∧ jz ≤ N ∧ dk.size = N ∧ Row64 w wr g N dk ∧ Sort.reverseLoop i jn dk = Sort.reverseRange d a b) (fun s t _ => (intOf t + 1 - intOf s).toNat)
 case atStart => exact ⟨a, b - 1, (b : Int) - 1, d, rfl, rfl, fun h => ⟨by omega, by omega⟩, fun h => by omega, by omega, by omega, by omega, hN, hR0.out, rfl⟩
 case round =>
  obtain ⟨i, jn, jz, dk, rfl, rfl, h1, h2, hiN, hjz, hjN, hs, hR, heq⟩ := hrel
  rw [Sort.reverseLoop] at heq
  by_cases hlt : (i : Int) < jz
  ·obtain ⟨rfl, hjn⟩ := h1 hlt
   have hij : i < jn := by omega
   rw [if_pos hij] at heq
   obtain ⟨c0, fc0⟩ := hR.hu.2 i (by omega)
   obtain ⟨c1, fc1⟩ := hR.hu.2 jn (by omega)
   have hR2 := hR.swap (i := i) (j := jn) (by omega) (by omega)
   have hss := (Sort.swp_size dk i jn).trans hs
   have hw1 : IntKind.i64.wrap ((i : Int) + 1) = (i : Int) + 1 := IntWalk.i64_in _ (by omega)
   have hw2 : IntKind.i64.wrap ((jn : Int) - 1) = (jn : Int) - 1 := IntWalk.i64_in _ (by omega)
   clear hR h1 h2
   generalize dk[i]! = x at *
   generalize dk[jn]! = y at *
   replace hR2 := Lib.hid hR2
   replace hss := Lib.hid hss
   replace heq := Lib.hid heq
   go_wp2_with fail
   go_region
   all_goals go_wp2_with fail
   exact ⟨⟨i + 1, jn - 1, (jn : Int) - 1, _, congrArg (Value.int .i64) (by omega), rfl, fun h => ⟨by omega, by omega⟩, fun h => by omega, by omega, by omega, by omega, hss.out, hR2.out.drew, heq.out⟩, by simp [intOf]; omega⟩
  ·rw [if_neg (h2 hlt)] at heq
   subst heq
   replace hR := Lib.hid hR
   clear h1 h2
   go_wp2_with fail
   go_end0
   exact ⟨rfl, hR.out⟩
theorem tdiv2 (n : Nat) : ((n : Int) - 1).tdiv 2 = (((n - 1) / 2 : Nat) : Int) := by
 rcases n with _ | n
 ·rfl
 ·rw [show ((n + 1 : Nat) : Int) - 1 = (n : Int) by omega, Int.tdiv_eq_ediv_of_nonneg (by omega)]
  omega
set_option maxRecDepth 20000 in
set_option maxHeartbeats 4000000 in
theorem heap64_any (g cap a b N : Nat) (d : Array Int) (hN : d.size = N) (w : World) (hH : HU w g d) (hab : a ≤ b) (hb : b ≤ N) (hN62 : N < 1152921504606846976) :
  Calls Tryz.prog 106 #[.slice (some ⟨g, 0, none⟩) N cap, .int .i64 a, .int .i64 b] w fun e w' => e = .returned (.tuple #[]) ∧ Row64 w w' g N (Sort.heapSort Sort.ltInt d a b) := by
 have hR0 := Lib.hid (Row64.refl hH hN)
 clear hH
 have hsf := fun (lo hi : Nat) (dk : Array Int) (h : dk.size = N) W hW h1 h2 => sift64_any g cap lo hi a N dk h W hW h1 h2 hN62
 obtain ⟨n, hn⟩ : ∃ n, n = b - a := ⟨_, rfl⟩
 have hwb : IntKind.i64.wrap ((b : Int) - (a : Int)) = (n : Int) := by rw [show (b : Int) - (a : Int) = (n : Int) by omega]; exact IntWalk.i64_in _ (by omega)
 have hw1 : IntKind.i64.wrap ((n : Int) - 1) = (n : Int) - 1 := IntWalk.i64_in _ (by omega)
 have ht2 := tdiv2 n
 have hw2 : IntKind.i64.wrap (((n - 1) / 2 : Nat) : Int) = (((n - 1) / 2 : Nat) : Int) := IntWalk.i64_in _ (by omega)
 have hdef : Sort.heapSort Sort.ltInt d a b = Sort.heapPop Sort.ltInt a n (Sort.heapBuild Sort.ltInt n a ((n - 1) / 2 + 1) d) := by rw [hn]; rfl
 rw [hdef]
 clear hdef
 obtain ⟨K, hK⟩ : ∃ K, (n - 1) / 2 = K := ⟨_, rfl⟩
 rw [hK] at ht2 hw2 ⊢
 replace hn := Lib.hid hn
 replace hK := Lib.hid hK
 replace hsf := Lib.hid hsf
 go_enter Tryz.func106, Tryz.ntmps106
 go_wp2_with fail
 go_loopw [9] (fun s wr => ∃ (k : Nat) (dk : Array Int), k ≤ K + 1 ∧ s = .int .i64 ((k : Int) - 1) ∧ dk.size = N ∧ Row64 w wr g N dk ∧ Sort.heapBuild Sort.ltInt n a k dk = Sort.heapBuild Sort.ltInt n a (K + 1) d) (fun s _ => (intOf s + 1).toNat)
 case atStart => exact ⟨K + 1, d, Nat.le_refl _, congrArg (Value.int .i64) (by omega), hN, hR0.out, rfl⟩
 case round =>
  obtain ⟨k, dk, hk, rfl, hs, hR, heq⟩ := hrel
  have hKo := hK.out
  have hno := hn.out
  rcases k with _ | m
  ·have h0 : ¬ (0 : Int) ≤ ((0 : Nat) : Int) - 1 := by omega
   have heq2 : dk = Sort.heapBuild Sort.ltInt n a (K + 1) d := heq
   replace heq2 := Lib.hid heq2
   clear heq
   replace hR := Lib.hid hR
   replace hs := Lib.hid hs
   clear hKo hno
   go_wp2_with fail
   go_loopw [10] (fun s wr => ∃ (k : Nat) (dj : Array Int), k ≤ n ∧ s = .int .i64 ((k : Int) - 1) ∧ dj.size = N ∧ Row64 w wr g N dj ∧ Sort.heapPop Sort.ltInt a k dj = Sort.heapPop Sort.ltInt a n dk) (fun s _ => (intOf s + 1).toNat)
   case atStart => exact ⟨n, dk, Nat.le_refl _, rfl, hs.out, hR.out, rfl⟩
   case round =>
    obtain ⟨k, dj, hk, rfl, hsj, hRj, heq⟩ := hrel
    have hno := hn.out
    rcases k with _ | m
    ·have h0 : ¬ (0 : Int) ≤ ((0 : Nat) : Int) - 1 := by omega
     have heq3 : dj = Sort.heapPop Sort.ltInt a n dk := heq
     replace heq3 := Lib.hid heq3
     clear heq hsf hno
     replace hRj := Lib.hid hRj
     go_wp2_with fail
     go_end0
     exact ⟨rfl, by rw [← heq2.out, ← heq3.out]; exact hRj.out⟩
    ·have h0 : (0 : Int) ≤ ((m + 1 : Nat) : Int) - 1 := by omega
     have e1 : ((m + 1 : Nat) : Int) - 1 = (m : Int) := by omega
     rw [e1]
     have hw3 : IntKind.i64.wrap ((m : Int) - 1) = (m : Int) - 1 := IntWalk.i64_in _ (by omega)
     have hw4 : IntKind.i64.wrap ((a : Int) + (m : Int)) = (a : Int) + (m : Int) := IntWalk.i64_in _ (by omega)
     have ht4 : ((a : Int) + (m : Int)).toNat = a + m := by omega
     have hb4 : 0 ≤ (a : Int) + (m : Int) ∧ (a : Int) + (m : Int) < (N : Int) := by omega
     have hb5 : (a : Int) < (N : Int) := by omega
     obtain ⟨c0, fc0⟩ := hRj.hu.2 a (by omega)
     obtain ⟨c1, fc1⟩ := hRj.hu.2 (a + m) (by omega)
     have hR2 := (hRj.swap (i := a) (j := a + m) (by omega) (by omega)).drew
     have hc := hsf.out 0 m (Sort.swp dj a (a + m)) hR2.sz _ hR2.hu (Nat.zero_le _) (by omega)
     clear hRj
     rcases Nat.eq_zero_or_pos m with rfl | hm
     ·simp only [Nat.add_zero] at c0 c1 fc0 fc1 hR2 hc
      have hw6 : IntKind.i64.wrap (a : Int) = (a : Int) := IntWalk.i64_in _ (by omega)
      generalize dj[a]! = x at *
      replace hR2 := Lib.hid hR2
      replace hc := Lib.hid hc
      replace heq := Lib.hid heq
      clear e1 h0 hno hw4 ht4 hb4
      go_wp2_with fail
      go_region
      all_goals go_wp2_with fail
      refine hc.out.mono ?_; rintro e w2 ⟨rfl, hR4⟩
      have hR3 := Lib.hid (hR2.out.trans hR4)
      clear hR4 hc hR2
      go_wp2_with fail
      exact ⟨⟨0, _, by omega, rfl, hR3.out.sz, hR3.out, heq.out⟩, by simp [intOf]⟩
     ·have hm' : ¬ m = 0 := by omega
      generalize dj[a]! = x at *
      generalize dj[a + m]! = y at *
      replace hR2 := Lib.hid hR2
      replace hc := Lib.hid hc
      replace heq := Lib.hid heq
      clear e1 h0 hno
      go_wp2_with fail
      go_region
      all_goals go_wp2_with fail
      refine hc.out.mono ?_; rintro e w2 ⟨rfl, hR4⟩
      have hR3 := Lib.hid (hR2.out.trans hR4)
      clear hR4 hc hR2
      go_wp2_with fail
      exact ⟨⟨m, _, by omega, rfl, hR3.out.sz, hR3.out, heq.out⟩, by simp [intOf]⟩
  ·have h0 : (0 : Int) ≤ ((m + 1 : Nat) : Int) - 1 := by omega
   have e1 : ((m + 1 : Nat) : Int) - 1 = (m : Int) := by omega
   rw [e1]
   have hw3 : IntKind.i64.wrap ((m : Int) - 1) = (m : Int) - 1 := IntWalk.i64_in _ (by omega)
   have hc := hsf.out m n dk hs wr hR.hu (by omega) (by omega)
   replace hc := Lib.hid hc
   replace hR := Lib.hid hR
   replace heq := Lib.hid heq
   clear e1 h0 hKo hno
   go_wp2_with fail
   refine hc.out.mono ?_; rintro e w2 ⟨rfl, hR2⟩
   have hR3 := Lib.hid (hR.out.trans hR2)
   clear hR2 hc hR
   go_wp2_with fail
   exact ⟨⟨m, _, by omega, rfl, hR3.out.sz, hR3.out, heq.out⟩, by simp [intOf]⟩
end Go.Proofs.YtiblhlaemmdphaaGreat
