/- The walks of word.Down, word.Up and word.Add at two numbers. Conditions: words of 64 bits. -/
import Derived.Shelf.Spec.BitsCarry
import Derived.Test.YtiblhlaemmdphaaGreatTableBuildsP6
import Derived.Test.YtiblhlaemmdphaaGreatTableBuildsP22
import Derived.Test.YtiblhlaemmdphaaGreatTableBuildsP27
namespace Go.Proofs.YtiblhlaemmdphaaGreat
open Go Go.RowKit
set_option maxHeartbeats 400000 in
theorem down_any (n a : Int) (w : World) (hn : W64 n) (ha : W64 a) :
  Calls Tryz.prog 58 #[.int .u64 n, .int .u64 a] w fun e w' => e = .returned (.int .u64 (if a = 0 then 0 else n - n % a)) ∧ w' = w := by
 obtain ⟨n0, n1⟩ := hn
 obtain ⟨a0, a1⟩ := ha
 by_cases h : a = 0
 ·have e : (if a = 0 then 0 else n - n % a) = 0 := if_pos h
  rw [e]; clear e
  subst h
  go_enter Tryz.func58, Tryz.ntmps58
  go_wp2
  go_ret
  exact ⟨rfl, rfl⟩
 ·have e : (if a = 0 then 0 else n - n % a) = n - n % a := if_neg h
  rw [e]; clear e
  have h1 : 1 ≤ a := by omega
  have h2 : (a == 0) = false := by simpa using h
  have m0 := Int.emod_nonneg n h
  have m1 : n % a ≤ n := by
   have := Int.emod_lt_of_pos n (by omega : 0 < a)
   rcases Int.lt_or_le n a with hlt | hle
   ·rw [Int.emod_eq_of_lt n0 hlt]; exact Int.le_refl _
   ·omega
  go_enter Tryz.func58, Tryz.ntmps58
  go_wp2
  go_ret
  exact ⟨rfl, rfl⟩
def add2 (x y : Int) : Int × Bool := if x + y < 18446744073709551616 then (x + y, true) else (0, false)
theorem add64_run (x y : Int) (w : World) (hx : W64 x) (hy : W64 y) :
  (callFunc 83 #[.int .u64 x, .int .u64 y, .int .u64 0]).run Tryz.prog w =
   .ok (.value (.tuple #[.int .u64 ((x + y) % 18446744073709551616), .int .u64 ((x + y) / 18446744073709551616)])) w := by
 rw [run_callFunc_extern Tryz.func83 (by kernel_rfl) (by kernel_rfl) (by kernel_rfl) (e := add64Entry) (by kernel_rfl), run_add64 x y 0 hx.1 hy.1 (by omega) (by omega)]
 simp only [Result.andThen, Int.add_zero]
set_option maxHeartbeats 1000000 in
theorem add_any (x y : Int) (b : Nat) (w : World) (hx : W64 x) (hy : W64 y) (c0 : w.cell? ⟨b, 0, none⟩ = some (.int .u64 x)) (c1 : w.cell? ⟨b, 1, none⟩ = some (.int .u64 y)) :
  Calls Tryz.prog 59 #[.slice (some ⟨b, 0, none⟩) 2 2] w fun e w' => e = .returned (.tuple #[.int .u64 (add2 x y).1, .bool (add2 x y).2]) ∧ w' = w := by
 have e1 : (0 + x) % 18446744073709551616 = x := by rw [Int.zero_add]; exact W64.eq hx
 have e2 : (0 + x) / 18446744073709551616 = 0 := by have := hx.1; have := hx.2; omega
 have hA := fun w => add64_run 0 x w (by unfold W64; omega) hx
 have hB := fun w => add64_run x y w hx hy
 rw [e1, e2] at hA
 clear e1 e2
 have e3 : (add2 x y = (x + y, true) ∧ (x + y) % 18446744073709551616 = x + y ∧ (x + y) / 18446744073709551616 = 0) ∨ (add2 x y = (0, false) ∧ (x + y) / 18446744073709551616 = 1) := by
  have := hx.1; have := hx.2; have := hy.1; have := hy.2
  unfold add2
  by_cases h : x + y < 18446744073709551616
  ·rw [if_pos h]; exact .inl ⟨rfl, by omega, by omega⟩
  ·rw [if_neg h]; exact .inr ⟨rfl, by omega⟩
 rcases e3 with ⟨e3, e4, e5⟩ | ⟨e3, e5⟩
 ·rw [e4, e5] at hB
  replace e3 := Lib.hid e3
  generalize x + y = z at *
  clear e4 e5
  go_enter Tryz.func59, Tryz.ntmps59
  go_wp2
  go_loop [4, 11] (fun s i => (i = .int .i64 0 ∧ s = .int .u64 0) ∨ (i = .int .i64 1 ∧ s = .int .u64 x) ∨ (i = .int .i64 2 ∧ s = .int .u64 z)) (fun _ i => 2 - (intOf i).toNat)
  case atStart => exact .inl ⟨rfl, rfl⟩
  case round =>
   rcases hrel with ⟨rfl, rfl⟩ | ⟨rfl, rfl⟩ | ⟨rfl, rfl⟩
   ·go_wp2
    go_round
    case rel => exact .inr (.inl ⟨rfl, rfl⟩)
    case measure => simp [intOf]
   ·go_wp2
    go_round
    case rel => exact .inr (.inr ⟨rfl, rfl⟩)
    case measure => simp [intOf]
   ·go_wp2
    go_ret2
    exact ⟨by rw [e3.out]; rfl, rfl⟩
 ·rw [e5] at hB
  replace e3 := Lib.hid e3
  clear e5
  go_enter Tryz.func59, Tryz.ntmps59
  go_wp2
  go_loop [4, 11] (fun s i => (i = .int .i64 0 ∧ s = .int .u64 0) ∨ (i = .int .i64 1 ∧ s = .int .u64 x)) (fun _ i => 2 - (intOf i).toNat)
  case atStart => exact .inl ⟨rfl, rfl⟩
  case round =>
   rcases hrel with ⟨rfl, rfl⟩ | ⟨rfl, rfl⟩
   ·go_wp2
    go_round
    case rel => exact .inr ⟨rfl, rfl⟩
    case measure => simp [intOf]
   ·go_wp2
    go_ret2
    exact ⟨by rw [e3.out]; rfl, rfl⟩
theorem alloc_pair (W : World) (p q : Value) (t : TypeId) : (W.alloc (.cells #[p, q] t)).cell? ⟨W.heap.size, 0, none⟩ = some p ∧ (W.alloc (.cells #[p, q] t)).cell? ⟨W.heap.size, 1, none⟩ = some q := ⟨by simp [World.cell?_alloc_new], by simp [World.cell?_alloc_new]⟩
set_option maxHeartbeats 1000000 in
theorem up_any (n a : Int) (w : World) (hn : W64 n) (ha : W64 a) :
  Calls Tryz.prog 27 #[.int .u64 n, .int .u64 a] w fun e w' => e = .returned (.tuple #[.int .u64 (upV n a).1, .bool (upV n a).2]) ∧ Below w.heap.size w w' := by
 by_cases h0 : a = 0
 ·have e : upV n a = (0, false) := by unfold upV; rw [if_pos h0]
  replace e := Lib.hid e
  subst h0
  go_enter Tryz.func27, Tryz.ntmps27
  go_wp2
  go_ret2
  exact ⟨by rw [e.out]; rfl, Below.refl _ _⟩
 ·have h2 : (a == 0) = false := by simpa using h0
  have hd := fun w => down_any n a w hn ha
  rw [if_neg h0] at hd
  have hp : 0 < a := by have := ha.1; omega
  have m0 := Int.emod_nonneg n h0
  have m1 : n % a ≤ n := by
   have := Int.emod_lt_of_pos n hp
   rcases Int.lt_or_le n a with hlt | hle
   ·rw [Int.emod_eq_of_lt hn.1 hlt]; exact Int.le_refl _
   ·omega
  by_cases h1 : n % a = 0
  ·have e : upV n a = (n, true) := upV_fix hp h1
   replace e := Lib.hid e
   rw [h1, Int.sub_zero] at hd
   clear h1 m0 m1
   go_enter Tryz.func27, Tryz.ntmps27
   go_wp2_with (go_at_call 58; refine (hd _).mono ?_; rintro e w1 ⟨rfl, rfl⟩)
   go_ret2
   exact ⟨by rw [e.out]; rfl, Below.refl _ _⟩
  ·have e : upV n a = add2 (n - n % a) a := by unfold upV add2; rw [if_neg h0, if_neg h1]
   replace e := Lib.hid e
   have hl : W64 (n - n % a) := by have := hn.2; unfold W64; omega
   have hne : ((n - n % a) == n) = false := by simp; omega
   generalize n - n % a = m at *
   have hc := fun w => alloc_pair w (.int .u64 m) (.int .u64 a) 42
   have c0 := fun w => (alloc_pair w (.int .u64 m) (.int .u64 a) 26).1
   have c1 := fun w => (alloc_pair w (.int .u64 m) (.int .u64 a) 26).2
   clear hc m0 m1 h1
   go_enter Tryz.func27, Tryz.ntmps27
   go_wp2_with (first | (go_at_call 58; refine (hd _).mono ?_; rintro e w1 ⟨rfl, rfl⟩) | (go_at_call 59; refine (add_any m a _ _ hl ha (c0 _) (c1 _)).mono ?_; rintro e w1 ⟨rfl, rfl⟩))
   go_ret2
   exact ⟨by rw [e.out]; rfl, bone _ _⟩
end Go.Proofs.YtiblhlaemmdphaaGreat
/- The walks of span.Merge, span.Cut and of both Covers. Conditions: words of 64 bits; slices below 2^38. -/
namespace Go.Proofs.YtiblhlaemmdphaaGreat
open Go.RowKit
theorem mergedV_len (l : List Two) : (mergedV l).length ≤ l.length := by
 have h1 := mergeFold_len (sortV (goodEnds l)) []
 have h2 := sortV_len (goodEnds l)
 have h3 : (goodEnds l).length ≤ l.length := by unfold goodEnds; rw [List.length_map]; exact List.length_filter_le _ _
 unfold mergedV
 simp only [List.length_nil] at h1
 omega
theorem app_cell {E : TypeId} {base : Nat} {v : Value} {l : List Two} {wr w5 : World} {O C : Obj} (hown : OwnTwo E wr base v l) (hg : ((wr.alloc O).alloc C).grownBy w5 v.ownBlock) (o : Nat) (u : Value) (h : (wr.alloc O).cell? ⟨wr.heap.size, o, none⟩ = some u) :
  w5.cell? ⟨wr.heap.size, o, none⟩ = some u := by
 rw [grown_cell hg o (by simp; omega) (fun e => by have := (hown.lt _ e).2; omega), (bone (wr.alloc O) C).cell (p := ⟨wr.heap.size, o, none⟩) (by simp)]
 exact h
theorem spansV_len (l : List Two) : (spansV l).length ≤ l.length + 2 := by
 unfold spansV; split
 ·simp
 ·simp
set_option maxHeartbeats 1000000 in
theorem merge_any (v : Value) (l : List Two) (w : World) (hv : RowTwo w v l) (hl : l.length ≤ 274877906944) :
  Calls Tryz.prog 80 #[v] w (RetOwn 28 w (spansV (mergedV l))) := by
 have hlM := mergedV_len l
 obtain ⟨a, cap, rfl, _⟩ := id hv
 go_enter Tryz.func80, Tryz.ntmps80
 go_wp2_with fail
 refine (merged_any _ l w hv (by omega)).mono ?_
 rintro e2 w3 ⟨r, rfl, hM, hb3⟩
 go_wp2_with fail
 refine (spans_any _ _ _ (OwnTwo.row hM) (by omega)).mono ?_
 rintro e6 w6 ⟨r6, rfl, hr6, hb6⟩
 go_wp2_with fail
 go_ret
 exact ⟨_, rfl, hr6.mono hb3.size, bthen hb3 hb6⟩
set_option maxRecDepth 20000 in
set_option maxHeartbeats 4000000 in
theorem cut_any (v : Value) (s : Two) (l : List Two) (w : World) (hv : RowTwo w v l) (hl : l.length ≤ 274877906944) :
  Calls Tryz.prog 97 #[.agg #[.int .u64 s.a, .int .u64 s.b], v] w (RetOwn 28 w (cutV s l)) := by
 have hlM := mergedV_len l
 obtain ⟨a, cap, rfl, _⟩ := id hv
 cases hg : goodB s.a s.b
 ·have e : cutV s l = [] := by unfold cutV; rw [if_neg (by rw [hg]; simp)]
  replace e := Lib.hid e
  go_enter Tryz.func97, Tryz.ntmps97
  go_wp2_with fail
  refine (good_any _ _ _ s.ha s.hb).mono ?_; rintro e1 w1 ⟨rfl, hb1⟩
  rw [hg]
  go_wp2_with fail
  go_ret
  exact ⟨_, rfl, by rw [e.out]; exact OwnTwo.nil _ _ _, bnew hb1⟩
 ·have e : cutV s l = spansV (cutEnds s l) := by unfold cutV; rw [if_pos hg]
  have HE : cutEnds s l = cutFrom (lastV s.a s.b) s.a (mergedV l) := rfl
  replace e := Lib.hid e
  replace HE := Lib.hid HE
  have hL := lastV_w s.ha s.hb
  have hsa := s.ha
  go_enter Tryz.func97, Tryz.ntmps97
  go_wp2_with fail
  refine (good_any _ _ _ s.ha s.hb).mono ?_; rintro e1 w1 ⟨rfl, hb1⟩
  have c0 : w1.cell? ⟨w.heap.size, 0, none⟩ = some (.int .u64 s.a) := cell_lt hb1 (by simp [World.cell?_alloc_new]) (by simp)
  have c1 : w1.cell? ⟨w.heap.size, 1, none⟩ = some (.int .u64 s.b) := cell_lt hb1 (by simp [World.cell?_alloc_new]) (by simp)
  have hW : Below w.heap.size w w1 := bnew hb1
  have hz1 : w.heap.size < w1.heap.size := by have := hb1.size; simp at this; omega
  rw [hg]
  clear hb1 hg
  go_wp2_with fail
  refine region_later w1.heap.size w1 (Below.refl _ _) (by kernel_rfl) (by kernel_rfl) ?_
  have x0 := later_cell c0 hz1
  have x1 := later_cell c1 hz1
  repeat (quiet_step ((go_at_call 22; exact quiet_later (Nat.le_refl _) (last_any _ _ _ s.ha s.hb))))
  refine wpQuiet_nil ?_
  rintro _ ⟨X, rfl⟩
  have hX := X.h
  clear x0 x1 c0 c1
  generalize X.x = w2 at *
  have hW2 : Below w.heap.size w w2 := hW.trans (hX.mono hW.size)
  have hv2 := hv.below hW2
  clear hW hX hz1 X hv
  go_wp2_with fail
  refine (merged_any _ l w2 hv2 (by omega)).mono ?_
  rintro e2 w3 ⟨r, rfl, hM, hb3⟩
  have hW3 : Below w.heap.size w w3 := bthen hW2 hb3
  clear hW2 hb3 hv2
  generalize mergedV l = M at *
  generalize lastV s.a s.b = L at *
  generalize cutEnds s l = R at *
  generalize s.a = f0 at *
  obtain ⟨ar, cr, rfl, hcr, hrow⟩ := OwnTwo.row hM
  clear hM
  go_wp2_with fail
  go_loopw [5, 6, 20] (fun o ff i wr => ∃ (k : Nat) (out : List Two) (f : Int), k ≤ M.length ∧ i = .int .i64 k ∧ ff = .int .u64 f ∧ W64 f ∧ out.length ≤ k ∧ OwnTwo 177 wr w3.heap.size o out ∧ Hid (R = out ++ cutFrom L f (M.drop k)) ∧ Below w3.heap.size w3 wr) (fun _ _ i _ => M.length - (intOf i).toNat)
  case atStart => exact ⟨0, [], f0, Nat.zero_le _, rfl, rfl, hsa, Nat.le_refl _, OwnTwo.nil _ _ _, HE, Below.refl _ _⟩
  case round =>
   obtain ⟨k, out, f, hk, rfl, rfl, hf, hol, hown, hR, hB⟩ := hrel
   clear HE hsa
   obtain ⟨ao, co, rfl, _, _⟩ := OwnTwo.row hown
   have hB0 : Below w.heap.size w wr := bthen hW3 hB
   have hB1 : w.heap.size ≤ wr.heap.size := hB0.size
   by_cases hlt : k < M.length
   ·obtain ⟨b, off, rfl, hbl, hcell⟩ := hrow (by rintro rfl; simp at hlt)
    have h1 := (hcell k hlt).1
    have h2 := (hcell k hlt).2
    rw [← hB.cell (p := ⟨b, _, none⟩) hbl] at h1 h2
    have hcut := hR.out
    rw [List.drop_eq_getElem_cons hlt, cutFrom] at hcut
    clear hR hcell hrow
    generalize M[k] = x at *
    have hxa := x.ha
    have hxb := x.hb
    have hf' := hf
    unfold W64 at hxa hxb hf' hL
    obtain ⟨p1, p2⟩ := hxa
    obtain ⟨p3, p4⟩ := hxb
    obtain ⟨p5, p6⟩ := hf'
    obtain ⟨p7, p8⟩ := hL
    have hB2 := hB.size
    have hone := fun o => (bone wr o).mono hB.size
    by_cases k1 : x.b < f
    ·rw [if_pos k1] at hcut
     replace hcut := Lib.hid hcut
     go_wp2_with fail
     go_roundw
     case rel => exact ⟨k + 1, out, f, by omega, by go_num, rfl, hf, by omega, hown.alloc _, hcut, hB.alloc (Nat.le_trans hB.size (Nat.le_refl _)) _⟩
     case measure => simp [intOf]; omega
    ·rw [if_neg k1] at hcut
     by_cases k2 : L < x.a
     ·rw [if_pos k2] at hcut
      replace hcut := Lib.hid hcut
      have htw := Lib.hid (tw_parts hf ⟨p7, p8⟩)
      have hownA := hown.alloc (.cells #[.int .u64 x.a, .int .u64 x.b] 177)
      go_wp2_with (first | (at_builtin; refine wpl_append_two rfl _ _ 156 rfl w3.heap.size 177 infoEnds Tryz.underlying156 (.slice ao out.length co) out (tw f L) rfl rfl hownA ?_ ?_ ?_ ?_ ?_; (focus (first | rfl | (simp; done))); (focus (exact ⟨htw.out.1.symm, htw.out.2.symm⟩)); (focus omega); (focus (first | omega | (simp; omega))); intro vn w5 hown5 hbel5 hgrow5; have hb5 := hbel5 _ (Nat.le_refl _); clear hbel5 hgrow5) | (go_at_call 99; refine (spans_any _ _ _ (OwnTwo.row hown5) (by simp only [List.length_append, List.length_cons, List.length_nil]; omega)).mono ?_; rintro e6 w6 ⟨r6, rfl, hr6, hb6⟩))
      go_ret
      exact ⟨_, rfl, by rw [e.out, hcut.out]; exact hr6.mono (bthen hW3 (hB.trans ((hone _).trans hb5))).size, bthen (bthen hW3 (hB.trans ((hone _).trans hb5))) hb6⟩
     ·rw [if_neg k2] at hcut
      by_cases k3 : f < x.a
      ·rw [if_pos k3] at hcut
       have htw := Lib.hid (tw_parts hf (b := x.a - 1) ⟨by omega, by omega⟩)
       have hownA := hown.alloc (.cells #[.int .u64 x.a, .int .u64 x.b] 177)
       by_cases k4 : L ≤ x.b
       ·rw [if_pos k4] at hcut
        replace hcut := Lib.hid hcut
        go_wp2_with (first | (at_builtin; refine wpl_append_two rfl _ _ 156 rfl w3.heap.size 177 infoEnds Tryz.underlying156 (.slice ao out.length co) out (tw f (x.a - 1)) rfl rfl hownA ?_ ?_ ?_ ?_ ?_; (focus (first | rfl | (simp; done))); (focus (exact ⟨htw.out.1.symm, htw.out.2.symm⟩)); (focus omega); (focus (first | omega | (simp; omega))); intro vn w5 hown5 hbel5 hgrow5; have hb5 := hbel5 _ (Nat.le_refl _); have c5 := app_cell hown hgrow5 1 (.int .u64 x.b) (by simp [World.cell?_alloc_new]); clear hbel5 hgrow5) | (go_at_call 99; refine (spans_any _ _ _ (OwnTwo.row hown5) (by simp only [List.length_append, List.length_cons, List.length_nil]; omega)).mono ?_; rintro e6 w6 ⟨r6, rfl, hr6, hb6⟩))
        go_ret
        exact ⟨_, rfl, by rw [e.out, hcut.out, List.append_nil]; exact hr6.mono (bthen hW3 (hB.trans ((hone _).trans hb5))).size, bthen (bthen hW3 (hB.trans ((hone _).trans hb5))) hb6⟩
       ·rw [if_neg k4] at hcut
        replace hcut := Lib.hid hcut
        go_wp2_with ((at_builtin; refine wpl_append_two rfl _ _ 156 rfl w3.heap.size 177 infoEnds Tryz.underlying156 (.slice ao out.length co) out (tw f (x.a - 1)) rfl rfl hownA ?_ ?_ ?_ ?_ ?_; (focus (first | rfl | (simp; done))); (focus (exact ⟨htw.out.1.symm, htw.out.2.symm⟩)); (focus omega); (focus (first | omega | (simp; omega))); intro vn w5 hown5 hbel5 hgrow5; have hb5 := hbel5 _ (Nat.le_refl _); have c5 := app_cell hown hgrow5 1 (.int .u64 x.b) (by simp [World.cell?_alloc_new]); clear hbel5 hgrow5))
        go_roundw
        case rel => exact ⟨k + 1, _, x.b + 1, by omega, by go_num, rfl, ⟨by omega, by omega⟩, by simp; omega, hown5, Lib.hid (by rw [hcut.out, List.append_assoc]), hB.trans ((hone _).trans hb5)⟩
        case measure => simp [intOf]; omega
      ·rw [if_neg k3] at hcut
       by_cases k4 : L ≤ x.b
       ·rw [if_pos k4] at hcut
        replace hcut := Lib.hid hcut
        have hown5 := hown.alloc (.cells #[.int .u64 x.a, .int .u64 x.b] 177)
        go_wp2_with (go_at_call 99; refine (spans_any _ _ _ (OwnTwo.row hown5) (by omega)).mono ?_; rintro e6 w6 ⟨r6, rfl, hr6, hb6⟩)
        go_ret
        exact ⟨_, rfl, by rw [e.out, hcut.out, List.nil_append, List.append_nil]; exact hr6.mono (bthen hW3 (hB.trans (hone _))).size, bthen (bthen hW3 (hB.trans (hone _))) hb6⟩
       ·rw [if_neg k4] at hcut
        replace hcut := Lib.hid hcut
        go_wp2_with fail
        go_roundw
        case rel => exact ⟨k + 1, out, x.b + 1, by omega, by go_num, rfl, ⟨by omega, by omega⟩, by omega, hown.alloc _, by simpa using hcut, hB.alloc (Nat.le_trans hB.size (Nat.le_refl _)) _⟩
        case measure => simp [intOf]; omega
   ·obtain rfl : k = M.length := by omega
    have hcut := hR.out
    rw [List.drop_length, cutFrom] at hcut
    replace hcut := Lib.hid hcut
    have htw := Lib.hid (tw_parts hf hL)
    have hownA := hown
    have hB2 := hB.size
    have hone := fun o => (bone wr o).mono hB.size
    unfold W64 at hL
    go_wp2_with (first | (at_builtin; refine wpl_append_two rfl _ _ 156 rfl w3.heap.size 177 infoEnds Tryz.underlying156 (.slice ao out.length co) out (tw f L) rfl rfl hownA ?_ ?_ ?_ ?_ ?_; (focus (first | rfl | (simp; done))); (focus (exact ⟨htw.out.1.symm, htw.out.2.symm⟩)); (focus omega); (focus (first | omega | (simp; omega))); intro vn w5 hown5 hbel5 hgrow5; have hb5 := hbel5 _ (Nat.le_refl _); clear hbel5 hgrow5) | (go_at_call 99; refine (spans_any _ _ _ (OwnTwo.row hown5) (by simp only [List.length_append, List.length_cons, List.length_nil]; omega)).mono ?_; rintro e6 w6 ⟨r6, rfl, hr6, hb6⟩))
    go_ret
    exact ⟨_, rfl, by rw [e.out, hcut.out]; exact hr6.mono (bthen hW3 (hB.trans hb5)).size, bthen (bthen hW3 (hB.trans hb5)) hb6⟩
end Go.Proofs.YtiblhlaemmdphaaGreat
