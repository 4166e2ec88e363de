/- The walks of the reference's page, SameMaps (at lists alike) and Good. -/
import Derived.Test.YtiblhlaemmdphaaGreatTableBuildsP5
import Derived.Test.YtiblhlaemmdphaaGreatTableBuildsP6
import Derived.Test.YtiblhlaemmdphaaGreatTableBuildsP13
import Derived.Test.YtiblhlaemmdphaaGreatTableBuildsP14
namespace Go.Proofs.YtiblhlaemmdphaaGreat
open Go Go.RowKit Go.BigFrame
theorem infoMap : InfoM Tryz.prog 59 := by unfold InfoM; kernel_rfl
def pageM (b n : Int) : Bool := (goodB b n && (decide (b % 4096 = 0) && decide (n % 4096 = 0))) && decide (lastV b n < 1099511627776)
theorem pageM_iff {b n : Int} : pageM b n = true ↔ 0 < n ∧ b + (n - 1) < 1099511627776 ∧ b % 4096 = 0 ∧ n % 4096 = 0 := by
 unfold pageM
 rw [Bool.and_eq_true, Bool.and_eq_true, Bool.and_eq_true, decide_eq_true_iff, decide_eq_true_iff, decide_eq_true_iff, goodB_iff]
 constructor
 ·rintro ⟨⟨h1, h2, h3⟩, h4⟩
  rw [lastV_yes (goodB_iff.2 h1)] at h4
  exact ⟨h1.1, h4, h2, h3⟩
 ·rintro ⟨h1, h2, h3, h4⟩
  have hg : goodB b n = true := goodB_iff.2 ⟨h1, by omega⟩
  exact ⟨⟨⟨h1, by omega⟩, h3, h4⟩, by rw [lastV_yes hg]; exact h2⟩
set_option maxHeartbeats 1000000 in
theorem page_any (x : Two) (w : World) : Calls Tryz.prog 77 #[.int .u64 x.a, .int .u64 x.b] w fun e w' => e = .returned (.bool (pageM x.a x.b)) ∧ Below w.heap.size w w' := by
 have hp := fun W => refPages_any x W
 have hl := fun W => refLast_any x.a x.b W x.ha x.hb
 rw [pageBad_not] at hp
 unfold pageM
 have k1 := alloc_two w (.int .u64 x.a) (.int .u64 x.b) 28
 generalize (goodB x.a x.b && (decide (x.a % 4096 = 0) && decide (x.b % 4096 = 0))) = b at *
 generalize lastV x.a x.b = L at *
 cases b
 ·go_enter Tryz.func77, Tryz.ntmps77
  go_wp2_with fail
  refine (hp _).mono ?_; rintro e w1 ⟨rfl, hb1⟩
  go_wp2_with fail
  go_ret
  exact ⟨rfl, bnew hb1⟩
 ·go_enter Tryz.func77, Tryz.ntmps77
  go_wp2_with fail
  refine (hp _).mono ?_; rintro e w1 ⟨rfl, hb1⟩
  have c0 := cell_lt hb1 k1.1 (by simp)
  have c1 := cell_lt hb1 k1.2 (by simp)
  go_wp2_with fail
  refine (hl _).mono ?_; rintro e w2 ⟨rfl, hb2⟩
  go_wp2_with fail
  go_ret
  exact ⟨ret_bool (by simp), bthen (bnew hb1) hb2⟩
end Go.Proofs.YtiblhlaemmdphaaGreat
/- The walk of the reference's Good: whether parts may be mapped. -/
namespace Go.Proofs.YtiblhlaemmdphaaGreat
open Go Go.RowKit Go.BigFrame
def elemB (x : M5) : Bool := pageM x.ipa x.sz && (pageM x.pa x.sz && decide (1 ≤ x.perm ∧ x.perm ≤ 7 ∧ 0 ≤ x.kind ∧ x.kind ≤ 1))
def endM (x : M5) : Int := (x.ipa + x.sz) % 18446744073709551616
def nextB (l : List M5) (k : Nat) : Bool := decide (k = 0) || !decide (l[k]!.ipa < endM l[k - 1]!)
def okM (l : List M5) (k : Nat) : Bool := elemB l[k]! && nextB l k
def goodM (l : List M5) : Bool := (List.range l.length).all (okM l)
theorem goodM_no {l : List M5} {k : Nat} (hk : k < l.length) (h : okM l k = false) : goodM l = false := by
 rw [Bool.eq_false_iff]
 intro hg
 have := List.all_eq_true.1 hg k (by simpa using hk)
 rw [h] at this; cases this
theorem goodM_yes {l : List M5} (h : ∀ k, k < l.length → okM l k = true) : goodM l = true := by
 unfold goodM
 rw [List.all_eq_true]
 intro k hk
 exact h k (by simpa using hk)
theorem five_new (W : World) (a b c d e : Value) (t : TypeId) : (W.alloc (.cells #[a, b, c, d, e] t)).cell? ⟨W.heap.size, 0, none⟩ = some a ∧ (W.alloc (.cells #[a, b, c, d, e] t)).cell? ⟨W.heap.size, 1, none⟩ = some b ∧ (W.alloc (.cells #[a, b, c, d, e] t)).cell? ⟨W.heap.size, 2, none⟩ = some c ∧ (W.alloc (.cells #[a, b, c, d, e] t)).cell? ⟨W.heap.size, 3, none⟩ = some d ∧ (W.alloc (.cells #[a, b, c, d, e] t)).cell? ⟨W.heap.size, 4, none⟩ = some e := by
 refine ⟨?_, ?_, ?_, ?_, ?_⟩ <;> simp [World.cell?_alloc_new]
set_option maxRecDepth 20000 in
set_option maxHeartbeats 4000000 in
theorem refGoodM_any (v : Value) (l : List M5) (w : World) (hv : RowM w v l) (hl : l.length ≤ 1099511627776) :
  Calls Tryz.prog 46 #[v] w fun e w' => e = .returned (.bool (goodM l)) ∧ Below w.heap.size w w' := by
 obtain ⟨a1, cp1, rfl, _, hc1⟩ := hv
 go_enter Tryz.func46, Tryz.ntmps46
 go_wp2_with fail
 go_loopw [7] (fun i wr => ∃ k : Nat, k ≤ l.length ∧ i = .int .i64 k ∧ (∀ j, j < k → okM l j = true) ∧ Below w.heap.size w wr) (fun i _ => l.length - (intOf i).toNat)
 case atStart => exact ⟨0, Nat.zero_le _, rfl, fun j hj => by omega, Below.refl _ _⟩
 case round =>
  obtain ⟨k, hk, rfl, hall, hB⟩ := hrel
  have hz := hB.size
  by_cases hlt : k < l.length
  ·obtain ⟨b1, o1, rfl, hb1, hcell1⟩ := hc1 (by rintro rfl; simp at hlt)
   obtain ⟨p0, p1, p2, p3, p4⟩ := hcell1 k hlt
   replace p0 := cell_lt hB p0 hb1
   replace p1 := cell_lt hB p1 hb1
   replace p2 := cell_lt hB p2 hb1
   replace p3 := cell_lt hB p3 hb1
   replace p4 := cell_lt hB p4 hb1
   have hok : okM l k = (elemB l[k] && nextB l k) := by unfold okM; rw [getElem!_pos l k hlt]
   have hno := @goodM_no l k hlt
   have hall' : okM l k = true → ∀ j, j < k + 1 → okM l j = true := fun h j hj => by
    by_cases e : j = k
    ·subst e; exact h
    ·exact hall j (by omega)
   have hnx : ∀ j, k = j + 1 → nextB l k = !decide (l[k].ipa < endM (l[k - 1]'(by omega))) := fun j hj => by
    unfold nextB
    rw [getElem!_pos l k hlt, getElem!_pos l (k - 1) (by omega), decide_eq_false (by omega), Bool.false_or]
   have hprev : ∀ j, k = j + 1 → wr.cell? ⟨b1, o1 + j * 5, none⟩ = some (.int .u64 (l[k - 1]'(by omega)).ipa) ∧ wr.cell? ⟨b1, o1 + j * 5 + 2, none⟩ = some (.int .u64 (l[k - 1]'(by omega)).sz) := fun j hj => by
    subst hj
    obtain ⟨q0, _, q2, _, _⟩ := hcell1 j (by omega)
    exact ⟨cell_lt hB q0 hb1, cell_lt hB q2 hb1⟩
   have hpr : ∃ y : M5, ∀ j, k = j + 1 → y = l[k - 1]'(by omega) := by
    by_cases h : 0 < k
    ·exact ⟨l[k - 1]'(by omega), fun j hj => rfl⟩
    ·exact ⟨l[k], fun j hj => by omega⟩
   obtain ⟨y, hy⟩ := hpr
   have hnx' : ∀ j, k = j + 1 → nextB l k = !decide (l[k].ipa < endM y) := fun j hj => by rw [hnx j hj, hy j hj]
   have hprev' : ∀ j, k = j + 1 → wr.cell? ⟨b1, o1 + j * 5, none⟩ = some (.int .u64 y.ipa) ∧ wr.cell? ⟨b1, o1 + j * 5 + 2, none⟩ = some (.int .u64 y.sz) := fun j hj => by rw [hy j hj]; exact hprev j hj
   have hn0 : k = 0 → nextB l k = true := fun h => by unfold nextB; rw [decide_eq_true h]; rfl
   clear hnx hprev hy hcell1
   generalize l[k] = x at *
   have hpi := fun W => page_any ⟨x.ipa, x.sz, x.hi, x.hs⟩ W
   have hpp := fun W => page_any ⟨x.pa, x.sz, x.hp, x.hs⟩ W
   obtain ⟨m0, m1, m2, m3, m4⟩ := five_new wr (.int .u64 x.ipa) (.int .u64 x.pa) (.int .u64 x.sz) (.int .i64 x.perm) (.int .i64 x.kind) 59
   have hel : elemB x = (pageM x.ipa x.sz && (pageM x.pa x.sz && decide (1 ≤ x.perm ∧ x.perm ≤ 7 ∧ 0 ≤ x.kind ∧ x.kind ≤ 1))) := rfl
   replace hall' := Lib.hid hall'
   replace hnx' := Lib.hid hnx'
   replace hprev' := Lib.hid hprev'
   replace hn0 := Lib.hid hn0
   clear hall
   cases hc1 : pageM x.ipa x.sz
   ·have hg := hno (by rw [hok, hel, hc1]; rfl)
    change ∀ W, Calls _ _ #[.int .u64 x.ipa, .int .u64 x.sz] W fun e w' => e = .returned (.bool (pageM x.ipa x.sz)) ∧ _ at hpi
    rw [hc1] at hpi
    replace hg := Lib.hid hg
    clear hno hok hel hc1
    go_wp2_with fail
    refine (hpi _).mono ?_; rintro e w1 ⟨rfl, hb2⟩
    go_wp2_with fail
    go_ret
    exact ⟨ret_bool hg.out.symm, hB.trans ((bnew hb2).mono hz)⟩
   ·change ∀ W, Calls _ _ #[.int .u64 x.ipa, .int .u64 x.sz] W fun e w' => e = .returned (.bool (pageM x.ipa x.sz)) ∧ _ at hpi
    change ∀ W, Calls _ _ #[.int .u64 x.pa, .int .u64 x.sz] W fun e w' => e = .returned (.bool (pageM x.pa x.sz)) ∧ _ at hpp
    rw [hc1] at hpi
    go_wp2_with fail
    refine (hpi _).mono ?_; rintro e w1 ⟨rfl, hb2⟩
    have n0 := cell_lt hb2 m0 (by simp)
    have n1 := cell_lt hb2 m1 (by simp)
    have n2 := cell_lt hb2 m2 (by simp)
    have n3 := cell_lt hb2 m3 (by simp)
    have n4 := cell_lt hb2 m4 (by simp)
    have hz1 : wr.heap.size + 1 ≤ w1.heap.size := by have := hb2.size; simpa using this
    have hB1 : Below wr.heap.size wr w1 := bnew hb2
    clear m0 m1 m2 m3 m4 hb2 hpi p0 p1 p2 p3 p4
    cases hc2 : pageM x.pa x.sz
    ·have hg := hno (by rw [hok, hel, hc1, hc2]; rfl)
     rw [hc2] at hpp
     replace hg := Lib.hid hg
     clear hno hok hel hc1 hc2
     go_wp2_with fail
     refine (hpp _).mono ?_; rintro e w2 ⟨rfl, hb3⟩
     go_wp2_with fail
     go_ret
     exact ⟨ret_bool hg.out.symm, hB.trans ((bthen hB1 hb3).mono hz)⟩
    ·rw [hc2] at hpp
     have hel2 : elemB x = decide (1 ≤ x.perm ∧ x.perm ≤ 7 ∧ 0 ≤ x.kind ∧ x.kind ≤ 1) := by rw [hel, hc1, hc2]; rfl
     clear hel hc1 hc2
     go_wp2_with fail
     refine (hpp _).mono ?_; rintro e w2 ⟨rfl, hb3⟩
     replace n0 := cell_lt hb3 n0 (by omega)
     replace n1 := cell_lt hb3 n1 (by omega)
     replace n2 := cell_lt hb3 n2 (by omega)
     replace n3 := cell_lt hb3 n3 (by omega)
     replace n4 := cell_lt hb3 n4 (by omega)
     have hz2 : wr.heap.size + 1 ≤ w2.heap.size := Nat.le_trans hz1 hb3.size
     have hB2 := bthen hB1 hb3
     clear hb3 hB1 hz1 hpp
     by_cases hD : 1 ≤ x.perm ∧ x.perm ≤ 7 ∧ 0 ≤ x.kind ∧ x.kind ≤ 1
     ·obtain ⟨g1, g2, g3, g4⟩ := hD
      have hokk : okM l k = nextB l k := by rw [hok, hel2, decide_eq_true ⟨g1, g2, g3, g4⟩]; rfl
      have r1 : ¬ x.perm < 1 := by omega
      have r2 : ¬ 7 < x.perm := by omega
      have r3 : ¬ x.kind < 0 := by omega
      have r4 : ¬ 1 < x.kind := by omega
      replace hokk := Lib.hid hokk
      clear hok hel2 g1 g2 g3 g4
      rcases k with _ | j
      ·have hnew := hall'.out (by rw [hokk.out]; exact hn0.out rfl)
       replace hnew := Lib.hid hnew
       clear hall' hn0 hnx' hprev' hno hokk
       go_wp2_with fail
       refine region_later w2.heap.size w2 (Below.refl _ _) (by kernel_rfl) (by kernel_rfl) ?_
       repeat (go_big_quiet_step (fail))
       refine wpQuiet_nil ?_
       first | (rintro _ ⟨X, rfl⟩) | (intro X)
       have hX := X.h
       go_wp2_with fail
       go_roundw
       case rel => exact ⟨1, by omega, by go_num, hnew.out, hB.trans ((bthen hB2 hX).mono hz)⟩
       case measure => simp [intOf]; omega
      ·obtain ⟨s0, s2⟩ := hprev'.out j rfl
       replace s0 := cell_lt hB2 s0 (by omega)
       replace s2 := cell_lt hB2 s2 (by omega)
       have hnj := hnx'.out j rfl
       have hwj : IntKind.i64.wrap (j : Int) = (j : Int) := by rw [IntKind.wrap_i64]; omega
       have hend : endM y = (y.ipa + y.sz) % 18446744073709551616 := rfl
       replace hend := Lib.hid hend
       have hw : IntKind.u64.wrap (y.ipa + y.sz) = endM y := by rw [IntKind.wrap_u64, hend.out]
       by_cases hq : x.ipa < endM y
       ·have hg := hno (by rw [hokk.out, hnj, decide_eq_true hq]; rfl)
        replace hg := Lib.hid hg
        clear hall' hn0 hnx' hprev' hno hokk hnj hend
        go_wp2_with fail
        refine region_later w2.heap.size w2 (Below.refl _ _) (by kernel_rfl) (by kernel_rfl) ?_
        have y0 := later_cell (B := w2.heap.size) n0 (by omega)
        have y1 := later_cell (B := w2.heap.size) s0 (by omega)
        have y2 := later_cell (B := w2.heap.size) s2 (by omega)
        repeat (go_big_quiet_step (fail))
        refine wpQuiet_nil ?_
        first | (rintro _ ⟨X, rfl⟩) | (intro X)
        have hX := X.h
        clear y0 y1 y2
        go_wp2_with fail
        go_ret
        exact ⟨ret_bool hg.out.symm, hB.trans ((bthen hB2 hX).mono hz)⟩
       ·have hnew := hall'.out (by rw [hokk.out, hnj, decide_eq_false hq]; rfl)
        replace hnew := Lib.hid hnew
        clear hall' hn0 hnx' hprev' hno hokk hnj hend
        go_wp2_with fail
        refine region_later w2.heap.size w2 (Below.refl _ _) (by kernel_rfl) (by kernel_rfl) ?_
        have y0 := later_cell (B := w2.heap.size) n0 (by omega)
        have y1 := later_cell (B := w2.heap.size) s0 (by omega)
        have y2 := later_cell (B := w2.heap.size) s2 (by omega)
        repeat (go_big_quiet_step (fail))
        refine wpQuiet_nil ?_
        first | (rintro _ ⟨X, rfl⟩) | (intro X)
        have hX := X.h
        clear y0 y1 y2
        go_wp2_with fail
        go_roundw
        case rel => exact ⟨j + 1 + 1, by omega, by go_num, hnew.out, hB.trans ((bthen hB2 hX).mono hz)⟩
        case measure => simp [intOf]; omega
     ·have hg := hno (by rw [hok, hel2, decide_eq_false hD]; rfl)
      replace hg := Lib.hid hg
      clear hno hok hel2
      rcases (show x.perm < 1 ∨ (¬ x.perm < 1 ∧ 7 < x.perm) ∨ (¬ x.perm < 1 ∧ ¬ 7 < x.perm ∧ x.kind < 0) ∨ (¬ x.perm < 1 ∧ ¬ 7 < x.perm ∧ ¬ x.kind < 0 ∧ 1 < x.kind) by omega) with r1 | ⟨r1, r2⟩ | ⟨r1, r2, r3⟩ | ⟨r1, r2, r3, r4⟩
      all_goals
       clear hD
       go_wp2_with fail
       go_ret
       exact ⟨ret_bool hg.out.symm, hB.trans (hB2.mono hz)⟩
  ·obtain rfl : k = l.length := by omega
   have hg := Lib.hid (goodM_yes hall)
   clear hall
   go_wp2_with fail
   go_ret
   exact ⟨ret_bool hg.out.symm, hB⟩
end Go.Proofs.YtiblhlaemmdphaaGreat
/- The walks of the sizes of blocks and of the level with which a part begins, the program's and the reference's. -/
namespace Go.Proofs.YtiblhlaemmdphaaGreat
open Go Go.RowKit Go.BigFrame
def szK (k : Int) : Int := if k = 1 then 1073741824 else if k = 2 then 2097152 else if k = 3 then 4096 else 0
def lvB (x : M5) (k : Int) : Bool := decide (x.ipa % szK k = 0) && decide (x.pa % szK k = 0) && decide (szK k ≤ x.sz)
def lvM (x : M5) : Int := if lvB x 1 = true then 1 else if lvB x 2 = true then 2 else 3
theorem or_pow (a b : Int) (n : Nat) (ha : W64 a) (hb : W64 b) : (bits BinOp.or IntKind.u64 a b % ((2 ^ n : Nat) : Int) == 0) = (decide (a % ((2 ^ n : Nat) : Int) = 0) && decide (b % ((2 ^ n : Nat) : Int) = 0)) := by
 obtain ⟨ha0, ha1⟩ := ha
 obtain ⟨hb0, hb1⟩ := hb
 obtain ⟨x, rfl⟩ := Int.eq_ofNat_of_zero_le ha0
 obtain ⟨y, rfl⟩ := Int.eq_ofNat_of_zero_le hb0
 rw [bits_or_u64_nat _ _ (by omega) (by omega)]
 have h1 : (x ||| y) % 2 ^ n = (x % 2 ^ n) ||| (y % 2 ^ n) := Nat.or_mod_two_pow
 have h2 : ((x ||| y) % 2 ^ n = 0) ↔ x % 2 ^ n = 0 ∧ y % 2 ^ n = 0 := by rw [h1, Nat.or_eq_zero_iff]
 rw [Bool.eq_iff_iff, Bool.and_eq_true, decide_eq_true_iff, decide_eq_true_iff, beq_iff_eq]
 have c : ∀ z : Nat, ((z : Int) % ((2 ^ n : Nat) : Int) = 0) ↔ z % 2 ^ n = 0 := fun z => by
  rw [← Int.natCast_emod]; exact_mod_cast Iff.rfl
 rw [c, c, c, h2]
set_option maxHeartbeats 1000000 in
theorem sizeK_any (k : Int) (w : World) (hk : k = 1 ∨ k = 2 ∨ k = 3) : Calls Tryz.prog 55 #[.int .i64 k] w fun e w' => e = .returned (.int .u64 (szK k)) ∧ w = w' := by
 rcases hk with rfl | rfl | rfl
 all_goals
  go_enter Tryz.func55, Tryz.ntmps55
  go_wp2_with fail
  go_ret
  exact ⟨rfl, rfl⟩
set_option maxHeartbeats 1000000 in
theorem refSize_any (k : Int) (w : World) (hk : k = 1 ∨ k = 2 ∨ k = 3) : Calls Tryz.prog 47 #[.int .i64 k] w fun e w' => e = .returned (.int .u64 (szK k)) ∧ w = w' := by
 rcases hk with rfl | rfl | rfl
 all_goals
  go_enter Tryz.func47, Tryz.ntmps47
  go_wp2_with fail
  go_ret
  exact ⟨rfl, rfl⟩
set_option maxRecDepth 20000 in
set_option maxHeartbeats 4000000 in
theorem level_any (x : M5) (w : World) : Calls Tryz.prog 54 #[.agg #[.int .u64 x.ipa, .int .u64 x.pa, .int .u64 x.sz, .int .i64 x.perm, .int .i64 x.kind]] w fun e w' => e = .returned (.int .i64 (lvM x)) ∧ Below w.heap.size w w' := by
 have h1 := or_pow x.ipa x.pa 30 x.hi x.hp
 have h2 := or_pow x.ipa x.pa 21 x.hi x.hp
 rw [show ((2 ^ 30 : Nat) : Int) = 1073741824 from rfl] at h1
 rw [show ((2 ^ 21 : Nat) : Int) = 2097152 from rfl] at h2
 have e1 : lvB x 1 = ((bits BinOp.or IntKind.u64 x.ipa x.pa % 1073741824 == 0) && decide (1073741824 ≤ x.sz)) := by rw [h1]; rfl
 have e2 : lvB x 2 = ((bits BinOp.or IntKind.u64 x.ipa x.pa % 2097152 == 0) && decide (2097152 ≤ x.sz)) := by rw [h2]; rfl
 obtain ⟨m0, m1, m2, m3, m4⟩ := five_new w (.int .u64 x.ipa) (.int .u64 x.pa) (.int .u64 x.sz) (.int .i64 x.perm) (.int .i64 x.kind) 59
 have hb := bone w (.cells #[.int .u64 x.ipa, .int .u64 x.pa, .int .u64 x.sz, .int .i64 x.perm, .int .i64 x.kind] 59)
 have hor0 : 0 ≤ bits BinOp.or IntKind.u64 x.ipa x.pa := by
  obtain ⟨a, ha⟩ := Int.eq_ofNat_of_zero_le x.hi.1
  obtain ⟨b, hb⟩ := Int.eq_ofNat_of_zero_le x.hp.1
  have hA := x.hi.2
  have hB := x.hp.2
  rw [ha, hb, bits_or_u64_nat _ _ (by omega) (by omega)]
  omega
 have s1 := fun W => sizeK_any 1 W (by omega)
 have s2 := fun W => sizeK_any 2 W (by omega)
 change ∀ W, Calls _ _ _ W fun e w' => e = .returned (.int .u64 1073741824) ∧ W = w' at s1
 change ∀ W, Calls _ _ _ W fun e w' => e = .returned (.int .u64 2097152) ∧ W = w' at s2
 clear h1 h2
 have hl : lvM x = if lvB x 1 = true then 1 else if lvB x 2 = true then 2 else 3 := rfl
 replace e1 := Lib.hid e1
 replace e2 := Lib.hid e2
 replace hl := Lib.hid hl
 go_enter Tryz.func54, Tryz.ntmps54
 go_wp2_with fail
 go_loop [3] (fun i => (i = .int .i64 1) ∨ (i = .int .i64 2 ∧ lvB x 1 = false) ∨ (i = .int .i64 3 ∧ lvB x 1 = false ∧ lvB x 2 = false)) (fun i => 3 - (intOf i).toNat)
 case atStart => exact .inl rfl
 case round =>
  rcases hrel with rfl | ⟨rfl, hv1⟩ | ⟨rfl, hv1, hv2⟩
  ·go_wp2_with fail
   refine (s1 _).mono ?_; rintro e w1 ⟨rfl, rfl⟩
   by_cases q1 : (bits BinOp.or IntKind.u64 x.ipa x.pa % 1073741824 == 0) = true
   ·by_cases q2 : 1073741824 ≤ x.sz
    ·have hr : lvM x = 1 := by rw [hl.out, e1.out, q1, decide_eq_true q2]; rfl
     replace hr := Lib.hid hr
     go_wp2_with fail
     go_ret
     exact ⟨by rw [hr.out]; rfl, hb⟩
    ·have hn : lvB x 1 = false := by rw [e1.out, decide_eq_false q2]; simp
     replace hn := Lib.hid hn
     go_wp2_with fail
     exact ⟨.inr (.inl ⟨rfl, hn.out⟩), by simp [intOf]⟩
   ·rw [Bool.not_eq_true] at q1
    have hn : lvB x 1 = false := by rw [e1.out, q1]; rfl
    replace hn := Lib.hid hn
    go_wp2_with fail
    exact ⟨.inr (.inl ⟨rfl, hn.out⟩), by simp [intOf]⟩
  ·replace hv1 := Lib.hid hv1
   go_wp2_with fail
   refine (s2 _).mono ?_; rintro e w1 ⟨rfl, rfl⟩
   by_cases q1 : (bits BinOp.or IntKind.u64 x.ipa x.pa % 2097152 == 0) = true
   ·by_cases q2 : 2097152 ≤ x.sz
    ·have hr : lvM x = 2 := by rw [hl.out, hv1.out, e2.out, q1, decide_eq_true q2]; rfl
     replace hr := Lib.hid hr
     go_wp2_with fail
     go_ret
     exact ⟨by rw [hr.out]; rfl, hb⟩
    ·have hn : lvB x 2 = false := by rw [e2.out, decide_eq_false q2]; simp
     replace hn := Lib.hid hn
     go_wp2_with fail
     exact ⟨.inr (.inr ⟨rfl, hv1.out, hn.out⟩), by simp [intOf]⟩
   ·rw [Bool.not_eq_true] at q1
    have hn : lvB x 2 = false := by rw [e2.out, q1]; rfl
    replace hn := Lib.hid hn
    go_wp2_with fail
    exact ⟨.inr (.inr ⟨rfl, hv1.out, hn.out⟩), by simp [intOf]⟩
  ·have hr : lvM x = 3 := by rw [hl.out, hv1, hv2]; rfl
   replace hr := Lib.hid hr
   clear hv1 hv2
   go_wp2_with fail
   go_ret
   exact ⟨by rw [hr.out]; rfl, hb⟩
end Go.Proofs.YtiblhlaemmdphaaGreat
/- The reference's level. -/
namespace Go.Proofs.YtiblhlaemmdphaaGreat
open Go Go.RowKit Go.BigFrame
theorem refSize_b (k : Int) (W : World) (hk : k = 1 ∨ k = 2 ∨ k = 3) : Calls Tryz.prog 47 #[.int .i64 k] W fun e w' => e = .returned (.int .u64 (szK k)) ∧ Below W.heap.size W w' :=
 (refSize_any k W hk).mono fun e w' ⟨h, e2⟩ => ⟨h, by subst e2; exact Below.refl _ _⟩
set_option maxRecDepth 20000 in
set_option maxHeartbeats 4000000 in
theorem refLevel_any (x : M5) (w : World) : Calls Tryz.prog 48 #[.agg #[.int .u64 x.ipa, .int .u64 x.pa, .int .u64 x.sz, .int .i64 x.perm, .int .i64 x.kind]] w fun e w' => e = .returned (.int .i64 (lvM x)) ∧ Below w.heap.size w w' := by
 have e1 : lvB x 1 = (decide (x.ipa % 1073741824 = 0) && decide (x.pa % 1073741824 = 0) && decide (1073741824 ≤ x.sz)) := rfl
 have e2 : lvB x 2 = (decide (x.ipa % 2097152 = 0) && decide (x.pa % 2097152 = 0) && decide (2097152 ≤ x.sz)) := rfl
 obtain ⟨m0, m1, m2, m3, m4⟩ := five_new w (.int .u64 x.ipa) (.int .u64 x.pa) (.int .u64 x.sz) (.int .i64 x.perm) (.int .i64 x.kind) 59
 have hb := bone w (.cells #[.int .u64 x.ipa, .int .u64 x.pa, .int .u64 x.sz, .int .i64 x.perm, .int .i64 x.kind] 59)
 have s1 := fun W => refSize_b 1 W (by omega)
 have s2 := fun W => refSize_b 2 W (by omega)
 change ∀ W, Calls _ _ _ W fun e w' => e = .returned (.int .u64 1073741824) ∧ Below W.heap.size W w' at s1
 change ∀ W, Calls _ _ _ W fun e w' => e = .returned (.int .u64 2097152) ∧ Below W.heap.size W w' at s2
 have hl : lvM x = if lvB x 1 = true then 1 else if lvB x 2 = true then 2 else 3 := rfl
 have hi0 := x.hi.1
 have hp0 := x.hp.1
 replace e1 := Lib.hid e1
 replace e2 := Lib.hid e2
 replace hl := Lib.hid hl
 have hz : (w.alloc (.cells #[.int .u64 x.ipa, .int .u64 x.pa, .int .u64 x.sz, .int .i64 x.perm, .int .i64 x.kind] 59)).heap.size = w.heap.size + 1 := by simp
 go_enter Tryz.func48, Tryz.ntmps48
 go_wp2_with fail
 generalize w.alloc (.cells #[.int .u64 x.ipa, .int .u64 x.pa, .int .u64 x.sz, .int .i64 x.perm, .int .i64 x.kind] 59) = w0 at *
 replace hz := Lib.hid hz
 go_loopw [3] (fun i wr => ((i = .int .i64 1) ∨ (i = .int .i64 2 ∧ lvB x 1 = false) ∨ (i = .int .i64 3 ∧ lvB x 1 = false ∧ lvB x 2 = false)) ∧ Below w0.heap.size w0 wr) (fun i _ => 3 - (intOf i).toNat)
 case atStart => exact ⟨.inl rfl, Below.refl _ _⟩
 case round =>
  obtain ⟨hrel, hB⟩ := hrel
  have hs := hB.size
  have hbl : w.heap.size < w0.heap.size := by have := hz.out; omega
  have hblr : w.heap.size < wr.heap.size := by omega
  have c0 := cell_lt hB m0 hbl
  have c1 := cell_lt hB m1 hbl
  have c2 := cell_lt hB m2 hbl
  have key : ∀ (n : Int), 0 < n → (x.ipa % n = 0 → x.ipa.tmod n = 0) ∧ (¬ x.ipa % n = 0 → (x.ipa % n == 0) = false) ∧ (x.pa % n = 0 → x.pa.tmod n = 0) ∧ (¬ x.pa % n = 0 → (x.pa % n == 0) = false) := fun n hn => by
   rw [Int.tmod_eq_emod_of_nonneg hi0, Int.tmod_eq_emod_of_nonneg hp0]
   exact ⟨id, fun h => by simpa using h, id, fun h => by simpa using h⟩
  rcases hrel with rfl | ⟨rfl, hv1⟩ | ⟨rfl, hv1, hv2⟩
  ·obtain ⟨t1, t2, t3, t4⟩ := key 1073741824 (by omega)
   have hnz : ¬ (1073741824 : Int) = 0 := by omega
   clear key
   by_cases q1 : x.ipa % 1073741824 = 0
   ·have r1 := t1 q1
    by_cases q2 : x.pa % 1073741824 = 0
    ·have r2 := t3 q2
     by_cases q3 : 1073741824 ≤ x.sz
     ·have hr : lvM x = 1 := by rw [hl.out, e1.out, decide_eq_true q1, decide_eq_true q2, decide_eq_true q3]; rfl
      replace hr := Lib.hid hr
      clear t1 t2 t3 t4 q1 q2
      go_wp2_with fail
      refine region_later wr.heap.size wr (Below.refl _ _) (by kernel_rfl) (by kernel_rfl) ?_
      have y0 := later_cell (B := wr.heap.size) c0 (by omega)
      have y1 := later_cell (B := wr.heap.size) c1 (by omega)
      have y2 := later_cell (B := wr.heap.size) c2 (by omega)
      repeat (first | go_big_quiet_step (fail) | go_big_quiet_step ((go_at_call 47; exact quiet_later (Nat.le_refl _) (s1 _))))
      refine wpQuiet_nil ?_
      first | (rintro _ ⟨X, rfl⟩) | (intro X)
      have hX := X.h
      clear y0 y1 y2
      go_wp2_with fail
      go_ret
      exact ⟨by rw [hr.out]; rfl, bthen hb (bthen hB hX)⟩
     ·have hn : lvB x 1 = false := by rw [e1.out, decide_eq_false q3, Bool.and_false]
      replace hn := Lib.hid hn
      clear t1 t2 t3 t4 q1 q2
      go_wp2_with fail
      refine region_later wr.heap.size wr (Below.refl _ _) (by kernel_rfl) (by kernel_rfl) ?_
      have y0 := later_cell (B := wr.heap.size) c0 (by omega)
      have y1 := later_cell (B := wr.heap.size) c1 (by omega)
      have y2 := later_cell (B := wr.heap.size) c2 (by omega)
      repeat (first | go_big_quiet_step (fail) | go_big_quiet_step ((go_at_call 47; exact quiet_later (Nat.le_refl _) (s1 _))))
      refine wpQuiet_nil ?_
      first | (rintro _ ⟨X, rfl⟩) | (intro X)
      have hX := X.h
      clear y0 y1 y2
      go_wp2_with fail
      exact ⟨⟨.inr (.inl ⟨rfl, hn.out⟩), bthen hB hX⟩, by simp [intOf]⟩
    ·have hn : lvB x 1 = false := by rw [e1.out, decide_eq_false q2, Bool.and_false, Bool.false_and]
     replace hn := Lib.hid hn
     have r2 := t4 q2
     clear t1 t2 t3 t4 q1 q2
     go_wp2_with fail
     refine region_later wr.heap.size wr (Below.refl _ _) (by kernel_rfl) (by kernel_rfl) ?_
     have y0 := later_cell (B := wr.heap.size) c0 (by omega)
     have y1 := later_cell (B := wr.heap.size) c1 (by omega)
     have y2 := later_cell (B := wr.heap.size) c2 (by omega)
     repeat (first | go_big_quiet_step (fail) | go_big_quiet_step ((go_at_call 47; exact quiet_later (Nat.le_refl _) (s1 _))))
     refine wpQuiet_nil ?_
     first | (rintro _ ⟨X, rfl⟩) | (intro X)
     have hX := X.h
     clear y0 y1 y2
     go_wp2_with fail
     exact ⟨⟨.inr (.inl ⟨rfl, hn.out⟩), bthen hB hX⟩, by simp [intOf]⟩
   ·have hn : lvB x 1 = false := by rw [e1.out, decide_eq_false q1, Bool.false_and, Bool.false_and]
    replace hn := Lib.hid hn
    have r1 := t2 q1
    clear t1 t2 t3 t4 q1
    go_wp2_with fail
    refine region_later wr.heap.size wr (Below.refl _ _) (by kernel_rfl) (by kernel_rfl) ?_
    have y0 := later_cell (B := wr.heap.size) c0 (by omega)
    have y1 := later_cell (B := wr.heap.size) c1 (by omega)
    have y2 := later_cell (B := wr.heap.size) c2 (by omega)
    repeat (first | go_big_quiet_step (fail) | go_big_quiet_step ((go_at_call 47; exact quiet_later (Nat.le_refl _) (s1 _))))
    refine wpQuiet_nil ?_
    first | (rintro _ ⟨X, rfl⟩) | (intro X)
    have hX := X.h
    clear y0 y1 y2
    go_wp2_with fail
    exact ⟨⟨.inr (.inl ⟨rfl, hn.out⟩), bthen hB hX⟩, by simp [intOf]⟩
  ·obtain ⟨t1, t2, t3, t4⟩ := key 2097152 (by omega)
   have hnz : ¬ (2097152 : Int) = 0 := by omega
   clear key
   replace hv1 := Lib.hid hv1
   by_cases q1 : x.ipa % 2097152 = 0
   ·have r1 := t1 q1
    by_cases q2 : x.pa % 2097152 = 0
    ·have r2 := t3 q2
     by_cases q3 : 2097152 ≤ x.sz
     ·have hr : lvM x = 2 := by rw [hl.out, hv1.out, e2.out, decide_eq_true q1, decide_eq_true q2, decide_eq_true q3]; rfl
      replace hr := Lib.hid hr
      clear t1 t2 t3 t4 q1 q2
      go_wp2_with fail
      refine region_later wr.heap.size wr (Below.refl _ _) (by kernel_rfl) (by kernel_rfl) ?_
      have y0 := later_cell (B := wr.heap.size) c0 (by omega)
      have y1 := later_cell (B := wr.heap.size) c1 (by omega)
      have y2 := later_cell (B := wr.heap.size) c2 (by omega)
      repeat (first | go_big_quiet_step (fail) | go_big_quiet_step ((go_at_call 47; exact quiet_later (Nat.le_refl _) (s2 _))))
      refine wpQuiet_nil ?_
      first | (rintro _ ⟨X, rfl⟩) | (intro X)
      have hX := X.h
      clear y0 y1 y2
      go_wp2_with fail
      go_ret
      exact ⟨by rw [hr.out]; rfl, bthen hb (bthen hB hX)⟩
     ·have hn : lvB x 2 = false := by rw [e2.out, decide_eq_false q3, Bool.and_false]
      replace hn := Lib.hid hn
      clear t1 t2 t3 t4 q1 q2
      go_wp2_with fail
      refine region_later wr.heap.size wr (Below.refl _ _) (by kernel_rfl) (by kernel_rfl) ?_
      have y0 := later_cell (B := wr.heap.size) c0 (by omega)
      have y1 := later_cell (B := wr.heap.size) c1 (by omega)
      have y2 := later_cell (B := wr.heap.size) c2 (by omega)
      repeat (first | go_big_quiet_step (fail) | go_big_quiet_step ((go_at_call 47; exact quiet_later (Nat.le_refl _) (s2 _))))
      refine wpQuiet_nil ?_
      first | (rintro _ ⟨X, rfl⟩) | (intro X)
      have hX := X.h
      clear y0 y1 y2
      go_wp2_with fail
      exact ⟨⟨.inr (.inr ⟨rfl, hv1.out, hn.out⟩), bthen hB hX⟩, by simp [intOf]⟩
    ·have hn : lvB x 2 = false := by rw [e2.out, decide_eq_false q2, Bool.and_false, Bool.false_and]
     replace hn := Lib.hid hn
     have r2 := t4 q2
     clear t1 t2 t3 t4 q1 q2
     go_wp2_with fail
     refine region_later wr.heap.size wr (Below.refl _ _) (by kernel_rfl) (by kernel_rfl) ?_
     have y0 := later_cell (B := wr.heap.size) c0 (by omega)
     have y1 := later_cell (B := wr.heap.size) c1 (by omega)
     have y2 := later_cell (B := wr.heap.size) c2 (by omega)
     repeat (first | go_big_quiet_step (fail) | go_big_quiet_step ((go_at_call 47; exact quiet_later (Nat.le_refl _) (s2 _))))
     refine wpQuiet_nil ?_
     first | (rintro _ ⟨X, rfl⟩) | (intro X)
     have hX := X.h
     clear y0 y1 y2
     go_wp2_with fail
     exact ⟨⟨.inr (.inr ⟨rfl, hv1.out, hn.out⟩), bthen hB hX⟩, by simp [intOf]⟩
   ·have hn : lvB x 2 = false := by rw [e2.out, decide_eq_false q1, Bool.false_and, Bool.false_and]
    replace hn := Lib.hid hn
    have r1 := t2 q1
    clear t1 t2 t3 t4 q1
    go_wp2_with fail
    refine region_later wr.heap.size wr (Below.refl _ _) (by kernel_rfl) (by kernel_rfl) ?_
    have y0 := later_cell (B := wr.heap.size) c0 (by omega)
    have y1 := later_cell (B := wr.heap.size) c1 (by omega)
    have y2 := later_cell (B := wr.heap.size) c2 (by omega)
    repeat (first | go_big_quiet_step (fail) | go_big_quiet_step ((go_at_call 47; exact quiet_later (Nat.le_refl _) (s2 _))))
    refine wpQuiet_nil ?_
    first | (rintro _ ⟨X, rfl⟩) | (intro X)
    have hX := X.h
    clear y0 y1 y2
    go_wp2_with fail
    exact ⟨⟨.inr (.inr ⟨rfl, hv1.out, hn.out⟩), bthen hB hX⟩, by simp [intOf]⟩
  ·have hr : lvM x = 3 := by rw [hl.out, hv1, hv2]; rfl
   replace hr := Lib.hid hr
   clear hv1 hv2
   go_wp2_with fail
   go_ret
   exact ⟨by rw [hr.out]; rfl, bthen hb hB⟩
end Go.Proofs.YtiblhlaemmdphaaGreat
