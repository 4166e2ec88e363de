/- The walk of the reference's Good: whether parts may be mapped. -/
import Derived.Test.YtffdfeekpfmbeaaValidMapsP12
namespace Go.Proofs.Ytffdfeekpfmbeaa
open Go Go.RowKit Go.BigFrame

def elemB (x : M5) : Bool := pageM x.ipa x.sz && (pageM x.pa x.sz && decide (1 ≤ x.perm ∧ x.perm ≤ 7 ∧ 0 ≤ x.kind ∧ x.kind ≤ 1))
def endM (x : M5) : Int := (x.ipa + x.sz) % 18446744073709551616
def nextB (l : List M5) (k : Nat) : Bool := decide (k = 0) || !decide (l[k]!.ipa < endM l[k - 1]!)
def okM (l : List M5) (k : Nat) : Bool := elemB l[k]! && nextB l k
/-- Whether parts may be mapped. -/
def goodM (l : List M5) : Bool := (List.range l.length).all (okM l)
theorem goodM_no {l : List M5} {k : Nat} (hk : k < l.length) (h : okM l k = false) : goodM l = false := by
  rw [Bool.eq_false_iff]
  intro hg
  have := List.all_eq_true.1 hg k (by simpa using hk)
  rw [h] at this; cases this
theorem goodM_yes {l : List M5} (h : ∀ k, k < l.length → okM l k = true) : goodM l = true := by
  unfold goodM
  rw [List.all_eq_true]
  intro k hk
  exact h k (by simpa using hk)
theorem five_new (W : World) (a b c d e : Value) (t : TypeId) : (W.alloc (.cells #[a, b, c, d, e] t)).cell? ⟨W.heap.size, 0, none⟩ = some a ∧ (W.alloc (.cells #[a, b, c, d, e] t)).cell? ⟨W.heap.size, 1, none⟩ = some b ∧ (W.alloc (.cells #[a, b, c, d, e] t)).cell? ⟨W.heap.size, 2, none⟩ = some c ∧ (W.alloc (.cells #[a, b, c, d, e] t)).cell? ⟨W.heap.size, 3, none⟩ = some d ∧ (W.alloc (.cells #[a, b, c, d, e] t)).cell? ⟨W.heap.size, 4, none⟩ = some e := by
  refine ⟨?_, ?_, ?_, ?_, ?_⟩ <;> simp [World.cell?_alloc_new]

set_option maxRecDepth 20000 in
set_option maxHeartbeats 4000000 in
theorem refGoodM_any (v : Value) (l : List M5) (w : World) (hv : RowM w v l) (hl : l.length ≤ 1099511627776) :
    Calls Try.prog 13 #[v] w fun e w' => e = .returned (.bool (goodM l)) ∧ Below w.heap.size w w' := by
  obtain ⟨a1, cp1, rfl, _, hc1⟩ := hv
  go_enter Try.func13, Try.ntmps13
  go_wp2_with fail
  go_loopw [7] (fun i wr => ∃ k : Nat, k ≤ l.length ∧ i = .int .i64 k ∧ (∀ j, j < k → okM l j = true) ∧ Below w.heap.size w wr) (fun i _ => l.length - (intOf i).toNat)
  case atStart => exact ⟨0, Nat.zero_le _, rfl, fun j hj => by omega, Below.refl _ _⟩
  case round =>
    obtain ⟨k, hk, rfl, hall, hB⟩ := hrel
    have hz := hB.size
    by_cases hlt : k < l.length
    · obtain ⟨b1, o1, rfl, hb1, hcell1⟩ := hc1 (by rintro rfl; simp at hlt)
      obtain ⟨p0, p1, p2, p3, p4⟩ := hcell1 k hlt
      replace p0 := cell_lt hB p0 hb1
      replace p1 := cell_lt hB p1 hb1
      replace p2 := cell_lt hB p2 hb1
      replace p3 := cell_lt hB p3 hb1
      replace p4 := cell_lt hB p4 hb1
      have hok : okM l k = (elemB l[k] && nextB l k) := by unfold okM; rw [getElem!_pos l k hlt]
      have hno := @goodM_no l k hlt
      have hall' : okM l k = true → ∀ j, j < k + 1 → okM l j = true := fun h j hj => by
        by_cases e : j = k
        · subst e; exact h
        · exact hall j (by omega)
      have hnx : ∀ j, k = j + 1 → nextB l k = !decide (l[k].ipa < endM (l[k - 1]'(by omega))) := fun j hj => by
        unfold nextB
        rw [getElem!_pos l k hlt, getElem!_pos l (k - 1) (by omega), decide_eq_false (by omega), Bool.false_or]
      have hprev : ∀ j, k = j + 1 → wr.cell? ⟨b1, o1 + j * 5, none⟩ = some (.int .u64 (l[k - 1]'(by omega)).ipa) ∧ wr.cell? ⟨b1, o1 + j * 5 + 2, none⟩ = some (.int .u64 (l[k - 1]'(by omega)).sz) := fun j hj => by
        subst hj
        obtain ⟨q0, _, q2, _, _⟩ := hcell1 j (by omega)
        exact ⟨cell_lt hB q0 hb1, cell_lt hB q2 hb1⟩
      have hpr : ∃ y : M5, ∀ j, k = j + 1 → y = l[k - 1]'(by omega) := by
        by_cases h : 0 < k
        · exact ⟨l[k - 1]'(by omega), fun j hj => rfl⟩
        · exact ⟨l[k], fun j hj => by omega⟩
      obtain ⟨y, hy⟩ := hpr
      have hnx' : ∀ j, k = j + 1 → nextB l k = !decide (l[k].ipa < endM y) := fun j hj => by rw [hnx j hj, hy j hj]
      have hprev' : ∀ j, k = j + 1 → wr.cell? ⟨b1, o1 + j * 5, none⟩ = some (.int .u64 y.ipa) ∧ wr.cell? ⟨b1, o1 + j * 5 + 2, none⟩ = some (.int .u64 y.sz) := fun j hj => by rw [hy j hj]; exact hprev j hj
      have hn0 : k = 0 → nextB l k = true := fun h => by unfold nextB; rw [decide_eq_true h]; rfl
      clear hnx hprev hy hcell1
      generalize l[k] = x at *
      have hpi := fun W => page_any ⟨x.ipa, x.sz, x.hi, x.hs⟩ W
      have hpp := fun W => page_any ⟨x.pa, x.sz, x.hp, x.hs⟩ W
      obtain ⟨m0, m1, m2, m3, m4⟩ := five_new wr (.int .u64 x.ipa) (.int .u64 x.pa) (.int .u64 x.sz) (.int .i64 x.perm) (.int .i64 x.kind) 77
      have hel : elemB x = (pageM x.ipa x.sz && (pageM x.pa x.sz && decide (1 ≤ x.perm ∧ x.perm ≤ 7 ∧ 0 ≤ x.kind ∧ x.kind ≤ 1))) := rfl
      replace hall' := Lib.hid hall'
      replace hnx' := Lib.hid hnx'
      replace hprev' := Lib.hid hprev'
      replace hn0 := Lib.hid hn0
      clear hall
      cases hc1 : pageM x.ipa x.sz
      · have hg := hno (by rw [hok, hel, hc1]; rfl)
        change ∀ W, Calls _ _ #[.int .u64 x.ipa, .int .u64 x.sz] W fun e w' => e = .returned (.bool (pageM x.ipa x.sz)) ∧ _ at hpi
        rw [hc1] at hpi
        replace hg := Lib.hid hg
        clear hno hok hel hc1
        go_wp2_with fail
        refine (hpi _).mono ?_; rintro e w1 ⟨rfl, hb2⟩
        go_wp2_with fail
        go_ret
        exact ⟨ret_bool hg.out.symm, hB.trans ((bnew hb2).mono hz)⟩
      · change ∀ W, Calls _ _ #[.int .u64 x.ipa, .int .u64 x.sz] W fun e w' => e = .returned (.bool (pageM x.ipa x.sz)) ∧ _ at hpi
        change ∀ W, Calls _ _ #[.int .u64 x.pa, .int .u64 x.sz] W fun e w' => e = .returned (.bool (pageM x.pa x.sz)) ∧ _ at hpp
        rw [hc1] at hpi
        go_wp2_with fail
        refine (hpi _).mono ?_; rintro e w1 ⟨rfl, hb2⟩
        have n0 := cell_lt hb2 m0 (by simp)
        have n1 := cell_lt hb2 m1 (by simp)
        have n2 := cell_lt hb2 m2 (by simp)
        have n3 := cell_lt hb2 m3 (by simp)
        have n4 := cell_lt hb2 m4 (by simp)
        have hz1 : wr.heap.size + 1 ≤ w1.heap.size := by have := hb2.size; simpa using this
        have hB1 : Below wr.heap.size wr w1 := bnew hb2
        clear m0 m1 m2 m3 m4 hb2 hpi p0 p1 p2 p3 p4
        cases hc2 : pageM x.pa x.sz
        · have hg := hno (by rw [hok, hel, hc1, hc2]; rfl)
          rw [hc2] at hpp
          replace hg := Lib.hid hg
          clear hno hok hel hc1 hc2
          go_wp2_with fail
          refine (hpp _).mono ?_; rintro e w2 ⟨rfl, hb3⟩
          go_wp2_with fail
          go_ret
          exact ⟨ret_bool hg.out.symm, hB.trans ((bthen hB1 hb3).mono hz)⟩
        · rw [hc2] at hpp
          have hel2 : elemB x = decide (1 ≤ x.perm ∧ x.perm ≤ 7 ∧ 0 ≤ x.kind ∧ x.kind ≤ 1) := by rw [hel, hc1, hc2]; rfl
          clear hel hc1 hc2
          go_wp2_with fail
          refine (hpp _).mono ?_; rintro e w2 ⟨rfl, hb3⟩
          replace n0 := cell_lt hb3 n0 (by omega)
          replace n1 := cell_lt hb3 n1 (by omega)
          replace n2 := cell_lt hb3 n2 (by omega)
          replace n3 := cell_lt hb3 n3 (by omega)
          replace n4 := cell_lt hb3 n4 (by omega)
          have hz2 : wr.heap.size + 1 ≤ w2.heap.size := Nat.le_trans hz1 hb3.size
          have hB2 := bthen hB1 hb3
          clear hb3 hB1 hz1 hpp
          by_cases hD : 1 ≤ x.perm ∧ x.perm ≤ 7 ∧ 0 ≤ x.kind ∧ x.kind ≤ 1
          · obtain ⟨g1, g2, g3, g4⟩ := hD
            have hokk : okM l k = nextB l k := by rw [hok, hel2, decide_eq_true ⟨g1, g2, g3, g4⟩]; rfl
            have r1 : ¬ x.perm < 1 := by omega
            have r2 : ¬ 7 < x.perm := by omega
            have r3 : ¬ x.kind < 0 := by omega
            have r4 : ¬ 1 < x.kind := by omega
            replace hokk := Lib.hid hokk
            clear hok hel2 g1 g2 g3 g4
            rcases k with _ | j
            · have hnew := hall'.out (by rw [hokk.out]; exact hn0.out rfl)
              replace hnew := Lib.hid hnew
              clear hall' hn0 hnx' hprev' hno hokk
              go_wp2_with fail
              refine region_later w2.heap.size w2 (Below.refl _ _) (by kernel_rfl) (by kernel_rfl) ?_
              repeat (go_big_quiet_step (fail))
              refine wpQuiet_nil ?_
              first | (rintro _ ⟨X, rfl⟩) | (intro X)
              have hX := X.h
              go_wp2_with fail
              go_roundw
              case rel => exact ⟨1, by omega, by go_num, hnew.out, hB.trans ((bthen hB2 hX).mono hz)⟩
              case measure => simp [intOf]; omega
            · obtain ⟨s0, s2⟩ := hprev'.out j rfl
              replace s0 := cell_lt hB2 s0 (by omega)
              replace s2 := cell_lt hB2 s2 (by omega)
              have hnj := hnx'.out j rfl
              have hwj : IntKind.i64.wrap (j : Int) = (j : Int) := by rw [IntKind.wrap_i64]; omega
              have hend : endM y = (y.ipa + y.sz) % 18446744073709551616 := rfl
              replace hend := Lib.hid hend
              have hw : IntKind.u64.wrap (y.ipa + y.sz) = endM y := by rw [IntKind.wrap_u64, hend.out]
              by_cases hq : x.ipa < endM y
              · have hg := hno (by rw [hokk.out, hnj, decide_eq_true hq]; rfl)
                replace hg := Lib.hid hg
                clear hall' hn0 hnx' hprev' hno hokk hnj hend
                go_wp2_with fail
                refine region_later w2.heap.size w2 (Below.refl _ _) (by kernel_rfl) (by kernel_rfl) ?_
                have y0 := later_cell (B := w2.heap.size) n0 (by omega)
                have y1 := later_cell (B := w2.heap.size) s0 (by omega)
                have y2 := later_cell (B := w2.heap.size) s2 (by omega)
                repeat (go_big_quiet_step (fail))
                refine wpQuiet_nil ?_
                first | (rintro _ ⟨X, rfl⟩) | (intro X)
                have hX := X.h
                clear y0 y1 y2
                go_wp2_with fail
                go_ret
                exact ⟨ret_bool hg.out.symm, hB.trans ((bthen hB2 hX).mono hz)⟩
              · have hnew := hall'.out (by rw [hokk.out, hnj, decide_eq_false hq]; rfl)
                replace hnew := Lib.hid hnew
                clear hall' hn0 hnx' hprev' hno hokk hnj hend
                go_wp2_with fail
                refine region_later w2.heap.size w2 (Below.refl _ _) (by kernel_rfl) (by kernel_rfl) ?_
                have y0 := later_cell (B := w2.heap.size) n0 (by omega)
                have y1 := later_cell (B := w2.heap.size) s0 (by omega)
                have y2 := later_cell (B := w2.heap.size) s2 (by omega)
                repeat (go_big_quiet_step (fail))
                refine wpQuiet_nil ?_
                first | (rintro _ ⟨X, rfl⟩) | (intro X)
                have hX := X.h
                clear y0 y1 y2
                go_wp2_with fail
                go_roundw
                case rel => exact ⟨j + 1 + 1, by omega, by go_num, hnew.out, hB.trans ((bthen hB2 hX).mono hz)⟩
                case measure => simp [intOf]; omega
          · have hg := hno (by rw [hok, hel2, decide_eq_false hD]; rfl)
            replace hg := Lib.hid hg
            clear hno hok hel2
            rcases (show x.perm < 1 ∨ (¬ x.perm < 1 ∧ 7 < x.perm) ∨ (¬ x.perm < 1 ∧ ¬ 7 < x.perm ∧ x.kind < 0) ∨ (¬ x.perm < 1 ∧ ¬ 7 < x.perm ∧ ¬ x.kind < 0 ∧ 1 < x.kind) by omega) with r1 | ⟨r1, r2⟩ | ⟨r1, r2, r3⟩ | ⟨r1, r2, r3, r4⟩
            all_goals
              clear hD
              go_wp2_with fail
              go_ret
              exact ⟨ret_bool hg.out.symm, hB.trans (hB2.mono hz)⟩
    · obtain rfl : k = l.length := by omega
      have hg := Lib.hid (goodM_yes hall)
      clear hall
      go_wp2_with fail
      go_ret
      exact ⟨ret_bool hg.out.symm, hB⟩
end Go.Proofs.Ytffdfeekpfmbeaa
