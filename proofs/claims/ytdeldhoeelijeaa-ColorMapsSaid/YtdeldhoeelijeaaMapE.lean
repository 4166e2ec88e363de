/- The walk of the maps of colored spans, the reference's. -/
import Derived.Test.YtdeldhoeelijeaaMapD
namespace Go.Proofs.Ytdeldhoeelijeaa
open Go Go.RowKit Go.BigFrame

set_option maxRecDepth 20000 in
set_option maxHeartbeats 4000000 in
theorem refMaps_any (ipa perm : Int) (v : Value) (l : List Two) (w : World) (hi : W64 ipa) (hv : RowTwo w v l) (hl : l.length ≤ 1000000) :
    Calls Try.prog 18 #[.int .u64 ipa, v, .int .i64 perm] w (MapsOut w (mapsRes ipa l perm)) := by
  obtain ⟨i0, i1⟩ := hi
  cases hh : headM ipa perm
  · have hh' : ¬ (ipa % 4096 ≠ 0 ∨ 1099511627776 < ipa ∨ perm < 1 ∨ 7 < perm) := of_decide_eq_false hh
    have r1 : (ipa % 4096 != 0) = false := by
      have : ipa % 4096 = 0 := by omega
      simpa using this
    have r2 : ¬ 1099511627776 < ipa := by omega
    have r3 : ¬ perm < 1 := by omega
    have r4 : ¬ 7 < perm := by omega
    have hgood := fun hp h3 => @mapsRes_good ipa perm l hh hp h3
    have hfail := fun k hk h => @mapsRes_fail ipa perm l k hk h
    have hpage := fun (k : Nat) (hk : k < l.length) (h : pageBad l[k] = true) => @mapsRes_page ipa perm l (List.any_eq_true.2 ⟨l[k], List.getElem_mem hk, h⟩)
    generalize mapsRes ipa l perm = R at *
    replace hgood := Lib.hid hgood
    replace hfail := Lib.hid hfail
    replace hpage := Lib.hid hpage
    clear hh hh'
    obtain ⟨a1, cp1, rfl, hcp, hc1⟩ := id hv
    go_enter Try.func18, Try.ntmps18
    go_wp2_with fail
    go_loopw [0, 8, 28] (fun p o i wr => ∃ k : Nat, k ≤ l.length ∧ i = .int .i64 k ∧ p = .int .u64 (stM ipa perm l k).1 ∧ (0 ≤ (stM ipa perm l k).1 ∧ (stM ipa perm l k).1 ≤ 1099511627776) ∧ OwnM 67 wr w.heap.size o (stM ipa perm l k).2 ∧ (∀ j (hj : j < l.length), j < k → pageBad l[j] = false ∧ failM (stM ipa perm l j).1 l[j] = false) ∧ Below w.heap.size w wr) (fun _ _ i _ => l.length - (intOf i).toNat)
    case atStart => exact ⟨0, Nat.zero_le _, rfl, rfl, ⟨i0, by show ipa ≤ _; omega⟩, OwnM.nil _ _ _, fun j _ hj => by omega, Below.refl _ _⟩
    case round =>
      obtain ⟨k, hk, rfl, rfl, ⟨hp0, hp1⟩, hown, hall, hB⟩ := hrel
      have hz := hB.size
      obtain ⟨ao, co, rfl, _, _⟩ := OwnM.row hown
      have hlen := stM_len ipa perm l k hk
      by_cases hlt : k < l.length
      · obtain ⟨b2, o2, rfl, hbl2, hcell⟩ := hc1 (by rintro rfl; simp at hlt)
        have m0 := cell_lt hB (hcell k hlt).1 hbl2
        have m1 := cell_lt hB (hcell k hlt).2 hbl2
        have hst := stM_succ ipa perm l k hlt
        have hf := hfail.out k hlt
        have hpb := hpage.out k hlt
        have hall' : pageBad l[k] = false ∧ failM (stM ipa perm l k).1 l[k] = false → ∀ j (hj : j < l.length), j < k + 1 → pageBad l[j] = false ∧ failM (stM ipa perm l j).1 l[j] = false := fun h j hj hj2 => by
          by_cases e : j = k
          · subst e; exact h
          · exact hall j hj (by omega)
        replace hall' := Lib.hid hall'
        clear hall hcell
        rw [hlen] at hown ⊢
        generalize hxk : l[k] = x at *
        generalize hS : stM ipa perm l k = S at *
        obtain ⟨ip, out⟩ := S
        have hll := fun W => refLast_any x.a x.b W x.ha x.hb
        have hpx := fun W => refPages_any x W
        have hlw := lastV_w x.ha x.hb
        have hxb := x.hb
        unfold W64 at hlw hxb
        have hfe : failM ip x = (decide (1099511627776 ≤ lastV x.a x.b) || decide (1099511627776 - ip < x.b)) := rfl
        have henc := mk5_enc (ipa := ip) (by unfold W64; omega) x perm
        replace henc := Lib.hid henc
        replace hst := Lib.hid hst
        replace hf := Lib.hid hf
        replace hpb := Lib.hid hpb
        replace hfe := Lib.hid hfe
        clear hxk hS
        generalize lastV x.a x.b = L at *
        have q1 := alloc_two wr (.int .u64 x.a) (.int .u64 x.b) 24
        have q10 := q1.1
        have q11 := q1.2
        clear q1
        cases hpv : pageBad x
        · rw [hpv] at hpx
          have n01 : ∀ w5 : World, Below (wr.heap.size + 1) (wr.alloc (.cells #[.int .u64 x.a, .int .u64 x.b] 24)) w5 → w5.cell? ⟨wr.heap.size, 0, none⟩ = some (.int .u64 x.a) ∧ w5.cell? ⟨wr.heap.size, 1, none⟩ = some (.int .u64 x.b) := fun w5 h => ⟨cell_lt h q10 (by omega), cell_lt h q11 (by omega)⟩
          go_wp2_with fail
          refine (hpx _).mono ?_; rintro e w5 ⟨rfl, hb5⟩
          have hB5 := hB.trans ((bnew hb5).mono hz)
          have n0 := cell_lt hb5 q10 (by simp)
          have n1 := cell_lt hb5 q11 (by simp)
          have hz5 : wr.heap.size + 1 ≤ w5.heap.size := by have := hb5.size; simpa using this
          have hbw5 := bnew hb5
          clear q10 q11 n01
          by_cases hF1 : 1099511627776 ≤ L
          · have hR := hf.out (by show failM ip x = true; rw [hfe.out, decide_eq_true hF1]; rfl)
            replace hR := Lib.hid hR
            clear hf hfe hall' hst hpb
            go_wp2_with fail
            refine (hll _).mono ?_; rintro e w6 ⟨rfl, hb6⟩
            go_wp2_with fail
            go_ret2
            rw [hR.out]
            exact ⟨_, rfl, OwnM.nil _ _ _, bthen hB5 hb6⟩
          · by_cases hF2 : 1099511627776 - ip < x.b
            · have hR := hf.out (by show failM ip x = true; rw [hfe.out, decide_eq_true hF2]; simp)
              replace hR := Lib.hid hR
              clear hf hfe hall' hst hpb
              go_wp2_with fail
              refine (hll _).mono ?_; rintro e w6 ⟨rfl, hb6⟩
              have s1 := cell_lt hb6 n1 (by omega)
              have hz6 : wr.heap.size + 1 ≤ w6.heap.size := Nat.le_trans hz5 hb6.size
              go_wp2_with fail
              go_ret2
              rw [hR.out]
              exact ⟨_, rfl, OwnM.nil _ _ _, bthen hB5 hb6⟩
            · have hnew := hall'.out ⟨hpv, by show failM ip x = false; rw [hfe.out, decide_eq_false hF1, decide_eq_false hF2]; rfl⟩
              replace hnew := Lib.hid hnew
              have hst2 : stM ipa perm l (k + 1) = (ip + x.b, out ++ [mk5 ip x perm]) := hst.out
              replace hst2 := Lib.hid hst2
              clear hf hfe hall' hst hpb
              replace hp0 : 0 ≤ ip := hp0
              replace hp1 : ip ≤ 1099511627776 := hp1
              replace hown : OwnM 67 wr w.heap.size (.slice ao k co) out := hown
              have hol : ∀ r, (Value.slice ao k co).ownBlock = some r → r < wr.heap.size := fun r e => (World.ownsRow.lt hown r e).2
              replace hlen : out.length = k := hlen
              replace hlen := Lib.hid hlen
              go_wp2_with fail
              refine (hll _).mono ?_; rintro e w6 ⟨rfl, hb6⟩
              have s0 := cell_lt hb6 n0 (by omega)
              have s1 := cell_lt hb6 n1 (by omega)
              have hz6 : wr.heap.size + 1 ≤ w6.heap.size := Nat.le_trans hz5 hb6.size
              have hB6 := bthen hB5 hb6
              have hown6 := hown.below (bthen hbw5 hb6) (Nat.le_refl _)
              clear n0 n1 hown
              go_wp2_with (at_builtin; refine wpl_append_map rfl _ _ 40 rfl w.heap.size 67 infoMap Try.underlying40 (.slice ao k co) out [mk5 ip x perm] rfl rfl ?_ ?_ ?_ ?_ ?_ ?_ ?_; (focus (exact hown6)); (focus rfl); (focus (first | rfl | (simp; done))); (focus (exact henc.out.symm)); (focus (have := hlen.out; simp only [List.length_cons, List.length_nil]; omega)); (focus (first | omega | (simp; omega))); intro v' w7 hown' hbel hgrow; have n1' : w7.cell? ⟨wr.heap.size, 1, none⟩ = some (.int .u64 x.b) := (grown_cell hgrow 1 (by simp; omega) (fun e => by have := hol _ e; omega)).trans (cell_lt (bone _ _) s1 (by omega)))
              go_roundw
              case rel => exact ⟨k + 1, by omega, by go_num, by rw [hst2.out], by rw [hst2.out]; exact ⟨by show 0 ≤ ip + x.b; omega, by show ip + x.b ≤ _; omega⟩, by rw [hst2.out]; exact hown', hnew.out, hB6.trans (hbel _ (Nat.le_refl _))⟩
              case measure => simp [intOf]; omega
        · have hR := hpb.out hpv
          rw [hpv] at hpx
          replace hR := Lib.hid hR
          clear hf hfe hall' hst hpb
          go_wp2_with fail
          refine (hpx _).mono ?_; rintro e w5 ⟨rfl, hb5⟩
          have hB5 := hB.trans ((bnew hb5).mono hz)
          go_wp2_with fail
          go_ret2
          rw [hR.out]
          exact ⟨_, rfl, OwnM.nil _ _ _, hB5⟩
      · obtain rfl : k = l.length := by omega
        have hR := hgood.out (by rw [List.any_eq_false]; intro y hy; obtain ⟨j, hj, rfl⟩ := List.getElem_of_mem hy; rw [(hall j hj hj).1]; simp) (fun j hj => (hall j hj hj).2)
        replace hR := Lib.hid hR
        clear hall hgood hfail hpage
        generalize stM ipa perm l l.length = S at *
        go_wp2_with fail
        go_ret2
        rw [hR.out]
        exact ⟨_, rfl, hown, hB⟩
  · have hR := @mapsRes_head ipa perm l hh
    rw [hR]
    have hh' : ipa % 4096 ≠ 0 ∨ 1099511627776 < ipa ∨ perm < 1 ∨ 7 < perm := of_decide_eq_true hh
    obtain ⟨a1, cp1, rfl, _, _⟩ := hv
    clear hh hR
    rcases (show ¬ ipa % 4096 = 0 ∨ (ipa % 4096 = 0 ∧ perm < 1) ∨ (ipa % 4096 = 0 ∧ ¬ perm < 1 ∧ 7 < perm) ∨ (ipa % 4096 = 0 ∧ ¬ perm < 1 ∧ ¬ 7 < perm ∧ 1099511627776 < ipa) by omega) with h1 | ⟨h1, h2⟩ | ⟨h1, h2, h3⟩ | ⟨h1, h2, h3, h4⟩
    all_goals
      clear hh'
      first | (have r1 : (ipa % 4096 != 0) = true := by simpa using h1) | (have r1 : (ipa % 4096 != 0) = false := by simpa using h1)
      go_enter Try.func18, Try.ntmps18
      go_wp2_with fail
      go_ret2
      exact ⟨_, rfl, OwnM.nil _ _ _, Below.refl _ _⟩
end Go.Proofs.Ytdeldhoeelijeaa
