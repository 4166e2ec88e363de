/- The walks of the maps of colored spans, the program's and the reference's. -/
import Derived.Test.YtdeldhoeelijeaaMapC
import Derived.Test.YtdeldhoeelijeaaSpanD
namespace Go.Proofs.Ytdeldhoeelijeaa
open Go Go.RowKit Go.BigFrame

def mk5 (ipa : Int) (s : Two) (perm : Int) : M5 := ⟨ipa % 18446744073709551616, s.a, s.b, perm, 0, by unfold W64; omega, s.ha, s.hb⟩
theorem mk5_enc {ipa : Int} (h : W64 ipa) (s : Two) (perm : Int) : (encM [mk5 ipa s perm]).toArray = #[.int .u64 ipa, .int .u64 s.a, .int .u64 s.b, .int .i64 perm, .int .i64 0] := by
  have e : ipa % 18446744073709551616 = ipa := Int.emod_eq_of_lt h.1 h.2
  simp [encM, M5.enc, mk5, e]
def stepM (perm : Int) (st : Int × List M5) (s : Two) : Int × List M5 := (st.1 + s.b, st.2 ++ [mk5 st.1 s perm])
def stM (ipa perm : Int) (l : List Two) (k : Nat) : Int × List M5 := (l.take k).foldl (stepM perm) (ipa, [])
theorem stM_succ (ipa perm : Int) (l : List Two) (k : Nat) (hk : k < l.length) : stM ipa perm l (k + 1) = stepM perm (stM ipa perm l k) l[k] := by
  unfold stM; rw [List.take_succ_eq_append_getElem hk, List.foldl_append]; rfl
theorem stM_len (ipa perm : Int) (l : List Two) : ∀ k, k ≤ l.length → (stM ipa perm l k).2.length = k
  | 0, _ => rfl
  | k + 1, hk => by
    rw [stM_succ _ _ _ _ (by omega)]
    show (_ ++ [_]).length = _
    rw [List.length_append, stM_len ipa perm l k (by omega)]; rfl
def failM (ip : Int) (s : Two) : Bool := decide (1099511627776 ≤ lastV s.a s.b) || decide (1099511627776 - ip < s.b)
def headM (ipa perm : Int) : Bool := decide (ipa % 4096 ≠ 0 ∨ 1099511627776 < ipa ∨ perm < 1 ∨ 7 < perm)
def badMB (ipa : Int) (l : List Two) (perm : Int) : Bool := headM ipa perm || (l.any pageBad || (List.range l.length).any fun k => failM (stM ipa perm l k).1 l[k]!)
def mapsRes (ipa : Int) (l : List Two) (perm : Int) : List M5 × Int := if badMB ipa l perm = true then ([], 190) else ((stM ipa perm l l.length).2, 0)
theorem mapsRes_head {ipa perm : Int} {l : List Two} (h : headM ipa perm = true) : mapsRes ipa l perm = ([], 190) := by
  unfold mapsRes badMB; rw [h]; rfl
theorem mapsRes_page {ipa perm : Int} {l : List Two} (h : l.any pageBad = true) : mapsRes ipa l perm = ([], 190) := by
  unfold mapsRes badMB; rw [h, if_pos (by simp)]
theorem mapsRes_fail {ipa perm : Int} {l : List Two} {k : Nat} (hk : k < l.length) (h : failM (stM ipa perm l k).1 l[k] = true) : mapsRes ipa l perm = ([], 190) := by
  unfold mapsRes badMB
  have : ((List.range l.length).any fun k => failM (stM ipa perm l k).1 l[k]!) = true := List.any_eq_true.2 ⟨k, by simpa using hk, by rw [getElem!_pos l k hk]; exact h⟩
  rw [this, if_pos (by simp)]
theorem mapsRes_good {ipa perm : Int} {l : List Two} (h1 : headM ipa perm = false) (h2 : l.any pageBad = false) (h3 : ∀ k (hk : k < l.length), failM (stM ipa perm l k).1 l[k] = false) : mapsRes ipa l perm = ((stM ipa perm l l.length).2, 0) := by
  unfold mapsRes badMB
  have : ((List.range l.length).any fun k => failM (stM ipa perm l k).1 l[k]!) = false := by
    rw [List.any_eq_false]
    intro k hk
    have hk' : k < l.length := by simpa using hk
    rw [getElem!_pos l k hk', h3 k hk']; simp
  rw [h1, h2, this, if_neg (by simp)]
def MapsOut (w : World) (o : List M5 × Int) (e : Ending) (w' : World) : Prop := ∃ r, e = .returned (.tuple #[r, .int .i64 o.2]) ∧ OwnM 67 w' w.heap.size r o.1 ∧ Below w.heap.size w w'

set_option maxRecDepth 20000 in
set_option maxHeartbeats 4000000 in
theorem maps_any (ipa perm : Int) (v : Value) (l : List Two) (w : World) (hi : W64 ipa) (hv : RowTwo w v l) (hl : l.length ≤ 1000000) :
    Calls Try.prog 17 #[.int .u64 ipa, v, .int .i64 perm] w (MapsOut w (mapsRes ipa l perm)) := by
  have hpg := fun W h => pages_any v l W h (by omega)
  obtain ⟨i0, i1⟩ := hi
  cases hh : headM ipa perm
  · have hh' : ¬ (ipa % 4096 ≠ 0 ∨ 1099511627776 < ipa ∨ perm < 1 ∨ 7 < perm) := of_decide_eq_false hh
    have r1 : (ipa % 4096 != 0) = false := by
      have : ipa % 4096 = 0 := by omega
      simpa using this
    have r2 : ¬ 1099511627776 < ipa := by omega
    have r3 : ¬ perm < 1 := by omega
    have r4 : ¬ 7 < perm := by omega
    cases hp : l.any pageBad
    · rw [hp] at hpg
      have hgood := fun h3 => @mapsRes_good ipa perm l hh hp h3
      have hfail := fun k hk h => @mapsRes_fail ipa perm l k hk h
      generalize mapsRes ipa l perm = R at *
      replace hgood := Lib.hid hgood
      replace hfail := Lib.hid hfail
      clear hh hh' hp
      obtain ⟨a1, cp1, rfl, hcp, hc1⟩ := id hv
      go_enter Try.func17, Try.ntmps17
      go_wp2_with fail
      refine (hpg _ hv).mono ?_; rintro e w1 ⟨rfl, hb1⟩
      clear hpg
      go_wp2_with fail
      go_loopw [0, 8, 33] (fun p o i wr => ∃ k : Nat, k ≤ l.length ∧ i = .int .i64 k ∧ p = .int .u64 (stM ipa perm l k).1 ∧ (0 ≤ (stM ipa perm l k).1 ∧ (stM ipa perm l k).1 ≤ 1099511627776) ∧ OwnM 67 wr w1.heap.size o (stM ipa perm l k).2 ∧ (∀ j (hj : j < l.length), j < k → failM (stM ipa perm l j).1 l[j] = false) ∧ Below w1.heap.size w1 wr) (fun _ _ i _ => l.length - (intOf i).toNat)
      case atStart => exact ⟨0, Nat.zero_le _, rfl, rfl, ⟨i0, by show ipa ≤ _; omega⟩, OwnM.nil _ _ _, fun j _ hj => by omega, Below.refl _ _⟩
      case round =>
        obtain ⟨k, hk, rfl, rfl, ⟨hp0, hp1⟩, hown, hall, hB⟩ := hrel
        have hz := hB.size
        obtain ⟨ao, co, rfl, _, _⟩ := OwnM.row hown
        have hlen := stM_len ipa perm l k hk
        by_cases hlt : k < l.length
        · obtain ⟨b2, o2, rfl, hbl2, hcell⟩ := hc1 (by rintro rfl; simp at hlt)
          have m0 := cell_lt hB (cell_lt hb1 (hcell k hlt).1 hbl2) (Nat.lt_of_lt_of_le hbl2 hb1.size)
          have m1 := cell_lt hB (cell_lt hb1 (hcell k hlt).2 hbl2) (Nat.lt_of_lt_of_le hbl2 hb1.size)
          have hst := stM_succ ipa perm l k hlt
          have hf := hfail.out k hlt
          have hall' : failM (stM ipa perm l k).1 l[k] = false → ∀ j (hj : j < l.length), j < k + 1 → failM (stM ipa perm l j).1 l[j] = false := fun h j hj hj2 => by
            by_cases e : j = k
            · subst e; exact h
            · exact hall j hj (by omega)
          replace hall' := Lib.hid hall'
          clear hall hcell
          rw [hlen] at hown ⊢
          generalize hxk : l[k] = x at *
          generalize hS : stM ipa perm l k = S at *
          obtain ⟨ip, out⟩ := S
          have hll := fun W => last_any x.a x.b W x.ha x.hb
          have hlw := lastV_w x.ha x.hb
          have hxb := x.hb
          unfold W64 at hlw hxb
          have hfe : failM ip x = (decide (1099511627776 ≤ lastV x.a x.b) || decide (1099511627776 - ip < x.b)) := rfl
          have henc := mk5_enc (ipa := ip) (by unfold W64; omega) x perm
          replace henc := Lib.hid henc
          replace hst := Lib.hid hst
          replace hf := Lib.hid hf
          replace hfe := Lib.hid hfe
          clear hxk hS
          generalize lastV x.a x.b = L at *
          have q1 := alloc_two wr (.int .u64 x.a) (.int .u64 x.b) 24
          have q10 := q1.1
          have q11 := q1.2
          clear q1
          by_cases hF1 : 1099511627776 ≤ L
          · have hR := hf.out (by show failM ip x = true; rw [hfe.out, decide_eq_true hF1]; rfl)
            replace hR := Lib.hid hR
            clear hf hfe hall' hst
            go_wp2_with fail
            refine (hll _).mono ?_; rintro e w5 ⟨rfl, hb5⟩
            have hB5 := hB.trans ((bnew hb5).mono hz)
            clear q10 q11
            go_wp2_with fail
            go_ret2
            rw [hR.out]
            exact ⟨_, rfl, OwnM.nil _ _ _, bthen hb1 hB5⟩
          · by_cases hF2 : 1099511627776 - ip < x.b
            · have hR := hf.out (by show failM ip x = true; rw [hfe.out, decide_eq_true hF2]; simp)
              replace hR := Lib.hid hR
              clear hf hfe hall' hst
              go_wp2_with fail
              refine (hll _).mono ?_; rintro e w5 ⟨rfl, hb5⟩
              have hB5 := hB.trans ((bnew hb5).mono hz)
              have n1 := cell_lt hb5 q11 (by simp)
              have hz5 : wr.heap.size + 1 ≤ w5.heap.size := by have := hb5.size; simpa using this
              clear q10 q11
              go_wp2_with fail
              go_ret2
              rw [hR.out]
              exact ⟨_, rfl, OwnM.nil _ _ _, bthen hb1 hB5⟩
            · have hnew := hall'.out (by show failM ip x = false; rw [hfe.out, decide_eq_false hF1, decide_eq_false hF2]; rfl)
              replace hnew := Lib.hid hnew
              have hst2 : stM ipa perm l (k + 1) = (ip + x.b, out ++ [mk5 ip x perm]) := hst.out
              replace hst2 := Lib.hid hst2
              clear hf hfe hall' hst
              replace hp0 : 0 ≤ ip := hp0
              replace hp1 : ip ≤ 1099511627776 := hp1
              replace hown : OwnM 67 wr w1.heap.size (.slice ao k co) out := hown
              have hol : ∀ r, (Value.slice ao k co).ownBlock = some r → r < wr.heap.size := fun r e => (World.ownsRow.lt hown r e).2
              replace hlen : out.length = k := hlen
              replace hlen := Lib.hid hlen
              go_wp2_with fail
              refine (hll _).mono ?_; rintro e w5 ⟨rfl, hb5⟩
              have hB5 := hB.trans ((bnew hb5).mono hz)
              have n0 := cell_lt hb5 q10 (by simp)
              have n1 := cell_lt hb5 q11 (by simp)
              have hz5 : wr.heap.size + 1 ≤ w5.heap.size := by have := hb5.size; simpa using this
              have hown5 := hown.below (bnew hb5) (Nat.le_refl _)
              clear q10 q11 hown
              go_wp2_with (at_builtin; refine wpl_append_map rfl _ _ 40 rfl w1.heap.size 67 infoMap Try.underlying40 (.slice ao k co) out [mk5 ip x perm] rfl rfl ?_ ?_ ?_ ?_ ?_ ?_ ?_; (focus (exact hown5)); (focus rfl); (focus (first | rfl | (simp; done))); (focus (exact henc.out.symm)); (focus (have := hlen.out; simp only [List.length_cons, List.length_nil]; omega)); (focus (first | omega | (simp; omega))); intro v' w6 hown' hbel hgrow; have n1' : w6.cell? ⟨wr.heap.size, 1, none⟩ = some (.int .u64 x.b) := (grown_cell hgrow 1 (by simp; omega) (fun e => by have := hol _ e; omega)).trans (cell_lt (bone _ _) n1 (by omega)))
              go_roundw
              case rel => exact ⟨k + 1, by omega, by go_num, by rw [hst2.out], by rw [hst2.out]; exact ⟨by show 0 ≤ ip + x.b; omega, by show ip + x.b ≤ _; omega⟩, by rw [hst2.out]; exact hown', hnew.out, hB5.trans (hbel _ (Nat.le_refl _))⟩
              case measure => simp [intOf]; omega
        · obtain rfl : k = l.length := by omega
          have hR := hgood.out (fun j hj => hall j hj hj)
          replace hR := Lib.hid hR
          clear hall hgood hfail
          generalize stM ipa perm l l.length = S at *
          go_wp2_with fail
          go_ret2
          rw [hR.out]
          exact ⟨_, rfl, OwnM.mono hown hb1.size, bthen hb1 hB⟩
    · have hR := @mapsRes_page ipa perm l hp
      rw [hp] at hpg
      rw [hR]
      clear hh hh' hp hR
      obtain ⟨a1, cp1, rfl, hcp, _⟩ := id hv
      go_enter Try.func17, Try.ntmps17
      go_wp2_with fail
      refine (hpg _ hv).mono ?_; rintro e w1 ⟨rfl, hb1⟩
      go_wp2_with fail
      go_ret2
      exact ⟨_, rfl, OwnM.nil _ _ _, hb1⟩
  · have hR := @mapsRes_head ipa perm l hh
    rw [hR]
    have hh' : ipa % 4096 ≠ 0 ∨ 1099511627776 < ipa ∨ perm < 1 ∨ 7 < perm := of_decide_eq_true hh
    obtain ⟨a1, cp1, rfl, _, _⟩ := hv
    clear hpg hh hR
    rcases (show ¬ ipa % 4096 = 0 ∨ (ipa % 4096 = 0 ∧ 1099511627776 < ipa) ∨ (ipa % 4096 = 0 ∧ ¬ 1099511627776 < ipa ∧ perm < 1) ∨ (ipa % 4096 = 0 ∧ ¬ 1099511627776 < ipa ∧ ¬ perm < 1 ∧ 7 < perm) by omega) with h1 | ⟨h1, h2⟩ | ⟨h1, h2, h3⟩ | ⟨h1, h2, h3, h4⟩
    all_goals
      clear hh'
      first | (have r1 : (ipa % 4096 != 0) = true := by simpa using h1) | (have r1 : (ipa % 4096 != 0) = false := by simpa using h1)
      go_enter Try.func17, Try.ntmps17
      go_wp2_with fail
      go_ret2
      exact ⟨_, rfl, OwnM.nil _ _ _, Below.refl _ _⟩
end Go.Proofs.Ytdeldhoeelijeaa
