/- The walk of the statement FrameLasts. -/
import Derived.Test.YtehijlgopmbglaaFrameE
namespace Go.Proofs.Ytehijlgopmbglaa
open Go Go.RowKit Go.BigFrame

def runsV (p : Pl) (l : List AskV) : Pl := l.foldl (fun p a => (runV p a.n a.al).1) p
theorem runsV_succ (p : Pl) (l : List AskV) (k : Nat) (hk : k < l.length) : runsV p (l.take (k + 1)) = (runV (runsV p (l.take k)) l[k].n l[k].al).1 := by
  unfold runsV; rw [List.take_succ_eq_append_getElem hk, List.foldl_append]; rfl
/-- A pool after some asks. -/
structure PlSt (p : Pl) (T : Int) (k : Nat) : Prop where
  ok : PlOk p
  inv : PlInv p
  o0 : 0 ≤ p.out
  oT : p.out ≤ T
  len : p.used.length ≤ 3 * k
theorem PlSt.le {p : Pl} {T : Int} {k : Nat} (h : PlSt p T k) : p.out ≤ p.count := by
  have h1 := h.inv.num
  have h2 := List.countP_le_length (p := fun (k : Nat) => inV p.used (p.from' + 4096 * (k : Int))) (l := List.range p.count.toNat)
  have h3 := h.ok.c0
  rw [List.length_range] at h2
  omega
theorem newV_st (s : Two) : PlSt (newV s) 0 0 := by
  obtain ⟨h1, _, h3, h4⟩ := newV_ok s
  exact ⟨h1, newV_inv s, by rw [h4]; omega, by rw [h4]; omega, by rw [h3]; simp⟩
theorem PlSt.step {p : Pl} {T : Int} {k : Nat} (h : PlSt p T k) (a : AskV) (hT : T ≤ 1000000) : PlSt (runV p a.n a.al).1 (T + one' a) (k + 1) := by
  have h1 := one_bd a
  rcases runV_cases h.ok a.n a.al a.ha with ⟨s, hg, he, hx1, hx2⟩ | ⟨he, _⟩ | ⟨he, _⟩
  · have n1 := hg.n1
    have n2 := hg.n2
    have ho := h.oT
    obtain ⟨i1, i2⟩ := take_inv h.ok h.inv hg _ hx1 hx2 (by omega)
    rw [he]
    have e1 : one' a = a.n := if_pos ⟨by omega, n2⟩
    have h0 := h.o0
    refine ⟨takeV_ok h.ok _ _, i1, by show 0 ≤ (takeV p a.n (wantV a.n a.al s)).out; rw [i2]; omega, by show (takeV p a.n (wantV a.n a.al s)).out ≤ _; rw [i2, e1]; omega, ?_⟩
    show (spansV (mergedV (p.used ++ [wantV a.n a.al s]))).length ≤ _
    have q1 := spansV_len (mergedV (p.used ++ [wantV a.n a.al s]))
    have q2 := mergedV_len (p.used ++ [wantV a.n a.al s])
    have q3 := h.len
    rw [List.length_append] at q2
    simp only [List.length_cons, List.length_nil] at q2
    omega
  all_goals
    rw [he]
    exact ⟨h.ok, h.inv, h.o0, by have := h.oT; show p.out ≤ _; omega, by have := h.len; show p.used.length ≤ _; omega⟩
theorem runs_st (s : Two) (l : List AskV) (ht : tot l ≤ 200) : ∀ k, k ≤ l.length → PlSt (runsV (newV s) (l.take k)) (tot (l.take k)) k
  | 0, _ => by simpa [runsV, tot] using newV_st s
  | k + 1, hk => by
    have ih := runs_st s l ht k (by omega)
    rw [runsV_succ _ _ _ (by omega), tot_succ _ _ (by omega)]
    exact ih.step _ (by have := tot_take l k; omega)

set_option maxRecDepth 20000 in
set_option maxHeartbeats 4000000 in
theorem frameLasts_walk (s : Two) (v : Value) (l : List AskV) (w : World) (hv : RowAsk w v l) : Calls Try.prog 4 #[.agg #[.int .u64 s.a, .int .u64 s.b], v] w fun e w' => e = .returned (.bool true) ∧ Below w.heap.size w w' := by
  obtain ⟨a, cap, rfl, hcap, hmx, hrow⟩ := id hv
  unfold maxLen at hmx
  cases hf : fewV l
  · go_enter Try.func4, Try.ntmps4
    go_wp2_with fail
    refine (awake_any _).mono ?_; rintro e w1 ⟨rfl, hb1⟩
    have hv1 := hv.below (bnew hb1)
    go_wp2_with fail
    refine (few_any _ l w1 hv1).mono ?_; rintro e w2 ⟨rfl, hb2⟩
    rw [hf]
    go_wp2_with fail
    go_ret
    exact ⟨rfl, bthen (bnew hb1) hb2⟩
  · have hfew : tot l ≤ 200 ∧ l.length ≤ 40 := by unfold fewV at hf; simpa using hf
    obtain ⟨ht, hl40⟩ := hfew
    have hst := runs_st s l ht
    replace hst := Lib.hid hst
    go_enter Try.func4, Try.ntmps4
    go_wp2_with fail
    refine (awake_any _).mono ?_; rintro e w1 ⟨rfl, hb1⟩
    have k1 := alloc_two w (.int .u64 s.a) (.int .u64 s.b) 24
    have c0 := cell_lt hb1 k1.1 (by simp)
    have c1 := cell_lt hb1 k1.2 (by simp)
    have hW1 := bnew hb1
    have hz1 : w.heap.size < w1.heap.size := by have := hb1.size; simp at this; omega
    have hv1 := hv.below hW1
    clear k1 hb1
    go_wp2_with fail
    refine (few_any _ l w1 hv1).mono ?_; rintro e w2 ⟨rfl, hb2⟩
    rw [hf]
    have c0' := cell_lt hb2 c0 hz1
    have c1' := cell_lt hb2 c1 hz1
    have hW2 := bthen hW1 hb2
    clear c0 c1 hb2 hW1
    go_wp2_with fail
    refine (new_any s w2).mono ?_; rintro e w3 ⟨B, rfl, hB, hp3, hb3⟩
    have hW3 := bthen hW2 hb3
    have hBw : w.heap.size ≤ B := Nat.le_trans hW2.size hB
    clear c0' c1' hv hv1
    go_wp2_with fail
    go_loopw [21] (fun i wr => ∃ (k : Nat) (vu : Value), k ≤ l.length ∧ i = .int .i64 k ∧ PoolAt wr B vu (runsV (newV s) (l.take k)) ∧ Below w.heap.size w wr) (fun i _ => l.length - (intOf i).toNat)
    case atStart => exact ⟨0, _, Nat.zero_le _, rfl, hp3, hW3⟩
    case round =>
      obtain ⟨k, vu, hk, rfl, hp, hBel⟩ := hrel
      have hsk := hst.out k hk
      by_cases hlt : k < l.length
      · obtain ⟨b, off, rfl, hbl, hcell⟩ := hrow (by rintro rfl; simp at hlt)
        have h1 := (hcell k hlt).1
        have h2 := (hcell k hlt).2
        rw [← hBel.cell (p := ⟨b, _, none⟩) hbl] at h1 h2
        have hsn := Lib.hid (runsV_succ (newV s) l k hlt)
        have hp' := hp.below (bone wr (.cells #[.int .i64 l[k].n, .int .u64 l[k].al] 32))
        have hr := run_any B vu _ l[k].n l[k].al _ hsk.ok (by have := hsk.len; omega) hp' ⟨hsk.o0, by have := hsk.oT; have := tot_take l k; omega⟩ l[k].ha
        clear hcell hrow
        generalize l[k] = x at *
        go_wp2_with fail
        refine hr.mono ?_
        rintro e w5 ⟨v5, rfl, hp5, hk5⟩
        have hB5 := (hBel.trans ((bone wr _).mono hBel.size)).trans (hk5.below hp' hBw)
        go_wp2_with fail
        go_roundw
        case rel => exact ⟨k + 1, v5, by omega, by go_num, by rw [hsn.out]; exact hp5, hB5⟩
        case measure => simp [intOf]; omega
      · obtain rfl : k = l.length := by omega
        have hle := hsk.le
        have ho0 := hsk.o0
        have hoT := hsk.oT
        have htt := tot_take l l.length
        have hc1 := hsk.ok.c1
        have hlen := hsk.len
        have hcase := alloc_left hsk.ok hsk.inv
        have hok := hsk.ok
        clear hsk hrow hst
        generalize runsV (newV s) (l.take l.length) = p at *
        go_wp2_with fail
        refine (left_any B vu p wr hp ho0 hle (by omega)).mono ?_; rintro e w5 ⟨rfl, hb5⟩
        have hp5 := hp.below hb5
        have hB5 := hBel.trans (hb5.mono hBel.size)
        go_wp2_with fail
        refine (used_any B vu p w5 hp5).mono ?_; rintro e w6 ⟨rfl, rfl⟩
        go_wp2_with fail
        refine (alloc_any B vu p w5 hok (by omega) hp5 ⟨ho0, by omega⟩).mono ?_
        rintro e w6 ⟨v6, rfl, hp6, hk6⟩
        have hB6 := hB5.trans (hk6.below hp5 hBw)
        rcases hcase with ⟨hall, he⟩ | ⟨hall, t, hg, he, hx1, hx2⟩
        · rw [he] at hp6 ⊢
          rw [hall] at hle
          have hl0 : (p.count - p.out == 0) = true := by simp; omega
          replace hall := Lib.hid hall
          go_wp2_with fail
          refine (used_any B v6 p w6 hp6).mono ?_; rintro e w7 ⟨rfl, rfl⟩
          go_wp2_with fail
          go_ret
          exact ⟨rfl, hB6⟩
        · rw [he] at hp6 ⊢
          have hl0 : (p.count - p.out == 0) = false := by simp; omega
          have hout : (takeV p 1 (wantV 1 4096 t)).out = p.out + 1 := by show (p.out + 1) % 18446744073709551616 = _; omega
          have hcnt : (takeV p 1 (wantV 1 4096 t)).count = p.count := rfl
          generalize takeV p 1 (wantV 1 4096 t) = q at *
          go_wp2_with fail
          refine (left_any B v6 q w6 hp6 (by omega) (by omega) (by omega)).mono ?_; rintro e w7 ⟨rfl, hb7⟩
          have hp7 := hp6.below hb7
          rw [hcnt, hout]
          have e1 : (p.count - (p.out + 1) == p.count - p.out - 1) = true := by simp; omega
          have hlw : 1 ≤ p.count - p.out := by omega
          go_wp2_with fail
          refine (used_any B v6 q w7 hp7).mono ?_; rintro e w8 ⟨rfl, rfl⟩
          rw [hout]
          go_wp2_with fail
          go_ret
          exact ⟨rfl, hB6.trans (hb7.mono hB6.size)⟩
end Go.Proofs.Ytehijlgopmbglaa
