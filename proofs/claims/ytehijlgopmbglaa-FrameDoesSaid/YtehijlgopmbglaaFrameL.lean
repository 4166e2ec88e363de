/- The walk of the statement FrameDoes. -/
import Derived.Test.YtehijlgopmbglaaFrameM
import Derived.Test.YtehijlgopmbglaaFrameG
import Derived.Test.YtehijlgopmbglaaOrd
import Derived.Deep.RegionHeld3
namespace Go.Proofs.Ytehijlgopmbglaa
open Go Go.RowKit Go.BigFrame

theorem new_keep (s : Two) (N : Nat) (W : World) (h0 : W.cell? ⟨N, 0, none⟩ = some (.int .u64 s.a)) (h1 : W.cell? ⟨N, 1, none⟩ = some (.int .u64 s.b)) (hN : N < W.heap.size) :
    Calls Try.prog 9 #[.agg #[.int .u64 s.a, .int .u64 s.b]] W fun e w' => ∃ B, e = .returned (.pointer (some ⟨B, 0, none⟩)) ∧ W.heap.size ≤ B ∧ PoolAt w' B (.slice none 0 0) (newV s) ∧ Below W.heap.size W w' ∧ w'.cell? ⟨N, 0, none⟩ = some (.int .u64 s.a) ∧ w'.cell? ⟨N, 1, none⟩ = some (.int .u64 s.b) :=
  (new_any s W).mono fun e w' ⟨B, he, hB, hp, hb⟩ => ⟨B, he, hB, hp, hb, cell_lt hb h0 hN, cell_lt hb h1 hN⟩

set_option maxRecDepth 20000 in
set_option maxHeartbeats 4000000 in
theorem frameDoes_walk (s : Two) (v : Value) (l : List AskV) (x : Int) (w : World) (hx : W64 x) (hv : RowAsk w v l) : Calls Try.prog 5 #[.agg #[.int .u64 s.a, .int .u64 s.b], v, .int .u64 x] w fun e w' => e = .returned (.bool true) ∧ Below w.heap.size w w' := by
  obtain ⟨a, cap, rfl, hcap, hmx, hrow⟩ := id hv
  unfold maxLen at hmx
  cases hf : fewV l
  · go_enter Try.func5, Try.ntmps5
    go_wp2_with fail
    refine (awake_any _).mono ?_; rintro e w1 ⟨rfl, hb1⟩
    have hv1 := hv.below (bnew hb1)
    go_wp2_with fail
    refine (few_any _ l w1 hv1).mono ?_; rintro e w2 ⟨rfl, hb2⟩
    rw [hf]
    go_wp2_with fail
    go_ret
    exact ⟨rfl, bthen (bnew hb1) hb2⟩
  · have hfew : tot l ≤ 200 ∧ l.length ≤ 40 := by unfold fewV at hf; simpa using hf
    obtain ⟨ht, hl40⟩ := hfew
    have hst := runs_st s l ht
    replace hst := Lib.hid hst
    go_enter Try.func5, Try.ntmps5
    go_wp2_with fail
    refine (awake_any _).mono ?_; rintro e w1 ⟨rfl, hb1⟩
    have k1 := alloc_two w (.int .u64 s.a) (.int .u64 s.b) 24
    have c0 := cell_lt hb1 k1.1 (by simp)
    have c1 := cell_lt hb1 k1.2 (by simp)
    have hW1 := bnew hb1
    have hz1 : w.heap.size + 1 ≤ w1.heap.size := by have := hb1.size; simp at this; omega
    have hv1 := hv.below hW1
    clear k1 hb1
    go_wp2_with fail
    refine (few_any _ l w1 hv1).mono ?_; rintro e w2 ⟨rfl, hb2⟩
    rw [hf]
    have c0' := cell_lt hb2 c0 (by omega)
    have c1' := cell_lt hb2 c1 (by omega)
    have hN2 : w.heap.size < w2.heap.size := Nat.lt_of_lt_of_le hz1 hb2.size
    have hnew := new_keep s w.heap.size
    have hD2 : Below (w.heap.size + 1) w1 w2.drew := (hb2.mono hz1).drew
    go_wp2_with fail
    go_region_held3 (fun w' => w'.cell? ⟨w.heap.size, 0, none⟩ = some (.int .u64 s.a) ∧ w'.cell? ⟨w.heap.size, 1, none⟩ = some (.int .u64 s.b)) (first | assumption | go_keep) ((go_at_call 9; refine (hnew _ (by first | assumption | go_keep) (by first | assumption | go_keep) (by first | omega | (simp; omega))).mono ?_; rintro e w3 ⟨B, rfl, hB, hp3, hb3, q0, q1⟩))
    obtain ⟨C, hC⟩ : ∃ C, C = w3.heap.size := ⟨_, rfl⟩
    have hr0 : RPoolAt (w3.alloc (.cells #[.int .u64 s.a, .int .u64 s.b, .slice none 0 0] 45)) C (.slice none 0 0) s [] := ⟨by rw [hC]; exact World.alloc_heap_new _ _, rfl, .inl ⟨rfl, rfl⟩⟩
    have hp0 := hp3.below (bone w3 (.cells #[.int .u64 s.a, .int .u64 s.b, .slice none 0 0] 45))
    have hBC : B ≠ C := by have := hp3.lt; omega
    have hBl : Below (w.heap.size + 1) w1 (w3.alloc (.cells #[.int .u64 s.a, .int .u64 s.b, .slice none 0 0] 45)) := (hD2.trans (hb3.mono (Nat.le_trans hz1 hD2.size))).trans ((bone w3 _).mono (Nat.le_trans (Nat.le_trans hz1 hD2.size) hb3.size))
    have hB0 : w.heap.size + 1 ≤ B := Nat.le_trans (Nat.le_trans hz1 hD2.size) hB
    have hC0 : w.heap.size + 1 ≤ C := by have := hp3.lt; omega
    have hPr : Pair (w.heap.size + 1) w1 B C _ _ _ _ s [] := ⟨hp0, hr0, hBl, hBC, hB0, hC0, fun q e => by simp [Value.ownBlock] at e, fun q e => by simp [Value.ownBlock] at e⟩
    clear hnew hp0 hr0 hBl hp3 hb3 q0 q1 hD2
    rw [← hC]
    clear hC
    generalize w3.alloc (.cells #[.int .u64 s.a, .int .u64 s.b, .slice none 0 0] 45) = W0 at *
    rotate_left
    obtain ⟨C, hC⟩ : ∃ C, C = w2.heap.size := ⟨_, rfl⟩
    have hr2 : RPoolAt (w2.alloc (.cells #[.int .u64 s.a, .int .u64 s.b, .slice none 0 0] 45)).drew C (.slice none 0 0) s [] := ⟨by rw [hC]; exact World.alloc_heap_new _ _, rfl, .inl ⟨rfl, rfl⟩⟩
    have hr0 := hr2.below hb3
    have hBC : B ≠ C := by have := hr2.lt; omega
    have hBl : Below (w.heap.size + 1) w1 w3 := ((hb2.mono hz1).trans (((bone w2 _).mono (Nat.le_trans hz1 hb2.size)).drew)).trans (hb3.mono (by have := hr2.lt; rw [hC] at this; omega))
    have hC0 : w.heap.size + 1 ≤ C := by omega
    have hB0 : w.heap.size + 1 ≤ B := by have := hr2.lt; omega
    have hPr : Pair (w.heap.size + 1) w1 B C _ _ _ _ s [] := ⟨hp3, hr0, hBl, hBC, hB0, hC0, fun q e => by simp [Value.ownBlock] at e, fun q e => by simp [Value.ownBlock] at e⟩
    clear hnew hr2 hr0 hBl hp3 hb3 q0 q1 hD2
    rw [← hC]
    clear hC
    obtain ⟨W0, hW0⟩ : ∃ W0, W0 = w3 := ⟨_, rfl⟩
    rw [← hW0] at hPr ⊢
    clear hW0
    all_goals
      clear c0' c1' hv1 hb2
      go_wp2_with fail
      refine (refFrames_any C _ s [] W0 hPr.rr).mono ?_; rintro e w4 ⟨rfl, hb4⟩
      have hP4 := hPr.below hb4
      clear hPr hb4
      go_wp2_with fail
      go_loopw [34] (fun i wr => ∃ (k : Nat) (vu vr : Value) (U : List Int), k ≤ l.length ∧ i = .int .i64 k ∧ Pair (w.heap.size + 1) w1 B C wr vu (runsV (newV s) (l.take k)) vr s U ∧ RefInv (runsV (newV s) (l.take k)) U) (fun i _ => l.length - (intOf i).toNat)
      case atStart => exact ⟨0, _, _, [], Nat.zero_le _, rfl, hP4, RefInv.new s⟩
      case round =>
        obtain ⟨k, vu, vr, U, hk, rfl, hP, hI⟩ := hrel
        have hsk := hst.out k hk
        have hUl : U.length ≤ 200 := by have := hI.out; have := hsk.oT; have := tot_take l k; omega
        by_cases hlt : k < l.length
        · obtain ⟨b, off, rfl, hbl, hcell⟩ := hrow (by rintro rfl; simp at hlt)
          have h1 := (hcell k hlt).1
          have h2 := (hcell k hlt).2
          rw [← hW1.cell (p := ⟨b, _, none⟩) hbl] at h1 h2
          replace h1 := cell_lt hP.bel h1 (by omega)
          replace h2 := cell_lt hP.bel h2 (by omega)
          have hsn := Lib.hid (runsV_succ (newV s) l k hlt)
          have hbx := bone wr (.cells #[.int .i64 l[k].n, .int .u64 l[k].al] 32)
          have hP' := hP.below hbx
          have hpo : (runsV (newV s) (l.take k)).out ≤ 200 := by have := hsk.oT; have := tot_take l k; omega
          have hr := run_any B vu _ l[k].n l[k].al _ hsk.ok (by have := hsk.len; omega) hP'.pp ⟨hsk.o0, by omega⟩ l[k].ha
          have hXw := runV_w64 hsk.ok l[k].n l[k].al l[k].ha
          have hq := fun (W : World) (v : Value) (hrr : RPoolAt W C v s U) => refRun_any C v s U _ l[k].n l[k].al W hsk.ok (runs_same s (l.take k)) hI hrr l[k].ha (by omega) (by omega)
          have hlen1 : (runV (runsV (newV s) (l.take k)) l[k].n l[k].al).1.used.length < 9223372036854775808 := by
            have := (hst.out (k + 1) hlt).len
            rw [hsn.out] at this
            omega
          have x0 : (wr.alloc (.cells #[.int .i64 l[k].n, .int .u64 l[k].al] 32)).cell? ⟨wr.heap.size, 0, none⟩ = some (.int .i64 l[k].n) := (alloc_two _ _ _ _).1
          have x1 : (wr.alloc (.cells #[.int .i64 l[k].n, .int .u64 l[k].al] 32)).cell? ⟨wr.heap.size, 1, none⟩ = some (.int .u64 l[k].al) := (alloc_two _ _ _ _).2
          clear hcell hrow hsk hI
          generalize l[k] = y at *
          generalize hp : runsV (newV s) (l.take k) = p at *
          clear hp
          generalize hR : runV p y.n y.al = R at *
          clear hR
          obtain ⟨p', X, bad⟩ := R
          go_wp2_with fail
          refine hr.mono ?_
          rintro e w5 ⟨v5, rfl, hp5, hk5⟩
          clear hr
          have hP5 := hP'.runP hp5 hk5
          have y0 := (hP.cellsP hk5 0).trans x0
          have y1 := (hP.cellsP hk5 1).trans x1
          have hz5 : wr.heap.size + 1 ≤ w5.heap.size := by have := hk5.kept.size; simpa using this
          clear x0 x1 hp5 hk5 h1 h2
          go_wp2_with fail
          refine (hq _ _ hP5.rr).mono ?_
          rintro e w6 ⟨v6, U6, rfl, hr6, hI6, hk6⟩
          clear hq
          have hP6 := hP5.runR hr6 hk6
          clear y0 y1 hr6 hk6 hP5 hP' hP
          go_wp2_with fail
          refine (poolHas_any B v5 p' X w6 hP6.pp hlen1).mono ?_; rintro e w7 ⟨rfl, hb7⟩
          have hP7 := hP6.below hb7
          rw [hI6.has X]
          go_wp2_with fail
          refine (refHas_any C v6 s U6 X w7 hXw hP7.rr).mono ?_; rintro e w8 ⟨rfl, rfl⟩
          generalize decide (X / 4096 * 4096 ∈ U6) = g1
          go_wp2_with fail
          refine (poolHas_any B v5 p' x w7 hP7.pp hlen1).mono ?_; rintro e w8 ⟨rfl, hb8⟩
          have hP8 := hP7.below hb8
          rw [hI6.has x]
          go_wp2_with fail
          refine (refHas_any C v6 s U6 x w8 hx hP8.rr).mono ?_; rintro e w9 ⟨rfl, rfl⟩
          generalize decide (x / 4096 * 4096 ∈ U6) = g2
          go_wp2_with fail
          go_roundw
          case rel => exact ⟨k + 1, v5, v6, U6, by omega, by go_num, by rw [hsn.out]; exact hP8, by rw [hsn.out]; exact hI6⟩
          case measure => simp [intOf]; omega
        · obtain rfl : k = l.length := by omega
          have hle := hsk.le
          have hc1 := hsk.ok.c1
          have ho0 := hsk.o0
          have hsame := (runs_same s (l.take l.length)).2
          have hout := hI.out
          clear hsk hst hrow
          rw [← hsame]
          generalize runsV (newV s) (l.take l.length) = p at *
          obtain ⟨a0, cap0, rfl, hmxU, _⟩ := ownsRow_words hP.rr.own
          obtain ⟨_, _, g2⟩ := hP.rr.cells
          have hBl := hP.rr.lt
          have y2 := later_cell g2 hBl
          have hle' : (U.length : Int) ≤ p.count := by rw [← hout]; exact hle
          have hlf := left_any B vu p
          replace hout := Lib.hid hout
          replace hsame := Lib.hid hsame
          go_wp2_with fail
          refine region_ord (fun z => ∃ X : Later wr.heap.size wr, z = X.x) [([0, 2, 3, 4, 5, 6, 7], 1), ([8, 9, 10, 12, 13, 14, 15, 16, 17, 18, 19], 11)] [20, 21, 22] (by kernel_rfl) (by kernel_rfl) (by kernel_rfl) (by kernel_rfl) ⟨⟨_, (Below.refl _ _).drew⟩, rfl⟩ ?_
          simp only [List.map_cons, List.map_nil, List.filterMap_cons, List.filterMap_nil, List.getElem?_cons_succ, List.getElem?_cons_zero]
          have hB10 : Below wr.heap.size wr wr.drew := (Below.refl _ _).drew
          have hP10 := hP.below hB10
          generalize wr.drew = w10 at *
          refine ord_step ?_
          repeat (change wpQuiet _ _ _ _ (List.cons _ _) _; go_big_quiet_step (fail))
          refine wpQuiet_nil ?_
          intro Q₁ hQ₁
          go_wp2_with fail
          refine (used_any B vu p w10 hP10.pp).mono ?_; rintro e w11 ⟨rfl, rfl⟩
          rw [hout.out]
          go_wp2_with fail
          refine hQ₁ _ _ ⟨⟨_, hB10⟩, rfl⟩ ?_
          clear hQ₁ Q₁
          refine ord_step ?_
          repeat (change wpQuiet _ _ _ _ (List.cons _ _) _; go_big_quiet_step (fail))
          refine wpQuiet_nil ?_
          intro Q₁ hQ₁
          go_wp2_with fail
          refine (hlf w10 hP10.pp ho0 hle (by omega)).mono ?_; rintro e w12 ⟨rfl, hb12⟩
          have hB12 : Below wr.heap.size wr w12 := bthen hB10 hb12
          have hP12 := hP10.below hb12
          rw [hout.out]
          go_wp2_with fail
          refine hQ₁ _ _ ⟨⟨_, hB12⟩, rfl⟩ ?_
          clear hQ₁ Q₁
          refine ord_last ?_
          repeat (change wpQuiet _ _ _ _ (List.cons _ _) _; go_big_quiet_step (fail))
          refine wpQuiet_nil ?_
          go_wp2_with fail
          go_ret
          exact ⟨rfl, hW1.trans (hP12.bel.mono (by omega))⟩
end Go.Proofs.Ytehijlgopmbglaa
