/- The walk of the statement FrameApart. -/
import Derived.Test.YtehijlgopmbglaaFrameF
import Derived.Test.YtehijlgopmbglaaSpanE
namespace Go.Proofs.Ytehijlgopmbglaa
open Go Go.RowKit Go.BigFrame

theorem newV_good (s : Two) (h : 0 < (newV s).count) : goodB s.a s.b = true := by
  unfold newV at h
  split at h
  · rename_i hh; exact hh.1
  · exact absurd h (by decide)
theorem firstFrom_none (l : List Two) (h : ∀ i j, i < j → j < l.length → overlapB l[i]!.a l[i]!.b l[j]!.a l[j]!.b = false) : ∀ k j, j + k = l.length → firstFrom l k j = (0, 0, false)
  | 0, _, _ => rfl
  | k + 1, j, hj => by
    have hm : idxV (ovl l j) (l.take j) = -1 := idxV_miss (by omega) fun i hi => h i j hi (by omega)
    simp only [firstFrom]
    rw [hm, if_neg (by omega)]
    exact firstFrom_none l h k (j + 1) (by omega)
theorem firstV_none (l : List Two) (h : ∀ i j, i < j → j < l.length → overlapB l[i]!.a l[i]!.b l[j]!.a l[j]!.b = false) : firstV l = (0, 0, false) := firstFrom_none l h l.length 0 (by omega)

theorem PoolAt.grown {w w' : World} {B : Nat} {v : Value} {p : Pl} {row : Option Nat} (h : PoolAt w B v p) (hg : w.grownBy w' row) (h1 : row ≠ some B) (h2 : ∀ k, v.ownBlock = some k → row ≠ some k) : PoolAt w' B v p := by
  refine ⟨(hg.block B h.lt (fun e => h1 e.symm)).trans h.blk, h.own.1, ?_⟩
  rcases h.own.2 with hc | ⟨g, cap, cur, hv, hb, hgk, hr⟩
  · exact .inl hc
  · refine .inr ⟨g, cap, cur, hv, hb, (hg.block g (Array.getElem?_eq_some_iff.1 hgk).1 (fun e => h2 g ?_ e.symm)).trans hgk, hr⟩
    rw [hv]; rfl
theorem OwnTwo.kept {E : TypeId} {w w' : World} {base B : Nat} {v u : Value} {l : List Two} (h : OwnTwo E w base u l) (hk : Kept B v w w') (h1 : ∀ k, u.ownBlock = some k → k ≠ B ∧ v.ownBlock ≠ some k) : OwnTwo E w' base u l := by
  refine ⟨h.1, ?_⟩
  rcases h.2 with hc | ⟨g, cap, cur, hv, hb, hgk, hr⟩
  · exact .inl hc
  · have := h1 g (by rw [hv]; rfl)
    exact .inr ⟨g, cap, cur, hv, hb, (hk.block g (Array.getElem?_eq_some_iff.1 hgk).1 this.1 this.2).trans hgk, hr⟩
theorem wpl_append_at {P : Program} {ops : Array Oper} {rest : List Oper} {o : Oper} {a : Act} {Q : Exit → Act → World → Prop} {w : World} {p q : Int} {g : Nat} (hgd : o.guard = none) (s x : Operand) (S : TypeId)
    (ho : o.op = .call { callee := .builtin .append, args := #[s, x], argTypes := #[S, S] })
    (base : Nat) (E : TypeId) (hi : InfoTwo P E) (ht : P.underlying S = some (.slice E)) (v : Value) (l : List Two) (y : Two) (hs : a.eval s = v)
    (hx : a.eval x = .slice (some ⟨g, 0, none⟩) 1 1) (hown : OwnTwo E w base v l) (hg : g = w.heap.size) (hy : p = y.a ∧ q = y.b) (hl : l.length < 4398046511104) (hbase : base ≤ w.heap.size)
    (h : ∀ v' w', OwnTwo E w' base v' (l ++ [y]) → (w.alloc (.cells #[.int .u64 p, .int .u64 q] E)).grownBy w' v.ownBlock → (v'.ownBlock = v.ownBlock ∨ v'.ownBlock = some (w.heap.size + 1)) → wpList P ops Q rest (a.put o.dst v') w') :
    wpList P ops Q (o :: rest) a (w.alloc (.cells #[.int .u64 p, .int .u64 q] E)) := by
  obtain ⟨rfl, rfl⟩ := hy
  subst hg
  obtain ⟨i0, hi1, hz0, hz1, hz2⟩ := info_parts hi
  refine wpList_append_own_at (P := P) _ hgd s x S ho base E i0 _ 2 16 ht hi1 hz0 hz1 hz2 rfl (by decide) v l.length (encs l) hs (World.ownsRow.alloc hown _)
    ⟨w.heap.size, 0, none⟩ 1 1 [.int .u64 y.a, .int .u64 y.b] hx rfl ?_ ?_ ?_ ?_ ?_ ?_
  · intro j u hu
    rcases j with _ | _ | j
    · simp at hu; rw [← hu]; simp [Addr.add, World.cell?_alloc_new]
    · simp at hu; rw [← hu]; simp [Addr.add, World.cell?_alloc_new]
    · simp at hu
  · intro u hu; simp at hu; rcases hu with rfl | rfl <;> rfl
  · unfold maxLen; omega
  · omega
  · simp; omega
  · intro v' w' hown' hg _ hat
    refine h v' w' ?_ hg ?_
    · unfold OwnTwo; rw [encs_snoc, List.length_append]; exact hown'
    · simpa using hat

/-- What has been handed out so far: no two overlap, and all of it is the pool's. -/
structure HadInv (H : List Two) (p : Pl) (k : Nat) : Prop where
  sub : ∀ x, covS H x → covS p.used x
  apart : ∀ i j, i < j → j < H.length → overlapB H[i]!.a H[i]!.b H[j]!.a H[j]!.b = false
  len : H.length ≤ k
theorem HadInv.step {H : List Two} {p : Pl} {k : Nat} (h : HadInv H p k) {n align : Int} {t : Two} {at' : Int} (hg : Granted p n align t at') (x : Two) (hx1 : x.a = at') (hx2 : x.b = n * 4096) : HadInv (H ++ [x]) (takeV p n x) (k + 1) := by
  have hw := want_has hg
  refine ⟨fun y hy => ?_, fun i j hij hj => ?_, by rw [List.length_append]; have := h.len; simp; omega⟩
  · rw [takeV_cov]
    rcases covS_append.1 hy with hy | ⟨z, hz, hz2⟩
    · exact .inl (h.sub y hy)
    · obtain rfl : z = x := by simpa using hz
      exact .inr hz2
  · rw [List.length_append] at hj
    simp only [List.length_cons, List.length_nil] at hj
    have hgi : ∀ i, i < H.length → (H ++ [x])[i]! = H[i]! := fun i hi => by
      rw [getElem!_pos (H ++ [x]) i (by simp; omega), getElem!_pos H i hi, List.getElem_append_left hi]
    rw [hgi i (by omega)]
    rcases Nat.lt_or_ge j H.length with hjl | hjl
    · rw [hgi j hjl]; exact h.apart i j hij hjl
    · obtain rfl : j = H.length := by omega
      have e : (H ++ [x])[H.length]! = x := by rw [getElem!_pos (H ++ [x]) _ (by simp)]; simp
      rw [e, Bool.eq_false_iff]
      intro ho
      obtain ⟨g1, g2, g3, g4⟩ := overlapB_iff.1 ho
      have q1 := goodB_iff.1 g1
      have q2 := goodB_iff.1 g2
      have hi' : i < H.length := hij
      have hmem : H[i]! ∈ H := by rw [getElem!_pos H i hi']; exact List.getElem_mem hi'
      generalize H[i]! = y at *
      rw [hx1, hx2] at *
      rcases Int.le_total y.a at' with hle | hle
      · exact (hg.inn at' (by omega) (by omega)).2 (h.sub at' ⟨y, hmem, hasB_iff.2 ⟨g1, hle, by omega⟩⟩)
      · exact (hg.inn y.a hle (by omega)).2 (h.sub y.a ⟨y, hmem, hasB_iff.2 ⟨g1, by omega, by omega⟩⟩)
theorem own_within {s : Two} {p : Pl} {n align : Int} {t : Two} {at' : Int} (hp : p.from' = (newV s).from' ∧ p.count = (newV s).count) (hg : Granted p n align t at') : withinB at' (n * 4096) s.a s.b = true := by
  have n1 := hg.n1
  have w := hg.w
  have hi := hg.hi
  unfold W64 at w
  have q1 := (hg.inn at' (by omega) (by omega)).1
  have q2 := (hg.inn (at' + n * 4096 - 1) (by omega) (by omega)).1
  have hc : 0 < (newV s).count := by rw [← hp.2]; omega
  obtain ⟨_, h2, _, _⟩ := newV_ok s
  obtain ⟨h3, h4⟩ := h2 hc
  rw [← hp.1] at h3 h4
  rw [← hp.2] at h4
  exact withinB_iff.2 ⟨goodB_iff.2 ⟨by omega, by omega⟩, newV_good s hc, by omega, by omega⟩
theorem runs_same (s : Two) (l : List AskV) : (runsV (newV s) l).from' = (newV s).from' ∧ (runsV (newV s) l).count = (newV s).count := by
  suffices h : ∀ (l : List AskV) (p : Pl), (runsV p l).from' = p.from' ∧ (runsV p l).count = p.count from h l _
  intro l
  induction l with
  | nil => intro p; exact ⟨rfl, rfl⟩
  | cons a l ih =>
    intro p
    obtain ⟨h1, h2⟩ := ih (runV p a.n a.al).1
    obtain ⟨h3, h4⟩ := runV_same p a.n a.al
    exact ⟨h1.trans h3, h2.trans h4⟩

set_option maxRecDepth 20000 in
set_option maxHeartbeats 4000000 in
theorem frameApart_walk (s : Two) (v : Value) (l : List AskV) (w : World) (hv : RowAsk w v l) : Calls Try.prog 3 #[.agg #[.int .u64 s.a, .int .u64 s.b], v] w fun e w' => e = .returned (.bool true) ∧ Below w.heap.size w w' := by
  obtain ⟨a, cap, rfl, hcap, hmx, hrow⟩ := id hv
  unfold maxLen at hmx
  cases hf : fewV l
  · go_enter Try.func3, Try.ntmps3
    go_wp2_with fail
    refine (awake_any _).mono ?_; rintro e w1 ⟨rfl, hb1⟩
    have hv1 := hv.below (bnew hb1)
    go_wp2_with fail
    refine (few_any _ l w1 hv1).mono ?_; rintro e w2 ⟨rfl, hb2⟩
    rw [hf]
    go_wp2_with fail
    go_ret
    exact ⟨rfl, bthen (bnew hb1) hb2⟩
  · have hfew : tot l ≤ 200 ∧ l.length ≤ 40 := by unfold fewV at hf; simpa using hf
    obtain ⟨ht, hl40⟩ := hfew
    have hst := runs_st s l ht
    replace hst := Lib.hid hst
    go_enter Try.func3, Try.ntmps3
    go_wp2_with fail
    refine (awake_any _).mono ?_; rintro e w1 ⟨rfl, hb1⟩
    have k1 := alloc_two w (.int .u64 s.a) (.int .u64 s.b) 24
    have c0 := cell_lt hb1 k1.1 (by simp)
    have c1 := cell_lt hb1 k1.2 (by simp)
    have hW1 := bnew hb1
    have hz1 : w.heap.size + 1 ≤ w1.heap.size := by have := hb1.size; simp at this; omega
    have hv1 := hv.below hW1
    clear k1 hb1
    go_wp2_with fail
    refine (few_any _ l w1 hv1).mono ?_; rintro e w2 ⟨rfl, hb2⟩
    rw [hf]
    have c0' := cell_lt hb2 c0 (by omega)
    have c1' := cell_lt hb2 c1 (by omega)
    go_wp2_with fail
    refine (new_any s w2).mono ?_; rintro e w3 ⟨B, rfl, hB, hp3, hb3⟩
    have hBw : w.heap.size + 1 ≤ B := Nat.le_trans hz1 (Nat.le_trans hb2.size hB)
    have hW3 : Below (w.heap.size + 1) w1 w3 := (bthen hb2 hb3).mono hz1
    clear c0' c1' hv hv1 hb2 hb3
    go_wp2_with fail
    go_loopw [6, 24] (fun hd i wr => ∃ (k : Nat) (vu : Value) (H : List Two), k ≤ l.length ∧ i = .int .i64 k ∧ PoolAt wr B vu (runsV (newV s) (l.take k)) ∧ Below (w.heap.size + 1) w1 wr ∧ HadInv H (runsV (newV s) (l.take k)) k ∧ OwnTwo 24 wr (w.heap.size + 1) hd H ∧ ∀ q, hd.ownBlock = some q → q ≠ B ∧ vu.ownBlock ≠ some q) (fun _ i _ => l.length - (intOf i).toNat)
    case atStart => exact ⟨0, _, [], Nat.zero_le _, rfl, hp3, hW3, ⟨(fun x h => (by obtain ⟨z, hz, _⟩ := h; cases hz)), (fun i j _ h => (by simp at h)), Nat.le_refl _⟩, OwnTwo.nil _ _ _, fun q e => by simp [Value.ownBlock] at e⟩
    case round =>
      obtain ⟨k, vu, H, hk, rfl, hp, hBel, hH, hown, hdis⟩ := hrel
      have hsk := hst.out k hk
      obtain ⟨Ah, Ch, rfl, _, _⟩ := OwnTwo.row hown
      have hN : w.heap.size + 1 ≤ wr.heap.size := Nat.le_trans hz1 hBel.size
      by_cases hlt : k < l.length
      · obtain ⟨b, off, rfl, hbl, hcell⟩ := hrow (by rintro rfl; simp at hlt)
        have h1 := (hcell k hlt).1
        have h2 := (hcell k hlt).2
        rw [← hW1.cell (p := ⟨b, _, none⟩) hbl] at h1 h2
        replace h1 := cell_lt hBel h1 (by omega)
        replace h2 := cell_lt hBel h2 (by omega)
        have s0 := cell_lt hBel c0 (by omega)
        have s1 := cell_lt hBel c1 (by omega)
        have hsn := Lib.hid (runsV_succ (newV s) l k hlt)
        have hbx := bone wr (.cells #[.int .i64 l[k].n, .int .u64 l[k].al] 32)
        have hp' := hp.below hbx
        have hr := run_any B vu _ l[k].n l[k].al _ hsk.ok (by have := hsk.len; omega) hp' ⟨hsk.o0, by have := hsk.oT; have := tot_take l k; omega⟩ l[k].ha
        have hcs := runV_cases hsk.ok l[k].n l[k].al l[k].ha
        have hsame := runs_same s (l.take k)
        have x0 : (wr.alloc (.cells #[.int .i64 l[k].n, .int .u64 l[k].al] 32)).cell? ⟨wr.heap.size, 0, none⟩ = some (.int .i64 l[k].n) := (alloc_two _ _ _ _).1
        have x1 : (wr.alloc (.cells #[.int .i64 l[k].n, .int .u64 l[k].al] 32)).cell? ⟨wr.heap.size, 1, none⟩ = some (.int .u64 l[k].al) := (alloc_two _ _ _ _).2
        clear hcell hrow
        have hxa := l[k].ha.1
        generalize l[k] = x at *
        generalize hP : runsV (newV s) (l.take k) = p at *
        clear hP
        rcases hcs with ⟨t, hg, he, hx1, hx2⟩ | ⟨he, _⟩ | ⟨he, _⟩
        · rw [he] at hr hsn
          have hwi := own_within hsame hg
          have n1 := hg.n1
          have n2 := hg.n2
          have q0 := hg.al0
          have q1 := hg.al
          have q2 := hg.pg
          have hwU := hg.w
          have hstep := hH.step hg (wantV x.n x.al t) hx1 hx2
          generalize wantV x.n x.al t = Y at *
          generalize (upV t.a x.al).1 = U at *
          clear hg
          have e0 : (x.al == 0) = false := by simpa using q0
          have e1 : (U % 4096 != 0) = false := by simpa using q2
          have e2 : (U % x.al != 0) = false := by simpa using q1
          replace q1 := Lib.hid q1
          replace q2 := Lib.hid q2
          replace q0 := Lib.hid q0
          have hU0 := hwU.1
          have hal1 : 1 ≤ x.al := by have := q0.out; omega
          have hrw := fun W => refWithin_any U (x.n * 4096) s.a s.b W hwU (by unfold W64; omega) s.ha s.hb
          rw [hwi, show x.n * 4096 = 4096 * x.n by omega] at hrw
          rw [show x.n * 4096 = 4096 * x.n by omega] at hx2
          go_wp2_with fail
          refine hr.mono ?_
          rintro e w5 ⟨v5, rfl, hp5, hk5⟩
          clear hr
          have hb5 := hk5.below hp' hBw
          have hB5 : Below (w.heap.size + 1) w1 w5 := (hBel.trans (hbx.mono hN)).trans hb5
          have hown5 := (hown.alloc (.cells #[.int .i64 x.n, .int .u64 x.al] 32)).kept hk5.kept hdis
          have hz5 : wr.heap.size + 1 ≤ w5.heap.size := by have := hk5.kept.size; simpa using this
          have far : ∀ k, vu.ownBlock = some k → k < wr.heap.size := fun k e => (hp.own.lt k e).2
          have y0 : w5.cell? ⟨wr.heap.size, 0, none⟩ = some (.int .i64 x.n) := (World.cell?_of_block (hk5.kept.block wr.heap.size (by simp) (by have := hp.lt; omega) (fun e => by have := far _ e; omega))).trans x0
          have y1 : w5.cell? ⟨wr.heap.size, 1, none⟩ = some (.int .u64 x.al) := (World.cell?_of_block (hk5.kept.block wr.heap.size (by simp) (by have := hp.lt; omega) (fun e => by have := far _ e; omega))).trans x1
          have s0' := cell_lt hb5 (cell_lt hbx s0 (by omega)) (by omega)
          have s1' := cell_lt hb5 (cell_lt hbx s1 (by omega)) (by omega)
          have hdis5 : ∀ q, (Value.slice Ah H.length Ch).ownBlock = some q → q ≠ B ∧ v5.ownBlock ≠ some q := fun q e => by
            refine ⟨(hdis q e).1, fun e5 => ?_⟩
            have hq := (hown.lt q e).2
            rcases hk5.fresh q e5 with h | h
            · exact (hdis q e).2 h
            · simp at h; omega
          clear hp' hbx x0 x1 s0 s1 h1 h2 hp hk5
          have hBl5 : B < w5.heap.size := hp5.lt
          have hl5 := hp5.own.lt
          have hb5a := bone w5 (.cells #[.int .u64 U, .int .u64 (4096 * x.n)] 24)
          have y1a := cell_lt hb5a y1 (by omega)
          have s0a := cell_lt hb5a s0' (by omega)
          have s1a := cell_lt hb5a s1' (by omega)
          have z0a := (alloc_two w5 (.int .u64 U) (.int .u64 (4096 * x.n)) 24).1
          have z1a := (alloc_two w5 (.int .u64 U) (.int .u64 (4096 * x.n)) 24).2
          go_wp2_with fail
          refine (hrw _).mono ?_; rintro e w6 ⟨rfl, hb6⟩
          clear hrw
          have z0 : w6.cell? ⟨w5.heap.size, 0, none⟩ = some (.int .u64 U) := cell_lt hb6 z0a (by simp)
          have z1 : w6.cell? ⟨w5.heap.size, 1, none⟩ = some (.int .u64 (4096 * x.n)) := cell_lt hb6 z1a (by simp)
          have hb56 := bnew hb6
          have y1' := cell_lt hb56 y1 (by omega)
          have hown6 := hown5.below hb56 (Nat.le_refl _)
          have hp6 := hp5.below hb56
          have hB6 := hB5.trans (hb56.mono (by omega))
          have hz6 := hb56.size
          clear hb6 hb56 y0 y1 s0' s1' hb5a y1a s0a s1a z0a z1a hown5 hp5 hB5 hown
          go_wp2_with (at_builtin; refine wpl_append_at rfl _ _ 30 rfl (w.heap.size + 1) 24 infoSpan Try.underlying30 (.slice Ah H.length Ch) H Y rfl rfl hown6 ?_ ?_ ?_ ?_ ?_; (focus (first | rfl | (simp; done))); (focus (exact ⟨hx1.symm, hx2.symm⟩)); (focus (have := hH.len; omega)); (focus (first | omega | (simp; omega))); intro vn w7 hown7 hgrow7 hat7; have hpz := (hp6.below (bone w6 _)).grown hgrow7 (fun e => (hdis5 _ e).1 rfl) (fun k e e' => (hdis5 k e').2 e); have hB7 := (hB6.trans ((bone w6 _).mono (by omega))).grown hgrow7 (by simp; omega) (fun k e => (hown6.lt k e).1); have hD7 : ∀ q, vn.ownBlock = some q → q ≠ B ∧ v5.ownBlock ≠ some q := (fun q e => by rcases hat7 with h | h; exact hdis5 q (h.symm.trans e); (rw [h] at e; cases e; exact ⟨by omega, fun e5 => by have := (hl5 _ e5).2; omega⟩)); clear hgrow7 hat7)
          go_roundw
          case rel => exact ⟨k + 1, v5, H ++ [Y], by omega, by go_num, by rw [hsn.out]; exact hpz, hB7, by rw [hsn.out]; exact hstep, hown7, hD7⟩
          case measure => simp [intOf]; omega
        all_goals
          rw [he] at hr hsn
          go_wp2_with fail
          refine hr.mono ?_
          rintro e w5 ⟨v5, rfl, hp5, hk5⟩
          have hb5 := hk5.below hp' hBw
          have hB5 : Below (w.heap.size + 1) w1 w5 := (hBel.trans (hbx.mono hN)).trans hb5
          have hown5 := (hown.alloc (.cells #[.int .i64 x.n, .int .u64 x.al] 32)).kept hk5.kept hdis
          have hdis5 : ∀ q, (Value.slice Ah H.length Ch).ownBlock = some q → q ≠ B ∧ v5.ownBlock ≠ some q := fun q e => by
            refine ⟨(hdis q e).1, fun e5 => ?_⟩
            have hq := (hown.lt q e).2
            rcases hk5.fresh q e5 with h | h
            · exact (hdis q e).2 h
            · simp at h; omega
          have hH' : HadInv H p (k + 1) := ⟨hH.sub, hH.apart, Nat.le_succ_of_le hH.len⟩
          clear hr
          go_wp2_with fail
          go_roundw
          case rel => exact ⟨k + 1, v5, H, by omega, by go_num, by rw [hsn.out]; exact hp5, hB5, by rw [hsn.out]; exact hH', hown5, hdis5⟩
          case measure => simp [intOf]; omega
      · obtain rfl : k = l.length := by omega
        have hfi := firstV_none H hH.apart
        have hHl := hH.len
        have hRow := OwnTwo.row hown
        go_wp2_with fail
        refine (refFirst_any _ H wr hRow (by omega)).mono ?_; rintro e w5 ⟨rfl, hb5⟩
        rw [hfi]
        go_wp2_with fail
        go_ret
        exact ⟨rfl, hW1.trans ((hBel.trans (hb5.mono hN)).mono (by omega))⟩
end Go.Proofs.Ytehijlgopmbglaa
