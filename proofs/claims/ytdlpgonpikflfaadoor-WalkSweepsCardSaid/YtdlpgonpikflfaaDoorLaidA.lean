/- Both memories side by side; words laid into both; chapter 19's Ram; chapter 20's example. -/
import Derived.Test.YtdlpgonpikflfaaDoorWalkB
namespace Go.Proofs.YtdlpgonpikflfaaDoor
open Go Go.RowKit Go.BigFrame Go.Maps

/-- Both memories in one world, apart. -/
structure Both (B : Nat) (W : World) (mb pb rb : Nat) (pv : Value) (s z : Int) (L1 L2 : List Pg) : Prop where
  mp : MemP W mb pb s z L1
  mr : MemR W rb pv s z L2
  dj : ∀ b ∈ memBlks mb pb L1, b ∉ refBlks rb pv L2
  lo1 : ∀ b ∈ memBlks mb pb L1, B ≤ b
  lo2 : ∀ b ∈ refBlks rb pv L2, B ≤ b
theorem Both.below {B : Nat} {W W' : World} {mb pb rb : Nat} {pv : Value} {s z : Int} {L1 L2 : List Pg} (h : Both B W mb pb rb pv s z L1 L2) (hb : Below W.heap.size W W') : Both B W' mb pb rb pv s z L1 L2 :=
  ⟨h.mp.below hb (Nat.le_refl _), h.mr.below hb (Nat.le_refl _), h.dj, h.lo1, h.lo2⟩
theorem Both.wroteP {B : Nat} {W W' : World} {mb pb rb : Nat} {pv : Value} {s z : Int} {L1 L1' L2 : List Pg} {t : PG} (h : Both B W mb pb rb pv s z L1 L2) (hw : Wrote W W' mb pb s z L1 L1' B t) : Both B W' mb pb rb pv s z L1' L2 := by
  have hlt := h.mr.lt
  have hmb := h.mp.lt mb (by simp [memBlks])
  have hBm := h.lo1 mb (by simp [memBlks])
  refine ⟨hw.mem, h.mr.off hw.off fun b hb hb2 => h.dj b hb2 hb, fun b hb hb2 => ?_, fun b hb => ?_, h.lo2⟩
  · rcases hw.blks b hb with e | e
    · exact h.dj b e hb2
    · have := hlt b hb2; omega
  · rcases hw.blks b hb with e | e
    · exact h.lo1 b e
    · omega
theorem Both.wroteR {B : Nat} {W W' : World} {mb pb rb : Nat} {pv pv' : Value} {s z : Int} {L1 L2 L2' : List Pg} {t : PG} (h : Both B W mb pb rb pv s z L1 L2) (hw : WroteR W W' rb pv pv' s z L2 L2' B t) : Both B W' mb pb rb pv' s z L1 L2' := by
  have hlt := h.mp.lt
  have hmb := h.mp.lt mb (by simp [memBlks])
  have hBm := h.lo1 mb (by simp [memBlks])
  refine ⟨h.mp.off hw.off fun b hb hb2 => h.dj b hb hb2, hw.mem, fun b hb hb2 => ?_, h.lo1, fun b hb => ?_⟩
  · rcases hw.blks b hb2 with e | e
    · exact h.dj b hb e
    · have := hlt b hb; omega
  · rcases hw.blks b hb with e | e
    · exact h.lo2 b e
    · omega

theorem Both.mono {B C : Nat} {W : World} {mb pb rb : Nat} {pv : Value} {s z : Int} {L1 L2 : List Pg} (h : Both B W mb pb rb pv s z L1 L2) (hC : C ≤ B) : Both C W mb pb rb pv s z L1 L2 :=
  ⟨h.mp, h.mr, h.dj, fun b hb => Nat.le_trans hC (h.lo1 b hb), fun b hb => Nat.le_trans hC (h.lo2 b hb)⟩
/-- A word is put, where it may be. -/
def putV (s z : Int) (pg : PG) (a x : Int) : PG := if putE s z a = 0 then writeV pg a (putB x) else pg
theorem putV_len (s z : Int) (pg : PG) (a x : Int) : (putV s z pg a x).length ≤ pg.length + 8 := by
  unfold putV; split
  · have := writeV_len 8 (pg := pg) (a := a) (l := putB x) (by rw [putB_len]; omega)
    rw [putB_len] at this; exact this
  · omega
/-- Where a word of the statement is put. -/
def atV (x : Two) : Int := 1073741824 + x.a % 24576 / 8 * 8
def laidV (l : List Two) : PG := l.foldl (fun pg x => putV 1073741824 16777216 pg (atV x) x.b) []
theorem laidV_snoc (l : List Two) (k : Nat) (h : k < l.length) : laidV (l.take (k + 1)) = putV 1073741824 16777216 (laidV (l.take k)) (atV l[k]) l[k].b := by
  unfold laidV; rw [List.take_succ_eq_append_getElem h, List.foldl_append]; rfl
theorem laidV_len (l : List Two) : (laidV l).length ≤ 8 * l.length := by
  have key : ∀ (l : List Two) (pg : PG), (l.foldl (fun pg x => putV 1073741824 16777216 pg (atV x) x.b) pg).length ≤ pg.length + 8 * l.length := by
    intro l
    induction l with
    | nil => intro pg; simp
    | cons x l ih =>
      intro pg
      have h1 := ih (putV 1073741824 16777216 pg (atV x) x.b)
      have h2 := putV_len 1073741824 16777216 pg (atV x) x.b
      simp at *; omega
  simpa [laidV] using key l []

def ramV (n : Int) : Int := (n % 1024 + 1) * 4096
theorem and1023 (n : Int) : bits .and .i64 n 1023 = n % 1024 := by
  have hc : (BitVec.ofInt 64 1023).toNat = 2 ^ 10 - 1 := by decide
  have key : (BitVec.ofInt 64 n &&& BitVec.ofInt 64 1023).toNat = (n % ((2 ^ 64 : Nat) : Int)).toNat % 2 ^ 10 := by
    rw [BitVec.toNat_and, BitVec.toNat_ofInt, hc, Nat.and_two_pow_sub_one_eq_mod]
  show IntKind.i64.wrap ((BitVec.ofInt 64 n &&& BitVec.ofInt 64 1023).toNat : Nat) = n % 1024
  rw [key, IntKind.wrap_i64]
  omega
set_option maxHeartbeats 1000000 in
theorem ram_any (n : Int) (w : World) :
    Calls Tryd.prog 17 #[.int .i64 n] w fun e w' => e = .returned (.tuple #[.agg #[.int .u64 1073741824, .int .u64 16777216], .agg #[.int .u64 1073741824, .int .u64 (ramV n)]]) ∧ Below w.heap.size w w' := by
  have he := and1023 n
  unfold ramV
  obtain ⟨M, hM⟩ : ∃ M, n % 1024 = M := ⟨_, rfl⟩
  have h0 : 0 ≤ M := by omega
  have h1 : M ≤ 1023 := by omega
  rw [hM] at he ⊢
  clear hM
  go_enter Tryd.func17, Tryd.ntmps17
  go_wp2_with fail
  refine bodyPost_ret (v := .tuple #[.agg #[.int .u64 1073741824, .int .u64 16777216], .agg #[.int .u64 1073741824, .int .u64 ((M + 1) * 4096)]]) (by simp [results, Tryd.results17, go_sem]) rfl ?_
  exact ⟨rfl, ((Below.refl _ w).alloc (Nat.le_refl _) _).alloc (by simp) _⟩
theorem awake_walk : walkV (wordV 1073741824 16777216 []) 1073741824 0 = (⟨0, 0, 0, 1⟩, 201) := by kernel_rfl
/-- The memory of the statements. -/
def ramT : Two := ⟨1073741824, 16777216, by unfold W64; omega, by unfold W64; omega⟩
theorem ram_ok : pageBad ramT = false ∧ lastV ramT.a ramT.b < 1099511627776 := ⟨by kernel_rfl, by decide⟩

set_option maxRecDepth 20000 in
set_option maxHeartbeats 2000000 in
theorem awake20_any (w : World) (hT : Tab3 w) : Calls Tryd.prog 7 #[] w fun e w' => e = .returned (.bool true) ∧ Below w.heap.size w w' := by
  have hn : ∀ W : World, Calls Tryd.prog 18 #[.agg #[.int .u64 1073741824, .int .u64 16777216], .slice none 0 0] W fun e w' =>
      ∃ mb pb, e = .returned (.tuple #[.pointer (some ⟨mb, 0, none⟩), .int .i64 0]) ∧ MemP w' mb pb 1073741824 16777216 [] ∧ Below W.heap.size W w' ∧ W.heap.size ≤ mb ∧ W.heap.size ≤ pb := fun W => newMem_any ramT W ram_ok.1 ram_ok.2
  go_enter Tryd.func7, Tryd.ntmps7
  go_wp2_with fail
  refine (ram_any _ _).mono ?_; rintro e w1 ⟨rfl, hb1⟩
  go_wp2_with fail
  obtain ⟨m0, m1⟩ := two_new w1 (.int .u64 1073741824) (.int .u64 16777216) 54
  have n0 := cell_lt (bone (w1.alloc (.cells #[.int .u64 1073741824, .int .u64 16777216] 54)) (.cells #[.int .u64 1073741824, .int .u64 (ramV 10)] 54)) m0 (by simp)
  have hb2 : Below w.heap.size w ((w1.alloc (.cells #[.int .u64 1073741824, .int .u64 16777216] 54)).alloc (.cells #[.int .u64 1073741824, .int .u64 (ramV 10)] 54)) := (hb1.alloc hb1.size _).alloc (by have := hb1.size; simp; omega) _
  have l1 : w1.heap.size < ((w1.alloc (.cells #[.int .u64 1073741824, .int .u64 16777216] 54)).alloc (.cells #[.int .u64 1073741824, .int .u64 (ramV 10)] 54)).heap.size := by simp; omega
  clear m0 m1
  generalize (w1.alloc (.cells #[.int .u64 1073741824, .int .u64 16777216] 54)).alloc (.cells #[.int .u64 1073741824, .int .u64 (ramV 10)] 54) = w2 at *
  refine (hn _).mono ?_; rintro e w3 ⟨mb, pb, rfl, hm, hb3, _, _⟩
  have hb4 := bthen hb2 hb3
  replace n0 := cell_lt hb3 n0 l1
  have hwk := walk_any mb pb 1073741824 16777216 1073741824 0 [] w3 hm (hT.below' hb4) (by unfold W64; omega) (by unfold W64; omega)
  rw [show (([] : List Pg).map Pg.ab) = [] from rfl, awake_walk] at hwk
  simp only [HitV.val] at hwk
  clear hn hm hb3 hb2 hb1
  go_wp2_with fail
  refine hwk.mono ?_; rintro e w5 ⟨rfl, hb5⟩
  clear hwk
  go_wp2_with fail
  go_ret
  exact ⟨rfl, (bthen hb4 hb5).alloc (bthen hb4 hb5).size _⟩

theorem cell_same {w w' : World} {b o : Nat} (h : w'.heap[b]? = w.heap[b]?) : w'.cell? ⟨b, o, none⟩ = w.cell? ⟨b, o, none⟩ := by simp only [World.cell?, h]

set_option maxRecDepth 100000 in
set_option maxHeartbeats 4000000 in
theorem laid_any (v : Value) (l : List Two) (w : World) (hv : RowTwo w v l) (hl : l.length ≤ 1000) :
    Calls Tryd.prog 8 #[v] w fun e w' => ∃ mb pb rb pv L1 L2, e = .returned (.tuple #[.pointer (some ⟨mb, 0, none⟩), .pointer (some ⟨rb, 0, none⟩)]) ∧ Both w.heap.size w' mb pb rb pv 1073741824 16777216 L1 L2 ∧ L1.map Pg.ab = laidV l ∧ L2.map Pg.ab = laidV l ∧ Below w.heap.size w w' := by
  have hn1 : ∀ W : World, Calls Tryd.prog 18 #[.agg #[.int .u64 1073741824, .int .u64 16777216], .slice none 0 0] W fun e w' =>
      ∃ mb pb, e = .returned (.tuple #[.pointer (some ⟨mb, 0, none⟩), .int .i64 0]) ∧ MemP w' mb pb 1073741824 16777216 [] ∧ Below W.heap.size W w' ∧ W.heap.size ≤ mb ∧ W.heap.size ≤ pb := fun W => newMem_any ramT W ram_ok.1 ram_ok.2
  have hn2 : ∀ W : World, Calls Tryd.prog 19 #[.agg #[.int .u64 1073741824, .int .u64 16777216], .slice none 0 0] W fun e w' =>
      ∃ rb, e = .returned (.tuple #[.pointer (some ⟨rb, 0, none⟩), .int .i64 0]) ∧ MemR w' rb (.slice none 0 0) 1073741824 16777216 [] ∧ Below W.heap.size W w' ∧ W.heap.size ≤ rb := fun W => refNewMem_any ramT W ram_ok.1 ram_ok.2
  obtain ⟨a0, cap0, rfl, _, hcv⟩ := hv
  go_enter Tryd.func8, Tryd.ntmps8
  go_wp2_with fail
  refine (ram_any _ _).mono ?_; rintro e w1 ⟨rfl, hb1⟩
  go_wp2_with fail
  obtain ⟨m0, m1⟩ := two_new w1 (.int .u64 1073741824) (.int .u64 16777216) 54
  have n0 := cell_lt (bone (w1.alloc (.cells #[.int .u64 1073741824, .int .u64 16777216] 54)) (.cells #[.int .u64 1073741824, .int .u64 (ramV 0)] 54)) m0 (by simp)
  have n1 := cell_lt (bone (w1.alloc (.cells #[.int .u64 1073741824, .int .u64 16777216] 54)) (.cells #[.int .u64 1073741824, .int .u64 (ramV 0)] 54)) m1 (by simp)
  have hb2 : Below w.heap.size w ((w1.alloc (.cells #[.int .u64 1073741824, .int .u64 16777216] 54)).alloc (.cells #[.int .u64 1073741824, .int .u64 (ramV 0)] 54)) := (hb1.alloc hb1.size _).alloc (by have := hb1.size; simp; omega) _
  have l1 : w1.heap.size < ((w1.alloc (.cells #[.int .u64 1073741824, .int .u64 16777216] 54)).alloc (.cells #[.int .u64 1073741824, .int .u64 (ramV 0)] 54)).heap.size := by simp; omega
  clear m0 m1
  generalize (w1.alloc (.cells #[.int .u64 1073741824, .int .u64 16777216] 54)).alloc (.cells #[.int .u64 1073741824, .int .u64 (ramV 0)] 54) = w2 at *
  have hz2 := hb2.size
  refine (hn1 _).mono ?_; rintro e w3 ⟨mb, pb, rfl, hm, hb3, hmb, hpb⟩
  replace n0 := cell_lt hb3 n0 l1
  replace n1 := cell_lt hb3 n1 l1
  clear hn1
  go_wp2_with fail
  refine (hn2 _).mono ?_; rintro e w4 ⟨rb, rfl, hr, hb4, hrb⟩
  have hb24 := bthen hb3 hb4
  have hboth : Both w2.heap.size w4 mb pb rb (.slice none 0 0) 1073741824 16777216 [] [] := by
    have l3 := hm.lt
    refine ⟨hm.below hb4 (Nat.le_refl _), hr, fun b h1 h2 => ?_, fun b h1 => ?_, fun b h1 => ?_⟩
    · have := l3 b h1
      rcases mem_refBlks.1 h2 with e | e | e
      · omega
      · cases e
      · cases e
    · simp only [memBlks, List.map_nil, List.mem_cons, List.not_mem_nil, or_false] at h1
      rcases h1 with rfl | rfl
      · exact hmb
      · exact hpb
    · have := hb3.size
      rcases mem_refBlks.1 h1 with e | e | e
      · omega
      · cases e
      · cases e
  replace n0 := cell_lt hb4 n0 (Nat.lt_of_lt_of_le l1 hb3.size)
  clear hn2 hm hr hb3 hb4 n1 hmb hpb hrb
  go_wp2_with fail
  have hcell : ∀ i (h : i < l.length), ∃ b off, a0 = some ⟨b, off, none⟩ ∧ b < w.heap.size ∧ w.cell? ⟨b, off + i * 2, none⟩ = some (.int .u64 l[i].a) ∧ w.cell? ⟨b, off + i * 2 + 1, none⟩ = some (.int .u64 l[i].b) := fun i h => by
    obtain ⟨b, off, e1, e2, hc⟩ := hcv (by rintro rfl; simp at h)
    exact ⟨b, off, e1, e2, (hc i h).1, (hc i h).2⟩
  clear hcv
  go_loopw [29] (fun i wr => ∃ (k : Nat) (pv : Value) (L1 L2 : List Pg), k ≤ l.length ∧ i = .int .i64 k ∧ Both w2.heap.size wr mb pb rb pv 1073741824 16777216 L1 L2 ∧ L1.map Pg.ab = laidV (l.take k) ∧ L2.map Pg.ab = laidV (l.take k) ∧ Below w2.heap.size w2 wr ∧ wr.cell? ⟨w1.heap.size, 0, none⟩ = some (.int .u64 1073741824)) (fun i _ => l.length - (intOf i).toNat)
  case atStart => exact ⟨0, _, [], [], Nat.zero_le _, rfl, hboth, rfl, rfl, hb24, n0⟩
  case round =>
    clear hboth hb24 n0
    obtain ⟨k, pv, L1, L2, hk, rfl, hbo, e1, e2, hB, n0⟩ := hrel
    have hzr := hB.size
    by_cases hlt : k < l.length
    · obtain ⟨b, off, rfl, hbl, p0, p1⟩ := hcell k hlt
      replace p0 := cell_lt hB (cell_lt hb2 p0 hbl) (by omega)
      replace p1 := cell_lt hB (cell_lt hb2 p1 hbl) (by omega)
      have hsn := laidV_snoc l k hlt
      have hll := laidV_len (l.take k)
      have htl : (l.take k).length ≤ 1000 := by rw [List.length_take]; omega
      have hL2 : L2.length ≤ 999000 := by have := congrArg List.length e2; rw [List.length_map] at this; omega
      clear hcell
      generalize l[k] = x at *
      have hx0 := x.ha.1
      have hx1 := x.ha.2
      generalize hPn : laidV (l.take (k + 1)) = Pn at *
      generalize laidV (l.take k) = P0 at *
      replace hPn := Lib.hid hPn
      replace hsn := Lib.hid hsn
      replace e1 := Lib.hid e1
      replace e2 := Lib.hid e2
      have hat : IntKind.u64.wrap (1073741824 + x.a % 24576 / 8 * 8) = atV x := by unfold atV; rw [IntKind.wrap_u64]; omega
      have hatw : W64 (atV x) := by unfold atV W64; omega
      obtain ⟨A, hA⟩ : ∃ A, atV x = A := ⟨_, rfl⟩
      rw [hA] at hat hatw
      replace hA := Lib.hid hA
      have hp1 := fun W (h : Both w2.heap.size W mb pb rb pv 1073741824 16777216 L1 L2) => putM_any mb pb 1073741824 16777216 A x.b L1 w2.heap.size W h.mp hatw x.hb h.lo1
      have hp2 := fun W (L1' : List Pg) (h : Both w2.heap.size W mb pb rb pv 1073741824 16777216 L1' L2) => refPutM_any rb pv 1073741824 16777216 A x.b L2 w2.heap.size W h.mr hatw x.hb h.lo2 hL2
      generalize hE : putE 1073741824 16777216 A = E at *
      generalize hT1 : (if E = 0 then writeV (L1.map Pg.ab) A (putB x.b) else L1.map Pg.ab) = T1 at *
      generalize hT2 : (if E = 0 then writeV (L2.map Pg.ab) A (putB x.b) else L2.map Pg.ab) = T2 at *
      replace hE := Lib.hid hE
      replace hT1 := Lib.hid hT1
      replace hT2 := Lib.hid hT2
      have hbw := bone wr (.cells #[.int .u64 x.a, .int .u64 x.b] 62)
      obtain ⟨q0, q1⟩ := two_new wr (.int .u64 x.a) (.int .u64 x.b) 62
      have lw : wr.heap.size < (wr.alloc (.cells #[.int .u64 x.a, .int .u64 x.b] 62)).heap.size := by simp
      have hlw : w1.heap.size < wr.heap.size := by omega
      have hlw' : w1.heap.size ≠ wr.heap.size := by omega
      go_wp2_with fail
      have hbo1 := hbo.below hbw
      have n01 := cell_lt hbw n0 hlw
      have hB1 := hB.trans (hbw.mono hzr)
      generalize wr.alloc (.cells #[.int .u64 x.a, .int .u64 x.b] 62) = w5 at *
      refine (hp1 _ hbo1).mono ?_; rintro e w6 ⟨rfl, L1', hw1⟩
      have hbo2 := hbo1.wroteP hw1
      replace q0 := (cell_same (hw1.off.rest wr.heap.size lw (fun e => by have := hbo.mp.lt _ e; omega))).trans q0
      replace q1 := (cell_same (hw1.off.rest wr.heap.size lw (fun e => by have := hbo.mp.lt _ e; omega))).trans q1
      replace n01 := cell_lt hw1.off.below n01 (by omega)
      replace lw := Nat.lt_of_lt_of_le lw hw1.off.below.size
      replace hB1 := hB1.trans hw1.off.below
      have e1' := hw1.ab
      clear hp1 hw1 hbo1
      go_wp2_with fail
      refine (hp2 _ _ hbo2).mono ?_; rintro e w7 ⟨rfl, pv', L2', hw2⟩
      have hbo3 := hbo2.wroteR hw2
      replace n01 := cell_lt hw2.off.below n01 (by omega)
      replace hB1 := hB1.trans hw2.off.below
      have e2' := hw2.ab
      clear hp2 hw2 hbo2 q0 q1 p0 p1
      replace e1' := Lib.hid e1'
      replace e2' := Lib.hid e2'
      have hPf : ∀ (T : PG) (L : List Pg), (if E = 0 then writeV (L.map Pg.ab) A (putB x.b) else L.map Pg.ab) = T → L.map Pg.ab = P0 → T = Pn := fun T L h1 h2 => by
        rw [hsn.out, ← h1, h2, hA.out]; unfold putV; rw [hE.out]
      have f1 := hPf T1 L1 hT1.out e1.out
      have f2 := hPf T2 L2 hT2.out e2.out
      clear hPf
      replace f1 := Lib.hid f1
      replace f2 := Lib.hid f2
      go_wp2_with fail
      refine ⟨⟨k + 1, pv', L1', L2', hlt, by go_num, hbo3, ?_, ?_, hB1, n01⟩, by simp [intOf]; omega⟩
      · rw [hPn.out, e1'.out, f1.out]
      · rw [hPn.out, e2'.out, f2.out]
    · obtain rfl : k = l.length := by omega
      rw [List.take_length] at e1 e2
      clear hcell
      replace e1 := Lib.hid e1
      replace e2 := Lib.hid e2
      go_wp2_with fail
      go_ret2
      exact ⟨mb, pb, rb, pv, L1, L2, rfl, hbo.mono hz2, e1.out, e2.out, hb2.trans (hB.mono hz2)⟩
end Go.Proofs.YtdlpgonpikflfaaDoor
