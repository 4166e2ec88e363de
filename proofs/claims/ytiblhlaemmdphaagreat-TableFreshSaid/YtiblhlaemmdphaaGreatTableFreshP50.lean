/- The walk of the statement TableFresh. -/
import Derived.Test.YtiblhlaemmdphaaGreatTableFreshP15
import Derived.Test.YtiblhlaemmdphaaGreatTableFreshP41
import Derived.Test.YtiblhlaemmdphaaGreatTableFreshP43
import Derived.Test.YtiblhlaemmdphaaGreatTableFreshP49
namespace Go.Proofs.YtiblhlaemmdphaaGreat
open Go Go.RowKit Go.Shelf Go.BigFrame Go.Maps
def oldV (pages : Int) (c : CkV) : CkV := ⟨1073741824 + c.a % ramV pages, c.v, c.b⟩
theorem oldV_ok {w : World} {pages : Int} {c : CkV} (h : CkG w c) (hl : c.b.length ≤ 3000) : CkG w (oldV pages c) ∧ (oldV pages c).b.length ≤ 3000 ∧ askV 1073741824 16777216 (oldV pages c).a (oldV pages c).b.length = 0 := by
 have hr : 4096 ≤ ramV pages ∧ ramV pages ≤ 4194304 := by unfold ramV; omega
 have h0 := Int.emod_nonneg c.a (show ramV pages ≠ 0 by omega)
 have h1 := Int.emod_lt_of_pos c.a (show 0 < ramV pages by omega)
 refine ⟨⟨h.giv, h.byte, h.cap, ?_⟩, hl, ?_⟩
 ·unfold W64 oldV; simp only; omega
 ·exact ask_bytes (by unfold oldV; simp only; omega) hl (by unfold oldV; simp only; omega)
theorem mpl_new {W : World} {B mb pb fb : Nat} {L : List Pg} {s z : Int} {pl : Pl} (hm : MemP W mb pb s z L) (hp : PoolAt W fb (.slice none 0 0) pl) (hB : ∀ b ∈ memBlks mb pb L, B ≤ b) (hfb : B ≤ fb) (hne : ∀ b ∈ memBlks mb pb L, b ≠ fb) : MPl W B mb pb fb (.slice none 0 0) s z L pl (L.map Pg.ab) :=
 ⟨hm, rfl, hp, fun b hb => ⟨hne b hb, by simp [Value.ownBlock]⟩, ⟨hfb, hB⟩, fun b hb => by simp [Value.ownBlock] at hb⟩
theorem buildF_any {W : World} {B mb pb fb : Nat} {L : List Pg} {pg : PG} (n : Int) (v : Value) (l : List M5) (hM : MPl W B mb pb fb (.slice none 0 0) 1073741824 16777216 L (newV (ldT n)) pg) (hv : RowM W v l) (hvB : ∀ b o n c, v = .slice (some ⟨b, o, none⟩) n c → l ≠ [] → b < B) (hl : l.length ≤ 100000) :
  Calls Tryz.prog 10 #[.pointer (some ⟨mb, 0, none⟩), .pointer (some ⟨fb, 0, none⟩), v] W fun e w' => ∃ vu' L', e = .returned (.tuple #[.int .u64 (buildS 1073741824 16777216 l (newV (ldT n)) pg).2.1, .int .i64 (buildS 1073741824 16777216 l (newV (ldT n)) pg).2.2]) ∧ MPl w' B mb pb fb vu' 1073741824 16777216 L' (buildS 1073741824 16777216 l (newV (ldT n)) pg).1.pl (buildS 1073741824 16777216 l (newV (ldT n)) pg).1.pg ∧ MTurn B mb pb fb (.slice none 0 0) L vu' L' W w' := by
 obtain ⟨p1, p2, p3⟩ := pool_facts n
 refine build_any hM p1 p2 p3 v l hv hvB hl fun h => ?_
 have := allP_bd h
 rw [ldT_pool]
 dsimp only
 simp only [List.length_nil]
 omega
theorem heap_rowB {W : World} {b n : Nat} {l : List Int} (hg : W.heap[b]? = some (.cells (bytesV l) 5 (0, 0))) (hl : l.length = n) (hn : n ≤ 1048576) : RowB W (.slice (some ⟨b, 0, none⟩) n n) l := by
 subst hl
 refine ⟨some ⟨b, 0, none⟩, l.length, rfl, Nat.le_refl _, by unfold maxLen; omega, fun _ => ⟨b, 0, rfl, (Array.getElem?_eq_some_iff.1 hg).1, fun i hi => ?_⟩⟩
 simp only [World.cell?, hg, Nat.zero_add, bytesV]
 simp [hi]
set_option maxRecDepth 100000 in
set_option maxHeartbeats 4000000 in
theorem tableFresh_walk (v : Value) (l : List M5) (pages : Int) (u : Value) (cs : List CkV) (w : World) (hv : RowM w v l) (hl : l.length ≤ 9223372036854775807) (hu : RowX 2 CkR w u cs) :
  Calls Tryz.prog 3 #[v, .int .i64 pages, u] w fun e w' => e = .returned (.bool true) ∧ Below w.heap.size w w' := by
 have hbd := fun W h => bounded_any v l W h hl
 have hfl := fun W h => fewL_any v l W h
 have hv' := hv
 obtain ⟨a1, cp1, rfl, _, hc1⟩ := hv'
 have hvB : ∀ b o n c, Value.slice a1 l.length cp1 = .slice (some ⟨b, o, none⟩) n c → l ≠ [] → b < w.heap.size := fun b o n c e hl => by
  obtain ⟨b1, o1, e1, hb, _⟩ := hc1 hl
  rw [e1] at e
  cases e
  exact hb
 clear hc1
 obtain ⟨ua, uc, rfl, hucap, humx, hur⟩ := hu
 obtain ⟨M, hM⟩ : ∃ M, cs.length = M := ⟨_, rfl⟩
 rw [hM] at hucap ⊢
 replace hur := Lib.hid hur
 replace hvB := Lib.hid hvB
 replace hM := Lib.hid hM
 go_enter Tryz.func3, Tryz.ntmps3
 go_wp2_with fail
 refine (awake_any _).mono ?_; rintro e w1 ⟨rfl, hb1⟩
 go_wp2_with fail
 refine (hbd _ (hv.below hb1)).mono ?_; rintro e w2 ⟨rfl, hb2⟩
 replace hb2 := bthen hb1 hb2
 clear hb1 hbd
 cases hq : (l.all (fun m => decide (m.sz ≤ 1099511627776)) && decide (l.length ≤ 12))
 ·go_wp2_with fail
  go_ret
  exact ⟨rfl, hb2⟩
 ·have h12 : l.length ≤ 12 := by rw [Bool.and_eq_true, decide_eq_true_iff] at hq; exact hq.2
  clear hq
  go_wp2_with fail
  refine (hfl _ (hv.below hb2)).mono ?_; rintro e w3 ⟨rfl, hb3⟩
  replace hb3 := bthen hb2 hb3
  clear hfl hb2
  cases hq : (decide (l.length ≤ 12) && decide (cntP l ≤ 600))
  ·go_wp2_with fail
   go_ret
   exact ⟨rfl, hb3⟩
  ·clear hq
   by_cases hm10 : (M : Int) > 10
   ·go_wp2_with fail
    go_ret
    exact ⟨rfl, hb3⟩
   ·go_wp2_with fail
    refine (ram_any pages w3).mono ?_; rintro e w4 ⟨rfl, hb4⟩
    replace hb4 := bthen hb3 hb4
    clear hb3
    go_wp2_with fail
    have hram : 4096 ≤ ramV pages ∧ ramV pages ≤ 4194304 := by unfold ramV; omega
    obtain ⟨r0, r1⟩ := two_new w4 (.int .u64 1073741824) (.int .u64 16777216) 28
    obtain ⟨m0, m1⟩ := two_new (w4.alloc (.cells #[.int .u64 1073741824, .int .u64 16777216] 28)) (.int .u64 1073741824) (.int .u64 (ramV pages)) 28
    rw [World.size_alloc] at m0 m1
    have hb45 := bone (w4.alloc (.cells #[.int .u64 1073741824, .int .u64 16777216] 28)) (.cells #[.int .u64 1073741824, .int .u64 (ramV pages)] 28)
    replace r0 := cell_lt hb45 r0 (by simp)
    replace r1 := cell_lt hb45 r1 (by simp)
    clear hb45
    have hb5 : Below w.heap.size w ((w4.alloc (.cells #[.int .u64 1073741824, .int .u64 16777216] 28)).alloc (.cells #[.int .u64 1073741824, .int .u64 (ramV pages)] 28)) := bthen (bthen hb4 (bone _ _)) (bone _ _)
    have l5 : w4.heap.size + 1 < ((w4.alloc (.cells #[.int .u64 1073741824, .int .u64 16777216] 28)).alloc (.cells #[.int .u64 1073741824, .int .u64 (ramV pages)] 28)).heap.size := by simp
    have l4 : w4.heap.size < ((w4.alloc (.cells #[.int .u64 1073741824, .int .u64 16777216] 28)).alloc (.cells #[.int .u64 1073741824, .int .u64 (ramV pages)] 28)).heap.size := by simp; omega
    clear hb4
    generalize (w4.alloc (.cells #[.int .u64 1073741824, .int .u64 16777216] 28)).alloc (.cells #[.int .u64 1073741824, .int .u64 (ramV pages)] 28) = w5 at *
    generalize w4.heap.size + 1 = sb at *
    generalize w4.heap.size = qb at *
    generalize hrv : ramV pages = R at *
    replace hrv := Lib.hid hrv
    replace hv := Lib.hid hv
    have hz5 := hb5.size
    have hsb5 : sb < w5.heap.size := l5
    go_loopw [9, 11, 48] (fun o c i wr => ∃ k : Nat, k ≤ M ∧ i = .int .i64 k ∧ OwnK wr w5.heap.size o ((cs.take k).map (oldV pages)) ∧ Below w5.heap.size w5 wr ∧ ∀ j (h : j < cs.length), j < k → CkG w cs[j] ∧ cs[j].b.length ≤ 3000) (fun _ _ i _ => (M - intOf i).toNat)
    case atStart => exact ⟨0, Nat.zero_le _, rfl, OwnK.nil _ _, Below.refl _ _, fun j h h1 => by omega⟩
    case round =>
     obtain ⟨k, hk, rfl, hown, hB, hG⟩ := hrel
     by_cases hlt : (k : Int) < (M : Int)
     ·have hkl : k < cs.length := by have := hM.out; omega
      obtain ⟨b, off, rfl, hbl, hcc⟩ := hur.out (by rintro rfl; simp at hkl)
      obtain ⟨ck, ⟨rfl, hck⟩, _, hcell⟩ := hcc k hkl
      have c0 := hcell 0 _ rfl
      have c1 := hcell 1 _ rfl
      rw [Nat.add_zero] at c0
      have hbw := hb5.trans (hB.mono hz5)
      replace c0 := cell_lt hbw c0 hbl
      replace c1 := cell_lt hbw c1 hbl
      obtain ⟨y, yc, hvk⟩ := hck.giv.open
      obtain ⟨oa, oc, rfl, -⟩ := hown.cells
      have hone := hck.one
      have hwa := hck.wa
      rw [hvk] at c1
      have hbk : (0 : Int) ≤ (k : Int) ∧ (k : Int) < (M : Int) := ⟨by omega, hlt⟩
      have htk : ((cs.take (k + 1)).map (oldV pages)) = (cs.take k).map (oldV pages) ++ [oldV pages cs[k]] := by rw [List.take_succ_eq_append_getElem hkl, List.map_append]; rfl
      have hwk : IntKind.i64.wrap ((k : Int) + 1) = ((k + 1 : Nat) : Int) := by rw [show (k : Int) + 1 = ((k + 1 : Nat) : Int) by omega]; exact IntWalk.i64_in _ (by omega)
      have holen : ((cs.take k).map (oldV pages)).length ≤ 1099511627776 := by rw [List.length_map, List.length_take]; have := hM.out; omega
      have ho1 : (oldV pages cs[k]).v.oneCell' = true := hone
      have hoa : (oldV pages cs[k]).a = 1073741824 + cs[k].a % R := by unfold oldV; rw [← hrv.out]
      have hov : (oldV pages cs[k]).v = .slice y cs[k].b.length yc := hvk
      obtain ⟨Y, hY⟩ : ∃ Y, oldV pages cs[k] = Y := ⟨_, rfl⟩
      rw [hY] at htk ho1 hoa hov
      generalize (cs.take k).map (oldV pages) = U at *
      have hkb : (cs[k].b.length : Int) = ((cs[k].b.length : Nat) : Int) := rfl
      obtain ⟨m, hm⟩ : ∃ m, cs[k].b.length = m := ⟨_, rfl⟩
      rw [hm] at c1 hov
      obtain ⟨A, hA⟩ : ∃ A, cs[k].a = A := ⟨_, rfl⟩
      rw [hA] at c0 hoa hwa
      replace hm := Lib.hid hm
      replace hA := Lib.hid hA
      replace hG := Lib.hid hG
      replace htk := Lib.hid htk
      replace hoa := Lib.hid hoa
      replace hov := Lib.hid hov
      replace hY := Lib.hid hY
      replace hck := Lib.hid hck
      clear hvk hcell hcc hkb
      by_cases h3 : (m : Int) > 3000
      ·go_wp2_with fail
       go_ret
       exact ⟨rfl, bthen hbw (bone _ _)⟩
      ·go_wp2_with fail
       have hz := hB.size
       obtain ⟨n0, n1⟩ := two_new wr (.int .u64 A) (.slice y m yc) 33
       have hbo := bone wr (.cells #[.int .u64 A, .slice y m yc] 33)
       have p0 := cell_lt (hB.trans (hbo.mono hz)) m0 l5
       have p1 := cell_lt (hB.trans (hbo.mono hz)) m1 l5
       have ln : wr.heap.size < (wr.alloc (.cells #[.int .u64 A, .slice y m yc] 33)).heap.size := by simp
       have hog : ∀ g, (Value.slice oa U.length oc).ownBlock = some g → g < wr.heap.size := fun g hg => (World.ownsRow.lt hown g hg).2
       have hown2 := hown.below hbo (Nat.le_refl _)
       have hB6 := hB.trans (hbo.mono hz)
       clear hown hB hbo hbw c0 c1 hbl
       generalize wr.alloc (.cells #[.int .u64 A, .slice y m yc] 33) = W6 at *
       generalize wr.heap.size = cb at *
       have l6 : sb < W6.heap.size := Nat.lt_of_lt_of_le l5 hB6.size
       have hwr : IntKind.u64.wrap (1073741824 + A % R) = 1073741824 + A % R := by
        rw [IntKind.wrap_u64]
        have h0 := Int.emod_nonneg A (show R ≠ 0 by omega)
        have h1 := Int.emod_lt_of_pos A (show 0 < R by omega)
        omega
       have hR0 : R ≠ 0 := by omega
       have hAR : A.tmod R = A % R := Int.tmod_eq_emod_of_nonneg hwa.1
       have hlt6 : ∀ g, (Value.slice oa U.length oc).ownBlock = some g → g < cb := fun g hg => hog g hg
       refine region_ord (fun z => ∃ X : HeldF (fun b => b = sb ∨ b = cb) W6, z = X.x) [([0, 1, 2, 3, 4, 5, 6, 7, 8, 9, 10, 11], 12), ([], 13)] [14] (by kernel_rfl) (by kernel_rfl) (by kernel_rfl) (by kernel_rfl) ⟨⟨W6.drew, fun _ _ => rfl⟩, rfl⟩ ?_
       simp only [List.map_cons, List.map_nil, List.filterMap_cons, List.filterMap_nil, List.getElem?_cons_succ, List.getElem?_cons_zero]
       have hb10 : Below W6.heap.size W6 W6.drew := (Below.refl _ _).drew
       have hcc : ∀ {b o : Nat} {v : Value}, (b = sb ∨ b = cb) → W6.cell? ⟨b, o, none⟩ = some v → ∀ X : HeldF (fun b => b = sb ∨ b = cb) W6, X.x.cell? ⟨b, o, none⟩ = some v := fun hb' hc X => by rw [← hc]; simp only [World.cell?]; rw [X.h _ hb']
       have y0 := hcc (.inl rfl) p0
       have y1 := hcc (.inl rfl) p1
       have y2 := hcc (.inr rfl) n0
       have y3 := hcc (.inr rfl) n1
       clear hcc
       have hown10 := hown2.below hb10 (Nat.le_refl _)
       have hz10 := hb10.size
       generalize W6.drew = w10 at *
       refine ord_step ?_
       repeat (change wpQuiet _ _ _ _ (List.cons _ _) _; go_big_quiet_step (fail))
       refine wpQuiet_nil ?_
       intro Q₁ hQ₁
       go_wp2_with fail
       refine hQ₁ _ _ ⟨⟨w10.alloc (.cells #[.int .u64 (1073741824 + A % R), .slice y m yc] 33), fun b hb' => (bone w10 _).block b (by rcases hb' with rfl | rfl <;> omega) |>.trans (hb10.block b (by rcases hb' with rfl | rfl <;> omega))⟩, rfl⟩ ?_
       clear hQ₁ Q₁
       refine ord_step ?_
       refine wpQuiet_nil ?_
       intro Q₁ hQ₁
       have hz5a := hB6.size
       replace hk := Lib.hid hk
       simp only [Option.toList]
       refine wpl_append_ck rfl _ _ rfl w5.heap.size (.slice oa U.length oc) U Y rfl ho1 rfl hown10 rfl ?_ holen (by omega) ?_
       ·rw [hoa.out, hov.out]
       intro v' w12 hown12 hbl12 hgrow
       have hB12 : Below w5.heap.size w5 w12 := (hB6.trans (hb10.mono hz5a)).trans (hbl12 _ (Nat.le_refl _))
       have hcb12 : w12.heap[cb]? = W6.heap[cb]? := ((hgrow.block cb (by simp; omega) (fun e => by have := hlt6 cb e.symm; omega)).trans ((bone w10 _).block cb (by omega))).trans (hb10.block cb ln)
       have hsb12 : w12.heap[sb]? = W6.heap[sb]? := (hB12.block sb l5).trans (hB6.block sb l5).symm
       go_wp2_with fail
       refine hQ₁ _ _ ⟨⟨w12, fun b hb' => by rcases hb' with rfl | rfl; exact hsb12; exact hcb12⟩, rfl⟩ ?_
       clear hQ₁ Q₁
       refine ord_last ?_
       repeat (change wpQuiet _ _ _ _ (List.cons _ _) _; go_big_quiet_step (fail))
       refine wpQuiet_nil ?_
       clear y0 y1 y2 y3
       go_wp2_with fail
       refine ⟨⟨k + 1, by have := hk.out; omega, congrArg (Value.int .i64) (by omega), by rw [htk.out]; exact hown12, hB12, fun j h h1 => ?_⟩, by simp [intOf]; omega⟩
       by_cases e : j < k
       ·exact hG.out j h e
       ·obtain rfl : j = k := by omega
        exact ⟨hck.out, by have := hm.out; omega⟩
     ·obtain rfl : k = M := by omega
      clear hlt hk
      rw [List.take_of_length_le (by rw [hM.out]; exact Nat.le_refl _)] at hown
      have hbw := hb5.trans (hB.mono hz5)
      have hg : ∀ c ∈ cs.map (oldV pages), CkG w c ∧ c.b.length ≤ 3000 ∧ askV 1073741824 16777216 c.a c.b.length = 0 := fun c hc => by
       obtain ⟨c0, hc0, rfl⟩ := List.mem_map.1 hc
       obtain ⟨j, hj, rfl⟩ := List.getElem_of_mem hc0
       obtain ⟨g1, g2⟩ := hG j hj (by rw [← hM.out]; exact hj)
       exact oldV_ok g1 g2
      obtain ⟨oa, oc, rfl, hoc⟩ := hown.cells
      have hnm := newMemL_any ramT oa oc (cs.map (oldV pages)) w wr ram_ok.1 ram_ok.2 hoc hg hbw (by rw [List.length_map, hM.out]; omega)
      have hld := newLd pages
      rw [hrv.out] at hld
      replace r0 := cell_lt hB r0 l4
      replace r1 := cell_lt hB r1 l4
      replace m0 := cell_lt hB m0 l5
      replace m1 := cell_lt hB m1 l5
      have hzr := hB.size
      replace l4 := Nat.lt_of_lt_of_le l4 hzr
      replace l5 := Nat.lt_of_lt_of_le l5 hzr
      have hvr := hv.out.below hbw
      clear hown hoc hg hG hur hM hb5
      generalize (cs.map (oldV pages)).length = n at *
      go_wp2_with fail
      refine hnm.mono ?_; rintro e w6 ⟨mb, pb, L1, rfl, hm1, hb6, hB1⟩
      replace hm1 : MemP w6 mb pb 1073741824 16777216 L1 := hm1
      have hB1' : ∀ b ∈ memBlks mb pb L1, w5.heap.size ≤ b := fun b hb => Nat.le_trans hzr (hB1 b hb)
      have hbw6 := bthen hbw hb6
      have hB6 := hB.trans (hb6.mono hzr)
      replace r0 := cell_lt hb6 r0 l4
      replace r1 := cell_lt hb6 r1 l4
      replace m0 := cell_lt hb6 m0 l5
      replace m1 := cell_lt hb6 m1 l5
      have hz6 := hB6.size
      replace l4 := Nat.lt_of_lt_of_le l4 hb6.size
      replace l5 := Nat.lt_of_lt_of_le l5 hb6.size
      clear hnm hvr hbw hb6 hB1 hB
      go_wp2_with fail
      refine (newRam w6).mono ?_; rintro e w7 ⟨mc, pc, rfl, hm2, hb7, hz1, hz2⟩
      replace m0 := cell_lt hb7 m0 l5
      replace m1 := cell_lt hb7 m1 l5
      replace l5 := Nat.lt_of_lt_of_le l5 hb7.size
      have hm17 := hm1.below hb7 (Nat.le_refl _)
      have hlt6 : ∀ b ∈ memBlks mb pb L1, b < w6.heap.size := hm1.lt
      have hbw7 := bthen hbw6 hb7
      have hz67 := hb7.size
      clear r0 r1 l4
      go_wp2_with fail
      refine (hld w7).mono ?_; rintro e w8 ⟨fb, rfl, hz3, hp, hb8⟩
      replace m0 := cell_lt hb8 m0 l5
      replace m1 := cell_lt hb8 m1 l5
      replace l5 := Nat.lt_of_lt_of_le l5 hb8.size
      have hm18 := hm17.below hb8 (Nat.le_refl _)
      have hm28 := hm2.below hb8 (Nat.le_refl _)
      have hlt7 : ∀ b ∈ memBlks mc pc [], w6.heap.size ≤ b ∧ b < w7.heap.size := fun b hb => by
       refine ⟨?_, hm2.lt b hb⟩
       simp [memBlks] at hb
       rcases hb with rfl | rfl <;> assumption
      have hbw8 := bthen hbw7 hb8
      have hz78 := hb8.size
      have hM1 := mpl_new (B := w5.heap.size) hm18 hp hB1' (by omega) (fun b hb => by have := hlt6 b hb; omega)
      have hbd1 := buildF_any pages (.slice a1 l.length cp1) l hM1 (hv.out.below hbw8) (fun b o n c e h => Nat.lt_of_lt_of_le (hvB.out b o n c e h) hz5) (by omega)
      obtain ⟨p1, p2, p3⟩ := pool_facts pages
      obtain ⟨heq, hfresh⟩ := build_j (l := l) (pl := newV (ldT pages)) p1 p2 p3 hm1.ok
      have hgen : ∃ R1 R2 : BS × Int × Int, buildS 1073741824 16777216 l (newV (ldT pages)) (L1.map Pg.ab) = R1 ∧ buildS 1073741824 16777216 l (newV (ldT pages)) [] = R2 := ⟨_, _, rfl, rfl⟩
      obtain ⟨R1, R2, hR1, hR2⟩ := hgen
      rw [hR1] at hbd1
      rw [hR1, hR2] at heq hfresh
      obtain ⟨st1, root1, err1⟩ := R1
      obtain ⟨st2, root, err⟩ := R2
      simp only [Prod.mk.injEq] at heq
      obtain ⟨rfl, rfl⟩ := heq
      simp only at hfresh hbd1
      have hvlen : 0 = 0 := rfl
      replace hfresh := Lib.hid hfresh
      replace hR1 := Lib.hid hR1
      replace hR2 := Lib.hid hR2
      clear hm17 hm1 hm2 p1 p2 p3 hvlen
      go_wp2_with fail
      refine hbd1.mono ?_; rintro e w9 ⟨v9, L9, rfl, hM9, hT9⟩
      clear hbd1
      have hoff9 := hT9.off
      have hm29 : MemP w9 mc pc 1073741824 16777216 [] := hm28.off hoff9 fun b hb hm => by
       have h1 := hlt7 b hb
       rcases mem_mpl.1 hm with rfl | e | e
       ·omega
       ·simp [Value.ownBlock] at e
       ·have := hlt6 b e; omega
      have hb59 : Below w5.heap.size w8 w9 := hoff9.below
      have n0 := (cell_lt hb59 m0 hsb5)
      have n1 := (cell_lt hb59 m1 hsb5)
      have hbw9 : Below w.heap.size w w9 := hbw8.trans (hb59.mono hz5)
      have hz89 := hb59.size
      have hlt9 := hM9.mem.lt
      have hnew9 : ∀ b ∈ memBlks mb pb L9, b ∈ memBlks mb pb L1 ∨ b = fb ∨ w8.heap.size ≤ b := fun b hb => by
       rcases hT9.blks b (mem_mpl.2 (.inr (.inr hb))) with e | e
       ·rcases mem_mpl.1 e with e | e | e
        ·exact .inr (.inl e)
        ·simp [Value.ownBlock] at e
        ·exact .inl e
       ·exact .inr (.inr e)
      clear m0 m1 hoff9 hM1 hm18 hm28
      have hld2 := hld w9
      clear hld
      go_wp2_with fail
      refine hld2.mono ?_; rintro e w10 ⟨fc, rfl, hz4, hp2, hb10⟩
      clear hld2
      have hz910 := hb10.size
      have hm19 := hM9.mem.below hb10 (Nat.le_refl _)
      have hab9 := hM9.ab
      have hm210 := hm29.below hb10 (Nat.le_refl _)
      have hbw10 := bthen hbw9 hb10
      have hM2 := mpl_new (B := w5.heap.size) hm210 hp2 (fun b hb => by have := hlt7 b hb; omega) (by omega) (fun b hb => by have := hlt7 b hb; omega)
      have hbd2 := buildF_any pages (.slice a1 l.length cp1) l hM2 (hv.out.below hbw10) (fun b o n c e h => Nat.lt_of_lt_of_le (hvB.out b o n c e h) hz5) (by omega)
      rw [show (List.map Pg.ab ([] : List Pg)) = [] from rfl, hR2.out] at hbd2
      simp only at hbd2
      clear hM9 hT9 hp2 hM2 hp
      go_wp2_with fail
      refine hbd2.mono ?_; rintro e w11 ⟨v11, L11, rfl, hM11, hT11⟩
      clear hbd2
      have hm111 : MemP w11 mb pb 1073741824 16777216 L9 := hm19.off hT11.off fun b hb hm => by
       have h9 := hlt9 b hb
       rcases mem_mpl.1 hm with rfl | e | e
       ·omega
       ·simp [Value.ownBlock] at e
       ·have h7 := hlt7 b e
        rcases hnew9 b hb with h | h | h
        ·have := hlt6 b h; omega
        ·omega
        ·omega
      have hm211 := hM11.mem
      have hab11 := hM11.ab
      have hbw11 : Below w.heap.size w w11 := hbw10.trans (hT11.off.below.mono hz5)
      clear hm19 hm210 hm29 hT11 hM11 hlt9 hnew9 hlt6 hlt7
      by_cases hf : err = 0
      ·subst hf
       obtain ⟨tb, hin, q0, q1, hJ⟩ := hfresh.out rfl
       have hst1 : List.map Pg.ab L9 = st1.pg := hab9
       have hst2 : List.map Pg.ab L11 = st2.pg := hab11
       have hcnt := fresh_count hJ hin
       have hL11 : L11.length ≤ 1099511627776 := by
        have := congrArg List.length hst2
        simp at this
        omega
       have htc := touched_any mc pc 1073741824 16777216 L11 w11 hm211 hL11
       have hfp : ∀ a ∈ touchV (L11.map Pg.ab), a % 4096 = 0 ∧ 1073741824 ≤ a ∧ a + 4096 ≤ 1073741824 + 16777216 ∧ rdB (L9.map Pg.ab) a 4096 = rdB (L11.map Pg.ab) a 4096 := fun a ha => by
        rw [hst1, hst2]
        rw [hst2] at ha
        exact fresh_page hJ hin q0 q1 ha
       have hTl : (touchV (L11.map Pg.ab)).length ≤ 1099511627776 := Nat.le_trans (touch_len _) (by rw [List.length_map]; exact hL11)
       clear hin hJ q0 q1 hst1 hst2 hcnt hab9 hab11 hfresh hL11
       generalize touchV (L11.map Pg.ab) = T at *
       replace hfp := Lib.hid hfp
       replace hm111 := Lib.hid hm111
       replace hm211 := Lib.hid hm211
       go_wp2_with fail
       refine htc.mono ?_; rintro e w12 ⟨tv, rfl, hown, hb12⟩
       clear htc
       obtain ⟨ta, tc, rfl, htr⟩ := hown.row
       have hbw12 := bthen hbw11 hb12
       have hma := hm111.out.below hb12 (Nat.le_refl _)
       have hmb := hm211.out.below hb12 (Nat.le_refl _)
       obtain ⟨N, hN⟩ : ∃ N, T.length = N := ⟨_, rfl⟩
       rw [hN]
       clear hown hm111 hm211
       replace htr := Lib.hid htr
       replace hN := Lib.hid hN
       replace hma := Lib.hid hma
       replace hmb := Lib.hid hmb
       go_wp2_with fail
       go_loopw [123] (fun i wr => ∃ k : Nat, k ≤ N ∧ i = .int .i64 k ∧ Below w12.heap.size w12 wr) (fun i _ => (N - intOf i).toNat)
       case atStart => exact ⟨0, Nat.zero_le _, rfl, Below.refl _ _⟩
       case round =>
        obtain ⟨k, hk, rfl, hB⟩ := hrel
        by_cases hlt : (k : Int) < (N : Int)
        ·have hkl : k < T.length := by have := hN.out; omega
         obtain ⟨g, rfl, hg, hcg⟩ := htr.out k hkl
         replace hcg := cell_lt hB hcg hg
         obtain ⟨f0, f1, f2, f3⟩ := hfp.out T[k] (List.getElem_mem hkl)
         obtain ⟨a, ha⟩ : ∃ a, T[k] = a := ⟨_, rfl⟩
         rw [ha] at hcg f0 f1 f2 f3
         have hbk : (0 : Int) ≤ (k : Int) ∧ (k : Int) < (N : Int) := ⟨by omega, hlt⟩
         have hwk : IntKind.i64.wrap ((k : Int) + 1) = ((k + 1 : Nat) : Int) := by rw [show (k : Int) + 1 = ((k + 1 : Nat) : Int) by omega]; exact IntWalk.i64_in _ (by omega)
         have hq : askV 1073741824 16777216 a ((4096 : Nat) : Int) = 0 := ask_page f1 f2
         have hW : W64 a := by unfold W64; omega
         have hr1 := readIn_any mb pb 1073741824 16777216 a 4096 L9 wr (hma.out.below hB (Nat.le_refl _)) hW (by decide) (by omega) hq
         have hr2 := fun W h => readIn_any mc pc 1073741824 16777216 a 4096 L11 W h hW (by decide) (by omega) hq
         rw [f3] at hr1
         have hDl : (rdB (L11.map Pg.ab) a 4096).length = 4096 := rdB_len _ _ _
         generalize rdB (L11.map Pg.ab) a 4096 = D at *
         have e4 : ((4096 : Nat) : Int) = 4096 := rfl
         rw [e4] at hr1 hr2
         clear hq hW f0 f1 f2 f3 e4 htr hfp
         replace hr2 := Lib.hid hr2
         replace ha := Lib.hid ha
         go_wp2_with fail
         refine hr1.mono ?_; rintro e w13 ⟨b1, rfl, hb1, hb13, hg1⟩
         clear hr1
         have hB13 := bthen hB hb13
         have hr2 := hr2.out w13 (hmb.out.below hB13 (Nat.le_refl _))
         go_wp2_with fail
         refine hr2.mono ?_; rintro e w14 ⟨b2, rfl, hb2, hb14, hg2⟩
         clear hr2
         have hg1' := (hb14.block b1 (Array.getElem?_eq_some_iff.1 hg1).1).trans hg1
         have cv1 := conv_row (heap_rowB hg1' hDl (by decide))
         have cv2 := conv_row (heap_rowB hg2 hDl (by decide))
         have hB14 := bthen hB13 hb14
         generalize strOfNums D = S at *
         clear hg1 hg1' hg2 hb1 hb2 hDl
         go_wp2_with fail
         exact ⟨⟨k + 1, by omega, congrArg (Value.int .i64) (by omega), hB14⟩, by simp [intOf]; omega⟩
        ·go_wp2_with fail
         go_ret
         exact ⟨rfl, bthen hbw12 hB⟩
      ·have hne : (err != 0) = true := by simpa using hf
       have hx1 : (root == root) = true := by simp
       have hx2 : (err == err) = true := by simp
       go_wp2_with fail
       go_ret
       exact ⟨rfl, hbw11⟩
end Go.Proofs.YtiblhlaemmdphaaGreat
