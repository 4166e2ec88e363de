/- The reference lays any piece: the tables on its way, and its descriptor. -/
import Derived.BigRegion
import Derived.Test.YtiblhlaemmdphaaGreatTableBuildsP6
import Derived.Test.YtiblhlaemmdphaaGreatTableBuildsP15
import Derived.Test.YtiblhlaemmdphaaGreatTableBuildsP32
import Derived.Test.YtiblhlaemmdphaaGreatTableBuildsP34
import Derived.Test.YtiblhlaemmdphaaGreatTableBuildsP35
import Derived.Test.YtiblhlaemmdphaaGreatTableBuildsP47
import Derived.Test.YtiblhlaemmdphaaGreatTableBuildsP48
namespace Go.Proofs.YtiblhlaemmdphaaGreat
open Go Go.RowKit Go.BigFrame Go.Maps
theorem way_word {s z o root lv : Int} {q : M5} {E D : List (Int × M5)} {st st' : BS} {i : Nat} {a : Int} (h : Way s z o root lv q E D st i a st') (hq : (lv, q) ∈ E) (hi : i < (lv - 1).toNat) :
  wordV s z st'.pg (slotV a q (1 + i)) = ((match lookT st'.tb (2 + i, q.ipa / szK (2 + i - 1)) with | some b => (putV (1 + i) (tabD b)).1 | none => 0), 0) := by
 have hlv := (h.bd.pcs _ hq).lv
 simp only at hlv
 have hs := h.slot
 have hl := leaf_none h.bd hq (k := 2 + i) (by omega) (by omega)
 have e1 : 2 + (i : Int) - 1 = 1 + i := by omega
 rw [e1] at hl
 have hw := h.bd.word _ _ _ hs
 have hpe := putE_slot h.bd hs
 have hlt := SlotAt.lt h.bd hs
 have hb : wordBad s z (slotV a q (1 + i)) = false := by
  unfold wordBad
  unfold putE at hpe
  have h8 : slotV a q (1 + i) % 8 = 0 := hlt.2.2.1
  rw [if_pos h8] at hpe
  rw [h8, hpe]
  simp
 unfold wordV
 rw [hb, if_neg (by simp), hw]
 unfold nodeW
 rw [hl, e1, show (1 : Int) + i + 1 = 2 + i by omega]
 rfl
theorem way_tab {s z o root lv : Int} {q : M5} {E D : List (Int × M5)} {st st' : BS} {i : Nat} {a b : Int} (h : Way s z o root lv q E D st i a st') (hl : lookT st'.tb (2 + i, q.ipa / szK (2 + i - 1)) = some b) : 0 ≤ b ∧ b < 1099511627776 ∧ b % 4096 = 0 := by
 have hm := lookT_some hl
 have h0 := h.bd.tab0 _ hm
 have h1 := (h.bd.tabC _ hm b (by simp) (by simp only; omega)).1
 have hlo := h.bd.lo
 have hf0 := h.bd.plok.f0
 simp only at h0
 omega
theorem way_made {s z o root lv : Int} {q : M5} {E D : List (Int × M5)} {st st' stf : BS} {i : Nat} {a at' : Int} (h : Way s z o root lv q E D st i a st') (hq : (lv, q) ∈ E) (hi : i < (lv - 1).toNat) (hl : lookT st'.tb (2 + i, q.ipa / szK (2 + i - 1)) = none) (hf : frS s z 1 4096 st' = (stf, at', 0)) :
  ∃ st2, Way s z o root lv q E D st (i + 1) at' st2 ∧ st2.pl = stf.pl ∧ st2.pg = wpg (zpgs st'.pg at' (4096 * 1)) (slotV a q (1 + i)) (at' + 3) ∧ 0 ≤ at' ∧ at' < 1099511627776 ∧ at' % 4096 = 0 := by
 have hlv := (h.bd.pcs _ hq).lv
 simp only at hlv
 obtain ⟨hr, hw, hs⟩ := frS_run hf
 obtain ⟨m1, m2, m3, m4, m5, m6⟩ := h.made hq hi hl (by rw [hf])
 rw [hf] at m1 m2 m6
 simp only at m1 m2 m6
 have hm : ((2 + (i : Int), q.ipa / szK (2 + i - 1)), at') ∈ st'.tb ++ [((2 + (i : Int), q.ipa / szK (2 + i - 1)), at')] := by simp
 have h0 := m6.bd.tab0 _ hm
 have h1 := (m6.bd.tabC _ hm at' (by simp) (by simp only; omega)).1
 have hlo := m6.bd.lo
 have hf0 := m6.bd.plok.f0
 simp only at h0 h1 hlo hf0
 have ha1 : at' < 1099511627776 := by omega
 have hk : (1 : Int) + i = 1 ∨ (1 : Int) + i = 2 := by omega
 have e1 : 2 + (i : Int) - 1 = 1 + i := by omega
 have htp := tab_put (k := 1 + i) (a := at') hk m2 ha1 h0
 have htw := tab_word (k := 1 + i) (a := at') hk m2 ha1 h0
 refine ⟨_, m6, ?_, ?_, m2, ha1, h0⟩
 ·unfold layS
  split
  ·rfl
  ·split <;> rfl
 ·unfold layS
  rw [e1, if_neg (by rw [htp.1]; simp), if_neg (by rw [putE_slot h.bd h.slot]; simp), htw]
  dsimp only
  rw [hs]
structure LyG (w0 W : World) (B rb C : Nat) (pv0 vr0 : Value) (L0 : List Pg) (s z : Int) (T : Two) (pv vr : Value) (L : List Pg) (U : List Int) (pl : Pl) (pg : PG) (q : M5) (j : Nat) : Prop where
 rm : RG W B rb C pv vr s z T L U pl pg
 turn : RTurn B (refAll rb pv0 L0 C vr0) (refAll rb pv L C vr) w0 W
 box : W.heap[w0.heap.size]? = some (.cells #[.int .u64 q.ipa, .int .u64 q.pa, .int .u64 q.sz, .int .i64 q.perm, .int .i64 q.kind] 59 (0, 0))
 qn : w0.heap.size ∉ refAll rb pv L C vr
 len : L.length ≤ L0.length + 8 * j
section
variable {w0 W W' : World} {B rb C : Nat} {pv0 vr0 : Value} {L0 : List Pg} {s z : Int} {T : Two} {pv vr : Value} {L : List Pg} {U : List Int} {pl : Pl} {pg : PG} {q : M5} {j : Nat}
theorem LyG.later (h : LyG w0 W B rb C pv0 vr0 L0 s z T pv vr L U pl pg q j) (hb : Below W.heap.size W W') : LyG w0 W' B rb C pv0 vr0 L0 s z T pv vr L U pl pg q j :=
 ⟨h.rm.later hb, h.turn.trans (RTurn.of_below hb h.rm.hB), (hb.block _ (Array.getElem?_eq_some_iff.1 h.box).1).trans h.box, h.qn, h.len⟩
theorem LyG.next (h : LyG w0 W B rb C pv0 vr0 L0 s z T pv vr L U pl pg q j) {pv' vr' : Value} {L' : List Pg} {U' : List Int} {pl' : Pl} {pg' : PG} (hr : RG W' B rb C pv' vr' s z T L' U' pl' pg') (ht : RTurn B (refAll rb pv L C vr) (refAll rb pv' L' C vr') W W') {j' : Nat} (hl : L'.length ≤ L0.length + 8 * j') : LyG w0 W' B rb C pv0 vr0 L0 s z T pv' vr' L' U' pl' pg' q j' :=
 ⟨hr, h.turn.trans ht, (ht.off.rest _ (Array.getElem?_eq_some_iff.1 h.box).1 h.qn).trans h.box, fun e => (ht.blks _ e).elim h.qn fun e => by have := (Array.getElem?_eq_some_iff.1 h.box).1; omega, hl⟩
theorem LyG.cells (h : LyG w0 W B rb C pv0 vr0 L0 s z T pv vr L U pl pg q j) : W.cell? ⟨w0.heap.size, 0, none⟩ = some (.int .u64 q.ipa) ∧ W.cell? ⟨w0.heap.size, 1, none⟩ = some (.int .u64 q.pa) ∧ W.cell? ⟨w0.heap.size, 2, none⟩ = some (.int .u64 q.sz) ∧ W.cell? ⟨w0.heap.size, 3, none⟩ = some (.int .i64 q.perm) ∧ W.cell? ⟨w0.heap.size, 4, none⟩ = some (.int .i64 q.kind) := by
 have := h.box
 refine ⟨?_, ?_, ?_, ?_, ?_⟩ <;> simp [World.cell?, this]
end
def LayTo (w w' : World) (B rb C : Nat) (pv vr : Value) (s z : Int) (T : Two) (L : List Pg) (n : Nat) (st : BS) : Prop :=
 ∃ pv' vr' L' U', RG w' B rb C pv' vr' s z T L' U' st.pl st.pg ∧ RTurn B (refAll rb pv L C vr) (refAll rb pv' L' C vr') w w' ∧ L'.length ≤ L.length + n
set_option maxRecDepth 100000 in
set_option maxHeartbeats 8000000 in
theorem refLay_any {w : World} {B rb C : Nat} {pv vr : Value} {s z o root lv : Int} {T : Two} {L : List Pg} {U : List Int} {q : M5} {E D : List (Int × M5)} {st : BS} (h : RG w B rb C pv vr s z T L U st.pl st.pg) (hbd : Bd s z o root E D st) (hq : (lv, q) ∈ E) (hqs : q.sz = szK lv) (hl : L.length ≤ 800000) (hcn : st.pl.count ≤ 1000000) :
  Calls Tryz.prog 39 #[.pointer (some ⟨rb, 0, none⟩), .pointer (some ⟨C, 0, none⟩), .int .u64 root, .agg #[.int .u64 q.ipa, .int .u64 q.pa, .int .u64 q.sz, .int .i64 q.perm, .int .i64 q.kind]] w
   fun e w' => e = .returned (.int .i64 (pieceS s z root lv q st).2) ∧ LayTo w w' B rb C pv vr s z T L 24 (pieceS s z root lv q st).1 := by
 have hp := hbd.pcs _ hq
 obtain ⟨W1, hW1⟩ : ∃ W1, W1 = w.alloc (.cells #[.int .u64 q.ipa, .int .u64 q.pa, .int .u64 q.sz, .int .i64 q.perm, .int .i64 q.kind] 59) := ⟨_, rfl⟩
 have hb1 : Below w.heap.size w W1 := by rw [hW1]; exact bone _ _
 have hst : LyG w W1 B rb C pv vr L s z T pv vr L U st.pl st.pg q 0 := by
  refine ⟨h.later hb1, RTurn.of_below hb1 h.hB, ?_, fun e => by have := h.lt _ e; omega, by omega⟩
  rw [hW1]
  exact World.alloc_heap_new _ _
 have c0 : W1.cell? ⟨w.heap.size, 0, none⟩ = some (.int .u64 q.ipa) := hst.cells.1
 have hway : Way s z o root lv q E D st 0 root st := Way.start hbd hq
 have i0 := hp.i0
 have i1 := hp.i1
 have hlv := hp.lv
 simp only at i0 i1 hlv
 have hz0 : 0 < szK lv := by rcases szK_of hlv with ⟨_, e⟩ | ⟨_, e⟩ | ⟨_, e⟩ <;> omega
 have i2 : q.ipa < 1099511627776 := by omega
 have hsl1 : slotV root q 1 = IntKind.u64.wrap (root + 8 * (q.ipa / 1073741824)) := rfl
 rw [hW1] at c0
 generalize hR : pieceS s z root lv q st = R
 replace hR := Lib.hid hR
 replace hqs := Lib.hid hqs
 go_enter Tryz.func39, Tryz.ntmps39
 go_wp2_with fail
 rw [← hW1]
 clear hW1 c0 hb1
 go_loopw [9, 10] (fun u9 u10 wr => ∃ (i : Nat) (a : Int) (st' : BS) (pv' vr' : Value) (L' : List Pg) (U' : List Int), u10 = .int .i64 (1 + i) ∧ u9 = .int .u64 (slotV a q (1 + i)) ∧ Way s z o root lv q E D st i a st' ∧ LyG w wr B rb C pv vr L s z T pv' vr' L' U' st'.pl st'.pg q i ∧ st'.pl.count = st.pl.count) (fun _ u _ => 4 - (intOf u).toNat)
 case atStart => exact ⟨0, root, st, pv, vr, L, U, rfl, by rw [show (1 : Int) + ((0 : Nat) : Int) = 1 from rfl, hsl1], hway, hst, rfl⟩
 case round =>
  clear hst hway hsl1
  obtain ⟨i, a, st', pv1, vr1, L1, U1, rfl, rfl, hway, hI, hcs⟩ := hrel
  obtain ⟨d0, d1, d2, d3, d4⟩ := hI.cells
  have hbz := (Array.getElem?_eq_some_iff.1 hI.box).1
  obtain ⟨wo, rfl⟩ : ∃ wo, wo = wr := ⟨_, rfl⟩
  have hile := hway.le
  by_cases hlf : (i : Int) = lv - 1
  ·have hpath := hway.path
   have hslot := hway.slot
   have hpe := putE_slot hway.bd hslot
   have hslt := SlotAt.lt hway.bd hslot
   have hlp := leaf_put hp
   have hpgo := hway.bd.pgok
   have hpc : pieceS s z root lv q st = (⟨st'.pl, wpg st'.pg (slotV a q (1 + i)) (putV lv (leafD lv q)).1, st'.tb⟩, 0) := by
    refine piece_run (st' := st') (t := a) (by rw [show (lv - 1).toNat = i by omega]; exact hpath) ?_
    have e1 : slotV a q lv = slotV a q (1 + i) := by congr 1; omega
    unfold layS
    rw [e1, if_neg (by rw [hlp.1]; simp), if_neg (by rw [hpe]; simp)]
   have hwx : W64 (putV lv (leafD lv q)).1 := putV_bd _ _
   have hput := fun W => refPutPc hp W
   generalize (putV lv (leafD lv q)).1 = wd at *
   generalize slotV a q (1 + i) = sl at *
   obtain rfl : R = _ := hR.out.symm.trans hpc
   have hsK : ∀ W, Calls Tryz.prog 47 #[.int .i64 lv] W fun e w' => e = .returned (.int .u64 (szK lv)) ∧ Below W.heap.size W w' := fun W => refSize_b lv W hlv
   have hi3 : (i = 0 ∧ lv = 1) ∨ (i = 1 ∧ lv = 2) ∨ (i = 2 ∧ lv = 3) := by omega
   rw [hqs.out] at d2
   clear hR hqs hbd hq hpc hslot hpath hway hlp hp hile hlf hlv
   have hsl : W64 sl := by unfold W64; omega
   rcases hi3 with ⟨rfl, rfl⟩ | ⟨rfl, rfl⟩ | ⟨rfl, rfl⟩
   all_goals
    simp only [show szK 1 = 1073741824 from rfl, show szK 2 = 2097152 from rfl, show szK 3 = 4096 from rfl] at d2 i1 hz0 hsK
    simp only [show (if (1 : Int) = 3 then (3 : Int) else 2) = 2 from rfl, show (if (2 : Int) = 3 then (3 : Int) else 2) = 2 from rfl] at hput
    have k1 : (1 : Int) + ((0 : Nat) : Int) = 1 := rfl
    have k2 : (1 : Int) + ((1 : Nat) : Int) = 2 := rfl
    have k3 : (1 : Int) + ((2 : Nat) : Int) = 3 := rfl
    go_wp2_with fail
    refine region_later wo.heap.size wo (Below.refl _ _) (by kernel_rfl) (by kernel_rfl) ?_
    have y0 := later_cell (B := wo.heap.size) d2 hbz
    repeat (quiet_step ((go_at_call 47; exact quiet_later (Nat.le_refl _) (hsK _))))
    refine wpQuiet_nil ?_
    first | (rintro _ ⟨X, rfl⟩) | (intro X)
    have hX := X.h
    clear y0
    generalize X.x = w2 at *
    clear X
    have hI2 := hI.later hX
    have g1 := cell_lt hX d1 hbz
    have g3 := cell_lt hX d3 hbz
    have g4 := cell_lt hX d4 hbz
    go_wp2_with fail
    refine (hput _).mono ?_; rintro e w3 ⟨rfl, hb3⟩
    clear hput
    have hI3 := (hI2.later (bone w2 _)).later hb3
    have hpm := hI3.rm.putM hpgo sl wd hsl (by omega) hwx hpe (by have := hI3.len; omega)
    go_wp2_with fail
    refine hpm.mono ?_; rintro e w4 ⟨pv4, L4, rfl, hM4, hT4, hl4⟩
    clear hpm
    go_wp2_with fail
    go_ret
    exact ⟨rfl, pv4, vr1, L4, U1, hM4, hI3.turn.trans hT4, by have := hI3.len; omega⟩
  ·have hi : i < (lv - 1).toNat := by omega
   have hwd := way_word hway hq hi
   have hz4 : slotV a q (1 + i) % 8 = 0 ∧ W64 (slotV a q (1 + i)) := by
    have := SlotAt.lt hway.bd hway.slot
    exact ⟨this.2.2.1, by unfold W64; omega⟩
   have hi2 : i = 0 ∨ i = 1 := by omega
   have hsK : ∀ W, Calls Tryz.prog 47 #[.int .i64 (1 + i)] W fun e w' => e = .returned (.int .u64 (szK (1 + i))) ∧ Below W.heap.size W w' := fun W => refSize_b _ W (by omega)
   have hne : (q.sz == szK (1 + i)) = false := by
    rw [hqs.out]
    rcases hi2 with rfl | rfl <;> rcases hlv with rfl | rfl | rfl <;> first | decide | (exfalso; simp at hi)
   cases hlk : lookT st'.tb (2 + i, q.ipa / szK (2 + i - 1)) with
   | some b =>
    obtain ⟨b0, b1, b2⟩ := way_tab hway hlk
    have hnx := hway.has hq hi hlk
    rw [hlk] at hwd
    simp only at hwd
    have htp := tab_put (k := 1 + i) (a := b) (by omega) b0 b1 b2
    have htw := tab_word (k := 1 + i) (a := b) (by omega) b0 b1 b2
    have hofe := of_put (1 + i) (tabD b) b0 htp.2
    rw [htw] at hofe hwd
    have hw2 : wordV s z (L1.map Pg.ab) (slotV a q (1 + i)) = (b + 3, 0) := (hI.rm.word _).trans hwd
    have hword := fun (W : World) (hm : MemR W rb pv1 s z L1) => refWord_any rb pv1 s z (slotV a q (1 + i)) L1 W hm hz4.2
    have hof := fun W => refOf_any (1 + i) (b + 3) W (by omega) (by omega)
    simp only [hw2] at hword
    simp only [hofe] at hof
    rw [show (tabD b).val = .agg #[.int .i64 1, .int .u64 b, .int .i64 0, .int .i64 0, .bool false] from rfl] at hof
    have hsl2 : slotV b q (1 + ((i + 1 : Nat) : Int)) = b + 8 * (q.ipa / szK (2 + i) % 512) := by
     have e : slotV b q (1 + ((i + 1 : Nat) : Int)) = IntKind.u64.wrap (b + 8 * (q.ipa / szK (2 + i) % 512)) := by rcases hi2 with rfl | rfl <;> rfl
     rw [e, IntKind.wrap_u64]
     omega
    clear htp htw hlk hofe hw2 hwd hz4 hbd hway hqs hile hlf hlv hp hi
    generalize slotV a q (1 + i) = sl at *
    replace hsl2 := Lib.hid hsl2
    replace hR := Lib.hid hR
    rcases hi2 with rfl | rfl
    all_goals
     simp only [show (1 : Int) + ((0 : Nat) : Int) = 1 from rfl, show (1 : Int) + ((1 : Nat) : Int) = 2 from rfl, show szK 1 = 1073741824 from rfl, show szK 2 = 2097152 from rfl] at hne hsK hof
     have hand1 : bits BinOp.and .u64 (q.ipa / 2097152) 511 = q.ipa / 2097152 % 512 := and511 _ (by omega) (by omega)
     have hand2 : bits BinOp.and .u64 (q.ipa / 4096) 511 = q.ipa / 4096 % 512 := and511 _ (by omega) (by omega)
     have k1 : (1 : Int) + ((0 : Nat) : Int) = 1 := rfl
     have k2 : (1 : Int) + ((1 : Nat) : Int) = 2 := rfl
     go_wp2_with fail
     refine region_later wo.heap.size wo (Below.refl _ _) (by kernel_rfl) (by kernel_rfl) ?_
     have y0 := later_cell (B := wo.heap.size) d2 hbz
     repeat (quiet_step ((go_at_call 47; exact quiet_later (Nat.le_refl _) (hsK _))))
     refine wpQuiet_nil ?_
     first | (rintro _ ⟨X, rfl⟩) | (intro X)
     have hX := X.h
     clear y0
     generalize X.x = w2 at *
     clear X
     have hI2 := hI.later hX
     go_wp2_with fail
     refine (hword _ hI2.rm.mem).mono ?_; rintro e w3 ⟨rfl, hb3⟩
     have hI3 := hI2.later hb3
     clear hword
     go_wp2_with fail
     refine (hof _).mono ?_; rintro e w4 ⟨rfl, hb4⟩
     clear hof
     have hI5 := (hI3.later hb4).later (bone w4 (.cells #[.int .i64 1, .int .u64 b, .int .i64 0, .int .i64 0, .bool false] 117))
     have f0 := hI5.cells.1
     go_wp2_with fail
     refine ⟨⟨_, b, st', pv1, vr1, L1, U1, ?_, ?_, hnx, ⟨hI5.rm, hI5.turn, hI5.box, hI5.qn, by have := hI5.len; omega⟩, hcs⟩, ?_⟩
     ·rfl
     ·rw [hsl2.out]; rfl
     ·simp [intOf]
   | none =>
    rw [hlk] at hwd
    simp only at hwd
    have hpe := putE_slot hway.bd hway.slot
    have hpgo := hway.bd.pgok
    have hzv : ofV (1 + i) 0 = zeroV := by
     have b0 : bitV 0 0 = false := by decide +kernel
     simp [ofV, b0]
    have hw2 : wordV s z (L1.map Pg.ab) (slotV a q (1 + i)) = (0, 0) := (hI.rm.word _).trans hwd
    have hword := fun (W : World) (hm : MemR W rb pv1 s z L1) => refWord_any rb pv1 s z (slotV a q (1 + i)) L1 W hm hz4.2
    have hof := fun W => refOf_any (1 + i) 0 W (by omega) (by omega)
    simp only [hw2] at hword
    simp only [hzv] at hof
    rw [show zeroV.val = .agg #[.int .i64 0, .int .u64 0, .int .i64 0, .int .i64 0, .bool false] from rfl] at hof
    have h4096 : W64 4096 := ⟨by decide, by decide⟩
    have hc1 := hway.bd.cnt
    have hc2 := hway.bd.plok
    rcases frS_one hway.bd with ⟨hd1, hd2⟩ | ⟨pl2, at', hf, htk⟩
    ·obtain ⟨x, hrun, _⟩ := frS_dry hd2
     have hdr := hway.dry hi hlk (by rw [hd2]; simp)
     rw [hd2] at hdr
     simp only at hdr
     obtain rfl : R = _ := hR.out.symm.trans hdr
     clear hlk hwd hzv hw2 hz4 hbd hway hqs hile hlf hlv hp hi hdr hR hd1 hd2
     generalize slotV a q (1 + i) = sl at *
     rcases hi2 with rfl | rfl
     all_goals
      simp only [show (1 : Int) + ((0 : Nat) : Int) = 1 from rfl, show (1 : Int) + ((1 : Nat) : Int) = 2 from rfl, show szK 1 = 1073741824 from rfl, show szK 2 = 2097152 from rfl] at hne hsK hof
      have k1 : (1 : Int) + ((0 : Nat) : Int) = 1 := rfl
      have k2 : (1 : Int) + ((1 : Nat) : Int) = 2 := rfl
      go_wp2_with fail
      refine region_later wo.heap.size wo (Below.refl _ _) (by kernel_rfl) (by kernel_rfl) ?_
      have y0 := later_cell (B := wo.heap.size) d2 hbz
      repeat (quiet_step ((go_at_call 47; exact quiet_later (Nat.le_refl _) (hsK _))))
      refine wpQuiet_nil ?_
      first | (rintro _ ⟨X, rfl⟩) | (intro X)
      have hX := X.h
      clear y0
      generalize X.x = w2 at *
      clear X
      have hI2 := hI.later hX
      go_wp2_with fail
      refine (hword _ hI2.rm.mem).mono ?_; rintro e w3 ⟨rfl, hb3⟩
      have hI3 := hI2.later hb3
      clear hword
      go_wp2_with fail
      refine (hof _).mono ?_; rintro e w4 ⟨rfl, hb4⟩
      clear hof
      have hI5 := (hI3.later hb4).later (bone w4 (.cells #[.int .i64 0, .int .u64 0, .int .i64 0, .int .i64 0, .bool false] 117))
      have hfr := refFrameNo hI5.rm hrun (by decide) h4096 hc2 (by omega)
      go_wp2_with fail
      refine hfr.mono ?_; rintro e w6 ⟨vr6, U6, rfl, hM6, hT6⟩
      clear hfr
      go_wp2_with fail
      go_ret
      exact ⟨rfl, pv1, vr6, L1, U6, hM6, hI5.turn.trans hT6, by have := hI5.len; omega⟩
    ·obtain ⟨hrun, hwi, hst1⟩ := frS_run hf
     obtain ⟨st2, hnx, hp2, hg2, a0, a1, a2⟩ := way_made hway hq hi hlk hf
     have htk1 := htk.ok
     have htk2 := htk.same
     have hcn2 := hnx.bd.cnt
     rw [hp2] at hcn2
     have hpz := zpgs_ok hpgo at' (4096 * 1)
     have hsl2 : slotV at' q (1 + ((i + 1 : Nat) : Int)) = at' + 8 * (q.ipa / szK (2 + i) % 512) := by
      have e : slotV at' q (1 + ((i + 1 : Nat) : Int)) = IntKind.u64.wrap (at' + 8 * (q.ipa / szK (2 + i) % 512)) := by rcases hi2 with rfl | rfl <;> rfl
      rw [e, IntKind.wrap_u64]
      omega
     have hpt := fun W => refPutTab (1 + i) at' W (by omega) a0 a1 a2
     have hsl8 := SlotAt.lt hway.bd hway.slot
     have hwat : W64 at' := by unfold W64; omega
     have hwa3 : W64 (at' + 3) := by unfold W64; omega
     simp only at hrun hcn2
     clear hlk hwd hzv hw2 hbd hway hqs hile hlf hlv hp hi hst1 hf htk
     generalize slotV a q (1 + i) = sl at *
     replace hsl2 := Lib.hid hsl2
     replace hp2 := Lib.hid hp2
     replace hg2 := Lib.hid hg2
     replace htk2 := Lib.hid htk2
     obtain ⟨J, hJ⟩ : ∃ J : Nat, J = i := ⟨_, rfl⟩
     rw [← hJ] at hI
     replace hJ := Lib.hid hJ
     rcases hi2 with rfl | rfl
     all_goals
      simp only [show (1 : Int) + ((0 : Nat) : Int) = 1 from rfl, show (1 : Int) + ((1 : Nat) : Int) = 2 from rfl, show szK 1 = 1073741824 from rfl, show szK 2 = 2097152 from rfl] at hne hsK hof hpt
      have hand1 : bits BinOp.and .u64 (q.ipa / 2097152) 511 = q.ipa / 2097152 % 512 := and511 _ (by omega) (by omega)
      have hand2 : bits BinOp.and .u64 (q.ipa / 4096) 511 = q.ipa / 4096 % 512 := and511 _ (by omega) (by omega)
      have k1 : (1 : Int) + ((0 : Nat) : Int) = 1 := rfl
      have k2 : (1 : Int) + ((1 : Nat) : Int) = 2 := rfl
      go_wp2_with fail
      refine region_later wo.heap.size wo (Below.refl _ _) (by kernel_rfl) (by kernel_rfl) ?_
      have y0 := later_cell (B := wo.heap.size) d2 hbz
      repeat (quiet_step ((go_at_call 47; exact quiet_later (Nat.le_refl _) (hsK _))))
      refine wpQuiet_nil ?_
      first | (rintro _ ⟨X, rfl⟩) | (intro X)
      have hX := X.h
      clear y0
      generalize X.x = w2 at *
      clear X
      have hI2 := hI.later hX
      go_wp2_with fail
      refine (hword _ hI2.rm.mem).mono ?_; rintro e w3 ⟨rfl, hb3⟩
      have hI3 := hI2.later hb3
      clear hword
      go_wp2_with fail
      refine (hof _).mono ?_; rintro e w4 ⟨rfl, hb4⟩
      clear hof
      have hI5 := (hI3.later hb4).later (bone w4 (.cells #[.int .i64 0, .int .u64 0, .int .i64 0, .int .i64 0, .bool false] 117))
      obtain ⟨W5, hW5⟩ : ∃ W5, W5 = w4.alloc (.cells #[.int .i64 0, .int .u64 0, .int .i64 0, .int .i64 0, .bool false] 117) := ⟨_, rfl⟩
      have hd5 : W5.heap[w4.heap.size]? = some (.cells #[.int .i64 0, .int .u64 0, .int .i64 0, .int .i64 0, .bool false] 117 (0, 0)) := by rw [hW5]; exact World.alloc_heap_new _ _
      have hdn : w4.heap.size ∉ refAll rb pv1 L1 C vr1 := fun e => by have := (hI3.later hb4).rm.lt _ e; omega
      have hqd : w.heap.size ≠ w4.heap.size := fun e => by have := (Array.getElem?_eq_some_iff.1 (hI3.later hb4).box).1; omega
      have hBd : B ≤ w4.heap.size := (hI3.later hb4).rm.hB
      have hwz : w.heap.size ≤ w4.heap.size := (hI3.later hb4).turn.off.below.size
      rw [← hW5] at hI5
      have hfr := refFrameOk hI5.rm hrun h4096 (.inl rfl) hwi hwat a2 htk1 (by have := htk2.out.2; omega)
      replace hW5 := Lib.hid hW5
      go_wp2_with fail
      rw [← hW5.out]
      refine hfr.mono ?_; rintro e w6 ⟨vr6, U6, L6, rfl, hM6, hl6, hT6⟩
      clear hfr
      have hz5 := (Array.getElem?_eq_some_iff.1 hd5).1
      have hd6 := (hT6.off.rest _ hz5 hdn).trans hd5
      have hdn6 : w4.heap.size ∉ refAll rb pv1 L6 C vr6 := fun e => (hT6.blks _ e).elim hdn fun e => by omega
      have hI6 := hI5.next hM6 hT6 (j' := J) (by rw [hl6]; exact hI5.len)
      have k0 : w6.cell? ⟨w4.heap.size, 0, none⟩ = some (.int .i64 0) := by simp [World.cell?, hd6]
      have k1 : w6.cell? ⟨w4.heap.size, 1, none⟩ = some (.int .u64 0) := by simp [World.cell?, hd6]
      have k2 : w6.cell? ⟨w4.heap.size, 2, none⟩ = some (.int .i64 0) := by simp [World.cell?, hd6]
      have k3 : w6.cell? ⟨w4.heap.size, 3, none⟩ = some (.int .i64 0) := by simp [World.cell?, hd6]
      have k4 : w6.cell? ⟨w4.heap.size, 4, none⟩ = some (.bool false) := by simp [World.cell?, hd6]
      have kf : ∀ o, w6.frozen? ⟨w4.heap.size, o, none⟩ = false := fun o => by simp [World.frozen?, hd6]
      have kf0 := kf 0
      have kf1 := kf 1
      have kf2 := kf 2
      have kf3 := kf 3
      have kf4 := kf 4
      clear kf
      obtain ⟨w7, hw7⟩ : ∃ w7, w7 = (((((w6.setCell ⟨w4.heap.size, 0, none⟩ (.int .i64 1)).setCell ⟨w4.heap.size, 1, none⟩ (.int .u64 at')).setCell ⟨w4.heap.size, 2, none⟩ (.int .i64 0)).setCell ⟨w4.heap.size, 3, none⟩ (.int .i64 0)).setCell ⟨w4.heap.size, 4, none⟩ (.bool false)) := ⟨_, rfl⟩
      have ho7 : ∀ b, b ≠ w4.heap.size → w7.heap[b]? = w6.heap[b]? := fun b hb' => by
       have ho : ∀ (i : Nat) (u : Value) (W : World), (W.setCell ⟨w4.heap.size, i, none⟩ u).heap[b]? = W.heap[b]? := fun i u W => Below.heap_setCell _ _ _ _ (by simpa using hb')
       rw [hw7, ho, ho, ho, ho, ho]
      have hd7 : w7.heap[w4.heap.size]? = some (.cells #[.int .i64 1, .int .u64 at', .int .i64 0, .int .i64 0, .bool false] 117 (0, 0)) := by
       rw [hw7]
       exact heapAt_put (heapAt_put (heapAt_put (heapAt_put (heapAt_put hd6 0 (.int .i64 1)) 1 (.int .u64 at')) 2 (.int .i64 0)) 3 (.int .i64 0)) 4 (.bool false)
      have hz67 : w7.heap.size = w6.heap.size := by rw [hw7]; simp
      have hI7 : LyG w w7 B rb C pv vr L s z T pv1 vr6 L6 U6 pl2 (zpgs st'.pg at' (4096 * 1)) q J := by
       refine ⟨hI6.rm.same fun b hb' => ho7 b fun e => hdn6 (e ▸ hb'), ⟨⟨?_, fun k h1 h2 => ?_⟩, hI6.turn.blks⟩, (ho7 _ hqd).trans hI6.box, hI6.qn, hI6.len⟩
       ·rw [hw7]
        exact ((((hI6.turn.off.below.setCell (by simpa using hBd) _).setCell (by simpa using hBd) _).setCell (by simpa using hBd) _).setCell (by simpa using hBd) _).setCell (by simpa using hBd) _
       ·exact (ho7 k (by omega)).trans (hI6.turn.off.rest k h1 h2)
      have e0 : w7.cell? ⟨w4.heap.size, 0, none⟩ = some (.int .i64 1) := by simp [World.cell?, hd7]
      have e1 : w7.cell? ⟨w4.heap.size, 1, none⟩ = some (.int .u64 at') := by simp [World.cell?, hd7]
      have e2 : w7.cell? ⟨w4.heap.size, 2, none⟩ = some (.int .i64 0) := by simp [World.cell?, hd7]
      have e3 : w7.cell? ⟨w4.heap.size, 3, none⟩ = some (.int .i64 0) := by simp [World.cell?, hd7]
      have e4 : w7.cell? ⟨w4.heap.size, 4, none⟩ = some (.bool false) := by simp [World.cell?, hd7]
      rw [hw7] at e0 e1 e2 e3 e4
      have hpt7 := hpt w7
      clear hpt
      go_wp2_with fail
      rw [← hw7]
      refine hpt7.mono ?_; rintro e w8 ⟨rfl, hb8⟩
      clear hpt7 e0 e1 e2 e3 e4 hw7
      have hI8 := hI7.later hb8
      have hd8 := (hb8.block _ (Array.getElem?_eq_some_iff.1 hd7).1).trans hd7
      have hpm := hI8.rm.putM hpz sl (at' + 3) hz4.2 (by omega) hwa3 hpe (by have := hI8.len; have := hJ.out; omega)
      go_wp2_with fail
      refine hpm.mono ?_; rintro e w9 ⟨pv9, L9, rfl, hM9, hT9, hl9⟩
      clear hpm
      have hd9 := (hT9.off.rest _ (Array.getElem?_eq_some_iff.1 hd8).1 hdn6).trans hd8
      have f1 : w9.cell? ⟨w4.heap.size, 1, none⟩ = some (.int .u64 at') := by simp [World.cell?, hd9]
      have hl8 := hI8.len
      have hJ0 := hJ.out
      have f2 := (hI8.next hM9 hT9 (j' := 3) (by omega)).cells.1
      go_wp2_with fail
      have hI9 := hI8.next (j' := 3) (hg2.out ▸ hp2.out ▸ hM9) hT9 (by omega)
      refine ⟨⟨_, at', st2, pv9, vr6, L9, U6, ?_, ?_, hnx, ⟨hI9.rm, hI9.turn, hI9.box, hI9.qn, by omega⟩, ?_⟩, ?_⟩
      ·rfl
      ·rw [hsl2.out]; rfl
      ·rw [hp2.out]; exact htk2.out.2.trans hcs
      ·simp [intOf]
end Go.Proofs.YtiblhlaemmdphaaGreat
/- The reference builds the tables of any parts. -/
namespace Go.Proofs.YtiblhlaemmdphaaGreat
open Go Go.RowKit Go.BigFrame Go.Maps
theorem piecesS_cons {s z root : Int} {x : Int × M5} {L : List (Int × M5)} {st st' : BS} (h : pieceS s z root x.1 x.2 st = (st', 0)) : piecesS s z root (x :: L) st = piecesS s z root L st' := by
 rw [piecesS, h, if_neg (by simp)]
theorem piecesS_err {s z root c : Int} {x : Int × M5} {L : List (Int × M5)} {st st' : BS} (h : pieceS s z root x.1 x.2 st = (st', c)) (hc : c ≠ 0) : piecesS s z root (x :: L) st = (st', c) := by
 rw [piecesS, h, if_pos hc]
def endS (root : Int) (r : BS × Int) : BS × Int × Int := if r.2 ≠ 0 then (r.1, 0, r.2) else (r.1, root, 0)
theorem buildS_go {s z root : Int} {l : List M5} {pl : Pl} {pg : PG} {st : BS} (hn : (needV l).2 = 0) (hf : frS s z 2 8192 ⟨pl, pg, []⟩ = (st, root, 0)) : buildS s z l pl pg = endS root (piecesS s z root (allP l) st) := by
 unfold buildS endS
 rw [if_neg (by rw [hn]; simp), hf, if_neg (by simp)]
theorem buildS_dry {s z : Int} {l : List M5} {pl : Pl} {pg : PG} {st : BS} (hn : (needV l).2 = 0) (hf : frS s z 2 8192 ⟨pl, pg, []⟩ = (st, 0, 110)) : buildS s z l pl pg = (st, 0, 110) := by
 unfold buildS
 rw [if_neg (by rw [hn]; simp), hf, if_pos (by simp)]
structure BuG (w0 W : World) (B rb C : Nat) (pv0 vr0 : Value) (L0 : List Pg) (s z o root : Int) (T : Two) (E D rest : List (Int × M5)) (st0 st : BS) (pv vr : Value) (L : List Pg) (U : List Int) (cn : Int) : Prop where
 rm : RG W B rb C pv vr s z T L U st.pl st.pg
 turn : RTurn B (refAll rb pv0 L0 C vr0) (refAll rb pv L C vr) w0 W
 bd : Bd s z o root E D st
 eq : piecesS s z root E st0 = piecesS s z root rest st
 sp : E = D ++ rest
 len : L.length + 24 * rest.length ≤ 700000
 cnt : st.pl.count = cn
section
variable {w0 W W' : World} {B rb C : Nat} {pv0 vr0 : Value} {L0 : List Pg} {s z o root : Int} {T : Two} {E D rest : List (Int × M5)} {st0 st : BS} {pv vr : Value} {L : List Pg} {U : List Int} {cn : Int}
theorem BuG.later (h : BuG w0 W B rb C pv0 vr0 L0 s z o root T E D rest st0 st pv vr L U cn) (hb : Below W.heap.size W W') : BuG w0 W' B rb C pv0 vr0 L0 s z o root T E D rest st0 st pv vr L U cn :=
 ⟨h.rm.later hb, h.turn.trans (RTurn.of_below hb h.rm.hB), h.bd, h.eq, h.sp, h.len, h.cnt⟩
end
theorem allP_dropL {l : List M5} {k : Nat} (hk : k < l.length) : allP (l.drop k) = piecesL l[k] ++ allP (l.drop (k + 1)) := by
 unfold allP
 rw [List.drop_eq_getElem_cons hk, List.flatMap_cons]
theorem allP_takeL {l : List M5} {k : Nat} (hk : k < l.length) : allP (l.take (k + 1)) = allP (l.take k) ++ piecesL l[k] := by
 unfold allP
 rw [List.take_succ_eq_append_getElem hk, List.flatMap_append, List.flatMap_cons, List.flatMap_nil, List.append_nil]
theorem piecesV_ok {l : List M5} (hn : (needV l).2 = 0) {y : M5} (hy : y ∈ l) : piecesV y = (piecesL y).map (·.2) := by
 have hg := (needV_ok hn).1
 have hle : (piecesL y).length ≤ 10000 := by
  have h : needOk l := Classical.byContradiction fun e => by unfold needV at hn; rw [if_neg e] at hn; simp at hn
  exact h.2 y hy
 have hgy : goodM [y] = true := by
  have he := good_elem hg hy
  refine goodM_yes fun k hk => ?_
  obtain rfl : k = 0 := by simp at hk; omega
  unfold okM nextB
  rw [show ([y] : List M5)[0]! = y from rfl, he]
  rfl
 unfold piecesV
 rw [if_pos ⟨hgy, hle⟩]
set_option maxRecDepth 100000 in
set_option maxHeartbeats 8000000 in
theorem refBuild_any {w : World} {B rb C : Nat} {pv vr : Value} {s z : Int} {T : Two} {L : List Pg} {U : List Int} {pl : Pl} {pg : PG} (h : RG w B rb C pv vr s z T L U pl pg) (hi : PlInv pl) (hlo : s ≤ pl.from' ∧ pl.from' + pl.count * 4096 ≤ s + z ∧ 0 ≤ s ∧ s + z ≤ 1099511627776) (hpk : PgOk pg)
  (v : Value) (l : List M5) (hv : RowM w v l) (hvB : ∀ b o n c, v = .slice (some ⟨b, o, none⟩) n c → l ≠ [] → b < B) (hl : l.length ≤ 100000) (hcn : pl.count ≤ 1000000) (hlen : (needV l).2 = 0 → L.length + 24 * (allP l).length ≤ 700000) :
  Calls Tryz.prog 15 #[.pointer (some ⟨rb, 0, none⟩), .pointer (some ⟨C, 0, none⟩), v] w
   fun e w' => e = .returned (.tuple #[.int .u64 (buildS s z l pl pg).2.1, .int .i64 (buildS s z l pl pg).2.2]) ∧ LayTo w w' B rb C pv vr s z T L 700000 (buildS s z l pl pg).1 := by
 have hneed := refNeed_any v l w hv hl
 rw [need_agree] at hneed
 have hv' := hv
 obtain ⟨a1, cp1, rfl, hcap1, hc1⟩ := hv'
 replace hvB : ∀ b o, a1 = some ⟨b, o, none⟩ → l ≠ [] → b < B := fun b o e hne => hvB b o _ _ (by rw [e]) hne
 have hpcs := fun x W => refPieces_any x W
 have hnv : (needV l).2 = 0 ∨ (needV l).2 = 190 := by unfold needV; split <;> simp
 generalize hR : buildS s z l pl pg = R
 replace hR := Lib.hid hR
 have h8192 : W64 8192 := ⟨by decide, by decide⟩
 rcases hnv with hn | hn
 ·have hlen' := hlen hn
  have hpv := fun y hy => piecesV_ok (y := y) hn hy
  obtain ⟨hok1, hok2⟩ := allP_ok (needV_ok hn).1
  have hst := start_k (pg := pg) h.ok hi hlo hpk hok1 hok2
  generalize hne : needV l = ne at *
  obtain ⟨nn, ne2⟩ := ne
  simp only at hn hneed
  subst hn
  replace hne := Lib.hid hne
  replace hpv := Lib.hid hpv
  rcases hst with ⟨pl', root, hf, hbd, hcnt, -⟩ | ⟨hf, -⟩
  ·obtain ⟨hrun, hwi, hst1⟩ := frS_run hf
   have hgo := buildS_go (l := l) (by rw [hne.out]) hf
   have hre : R = _ := hR.out.symm.trans hgo
   have hlo2 := hbd.lo
   have hrc := (hbd.rootC root (by omega) (by omega)).1
   have hrc2 := (hbd.rootC (root + 8191) (by omega) (by omega)).1
   have hf0 := hbd.plok.f0
   have hr0 := hbd.root0
   have hcn2 := hbd.cnt
   have hplok := hbd.plok
   simp only at hrun hlo2 hrc hrc2 hf0 hcn2 hplok
   have hwr : W64 root := by unfold W64; omega
   have hE : ∀ x ∈ allP l, x.2.sz = szK x.1 := fun x hx => by
    obtain ⟨y, _, hy⟩ := allP_mem.1 hx
    exact (piecesL_facts y x hy).1
   have h42 : (4096 : Int) * 2 = 8192 := rfl
   rw [h42] at hwi
   have hB := h.hB
   generalize hE0 : allP l = E at *
   replace hst1 := Lib.hid hst1
   replace hre := Lib.hid hre
   replace hE := Lib.hid hE
   replace hE0 := Lib.hid hE0
   replace hpcs := Lib.hid hpcs
   replace hc1 := Lib.hid hc1
   replace hvB := Lib.hid hvB
   replace hok2 := Lib.hid hok2
   replace hok1 := Lib.hid hok1
   clear hR hgo hf hrc hrc2 hlen
   go_enter Tryz.func15, Tryz.ntmps15
   go_wp2_with fail
   refine hneed.mono ?_; rintro e w2 ⟨rfl, hb2⟩
   clear hneed
   have hfr := refFrameOk (h.later hb2) hrun h8192 (.inr rfl) hwi hwr (by omega) hplok (by omega)
   go_wp2_with fail
   refine hfr.mono ?_; rintro e w3 ⟨vr3, U3, L3, rfl, hM3, hl3, hT3⟩
   clear hfr
   rw [h42] at hM3
   have hT03 := (RTurn.of_below hb2 h.hB).trans hT3
   have hst : BuG w w3 B rb C pv vr L s z (pl.out + 2) root T E [] E ⟨pl', zpgs pg root 8192, []⟩ ⟨pl', zpgs pg root 8192, []⟩ pv vr3 L3 U3 pl.count :=
    ⟨hM3, hT03, hbd, rfl, rfl, by rw [hl3]; exact hlen', hcnt⟩
   generalize (⟨pl', zpgs pg root 8192, []⟩ : BS) = st0 at *
   clear hM3 hT3 hT03 hbd hb2
   go_wp2_with fail
   go_loopw [36] (fun i wr => ∃ k : Nat, k ≤ l.length ∧ i = .int .i64 k ∧ ∃ st pv' vr' L' U', BuG w wr B rb C pv vr L s z (pl.out + 2) root T E (allP (l.take k)) (allP (l.drop k)) st0 st pv' vr' L' U' pl.count) (fun i _ => l.length - (intOf i).toNat)
   case atStart => exact ⟨0, Nat.zero_le _, rfl, st0, pv, vr3, L3, U3, by rw [List.drop_zero, hE0.out]; exact hst⟩
   case round =>
    clear hst
    obtain ⟨k, hk, rfl, st, pv1, vr1, L1, U1, hG⟩ := hrel
    by_cases hlt : (k : Int) < (l.length : Int)
    ·have hkl : k < l.length := by omega
     have hne0 : l ≠ [] := by rintro rfl; simp at hkl
     obtain ⟨b1, o1, rfl, hb1, hcc⟩ := hc1.out hne0
     obtain ⟨r0, r1, r2, r3, r4⟩ := hcc k hkl
     have hbB := hvB.out b1 o1 rfl hne0
     have hbw := hG.turn.off.below
     replace r0 := cell_lt hbw r0 hbB
     replace r1 := cell_lt hbw r1 hbB
     replace r2 := cell_lt hbw r2 hbB
     replace r3 := cell_lt hbw r3 hbB
     replace r4 := cell_lt hbw r4 hbB
     have hdr := allP_dropL hkl
     have htk := allP_takeL hkl
     have hpvk := hpv.out l[k] (List.getElem_mem hkl)
     have hpck := fun W => hpcs.out l[k] W
     rw [hpvk] at hpck
     have hbk : (0 : Int) ≤ (k : Int) ∧ (k : Int) < (l.length : Int) := ⟨by omega, hlt⟩
     have hwk : IntKind.i64.wrap ((k : Int) + 1) = ((k + 1 : Nat) : Int) := by rw [show (k : Int) + 1 = ((k + 1 : Nat) : Int) by omega]; exact IntWalk.i64_in _ (by omega)
     generalize l[k] = y at *
     obtain ⟨W4, hW4⟩ : ∃ W4, W4 = wr.alloc (.cells #[.int .u64 y.ipa, .int .u64 y.pa, .int .u64 y.sz, .int .i64 y.perm, .int .i64 y.kind] 59) := ⟨_, rfl⟩
     have hb4 : Below wr.heap.size wr W4 := by rw [hW4]; exact bone _ _
     obtain ⟨wo, rfl⟩ : ∃ wo, wo = wr := ⟨_, rfl⟩
     have hpc4 := hpck W4
     clear hcc hpck hpvk
     rw [hdr] at hG
     replace hdr := Lib.hid hdr
     replace htk := Lib.hid htk
     obtain ⟨P, hP⟩ : ∃ P, piecesL y = P := ⟨_, rfl⟩
     rw [hP] at hG hpc4
     obtain ⟨rest, hrest⟩ : ∃ rest, allP (l.drop (k + 1)) = rest := ⟨_, rfl⟩
     rw [hrest] at hG
     replace hrest := Lib.hid hrest
     generalize allP (l.take k) = D at *
     obtain ⟨M, hM⟩ : ∃ M, P.length = M := ⟨_, rfl⟩
     go_wp2_with fail
     rw [← hW4]
     refine hpc4.mono ?_; rintro e w5 ⟨r, rfl, hown, hb5⟩
     clear hpc4 hW4 r0 r1 r2 r3 r4
     have hb45 := bthen hb4 hb5
     have hG5 := hG.later hb45
     have hrn : ∀ g, r.ownBlock = some g → g ∉ refAll rb pv1 L1 C vr1 := fun g hg hm => by
      have h1 := (World.ownsRow.lt hown g hg).1
      have h2 := hG.rm.lt g hm
      have := hb4.size
      omega
     have hlenr : (P.map (·.2)).length = M := by rw [List.length_map, hM]
     obtain ⟨ra, rc, rfl, -, -⟩ := OwnM.row hown
     rw [hlenr]
     obtain ⟨u, hu⟩ : ∃ u, Value.slice ra (P.map (·.2)).length rc = u := ⟨_, rfl⟩
     rw [hu] at hown hrn
     rw [hlenr] at hu
     replace hM := Lib.hid hM
     replace hlenr := Lib.hid hlenr
     replace hP := Lib.hid hP
     replace hu := Lib.hid hu
     have hM63 : M ≤ 700000 := by have := hG.len; rw [List.length_append] at this; have := hM.out; omega
     go_wp2_with fail
     go_loopw [43] (fun i wr => ∃ j : Nat, j ≤ M ∧ i = .int .i64 j ∧ ∃ st pv' vr' L' U', BuG w wr B rb C pv vr L s z (pl.out + 2) root T E (D ++ P.take j) (P.drop j ++ rest) st0 st pv' vr' L' U' pl.count ∧ OwnM 59 wr W4.heap.size u (P.map (·.2)) ∧ ∀ g, u.ownBlock = some g → g ∉ refAll rb pv' L' C vr') (fun i _ => M - (intOf i).toNat)
     case atStart => exact ⟨0, Nat.zero_le _, rfl, st, pv1, vr1, L1, U1, by rw [List.take_zero, List.append_nil, List.drop_zero]; exact hG5, hown, hrn⟩
     case round =>
      clear hG5 hown hrn
      obtain ⟨j, hj, rfl, st1, pv2, vr2, L2, U2, hG2, hown, hrn⟩ := hrel
      by_cases hlt2 : (j : Int) < (M : Int)
      ·have hjl : j < P.length := by have := hM.out; omega
       have hjl' : j < (P.map (·.2)).length := by rw [List.length_map]; exact hjl
       obtain ⟨a5, c5, e5, -, hrc5⟩ := OwnM.row hown
       have hPne : P.map (·.2) ≠ [] := by intro e; rw [e] at hjl'; simp at hjl'
       obtain ⟨b5, o5, rfl, hb5', hcells⟩ := hrc5 hPne
       obtain ⟨s0, s1, s2, s3, s4⟩ := hcells j hjl'
       have hue := hu.out.trans e5
       injection hue with ea el ec
       subst ea
       clear el ec
       have hg5 : (P.map (·.2))[j] = P[j].2 := by simp
       rw [hg5] at s0 s1 s2 s3 s4
       have hdj : P.drop j = P[j] :: P.drop (j + 1) := List.drop_eq_getElem_cons hjl
       have htj : P.take (j + 1) = P.take j ++ [P[j]] := by rw [List.take_succ_eq_append_getElem hjl]
       rw [hdj, List.cons_append] at hG2
       have hsp := hG2.sp
       have hxE : P[j] ∈ E := by rw [hsp]; simp
       have hpx := hok1.out _ hxE
       have hxs := hE.out _ hxE
       have hxD : P[j] ∉ D ++ P.take j := apart_notin (L := P.drop (j + 1) ++ rest) (by rw [← hsp]; exact hok2.out) hpx
       have hpk2 := piece_k hG2.bd hxE hxD
       have hl2 := hG2.len
       rw [List.length_cons, List.length_append] at hl2
       have heq := hG2.eq
       have hbk : (0 : Int) ≤ (j : Int) ∧ (j : Int) < (M : Int) := ⟨by omega, hlt2⟩
       have hwk : IntKind.i64.wrap ((j : Int) + 1) = ((j + 1 : Nat) : Int) := by rw [show (j : Int) + 1 = ((j + 1 : Nat) : Int) by omega]; exact IntWalk.i64_in _ (by omega)
       obtain ⟨⟨lv, q⟩, hx⟩ : ∃ x, P[j] = x := ⟨_, rfl⟩
       rw [hx] at hxE hxs hxD hpk2 heq htj s0 s1 s2 s3 s4 hdj
       simp only at hxs hpk2 heq s0 s1 s2 s3 s4
       obtain ⟨W6, hW6⟩ : ∃ W6, W6 = wr.alloc (.cells #[.int .u64 q.ipa, .int .u64 q.pa, .int .u64 q.sz, .int .i64 q.perm, .int .i64 q.kind] 59) := ⟨_, rfl⟩
       have hb6 : Below wr.heap.size wr W6 := by rw [hW6]; exact bone _ _
       have hG6 := hG2.later hb6
       have hly := refLay_any hG6.rm hG6.bd hxE hxs (by omega) (by have := hG6.cnt; omega)
       have hown6 := hown.below hb6 (Nat.le_refl _)
       obtain ⟨wi, rfl⟩ : ∃ wi, wi = wr := ⟨_, rfl⟩
       replace htj := Lib.hid htj
       replace hxs := Lib.hid hxs
       replace hx := Lib.hid hx
       replace hdj := Lib.hid hdj
       replace heq := Lib.hid heq
       replace hsp := Lib.hid hsp
       clear hcells hrc5 hPne hg5 hG2 e5 hown
       rcases hpk2 with ⟨st2, e2, hbd2, -, hct2⟩ | ⟨st2, e2, hbd2, -, hct2⟩
       ·rw [e2] at hly
        simp only at hly
        replace e2 := Lib.hid e2
        go_wp2_with fail
        rw [← hW6]
        refine hly.mono ?_; rintro e w7 ⟨rfl, pv7, vr7, L7, U7, hM7, hT7, hl7⟩
        clear hly hW6
        have hG7 : BuG w w7 B rb C pv vr L s z (pl.out + 2) root T E (D ++ P.take (j + 1)) (P.drop (j + 1) ++ rest) st0 st2 pv7 vr7 L7 U7 pl.count :=
         ⟨hM7, hG6.turn.trans hT7, by rw [htj.out, ← List.append_assoc]; exact hbd2, heq.out.trans (piecesS_cons e2.out), by rw [hsp.out, htj.out, hx.out]; simp, by rw [List.length_append]; omega, hct2.trans hG6.cnt⟩
        have hown7 : OwnM 59 w7 W4.heap.size u (P.map (·.2)) := ownsRow_eq hown6 fun g hg => hT7.off.rest g (World.ownsRow.lt hown6 g hg).2 (hrn g hg)
        have hrn7 : ∀ g, u.ownBlock = some g → g ∉ refAll rb pv7 L7 C vr7 := fun g hg e => (hT7.blks g e).elim (hrn g hg) fun e => by have := (World.ownsRow.lt hown6 g hg).2; omega
        go_wp2_with fail
        exact ⟨⟨j + 1, by omega, congrArg (Value.int .i64) (by omega), st2, pv7, vr7, L7, U7, hG7, hown7, hrn7⟩, by simp [intOf]; omega⟩
       ·have hRe : R = (st2, 0, 110) := by
         rw [hre.out, heq.out, piecesS_err e2 (by decide)]
         rfl
        clear hre
        subst hRe
        rw [e2] at hly
        simp only at hly
        clear e2 hrn hown6 heq
        go_wp2_with fail
        rw [← hW6]
        refine hly.mono ?_; rintro e w7 ⟨rfl, pv7, vr7, L7, U7, hM7, hT7, hl7⟩
        clear hly hW6
        go_wp2_with fail
        go_ret2
        exact ⟨rfl, pv7, vr7, L7, U7, hM7, hG6.turn.trans hT7, by omega⟩
      ·obtain rfl : j = M := by omega
       clear hlt2 hrn hown
       have hMo := hM.out
       rw [← hMo, List.take_length, List.drop_length, List.nil_append, ← hP.out, ← htk.out, ← hrest.out] at hG2
       go_wp2_with fail
       exact ⟨⟨k + 1, by omega, congrArg (Value.int .i64) (by omega), st1, pv2, vr2, L2, U2, hG2⟩, by simp [intOf]; omega⟩
    ·obtain rfl : k = l.length := by omega
     have hRe : R = (st, root, 0) := by
      rw [hre.out, hG.eq, List.drop_length]
      rfl
     clear hre
     subst hRe
     go_wp2_with fail
     go_ret2
     exact ⟨rfl, pv1, vr1, L1, U1, hG.rm, hG.turn, by have := hG.len; omega⟩
  ·obtain ⟨x, hrun, -⟩ := frS_dry hf
   have hdr := buildS_dry (l := l) (by rw [hne.out]) hf
   obtain rfl : R = _ := hR.out.symm.trans hdr
   have hoc := (inv_le hi h.ok.c0).2
   clear hR hdr hf hok1 hok2 hpv hlen hlen' hc1 hpcs
   go_enter Tryz.func15, Tryz.ntmps15
   go_wp2_with fail
   refine hneed.mono ?_; rintro e w2 ⟨rfl, hb2⟩
   clear hneed
   have hfr := refFrameNo (h.later hb2) hrun (by decide) h8192 h.ok h.out
   go_wp2_with fail
   refine hfr.mono ?_; rintro e w3 ⟨vr3, U3, rfl, hM3, hT3⟩
   clear hfr
   go_wp2_with fail
   go_ret2
   exact ⟨rfl, pv, vr3, L, U3, hM3, (RTurn.of_below hb2 h.hB).trans hT3, by omega⟩
 ·have hbad := buildS_bad (s := s) (z := z) (pl := pl) (pg := pg) (l := l) (by rw [hn]; simp)
  obtain rfl : R = _ := hR.out.symm.trans hbad
  rw [hn] at hneed
  clear hR hbad hn hlen hc1 hpcs
  go_enter Tryz.func15, Tryz.ntmps15
  go_wp2_with fail
  refine hneed.mono ?_; rintro e w2 ⟨rfl, hb2⟩
  clear hneed
  go_wp2_with fail
  go_ret2
  exact ⟨rfl, pv, vr, L, U, h.later hb2, RTurn.of_below hb2 h.hB, by omega⟩
end Go.Proofs.YtiblhlaemmdphaaGreat
/- The walk of the statement WalkBuilt. -/
namespace Go.Proofs.YtiblhlaemmdphaaGreat
open Go Go.RowKit Go.BigFrame Go.Maps
theorem newRam (W : World) : Calls Tryz.prog 9 #[.agg #[.int .u64 1073741824, .int .u64 16777216], .slice none 0 0] W fun e w' =>
   ∃ mb pb, e = .returned (.tuple #[.pointer (some ⟨mb, 0, none⟩), .int .i64 0]) ∧ MemP w' mb pb 1073741824 16777216 [] ∧ Below W.heap.size W w' ∧ W.heap.size ≤ mb ∧ W.heap.size ≤ pb := newMem_any ramT W ram_ok.1 ram_ok.2
theorem newLd (n : Int) (W : World) : Calls Tryz.prog 11 #[.agg #[.int .u64 1073741824, .int .u64 (ramV n)]] W fun e w' => ∃ B, e = .returned (.pointer (some ⟨B, 0, none⟩)) ∧ W.heap.size ≤ B ∧ PoolAt w' B (.slice none 0 0) (newV (ldT n)) ∧ Below W.heap.size W w' := new_any (ldT n) W
end Go.Proofs.YtiblhlaemmdphaaGreat
