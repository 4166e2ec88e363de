/- Tables lie in the memory; both memories compared. -/
import Derived.Test.YtiblhlaemmdphaaGreatTableBuildsP34
import Derived.Test.YtiblhlaemmdphaaGreatTableBuildsP43
import Derived.Test.YtiblhlaemmdphaaGreatTableBuildsP45
namespace Go.Proofs.YtiblhlaemmdphaaGreat
open Go Go.RowKit Go.Shelf Go.BigFrame Go.Maps
structure RamOk (s z : Int) (pg : PG) : Prop where
 ok : PgOk pg
 zero : ∀ b, bt pg b ≠ 0 → s ≤ b ∧ b < s + z
 pages : ∀ p ∈ pg, s ≤ p.1 * 4096 ∧ p.1 * 4096 < s + z
 al : s % 4096 = 0
section
variable {s z : Int}
theorem put_in {a : Int} (h : putE s z a = 0) : a % 8 = 0 ∧ s ≤ a ∧ a + 8 ≤ s + z := by
 unfold putE at h
 split at h
 ·rename_i h8
  unfold askV at h
  rw [if_neg (by decide)] at h
  split at h
  ·cases h
  ·rename_i hc
   have hw : withinB a 8 s z = true := by
    cases e : withinB a 8 s z
    ·exact absurd ⟨by decide, e⟩ hc
    ·rfl
   obtain ⟨_, _, h3, h4⟩ := withinB_iff.1 hw
   exact ⟨h8, h3, by omega⟩
 ·cases h
theorem RamOk.zero_pgs {pg : PG} (h : RamOk s z pg) (a n : Int) (ha : a % 4096 = 0) (hn : n % 4096 = 0) : RamOk s z (zpgs pg a n) :=
 ⟨zpgs_ok h.ok _ _, fun b hb => by
  rw [bt_zpgs _ _ _ _ ha hn] at hb
  split at hb
  ·exact absurd rfl hb
  ·exact h.zero b hb, fun p hp => h.pages p (List.mem_filter.1 hp).1, h.al⟩
theorem RamOk.put {pg : PG} (h : RamOk s z pg) (h0 : 0 ≤ s) (h1 : s + z ≤ 1099511627776) {a : Int} (x : Int) (hq : putE s z a = 0) : RamOk s z (wpg pg a x) := by
 obtain ⟨h8, h3, h4⟩ := put_in hq
 have hal := h.al
 refine ⟨wpg_ok h.ok x (by omega) (by omega), fun b hb => ?_, fun p hp => ?_, h.al⟩
 ·rw [bt_wpg h.ok x (by omega) (by omega)] at hb
  split at hb
  ·omega
  ·exact h.zero b hb
 ·rcases pages_wpg h8 hp with e | ⟨p', hp', e⟩
  ·rw [e]; omega
  ·rw [← e]; exact h.pages p' hp'
theorem RamOk.count {pg : PG} (h : RamOk 1073741824 16777216 pg) : pg.length ≤ 4096 := by
 have h2 := List.Nodup.length_le_of_subset (l₂ := (List.range 4096).map fun i : Nat => (262144 : Int) + (i : Int)) h.ok.nodup (fun n hn => by
  obtain ⟨p, hp, rfl⟩ := List.mem_map.1 hn
  have := h.pages p hp
  exact List.mem_map.2 ⟨(p.1 - 262144).toNat, List.mem_range.2 (by omega), by omega⟩)
 simpa using h2
theorem lay_ram {at' k : Int} {d : DescV} {st : BS} (h : RamOk s z st.pg) (h0 : 0 ≤ s) (h1 : s + z ≤ 1099511627776) : RamOk s z (layS s z at' k d st).1.pg := by
 unfold layS
 split
 ·exact h
 ·split
  ·exact h
  ·rename_i hq
   exact h.put h0 h1 _ (by simpa using hq)
theorem piece_ram {o root : Int} {E D : List (Int × M5)} {st : BS} (hb : Bd s z o root E D st) {x : Int × M5} (hx : x ∈ E) (h : RamOk s z st.pg) : RamOk s z (pieceS s z root x.1 x.2 st).1.pg := by
 obtain ⟨h0, h1⟩ := hb.lo.2.2
 have step : ∀ {st : BS} {k t : Int}, Bd s z o root E D st → RamOk s z st.pg → RamOk s z (stepS s z x.2 k st t).1.pg := fun {st k t} hb h => by
  have hf : RamOk s z (frS s z 1 4096 st).1.pg := by
   rcases frS_one hb with ⟨_, e⟩ | ⟨pl', at', e, ht⟩
   ·rw [e]; exact h
   ·rw [e]; exact h.zero_pgs _ _ ht.pg (by decide)
  unfold stepS
  split
  ·exact h
  ·split
   ·exact hf
   ·split
    ·exact lay_ram hf h0 h1
    ·exact lay_ram hf h0 h1
 have hp := hb.pcs _ hx
 have hlv := hp.lv
 obtain ⟨lv, q⟩ := x
 simp only at hlv ⊢ step
 have h2m1 : (2 : Int) - 1 = 1 := rfl
 have h3m1 : (3 : Int) - 1 = 2 := rfl
 have fin : RamOk s z (pathS s z q (lv - 1).toNat 2 st root).1.pg → RamOk s z (pieceS s z root lv q st).1.pg := fun hp => by
  unfold pieceS
  split
  ·exact hp
  ·exact lay_ram hp h0 h1
 apply fin
 rcases hlv with rfl | rfl | rfl
 ·exact h
 ·show RamOk s z (pathS s z q 1 2 st root).1.pg
  have := step (k := 2) (t := root) hb h
  rw [path_one rfl]; exact this
 ·show RamOk s z (pathS s z q 2 2 st root).1.pg
  have s1 := step (k := 2) (t := root) hb h
  rcases step_k hb hx (.inl rfl) (by omega) (by rw [h2m1]; exact slot_root hb hx) with ⟨st', a, e, hb2, hm, hk, hc⟩ | ⟨e, ho, hno⟩
  ·rw [e] at s1
   have s2 := step (k := 3) (t := a) hb2 s1
   rw [path_two e rfl]; exact s2
  ·rw [path_two_err e (by simp)]; exact h
theorem pieces_ram {o root : Int} : ∀ (L D : List (Int × M5)) (st : BS), Bd s z o root (D ++ L) D st → RamOk s z st.pg → RamOk s z (piecesS s z root L st).1.pg
 | [], D, st, hb, h => h
 | x :: L, D, st, hb, h => by
  have hx : x ∈ D ++ x :: L := by simp
  have hxD := apart_notin hb.apart (hb.pcs x hx)
  have h1 := piece_ram hb hx h
  rw [piecesS]
  rcases piece_k hb hx hxD with ⟨st', e, hb2, hk, hc⟩ | ⟨st', e, hb2, hlt, hc⟩
  ·rw [e] at h1 ⊢
   rw [if_neg (by simp)]
   have ha : D ++ x :: L = (D ++ [x]) ++ L := by simp
   rw [ha] at hb2
   exact pieces_ram L (D ++ [x]) st' hb2 h1
  ·rw [e] at h1 ⊢
   rw [if_pos (by simp)]
   exact h1
theorem build_ram {l : List M5} {pl : Pl} {pg : PG} (hok : PlOk pl) (hi : PlInv pl) (hlo : s ≤ pl.from' ∧ pl.from' + pl.count * 4096 ≤ s + z ∧ 0 ≤ s ∧ s + z ≤ 1099511627776) (h : RamOk s z pg) : RamOk s z (buildS s z l pl pg).1.pg := by
 by_cases hn : (needV l).2 = 0
 ·obtain ⟨hP, hA⟩ := allP_ok (needV_ok hn).1
  rcases start_k (pg := pg) hok hi hlo h.ok hP hA with ⟨pl', root, e1, hb, hc, hr⟩ | ⟨e1, hno⟩
  ·have r0 := hb.root0
   have h1 := pieces_ram (s := s) (z := z) (o := pl.out + 2) (root := root) (allP l) [] ⟨pl', zpgs pg root 8192, []⟩ hb (h.zero_pgs _ _ (by omega) (by decide))
   unfold buildS
   rw [if_neg (by rw [hn]; simp), e1, if_neg (by simp)]
   split
   ·exact h1
   ·exact h1
  ·unfold buildS
   rw [if_neg (by rw [hn]; simp), e1, if_pos (by simp)]
   exact h
 ·unfold buildS
  rw [if_pos hn]
  exact h
end
set_option maxRecDepth 20000 in
set_option maxHeartbeats 2000000 in
theorem sameAdr_any (v u : Value) (l : List Int) (w : World) (hv : RowU w v l) (hu : RowU w u l) (hl : l.length ≤ 1099511627776) :
  Calls Tryz.prog 40 #[v, u] w fun e w' => e = .returned (.bool true) ∧ Below w.heap.size w w' := by
 obtain ⟨a1, cp1, rfl, hc1⟩ := hv
 obtain ⟨a2, cp2, rfl, hc2⟩ := hu
 go_enter Tryz.func40, Tryz.ntmps40
 go_wp2_with fail
 go_loopw [13] (fun i wr => ∃ k : Nat, k ≤ l.length ∧ i = .int .i64 k ∧ Below w.heap.size w wr) (fun i _ => l.length - (intOf i).toNat)
 case atStart => exact ⟨0, Nat.zero_le _, rfl, Below.refl _ _⟩
 case round =>
  obtain ⟨k, hk, rfl, hB⟩ := hrel
  have hz := hB.size
  by_cases hlt : k < l.length
  ·obtain ⟨b1, rfl, hb1, hcell1⟩ := hc1 k hlt
   obtain ⟨b2, rfl, hb2, hcell2⟩ := hc2 k hlt
   have e0 := later_cell (B := wr.heap.size) (cell_lt hB hcell1 hb1) (by omega)
   have f0 := later_cell (B := wr.heap.size) (cell_lt hB hcell2 hb2) (by omega)
   clear hcell1 hcell2
   generalize l[k] = x at *
   go_wp2_with fail
   refine region_later wr.heap.size wr (Below.refl _ _) (by kernel_rfl) (by kernel_rfl) ?_
   repeat (change wpQuiet _ _ _ _ (List.cons _ _) _; go_big_quiet_step (fail))
   refine wpQuiet_nil ?_
   first | (rintro _ ⟨X, rfl⟩) | (intro X)
   have hX := X.h
   clear e0 f0
   go_wp2_with fail
   go_roundw
   case rel => exact ⟨k + 1, by omega, by go_num, hB.trans (hX.mono hz)⟩
   case measure => simp [intOf]; omega
  ·obtain rfl : k = l.length := by omega
   go_wp2_with fail
   go_ret
   exact ⟨rfl, hB⟩
theorem heap_rowB {W : World} {b n : Nat} {l : List Int} (hg : W.heap[b]? = some (.cells (bytesV l) 5 (0, 0))) (hl : l.length = n) (hn : n ≤ 1048576) : RowB W (.slice (some ⟨b, 0, none⟩) n n) l := by
 subst hl
 refine ⟨some ⟨b, 0, none⟩, l.length, rfl, Nat.le_refl _, by unfold maxLen; omega, fun _ => ⟨b, 0, rfl, (Array.getElem?_eq_some_iff.1 hg).1, fun i hi => ?_⟩⟩
 simp only [World.cell?, hg, Nat.zero_add, bytesV]
 simp [hi]
theorem touch_ram {pg : PG} (h : RamOk 1073741824 16777216 pg) {a : Int} (ha : a ∈ touchV pg) : W64 a ∧ askV 1073741824 16777216 a ((4096 : Nat) : Int) = 0 ∧ a % 4096 = 0 := by
 obtain ⟨h0, i, hi, h1⟩ := (touchV_mem h.ok a).1 ha
 have := h.zero _ h1
 exact ⟨by unfold W64; omega, ask_page (by omega) (by omega), h0⟩
set_option maxRecDepth 100000 in
set_option maxHeartbeats 4000000 in
theorem same_any (mb pb rb : Nat) (pv : Value) (L1 L2 : List Pg) (w : World) (hm : MemP w mb pb 1073741824 16777216 L1) (hr : MemR w rb pv 1073741824 16777216 L2) (hb : ∀ b, bt (L2.map Pg.ab) b = bt (L1.map Pg.ab) b) (hR : RamOk 1073741824 16777216 (L1.map Pg.ab)) (h1 : L1.length ≤ 1099511627776) (h2 : L2.length ≤ 1000000) :
  Calls Tryz.prog 17 #[.pointer (some ⟨mb, 0, none⟩), .pointer (some ⟨rb, 0, none⟩)] w fun e w' => e = .returned (.bool true) ∧ Below w.heap.size w w' := by
 have htc := touched_any mb pb 1073741824 16777216 L1 w hm h1
 have htr := fun W h => refTouched_any rb pv 1073741824 16777216 L2 W h h2
 rw [touch_same hR.ok hr.ok hb] at htr
 have hfp : ∀ a ∈ touchV (L1.map Pg.ab), W64 a ∧ askV 1073741824 16777216 a ((4096 : Nat) : Int) = 0 ∧ rdB (L2.map Pg.ab) a 4096 = rdB (L1.map Pg.ab) a 4096 ∧ a % 4096 = 0 := fun a ha => by
  obtain ⟨q1, q2, q3⟩ := touch_ram hR ha
  refine ⟨q1, q2, ?_, q3⟩
  unfold rdB
  exact List.map_congr_left fun j _ => hb _
 have hTl : (touchV (L1.map Pg.ab)).length ≤ 1099511627776 := Nat.le_trans (touch_len _) (by rw [List.length_map]; exact h1)
 generalize touchV (L1.map Pg.ab) = T at *
 replace hfp := Lib.hid hfp
 replace hR := Lib.hid hR
 replace hb := Lib.hid hb
 go_enter Tryz.func17, Tryz.ntmps17
 go_wp2_with fail
 refine htc.mono ?_; rintro e w1 ⟨v1, rfl, ho1, hb1⟩
 clear htc
 have hr1 := hr.below hb1 (Nat.le_refl _)
 have hm1 := hm.below hb1 (Nat.le_refl _)
 have ht1 := htr w1 hr1
 have hv1 := ho1.row
 clear ho1 htr
 obtain ⟨ta, tc, rfl, hta⟩ := hv1
 obtain ⟨N, hN⟩ : ∃ N, T.length = N := ⟨_, rfl⟩
 rw [hN]
 have hv1 : RowU w1 (.slice ta N tc) T := ⟨ta, tc, by rw [hN], hta⟩
 replace hta := Lib.hid hta
 replace hN := Lib.hid hN
 go_wp2_with fail
 refine ht1.mono ?_; rintro e w2 ⟨v2, rfl, ho2, hb2⟩
 clear ht1
 have hv2 := ho2.row
 clear ho2
 have hsa := sameAdr_any _ _ T w2 (hv1.below hb2) hv2 hTl
 clear hv2
 go_wp2_with fail
 refine hsa.mono ?_; rintro e w3 ⟨rfl, hb3⟩
 clear hsa
 have hb13 := bthen hb2 hb3
 have hbw3 := bthen hb1 hb13
 have hma := hm1.below hb13 (Nat.le_refl _)
 have hmb := hr1.below hb13 (Nat.le_refl _)
 have hv3 := hv1.below hb13
 clear hv1 hb2 hb3
 obtain ⟨_, _, e4, htr⟩ := hv3
 injection e4 with e5 e6 e7
 subst e5
 subst e7
 clear e6
 replace htr := Lib.hid htr
 replace hma := Lib.hid hma
 replace hmb := Lib.hid hmb
 go_wp2_with fail
 go_loopw [21] (fun i wr => ∃ k : Nat, k ≤ N ∧ i = .int .i64 k ∧ Below w3.heap.size w3 wr) (fun i _ => (N - intOf i).toNat)
 case atStart => exact ⟨0, Nat.zero_le _, rfl, Below.refl _ _⟩
 case round =>
  obtain ⟨k, hk, rfl, hB⟩ := hrel
  by_cases hlt : (k : Int) < (N : Int)
  ·have hkl : k < T.length := by have := hN.out; omega
   obtain ⟨g, rfl, hg, hcg⟩ := htr.out k hkl
   replace hcg := cell_lt hB hcg hg
   obtain ⟨f0, f1, f2, f3⟩ := hfp.out T[k] (List.getElem_mem hkl)
   obtain ⟨a, ha⟩ : ∃ a, T[k] = a := ⟨_, rfl⟩
   rw [ha] at hcg f0 f1 f2 f3
   have hbk : (0 : Int) ≤ (k : Int) ∧ (k : Int) < (N : Int) := ⟨by omega, hlt⟩
   have hNb : N ≤ 1099511627776 := by rw [← hN.out]; exact hTl
   have hwk : IntKind.i64.wrap ((k : Int) + 1) = ((k + 1 : Nat) : Int) := (IntWalk.i64_in ((k : Int) + 1) (by omega)).trans (by omega)
   have hr1 := readIn_any mb pb 1073741824 16777216 a 4096 L1 wr (hma.out.below hB (Nat.le_refl _)) f0 (by decide) (by omega) f1
   have hr2 := fun W h => refRead_any rb pv 1073741824 16777216 a 4096 L2 W h f0 f1 (by decide)
   simp only [f2] at hr2
   have hDl : (rdB (L1.map Pg.ab) a 4096).length = 4096 := rdB_len _ _ _
   generalize rdB (L1.map Pg.ab) a 4096 = D at *
   have e4 : ((4096 : Nat) : Int) = 4096 := rfl
   rw [e4] at hr1 hr2
   clear f0 f1 f2 f3 e4 htr hfp
   replace hr2 := Lib.hid hr2
   replace ha := Lib.hid ha
   go_wp2_with fail
   refine hr1.mono ?_; rintro e w13 ⟨b1, rfl, hb1, hb13, hg1⟩
   clear hr1
   have hB13 := bthen hB hb13
   have hr2 := hr2.out w13 (hmb.out.below hB13 (Nat.le_refl _))
   go_wp2_with fail
   refine hr2.mono ?_; rintro e w14 ⟨r2, rfl, hg2, hb14⟩
   clear hr2
   have hg1' := (hb14.block b1 (Array.getElem?_eq_some_iff.1 hg1).1).trans hg1
   have cv1 := conv_row (heap_rowB hg1' hDl (by decide))
   have cv2 := conv_row hg2.row
   have hB14 := bthen hB13 hb14
   generalize strOfNums D = S at *
   clear hg1 hg1' hg2 hb1 hDl
   go_wp2_with fail
   exact ⟨⟨k + 1, by omega, congrArg (Value.int .i64) (by omega), hB14⟩, by simp [intOf]; omega⟩
  ·go_wp2_with fail
   go_ret
   exact ⟨rfl, bthen hbw3 hB⟩
end Go.Proofs.YtiblhlaemmdphaaGreat
