/- Bytes of a page, read; bytes that are given (of RgB, RgI, RgN, RgW, RgY). -/
import Derived.Test.YtiblhlaemmdphaaGreatTableBuildsP10
import Derived.Test.YtiblhlaemmdphaaGreatTableBuildsP12
import Derived.Test.YtiblhlaemmdphaaGreatTableBuildsP44
namespace Go.Proofs.YtiblhlaemmdphaaGreat
open Go Go.Joins Go.ChangeShapes Go.WideShapes Go.Deep Go.RowKit Go.Shelf Go.BigFrame Go.Maps
theorem make_bytesU (w : World) (n : Nat) (hc : n ≤ 1048576) :
  (Instr.makeSlice 31 (.int .u64 n) (.int .u64 n)).run Tryz.prog w = .ok (.slice (some ⟨w.heap.size, 0, none⟩) n n) (w.alloc (.cells (bytesV (List.replicate n 0)) 5)) := by
 obtain ⟨i0, hi1, hi2⟩ := Option.map_eq_some_iff.1 infoByte
 rw [Prod.mk.injEq, Prod.mk.injEq] at hi2
 have h := run_make (P := Tryz.prog) w 31 5 i0 _ Tryz.underlying31 hi1 hi2.1 .u64 .u64 n n (by omega) (by omega) (by rw [hi2.2.2]; omega) (by omega)
 rw [hi2.2.1, Nat.mul_one, made_bytes] at h
 simpa [bytesV] using h
set_option maxRecDepth 20000 in
set_option maxHeartbeats 2000000 in
theorem readIn_any (mb pb : Nat) (s z a : Int) (n : Nat) (L : List Pg) (w : World) (hm : MemP w mb pb s z L) (ha : W64 a) (h1 : 1 ≤ n) (h2 : a % 4096 + n ≤ 4096) (hq : askV s z a n = 0) :
  Calls Tryz.prog 13 #[.pointer (some ⟨mb, 0, none⟩), .int .u64 a, .int .u64 n] w fun e w' => ∃ b, e = .returned (.tuple #[.slice (some ⟨b, 0, none⟩) n n, .int .i64 0]) ∧ w.heap.size ≤ b ∧ Below w.heap.size w w' ∧ w'.heap[b]? = some (.cells (bytesV (rdB (L.map Pg.ab) a n)) 5 (0, 0)) := by
 have hk := fun W h => ask_any mb pb s z a n L W h ha (by unfold W64; omega)
 have ha0 := ha.1
 have ha1 := ha.2
 rw [hq] at hk
 clear hq
 have hlk := fun W h => pg_lookup (W := W) (mb := mb) (pb := pb) (s := s) (z := z) (L := L) h (a / 4096) (by unfold W64 at *; omega)
 have hne := fun (W : World) (x : Option Addr) (n c : Nat) => Lib.run_eql_slice_nil (P := Tryz.prog) W 31 5 x n c 0 0 Tryz.underlying31
 go_enter Tryz.func13, Tryz.ntmps13
 go_wp2_with fail
 refine (hk _ hm).mono ?_; rintro e w1 ⟨rfl, hb1⟩
 have hm1 := hm.below hb1 (Nat.le_refl _)
 clear hk
 obtain ⟨c0, c1, c2⟩ := hm1.cells
 obtain ⟨W2, hW2⟩ : ∃ W2, W2 = w1.alloc (.cells (bytesV (List.replicate n 0)) 5) := ⟨_, rfl⟩
 have hmk := make_bytesU w1 n (by omega)
 have hb2 : Below w1.heap.size w1 W2 := by rw [hW2]; exact bone _ _
 have hbb : W2.heap[w1.heap.size]? = some (.cells (bytesV (List.replicate n 0)) 5 (0, 0)) := by rw [hW2, World.alloc_heap_new]
 rw [← hW2] at hmk
 clear hW2
 have hm2 := hm1.below hb2 (Nat.le_refl _)
 obtain ⟨d0, d1, d2⟩ := hm2.cells
 have hz0 : W2.heap.size > w1.heap.size := (Array.getElem?_eq_some_iff.1 hbb).1
 have hn0 : (0 : Int) < n := by omega
 have hpos : ¬ (n : Int) < n := by omega
 have hmin : min (n : Int) (4096 - a % 4096) = n := by omega
 have hlk2 := hlk _ hm2
 have hle : (a % 4096).toNat + n ≤ 4096 := by omega
 clear c0 c1 c2
 go_wp2_with fail
 clear hmk
 go_loopw [10] (fun u W => (u = .int .u64 0 ∧ W = W2) ∨ (u = .int .u64 n ∧ Below w1.heap.size w1 W ∧ W.heap[w1.heap.size]? = some (.cells (bytesV (rdB (L.map Pg.ab) a n)) 5 (0, 0)))) (fun u _ => n - (intOf u).toNat)
 case atStart => exact .inl ⟨rfl, rfl⟩
 case round =>
  rcases hrel with ⟨rfl, rfl⟩ | ⟨rfl, hbw, hfin⟩
  ·rcases hlk2 with ⟨hno, hrun⟩ | ⟨p, hp, hpn, hrun⟩
   ·have hz := rdB_none (a := a) (m := n) (pg_find_none hno) hle
    rw [← hz] at hbb
    clear hlk hno hz
    go_wp2_with fail
    exact ⟨.inr ⟨rfl, hb2, hbb⟩, by simp [intOf]; omega⟩
   ·obtain ⟨_, hl, hby⟩ := page_row hm2 hp
    have hz := rdB_some (a := a) (m := n) (by rw [← hpn]; exact pg_find_some hm.ok hp) hl hle
    have hcp : ∀ W : World, (∀ k : Nat, W.heap[k]? = wr.heap[k]?) → ∀ ty, (Builtin.copy_ #[31, 31] ty #[.slice (some ⟨w1.heap.size, 0, none⟩) n n, .slice (some ⟨p.blk, (a % 4096).toNat, none⟩) (4096 - (a % 4096).toNat) (4096 - (a % 4096).toNat)]).run Tryz.prog W = .ok (goInt (n : Int)) (W.setRow w1.heap.size (bytesV (rdB (L.map Pg.ab) a n))) := by
     intro W hW ty
     have hlen : (List.map (fun x => Value.int .u8 x) (rdB (L.map Pg.ab) a n)).length = n := by rw [List.length_map, rdB_len]
     have hr := run_copy_row (P := Tryz.prog) W 31 31 ty 5 w1.heap.size 0 n n ⟨p.blk, (a % 4096).toNat, none⟩ (4096 - (a % 4096).toNat) (4096 - (a % 4096).toNat) (bytesV (List.replicate n 0)) 5 ((rdB (L.map Pg.ab) a n).map fun x => Value.int .u8 x)
      Tryz.underlying31 (by kernel_rfl) ((hW _).trans hbb) (by rw [hlen]; exact (Nat.min_eq_right (by omega)).symm) ?_ ?_ (bytesV_one _)
     ·rw [hlen] at hr
      rw [hr]
      congr 2
      simp [bytesV]
     ·intro j v hj
      rw [hz, List.getElem?_map, List.getElem?_take] at hj
      split at hj
      ·rename_i hlt
       rw [List.getElem?_drop, List.getElem?_eq_getElem (by omega)] at hj
       simp only [Option.map_some, Option.some.injEq] at hj
       subst hj
       have hadd : (⟨p.blk, (a % 4096).toNat, none⟩ : Addr).add j = ⟨p.blk, (a % 4096).toNat + j, none⟩ := by unfold Addr.add; split <;> simp_all
       rw [hadd]
       simp only [World.cell?, hW, hm2.page p hp, bytesV]
       simp [List.getElem?_eq_getElem (show (a % 4096).toNat + j < p.bs.length by omega)]
      ·cases hj
     ·rw [hlen]
      simp [bytesV]
    clear hlk hz hby
    replace hpn := Lib.hid hpn
    replace hl := Lib.hid hl
    generalize rdB (L.map Pg.ab) a n = D at *
    go_wp2_with fail
    refine region_ord (fun _ => True) [([0, 1, 2, 3, 4, 5, 6, 7, 8, 9], 10)] [] (by kernel_rfl) (by kernel_rfl) (by kernel_rfl) (by kernel_rfl) trivial ?_
    simp only [List.map_cons, List.map_nil, List.filterMap_cons, List.filterMap_nil, List.getElem?_cons_succ, List.getElem?_cons_zero]
    refine ord_step ?_
    repeat (change wpQuiet _ _ _ _ (List.cons _ _) _; go_big_quiet_step (fail))
    refine wpQuiet_nil ?_
    intro Q₁ hQ₁
    have hc := hcp wr.drew (fun _ => rfl)
    have hbd : Below w1.heap.size w1 wr.drew := hb2.drew
    have hbb' : wr.drew.heap[w1.heap.size]? = some (.cells (bytesV (List.replicate n 0)) 5 (0, 0)) := hbb
    have hfin := setRow_heap wr.drew w1.heap.size _ (bytesV D) _ _ hbb'
    have hbl := below_setRow hbd (Nat.le_refl _) (bytesV D)
    clear hcp hrun
    generalize wr.drew = w5 at *
    go_wp2_with fail
    refine hQ₁ _ _ trivial ?_
    clear hQ₁ Q₁ hc
    generalize w5.setRow w1.heap.size (bytesV D) = w6 at *
    refine ord_last ?_
    refine wpQuiet_nil ?_
    go_wp2_with fail
    exact ⟨.inr ⟨rfl, hbl, hfin⟩, by simp [intOf]; omega⟩
  ·go_wp2_with fail
   go_ret2
   exact ⟨_, rfl, hb1.size, bthen hb1 hbw, hfin⟩
section
variable {H : Type} {enc : TypeId × Value → H} {w : World} {base : Nat} {spare : Nat → Bool} {held : Bool}
end
theorem conv_row {W : World} {v : Value} {l : List Int} (h : RowB W v l) : (convert 31 9 v).run Tryz.prog W = .ok (.string (strOfNums l)) W := by
 obtain ⟨a, cap, rfl, _, _, h⟩ := h
 by_cases hl : l = []
 ·subst hl
  rcases a with _ | a
  ·exact run_convert_bytes_nil W 31 5 Tryz.underlying31 Tryz.underlying5 0 cap _ Tryz.underlying9
  ·rw [run_convert_bytes_string W 31 9 5 _ _ _ Tryz.underlying31 Tryz.underlying5 Tryz.underlying9]
   exact run_bytesToString W a 0 cap [] rfl
 ·obtain ⟨b, off, rfl, hlt, hc⟩ := h hl
  exact run_convert_bytes_arg W 31 5 Tryz.underlying31 Tryz.underlying5 b off l.length cap l rfl (fun i hi => by rw [hc i hi]; simp [List.getD, hi]) _ Tryz.underlying9
end Go.Proofs.YtiblhlaemmdphaaGreat
