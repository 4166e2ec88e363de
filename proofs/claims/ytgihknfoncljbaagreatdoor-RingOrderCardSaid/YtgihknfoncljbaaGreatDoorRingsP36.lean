/- The walks of what regs and Mem.Read reckon, as a guest's access needs them. -/
import Derived.Test.YtgihknfoncljbaaGreatDoorRingsP3
import Derived.Test.YtgihknfoncljbaaGreatDoorRingsP16
import Derived.Test.YtgihknfoncljbaaGreatDoorRingsP24
import Derived.Test.YtgihknfoncljbaaGreatDoorRingsP26
import Derived.Test.YtgihknfoncljbaaGreatDoorRingsP35
namespace Go.Proofs.YtgihknfoncljbaaGreatDoor
open Go Go.RowKit Go.BigFrame Go.Maps
set_option maxHeartbeats 1000000 in
theorem rjoined_any (fs : List (Int × Int)) (b off cap : Nat) (w : World) (hb : b < w.heap.size) (hl : fs.length ≤ 100)
  (hc : ∀ i, (h : i < fs.length) → w.cell? ⟨b, off + i * 2, none⟩ = some (.int .i64 fs[i].1) ∧ w.cell? ⟨b, off + i * 2 + 1, none⟩ = some (.int .u64 fs[i].2))
  (hr : ∀ f ∈ fs, 0 ≤ f.1 ∧ f.1 ≤ 63) :
  Calls Tryz.prog 52 #[.slice (some ⟨b, off, none⟩) fs.length cap] w fun e w' => e = .returned (.int .u64 (joinV fs)) ∧ Below w.heap.size w w' := by
 go_enter Tryz.func52, Tryz.ntmps52
 go_wp2
 go_loopw [3, 8] (fun s i wr => ∃ k : Nat, k ≤ fs.length ∧ i = .int .i64 k ∧ s = .int .u64 (joinV (fs.take k)) ∧ Below w.heap.size w wr) (fun _ i _ => fs.length - (intOf i).toNat)
 case atStart => exact ⟨0, Nat.zero_le _, rfl, rfl, Below.refl _ _⟩
 case round =>
  obtain ⟨k, hk, rfl, rfl, hB⟩ := hrel
  by_cases hlt : k < fs.length
  ·have h1 := (hc k hlt).1
   have h2 := (hc k hlt).2
   have h3 := hr fs[k] (List.getElem_mem hlt)
   have ht : fs.take (k + 1) = fs.take k ++ [(fs[k].1, fs[k].2)] := by rw [List.take_succ_eq_append_getElem hlt]
   generalize fs[k].1 = x at *
   generalize fs[k].2 = y at *
   rw [← hB.cell (by exact hb)] at h1 h2
   have hs := Lib.hid (joinV_snoc (fs.take k) x y)
   have ht := Lib.hid ht
   clear hc
   go_wp2
   go_roundw
   case rel => exact ⟨k + 1, by omega, by go_num, by rw [ht.out, hs.out], (hB.alloc hB.size _)⟩
   case measure => simp [intOf]; omega
  ·have hk : k = fs.length := by omega
   subst hk
   go_wp2
   go_ret
   exact ⟨ret_u64 (by rw [List.take_of_length_le (Nat.le_refl _)]), hB⟩
def rootN (g : Int) : Int := 1073741824 + 16384 * g
def vttN (g : Int) : Int := 281474976710656 * (g + 1) + rootN g
theorem vttbr_any (g : Int) (w : World) (hg : g = 0 ∨ g = 1) : Calls Tryz.prog 22 #[.int .i64 (g + 1), .int .u64 (rootN g)] w fun e w' => e = .returned (.tuple #[.int .u64 (vttN g), .int .i64 0]) ∧ Below w.heap.size w w' := by
 have key : ∀ (x y : Int), (x, y) = (1, 1073741824) ∨ (x, y) = (2, 1073758208) → Calls Tryz.prog 22 #[.int .i64 x, .int .u64 y] w fun e w' => e = .returned (.tuple #[.int .u64 (joinV [(48, x), (0, y)]), .int .i64 0]) ∧ Below w.heap.size w w' := by
  intro x y hxy
  obtain ⟨W, hW⟩ : ∃ W, W = w.alloc (.cells #[.int .i64 48, .int .u64 x, .int .i64 0, .int .u64 y] 144) := ⟨_, rfl⟩
  have hj := rjoined_any [(48, x), (0, y)] w.heap.size 0 2 W (by rw [hW]; simp) (by simp) (fun i hi => by
   rw [hW]
   rcases i with _ | _ | i
   ·simp [World.cell?_alloc_new]
   ·simp [World.cell?_alloc_new]
   ·simp only [List.length_cons, List.length_nil] at hi; omega) (by simp)
  have hb : Below w.heap.size w W := by rw [hW]; exact bone _ _
  subst hW
  generalize joinV [(48, x), (0, y)] = J at *
  rcases hxy with h | h <;> obtain ⟨rfl, rfl⟩ := Prod.mk.inj h
  all_goals
   go_enter Tryz.func22, Tryz.ntmps22
   go_wp2_with fail
   refine hj.mono ?_; rintro e w2 ⟨rfl, hb2⟩
   go_wp2_with fail
   go_ret2
   exact ⟨rfl, bthen hb hb2⟩
 rcases hg with rfl | rfl
 ·exact key 1 1073741824 (.inl rfl)
 ·exact key 2 1073758208 (.inr rfl)
theorem refVttbr_any (g y : Int) (w : World) (hg : g = 0 ∨ g = 1) (hy : W64 y) : Calls Tryz.prog 23 #[.int .i64 (g + 1), .int .u64 y] w fun e w' => (∃ a b, e = .returned (.tuple #[.int .u64 a, .int .i64 b])) ∧ w' = w := by
 have hy0 := hy.1
 have hy1 := hy.2
 by_cases h1 : y % 8192 = 0
 ·by_cases h2 : y < 1099511627776
  ·have k1 : (y % 8192 != 0) = false := by simpa using h1
   rcases hg with rfl | rfl
   all_goals
    go_enter Tryz.func23, Tryz.ntmps23
    go_wp2_with fail
    go_ret2
    exact ⟨⟨_, _, rfl⟩, rfl⟩
  ·have k1 : (y % 8192 != 0) = false := by simpa using h1
   rcases hg with rfl | rfl
   all_goals
    go_enter Tryz.func23, Tryz.ntmps23
    go_wp2_with fail
    go_ret2
    exact ⟨⟨_, _, rfl⟩, rfl⟩
 ·have k1 : (y % 8192 != 0) = true := by simpa using h1
  rcases hg with rfl | rfl
  all_goals
   go_enter Tryz.func23, Tryz.ntmps23
   go_wp2_with fail
   go_ret2
   exact ⟨⟨_, _, rfl⟩, rfl⟩
theorem root_any (g : Int) (w : World) (hg : g = 0 ∨ g = 1) : Calls Tryz.prog 59 #[.int .u64 (vttN g)] w fun e w' => e = .returned (.int .u64 (rootN g)) ∧ w = w' := by
 have key : ∀ (x y z : Int), (x, y, z) = (281476050452480, 536870912, 1073741824) ∨ (x, y, z) = (562951027179520, 536879104, 1073758208) → Calls Tryz.prog 59 #[.int .u64 x] w fun e w' => e = .returned (.int .u64 z) ∧ w = w' := by
  intro x y z h
  have hf := fun W h0 h1 => field_any x 47 1 W h0 h1
  have hfl : fldV x 47 1 = y := by rcases h with h | h <;> (simp only [Prod.mk.injEq] at h; rw [h.1, h.2.1]; kernel_rfl)
  rw [hfl] at hf
  clear hfl
  rcases h with h | h <;> simp only [Prod.mk.injEq] at h <;> obtain ⟨rfl, rfl, rfl⟩ := h
  all_goals
   go_enter Tryz.func59, Tryz.ntmps59
   go_wp2_with fail
   refine (hf _ (by omega) (by omega)).mono ?_; rintro e w2 ⟨rfl, rfl⟩
   clear hf
   go_wp2_with fail
   go_ret
   exact ⟨rfl, rfl⟩
 rcases hg with rfl | rfl
 ·exact key _ _ _ (.inl rfl)
 ·exact key _ _ _ (.inr rfl)
theorem make_bytesU (w : World) (n : Nat) (hc : n ≤ 1048576) :
  (Instr.makeSlice 33 (.int .u64 n) (.int .u64 n)).run Tryz.prog w = .ok (.slice (some ⟨w.heap.size, 0, none⟩) n n) (w.alloc (.cells (bytesV (List.replicate n 0)) 5)) := by
 obtain ⟨i0, hi1, hi2⟩ := Option.map_eq_some_iff.1 infoByte
 rw [Prod.mk.injEq, Prod.mk.injEq] at hi2
 have h := run_make (P := Tryz.prog) w 33 5 i0 _ Tryz.underlying33 hi1 hi2.1 .u64 .u64 n n (by omega) (by omega) (by rw [hi2.2.2]; omega) (by omega)
 rw [hi2.2.1, Nat.mul_one, made_bytes] at h
 simpa [bytesV] using h
set_option maxRecDepth 20000 in
set_option maxHeartbeats 2000000 in
theorem readIn_any (mb pb : Nat) (s z a : Int) (n : Nat) (L : List Pg) (w : World) (hm : MemP w mb pb s z L) (ha : W64 a) (h1 : 1 ≤ n) (h2 : a % 4096 + n ≤ 4096) (hq : askV s z a n = 0) :
  Calls Tryz.prog 60 #[.pointer (some ⟨mb, 0, none⟩), .int .u64 a, .int .u64 n] w fun e w' => ∃ b, e = .returned (.tuple #[.slice (some ⟨b, 0, none⟩) n n, .int .i64 0]) ∧ w.heap.size ≤ b ∧ Below w.heap.size w w' ∧ w'.heap[b]? = some (.cells (bytesV (rdB (L.map Pg.ab) a n)) 5 (0, 0)) := by
 have hk := fun W h => ask_any mb pb s z a n L W h ha (by unfold W64; omega)
 have ha0 := ha.1
 have ha1 := ha.2
 rw [hq] at hk
 clear hq
 have hlk := fun W h => pg_lookup (W := W) (mb := mb) (pb := pb) (s := s) (z := z) (L := L) h (a / 4096) (by unfold W64 at *; omega)
 have hne := fun (W : World) (x : Option Addr) (n c : Nat) => Lib.run_eql_slice_nil (P := Tryz.prog) W 33 5 x n c 0 0 Tryz.underlying33
 go_enter Tryz.func60, Tryz.ntmps60
 go_wp2_with fail
 refine (hk _ hm).mono ?_; rintro e w1 ⟨rfl, hb1⟩
 have hm1 := hm.below hb1 (Nat.le_refl _)
 clear hk
 obtain ⟨c0, c1, c2⟩ := hm1.cells
 obtain ⟨W2, hW2⟩ : ∃ W2, W2 = w1.alloc (.cells (bytesV (List.replicate n 0)) 5) := ⟨_, rfl⟩
 have hmk := make_bytesU w1 n (by omega)
 have hb2 : Below w1.heap.size w1 W2 := by rw [hW2]; exact bone _ _
 have hbb : W2.heap[w1.heap.size]? = some (.cells (bytesV (List.replicate n 0)) 5 (0, 0)) := by rw [hW2, World.alloc_heap_new]
 rw [← hW2] at hmk
 clear hW2
 have hm2 := hm1.below hb2 (Nat.le_refl _)
 obtain ⟨d0, d1, d2⟩ := hm2.cells
 have hz0 : W2.heap.size > w1.heap.size := (Array.getElem?_eq_some_iff.1 hbb).1
 have hn0 : (0 : Int) < n := by omega
 have hpos : ¬ (n : Int) < n := by omega
 have hmin : min (n : Int) (4096 - a % 4096) = n := by omega
 have hlk2 := hlk _ hm2
 have hle : (a % 4096).toNat + n ≤ 4096 := by omega
 clear c0 c1 c2
 go_wp2_with fail
 clear hmk
 go_loopw [10] (fun u W => (u = .int .u64 0 ∧ W = W2) ∨ (u = .int .u64 n ∧ Below w1.heap.size w1 W ∧ W.heap[w1.heap.size]? = some (.cells (bytesV (rdB (L.map Pg.ab) a n)) 5 (0, 0)))) (fun u _ => n - (intOf u).toNat)
 case atStart => exact .inl ⟨rfl, rfl⟩
 case round =>
  rcases hrel with ⟨rfl, rfl⟩ | ⟨rfl, hbw, hfin⟩
  ·rcases hlk2 with ⟨hno, hrun⟩ | ⟨p, hp, hpn, hrun⟩
   ·have hz := rdB_none (a := a) (m := n) (pg_find_none hno) hle
    rw [← hz] at hbb
    clear hlk hno hz
    go_wp2_with fail
    exact ⟨.inr ⟨rfl, hb2, hbb⟩, by simp [intOf]; omega⟩
   ·obtain ⟨_, hl, hby⟩ := page_row hm2 hp
    have hz := rdB_some (a := a) (m := n) (by rw [← hpn]; exact pg_find_some hm.ok hp) hl hle
    have hcp : ∀ W : World, (∀ k : Nat, W.heap[k]? = wr.heap[k]?) → ∀ ty, (Builtin.copy_ #[33, 33] ty #[.slice (some ⟨w1.heap.size, 0, none⟩) n n, .slice (some ⟨p.blk, (a % 4096).toNat, none⟩) (4096 - (a % 4096).toNat) (4096 - (a % 4096).toNat)]).run Tryz.prog W = .ok (goInt (n : Int)) (W.setRow w1.heap.size (bytesV (rdB (L.map Pg.ab) a n))) := by
     intro W hW ty
     have hlen : (List.map (fun x => Value.int .u8 x) (rdB (L.map Pg.ab) a n)).length = n := by rw [List.length_map, rdB_len]
     have hr := run_copy_row (P := Tryz.prog) W 33 33 ty 5 w1.heap.size 0 n n ⟨p.blk, (a % 4096).toNat, none⟩ (4096 - (a % 4096).toNat) (4096 - (a % 4096).toNat) (bytesV (List.replicate n 0)) 5 ((rdB (L.map Pg.ab) a n).map fun x => Value.int .u8 x)
      Tryz.underlying33 (by kernel_rfl) ((hW _).trans hbb) (by rw [hlen]; exact (Nat.min_eq_right (by omega)).symm) ?_ ?_ (bytesV_one _)
     ·rw [hlen] at hr
      rw [hr]
      congr 2
      simp [bytesV]
     ·intro j v hj
      rw [hz, List.getElem?_map, List.getElem?_take] at hj
      split at hj
      ·rename_i hlt
       rw [List.getElem?_drop, List.getElem?_eq_getElem (by omega)] at hj
       simp only [Option.map_some, Option.some.injEq] at hj
       subst hj
       have hadd : (⟨p.blk, (a % 4096).toNat, none⟩ : Addr).add j = ⟨p.blk, (a % 4096).toNat + j, none⟩ := by unfold Addr.add; split <;> simp_all
       rw [hadd]
       simp only [World.cell?, hW, hm2.page p hp, bytesV]
       simp [List.getElem?_eq_getElem (show (a % 4096).toNat + j < p.bs.length by omega)]
      ·cases hj
     ·rw [hlen]
      simp [bytesV]
    clear hlk hz hby
    replace hpn := Lib.hid hpn
    replace hl := Lib.hid hl
    generalize rdB (L.map Pg.ab) a n = D at *
    go_wp2_with fail
    refine region_ord (fun _ => True) [([0, 1, 2, 3, 4, 5, 6, 7, 8, 9], 10)] [] (by kernel_rfl) (by kernel_rfl) (by kernel_rfl) (by kernel_rfl) trivial ?_
    simp only [List.map_cons, List.map_nil, List.filterMap_cons, List.filterMap_nil, List.getElem?_cons_succ, List.getElem?_cons_zero]
    refine ord_step ?_
    repeat (change wpQuiet _ _ _ _ (List.cons _ _) _; go_big_quiet_step (fail))
    refine wpQuiet_nil ?_
    intro Q₁ hQ₁
    have hc := hcp wr.drew (fun _ => rfl)
    have hbd : Below w1.heap.size w1 wr.drew := hb2.drew
    have hbb' : wr.drew.heap[w1.heap.size]? = some (.cells (bytesV (List.replicate n 0)) 5 (0, 0)) := hbb
    have hfin := setRow_heap wr.drew w1.heap.size _ (bytesV D) _ _ hbb'
    have hbl := below_setRow hbd (Nat.le_refl _) (bytesV D)
    clear hcp hrun
    generalize wr.drew = w5 at *
    go_wp2_with fail
    refine hQ₁ _ _ trivial ?_
    clear hQ₁ Q₁ hc
    generalize w5.setRow w1.heap.size (bytesV D) = w6 at *
    refine ord_last ?_
    refine wpQuiet_nil ?_
    go_wp2_with fail
    exact ⟨.inr ⟨rfl, hbl, hfin⟩, by simp [intOf]; omega⟩
  ·go_wp2_with fail
   go_ret2
   exact ⟨_, rfl, hb1.size, bthen hb1 hbw, hfin⟩
end Go.Proofs.YtgihknfoncljbaaGreatDoor
/- The reference's descriptors, as its tables of the shared page need them. -/
namespace Go.Proofs.YtgihknfoncljbaaGreatDoor
open Go Go.RowKit Go.BigFrame Go.Maps
set_option maxRecDepth 20000 in
set_option maxHeartbeats 2000000 in
theorem refPutTab (k t : Int) (w : World) (hk : k = 1 ∨ k = 2) (h0 : 0 ≤ t) (h1 : t < 1099511627776) (h2 : t % 4096 = 0) :
  Calls Tryz.prog 86 #[.int .i64 k, .agg #[.int .i64 1, .int .u64 t, .int .i64 0, .int .i64 0, .bool false]] w fun e w' => e = .returned (.tuple #[.int .u64 (t + 3), .int .i64 0]) ∧ Below w.heap.size w w' := by
 have ht : (t % 4096 != 0) = false := by simpa using h2
 have hw : IntKind.u64.wrap (t + 3) = t + 3 := by rw [IntKind.wrap_u64]; omega
 have hn : ¬ (1099511627776 ≤ t) := by omega
 rcases hk with rfl | rfl
 all_goals
  go_enter Tryz.func86, Tryz.ntmps86
  go_wp2_with fail
  go_ret2
  exact ⟨rfl, bone _ _⟩
set_option maxRecDepth 20000 in
set_option maxHeartbeats 4000000 in
theorem refPutLeaf (perm : Int) (w : World) (hp : perm = 1 ∨ perm = 3) :
  Calls Tryz.prog 86 #[.int .i64 3, .agg #[.int .i64 3, .int .u64 1074266112, .int .i64 perm, .int .i64 0, .bool true]] w fun e w' => (∃ x, W64 x ∧ e = .returned (.tuple #[.int .u64 x, .int .i64 0])) ∧ Below w.heap.size w w' := by
 have hsz : ∀ W, Calls Tryz.prog 81 #[.int .i64 3] W fun e w' => e = .returned (.int .u64 4096) ∧ Below W.heap.size W w' := fun W => refSize_b 3 W (by omega)
 obtain ⟨W1, hW1⟩ : ∃ W1, W1 = w.alloc (.cells #[.int .i64 3, .int .u64 1074266112, .int .i64 perm, .int .i64 0, .bool true] 184) := ⟨_, rfl⟩
 have hb1 : Below w.heap.size w W1 := by rw [hW1]; exact bone _ _
 have hc : W1.heap[w.heap.size]? = some (.cells #[.int .i64 3, .int .u64 1074266112, .int .i64 perm, .int .i64 0, .bool true] 184 (0, 0)) := by rw [hW1]; exact World.alloc_heap_new _ _
 have hz1 := (Array.getElem?_eq_some_iff.1 hc).1
 have c0 : W1.cell? ⟨w.heap.size, 0, none⟩ = some (.int .i64 3) := by simp [World.cell?, hc]
 have c1 : W1.cell? ⟨w.heap.size, 1, none⟩ = some (.int .u64 1074266112) := by simp [World.cell?, hc]
 have c2 : W1.cell? ⟨w.heap.size, 2, none⟩ = some (.int .i64 perm) := by simp [World.cell?, hc]
 have c3 : W1.cell? ⟨w.heap.size, 3, none⟩ = some (.int .i64 0) := by simp [World.cell?, hc]
 have c4 : W1.cell? ⟨w.heap.size, 4, none⟩ = some (.bool true) := by simp [World.cell?, hc]
 rcases hp with rfl | rfl
 all_goals
  go_enter Tryz.func86, Tryz.ntmps86
  go_wp2_with fail
  rw [← hW1]
  clear hW1
  refine region_later W1.heap.size W1 (Below.refl _ _) (by kernel_rfl) (by kernel_rfl) ?_
  have y0 := later_cell (B := W1.heap.size) c0 hz1
  have y1 := later_cell (B := W1.heap.size) c1 hz1
  have y2 := later_cell (B := W1.heap.size) c2 hz1
  have y3 := later_cell (B := W1.heap.size) c3 hz1
  repeat (quiet_step ((go_at_call 81; exact quiet_later (Nat.le_refl _) (hsz _))))
  refine wpQuiet_nil ?_
  first | (rintro _ ⟨X, rfl⟩) | (intro X)
  have hX := X.h
  clear y0 y1 y2 y3
  generalize X.x = w2 at *
  have d0 := cell_lt hX c0 hz1
  have d1 := cell_lt hX c1 hz1
  have d2 := cell_lt hX c2 hz1
  have d3 := cell_lt hX c3 hz1
  have d4 := cell_lt hX c4 hz1
  go_wp2_with fail
  go_ret2
  exact ⟨⟨_, by unfold W64; decide, rfl⟩, bthen hb1 hX⟩
end Go.Proofs.YtgihknfoncljbaaGreatDoor
