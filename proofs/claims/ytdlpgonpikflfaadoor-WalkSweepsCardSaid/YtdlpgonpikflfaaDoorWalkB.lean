/- The reference's walk through tables. -/
import Derived.Test.YtdlpgonpikflfaaDoorWalkA
import Derived.Test.YtdlpgonpikflfaaDoorRemX
namespace Go.Proofs.YtdlpgonpikflfaaDoor
open Go Go.RowKit Go.BigFrame Go.Maps

theorem and511 (a : Int) (h0 : 0 ≤ a) (h1 : a < 18446744073709551616) : bits BinOp.and IntKind.u64 a 511 = a % 512 := by
  obtain ⟨x, rfl⟩ := Int.eq_ofNat_of_zero_le h0
  have e : (511 : Int) = ((511 : Nat) : Int) := rfl
  rw [e, bits_and_u64_nat _ _ (by omega) (by omega)]
  have h := Nat.and_two_pow_sub_one_eq_mod x 9
  have e2 : (2 : Nat) ^ 9 - 1 = 511 := rfl
  rw [e2] at h
  rw [h]
  omega
theorem refSizeV_any (k : Int) (w : World) (hk : k = 1 ∨ k = 2 ∨ k = 3) : Calls Tryd.prog 27 #[.int .i64 k] w fun e w' => e = .returned (.int .u64 (szV k)) ∧ w = w' := by
  rcases hk with rfl | rfl | rfl
  all_goals
    go_enter Tryd.func27, Tryd.ntmps27
    go_wp2_with fail
    go_ret
    exact ⟨rfl, rfl⟩

set_option maxRecDepth 100000 in
set_option maxHeartbeats 4000000 in
theorem refWalk_any (rb : Nat) (pv : Value) (s z root ipa : Int) (L : List Pg) (w : World) (hm : MemR w rb pv s z L) (hr : W64 root) (hi : W64 ipa) :
    Calls Tryd.prog 10 #[.pointer (some ⟨rb, 0, none⟩), .int .u64 root, .int .u64 ipa] w fun e w' => e = .returned (.tuple #[(walkV (wordV s z (L.map Pg.ab)) root ipa).1.val, .int .i64 (walkV (wordV s z (L.map Pg.ab)) root ipa).2]) ∧ Below w.heap.size w w' := by
  have hi0 := hi.1
  have hr0 := hr.1
  have hr1 := hr.2
  by_cases hbig : 1099511627776 ≤ ipa
  · have hv : walkV (wordV s z (L.map Pg.ab)) root ipa = (⟨0, 0, 0, 0⟩, 200) := by unfold walkV; rw [if_pos hbig]
    rw [hv]
    clear hv
    go_enter Tryd.func10, Tryd.ntmps10
    go_wp2_with fail
    refine bodyPost_ret (v := .tuple #[(HitV.mk 0 0 0 0).val, .int .i64 200]) (by simp [results, Tryd.results10, go_sem, HitV.val]) rfl ?_
    exact ⟨rfl, bone _ _⟩
  · have hwd := fun (a : Int) (W : World) (h : MemR W rb pv s z L) (ha : W64 a) => refWord_any rb pv s z a L W h ha
    have hwb : ∀ a, 0 ≤ (wordV s z (L.map Pg.ab) a).1 ∧ (wordV s z (L.map Pg.ab) a).1 < 18446744073709551616 := fun a => by
      unfold wordV; split
      · exact ⟨by decide, by decide⟩
      · exact wordAt_bd hm.ok a
    have hv : walkV (wordV s z (L.map Pg.ab)) root ipa = walkL (wordV s z (L.map Pg.ab)) ipa 3 1 root := by unfold walkV; rw [if_neg hbig]
    rw [hv]
    clear hv
    generalize wordV s z (L.map Pg.ab) = rd at *
    have hi1 : ipa < 1099511627776 := by omega
    clear hbig
    obtain ⟨R, hRe⟩ : ∃ R, walkL rd ipa 3 1 root = R := ⟨_, rfl⟩
    rw [hRe]
    replace hRe := Lib.hid hRe
    have hA0 : W64 (IntKind.u64.wrap (root + 8 * (ipa / 1073741824))) := by rw [IntKind.wrap_u64]; unfold W64; omega
    go_enter Tryd.func10, Tryd.ntmps10
    go_wp2_with fail
    go_loopw [8, 9] (fun u8 u9 wr => ∃ (k : Nat) (t A : Int), 1 ≤ k ∧ k ≤ 4 ∧ u9 = .int .i64 k ∧ u8 = .int .u64 A ∧ W64 A ∧ (k ≤ 3 → A = IntKind.u64.wrap (t + 8 * tabIdx k ipa)) ∧ walkL rd ipa (4 - k) k t = R ∧ wr.heap[w.heap.size]? = some (.cells #[.int .u64 0, .int .i64 0, .int .i64 0, .int .i64 0] 30 (0, 0)) ∧ Below w.heap.size w wr) (fun _ u9 _ => 4 - (intOf u9).toNat)
    case atStart => exact ⟨1, root, _, by omega, by omega, rfl, rfl, hA0, fun _ => rfl, hRe.out, hit_boxes w, bone _ _⟩
    case round =>
      clear hA0
      obtain ⟨k, t, A, hk1, hk4, rfl, rfl, hA, hAe, hW, h6, hB⟩ := hrel
      have hz := hB.size
      have l6 := (Array.getElem?_eq_some_iff.1 h6).1
      have c6 : wr.cell? ⟨w.heap.size, 0, none⟩ = some (.int .u64 0) ∧ wr.cell? ⟨w.heap.size, 1, none⟩ = some (.int .i64 0) ∧ wr.cell? ⟨w.heap.size, 2, none⟩ = some (.int .i64 0) ∧ wr.cell? ⟨w.heap.size, 3, none⟩ = some (.int .i64 0) := by
        refine ⟨?_, ?_, ?_, ?_⟩ <;> simp [World.cell?, h6]
      have f6 : ∀ o, wr.frozen? ⟨w.heap.size, o, none⟩ = false := fun o => by simp [World.frozen?, h6]
      by_cases hlt : k < 4
      · have hk3 : (k : Int) = 1 ∨ (k : Int) = 2 ∨ (k : Int) = 3 := by omega
        have hsz : 0 < szV k := by rcases hk3 with h | h | h <;> rw [h] <;> decide
        have hsz0 : ¬ szV k = 0 := by omega
        have hq : True := trivial
        have hsze : ∀ W, Calls Tryd.prog 27 #[.int .i64 k] W fun e w' => e = .returned (.int .u64 (szV k)) ∧ W = w' := fun W => refSizeV_any k W hk3
        have hrem : IntKind.u64.wrap (ipa.tmod (szV k)) = ipa % szV k := by
          rw [Int.tmod_eq_emod_of_nonneg hi0, IntKind.wrap_u64]
          have := Int.emod_nonneg ipa (show szV k ≠ 0 by omega)
          have := Int.emod_lt_of_pos ipa hsz
          have : szV k ≤ 1073741824 := by rcases hk3 with h | h | h <;> rw [h] <;> decide
          omega
        have hstep : walkL rd ipa (4 - k) k t = walkL rd ipa (3 - k + 1) k t := by rw [show 4 - k = 3 - k + 1 by omega]
        rw [hstep] at hW
        clear hstep
        unfold walkL at hW
        rw [← hAe (by omega)] at hW
        clear hAe
        have hof := fun (x : Int) (W : World) (h0 : 0 ≤ x) (h1 : x < 18446744073709551616) => refOf_any (k : Int) x W h0 h1
        have hwA := fun W h => hwd A W h hA
        have hrA := hwb A
        clear hwd hwb
        generalize rd A = ra at *
        obtain ⟨x, ex⟩ := ra
        have hof' := fun W (_ : True) => hof x W hrA.1 hrA.2
        have hpa := ofV_pa' k x
        clear hof hrA
        generalize ofV k x = d at *
        obtain ⟨kd, pa, pm, mm, af⟩ := d
        obtain ⟨hpa0, hpa1⟩ := hpa
        have hRm0 := Int.emod_nonneg ipa (show szV k ≠ 0 by omega)
        have hRm1 : ipa % szV k < 1073741824 := by
          have := Int.emod_lt_of_pos ipa hsz
          have : szV k ≤ 1073741824 := by rcases hk3 with h | h | h <;> rw [h] <;> decide
          omega
        simp only at hW hpa0 hpa1
        generalize hRMe : ipa % szV k = RM at *
        generalize szV k = SZ at *
        obtain ⟨c60, c61, c62, c63⟩ := c6
        have f60 := f6 0
        have f61 := f6 1
        have f62 := f6 2
        have f63 := f6 3
        have hm1 := hm.below hB (Nat.le_refl _)
        have hT1 := trivial
        replace hW := Lib.hid hW
        go_wp2_with fail
        refine (hwA _ hm1).mono ?_; rintro e w2 ⟨rfl, hb2⟩
        replace h6 := (hb2.block _ l6).trans h6
        replace c60 := cell_lt hb2 c60 l6
        replace c61 := cell_lt hb2 c61 l6
        replace c62 := cell_lt hb2 c62 l6
        replace c63 := cell_lt hb2 c63 l6
        replace f60 := frozen_lt hb2 f60 l6
        replace f61 := frozen_lt hb2 f61 l6
        replace f62 := frozen_lt hb2 f62 l6
        replace f63 := frozen_lt hb2 f63 l6
        skip
        replace hB := bthen hB hb2
        replace l6 := Nat.lt_of_lt_of_le l6 hb2.size
        clear hwA hm1 hb2 f6 hz
        by_cases hex : ex = 0
        · have hq0 : (ex == 0) = true := by rw [hex]; rfl
          have hW1 := hW.out
          rw [if_neg (by simp [hex])] at hW1
          clear hW
          replace hex := Lib.hid hex
          go_wp2_with fail
          refine (hof' _ hT1).mono ?_; rintro e w3 ⟨rfl, hb3⟩
          replace h6 := (hb3.block _ l6).trans h6
          replace c60 := cell_lt hb3 c60 l6
          replace c61 := cell_lt hb3 c61 l6
          replace c62 := cell_lt hb3 c62 l6
          replace c63 := cell_lt hb3 c63 l6
          replace f60 := frozen_lt hb3 f60 l6
          replace f61 := frozen_lt hb3 f61 l6
          replace f62 := frozen_lt hb3 f62 l6
          replace f63 := frozen_lt hb3 f63 l6
          replace hB := bthen hB hb3
          replace l6 := Nat.lt_of_lt_of_le l6 hb3.size
          clear hof' hT1 hb3
          have hB3 : Below w.heap.size w (w3.alloc (.cells #[.int .i64 kd, .int .u64 pa, .int .i64 pm, .int .i64 mm, .bool af] 71)) := hB.alloc (by omega) _
          simp only [DescV.val]
          by_cases hk0 : kd = 0
          · have hq1 : (kd == 0) = true := by rw [hk0]; rfl
            rw [if_pos hk0] at hW1
            have hWe := Lib.hid hW1
            clear hW1
            replace hk0 := Lib.hid hk0
            go_wp2_with fail
            refine bodyPost_ret (v := .tuple #[(HitV.mk 0 0 0 k).val, .int .i64 201]) (by simp [results, Tryd.results10, go_sem, HitV.val, c60, c61, c62, c63, l6]) rfl ?_
            exact ⟨by rw [← hWe.out], (below_four hB (Nat.le_refl _) _ _ _ _).alloc (by simp; omega) _⟩
          · have hq1 : (kd == 0) = false := by simpa using hk0
            rw [if_neg hk0] at hW1
            replace hk0 := Lib.hid hk0
            by_cases hk11 : kd = 1
            · have hq2 : (kd == 1) = true := by rw [hk11]; rfl
              rw [if_pos hk11] at hW1
              replace hW1 := Lib.hid hW1
              replace hk11 := Lib.hid hk11
              have h6' := ((bone w3 (.cells #[.int .i64 kd, .int .u64 pa, .int .i64 pm, .int .i64 mm, .bool af] 71)).block _ l6).trans h6
              have hA2 : W64 (IntKind.u64.wrap (pa + 8 * tabIdx (k + 1) ipa)) := by rw [IntKind.wrap_u64]; unfold W64; omega
              have hW2 : walkL rd ipa (4 - (k + 1)) ((k + 1 : Nat) : Int) pa = R := by rw [← hW1.out, show 4 - (k + 1) = 3 - k by omega]; rfl
              replace hW2 := Lib.hid hW2
              rcases hk3 with hk | hk | hk
              · obtain rfl : k = 1 := by omega
                have hx2 : tabIdx (((1 : Nat) : Int) + 1) ipa = ipa / 2097152 % 512 := rfl
                have hand : bits BinOp.and .u64 (ipa / 2097152) 511 = ipa / 2097152 % 512 := and511 _ (by omega) (by omega)
                rw [hx2] at hA2
                go_wp2_with fail
                refine ⟨⟨2, pa, _, by omega, by omega, by go_num, rfl, hA2, fun _ => rfl, hW2.out, h6', hB3⟩, by simp [intOf]⟩
              · obtain rfl : k = 2 := by omega
                have hx2 : tabIdx (((2 : Nat) : Int) + 1) ipa = ipa / 4096 % 512 := rfl
                have hand : bits BinOp.and .u64 (ipa / 4096) 511 = ipa / 4096 % 512 := and511 _ (by omega) (by omega)
                rw [hx2] at hA2
                go_wp2_with fail
                refine ⟨⟨3, pa, _, by omega, by omega, by go_num, rfl, hA2, fun _ => rfl, hW2.out, h6', hB3⟩, by simp [intOf]⟩
              · obtain rfl : k = 3 := by omega
                have hand : bits BinOp.and .u64 (ipa / 4096) 511 = ipa / 4096 % 512 := and511 _ (by omega) (by omega)
                have hA3 : W64 (IntKind.u64.wrap (pa + 8 * (ipa / 4096 % 512))) := by rw [IntKind.wrap_u64]; unfold W64; omega
                go_wp2_with fail
                refine ⟨⟨4, pa, _, by omega, by omega, by go_num, rfl, hA3, fun h => absurd h (by omega), hW2.out, h6', hB3⟩, by simp [intOf]⟩
            · have hq2 : (kd == 1) = false := by simpa using hk11
              rw [if_neg hk11] at hW1
              replace hk11 := Lib.hid hk11
              cases af
              · rw [if_pos rfl] at hW1
                have hWe := Lib.hid hW1
                clear hW1
                go_wp2_with fail
                refine bodyPost_ret (v := .tuple #[(HitV.mk 0 0 0 k).val, .int .i64 202]) (by simp [results, Tryd.results10, go_sem, HitV.val, c60, c61, c62, c63, l6]) rfl ?_
                exact ⟨by rw [← hWe.out], (below_four hB (Nat.le_refl _) _ _ _ _).alloc (by simp; omega) _⟩
              · rw [if_neg (by simp)] at hW1
                by_cases hp40 : 1099511627776 ≤ pa
                · rw [if_pos hp40] at hW1
                  have hWe := Lib.hid hW1
                  clear hW1
                  go_wp2_with fail
                  refine bodyPost_ret (v := .tuple #[(HitV.mk 0 0 0 k).val, .int .i64 200]) (by simp [results, Tryd.results10, go_sem, HitV.val, c60, c61, c62, c63, l6]) rfl ?_
                  exact ⟨by rw [← hWe.out], (below_four hB (Nat.le_refl _) _ _ _ _).alloc (by simp; omega) _⟩
                · rw [if_neg hp40] at hW1
                  have hWe := Lib.hid hW1
                  clear hW1
                  go_wp2_with fail
                  have hd : ∀ (i : Nat) (u : Value), (#[.int .i64 kd, .int .u64 pa, .int .i64 pm, .int .i64 mm, .bool true] : Array Value)[i]? = some u → (w3.alloc (.cells #[.int .i64 kd, .int .u64 pa, .int .i64 pm, .int .i64 mm, .bool true] 71)).cell? ⟨w3.heap.size, i, none⟩ = some u := fun i u h => by rw [World.cell?_alloc_new]; exact h
                  have d1 := hd 1 _ rfl
                  have d2 := hd 2 _ rfl
                  have d3 := hd 3 _ rfl
                  have h64 := ((bone w3 (.cells #[.int .i64 kd, .int .u64 pa, .int .i64 pm, .int .i64 mm, .bool true] 71)).block _ l6).trans h6
                  have l3 : w3.heap.size < (w3.alloc (.cells #[.int .i64 kd, .int .u64 pa, .int .i64 pm, .int .i64 mm, .bool true] 71)).heap.size := by simp
                  have hsb : ∀ W, Calls Tryd.prog 27 #[.int .i64 k] W fun e w' => e = .returned (.int .u64 SZ) ∧ Below W.heap.size W w' := fun W => (hsze W).mono fun e w' ⟨h, e2⟩ => ⟨h, by subst e2; exact Below.refl _ _⟩
                  have hsum : IntKind.u64.wrap (pa + RM) = pa + RM := by rw [IntKind.wrap_u64]; omega
                  clear hd c60 c61 c62 c63 f60 f61 f62 f63 hq h6
                  generalize w3.alloc (.cells #[.int .i64 kd, .int .u64 pa, .int .i64 pm, .int .i64 mm, .bool true] 71) = w4 at *
                  refine (wpIn_wide (n := 9)).1 ?_
                  refine region_later_tail_in w4.heap.size w4 13 (Below.refl _ _) rfl (by kernel_rfl) (by kernel_rfl) ?_
                  have y1 := later_cell (B := w4.heap.size) d1 l3
                  have y2 := later_cell (B := w4.heap.size) d2 l3
                  have y3 := later_cell (B := w4.heap.size) d3 l3
                  simp only [List.take_succ_cons, List.take_zero, List.drop_succ_cons, List.drop_zero]
                  repeat (refine wpQuietIn_step (fun _ _ _ _ => trivial) (fun K hK => ?_); go_simp; first | (refine hK _ ?_; clear hK K) | (apply Exists.intro; refine ⟨fun _ => ?_, hK _ ?_⟩; (first | (gi_at_call 27; exact quiet_later_in (Nat.le_refl _) (callsIn_wide.2 (hsb _)))); clear hK K))
                  refine wpQuietIn_nil ?_
                  first | (rintro _ ⟨X, rfl⟩) | (intro X)
                  have hX := X.h
                  clear y1 y2 y3
                  have l64 := (Array.getElem?_eq_some_iff.1 h64).1
                  replace h64 := (hX.block _ l64).trans h64
                  generalize X.x = w5 at *
                  have c60 : w5.cell? ⟨w.heap.size, 0, none⟩ = some (.int .u64 0) := by simp [World.cell?, h64]
                  have c61 : w5.cell? ⟨w.heap.size, 1, none⟩ = some (.int .i64 0) := by simp [World.cell?, h64]
                  have c62 : w5.cell? ⟨w.heap.size, 2, none⟩ = some (.int .i64 0) := by simp [World.cell?, h64]
                  have c63 : w5.cell? ⟨w.heap.size, 3, none⟩ = some (.int .i64 0) := by simp [World.cell?, h64]
                  have f6' : ∀ o, w5.frozen? ⟨w.heap.size, o, none⟩ = false := fun o => by simp [World.frozen?, h64]
                  have f60 := f6' 0
                  have f61 := f6' 1
                  have f62 := f6' 2
                  have f63 := f6' 3
                  clear X f6' d1 d2 d3
                  gi_wp2
                  go_wp2_with fail
                  refine bodyPost_ret (v := .tuple #[(HitV.mk (pa + RM) pm mm k).val, .int .i64 0]) (by simp [results, Tryd.results10, go_sem, HitV.val, c60, c61, c62, c63, hRMe]) rfl ?_
                  exact ⟨by rw [← hWe.out], below_four (hB3.trans (hX.mono (by omega))) (Nat.le_refl _) _ _ _ _⟩
        · have hq0 : (ex == 0) = false := by simpa using hex
          have hW1 := hW.out
          rw [if_pos hex] at hW1
          have hWe := Lib.hid hW1
          clear hW hW1
          replace hex := Lib.hid hex
          go_wp2_with fail
          refine bodyPost_ret (v := .tuple #[(HitV.mk 0 0 0 k).val, .int .i64 90]) (by simp [results, Tryd.results10, go_sem, HitV.val, c60, c61, c62, c63]) rfl ?_
          exact ⟨by rw [← hWe.out], below_four hB (Nat.le_refl _) _ _ _ _⟩
      · obtain rfl : k = 4 := by omega
        have hWe : R = (⟨0, 0, 0, 0⟩, 201) := by rw [← hW]; rfl
        replace hWe := Lib.hid hWe
        obtain ⟨c60, c61, c62, c63⟩ := c6
        have f60 := f6 0
        have f61 := f6 1
        have f62 := f6 2
        have f63 := f6 3
        go_wp2_with fail
        refine bodyPost_ret (v := .tuple #[(HitV.mk 0 0 0 0).val, .int .i64 201]) (by simp [results, Tryd.results10, go_sem, HitV.val, c60, c61, c62, c63]) rfl ?_
        exact ⟨by rw [hWe.out], below_four hB (Nat.le_refl _) _ _ _ _⟩
end Go.Proofs.YtdlpgonpikflfaaDoor
