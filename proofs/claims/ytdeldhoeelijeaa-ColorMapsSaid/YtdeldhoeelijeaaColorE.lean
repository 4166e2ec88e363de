/- The iterator of the pages of a span whose colors are in a mask. -/
import Derived.RangeFuncNested
import Derived.RangeFuncBound
import Derived.RangeFuncCalls
import Derived.RangeFuncLeaves
import Derived.RangeFuncBox
import Derived.Shelf.Abstract
import Derived.Shelf.RegionOpen
import Derived.WalkKit
import Derived.OwnWalkIn
import Derived.TacticsInMore
import Derived.LoopNIn
import Derived.LoopIn
import Derived.ControlIn
import Derived.Test.YtdeldhoeelijeaaColorD
import Derived.Test.YtdeldhoeelijeaaSpanK
import Derived.Test.YtdeldhoeelijeaaOrdI
namespace Go.Proofs.Ytdeldhoeelijeaa
open Go Go.RowKit Go.Shelf Go.BigFrame

attribute [local go_sem] Oper.semAt_some

def pageAt (A k : Nat) : Two := tw (4096 * ((A : Int) + k)) 4096
/-- The pages, from the 'A'-th one on, whose colors are in a mask. -/
def pagesV (m : Int) (N A : Nat) : Nat → List Two
  | 0 => []
  | k + 1 => pagesV m N A k ++ if rotB m N A k = 1 then [pageAt A k] else []
theorem pagesV_len (m : Int) (N A : Nat) : ∀ k, ((pagesV m N A k).length : Int) = sumN (rotB m N A) k
  | 0 => rfl
  | k + 1 => by
    show ((pagesV m N A k ++ _).length : Int) = sumN (rotB m N A) k + rotB m N A k
    rw [List.length_append, Int.natCast_add, pagesV_len m N A k]
    have := rotB_bd m N A k
    split
    · rename_i h; rw [h]; rfl
    · simp; omega
theorem pagesV_pre (m : Int) (N A : Nat) (k : Nat) : ∀ d, ∃ t, pagesV m N A (k + d) = pagesV m N A k ++ t
  | 0 => ⟨[], by simp⟩
  | d + 1 => by
    obtain ⟨t, ht⟩ := pagesV_pre m N A k d
    exact ⟨t ++ if rotB m N A (k + d) = 1 then [pageAt A (k + d)] else [], by
      show pagesV m N A (k + d) ++ _ = _
      rw [ht, List.append_assoc]; rfl⟩

/-- Three blocks lie as they lay. -/
structure Keeps3 (Bs Bm Bn : Nat) (W W' : World) : Prop where
  size : W.heap.size ≤ W'.heap.size
  s : W'.heap[Bs]? = W.heap[Bs]?
  m : W'.heap[Bm]? = W.heap[Bm]?
  n : W'.heap[Bn]? = W.heap[Bn]?
theorem Keeps3.refl (Bs Bm Bn : Nat) (W : World) : Keeps3 Bs Bm Bn W W := ⟨Nat.le_refl _, rfl, rfl, rfl⟩
theorem Keeps3.trans {Bs Bm Bn : Nat} {A B C : World} (h : Keeps3 Bs Bm Bn A B) (k : Keeps3 Bs Bm Bn B C) : Keeps3 Bs Bm Bn A C := ⟨Nat.le_trans h.size k.size, k.s.trans h.s, k.m.trans h.m, k.n.trans h.n⟩
theorem Keeps3.of_below {Bs Bm Bn : Nat} {W W' : World} (h : Below W.heap.size W W') (hs : Bs < W.heap.size) (hm : Bm < W.heap.size) (hn : Bn < W.heap.size) : Keeps3 Bs Bm Bn W W' := ⟨h.size, h.block _ hs, h.block _ hm, h.block _ hn⟩

set_option maxRecDepth 20000 in
set_option maxHeartbeats 1000000 in
theorem pages_in (n : Nat) (s : Two) (nn m : Int) (w : World) :
    CallsIn Fence.wide n Try.prog 23 #[.agg #[.int .u64 s.a, .int .u64 s.b], .int .i64 nn, .int .u64 m] w fun e w' => e = .returned (.func (.func 39) #[] #[.pointer (some ⟨w.heap.size, 0, none⟩), .pointer (some ⟨w.heap.size + 1 + 1, 0, none⟩), .pointer (some ⟨w.heap.size + 1, 0, none⟩)]) ∧ w' = ((w.alloc (.cells #[.int .u64 s.a, .int .u64 s.b] 24)).alloc (.cells #[.int .i64 nn] 3)).alloc (.cells #[.int .u64 m] 22) := by
  refine callsIn_of_wp Try.func23 rfl trivial ?_ rfl
  simp only [Try.ntmps23, List.size_toArray, List.length_cons, List.length_nil, Nat.reduceAdd, Nat.reduceSub, Array.replicate_succ, Array.replicate_zero, List.push_toArray, List.append_toArray, List.nil_append, List.cons_append]
  gi_wp2
  go_ret
  exact ⟨rfl, rfl⟩

set_option maxRecDepth 100000 in
set_option maxHeartbeats 4000000 in
theorem pages1_in (n l Bs Bm Bn : Nat) (hn : 1 ≤ n) (s : Two) (nn m : Int) (hm : W64 m) (hM : maskedV nn m = true) (N A c : Nat) (hN : nn = N) (hA : s.a = 4096 * (A : Int)) (hc : s.b = 4096 * (c : Int)) (htop : s.a + s.b ≤ 18446744073709551616) (J Jx : List Two → World → Prop)
    (hY : ∀ pre (x : Two) W, J pre W → pre.length < (pagesV m N A c).length → YieldAt Fence.wide (n - 1) Try.prog l #[.agg #[.int .u64 x.a, .int .u64 x.b]] W fun e W' =>
      (e = .returned (.bool true) ∧ J (pre ++ [x]) W' ∧ Keeps3 Bs Bm Bn W W') ∨ (e = .returned (.bool false) ∧ Jx (pre ++ [x]) W'))
    (W : World) (hJ : AbidesFrom W.heap.size J) (hBs0 : W.cell? ⟨Bs, 0, none⟩ = some (.int .u64 s.a)) (hBs1 : W.cell? ⟨Bs, 1, none⟩ = some (.int .u64 s.b)) (hBm : W.cell? ⟨Bm, 0, none⟩ = some (.int .u64 m)) (hBn : W.cell? ⟨Bn, 0, none⟩ = some (.int .i64 nn)) (h0 : J [] W) :
    CallsIn Fence.wide n Try.prog 39 #[.func (.yield l) #[] #[], .pointer (some ⟨Bs, 0, none⟩), .pointer (some ⟨Bm, 0, none⟩), .pointer (some ⟨Bn, 0, none⟩)] W fun e W' => (∃ v, e = .returned v) ∧
      ((∃ ys, ys = pagesV m N A c ∧ J ys W') ∨ (∃ pre, (∃ t, pagesV m N A c = pre ++ t) ∧ Jx pre W')) := by
  have hsn := (maskedV_iff.1 hM).1
  have hv := someV_iff.1 hsn
  have n0 : 1 ≤ nn := by omega
  have n1 : nn ≤ 64 := by omega
  have hsa := s.ha
  have hsb := s.hb
  unfold W64 at hsa hsb
  have hl1 := World.block_lt_of_cell? W _ hBs0
  have hl2 := World.block_lt_of_cell? W _ hBm
  have hl3 := World.block_lt_of_cell? W _ hBn
  have hm0 := hm.1
  have hm1 := hm.2
  have hofv : ∀ k : Nat, ofV (s.a + k * 4096) nn = (s.a / 4096 + k) % nn := fun k => by
    unfold ofV; rw [if_pos hsn, show (s.a + (k : Int) * 4096) / 4096 = s.a / 4096 + k by omega]
  have hst := fun (k : Nat) => @rot_step m nn s.a N A k hm hN (by omega) k rfl
  have hemod := fun (k : Int) => And.intro (Int.emod_nonneg (s.a / 4096 + k) (show nn ≠ 0 by omega)) (Int.emod_lt_of_pos (s.a / 4096 + k) (show 0 < nn by omega))
  have hcol := fun (k : Nat) (hk : k < c) (W : World) => of_any (s.a + k * 4096) nn W (by unfold W64; omega)
  have hcd : s.b / 4096 = (c : Int) := by omega
  have hpg : ∀ k : Nat, k < c → (pageAt A k).a = s.a + k * 4096 ∧ (pageAt A k).b = 4096 := fun k hk => by
    obtain ⟨e1, e2⟩ : (pageAt A k).a = 4096 * ((A : Int) + k) ∧ (pageAt A k).b = 4096 := tw_parts (by unfold W64; omega) (by unfold W64; omega)
    exact ⟨by rw [e1]; omega, e2⟩
  clear hv hsn hM
  replace hA := Lib.hid hA
  replace hc := Lib.hid hc
  replace hN := Lib.hid hN
  replace hofv := Lib.hid hofv
  replace hst := Lib.hid hst
  replace hemod := Lib.hid hemod
  replace hpg := Lib.hid hpg
  refine callsIn_of_wp Try.func39 rfl trivial ?_ rfl
  simp only [Try.ntmps39, List.size_toArray, List.length_cons, List.length_nil, Nat.reduceAdd, Nat.reduceSub, Array.replicate_succ, Array.replicate_zero, List.push_toArray, List.append_toArray, List.nil_append, List.cons_append]
  gi_wp2
  gi_loopw [10] (fun i wr => ∃ k : Nat, k ≤ c ∧ i = .int .u64 k ∧ J (pagesV m N A k) wr ∧ Keeps3 Bs Bm Bn W wr) (fun i _ => c - (intOf i).toNat)
  case atStart => exact ⟨0, Nat.zero_le _, rfl, h0, Keeps3.refl _ _ _ _⟩
  case round =>
    obtain ⟨k, hk, rfl, hJs, hK⟩ := hrel
    by_cases hlt : k < c
    · have cs0 := (World.cell?_of_block hK.s).trans hBs0
      have cm0 := (World.cell?_of_block hK.m).trans hBm
      have cn0 := (World.cell?_of_block hK.n).trans hBn
      have hsz := hK.size
      have hcl := hcol k hlt
      rw [hofv.out k] at hcl
      have hem := hemod.out k
      have hkk : s.a + (k : Int) * 4096 < 18446744073709551616 := by have := hc.out; omega
      have hrk := rotB_bd m N A k
      have hpre := pagesV_pre m N A (k + 1) (c - (k + 1))
      rw [show k + 1 + (c - (k + 1)) = c by omega] at hpre
      have hs := hst.out k
      have hsn : pagesV m N A (k + 1) = pagesV m N A k ++ if rotB m N A k = 1 then [pageAt A k] else [] := rfl
      have hpk := hpg.out k hlt
      rw [← hs] at hrk
      gi_wp2
      rcases (show rotB m N A k = 0 ∨ rotB m N A k = 1 by have := rotB_bd m N A k; omega) with hb | hb
      · rw [if_neg (by rw [hb]; decide), List.append_nil] at hsn
        rw [hb] at hs
        replace hsn := Lib.hid hsn
        refine region_later_in wr.heap.size wr (Below.refl _ _) rfl (by kernel_rfl) (by kernel_rfl) ?_
        have y0 := later_cell (B := wr.heap.size) cm0 (by omega)
        have y1 := later_cell (B := wr.heap.size) cn0 (by omega)
        repeat (refine wpQuietIn_step (fun _ _ _ _ => trivial) (fun K hK => ?_); go_simp; first | (refine hK _ ?_; clear hK K) | (apply Exists.intro; refine ⟨fun _ => ?_, hK _ ?_⟩; (first | (gi_at_call 10; exact quiet_later_in (Nat.le_refl _) (callsIn_wide.2 ((hcl _).mono fun e w' h => ⟨h.1, h.2 ▸ Below.refl _ _⟩)))); clear hK K))
        refine wpQuietIn_nil ?_
        first | (rintro _ ⟨X, rfl⟩) | (intro X)
        have hX := X.h
        clear y0 y1
        generalize X.x = w3 at *
        have hK3 := hK.trans (Keeps3.of_below hX (by omega) (by omega) (by omega))
        have hJ3 := abides_below (B := W.heap.size) hJ hJs hX
        gi_wp2
        go_roundw
        case rel => exact ⟨k + 1, by omega, by go_num, by rw [hsn.out]; exact hJ3, hK3⟩
        case measure => simp [intOf]; omega
      · rw [if_pos hb] at hsn
        rw [hb] at hs
        obtain ⟨t, ht⟩ := hpre
        rw [hsn] at ht
        have hlk : (pagesV m N A k).length < (pagesV m N A c).length := by rw [ht]; simp
        replace ht := Lib.hid ht
        replace hsn := Lib.hid hsn
        refine region_later_tail_in wr.heap.size wr 11 (Below.refl _ _) rfl (by kernel_rfl) (by kernel_rfl) ?_
        have y0 := later_cell (B := wr.heap.size) cm0 (by omega)
        have y1 := later_cell (B := wr.heap.size) cn0 (by omega)
        simp only [List.take_succ_cons, List.take_zero, List.drop_succ_cons, List.drop_zero]
        repeat (refine wpQuietIn_step (fun _ _ _ _ => trivial) (fun K hK => ?_); go_simp; first | (refine hK _ ?_; clear hK K) | (apply Exists.intro; refine ⟨fun _ => ?_, hK _ ?_⟩; (first | (gi_at_call 10; exact quiet_later_in (Nat.le_refl _) (callsIn_wide.2 ((hcl _).mono fun e w' h => ⟨h.1, h.2 ▸ Below.refl _ _⟩)))); clear hK K))
        refine wpQuietIn_nil ?_
        first | (rintro _ ⟨X, rfl⟩) | (intro X)
        have hX := X.h
        clear y0 y1
        generalize X.x = w3 at *
        have hK3 := hK.trans (Keeps3.of_below hX (by omega) (by omega) (by omega))
        have hJ3 := abides_below (B := W.heap.size) hJ hJs hX
        have hy0 := hY _ (pageAt A k) w3 hJ3 hlk
        rw [hpk.1, hpk.2] at hy0
        obtain ⟨fn, tmps, assign, body, hy, hR⟩ := hy0
        clear hlk hpk
        gi_wp2
        refine hR.mono ?_
        rintro e W3 (⟨rfl, hJ4, hk4⟩ | ⟨rfl, hJx4⟩)
        · gi_wp2
          go_roundw
          case rel => exact ⟨k + 1, by omega, by go_num, by rw [hsn.out]; exact hJ4, hK3.trans hk4⟩
          case measure => simp [intOf]; omega
        · gi_wp2
          refine bodyPost_ret (results_none rfl _ _ _) rfl ?_
          exact ⟨⟨_, rfl⟩, .inr ⟨_, ⟨_, ht.out⟩, hJx4⟩⟩
    · obtain rfl : k = c := by omega
      gi_wp2
      go_end0
      exact ⟨⟨_, rfl⟩, .inl ⟨_, rfl, hJs⟩⟩
end Go.Proofs.Ytdeldhoeelijeaa
