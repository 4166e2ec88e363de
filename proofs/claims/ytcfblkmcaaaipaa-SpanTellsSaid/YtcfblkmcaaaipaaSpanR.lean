/- The walks of both Covers, and of the chapter's examples. Conditions: words of 64 bits; slices below 2^38. -/
import Derived.Test.YtcfblkmcaaaipaaSpanQ
import Derived.Test.YtcfblkmcaaaipaaSpanJ
namespace Go.Proofs.Ytcfblkmcaaaipaa
open Go.RowKit

/-- A piece that is cut leaves one piece more at most. -/
theorem pieces_bound {x : Two} (hx : goodB x.a x.b = true) : ∀ out : List Two, CanonS out → (out.flatMap (piecesV x)).length ≤ out.length + 1 ∧ ((∀ y ∈ out, lastV x.a x.b < y.a) → (out.flatMap (piecesV x)).length = out.length)
  | [], _ => by simp
  | y :: out, h => by
    obtain ⟨h1, h2⟩ := h
    obtain ⟨c1, c2, c3⟩ := canon_cons.1 (by simpa using h2)
    have hy := h1 y (by simp)
    obtain ⟨i1, i2⟩ := pieces_bound hx out ⟨fun z hz => h1 z (by simp [hz]), c3⟩
    rw [List.flatMap_cons, List.length_append, List.length_cons]
    have far : lastV x.a x.b < y.a → (piecesV x y).length = 1 := by
      intro hf
      have ho : overlapB x.a x.b y.a y.b = false := by
        rw [Bool.eq_false_iff]; intro ho
        have := overlapB_iff.1 ho
        rw [lastV_yes hx] at hf
        omega
      unfold piecesV; rw [if_pos ho]; rfl
    have next : ∀ z ∈ out, lastV y.a y.b + 1 < z.a := fun z hz => c1 (endsV z) (List.mem_map_of_mem hz)
    constructor
    · have hp : (piecesV x y).length ≤ 1 ∨ (lastV x.a x.b < lastV y.a y.b ∧ (piecesV x y).length ≤ 2) := by
        unfold piecesV
        split
        · exact .inl (by simp)
        · by_cases k : lastV x.a x.b < lastV y.a y.b
          · exact .inr ⟨k, by rw [if_pos k, List.length_append]; split <;> simp⟩
          · exact .inl (by rw [if_neg k, List.length_append]; split <;> simp)
      rcases hp with hp | ⟨k, hp⟩
      · omega
      · have := i2 fun z hz => by have := next z hz; omega
        omega
    · intro hall
      rw [far (hall y (by simp)), i2 fun z hz => hall z (by simp [hz])]; omega
theorem cutAll_bound : ∀ (l out : List Two), CanonS out → (l.foldl cut1 out).length ≤ out.length + l.length
  | [], out, _ => by simp
  | x :: l, out, h => by
    have h1 := cutAll_bound l _ (cut1_inv x out h).1
    have h2 : (cut1 out x).length ≤ out.length + 1 := by
      unfold cut1
      cases hx : goodB x.a x.b
      · rw [if_neg (by simp)]; omega
      · rw [if_pos rfl]; exact (pieces_bound hx out h).1
    simp only [List.foldl_cons, List.length_cons]; omega
theorem cutAll_len (s : Two) (hs : goodB s.a s.b = true) (l : List Two) : (cutAll s l).length ≤ l.length + 1 := by
  have := cutAll_bound l [s] ⟨by simpa using hs, canon_cons.2 ⟨by simp, endsV_le hs, canon_nil⟩⟩
  simp at this; unfold cutAll; omega
theorem refCut_all (v : Value) (s : Two) (l : List Two) (w : World) (hv : RowTwo w v l) (hl : l.length ≤ 137438953472) :
    Calls Try.prog 14 #[.agg #[.int .u64 s.a, .int .u64 s.b], v] w (RetOwn 30 w (refCutV s l)) := by
  cases hs : goodB s.a s.b
  · obtain ⟨a, cap, rfl, _⟩ := hv
    have e : refCutV s l = [] := by unfold refCutV; rw [if_neg (by rw [hs]; simp)]
    replace e := Lib.hid e
    go_enter Try.func14, Try.ntmps14
    go_wp2_with fail
    refine (refGood_any _ _ _ s.ha s.hb).mono ?_; rintro e1 w1 ⟨rfl, hb1⟩
    rw [hs]
    go_wp2_with fail
    go_ret
    exact ⟨_, rfl, by rw [e.out]; exact OwnTwo.nil _ _ _, bnew hb1⟩
  · exact refCut_any v s l w hv (by omega) fun k hk => by
      have := cutAll_len s hs (l.take k)
      rw [List.length_take] at this
      omega

def coversV (s : Two) (l : List Two) : Bool := goodB s.a s.b && decide ((cutV s l).length = 0)
theorem ret_len {n : Nat} {b : Bool} (h : b = decide (n = 0)) : Ending.returned (.bool ((n : Int) == 0)) = .returned (.bool b) := by
  rw [h]; congr 2; rw [Bool.eq_iff_iff]; simp

set_option maxHeartbeats 1000000 in
theorem covers_any (v : Value) (s : Two) (l : List Two) (w : World) (hv : RowTwo w v l) (hl : l.length ≤ 274877906944) :
    Calls Try.prog 15 #[.agg #[.int .u64 s.a, .int .u64 s.b], v] w fun e w' => e = .returned (.bool (coversV s l)) ∧ Below w.heap.size w w' := by
  obtain ⟨a, cap, rfl, _⟩ := id hv
  cases hg : goodB s.a s.b
  · have e : coversV s l = false := by unfold coversV; rw [hg]; rfl
    rw [e]; clear e
    go_enter Try.func15, Try.ntmps15
    go_wp2_with fail
    refine (good_any _ _ _ s.ha s.hb).mono ?_; rintro e1 w1 ⟨rfl, hb1⟩
    rw [hg]
    go_wp2_with fail
    go_ret
    exact ⟨rfl, bnew hb1⟩
  · have e : coversV s l = decide ((cutV s l).length = 0) := by unfold coversV; rw [hg]; rfl
    replace e := Lib.hid e
    go_enter Try.func15, Try.ntmps15
    go_wp2_with fail
    refine (good_any _ _ _ s.ha s.hb).mono ?_; rintro e1 w1 ⟨rfl, hb1⟩
    have c0 : w1.cell? ⟨w.heap.size, 0, none⟩ = some (.int .u64 s.a) := cell_lt hb1 (by simp [World.cell?_alloc_new]) (by simp)
    have c1 : w1.cell? ⟨w.heap.size, 1, none⟩ = some (.int .u64 s.b) := cell_lt hb1 (by simp [World.cell?_alloc_new]) (by simp)
    have hW : Below w.heap.size w w1 := bnew hb1
    have hv1 := hv.below hW
    rw [hg]
    clear hb1 hg hv
    go_wp2_with fail
    refine (cut_any _ s l w1 hv1 hl).mono ?_; rintro e2 w2 ⟨r, rfl, hr, hb2⟩
    obtain ⟨ar, cr, rfl, _, _⟩ := OwnTwo.row hr
    go_wp2_with fail
    go_ret
    exact ⟨ret_len e.out, bthen hW hb2⟩

set_option maxHeartbeats 1000000 in
theorem refCovers_any (v : Value) (s : Two) (l : List Two) (w : World) (hv : RowTwo w v l) (hl : l.length ≤ 137438953472) :
    Calls Try.prog 16 #[.agg #[.int .u64 s.a, .int .u64 s.b], v] w fun e w' => e = .returned (.bool (coversV s l)) ∧ Below w.heap.size w w' := by
  obtain ⟨a, cap, rfl, _⟩ := id hv
  cases hg : goodB s.a s.b
  · have e : coversV s l = false := by unfold coversV; rw [hg]; rfl
    rw [e]; clear e
    go_enter Try.func16, Try.ntmps16
    go_wp2_with fail
    refine (refGood_any _ _ _ s.ha s.hb).mono ?_; rintro e1 w1 ⟨rfl, hb1⟩
    rw [hg]
    go_wp2_with fail
    go_ret
    exact ⟨rfl, bnew hb1⟩
  · have e : coversV s l = decide ((refCutV s l).length = 0) := by unfold coversV; rw [hg, cut_eq']; rfl
    replace e := Lib.hid e
    go_enter Try.func16, Try.ntmps16
    go_wp2_with fail
    refine (refGood_any _ _ _ s.ha s.hb).mono ?_; rintro e1 w1 ⟨rfl, hb1⟩
    have c0 : w1.cell? ⟨w.heap.size, 0, none⟩ = some (.int .u64 s.a) := cell_lt hb1 (by simp [World.cell?_alloc_new]) (by simp)
    have c1 : w1.cell? ⟨w.heap.size, 1, none⟩ = some (.int .u64 s.b) := cell_lt hb1 (by simp [World.cell?_alloc_new]) (by simp)
    have hW : Below w.heap.size w w1 := bnew hb1
    have hv1 := hv.below hW
    rw [hg]
    clear hb1 hg hv
    go_wp2_with fail
    refine (refCut_all _ s l w1 hv1 hl).mono ?_; rintro e2 w2 ⟨r, rfl, hr, hb2⟩
    obtain ⟨ar, cr, rfl, _, _⟩ := OwnTwo.row hr
    go_wp2_with fail
    go_ret
    exact ⟨ret_len e.out, bthen hW hb2⟩

theorem ex_cut : cutV (tw 0 10) [tw 2 3] = [tw 0 2, tw 5 5] := by
  unfold cutV cutEnds
  rw [merged_eq]
  kernel_rfl
set_option maxHeartbeats 1000000 in
theorem awake_any (w : World) : Calls Try.prog 9 #[] w fun e w' => e = .returned (.bool true) ∧ Below w.heap.size w w' := by
  have hW : ∀ a : Int, 0 ≤ a → a < 18446744073709551616 → W64 a := fun a h1 h2 => ⟨h1, h2⟩
  have hL := OwnTwo.lit 30 w w.heap.size (Nat.le_refl _) [tw 2 3]
  have hc := cut_any _ (tw 0 10) [tw 2 3] _ (OwnTwo.row hL) (by decide)
  rw [ex_cut] at hc
  have hl := fun W => last_any 18446744073709551615 1 W (hW _ (by omega) (by omega)) (hW _ (by omega) (by omega))
  have hg := fun W => good_any 18446744073709551615 2 W (hW _ (by omega) (by omega)) (hW _ (by omega) (by omega))
  rw [show lastV 18446744073709551615 1 = 18446744073709551615 by kernel_rfl] at hl
  rw [show goodB 18446744073709551615 2 = false by kernel_rfl] at hg
  clear hL hW
  go_enter Try.func9, Try.ntmps9
  go_wp2_with fail
  refine hc.mono ?_
  rintro e1 w1 ⟨r, rfl, hr, hb1⟩
  clear hc
  obtain ⟨ar, cr, rfl, _, hrow⟩ := OwnTwo.row hr
  obtain ⟨b, off, rfl, hbl, hcell⟩ := hrow (by simp)
  have h0 := (hcell 1 (by decide)).1
  have h1 := (hcell 1 (by decide)).2
  have hW1 : Below w.heap.size w w1 := bnew hb1
  clear hr hrow hcell hb1
  rw [show ([tw 0 2, tw 5 5][1]).a = 5 by kernel_rfl] at h0
  rw [show ([tw 0 2, tw 5 5][1]).b = 5 by kernel_rfl] at h1
  go_wp2_with fail
  refine (hl _).mono ?_
  rintro e2 w2 ⟨rfl, hb2⟩
  go_wp2_with fail
  refine (hg _).mono ?_
  rintro e3 w3 ⟨rfl, hb3⟩
  have hb13 := bthen hb2 hb3
  have k0 := cell_lt hb13 h0 hbl
  have k1 := cell_lt hb13 h1 hbl
  clear hl hg h0 h1
  go_wp2_with fail
  go_ret
  exact ⟨rfl, bthen hW1 hb13⟩
end Go.Proofs.Ytcfblkmcaaaipaa
