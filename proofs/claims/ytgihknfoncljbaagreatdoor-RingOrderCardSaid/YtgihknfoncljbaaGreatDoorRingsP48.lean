/- New rings; whether a ring may be. -/
import Derived.Test.YtgihknfoncljbaaGreatDoorRingsP46
import Derived.Test.YtgihknfoncljbaaGreatDoorRingsP47
namespace Go.Proofs.YtgihknfoncljbaaGreatDoor
open Go Go.RowKit Go.Shelf Go.BigFrame Go.Maps
attribute [local go_sem] Oper.semAt_some
def isR (base n : Int) : Bool := decide (32 ≤ n ∧ n ≤ 65536 ∧ n % 8 = 0 ∧ base % 8 = 0 ∧ base ≤ 1099511627776 - n)
theorem tm8 (n : Int) (h : 32 ≤ n) : n.tmod 8 = n % 8 := Int.tmod_eq_emod_of_nonneg (by omega)
theorem tm8' (n : Int) (h : W64 n) : n.tmod 8 = n % 8 := Int.tmod_eq_emod_of_nonneg h.1
set_option maxHeartbeats 1000000 in
theorem new_any36 (_r g base n : Int) (rv : Value) (w : World) (hb : W64 base) (hr : ∃ a, rv = .pointer a) :
  Calls Tryz.prog 9 #[rv, .int .i64 g, .int .u64 base, .int .i64 n] w fun e w' =>
   (isR base n = false ∧ e = .returned (.pointer none) ∧ w' = w) ∨ (isR base n = true ∧ e = .returned (.pointer (some ⟨w.heap.size, 0, none⟩)) ∧ w' = w.alloc (.cells #[rv, .int .i64 g, .int .u64 base, .int .i64 n] 94)) := by
 obtain ⟨a, rfl⟩ := hr
 by_cases h1 : 32 ≤ n
 ·by_cases h2 : n ≤ 65536
  ·have e1 := tm8 n h1
   have e2 := tm8' base hb
   have e3 : IntKind.i64.wrap (n.tmod 8) = n % 8 := by rw [e1]; exact IntWalk.i64_in _ (by omega)
   have e4 : IntKind.u64.wrap (base.tmod 8) = base % 8 := by rw [e2]; exact IntWalk.u64_in _ (by have := hb.1; omega)
   have e5 : IntKind.u64.wrap n = n := IntWalk.u64_in _ (by omega)
   have e6 : IntKind.u64.wrap (1099511627776 - n) = 1099511627776 - n := IntWalk.u64_in _ (by omega)
   by_cases h3 : n % 8 = 0 <;> by_cases h4 : base % 8 = 0 <;> by_cases h5 : base ≤ 1099511627776 - n
   all_goals (
    go_enter Tryz.func9, Tryz.ntmps9
    go_wp2_with fail
    go_ret)
   all_goals first | exact .inl ⟨by simp [isR]; omega, rfl, rfl⟩ | exact .inr ⟨by simp [isR]; omega, rfl, rfl⟩
  ·replace h2 : 65536 < n := by omega
   go_enter Tryz.func9, Tryz.ntmps9
   go_wp2_with fail
   go_ret
   all_goals first | exact .inl ⟨by simp [isR]; omega, rfl, rfl⟩ | exact .inr ⟨by simp [isR]; omega, rfl, rfl⟩
 ·replace h1 : n < 32 := by omega
  go_enter Tryz.func9, Tryz.ntmps9
  go_wp2_with fail
  go_ret
  all_goals first | exact .inl ⟨by simp [isR]; omega, rfl, rfl⟩ | exact .inr ⟨by simp [isR]; omega, rfl, rfl⟩
end Go.Proofs.YtgihknfoncljbaaGreatDoor
/- A machine made new. -/
namespace Go.Proofs.YtgihknfoncljbaaGreatDoor
open Go Go.RowKit Go.Shelf Go.BigFrame Go.Maps
def manC (v : Value) : List Value := .int .u32 0 :: .int .u64 0 :: .int .u64 0 :: .int .u64 0 :: .int .i64 0 :: .int .u8 0 :: .int .u8 0 :: .int .u8 0 :: .int .u8 0 :: .int .u8 0 :: .int .u8 0 :: .int .u8 0 :: .int .u8 0 :: .int .u8 0 :: .int .u8 0 :: .int .u8 0 :: .int .u8 0 :: .int .u8 0 :: .int .u8 0 :: .int .u8 0 :: .int .u8 0 :: .int .u8 0 :: .int .u8 0 :: .int .u8 0 :: .int .u8 0 :: .int .u8 0 :: .int .u8 0 :: .int .u8 0 :: .int .u8 0 :: .int .u8 0 :: .int .u8 0 :: .int .u8 0 :: .int .u8 0 :: .int .u8 0 :: .int .u8 0 :: .int .u8 0 :: .int .u8 0 :: .int .u8 0 :: .int .u8 0 :: .int .u8 0 :: .int .u8 0 :: .int .u8 0 :: .int .u8 0 :: .int .u8 0 :: .int .u8 0 :: .int .u8 0 :: .int .u8 0 :: .int .u8 0 :: .int .u8 0 :: .int .u8 0 :: .int .u8 0 :: .int .u8 0 :: .int .u8 0 :: .int .u8 0 :: .int .u8 0 :: .int .u8 0 :: .int .u8 0 :: .int .u8 0 :: .int .u8 0 :: .int .u8 0 :: .int .u8 0 :: .int .u8 0 :: .int .u8 0 :: .int .u8 0 :: .int .u8 0 :: .int .u8 0 :: .int .u8 0 :: .int .u8 0 :: .int .u8 0 :: .slice none 0 0 :: v :: []
def RowSt (w : World) (gb : Nat) : Prop := ∀ j, j < 2 → ∀ i v, (StV.enc sts[j]!)[i]? = some v → w.cell? ⟨gb, 0 + j * 6 + i, none⟩ = some v
theorem infoSt : (Tryz.prog.info? 88).map (fun i => (i.zero, i.size, i.bytes)) = some (some (.agg #[.int .i64 0, .int .u32 0, .int .u64 0, .int .u64 0, .int .u64 0, .int .u32 0]), 6, 48) := by kernel_rfl
theorem sts_get (j u) (h : (sts.flatMap StV.enc)[j]? = some u) : ∃ a, a < 2 ∧ ∃ i, j = a * 6 + i ∧ (StV.enc sts[a]!)[i]? = some u := by
 have hj : j < 12 := by
  have := (List.getElem?_eq_some_iff.1 h).1
  exact Nat.lt_of_lt_of_eq this (by kernel_rfl)
 have e : sts.flatMap StV.enc = StV.enc sts[0]! ++ StV.enc sts[1]! := rfl
 have hl : (StV.enc sts[0]!).length = 6 := rfl
 rw [e] at h
 by_cases h6 : j < 6
 ·refine ⟨0, by omega, j, by omega, ?_⟩
  rw [List.getElem?_append_left (by omega)] at h
  exact h
 ·refine ⟨1, by omega, j - 6, by omega, ?_⟩
  rw [List.getElem?_append_right (by omega), hl] at h
  exact h
theorem sts_put (a i u) (ha : a < 2) (h : (StV.enc sts[a]!)[i]? = some u) : (sts.flatMap StV.enc)[a * 6 + i]? = some u := by
 have e : sts.flatMap StV.enc = StV.enc sts[0]! ++ StV.enc sts[1]! := rfl
 have hi : i < 6 := by
  have := (List.getElem?_eq_some_iff.1 h).1
  exact Nat.lt_of_lt_of_eq this (StV.enc_len _)
 have hl : (StV.enc sts[0]!).length = 6 := rfl
 rw [e]
 have : a = 0 ∨ a = 1 := by omega
 rcases this with rfl | rfl
 ·rw [List.getElem?_append_left (by omega)]; simpa using h
 ·rw [List.getElem?_append_right (by omega), hl]
  have e2 : 1 * 6 + i - 6 = i := by omega
  rw [e2]; exact h
theorem sts_leaf : ∀ u ∈ sts.flatMap StV.enc, u.oneCell' = true := by
 intro u hu
 obtain ⟨x, -, hu⟩ := List.mem_flatMap.1 hu
 unfold StV.enc at hu
 simp at hu
 rcases hu with rfl | rfl | rfl | rfl | rfl | rfl <;> rfl
theorem RowSt.of_owns {w : World} {B : Nat} {e : TypeId} {v : Value} (h : w.ownsRow B e 6 v 2 (sts.flatMap StV.enc)) : ∃ g cap, v = .slice (some ⟨g, 0, none⟩) 2 cap ∧ B ≤ g ∧ g < w.heap.size ∧ RowSt w g := by
 obtain ⟨hlen, ⟨rfl, h0⟩ | ⟨g, cap, cur, rfl, hb, hg, hn, hm, hs, hx⟩⟩ := h
 ·exact absurd h0 (by decide)
 ·refine ⟨g, cap, rfl, hb, (Array.getElem?_eq_some_iff.1 hg).1, ?_⟩
  intro a ha i u hu
  have h1 := sts_put a i u ha hu
  rw [← hx] at h1
  have h2 : cur.toList[a * 6 + i]? = some u := by
   rw [List.getElem?_take] at h1
   split at h1
   ·exact h1
   ·cases h1
  rw [Nat.zero_add]
  simp only [World.cell?, hg]
  simpa using h2
theorem clone_any (b c : Nat) (w : World) (hr : RowSt w b) :
  Calls Tryz.prog 53 #[.slice (some ⟨b, 0, none⟩) 2 c] w fun e w' => ∃ gb cap, e = .returned (.slice (some ⟨gb, 0, none⟩) 2 cap) ∧ w.heap.size ≤ gb ∧ gb < w'.heap.size ∧ RowSt w' gb ∧ Below w.heap.size w w' := by
 obtain ⟨i0, hi1, hi2⟩ := Option.map_eq_some_iff.1 infoSt
 rw [Prod.mk.injEq, Prod.mk.injEq] at hi2
 obtain ⟨hz1, hz2, hz3⟩ := hi2
 have h := AnyE.slices_Clone Tryz.cloneStarted i0 _ 6 48 hi1 hz1 hz2 hz3 rfl (by decide) Tryz.sizeOf88 b 0 2 c (sts.flatMap StV.enc) w (by kernel_rfl) (by decide) (by decide) ?_ sts_leaf
 ·refine h.mono ?_; rintro e w' ⟨v', rfl, ho, -, hb⟩
  obtain ⟨g, cap, rfl, h1, h2, h3⟩ := RowSt.of_owns ho
  exact ⟨g, cap, rfl, h1, h2, h3, hb⟩
 ·intro j u hu
  obtain ⟨a, ha, i, rfl, hq⟩ := sts_get j u hu
  have := hr a ha i u hq
  simpa using this
theorem runAt_new (W4 : World) (mb gb cap pd n : Nat) (C : Array Value) (T : TypeId) (hn : W4.heap.size = n) (h0 : C[0]? = some (.pointer (some ⟨mb, 0, none⟩))) (h71 : C[71]? = some (.slice (some ⟨gb, 0, none⟩) 2 cap)) (h72 : C[72]? = some (.map (some pd))) (hr : RowSt W4 gb) (hg : gb < W4.heap.size) :
  RunAt (W4.alloc (.cells C T)) n mb gb cap pd := by
 subst hn
 have h := World.alloc_heap_new W4 (.cells C T)
 have hb := bone W4 (.cells C T)
 refine ⟨?_, ?_, ?_, fun j hj i v hv => (hb.cell (p := ⟨gb, _, none⟩) hg).trans (hr j hj i v hv), by simp, Nat.lt_of_lt_of_le hg hb.size⟩
 ·simp only [World.cell?, h]; exact h0
 ·simp only [World.cell?, h]; exact h71
 ·simp only [World.cell?, h]; exact h72
theorem set_at {w : World} {b i : Nat} {C : Array Value} {T : TypeId} {u : Value} (h : w.heap[b]? = some (.cells C T (0, 0))) : (w.setCell ⟨b, i, none⟩ u).heap[b]? = some (.cells (C.setIfInBounds i u) T (0, 0)) := by
 have hb := (Array.getElem?_eq_some_iff.1 h)
 obtain ⟨h1, h2⟩ := hb
 simp [World.setCell, h1, Array.getElem_modify, h2]
set_option maxRecDepth 20000 in
set_option maxHeartbeats 2000000 in
theorem runNew_any (mb b c : Nat) (w : World) (hr : RowSt w b) (hb0 : b < w.heap.size) :
  Calls Tryz.prog 24 #[.pointer (some ⟨mb, 0, none⟩), .agg (manC (.slice (some ⟨b, 0, none⟩) 2 c)).toArray] w fun e w' => ∃ rb gb cap pd, e = .returned (.pointer (some ⟨rb, 0, none⟩)) ∧ RunAt w' rb mb gb cap pd ∧ w.heap.size ≤ rb ∧ w.heap.size ≤ gb ∧ Below w.heap.size w w' := by
 have hc := fun W h => clone_any b c W h
 have hmm := @run_makeMap Tryz.prog
 have hbb := fun o => bone w o
 unfold manC
 go_enter Tryz.func24, Tryz.ntmps24
 go_wp2_with fail
 have hr2 : RowSt (w.alloc (.cells (manC (.slice (some ⟨b, 0, none⟩) 2 c)).toArray 77)) b := fun j hj i v hv => ((hbb _).cell (p := ⟨b, _, none⟩) hb0).trans (hr j hj i v hv)
 have hn2 := World.alloc_heap_new w (.cells (manC (.slice (some ⟨b, 0, none⟩) 2 c)).toArray 77)
 have hb2 := hbb (.cells (manC (.slice (some ⟨b, 0, none⟩) 2 c)).toArray 77)
 have hs2 : (w.alloc (.cells (manC (.slice (some ⟨b, 0, none⟩) 2 c)).toArray 77)).heap.size = w.heap.size + 1 := by simp
 unfold manC at hr2 hn2 hb2 hs2
 generalize w.alloc _ = W2 at *
 refine (hc W2 hr2).mono ?_; rintro e w3 ⟨gb, cap, rfl, hg1, hg2, hg3, hb3⟩
 have hz2 : w.heap.size < W2.heap.size := by omega
 have hn3 := (hb3.block _ hz2).trans hn2
 clear hn2 hr2 hs2 hc
 have hcell : w3.cell? ⟨w.heap.size, 70, none⟩ = some (.slice (some ⟨b, 0, none⟩) 2 c) := by simp only [World.cell?, hn3]; rfl
 have hfz : w3.frozen? ⟨w.heap.size, 70, none⟩ = false := by simp only [World.frozen?, hn3]; rfl
 have hn4 : (w3.setCell ⟨w.heap.size, 70, none⟩ (.slice (some ⟨gb, 0, none⟩) 2 cap)).heap[w.heap.size]? = some (.cells (manC (.slice (some ⟨gb, 0, none⟩) 2 cap)).toArray 77 (0, 0)) := set_at hn3
 have hb4 : Below w.heap.size w3 (w3.setCell ⟨w.heap.size, 70, none⟩ (.slice (some ⟨gb, 0, none⟩) 2 cap)) := Below.setCell (Below.refl w.heap.size w3) (p := ⟨w.heap.size, 70, none⟩) (Nat.le_refl _) _
 have hg4 : RowSt (w3.setCell ⟨w.heap.size, 70, none⟩ (.slice (some ⟨gb, 0, none⟩) 2 cap)) gb := by
  have e := Below.heap_setCell w3 ⟨w.heap.size, 70, none⟩ (.slice (some ⟨gb, 0, none⟩) 2 cap) gb (by simp; omega)
  intro j hj i v hv
  have := hg3 j hj i v hv
  simp only [World.cell?, e] at this ⊢
  exact this
 have hs4 : (w3.setCell ⟨w.heap.size, 70, none⟩ (.slice (some ⟨gb, 0, none⟩) 2 cap)).heap.size = w3.heap.size := by simp
 have hra : (w3.setCell ⟨w.heap.size, 70, none⟩ (.slice (some ⟨gb, 0, none⟩) 2 cap)).rangeAt w.heap.size 0 (manC (.slice (some ⟨gb, 0, none⟩) 2 cap)) := fun j v hv => by
   simp only [World.cell?, hn4]
   simpa using hv
 have hsz : (Tryz.prog.info? 77).map (·.size) = some (manC (.slice (some ⟨gb, 0, none⟩) 2 cap)).length := by kernel_rfl
 clear hn3 hn4
 replace hra := Lib.hid hra
 replace hsz := Lib.hid hsz
 replace hb3 := hb2.trans (hb3.mono (by omega))
 clear hb2
 go_upto_region 999 with (refine wpList_load_mid rfl 77 _ rfl w.heap.size 0 rfl _ _ hra.out Tryz.underlying77 rfl hsz.out ?_; unfold manC; simp only [List.size_toArray])
 go_ret
 refine ⟨w3.heap.size + 1, gb, cap, w3.heap.size, by kernel_rfl, ?_, by have := hb3.size; omega, by omega, ?_⟩
 ·refine runAt_new _ mb gb cap w3.heap.size _ _ _ (by simp) ?_ ?_ ?_ (fun j hj i v hv => ((bone _ _).cell (p := ⟨gb, _, none⟩) (by rw [hs4]; exact hg2)).trans (hg4 j hj i v hv)) (by simp; omega)
  ·kernel_rfl
  ·kernel_rfl
  ·kernel_rfl
 refine ((hb3.trans hb4).trans ((bone _ _).mono ?_)).trans ((bone _ _).mono ?_)
 ·have := hb3.size; rw [hs4]; exact this
 ·have := hb3.size; simp; omega
end Go.Proofs.YtgihknfoncljbaaGreatDoor
/- Two machines side by side: the program's and the document's. -/
namespace Go.Proofs.YtgihknfoncljbaaGreatDoor
open Go Go.RowKit Go.Shelf Go.BigFrame Go.Maps
structure TwoM (W : World) (B : Nat) (O : List Nat) (mb pb fb : Nat) (vu : Value) (L : List Pg) (pl : Pl) (pg : PG) (rb C : Nat) (pv vr : Value) (L2 : List Pg) (U : List Int) (pl0 : Pl) : Prop where
 m : MPl W B mb pb fb vu 1073741824 1048576 L pl pg
 r : RM W B rb C pv vr L2 U pl0
 d : ∀ b ∈ mplBlks mb pb fb vu L, b ∉ refAll rb pv L2 C vr
 o : ∀ b ∈ O, b < W.heap.size ∧ b ∉ mplBlks mb pb fb vu L ∧ b ∉ refAll rb pv L2 C vr
section
variable {W W' : World} {B mb pb fb rb C : Nat} {O : List Nat} {vu vu' pv pv' vr vr' : Value} {L L' L2 L2' : List Pg} {pl pl' pl0 pl0' : Pl} {pg pg' : PG} {U U' : List Int}
theorem TwoM.same (h : TwoM W B O mb pb fb vu L pl pg rb C pv vr L2 U pl0) (hz : W.heap.size ≤ W'.heap.size) (h1 : ∀ b, b < W.heap.size → b ∉ O → W'.heap[b]? = W.heap[b]?) : TwoM W' B O mb pb fb vu L pl pg rb C pv vr L2 U pl0 :=
 ⟨h.m.same fun b hb => h1 b (h.m.lt b hb).2 fun e => (h.o b e).2.1 hb, h.r.same fun b hb => h1 b (h.r.lt b hb) fun e => (h.o b e).2.2 hb, h.d, fun b hb => ⟨Nat.lt_of_lt_of_le (h.o b hb).1 hz, (h.o b hb).2⟩⟩
theorem TwoM.later (h : TwoM W B O mb pb fb vu L pl pg rb C pv vr L2 U pl0) (hb : Below W.heap.size W W') : TwoM W' B O mb pb fb vu L pl pg rb C pv vr L2 U pl0 :=
 h.same hb.size fun b hl _ => hb.block b hl
theorem TwoM.fresh (h : TwoM W B O mb pb fb vu L pl pg rb C pv vr L2 U pl0) {b : Nat} (hb : W.heap.size ≤ b) : b ∉ mplBlks mb pb fb vu L ∧ b ∉ refAll rb pv L2 C vr :=
 ⟨fun e => by have := (h.m.lt b e).2; omega, fun e => by have := h.r.lt b e; omega⟩
theorem TwoM.outs (h : TwoM W B O mb pb fb vu L pl pg rb C pv vr L2 U pl0) {O' : List Nat} (hs : ∀ b ∈ O', b ∈ O ∨ (b < W.heap.size ∧ b ∉ mplBlks mb pb fb vu L ∧ b ∉ refAll rb pv L2 C vr)) : TwoM W B O' mb pb fb vu L pl pg rb C pv vr L2 U pl0 :=
 ⟨h.m, h.r, h.d, fun b hb => (hs b hb).elim (h.o b) id⟩
theorem TwoM.built (h : TwoM W B O mb pb fb vu L pl pg rb C pv vr L2 U pl0) (hm : MPl W' B mb pb fb vu' 1073741824 1048576 L' pl' pg') (ht : MTurn B mb pb fb vu L vu' L' W W') :
  TwoM W' B O mb pb fb vu' L' pl' pg' rb C pv vr L2 U pl0 ∧ (∀ b ∈ O, W'.heap[b]? = W.heap[b]?) := by
 have hz := ht.off.below.size
 refine ⟨⟨hm, h.r.same fun b hb => ht.off.rest b (h.r.lt b hb) fun e => h.d b e hb, fun b hb e => ?_, fun b hb => ⟨Nat.lt_of_lt_of_le (h.o b hb).1 hz, fun e => ?_, (h.o b hb).2.2⟩⟩, fun b hb => ht.off.rest b (h.o b hb).1 (h.o b hb).2.1⟩
 ·rcases ht.blks b hb with hb | hb
  ·exact h.d b hb e
  ·have := h.r.lt b e; omega
 ·rcases ht.blks b e with e | e
  ·exact (h.o b hb).2.1 e
  ·have := (h.o b hb).1; omega
theorem TwoM.refBuilt (h : TwoM W B O mb pb fb vu L pl pg rb C pv vr L2 U pl0) (hr : RM W' B rb C pv' vr' L2' U' pl0') (ht : RTurn B (refAll rb pv L2 C vr) (refAll rb pv' L2' C vr') W W') :
  TwoM W' B O mb pb fb vu L pl pg rb C pv' vr' L2' U' pl0' ∧ (∀ b ∈ O, W'.heap[b]? = W.heap[b]?) := by
 have hz := ht.off.below.size
 refine ⟨⟨h.m.same fun b hb => ht.off.rest b (h.m.lt b hb).2 (h.d b hb), hr, fun b hb e => ?_, fun b hb => ⟨Nat.lt_of_lt_of_le (h.o b hb).1 hz, (h.o b hb).2.1, fun e => ?_⟩⟩, fun b hb => ht.off.rest b (h.o b hb).1 (h.o b hb).2.2⟩
 ·rcases ht.blks b e with e | e
  ·exact h.d b hb e
  ·have := (h.m.lt b hb).2; omega
 ·rcases ht.blks b e with e | e
  ·exact (h.o b hb).2.2 e
  ·have := (h.o b hb).1; omega
theorem TwoM.start (hm : MPl W B mb pb fb vu 1073741824 1048576 L pl pg) (hr : RM W B rb C pv vr L2 U pl0) (hd : ∀ b ∈ mplBlks mb pb fb vu L, b ∉ refAll rb pv L2 C vr) : TwoM W B [] mb pb fb vu L pl pg rb C pv vr L2 U pl0 :=
 ⟨hm, hr, hd, by simp⟩
end
structure MS (w W : World) (B base xb yb : Nat) (vx vy : Value) (n m : Nat) (xs ys : List Value) (mb pb fb : Nat) (vu : Value) (L : List Pg) (pl : Pl) (pg : PG) (rb C : Nat) (pv vr : Value) (L2 : List Pg) (U : List Int) (pl0 : Pl) : Prop where
 t : TwoM W B (xb :: yb :: (vx.ownBlock.toList ++ vy.ownBlock.toList)) mb pb fb vu L pl pg rb C pv vr L2 U pl0
 x : W.heap[xb]? = some (.cells (manC vx).toArray 77 (0, 0))
 y : W.heap[yb]? = some (.cells (manC vy).toArray 77 (0, 0))
 rx : W.ownsRow base 88 6 vx n xs
 ry : W.ownsRow base 88 6 vy m ys
 ne : ∀ k, vx.ownBlock = some k → vy.ownBlock ≠ some k
 lt : xb ≠ yb ∧ xb < base ∧ yb < base ∧ base ≤ W.heap.size
 lo : w.heap.size ≤ B ∧ w.heap.size ≤ xb ∧ w.heap.size ≤ yb
 bw : Below w.heap.size w W
section
variable {w W W' : World} {B base xb yb mb pb fb rb C n m n' : Nat} {vx vy v' vu vu' pv pv' vr vr' : Value} {xs ys xs' : List Value} {L L' L2 L2' : List Pg} {pl pl' pl0 pl0' : Pl} {pg pg' : PG} {U U' : List Int}
theorem mem_outs {vx vy : Value} {xb yb b : Nat} : b ∈ xb :: yb :: (vx.ownBlock.toList ++ vy.ownBlock.toList) ↔ b = xb ∨ b = yb ∨ vx.ownBlock = some b ∨ vy.ownBlock = some b := by
 simp only [List.mem_cons, List.mem_append, Option.mem_toList]
theorem MS.kept (h : MS w W B base xb yb vx vy n m xs ys mb pb fb vu L pl pg rb C pv vr L2 U pl0) (ht : TwoM W' B (xb :: yb :: (vx.ownBlock.toList ++ vy.ownBlock.toList)) mb pb fb vu' L' pl' pg' rb C pv' vr' L2' U' pl0') (hk : ∀ b ∈ xb :: yb :: (vx.ownBlock.toList ++ vy.ownBlock.toList), W'.heap[b]? = W.heap[b]?) (hb : Below w.heap.size W W') :
  MS w W' B base xb yb vx vy n m xs ys mb pb fb vu' L' pl' pg' rb C pv' vr' L2' U' pl0' :=
 ⟨ht, (hk xb (mem_outs.2 (.inl rfl))).trans h.x, (hk yb (mem_outs.2 (.inr (.inl rfl)))).trans h.y, ownsRow_eq h.rx fun r e => hk r (mem_outs.2 (.inr (.inr (.inl e)))), ownsRow_eq h.ry fun r e => hk r (mem_outs.2 (.inr (.inr (.inr e)))), h.ne, ⟨h.lt.1, h.lt.2.1, h.lt.2.2.1, Nat.le_trans h.lt.2.2.2 hb.size⟩, h.lo, h.bw.trans hb⟩
theorem MS.later (h : MS w W B base xb yb vx vy n m xs ys mb pb fb vu L pl pg rb C pv vr L2 U pl0) (hb : Below W.heap.size W W') : MS w W' B base xb yb vx vy n m xs ys mb pb fb vu L pl pg rb C pv vr L2 U pl0 :=
 h.kept (h.t.later hb) (fun b hm => hb.block b (h.t.o b hm).1) (hb.mono h.bw.size)
theorem MS.built (h : MS w W B base xb yb vx vy n m xs ys mb pb fb vu L pl pg rb C pv vr L2 U pl0) (hm : MPl W' B mb pb fb vu' 1073741824 1048576 L' pl' pg') (ht : MTurn B mb pb fb vu L vu' L' W W') : MS w W' B base xb yb vx vy n m xs ys mb pb fb vu' L' pl' pg' rb C pv vr L2 U pl0 :=
 h.kept (h.t.built hm ht).1 (h.t.built hm ht).2 (ht.off.below.mono h.lo.1)
theorem MS.refBuilt (h : MS w W B base xb yb vx vy n m xs ys mb pb fb vu L pl pg rb C pv vr L2 U pl0) (hr : RM W' B rb C pv' vr' L2' U' pl0') (ht : RTurn B (refAll rb pv L2 C vr) (refAll rb pv' L2' C vr') W W') : MS w W' B base xb yb vx vy n m xs ys mb pb fb vu L pl pg rb C pv' vr' L2' U' pl0' :=
 h.kept (h.t.refBuilt hr ht).1 (h.t.refBuilt hr ht).2 (ht.off.below.mono h.lo.1)
theorem MS.swap (h : MS w W B base xb yb vx vy n m xs ys mb pb fb vu L pl pg rb C pv vr L2 U pl0) : MS w W B base yb xb vy vx m n ys xs mb pb fb vu L pl pg rb C pv vr L2 U pl0 :=
 ⟨h.t.outs fun b hb => .inl (by rw [mem_outs] at hb ⊢; rcases hb with e | e | e | e <;> simp [e]), h.y, h.x, h.ry, h.rx, fun k e1 e2 => h.ne k e2 e1, ⟨fun e => h.lt.1 e.symm, h.lt.2.2.1, h.lt.2.1, h.lt.2.2.2⟩, ⟨h.lo.1, h.lo.2.2, h.lo.2.1⟩, h.bw⟩
theorem owns_lo {W : World} {base : Nat} {E : TypeId} {s n : Nat} {v : Value} {xs : List Value} (h : W.ownsRow base E s v n xs) {k : Nat} (hk : v.ownBlock = some k) : base ≤ k ∧ k < W.heap.size := World.ownsRow.lt h k hk
theorem MS.app (h : MS w W B base xb yb vx vy n m xs ys mb pb fb vu L pl pg rb C pv vr L2 U pl0) (ho : W'.ownsRow base 88 6 v' n' xs') (hg : W.grownBy W' vx.ownBlock) (hv : v'.ownBlock = vx.ownBlock ∨ v'.ownBlock = some W.heap.size) :
  MS w (W'.setCell ⟨xb, 70, none⟩ v') B base xb yb v' vy n' m xs' ys mb pb fb vu L pl pg rb C pv vr L2 U pl0 := by
 obtain ⟨l1, l2, l3, l4⟩ := h.lt
 have hz : W.heap.size ≤ W'.heap.size := hg.size
 have hrow : ∀ k, vx.ownBlock = some k → base ≤ k ∧ k < W.heap.size := fun k e => owns_lo h.rx e
 have hrow' : ∀ k, v'.ownBlock = some k → base ≤ k ∧ k < W'.heap.size := fun k e => owns_lo ho e
 have hrowy : ∀ k, vy.ownBlock = some k → base ≤ k ∧ k < W.heap.size := fun k e => owns_lo h.ry e
 have hs : ∀ b, b ≠ xb → (W'.setCell ⟨xb, 70, none⟩ v').heap[b]? = W'.heap[b]? := fun b hb => Below.heap_setCell _ _ _ _ (by simpa using hb)
 have hk : ∀ b, b < W.heap.size → b ≠ xb → vx.ownBlock ≠ some b → (W'.setCell ⟨xb, 70, none⟩ v').heap[b]? = W.heap[b]? := fun b h1 h2 h3 => (hs b h2).trans (hg.block b h1 fun e => h3 e.symm)
 have hx' : W'.heap[xb]? = some (.cells (manC vx).toArray 77 (0, 0)) := (hg.block xb (by omega) fun e => by have := hrow xb e.symm; omega).trans h.x
 have hzz : (W'.setCell ⟨xb, 70, none⟩ v').heap.size = W'.heap.size := by simp
 refine ⟨?_, ?_, ?_, ?_, ?_, ?_, ⟨l1, l2, l3, by omega⟩, h.lo, ?_⟩
 ·have t1 := h.t.same (W' := W'.setCell ⟨xb, 70, none⟩ v') (by omega) fun b h1 h2 => hk b h1 (fun e => h2 (mem_outs.2 (.inl e))) fun e => h2 (mem_outs.2 (.inr (.inr (.inl e))))
  refine t1.outs fun b hb => ?_
  rcases mem_outs.1 hb with e | e | e | e
  ·exact .inl (mem_outs.2 (.inl e))
  ·exact .inl (mem_outs.2 (.inr (.inl e)))
  ·rcases hv with hv | hv
   ·exact .inl (mem_outs.2 (.inr (.inr (.inl (hv.symm.trans e)))))
   ·have eb : W.heap.size = b := by rw [hv] at e; exact Option.some.inj e
    have := h.t.fresh (b := b) (by omega)
    have h5 := (hrow' b e).2
    exact .inr ⟨by omega, this⟩
  ·exact .inl (mem_outs.2 (.inr (.inr (.inr e))))
 ·exact set_at hx'
 ·exact (hk yb (by omega) (fun e => l1 e.symm) fun e => by have := hrow yb e; omega).trans h.y
 ·exact ownsRow_eq ho fun r e => hs r (by have := hrow' r e; omega)
 ·exact ownsRow_eq h.ry fun r e => hk r (hrowy r e).2 (by have := hrowy r e; omega) fun e2 => h.ne r e2 e
 ·intro k e1 e2
  rcases hv with hv | hv
  ·exact h.ne k (hv.symm.trans e1) e2
  ·have eb : W.heap.size = k := by rw [hv] at e1; exact Option.some.inj e1
   have := hrowy k e2; omega
 ·exact (h.bw.grown hg h.bw.size fun k e => by have := hrow k e; have := h.lo; omega).setCell (by have := h.lo; simp; omega) _
end
set_option maxHeartbeats 1000000 in
theorem maps_any36 (g perm : Int) (hg : g = 0 ∨ g = 1) (w : World) :
  Calls Tryz.prog 19 #[.int .i64 g, .int .i64 perm] w fun e w' => e = .returned (.slice (some ⟨w.heap.size, 0, none⟩) 1 1) ∧ RowM w' (.slice (some ⟨w.heap.size, 0, none⟩) 1 1) [mapN g perm hg] ∧ w.heap.size < w'.heap.size ∧ Below w.heap.size w w' := by
 have hm : mapN g perm hg = ⟨65536 + 32768 * g, 1074266112, 4096, perm, 0, by unfold W64; omega, by unfold W64; omega, by unfold W64; omega⟩ := rfl
 have key : ∀ (a : Int), a = 65536 + 32768 * g → ∀ (o : Obj), o = .cells #[.int .u64 a, .int .u64 1074266112, .int .u64 4096, .int .i64 perm, .int .i64 0] 126 → RowM (w.alloc o) (.slice (some ⟨w.heap.size, 0, none⟩) 1 1) [mapN g perm hg] := by
  rintro a ha o rfl
  refine ⟨_, 1, rfl, by simp, fun _ => ⟨w.heap.size, 0, rfl, by simp, fun i hi => ?_⟩⟩
  obtain rfl : i = 0 := by simp at hi; omega
  have hn := World.alloc_heap_new w (.cells #[.int .u64 a, .int .u64 1074266112, .int .u64 4096, .int .i64 perm, .int .i64 0] 126)
  refine ⟨?_, ?_, ?_, ?_, ?_⟩ <;> simp only [World.cell?, hn] <;> simp [hm, ha]
 have hb := fun o => bone w o
 have hz : ∀ o, w.heap.size < (w.alloc o).heap.size := fun o => by simp
 rcases hg with rfl | rfl
 all_goals (
  go_enter Tryz.func19, Tryz.ntmps19
  go_wp2_with fail
  go_ret
  exact ⟨rfl, key _ (by decide) _ rfl, hz _, hb _⟩)
end Go.Proofs.YtgihknfoncljbaaGreatDoor
/- The start of two machines; rows of guests that are appended to. -/
namespace Go.Proofs.YtgihknfoncljbaaGreatDoor
open Go Go.RowKit Go.Shelf Go.BigFrame Go.Maps
theorem start_two {w1 w2 w3 : World} {B mb pb fb rb : Nat} {L L2 : List Pg} {pv : Value} (hm : MemP w1 mb pb 1073741824 1048576 L) (hmb : ∀ b ∈ memBlks mb pb L, B ≤ b) (hb2 : Below w1.heap.size w1 w2) (hr : MemR w2 rb pv 1073741824 1048576 L2) (hrb : ∀ b ∈ refBlks rb pv L2, w1.heap.size ≤ b)
  (hb3 : Below w2.heap.size w2 w3) (hf : PoolAt w3 fb (.slice none 0 0) (newV (tw 1073741824 131072))) (hfb : w2.heap.size ≤ fb) (hB : B ≤ w1.heap.size) :
  TwoM (w3.alloc (.cells #[.int .u64 1073741824, .int .u64 131072, .slice none 0 0] 69)) B [] mb pb fb (.slice none 0 0) L (plN 0) (L.map Pg.ab) rb w3.heap.size pv (.slice none 0 0) L2 [] (plN 0) := by
 have hz2 := hb2.size
 have hz3 := hb3.size
 have hfl := hf.lt
 have hb4 := bone w3 (.cells #[.int .u64 1073741824, .int .u64 131072, .slice none 0 0] 69)
 have hnew := World.alloc_heap_new w3 (.cells #[.int .u64 1073741824, .int .u64 131072, .slice none 0 0] 69)
 have hml := hm.lt
 have hrl := hr.lt
 have hno : ∀ b : Nat, (Value.slice none 0 0).ownBlock ≠ some b := fun b e => nomatch e
 rw [pool_new] at hf
 refine TwoM.start ⟨(hm.below hb2 (Nat.le_refl _)).below (hb3.trans (hb4.mono hz3)) (Nat.le_refl _), rfl, hf.below hb4, fun b hb => ⟨?_, hno b⟩, ⟨by omega, hmb⟩, fun b e => absurd e (hno b)⟩
  ⟨hr.below (hb3.trans (hb4.mono hz3)) (Nat.le_refl _), ⟨hnew, World.ownsRow_nil _ _ _ _⟩, by rw [← pool_new]; exact RefInv.new _, by rw [← pool_new]; exact (newV_ok _).1, ⟨rfl, rfl⟩, fun b hb => ?_, fun b hb => ⟨?_, hno b⟩, by decide⟩ fun b hb e => ?_
 ·have := hml b hb; omega
 ·rcases mem_refAll.1 hb with rfl | hb | hb
  ·omega
  ·exact absurd hb (hno b)
  ·have := hrb b hb; omega
 ·have := hrl b hb; omega
 ·rcases mem_mpl.1 hb with rfl | hb | hb
  ·rcases mem_refAll.1 e with e | e | e
   ·omega
   ·exact hno _ e
   ·have := hrl _ e; omega
  ·exact hno _ hb
  ·have h1 := hml b hb
   rcases mem_refAll.1 e with e | e | e
   ·omega
   ·exact hno _ e
   ·have := hrb _ e; omega
theorem zMan_info : (Tryz.prog.info? 77).map (fun i => (i.zero, i.size)) = some (some (.agg (manC (.slice none 0 0)).toArray), 71) := by kernel_rfl
theorem ask_junk (n : Nat) (h : n ≤ 300) : askV 1073741824 1048576 1074266112 n = 0 := by
 unfold askV
 rw [if_neg (by omega), if_neg]
 rintro ⟨h1, h2⟩
 rw [withinB_of h1 (by omega) (by omega) (by omega) (by omega) (by omega) (by omega)] at h2
 cases h2
theorem MS.start {w W0 : World} {B mb pb fb rb C : Nat} {vu pv vr : Value} {L L2 : List Pg} {pl pl0 : Pl} {pg : PG} {U : List Int} (h : TwoM W0 B [] mb pb fb vu L pl pg rb C pv vr L2 U pl0) (hB : w.heap.size ≤ B) (hb : Below w.heap.size w W0) :
  MS w ((W0.alloc (.cells (manC (.slice none 0 0)).toArray 77)).alloc (.cells (manC (.slice none 0 0)).toArray 77)) B (W0.heap.size + 2) W0.heap.size (W0.heap.size + 1) (.slice none 0 0) (.slice none 0 0) 0 0 [] [] mb pb fb vu L pl pg rb C pv vr L2 U pl0 := by
 have hz := hb.size
 have b1 := bone W0 (.cells (manC (.slice none 0 0)).toArray 77)
 have n1 := World.alloc_heap_new W0 (.cells (manC (.slice none 0 0)).toArray 77)
 have z1 : (W0.alloc (.cells (manC (.slice none 0 0)).toArray 77)).heap.size = W0.heap.size + 1 := by simp
 generalize W0.alloc (.cells (manC (.slice none 0 0)).toArray 77) = W1 at *
 have b2 := bone W1 (.cells (manC (.slice none 0 0)).toArray 77)
 have n2 := World.alloc_heap_new W1 (.cells (manC (.slice none 0 0)).toArray 77)
 have z2 : (W1.alloc (.cells (manC (.slice none 0 0)).toArray 77)).heap.size = W0.heap.size + 2 := by simp [z1]
 generalize W1.alloc (.cells (manC (.slice none 0 0)).toArray 77) = W2 at *
 rw [z1] at n2
 have hbb : Below W0.heap.size W0 W2 := b1.trans (b2.mono (by omega))
 have t2 := h.later hbb
 have no : ∀ k : Nat, (Value.slice none 0 0).ownBlock ≠ some k := fun k e => nomatch e
 refine ⟨t2.outs fun b hm => ?_, (b2.block _ (by omega)).trans n1, n2, World.ownsRow_nil _ _ _ _, World.ownsRow_nil _ _ _ _, fun k e => absurd e (no k), ⟨by omega, by omega, by omega, by omega⟩, ⟨hB, hz, by omega⟩, hb.trans (hbb.mono hz)⟩
 rcases mem_outs.1 hm with e | e | e | e
 ·exact .inr ⟨by omega, h.fresh (by omega)⟩
 ·exact .inr ⟨by omega, h.fresh (by omega)⟩
 ·exact absurd e (no b)
 ·exact absurd e (no b)
theorem RowM.same {w w' : World} {b o c : Nat} {l : List M5} {n : Nat} (h : RowM w (.slice (some ⟨b, o, none⟩) n c) l) (hs : w'.heap[b]? = w.heap[b]?) : RowM w' (.slice (some ⟨b, o, none⟩) n c) l := by
 obtain ⟨a, cap, h1, hc, h2⟩ := h
 refine ⟨a, cap, h1, hc, fun hl => ?_⟩
 obtain ⟨b', off, rfl, hlt, hcell⟩ := h2 hl
 simp only [Value.slice.injEq, Option.some.injEq, Addr.mk.injEq] at h1
 obtain ⟨⟨rfl, rfl, _⟩, _⟩ := h1
 refine ⟨b, o, rfl, ?_, fun i hi => ?_⟩
 ·have := (Array.getElem?_eq_some_iff.1 (hs.trans (Array.getElem?_eq_getElem hlt))).1
  exact this
 ·have := hcell i hi
  simp only [World.cell?, hs]
  simpa only [World.cell?] using this
section
variable {w W : World} {B base xb yb mb pb fb rb C n m : Nat} {vx vy vu pv vr : Value} {xs ys : List Value} {L L2 : List Pg} {pl pl' pl0 : Pl} {pg pg' : PG} {U : List Int}
theorem MS.build (h : MS w W B base xb yb vx vy n m xs ys mb pb fb vu L pl pg rb C pv vr L2 U pl0) (hpl : PlOk pl ∧ PlInv pl ∧ pl.from' = 1073741824 ∧ pl.count = 32 ∧ pl.used.length ≤ 1) {M : M5} {tb : List ((Int × Int) × Int)} {rt : Int}
  (hbs : buildS 1073741824 1048576 [M] pl pg = (⟨pl', pg', tb⟩, rt, 0)) (hal : (allP [M]).length ≤ 1) {b : Nat} (hrow : RowM W (.slice (some ⟨b, 0, none⟩) 1 1) [M]) (hbl : b < W.heap.size) (hb1 : b ∉ mplBlks mb pb fb vu L) :
  Calls Tryz.prog 20 #[.pointer (some ⟨mb, 0, none⟩), .pointer (some ⟨fb, 0, none⟩), .slice (some ⟨b, 0, none⟩) 1 1] W fun e W' => ∃ vu' L', e = .returned (.tuple #[.int .u64 rt, .int .i64 0]) ∧ MS w W' B base xb yb vx vy n m xs ys mb pb fb vu' L' pl' pg' rb C pv vr L2 U pl0 ∧ W'.heap[b]? = W.heap[b]? ∧ W.heap.size ≤ W'.heap.size := by
 have hh := build_off h.t.m hpl.1 hpl.2.1 (by rw [hpl.2.2.1, hpl.2.2.2.1]; omega) (.slice (some ⟨b, 0, none⟩) 1 1) [M] hrow (fun b' o n c e _ => by
  simp only [Value.slice.injEq, Option.some.injEq, Addr.mk.injEq] at e
  obtain ⟨⟨rfl, _⟩, _⟩ := e
  exact hb1) (by simp) (fun _ => by have := hpl.2.2.2.2; omega)
 rw [hbs] at hh
 refine hh.mono ?_; rintro e W' ⟨vu', L', rfl, hm, ht⟩
 exact ⟨vu', L', rfl, h.built hm ht, ht.off.rest b hbl hb1, ht.off.below.size⟩
theorem MS.refBuild0 (h : MS w W B base xb yb vx vy n m xs ys mb pb fb vu L pl pg rb C pv vr L2 U (plN 0)) {p : Int} (hp : p = 1 ∨ p = 3) (hl : L2.length ≤ 400) {b : Nat} (hrow : RowM W (.slice (some ⟨b, 0, none⟩) 1 1) [map0 p]) (hbl : b < W.heap.size) (hb1 : b ∉ refAll rb pv L2 C vr) :
  Calls Tryz.prog 21 #[.pointer (some ⟨rb, 0, none⟩), .pointer (some ⟨C, 0, none⟩), .slice (some ⟨b, 0, none⟩) 1 1] W fun e W' => ∃ pv' vr' L2' U', e = .returned (.tuple #[.int .u64 (rootN 0), .int .i64 0]) ∧ MS w W' B base xb yb vx vy n m xs ys mb pb fb vu L pl pg rb C pv' vr' L2' U' (plN 4) ∧ L2'.length ≤ 440 := by
 refine (Go.Proofs.YtgihknfoncljbaaGreatDoor.refBuild0 h.t.r p hp 400 hl (by omega) b 0 1 hbl hb1 hrow).mono ?_
 rintro e W' ⟨pv2, vr2, L22, U2, rfl, h1, h2, h3⟩
 exact ⟨pv2, vr2, L22, U2, rfl, h.refBuilt h1 h2, h3⟩
theorem MS.refBuild1 (h : MS w W B base xb yb vx vy n m xs ys mb pb fb vu L pl pg rb C pv vr L2 U (plN 4)) {p : Int} (hp : p = 1 ∨ p = 3) (hl : L2.length ≤ 440) {b : Nat} (hrow : RowM W (.slice (some ⟨b, 0, none⟩) 1 1) [map1 p]) (hbl : b < W.heap.size) (hb1 : b ∉ refAll rb pv L2 C vr) :
  Calls Tryz.prog 21 #[.pointer (some ⟨rb, 0, none⟩), .pointer (some ⟨C, 0, none⟩), .slice (some ⟨b, 0, none⟩) 1 1] W fun e W' => ∃ pv' vr' L2' U', e = .returned (.tuple #[.int .u64 (rootN 1), .int .i64 0]) ∧ MS w W' B base xb yb vx vy n m xs ys mb pb fb vu L pl pg rb C pv' vr' L2' U' (plN 8) ∧ L2'.length ≤ 480 := by
 refine (Go.Proofs.YtgihknfoncljbaaGreatDoor.refBuild1 h.t.r p hp 440 hl (by omega) b 0 1 hbl hb1 hrow).mono ?_
 rintro e W' ⟨pv2, vr2, L22, U2, rfl, h1, h2, h3⟩
 exact ⟨pv2, vr2, L22, U2, rfl, h.refBuilt h1 h2, h3⟩
end
end Go.Proofs.YtgihknfoncljbaaGreatDoor
/- The two machines of the laws. -/
namespace Go.Proofs.YtgihknfoncljbaaGreatDoor
open Go Go.RowKit Go.Shelf Go.BigFrame Go.Maps
attribute [local go_sem] Oper.semAt_some
theorem lt_of_ram : lastV 1073741824 1048576 < 1099511627776 := by decide
theorem zc_man : Tryz.zeroCells77 = (manC (.slice none 0 0)).toArray := by kernel_rfl
theorem wpQuiet_rn {P : Program} {ops : Array Oper} {C : World → Prop} {R : Act → Prop} {a : Act} {o : Oper} {rest : List Oper} (hgd : o.guard = none) (v : Value) (hr : ∀ w, C w → (execOp a.eval o).run P w = .ok (.value v) w) (h : wpQuiet P ops C R rest (a.put o.dst v)) : wpQuiet P ops C R (o :: rest) a := by
 unfold wpQuiet
 rw [if_pos (by simp [Region.wanted, hgd])]
 exact ⟨v, fun w hw => by unfold Oper.quietAt; rw [hr w hw]; exact ⟨rfl, rfl⟩, h⟩
theorem wpQuiet_ld {P : Program} {ops : Array Oper} {C : World → Prop} {R : Act → Prop} {a : Act} {o : Oper} {rest : List Oper} (hgd : o.guard = none) (t : TypeId) (x : Operand) (ho : o.op = .load t x) (p v : Value) (hx : a.eval x = p) (hr : ∀ w, C w → (Instr.loadAt t p).run P w = .ok v w) (h : wpQuiet P ops C R rest (a.put o.dst v)) : wpQuiet P ops C R (o :: rest) a :=
 wpQuiet_rn hgd v (fun w hw => by unfold execOp; simp only [ho, hx, Sem.run_bind, hr w hw, Result.andThen_ok, Sem.run_pure]) h
theorem row_new (w : World) (cs : List Value) (T : TypeId) : ∀ j u, cs[j]? = some u → (w.alloc (.cells cs.toArray T)).cell? ((⟨w.heap.size, 0, none⟩ : Addr).add j) = some u := by
 intro j u hj
 have hn := World.alloc_heap_new w (.cells cs.toArray T)
 rw [Addr.add_lit]
 simp only [World.cell?, hn]
 simpa using hj
theorem row_new2 (w : World) (cs : List Value) (T : TypeId) (b i : Nat) (u0 : Value) : ∀ j u, cs[j]? = some u → ((w.setCell ⟨b, i, none⟩ u0).alloc (.cells cs.toArray T)).cell? ((⟨w.heap.size, 0, none⟩ : Addr).add j) = some u := by
 have h := row_new (w.setCell ⟨b, i, none⟩ u0) cs T
 rwa [show (w.setCell ⟨b, i, none⟩ u0).heap.size = w.heap.size by simp] at h
section
variable {w W W' : World} {B base xb yb mb pb fb rb C n m : Nat} {vx vy vu pv vr : Value} {xs ys : List Value} {L L2 : List Pg} {pl pl0 : Pl} {pg : PG} {U : List Int}
theorem MS.cellx (h : MS w W B base xb yb vx vy n m xs ys mb pb fb vu L pl pg rb C pv vr L2 U pl0) : W.cell? ⟨xb, 70, none⟩ = some vx ∧ W.frozen? ⟨xb, 70, none⟩ = false := by
 simp only [World.cell?, World.frozen?, h.x]; exact ⟨rfl, rfl⟩
theorem MS.grownx (h : MS w W B base xb yb vx vy n m xs ys mb pb fb vu L pl pg rb C pv vr L2 U pl0) (hg : W.grownBy W' vx.ownBlock) : W'.cell? ⟨xb, 70, none⟩ = some vx ∧ W'.frozen? ⟨xb, 70, none⟩ = false := by
 have l := h.lt
 have hx' := (hg.block xb (by omega) fun e => by have := owns_lo h.rx e.symm; omega).trans h.x
 simp only [World.cell?, World.frozen?, hx']; exact ⟨rfl, rfl⟩
end
def pgN (pg0 pgA pgB : PG) (g : Nat) : PG := if g = 0 then pg0 else if g = 1 then pgA else pgB
def IV (w : World) (B base xb mb pb fb rb C : Nat) (pg0 pgA pgB : PG) (g : Nat) (W : World) : Prop :=
 ∃ ax cx ay cy ys vu L pv vr L2 U, MS w W B base xb (xb + 1) (.slice ax g cx) (.slice ay g cy) g g ((sts.take g).flatMap StV.enc) ys mb pb fb vu L (plN (4 * g)) (pgN pg0 pgA pgB g) rb C pv vr L2 U (plN (4 * g)) ∧ L2.length ≤ 400 + 40 * g
theorem stLeaf (g v : Int) : ∀ u ∈ [Value.int .i64 g, .int .u32 0, .int .u64 v, .int .u64 0, .int .u64 0, .int .u32 0], u.oneCell' = true := by
 intro u hu
 simp at hu
 rcases hu with rfl | rfl | rfl | rfl | rfl | rfl <;> rfl
set_option maxRecDepth 20000 in
set_option maxHeartbeats 4000000 in
theorem machine_any (p q : Int) (hp : p = 1 ∨ p = 3) (hq : q = 1 ∨ q = 3) (v : Value) (l : List Int) (w : World) (hv : GivB w v l) (hcp : ∀ y c, v = .slice y l.length c → l.length ≤ c) (hl : ∀ c ∈ l, 0 ≤ c ∧ c < 256) (hlen : l.length ≤ 300) :
  Calls Tryz.prog 8 #[.int .i64 p, .int .i64 q, v] w fun e w' => ∃ mb pb rb gb cap pd y L B, e = .returned (.tuple #[.pointer (some ⟨rb, 0, none⟩), .pointer (some ⟨y, 0, none⟩), .bool true]) ∧ w.heap.size ≤ B ∧ MemP w' mb pb 1073741824 1048576 L ∧ (∀ b ∈ memBlks mb pb L, B ≤ b) ∧ Tab2 (L.map Pg.ab) p q ∧ (∀ b, 1073872896 ≤ b → bt (L.map Pg.ab) b = bt (writeV [] 1074266112 l) b) ∧ RunAt w' rb mb gb cap pd ∧ rb ∉ memBlks mb pb L ∧ gb ∉ memBlks mb pb L ∧ w.heap.size ≤ rb ∧ w.heap.size ≤ gb ∧ Below w.heap.size w w' := by
 have hbb := fun W o => bone W o
 have hq0 := ask_junk l.length hlen
 have hnm := fun (jb cap : Nat) (W : World) (hb : Below w.heap.size w W) h2 h3 h4 => newMemJ_any ⟨1073741824, 1048576, by unfold W64; omega, by unfold W64; omega⟩ jb cap v l W (by kernel_rfl) (lt_of_ram) h2 h3 h4 (hv.later hb) hcp hl hlen hq0
 have hrm := fun (jb cap : Nat) (W : World) (hb : Below w.heap.size w W) h2 h3 h4 => refNewMemJ_any ⟨1073741824, 1048576, by unfold W64; omega, by unfold W64; omega⟩ jb cap v l W (by kernel_rfl) (lt_of_ram) h2 h3 h4 (hv.later hb) hcp hl hlen hq0
 have hnp := fun W => new_any (tw 1073741824 131072) W
 rw [show (tw 1073741824 131072).a = 1073741824 from rfl, show (tw 1073741824 131072).b = 131072 from rfl] at hnp
 simp only at hnm hrm
 obtain ⟨y0, c0, rfl⟩ := hv.open
 have hwl := Lib.hid (writeV_len l.length (pg := []) (a := 1074266112) (Nat.le_refl l.length))
 replace hlen := Lib.hid hlen
 clear hv hcp hl hq0
 replace hnm := Lib.hid hnm
 replace hrm := Lib.hid hrm
 replace hnp := Lib.hid hnp
 generalize hN : l.length = N at *
 go_enter Tryz.func8, Tryz.ntmps8
 have hr0 := two_new w (.int .u64 1073741824) (.int .u64 1048576) 54
 have hz1 : (w.alloc (.cells #[.int .u64 1073741824, .int .u64 1048576] 54)).heap.size = w.heap.size + 1 := by simp
 have hj0 := two_new (w.alloc (.cells #[.int .u64 1073741824, .int .u64 1048576] 54)) (.int .u64 1074266112) (.slice y0 N c0) 56
 have hb1 := hbb w (.cells #[.int .u64 1073741824, .int .u64 1048576] 54)
 go_wp2_with fail
 generalize w.alloc (.cells #[.int .u64 1073741824, .int .u64 1048576] 54) = V1 at *
 have hb2 := hbb V1 (.cells #[.int .u64 1074266112, .slice y0 N c0] 56)
 have hz2 : (V1.alloc (.cells #[.int .u64 1074266112, .slice y0 N c0] 56)).heap.size = V1.heap.size + 1 := by simp
 rw [hz1] at hj0 hz2
 generalize V1.alloc (.cells #[.int .u64 1074266112, .slice y0 N c0] 56) = V2 at *
 have hb3 := hbb V2 (.cells #[.int .u64 1074266112, .slice y0 N c0] 56)
 have hz3 : (V2.alloc (.cells #[.int .u64 1074266112, .slice y0 N c0] 56)).heap.size = V2.heap.size + 1 := by simp
 have hw0 := two_new V2 (.int .u64 1074266112) (.slice y0 N c0) 56
 rw [hz2] at hw0 hz3
 generalize V2.alloc (.cells #[.int .u64 1074266112, .slice y0 N c0] 56) = V3 at *
 obtain ⟨r0, r1⟩ := hr0
 obtain ⟨j0, j1⟩ := hj0
 have hb23 : Below (w.heap.size + 1) V1 V3 := hb2.mono (by omega) |>.trans (hb3.mono (by omega))
 replace r0 := cell_lt hb23 r0
 replace r1 := cell_lt hb23 r1
 replace j0 := cell_lt (show Below (w.heap.size + 2) V2 V3 from hb3.mono (by omega)) j0
 replace j1 := cell_lt (show Below (w.heap.size + 2) V2 V3 from hb3.mono (by omega)) j1
 have hbw : Below w.heap.size w V3 := hb1.trans (hb23.mono (by omega))
 clear hb1 hb2 hb3 hb23 hz1 hz2
 refine (hnm.out _ 1 V3 hbw (by omega) hw0.1 hw0.2).mono ?_; rintro e w1 ⟨mb, pb, L, rfl, hmem, hab, hb1, hblk⟩
 clear hw0 hnm
 replace r0 := cell_lt hb1 r0 (by omega)
 replace r1 := cell_lt hb1 r1 (by omega)
 replace j0 := cell_lt hb1 j0 (by omega)
 replace j1 := cell_lt hb1 j1 (by omega)
 have hzz := hb1.size
 replace hbw := hbw.trans (hb1.mono (by omega))
 clear hb1
 go_wp2_with fail
 have hba := hbb w1 (.cells #[.int .u64 1074266112, .slice y0 N c0] 56)
 have hza : (w1.alloc (.cells #[.int .u64 1074266112, .slice y0 N c0] 56)).heap.size = w1.heap.size + 1 := by simp
 have hw0 := two_new w1 (.int .u64 1074266112) (.slice y0 N c0) 56
 generalize w1.alloc (.cells #[.int .u64 1074266112, .slice y0 N c0] 56) = V4 at *
 refine (hrm.out _ 1 V4 (hbw.trans (hba.mono (by omega))) (by omega) hw0.1 hw0.2).mono ?_; rintro e w2 ⟨rb, pv, L2, rfl, hmr, hab2, hb2, hblk2⟩
 clear hw0 hrm r0 r1 j0 j1
 replace hb2 := bthen hba hb2
 have hblk3 : ∀ b ∈ refBlks rb pv L2, w1.heap.size ≤ b := fun b hb => by have := hblk2 b hb; omega
 clear hblk2 hba hza
 replace hbw := hbw.trans (hb2.mono (by omega))
 have hzw2 := hb2.size
 go_wp2_with fail
 refine (hnp.out w2).mono ?_; rintro e w3 ⟨fb, rfl, hfb, hpl, hb3⟩
 have hst := start_two hmem hblk hb2 hmr hblk3 hb3 hpl hfb hzz
 have hlen2 : L2.length ≤ 400 := by
  have h1 : (L2.map Pg.ab).length = L2.length := List.length_map ..
  have h2 := hwl.out
  have h3 := hlen.out
  rw [← h1, hab2]
  simp only [List.length_nil] at h2
  omega
 clear hwl hlen
 have hb4 := hbb w3 (.cells #[.int .u64 1073741824, .int .u64 131072, .slice none 0 0] 69)
 have hzw3 := hb3.size
 replace hbw := (hbw.trans (hb3.mono (by omega))).trans (hb4.mono (by omega))
 have hz4 : (w3.alloc (.cells #[.int .u64 1073741824, .int .u64 131072, .slice none 0 0] 69)).heap.size = w3.heap.size + 1 := by simp
 clear hmem hblk hb2 hmr hblk3 hb3 hpl hnp hb4
 have hms := MS.start hst (Nat.le_of_lt (show w.heap.size < V3.heap.size by omega)) hbw
 rw [hz4] at hms
 clear hst hbw hz4
 replace hms := Lib.hid hms
 go_upto_region 999 with (first | (refine wpl_alloc_x rfl 77 rfl zMan_info ?_))
 rw [zc_man]
 generalize hV : ((w3.alloc (.cells #[.int .u64 1073741824, .int .u64 131072, .slice none 0 0] 69)).alloc (.cells (manC (.slice none 0 0)).toArray 77)).alloc (.cells (manC (.slice none 0 0)).toArray 77) = V at *
 have hms := hms.out
 obtain ⟨xb, hxb⟩ : ∃ x, x = w3.heap.size + 1 := ⟨_, rfl⟩
 have hyb : w3.heap.size + 1 + 1 = xb + 1 := by omega
 obtain ⟨base, hbase⟩ : ∃ x, x = xb + 2 := ⟨_, rfl⟩
 rw [← hxb, ← hbase] at hms
 rw [hyb, ← hxb]
 clear hV hyb hxb hfb hzw3 hzw2 hab2
 have hokp : PgOk (L.map Pg.ab) := hms.t.m.mem.ok
 obtain ⟨pgA, pgB, tb0, tb1, hb0, hb1, hokA, hT2, hfar, hpA, hiA⟩ := two_builds hokp hp hq
 have n0 := need_m 0 p (.inl rfl) hp
 have n1 := need_m 1 q (.inr rfl) hq
 generalize hPG0 : L.map Pg.ab = pg0 at *
 have hI0 : IV w V3.heap.size base xb mb pb fb rb w3.heap.size pg0 pgA pgB 0 V := ⟨_, _, _, _, _, _, _, _, _, _, _, hms, by omega⟩
 clear hms
 obtain ⟨C, hC⟩ : ∃ C, w3.heap.size = C := ⟨_, rfl⟩
 rw [hC] at hI0 ⊢
 have hmp0 := fun W => maps_any36 0 p (.inl rfl) W
 have hmp1 := fun W => maps_any36 1 q (.inr rfl) W
 have hvt0 := fun W => vttbr_any 0 W (.inl rfl)
 have hvt1 := fun W => vttbr_any 1 W (.inr rfl)
 have hrv0 := fun W => refVttbr_any 0 (rootN 0) W (.inl rfl) (by unfold W64 rootN; omega)
 have hrv1 := fun W => refVttbr_any 1 (rootN 1) W (.inr rfl) (by unfold W64 rootN; omega)
 have hp0 : PlOk (plN 0) ∧ PlInv (plN 0) ∧ (plN 0).from' = 1073741824 ∧ (plN 0).count = 32 ∧ (plN 0).used.length ≤ 1 := ⟨by rw [← pool_new]; exact (newV_ok _).1, by rw [← pool_new]; exact newV_inv _, rfl, rfl, by decide⟩
 have hp1 : PlOk (plN 4) ∧ PlInv (plN 4) ∧ (plN 4).from' = 1073741824 ∧ (plN 4).count = 32 ∧ (plN 4).used.length ≤ 1 := ⟨hpA, hiA, rfl, rfl, by decide⟩
 have ha0 : (allP [map0 p]).length ≤ 1 := by rw [show map0 p = mapN 0 p (.inl rfl) from rfl, n0.2]; simp
 have ha1 : (allP [map1 q]).length ≤ 1 := by rw [show map1 q = mapN 1 q (.inr rfl) from rfl, n1.2]; simp
 clear n0 n1 hpA hiA
 replace hmp0 := Lib.hid hmp0
 replace hmp1 := Lib.hid hmp1
 replace hvt0 := Lib.hid hvt0
 replace hvt1 := Lib.hid hvt1
 replace hrv0 := Lib.hid hrv0
 replace hrv1 := Lib.hid hrv1
 replace hb0 := Lib.hid hb0
 replace hb1 := Lib.hid hb1
 replace hp0 := Lib.hid hp0
 replace hp1 := Lib.hid hp1
 replace ha0 := Lib.hid ha0
 replace ha1 := Lib.hid ha1
 replace hT2 := Lib.hid hT2
 replace hfar := Lib.hid hfar
 obtain ⟨i0, hi1, hi2⟩ := Option.map_eq_some_iff.1 infoSt
 rw [Prod.mk.injEq, Prod.mk.injEq] at hi2
 obtain ⟨hy1, hy2, hy3⟩ := hi2
 clear hC hbb hPG0 hzz hz3 hlen2 hN
 replace hab := Lib.hid hab
 go_loopw [19] (fun i wr => ∃ g : Nat, g ≤ 2 ∧ i = .int .i64 g ∧ IV w V3.heap.size base xb mb pb fb rb C pg0 pgA pgB g wr) (fun i _ => 2 - (intOf i).toNat)
 case atStart => exact ⟨0, by omega, rfl, hI0⟩
 case round =>
  clear hI0
  obtain ⟨g, hg, rfl, hI⟩ := hrel
  have hgg : g = 2 ∨ g = 0 ∨ g = 1 := by omega
  rcases hgg with rfl | rfl | rfl
  ·obtain ⟨ax, cx, ay, cy, ys, vu, L1, pv1, vr1, L21, U1, hM, hlL⟩ := hI
   obtain ⟨gx, kx, hax, hg1, hg2, hg3⟩ := RowSt.of_owns hM.rx
   simp only [Value.slice.injEq, true_and] at hax
   obtain ⟨rfl, rfl⟩ := hax
   have hgn := hM.t.o gx (mem_outs.2 (.inr (.inr (.inl rfl))))
   have hnew := fun (X : World) (hb : Below wr.heap.size wr X) => runNew_any mb gx cx X (fun j hj i v hv => (hb.cell (p := ⟨gx, _, none⟩) hgn.1).trans (hg3 j hj i v hv)) (Nat.lt_of_lt_of_le hgn.1 hb.size)
   have yX : ∀ w2 : World, (∃ X : HeldF (fun b => b = xb ∨ b = xb + 1) wr, w2 = X.x) → (Instr.loadAt 77 (.pointer (some ⟨xb, 0, none⟩))).run Tryz.prog w2 = .ok (.agg (manC (.slice (some ⟨gx, 0, none⟩) 2 cx)).toArray) w2 := fun w2 hw2 =>
    run_loadAt_mid (P := Tryz.prog) w2 xb 0 77 (manC (.slice (some ⟨gx, 0, none⟩) 2 cx)) _ (fun j v hv => by
     obtain ⟨X, rfl⟩ := hw2
     simp only [World.cell?, X.h xb (.inl rfl), hM.x]
     simpa using hv) Tryz.underlying77 rfl (by kernel_rfl)
   have yY : ∀ w2 : World, (∃ X : HeldF (fun b => b = xb ∨ b = xb + 1) wr, w2 = X.x) → (Instr.loadAt 77 (.pointer (some ⟨xb + 1, 0, none⟩))).run Tryz.prog w2 = .ok (.agg (manC (.slice ay 2 cy)).toArray) w2 := fun w2 hw2 =>
    run_loadAt_mid (P := Tryz.prog) w2 (xb + 1) 0 77 (manC (.slice ay 2 cy)) _ (fun j v hv => by
     obtain ⟨X, rfl⟩ := hw2
     simp only [World.cell?, X.h (xb + 1) (.inr rfl), hM.y]
     simpa using hv) Tryz.underlying77 rfl (by kernel_rfl)
   unfold manC at hnew yX yY
   have hxl := (hM.t.o xb (mem_outs.2 (.inl rfl))).1
   have hyl := (hM.t.o (xb + 1) (mem_outs.2 (.inr (.inl rfl)))).1
   have hkeep : ∀ Y : World, Below wr.heap.size wr Y → ∀ b, b = xb ∨ b = xb + 1 → Y.heap[b]? = wr.heap[b]? := fun Y hY b hb => hY.block b (by omega)
   have hfin : ∀ (Y : World) (rr gb cap pd y : Nat), Below wr.heap.size wr Y → RunAt Y rr mb gb cap pd → wr.heap.size ≤ rr → wr.heap.size ≤ gb → ∃ mb' pb' rb' gb' cap' pd' y' L' B', Ending.returned (.tuple #[.pointer (some ⟨rr, 0, none⟩), .pointer (some ⟨y, 0, none⟩), .bool true]) = .returned (.tuple #[.pointer (some ⟨rb', 0, none⟩), .pointer (some ⟨y', 0, none⟩), .bool true]) ∧ w.heap.size ≤ B' ∧ MemP Y mb' pb' 1073741824 1048576 L' ∧ (∀ b ∈ memBlks mb' pb' L', B' ≤ b) ∧ Tab2 (L'.map Pg.ab) p q ∧ (∀ b, 1073872896 ≤ b → bt (L'.map Pg.ab) b = bt (writeV [] 1074266112 l) b) ∧ RunAt Y rb' mb' gb' cap' pd' ∧ rb' ∉ memBlks mb' pb' L' ∧ gb' ∉ memBlks mb' pb' L' ∧ w.heap.size ≤ rb' ∧ w.heap.size ≤ gb' ∧ Below w.heap.size w Y := fun Y rr gb cap pd y hY hR h1 h2 => by
    have hm := hM.t.m
    have hl := hm.mem.lt
    have hz := hM.bw.size
    refine ⟨mb, pb, rr, gb, cap, pd, y, L1, V3.heap.size, rfl, hM.lo.1, hm.mem.below hY (Nat.le_refl _), hm.lo.2, ?_, ?_, hR, fun e => by have := hl _ e; omega, fun e => by have := hl _ e; omega, by omega, by omega, hM.bw.trans (hY.mono hz)⟩
    ·rw [hm.ab]; exact hT2.out
    ·rw [hm.ab, ← hab.out]; exact hfar.out
   replace hfin := Lib.hid hfin
   replace hnew := Lib.hid hnew
   go_wp2_with fail
   refine region_tree (fun z => ∃ X : HeldF (fun b => b = xb ∨ b = xb + 1) wr, z = X.x) (by kernel_rfl) ?_
   have hbD : Below wr.heap.size wr wr.drew := (Below.refl _ _).drew
   generalize wr.drew = X0 at *
   refine tree_step [0, 1, 3, 4, 5] [2, 6] 4 (by kernel_rfl) (fun _ _ d _ _ h => by cases d <;> exact h) (by kernel_rfl) (by simp) rfl ⟨⟨X0, hkeep X0 hbD⟩, rfl⟩ ?_
   simp only [List.filterMap_cons, List.filterMap_nil, List.getElem?_cons_succ, List.getElem?_cons_zero]
   change wpQuiet _ _ _ _ (List.cons _ _) _
   go_big_quiet_step (fail)
   refine wpQuiet_ld rfl 77 _ rfl (.pointer (some ⟨xb, 0, none⟩)) _ rfl yX ?_
   simp only [Act.put, List.setIfInBounds_toArray, List.set_cons_succ, List.set_cons_zero]
   change wpQuiet _ _ _ _ (List.cons _ _) _
   go_big_quiet_step (fail)
   refine wpQuiet_ld rfl 77 _ rfl (.pointer (some ⟨xb + 1, 0, none⟩)) _ rfl yY ?_
   simp only [Act.put, List.setIfInBounds_toArray, List.set_cons_succ, List.set_cons_zero]
   change wpQuiet _ _ _ _ (List.cons _ _) _
   go_big_quiet_step (fail)
   refine wpQuiet_nil ?_
   intro i hi Q₁ hQ₁ hQp
   obtain rfl | rfl := mem2 hi
   ·simp only [List.getElem?_cons_succ, List.getElem?_cons_zero, Option.toList]
    go_wp2_with fail
    refine (hnew.out X0 hbD).mono ?_; rintro e X1 ⟨rr, gb, cap, pd, rfl, hR, hr1, hr2, hbx⟩
    have hz0 := hbD.size
    have hb1' : Below wr.heap.size wr X1 := hbD.trans (hbx.mono hz0)
    have hb2' := fun o => hb1'.trans ((bone X1 o).mono hb1'.size)
    go_wp2_with fail
    refine hQ₁ _ _ ⟨⟨X1, hkeep X1 hb1'⟩, rfl⟩ ?_
    clear hQ₁ hQp Q₁
    refine tree_step [7] [6] 2 (by kernel_rfl) (fun _ _ d _ _ h => by cases d <;> exact h) (by kernel_rfl) (by simp) rfl ⟨⟨X1, hkeep X1 hb1'⟩, rfl⟩ ?_
    simp only [List.filterMap_cons, List.filterMap_nil, List.getElem?_cons_succ, List.getElem?_cons_zero]
    repeat (change wpQuiet _ _ _ _ (List.cons _ _) _; go_big_quiet_step (fail))
    refine wpQuiet_nil ?_
    intro i hi Q₁ hQ₁ hQp
    obtain rfl := mem1 hi
    simp only [List.getElem?_cons_succ, List.getElem?_cons_zero, Option.toList]
    go_wp2_with fail
    refine hQ₁ _ _ ⟨⟨_, hkeep _ (hb2' _)⟩, rfl⟩ ?_
    clear hQ₁ hQp Q₁
    refine tree_end [8, 9] (by kernel_rfl) (fun _ _ d _ _ h => by cases d <;> exact h) (by kernel_rfl) rfl ⟨⟨_, hkeep _ (hb2' _)⟩, rfl⟩ ?_
    simp only [List.filterMap_cons, List.filterMap_nil, List.getElem?_cons_succ, List.getElem?_cons_zero]
    repeat (change wpQuiet _ _ _ _ (List.cons _ _) _; go_big_quiet_step (fail))
    refine wpQuiet_nil ?_
    go_wp2_with fail
    go_ret3
    exact hfin.out _ _ _ _ _ _ (hb2' _) (hR.later (bone _ _)) (by omega) (by omega)
   ·simp only [List.getElem?_cons_succ, List.getElem?_cons_zero, Option.toList]
    have hz0 := hbD.size
    have hbo := fun o => hbD.trans ((bone X0 o).mono hz0)
    go_wp2_with fail
    generalize hX1 : X0.alloc _ = X1
    have hb1' : Below wr.heap.size wr X1 := by rw [← hX1]; exact hbo _
    clear hX1 hbo
    refine hQ₁ _ _ ⟨⟨X1, hkeep X1 hb1'⟩, rfl⟩ ?_
    clear hQ₁ hQp Q₁
    refine tree_step [] [2] 3 (by kernel_rfl) (fun _ _ d _ _ h => by cases d <;> exact h) (by kernel_rfl) (by simp) rfl ⟨⟨X1, hkeep X1 hb1'⟩, rfl⟩ ?_
    simp only [List.filterMap_nil]
    refine wpQuiet_nil ?_
    intro i hi Q₁ hQ₁ hQp
    obtain rfl := mem1 hi
    simp only [List.getElem?_cons_succ, List.getElem?_cons_zero, Option.toList]
    go_wp2_with fail
    refine (hnew.out X1 hb1').mono ?_; rintro e X2 ⟨rr, gb, cap, pd, rfl, hR, hr1, hr2, hbx⟩
    have hz1 := hb1'.size
    have hb2' : Below wr.heap.size wr X2 := hb1'.trans (hbx.mono hz1)
    go_wp2_with fail
    refine hQ₁ _ _ ⟨⟨X2, hkeep X2 hb2'⟩, rfl⟩ ?_
    clear hQ₁ hQp Q₁
    refine tree_end [7, 8, 9] (by kernel_rfl) (fun _ _ d _ _ h => by cases d <;> exact h) (by kernel_rfl) rfl ⟨⟨X2, hkeep X2 hb2'⟩, rfl⟩ ?_
    simp only [List.filterMap_cons, List.filterMap_nil, List.getElem?_cons_succ, List.getElem?_cons_zero]
    repeat (change wpQuiet _ _ _ _ (List.cons _ _) _; go_big_quiet_step (fail))
    refine wpQuiet_nil ?_
    go_wp2_with fail
    go_ret3
    exact hfin.out _ _ _ _ _ _ hb2' hR (by omega) (by omega)
  ·obtain ⟨ax, cx, ay, cy, ys, vu, L1, pv1, vr1, L21, U1, hM, hlL⟩ := hI
   have hrow := two_new wr (.int .i64 p) (.int .i64 q) 3
   have hbr := bone wr (.cells #[.int .i64 p, .int .i64 q] 3)
   go_wp2_with fail
   generalize wr.alloc (.cells #[.int .i64 p, .int .i64 q] 3) = Va at *
   refine (hmp0.out Va).mono ?_; rintro e Vb ⟨rfl, hrw, hltb, hbb⟩
   have hMb := (hM.later hbr).later hbb
   have hfr := hM.t.fresh hbr.size
   clear hM hrow hbr
   go_wp2_with fail
   refine (hMb.build hp0.out hb0.out ha0.out hrw hltb hfr.1).mono ?_; rintro e Vc ⟨vu', L', rfl, hMc, hkp, hzc⟩
   have hrw2 := hrw.same hkp
   clear hMb hrw hkp
   go_wp2_with fail
   refine (hMc.refBuild0 hp (by omega) hrw2 (by omega) hfr.2).mono ?_; rintro e Vd ⟨pv', vr', L2', U', rfl, hMd, hlL2⟩
   clear hMc hrw2 hfr
   go_wp2_with fail
   refine (hvt0.out Vd).mono ?_; rintro e Ve ⟨rfl, hbe⟩
   have hMe := hMd.later hbe
   clear hMd hbe
   go_wp2_with fail
   refine (hrv0.out Ve).mono ?_; rintro e w' ⟨⟨a, b, rfl⟩, rfl⟩
   obtain ⟨c70, f70⟩ := hMe.cellx
   have hMx := hMe.later (bone w' (.cells [Value.int .i64 0, .int .u32 0, .int .u64 (vttN 0), .int .u64 0, .int .u64 0, .int .u32 0].toArray 88))
   replace hMx := Lib.hid hMx
   replace hMe := Lib.hid hMe
   go_wp2_with (at_builtin; first | (refine wpList_append_own_at _ rfl _ _ 75 rfl base 88 i0 _ 6 48 Tryz.underlying75 hi1 hy1 hy2 hy3 rfl (by decide) (.slice ax 0 cx) 0 _ rfl hMx.out.rx ⟨w'.heap.size, 0, none⟩ _ _ [Value.int .i64 0, .int .u32 0, .int .u64 (vttN 0), .int .u64 0, .int .u64 0, .int .u32 0] rfl rfl (row_new _ _ _) (stLeaf 0 _) (by decide) (by decide) hMx.out.lt.2.2.2 ?_; intro v' w6 hown6 hgrow6 _ hv6; obtain ⟨x6, c6, rfl⟩ := ownsRow_slice hown6; have hM6 := hMx.out.app hown6 hgrow6 hv6; obtain ⟨c670, f670⟩ := hMx.out.grownx hgrow6; obtain ⟨d670, g670⟩ := hM6.swap.cellx; have hM7 := (hM6.later (bone _ (.cells [Value.int .i64 0, .int .u32 0, .int .u64 a, .int .u64 0, .int .u64 0, .int .u32 0].toArray 88))).swap; replace hM7 := Lib.hid hM7; replace hM6 := Lib.hid hM6; replace hgrow6 := Lib.hid hgrow6; replace hv6 := Lib.hid hv6) | (go_loud (refine wpList_append_own_at _ rfl _ _ 75 rfl base 88 i0 _ 6 48 Tryz.underlying75 hi1 hy1 hy2 hy3 rfl (by decide) (.slice ay 0 cy) 0 _ rfl hM7.out.rx ⟨_, 0, none⟩ _ _ [Value.int .i64 0, .int .u32 0, .int .u64 a, .int .u64 0, .int .u64 0, .int .u32 0] rfl rfl (row_new2 _ _ _ _ _ _) (stLeaf 0 _) (by decide) (by decide) hM7.out.lt.2.2.2 ?_; intro v7 w7 hown7 hgrow7 _ hv7; obtain ⟨x7, c7, rfl⟩ := ownsRow_slice hown7; have hM8 := (hM7.out.app hown7 hgrow7 hv7).swap; obtain ⟨e670, h670⟩ := hM7.out.grownx hgrow7; replace hM8 := Lib.hid hM8; replace hgrow7 := Lib.hid hgrow7; replace hv7 := Lib.hid hv7)))
   have hM8 := hM8.out
   exact ⟨⟨1, by omega, rfl, x6, c6, x7, c7, _, vu', L', pv', vr', L2', U', hM8, by omega⟩, by decide⟩
  ·obtain ⟨ax, cx, ay, cy, ys, vu, L1, pv1, vr1, L21, U1, hM, hlL⟩ := hI
   have hrow := two_new wr (.int .i64 p) (.int .i64 q) 3
   have hbr := bone wr (.cells #[.int .i64 p, .int .i64 q] 3)
   go_wp2_with fail
   generalize wr.alloc (.cells #[.int .i64 p, .int .i64 q] 3) = Va at *
   refine (hmp1.out Va).mono ?_; rintro e Vb ⟨rfl, hrw, hltb, hbb⟩
   have hMb := (hM.later hbr).later hbb
   have hfr := hM.t.fresh hbr.size
   clear hM hrow hbr
   go_wp2_with fail
   refine (hMb.build hp1.out hb1.out ha1.out hrw hltb hfr.1).mono ?_; rintro e Vc ⟨vu', L', rfl, hMc, hkp, hzc⟩
   have hrw2 := hrw.same hkp
   clear hMb hrw hkp
   go_wp2_with fail
   refine (hMc.refBuild1 hq (by omega) hrw2 (by omega) hfr.2).mono ?_; rintro e Vd ⟨pv', vr', L2', U', rfl, hMd, hlL2⟩
   clear hMc hrw2 hfr
   go_wp2_with fail
   refine (hvt1.out Vd).mono ?_; rintro e Ve ⟨rfl, hbe⟩
   have hMe := hMd.later hbe
   clear hMd hbe
   go_wp2_with fail
   refine (hrv1.out Ve).mono ?_; rintro e w' ⟨⟨a, b, rfl⟩, rfl⟩
   obtain ⟨c70, f70⟩ := hMe.cellx
   have hMx := hMe.later (bone w' (.cells [Value.int .i64 1, .int .u32 0, .int .u64 (vttN 1), .int .u64 0, .int .u64 0, .int .u32 0].toArray 88))
   replace hMx := Lib.hid hMx
   replace hMe := Lib.hid hMe
   go_wp2_with (at_builtin; first | (refine wpList_append_own_at _ rfl _ _ 75 rfl base 88 i0 _ 6 48 Tryz.underlying75 hi1 hy1 hy2 hy3 rfl (by decide) (.slice ax 1 cx) 1 _ rfl hMx.out.rx ⟨w'.heap.size, 0, none⟩ _ _ [Value.int .i64 1, .int .u32 0, .int .u64 (vttN 1), .int .u64 0, .int .u64 0, .int .u32 0] rfl rfl (row_new _ _ _) (stLeaf 1 _) (by decide) (by decide) hMx.out.lt.2.2.2 ?_; intro v' w6 hown6 hgrow6 _ hv6; obtain ⟨x6, c6, rfl⟩ := ownsRow_slice hown6; have hM6 := hMx.out.app hown6 hgrow6 hv6; obtain ⟨c670, f670⟩ := hMx.out.grownx hgrow6; obtain ⟨d670, g670⟩ := hM6.swap.cellx; have hM7 := (hM6.later (bone _ (.cells [Value.int .i64 1, .int .u32 0, .int .u64 a, .int .u64 0, .int .u64 0, .int .u32 0].toArray 88))).swap; replace hM7 := Lib.hid hM7; replace hM6 := Lib.hid hM6; replace hgrow6 := Lib.hid hgrow6; replace hv6 := Lib.hid hv6) | (go_loud (refine wpList_append_own_at _ rfl _ _ 75 rfl base 88 i0 _ 6 48 Tryz.underlying75 hi1 hy1 hy2 hy3 rfl (by decide) (.slice ay 1 cy) 1 _ rfl hM7.out.rx ⟨_, 0, none⟩ _ _ [Value.int .i64 1, .int .u32 0, .int .u64 a, .int .u64 0, .int .u64 0, .int .u32 0] rfl rfl (row_new2 _ _ _ _ _ _) (stLeaf 1 _) (by decide) (by decide) hM7.out.lt.2.2.2 ?_; intro v7 w7 hown7 hgrow7 _ hv7; obtain ⟨x7, c7, rfl⟩ := ownsRow_slice hown7; have hM8 := (hM7.out.app hown7 hgrow7 hv7).swap; obtain ⟨e670, h670⟩ := hM7.out.grownx hgrow7; replace hM8 := Lib.hid hM8; replace hgrow7 := Lib.hid hgrow7; replace hv7 := Lib.hid hv7)))
   have hM8 := hM8.out
   exact ⟨⟨2, by omega, rfl, x6, c6, x7, c7, _, vu', L', pv', vr', L2', U', hM8, by omega⟩, by decide⟩
end Go.Proofs.YtgihknfoncljbaaGreatDoor
/- A ring over the machine that was made; the example. -/
namespace Go.Proofs.YtgihknfoncljbaaGreatDoor
open Go Go.RowKit Go.Shelf Go.BigFrame Go.Maps
theorem sendV_tab {pg : PG} {p q : Int} (h : Tab2 pg p q) (g base n : Int) (l : List Int) : Tab2 (sendV p q g base n pg l).1 p q := by
 have hs : ∀ (M : List (Int × Int)) (pg : PG), Tab2 pg p q → Tab2 (stsP p q g pg M).1 p q := by
  intro M
  induction M with
  | nil => intro pg h; exact h
  | cons c M ih =>
   intro pg h
   have h1 := (dvG_tab h (g := g) (k := 2) (ipa := c.1) (size := 1) (x := c.2) (.inl rfl)).1
   unfold stsP
   split
   ·exact h1
   ·exact ih _ h1
 unfold sendV
 split
 ·exact h
 ·split
  ·exact h
  ·split
   ·exact h
   ·split
    ·exact hs _ _ h
    ·exact (dvG_tab (hs _ _ h) (.inr rfl)).1
theorem recv_tab {p q g base n : Int} {pg pg' : PG} {e : Int} {bs : List Int} (h : Tab2 pg p q) (hR : RecvOut p q g base n pg e bs pg') : Tab2 pg' p q := by
 unfold RecvOut RecvC at hR
 rcases hR with ⟨_, _, h2, _⟩ | ⟨_, _, h2, _⟩
 ·rw [h2]; exact h
 ·rw [h2]; exact (dvG_tab h (.inr rfl)).1
theorem RIn.made {W : World} {B mb pb rb gb cap pd : Nat} {L : List Pg} {p q : Int} (hm : MemP W mb pb 1073741824 1048576 L) (hlo : ∀ b ∈ memBlks mb pb L, B ≤ b) (hB : B ≤ W.heap.size) (ht : Tab2 (L.map Pg.ab) p q) (h3 : Tab3 W) (hg : 0 < W.heap.size) (hr : RunAt W rb mb gb cap pd) (ro : rb ∉ memBlks mb pb L) (go : gb ∉ memBlks mb pb L) (g base n : Int) :
  RIn (W.alloc (.cells #[.pointer (some ⟨rb, 0, none⟩), .int .i64 g, .int .u64 base, .int .i64 n] 94)) B mb pb rb gb cap pd W.heap.size L p q g base n := by
 have hb := bone W (.cells #[.pointer (some ⟨rb, 0, none⟩), .int .i64 g, .int .u64 base, .int .i64 n] 94)
 exact ⟨⟨hm.below hb (Nat.le_refl _), hlo, Nat.le_trans hB hb.size, ht, h3.belowB hb hg⟩, hr.later hb, ro, go, fun e => by have := hm.lt _ e; omega, World.alloc_heap_new W _⟩
theorem RQ.zero {pg : PG} {room : Nat} (hp : PgOk pg) (h0 : 16 ≤ room) (h1 : room + 16 ≤ 4096) (hz : ∀ b, 1073872896 ≤ b → bt pg b = bt (writeV [] 1074266112 []) b) : RQ pg room 0 0 [] :=
 RQ.start hp h0 h1 fun a h1 h2 => by rw [hz a (by unfold P0 at h1; omega), writeV_nil, bt_nil]
theorem zbytes (w : World) (k : Nat) : GivB (w.alloc (.cells ((List.replicate k (0 : Int)).map fun x => Value.int .u8 x).toArray 5)) (.slice (some ⟨w.heap.size, 0, none⟩) k k) (List.replicate k 0) := by
 refine .inr ⟨⟨w.heap.size, 0, none⟩, k, by simp, fun _ => ⟨w.heap.size, 0, rfl, by simp, fun i hi => ?_⟩⟩
 have h := World.alloc_heap_new w (.cells ((List.replicate k (0 : Int)).map fun x => Value.int .u8 x).toArray 5)
 simp only [World.cell?, h]
 simp at hi
 simp [hi]
theorem send32 {w : World} {B mb pb rb gb cap pd qb : Nat} {L : List Pg} {t h : Nat} {on : List (List Int)} (hI : RIn w B mb pb rb gb cap pd qb L 3 3 0 65536 32) (hgB : 0 < B) (hQ : RQ (L.map Pg.ab) 16 h t on) (hh : h ≤ 1000000) (v : Value) (l : List Int) (hv : GivB w v l) (hvo : l ≠ [] → ∀ b, v.ownBlock = some b → b ∉ memBlks mb pb L) (hl : ∀ c ∈ l, 0 ≤ c ∧ c < 256) (hlen : l.length ≤ 200) :
  Calls Tryz.prog 10 #[.pointer (some ⟨qb, 0, none⟩), v] w fun e w' => ∃ L' h' on', e = .returned (.int .i64 (if (encQ on).length + (l.length + 4) ≤ 16 then 0 else if 16 < l.length + 4 then 2 else 131)) ∧ RIn w' B mb pb rb gb cap pd qb L' 3 3 0 65536 32 ∧ RQ (L'.map Pg.ab) 16 h' t on' ∧ h' ≤ h + 204 ∧ (encQ on').length = (if (encQ on).length + (l.length + 4) ≤ 16 then (encQ on).length + (l.length + 4) else (encQ on).length) ∧ Below B w w' := by
 have hs := send_any hI hgB (.inr rfl) (.inr rfl) (by omega) (by omega) v l hv hvo hl
 have hq := send_q hQ 3 3 0 (.inl rfl) (pm3 0) l hl hlen hh
 have ht := sendV_tab hI.m.tab 0 65536 32 l
 rw [show bsG 0 = 65536 from rfl, show ((16 : Nat) : Int) + 16 = 32 from rfl] at hq
 refine hs.mono ?_; rintro e w' ⟨L', rfl, hw⟩
 have hI' := hI.wrote hgB hw ht
 have hab := hw.ab
 by_cases hf : (encQ on).length + (l.length + 4) ≤ 16
 ·obtain ⟨q1, q2⟩ := hq.1 hf
  rw [if_pos hf, if_pos hf]
  refine ⟨L', _, _, by rw [q1], hI', hab ▸ q2, by omega, ?_, hw.off.below⟩
  rw [encQ_snoc, List.length_append, encR_len]
 ·obtain ⟨q1, q2⟩ := hq.2 hf
  rw [if_neg hf, if_neg hf]
  exact ⟨L', h, on, by rw [q1], hI', by rw [hab, q2]; exact hQ, by omega, rfl, hw.off.below⟩
set_option maxRecDepth 20000 in
set_option maxHeartbeats 2000000 in
theorem awake36_any (w : World) (hT : Tab3 w) (hgw : 0 < w.heap.size) :
  Calls Tryz.prog 6 #[] w fun e w' => e = .returned (.bool true) ∧ Below w.heap.size w w' := by
 have hmc := machine_any 3 3 (.inr rfl) (.inr rfl) (.slice none 0 0) [] w (.inl ⟨rfl, rfl⟩) (by intro y c h; simp) (by simp) (by simp)
 go_enter Tryz.func6, Tryz.ntmps6
 go_wp2_with fail
 refine hmc.mono ?_; rintro e w1 ⟨mb, pb, rb, gb, cap, pd, y, L, B, rfl, hB, hmem, hlo, htab, hfar, hrun, hro, hgo, hr1, hr2, hb1⟩
 clear hmc
 have hz1 := hb1.size
 have hBl : B ≤ w1.heap.size := by have := hlo mb (by simp [memBlks]); have := hmem.lt mb (by simp [memBlks]); omega
 have hgB : 0 < B := by omega
 have hI := RIn.made hmem hlo hBl htab (hT.belowB hb1 hgw) (by omega) hrun hro hgo 0 65536 32
 have hQ := RQ.zero (room := 16) htab.ok (by omega) (by omega) hfar
 have hb2 := hb1.trans ((bone w1 (.cells #[.pointer (some ⟨rb, 0, none⟩), .int .i64 0, .int .u64 65536, .int .i64 32] 94)).mono hz1)
 clear hmem hlo htab hrun hro hgo hfar hT
 replace hI := Lib.hid hI
 replace hQ := Lib.hid hQ
 replace hb2 := Lib.hid hb2
 go_wp2_with fail
 refine (new_any36 0 0 65536 32 (.pointer (some ⟨rb, 0, none⟩)) w1 (by unfold W64; omega) ⟨_, rfl⟩).mono ?_
 rintro e w2 (⟨h, _⟩ | ⟨_, rfl, hw2⟩)
 ·exact absurd h (by decide)
 ·rw [← hw2] at hI hb2
  obtain ⟨qb, hqb⟩ : ∃ q, q = w1.heap.size := ⟨_, rfl⟩
  rw [← hqb] at hI ⊢
  clear hw2 hqb
  have hI := hI.out
  go_wp2_with fail
  refine (room_any 32 qb w2 hI.cells.2.2.2 (by omega)).mono ?_; rintro e w' ⟨rfl, rfl⟩
  replace hI := Lib.hid hI
  have hmk := make_bytes w2 12 12 (by omega) (by omega) (by omega)
  change (Instr.makeSlice _ _ _).run _ _ = .ok (.slice (some ⟨w2.heap.size, 0, none⟩) 12 12) (w2.alloc (.cells ((List.replicate 12 (0 : Int)).map fun x => Value.int .u8 x).toArray 5)) at hmk
  have hI := hI.out
  have hbk := bone w2 (.cells ((List.replicate 12 (0 : Int)).map fun x => Value.int .u8 x).toArray 5)
  have hs1 := send32 (hI.later hgB hbk) hgB hQ.out (by omega) _ _ (zbytes w2 12) (fun _ b e hm => by have e2 : w2.heap.size = b := Option.some.inj e; have := hI.m.mem.lt b hm; omega) (fun c hc => by rw [List.eq_of_mem_replicate hc]; omega) (by simp)
  have hz2 := hb2.out.size
  have hbB := hI.m.hB
  replace hs1 := Lib.hid hs1
  replace hI := Lib.hid hI
  generalize hA : w2.alloc (.cells ((List.replicate 12 (0 : Int)).map fun x => Value.int .u8 x).toArray 5) = W3 at *
  go_wp2_with fail
  refine hs1.out.mono ?_; rintro e w4 ⟨L4, h4, on4, rfl, hI4, hQ4, hh4, hl4, hb4⟩
  have e0 : (encQ []).length = 0 := rfl
  simp only [e0, List.length_replicate] at hl4
  have hl4' : (encQ on4).length = 16 := by rw [hl4]; rfl
  simp only [e0, List.length_replicate]
  have hs2 := send32 hI4 hgB hQ4 (by omega) (.slice none 0 0) [] (.inl ⟨rfl, rfl⟩) (fun _ b e => nomatch e) (by simp) (by simp)
  rw [hl4'] at hs2
  replace hs2 := Lib.hid hs2
  clear hs1 hI
  go_wp2_with fail
  refine hs2.out.mono ?_; rintro e w5 ⟨L5, h5, on5, rfl, hI5, hQ5, hh5, hl5, hb5⟩
  clear hs2 hmk
  have hl5' : (encQ on5).length = 16 := by rw [hl5]; rfl
  have hmk := make_bytes w5 13 13 (by omega) (by omega) (by omega)
  change (Instr.makeSlice _ _ _).run _ _ = .ok (.slice (some ⟨w5.heap.size, 0, none⟩) 13 13) (w5.alloc (.cells ((List.replicate 13 (0 : Int)).map fun x => Value.int .u8 x).toArray 5)) at hmk
  have hbk5 := bone w5 (.cells ((List.replicate 13 (0 : Int)).map fun x => Value.int .u8 x).toArray 5)
  have hs3 := send32 (hI5.later hgB hbk5) hgB hQ5 (by omega) _ _ (zbytes w5 13) (fun _ b e hm => by have e2 : w5.heap.size = b := Option.some.inj e; have := hI5.m.mem.lt b hm; omega) (fun c hc => by rw [List.eq_of_mem_replicate hc]; omega) (by simp)
  rw [hl5'] at hs3
  have hbB5 := hI5.m.hB
  have hfin : Below w.heap.size w w5 := ((hb2.out.trans (hbk.mono hz2)).trans (hb4.mono hB)).trans (hb5.mono hB)
  replace hs3 := Lib.hid hs3
  generalize hA5 : w5.alloc (.cells ((List.replicate 13 (0 : Int)).map fun x => Value.int .u8 x).toArray 5) = W6 at *
  have hfin6 : Below w.heap.size w W6 := hfin.trans (hbk5.mono (by omega))
  clear hA5 hA hI4 hI5 hQ4 hQ5 hbk hbk5 hfin
  go_wp2_with fail
  refine hs3.out.mono ?_; rintro e w7 ⟨L7, h7, on7, rfl, _, _, _, _, hb7⟩
  go_wp2_with fail
  go_ret
  exact ⟨rfl, hfin6.trans (hb7.mono hB)⟩
end Go.Proofs.YtgihknfoncljbaaGreatDoor
