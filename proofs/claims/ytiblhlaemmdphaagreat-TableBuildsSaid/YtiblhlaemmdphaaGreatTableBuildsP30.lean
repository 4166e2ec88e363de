/- Asks in memory; the walk of 'few'; the walk of the statement FrameLasts. -/
import Derived.Deep.SlicePairs
import Derived.Deep.RegionHeld3
import Derived.Lib.SmallJoins
import Derived.ChangeArms
import Derived.Test.YtiblhlaemmdphaaGreatTableBuildsP2
import Derived.Test.YtiblhlaemmdphaaGreatTableBuildsP27
import Derived.Test.YtiblhlaemmdphaaGreatTableBuildsP29
namespace Go.Proofs.YtiblhlaemmdphaaGreat
open Go Go.Joins Go.ChangeShapes Go.WideShapes Go.Deep Go.RowKit Go.BigFrame
structure AskV where
 n : Int
 al : Int
 hn : -9223372036854775808 ≤ n ∧ n ≤ 9223372036854775807
 ha : W64 al
instance : Inhabited AskV := ⟨⟨0, 0, by omega, by unfold W64; omega⟩⟩
end Go.Proofs.YtiblhlaemmdphaaGreat
/- The reference's pool as it lies in memory; the walks of its Frames, has and Has, and of the program's Has. -/
namespace Go.Proofs.YtiblhlaemmdphaaGreat
open Go Go.RowKit Go.BigFrame
structure RPoolAt (w : World) (B : Nat) (v : Value) (s : Two) (U : List Int) : Prop where
 blk : w.heap[B]? = some (.cells #[.int .u64 s.a, .int .u64 s.b, v] 52 (0, 0))
 own : w.ownsRow (B + 1) 26 1 v U.length (U.map fun x => .int .u64 x)
theorem RPoolAt.lt {w : World} {B : Nat} {v : Value} {s : Two} {U : List Int} (h : RPoolAt w B v s U) : B < w.heap.size := (Array.getElem?_eq_some_iff.1 h.blk).1
theorem RPoolAt.cells {w : World} {B : Nat} {v : Value} {s : Two} {U : List Int} (h : RPoolAt w B v s U) : w.cell? ⟨B, 0, none⟩ = some (.int .u64 s.a) ∧ w.cell? ⟨B, 1, none⟩ = some (.int .u64 s.b) ∧ w.cell? ⟨B, 2, none⟩ = some v := by
 refine ⟨?_, ?_, ?_⟩ <;> simp [World.cell?, h.blk]
theorem ownsRow_below {E : TypeId} {w w' : World} {base B k n : Nat} {v : Value} {l : List Value} (h : w.ownsRow base E k v n l) (hb : Below B w w') (hB : w.heap.size ≤ B) : w'.ownsRow base E k v n l := by
 obtain ⟨hlen, hc⟩ := h
 refine ⟨hlen, ?_⟩
 rcases hc with hc | ⟨g, cap, cur, hv, hbg, hg, hr⟩
 ·exact .inl hc
 ·refine .inr ⟨g, cap, cur, hv, hbg, ?_, hr⟩
  rw [hb.block g (Nat.lt_of_lt_of_le (Array.getElem?_eq_some_iff.1 hg).1 hB)]; exact hg
theorem RPoolAt.below {w w' : World} {B : Nat} {v : Value} {s : Two} {U : List Int} (h : RPoolAt w B v s U) (hb : Below w.heap.size w w') : RPoolAt w' B v s U :=
 ⟨(hb.block B h.lt).trans h.blk, ownsRow_below h.own hb (Nat.le_refl _)⟩
theorem ownsRow_words {E : TypeId} {w : World} {base : Nat} {v : Value} {U : List Int} (h : w.ownsRow base E 1 v U.length (U.map fun x => .int .u64 x)) :
  ∃ (a : Option Addr) (cap : Nat), v = .slice a U.length cap ∧ U.length ≤ maxLen ∧ (U ≠ [] → ∃ g, a = some ⟨g, 0, none⟩ ∧ g < w.heap.size ∧ ∀ i (h : i < U.length), w.cell? ⟨g, i, none⟩ = some (.int .u64 U[i])) := by
 obtain ⟨hlen, ⟨rfl, h0⟩ | ⟨g, cap, cur, rfl, hb, hg, hn, hm, hs, hx⟩⟩ := h
 ·have e := List.length_eq_zero_iff.1 h0
  subst e
  exact ⟨none, 0, rfl, by decide, fun h => absurd rfl h⟩
 ·refine ⟨some ⟨g, 0, none⟩, cap, rfl, Nat.le_trans hn hm, fun _ => ⟨g, rfl, (Array.getElem?_eq_some_iff.1 hg).1, fun i hi => ?_⟩⟩
  have h1 : (cur.toList.take (U.length * 1))[i]? = some (.int .u64 U[i]) := by rw [hx, List.getElem?_map, List.getElem?_eq_getElem hi]; rfl
  rw [List.getElem?_take, if_pos (by omega)] at h1
  simp only [World.cell?, hg]
  simpa using h1
set_option maxHeartbeats 1000000 in
theorem refUp_any (n a : Int) (w : World) (hn : W64 n) (ha : W64 a) :
  Calls Tryz.prog 90 #[.int .u64 n, .int .u64 a] w fun e w' => e = .returned (.tuple #[.int .u64 (upV n a).1, .bool (upV n a).2]) ∧ w = w' := by
 unfold W64 at hn ha
 by_cases h0 : a = 0
 ·have e : upV n a = (0, false) := by unfold upV; rw [if_pos h0]
  replace e := Lib.hid e
  subst h0
  go_enter Tryz.func90, Tryz.ntmps90
  go_wp2
  go_ret2
  exact ⟨by rw [e.out]; rfl, rfl⟩
 ·have h2 : (a == 0) = false := by simpa using h0
  have hp : 0 < a := by omega
  have m0 := Int.emod_nonneg n h0
  have ml := Int.emod_lt_of_pos n hp
  by_cases h1 : n % a = 0
  ·have e : upV n a = (n, true) := upV_fix hp h1
   have h3 : (n % a == 0) = true := by simpa using h1
   replace e := Lib.hid e
   clear h1 m0 ml
   go_enter Tryz.func90, Tryz.ntmps90
   go_wp2_with fail
   go_ret2
   exact ⟨by rw [e.out]; rfl, rfl⟩
  ·have h3 : (n % a == 0) = false := by simpa using h1
   have e : upV n a = if n - n % a + a < 18446744073709551616 then (n - n % a + a, true) else (0, false) := by unfold upV; rw [if_neg h0, if_neg h1]
   by_cases h4 : n - n % a + a < 18446744073709551616
   ·rw [if_pos h4] at e
    replace e := Lib.hid e
    have k1 : ¬ 18446744073709551615 - (a - n % a) < n := by omega
    have k2 : n + (a - n % a) = n - n % a + a := by omega
    go_enter Tryz.func90, Tryz.ntmps90
    go_wp2_with fail
    go_ret2
    exact ⟨by rw [e.out, ← k2]; rfl, rfl⟩
   ·rw [if_neg h4] at e
    replace e := Lib.hid e
    have k1 : 18446744073709551615 - (a - n % a) < n := by omega
    go_enter Tryz.func90, Tryz.ntmps90
    go_wp2_with fail
    go_ret2
    exact ⟨by rw [e.out]; rfl, rfl⟩
set_option maxHeartbeats 2000000 in
theorem refhas_any (B : Nat) (v : Value) (s : Two) (U : List Int) (x : Int) (w : World) (h : RPoolAt w B v s U) :
  Calls Tryz.prog 91 #[.pointer (some ⟨B, 0, none⟩), .int .u64 x] w fun e w' => e = .returned (.bool (decide (x ∈ U))) ∧ w = w' := by
 obtain ⟨c0, c1, c2⟩ := h.cells
 obtain ⟨a, cap, rfl, hmx, hrow⟩ := ownsRow_words h.own
 unfold maxLen at hmx
 clear h
 go_enter Tryz.func91, Tryz.ntmps91
 go_wp2
 go_loopw [12] (fun i wr => ∃ k : Nat, k ≤ U.length ∧ i = .int .i64 k ∧ x ∉ U.take k ∧ w = wr) (fun i _ => U.length - (intOf i).toNat)
 case atStart => exact ⟨0, Nat.zero_le _, rfl, by simp, rfl⟩
 case round =>
  obtain ⟨k, hk, rfl, hno, rfl⟩ := hrel
  by_cases hlt : k < U.length
  ·obtain ⟨g, rfl, hgl, hcell⟩ := hrow (by rintro rfl; simp at hlt)
   have h1 := hcell k hlt
   have hmem : U[k] ∈ U := List.getElem_mem hlt
   have hsn : x ∈ U.take (k + 1) ↔ x ∈ U.take k ∨ x = U[k] := by rw [List.take_succ_eq_append_getElem hlt, List.mem_append, List.mem_singleton]
   clear hcell hrow
   generalize U[k] = y at *
   by_cases q : y = x
   ·have q' : (y == x) = true := by simpa using q
    have hf : decide (x ∈ U) = true := decide_eq_true (q ▸ hmem)
    replace hf := Lib.hid hf
    go_wp2_with fail
    go_ret
    exact ⟨ret_bool hf.out.symm, rfl⟩
   ·have q' : (y == x) = false := by simpa using q
    have hn2 : x ∉ U.take (k + 1) := fun hm => (hsn.1 hm).elim hno fun e => q e.symm
    go_wp2_with fail
    go_roundw
    case rel => exact ⟨k + 1, by omega, by go_num, hn2, by trivial⟩
    case measure => simp [intOf]; omega
  ·obtain rfl : k = U.length := by omega
   rw [List.take_length] at hno
   have hf : decide (x ∈ U) = false := decide_eq_false hno
   replace hf := Lib.hid hf
   go_wp2_with fail
   go_ret
   exact ⟨ret_bool hf.out.symm, rfl⟩
set_option maxHeartbeats 2000000 in
theorem refFrames_any (B : Nat) (v : Value) (s : Two) (U : List Int) (w : World) (h : RPoolAt w B v s U) :
  Calls Tryz.prog 89 #[.pointer (some ⟨B, 0, none⟩)] w fun e w' => e = .returned (.tuple #[.int .u64 (newV s).from', .int .u64 (newV s).count]) ∧ Below w.heap.size w w' := by
 obtain ⟨c0, c1, c2⟩ := h.cells
 have hlt := h.lt
 have hu := fun W => refUp_any s.a 4096 W s.ha (by unfold W64; omega)
 have hg := fun W => refGood_any s.a s.b W s.ha s.hb
 have hl := fun W => refLast_any s.a s.b W s.ha s.hb
 have hlw := lastV_w s.ha s.hb
 have hN : newV s = (if goodB s.a s.b = true ∧ (upV s.a 4096).2 = true ∧ (upV s.a 4096).1 ≤ lastV s.a s.b then ⟨(upV s.a 4096).1, (lastV s.a s.b - (upV s.a 4096).1 + 1) / 4096, [], 0⟩ else ⟨0, 0, [], 0⟩) := rfl
 have hok := (newV_ok s).1
 have hyes := @upV_yes s.a 4096 s.ha (by unfold W64; omega)
 unfold W64 at hlw
 clear h
 cases hG : goodB s.a s.b
 ·rw [hG] at hg
  rw [if_neg (by rw [hG]; simp)] at hN
  rw [hN]
  go_enter Tryz.func89, Tryz.ntmps89
  go_wp2_with fail
  refine (hg _).mono ?_; rintro e w1 ⟨rfl, hb1⟩
  go_wp2_with fail
  go_ret2
  exact ⟨rfl, hb1⟩
 ·rw [hG] at hg
  cases hU : (upV s.a 4096).2
  ·rw [hU] at hu
   rw [if_neg (by rw [hU]; simp)] at hN
   rw [hN]
   generalize (upV s.a 4096).1 = f at *
   go_enter Tryz.func89, Tryz.ntmps89
   go_wp2_with fail
   refine (hg _).mono ?_; rintro e w1 ⟨rfl, hb1⟩
   have c0' := cell_lt hb1 c0 hlt
   have c1' := cell_lt hb1 c1 hlt
   go_wp2_with fail
   refine (hu _).mono ?_; rintro e w2 ⟨rfl, rfl⟩
   go_wp2_with fail
   go_ret2
   exact ⟨rfl, hb1⟩
  ·obtain ⟨u1, u2, u3, u4, u5⟩ := hyes hU
   have hl1 := lastV_yes hG
   rw [hU] at hu
   unfold W64 at u5
   by_cases hF : (upV s.a 4096).1 ≤ lastV s.a s.b
   ·rw [if_pos ⟨hG, hU, hF⟩] at hN
    have hq : 1 ≤ lastV s.a s.b - (upV s.a 4096).1 + 1 ∧ lastV s.a s.b - (upV s.a 4096).1 + 1 ≤ 18446744073709551616 := by omega
    rw [hN] at hok ⊢
    have hc1 := hok.c1
    have hc0 := hok.c0
    show Calls _ _ _ _ fun e w' => e = .returned (.tuple #[.int .u64 (upV s.a 4096).1, .int .u64 ((lastV s.a s.b - (upV s.a 4096).1 + 1) / 4096)]) ∧ _
    have hc2 : (lastV s.a s.b - (upV s.a 4096).1 + 1) / 4096 * 4096 ≤ 18446744073709551615 := hc1
    have hq3 : lastV s.a s.b - (upV s.a 4096).1 + 1 ≤ 18446744073709551615 ∨ lastV s.a s.b - (upV s.a 4096).1 + 1 = 18446744073709551616 := by omega
    have hq4 : lastV s.a s.b - (upV s.a 4096).1 + 1 ≤ 18446744073709551615 := by omega
    clear hN hok hc1 hc0 hyes hq3 u2 u3 u4
    generalize (upV s.a 4096).1 = f at *
    generalize lastV s.a s.b = L at *
    have k0 : ¬ L < f := by omega
    have k1 : 0 ≤ L - f := by omega
    clear hl1
    go_enter Tryz.func89, Tryz.ntmps89
    go_wp2_with fail
    refine (hg _).mono ?_; rintro e w1 ⟨rfl, hb1⟩
    have c0' := cell_lt hb1 c0 hlt
    have c1' := cell_lt hb1 c1 hlt
    have hz1 := hb1.size
    go_wp2_with fail
    refine (hu _).mono ?_; rintro e w2 ⟨rfl, rfl⟩
    go_wp2_with fail
    refine (hl _).mono ?_; rintro e w3 ⟨rfl, hb3⟩
    have c0'' := cell_lt hb3 c0' (by omega)
    have c1'' := cell_lt hb3 c1' (by omega)
    have hz3 := hb3.size
    go_wp2_with fail
    refine (hl _).mono ?_; rintro e w4 ⟨rfl, hb4⟩
    go_wp2_with fail
    go_ret2
    exact ⟨rfl, bthen (bthen hb1 hb3) hb4⟩
   ·rw [if_neg (fun h => hF h.2.2)] at hN
    rw [hN]
    clear hN hok hyes u2 u3 u4
    generalize (upV s.a 4096).1 = f at *
    generalize lastV s.a s.b = L at *
    have k0 : L < f := by omega
    clear hl1
    go_enter Tryz.func89, Tryz.ntmps89
    go_wp2_with fail
    refine (hg _).mono ?_; rintro e w1 ⟨rfl, hb1⟩
    have c0' := cell_lt hb1 c0 hlt
    have c1' := cell_lt hb1 c1 hlt
    have hz1 := hb1.size
    go_wp2_with fail
    refine (hu _).mono ?_; rintro e w2 ⟨rfl, rfl⟩
    go_wp2_with fail
    refine (hl _).mono ?_; rintro e w3 ⟨rfl, hb3⟩
    go_wp2_with fail
    go_ret2
    exact ⟨rfl, bthen hb1 hb3⟩
end Go.Proofs.YtiblhlaemmdphaaGreat
/- The walk of the reference pool's Run. -/
namespace Go.Proofs.YtiblhlaemmdphaaGreat
open Go Go.RowKit Go.BigFrame
theorem wpl_append_word_at {P : Program} {ops : Array Oper} {rest : List Oper} {o : Oper} {a : Act} {Q : Exit → Act → World → Prop} {w : World} {p : Int} {g : Nat} (hgd : o.guard = none) (s x : Operand) (S : TypeId)
  (ho : o.op = .call { callee := .builtin .append, args := #[s, x], argTypes := #[S, S] })
  (base : Nat) (E : TypeId) (hi : (P.info? E).map (fun i => (i.zero, i.size, i.bytes)) = some (some (.int .u64 0), 1, 8)) (ht : P.underlying S = some (.slice E)) (v : Value) (U : List Int) (y : Int) (hs : a.eval s = v)
  (hx : a.eval x = .slice (some ⟨g, 0, none⟩) 1 1) (hown : w.ownsRow base E 1 v U.length (U.map fun x => .int .u64 x)) (hg : g = w.heap.size) (hy : p = y) (hl : U.length < 4398046511104) (hbase : base ≤ w.heap.size)
  (h : ∀ v' w', w'.ownsRow base E 1 v' (U ++ [y]).length ((U ++ [y]).map fun x => .int .u64 x) → (w.alloc (.cells #[.int .u64 p] E)).grownBy w' v.ownBlock → (v'.ownBlock = v.ownBlock ∨ v'.ownBlock = some (w.heap.size + 1)) → wpList P ops Q rest (a.put o.dst v') w') :
  wpList P ops Q (o :: rest) a (w.alloc (.cells #[.int .u64 p] E)) := by
 subst hy
 subst hg
 obtain ⟨i0, hi1, hi2⟩ := Option.map_eq_some_iff.1 hi
 rw [Prod.mk.injEq, Prod.mk.injEq] at hi2
 obtain ⟨hz0, hz1, hz2⟩ := hi2
 refine wpList_append_own_at (P := P) _ hgd s x S ho base E i0 _ 1 8 ht hi1 hz0 hz1 hz2 rfl (by decide) v U.length (U.map fun x => .int .u64 x) hs (World.ownsRow.alloc hown _)
  ⟨w.heap.size, 0, none⟩ 1 1 [.int .u64 p] hx rfl (cell_one_new _ _ _) ?_ ?_ ?_ ?_ ?_
 ·intro u hu; simp at hu; rcases hu with rfl; rfl
 ·unfold maxLen; omega
 ·omega
 ·simp; omega
 ·intro v' w' hown' hg _ hat
  refine h v' w' ?_ hg ?_
  ·rw [List.length_append, List.map_append]; exact hown'
  ·simpa using hat
theorem Kept'.append {B : Nat} {v v1 v2 : Value} {w W W2 : World} (h : Kept' B v v1 w W) {o : Obj} (hg : (W.alloc o).grownBy W2 v1.ownBlock) (hat : v2.ownBlock = v1.ownBlock ∨ v2.ownBlock = some (W.heap.size + 1)) (u : Value) :
  Kept' B v v2 w (W2.setCell ⟨B, 2, none⟩ u) := by
 have hz := hg.size
 have hz0 := h.kept.size
 simp only [World.size_alloc] at hz
 refine ⟨⟨hg.os.trans h.kept.os, hg.tape.trans h.kept.tape, hg.output.trans h.kept.output, by simp [World.setCell]; omega, fun k h1 h2 h3 => ?_⟩, fun k e => ?_⟩
 ·rw [Below.heap_setCell _ _ _ k (by simpa using h2), hg.block k (by simp; omega) (fun e => ?_), (bone W o).block k (by omega)]
  ·exact h.kept.block k h1 h2 h3
  ·rcases h.fresh k e.symm with h4 | h4
   ·exact h3 h4
   ·omega
 ·rcases hat with h1 | h1
  ·exact h.fresh k (h1.symm.trans e)
  ·rw [h1] at e; cases e; exact .inr (by omega)
theorem RPoolAt.grownBlk {W W2 : World} {B : Nat} {v1 : Value} {s : Two} {U : List Int} (h : RPoolAt W B v1 s U) {o : Obj} (hg : (W.alloc o).grownBy W2 v1.ownBlock) : W2.heap[B]? = some (.cells #[.int .u64 s.a, .int .u64 s.b, v1] 52 (0, 0)) := by
 rw [hg.block B (by have := h.lt; simp; omega) (fun e => ?_), (bone W o).block B h.lt]
 ·exact h.blk
 ·have := (World.ownsRow.lt h.own B e.symm).1; omega
theorem RPoolAt.append {W2 : World} {B : Nat} {v1 v2 : Value} {s : Two} {U : List Int} (h : W2.heap[B]? = some (.cells #[.int .u64 s.a, .int .u64 s.b, v1] 52 (0, 0))) (ho : W2.ownsRow (B + 1) 26 1 v2 U.length (U.map fun x => .int .u64 x)) :
  RPoolAt (W2.setCell ⟨B, 2, none⟩ v2) B v2 s U := by
 refine ⟨by rw [heap_setCell_at h]; rfl, ho.1, ?_⟩
 rcases ho.2 with hc | ⟨g, cap, cur, hv, hb, hgk, hr⟩
 ·exact .inl hc
 ·exact .inr ⟨g, cap, cur, hv, hb, (Below.heap_setCell _ _ _ g (by simp; omega)).trans hgk, hr⟩
def freeK (U : List Int) (m : Int) (k : Nat) : Bool := (List.range k).all fun (j : Nat) => !decide (m + 4096 * (j : Int) ∈ U)
theorem freeK_succ (U : List Int) (m : Int) (k : Nat) : freeK U m (k + 1) = (freeK U m k && !decide (m + 4096 * (k : Int) ∈ U)) := by
 unfold freeK; rw [List.range_succ, List.all_append]; simp only [List.all_cons, List.all_nil, Bool.and_true]
theorem freeK_iff {U : List Int} {m : Int} {k : Nat} : freeK U m k = true ↔ ∀ j : Nat, j < k → m + 4096 * (j : Int) ∉ U := by
 unfold freeK; simp
theorem infoWord : (Tryz.prog.info? 26).map (fun i => (i.zero, i.size, i.bytes)) = some (some (.int .u64 0), 1, 8) := by kernel_rfl
theorem mul_next {a m q : Int} (_ha : 0 < a) (hm : m % a = 0) (hq : q % a = 0) (h : q < m + a) : q ≤ m := by
 refine Classical.byContradiction fun hh => ?_
 have h1 : (q - m) % a = 0 := by rw [Int.sub_emod, hm, hq]; simp
 have h2 : (q - m) % a = q - m := Int.emod_eq_of_lt (by omega) (by omega)
 omega
set_option maxHeartbeats 4000000 in
theorem refRun_go (B : Nat) (v : Value) (s : Two) (U : List Int) (p : Pl) (n align : Int) (w : World) (hok : PlOk p) (hsame : p.from' = (newV s).from' ∧ p.count = (newV s).count) (hR : RefInv p U) (h : RPoolAt w B v s U) (hal : W64 align) (hl : U.length ≤ 1000000) (ho : p.out + n < 18446744073709551616) (ha : askB n align = true) :
  Calls Tryz.prog 69 #[.pointer (some ⟨B, 0, none⟩), .int .i64 n, .int .u64 align] w fun e w' => ∃ v' U', e = .returned (.tuple #[.int .u64 (runV p n align).2.1, .int .i64 (runV p n align).2.2]) ∧ RPoolAt w' B v' s U' ∧ RefInv (runV p n align).1 U' ∧ Kept' B v v' w w' := by
 obtain ⟨n1, n2, a0, a1⟩ := askB_iff.1 ha
 have k1 : ¬ n < 1 := by omega
 have k2 : ¬ 4096 < n := by omega
 have k3 : (align == 0) = false := by simpa using a0
 have k4 : (align % 4096 != 0) = false := by simpa using a1
 have hF := refFrames_any B v s U w h
 rw [← hsame.1, ← hsame.2] at hF
 clear hsame
 have f0 := hok.f0; have f1 := hok.f1; have q0 := hok.c0; have q1 := hok.c1; have htop := hok.top; have fal := hok.al
 have hUp := fun W => refUp_any p.from' align W (by unfold W64; omega) hal
 have hal' := hal
 unfold W64 at hal'
 have hFit := fun m (hm : m % 4096 = 0) => hR.fit (m := m) hm n1
 by_cases hcn : p.count < n
 ·have hn : runV p n align = (p, 0, 110) := run_none hok hal ha fun q hq hf => by
   have e1 := (hf q (by omega) (by omega)).1
   have e2 := (hf (q + n * 4096 - 1) (by omega) (by omega)).1
   omega
  rw [hn]
  go_enter Tryz.func69, Tryz.ntmps69
  go_wp2_with fail
  refine hF.mono ?_; rintro e w1 ⟨rfl, hb1⟩
  go_wp2_with fail
  go_ret2
  exact ⟨v, U, rfl, h.below hb1, hR, ⟨Kept.of_below hb1, fun k e => .inl e⟩⟩
 ·have hfin : ∀ q, FitAt p n q → p.from' ≤ q ∧ q + n * 4096 ≤ p.from' + p.count * 4096 := fun q hf => by
   have e1 := (hf q (by omega) (by omega)).1
   have e2 := (hf (q + n * 4096 - 1) (by omega) (by omega)).1
   omega
  cases hup : (upV p.from' align).2
  ·have hn : runV p n align = (p, 0, 110) := run_none hok hal ha fun q hq hf => by
    have := hfin q hf
    have := (upV_least (n := p.from') (a := align) (m := q) (by omega) hq (by omega) (by omega)).1
    rw [hup] at this; cases this
   rw [hn]
   rw [hup] at hUp
   generalize (upV p.from' align).1 = A at *
   go_enter Tryz.func69, Tryz.ntmps69
   go_wp2_with fail
   refine hF.mono ?_; rintro e w1 ⟨rfl, hb1⟩
   go_wp2_with fail
   refine (hUp _).mono ?_; rintro e w2 ⟨rfl, rfl⟩
   go_wp2_with fail
   go_loopw [10] (fun i W => i = .int .u64 A ∧ w1 = W) (fun _ _ => 0)
   case atStart => exact ⟨rfl, rfl⟩
   case round =>
    obtain ⟨rfl, rfl⟩ := hrel
    go_wp2_with fail
    go_ret2
    exact ⟨v, U, rfl, h.below hb1, hR, ⟨Kept.of_below hb1, fun k e => .inl e⟩⟩
  ·obtain ⟨u1, u2, u3, u4, u5⟩ := upV_yes (n := p.from') (a := align) (by unfold W64; omega) hal hup
   unfold W64 at u5
   have hstart : ∀ q, q % align = 0 → q < (upV p.from' align).1 → ¬ FitAt p n q := fun q hq hlt hf => by
    have := hfin q hf
    have := (upV_least (n := p.from') (a := align) (m := q) (by omega) hq (by omega) (by omega)).2
    omega
   rw [hup] at hUp
   generalize (upV p.from' align).1 = A at *
   replace hstart := Lib.hid hstart
   replace hfin := Lib.hid hfin
   replace hFit := Lib.hid hFit
   replace ha := Lib.hid ha
   clear hup u4
   go_enter Tryz.func69, Tryz.ntmps69
   go_wp2_with fail
   refine hF.mono ?_; rintro e w1 ⟨rfl, hb1⟩
   clear hF
   go_wp2_with fail
   refine (hUp _).mono ?_; rintro e w2 ⟨rfl, rfl⟩
   clear hUp
   have h1 := h.below hb1
   have hhas := fun x => refhas_any B v s U x w1 h1
   have hK1 : Kept' B v v w w1 := ⟨Kept.of_below hb1, fun k e => .inl e⟩
   clear h hb1
   go_wp2_with fail
   go_loopw [10] (fun i W => ∃ m : Int, i = .int .u64 m ∧ 0 ≤ m ∧ m < 18446744073709551616 ∧ m % align = 0 ∧ p.from' ≤ m ∧ Hid (∀ q, q % align = 0 → q < m → ¬ FitAt p n q) ∧ w1 = W) (fun i _ => (18446744073709551616 - intOf i).toNat)
   case atStart => exact ⟨A, rfl, u5.1, u5.2, u2, u3, hstart, rfl⟩
   case round =>
    obtain ⟨m, rfl, m0, m1, mal, mF, hmin, rfl⟩ := hrel
    have m4 : m % 4096 = 0 := Int.emod_eq_zero_of_dvd (Int.dvd_trans (Int.dvd_of_emod_eq_zero a1) (Int.dvd_of_emod_eq_zero mal))
    replace mal := Lib.hid mal
    by_cases hin : (m - p.from') / 4096 ≤ p.count - n
    ·have hin2 : m + n * 4096 ≤ p.from' + p.count * 4096 := by omega
     go_wp2_with fail
     go_loopw [12, 13] (fun f i W => ∃ k : Nat, (k : Int) ≤ n ∧ i = .int .i64 k ∧ f = .bool (freeK U m k) ∧ w1 = W) (fun _ i _ => (n - intOf i).toNat)
     case atStart => exact ⟨0, by omega, rfl, rfl, rfl⟩
     case round =>
      obtain ⟨k, hk, rfl, rfl, rfl⟩ := hrel
      by_cases hlt : (k : Int) < n
      ·have hs := Lib.hid (freeK_succ U m k)
       have hh := hhas (m + 4096 * (k : Int))
       generalize decide (m + 4096 * (k : Int) ∈ U) = r at *
       cases hd : freeK U m k
       ·rw [hd] at hs
        clear hhas
        go_wp2_with fail
        go_roundw
        case rel => exact ⟨k + 1, by omega, by go_num, by rw [hs.out]; rfl, by trivial⟩
        case measure => simp [intOf]; omega
       ·rw [hd] at hs
        clear hhas
        go_wp2_with fail
        refine hh.mono ?_; rintro e w3 ⟨rfl, rfl⟩
        clear hh
        go_wp2_with fail
        go_roundw
        case rel => exact ⟨k + 1, by omega, by go_num, by rw [hs.out]; rfl, by trivial⟩
        case measure => simp [intOf]; omega
      ·have hkn : (k : Int) = n := by omega
       clear hhas
       cases hd : freeK U m k
       ·have hnf : ¬ FitAt p n m := fun hf => by
         have := ((hFit.out m m4).1 hf).2.2
         rw [freeK_iff.2 (fun j hj => this j (by omega))] at hd
         cases hd
        have hnext : Hid (∀ q, q % align = 0 → q < m + align → ¬ FitAt p n q) := Lib.hid fun q hq hlt hf => by
         have := mul_next (by omega) mal.out hq hlt
         rcases Int.lt_or_le q m with h5 | h5
         ·exact hmin.out q hq h5 hf
         ·obtain rfl : q = m := by omega
          exact hnf hf
        clear hnf
        by_cases hbr : 18446744073709551615 - align < m
        ·have hn : runV p n align = (p, 0, 110) := run_none hok hal ha.out fun q hq hf => by
          have := hfin.out q hf
          exact hnext.out q hq (by omega) hf
         replace hn := Lib.hid hn
         go_wp2_with fail
         go_ret2
         first | exact ⟨v, U, by rw [hn.out]; rfl, h1, by rw [hn.out]; exact hR, hK1⟩ | exact ⟨by rw [hn.out]; rfl, v, U, h1, by rw [hn.out]; exact hR, hK1⟩
        ·go_wp2_with fail
         go_roundw
         case rel => exact ⟨m + align, by go_num, by omega, by omega, by rw [Int.add_emod_right]; exact mal.out, by omega, hnext, by trivial⟩
         case measure => simp [intOf]; omega
       ·have hf : FitAt p n m := (hFit.out m m4).2 ⟨mF, hin2, fun j hj => freeK_iff.1 hd j (by omega)⟩
        obtain ⟨t, x, hg, hx1, hx2, he⟩ := run_least hok hal ha.out mal.out hf hmin.out
        have hstep := Lib.hid (hR.step hg x hx1 hx2 ho)
        replace he := Lib.hid he
        clear hg hf hx1 hx2 hmin hFit
        go_wp2_with fail
        go_loopw [14] (fun i W => ∃ (j : Nat) (vj : Value), (j : Int) ≤ n ∧ i = .int .i64 j ∧ RPoolAt W B vj s (U ++ frames m j) ∧ Kept' B v vj w W) (fun i _ => (n - intOf i).toNat)
        case atStart => exact ⟨0, v, by omega, rfl, (List.append_nil U).symm ▸ h1, hK1⟩
        case round =>
         obtain ⟨j, vj, hj, rfl, hpj, hkj⟩ := hrel
         by_cases hjn : (j : Int) < n
         ·have hlen : Hid ((U ++ frames m j).length = U.length + j) := Lib.hid (by rw [List.length_append, frames_len])
          have hsucc : Hid (U ++ frames m j ++ [m + 4096 * (j : Int)] = U ++ frames m (j + 1)) := Lib.hid (by rw [frames_succ, List.append_assoc])
          generalize U ++ frames m j = L at *
          obtain ⟨Aj, Cj, rfl, _, _⟩ := ownsRow_words hpj.own
          obtain ⟨d0, d1, d2⟩ := hpj.cells
          have hBl := hpj.lt
          go_wp2_with (at_builtin; refine wpl_append_word_at (g := wr.heap.size) ?_ (.tmp 83) (.tmp 89) 42 ?_ (B + 1) 26 infoWord Tryz.underlying42 (.slice Aj L.length Cj) L (m + 4096 * (j : Int)) ?_ ?_ hpj.own rfl ?_ ?_ ?_ ?_; (focus rfl); (focus rfl); (focus rfl); (focus rfl); (focus (first | rfl | (rw [IntKind.wrap_u64]; omega))); (focus (have := hlen.out; omega)); (focus omega); intro vn w7 hown7 hgrow7 hat7; have hblk7 := hpj.grownBlk hgrow7; have hk7 := hkj.append hgrow7 hat7 vn; have z7 : w7.cell? ⟨B, 2, none⟩ = some (.slice Aj L.length Cj) := (by simp [World.cell?, hblk7]); have f7 : w7.frozen? ⟨B, 2, none⟩ = false := (by simp [World.frozen?, hblk7]); have hp7 := RPoolAt.append hblk7 hown7; obtain ⟨An, Cn, rfl, _, _⟩ := ownsRow_words hown7; clear hgrow7 hat7)
          go_roundw
          case rel => exact ⟨j + 1, .slice An (L.length + 1) Cn, by omega, by go_num, by rw [← hsucc.out]; rw [show (L ++ [m + 4096 * (j : Int)]).length = L.length + 1 by simp] at hp7; exact hp7, by rw [show (L ++ [m + 4096 * (j : Int)]).length = L.length + 1 by simp] at hk7; exact hk7⟩
          case measure => simp [intOf]; omega
         ·have hjn' : n.toNat = j := by omega
          rw [hjn'] at hstep
          go_wp2_with fail
          go_ret2
          first | exact ⟨vj, _, by rw [he.out]; rfl, hpj, by rw [he.out]; exact hstep.out, hkj⟩ | exact ⟨by rw [he.out]; rfl, vj, _, hpj, by rw [he.out]; exact hstep.out, hkj⟩
    ·have hn : runV p n align = (p, 0, 110) := run_none hok hal ha.out fun q hq hf => by
      have := hfin.out q hf
      rcases Int.lt_or_le q m with h5 | h5
      ·exact hmin.out q hq h5 hf
      ·omega
     replace hn := Lib.hid hn
     clear hhas
     go_wp2_with fail
     go_ret2
     first | exact ⟨v, U, by rw [hn.out]; rfl, h1, by rw [hn.out]; exact hR, hK1⟩ | exact ⟨by rw [hn.out]; rfl, v, U, h1, by rw [hn.out]; exact hR, hK1⟩
end Go.Proofs.YtiblhlaemmdphaaGreat
/- The reference pool's Run, whatever is asked; what each pool's Run leaves of the other. -/
namespace Go.Proofs.YtiblhlaemmdphaaGreat
open Go Go.RowKit Go.BigFrame
set_option maxHeartbeats 1000000 in
theorem refRun_bad (B : Nat) (n align : Int) (w : World) (ha : W64 align) (h : askB n align = false) :
  Calls Tryz.prog 69 #[.pointer (some ⟨B, 0, none⟩), .int .i64 n, .int .u64 align] w fun e w' => e = .returned (.tuple #[.int .u64 0, .int .i64 1]) ∧ w = w' := by
 have a0 := ha.1
 have hn : ¬ (1 ≤ n ∧ n ≤ 4096 ∧ align ≠ 0 ∧ align % 4096 = 0) := fun hh => by rw [askB_iff.2 hh] at h; cases h
 by_cases k1 : n < 1
 ·go_enter Tryz.func69, Tryz.ntmps69
  go_wp2_with fail
  go_ret2
  exact ⟨rfl, rfl⟩
 ·by_cases k2 : 4096 < n
  ·go_enter Tryz.func69, Tryz.ntmps69
   go_wp2_with fail
   go_ret2
   exact ⟨rfl, rfl⟩
  ·by_cases h3 : align = 0
   ·subst h3
    clear hn h
    go_enter Tryz.func69, Tryz.ntmps69
    go_wp2_with fail
    go_ret2
    exact ⟨rfl, rfl⟩
   ·have k3 : (align == 0) = false := by simpa using h3
    have k4 : (align % 4096 != 0) = true := by
     simp only [bne_iff_ne, ne_eq]
     exact fun h4 => hn ⟨by omega, by omega, h3, h4⟩
    clear hn h
    go_enter Tryz.func69, Tryz.ntmps69
    go_wp2_with fail
    go_ret2
    exact ⟨rfl, rfl⟩
theorem refRun_any (B : Nat) (v : Value) (s : Two) (U : List Int) (p : Pl) (n align : Int) (w : World) (hok : PlOk p) (hsame : p.from' = (newV s).from' ∧ p.count = (newV s).count) (hR : RefInv p U) (h : RPoolAt w B v s U) (hal : W64 align) (hl : U.length ≤ 1000000) (ho : p.out + 4096 < 18446744073709551616) :
  Calls Tryz.prog 69 #[.pointer (some ⟨B, 0, none⟩), .int .i64 n, .int .u64 align] w fun e w' => ∃ v' U', e = .returned (.tuple #[.int .u64 (runV p n align).2.1, .int .i64 (runV p n align).2.2]) ∧ RPoolAt w' B v' s U' ∧ RefInv (runV p n align).1 U' ∧ Kept' B v v' w w' := by
 cases ha : askB n align
 ·have e : runV p n align = (p, 0, 1) := by unfold runV; rw [ha]; rfl
  rw [e]
  exact (refRun_bad B n align w hal ha).mono fun e w' ⟨he, hw⟩ => by subst hw; exact ⟨v, U, he, h, hR, ⟨Kept.of_below (Below.refl _ _), fun k e => .inl e⟩⟩
 ·exact refRun_go B v s U p n align w hok hsame hR h hal hl (by have := (askB_iff.1 ha).2.1; omega) ha
end Go.Proofs.YtiblhlaemmdphaaGreat
