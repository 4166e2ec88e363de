/- The reference's pool as it lies in memory; the walks of its Frames, has and Has, and of the program's Has. -/
import Derived.Test.YtehijlgopmbglaaFrameE
namespace Go.Proofs.Ytehijlgopmbglaa
open Go Go.RowKit Go.BigFrame

/-- The reference's pool lies in block 'B'; what is handed out, in the row of slice 'v'. -/
structure RPoolAt (w : World) (B : Nat) (v : Value) (s : Two) (U : List Int) : Prop where
  blk : w.heap[B]? = some (.cells #[.int .u64 s.a, .int .u64 s.b, v] 45 (0, 0))
  own : w.ownsRow (B + 1) 22 1 v U.length (U.map fun x => .int .u64 x)
theorem RPoolAt.lt {w : World} {B : Nat} {v : Value} {s : Two} {U : List Int} (h : RPoolAt w B v s U) : B < w.heap.size := (Array.getElem?_eq_some_iff.1 h.blk).1
theorem RPoolAt.cells {w : World} {B : Nat} {v : Value} {s : Two} {U : List Int} (h : RPoolAt w B v s U) : w.cell? ⟨B, 0, none⟩ = some (.int .u64 s.a) ∧ w.cell? ⟨B, 1, none⟩ = some (.int .u64 s.b) ∧ w.cell? ⟨B, 2, none⟩ = some v := by
  refine ⟨?_, ?_, ?_⟩ <;> simp [World.cell?, h.blk]
theorem RPoolAt.frozen {w : World} {B : Nat} {v : Value} {s : Two} {U : List Int} (h : RPoolAt w B v s U) (o : Nat) : w.frozen? ⟨B, o, none⟩ = false := by simp [World.frozen?, h.blk]
theorem ownsRow_below {E : TypeId} {w w' : World} {base B k n : Nat} {v : Value} {l : List Value} (h : w.ownsRow base E k v n l) (hb : Below B w w') (hB : w.heap.size ≤ B) : w'.ownsRow base E k v n l := by
  obtain ⟨hlen, hc⟩ := h
  refine ⟨hlen, ?_⟩
  rcases hc with hc | ⟨g, cap, cur, hv, hbg, hg, hr⟩
  · exact .inl hc
  · refine .inr ⟨g, cap, cur, hv, hbg, ?_, hr⟩
    rw [hb.block g (Nat.lt_of_lt_of_le (Array.getElem?_eq_some_iff.1 hg).1 hB)]; exact hg
theorem RPoolAt.below {w w' : World} {B : Nat} {v : Value} {s : Two} {U : List Int} (h : RPoolAt w B v s U) (hb : Below w.heap.size w w') : RPoolAt w' B v s U :=
  ⟨(hb.block B h.lt).trans h.blk, ownsRow_below h.own hb (Nat.le_refl _)⟩
theorem ownsRow_words {E : TypeId} {w : World} {base : Nat} {v : Value} {U : List Int} (h : w.ownsRow base E 1 v U.length (U.map fun x => .int .u64 x)) :
    ∃ (a : Option Addr) (cap : Nat), v = .slice a U.length cap ∧ U.length ≤ maxLen ∧ (U ≠ [] → ∃ g, a = some ⟨g, 0, none⟩ ∧ g < w.heap.size ∧ ∀ i (h : i < U.length), w.cell? ⟨g, i, none⟩ = some (.int .u64 U[i])) := by
  obtain ⟨hlen, ⟨rfl, h0⟩ | ⟨g, cap, cur, rfl, hb, hg, hn, hm, hs, hx⟩⟩ := h
  · have e := List.length_eq_zero_iff.1 h0
    subst e
    exact ⟨none, 0, rfl, by decide, fun h => absurd rfl h⟩
  · refine ⟨some ⟨g, 0, none⟩, cap, rfl, Nat.le_trans hn hm, fun _ => ⟨g, rfl, (Array.getElem?_eq_some_iff.1 hg).1, fun i hi => ?_⟩⟩
    have h1 : (cur.toList.take (U.length * 1))[i]? = some (.int .u64 U[i]) := by rw [hx, List.getElem?_map, List.getElem?_eq_getElem hi]; rfl
    rw [List.getElem?_take, if_pos (by omega)] at h1
    simp only [World.cell?, hg]
    simpa using h1

set_option maxHeartbeats 1000000 in
theorem refUp_any (n a : Int) (w : World) (hn : W64 n) (ha : W64 a) :
    Calls Try.prog 29 #[.int .u64 n, .int .u64 a] w fun e w' => e = .returned (.tuple #[.int .u64 (upV n a).1, .bool (upV n a).2]) ∧ w = w' := by
  unfold W64 at hn ha
  by_cases h0 : a = 0
  · have e : upV n a = (0, false) := by unfold upV; rw [if_pos h0]
    replace e := Lib.hid e
    subst h0
    go_enter Try.func29, Try.ntmps29
    go_wp2
    go_ret2
    exact ⟨by rw [e.out]; rfl, rfl⟩
  · have h2 : (a == 0) = false := by simpa using h0
    have hp : 0 < a := by omega
    have m0 := Int.emod_nonneg n h0
    have ml := Int.emod_lt_of_pos n hp
    by_cases h1 : n % a = 0
    · have e : upV n a = (n, true) := upV_fix hp h1
      have h3 : (n % a == 0) = true := by simpa using h1
      replace e := Lib.hid e
      clear h1 m0 ml
      go_enter Try.func29, Try.ntmps29
      go_wp2_with fail
      go_ret2
      exact ⟨by rw [e.out]; rfl, rfl⟩
    · have h3 : (n % a == 0) = false := by simpa using h1
      have e : upV n a = if n - n % a + a < 18446744073709551616 then (n - n % a + a, true) else (0, false) := by unfold upV; rw [if_neg h0, if_neg h1]
      by_cases h4 : n - n % a + a < 18446744073709551616
      · rw [if_pos h4] at e
        replace e := Lib.hid e
        have k1 : ¬ 18446744073709551615 - (a - n % a) < n := by omega
        have k2 : n + (a - n % a) = n - n % a + a := by omega
        go_enter Try.func29, Try.ntmps29
        go_wp2_with fail
        go_ret2
        exact ⟨by rw [e.out, ← k2]; rfl, rfl⟩
      · rw [if_neg h4] at e
        replace e := Lib.hid e
        have k1 : 18446744073709551615 - (a - n % a) < n := by omega
        go_enter Try.func29, Try.ntmps29
        go_wp2_with fail
        go_ret2
        exact ⟨by rw [e.out]; rfl, rfl⟩

set_option maxHeartbeats 2000000 in
theorem refhas_any (B : Nat) (v : Value) (s : Two) (U : List Int) (x : Int) (w : World) (h : RPoolAt w B v s U) :
    Calls Try.prog 30 #[.pointer (some ⟨B, 0, none⟩), .int .u64 x] w fun e w' => e = .returned (.bool (decide (x ∈ U))) ∧ w = w' := by
  obtain ⟨c0, c1, c2⟩ := h.cells
  obtain ⟨a, cap, rfl, hmx, hrow⟩ := ownsRow_words h.own
  unfold maxLen at hmx
  clear h
  go_enter Try.func30, Try.ntmps30
  go_wp2
  go_loopw [12] (fun i wr => ∃ k : Nat, k ≤ U.length ∧ i = .int .i64 k ∧ x ∉ U.take k ∧ w = wr) (fun i _ => U.length - (intOf i).toNat)
  case atStart => exact ⟨0, Nat.zero_le _, rfl, by simp, rfl⟩
  case round =>
    obtain ⟨k, hk, rfl, hno, rfl⟩ := hrel
    by_cases hlt : k < U.length
    · obtain ⟨g, rfl, hgl, hcell⟩ := hrow (by rintro rfl; simp at hlt)
      have h1 := hcell k hlt
      have hmem : U[k] ∈ U := List.getElem_mem hlt
      have hsn : x ∈ U.take (k + 1) ↔ x ∈ U.take k ∨ x = U[k] := by rw [List.take_succ_eq_append_getElem hlt, List.mem_append, List.mem_singleton]
      clear hcell hrow
      generalize U[k] = y at *
      by_cases q : y = x
      · have q' : (y == x) = true := by simpa using q
        have hf : decide (x ∈ U) = true := decide_eq_true (q ▸ hmem)
        replace hf := Lib.hid hf
        go_wp2_with fail
        go_ret
        exact ⟨ret_bool hf.out.symm, rfl⟩
      · have q' : (y == x) = false := by simpa using q
        have hn2 : x ∉ U.take (k + 1) := fun hm => (hsn.1 hm).elim hno fun e => q e.symm
        go_wp2_with fail
        go_roundw
        case rel => exact ⟨k + 1, by omega, by go_num, hn2, by trivial⟩
        case measure => simp [intOf]; omega
    · obtain rfl : k = U.length := by omega
      rw [List.take_length] at hno
      have hf : decide (x ∈ U) = false := decide_eq_false hno
      replace hf := Lib.hid hf
      go_wp2_with fail
      go_ret
      exact ⟨ret_bool hf.out.symm, rfl⟩

theorem refHas_any (B : Nat) (v : Value) (s : Two) (U : List Int) (x : Int) (w : World) (hx : W64 x) (h : RPoolAt w B v s U) :
    Calls Try.prog 19 #[.pointer (some ⟨B, 0, none⟩), .int .u64 x] w fun e w' => e = .returned (.bool (decide (x / 4096 * 4096 ∈ U))) ∧ w = w' := by
  unfold W64 at hx
  have hc := refhas_any B v s U (x / 4096 * 4096) w h
  generalize decide (x / 4096 * 4096 ∈ U) = r at *
  have k1 : 0 ≤ x / 4096 := by omega
  have k2 : x / 4096 * 4096 ≤ 18446744073709551615 := by omega
  go_enter Try.func19, Try.ntmps19
  go_wp2_with fail
  refine hc.mono ?_; rintro e w1 ⟨rfl, rfl⟩
  go_wp2_with fail
  go_ret
  exact ⟨rfl, rfl⟩

set_option maxHeartbeats 2000000 in
theorem poolHas_any (B : Nat) (v : Value) (p : Pl) (x : Int) (w : World) (h : PoolAt w B v p) (hl : p.used.length < 9223372036854775808) :
    Calls Try.prog 18 #[.pointer (some ⟨B, 0, none⟩), .int .u64 x] w fun e w' => e = .returned (.bool (inV p.used x)) ∧ Below w.heap.size w w' := by
  obtain ⟨c0, c1, c2, c3⟩ := h.cells
  obtain ⟨a, cap, rfl, hcap, hrow⟩ := h.row
  clear h
  generalize p.used = U at *
  go_enter Try.func18, Try.ntmps18
  go_wp2
  go_loopw [14] (fun i wr => ∃ k : Nat, k ≤ U.length ∧ i = .int .i64 k ∧ inV (U.take k) x = false ∧ Below w.heap.size w wr) (fun i _ => U.length - (intOf i).toNat)
  case atStart => exact ⟨0, Nat.zero_le _, rfl, rfl, Below.refl _ _⟩
  case round =>
    obtain ⟨k, hk, rfl, hno, hB⟩ := hrel
    have hB1 : w.heap.size ≤ wr.heap.size := hB.size
    by_cases hlt : k < U.length
    · obtain ⟨b, off, rfl, hbl, hcell⟩ := hrow (by rintro rfl; simp at hlt)
      have h1 := (hcell k hlt).1
      have h2 := (hcell k hlt).2
      rw [← hB.cell (p := ⟨b, _, none⟩) hbl] at h1 h2
      have hmem : U[k] ∈ U := List.getElem_mem hlt
      have hsn : inV (U.take (k + 1)) x = (inV (U.take k) x || hasB U[k].a U[k].b x) := by unfold inV; rw [List.take_succ_eq_append_getElem hlt, List.any_append]; simp only [List.any_cons, List.any_nil, Bool.or_false]
      rw [hno, Bool.false_or] at hsn
      have hh := fun W => has_any U[k].a U[k].b x W U[k].ha U[k].hb
      have hyes : hasB U[k].a U[k].b x = true → inV U x = true := fun h => covS_inV.2 ⟨U[k], hmem, h⟩
      clear hcell hrow hmem
      generalize U[k] = y at *
      have x0 := (alloc_two wr (.int .u64 y.a) (.int .u64 y.b) 24).1
      have x1 := (alloc_two wr (.int .u64 y.a) (.int .u64 y.b) 24).2
      cases hr : hasB y.a y.b x
      · rw [hr] at hh hsn
        go_wp2_with fail
        refine (hh _).mono ?_; rintro e w1 ⟨rfl, hb1⟩
        go_wp2_with fail
        go_roundw
        case rel => exact ⟨k + 1, by omega, by go_num, hsn, hB.trans ((bnew hb1).mono hB1)⟩
        case measure => simp [intOf]; omega
      · rw [hr] at hh
        have hf := hyes hr
        replace hf := Lib.hid hf
        go_wp2_with fail
        refine (hh _).mono ?_; rintro e w1 ⟨rfl, hb1⟩
        go_wp2_with fail
        go_ret
        exact ⟨ret_bool hf.out.symm, hB.trans ((bnew hb1).mono hB1)⟩
    · obtain rfl : k = U.length := by omega
      rw [List.take_length] at hno
      replace hno := Lib.hid hno
      go_wp2_with fail
      go_ret
      exact ⟨ret_bool hno.out.symm, hB⟩

set_option maxHeartbeats 2000000 in
theorem refFrames_any (B : Nat) (v : Value) (s : Two) (U : List Int) (w : World) (h : RPoolAt w B v s U) :
    Calls Try.prog 16 #[.pointer (some ⟨B, 0, none⟩)] w fun e w' => e = .returned (.tuple #[.int .u64 (newV s).from', .int .u64 (newV s).count]) ∧ Below w.heap.size w w' := by
  obtain ⟨c0, c1, c2⟩ := h.cells
  have hlt := h.lt
  have hu := fun W => refUp_any s.a 4096 W s.ha (by unfold W64; omega)
  have hg := fun W => refGood_any s.a s.b W s.ha s.hb
  have hl := fun W => refLast_any s.a s.b W s.ha s.hb
  have hlw := lastV_w s.ha s.hb
  have hN : newV s = (if goodB s.a s.b = true ∧ (upV s.a 4096).2 = true ∧ (upV s.a 4096).1 ≤ lastV s.a s.b then ⟨(upV s.a 4096).1, (lastV s.a s.b - (upV s.a 4096).1 + 1) / 4096, [], 0⟩ else ⟨0, 0, [], 0⟩) := rfl
  have hok := (newV_ok s).1
  have hyes := @upV_yes s.a 4096 s.ha (by unfold W64; omega)
  unfold W64 at hlw
  clear h
  cases hG : goodB s.a s.b
  · rw [hG] at hg
    rw [if_neg (by rw [hG]; simp)] at hN
    rw [hN]
    go_enter Try.func16, Try.ntmps16
    go_wp2_with fail
    refine (hg _).mono ?_; rintro e w1 ⟨rfl, hb1⟩
    go_wp2_with fail
    go_ret2
    exact ⟨rfl, hb1⟩
  · rw [hG] at hg
    cases hU : (upV s.a 4096).2
    · rw [hU] at hu
      rw [if_neg (by rw [hU]; simp)] at hN
      rw [hN]
      generalize (upV s.a 4096).1 = f at *
      go_enter Try.func16, Try.ntmps16
      go_wp2_with fail
      refine (hg _).mono ?_; rintro e w1 ⟨rfl, hb1⟩
      have c0' := cell_lt hb1 c0 hlt
      have c1' := cell_lt hb1 c1 hlt
      go_wp2_with fail
      refine (hu _).mono ?_; rintro e w2 ⟨rfl, rfl⟩
      go_wp2_with fail
      go_ret2
      exact ⟨rfl, hb1⟩
    · obtain ⟨u1, u2, u3, u4, u5⟩ := hyes hU
      have hl1 := lastV_yes hG
      rw [hU] at hu
      unfold W64 at u5
      by_cases hF : (upV s.a 4096).1 ≤ lastV s.a s.b
      · rw [if_pos ⟨hG, hU, hF⟩] at hN
        have hq : 1 ≤ lastV s.a s.b - (upV s.a 4096).1 + 1 ∧ lastV s.a s.b - (upV s.a 4096).1 + 1 ≤ 18446744073709551616 := by omega
        rw [hN] at hok ⊢
        have hc1 := hok.c1
        have hc0 := hok.c0
        show Calls _ _ _ _ fun e w' => e = .returned (.tuple #[.int .u64 (upV s.a 4096).1, .int .u64 ((lastV s.a s.b - (upV s.a 4096).1 + 1) / 4096)]) ∧ _
        have hc2 : (lastV s.a s.b - (upV s.a 4096).1 + 1) / 4096 * 4096 ≤ 18446744073709551615 := hc1
        have hq3 : lastV s.a s.b - (upV s.a 4096).1 + 1 ≤ 18446744073709551615 ∨ lastV s.a s.b - (upV s.a 4096).1 + 1 = 18446744073709551616 := by omega
        have hq4 : lastV s.a s.b - (upV s.a 4096).1 + 1 ≤ 18446744073709551615 := by omega
        clear hN hok hc1 hc0 hyes hq3 u2 u3 u4
        generalize (upV s.a 4096).1 = f at *
        generalize lastV s.a s.b = L at *
        have k0 : ¬ L < f := by omega
        have k1 : 0 ≤ L - f := by omega
        clear hl1
        go_enter Try.func16, Try.ntmps16
        go_wp2_with fail
        refine (hg _).mono ?_; rintro e w1 ⟨rfl, hb1⟩
        have c0' := cell_lt hb1 c0 hlt
        have c1' := cell_lt hb1 c1 hlt
        have hz1 := hb1.size
        go_wp2_with fail
        refine (hu _).mono ?_; rintro e w2 ⟨rfl, rfl⟩
        go_wp2_with fail
        refine (hl _).mono ?_; rintro e w3 ⟨rfl, hb3⟩
        have c0'' := cell_lt hb3 c0' (by omega)
        have c1'' := cell_lt hb3 c1' (by omega)
        have hz3 := hb3.size
        go_wp2_with fail
        refine (hl _).mono ?_; rintro e w4 ⟨rfl, hb4⟩
        go_wp2_with fail
        go_ret2
        exact ⟨rfl, bthen (bthen hb1 hb3) hb4⟩
      · rw [if_neg (fun h => hF h.2.2)] at hN
        rw [hN]
        clear hN hok hyes u2 u3 u4
        generalize (upV s.a 4096).1 = f at *
        generalize lastV s.a s.b = L at *
        have k0 : L < f := by omega
        clear hl1
        go_enter Try.func16, Try.ntmps16
        go_wp2_with fail
        refine (hg _).mono ?_; rintro e w1 ⟨rfl, hb1⟩
        have c0' := cell_lt hb1 c0 hlt
        have c1' := cell_lt hb1 c1 hlt
        have hz1 := hb1.size
        go_wp2_with fail
        refine (hu _).mono ?_; rintro e w2 ⟨rfl, rfl⟩
        go_wp2_with fail
        refine (hl _).mono ?_; rintro e w3 ⟨rfl, hb3⟩
        go_wp2_with fail
        go_ret2
        exact ⟨rfl, bthen hb1 hb3⟩
end Go.Proofs.Ytehijlgopmbglaa
