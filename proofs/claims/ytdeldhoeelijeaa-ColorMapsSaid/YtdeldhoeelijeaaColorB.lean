/- The walks of the reference's colors, of its Pages, Up and Frames. -/
import Derived.Test.YtdeldhoeelijeaaColorA
import Derived.Test.YtdeldhoeelijeaaWordA
import Derived.Test.YtdeldhoeelijeaaSpanC
import Derived.Test.YtdeldhoeelijeaaSpanD
import Derived.Laws.Bits64
namespace Go.Proofs.Ytdeldhoeelijeaa
open Go Go.RowKit Go.BigFrame

theorem or_mod (a b : Int) (ha : W64 a) (hb : W64 b) : (bits BinOp.or IntKind.u64 a b % 4096 != 0) = !(decide (a % 4096 = 0) && decide (b % 4096 = 0)) := by
  obtain ⟨ha0, ha1⟩ := ha
  obtain ⟨hb0, hb1⟩ := hb
  obtain ⟨x, rfl⟩ := Int.eq_ofNat_of_zero_le ha0
  obtain ⟨y, rfl⟩ := Int.eq_ofNat_of_zero_le hb0
  rw [bits_or_u64_nat _ _ (by omega) (by omega)]
  have h1 : (x ||| y) % 4096 = (x % 4096) ||| (y % 4096) := Nat.or_mod_two_pow (n := 12)
  have h2 : ((x ||| y) % 4096 = 0) ↔ x % 4096 = 0 ∧ y % 4096 = 0 := by rw [h1, Nat.or_eq_zero_iff]
  rw [Bool.eq_iff_iff]
  simp only [bne_iff_ne, ne_eq, Bool.not_eq_true', Bool.and_eq_false_iff, decide_eq_false_iff_not]
  have e1 : (((x ||| y : Nat) : Int) % 4096 = 0) ↔ (x ||| y) % 4096 = 0 := by omega
  rw [e1, h2]
  omega
theorem pageBad_not (x : Two) : (!(pageBad x)) = (goodB x.a x.b && (decide (x.a % 4096 = 0) && decide (x.b % 4096 = 0))) := by
  unfold pageBad
  rw [or_mod _ _ x.ha x.hb]
  cases goodB x.a x.b <;> simp

set_option maxHeartbeats 1000000 in
theorem refPages_any (x : Two) (w : World) : Calls Try.prog 26 #[.agg #[.int .u64 x.a, .int .u64 x.b]] w fun e w' => e = .returned (.bool (!(pageBad x))) ∧ Below w.heap.size w w' := by
  rw [pageBad_not]
  have hxa := x.ha.1
  have hxb := x.hb.1
  cases hg : goodB x.a x.b
  · go_enter Try.func26, Try.ntmps26
    go_wp2_with fail
    refine (refGood_any _ _ _ x.ha x.hb).mono ?_; rintro e1 w1 ⟨rfl, hb1⟩
    rw [hg]
    go_wp2_with fail
    go_ret
    exact ⟨rfl, bnew hb1⟩
  · by_cases h1 : x.a % 4096 = 0
    all_goals
      go_enter Try.func26, Try.ntmps26
      go_wp2_with fail
      refine (refGood_any _ _ _ x.ha x.hb).mono ?_; rintro e1 w1 ⟨rfl, hb1⟩
      have c0 : w1.cell? ⟨w.heap.size, 0, none⟩ = some (.int .u64 x.a) := cell_lt hb1 (by simp [World.cell?_alloc_new]) (by simp)
      have c1 : w1.cell? ⟨w.heap.size, 1, none⟩ = some (.int .u64 x.b) := cell_lt hb1 (by simp [World.cell?_alloc_new]) (by simp)
      have hW : Below w.heap.size w w1 := bnew hb1
      rw [hg]
      clear hb1
      first | (have q : (x.a % 4096 == 0) = true := by simpa using h1) | (have q : (x.a % 4096 == 0) = false := by simpa using h1)
      go_wp2_with fail
      go_ret
      exact ⟨ret_bool (by rw [Bool.eq_iff_iff]; simp [h1]), hW⟩

/-- The reference's pool lies in block 'B'; what is handed out, in the row of slice 'v'. -/
structure RPoolAt (w : World) (B : Nat) (v : Value) (s : Two) (U : List Int) : Prop where
  blk : w.heap[B]? = some (.cells #[.int .u64 s.a, .int .u64 s.b, v] 63 (0, 0))
  own : w.ownsRow (B + 1) 22 1 v U.length (U.map fun x => .int .u64 x)
theorem RPoolAt.lt {w : World} {B : Nat} {v : Value} {s : Two} {U : List Int} (h : RPoolAt w B v s U) : B < w.heap.size := (Array.getElem?_eq_some_iff.1 h.blk).1
theorem RPoolAt.cells {w : World} {B : Nat} {v : Value} {s : Two} {U : List Int} (h : RPoolAt w B v s U) : w.cell? ⟨B, 0, none⟩ = some (.int .u64 s.a) ∧ w.cell? ⟨B, 1, none⟩ = some (.int .u64 s.b) ∧ w.cell? ⟨B, 2, none⟩ = some v := by
  refine ⟨?_, ?_, ?_⟩ <;> simp [World.cell?, h.blk]
theorem RPoolAt.frozen {w : World} {B : Nat} {v : Value} {s : Two} {U : List Int} (h : RPoolAt w B v s U) (o : Nat) : w.frozen? ⟨B, o, none⟩ = false := by simp [World.frozen?, h.blk]
theorem ownsRow_below {E : TypeId} {w w' : World} {base B k n : Nat} {v : Value} {l : List Value} (h : w.ownsRow base E k v n l) (hb : Below B w w') (hB : w.heap.size ≤ B) : w'.ownsRow base E k v n l := by
  obtain ⟨hlen, hc⟩ := h
  refine ⟨hlen, ?_⟩
  rcases hc with hc | ⟨g, cap, cur, hv, hbg, hg, hr⟩
  · exact .inl hc
  · refine .inr ⟨g, cap, cur, hv, hbg, ?_, hr⟩
    rw [hb.block g (Nat.lt_of_lt_of_le (Array.getElem?_eq_some_iff.1 hg).1 hB)]; exact hg
set_option maxHeartbeats 1000000 in
theorem refUp_any (n a : Int) (w : World) (hn : W64 n) (ha : W64 a) :
    Calls Try.prog 45 #[.int .u64 n, .int .u64 a] w fun e w' => e = .returned (.tuple #[.int .u64 (upV n a).1, .bool (upV n a).2]) ∧ w = w' := by
  unfold W64 at hn ha
  by_cases h0 : a = 0
  · have e : upV n a = (0, false) := by unfold upV; rw [if_pos h0]
    replace e := Lib.hid e
    subst h0
    go_enter Try.func45, Try.ntmps45
    go_wp2
    go_ret2
    exact ⟨by rw [e.out]; rfl, rfl⟩
  · have h2 : (a == 0) = false := by simpa using h0
    have hp : 0 < a := by omega
    have m0 := Int.emod_nonneg n h0
    have ml := Int.emod_lt_of_pos n hp
    by_cases h1 : n % a = 0
    · have e : upV n a = (n, true) := upV_fix hp h1
      have h3 : (n % a == 0) = true := by simpa using h1
      replace e := Lib.hid e
      clear h1 m0 ml
      go_enter Try.func45, Try.ntmps45
      go_wp2_with fail
      go_ret2
      exact ⟨by rw [e.out]; rfl, rfl⟩
    · have h3 : (n % a == 0) = false := by simpa using h1
      have e : upV n a = if n - n % a + a < 18446744073709551616 then (n - n % a + a, true) else (0, false) := by unfold upV; rw [if_neg h0, if_neg h1]
      by_cases h4 : n - n % a + a < 18446744073709551616
      · rw [if_pos h4] at e
        replace e := Lib.hid e
        have k1 : ¬ 18446744073709551615 - (a - n % a) < n := by omega
        have k2 : n + (a - n % a) = n - n % a + a := by omega
        go_enter Try.func45, Try.ntmps45
        go_wp2_with fail
        go_ret2
        exact ⟨by rw [e.out, ← k2]; rfl, rfl⟩
      · rw [if_neg h4] at e
        replace e := Lib.hid e
        have k1 : 18446744073709551615 - (a - n % a) < n := by omega
        go_enter Try.func45, Try.ntmps45
        go_wp2_with fail
        go_ret2
        exact ⟨by rw [e.out]; rfl, rfl⟩

set_option maxHeartbeats 2000000 in
set_option maxHeartbeats 2000000 in
theorem refFrames_any (B : Nat) (v : Value) (s : Two) (U : List Int) (w : World) (h : RPoolAt w B v s U) :
    Calls Try.prog 33 #[.pointer (some ⟨B, 0, none⟩)] w fun e w' => e = .returned (.tuple #[.int .u64 (newV s).from', .int .u64 (newV s).count]) ∧ Below w.heap.size w w' := by
  obtain ⟨c0, c1, c2⟩ := h.cells
  have hlt := h.lt
  have hu := fun W => refUp_any s.a 4096 W s.ha (by unfold W64; omega)
  have hg := fun W => refGood_any s.a s.b W s.ha s.hb
  have hl := fun W => refLast_any s.a s.b W s.ha s.hb
  have hlw := lastV_w s.ha s.hb
  have hN : newV s = (if goodB s.a s.b = true ∧ (upV s.a 4096).2 = true ∧ (upV s.a 4096).1 ≤ lastV s.a s.b then ⟨(upV s.a 4096).1, (lastV s.a s.b - (upV s.a 4096).1 + 1) / 4096, [], 0⟩ else ⟨0, 0, [], 0⟩) := rfl
  have hok := (newV_ok s).1
  have hyes := @upV_yes s.a 4096 s.ha (by unfold W64; omega)
  unfold W64 at hlw
  clear h
  cases hG : goodB s.a s.b
  · rw [hG] at hg
    rw [if_neg (by rw [hG]; simp)] at hN
    rw [hN]
    go_enter Try.func33, Try.ntmps33
    go_wp2_with fail
    refine (hg _).mono ?_; rintro e w1 ⟨rfl, hb1⟩
    go_wp2_with fail
    go_ret2
    exact ⟨rfl, hb1⟩
  · rw [hG] at hg
    cases hU : (upV s.a 4096).2
    · rw [hU] at hu
      rw [if_neg (by rw [hU]; simp)] at hN
      rw [hN]
      generalize (upV s.a 4096).1 = f at *
      go_enter Try.func33, Try.ntmps33
      go_wp2_with fail
      refine (hg _).mono ?_; rintro e w1 ⟨rfl, hb1⟩
      have c0' := cell_lt hb1 c0 hlt
      have c1' := cell_lt hb1 c1 hlt
      go_wp2_with fail
      refine (hu _).mono ?_; rintro e w2 ⟨rfl, rfl⟩
      go_wp2_with fail
      go_ret2
      exact ⟨rfl, hb1⟩
    · obtain ⟨u1, u2, u3, u4, u5⟩ := hyes hU
      have hl1 := lastV_yes hG
      rw [hU] at hu
      unfold W64 at u5
      by_cases hF : (upV s.a 4096).1 ≤ lastV s.a s.b
      · rw [if_pos ⟨hG, hU, hF⟩] at hN
        have hq : 1 ≤ lastV s.a s.b - (upV s.a 4096).1 + 1 ∧ lastV s.a s.b - (upV s.a 4096).1 + 1 ≤ 18446744073709551616 := by omega
        rw [hN] at hok ⊢
        have hc1 := hok.c1
        have hc0 := hok.c0
        show Calls _ _ _ _ fun e w' => e = .returned (.tuple #[.int .u64 (upV s.a 4096).1, .int .u64 ((lastV s.a s.b - (upV s.a 4096).1 + 1) / 4096)]) ∧ _
        have hc2 : (lastV s.a s.b - (upV s.a 4096).1 + 1) / 4096 * 4096 ≤ 18446744073709551615 := hc1
        have hq3 : lastV s.a s.b - (upV s.a 4096).1 + 1 ≤ 18446744073709551615 ∨ lastV s.a s.b - (upV s.a 4096).1 + 1 = 18446744073709551616 := by omega
        have hq4 : lastV s.a s.b - (upV s.a 4096).1 + 1 ≤ 18446744073709551615 := by omega
        clear hN hok hc1 hc0 hyes hq3 u2 u3 u4
        generalize (upV s.a 4096).1 = f at *
        generalize lastV s.a s.b = L at *
        have k0 : ¬ L < f := by omega
        have k1 : 0 ≤ L - f := by omega
        clear hl1
        go_enter Try.func33, Try.ntmps33
        go_wp2_with fail
        refine (hg _).mono ?_; rintro e w1 ⟨rfl, hb1⟩
        have c0' := cell_lt hb1 c0 hlt
        have c1' := cell_lt hb1 c1 hlt
        have hz1 := hb1.size
        go_wp2_with fail
        refine (hu _).mono ?_; rintro e w2 ⟨rfl, rfl⟩
        go_wp2_with fail
        refine (hl _).mono ?_; rintro e w3 ⟨rfl, hb3⟩
        have c0'' := cell_lt hb3 c0' (by omega)
        have c1'' := cell_lt hb3 c1' (by omega)
        have hz3 := hb3.size
        go_wp2_with fail
        refine (hl _).mono ?_; rintro e w4 ⟨rfl, hb4⟩
        go_wp2_with fail
        go_ret2
        exact ⟨rfl, bthen (bthen hb1 hb3) hb4⟩
      · rw [if_neg (fun h => hF h.2.2)] at hN
        rw [hN]
        clear hN hok hyes u2 u3 u4
        generalize (upV s.a 4096).1 = f at *
        generalize lastV s.a s.b = L at *
        have k0 : L < f := by omega
        clear hl1
        go_enter Try.func33, Try.ntmps33
        go_wp2_with fail
        refine (hg _).mono ?_; rintro e w1 ⟨rfl, hb1⟩
        have c0' := cell_lt hb1 c0 hlt
        have c1' := cell_lt hb1 c1 hlt
        have hz1 := hb1.size
        go_wp2_with fail
        refine (hu _).mono ?_; rintro e w2 ⟨rfl, rfl⟩
        go_wp2_with fail
        refine (hl _).mono ?_; rintro e w3 ⟨rfl, hb3⟩
        go_wp2_with fail
        go_ret2
        exact ⟨rfl, bthen hb1 hb3⟩

set_option maxHeartbeats 4000000 in
theorem refColored_any (n m : Int) (w : World) (hm : W64 m) : Calls Try.prog 25 #[.int .i64 n, .int .u64 m] w fun e w' => e = .returned (.bool (maskedV n m)) ∧ w = w' := by
  obtain ⟨m0, m1⟩ := hm
  go_enter Try.func25, Try.ntmps25
  go_wp2_with fail
  go_loop [5] (fun i => ∃ k : Nat, k ≤ 7 ∧ i = .int .i64 k ∧ ∀ j : Nat, j < k → n ≠ 2 ^ j) (fun i => 7 - (intOf i).toNat)
  case atStart => exact ⟨0, by omega, rfl, fun j hj => by omega⟩
  case round =>
    obtain ⟨k, hk, rfl, hno⟩ := hrel
    by_cases hlt : k < 7
    · rcases (show k = 0 ∨ k = 1 ∨ k = 2 ∨ k = 3 ∨ k = 4 ∨ k = 5 ∨ k = 6 by omega) with rfl | rfl | rfl | rfl | rfl | rfl | rfl
      · by_cases hn : n = 1
        · subst hn
          clear hno
          by_cases hz : m = 0
          · subst hz
            have e : maskedV 1 0 = false := by unfold maskedV; simp
            replace e := Lib.hid e
            go_wp2_with fail
            go_ret
            exact ⟨ret_bool e.out.symm, rfl⟩
          · have k1 : (m != 0) = true := by simpa using hz
            have hv : maskedV 1 m = decide (m < 2) := by rw [Bool.eq_iff_iff, maskedV_iff, decide_eq_true_iff, show (2 : Int) ^ ((1 : Int)).toNat = 2 from rfl]; exact ⟨by rintro ⟨_, _, h | h⟩ <;> omega, fun h => ⟨rfl, hz, .inr (by omega)⟩⟩
            replace hv := Lib.hid hv
            go_wp2_with fail
            go_ret
            exact ⟨ret_bool hv.out.symm, rfl⟩
        · have kn : (n == 1) = false := by simpa using hn
          have hno' : ∀ j : Nat, j < 1 → n ≠ 2 ^ j := fun j hj => by
            by_cases e : j = 0
            · subst e; exact hn
            · exact hno j (by omega)
          replace hno' := Lib.hid hno'
          clear hno
          go_wp2_with fail
          go_round
          case rel => exact ⟨1, by omega, rfl, hno'.out⟩
          case measure => simp [intOf]
      · by_cases hn : n = 2
        · subst hn
          clear hno
          by_cases hz : m = 0
          · subst hz
            have e : maskedV 2 0 = false := by unfold maskedV; simp
            replace e := Lib.hid e
            go_wp2_with fail
            go_ret
            exact ⟨ret_bool e.out.symm, rfl⟩
          · have k1 : (m != 0) = true := by simpa using hz
            have hv : maskedV 2 m = decide (m < 4) := by rw [Bool.eq_iff_iff, maskedV_iff, decide_eq_true_iff, show (2 : Int) ^ ((2 : Int)).toNat = 4 from rfl]; exact ⟨by rintro ⟨_, _, h | h⟩ <;> omega, fun h => ⟨rfl, hz, .inr (by omega)⟩⟩
            replace hv := Lib.hid hv
            go_wp2_with fail
            go_ret
            exact ⟨ret_bool hv.out.symm, rfl⟩
        · have kn : (n == 2) = false := by simpa using hn
          have hno' : ∀ j : Nat, j < 2 → n ≠ 2 ^ j := fun j hj => by
            by_cases e : j = 1
            · subst e; exact hn
            · exact hno j (by omega)
          replace hno' := Lib.hid hno'
          clear hno
          go_wp2_with fail
          go_round
          case rel => exact ⟨2, by omega, rfl, hno'.out⟩
          case measure => simp [intOf]
      · by_cases hn : n = 4
        · subst hn
          clear hno
          by_cases hz : m = 0
          · subst hz
            have e : maskedV 4 0 = false := by unfold maskedV; simp
            replace e := Lib.hid e
            go_wp2_with fail
            go_ret
            exact ⟨ret_bool e.out.symm, rfl⟩
          · have k1 : (m != 0) = true := by simpa using hz
            have hv : maskedV 4 m = decide (m < 16) := by rw [Bool.eq_iff_iff, maskedV_iff, decide_eq_true_iff, show (2 : Int) ^ ((4 : Int)).toNat = 16 from rfl]; exact ⟨by rintro ⟨_, _, h | h⟩ <;> omega, fun h => ⟨rfl, hz, .inr (by omega)⟩⟩
            replace hv := Lib.hid hv
            go_wp2_with fail
            go_ret
            exact ⟨ret_bool hv.out.symm, rfl⟩
        · have kn : (n == 4) = false := by simpa using hn
          have hno' : ∀ j : Nat, j < 3 → n ≠ 2 ^ j := fun j hj => by
            by_cases e : j = 2
            · subst e; exact hn
            · exact hno j (by omega)
          replace hno' := Lib.hid hno'
          clear hno
          go_wp2_with fail
          go_round
          case rel => exact ⟨3, by omega, rfl, hno'.out⟩
          case measure => simp [intOf]
      · by_cases hn : n = 8
        · subst hn
          clear hno
          by_cases hz : m = 0
          · subst hz
            have e : maskedV 8 0 = false := by unfold maskedV; simp
            replace e := Lib.hid e
            go_wp2_with fail
            go_ret
            exact ⟨ret_bool e.out.symm, rfl⟩
          · have k1 : (m != 0) = true := by simpa using hz
            have hv : maskedV 8 m = decide (m < 256) := by rw [Bool.eq_iff_iff, maskedV_iff, decide_eq_true_iff, show (2 : Int) ^ ((8 : Int)).toNat = 256 from rfl]; exact ⟨by rintro ⟨_, _, h | h⟩ <;> omega, fun h => ⟨rfl, hz, .inr (by omega)⟩⟩
            replace hv := Lib.hid hv
            go_wp2_with fail
            go_ret
            exact ⟨ret_bool hv.out.symm, rfl⟩
        · have kn : (n == 8) = false := by simpa using hn
          have hno' : ∀ j : Nat, j < 4 → n ≠ 2 ^ j := fun j hj => by
            by_cases e : j = 3
            · subst e; exact hn
            · exact hno j (by omega)
          replace hno' := Lib.hid hno'
          clear hno
          go_wp2_with fail
          go_round
          case rel => exact ⟨4, by omega, rfl, hno'.out⟩
          case measure => simp [intOf]
      · by_cases hn : n = 16
        · subst hn
          clear hno
          by_cases hz : m = 0
          · subst hz
            have e : maskedV 16 0 = false := by unfold maskedV; simp
            replace e := Lib.hid e
            go_wp2_with fail
            go_ret
            exact ⟨ret_bool e.out.symm, rfl⟩
          · have k1 : (m != 0) = true := by simpa using hz
            have hv : maskedV 16 m = decide (m < 65536) := by rw [Bool.eq_iff_iff, maskedV_iff, decide_eq_true_iff, show (2 : Int) ^ ((16 : Int)).toNat = 65536 from rfl]; exact ⟨by rintro ⟨_, _, h | h⟩ <;> omega, fun h => ⟨rfl, hz, .inr (by omega)⟩⟩
            replace hv := Lib.hid hv
            go_wp2_with fail
            go_ret
            exact ⟨ret_bool hv.out.symm, rfl⟩
        · have kn : (n == 16) = false := by simpa using hn
          have hno' : ∀ j : Nat, j < 5 → n ≠ 2 ^ j := fun j hj => by
            by_cases e : j = 4
            · subst e; exact hn
            · exact hno j (by omega)
          replace hno' := Lib.hid hno'
          clear hno
          go_wp2_with fail
          go_round
          case rel => exact ⟨5, by omega, rfl, hno'.out⟩
          case measure => simp [intOf]
      · by_cases hn : n = 32
        · subst hn
          clear hno
          by_cases hz : m = 0
          · subst hz
            have e : maskedV 32 0 = false := by unfold maskedV; simp
            replace e := Lib.hid e
            go_wp2_with fail
            go_ret
            exact ⟨ret_bool e.out.symm, rfl⟩
          · have k1 : (m != 0) = true := by simpa using hz
            have hv : maskedV 32 m = decide (m < 4294967296) := by rw [Bool.eq_iff_iff, maskedV_iff, decide_eq_true_iff, show (2 : Int) ^ ((32 : Int)).toNat = 4294967296 from rfl]; exact ⟨by rintro ⟨_, _, h | h⟩ <;> omega, fun h => ⟨rfl, hz, .inr (by omega)⟩⟩
            replace hv := Lib.hid hv
            go_wp2_with fail
            go_ret
            exact ⟨ret_bool hv.out.symm, rfl⟩
        · have kn : (n == 32) = false := by simpa using hn
          have hno' : ∀ j : Nat, j < 6 → n ≠ 2 ^ j := fun j hj => by
            by_cases e : j = 5
            · subst e; exact hn
            · exact hno j (by omega)
          replace hno' := Lib.hid hno'
          clear hno
          go_wp2_with fail
          go_round
          case rel => exact ⟨6, by omega, rfl, hno'.out⟩
          case measure => simp [intOf]
      · by_cases hn : n = 64
        · subst hn
          clear hno
          by_cases hz : m = 0
          · subst hz
            have e : maskedV 64 0 = false := by unfold maskedV; simp
            replace e := Lib.hid e
            go_wp2_with fail
            go_ret
            exact ⟨ret_bool e.out.symm, rfl⟩
          · have k1 : (m != 0) = true := by simpa using hz
            have hv : maskedV 64 m = true := maskedV_iff.2 ⟨rfl, hz, .inl rfl⟩
            replace hv := Lib.hid hv
            go_wp2_with fail
            go_ret
            exact ⟨ret_bool hv.out.symm, rfl⟩
        · have kn : (n == 64) = false := by simpa using hn
          have hno' : ∀ j : Nat, j < 7 → n ≠ 2 ^ j := fun j hj => by
            by_cases e : j = 6
            · subst e; exact hn
            · exact hno j (by omega)
          replace hno' := Lib.hid hno'
          clear hno
          go_wp2_with fail
          go_round
          case rel => exact ⟨7, by omega, rfl, hno'.out⟩
          case measure => simp [intOf]
    · have e : maskedV n m = false := by
        have hs : someV n = false := by
          rw [Bool.eq_false_iff]
          intro h
          have h0 := hno 0 (by omega)
          have h1 := hno 1 (by omega)
          have h2 := hno 2 (by omega)
          have h3 := hno 3 (by omega)
          have h4 := hno 4 (by omega)
          have h5 := hno 5 (by omega)
          have h6 := hno 6 (by omega)
          rcases someV_iff.1 h with h | h | h | h | h | h | h
          · exact h0 h
          · exact h1 h
          · exact h2 h
          · exact h3 h
          · exact h4 h
          · exact h5 h
          · exact h6 h
        unfold maskedV; rw [hs]; rfl
      replace e := Lib.hid e
      obtain rfl : k = 7 := by omega
      clear hno
      go_wp2_with fail
      go_ret
      exact ⟨ret_bool e.out.symm, rfl⟩

set_option maxHeartbeats 1000000 in
theorem refColor_any (pa n : Int) (w : World) (hp : W64 pa) : Calls Try.prog 11 #[.int .u64 pa, .int .i64 n] w fun e w' => e = .returned (.int .i64 (ofV pa n)) ∧ w = w' := by
  have hs := fun W => refColored_any n 1 W (by unfold W64; omega)
  have hm : maskedV n 1 = someV n := by
    rw [Bool.eq_iff_iff, maskedV_iff]
    refine ⟨fun h => h.1, fun h => ⟨h, by decide, .inr ?_⟩⟩
    rcases someV_iff.1 h with rfl | rfl | rfl | rfl | rfl | rfl | rfl <;> rfl
  rw [hm] at hs
  clear hm
  obtain ⟨m0, m1⟩ := hp
  cases h : someV n
  · have e : ofV pa n = -1 := by unfold ofV; rw [if_neg (by rw [h]; simp)]
    rw [e]
    rw [h] at hs
    go_enter Try.func11, Try.ntmps11
    go_wp2_with fail
    refine (hs _).mono ?_; rintro e w1 ⟨rfl, rfl⟩
    go_wp2_with fail
    go_ret
    exact ⟨rfl, rfl⟩
  · have hv := someV_iff.1 h
    have e : ofV pa n = pa / 4096 % n := by unfold ofV; rw [if_pos h]
    rw [e]
    rw [h] at hs
    have n0 : 1 ≤ n := by omega
    have n1 : n ≤ 64 := by omega
    have q0 := Int.emod_nonneg (pa / 4096) (show n ≠ 0 by omega)
    have q1 := Int.emod_lt_of_pos (pa / 4096) (show 0 < n by omega)
    replace hv := Lib.hid hv
    go_enter Try.func11, Try.ntmps11
    go_wp2_with fail
    refine (hs _).mono ?_; rintro e w1 ⟨rfl, rfl⟩
    go_wp2_with fail
    go_ret
    exact ⟨rfl, rfl⟩
end Go.Proofs.Ytdeldhoeelijeaa
