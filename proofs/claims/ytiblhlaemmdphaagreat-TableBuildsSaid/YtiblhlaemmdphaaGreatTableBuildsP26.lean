/- The walk of desc.Put. Conditions: words are of 64 bits. -/
import Derived.Deep.RegionHeld3
import Derived.Deep.QuietTactic
import Derived.BigQuiet
import Derived.Test.YtiblhlaemmdphaaGreatTableBuildsP16
namespace Go.Proofs.YtiblhlaemmdphaaGreat
open Go.RowKit
def leafFields (l : Int) (d : DescV) : List (Int × Int) :=
 [(0, d.pa), (0, 1), (1, oneV (l == 3)), (2, if d.mem = 1 then 1 else 15), (8, if d.mem = 1 then 2 else 3), (6, oneV (bits BinOp.and IntKind.i64 d.perm 1 != 0)),
  (7, oneV (bits BinOp.and IntKind.i64 d.perm 2 != 0)), (10, oneV d.af), (54, oneV (bits BinOp.and IntKind.i64 d.perm 4 == 0))]
def putV (l : Int) (d : DescV) : Int × Int :=
 if mayV l d = false then (0, 180)
 else if d.kind = 0 then (0, 0)
 else if d.kind = 1 then (joinV [(0, d.pa), (0, 1), (1, 1)], 0)
 else (joinV (leafFields l d), 0)
set_option maxHeartbeats 1000000 in
theorem put_no (l k pa perm mem : Int) (af : Bool) (w : World) (h0 : 0 ≤ pa) (h0' : pa < 18446744073709551616) (hm : mayV l ⟨k, pa, perm, mem, af⟩ = false) :
  Calls Tryz.prog 81 #[.int .i64 l, .agg #[.int .i64 k, .int .u64 pa, .int .i64 perm, .int .i64 mem, .bool af]] w fun e w' => e = .returned (.tuple #[.int .u64 0, .int .i64 180]) ∧ Below w.heap.size w w' := by
 go_enter Tryz.func81, Tryz.ntmps81
 go_wp2_with (go_at_call 101; refine (may_any _ _ _ _ _ _ _ h0 h0').mono ?_; rintro e w1 ⟨rfl, hb1⟩)
 go_ret2
 exact ⟨rfl, ((((Below.refl _ _).alloc (Nat.le_refl _) _).alloc (by simp) _).trans (hb1.mono (by simp; omega)))⟩
set_option maxHeartbeats 1000000 in
theorem put_zero (l pa perm mem : Int) (af : Bool) (w : World) (h0 : 0 ≤ pa) (h0' : pa < 18446744073709551616) (hm : mayV l ⟨0, pa, perm, mem, af⟩ = true) :
  Calls Tryz.prog 81 #[.int .i64 l, .agg #[.int .i64 0, .int .u64 pa, .int .i64 perm, .int .i64 mem, .bool af]] w fun e w' => e = .returned (.tuple #[.int .u64 0, .int .i64 0]) ∧ Below w.heap.size w w' := by
 go_enter Tryz.func81, Tryz.ntmps81
 go_wp2_with (go_at_call 101; refine (may_any _ _ _ _ _ _ _ h0 h0').mono ?_; rintro e w1 ⟨rfl, hb1⟩; obtain ⟨hc1, hf1⟩ := bcell hb1)
 go_ret2
 exact ⟨rfl, ((((Below.refl _ _).alloc (Nat.le_refl _) _).alloc (by simp) _).trans (hb1.mono (by simp; omega)))⟩
set_option maxHeartbeats 1000000 in
theorem put_table (l pa perm mem : Int) (af : Bool) (w : World) (h0 : 0 ≤ pa) (h0' : pa < 18446744073709551616) (hm : mayV l ⟨1, pa, perm, mem, af⟩ = true) :
  Calls Tryz.prog 81 #[.int .i64 l, .agg #[.int .i64 1, .int .u64 pa, .int .i64 perm, .int .i64 mem, .bool af]] w fun e w' => e = .returned (.tuple #[.int .u64 (joinV [(0, pa), (0, 1), (1, 1)]), .int .i64 0]) ∧ Below w.heap.size w w' := by
 go_enter Tryz.func81, Tryz.ntmps81
 go_wp2_with fail
 refine (may_any _ _ _ _ _ _ _ h0 h0').mono ?_; rintro e w1 ⟨rfl, hb1⟩; obtain ⟨hc1, hf1⟩ := bcell hb1; have hz : w.heap.size + 1 < w1.heap.size := by have := hb1.size; simp at this; omega
 go_wp2_with fail
 refine (joined_any [(0, pa), (0, 1), (1, 1)] _ _ _ _ (by simp) (by simp) ?_ (by simp)).mono ?_
 ·intro i h
  rcases i with _ | _ | _ | i
  ·simp [World.cell?_alloc_new]
  ·simp [World.cell?_alloc_new]
  ·simp [World.cell?_alloc_new]
  ·simp at h; omega
 rintro e w2 ⟨rfl, hb2⟩
 go_wp2_with fail
 go_ret2
 exact ⟨rfl, ((((Below.refl _ _).alloc (Nat.le_refl _) _).alloc (by simp) _).trans (hb1.mono (by simp; omega))).trans (((Below.refl _ _).alloc (by omega) _).trans (hb2.mono (by simp; omega)))⟩
theorem leafFields_yes (l k pa perm mem : Int) (af : Bool) (h : mem = 1) : leafFields l ⟨k, pa, perm, mem, af⟩ = [(0, pa), (0, 1), (1, oneV (l == 3)), (2, 1), (8, 2), (6, oneV (bits BinOp.and IntKind.i64 perm 1 != 0)),
   (7, oneV (bits BinOp.and IntKind.i64 perm 2 != 0)), (10, oneV af), (54, oneV (bits BinOp.and IntKind.i64 perm 4 == 0))] := by simp [leafFields, h]
theorem leafFields_no (l k pa perm mem : Int) (af : Bool) (h : ¬ mem = 1) : leafFields l ⟨k, pa, perm, mem, af⟩ = [(0, pa), (0, 1), (1, oneV (l == 3)), (2, 15), (8, 3), (6, oneV (bits BinOp.and IntKind.i64 perm 1 != 0)),
   (7, oneV (bits BinOp.and IntKind.i64 perm 2 != 0)), (10, oneV af), (54, oneV (bits BinOp.and IntKind.i64 perm 4 == 0))] := by simp [leafFields, h]
theorem joined_leaf (w : World) (pa a b c d e f g h : Int) :
  Calls Tryz.prog 102 #[.slice (some ⟨w.heap.size, 0, none⟩) 9 9] (w.alloc (.cells #[.int .i64 0, .int .u64 pa, .int .i64 0, .int .u64 a, .int .i64 1, .int .u64 b, .int .i64 2, .int .u64 c, .int .i64 8, .int .u64 d, .int .i64 6, .int .u64 e, .int .i64 7, .int .u64 f, .int .i64 10, .int .u64 g, .int .i64 54, .int .u64 h] 162)).drew
   fun x w' => x = .returned (.int .u64 (joinV [(0, pa), (0, a), (1, b), (2, c), (8, d), (6, e), (7, f), (10, g), (54, h)])) ∧ Below (w.heap.size + 1) (w.alloc (.cells #[.int .i64 0, .int .u64 pa, .int .i64 0, .int .u64 a, .int .i64 1, .int .u64 b, .int .i64 2, .int .u64 c, .int .i64 8, .int .u64 d, .int .i64 6, .int .u64 e, .int .i64 7, .int .u64 f, .int .i64 10, .int .u64 g, .int .i64 54, .int .u64 h] 162)).drew w' := by
 refine (joined_any [(0, pa), (0, a), (1, b), (2, c), (8, d), (6, e), (7, f), (10, g), (54, h)] w.heap.size 0 9 _ (by simp) (by simp) ?_ (by simp)).mono ?_
 ·intro i hi
  rcases i with _ | _ | _ | _ | _ | _ | _ | _ | _ | i
  case succ.succ.succ.succ.succ.succ.succ.succ.succ => simp at hi; omega
  all_goals simp [World.cell?_alloc_new]
 ·intro x w' h
  simpa using h
set_option maxHeartbeats 4000000 in
theorem put_leaf (l k pa perm mem : Int) (af : Bool) (w : World) (h0 : 0 ≤ pa) (h0' : pa < 18446744073709551616) (hm : mayV l ⟨k, pa, perm, mem, af⟩ = true) (hk : k = 2 ∨ k = 3) :
  Calls Tryz.prog 81 #[.int .i64 l, .agg #[.int .i64 k, .int .u64 pa, .int .i64 perm, .int .i64 mem, .bool af]] w fun e w' => e = .returned (.tuple #[.int .u64 (joinV (leafFields l ⟨k, pa, perm, mem, af⟩)), .int .i64 0]) ∧ Below w.heap.size w w' := by
 have k0 : (k == 0) = false := by rcases hk with rfl | rfl <;> rfl
 have k1 : (k == 1) = false := by rcases hk with rfl | rfl <;> rfl
 clear hk
 by_cases hmem : mem = 1
 ·have m1 : (mem == 1) = true := by simpa using hmem
  go_enter Tryz.func81, Tryz.ntmps81
  have e := Lib.hid (leafFields_yes l k pa perm mem af hmem)
  clear hmem
  go_wp2_with fail
  refine (may_any _ _ _ _ _ _ _ h0 h0').mono ?_; rintro e w1 ⟨rfl, hb1⟩; obtain ⟨hc1, hf1⟩ := bcell hb1; have hz : w.heap.size + 1 < w1.heap.size := by have := hb1.size; simp at this; omega
  go_wp2_with fail
  have c1 : w1.cell? ⟨w.heap.size, 1, none⟩ = some (.int .u64 pa) := by rw [hc1 _ _ (by simp; omega)]; simp [World.cell?_alloc_past]
  have c2 : w1.cell? ⟨w.heap.size, 2, none⟩ = some (.int .i64 perm) := by rw [hc1 _ _ (by simp; omega)]; simp [World.cell?_alloc_past]
  have c4 : w1.cell? ⟨w.heap.size, 4, none⟩ = some (.bool af) := by rw [hc1 _ _ (by simp; omega)]; simp [World.cell?_alloc_past]
  have hz1 : w.heap.size < w1.heap.size + 1 := by omega
  clear hc1 hf1 hm
  go_region_held3 (fun w' => w'.cell? ⟨w.heap.size, 1, none⟩ = some (.int .u64 pa) ∧ w'.cell? ⟨w.heap.size, 2, none⟩ = some (.int .i64 perm) ∧ w'.cell? ⟨w.heap.size, 4, none⟩ = some (.bool af)) (first | assumption | go_keep)
   (first
    | (go_at_call 103; refine (one_any _ _).mono ?_; rintro e w' ⟨rfl, rfl⟩)
    | (go_at_call 102; refine (joined_leaf w1 pa _ _ _ _ _ _ _ _).mono ?_; rintro e w2 ⟨rfl, hb2⟩; obtain ⟨hc2, hf2⟩ := bcell hb2))
  go_wp2_with fail
  go_ret2
  exact ⟨by rw [e.out]; rfl, ((((Below.refl _ _).alloc (Nat.le_refl _) _).alloc (by simp) _).trans (hb1.mono (by simp; omega))).trans (((Below.refl _ _).alloc (by omega) _).drew.trans (hb2.mono (by omega)))⟩
 ·have m1 : (mem == 1) = false := by simpa using hmem
  go_enter Tryz.func81, Tryz.ntmps81
  have e := Lib.hid (leafFields_no l k pa perm mem af hmem)
  clear hmem
  go_wp2_with fail
  refine (may_any _ _ _ _ _ _ _ h0 h0').mono ?_; rintro e w1 ⟨rfl, hb1⟩; obtain ⟨hc1, hf1⟩ := bcell hb1; have hz : w.heap.size + 1 < w1.heap.size := by have := hb1.size; simp at this; omega
  go_wp2_with fail
  have c1 : w1.cell? ⟨w.heap.size, 1, none⟩ = some (.int .u64 pa) := by rw [hc1 _ _ (by simp; omega)]; simp [World.cell?_alloc_past]
  have c2 : w1.cell? ⟨w.heap.size, 2, none⟩ = some (.int .i64 perm) := by rw [hc1 _ _ (by simp; omega)]; simp [World.cell?_alloc_past]
  have c4 : w1.cell? ⟨w.heap.size, 4, none⟩ = some (.bool af) := by rw [hc1 _ _ (by simp; omega)]; simp [World.cell?_alloc_past]
  have hz1 : w.heap.size < w1.heap.size + 1 := by omega
  clear hc1 hf1 hm
  go_region_held3 (fun w' => w'.cell? ⟨w.heap.size, 1, none⟩ = some (.int .u64 pa) ∧ w'.cell? ⟨w.heap.size, 2, none⟩ = some (.int .i64 perm) ∧ w'.cell? ⟨w.heap.size, 4, none⟩ = some (.bool af)) (first | assumption | go_keep)
   (first
    | (go_at_call 103; refine (one_any _ _).mono ?_; rintro e w' ⟨rfl, rfl⟩)
    | (go_at_call 102; refine (joined_leaf w1 pa _ _ _ _ _ _ _ _).mono ?_; rintro e w2 ⟨rfl, hb2⟩; obtain ⟨hc2, hf2⟩ := bcell hb2))
  go_wp2_with fail
  go_ret2
  exact ⟨by rw [e.out]; rfl, ((((Below.refl _ _).alloc (Nat.le_refl _) _).alloc (by simp) _).trans (hb1.mono (by simp; omega))).trans (((Below.refl _ _).alloc (by omega) _).drew.trans (hb2.mono (by omega)))⟩
theorem put_any (l : Int) (d : DescV) (w : World) (h0 : 0 ≤ d.pa) (h0' : d.pa < 18446744073709551616) :
  Calls Tryz.prog 81 #[.int .i64 l, d.val] w fun e w' => e = .returned (.tuple #[.int .u64 (putV l d).1, .int .i64 (putV l d).2]) ∧ Below w.heap.size w w' := by
 obtain ⟨k, pa, perm, mem, af⟩ := d
 unfold putV
 cases hm : mayV l ⟨k, pa, perm, mem, af⟩
 ·exact put_no l k pa perm mem af w h0 h0' hm
 ·by_cases e0 : k = 0
  ·subst e0; rw [if_neg (by simp), if_pos rfl]; exact put_zero l pa perm mem af w h0 h0' hm
  ·by_cases e1 : k = 1
   ·subst e1; rw [if_neg (by simp), if_neg e0, if_pos rfl]; exact put_table l pa perm mem af w h0 h0' hm
   ·have hk : k = 2 ∨ k = 3 := by
     apply Classical.byContradiction
     intro hk
     have : mayV l ⟨k, pa, perm, mem, af⟩ = false := by
      simp only [mayV]
      rw [if_neg e0, if_neg e1, if_neg hk]; simp
     rw [this] at hm; cases hm
    rw [if_neg (by simp), if_neg e0, if_neg e1]; exact put_leaf l k pa perm mem af w h0 h0' hm hk
end Go.Proofs.YtiblhlaemmdphaaGreat
/- Plain: what is put is read as it was. Conditions: the descriptor may be. -/
namespace Go.Proofs.YtiblhlaemmdphaaGreat
open Go.RowKit
theorem or_gap (x y i k : Nat) (hx : x / 2 ^ i % 2 ^ k = 0) (hy : y < 2 ^ k) : x ||| (y * 2 ^ i) = x + y * 2 ^ i := by
 have hl : x % 2 ^ i < 2 ^ i := Nat.mod_lt _ (Nat.two_pow_pos _)
 have hpow : 2 ^ (i + k) = 2 ^ i * 2 ^ k := Nat.pow_add _ _ _
 have hX : x = 2 ^ (i + k) * (x / 2 ^ i / 2 ^ k) + x % 2 ^ i := by
  have h1 := Nat.div_add_mod x (2 ^ i)
  have h2 := Nat.div_add_mod (x / 2 ^ i) (2 ^ k)
  rw [hx, Nat.add_zero] at h2
  rw [hpow, Nat.mul_assoc, h2]; exact h1.symm
 generalize x / 2 ^ i / 2 ^ k = h at *
 generalize hlx : x % 2 ^ i = l at *
 have hll : l < 2 ^ (i + k) := Nat.lt_of_lt_of_le hl (Nat.pow_le_pow_right (by decide) (by omega))
 have hs : 2 ^ i * y + l < 2 ^ (i + k) := by
  rw [hpow]
  have : 2 ^ i * (y + 1) ≤ 2 ^ i * 2 ^ k := Nat.mul_le_mul_left _ hy
  rw [Nat.mul_add] at this; omega
 have e1 := Nat.two_pow_add_eq_or_of_lt hll h
 have e2 := Nat.two_pow_add_eq_or_of_lt hl y
 have e3 := Nat.two_pow_add_eq_or_of_lt hs h
 have hX' := hX
 rw [e1] at hX
 rw [hX, Nat.mul_comm y, Nat.or_assoc, Nat.or_comm l, ← e2, ← e3, ← e1]; omega
theorem join_step (x y : Int) (i k : Nat) (hx0 : 0 ≤ x) (hx1 : x + y * 2 ^ i < 18446744073709551616) (hx : x / 2 ^ i % 2 ^ k = 0) (hy0 : 0 ≤ y) (hy : y < 2 ^ k) :
  bits BinOp.or IntKind.u64 x (IntKind.u64.wrap (y * 2 ^ i)) = x + y * 2 ^ i := by
 obtain ⟨a, rfl⟩ := Int.eq_ofNat_of_zero_le hx0
 obtain ⟨b, rfl⟩ := Int.eq_ofNat_of_zero_le hy0
 have e : ((b : Int) * 2 ^ i) = ((b * 2 ^ i : Nat) : Int) := by exact_mod_cast rfl
 rw [e] at hx1 ⊢
 have hw : IntKind.u64.wrap ((b * 2 ^ i : Nat) : Int) = ((b * 2 ^ i : Nat) : Int) := by rw [IntKind.wrap_u64]; omega
 rw [hw, bits_or_u64_nat _ _ (by omega) (by omega), or_gap a b i k (by exact_mod_cast hx) (by exact_mod_cast hy)]
 exact_mod_cast rfl
theorem join_lit (x y i p k : Int) (q : Nat) (hi : i.toNat = q) (hp : (2 : Int) ^ q = p) (m : Nat) (hm : (2 : Int) ^ m = k) (hx0 : 0 ≤ x) (hx1 : x + y * p < 18446744073709551616) (hx : x / p % k = 0) (hy0 : 0 ≤ y) (hy : y < k) :
  bits BinOp.or IntKind.u64 x (IntKind.u64.wrap (y * 2 ^ i.toNat)) = x + y * p := by
 subst hp hm hi
 exact join_step x y _ _ hx0 hx1 hx hy0 hy
theorem leaf_sum (q o3 kn sh r wr a x : Int) (hq : 0 ≤ q) (hq' : q < 268435456) (h3 : 0 ≤ o3 ∧ o3 ≤ 1) (hk : 0 ≤ kn ∧ kn ≤ 15) (hs : 0 ≤ sh ∧ sh ≤ 3) (hr : 0 ≤ r ∧ r ≤ 1) (hw : 0 ≤ wr ∧ wr ≤ 1) (ha : 0 ≤ a ∧ a ≤ 1) (hx : 0 ≤ x ∧ x ≤ 1) :
  joinV [(0, 4096 * q), (0, 1), (1, o3), (2, kn), (8, sh), (6, r), (7, wr), (10, a), (54, x)] =
   4096 * q + 1 + o3 * 2 + kn * 4 + sh * 256 + r * 64 + wr * 128 + a * 1024 + x * 18014398509481984 := by
 have e0 := join_lit 0 (4096 * q) 0 1 1099511627776 0 rfl rfl 40 rfl (by omega) (by omega) (by omega) (by omega) (by omega)
 have e1 := join_lit (4096 * q) 1 0 1 4096 0 rfl rfl 12 rfl (by omega) (by omega) (by omega) (by omega) (by omega)
 have e2 := join_lit (4096 * q + 1 * 1) o3 1 2 2 1 rfl rfl 1 rfl (by omega) (by omega) (by omega) (by omega) (by omega)
 have e3 := join_lit (4096 * q + 1 * 1 + o3 * 2) kn 2 4 16 2 rfl rfl 4 rfl (by omega) (by omega) (by omega) (by omega) (by omega)
 have e4 := join_lit (4096 * q + 1 * 1 + o3 * 2 + kn * 4) sh 8 256 4 8 rfl rfl 2 rfl (by omega) (by omega) (by omega) (by omega) (by omega)
 have e5 := join_lit (4096 * q + 1 * 1 + o3 * 2 + kn * 4 + sh * 256) r 6 64 2 6 rfl rfl 1 rfl (by omega) (by omega) (by omega) (by omega) (by omega)
 have e6 := join_lit (4096 * q + 1 * 1 + o3 * 2 + kn * 4 + sh * 256 + r * 64) wr 7 128 2 7 rfl rfl 1 rfl (by omega) (by omega) (by omega) (by omega) (by omega)
 have e7 := join_lit (4096 * q + 1 * 1 + o3 * 2 + kn * 4 + sh * 256 + r * 64 + wr * 128) a 10 1024 2 10 rfl rfl 1 rfl (by omega) (by omega) (by omega) (by omega) (by omega)
 have e8 := join_lit (4096 * q + 1 * 1 + o3 * 2 + kn * 4 + sh * 256 + r * 64 + wr * 128 + a * 1024) x 54 18014398509481984 2 54 rfl rfl 1 rfl (by omega) (by omega) (by omega) (by omega) (by omega)
 simp only [joinV, List.foldl_cons, List.foldl_nil]
 rw [e0, show 0 + 4096 * q * 1 = 4096 * q by omega, e1, e2, e3, e4, e5, e6, e7, e8]; omega
end Go.Proofs.YtiblhlaemmdphaaGreat
/- Plain: what is put is read as it was, at every descriptor that may be of its level. -/
namespace Go.Proofs.YtiblhlaemmdphaaGreat
open Go.RowKit
theorem bitV_of (a i : Int) (h0 : 0 ≤ a) (h1 : 0 ≤ i) (h2 : i ≤ 63) (h : a / 2 ^ i.toNat % 2 = 1) : bitV a i = true := by
 unfold bitV; rw [fld_at a i h0 h1 h2, h]; rfl
theorem bitV_no (a i : Int) (h0 : 0 ≤ a) (h1 : 0 ≤ i) (h2 : i ≤ 63) (h : a / 2 ^ i.toNat % 2 = 0) : bitV a i = false := by
 unfold bitV; rw [fld_at a i h0 h1 h2, h]; rfl
theorem bitV_is (a i : Int) (b : Bool) (h0 : 0 ≤ a) (h1 : 0 ≤ i) (h2 : i ≤ 63) (h : a / 2 ^ i.toNat % 2 = oneV b) : bitV a i = b := by
 cases b
 ·exact bitV_no a i h0 h1 h2 (by simpa [oneV] using h)
 ·exact bitV_of a i h0 h1 h2 (by simpa [oneV] using h)
theorem from_lit (a lo p q r : Int) (n : Nat) (hn : lo.toNat = n) (hp : (2 : Int) ^ n = p) (hq : (2 : Int) ^ (47 - lo + 1).toNat = q) (h0 : 0 ≤ lo) (h1 : lo ≤ 47) (hr : a / p % q * p = r) (hr0 : 0 ≤ r) (hr1 : r < 18446744073709551616) : fromV a lo = r := by
 unfold fromV fldV
 rw [if_neg (by omega), hn, hp, hq, hr, IntKind.wrap_u64]; omega
theorem table_sum (q : Int) (hq : 0 ≤ q) (hq' : q < 268435456) : joinV [(0, 4096 * q), (0, 1), (1, 1)] = 4096 * q + 3 := by
 have e0 := join_lit 0 (4096 * q) 0 1 1099511627776 0 rfl rfl 40 rfl (by omega) (by omega) (by omega) (by omega) (by omega)
 have e1 := join_lit (4096 * q) 1 0 1 4096 0 rfl rfl 12 rfl (by omega) (by omega) (by omega) (by omega) (by omega)
 have e2 := join_lit (4096 * q + 1 * 1) 1 1 2 2 1 rfl rfl 1 rfl (by omega) (by omega) (by omega) (by omega) (by omega)
 simp only [joinV, List.foldl_cons, List.foldl_nil]
 rw [e0, show 0 + 4096 * q * 1 = 4096 * q by omega, e1, e2]; omega
theorem perm_parts (p : Int) (h0 : 0 ≤ p) (h1 : p ≤ 7) :
  oneV (bits BinOp.and IntKind.i64 p 1 != 0) + 2 * oneV (bits BinOp.and IntKind.i64 p 2 != 0) + 4 * (1 - oneV (bits BinOp.and IntKind.i64 p 4 == 0)) = p := by
 have : p = 0 ∨ p = 1 ∨ p = 2 ∨ p = 3 ∨ p = 4 ∨ p = 5 ∨ p = 6 ∨ p = 7 := by omega
 rcases this with rfl | rfl | rfl | rfl | rfl | rfl | rfl | rfl <;> decide +kernel
theorem oneV_bd' (b : Bool) : 0 ≤ oneV b ∧ oneV b ≤ 1 := by cases b <;> decide
theorem of_leaf_word (l pa perm mem : Int) (af : Bool) (k : Int) (W : Int) (q o3 kn sh r wr x : Int) (hl : l = 1 ∨ l = 2 ∨ l = 3) (hk : k = if l = 3 then 3 else 2) (h0 : 0 ≤ pa) (h1 : pa < 1099511627776) (hq : pa = 4096 * q) (hpa : pa % szV l = 0)
  (h3 : o3 = if l = 3 then 1 else 0) (hm : (mem = 1 ∧ kn = 1 ∧ sh = 2) ∨ (mem = 0 ∧ kn = 15 ∧ sh = 3)) (hr : 0 ≤ r ∧ r ≤ 1) (hw : 0 ≤ wr ∧ wr ≤ 1) (hx : 0 ≤ x ∧ x ≤ 1) (hp : r + 2 * wr + 4 * (1 - x) = perm)
  (hW : W = 4096 * q + 1 + o3 * 2 + kn * 4 + sh * 256 + r * 64 + wr * 128 + oneV af * 1024 + x * 18014398509481984) : ofV l W = ⟨k, pa, perm, mem, af⟩ := by
 have ha := oneV_bd' af
 have hs : 0 ≤ sh ∧ sh ≤ 3 := by omega
 have hkn : kn = 1 ∨ kn = 15 := by omega
 have ho : 0 ≤ o3 ∧ o3 ≤ 1 := by rw [h3]; split <;> omega
 have hW0 : 0 ≤ W := by omega
 have hW1 : W < 18446744073709551616 := by omega
 have b0 : bitV W 0 = true := bitV_of W 0 hW0 (by omega) (by omega) (by rw [show (2 : Int) ^ (0 : Int).toNat = 1 from rfl]; omega)
 have b10 : bitV W 10 = af := bitV_is W 10 af hW0 (by omega) (by omega) (by rw [show (2 : Int) ^ (10 : Int).toNat = 1024 from rfl]; omega)
 have f54 : fldV W 5 4 = if mem = 1 then 0 else 3 := by
  have e : fldV W 5 4 = W / 16 % 4 := by unfold fldV; rw [if_neg (by omega)]; rfl
  rw [e]; rcases hm with ⟨h1, h2, h3⟩ | ⟨h1, h2, h3⟩ <;> rw [h1] <;> simp <;> omega
 have f76 : fldV W 7 6 = r + 2 * wr := by
  have e : fldV W 7 6 = W / 64 % 4 := by unfold fldV; rw [if_neg (by omega)]; rfl
  rw [e]; omega
 have f5454 : fldV W 54 54 = x := by
  have e : fldV W 54 54 = W / 18014398509481984 % 2 := by unfold fldV; rw [if_neg (by omega)]; rfl
  rw [e]; omega
 have hperm : perm3 W = perm := by rw [perm3_eq W hW0, f76, f5454, hp]
 have hmem : memV W = mem := by
  unfold memV; rw [f54]; rcases hm with ⟨h1, h2, h3⟩ | ⟨h1, h2, h3⟩ <;> rw [h1] <;> simp
 have hpaW : fromV W (39 - 9 * l) = pa := by
  rcases hl with rfl | rfl | rfl
  ·have hz : szV 1 = 1073741824 := rfl
   rw [hz] at hpa
   exact from_lit W _ 1073741824 262144 pa 30 rfl rfl rfl (by omega) (by omega) (by omega) h0 (by omega)
  ·have hz : szV 2 = 2097152 := rfl
   rw [hz] at hpa
   exact from_lit W _ 2097152 134217728 pa 21 rfl rfl rfl (by omega) (by omega) (by omega) h0 (by omega)
  ·exact from_lit W _ 4096 68719476736 pa 12 rfl rfl rfl (by omega) (by omega) (by omega) h0 (by omega)
 have b1 : bitV W 1 = decide (l = 3) := by
  apply bitV_is W 1 _ hW0 (by omega) (by omega)
  rw [show (2 : Int) ^ (1 : Int).toNat = 2 from rfl]
  have : oneV (decide (l = 3)) = o3 := by rw [h3]; unfold oneV; by_cases h : l = 3 <;> simp [h]
  omega
 have hsz := (szV_ne hl).2
 unfold ofV leafV
 rw [b0, b1, b10, hperm, hmem, hpaW, hk]
 by_cases h : l = 3
 ·subst h
  rw [if_neg (by intro e; rcases e with e | e | e; exact hsz e; cases e; simp at e), if_neg (by simp)]
 ·rw [if_neg (by simp [hsz, h]), if_neg (by simp [h])]
theorem of_put (l : Int) (d : DescV) (h0 : 0 ≤ d.pa) (hm : mayV l d = true) : ofV l (putV l d).1 = d := by
 obtain ⟨k, pa, perm, mem, af⟩ := d
 dsimp only at h0
 unfold putV
 rw [if_neg (by rw [hm]; simp)]
 unfold mayV at hm
 dsimp only at hm ⊢
 by_cases hz : szV l = 0 ∨ 1099511627776 ≤ pa
 ·rw [if_pos hz] at hm; cases hm
 rw [if_neg hz] at hm
 have hl : l = 1 ∨ l = 2 ∨ l = 3 := by
  apply Classical.byContradiction
  intro h
  exact hz (.inl (szV_no h))
 have h1 : pa < 1099511627776 := by omega
 by_cases e0 : k = 0
 ·subst e0
  rw [if_pos rfl] at hm
  simp [bareV] at hm
  obtain ⟨⟨⟨rfl, rfl⟩, rfl⟩, rfl⟩ := hm
  have b0 : bitV 0 0 = false := by decide +kernel
  simp [ofV, b0, zeroV]
 rw [if_neg e0] at hm
 by_cases e1 : k = 1
 ·subst e1
  rw [if_pos rfl] at hm
  simp [bareV] at hm
  obtain ⟨⟨⟨⟨rfl, rfl⟩, rfl⟩, h3⟩, h4⟩ := hm
  obtain ⟨q, rfl⟩ : ∃ q, pa = 4096 * q := ⟨pa / 4096, by omega⟩
  simp only [if_neg e0, if_true]
  rw [table_sum q (by omega) (by omega)]
  have b0 : bitV (4096 * q + 3) 0 = true := bitV_of _ 0 (by omega) (by omega) (by omega) (by rw [show (2 : Int) ^ (0 : Int).toNat = 1 from rfl]; omega)
  have b1 : bitV (4096 * q + 3) 1 = true := bitV_of _ 1 (by omega) (by omega) (by omega) (by rw [show (2 : Int) ^ (1 : Int).toNat = 2 from rfl]; omega)
  have hf : fromV (4096 * q + 3) 12 = 4096 * q := from_lit _ _ 4096 68719476736 _ 12 rfl rfl rfl (by omega) (by omega) (by omega) h0 (by omega)
  have hsz := (szV_ne hl).2
  unfold ofV
  rw [if_neg (by simp [hsz, b0, b1]), if_pos ⟨h3, b1⟩, hf]
 rw [if_neg e1] at hm
 by_cases e2 : k = 2 ∨ k = 3
 ·rw [if_pos e2] at hm
  simp at hm
  obtain ⟨⟨⟨⟨h3, h4⟩, h5⟩, h6⟩, h7⟩ := hm
  rw [if_neg e0, if_neg e1]
  have h4096 : pa % 4096 = 0 := by
   rcases hl with rfl | rfl | rfl
   ·have hz : szV 1 = 1073741824 := rfl
    rw [hz] at h4; omega
   ·have hz : szV 2 = 2097152 := rfl
    rw [hz] at h4; omega
   ·exact h4
  obtain ⟨q, hq⟩ : ∃ q, pa = 4096 * q := ⟨pa / 4096, by omega⟩
  have hsum := leaf_sum q (oneV (l == 3)) (if mem = 1 then 1 else 15) (if mem = 1 then 2 else 3) (oneV (bits BinOp.and IntKind.i64 perm 1 != 0)) (oneV (bits BinOp.and IntKind.i64 perm 2 != 0)) (oneV af) (oneV (bits BinOp.and IntKind.i64 perm 4 == 0))
   (by omega) (by omega) (oneV_bd' _) (by split <;> omega) (by split <;> omega) (oneV_bd' _) (oneV_bd' _) (oneV_bd' _) (oneV_bd' _)
  have hj : joinV (leafFields l ⟨k, pa, perm, mem, af⟩) = _ := (by rw [leafFields, hq] : joinV (leafFields l ⟨k, pa, perm, mem, af⟩) = _).trans hsum
  refine of_leaf_word l pa perm mem af k _ q (oneV (l == 3)) (if mem = 1 then 1 else 15) (if mem = 1 then 2 else 3) _ _ _ hl ?_ h0 h1 hq h4 ?_ ?_ (oneV_bd' _) (oneV_bd' _) (oneV_bd' _) (perm_parts perm h5 h6) hj
  ·by_cases h : l = 3
   ·rw [if_pos h]; exact h3.2 h
   ·rw [if_neg h]; rcases e2 with h | h'
    ·exact h
    ·exact absurd (h3.1 h') h
  ·unfold oneV; by_cases h : l = 3 <;> simp [h]
  ·rcases h7 with rfl | rfl
   ·right; simp
   ·left; simp
 ·rw [if_neg e2] at hm; cases hm
end Go.Proofs.YtiblhlaemmdphaaGreat
/- The walks of the four statements of chapter 18: each returns true. Conditions: the library's table for trailing zeros is as its initialiser lays it. -/
namespace Go.Proofs.YtiblhlaemmdphaaGreat
open Go.RowKit
theorem bits_u64_bd (op : BinOp) (x y : Int) : 0 ≤ bits op .u64 x y ∧ bits op .u64 x y < 18446744073709551616 := by
 unfold bits
 split <;> (try rw [IntKind.wrap_u64]) <;> omega
theorem joinV_bd (fs : List (Int × Int)) : 0 ≤ joinV fs ∧ joinV fs < 18446744073709551616 := by
 rcases List.eq_nil_or_concat fs with rfl | ⟨L, x, rfl⟩
 ·decide
 ·rw [List.concat_eq_append, joinV_snoc]; exact bits_u64_bd _ _ _
theorem putV_bd (l : Int) (d : DescV) : 0 ≤ (putV l d).1 ∧ (putV l d).1 < 18446744073709551616 := by
 unfold putV
 split; decide; split; decide; split; exact joinV_bd _; exact joinV_bd _
theorem putV_ok (l : Int) (d : DescV) : (mayV l d = true ∧ (putV l d).2 = 0) ∨ (mayV l d = false ∧ (putV l d).2 = 180) := by
 cases h : mayV l d
 ·right; unfold putV; rw [if_pos h]; exact ⟨rfl, rfl⟩
 ·left; unfold putV; rw [if_neg (by rw [h]; simp)]; refine ⟨rfl, ?_⟩; split; rfl; split <;> rfl
end Go.Proofs.YtiblhlaemmdphaaGreat
