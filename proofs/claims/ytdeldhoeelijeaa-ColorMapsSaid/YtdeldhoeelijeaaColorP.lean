/- Plain: how many pages of the colors of a mask there are: by rounds and a rest, by residues, and one by one. -/
import Derived.Test.YtdeldhoeelijeaaColorO
namespace Go.Proofs.Ytdeldhoeelijeaa
open Go

theorem sumN_congr {f g : Nat → Int} : ∀ {n : Nat}, (∀ k, k < n → f k = g k) → sumN f n = sumN g n
  | 0, _ => rfl
  | n + 1, h => by
    show sumN f n + f n = sumN g n + g n
    rw [sumN_congr (fun k hk => h k (by omega)), h n (by omega)]
theorem sumN_add (f : Nat → Int) (a : Nat) : ∀ b, sumN f (a + b) = sumN f a + sumN (fun i => f (a + i)) b
  | 0 => by simp [sumN]
  | b + 1 => by
    show sumN f (a + b) + f (a + b) = sumN f a + (sumN (fun i => f (a + i)) b + f (a + b))
    rw [sumN_add f a b]; omega
theorem sumN_zero : ∀ n : Nat, sumN (fun _ => 0) n = 0
  | 0 => rfl
  | n + 1 => by show sumN (fun _ => 0) n + 0 = 0; rw [sumN_zero n]; rfl
theorem sumN_bd {f : Nat → Int} {M : Int} (hM : ∀ k, 0 ≤ f k ∧ f k ≤ M) : ∀ n : Nat, 0 ≤ sumN f n ∧ sumN f n ≤ n * M
  | 0 => by simp [sumN]
  | n + 1 => by
    have h1 := sumN_bd hM n
    have h2 := hM n
    have e : ((n + 1 : Nat) : Int) * M = n * M + M := by rw [Int.natCast_add, Int.add_mul]; simp
    show 0 ≤ sumN f n + f n ∧ sumN f n + f n ≤ _
    rw [e]; omega
theorem sumN_one {f g : Nat → Int} {j : Nat} {d : Int} : ∀ {n : Nat}, (∀ k, k < n → f k = g k + if k = j then d else 0) → sumN f n = sumN g n + if j < n then d else 0
  | 0, _ => by simp [sumN]
  | n + 1, h => by
    show sumN f n + f n = sumN g n + g n + _
    rw [sumN_one (j := j) (d := d) (fun k hk => h k (by omega)), h n (by omega)]
    by_cases h1 : j < n
    · rw [if_pos h1, if_neg (by omega), if_pos (by omega)]; omega
    · by_cases h2 : n = j
      · rw [if_neg h1, if_pos h2, if_pos (by omega)]; omega
      · rw [if_neg h1, if_neg h2, if_neg (by omega)]; omega

/-- So many colors may be. -/
def someV (n : Int) : Bool := decide (n = 1 ∨ n = 2 ∨ n = 4 ∨ n = 8 ∨ n = 16 ∨ n = 32 ∨ n = 64)
theorem someV_iff {n : Int} : someV n = true ↔ (n = 1 ∨ n = 2 ∨ n = 4 ∨ n = 8 ∨ n = 16 ∨ n = 32 ∨ n = 64) := decide_eq_true_iff
theorem someV_nat {n : Nat} (h : someV n = true) : n = 1 ∨ n = 2 ∨ n = 4 ∨ n = 8 ∨ n = 16 ∨ n = 32 ∨ n = 64 := by
  have := someV_iff.1 h
  omega
/-- A mask may be one of so many colors. -/
def maskedV (n mask : Int) : Bool := someV n && decide (mask ≠ 0) && decide (n = 64 ∨ mask / 2 ^ n.toNat = 0)
theorem maskedV_iff {n mask : Int} : maskedV n mask = true ↔ (someV n = true ∧ mask ≠ 0 ∧ (n = 64 ∨ mask / 2 ^ n.toNat = 0)) := by
  unfold maskedV; rw [Bool.and_eq_true, Bool.and_eq_true, decide_eq_true_iff, decide_eq_true_iff, and_assoc]
def ofV (pa n : Int) : Int := if someV n = true then pa / 4096 % n else -1

/-- The color of the page that is so many behind the 'a'-th one: whether it is in the mask. -/
def rotB (mask : Int) (n a k : Nat) : Int := bitN mask ((a + k) % n)
theorem bitN_bd (m : Int) (i : Nat) : 0 ≤ bitN m i ∧ bitN m i ≤ 1 := by unfold bitN; omega
theorem rotB_bd (m : Int) (n a k : Nat) : 0 ≤ rotB m n a k ∧ rotB m n a k ≤ 1 := bitN_bd _ _
theorem sum_rot (mask : Int) (n : Nat) : ∀ a, sumN (rotB mask n a) n = sumN (bitN mask) n
  | 0 => sumN_congr fun k hk => by unfold rotB; rw [Nat.zero_add, Nat.mod_eq_of_lt hk]
  | a + 1 => by
    rw [← sum_rot mask n a]
    cases n with
    | zero => rfl
    | succ m =>
      have h1 := sumN_add (rotB mask (m + 1) a) 1 m
      rw [show 1 + m = m + 1 by omega] at h1
      rw [h1]
      show sumN (rotB mask (m + 1) (a + 1)) m + rotB mask (m + 1) (a + 1) m = 0 + rotB mask (m + 1) a 0 + _
      have e1 : rotB mask (m + 1) (a + 1) m = rotB mask (m + 1) a 0 := by
        unfold rotB; rw [show a + 1 + m = a + (m + 1) by omega, Nat.add_mod_right]; rfl
      have e2 : sumN (rotB mask (m + 1) (a + 1)) m = sumN (fun i => rotB mask (m + 1) a (1 + i)) m := sumN_congr fun k _ => by
        unfold rotB; rw [show a + 1 + k = a + (1 + k) by omega]
      rw [e1, e2]; omega
/-- Rounds and a rest. -/
theorem sum_rounds (mask : Int) (n a : Nat) (r : Nat) : ∀ q : Nat, sumN (rotB mask n a) (n * q + r) = q * sumN (bitN mask) n + sumN (rotB mask n a) r
  | 0 => by simp
  | q + 1 => by
    rw [show n * (q + 1) + r = n + (n * q + r) by rw [Nat.mul_add]; omega, sumN_add, sum_rot]
    have e : sumN (fun i => rotB mask n a (n + i)) (n * q + r) = sumN (rotB mask n a) (n * q + r) := sumN_congr fun k _ => by
      unfold rotB; rw [show a + (n + k) = a + k + n by omega, Nat.add_mod_right]
    rw [e, sum_rounds mask n a r q, show ((q + 1 : Nat) : Int) = (q : Int) + 1 from rfl, Int.add_mul]; omega
/-- How many of so many are at a residue. -/
def resN (n c k : Nat) : Int := ((c : Int) - k + n - 1) / n
theorem resN_step {n : Nat} (hn : someV n = true) (c k : Nat) (hk : k < n) : resN n (c + 1) k = resN n c k + if k = c % n then 1 else 0 := by
  unfold resN
  rcases someV_nat hn with rfl | rfl | rfl | rfl | rfl | rfl | rfl
  all_goals
    split <;> omega
theorem resN_zero {n : Nat} (hn : someV n = true) (c k : Nat) (hk : k < n) (hc : c ≤ k) : resN n c k = 0 := by
  unfold resN
  rcases someV_nat hn with rfl | rfl | rfl | rfl | rfl | rfl | rfl
  all_goals
    omega
theorem sum_res (mask : Int) {n : Nat} (hn : someV n = true) (a : Nat) : ∀ c : Nat, sumN (fun k => rotB mask n a k * resN n c k) n = sumN (rotB mask n a) c
  | 0 => by
    show _ = 0
    rw [← sumN_zero n]
    exact sumN_congr fun k hk => by rw [resN_zero hn 0 k hk (Nat.zero_le _), Int.mul_zero]
  | c + 1 => by
    have n0 : 0 < n := by rcases someV_iff.1 hn with h | h | h | h | h | h | h <;> omega
    have h := sumN_one (f := fun k => rotB mask n a k * resN n (c + 1) k) (g := fun k => rotB mask n a k * resN n c k) (j := c % n) (d := rotB mask n a (c % n)) (n := n) (fun k hk => by
      show rotB mask n a k * resN n (c + 1) k = rotB mask n a k * resN n c k + _
      rw [resN_step hn c k hk, Int.mul_add]
      by_cases e : k = c % n
      · subst e; simp
      · rw [if_neg e, if_neg e]; simp)
    rw [h, sum_res mask hn a c, if_pos (Nat.mod_lt _ n0)]
    show _ = sumN (rotB mask n a) c + rotB mask n a c
    have e : rotB mask n a (c % n) = rotB mask n a c := by unfold rotB; rw [Nat.add_mod_mod]
    rw [e]
theorem sum_ones {n : Nat} {mask : Int} (hm : maskedV n mask = true) : sumN (bitN mask) 64 = sumN (bitN mask) n := by
  obtain ⟨hn, _, h⟩ := maskedV_iff.1 hm
  rcases h with h | h
  · have : n = 64 := by exact Int.ofNat.inj h
    rw [this]
  · rw [show ((n : Int)).toNat = n from rfl] at h
    have n64 : n ≤ 64 := by rcases someV_iff.1 hn with h | h | h | h | h | h | h <;> omega
    have e : (64 : Nat) = n + (64 - n) := by omega
    rw [e, sumN_add]
    have z : sumN (fun i => bitN mask (n + i)) (64 - n) = 0 := by
      rw [← sumN_zero (64 - n)]
      refine sumN_congr fun k _ => ?_
      unfold bitN
      rw [Int.pow_add, ← Int.ediv_ediv_of_nonneg (Int.le_of_lt (Int.pow_pos (by decide))), h]
      simp
    rw [z]; omega
theorem sum_ones_nat (x : Nat) : sumN (bitN x) 64 = ((popB (x % 256) + popB (x / 256 % 256) + popB (x / 65536 % 256) + popB (x / 16777216 % 256) + popB (x / 4294967296 % 256) + popB (x / 1099511627776 % 256) + popB (x / 281474976710656 % 256) + popB (x / 72057594037927936 % 256) : Nat) : Int) := by
  have g : ∀ (j : Nat) (p : Nat), 2 ^ j = p → sumN (fun i => bitN x (j + i)) 8 = (popB (x / p % 256) : Int) := by
    intro j p hp
    have e : ∀ i : Nat, bitN x (j + i) = ((x / p / 2 ^ i % 2 : Nat) : Int) := by
      intro i
      unfold bitN
      rw [Nat.div_div_eq_div_mul, ← hp, ← Nat.pow_add]
      exact_mod_cast rfl
    have e' : sumN (fun i => bitN x (j + i)) 8 = sumN (fun i => ((x / p / 2 ^ i % 2 : Nat) : Int)) 8 := sumN_congr fun k _ => e k
    rw [e']
    generalize x / p = y
    simp only [sumN, popB, Nat.reducePow]
    omega
  have h0 := g 0 1 rfl
  have h1 := g 8 256 rfl
  have h2 := g 16 65536 rfl
  have h3 := g 24 16777216 rfl
  have h4 := g 32 4294967296 rfl
  have h5 := g 40 1099511627776 rfl
  have h6 := g 48 281474976710656 rfl
  have h7 := g 56 72057594037927936 rfl
  have e0 : sumN (bitN x) 8 = sumN (bitN x) 0 + sumN (fun i => bitN x (0 + i)) 8 := sumN_add (bitN x) 0 8
  have e1 : sumN (bitN x) 16 = sumN (bitN x) 8 + sumN (fun i => bitN x (8 + i)) 8 := sumN_add (bitN x) 8 8
  have e2 : sumN (bitN x) 24 = sumN (bitN x) 16 + sumN (fun i => bitN x (16 + i)) 8 := sumN_add (bitN x) 16 8
  have e3 : sumN (bitN x) 32 = sumN (bitN x) 24 + sumN (fun i => bitN x (24 + i)) 8 := sumN_add (bitN x) 24 8
  have e4 : sumN (bitN x) 40 = sumN (bitN x) 32 + sumN (fun i => bitN x (32 + i)) 8 := sumN_add (bitN x) 32 8
  have e5 : sumN (bitN x) 48 = sumN (bitN x) 40 + sumN (fun i => bitN x (40 + i)) 8 := sumN_add (bitN x) 40 8
  have e6 : sumN (bitN x) 56 = sumN (bitN x) 48 + sumN (fun i => bitN x (48 + i)) 8 := sumN_add (bitN x) 48 8
  have e7 : sumN (bitN x) 64 = sumN (bitN x) 56 + sumN (fun i => bitN x (56 + i)) 8 := sumN_add (bitN x) 56 8
  have z : sumN (bitN x) 0 = 0 := rfl
  rw [Nat.div_one] at h0
  omega
end Go.Proofs.Ytdeldhoeelijeaa
