/- Plain: the sum of a word's bits, reckoned in three masked steps and three shifts. -/
import Derived.Laws.Bits64
import Derived.Laws.Bits64b
namespace Go.Proofs.Ytdeldhoeelijeaa
open Go

/-- A sum of so many. -/
def sumN (f : Nat → Int) : Nat → Int
  | 0 => 0
  | k + 1 => sumN f k + f k
/-- One bit of a word. -/
def bitN (m : Int) (i : Nat) : Int := m / 2 ^ i % 2

def rep (c : Nat) : Nat → Nat
  | 0 => 0
  | k + 1 => 256 * rep c k + c
/-- A number whose bytes are told of another's. -/
def byB (f : Nat → Nat) : Nat → Nat → Nat
  | 0, _ => 0
  | k + 1, x => 256 * byB f k (x / 256) + f (x % 256)
theorem and_byte (a M c : Nat) (hc : c < 256) : a &&& (256 * M + c) = 256 * (a / 256 &&& M) + (a % 256 &&& c) := by
  have h1 := @Nat.and_div_two_pow a (256 * M + c) 8
  have h2 := @Nat.and_mod_two_pow a (256 * M + c) 8
  rw [show (2 : Nat) ^ 8 = 256 from rfl] at h1 h2
  rw [show (256 * M + c) / 256 = M by omega] at h1
  rw [show (256 * M + c) % 256 = c by omega] at h2
  rw [← h1, ← h2]
  omega
theorem byB_div (f : Nat → Nat) (hf : ∀ b, b < 256 → f b < 256) (k x : Nat) : byB f (k + 1) x / 256 = byB f k (x / 256) := by
  have := hf (x % 256) (Nat.mod_lt _ (by decide))
  show (256 * byB f k (x / 256) + f (x % 256)) / 256 = _
  omega
theorem byB_mod (f : Nat → Nat) (hf : ∀ b, b < 256 → f b < 256) (k x : Nat) : byB f (k + 1) x % 256 = f (x % 256) := by
  have := hf (x % 256) (Nat.mod_lt _ (by decide))
  show (256 * byB f k (x / 256) + f (x % 256)) % 256 = _
  omega
theorem byB_id : ∀ k x, x < 256 ^ k → byB id k x = x
  | 0, x, h => by have : x = 0 := by simpa using h
                  subst this; rfl
  | k + 1, x, h => by
    show 256 * byB id k (x / 256) + x % 256 = x
    rw [byB_id k (x / 256) (by rw [Nat.pow_succ] at h; omega)]
    omega
theorem step_by (d c : Nat) (hd : 0 < d) (hc : c < 256) (hz : ∀ h l, l < 256 → ((256 * h + l) / d) % 256 &&& c = l / d &&& c) (f : Nat → Nat) (hf : ∀ b, b < 256 → f b < 256) :
    ∀ k x, (byB f k x / d &&& rep c k) + (byB f k x &&& rep c k) = byB (fun b => (f b / d &&& c) + (f b &&& c)) k x
  | 0, x => by simp [rep, byB]
  | k + 1, x => by
    have hl := hf (x % 256) (Nat.mod_lt _ (by decide))
    have e1 := byB_div f hf k x
    have e2 := byB_mod f hf k x
    have hz' := hz (byB f k (x / 256)) _ hl
    have ih := step_by d c hd hc hz f hf k (x / 256)
    show (byB f (k + 1) x / d &&& (256 * rep c k + c)) + (byB f (k + 1) x &&& (256 * rep c k + c)) = 256 * byB (fun b => (f b / d &&& c) + (f b &&& c)) k (x / 256) + ((f (x % 256) / d &&& c) + (f (x % 256) &&& c))
    rw [and_byte _ _ _ hc, and_byte _ _ _ hc, e1, e2, Nat.div_div_eq_div_mul, Nat.mul_comm d 256, ← Nat.div_div_eq_div_mul, e1, ← ih]
    have e3 : byB f (k + 1) x / d % 256 &&& c = f (x % 256) / d &&& c := hz'
    rw [e3]
    omega
theorem nib_by (f : Nat → Nat) (hf : ∀ b, b < 256 → f b < 80 ∧ f b % 16 ≤ 4) :
    ∀ k x, (byB f k x / 16 + byB f k x) &&& rep 15 k = byB (fun b => (f b / 16 + f b) % 16) k x
  | 0, x => by simp [rep, byB]
  | k + 1, x => by
    have hl := hf (x % 256) (Nat.mod_lt _ (by decide))
    have ih := nib_by f hf k (x / 256)
    have hlow : byB f k (x / 256) % 16 ≤ 4 := by
      cases k with
      | zero => simp [byB]
      | succ k =>
        have := (hf (x / 256 % 256) (Nat.mod_lt _ (by decide)))
        show (256 * byB f k (x / 256 / 256) + f (x / 256 % 256)) % 16 ≤ 4
        omega
    show ((256 * byB f k (x / 256) + f (x % 256)) / 16 + (256 * byB f k (x / 256) + f (x % 256))) &&& (256 * rep 15 k + 15) = 256 * byB (fun b => (f b / 16 + f b) % 16) k (x / 256) + (f (x % 256) / 16 + f (x % 256)) % 16
    rw [and_byte _ _ _ (by decide), ← ih]
    generalize byB f k (x / 256) = h at *
    generalize f (x % 256) = l at *
    have e1 : ((256 * h + l) / 16 + (256 * h + l)) / 256 = h / 16 + h := by omega
    have e2 : ((256 * h + l) / 16 + (256 * h + l)) % 256 &&& 15 = (l / 16 + l) % 16 := by
      have := Nat.and_two_pow_sub_one_eq_mod (((256 * h + l) / 16 + (256 * h + l)) % 256) 4
      rw [show 2 ^ 4 - 1 = 15 from rfl, show 2 ^ 4 = 16 from rfl] at this
      rw [this]
      omega
    rw [e1, e2]
def popB (l : Nat) : Nat := l % 2 + l / 2 % 2 + l / 4 % 2 + l / 8 % 2 + l / 16 % 2 + l / 32 % 2 + l / 64 % 2 + l / 128 % 2
def g1 (b : Nat) : Nat := (b / 2 &&& 85) + (b &&& 85)
def g2 (b : Nat) : Nat := (g1 b / 4 &&& 51) + (g1 b &&& 51)
set_option maxRecDepth 100000 in
theorem g_all : ∀ b : Fin 256, g1 b < 256 ∧ g2 b < 80 ∧ g2 b % 16 ≤ 4 ∧ (g2 b / 16 + g2 b) % 16 = popB b := by decide
theorem byB_congr (f g : Nat → Nat) (h : ∀ b, b < 256 → f b = g b) : ∀ k x, byB f k x = byB g k x
  | 0, _ => rfl
  | k + 1, x => by
    show 256 * byB f k (x / 256) + f (x % 256) = 256 * byB g k (x / 256) + g (x % 256)
    rw [byB_congr f g h k, h _ (Nat.mod_lt _ (by decide))]
theorem mask_by (d c : Nat) (q : Nat) (hd : d * q = 256) (n : Nat) (hq : q = 2 ^ n) (hc : c < q) : ∀ h l, l < 256 → ((256 * h + l) / d) % 256 &&& c = l / d &&& c := by
  intro h l hl
  have hd0 : 0 < d := by
    rcases Nat.eq_zero_or_pos d with h0 | h0
    · subst h0; simp at hd
    · exact h0
  have e1 : (256 * h + l) / d = q * h + l / d := by rw [← hd, Nat.mul_assoc, Nat.mul_add_div hd0]
  have hl2 : l / d < q := by rw [Nat.div_lt_iff_lt_mul hd0, Nat.mul_comm, hd]; exact hl
  have key : ∀ a, a &&& c = a % q &&& c := by
    intro a
    have h2 := @Nat.and_mod_two_pow a c n
    rw [← hq, Nat.mod_eq_of_lt hc] at h2
    have hle : a &&& c ≤ c := Nat.and_le_right
    rw [Nat.mod_eq_of_lt (by omega)] at h2
    exact h2
  rw [key, key (l / d), e1, Nat.mod_mod_of_dvd _ ⟨d, by rw [Nat.mul_comm, hd]⟩, Nat.mul_add_mod]
theorem swar (x : Nat) (hx : x < 18446744073709551616) :
    let y1 := (x / 2 &&& 6148914691236517205) + (x &&& 6148914691236517205)
    let y2 := (y1 / 4 &&& 3689348814741910323) + (y1 &&& 3689348814741910323)
    (y2 / 16 + y2) &&& 1085102592571150095 = byB popB 8 x := by
  intro y1 y2
  have h1 : y1 = byB g1 8 x := by
    have h := step_by 2 85 (by decide) (by decide) (mask_by 2 85 128 rfl 7 rfl (by decide)) id (fun b h => h) 8 x
    rw [byB_id 8 x (by simpa using hx)] at h
    exact h
  have h2 : y2 = byB g2 8 x := by
    have h := step_by 4 51 (by decide) (by decide) (mask_by 4 51 64 rfl 6 rfl (by decide)) g1 (fun b hb => (g_all ⟨b, hb⟩).1) 8 x
    rw [← h1] at h
    exact h
  have h3 := nib_by g2 (fun b hb => ⟨(g_all ⟨b, hb⟩).2.1, (g_all ⟨b, hb⟩).2.2.1⟩) 8 x
  rw [← h2] at h3
  rw [byB_congr popB (fun b => (g2 b / 16 + g2 b) % 16) (fun b hb => (g_all ⟨b, hb⟩).2.2.2.symm) 8 x]
  exact h3
theorem popB_le (l : Nat) : popB l ≤ 8 := by unfold popB; omega
theorem swar_sum (x y3 y4 y5 y6 : Nat) (d3 : y3 = byB popB 8 x) (d4 : y4 = y3 + y3 / 256) (d5 : y5 = y4 + y4 / 65536) (d6 : y6 = y5 + y5 / 4294967296) :
    y3 < 1000000000000000000 ∧ y4 < 1000000000000000000 ∧ y5 < 1000000000000000000 ∧ y6 < 1000000000000000000 ∧
    y6 % 128 = popB (x % 256) + popB (x / 256 % 256) + popB (x / 65536 % 256) + popB (x / 16777216 % 256) + popB (x / 4294967296 % 256) + popB (x / 1099511627776 % 256) + popB (x / 281474976710656 % 256) + popB (x / 72057594037927936 % 256) := by
  have e3 : y3 = popB (x % 256) + 256 * (popB (x / 256 % 256) + 256 * (popB (x / 65536 % 256) + 256 * (popB (x / 16777216 % 256) + 256 * (popB (x / 4294967296 % 256) + 256 * (popB (x / 1099511627776 % 256) + 256 * (popB (x / 281474976710656 % 256) + 256 * popB (x / 72057594037927936 % 256))))))) := by
    rw [d3]
    simp only [byB, Nat.div_div_eq_div_mul, Nat.reduceMul]
    omega
  clear d3
  have b0 := popB_le (x % 256)
  have b1 := popB_le (x / 256 % 256)
  have b2 := popB_le (x / 65536 % 256)
  have b3 := popB_le (x / 16777216 % 256)
  have b4 := popB_le (x / 4294967296 % 256)
  have b5 := popB_le (x / 1099511627776 % 256)
  have b6 := popB_le (x / 281474976710656 % 256)
  have b7 := popB_le (x / 72057594037927936 % 256)
  generalize popB (x % 256) = c0 at *
  generalize popB (x / 256 % 256) = c1 at *
  generalize popB (x / 65536 % 256) = c2 at *
  generalize popB (x / 16777216 % 256) = c3 at *
  generalize popB (x / 4294967296 % 256) = c4 at *
  generalize popB (x / 1099511627776 % 256) = c5 at *
  generalize popB (x / 281474976710656 % 256) = c6 at *
  generalize popB (x / 72057594037927936 % 256) = c7 at *
  have e4 : y4 = (c0 + c1) + 256 * ((c1 + c2) + 256 * ((c2 + c3) + 256 * ((c3 + c4) + 256 * ((c4 + c5) + 256 * ((c5 + c6) + 256 * ((c6 + c7) + 256 * c7)))))) := by omega
  have e5 : y5 = (c0 + c1 + c2 + c3) + 256 * ((c1 + c2 + c3 + c4) + 256 * ((c2 + c3 + c4 + c5) + 256 * ((c3 + c4 + c5 + c6) + 256 * ((c4 + c5 + c6 + c7) + 256 * ((c5 + c6 + c7) + 256 * ((c6 + c7) + 256 * c7)))))) := by omega
  have e6 : y5 / 4294967296 = (c4 + c5 + c6 + c7) + 256 * ((c5 + c6 + c7) + 256 * ((c6 + c7) + 256 * c7)) := by
    clear d4 d5 d6 e3 e4
    omega
  have b3' : y3 < 600000000000000000 := by clear d4 d5 d6 e4 e5 e6; omega
  have b4' : y4 < 700000000000000000 := by clear d5 d6 e3 e4 e5 e6; omega
  have b5' : y5 < 800000000000000000 := by clear d4 d6 e3 e4 e5 e6; omega
  have b6' : y6 < 900000000000000000 := by clear d4 d5 e3 e4 e5 e6; omega
  refine ⟨by omega, by omega, by omega, by omega, ?_⟩
  rw [d6, e6, e5]
  clear d4 d5 d6 e3 e4 e5 e6 b3' b4' b5' b6'
  omega
end Go.Proofs.Ytdeldhoeelijeaa
