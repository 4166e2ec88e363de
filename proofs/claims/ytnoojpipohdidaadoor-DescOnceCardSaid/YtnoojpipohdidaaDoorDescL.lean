/- Plain: what is put is read as it was, at every descriptor that may be of its level. -/
import Derived.Test.YtnoojpipohdidaaDoorDescK
namespace Go.Proofs.YtnoojpipohdidaaDoor
open Go.RowKit

theorem bitV_of (a i : Int) (h0 : 0 ≤ a) (h1 : 0 ≤ i) (h2 : i ≤ 63) (h : a / 2 ^ i.toNat % 2 = 1) : bitV a i = true := by
  unfold bitV; rw [fld_at a i h0 h1 h2, h]; rfl
theorem bitV_no (a i : Int) (h0 : 0 ≤ a) (h1 : 0 ≤ i) (h2 : i ≤ 63) (h : a / 2 ^ i.toNat % 2 = 0) : bitV a i = false := by
  unfold bitV; rw [fld_at a i h0 h1 h2, h]; rfl
theorem bitV_is (a i : Int) (b : Bool) (h0 : 0 ≤ a) (h1 : 0 ≤ i) (h2 : i ≤ 63) (h : a / 2 ^ i.toNat % 2 = oneV b) : bitV a i = b := by
  cases b
  · exact bitV_no a i h0 h1 h2 (by simpa [oneV] using h)
  · exact bitV_of a i h0 h1 h2 (by simpa [oneV] using h)
theorem from_lit (a lo p q r : Int) (n : Nat) (hn : lo.toNat = n) (hp : (2 : Int) ^ n = p) (hq : (2 : Int) ^ (47 - lo + 1).toNat = q) (h0 : 0 ≤ lo) (h1 : lo ≤ 47) (hr : a / p % q * p = r) (hr0 : 0 ≤ r) (hr1 : r < 18446744073709551616) : fromV a lo = r := by
  unfold fromV fldV
  rw [if_neg (by omega), hn, hp, hq, hr, IntKind.wrap_u64]; omega

theorem table_sum (q : Int) (hq : 0 ≤ q) (hq' : q < 268435456) : joinV [(0, 4096 * q), (0, 1), (1, 1)] = 4096 * q + 3 := by
  have e0 := join_lit 0 (4096 * q) 0 1 1099511627776 0 rfl rfl 40 rfl (by omega) (by omega) (by omega) (by omega) (by omega)
  have e1 := join_lit (4096 * q) 1 0 1 4096 0 rfl rfl 12 rfl (by omega) (by omega) (by omega) (by omega) (by omega)
  have e2 := join_lit (4096 * q + 1 * 1) 1 1 2 2 1 rfl rfl 1 rfl (by omega) (by omega) (by omega) (by omega) (by omega)
  simp only [joinV, List.foldl_cons, List.foldl_nil]
  rw [e0, show 0 + 4096 * q * 1 = 4096 * q by omega, e1, e2]; omega

theorem perm_parts (p : Int) (h0 : 0 ≤ p) (h1 : p ≤ 7) :
    oneV (bits BinOp.and IntKind.i64 p 1 != 0) + 2 * oneV (bits BinOp.and IntKind.i64 p 2 != 0) + 4 * (1 - oneV (bits BinOp.and IntKind.i64 p 4 == 0)) = p := by
  have : p = 0 ∨ p = 1 ∨ p = 2 ∨ p = 3 ∨ p = 4 ∨ p = 5 ∨ p = 6 ∨ p = 7 := by omega
  rcases this with rfl | rfl | rfl | rfl | rfl | rfl | rfl | rfl <;> decide +kernel

theorem oneV_bd' (b : Bool) : 0 ≤ oneV b ∧ oneV b ≤ 1 := by cases b <;> decide

/-- What a leaf's word is read as. -/
theorem of_leaf_word (l pa perm mem : Int) (af : Bool) (k : Int) (W : Int) (q o3 kn sh r wr x : Int) (hl : l = 1 ∨ l = 2 ∨ l = 3) (hk : k = if l = 3 then 3 else 2) (h0 : 0 ≤ pa) (h1 : pa < 1099511627776) (hq : pa = 4096 * q) (hpa : pa % szV l = 0)
    (h3 : o3 = if l = 3 then 1 else 0) (hm : (mem = 1 ∧ kn = 1 ∧ sh = 2) ∨ (mem = 0 ∧ kn = 15 ∧ sh = 3)) (hr : 0 ≤ r ∧ r ≤ 1) (hw : 0 ≤ wr ∧ wr ≤ 1) (hx : 0 ≤ x ∧ x ≤ 1) (hp : r + 2 * wr + 4 * (1 - x) = perm)
    (hW : W = 4096 * q + 1 + o3 * 2 + kn * 4 + sh * 256 + r * 64 + wr * 128 + oneV af * 1024 + x * 18014398509481984) : ofV l W = ⟨k, pa, perm, mem, af⟩ := by
  have ha := oneV_bd' af
  have hs : 0 ≤ sh ∧ sh ≤ 3 := by omega
  have hkn : kn = 1 ∨ kn = 15 := by omega
  have ho : 0 ≤ o3 ∧ o3 ≤ 1 := by rw [h3]; split <;> omega
  have hW0 : 0 ≤ W := by omega
  have hW1 : W < 18446744073709551616 := by omega
  have b0 : bitV W 0 = true := bitV_of W 0 hW0 (by omega) (by omega) (by rw [show (2 : Int) ^ (0 : Int).toNat = 1 from rfl]; omega)
  have b10 : bitV W 10 = af := bitV_is W 10 af hW0 (by omega) (by omega) (by rw [show (2 : Int) ^ (10 : Int).toNat = 1024 from rfl]; omega)
  have f54 : fldV W 5 4 = if mem = 1 then 0 else 3 := by
    have e : fldV W 5 4 = W / 16 % 4 := by unfold fldV; rw [if_neg (by omega)]; rfl
    rw [e]; rcases hm with ⟨h1, h2, h3⟩ | ⟨h1, h2, h3⟩ <;> rw [h1] <;> simp <;> omega
  have f76 : fldV W 7 6 = r + 2 * wr := by
    have e : fldV W 7 6 = W / 64 % 4 := by unfold fldV; rw [if_neg (by omega)]; rfl
    rw [e]; omega
  have f5454 : fldV W 54 54 = x := by
    have e : fldV W 54 54 = W / 18014398509481984 % 2 := by unfold fldV; rw [if_neg (by omega)]; rfl
    rw [e]; omega
  have hperm : perm3 W = perm := by rw [perm3_eq W hW0, f76, f5454, hp]
  have hmem : memV W = mem := by
    unfold memV; rw [f54]; rcases hm with ⟨h1, h2, h3⟩ | ⟨h1, h2, h3⟩ <;> rw [h1] <;> simp
  have hpaW : fromV W (39 - 9 * l) = pa := by
    rcases hl with rfl | rfl | rfl
    · have hz : szV 1 = 1073741824 := rfl
      rw [hz] at hpa
      exact from_lit W _ 1073741824 262144 pa 30 rfl rfl rfl (by omega) (by omega) (by omega) h0 (by omega)
    · have hz : szV 2 = 2097152 := rfl
      rw [hz] at hpa
      exact from_lit W _ 2097152 134217728 pa 21 rfl rfl rfl (by omega) (by omega) (by omega) h0 (by omega)
    · exact from_lit W _ 4096 68719476736 pa 12 rfl rfl rfl (by omega) (by omega) (by omega) h0 (by omega)
  have b1 : bitV W 1 = decide (l = 3) := by
    apply bitV_is W 1 _ hW0 (by omega) (by omega)
    rw [show (2 : Int) ^ (1 : Int).toNat = 2 from rfl]
    have : oneV (decide (l = 3)) = o3 := by rw [h3]; unfold oneV; by_cases h : l = 3 <;> simp [h]
    omega
  have hsz := (szV_ne hl).2
  unfold ofV leafV
  rw [b0, b1, b10, hperm, hmem, hpaW, hk]
  by_cases h : l = 3
  · subst h
    rw [if_neg (by intro e; rcases e with e | e | e; exact hsz e; cases e; simp at e), if_neg (by simp)]
  · rw [if_neg (by simp [hsz, h]), if_neg (by simp [h])]

theorem of_put (l : Int) (d : DescV) (h0 : 0 ≤ d.pa) (hm : mayV l d = true) : ofV l (putV l d).1 = d := by
  obtain ⟨k, pa, perm, mem, af⟩ := d
  dsimp only at h0
  unfold putV
  rw [if_neg (by rw [hm]; simp)]
  unfold mayV at hm
  dsimp only at hm ⊢
  by_cases hz : szV l = 0 ∨ 1099511627776 ≤ pa
  · rw [if_pos hz] at hm; cases hm
  rw [if_neg hz] at hm
  have hl : l = 1 ∨ l = 2 ∨ l = 3 := by
    apply Classical.byContradiction
    intro h
    exact hz (.inl (szV_no h))
  have h1 : pa < 1099511627776 := by omega
  by_cases e0 : k = 0
  · subst e0
    rw [if_pos rfl] at hm
    simp [bareV] at hm
    obtain ⟨⟨⟨rfl, rfl⟩, rfl⟩, rfl⟩ := hm
    have b0 : bitV 0 0 = false := by decide +kernel
    simp [ofV, b0, zeroV]
  rw [if_neg e0] at hm
  by_cases e1 : k = 1
  · subst e1
    rw [if_pos rfl] at hm
    simp [bareV] at hm
    obtain ⟨⟨⟨⟨rfl, rfl⟩, rfl⟩, h3⟩, h4⟩ := hm
    obtain ⟨q, rfl⟩ : ∃ q, pa = 4096 * q := ⟨pa / 4096, by omega⟩
    simp only [if_neg e0, if_true]
    rw [table_sum q (by omega) (by omega)]
    have b0 : bitV (4096 * q + 3) 0 = true := bitV_of _ 0 (by omega) (by omega) (by omega) (by rw [show (2 : Int) ^ (0 : Int).toNat = 1 from rfl]; omega)
    have b1 : bitV (4096 * q + 3) 1 = true := bitV_of _ 1 (by omega) (by omega) (by omega) (by rw [show (2 : Int) ^ (1 : Int).toNat = 2 from rfl]; omega)
    have hf : fromV (4096 * q + 3) 12 = 4096 * q := from_lit _ _ 4096 68719476736 _ 12 rfl rfl rfl (by omega) (by omega) (by omega) h0 (by omega)
    have hsz := (szV_ne hl).2
    unfold ofV
    rw [if_neg (by simp [hsz, b0, b1]), if_pos ⟨h3, b1⟩, hf]
  rw [if_neg e1] at hm
  by_cases e2 : k = 2 ∨ k = 3
  · rw [if_pos e2] at hm
    simp at hm
    obtain ⟨⟨⟨⟨h3, h4⟩, h5⟩, h6⟩, h7⟩ := hm
    rw [if_neg e0, if_neg e1]
    have h4096 : pa % 4096 = 0 := by
      rcases hl with rfl | rfl | rfl
      · have hz : szV 1 = 1073741824 := rfl
        rw [hz] at h4; omega
      · have hz : szV 2 = 2097152 := rfl
        rw [hz] at h4; omega
      · exact h4
    obtain ⟨q, hq⟩ : ∃ q, pa = 4096 * q := ⟨pa / 4096, by omega⟩
    have hsum := leaf_sum q (oneV (l == 3)) (if mem = 1 then 1 else 15) (if mem = 1 then 2 else 3) (oneV (bits BinOp.and IntKind.i64 perm 1 != 0)) (oneV (bits BinOp.and IntKind.i64 perm 2 != 0)) (oneV af) (oneV (bits BinOp.and IntKind.i64 perm 4 == 0))
      (by omega) (by omega) (oneV_bd' _) (by split <;> omega) (by split <;> omega) (oneV_bd' _) (oneV_bd' _) (oneV_bd' _) (oneV_bd' _)
    have hj : joinV (leafFields l ⟨k, pa, perm, mem, af⟩) = _ := (by rw [leafFields, hq] : joinV (leafFields l ⟨k, pa, perm, mem, af⟩) = _).trans hsum
    refine of_leaf_word l pa perm mem af k _ q (oneV (l == 3)) (if mem = 1 then 1 else 15) (if mem = 1 then 2 else 3) _ _ _ hl ?_ h0 h1 hq h4 ?_ ?_ (oneV_bd' _) (oneV_bd' _) (oneV_bd' _) (perm_parts perm h5 h6) hj
    · by_cases h : l = 3
      · rw [if_pos h]; exact h3.2 h
      · rw [if_neg h]; rcases e2 with h | h'
        · exact h
        · exact absurd (h3.1 h') h
    · unfold oneV; by_cases h : l = 3 <;> simp [h]
    · rcases h7 with rfl | rfl
      · right; simp
      · left; simp
  · rw [if_neg e2] at hm; cases hm
end Go.Proofs.YtnoojpipohdidaaDoor
