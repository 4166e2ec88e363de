/- Tables over old bytes: what is touched in the clean memory. -/
import Derived.Test.YtiblhlaemmdphaaGreatTableFreshP12
import Derived.Test.YtiblhlaemmdphaaGreatTableFreshP35
import Derived.Test.YtiblhlaemmdphaaGreatTableFreshP40
namespace Go.Proofs.YtiblhlaemmdphaaGreat
open Go Go.RowKit Go.BigFrame
theorem InT.page {root : Int} {tb : List ((Int × Int) × Int)} {x y : Int} (h : InT root tb x) (h0 : root % 8192 = 0) (h1 : ∀ e ∈ tb, e.2 % 4096 = 0) (e : x / 4096 = y / 4096) : InT root tb y := by
 rcases h with h | ⟨t, ht, h⟩
 ·exact .inl (by omega)
 ·have := h1 t ht
  exact .inr ⟨t, ht, by omega⟩
theorem touch_of {pg : PG} {a : Int} (h : a ∈ touchV pg) : ∃ n bs, a = n * 4096 ∧ pgFind pg n = some bs ∧ ∃ c ∈ bs, c ≠ 0 := by
 unfold touchV at h
 obtain ⟨n, hn, rfl⟩ := List.mem_map.1 h
 have hl := (List.mem_filter.1 hn).2
 unfold litP at hl
 rw [List.any_eq_true] at hl
 obtain ⟨c, hc, h2⟩ := hl
 cases hf : pgFind pg n with
 | none => rw [hf] at hc; cases hc
 | some bs =>
  rw [hf] at hc
  exact ⟨n, bs, rfl, hf, c, hc, by simpa using h2⟩
theorem touch_len (pg : PG) : (touchV pg).length ≤ pg.length := by
 unfold touchV
 rw [List.length_map]
 refine Nat.le_trans (List.length_filter_le _ _) ?_
 rw [List.length_mergeSort, List.length_map]
 exact Nat.le_refl _
theorem fresh_page {root s z : Int} {tb : List ((Int × Int) × Int)} {pg pc : PG} (hJ : Jt root tb pg pc) (hin : ∀ x, InT root tb x → s ≤ x / 4096 * 4096 ∧ x / 4096 * 4096 + 4096 ≤ s + z) (h0 : root % 8192 = 0) (h1 : ∀ e ∈ tb, e.2 % 4096 = 0) {a : Int} (h : a ∈ touchV pc) :
  a % 4096 = 0 ∧ s ≤ a ∧ a + 4096 ≤ s + z ∧ rdB pg a 4096 = rdB pc a 4096 := by
 obtain ⟨n, bs, rfl, hf, c, hc, h2⟩ := touch_of h
 have hlen := (hJ.ok.find hf).1
 obtain ⟨i, hi, rfl⟩ := List.getElem_of_mem hc
 have hbt : bt pc (n * 4096 + (i : Int)) = bs[i] := by
  unfold bt
  rw [show (n * 4096 + (i : Int)) / 4096 = n by omega, hf]
  simp only
  rw [show ((n * 4096 + (i : Int)) % 4096).toNat = i by omega, List.getD_eq_getElem?_getD, List.getElem?_eq_getElem hi]
  rfl
 have hI : InT root tb (n * 4096 + (i : Int)) := Classical.byContradiction fun hc => h2 (hbt ▸ hJ.zero _ hc)
 obtain ⟨b0, b1⟩ := hin _ hI
 refine ⟨by omega, by omega, by omega, ?_⟩
 unfold rdB
 refine List.map_congr_left fun j hj => ?_
 have hj := List.mem_range.1 hj
 exact hJ.same _ (hI.page h0 h1 (by omega))
theorem fresh_count {root : Int} {tb : List ((Int × Int) × Int)} {pg pc : PG} (hJ : Jt root tb pg pc) (hin : ∀ x, InT root tb x → 1073741824 ≤ x / 4096 * 4096 ∧ x / 4096 * 4096 + 4096 ≤ 1073741824 + 16777216) : pc.length ≤ 4096 := by
 have h := List.Nodup.length_le_of_subset (l₂ := (List.range 4096).map fun i : Nat => (262144 : Int) + (i : Int)) hJ.ok.nodup (fun n hn => by
  obtain ⟨p, hp, rfl⟩ := List.mem_map.1 hn
  have := hin _ (hJ.pages p hp)
  exact List.mem_map.2 ⟨(p.1 - 262144).toNat, List.mem_range.2 (by omega), by omega⟩)
 simpa using h
theorem ask_page {a : Int} (h0 : 1073741824 ≤ a) (h1 : a + 4096 ≤ 1073741824 + 16777216) : askV 1073741824 16777216 a 4096 = 0 := by
 unfold askV
 rw [if_neg (by decide), if_neg]
 rintro ⟨_, h⟩
 rw [withinB_of (by decide) (by omega) (by omega) h0 h1 (by decide) (by decide)] at h
 cases h
theorem ask_bytes {a : Int} {n : Nat} (h0 : 1073741824 ≤ a) (hn : n ≤ 3000) (h1 : a + 3000 ≤ 1073741824 + 16777216) : askV 1073741824 16777216 a n = 0 := by
 unfold askV
 rw [if_neg (by omega), if_neg]
 rintro ⟨h2, h⟩
 rw [withinB_of h2 (by omega) (by omega) h0 (by omega) (by decide) (by decide)] at h
 cases h
end Go.Proofs.YtiblhlaemmdphaaGreat
