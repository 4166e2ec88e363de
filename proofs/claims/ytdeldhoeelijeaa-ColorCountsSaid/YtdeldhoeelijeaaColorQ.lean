/- Plain: the spans of the pages that are taken: whole pages within the span, each of a color of the mask, just so many. -/
import Derived.Test.YtdeldhoeelijeaaColorH
namespace Go.Proofs.Ytdeldhoeelijeaa
open Go Go.RowKit Go.BigFrame

theorem takeL_len (s : Two) (n m many : Int) (h : ¬ 300 < many) : (takeL s n m many).length ≤ 1000000 := by
  unfold takeL
  split
  · have h1 := spansV_len (mergedV (takenV s n m many))
    have h2 := mergedV_len (takenV s n m many)
    have h3 : (takenV s n m many).length ≤ many.toNat := by unfold takenV; exact List.length_take_le _ _
    omega
  · simp
def sumP : List Two → Int
  | [] => 0
  | y :: l => y.b / 4096 + sumP l
theorem sumP_append : ∀ l m : List Two, sumP (l ++ m) = sumP l + sumP m
  | [], m => by show sumP m = 0 + sumP m; omega
  | y :: l, m => by
    show y.b / 4096 + sumP (l ++ m) = y.b / 4096 + sumP l + sumP m
    rw [sumP_append l m]; omega
def sumE : List Two → Int
  | [] => 0
  | y :: l => (y.b + 1 - y.a) / 4096 + sumE l
theorem sumE_append : ∀ l m : List Two, sumE (l ++ m) = sumE l + sumE m
  | [], m => by show sumE m = 0 + sumE m; omega
  | y :: l, m => by
    show (y.b + 1 - y.a) / 4096 + sumE (l ++ m) = (y.b + 1 - y.a) / 4096 + sumE l + sumE m
    rw [sumE_append l m]; omega
theorem pagesV_mem (m : Int) (N A : Nat) {x : Two} : ∀ {c : Nat}, x ∈ pagesV m N A c → ∃ k, k < c ∧ rotB m N A k = 1 ∧ x = pageAt A k
  | 0, h => by cases h
  | c + 1, h => by
    rcases List.mem_append.1 (show x ∈ pagesV m N A c ++ _ from h) with h | h
    · obtain ⟨k, h1, h2, h3⟩ := pagesV_mem m N A h
      exact ⟨k, by omega, h2, h3⟩
    · split at h
      · rename_i hr
        obtain rfl : x = pageAt A c := by simpa using h
        exact ⟨c, by omega, hr, rfl⟩
      · cases h
theorem pagesV_take (m : Int) (N A : Nat) : ∀ (c q : Nat), q ≤ (pagesV m N A c).length → ∃ j, j ≤ c ∧ (pagesV m N A c).take q = pagesV m N A j
  | 0, q, h => ⟨0, Nat.le_refl _, by have : q = 0 := by simpa [pagesV] using h
                                     subst this; rfl⟩
  | c + 1, q, h => by
    have e : pagesV m N A (c + 1) = pagesV m N A c ++ if rotB m N A c = 1 then [pageAt A c] else [] := rfl
    rcases Nat.lt_or_ge (pagesV m N A c).length q with h1 | h1
    · refine ⟨c + 1, Nat.le_refl _, List.take_of_length_le ?_⟩
      rw [e, List.length_append]
      split
      · simp; omega
      · simp; omega
    · obtain ⟨j, hj, ht⟩ := pagesV_take m N A c q h1
      exact ⟨j, by omega, by rw [e, List.take_append_of_le_length h1]; exact ht⟩
/-- The pages as stretches that neither touch nor overlap. -/
theorem pages_runs (m : Int) (N A : Nat) : ∀ j : Nat, 4096 * ((A : Int) + j) ≤ 18446744073709551616 → ∃ E : List Two, Canon E ∧ (∀ p, cov E p ↔ covS (pagesV m N A j) p) ∧
    (∀ x ∈ E, x.a % 4096 = 0 ∧ (x.b + 1) % 4096 = 0 ∧ 4096 * (A : Int) ≤ x.a ∧ x.b + 1 ≤ 4096 * ((A : Int) + j)) ∧ sumE E = ((pagesV m N A j).length : Int) := by
  intro j
  induction j with
  | zero => exact fun _ => ⟨[], canon_nil, fun p => ⟨fun h => absurd h (cov_nil p), fun h => by obtain ⟨x, hx, _⟩ := h; cases hx⟩, by simp, rfl⟩
  | succ j ih =>
    intro hj
    obtain ⟨E, h1, h2, h3, h4⟩ := ih (by omega)
    have e : pagesV m N A (j + 1) = pagesV m N A j ++ if rotB m N A j = 1 then [pageAt A j] else [] := rfl
    by_cases hr : rotB m N A j = 1
    · rw [if_pos hr] at e
      have hw : W64 (4096 * ((A : Int) + j)) := by unfold W64; omega
      have hw2 : W64 (4096 * ((A : Int) + j) + 4095) := by unfold W64; omega
      obtain ⟨p1, p2⟩ : (pageAt A j).a = 4096 * ((A : Int) + j) ∧ (pageAt A j).b = 4096 := tw_parts hw (by unfold W64; omega)
      have hhas : ∀ p, hasB (pageAt A j).a (pageAt A j).b p = true ↔ 4096 * ((A : Int) + j) ≤ p ∧ p ≤ 4096 * ((A : Int) + j) + 4095 := fun p => by
        rw [hasB_iff, goodB_iff, p1, p2]; omega
      have hcv : ∀ p, covS (pagesV m N A (j + 1)) p ↔ cov E p ∨ (4096 * ((A : Int) + j) ≤ p ∧ p ≤ 4096 * ((A : Int) + j) + 4095) := fun p => by
        rw [e, covS_append, ← h2 p]
        constructor
        · rintro (h | ⟨x, hx, h⟩)
          · exact .inl h
          · obtain rfl : x = pageAt A j := by simpa using hx
            exact .inr ((hhas p).1 h)
        · rintro (h | h)
          · exact .inl h
          · exact .inr ⟨_, by simp, (hhas p).2 h⟩
      have hlen : ((pagesV m N A (j + 1)).length : Int) = (pagesV m N A j).length + 1 := by rw [e, List.length_append]; rfl
      rcases List.eq_nil_or_concat E with rfl | ⟨ys, t, rfl⟩
      · obtain ⟨q1, q2⟩ := tw_parts hw hw2
        refine ⟨[tw (4096 * ((A : Int) + j)) (4096 * ((A : Int) + j) + 4095)], ⟨List.pairwise_singleton _ _, ?_⟩, fun p => ?_, ?_, ?_⟩
        · intro x hx
          obtain rfl : x = _ := by simpa using hx
          rw [q1, q2]; omega
        · rw [hcv p, cov_one, q1, q2]
          exact ⟨.inr, fun h => h.resolve_left (cov_nil p)⟩
        · intro x hx
          obtain rfl : x = _ := by simpa using hx
          rw [q1, q2]; omega
        · show (_ + 1 - _) / 4096 + 0 = _
          rw [hlen, q1, q2, ← h4]
          show _ = (0 : Int) + 1
          omega
      · rw [List.concat_eq_append] at *
        have h3t := h3 t (by simp)
        obtain ⟨c1, c2, c3⟩ := canon_snoc.1 h1
        by_cases ht : t.b + 1 = 4096 * ((A : Int) + j)
        · obtain ⟨q1, q2⟩ := tw_parts t.ha hw2
          refine ⟨ys ++ [tw t.a (4096 * ((A : Int) + j) + 4095)], canon_snoc.2 ⟨c1, by rw [q1, q2]; omega, fun y hy => by rw [q1]; exact c3 y hy⟩, fun p => ?_, ?_, ?_⟩
          · rw [hcv p, cov_append, cov_append, cov_one, cov_one, q1, q2]
            have := c2
            constructor
            · rintro (h | h)
              · exact .inl (.inl h)
              · rcases Int.lt_or_le t.b p with h' | h'
                · exact .inr (by omega)
                · exact .inl (.inr (by omega))
            · rintro ((h | h) | h)
              · exact .inl h
              · exact .inr (by omega)
              · exact .inr (by omega)
          · intro x hx
            rcases List.mem_append.1 hx with hx | hx
            · have := h3 x (List.mem_append_left _ hx)
              exact ⟨this.1, this.2.1, this.2.2.1, by have := this.2.2.2; omega⟩
            · obtain rfl : x = _ := by simpa using hx
              rw [q1, q2]
              exact ⟨h3t.1, by omega, h3t.2.2.1, by omega⟩
          · rw [sumE_append] at h4 ⊢
            have e1 : sumE [t] = (t.b + 1 - t.a) / 4096 := by show _ + 0 = _; omega
            have e2 : sumE [tw t.a (4096 * ((A : Int) + j) + 4095)] = (4096 * ((A : Int) + j) + 4096 - t.a) / 4096 := by show (_ + 1 - _) / 4096 + 0 = _; rw [q1, q2]; omega
            rw [hlen, ← h4, e1, e2]
            have := h3t.1
            omega
        · obtain ⟨q1, q2⟩ := tw_parts hw hw2
          refine ⟨(ys ++ [t]) ++ [tw (4096 * ((A : Int) + j)) (4096 * ((A : Int) + j) + 4095)], canon_snoc.2 ⟨h1, by rw [q1, q2]; omega, fun y hy => ?_⟩, fun p => ?_, ?_, ?_⟩
          · rw [q1]
            rcases List.mem_append.1 hy with hy | hy
            · have := c3 y hy; have := h3t.2.2.2; omega
            · obtain rfl : y = t := by simpa using hy
              have := h3t.2.2.2; omega
          · rw [hcv p, cov_append, cov_one, q1, q2]
          · intro x hx
            rcases List.mem_append.1 hx with hx | hx
            · have := h3 x hx
              exact ⟨this.1, this.2.1, this.2.2.1, by have := this.2.2.2; omega⟩
            · obtain rfl : x = _ := by simpa using hx
              rw [q1, q2]; omega
          · rw [sumE_append, h4, hlen]
            have e2 : sumE [tw (4096 * ((A : Int) + j)) (4096 * ((A : Int) + j) + 4095)] = 1 := by show (_ + 1 - _) / 4096 + 0 = _; rw [q1, q2]; omega
            rw [e2]
    · rw [if_neg hr, List.append_nil] at e
      rw [e]
      exact ⟨E, h1, h2, fun x hx => by have := h3 x hx; exact ⟨this.1, this.2.1, this.2.2.1, by have := this.2.2.2; omega⟩, h4⟩
theorem spans_map {M : List Two} (c1 : Canon M) (c2 : ∀ y ∈ M, fullB y = false) : spansV M = M.map convV ∧ ∀ x ∈ M, (convV x).a = x.a ∧ (convV x).b = x.b - x.a + 1 := by
  refine ⟨?_, fun x hx => ?_⟩
  · unfold spansV
    rw [if_neg]
    intro h
    obtain ⟨x, hx, hf⟩ := List.any_eq_true.1 h
    rw [c2 x hx] at hf; cases hf
  · have hf := c2 x hx
    have hle := c1.2 x hx
    have hxa := x.ha
    have hxb := x.hb
    unfold W64 at hxa hxb
    have hne : ¬ (x.a = 0 ∧ x.b = 18446744073709551615) := fun h => by
      have : fullB x = true := by unfold fullB; simp [h.1, h.2]
      rw [this] at hf; cases hf
    exact tw_parts x.ha (by unfold W64; omega)

/-- What may be said of pages that were taken. -/
structure Takes (s : Two) (m : Int) (N A c q : Nat) (L : List Two) : Prop where
  each : ∀ y ∈ L, y.a % 4096 = 0 ∧ y.b % 4096 = 0 ∧ 0 < y.b ∧ s.a ≤ y.a ∧ y.a + y.b ≤ s.a + s.b
  col : ∀ y ∈ L, ∀ p, y.a ≤ p → p < y.a + y.b → ∃ k, rotB m N A k = 1 ∧ 4096 * ((A : Int) + k) ≤ p ∧ p < 4096 * ((A : Int) + k) + 4096
  sum : sumP L = q
theorem takes_any {s : Two} {n m many : Int} (he : takeErr s n m many = 0) : ∃ N A c q : Nat, n = N ∧ s.a = 4096 * (A : Int) ∧ s.b = 4096 * (c : Int) ∧ many = q ∧ 1 ≤ n ∧ n ≤ 64 ∧ someV n = true ∧ 0 < s.b ∧ s.a + s.b ≤ 18446744073709551616 ∧ Takes s m N A c q (takeL s n m many) := by
  obtain ⟨hM, hpb, h1, h2, hcn⟩ : maskedV n m = true ∧ pageBad s = false ∧ ¬ many < 1 ∧ ¬ 4096 < many ∧ ¬ countV s n m < many := by
    have he' := he
    unfold takeErr at he'
    by_cases hM : maskedV n m = true
    · rw [if_pos hM] at he'
      by_cases hp : pageBad s = true ∨ many < 1 ∨ 4096 < many
      · rw [if_pos hp] at he'; cases he'
      · rw [if_neg hp] at he'
        by_cases hc : countV s n m < many
        · rw [if_pos hc] at he'; cases he'
        · exact ⟨hM, by rw [Bool.eq_false_iff]; exact fun h => hp (.inl h), fun h => hp (.inr (.inl h)), fun h => hp (.inr (.inr h)), hc⟩
    · rw [if_neg hM] at he'; cases he'
  obtain ⟨g1, g2, g3, g4, g5, g6⟩ := pageBad_parts hpb
  have hsm := (maskedV_iff.1 hM).1
  have hv := someV_iff.1 hsm
  have hsa := s.ha.1
  have hsb := s.hb.2
  obtain ⟨N, hN⟩ := Int.eq_ofNat_of_zero_le (show 0 ≤ n by omega)
  obtain ⟨A, hA⟩ := Int.eq_ofNat_of_zero_le (show 0 ≤ s.a / 4096 by omega)
  obtain ⟨c, hc⟩ := Int.eq_ofNat_of_zero_le (show 0 ≤ s.b / 4096 by omega)
  obtain ⟨q, hq⟩ := Int.eq_ofNat_of_zero_le (show 0 ≤ many by omega)
  have hL : takenV s n m many = (pagesV m N A c).take q := by
    unfold takenV; rw [hA, hc, hN, hq]; rfl
  have hCl : countV s n m = ((pagesV m N A c).length : Int) := by
    unfold countV; rw [if_pos hM, g5, g6, hA, hc, hN, pagesV_len]; rfl
  have hql : q ≤ (pagesV m N A c).length := by omega
  refine ⟨N, A, c, q, hN, by omega, by omega, hq, by omega, by omega, hsm, g1, g2, ?_⟩
  obtain ⟨j, hj, ht⟩ := pagesV_take m N A c q hql
  obtain ⟨E, e1, e2, e3, e4⟩ := pages_runs m N A j (by omega)
  have hTl : ((pagesV m N A j).length : Int) = q := by rw [← ht, List.length_take]; omega
  have hE : mergedV (takenV s n m many) = E := by
    obtain ⟨c1, c2⟩ := mergedV_canon (takenV s n m many)
    refine canon_unique _ _ c1 e1 fun p => ?_
    rw [c2 p, e2 p, hL, ht]
  have hfull : ∀ y ∈ E, fullB y = false := fun y hy => by
    have h3 := e3 y hy
    rw [Bool.eq_false_iff]; intro hf
    obtain ⟨y0, y1⟩ : y.a = 0 ∧ y.b = 18446744073709551615 := by simpa [fullB] using hf
    omega
  obtain ⟨hmap, hpar⟩ := spans_map e1 hfull
  have hTake : takeL s n m many = E.map convV := by unfold takeL; rw [if_pos he, hE, hmap]
  rw [hTake]
  refine ⟨fun y hy => ?_, fun y hy p hp1 hp2 => ?_, ?_⟩
  · obtain ⟨x, hx, rfl⟩ := List.mem_map.1 hy
    obtain ⟨p1, p2⟩ := hpar x hx
    have h3 := e3 x hx
    have h4 := e1.2 x hx
    rw [p1, p2]; omega
  · obtain ⟨x, hx, rfl⟩ := List.mem_map.1 hy
    obtain ⟨p1, p2⟩ := hpar x hx
    rw [p1] at hp1 hp2
    rw [p2] at hp2
    obtain ⟨z, hz, hh⟩ := (e2 p).1 ⟨x, hx, hp1, by omega⟩
    obtain ⟨k, hk, hr, rfl⟩ := pagesV_mem m N A hz
    obtain ⟨z1, z2⟩ : (pageAt A k).a = 4096 * ((A : Int) + k) ∧ (pageAt A k).b = 4096 := tw_parts (by unfold W64; omega) (by unfold W64; omega)
    have := hasB_iff.1 hh
    rw [z1, z2] at this
    exact ⟨k, hr, by omega, by omega⟩
  · rw [← hTl, ← e4]
    have gen : ∀ F : List Two, (∀ x ∈ F, (convV x).a = x.a ∧ (convV x).b = x.b - x.a + 1) → sumP (F.map convV) = sumE F := by
      intro F
      induction F with
      | nil => intro _; rfl
      | cons x F ih =>
        intro h
        show (convV x).b / 4096 + sumP (F.map convV) = (x.b + 1 - x.a) / 4096 + sumE F
        rw [ih (fun y hy => h y (List.mem_cons_of_mem _ hy)), (h x (by simp)).2, show x.b - x.a + 1 = x.b + 1 - x.a by omega]
    exact gen E hpar
end Go.Proofs.Ytdeldhoeelijeaa
