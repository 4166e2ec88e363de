/- Plain: stretches that neither touch nor overlap, rising, are given by what they hold; so span.Merge and span.Cut give what the reference gives. -/
import Derived.Test.YtdeldhoeelijeaaSpanL
import Derived.Test.YtdeldhoeelijeaaSpanH
import Derived.Test.YtdeldhoeelijeaaSpanI
import Derived.Test.YtdeldhoeelijeaaSpanJ
namespace Go.Proofs.Ytdeldhoeelijeaa
open Go Go.RowKit Go.Shelf Go.Lib Go.Sort

/-- What stretches hold. -/
def cov (l : List Two) (p : Int) : Prop := ∃ x ∈ l, x.a ≤ p ∧ p ≤ x.b
/-- Stretches that neither touch nor overlap, rising. -/
def Canon (l : List Two) : Prop := l.Pairwise (fun x y => x.b + 1 < y.a) ∧ ∀ x ∈ l, x.a ≤ x.b

theorem cov_nil (p : Int) : ¬ cov [] p := by rintro ⟨x, hx, _⟩; cases hx
theorem cov_cons {x : Two} {l : List Two} {p : Int} : cov (x :: l) p ↔ (x.a ≤ p ∧ p ≤ x.b) ∨ cov l p := by
  unfold cov; simp
theorem cov_append {l m : List Two} {p : Int} : cov (l ++ m) p ↔ cov l p ∨ cov m p := by
  unfold cov; simp only [List.mem_append]
  constructor
  · rintro ⟨x, hx | hx, h⟩
    · exact .inl ⟨x, hx, h⟩
    · exact .inr ⟨x, hx, h⟩
  · rintro (⟨x, hx, h⟩ | ⟨x, hx, h⟩)
    · exact ⟨x, .inl hx, h⟩
    · exact ⟨x, .inr hx, h⟩
theorem cov_one {x : Two} {p : Int} : cov [x] p ↔ x.a ≤ p ∧ p ≤ x.b := by rw [cov_cons]; exact ⟨fun h => h.resolve_right (cov_nil p), .inl⟩
theorem canon_nil : Canon [] := ⟨.nil, by simp⟩
theorem canon_cons {x : Two} {l : List Two} : Canon (x :: l) ↔ (∀ y ∈ l, x.b + 1 < y.a) ∧ x.a ≤ x.b ∧ Canon l := by
  unfold Canon; rw [List.pairwise_cons]; simp only [List.mem_cons, forall_eq_or_imp]
  constructor
  · rintro ⟨⟨h1, h2⟩, h3, h4⟩; exact ⟨h1, h3, h2, h4⟩
  · rintro ⟨h1, h3, h2, h4⟩; exact ⟨⟨h1, h2⟩, h3, h4⟩
theorem canon_append {l m : List Two} : Canon (l ++ m) ↔ Canon l ∧ Canon m ∧ ∀ x ∈ l, ∀ y ∈ m, x.b + 1 < y.a := by
  unfold Canon; rw [List.pairwise_append]; simp only [List.mem_append]
  constructor
  · rintro ⟨⟨h1, h2, h3⟩, h4⟩; exact ⟨⟨h1, fun x hx => h4 x (.inl hx)⟩, ⟨h2, fun x hx => h4 x (.inr hx)⟩, h3⟩
  · rintro ⟨⟨h1, h4⟩, ⟨h2, h5⟩, h3⟩; exact ⟨⟨h1, h2, h3⟩, fun x hx => hx.elim (h4 x) (h5 x)⟩
theorem canon_snoc {l : List Two} {x : Two} : Canon (l ++ [x]) ↔ Canon l ∧ x.a ≤ x.b ∧ ∀ y ∈ l, y.b + 1 < x.a := by
  rw [canon_append, canon_cons]; simp [canon_nil]

theorem canon_unique : ∀ (l m : List Two), Canon l → Canon m → (∀ p, cov l p ↔ cov m p) → l = m
  | [], [], _, _, _ => rfl
  | [], y :: m, _, hm, h => by
    have := canon_cons.1 hm
    exact absurd ((h y.a).2 (cov_cons.2 (.inl ⟨Int.le_refl _, this.2.1⟩))) (cov_nil _)
  | x :: l, [], hl, _, h => by
    have := canon_cons.1 hl
    exact absurd ((h x.a).1 (cov_cons.2 (.inl ⟨Int.le_refl _, this.2.1⟩))) (cov_nil _)
  | x :: l, y :: m, hl, hm, h => by
    obtain ⟨l1, l2, l3⟩ := canon_cons.1 hl
    obtain ⟨m1, m2, m3⟩ := canon_cons.1 hm
    have low : ∀ {x : Two} {l : List Two} {p : Int}, (∀ y ∈ l, x.b + 1 < y.a) → x.a ≤ x.b → cov (x :: l) p → x.a ≤ p := fun {x l p} h1 h2 hc => by
      rcases cov_cons.1 hc with hc | ⟨z, hz, hc⟩
      · exact hc.1
      · have := h1 z hz; omega
    have e1 : x.a = y.a := by
      have a1 := low m1 m2 ((h x.a).1 (cov_cons.2 (.inl ⟨Int.le_refl _, l2⟩)))
      have a2 := low l1 l2 ((h y.a).2 (cov_cons.2 (.inl ⟨Int.le_refl _, m2⟩)))
      omega
    have e2 : x.b = y.b := by
      rcases Int.lt_trichotomy x.b y.b with hlt | heq | hgt
      · rcases cov_cons.1 ((h (x.b + 1)).2 (cov_cons.2 (.inl ⟨by omega, by omega⟩))) with hc | ⟨z, hz, hc⟩
        · omega
        · have := l1 z hz; omega
      · exact heq
      · rcases cov_cons.1 ((h (y.b + 1)).1 (cov_cons.2 (.inl ⟨by omega, by omega⟩))) with hc | ⟨z, hz, hc⟩
        · omega
        · have := m1 z hz; omega
    have e := Two.ext e1 e2
    subst e
    rw [canon_unique l m l3 m3 fun p => ?_]
    constructor
    · intro hc
      rcases cov_cons.1 ((h p).1 (cov_cons.2 (.inr hc))) with h1 | h1
      · obtain ⟨z, hz, hz2⟩ := hc; have := l1 z hz; omega
      · exact h1
    · intro hc
      rcases cov_cons.1 ((h p).2 (cov_cons.2 (.inr hc))) with h1 | h1
      · obtain ⟨z, hz, hz2⟩ := hc; have := m1 z hz; omega
      · exact h1

/-- One more among such that neither touch nor overlap: what is held on the way. -/
theorem insAll_inv (s : Two) (hs : s.a ≤ s.b) : ∀ (rest pre : List Two), Canon (pre ++ rest) → ∀ (out : List Two) (t : Two) (d : Bool), insAll pre s = (out, t, d) →
    (t.a ≤ t.b ∧ Canon out ∧ (∀ x ∈ out, ∀ y ∈ rest, x.b + 1 < y.a) ∧
      (d = false → (∀ x ∈ out, x.b + 1 < t.a) ∧ ∀ p, cov (out ++ [t]) p ↔ cov pre p ∨ (s.a ≤ p ∧ p ≤ s.b)) ∧
      (d = true → (∀ y ∈ rest, t.b + 1 < y.a) ∧ ∀ p, cov out p ↔ cov pre p ∨ (s.a ≤ p ∧ p ≤ s.b))) →
    Canon (insertV (pre ++ rest) s) ∧ ∀ p, cov (insertV (pre ++ rest) s) p ↔ cov (pre ++ rest) p ∨ (s.a ≤ p ∧ p ≤ s.b)
  | [], pre, hc, out, t, d, he, ⟨h1, h2, h3, h4, h5⟩ => by
    rw [List.append_nil]
    unfold insertV
    rw [he]
    cases d
    · obtain ⟨h6, h7⟩ := h4 rfl
      exact ⟨canon_snoc.2 ⟨h2, h1, h6⟩, h7⟩
    · obtain ⟨h6, h7⟩ := h5 rfl
      exact ⟨h2, h7⟩
  | x :: rest, pre, hc, out, t, d, he, ⟨h1, h2, h3, h4, h5⟩ => by
    have hc' := hc
    rw [show pre ++ x :: rest = (pre ++ [x]) ++ rest by simp] at hc ⊢
    obtain ⟨c1, c2, c3⟩ := canon_append.1 hc
    obtain ⟨_, c5, _⟩ := canon_append.1 hc'
    obtain ⟨x1, x2, _⟩ := canon_cons.1 c5
    have hx3 : ∀ z ∈ out, z.b + 1 < x.a := fun z hz => h3 z hz x (by simp)
    have hr3 : ∀ z ∈ out, ∀ y ∈ rest, z.b + 1 < y.a := fun z hz y hy => h3 z hz y (by simp [hy])
    have step : insAll (pre ++ [x]) s = insStep (out, t, d) x := by rw [insAll_snoc, he]
    by_cases k1 : x.b < t.a ∧ 1 < t.a - x.b
    · have e : insStep (out, t, d) x = (out ++ [x], t, d) := by unfold insStep; rw [if_pos k1]
      refine insAll_inv s hs rest (pre ++ [x]) hc (out ++ [x]) t d (by rw [step, e]) ⟨h1, canon_snoc.2 ⟨h2, x2, hx3⟩, ?_, ?_, ?_⟩
      · intro z hz y hy
        rcases List.mem_append.1 hz with hz | hz
        · exact hr3 z hz y hy
        · obtain rfl : z = x := by simpa using hz
          exact x1 y hy
      · intro hd
        obtain ⟨h6, h7⟩ := h4 hd
        refine ⟨fun z hz => ?_, fun p => ?_⟩
        · rcases List.mem_append.1 hz with hz | hz
          · exact h6 z hz
          · obtain rfl : z = x := by simpa using hz
            omega
        · have := h7 p
          simp only [cov_append, cov_one] at this ⊢
          constructor
          · rintro ((h | h) | h)
            · rcases this.1 (.inl h) with h | h
              · exact .inl (.inl h)
              · exact .inr h
            · exact .inl (.inr h)
            · rcases this.1 (.inr h) with h | h
              · exact .inl (.inl h)
              · exact .inr h
          · rintro ((h | h) | h)
            · rcases this.2 (.inl h) with h | h
              · exact .inl (.inl h)
              · exact .inr h
            · exact .inl (.inr h)
            · rcases this.2 (.inr h) with h | h
              · exact .inl (.inl h)
              · exact .inr h
      · intro hd
        obtain ⟨h6, h7⟩ := h5 hd
        have := h6 x (by simp)
        omega
    · by_cases k2 : t.b < x.a ∧ 1 < x.a - t.b
      · cases d
        · have e : insStep (out, t, false) x = (out ++ [t] ++ [x], t, true) := by unfold insStep; rw [if_neg k1, if_pos k2]; rfl
          obtain ⟨h6, h7⟩ := h4 rfl
          refine insAll_inv s hs rest (pre ++ [x]) hc (out ++ [t] ++ [x]) t true (by rw [step, e]) ⟨h1, canon_snoc.2 ⟨canon_snoc.2 ⟨h2, h1, h6⟩, x2, ?_⟩, ?_, (fun h => by cases h), fun _ => ⟨fun y hy => ?_, fun p => ?_⟩⟩
          · intro z hz
            rcases List.mem_append.1 hz with hz | hz
            · exact hx3 z hz
            · obtain rfl : z = t := by simpa using hz
              omega
          · intro z hz y hy
            rcases List.mem_append.1 hz with hz | hz
            · rcases List.mem_append.1 hz with hz | hz
              · exact hr3 z hz y hy
              · obtain rfl : z = t := by simpa using hz
                have := x1 y hy; omega
            · obtain rfl : z = x := by simpa using hz
              exact x1 y hy
          · have := x1 y hy; omega
          · rw [cov_append, h7 p, cov_append, cov_one]
            constructor
            · rintro ((h | h) | h)
              · exact .inl (.inl h)
              · exact .inr h
              · exact .inl (.inr h)
            · rintro ((h | h) | h)
              · exact .inl (.inl h)
              · exact .inr h
              · exact .inl (.inr h)
        · have e : insStep (out, t, true) x = (out ++ [x], t, true) := by unfold insStep; rw [if_neg k1, if_pos k2]; rfl
          obtain ⟨h6, h7⟩ := h5 rfl
          refine insAll_inv s hs rest (pre ++ [x]) hc (out ++ [x]) t true (by rw [step, e]) ⟨h1, canon_snoc.2 ⟨h2, x2, hx3⟩, ?_, (fun h => by cases h), fun _ => ⟨fun y hy => h6 y (by simp [hy]), fun p => ?_⟩⟩
          · intro z hz y hy
            rcases List.mem_append.1 hz with hz | hz
            · exact hr3 z hz y hy
            · obtain rfl : z = x := by simpa using hz
              exact x1 y hy
          · rw [cov_append, h7 p, cov_append, cov_one]
            constructor
            · rintro ((h | h) | h)
              · exact .inl (.inl h)
              · exact .inr h
              · exact .inl (.inr h)
            · rintro ((h | h) | h)
              · exact .inl (.inl h)
              · exact .inr h
              · exact .inl (.inr h)
      · have e : insStep (out, t, d) x = (out, joinMin x t, d) := by unfold insStep; rw [if_neg k1, if_neg k2]
        have ja : (joinMin x t).a ≤ x.a ∧ (joinMin x t).a ≤ t.a ∧ ((joinMin x t).a = x.a ∨ (joinMin x t).a = t.a) := by
          unfold joinMin; dsimp only; split <;> omega
        have jb : x.b ≤ (joinMin x t).b ∧ t.b ≤ (joinMin x t).b ∧ ((joinMin x t).b = x.b ∨ (joinMin x t).b = t.b) := by
          unfold joinMin; dsimp only; split <;> omega
        generalize joinMin x t = u at *
        cases d
        · obtain ⟨h6, h7⟩ := h4 rfl
          refine insAll_inv s hs rest (pre ++ [x]) hc out u false (by rw [step, e]) ⟨by omega, h2, hr3, fun _ => ⟨fun z hz => ?_, fun p => ?_⟩, fun h => by cases h⟩
          · have := hx3 z hz; have := h6 z hz; omega
          · have h8 := h7 p
            simp only [cov_append, cov_one] at h8 ⊢
            have hu : (u.a ≤ p ∧ p ≤ u.b) ↔ (t.a ≤ p ∧ p ≤ t.b) ∨ (x.a ≤ p ∧ p ≤ x.b) := by omega
            rw [hu]
            constructor
            · rintro (h | h | h)
              · rcases h8.1 (.inl h) with h | h
                · exact .inl (.inl h)
                · exact .inr h
              · rcases h8.1 (.inr h) with h | h
                · exact .inl (.inl h)
                · exact .inr h
              · exact .inl (.inr h)
            · rintro ((h | h) | h)
              · rcases h8.2 (.inl h) with h | h
                · exact .inl h
                · exact .inr (.inl h)
              · exact .inr (.inr h)
              · rcases h8.2 (.inr h) with h | h
                · exact .inl h
                · exact .inr (.inl h)
        · obtain ⟨h6, h7⟩ := h5 rfl
          have := h6 x (by simp)
          omega

theorem insert_canon (l : List Two) (s : Two) (hl : Canon l) (hs : s.a ≤ s.b) : Canon (insertV l s) ∧ ∀ p, cov (insertV l s) p ↔ cov l p ∨ (s.a ≤ p ∧ p ≤ s.b) :=
  insAll_inv s hs l [] hl [] s false rfl ⟨hs, canon_nil, by simp, fun _ => ⟨by simp, fun p => by simp [cov_one, cov_nil]⟩, fun h => by cases h⟩

/-- What spans hold. -/
def covS (l : List Two) (p : Int) : Prop := ∃ x ∈ l, hasB x.a x.b p = true
theorem covS_append {l m : List Two} {p : Int} : covS (l ++ m) p ↔ covS l p ∨ covS m p := by
  unfold covS; simp only [List.mem_append]
  constructor
  · rintro ⟨x, hx | hx, h⟩
    · exact .inl ⟨x, hx, h⟩
    · exact .inr ⟨x, hx, h⟩
  · rintro (⟨x, hx, h⟩ | ⟨x, hx, h⟩)
    · exact ⟨x, .inl hx, h⟩
    · exact ⟨x, .inr hx, h⟩
theorem covS_inV {l : List Two} {p : Int} : inV l p = true ↔ covS l p := by unfold inV covS; simp
theorem endsV_le {x : Two} (h : goodB x.a x.b = true) : (endsV x).a ≤ (endsV x).b := by
  have h1 := goodB_iff.1 h
  show x.a ≤ lastV x.a x.b
  rw [lastV_yes h]; omega
theorem hasB_ends {x : Two} {p : Int} : hasB x.a x.b p = true ↔ goodB x.a x.b = true ∧ (endsV x).a ≤ p ∧ p ≤ (endsV x).b := by
  rw [hasB_iff]
  constructor
  · rintro ⟨h, h2, h3⟩; exact ⟨h, h2, by show _ ≤ lastV x.a x.b; rw [lastV_yes h]; exact h3⟩
  · rintro ⟨h, h2, h3⟩; have h4 : p ≤ lastV x.a x.b := h3; rw [lastV_yes h] at h4; exact ⟨h, h2, h4⟩
theorem refAll_canon : ∀ (l acc : List Two), Canon acc → Canon (l.foldl refStep acc) ∧ ∀ p, cov (l.foldl refStep acc) p ↔ cov acc p ∨ covS l p
  | [], acc, h => ⟨h, fun p => by simp [covS]⟩
  | x :: l, acc, h => by
    have hx : Canon (refStep acc x) ∧ ∀ p, cov (refStep acc x) p ↔ cov acc p ∨ hasB x.a x.b p = true := by
      cases hg : goodB x.a x.b
      · have e : refStep acc x = acc := by unfold refStep; rw [if_neg (by rw [hg]; simp)]
        rw [e]
        exact ⟨h, fun p => by rw [hasB_ends, hg]; simp⟩
      · have e : refStep acc x = insertV acc (endsV x) := by unfold refStep; rw [if_pos hg]
        rw [e]
        obtain ⟨h1, h2⟩ := insert_canon acc (endsV x) h (endsV_le hg)
        exact ⟨h1, fun p => by rw [h2, hasB_ends, hg]; simp⟩
    obtain ⟨h1, h2⟩ := refAll_canon l _ hx.1
    refine ⟨h1, fun p => ?_⟩
    rw [List.foldl_cons, h2 p, hx.2 p]
    unfold covS
    simp only [List.mem_cons, exists_eq_or_imp]
    constructor
    · rintro ((h | h) | h)
      · exact .inl h
      · exact .inr (.inl h)
      · exact .inr (.inr h)
    · rintro (h | h | h)
      · exact .inl (.inl h)
      · exact .inl (.inr h)
      · exact .inr h
theorem refAllV_canon (l : List Two) : Canon (refAllV l) ∧ ∀ p, cov (refAllV l) p ↔ covS l p := by
  obtain ⟨h1, h2⟩ := refAll_canon l [] canon_nil
  exact ⟨h1, fun p => by rw [refAllV, h2 p]; simp [cov_nil]⟩

theorem cmpTwo_le {x y : Two} (h : (!(ltOf cmpTwo) y x) = true) : x.a ≤ y.a := by
  have h2 : ¬ ltOf cmpTwo y x = true := by simpa using h
  rw [ltTwo_iff] at h2
  omega
theorem mergeFold_canon : ∀ (l out : List Two), l.Pairwise (fun x y => x.a ≤ y.a) → (∀ x ∈ l, x.a ≤ x.b) → Canon out → (∀ t ∈ out, ∀ x ∈ l, t.a ≤ x.a) →
    Canon (l.foldl mergeStep out) ∧ ∀ p, cov (l.foldl mergeStep out) p ↔ cov out p ∨ cov l p
  | [], out, _, _, hc, _ => ⟨hc, fun p => by simp [cov_nil]⟩
  | x :: l, out, hp, hw, hc, ho => by
    rw [List.pairwise_cons] at hp
    have hx := hw x (by simp)
    have key : Canon (mergeStep out x) ∧ (∀ t ∈ mergeStep out x, ∀ y ∈ l, t.a ≤ y.a) ∧ ∀ p, cov (mergeStep out x) p ↔ cov out p ∨ (x.a ≤ p ∧ p ≤ x.b) := by
      rcases List.eq_nil_or_concat out with rfl | ⟨ys, t, rfl⟩
      · rw [mergeStep_nil]
        refine ⟨canon_cons.2 ⟨by simp, hx, canon_nil⟩, ?_, fun p => by simp [cov_one, cov_nil]⟩
        intro t ht y hy
        obtain rfl : t = x := by simpa using ht
        exact hp.1 y hy
      · rw [List.concat_eq_append] at *
        obtain ⟨c1, c2, c3⟩ := canon_snoc.1 hc
        have hta := ho t (by simp) x (by simp)
        by_cases k : t.b = 18446744073709551615 ∨ x.a ≤ t.b + 1
        · rw [mergeStep_join _ _ _ k]
          have hbb : (tw t.a (max t.b x.b)).a = t.a ∧ (tw t.a (max t.b x.b)).b = max t.b x.b := by
            have := t.hb; have := x.hb
            refine ⟨W64.eq t.ha, W64.eq ?_⟩
            rcases Int.le_total t.b x.b with h | h
            · rw [Int.max_eq_right h]; exact x.hb
            · rw [Int.max_eq_left h]; exact t.hb
          have hx2 := x.ha
          have hx3 := x.hb
          unfold W64 at hx2 hx3
          generalize tw t.a (max t.b x.b) = u at *
          obtain ⟨u1, u2⟩ := hbb
          have hmax : (t.b ≤ u.b ∧ x.b ≤ u.b) ∧ (u.b = t.b ∨ u.b = x.b) := by rw [u2]; omega
          refine ⟨canon_snoc.2 ⟨c1, by omega, fun y hy => by have := c3 y hy; omega⟩, ?_, fun p => ?_⟩
          · intro z hz y hy
            rcases List.mem_append.1 hz with hz | hz
            · exact ho z (by simp [hz]) y (by simp [hy])
            · obtain rfl : z = u := by simpa using hz
              have := ho t (by simp) y (by simp [hy]); omega
          · rw [cov_append, cov_append, cov_one, cov_one]
            have : (u.a ≤ p ∧ p ≤ u.b) ↔ (t.a ≤ p ∧ p ≤ t.b) ∨ (x.a ≤ p ∧ p ≤ x.b) := by omega
            rw [this, or_assoc]
        · rw [mergeStep_new _ _ _ k]
          refine ⟨canon_snoc.2 ⟨hc, hx, fun y hy => ?_⟩, ?_, fun p => by rw [cov_append, cov_one]⟩
          · rcases List.mem_append.1 hy with hy | hy
            · have := c3 y hy; omega
            · obtain rfl : y = t := by simpa using hy
              omega
          · intro z hz y hy
            rcases List.mem_append.1 hz with hz | hz
            · exact ho z hz y (by simp [hy])
            · obtain rfl : z = x := by simpa using hz
              exact hp.1 y hy
    obtain ⟨h1, h2⟩ := mergeFold_canon l _ hp.2 (fun y hy => hw y (by simp [hy])) key.1 key.2.1
    refine ⟨h1, fun p => ?_⟩
    rw [List.foldl_cons, h2 p, key.2.2 p, cov_cons, or_assoc]

theorem cov_mem {l m : List Two} (h : ∀ x, x ∈ l ↔ x ∈ m) (p : Int) : cov l p ↔ cov m p := by
  unfold cov; constructor <;> rintro ⟨x, hx, h2⟩
  · exact ⟨x, (h x).1 hx, h2⟩
  · exact ⟨x, (h x).2 hx, h2⟩
theorem endOf_ends (x : Two) : endOf x = endsV x := Two.ext (endOf_parts x).1 (endOf_parts x).2
theorem goodEnds_cov (l : List Two) (p : Int) : cov (goodEnds l) p ↔ covS l p := by
  unfold cov covS goodEnds
  simp only [List.mem_map, List.mem_filter]
  constructor
  · rintro ⟨_, ⟨x, ⟨hx, hg⟩, rfl⟩, h1, h2⟩
    rw [endOf_ends] at h1 h2
    exact ⟨x, hx, hasB_ends.2 ⟨hg, h1, h2⟩⟩
  · rintro ⟨x, hx, h⟩
    obtain ⟨hg, h1, h2⟩ := hasB_ends.1 h
    exact ⟨_, ⟨x, ⟨hx, hg⟩, rfl⟩, by rw [endOf_ends]; exact h1, by rw [endOf_ends]; exact h2⟩
theorem goodEnds_le (l : List Two) : ∀ x ∈ goodEnds l, x.a ≤ x.b := by
  unfold goodEnds
  simp only [List.mem_map, List.mem_filter]
  rintro _ ⟨x, ⟨_, hg⟩, rfl⟩
  rw [endOf_ends]
  exact endsV_le hg
theorem sortV_mem (l : List Two) (x : Two) : x ∈ sortV l ↔ x ∈ l := by unfold sortV; exact List.mem_mergeSort
theorem mergedV_canon (l : List Two) : Canon (mergedV l) ∧ ∀ p, cov (mergedV l) p ↔ covS l p := by
  have hs : (sortV (goodEnds l)).Pairwise (fun x y => x.a ≤ y.a) := by
    unfold sortV
    refine (List.pairwise_mergeSort ?_ ?_ (goodEnds l)).imp fun h => cmpTwo_le h
    · intro x y z h1 h2
      simp only [Bool.not_eq_true'] at *
      exact swoTwo.ntrans _ _ _ h2 h1
    · intro x y
      by_cases h : ltOf cmpTwo x y = true
      · have h2 : ltOf cmpTwo y x = false := by
          rw [Bool.eq_false_iff]; intro h3
          have := swoTwo.trans _ _ _ h h3
          rw [swoTwo.irrefl] at this; cases this
        simp [h2]
      · simp [h]
  obtain ⟨h1, h2⟩ := mergeFold_canon (sortV (goodEnds l)) [] hs (fun x hx => goodEnds_le l x ((sortV_mem _ x).1 hx)) canon_nil (by simp)
  refine ⟨h1, fun p => ?_⟩
  rw [mergedV, h2 p, ← goodEnds_cov, cov_mem (sortV_mem (goodEnds l)) p]
  simp [cov_nil]
theorem merged_eq (l : List Two) : mergedV l = refAllV l :=
  canon_unique _ _ (mergedV_canon l).1 (refAllV_canon l).1 fun p => by rw [(mergedV_canon l).2, (refAllV_canon l).2]

theorem full_alone {M : List Two} (h : Canon M) {x : Two} (hx : x ∈ M) (hf : fullB x = true) : M = [x] := by
  obtain ⟨h0, h1⟩ : x.a = 0 ∧ x.b = 18446744073709551615 := by simpa [fullB] using hf
  obtain ⟨l, m, rfl⟩ := List.append_of_mem hx
  obtain ⟨c1, c2, c3⟩ := canon_append.1 h
  obtain ⟨c4, c5, c6⟩ := canon_cons.1 c2
  have e1 : l = [] := by
    rcases l with _ | ⟨y, l⟩
    · rfl
    · have := c3 y (by simp) x (by simp); have := y.hb; unfold W64 at this; have := (canon_cons.1 c1).2.1; have := y.ha; unfold W64 at this; omega
  have e2 : m = [] := by
    rcases m with _ | ⟨y, m⟩
    · rfl
    · have := c4 y (by simp); have := y.ha; unfold W64 at this; omega
  rw [e1, e2]; rfl
theorem spans_eq {M : List Two} (h : Canon M) : spansV M = M.flatMap conv2 := by
  unfold spansV
  by_cases hf : M.any fullB = true
  · rw [if_pos hf]
    obtain ⟨x, hx, hfx⟩ := List.any_eq_true.1 hf
    rw [full_alone h hx hfx]
    simp [conv2, hfx]
  · rw [if_neg hf]
    have : ∀ x ∈ M, fullB x = false := by
      intro x hx
      rw [Bool.eq_false_iff]; intro hfx
      exact hf (List.any_eq_true.2 ⟨x, hx, hfx⟩)
    clear hf h
    induction M with
    | nil => rfl
    | cons x M ih =>
      rw [List.map_cons, List.flatMap_cons, ih fun y hy => this y (by simp [hy])]
      simp [conv2, this x (by simp)]
theorem merge_eq (l : List Two) : spansV (mergedV l) = refMergeV l := by
  rw [spans_eq (mergedV_canon l).1, merged_eq]; rfl

theorem conv_has {x : Two} (h : x.a ≤ x.b) (hf : fullB x = false) : goodB (convV x).a (convV x).b = true ∧ endsV (convV x) = x := by
  have h1 := x.ha
  have h2 := x.hb
  unfold W64 at h1 h2
  have hb : (convV x).b = x.b - x.a + 1 := by
    refine W64.eq ?_
    have : ¬ (x.a = 0 ∧ x.b = 18446744073709551615) := by simpa [fullB] using hf
    unfold W64; omega
  have ha : (convV x).a = x.a := W64.eq x.ha
  have hg : goodB (convV x).a (convV x).b = true := goodB_iff.2 ⟨by rw [hb]; omega, by rw [ha, hb]; omega⟩
  refine ⟨hg, Two.ext ha ?_⟩
  show lastV (convV x).a (convV x).b = _
  rw [lastV_yes hg, ha, hb]; omega
theorem half_has (p : Int) (hp : W64 p) : hasB halfA.a halfA.b p = true ∨ hasB halfB.a halfB.b p = true := by
  unfold W64 at hp
  rw [hasB_iff, hasB_iff, goodB_iff, goodB_iff]
  simp only [halfA, halfB]
  omega
theorem conv2_cov {x : Two} (h : x.a ≤ x.b) (p : Int) (hp : W64 p) : covS (conv2 x) p ↔ x.a ≤ p ∧ p ≤ x.b := by
  unfold conv2
  cases hf : fullB x
  · rw [if_neg (by simp)]
    obtain ⟨hg, he⟩ := conv_has h hf
    unfold covS
    simp only [List.mem_singleton, exists_eq_left]
    rw [hasB_ends, he, hg]; simp
  · rw [if_pos rfl]
    obtain ⟨h0, h1⟩ : x.a = 0 ∧ x.b = 18446744073709551615 := by simpa [fullB] using hf
    unfold covS
    simp only [List.mem_cons, List.not_mem_nil, or_false, exists_eq_or_imp, exists_eq_left]
    have := half_has p hp
    unfold W64 at hp
    constructor
    · intro _; omega
    · intro _; exact this
theorem conv2s_cov (p : Int) (hp : W64 p) : ∀ M : List Two, (∀ x ∈ M, x.a ≤ x.b) → (covS (M.flatMap conv2) p ↔ cov M p)
  | [], _ => by simp [covS, cov]
  | x :: M, h => by
    have h1 := conv2s_cov p hp M fun y hy => h y (List.mem_cons_of_mem _ hy)
    have h2 := conv2_cov (h x List.mem_cons_self) p hp
    rw [List.flatMap_cons, covS_append, cov_cons]
    exact or_congr h2 h1
theorem refMerge_cov (l : List Two) (p : Int) (hp : W64 p) : covS (refMergeV l) p ↔ covS l p := by
  rw [← (refAllV_canon l).2]
  exact conv2s_cov p hp _ (refAllV_canon l).1.2
/-- span.Cut's walk over merged stretches: what is still to come, from an address on. -/
def cutFrom (last : Int) : Int → List Two → List Two
  | f, [] => [tw f last]
  | f, x :: M => if x.b < f then cutFrom last f M else if last < x.a then [tw f last] else (if f < x.a then [tw f (x.a - 1)] else []) ++ (if last ≤ x.b then [] else cutFrom last (x.b + 1) M)

theorem tw_parts {a b : Int} (ha : W64 a) (hb : W64 b) : (tw a b).a = a ∧ (tw a b).b = b := ⟨W64.eq ha, W64.eq hb⟩

theorem cutFrom_canon (last : Int) (hl : W64 last) : ∀ (M : List Two) (f : Int), W64 f → f ≤ last → Canon M →
    Canon (cutFrom last f M) ∧ (∀ y ∈ cutFrom last f M, f ≤ y.a) ∧ ∀ p, cov (cutFrom last f M) p ↔ (f ≤ p ∧ p ≤ last) ∧ ¬ cov M p
  | [], f, hf, hfl, _ => by
    obtain ⟨h1, h2⟩ := tw_parts hf hl
    refine ⟨canon_cons.2 ⟨by simp, by omega, canon_nil⟩, ?_, fun p => ?_⟩
    · intro y hy
      obtain rfl : y = tw f last := by simpa [cutFrom] using hy
      omega
    · show cov [tw f last] p ↔ _
      rw [cov_one, h1, h2]; simp [cov_nil]
  | x :: M, f, hf, hfl, hM => by
    obtain ⟨c1, c2, c3⟩ := canon_cons.1 hM
    have hx1 := x.ha
    have hx2 := x.hb
    have hrest : ∀ p, p ≤ x.b → ¬ cov M p := by
      rintro p hp ⟨z, hz, h1, _⟩
      have := c1 z hz; omega
    rw [cutFrom]
    by_cases k1 : x.b < f
    · rw [if_pos k1]
      obtain ⟨h1, h2, h3⟩ := cutFrom_canon last hl M f hf hfl c3
      refine ⟨h1, h2, fun p => ?_⟩
      rw [h3 p, cov_cons]
      constructor
      · rintro ⟨h4, h5⟩; exact ⟨h4, fun h => h.elim (fun h => by omega) h5⟩
      · rintro ⟨h4, h5⟩; exact ⟨h4, fun h => h5 (.inr h)⟩
    · rw [if_neg k1]
      by_cases k2 : last < x.a
      · rw [if_pos k2]
        obtain ⟨h1, h2⟩ := tw_parts hf hl
        refine ⟨canon_cons.2 ⟨by simp, by omega, canon_nil⟩, ?_, fun p => ?_⟩
        · intro y hy
          obtain rfl : y = tw f last := by simpa using hy
          omega
        · rw [cov_one, h1, h2, cov_cons]
          constructor
          · intro h; exact ⟨h, fun h' => h'.elim (fun h' => by omega) (hrest p (by omega))⟩
          · rintro ⟨h, _⟩; exact h
      · rw [if_neg k2]
        unfold W64 at hx1 hx2 hl hf
        have hA : Canon (if f < x.a then [tw f (x.a - 1)] else []) ∧ (∀ y ∈ (if f < x.a then [tw f (x.a - 1)] else []), f ≤ y.a ∧ y.b + 1 = x.a) ∧ ∀ p, cov (if f < x.a then [tw f (x.a - 1)] else []) p ↔ f ≤ p ∧ p < x.a := by
          by_cases k3 : f < x.a
          · rw [if_pos k3]
            obtain ⟨h1, h2⟩ := tw_parts (a := f) (b := x.a - 1) ⟨by omega, by omega⟩ ⟨by omega, by omega⟩
            refine ⟨canon_cons.2 ⟨by simp, by omega, canon_nil⟩, ?_, fun p => by rw [cov_one, h1, h2]; omega⟩
            intro y hy
            obtain rfl : y = tw f (x.a - 1) := by simpa using hy
            omega
          · rw [if_neg k3]
            exact ⟨canon_nil, by simp, fun p => ⟨fun h => absurd h (cov_nil p), fun h => by omega⟩⟩
        have hB : Canon (if last ≤ x.b then [] else cutFrom last (x.b + 1) M) ∧ (∀ y ∈ (if last ≤ x.b then [] else cutFrom last (x.b + 1) M), x.b + 1 ≤ y.a) ∧ ∀ p, cov (if last ≤ x.b then [] else cutFrom last (x.b + 1) M) p ↔ (x.b + 1 ≤ p ∧ p ≤ last) ∧ ¬ cov M p := by
          by_cases k4 : last ≤ x.b
          · rw [if_pos k4]
            exact ⟨canon_nil, by simp, fun p => ⟨fun h => absurd h (cov_nil p), fun h => by omega⟩⟩
          · rw [if_neg k4]
            exact cutFrom_canon last ⟨by omega, by omega⟩ M (x.b + 1) ⟨by omega, by omega⟩ (by omega) c3
        generalize (if f < x.a then [tw f (x.a - 1)] else []) = A at *
        generalize (if last ≤ x.b then [] else cutFrom last (x.b + 1) M) = B at *
        obtain ⟨a1, a2, a3⟩ := hA
        obtain ⟨b1, b2, b3⟩ := hB
        refine ⟨canon_append.2 ⟨a1, b1, fun y hy z hz => by have := a2 y hy; have := b2 z hz; omega⟩, ?_, fun p => ?_⟩
        · intro y hy
          rcases List.mem_append.1 hy with hy | hy
          · exact (a2 y hy).1
          · have := b2 y hy; omega
        · rw [cov_append, a3, b3, cov_cons]
          constructor
          · rintro (h | ⟨h, h2⟩)
            · exact ⟨by omega, fun h' => h'.elim (fun h' => by omega) (hrest p (by omega))⟩
            · exact ⟨by omega, fun h' => h'.elim (fun h' => by omega) h2⟩
          · rintro ⟨h, h2⟩
            by_cases k : p < x.a
            · exact .inl ⟨h.1, k⟩
            · refine .inr ⟨⟨?_, h.2⟩, fun h' => h2 (.inr h')⟩
              by_cases k5 : p ≤ x.b
              · exact absurd (.inl ⟨by omega, k5⟩) h2
              · omega

/-- span.Cut, as stretches. -/
def cutEnds (s : Two) (l : List Two) : List Two := cutFrom (lastV s.a s.b) s.a (mergedV l)
def cutV (s : Two) (l : List Two) : List Two := if goodB s.a s.b = true then spansV (cutEnds s l) else []

/-- Good spans that, as stretches, neither touch nor overlap. -/
def CanonS (out : List Two) : Prop := (∀ y ∈ out, goodB y.a y.b = true) ∧ Canon (out.map endsV)
theorem covS_ends {out : List Two} (h : ∀ y ∈ out, goodB y.a y.b = true) (p : Int) : covS out p ↔ cov (out.map endsV) p := by
  unfold covS cov
  constructor
  · rintro ⟨y, hy, h1⟩; exact ⟨_, List.mem_map_of_mem hy, (hasB_ends.1 h1).2⟩
  · rintro ⟨z, hz, h1⟩
    obtain ⟨y, hy, rfl⟩ := List.mem_map.1 hz
    exact ⟨y, hy, hasB_ends.2 ⟨h y hy, h1⟩⟩
theorem convV_endsV {y : Two} (h : goodB y.a y.b = true) : convV (endsV y) = y := by
  have h1 := goodB_iff.1 h
  have h2 := y.hb
  refine Two.ext (W64.eq y.ha) ?_
  show (lastV y.a y.b - y.a + 1) % 18446744073709551616 = y.b
  rw [lastV_yes h, show y.a + (y.b - 1) - y.a + 1 = y.b by omega]
  exact W64.eq y.hb
theorem canonS_eq {a b : List Two} (ha : CanonS a) (hb : CanonS b) (h : ∀ p, covS a p ↔ covS b p) : a = b := by
  have e := canon_unique _ _ ha.2 hb.2 fun p => by rw [← covS_ends ha.1, ← covS_ends hb.1, h]
  have : ∀ c : List Two, (∀ y ∈ c, goodB y.a y.b = true) → (c.map endsV).map convV = c := by
    intro c hc
    rw [List.map_map]
    conv => rhs; rw [← List.map_id c]
    exact List.map_congr_left fun y hy => convV_endsV (hc y hy)
  rw [← this a ha.1, e, this b hb.1]

theorem pieces_inv {x y : Two} (hx : goodB x.a x.b = true) (hy : goodB y.a y.b = true) :
    CanonS (piecesV x y) ∧ (∀ z ∈ piecesV x y, y.a ≤ z.a ∧ lastV z.a z.b ≤ lastV y.a y.b) ∧ ∀ p, covS (piecesV x y) p ↔ hasB y.a y.b p = true ∧ ¬ hasB x.a x.b p = true := by
  have gx := goodB_iff.1 hx
  have gy := goodB_iff.1 hy
  have hxa := x.ha
  have hya := y.ha
  have hxb := x.hb
  have hyb := y.hb
  unfold W64 at hxa hya hxb hyb
  have one : ∀ z : Two, goodB z.a z.b = true → CanonS [z] := fun z hz => ⟨by simpa using hz, canon_cons.2 ⟨by simp, endsV_le hz, canon_nil⟩⟩
  unfold piecesV
  by_cases ho : overlapB x.a x.b y.a y.b = false
  · rw [if_pos ho]
    refine ⟨one y hy, by simp, fun p => ?_⟩
    have h1 : ¬ _ := fun h => by rw [overlapB_iff.2 h] at ho; cases ho
    unfold covS
    simp only [List.mem_singleton, exists_eq_left, hasB_iff, hx, hy, true_and]
    simp only [hx, hy, true_and] at h1
    omega
  · rw [if_neg ho]
    have h1 := overlapB_iff.1 (by simpa using ho)
    obtain ⟨_, _, h2, h3⟩ := h1
    rw [lastV_yes hx, lastV_yes hy]
    have hA : ∀ A, A = (if y.a < x.a then [tw y.a (x.a - y.a)] else []) → CanonS A ∧ (∀ z ∈ A, z.a = y.a ∧ lastV z.a z.b + 1 = x.a) ∧ ∀ p, covS A p ↔ y.a ≤ p ∧ p < x.a := by
      rintro A rfl
      by_cases k : y.a < x.a
      · rw [if_pos k]
        obtain ⟨t1, t2⟩ := tw_parts (a := y.a) (b := x.a - y.a) ⟨by omega, by omega⟩ ⟨by omega, by omega⟩
        generalize tw y.a (x.a - y.a) = t at *
        have hg : goodB t.a t.b = true := goodB_iff.2 ⟨by omega, by omega⟩
        refine ⟨one t hg, ?_, fun p => ?_⟩
        · intro z hz
          obtain rfl : z = t := by simpa using hz
          rw [lastV_yes hg]; omega
        · unfold covS
          simp only [List.mem_singleton, exists_eq_left, hasB_iff, hg, true_and]
          omega
      · rw [if_neg k]
        exact ⟨⟨by simp, canon_nil⟩, by simp, fun p => ⟨(by rintro ⟨z, hz, _⟩; cases hz), fun h => by omega⟩⟩
    have hB : ∀ B, B = (if x.a + (x.b - 1) < y.a + (y.b - 1) then [tw (x.a + (x.b - 1) + 1) (y.a + (y.b - 1) - (x.a + (x.b - 1)))] else []) → CanonS B ∧ (∀ z ∈ B, z.a = x.a + (x.b - 1) + 1 ∧ lastV z.a z.b = y.a + (y.b - 1)) ∧ ∀ p, covS B p ↔ x.a + (x.b - 1) < p ∧ p ≤ y.a + (y.b - 1) := by
      rintro B rfl
      by_cases k : x.a + (x.b - 1) < y.a + (y.b - 1)
      · rw [if_pos k]
        obtain ⟨t1, t2⟩ := tw_parts (a := x.a + (x.b - 1) + 1) (b := y.a + (y.b - 1) - (x.a + (x.b - 1))) ⟨by omega, by omega⟩ ⟨by omega, by omega⟩
        generalize tw (x.a + (x.b - 1) + 1) (y.a + (y.b - 1) - (x.a + (x.b - 1))) = t at *
        have hg : goodB t.a t.b = true := goodB_iff.2 ⟨by omega, by omega⟩
        refine ⟨one t hg, ?_, fun p => ?_⟩
        · intro z hz
          obtain rfl : z = t := by simpa using hz
          rw [lastV_yes hg]; omega
        · unfold covS
          simp only [List.mem_singleton, exists_eq_left, hasB_iff, hg, true_and]
          omega
      · rw [if_neg k]
        exact ⟨⟨by simp, canon_nil⟩, by simp, fun p => ⟨(by rintro ⟨z, hz, _⟩; cases hz), fun h => by omega⟩⟩
    have hA := hA _ rfl
    have hB := hB _ rfl
    generalize (if y.a < x.a then [tw y.a (x.a - y.a)] else []) = A at *
    generalize (if x.a + (x.b - 1) < y.a + (y.b - 1) then [tw (x.a + (x.b - 1) + 1) (y.a + (y.b - 1) - (x.a + (x.b - 1)))] else []) = B at *
    obtain ⟨⟨a1, a2⟩, a3, a4⟩ := hA
    obtain ⟨⟨b1, b2⟩, b3, b4⟩ := hB
    refine ⟨⟨?_, ?_⟩, ?_, fun p => ?_⟩
    · intro z hz
      rcases List.mem_append.1 hz with hz | hz
      · exact a1 z hz
      · exact b1 z hz
    · rw [List.map_append]
      refine canon_append.2 ⟨a2, b2, ?_⟩
      intro u hu v hv
      obtain ⟨u, hu', rfl⟩ := List.mem_map.1 hu
      obtain ⟨v, hv', rfl⟩ := List.mem_map.1 hv
      have h4 := a3 u hu'
      have h5 := b3 v hv'
      show lastV u.a u.b + 1 < v.a
      omega
    · intro z hz
      rcases List.mem_append.1 hz with hz | hz
      · have := a3 z hz; omega
      · have := b3 z hz; omega
    · rw [covS_append, a4, b4]
      simp only [hasB_iff, hx, hy, true_and]
      omega

theorem cut1_inv (x : Two) : ∀ (out : List Two), CanonS out → CanonS (cut1 out x) ∧ (∀ z ∈ cut1 out x, ∃ y ∈ out, y.a ≤ z.a ∧ lastV z.a z.b ≤ lastV y.a y.b) ∧ ∀ p, covS (cut1 out x) p ↔ covS out p ∧ ¬ hasB x.a x.b p = true := by
  intro out hout
  unfold cut1
  cases hx : goodB x.a x.b
  · rw [if_neg (by simp)]
    exact ⟨hout, fun z hz => ⟨z, hz, Int.le_refl _, Int.le_refl _⟩, fun p => by simp [hasB_iff, hx]⟩
  · rw [if_pos rfl]
    induction out with
    | nil => exact ⟨hout, by simp, fun p => ⟨(by rintro ⟨z, hz, _⟩; cases hz), fun h => by obtain ⟨⟨z, hz, _⟩, _⟩ := h; cases hz⟩⟩
    | cons y out ih =>
      obtain ⟨h1, h2⟩ := hout
      obtain ⟨c1, c2, c3⟩ := canon_cons.1 (by simpa using h2)
      obtain ⟨⟨i1, i2⟩, i3, i4⟩ := ih ⟨fun z hz => h1 z (by simp [hz]), c3⟩
      obtain ⟨⟨j1, j2⟩, j3, j4⟩ := pieces_inv hx (h1 y (by simp))
      rw [List.flatMap_cons]
      refine ⟨⟨?_, ?_⟩, ?_, fun p => ?_⟩
      · intro z hz
        rcases List.mem_append.1 hz with hz | hz
        · exact j1 z hz
        · exact i1 z hz
      · rw [List.map_append]
        refine canon_append.2 ⟨j2, i2, ?_⟩
        intro u hu v hv
        obtain ⟨u, hu', rfl⟩ := List.mem_map.1 hu
        obtain ⟨v, hv', rfl⟩ := List.mem_map.1 hv
        have h4 := j3 u hu'
        obtain ⟨v', hw, h5, _⟩ := i3 v hv'
        have h6 : lastV y.a y.b + 1 < v'.a := c1 (endsV v') (List.mem_map_of_mem hw)
        show lastV u.a u.b + 1 < v.a
        omega
      · intro z hz
        rcases List.mem_append.1 hz with hz | hz
        · exact ⟨y, by simp, j3 z hz⟩
        · obtain ⟨v, hv, h5⟩ := i3 z hz
          exact ⟨v, by simp [hv], h5⟩
      · rw [covS_append, j4, i4]
        unfold covS
        simp only [List.mem_cons, exists_eq_or_imp]
        constructor
        · rintro (⟨h, h'⟩ | ⟨h, h'⟩)
          · exact ⟨.inl h, h'⟩
          · exact ⟨.inr h, h'⟩
        · rintro ⟨h | h, h'⟩
          · exact .inl ⟨h, h'⟩
          · exact .inr ⟨h, h'⟩
theorem cutAll_inv : ∀ (l out : List Two), CanonS out → CanonS (l.foldl cut1 out) ∧ ∀ p, covS (l.foldl cut1 out) p ↔ covS out p ∧ ¬ covS l p
  | [], out, h => ⟨h, fun p => by simp [covS]⟩
  | x :: l, out, h => by
    obtain ⟨h1, _, h3⟩ := cut1_inv x out h
    obtain ⟨h4, h5⟩ := cutAll_inv l _ h1
    refine ⟨h4, fun p => ?_⟩
    rw [List.foldl_cons, h5 p, h3 p]
    unfold covS
    simp only [List.mem_cons, exists_eq_or_imp]
    constructor
    · rintro ⟨⟨h1, h2⟩, h3⟩; exact ⟨h1, fun h => h.elim h2 h3⟩
    · rintro ⟨h1, h2⟩; exact ⟨⟨h1, fun h => h2 (.inl h)⟩, fun h => h2 (.inr h)⟩
theorem refCut_inv (s : Two) (l : List Two) : CanonS (refCutV s l) ∧ ∀ p, covS (refCutV s l) p ↔ hasB s.a s.b p = true ∧ ¬ covS l p := by
  unfold refCutV
  cases hg : goodB s.a s.b
  · rw [if_neg (by simp)]
    exact ⟨⟨by simp, canon_nil⟩, fun p => by simp [covS, hasB_iff, hg]⟩
  · rw [if_pos rfl]
    obtain ⟨h1, h2⟩ := cutAll_inv l [s] ⟨by simpa using hg, canon_cons.2 ⟨by simp, endsV_le hg, canon_nil⟩⟩
    exact ⟨h1, fun p => by rw [cutAll, h2 p]; simp [covS]⟩
theorem cutEnds_inv (s : Two) (l : List Two) (hg : goodB s.a s.b = true) : Canon (cutEnds s l) ∧ (∀ y ∈ cutEnds s l, fullB y = false) ∧ ∀ p, cov (cutEnds s l) p ↔ hasB s.a s.b p = true ∧ ¬ covS l p := by
  have h1 := goodB_iff.1 hg
  have h2 := lastV_yes hg
  obtain ⟨c1, c2, c3⟩ := cutFrom_canon (lastV s.a s.b) (lastV_w s.ha s.hb) (mergedV l) s.a s.ha (by omega) (mergedV_canon l).1
  have hcov : ∀ p, cov (cutEnds s l) p ↔ hasB s.a s.b p = true ∧ ¬ covS l p := fun p => by
    rw [cutEnds, c3 p, (mergedV_canon l).2, hasB_iff, hg, h2]; simp
  refine ⟨c1, fun y hy => ?_, hcov⟩
  rw [Bool.eq_false_iff]; intro hf
  obtain ⟨y0, y1⟩ : y.a = 0 ∧ y.b = 18446744073709551615 := by simpa [fullB] using hf
  have k0 := hasB_iff.1 ((hcov 0).1 ⟨y, hy, by omega, by omega⟩).1
  have k1 := hasB_iff.1 ((hcov 18446744073709551615).1 ⟨y, hy, by omega, by omega⟩).1
  have := s.hb; unfold W64 at this
  omega
theorem cutV_inv (s : Two) (l : List Two) : CanonS (cutV s l) ∧ ∀ p, covS (cutV s l) p ↔ hasB s.a s.b p = true ∧ ¬ covS l p := by
  unfold cutV
  cases hg : goodB s.a s.b
  · rw [if_neg (by simp)]
    exact ⟨⟨by simp, canon_nil⟩, fun p => by simp [covS, hasB_iff, hg]⟩
  · rw [if_pos rfl]
    obtain ⟨c1, c2, c3⟩ := cutEnds_inv s l hg
    have e : spansV (cutEnds s l) = (cutEnds s l).map convV := by
      unfold spansV
      rw [if_neg]
      intro h
      obtain ⟨x, hx, hf⟩ := List.any_eq_true.1 h
      rw [c2 x hx] at hf; cases hf
    have e2 : ((cutEnds s l).map convV).map endsV = cutEnds s l := by
      rw [List.map_map]
      conv => rhs; rw [← List.map_id (cutEnds s l)]
      exact List.map_congr_left fun y hy => (conv_has (c1.2 y hy) (c2 y hy)).2
    have hgood : ∀ y ∈ (cutEnds s l).map convV, goodB y.a y.b = true := by
      intro y hy
      obtain ⟨x, hx, rfl⟩ := List.mem_map.1 hy
      exact (conv_has (c1.2 x hx) (c2 x hx)).1
    rw [e]
    exact ⟨⟨hgood, by rw [e2]; exact c1⟩, fun p => by rw [covS_ends hgood, e2, c3]⟩
theorem covS_w {l : List Two} {p : Int} (h : covS l p) : W64 p := by
  obtain ⟨x, _, h⟩ := h
  obtain ⟨h1, h2, h3⟩ := hasB_iff.1 h
  have := goodB_iff.1 h1
  have := x.ha; unfold W64 at *; omega
theorem cut_eq (s : Two) (l : List Two) : cutV s l = refCutV s (refMergeV l) := by
  refine canonS_eq (cutV_inv s l).1 (refCut_inv s _).1 fun p => ?_
  rw [(cutV_inv s l).2, (refCut_inv s _).2]
  constructor
  · rintro ⟨h1, h2⟩
    exact ⟨h1, fun h => h2 ((refMerge_cov l p (covS_w h)).1 h)⟩
  · rintro ⟨h1, h2⟩
    exact ⟨h1, fun h => h2 ((refMerge_cov l p (covS_w h)).2 h)⟩
theorem cut_eq' (s : Two) (l : List Two) : cutV s l = refCutV s l :=
  canonS_eq (cutV_inv s l).1 (refCut_inv s _).1 fun p => by rw [(cutV_inv s l).2, (refCut_inv s _).2]
theorem covers_eq (s : Two) (l : List Two) : (cutV s l).length = (refCutV s l).length := by rw [cut_eq']
theorem cut_in (s : Two) (l : List Two) (p : Int) : inV (cutV s l) p = (hasB s.a s.b p && !inV l p) := by
  rw [Bool.eq_iff_iff, covS_inV, (cutV_inv s l).2, ← covS_inV]; simp
theorem merge_in (l : List Two) (p : Int) (hp : W64 p) : inV (spansV (mergedV l)) p = inV l p := by
  rw [Bool.eq_iff_iff, covS_inV, merge_eq, refMerge_cov l p hp, covS_inV]
end Go.Proofs.Ytdeldhoeelijeaa
