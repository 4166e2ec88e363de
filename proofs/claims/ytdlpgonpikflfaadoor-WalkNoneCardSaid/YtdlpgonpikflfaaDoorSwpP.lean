/- A sweep of tables, in plain words: what is put, which tables are gone through, whether it is too long. -/
import Derived.Test.YtdlpgonpikflfaaDoorWalkA
import Derived.Test.YtdlpgonpikflfaaDoorMapA
namespace Go.Proofs.YtdlpgonpikflfaaDoor
open Go

/-- A descriptor and its number. -/
structure PD where
  i : Nat
  d : DescV
def PD.args (x : PD) : Array Value := #[.int .u64 x.i, x.d.val]
def mkM (a b c p q : Int) : M5 := ⟨IntKind.u64.wrap a, IntKind.u64.wrap b, IntKind.u64.wrap c, p, q, by rw [IntKind.wrap_u64]; unfold W64; omega, by rw [IntKind.wrap_u64]; unfold W64; omega, by rw [IntKind.wrap_u64]; unfold W64; omega⟩
def rdAt (t : Int) (i : Nat) : Int := IntKind.u64.wrap (t + 8 * (i : Int))
/-- A table's first descriptors, without those that are none. -/
def descsV (rd : Int → Int × Int) (k t : Int) : Nat → List PD
  | 0 => []
  | i + 1 => descsV rd k t i ++ if (rd (rdAt t i)).2 = 0 ∧ (ofV k (rd (rdAt t i)).1).kind ≠ 0 then [⟨i, ofV k (rd (rdAt t i)).1⟩] else []
theorem descsV_len (rd : Int → Int × Int) (k t : Int) : ∀ n, (descsV rd k t n).length ≤ n
  | 0 => Nat.le_refl _
  | n + 1 => by
    have := descsV_len rd k t n
    show (descsV rd k t n ++ _).length ≤ _
    rw [List.length_append]
    split <;> simp <;> omega
theorem descsV_pre (rd : Int → Int × Int) (k t : Int) (n : Nat) : ∀ d, ∃ r, descsV rd k t (n + d) = descsV rd k t n ++ r
  | 0 => ⟨[], by simp⟩
  | d + 1 => by
    obtain ⟨r, hr⟩ := descsV_pre rd k t n d
    exact ⟨r ++ if (rd (rdAt t (n + d))).2 = 0 ∧ (ofV k (rd (rdAt t (n + d))).1).kind ≠ 0 then [⟨n + d, ofV k (rd (rdAt t (n + d))).1⟩] else [], by
      show descsV rd k t (n + d) ++ _ = _
      rw [hr, List.append_assoc]; rfl⟩
theorem descsV_mem {rd : Int → Int × Int} {k t : Int} : ∀ {n : Nat} {x : PD}, x ∈ descsV rd k t n → x.i < n ∧ x.d = ofV k (rd (rdAt t x.i)).1 ∧ (rd (rdAt t x.i)).2 = 0 ∧ x.d.kind ≠ 0
  | 0, _, h => by cases h
  | n + 1, x, h => by
    rcases List.mem_append.1 (show x ∈ descsV rd k t n ++ _ from h) with h | h
    · have := descsV_mem h
      exact ⟨by omega, this.2⟩
    · by_cases hc : (rd (rdAt t n)).2 = 0 ∧ (ofV k (rd (rdAt t n)).1).kind ≠ 0
      · rw [if_pos hc, List.mem_singleton] at h
        subst h
        exact ⟨Nat.lt_succ_self n, rfl, hc.1, hc.2⟩
      · rw [if_neg hc] at h; cases h

/-- A sweep's state. -/
structure Sw (σ : Type) where
  tabs : List Int
  long : Bool
  st : σ
variable {σ : Type}
/-- What one descriptor comes to. -/
def swX (step : σ → M5 → σ) (rec : Int → Int → Sw σ → Sw σ) (k ipa : Int) (s : Sw σ) (x : PD) : Sw σ :=
  if s.long = true then s
  else if x.d.kind = 1 then rec x.d.pa (ipa + x.i * szV k) s
  else if x.d.af = true ∧ x.d.pa < 1099511627776 then { s with st := step s.st (mkM (ipa + x.i * szV k) x.d.pa (szV k) x.d.perm x.d.mem) }
  else s
def sw (rd : Int → Int × Int) (step : σ → M5 → σ) : Nat → Int → Nat → Int → Int → Sw σ → Sw σ
  | 0, _, _, _, _, s => s
  | D + 1, t, n, k, ipa, s =>
    if s.long = true ∨ s.tabs.length = 2000 then { s with long := true }
    else (descsV rd k t n).foldl (swX step (fun t' a' => sw rd step D t' 512 (k + 1) a') k ipa) { s with tabs := s.tabs ++ [t] }
/-- A state that is too long stays. -/
theorem swX_long (step : σ → M5 → σ) (rec : Int → Int → Sw σ → Sw σ) (k ipa : Int) : ∀ (l : List PD) (s : Sw σ), s.long = true → l.foldl (swX step rec k ipa) s = s
  | [], _, _ => rfl
  | x :: l, s, h => by
    rw [List.foldl_cons, show swX step rec k ipa s x = s by unfold swX; rw [if_pos h]]
    exact swX_long step rec k ipa l s h
/-- What a sweep puts is bounded by the tables that it goes through. -/
structure SwOk (len : σ → Nat) (s : Sw σ) (c : Nat) : Prop where
  tabs : s.tabs.length ≤ 2000
  st : len s.st + c ≤ 1024 * s.tabs.length
theorem swX_ok {len : σ → Nat} {step : σ → M5 → σ} (hs : ∀ s x, len (step s x) ≤ len s + 1) {rec : Int → Int → Sw σ → Sw σ} (hr : ∀ t a s c, SwOk len s c → SwOk len (rec t a s) c) (k ipa : Int) (x : PD) {s : Sw σ} {c : Nat} (h : SwOk len s (c + 1)) : SwOk len (swX step rec k ipa s x) c := by
  have h' : SwOk len s c := ⟨h.tabs, by have := h.st; omega⟩
  unfold swX
  split
  · exact h'
  · split
    · exact hr _ _ _ _ h'
    · split
      · exact ⟨h.tabs, by have := h.st; have := hs s.st (mkM (ipa + x.i * szV k) x.d.pa (szV k) x.d.perm x.d.mem); show len (step s.st _) + c ≤ 1024 * s.tabs.length; omega⟩
      · exact h'
theorem swL_ok {len : σ → Nat} {step : σ → M5 → σ} (hs : ∀ s x, len (step s x) ≤ len s + 1) {rec : Int → Int → Sw σ → Sw σ} (hr : ∀ t a s c, SwOk len s c → SwOk len (rec t a s) c) (k ipa : Int) : ∀ (l : List PD) {s : Sw σ} {c : Nat}, SwOk len s (c + l.length) → SwOk len (l.foldl (swX step rec k ipa) s) c
  | [], _, _, h => h
  | x :: l, s, c, h => by
    rw [List.foldl_cons]
    exact swL_ok hs hr k ipa l (swX_ok hs hr k ipa x (by rw [List.length_cons, ← Nat.add_assoc] at h; exact h))
theorem sw_enter {len : σ → Nat} {s : Sw σ} {c : Nat} (t : Int) (h : SwOk len s c) (hn : ¬ s.tabs.length = 2000) : SwOk len ({ s with tabs := s.tabs ++ [t] } : Sw σ) (c + 1024) :=
  ⟨by have := h.tabs; simp only [List.length_append, List.length_cons, List.length_nil]; omega, by have := h.st; simp only [List.length_append, List.length_cons, List.length_nil]; omega⟩
theorem sw_ok {len : σ → Nat} {rd : Int → Int × Int} {step : σ → M5 → σ} (hs : ∀ s x, len (step s x) ≤ len s + 1) : ∀ (D : Nat) (t : Int) (n : Nat) (k ipa : Int) (s : Sw σ) (c : Nat), n ≤ 1024 → SwOk len s c → SwOk len (sw rd step D t n k ipa s) c
  | 0, _, _, _, _, _, _, _, h => h
  | D + 1, t, n, k, ipa, s, c, hn, h => by
    unfold sw
    split
    · exact ⟨h.tabs, h.st⟩
    · rename_i hc
      have he := sw_enter t h (fun e => hc (.inr e))
      have hl := descsV_len rd k t n
      exact swL_ok hs (fun t' a' s' c' h' => sw_ok hs D t' 512 (k + 1) a' s' c' (by omega) h') k ipa _ ⟨he.tabs, by have := he.st; omega⟩
/-- What is put does not steer a sweep. -/
def Sw.map {τ : Type} (h : σ → τ) (s : Sw σ) : Sw τ := ⟨s.tabs, s.long, h s.st⟩
theorem sw_map {τ : Type} (h : σ → τ) {rd : Int → Int × Int} {step : σ → M5 → σ} {step' : τ → M5 → τ} (hh : ∀ s x, h (step s x) = step' (h s) x) : ∀ (D : Nat) (t : Int) (n : Nat) (k ipa : Int) (s : Sw σ), sw rd step' D t n k ipa (s.map h) = (sw rd step D t n k ipa s).map h
  | 0, _, _, _, _, _ => rfl
  | D + 1, t, n, k, ipa, s => by
    unfold sw
    have key : ∀ (l : List PD) (s : Sw σ), l.foldl (swX step' (fun t' a' => sw rd step' D t' 512 (k + 1) a') k ipa) (s.map h) = (l.foldl (swX step (fun t' a' => sw rd step D t' 512 (k + 1) a') k ipa) s).map h := by
      intro l
      induction l with
      | nil => intro s; rfl
      | cons x l ih =>
        intro s
        rw [List.foldl_cons, List.foldl_cons, ← ih]
        congr 1
        unfold swX
        show (if s.long = true then s.map h else _) = _
        split
        · rfl
        · split
          · exact sw_map h hh D _ _ _ _ s
          · split
            · show (⟨s.tabs, s.long, step' (h s.st) _⟩ : Sw τ) = ⟨s.tabs, s.long, h (step s.st _)⟩
              rw [hh]
            · rfl
    show (if s.long = true ∨ s.tabs.length = 2000 then _ else _) = _
    split
    · rfl
    · exact key _ { s with tabs := s.tabs ++ [t] }
theorem ofV_low {k a : Int} (hk : k = 3) : (ofV k a).kind ≠ 1 := by
  subst hk
  unfold ofV
  split
  · decide
  · split
    · rename_i h; exact absurd h (by simp)
    · show (if (3 : Int) = 3 then (3 : Int) else 2) ≠ 1
      decide
end Go.Proofs.YtdlpgonpikflfaaDoor
