/- A walk of an address against a sweep of all tables, in plain words. -/
import Derived.Test.YtnieomgopldlhaaGreatDoorWalkPartsP35
import Derived.Test.YtnieomgopldlhaaGreatDoorWalkPartsP46
namespace Go.Proofs.YtnieomgopldlhaaGreatDoor
open Go

/-- What a list of parts tells of an address. -/
def lk (l : List M5) (p : Int) : Option (Int × Int × Int) := (atM l p).map fun x => ((x.pa + (p - x.ipa)) % 18446744073709551616, x.perm, x.kind)
theorem lk_nil (p : Int) : lk [] p = none := rfl
theorem lk_append (l m : List M5) (p : Int) : lk (l ++ m) p = (lk l p).or (lk m p) := by
  unfold lk atM
  rw [List.find?_append]
  cases List.find? (fun x => x.has p) l <;> rfl
theorem has_iff {x : M5} {p : Int} : x.has p = true ↔ goodB x.ipa x.sz = true ∧ x.ipa ≤ p ∧ p - x.ipa < x.sz := by
  unfold M5.has holdsB
  rw [Bool.and_eq_true, Bool.and_eq_true, decide_eq_true_iff, decide_eq_true_iff]
theorem lk_one (x : M5) (p : Int) : lk [x] p = if x.has p = true then some ((x.pa + (p - x.ipa)) % 18446744073709551616, x.perm, x.kind) else none := by
  unfold lk atM
  rw [List.find?_cons]
  cases x.has p <;> rfl
theorem lk_none {l : List M5} {p : Int} (h : ∀ x ∈ l, x.has p = false) : lk l p = none := by
  unfold lk atM
  rw [List.find?_eq_none.2 (fun x hx => by rw [h x hx]; simp)]
  rfl
/-- A part that lies in a stretch. -/
structure InP (b s : Int) (x : M5) : Prop where
  lo : b ≤ x.ipa
  hi : x.ipa + x.sz ≤ b + s
  pos : 0 < x.sz
  pa : x.pa + x.sz ≤ 2199023255552
theorem InP.out {b s p : Int} {x : M5} (h : InP b s x) (hp : p < b ∨ b + s ≤ p) : x.has p = false := by
  rw [Bool.eq_false_iff]
  intro hh
  obtain ⟨_, h1, h2⟩ := has_iff.1 hh
  have := h.lo
  have := h.hi
  omega
theorem InP.wide {b s b' s' : Int} {x : M5} (h : InP b s x) (h1 : b' ≤ b) (h2 : b + s ≤ b' + s') : InP b' s' x := ⟨by have := h.lo; omega, by have := h.hi; omega, h.pos, h.pa⟩

/-! Joined parts tell what the parts tell. -/
theorem addM_lk {l : List M5} {x : M5} {p : Int} (hl : ∀ y ∈ l, InP 0 1099511627776 y) (hx : InP 0 1099511627776 x) : lk (addM l x) p = (lk l p).or (lk [x] p) ∧ ∀ y ∈ addM l x, InP 0 1099511627776 y := by
  rcases List.eq_nil_or_concat l with rfl | ⟨l, y, rfl⟩
  · exact ⟨rfl, fun y hy => by rw [addM_nil, List.mem_singleton] at hy; subst hy; exact hx⟩
  · rw [List.concat_eq_append] at hl ⊢
    rw [addM_snoc]
    have hy := hl y (by simp)
    by_cases hg : goesOn y x = true
    · rw [if_pos hg]
      unfold goesOn at hg
      simp only [Bool.and_eq_true, beq_iff_eq] at hg
      obtain ⟨g1, g2, g3, g4⟩ := hg
      have a1 := hy.lo
      have a2 := hy.hi
      have a3 := hy.pos
      have a4 := hy.pa
      have b1 := hx.lo
      have b2 := hx.hi
      have b3 := hx.pos
      have b4 := hx.pa
      have e1 := y.hp.1
      have e2 := x.hp.1
      rw [IntKind.wrap_u64] at g1 g2
      have hs : (longer y x).sz = y.sz + x.sz := by show IntKind.u64.wrap _ = _; rw [IntKind.wrap_u64]; omega
      have hz : InP 0 1099511627776 (longer y x) := by
        refine ⟨a1, ?_, ?_, ?_⟩
        · rw [hs]; show y.ipa + _ ≤ _; omega
        · rw [hs]; omega
        · rw [hs]; show y.pa + _ ≤ _; omega
      refine ⟨?_, fun u hu => ?_⟩
      · rw [lk_append, lk_append, Option.or_assoc]
        congr 1
        rw [lk_one, lk_one, lk_one]
        have k1 : (longer y x).has p = true ↔ y.ipa ≤ p ∧ p - y.ipa < y.sz + x.sz := by
          rw [has_iff, goodB_iff, hs]
          show (_ ∧ y.ipa + _ < _) ∧ y.ipa ≤ p ∧ p - y.ipa < _ ↔ _
          omega
        have k2 : y.has p = true ↔ y.ipa ≤ p ∧ p - y.ipa < y.sz := by
          rw [has_iff, goodB_iff]; omega
        have k3 : x.has p = true ↔ x.ipa ≤ p ∧ p - x.ipa < x.sz := by
          rw [has_iff, goodB_iff]; omega
        by_cases hc : y.has p = true
        · rw [if_pos hc, if_pos (k1.2 (by have := k2.1 hc; omega))]; rfl
        · rw [if_neg hc]
          by_cases hd : x.has p = true
          · rw [if_pos hd, if_pos (k1.2 (by have := k3.1 hd; omega))]
            show some ((y.pa + (p - y.ipa)) % _, y.perm, y.kind) = some _
            rw [g3, g4, show y.pa + (p - y.ipa) = x.pa + (p - x.ipa) by omega]
          · rw [if_neg hd, if_neg (fun h => by
              have := k1.1 h
              have h2 : ¬ (y.ipa ≤ p ∧ p - y.ipa < y.sz) := fun h => hc (k2.2 h)
              have h3 : ¬ (x.ipa ≤ p ∧ p - x.ipa < x.sz) := fun h => hd (k3.2 h)
              omega)]
            rfl
      · rcases List.mem_append.1 hu with h | h
        · exact hl u (by simp [h])
        · rw [List.mem_singleton] at h; subst h; exact hz
    · rw [if_neg hg]
      refine ⟨lk_append _ _ _, fun u hu => ?_⟩
      rcases List.mem_append.1 hu with h | h
      · exact hl u h
      · rw [List.mem_singleton] at h; subst h; exact hx
theorem fold_lk {p : Int} : ∀ (m l : List M5), (∀ y ∈ l, InP 0 1099511627776 y) → (∀ y ∈ m, InP 0 1099511627776 y) → lk (m.foldl addM l) p = (lk l p).or (lk m p)
  | [], l, _, _ => by rw [lk_nil]; show lk l p = _; cases lk l p <;> rfl
  | x :: m, l, hl, hm => by
    have h := addM_lk (p := p) hl (hm x (by simp))
    rw [List.foldl_cons, fold_lk m (addM l x) h.2 (fun y hy => hm y (by simp [hy])), h.1, show x :: m = [x] ++ m from rfl, lk_append, Option.or_assoc]

/-! The parts that tables hold. -/
def pcX (R : Int → Int → List M5) (k base : Int) (x : PD) : List M5 :=
  if x.d.kind = 1 then R x.d.pa (base + x.i * szV k)
  else if x.d.af = true ∧ x.d.pa < 1099511627776 then [mkM (base + x.i * szV k) x.d.pa (szV k) x.d.perm x.d.mem] else []
def pcs (rd : Int → Int × Int) : Nat → Int → Nat → Int → Int → List M5
  | 0, _, _, _, _ => []
  | D + 1, t, n, k, base => (descsV rd k t n).flatMap (pcX (fun t' a' => pcs rd D t' 512 (k + 1) a') k base)
def snocM (l : List M5) (x : M5) : List M5 := l ++ [x]
theorem sw_pcs {rd : Int → Int × Int} : ∀ (D : Nat) (t : Int) (n : Nat) (k ipa : Int) (s : Sw (List M5)), (sw rd snocM D t n k ipa s).long = false → (sw rd snocM D t n k ipa s).st = s.st ++ pcs rd D t n k ipa
  | 0, _, _, _, _, s, _ => by show s.st = s.st ++ []; simp
  | D + 1, t, n, k, ipa, s, h => by
    unfold sw at h ⊢
    unfold pcs
    split
    · rename_i hc; rw [if_pos hc] at h; cases h
    · rename_i hc
      rw [if_neg hc] at h
      have key : ∀ (l : List PD) (s : Sw (List M5)), (l.foldl (swX snocM (fun t' a' => sw rd snocM D t' 512 (k + 1) a') k ipa) s).long = false → (l.foldl (swX snocM (fun t' a' => sw rd snocM D t' 512 (k + 1) a') k ipa) s).st = s.st ++ l.flatMap (pcX (fun t' a' => pcs rd D t' 512 (k + 1) a') k ipa) := by
        intro l
        induction l with
        | nil => intro s _; simp
        | cons x l ih =>
          intro s hs
          rw [List.foldl_cons] at hs ⊢
          have hf : (swX snocM (fun t' a' => sw rd snocM D t' 512 (k + 1) a') k ipa s x).long = false := by
            rw [Bool.eq_false_iff]
            intro hh
            rw [swX_long _ _ _ _ _ _ hh, hh] at hs; cases hs
          rw [ih _ hs, List.flatMap_cons, ← List.append_assoc]
          congr 1
          unfold swX at hf ⊢
          unfold pcX
          split
          · rename_i hl; rw [if_pos hl] at hf; rw [hl] at hf; cases hf
          · rename_i hl
            rw [if_neg hl] at hf
            split
            · rename_i hk; rw [if_pos hk] at hf; exact sw_pcs D _ _ _ _ _ hf
            · split
              · rfl
              · simp
      exact key _ _ h
theorem swAll_pcs {D : Nat} {rd : Int → Int × Int} {root : Int} (h : (swAll D rd root).long = false) : (swAll D rd root).st = (pcs rd D root 1024 1 0).foldl addM [] := by
  have hm := sw_map (σ := List M5) (τ := List M5) (fun l => l.foldl addM []) (rd := rd) (step := snocM) (step' := addM) (fun s x => by show (s ++ [x]).foldl addM [] = _; rw [List.foldl_append]; rfl) D root 1024 1 0 ⟨[], false, []⟩
  rw [show Sw.map (fun l : List M5 => l.foldl addM []) (⟨[], false, []⟩ : Sw (List M5)) = (⟨[], false, []⟩ : Sw (List M5)) from rfl] at hm
  unfold swAll at h ⊢
  rw [hm] at h ⊢
  show (sw rd snocM D root 1024 1 0 ⟨[], false, []⟩).st.foldl addM [] = _
  rw [sw_pcs D root 1024 1 0 _ h]
  rfl
theorem slot_le {i n : Nat} {sz : Int} (h : i < n) (hs : 0 ≤ sz) : (i : Int) * sz + sz ≤ n * sz := by
  have h1 : ((i : Int) + 1) ≤ n := by omega
  have h2 := Int.mul_le_mul_of_nonneg_right h1 hs
  rw [Int.add_mul, Int.one_mul] at h2
  exact h2
theorem slot_nonneg (i : Nat) {sz : Int} (hs : 0 ≤ sz) : 0 ≤ (i : Int) * sz := Int.mul_nonneg (by omega) hs
theorem pcX_in {R : Int → Int → List M5} {k base sz : Int} {x : PD} (hk : szV k = sz) (h1 : 4096 ≤ sz) (h2 : sz ≤ 1073741824) (hb : 0 ≤ base + x.i * sz) (ht : base + x.i * sz + sz ≤ 1099511627776) (hp : 0 ≤ x.d.pa)
    (hR : x.d.kind = 1 → ∀ y ∈ R x.d.pa (base + x.i * sz), InP (base + x.i * sz) sz y) : ∀ y ∈ pcX R k base x, InP (base + x.i * sz) sz y := by
  intro y hy
  unfold pcX at hy
  rw [hk] at hy
  split at hy
  · rename_i h; exact hR h y hy
  · split at hy
    · rename_i h
      rw [List.mem_singleton] at hy
      subst hy
      have e1 : (mkM (base + x.i * sz) x.d.pa sz x.d.perm x.d.mem).ipa = base + x.i * sz := by show IntKind.u64.wrap _ = _; rw [IntKind.wrap_u64]; omega
      have e2 : (mkM (base + x.i * sz) x.d.pa sz x.d.perm x.d.mem).pa = x.d.pa := by show IntKind.u64.wrap _ = _; rw [IntKind.wrap_u64]; omega
      have e3 : (mkM (base + x.i * sz) x.d.pa sz x.d.perm x.d.mem).sz = sz := by show IntKind.u64.wrap _ = _; rw [IntKind.wrap_u64]; omega
      exact ⟨by rw [e1]; omega, by rw [e1, e3]; omega, by rw [e3]; omega, by rw [e2, e3]; omega⟩
    · cases hy
theorem step_in {rd : Int → Int × Int} {R : Int → Int → List M5} {k base sz t : Int} {n : Nat} (hk : szV k = sz) (h1 : 4096 ≤ sz) (h2 : sz ≤ 1073741824) (hb : 0 ≤ base) (ht : base + n * sz ≤ 1099511627776)
    (hR : ∀ a t' here, (ofV k a).kind = 1 → 0 ≤ here → here + sz ≤ 1099511627776 → ∀ y ∈ R t' here, InP here sz y) : ∀ y ∈ (descsV rd k t n).flatMap (pcX R k base), InP base (n * sz) y := by
  intro y hy
  obtain ⟨x, hx, hy⟩ := List.mem_flatMap.1 hy
  obtain ⟨m1, m2, m3, m4⟩ := descsV_mem hx
  have s1 := slot_le m1 (show 0 ≤ sz by omega)
  have s0 := slot_nonneg x.i (show 0 ≤ sz by omega)
  have := pcX_in (R := R) (base := base) (x := x) hk h1 h2 (by omega) (by omega) (by rw [m2]; exact (ofV_pa' _ _).1) (fun hkk z hz => hR (rd (rdAt t x.i)).1 _ _ (by rw [← m2]; exact hkk) (by omega) (by omega) z hz) y hy
  exact this.wide (by omega) (by omega)
/-- The slot in which an address lies tells of it. -/
theorem step_lk {rd : Int → Int × Int} {R : Int → Int → List M5} {k base sz t p : Int} {n i0 : Nat} (hk : szV k = sz) (h1 : 4096 ≤ sz) (h2 : sz ≤ 1073741824) (hb : 0 ≤ base) (ht : base + n * sz ≤ 1099511627776)
    (hR : ∀ a t' here, (ofV k a).kind = 1 → 0 ≤ here → here + sz ≤ 1099511627776 → ∀ y ∈ R t' here, InP here sz y)
    (hi : i0 < n) (hp0 : base + i0 * sz ≤ p) (hp1 : p < base + i0 * sz + sz) :
    lk ((descsV rd k t n).flatMap (pcX R k base)) p = if (rd (rdAt t i0)).2 = 0 ∧ (ofV k (rd (rdAt t i0)).1).kind ≠ 0 then lk (pcX R k base ⟨i0, ofV k (rd (rdAt t i0)).1⟩) p else none := by
  have key : ∀ m, m ≤ n → lk ((descsV rd k t m).flatMap (pcX R k base)) p = if i0 < m then (if (rd (rdAt t i0)).2 = 0 ∧ (ofV k (rd (rdAt t i0)).1).kind ≠ 0 then lk (pcX R k base ⟨i0, ofV k (rd (rdAt t i0)).1⟩) p else none) else none := by
    intro m
    induction m with
    | zero => intro _; rw [if_neg (by omega)]; rfl
    | succ m ih =>
      intro hm
      have s1 := slot_le (show m < n by omega) (show 0 ≤ sz by omega)
      have s0 := slot_nonneg m (show 0 ≤ sz by omega)
      show lk ((descsV rd k t m ++ if (rd (rdAt t m)).2 = 0 ∧ (ofV k (rd (rdAt t m)).1).kind ≠ 0 then [(⟨m, ofV k (rd (rdAt t m)).1⟩ : PD)] else []).flatMap (pcX R k base)) p = _
      rw [List.flatMap_append, lk_append, ih (by omega)]
      by_cases hmi : i0 = m
      · subst hmi
        rw [if_neg (Nat.lt_irrefl i0), if_pos (Nat.lt_succ_self i0), Option.none_or]
        split
        · rw [List.flatMap_cons, List.flatMap_nil, List.append_nil]
        · rfl
      · have hz : lk ((if (rd (rdAt t m)).2 = 0 ∧ (ofV k (rd (rdAt t m)).1).kind ≠ 0 then [(⟨m, ofV k (rd (rdAt t m)).1⟩ : PD)] else []).flatMap (pcX R k base)) p = none := by
          split
          · refine lk_none fun y hy => ?_
            simp only [List.flatMap_cons, List.flatMap_nil, List.append_nil] at hy
            have hin := pcX_in (R := R) (base := base) (x := ⟨m, ofV k (rd (rdAt t m)).1⟩) hk h1 h2 (by show 0 ≤ base + (m : Int) * sz; omega) (by show base + (m : Int) * sz + sz ≤ _; omega) (ofV_pa' _ _).1 (fun hkk z hz => hR (rd (rdAt t m)).1 _ _ hkk (by show 0 ≤ base + (m : Int) * sz; omega) (by show base + (m : Int) * sz + sz ≤ _; omega) z hz) y hy
            refine hin.out ?_
            show p < base + (m : Int) * sz ∨ base + (m : Int) * sz + sz ≤ p
            rcases Nat.lt_or_gt_of_ne hmi with h | h
            · have := slot_le h (show 0 ≤ sz by omega); omega
            · have := slot_le h (show 0 ≤ sz by omega); omega
          · rfl
        rw [hz]
        have e : (i0 < m + 1) ↔ (i0 < m) := by omega
        simp only [e]
        split
        · split
          · exact Option.or_none
          · rfl
        · rfl
  rw [key n (Nat.le_refl _), if_pos hi]
/-- What a walk tells. -/
def wres (r : HitV × Int) : Option (Int × Int × Int) := if r.2 = 0 then some (r.1.pa, r.1.perm, r.1.mem) else none
theorem step_walk {rd : Int → Int × Int} {R : Int → Int → List M5} {k base sz t p : Int} {n i0 D : Nat} (hk : szV k = sz) (h1 : 4096 ≤ sz) (h2 : sz ≤ 1073741824) (hb : 0 ≤ base) (ht : base + n * sz ≤ 1099511627776)
    (hR : ∀ a t' here, (ofV k a).kind = 1 → 0 ≤ here → here + sz ≤ 1099511627776 → ∀ y ∈ R t' here, InP here sz y)
    (hi : i0 < n) (hp0 : base + i0 * sz ≤ p) (hp1 : p < base + i0 * sz + sz) (hix : tabIdx k p = i0) (hmod : p % sz = p - (base + i0 * sz))
    (hrec : ∀ a t', (ofV k a).kind = 1 → lk (R t' (base + i0 * sz)) p = wres (walkL rd p D (k + 1) t')) :
    lk ((descsV rd k t n).flatMap (pcX R k base)) p = wres (walkL rd p (D + 1) k t) := by
  rw [step_lk hk h1 h2 hb ht hR hi hp0 hp1]
  have s0 := slot_nonneg i0 (show 0 ≤ sz by omega)
  have s1 := slot_le hi (show 0 ≤ sz by omega)
  unfold walkL
  rw [hix]
  show (if (rd (rdAt t i0)).2 = 0 ∧ (ofV k (rd (rdAt t i0)).1).kind ≠ 0 then lk (pcX R k base ⟨i0, ofV k (rd (rdAt t i0)).1⟩) p else none) = wres (if (rd (rdAt t i0)).2 ≠ 0 then _ else if (ofV k (rd (rdAt t i0)).1).kind = 0 then _ else if (ofV k (rd (rdAt t i0)).1).kind = 1 then walkL rd p D (k + 1) (ofV k (rd (rdAt t i0)).1).pa else if (ofV k (rd (rdAt t i0)).1).af = false then _ else if 1099511627776 ≤ (ofV k (rd (rdAt t i0)).1).pa then _ else ((⟨(ofV k (rd (rdAt t i0)).1).pa + p % szV k, (ofV k (rd (rdAt t i0)).1).perm, (ofV k (rd (rdAt t i0)).1).mem, k⟩ : HitV), (0 : Int)))
  have hpa := (ofV_pa' k (rd (rdAt t i0)).1).1
  have hrec' := hrec (rd (rdAt t i0)).1 (ofV k (rd (rdAt t i0)).1).pa
  generalize ofV k (rd (rdAt t i0)).1 = d at *
  by_cases c1 : (rd (rdAt t i0)).2 = 0
  · rw [if_neg (show ¬ (rd (rdAt t i0)).2 ≠ 0 by simp [c1])]
    by_cases c2 : d.kind = 0
    · rw [if_neg (by simp [c2]), if_pos c2]; rfl
    · rw [if_pos ⟨c1, c2⟩, if_neg c2]
      unfold pcX
      rw [hk]
      by_cases c3 : d.kind = 1
      · rw [if_pos c3, if_pos c3]; exact hrec' c3
      · rw [if_neg c3, if_neg c3]
        by_cases c4 : d.af = true
        · rw [if_neg (show ¬ d.af = false by simp [c4])]
          by_cases c5 : d.pa < 1099511627776
          · rw [if_pos ⟨c4, c5⟩, if_neg (by omega), lk_one]
            have e1 : (mkM (base + i0 * sz) d.pa sz d.perm d.mem).ipa = base + i0 * sz := by show IntKind.u64.wrap _ = _; rw [IntKind.wrap_u64]; omega
            have e2 : (mkM (base + i0 * sz) d.pa sz d.perm d.mem).pa = d.pa := by show IntKind.u64.wrap _ = _; rw [IntKind.wrap_u64]; omega
            have e3 : (mkM (base + i0 * sz) d.pa sz d.perm d.mem).sz = sz := by show IntKind.u64.wrap _ = _; rw [IntKind.wrap_u64]; omega
            rw [if_pos (has_iff.2 ⟨goodB_iff.2 ⟨by rw [e3]; omega, by rw [e1, e3]; omega⟩, by rw [e1]; omega, by rw [e1, e3]; omega⟩), e1, e2]
            show some ((d.pa + (p - (base + i0 * sz))) % _, d.perm, d.mem) = some (d.pa + p % sz, d.perm, d.mem)
            rw [hmod, show (d.pa + (p - (base + i0 * sz))) % 18446744073709551616 = d.pa + (p - (base + i0 * sz)) by omega]
          · rw [if_neg (by simp [c5]), if_pos (by omega)]; rfl
        · rw [if_neg (by simp [c4]), if_pos (by simpa using c4)]; rfl
  · rw [if_neg (by simp [c1]), if_pos (show (rd (rdAt t i0)).2 ≠ 0 from c1)]; rfl
theorem pcs_succ (rd : Int → Int × Int) (D : Nat) (t : Int) (n : Nat) (k base : Int) : pcs rd (D + 1) t n k base = (descsV rd k t n).flatMap (pcX (fun t' a' => pcs rd D t' 512 (k + 1) a') k base) := rfl
theorem in3 (rd : Int → Int × Int) (t base : Int) (hb : 0 ≤ base) (ht : base + 2097152 ≤ 1099511627776) : ∀ y ∈ pcs rd 1 t 512 3 base, InP base 2097152 y := by
  rw [pcs_succ]
  exact step_in (n := 512) (sz := 4096) rfl (by decide) (by decide) hb ht (fun a _ _ h => absurd h (ofV_low rfl))
theorem in2 (rd : Int → Int × Int) (t base : Int) (hb : 0 ≤ base) (ht : base + 1073741824 ≤ 1099511627776) : ∀ y ∈ pcs rd 2 t 512 2 base, InP base 1073741824 y := by
  rw [pcs_succ]
  exact step_in (n := 512) (sz := 2097152) rfl (by decide) (by decide) hb ht (fun a t' here _ h1 h2 => in3 rd t' here h1 h2)
theorem in1 (rd : Int → Int × Int) (t : Int) : ∀ y ∈ pcs rd 3 t 1024 1 0, InP 0 1099511627776 y := by
  rw [pcs_succ]
  exact step_in (n := 1024) (sz := 1073741824) rfl (by decide) (by decide) (by decide) (by decide) (fun a t' here _ h1 h2 => in2 rd t' here h1 h2)
theorem lk3 (rd : Int → Int × Int) (t base p : Int) (hb : 0 ≤ base) (ht : base + 2097152 ≤ 1099511627776) (hm : base % 2097152 = 0) (h0 : base ≤ p) (h1 : p < base + 2097152) : lk (pcs rd 1 t 512 3 base) p = wres (walkL rd p 1 3 t) := by
  rw [pcs_succ]
  refine step_walk (n := 512) (sz := 4096) (i0 := ((p - base) / 4096).toNat) (D := 0) rfl (by decide) (by decide) hb ht (fun a _ _ h => absurd h (ofV_low rfl)) (by omega) (by omega) (by omega) ?_ (by omega) (fun a _ h => absurd h (ofV_low rfl))
  show p / 4096 % 512 = _
  omega
theorem lk2 (rd : Int → Int × Int) (t base p : Int) (hb : 0 ≤ base) (ht : base + 1073741824 ≤ 1099511627776) (hm : base % 1073741824 = 0) (h0 : base ≤ p) (h1 : p < base + 1073741824) : lk (pcs rd 2 t 512 2 base) p = wres (walkL rd p 2 2 t) := by
  rw [pcs_succ]
  refine step_walk (n := 512) (sz := 2097152) (i0 := ((p - base) / 2097152).toNat) (D := 1) rfl (by decide) (by decide) hb ht (fun a t' here _ h1 h2 => in3 rd t' here h1 h2) (by omega) (by omega) (by omega) ?_ (by omega) (fun a t' _ => lk3 rd t' _ p (by omega) (by omega) (by omega) (by omega) (by omega))
  show p / 2097152 % 512 = _
  omega
theorem lk1 (rd : Int → Int × Int) (t p : Int) (h0 : 0 ≤ p) (h1 : p < 1099511627776) : lk (pcs rd 3 t 1024 1 0) p = wres (walkL rd p 3 1 t) := by
  rw [pcs_succ]
  refine step_walk (n := 1024) (sz := 1073741824) (i0 := (p / 1073741824).toNat) (D := 2) rfl (by decide) (by decide) (by decide) (by decide) (fun a t' here _ h1 h2 => in2 rd t' here h1 h2) (by omega) (by omega) (by omega) ?_ (by omega) (fun a t' _ => lk2 rd t' _ p (by omega) (by omega) (by omega) (by omega) (by omega))
  show p / 1073741824 = _
  omega
/-- A walk of an address tells what a sweep has there. -/
theorem agrees (rd : Int → Int × Int) (root p : Int) (h0 : 0 ≤ p) (h1 : p < 1099511627776) (hl : (swAll 3 rd root).long = false) : lk (swAll 3 rd root).st p = wres (walkV rd root p) := by
  rw [swAll_pcs hl, fold_lk _ _ (fun y hy => by cases hy) (in1 rd root), lk_nil, Option.none_or, lk1 rd root p h0 h1]
  unfold walkV
  rw [if_neg (by omega)]
end Go.Proofs.YtnieomgopldlhaaGreatDoor
/- Plain: parts that are joined are told by what they tell of each address; a sweep's parts lie in order. -/
namespace Go.Proofs.YtnieomgopldlhaaGreatDoor
open Go

/-- No part goes on into the next. -/
def NoGo : List M5 → Prop
  | [] => True
  | [_] => True
  | x :: y :: l => goesOn x y = false ∧ NoGo (y :: l)
theorem noGo_tail {x : M5} {l : List M5} (h : NoGo (x :: l)) : NoGo l := by
  cases l with
  | nil => trivial
  | cons y l => exact h.2
theorem noGo_snoc : ∀ (l : List M5) (y x : M5), NoGo (l ++ [y]) → goesOn y x = false → NoGo (l ++ [y] ++ [x])
  | [], _, _, _, h => ⟨h, trivial⟩
  | [_], _, _, h1, h => ⟨h1.1, h, trivial⟩
  | _ :: b :: l, y, x, h1, h => ⟨h1.1, noGo_snoc (b :: l) y x h1.2 h⟩
theorem noGo_longer : ∀ (l : List M5) (y x : M5), NoGo (l ++ [y]) → NoGo (l ++ [longer y x])
  | [], _, _, _ => trivial
  | [_], _, _, h => ⟨h.1, trivial⟩
  | _ :: b :: l, y, x, h => ⟨h.1, noGo_longer (b :: l) y x h.2⟩
/-- Parts in order, joined. -/
structure Can (l : List M5) : Prop where
  inn : ∀ x ∈ l, InP 0 1099511627776 x
  ord : l.Pairwise fun x y => x.ipa + x.sz ≤ y.ipa
  no : NoGo l
theorem Can.tail {x : M5} {l : List M5} (h : Can (x :: l)) : Can l := ⟨fun y hy => h.inn y (by simp [hy]), (List.pairwise_cons.1 h.ord).2, noGo_tail h.no⟩
theorem can_nil : Can [] := ⟨fun _ h => (by cases h), List.Pairwise.nil, trivial⟩
theorem can_add {l : List M5} {x : M5} (h : Can l) (hx : InP 0 1099511627776 x) (ho : ∀ y ∈ l, y.ipa + y.sz ≤ x.ipa) : Can (addM l x) ∧ ∀ y ∈ addM l x, y.ipa + y.sz ≤ x.ipa + x.sz := by
  have hin := (addM_lk (p := 0) h.inn hx).2
  rcases List.eq_nil_or_concat l with rfl | ⟨l, y, rfl⟩
  · rw [addM_nil] at hin ⊢
    exact ⟨⟨hin, List.pairwise_singleton _ _, trivial⟩, fun y hy => by rw [List.mem_singleton] at hy; subst hy; exact Int.le_refl _⟩
  · rw [List.concat_eq_append] at *
    rw [addM_snoc] at hin ⊢
    have hy := h.inn y (by simp)
    have a1 := hy.lo
    have a2 := hy.hi
    have a3 := hy.pos
    have b1 := hx.lo
    have b2 := hx.hi
    have b3 := hx.pos
    have hyo := ho y (by simp)
    have hord := List.pairwise_append.1 h.ord
    by_cases hg : goesOn y x = true
    · rw [if_pos hg] at hin ⊢
      have e2 : (longer y x).sz = y.sz + x.sz := by show IntKind.u64.wrap _ = _; rw [IntKind.wrap_u64]; omega
      have e1 : (longer y x).ipa = y.ipa := rfl
      have e3 : y.ipa + y.sz = x.ipa := by
        unfold goesOn at hg
        simp only [Bool.and_eq_true, beq_iff_eq] at hg
        have := hg.1
        rw [IntKind.wrap_u64] at this
        omega
      refine ⟨⟨hin, List.pairwise_append.2 ⟨hord.1, List.pairwise_singleton _ _, fun u hu v hv => ?_⟩, noGo_longer l y x h.no⟩, fun u hu => ?_⟩
      · rw [List.mem_singleton] at hv
        subst hv
        rw [e1]
        exact hord.2.2 u hu y (by simp)
      · rcases List.mem_append.1 hu with hu | hu
        · have := ho u (by simp [hu]); omega
        · rw [List.mem_singleton] at hu
          subst hu
          rw [e1, e2]; omega
    · have hgf : goesOn y x = false := by simpa using hg
      rw [if_neg hg] at hin ⊢
      refine ⟨⟨hin, List.pairwise_append.2 ⟨h.ord, List.pairwise_singleton _ _, fun u hu v hv => ?_⟩, noGo_snoc l y x h.no hgf⟩, fun u hu => ?_⟩
      · rw [List.mem_singleton] at hv
        subst hv
        exact ho u hu
      · rcases List.mem_append.1 hu with hu | hu
        · have := ho u hu; omega
        · rw [List.mem_singleton] at hu
          subst hu
          exact Int.le_refl _
theorem can_fold : ∀ (m l : List M5), Can l → (∀ x ∈ m, InP 0 1099511627776 x) → m.Pairwise (fun x y => x.ipa + x.sz ≤ y.ipa) → (∀ y ∈ l, ∀ x ∈ m, y.ipa + y.sz ≤ x.ipa) → Can (m.foldl addM l)
  | [], _, h, _, _, _ => h
  | x :: m, l, h, hm, ho, hlm => by
    obtain ⟨h1, h2⟩ := can_add h (hm x (by simp)) fun y hy => hlm y hy x (by simp)
    rw [List.pairwise_cons] at ho
    rw [List.foldl_cons]
    refine can_fold m (addM l x) h1 (fun y hy => hm y (by simp [hy])) ho.2 fun y hy u hu => ?_
    have q1 := h2 y hy
    have q2 := ho.1 u hu
    omega
theorem has_in {x : M5} (hx : InP 0 1099511627776 x) {p : Int} (h1 : x.ipa ≤ p) (h2 : p < x.ipa + x.sz) : x.has p = true := by
  have a1 := hx.lo
  have a2 := hx.hi
  have a3 := hx.pos
  exact has_iff.2 ⟨goodB_iff.2 ⟨a3, by omega⟩, h1, by omega⟩
theorem has_not {x : M5} {p : Int} (h : p < x.ipa ∨ x.ipa + x.sz ≤ p) : x.has p = false := by
  rw [Bool.eq_false_iff]
  intro hh
  obtain ⟨_, h1, h2⟩ := has_iff.1 hh
  omega
theorem lk_cons (x : M5) (l : List M5) (p : Int) : lk (x :: l) p = (lk [x] p).or (lk l p) := by
  rw [show x :: l = [x] ++ l from rfl, lk_append]
theorem lk_head {x : M5} {l : List M5} (hx : InP 0 1099511627776 x) {p : Int} (h1 : x.ipa ≤ p) (h2 : p < x.ipa + x.sz) : lk (x :: l) p = some ((x.pa + (p - x.ipa)) % 18446744073709551616, x.perm, x.kind) := by
  rw [lk_cons, lk_one, if_pos (has_in hx h1 h2)]; rfl
theorem lk_rest {x : M5} {l : List M5} {p : Int} (h : p < x.ipa ∨ x.ipa + x.sz ≤ p) : lk (x :: l) p = lk l p := by
  rw [lk_cons, lk_one, if_neg (by rw [has_not h]; simp)]; rfl
theorem lk_low {l : List M5} {p : Int} (h : ∀ x ∈ l, p < x.ipa) : lk l p = none := lk_none fun x hx => has_not (.inl (h x hx))
theorem can_low {x : M5} {l : List M5} (h : Can (x :: l)) {p : Int} (hp : p < x.ipa) : lk (x :: l) p = none := by
  refine lk_low fun u hu => ?_
  rcases List.mem_cons.1 hu with rfl | hu
  · exact hp
  · have h1 := (List.pairwise_cons.1 h.ord).1 u hu
    have h2 := (h.inn x (by simp)).pos
    omega
theorem can_sz {x y : M5} {l m : List M5} (hl : Can (x :: l)) (hm : Can (y :: m)) (he : ∀ p, lk (x :: l) p = lk (y :: m) p) (hi : x.ipa = y.ipa) (hpa : x.pa = y.pa) (hpm : x.perm = y.perm) (hk : x.kind = y.kind) : y.sz ≤ x.sz := by
  apply Classical.byContradiction
  intro hc
  have hx := hl.inn x (by simp)
  have hy := hm.inn y (by simp)
  have a1 := hx.lo
  have a2 := hx.hi
  have a3 := hx.pos
  have a4 := hx.pa
  have a5 := x.hp.1
  have e := he (x.ipa + x.sz)
  rw [lk_head hy (by omega) (by omega), lk_rest (.inr (Int.le_refl _))] at e
  cases l with
  | nil => rw [lk_nil] at e; cases e
  | cons z l =>
    have hz := hl.inn z (by simp)
    have z3 := hz.pos
    have z4 := hz.pa
    have z5 := z.hp.1
    have ho : x.ipa + x.sz ≤ z.ipa := (List.pairwise_cons.1 hl.ord).1 z (by simp)
    by_cases hzp : z.ipa = x.ipa + x.sz
    · rw [lk_head hz (by omega) (by omega)] at e
      have e' := Option.some.inj e
      have e1 : (z.pa + (x.ipa + x.sz - z.ipa)) % 18446744073709551616 = (y.pa + (x.ipa + x.sz - y.ipa)) % 18446744073709551616 := congrArg Prod.fst e'
      have e2 : z.perm = y.perm := congrArg (fun q => q.2.1) e'
      have e3 : z.kind = y.kind := congrArg (fun q => q.2.2) e'
      have hno : goesOn x z = false := hl.no.1
      have g : goesOn x z = true := by
        unfold goesOn
        simp only [Bool.and_eq_true, beq_iff_eq]
        refine ⟨?_, ?_, ?_, ?_⟩
        · rw [IntKind.wrap_u64]; omega
        · rw [IntKind.wrap_u64]; omega
        · rw [e2]; exact hpm
        · rw [e3]; exact hk
      rw [g] at hno; cases hno
    · rw [can_low hl.tail (by omega)] at e
      cases e
theorem can_unique : ∀ (l m : List M5), Can l → Can m → (∀ p, lk l p = lk m p) → l = m
  | [], [], _, _, _ => rfl
  | [], y :: m, _, hm, he => by
    have hy := hm.inn y (by simp)
    have := he y.ipa
    rw [lk_nil, lk_head hy (Int.le_refl _) (by have := hy.pos; omega)] at this
    cases this
  | x :: l, [], hl, _, he => by
    have hx := hl.inn x (by simp)
    have := he x.ipa
    rw [lk_nil, lk_head hx (Int.le_refl _) (by have := hx.pos; omega)] at this
    cases this
  | x :: l, y :: m, hl, hm, he => by
    have hx := hl.inn x (by simp)
    have hy := hm.inn y (by simp)
    have x3 := hx.pos
    have y3 := hy.pos
    have hi : x.ipa = y.ipa := by
      rcases Int.lt_trichotomy x.ipa y.ipa with h | h | h
      · have := he x.ipa
        rw [lk_head hx (Int.le_refl _) (by omega), can_low hm h] at this
        cases this
      · exact h
      · have := he y.ipa
        rw [lk_head hy (Int.le_refl _) (by omega), can_low hl h] at this
        cases this
    have e := he x.ipa
    rw [lk_head hx (Int.le_refl _) (by omega), lk_head hy (by omega) (by omega)] at e
    have e' := Option.some.inj e
    have e1 : (x.pa + (x.ipa - x.ipa)) % 18446744073709551616 = (y.pa + (x.ipa - y.ipa)) % 18446744073709551616 := congrArg Prod.fst e'
    have hpm : x.perm = y.perm := congrArg (fun q => q.2.1) e'
    have hk : x.kind = y.kind := congrArg (fun q => q.2.2) e'
    have hpa : x.pa = y.pa := by
      have q1 := x.hp
      have q2 := y.hp
      unfold W64 at q1 q2
      omega
    have s1 := can_sz hl hm he hi hpa hpm hk
    have s2 := can_sz hm hl (fun p => (he p).symm) hi.symm hpa.symm hpm.symm hk.symm
    have hs : x.sz = y.sz := by omega
    have hxy : x = y := by
      cases x; cases y
      simp only at hi hpa hs hpm hk
      subst hi hpa hs hpm hk
      rfl
    subst hxy
    rw [can_unique l m hl.tail hm.tail fun p => ?_]
    by_cases hp : x.ipa ≤ p ∧ p < x.ipa + x.sz
    · have hb : ∀ {k : List M5}, Can (x :: k) → lk k p = none := fun hk' => lk_low fun u hu => by
        have := (List.pairwise_cons.1 hk'.ord).1 u hu
        omega
      rw [hb hl, hb hm]
    · have := he p
      rw [lk_rest (by omega), lk_rest (by omega)] at this
      exact this

/-! A sweep's parts lie in order. -/
theorem descsV_ord (rd : Int → Int × Int) (k t : Int) : ∀ n, (descsV rd k t n).Pairwise fun x y => x.i < y.i
  | 0 => List.Pairwise.nil
  | n + 1 => by
    show (descsV rd k t n ++ _).Pairwise _
    refine List.pairwise_append.2 ⟨descsV_ord rd k t n, by split <;> simp, fun x hx y hy => ?_⟩
    have h1 := (descsV_mem hx).1
    split at hy
    · rw [List.mem_singleton] at hy; subst hy; exact h1
    · cases hy
theorem step_ord {rd : Int → Int × Int} {R : Int → Int → List M5} {k base sz t : Int} {n : Nat} (hk : szV k = sz) (h1 : 4096 ≤ sz) (h2 : sz ≤ 1073741824) (hb : 0 ≤ base) (ht : base + n * sz ≤ 1099511627776)
    (hR : ∀ a t' here, (ofV k a).kind = 1 → 0 ≤ here → here + sz ≤ 1099511627776 → (∀ y ∈ R t' here, InP here sz y) ∧ (R t' here).Pairwise fun x y => x.ipa + x.sz ≤ y.ipa) : ((descsV rd k t n).flatMap (pcX R k base)).Pairwise fun x y => x.ipa + x.sz ≤ y.ipa := by
  have hin : ∀ x ∈ descsV rd k t n, ∀ y ∈ pcX R k base x, InP (base + x.i * sz) sz y := fun x hx => by
    obtain ⟨m1, m2, m3, m4⟩ := descsV_mem hx
    have s1 := slot_le m1 (show 0 ≤ sz by omega)
    have s0 := slot_nonneg x.i (show 0 ≤ sz by omega)
    exact pcX_in (R := R) (base := base) (x := x) hk h1 h2 (by omega) (by omega) (by rw [m2]; exact (ofV_pa' _ _).1) (fun hkk => (hR (rd (rdAt t x.i)).1 _ _ (by rw [← m2]; exact hkk) (by omega) (by omega)).1)
  rw [List.pairwise_flatMap]
  refine ⟨fun x hx => ?_, (descsV_ord rd k t n).imp_of_mem fun {x y} hx hy hlt u hu v hv => ?_⟩
  · obtain ⟨m1, m2, m3, m4⟩ := descsV_mem hx
    have s1 := slot_le m1 (show 0 ≤ sz by omega)
    have s0 := slot_nonneg x.i (show 0 ≤ sz by omega)
    unfold pcX
    rw [hk]
    split
    · rename_i hkk
      exact (hR (rd (rdAt t x.i)).1 _ _ (by rw [← m2]; exact hkk) (by omega) (by omega)).2
    · split
      · exact List.pairwise_singleton _ _
      · exact List.Pairwise.nil
  · have q1 := (hin x hx u hu).hi
    have q2 := (hin y hy v hv).lo
    have q3 := slot_le hlt (show 0 ≤ sz by omega)
    omega
theorem ord3 (rd : Int → Int × Int) (t base : Int) (hb : 0 ≤ base) (ht : base + 2097152 ≤ 1099511627776) : (pcs rd 1 t 512 3 base).Pairwise fun x y => x.ipa + x.sz ≤ y.ipa := by
  rw [pcs_succ]
  exact step_ord (n := 512) (sz := 4096) rfl (by decide) (by decide) hb ht (fun a _ _ h => absurd h (ofV_low rfl))
theorem ord2 (rd : Int → Int × Int) (t base : Int) (hb : 0 ≤ base) (ht : base + 1073741824 ≤ 1099511627776) : (pcs rd 2 t 512 2 base).Pairwise fun x y => x.ipa + x.sz ≤ y.ipa := by
  rw [pcs_succ]
  exact step_ord (n := 512) (sz := 2097152) rfl (by decide) (by decide) hb ht (fun a t' here _ h1 h2 => ⟨in3 rd t' here h1 h2, ord3 rd t' here h1 h2⟩)
theorem ord1 (rd : Int → Int × Int) (t : Int) : (pcs rd 3 t 1024 1 0).Pairwise fun x y => x.ipa + x.sz ≤ y.ipa := by
  rw [pcs_succ]
  exact step_ord (n := 1024) (sz := 1073741824) rfl (by decide) (by decide) (by decide) (by decide) (fun a t' here _ h1 h2 => ⟨in2 rd t' here h1 h2, ord2 rd t' here h1 h2⟩)
theorem can_sweep {rd : Int → Int × Int} {root : Int} (h : (swAll 3 rd root).long = false) : Can (swAll 3 rd root).st := by
  rw [swAll_pcs h]
  exact can_fold _ _ can_nil (in1 rd root) (ord1 rd root) (fun _ h => (by cases h))
end Go.Proofs.YtnieomgopldlhaaGreatDoor
