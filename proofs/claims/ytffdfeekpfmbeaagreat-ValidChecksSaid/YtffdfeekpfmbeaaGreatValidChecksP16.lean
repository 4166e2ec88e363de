/- As Ord, for a region whose operations may throw. -/
import Derived.Test.YtffdfeekpfmbeaaGreatValidChecksP15
namespace Go.Proofs.YtffdfeekpfmbeaaGreat
open Go Go.RowKit

section
variable {P : Program} {ops : Array Oper} {md : Region.Mode} {S : World → Prop}
/-- The walk over the plan; what is asked at an end and where something was thrown. -/
def wpOrdP (P : Program) (ops : Array Oper) (S : World → Prop) (fin : List Oper) (R : Exit → Act → World → Prop) : List (List Oper × Option Oper) → Act → World → Prop
  | [], a, w => wpQuiet P ops S (fun a' => R .normal a' w) fin a
  | (l, o) :: st, a, w => wpQuiet P ops S (fun a' => ∀ Q₁ : Exit → Act → World → Prop, (∀ a'' w'', S w'' → wpOrdP P ops S fin R st a'' w'' → Q₁ .normal a'' w'') → (∀ c a'' w'', R (.panic c) a'' w'' → Q₁ (.panic c) a'' w'') → wpList P ops Q₁ o.toList a' w) l a
/-- What is kept of an exit: an end, or a panic. -/
def onlyP (Q : Exit → Act → World → Prop) : Exit → Act → World → Prop := fun e a w => match e with | .normal => Q .normal a w | .panic c => Q (.panic c) a w | _ => False
theorem ordP_held {Q : Exit → Act → World → Prop} (hsel : Region.noSelect ops = true) (hP : ∀ (c : _) (a : Act) (d : Option Tmp) (v : Value) (w : World), Q (.panic c) (a.put d v) w → Q (.panic c) a w) (fin : List Nat) :
    ∀ (st : List (List Nat × Nat)) (listed : Array Bool) (a : Act) (w : World), S w → ordB md ops fin st listed = true →
      wpOrdP P ops S (fin.filterMap (ops[·]?)) Q (st.map fun x => (x.1.filterMap (ops[·]?), ops[x.2]?)) a w → wpAnyH P md ops (onlyP Q) S (ordLen fin st) listed a w
  | [], listed, a, w, hS, hB, h => by
    unfold ordB at hB
    split at hB
    · rename_i l hl
      exact takes_held (Q := onlyP Q) hsel (fun c a d v w h => hP c a d v w h) 0 _ w hS fin listed l a hl h (fun a' h' => ⟨List.isEmpty_iff.1 hB, h'⟩)
    · cases hB
  | (is, i) :: st, listed, a, w, hS, hB, h => by
    unfold ordB at hB
    split at hB
    · rename_i l hl
      simp only [Bool.and_eq_true, decide_eq_true_eq] at hB
      refine takes_held (Q := onlyP Q) hsel (fun c a d v w h => hP c a d v w h) (1 + ordLen fin st) _ w hS is listed l a hl h (fun a' h' => ?_)
      have hi : i ∈ Region.ready md ops l := by rw [hB.1]; simp
      obtain ⟨_, o, ho, _⟩ := mem_ready.1 hi
      have h1 := h' (fun e a'' w'' => match e with | .normal => S w'' ∧ wpAnyH P md ops (onlyP Q) S (ordLen fin st) (l.setIfInBounds i true) a'' w'' | .panic c => Q (.panic c) a'' w'' | _ => False)
        (fun a'' w'' hS' hr => ⟨hS', ordP_held hsel hP fin st _ _ _ hS' hB.2 hr⟩) (fun c a'' w'' h => h)
      rw [ho] at h1
      rw [Nat.add_comm 1]
      refine wpAnyH_all hB.1 (by simp) ?_
      intro j hj
      obtain rfl : j = i := by simpa using hj
      unfold wpOp
      simp only [ho]
      simp only [Option.toList, wpList] at h1
      split
      · rename_i hw
        simp only [hw, if_true] at h1
        rcases h1 with h1 | ⟨_, b, w2, h2⟩
        · exact .inl (oper_more (fun e a w he h => by cases e <;> first | exact absurd rfl he | exact h | exact h.elim) o _ _ _ _ (fun a w h => h) h1)
        · exact h2.elim
      · rename_i hw
        simp only [hw] at h1
        exact h1
    · cases hB
theorem region_ordP {id : Nat} {Q : Exit → Act → World → Prop} {a : Act} {w : World} {l : List Oper} (S : World → Prop) (st : List (List Nat × Nat)) (fin : List Nat) (hm : P.follows .mixedOrders = true) (hsel : Region.noSelect l.toArray = true)
    (hB : ordB .any l.toArray fin st (Array.replicate l.toArray.size false) = true) (hn : ordLen fin st = l.toArray.size) (hS : S w.drew) (hP : ∀ (c : _) (a : Act) (d : Option Tmp) (v : Value) (w : World), Q (.panic c) (a.put d v) w → Q (.panic c) a w)
    (h : wpOrdP P l.toArray S (fin.filterMap (l[·]?)) Q (st.map fun x => (x.1.filterMap (l[·]?), l[x.2]?)) a w.drew) : (Code.region id l.toArray true).wp P Q a w := by
  refine wp_region_any hm (wpAny_more (Q := onlyP Q) (fun e a w h => by cases e <;> first | exact h | exact h.elim) _ _ _ _ (wpAny_of_held (S := S) _ _ _ _ ?_))
  have := ordP_held (P := P) (md := .any) (S := S) (Q := Q) hsel hP fin st _ a w.drew hS hB (by simpa using h)
  rw [hn] at this
  exact this
theorem ordP_step {fin : List Oper} {R : Exit → Act → World → Prop} {l : List Oper} {o : Option Oper} {st : List (List Oper × Option Oper)} {a : Act} {w : World}
    (h : wpQuiet P ops S (fun a' => ∀ Q₁ : Exit → Act → World → Prop, (∀ a'' w'', S w'' → wpOrdP P ops S fin R st a'' w'' → Q₁ .normal a'' w'') → (∀ c a'' w'', R (.panic c) a'' w'' → Q₁ (.panic c) a'' w'') → wpList P ops Q₁ o.toList a' w) l a) : wpOrdP P ops S fin R ((l, o) :: st) a w := h
theorem ordP_last {fin : List Oper} {R : Exit → Act → World → Prop} {a : Act} {w : World} (h : wpQuiet P ops S (fun a' => R .normal a' w) fin a) : wpOrdP P ops S fin R [] a w := h
end
end Go.Proofs.YtffdfeekpfmbeaaGreat
/- As Ord, for a region whose last operation (a store) waits for all that is taken first: behind it the class need not hold. -/
namespace Go.Proofs.YtffdfeekpfmbeaaGreat
open Go Go.RowKit

section
variable {P : Program} {ops : Array Oper} {md : Region.Mode} {S : World → Prop}

def ClosedS (md : Region.Mode) (ops : Array Oper) (listed : Array Bool) : Prop :=
  ∀ j oj, ops[j]? = some oj → listed.getD j true = true → j < ops.size → ∀ e ∈ oj.after, Region.binds md e = true → listed.getD e.on true = true
def needsSB (md : Region.Mode) (ops : Array Oper) : Nat → Nat → Nat → Bool
  | 0, _, _ => false
  | f + 1, k, i => match ops[k]? with
    | some o => o.after.any fun e => Region.binds md e && (e.on == i || needsSB md ops f e.on i)
    | none => false

theorem ready_depsS {listed : Array Bool} {i : Nat} (h : i ∈ Region.ready md ops listed) : listed.getD i true = false ∧ ∃ o, ops[i]? = some o ∧ ∀ e ∈ o.after, Region.binds md e = true → listed.getD e.on true = true := by
  obtain ⟨h1, o, ho, hall⟩ := mem_ready.1 h
  refine ⟨h1, o, ho, fun e he hb => ?_⟩
  have h2 := hall e he hb
  cases hh : listed.getD e.on true
  · rw [getD_both hh] at h2; cases h2
  · rfl
theorem needs_listedS {listed : Array Bool} (hc : ClosedS md ops listed) {i : Nat} : ∀ (f k : Nat), needsSB md ops f k i = true → (∃ o, ops[k]? = some o ∧ ∀ e ∈ o.after, Region.binds md e = true → listed.getD e.on true = true) → listed.getD i true = true
  | 0, _, h, _ => by cases h
  | f + 1, k, h, ⟨o, ho, hd⟩ => by
    unfold needsSB at h
    rw [ho] at h
    simp only [Array.any_eq_true, Bool.and_eq_true, Bool.or_eq_true, beq_iff_eq] at h
    obtain ⟨q, hq, hb, h1⟩ := h
    have he : o.after[q] ∈ o.after := Array.getElem_mem hq
    generalize o.after[q] = e at *
    rcases h1 with h1 | h1
    · rw [← h1]; exact hd e he hb
    · have hl := hd e he hb
      have hj : ∃ oj, ops[e.on]? = some oj := by
        cases f with
        | zero => cases h1
        | succ f =>
          unfold needsSB at h1
          cases ho2 : ops[e.on]? with
          | none => rw [ho2] at h1; cases h1
          | some oj => exact ⟨oj, rfl⟩
      obtain ⟨oj, hoj⟩ := hj
      exact needs_listedS hc f e.on h1 ⟨oj, hoj, hc e.on oj hoj hl (Array.getElem?_eq_some_iff.1 hoj).1⟩
theorem closed_setS {listed : Array Bool} (hc : ClosedS md ops listed) {i : Nat} (hi : i ∈ Region.ready md ops listed) : ClosedS md ops (listed.setIfInBounds i true) := by
  obtain ⟨h1, o, ho, hd⟩ := ready_depsS hi
  have up : ∀ q, listed.getD q true = true → (listed.setIfInBounds i true).getD q true = true := by
    intro q hq
    by_cases hqi : i = q
    · subst hqi
      rcases Nat.lt_or_ge i listed.size with h | h <;> simp [h]
    · rw [getD_set_ne true hqi]; exact hq
  intro j oj hj hl hlt e he hb
  by_cases hji : i = j
  · subst hji
    rw [ho] at hj; cases hj
    exact up _ (hd e he hb)
  · rw [getD_set_ne true hji] at hl
    exact up _ (hc j oj hj hl hlt e he hb)
theorem closed_startS (m : Nat) (hm : m = ops.size) : ClosedS md ops (Array.replicate m false) := by
  intro j oj _ hl hlt
  subst hm
  simp [hlt] at hl

def wpAnyS (P : Program) (md : Region.Mode) (ops : Array Oper) (Q : Exit → Act → World → Prop) (S : World → Prop) (k : Nat) : Nat → Array Bool → Act → World → Prop
  | 0, listed, a, w => Region.ready md ops listed = [k] ∧ wpOp P ops Q k (fun a' w' => Region.ready md ops (listed.setIfInBounds k true) = [] ∧ Q .normal a' w') a w
  | fuel + 1, listed, a, w => Region.ready md ops listed ≠ [] ∧ ∀ i ∈ Region.ready md ops listed, i ≠ k ∧ wpOp P ops Q i (fun a' w' => S w' ∧ wpAnyS P md ops Q S k fuel (listed.setIfInBounds i true) a' w') a w

theorem wpAny_of_S {Q : Exit → Act → World → Prop} {k : Nat} : ∀ (fuel : Nat) (listed : Array Bool) (a : Act) (w : World), wpAnyS P md ops Q S k fuel listed a w → wpAny P md ops Q (fuel + 1) listed a w
  | 0, listed, a, w, h => ⟨fun h0 => (by rw [h.1] at h0; cases h0), fun i hi => by
    rw [h.1] at hi
    obtain rfl : i = k := by simpa using hi
    exact h.2⟩
  | fuel + 1, listed, a, w, h => ⟨fun h0 => absurd h0 h.1, fun i hi => wpOp_mono (fun a' w' h' => wpAny_of_S fuel _ a' w' h'.2) (h.2 i hi).2⟩

theorem wpAnyS_first {Q : Exit → Act → World → Prop} {i k f : Nat} {oi : Oper} {v : Value} (hi : ops[i]? = some oi) (hsel : ∀ (j : Nat) (o : Oper) cs b, ops[j]? = some o → o.op ≠ .select cs b)
    (hk : needsSB md ops f k i = true) (hQ : ∀ c a w, Q (.panic c) (a.put oi.dst v) w → Q (.panic c) a w) :
    ∀ (fuel : Nat) (listed : Array Bool) (a : Act) (w : World), ClosedS md ops listed →
      (∀ j oj, ops[j]? = some oj → j ≠ i → listed.getD j true = false → (∀ e ∈ oj.after, Region.binds md e = true → e.on ≠ i) → oi.apart ops oj = true) →
      i ∈ Region.ready md ops listed → YieldsIf P ops S oi v a → S w →
      wpAnyS P md ops Q S k fuel (listed.setIfInBounds i true) (a.put oi.dst v) w → wpAnyS P md ops Q S k (fuel + 1) listed a w := by
  have notk : ∀ (listed : Array Bool), ClosedS md ops listed → i ∈ Region.ready md ops listed → ∀ j ∈ Region.ready md ops listed, j ≠ k := by
    intro listed hc hr j hj e
    subst e
    have h1 := needs_listedS hc f j hk (ready_depsS hj).2
    rw [(ready_depsS hr).1] at h1; cases h1
  intro fuel
  induction fuel with
  | zero =>
    intro listed a w hc _ hr hy hS H
    refine ⟨fun h => (by rw [h] at hr; cases hr), fun j hj => ⟨notk _ hc hr j hj, ?_⟩⟩
    by_cases hji : j = i
    · subst hji; exact hy.wpOp hi hS ⟨hS, H⟩
    · have := ready_mono hj hji
      rw [H.1] at this
      exact absurd (by simpa using this) (notk _ hc hr j hj)
  | succ fuel ih =>
    intro listed a w hc hfree hr hy hS H
    refine ⟨fun h => (by rw [h] at hr; cases hr), fun j hj => ⟨notk _ hc hr j hj, ?_⟩⟩
    by_cases hji : j = i
    · subst hji; exact hy.wpOp hi hS ⟨hS, H⟩
    · have h1 := (H.2 j (ready_mono hj hji)).2
      obtain ⟨hjun, oj, hoj, hall⟩ := mem_ready.1 hj
      have hnot : ∀ e ∈ oj.after, Region.binds md e = true → e.on ≠ i := fun e he hb heq => by
        have h1 := hall e he hb
        have h0 := (mem_ready.1 hr).1
        rw [heq] at h1
        rcases Nat.lt_or_ge i listed.size with h' | h'
        · simp [h'] at h0 h1; rw [h0] at h1; cases h1
        · simp [Array.getElem?_eq_none h'] at h1
      have h2 := wpOp_putIf hoj (hfree j oj hoj hji hjun hnot) (fun cs b => hsel i oi cs b hi) (fun cs b => hsel j oj cs b hoj) hQ hy h1
      have hfree' : ∀ k ok, ops[k]? = some ok → k ≠ i → (listed.setIfInBounds j true).getD k true = false →
          (∀ e ∈ ok.after, Region.binds md e = true → e.on ≠ i) → oi.apart ops ok = true := fun k ok hk hki hun hno => by
        refine hfree k ok hk hki ?_ hno
        by_cases hjk : j = k
        · subst hjk; exact hjun
        · rw [getD_set_ne true hjk] at hun; exact hun
      refine wpOp_mono (fun a' w' h3 => ⟨h3.2.1, ih (listed.setIfInBounds j true) a' w' (closed_setS hc hj) hfree' (ready_mono hr (Ne.symm hji)) h3.1 h3.2.1 ?_⟩) h2
      rw [Array.setIfInBounds_comm _ _ hji]
      exact h3.2.2

def takesSB (md : Region.Mode) (ops : Array Oper) (k : Nat) : List Nat → Array Bool → Option (Array Bool)
  | [], listed => some listed
  | i :: is, listed => if (mayTake md ops listed i && needsSB md ops 8 k i) = true then takesSB md ops k is (listed.setIfInBounds i true) else none

theorem takes_S {Q : Exit → Act → World → Prop} {k : Nat} (hsel : Region.noSelect ops = true) (hQ : ∀ (c : _) (a : Act) (d : Option Tmp) (v : Value) (w : World), Q (.panic c) (a.put d v) w → Q (.panic c) a w) (fuel : Nat) (R : Act → Prop) (w : World) (hS : S w) :
    ∀ (is : List Nat) (listed listed' : Array Bool) (a : Act), ClosedS md ops listed → takesSB md ops k is listed = some listed' → wpQuiet P ops S R (is.filterMap (ops[·]?)) a →
      (∀ a', ClosedS md ops listed' → R a' → wpAnyS P md ops Q S k fuel listed' a' w) → wpAnyS P md ops Q S k (is.length + fuel) listed a w
  | [], listed, listed', a, hc, hB, h, hK => by
    simp only [takesSB, Option.some.injEq] at hB
    subst hB
    rw [List.length_nil, Nat.zero_add]
    exact hK a hc h
  | i :: is, listed, listed', a, hc, hB, h, hK => by
    unfold takesSB at hB
    by_cases hcc : (mayTake md ops listed i && needsSB md ops 8 k i) = true
    · rw [if_pos hcc] at hB
      obtain ⟨hcm, hnk⟩ := Bool.and_eq_true_iff.1 hcc
      unfold mayTake at hcm
      simp only [Bool.and_eq_true] at hcm
      obtain ⟨⟨hr, hf⟩, hl⟩ := hcm
      cases ho : ops[i]? with
      | none => rw [ho] at hl; cases hl
      | some o =>
        rw [ho] at hl
        have e : (i :: is).filterMap (ops[·]?) = o :: is.filterMap (ops[·]?) := by rw [List.filterMap_cons, ho]
        rw [e] at h
        have hst : qOp P ops S i (wpQuiet P ops S R (is.filterMap (ops[·]?))) a := by unfold qOp; simp only [ho]; exact h
        obtain ⟨v, hy, hK'⟩ := yieldsIn_of_qOp ho hst
        have hri : i ∈ Region.ready md ops listed := by simpa using hr
        rw [List.length_cons, show is.length + 1 + fuel = (is.length + fuel) + 1 by omega]
        exact wpAnyS_first ho (Region.noSelect_spec hsel) hnk (fun c a w h => hQ c a _ _ w h) _ _ _ _ hc (Region.free_spec ho hf) hri (yieldsIf_of hl hy) hS
          (takes_S hsel hQ fuel R w hS is _ listed' _ (closed_setS hc hri) hB hK' hK)
    · rw [if_neg hcc] at hB
      cases hB

/-- The plan; its last stage ends in the operation that waits for all. -/
def ordSB (md : Region.Mode) (ops : Array Oper) (k : Nat) (is0 : List Nat) : List (List Nat × Nat) → Array Bool → Bool
  | [], listed => match takesSB md ops k is0 listed with | some l => decide (Region.ready md ops l = [k]) && (Region.ready md ops (l.setIfInBounds k true)).isEmpty | none => false
  | (is, i) :: st, listed => match takesSB md ops k is listed with | some l => decide (Region.ready md ops l = [i]) && (decide (i ≠ k) && ordSB md ops k is0 st (l.setIfInBounds i true)) | none => false

def wpOrdS (P : Program) (ops : Array Oper) (S : World → Prop) (l0 : List Oper) (ok : Option Oper) (R : Act → World → Prop) : List (List Oper × Option Oper) → Act → World → Prop
  | [], a, w => wpQuiet P ops S (fun a' => ∀ Q₁ : Exit → Act → World → Prop, (∀ a'' w'', R a'' w'' → Q₁ .normal a'' w'') → wpList P ops Q₁ ok.toList a' w) l0 a
  | (l, o) :: st, a, w => wpQuiet P ops S (fun a' => ∀ Q₁ : Exit → Act → World → Prop, (∀ a'' w'', S w'' → wpOrdS P ops S l0 ok R st a'' w'' → Q₁ .normal a'' w'') → wpList P ops Q₁ o.toList a' w) l a

theorem op_of_listS {Q : Exit → Act → World → Prop} {K : Act → World → Prop} {i : Nat} {o : Oper} {a : Act} {w : World} (ho : ops[i]? = some o)
    (h1 : wpList P ops (fun e a'' w'' => match e with | .normal => K a'' w'' | _ => False) [o] a w) : wpOp P ops Q i K a w := by
  unfold wpOp
  simp only [ho]
  simp only [wpList] at h1
  split
  · rename_i hw
    simp only [hw, if_true] at h1
    rcases h1 with h1 | ⟨_, b, w2, h2⟩
    · exact .inl (oper_more (fun e a w he h => by cases e <;> first | exact absurd rfl he | exact h.elim) o _ _ _ _ (fun a w h => h) h1)
    · exact h2.elim
  · rename_i hw
    simp only [hw] at h1
    exact h1

theorem ord_S {Q : Exit → Act → World → Prop} {k : Nat} (hsel : Region.noSelect ops = true) (hQ : ∀ e a w, e ≠ .normal → ¬ Q e a w) (is0 : List Nat) (R : Act → World → Prop) (hR : ∀ a w, R a w → Q .normal a w) :
    ∀ (st : List (List Nat × Nat)) (listed : Array Bool) (a : Act) (w : World), ClosedS md ops listed → S w → ordSB md ops k is0 st listed = true →
      wpOrdS P ops S (is0.filterMap (ops[·]?)) ops[k]? R (st.map fun x => (x.1.filterMap (ops[·]?), ops[x.2]?)) a w → wpAnyS P md ops Q S k (ordLen is0 st) listed a w
  | [], listed, a, w, hc, hS, hB, h => by
    unfold ordSB at hB
    split at hB
    · rename_i l hl
      simp only [Bool.and_eq_true, decide_eq_true_eq] at hB
      refine takes_S (Q := Q) hsel (fun c a d v w h => absurd h (hQ _ _ _ (by simp))) 0 _ w hS is0 listed l a hc hl h (fun a' hc' h' => ⟨hB.1, ?_⟩)
      have hi : k ∈ Region.ready md ops l := by rw [hB.1]; simp
      obtain ⟨_, o, ho, _⟩ := mem_ready.1 hi
      have h1 := h' (fun e a'' w'' => match e with | .normal => Region.ready md ops (l.setIfInBounds k true) = [] ∧ Q .normal a'' w'' | _ => False) (fun a'' w'' hr => ⟨List.isEmpty_iff.1 hB.2, hR _ _ hr⟩)
      rw [ho] at h1
      exact op_of_listS ho h1
    · cases hB
  | (is, i) :: st, listed, a, w, hc, hS, hB, h => by
    unfold ordSB at hB
    split at hB
    · rename_i l hl
      simp only [Bool.and_eq_true, decide_eq_true_eq] at hB
      have := takes_S (Q := Q) hsel (fun c a d v w h => absurd h (hQ _ _ _ (by simp))) (ordLen is0 st + 1) _ w hS is listed l a hc hl h (fun a' hc' h' => by
        have hi : i ∈ Region.ready md ops l := by rw [hB.1]; simp
        obtain ⟨_, o, ho, _⟩ := mem_ready.1 hi
        refine ⟨by rw [hB.1]; simp, fun j hj => ?_⟩
        rw [hB.1] at hj
        obtain rfl : j = i := by simpa using hj
        refine ⟨hB.2.1, ?_⟩
        have h1 := h' (fun e a'' w'' => match e with | .normal => S w'' ∧ wpAnyS P md ops Q S k (ordLen is0 st) (l.setIfInBounds j true) a'' w'' | _ => False)
          (fun a'' w'' hS' hr => ⟨hS', ord_S hsel hQ is0 R hR st _ _ _ (closed_setS hc' hi) hS' hB.2.2 hr⟩)
        rw [ho] at h1
        exact op_of_listS ho h1)
      rw [Nat.add_comm (ordLen is0 st) 1] at this
      exact this
    · cases hB

theorem region_ordS {id : Nat} {Q : Exit → Act → World → Prop} {a : Act} {w : World} {l : List Oper} (S : World → Prop) (st : List (List Nat × Nat)) (is0 : List Nat) (k : Nat) (hm : P.follows .mixedOrders = true) (hsel : Region.noSelect l.toArray = true)
    (hB : ordSB .any l.toArray k is0 st (Array.replicate l.toArray.size false) = true) (hn : ordLen is0 st + 1 = l.toArray.size) (hS : S w.drew)
    (h : wpOrdS P l.toArray S (is0.filterMap (l[·]?)) l[k]? (fun a w => Q .normal a w) (st.map fun x => (x.1.filterMap (l[·]?), l[x.2]?)) a w.drew) : (Code.region id l.toArray true).wp P Q a w := by
  refine wp_region_any hm (wpAny_more (Q := fun e a w => match e with | .normal => Q .normal a w | _ => False) (fun e a w h => by cases e <;> first | exact h | exact h.elim) _ _ _ _ ?_)
  have := wpAny_of_S _ _ _ _ (ord_S (P := P) (md := .any) (S := S) (k := k) (Q := fun e a w => match e with | .normal => Q .normal a w | _ => False) hsel (fun e a w he h => by cases e <;> first | exact absurd rfl he | exact h.elim) is0 (fun a w => Q .normal a w) (fun _ _ h => h) st _ a w.drew (closed_startS _ rfl) hS hB (by simpa using h))
  rw [hn] at this
  exact this
theorem ordS_step {l0 : List Oper} {ok : Option Oper} {R : Act → World → Prop} {l : List Oper} {o : Option Oper} {st : List (List Oper × Option Oper)} {a : Act} {w : World}
    (h : wpQuiet P ops S (fun a' => ∀ Q₁ : Exit → Act → World → Prop, (∀ a'' w'', S w'' → wpOrdS P ops S l0 ok R st a'' w'' → Q₁ .normal a'' w'') → wpList P ops Q₁ o.toList a' w) l a) : wpOrdS P ops S l0 ok R ((l, o) :: st) a w := h
theorem ordS_last {l0 : List Oper} {ok : Option Oper} {R : Act → World → Prop} {a : Act} {w : World}
    (h : wpQuiet P ops S (fun a' => ∀ Q₁ : Exit → Act → World → Prop, (∀ a'' w'', R a'' w'' → Q₁ .normal a'' w'') → wpList P ops Q₁ ok.toList a' w) l0 a) : wpOrdS P ops S l0 ok R [] a w := h
end
end Go.Proofs.YtffdfeekpfmbeaaGreat
