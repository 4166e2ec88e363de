/- As Ord, inside a fence that lets every function by, in a round of a range over a function too. -/
import Derived.Test.YtokbplajcdkcpaaOrd
import Derived.OrdersIn
import Derived.TacticsIn
namespace Go.Proofs.Ytokbplajcdkcpaa
open Go Go.RowKit

section
variable {F : Fence} {n : Nat} {P : Program} {ops : Array Oper} {md : Region.Mode} {S : World → Prop}

def noDefer (ops : Array Oper) : Bool := ops.toList.all fun o => match o.op with | .defer _ => false | _ => true
theorem noDefer_spec (h : noDefer ops = true) {j : Nat} {o : Oper} (ho : ops[j]? = some o) : ∀ c, o.op ≠ .defer c := by
  intro c hc
  have hm : o ∈ ops.toList := by simpa using Array.mem_of_getElem? ho
  have := List.all_eq_true.1 h o hm
  simp [hc] at this

theorem yieldsIf_wpOpIn {Q : Exit → Act → World → Prop} {i : Nat} {o : Oper} {v : Value} {a : Act} (hF : ∀ f, F.fn f) (hnd : noDefer ops = true) (hi : ops[i]? = some o) (hy : YieldsIf P ops S o v a)
    {K : Act → World → Prop} {w : World} (hS : S w) (h : K (a.put o.dst v) w) : wpOpIn F n P ops Q i K a w := by
  unfold wpOpIn
  simp only [hi]
  rcases hy with ⟨hw, hv⟩ | ⟨hw, rfl⟩
  · simp only [hw, if_true, Oper.wpIn]
    refine ⟨fun f _ => hF f, ?_⟩
    rw [Oper.semAt_eq _ _ _ (noDefer_spec hnd hi), hv w hS]
    exact h
  · simp only [hw, Bool.false_eq_true, if_false]; exact ⟨fun f _ => hF f, h⟩

theorem wpOpIn_putIf {Q : Exit → Act → World → Prop} {j : Nat} {oi oj : Oper} {v : Value} (hF : ∀ f, F.fn f) (hnd : noDefer ops = true) (hj : ops[j]? = some oj) (hap : oi.apart ops oj = true)
    (hsi : ∀ cs b, oi.op ≠ .select cs b) (hsj : ∀ cs b, oj.op ≠ .select cs b)
    (hQ : ∀ c a w, Q (.panic c) (a.put oi.dst v) w → Q (.panic c) a w) {K : Act → World → Prop} {a : Act} {w : World}
    (hy : YieldsIf P ops S oi v a) (h : wpOpIn F n P ops Q j K (a.put oi.dst v) w) :
    wpOpIn F n P ops Q j (fun a' w' => YieldsIf P ops S oi v a' ∧ K (a'.put oi.dst v) w') a w := by
  obtain ⟨h1, h2, h3⟩ := Oper.apart_spec hap
  have keep : ∀ (a : Act), YieldsIf P ops S oi v a → ∀ u, YieldsIf P ops S oi v (a.put oj.dst u) := fun a hy u =>
    hy.of_same (execOp_put oi hsi a oj.dst u h3) (wanted_put oi a oj.dst u h3)
  have hndj := noDefer_spec hnd hj
  unfold wpOpIn at *
  simp only [hj] at h ⊢
  rw [wanted_put oj a oi.dst v h1] at h
  split
  · rename_i hw
    simp only [hw, if_true] at h
    unfold Oper.wpIn at *
    refine ⟨fun f _ => hF f, ?_⟩
    have h := h.2
    rw [Oper.semAt_eq _ _ _ hndj, execOp_put oj hsj a oi.dst v h1] at h
    rw [Oper.semAt_eq _ _ _ hndj]
    generalize (execOp a.eval oj).run P w = r at *
    cases r with
    | ok x w' =>
      cases x <;> simp only [Oper.uponIn] at h ⊢
      case value u => exact ⟨keep a hy u, by rw [← Act.put_comm a v u h2]; exact h⟩
      case skip => exact ⟨keep a hy _, by rw [← Act.put_comm a v undef h2]; exact h⟩
      case defer d =>
        refine ⟨(show YieldsIf P ops S oi v { a with defers := d :: a.defers } from hy.of_same rfl rfl).of_same (execOp_put oi hsi _ oj.dst undef h3) (wanted_put oi _ oj.dst undef h3), ?_⟩
        rw [← Act.put_comm _ v undef h2, ← Act.put_defers]
        exact h
      case enter f args =>
        refine ⟨h.1, CallsIn.mono h.2 fun e w'' he => ?_⟩
        cases e with
        | returned u => exact ⟨keep a hy u, by rw [← Act.put_comm a v u h2]; exact he⟩
        | panicked c => exact hQ _ _ _ he
        | outgrown => exact he
      case row row args => exact ⟨h.1, RowsIn.mono h.2 fun u w'' he => ⟨keep a hy u, by rw [← Act.put_comm a v u h2]; exact he⟩⟩
      case round l f tmps assign body =>
        refine ⟨h.1, RoundIn.mono h.2 fun e w'' he => ?_⟩
        cases e with
        | returned u => exact ⟨keep a hy u, by rw [← Act.put_comm a v u h2]; exact he⟩
        | panicked c => exact hQ _ _ _ he
        | outgrown => exact he
    | halt x w' =>
      cases x <;> simp only [Oper.uponIn] at h ⊢
      case panic u => exact hQ _ _ _ h
  · rename_i hw
    simp only [hw] at h
    exact ⟨fun f _ => hF f, keep a hy _, by rw [← Act.put_comm a v undef h2]; exact h.2⟩

def wpAnyHIn (F : Fence) (n : Nat) (P : Program) (md : Region.Mode) (ops : Array Oper) (Q : Exit → Act → World → Prop) (S : World → Prop) : Nat → Array Bool → Act → World → Prop
  | 0, listed, a, w => Region.ready md ops listed = [] ∧ Q .normal a w
  | fuel + 1, listed, a, w =>
    (Region.ready md ops listed = [] → Q .normal a w) ∧
    ∀ i ∈ Region.ready md ops listed, wpOpIn F n P ops Q i (fun a' w' => S w' ∧ wpAnyHIn F n P md ops Q S fuel (listed.setIfInBounds i true) a' w') a w

theorem wpAnyIn_of_held {Q : Exit → Act → World → Prop} : ∀ (fuel : Nat) (listed : Array Bool) (a : Act) (w : World), wpAnyHIn F n P md ops Q S fuel listed a w → wpAnyIn F n P md ops Q fuel listed a w
  | 0, _, _, _, h => h
  | fuel + 1, _, _, _, h => ⟨h.1, fun i hi => wpOpIn_mono (fun a' w' h' => wpAnyIn_of_held fuel _ a' w' h'.2) (h.2 i hi)⟩

theorem wpAnyHIn_first {Q : Exit → Act → World → Prop} {i : Nat} {oi : Oper} {v : Value} (hF : ∀ f, F.fn f) (hnd : noDefer ops = true) (hi : ops[i]? = some oi) (hsel : ∀ (j : Nat) (o : Oper) cs b, ops[j]? = some o → o.op ≠ .select cs b)
    (hQ : ∀ c a w, Q (.panic c) (a.put oi.dst v) w → Q (.panic c) a w) :
    ∀ (fuel : Nat) (listed : Array Bool) (a : Act) (w : World),
      (∀ j oj, ops[j]? = some oj → j ≠ i → listed.getD j true = false → (∀ e ∈ oj.after, Region.binds md e = true → e.on ≠ i) → oi.apart ops oj = true) →
      i ∈ Region.ready md ops listed → YieldsIf P ops S oi v a → S w →
      wpAnyHIn F n P md ops Q S fuel (listed.setIfInBounds i true) (a.put oi.dst v) w → wpAnyHIn F n P md ops Q S (fuel + 1) listed a w := by
  intro fuel
  induction fuel with
  | zero =>
    intro listed a w _ hr hy hS H
    refine ⟨fun h => (by rw [h] at hr; cases hr), fun j hj => ?_⟩
    by_cases hji : j = i
    · subst hji; exact yieldsIf_wpOpIn hF hnd hi hy hS ⟨hS, H⟩
    · have := ready_mono hj hji
      rw [H.1] at this
      cases this
  | succ fuel ih =>
    intro listed a w hfree hr hy hS H
    refine ⟨fun h => (by rw [h] at hr; cases hr), fun j hj => ?_⟩
    by_cases hji : j = i
    · subst hji; exact yieldsIf_wpOpIn hF hnd hi hy hS ⟨hS, H⟩
    · have h1 := H.2 j (ready_mono hj hji)
      obtain ⟨hjun, oj, hoj, hall⟩ := mem_ready.1 hj
      have hnot : ∀ e ∈ oj.after, Region.binds md e = true → e.on ≠ i := fun e he hb heq => by
        have h1 := hall e he hb
        have h0 := (mem_ready.1 hr).1
        rw [heq] at h1
        rcases Nat.lt_or_ge i listed.size with h' | h'
        · simp [h'] at h0 h1; rw [h0] at h1; cases h1
        · simp [Array.getElem?_eq_none h'] at h1
      have h2 := wpOpIn_putIf hF hnd hoj (hfree j oj hoj hji hjun hnot) (fun cs b => hsel i oi cs b hi) (fun cs b => hsel j oj cs b hoj) hQ hy h1
      have hfree' : ∀ k ok, ops[k]? = some ok → k ≠ i → (listed.setIfInBounds j true).getD k true = false →
          (∀ e ∈ ok.after, Region.binds md e = true → e.on ≠ i) → oi.apart ops ok = true := fun k ok hk hki hun hno => by
        refine hfree k ok hk hki ?_ hno
        by_cases hjk : j = k
        · subst hjk; exact hjun
        · rw [getD_set_ne true hjk] at hun; exact hun
      refine wpOpIn_mono (fun a' w' h3 => ⟨h3.2.1, ih (listed.setIfInBounds j true) a' w' hfree' (ready_mono hr (Ne.symm hji)) h3.1 h3.2.1 ?_⟩) h2
      rw [Array.setIfInBounds_comm _ _ hji]
      exact h3.2.2

theorem takes_heldIn {Q : Exit → Act → World → Prop} (hF : ∀ f, F.fn f) (hnd : noDefer ops = true) (hsel : Region.noSelect ops = true) (hQ : ∀ (c : _) (a : Act) (d : Option Tmp) (v : Value) (w : World), Q (.panic c) (a.put d v) w → Q (.panic c) a w) (fuel : Nat) (R : Act → Prop) (w : World) (hS : S w) :
    ∀ (is : List Nat) (listed listed' : Array Bool) (a : Act), takesB md ops is listed = some listed' → wpQuiet P ops S R (is.filterMap (ops[·]?)) a →
      (∀ a', R a' → wpAnyHIn F n P md ops Q S fuel listed' a' w) → wpAnyHIn F n P md ops Q S (is.length + fuel) listed a w
  | [], listed, listed', a, hB, h, hK => by
    simp only [takesB, Option.some.injEq] at hB
    subst hB
    rw [List.length_nil, Nat.zero_add]
    exact hK a h
  | i :: is, listed, listed', a, hB, h, hK => by
    unfold takesB at hB
    by_cases hc : mayTake md ops listed i = true
    · rw [if_pos hc] at hB
      unfold mayTake at hc
      simp only [Bool.and_eq_true] at hc
      obtain ⟨⟨hr, hf⟩, hl⟩ := hc
      cases ho : ops[i]? with
      | none => rw [ho] at hl; cases hl
      | some o =>
        rw [ho] at hl
        have e : (i :: is).filterMap (ops[·]?) = o :: is.filterMap (ops[·]?) := by rw [List.filterMap_cons, ho]
        rw [e] at h
        have hst : qOp P ops S i (wpQuiet P ops S R (is.filterMap (ops[·]?))) a := by unfold qOp; simp only [ho]; exact h
        obtain ⟨v, hy, hK'⟩ := yieldsIn_of_qOp ho hst
        rw [List.length_cons, show is.length + 1 + fuel = (is.length + fuel) + 1 by omega]
        exact wpAnyHIn_first hF hnd ho (Region.noSelect_spec hsel) (fun c a w h => hQ c a _ _ w h) _ _ _ _ (Region.free_spec ho hf) (by simpa using hr) (yieldsIf_of hl hy) hS
          (takes_heldIn hF hnd hsel hQ fuel R w hS is _ listed' _ hB hK' hK)
    · rw [if_neg hc] at hB
      cases hB

theorem operIn_more {Q Q' : Exit → Act → World → Prop} (hQ : ∀ e a w, e ≠ .normal → Q e a w → Q' e a w) : ∀ (o : Oper) (a : Act) (w : World) (K K' : Act → World → Prop), (∀ a w, K a w → K' a w) → o.wpIn F n P a w K Q → o.wpIn F n P a w K' Q' := by
  intro o a w K K' hK h
  unfold Oper.wpIn at *
  refine ⟨h.1, ?_⟩
  have h := h.2
  generalize (o.semAt F.round a.eval).run P w = r at *
  cases r with
  | ok x w' =>
    cases x <;> simp only [Oper.uponIn] at h ⊢ <;>
      first
        | exact hK _ _ h
        | exact ⟨h.1, CallsIn.mono h.2 (fun e w'' he => by cases e <;> first | exact hK _ _ he | exact hQ _ _ _ (by simp) he | exact ⟨he.choose, he.choose_spec.choose, hQ _ _ _ (by simp) he.choose_spec.choose_spec⟩)⟩
        | exact ⟨h.1, RowsIn.mono h.2 (fun _ _ he => hK _ _ he)⟩
        | exact ⟨h.1, RoundIn.mono h.2 (fun e w'' he => by cases e <;> first | exact hK _ _ he | exact hQ _ _ _ (by simp) he | exact ⟨he.choose, he.choose_spec.choose, hQ _ _ _ (by simp) he.choose_spec.choose_spec⟩)⟩
  | halt x w' => cases x <;> simp only [Oper.uponIn] at h ⊢; exact hQ _ _ _ (by simp) h

theorem wpAnyIn_more {Q Q' : Exit → Act → World → Prop} (hQ : ∀ e a w, Q e a w → Q' e a w) : ∀ (f : Nat) (listed : Array Bool) (a : Act) (w : World), wpAnyIn F n P md ops Q f listed a w → wpAnyIn F n P md ops Q' f listed a w
  | 0, l, a, w, h => ⟨h.1, hQ _ _ _ h.2⟩
  | f + 1, l, a, w, h => ⟨fun h0 => hQ _ _ _ (h.1 h0), fun i hi => by
    have h1 := h.2 i hi
    unfold wpOpIn at *
    split
    · rename_i ho; simp only [ho] at h1; exact wpAnyIn_more hQ f _ _ _ h1
    · rename_i o ho
      simp only [ho] at h1
      split
      · rename_i hw; simp only [hw, if_true] at h1
        exact operIn_more (fun e a w _ h => hQ e a w h) o _ _ _ _ (fun a w h => wpAnyIn_more hQ f _ a w h) h1
      · rename_i hw; simp only [hw] at h1; exact ⟨h1.1, wpAnyIn_more hQ f _ _ _ h1.2⟩⟩

/-- The walk over the plan. -/
def wpOrdIn (F : Fence) (n : Nat) (P : Program) (ops : Array Oper) (S : World → Prop) (fin : List Oper) (R : Act → World → Prop) : List (List Oper × Option Oper) → Act → World → Prop
  | [], a, w => wpQuiet P ops S (fun a' => R a' w) fin a
  | (l, o) :: st, a, w => wpQuiet P ops S (fun a' => ∀ Q₁ : Exit → Act → World → Prop, (∀ a'' w'', S w'' → wpOrdIn F n P ops S fin R st a'' w'' → Q₁ .normal a'' w'') → wpListIn F n P ops Q₁ o.toList a' w) l a

theorem ord_heldIn {Q : Exit → Act → World → Prop} (hF : ∀ f, F.fn f) (hnd : noDefer ops = true) (hsel : Region.noSelect ops = true) (hQ : ∀ e a w, e ≠ .normal → ¬ Q e a w) (fin : List Nat) (R : Act → World → Prop) (hR : ∀ a w, R a w → Q .normal a w) :
    ∀ (st : List (List Nat × Nat)) (listed : Array Bool) (a : Act) (w : World), S w → ordB md ops fin st listed = true →
      wpOrdIn F n P ops S (fin.filterMap (ops[·]?)) R (st.map fun x => (x.1.filterMap (ops[·]?), ops[x.2]?)) a w → wpAnyHIn F n P md ops Q S (ordLen fin st) listed a w
  | [], listed, a, w, hS, hB, h => by
    unfold ordB at hB
    split at hB
    · rename_i l hl
      exact takes_heldIn (Q := Q) hF hnd hsel (fun c a d v w h => absurd h (hQ _ _ _ (by simp))) 0 _ w hS fin listed l a hl h (fun a' h' => ⟨List.isEmpty_iff.1 hB, hR _ _ h'⟩)
    · cases hB
  | (is, i) :: st, listed, a, w, hS, hB, h => by
    unfold ordB at hB
    split at hB
    · rename_i l hl
      simp only [Bool.and_eq_true, decide_eq_true_eq] at hB
      refine takes_heldIn (Q := Q) hF hnd hsel (fun c a d v w h => absurd h (hQ _ _ _ (by simp))) (1 + ordLen fin st) _ w hS is listed l a hl h (fun a' h' => ?_)
      have hi : i ∈ Region.ready md ops l := by rw [hB.1]; simp
      obtain ⟨_, o, ho, _⟩ := mem_ready.1 hi
      have h1 := h' (fun e a'' w'' => match e with | .normal => S w'' ∧ wpAnyHIn F n P md ops Q S (ordLen fin st) (l.setIfInBounds i true) a'' w'' | _ => False)
        (fun a'' w'' hS' hr => ⟨hS', ord_heldIn hF hnd hsel hQ fin R hR st _ _ _ hS' hB.2 hr⟩)
      rw [ho] at h1
      rw [Nat.add_comm 1]
      refine ⟨fun h0 => (by rw [hB.1] at h0; cases h0), fun j hj => ?_⟩
      rw [hB.1] at hj
      obtain rfl : j = i := by simpa using hj
      unfold wpOpIn
      simp only [ho]
      simp only [Option.toList, wpListIn] at h1
      split
      · rename_i hw
        simp only [hw, if_true] at h1
        exact operIn_more (fun e a w he h => by cases e <;> first | exact absurd rfl he | exact h.elim) o _ _ _ _ (fun a w h => h) h1
      · rename_i hw
        simp only [hw] at h1
        exact ⟨fun f _ => hF f, (by first | exact h1.2 | exact h1)⟩
    · cases hB

theorem region_ord_in {id : Nat} {Q : Exit → Act → World → Prop} {a : Act} {w : World} {l : List Oper} (S : World → Prop) (st : List (List Nat × Nat)) (fin : List Nat) (hF : ∀ f, F.fn f) (hm : P.follows .mixedOrders = true) (hnd : noDefer l.toArray = true) (hsel : Region.noSelect l.toArray = true)
    (hB : ordB .any l.toArray fin st (Array.replicate l.toArray.size false) = true) (hn : ordLen fin st = l.toArray.size) (hS : S w.drew)
    (h : wpOrdIn F n P l.toArray S (fin.filterMap (l[·]?)) (fun a w => Q .normal a w) (st.map fun x => (x.1.filterMap (l[·]?), l[x.2]?)) a w.drew) : (Code.region id l.toArray true).wpIn F n P Q a w := by
  refine wpIn_region_any hm (wpAnyIn_more (Q := fun e a w => match e with | .normal => Q .normal a w | _ => False) (fun e a w h => by cases e <;> first | exact h | exact h.elim) _ _ _ _ (wpAnyIn_of_held (S := S) _ _ _ _ ?_))
  have := ord_heldIn (F := F) (n := n) (P := P) (md := .any) (S := S) (Q := fun e a w => match e with | .normal => Q .normal a w | _ => False) hF hnd hsel (fun e a w he h => by cases e <;> first | exact absurd rfl he | exact h.elim) fin (fun a w => Q .normal a w) (fun _ _ h => h) st _ a w.drew hS hB (by simpa using h)
  rw [hn] at this
  exact this
theorem ord_step_in {fin : List Oper} {R : Act → World → Prop} {l : List Oper} {o : Option Oper} {st : List (List Oper × Option Oper)} {a : Act} {w : World}
    (h : wpQuiet P ops S (fun a' => ∀ Q₁ : Exit → Act → World → Prop, (∀ a'' w'', S w'' → wpOrdIn F n P ops S fin R st a'' w'' → Q₁ .normal a'' w'') → wpListIn F n P ops Q₁ o.toList a' w) l a) : wpOrdIn F n P ops S fin R ((l, o) :: st) a w := h
theorem ord_last_in {fin : List Oper} {R : Act → World → Prop} {a : Act} {w : World} (h : wpQuiet P ops S (fun a' => R a' w) fin a) : wpOrdIn F n P ops S fin R [] a w := h
end
end Go.Proofs.Ytokbplajcdkcpaa
