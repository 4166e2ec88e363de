/- As Ord, inside a fence that lets every function by, in a round of a range over a function too. -/
import Derived.OrdersIn
import Derived.TacticsIn
import Derived.Test.YtiblhlaemmdphaaGreatTableBuildsP10
namespace Go.Proofs.YtiblhlaemmdphaaGreat
open Go Go.RowKit
section
variable {F : Fence} {n : Nat} {P : Program} {ops : Array Oper} {md : Region.Mode} {S : World → Prop}
def noDefer (ops : Array Oper) : Bool := ops.toList.all fun o => match o.op with | .defer _ => false | _ => true
theorem noDefer_spec (h : noDefer ops = true) {j : Nat} {o : Oper} (ho : ops[j]? = some o) : ∀ c, o.op ≠ .defer c := by
 intro c hc
 have hm : o ∈ ops.toList := by simpa using Array.mem_of_getElem? ho
 have := List.all_eq_true.1 h o hm
 simp [hc] at this
theorem yieldsIf_wpOpIn {Q : Exit → Act → World → Prop} {i : Nat} {o : Oper} {v : Value} {a : Act} (hF : ∀ f, F.fn f) (hnd : noDefer ops = true) (hi : ops[i]? = some o) (hy : YieldsIf P ops S o v a)
  {K : Act → World → Prop} {w : World} (hS : S w) (h : K (a.put o.dst v) w) : wpOpIn F n P ops Q i K a w := by
 unfold wpOpIn
 simp only [hi]
 rcases hy with ⟨hw, hv⟩ | ⟨hw, rfl⟩
 ·simp only [hw, if_true, Oper.wpIn]
  refine ⟨fun f _ => hF f, ?_⟩
  rw [Oper.semAt_eq _ _ _ (noDefer_spec hnd hi), hv w hS]
  exact h
 ·simp only [hw, Bool.false_eq_true, if_false]; exact ⟨fun f _ => hF f, h⟩
theorem wpOpIn_putIf {Q : Exit → Act → World → Prop} {j : Nat} {oi oj : Oper} {v : Value} (hF : ∀ f, F.fn f) (hnd : noDefer ops = true) (hj : ops[j]? = some oj) (hap : oi.apart ops oj = true)
  (hsi : ∀ cs b, oi.op ≠ .select cs b) (hsj : ∀ cs b, oj.op ≠ .select cs b)
  (hQ : ∀ c a w, Q (.panic c) (a.put oi.dst v) w → Q (.panic c) a w) {K : Act → World → Prop} {a : Act} {w : World}
  (hy : YieldsIf P ops S oi v a) (h : wpOpIn F n P ops Q j K (a.put oi.dst v) w) :
  wpOpIn F n P ops Q j (fun a' w' => YieldsIf P ops S oi v a' ∧ K (a'.put oi.dst v) w') a w := by
 obtain ⟨h1, h2, h3⟩ := Oper.apart_spec hap
 have keep : ∀ (a : Act), YieldsIf P ops S oi v a → ∀ u, YieldsIf P ops S oi v (a.put oj.dst u) := fun a hy u =>
  hy.of_same (execOp_put oi hsi a oj.dst u h3) (wanted_put oi a oj.dst u h3)
 have hndj := noDefer_spec hnd hj
 unfold wpOpIn at *
 simp only [hj] at h ⊢
 rw [wanted_put oj a oi.dst v h1] at h
 split
 ·rename_i hw
  simp only [hw, if_true] at h
  unfold Oper.wpIn at *
  refine ⟨fun f _ => hF f, ?_⟩
  have h := h.2
  rw [Oper.semAt_eq _ _ _ hndj, execOp_put oj hsj a oi.dst v h1] at h
  rw [Oper.semAt_eq _ _ _ hndj]
  generalize (execOp a.eval oj).run P w = r at *
  cases r with
  | ok x w' =>
   cases x <;> simp only [Oper.uponIn] at h ⊢
   case value u => exact ⟨keep a hy u, by rw [← Act.put_comm a v u h2]; exact h⟩
   case skip => exact ⟨keep a hy _, by rw [← Act.put_comm a v undef h2]; exact h⟩
   case defer d =>
    refine ⟨(show YieldsIf P ops S oi v { a with defers := d :: a.defers } from hy.of_same rfl rfl).of_same (execOp_put oi hsi _ oj.dst undef h3) (wanted_put oi _ oj.dst undef h3), ?_⟩
    rw [← Act.put_comm _ v undef h2, ← Act.put_defers]
    exact h
   case enter f args =>
    refine ⟨h.1, CallsIn.mono h.2 fun e w'' he => ?_⟩
    cases e with
    | returned u => exact ⟨keep a hy u, by rw [← Act.put_comm a v u h2]; exact he⟩
    | panicked c => exact hQ _ _ _ he
    | outgrown => exact he
   case row row args => exact ⟨h.1, RowsIn.mono h.2 fun u w'' he => ⟨keep a hy u, by rw [← Act.put_comm a v u h2]; exact he⟩⟩
   case round l f tmps assign body =>
    refine ⟨h.1, RoundIn.mono h.2 fun e w'' he => ?_⟩
    cases e with
    | returned u => exact ⟨keep a hy u, by rw [← Act.put_comm a v u h2]; exact he⟩
    | panicked c => exact hQ _ _ _ he
    | outgrown => exact he
  | halt x w' =>
   cases x <;> simp only [Oper.uponIn] at h ⊢
   case panic u => exact hQ _ _ _ h
 ·rename_i hw
  simp only [hw] at h
  exact ⟨fun f _ => hF f, keep a hy _, by rw [← Act.put_comm a v undef h2]; exact h.2⟩
theorem operIn_more {Q Q' : Exit → Act → World → Prop} (hQ : ∀ e a w, e ≠ .normal → Q e a w → Q' e a w) : ∀ (o : Oper) (a : Act) (w : World) (K K' : Act → World → Prop), (∀ a w, K a w → K' a w) → o.wpIn F n P a w K Q → o.wpIn F n P a w K' Q' := by
 intro o a w K K' hK h
 unfold Oper.wpIn at *
 refine ⟨h.1, ?_⟩
 have h := h.2
 generalize (o.semAt F.round a.eval).run P w = r at *
 cases r with
 | ok x w' =>
  cases x <;> simp only [Oper.uponIn] at h ⊢ <;>
   first
    | exact hK _ _ h
    | exact ⟨h.1, CallsIn.mono h.2 (fun e w'' he => by cases e <;> first | exact hK _ _ he | exact hQ _ _ _ (by simp) he | exact ⟨he.choose, he.choose_spec.choose, hQ _ _ _ (by simp) he.choose_spec.choose_spec⟩)⟩
    | exact ⟨h.1, RowsIn.mono h.2 (fun _ _ he => hK _ _ he)⟩
    | exact ⟨h.1, RoundIn.mono h.2 (fun e w'' he => by cases e <;> first | exact hK _ _ he | exact hQ _ _ _ (by simp) he | exact ⟨he.choose, he.choose_spec.choose, hQ _ _ _ (by simp) he.choose_spec.choose_spec⟩)⟩
 | halt x w' => cases x <;> simp only [Oper.uponIn] at h ⊢; exact hQ _ _ _ (by simp) h
theorem wpAnyIn_more {Q Q' : Exit → Act → World → Prop} (hQ : ∀ e a w, Q e a w → Q' e a w) : ∀ (f : Nat) (listed : Array Bool) (a : Act) (w : World), wpAnyIn F n P md ops Q f listed a w → wpAnyIn F n P md ops Q' f listed a w
 | 0, l, a, w, h => ⟨h.1, hQ _ _ _ h.2⟩
 | f + 1, l, a, w, h => ⟨fun h0 => hQ _ _ _ (h.1 h0), fun i hi => by
  have h1 := h.2 i hi
  unfold wpOpIn at *
  split
  ·rename_i ho; simp only [ho] at h1; exact wpAnyIn_more hQ f _ _ _ h1
  ·rename_i o ho
   simp only [ho] at h1
   split
   ·rename_i hw; simp only [hw, if_true] at h1
    exact operIn_more (fun e a w _ h => hQ e a w h) o _ _ _ _ (fun a w h => wpAnyIn_more hQ f _ a w h) h1
   ·rename_i hw; simp only [hw] at h1; exact ⟨h1.1, wpAnyIn_more hQ f _ _ _ h1.2⟩⟩
end
end Go.Proofs.YtiblhlaemmdphaaGreat
/- As OrdI, for a region whose last operation (a store) waits for all that is taken first: behind it the class need not hold. -/
namespace Go.Proofs.YtiblhlaemmdphaaGreat
open Go Go.RowKit
section
variable {F : Fence} {n : Nat} {P : Program} {ops : Array Oper} {md : Region.Mode} {S : World → Prop}
def ClosedL (md : Region.Mode) (ops : Array Oper) (listed : Array Bool) : Prop :=
 ∀ j oj, ops[j]? = some oj → listed.getD j true = true → j < ops.size → ∀ e ∈ oj.after, Region.binds md e = true → listed.getD e.on true = true
def needsB (md : Region.Mode) (ops : Array Oper) : Nat → Nat → Nat → Bool
 | 0, _, _ => false
 | f + 1, k, i => match ops[k]? with
  | some o => o.after.any fun e => Region.binds md e && (e.on == i || needsB md ops f e.on i)
  | none => false
theorem ready_deps {listed : Array Bool} {i : Nat} (h : i ∈ Region.ready md ops listed) : listed.getD i true = false ∧ ∃ o, ops[i]? = some o ∧ ∀ e ∈ o.after, Region.binds md e = true → listed.getD e.on true = true := by
 obtain ⟨h1, o, ho, hall⟩ := mem_ready.1 h
 refine ⟨h1, o, ho, fun e he hb => ?_⟩
 have h2 := hall e he hb
 cases hh : listed.getD e.on true
 ·rw [getD_both hh] at h2; cases h2
 ·rfl
theorem needs_listed {listed : Array Bool} (hc : ClosedL md ops listed) {i : Nat} : ∀ (f k : Nat), needsB md ops f k i = true → (∃ o, ops[k]? = some o ∧ ∀ e ∈ o.after, Region.binds md e = true → listed.getD e.on true = true) → listed.getD i true = true
 | 0, _, h, _ => by cases h
 | f + 1, k, h, ⟨o, ho, hd⟩ => by
  unfold needsB at h
  rw [ho] at h
  simp only [Array.any_eq_true, Bool.and_eq_true, Bool.or_eq_true, beq_iff_eq] at h
  obtain ⟨q, hq, hb, h1⟩ := h
  have he : o.after[q] ∈ o.after := Array.getElem_mem hq
  generalize o.after[q] = e at *
  rcases h1 with h1 | h1
  ·rw [← h1]; exact hd e he hb
  ·have hl := hd e he hb
   have hj : ∃ oj, ops[e.on]? = some oj := by
    cases f with
    | zero => cases h1
    | succ f =>
     unfold needsB at h1
     cases ho2 : ops[e.on]? with
     | none => rw [ho2] at h1; cases h1
     | some oj => exact ⟨oj, rfl⟩
   obtain ⟨oj, hoj⟩ := hj
   exact needs_listed hc f e.on h1 ⟨oj, hoj, hc e.on oj hoj hl (Array.getElem?_eq_some_iff.1 hoj).1⟩
theorem closed_set {listed : Array Bool} (hc : ClosedL md ops listed) {i : Nat} (hi : i ∈ Region.ready md ops listed) : ClosedL md ops (listed.setIfInBounds i true) := by
 obtain ⟨h1, o, ho, hd⟩ := ready_deps hi
 have up : ∀ q, listed.getD q true = true → (listed.setIfInBounds i true).getD q true = true := by
  intro q hq
  by_cases hqi : i = q
  ·subst hqi
   rcases Nat.lt_or_ge i listed.size with h | h <;> simp [h]
  ·rw [getD_set_ne true hqi]; exact hq
 intro j oj hj hl hlt e he hb
 by_cases hji : i = j
 ·subst hji
  rw [ho] at hj; cases hj
  exact up _ (hd e he hb)
 ·rw [getD_set_ne true hji] at hl
  exact up _ (hc j oj hj hl hlt e he hb)
theorem closed_start (m : Nat) (hm : m = ops.size) : ClosedL md ops (Array.replicate m false) := by
 intro j oj _ hl hlt
 subst hm
 simp [hlt] at hl
def wpAnyLIn (F : Fence) (n : Nat) (P : Program) (md : Region.Mode) (ops : Array Oper) (Q : Exit → Act → World → Prop) (S : World → Prop) (k : Nat) : Nat → Array Bool → Act → World → Prop
 | 0, listed, a, w => Region.ready md ops listed = [k] ∧ wpOpIn F n P ops Q k (fun a' w' => Region.ready md ops (listed.setIfInBounds k true) = [] ∧ Q .normal a' w') a w
 | fuel + 1, listed, a, w => Region.ready md ops listed ≠ [] ∧ ∀ i ∈ Region.ready md ops listed, i ≠ k ∧ wpOpIn F n P ops Q i (fun a' w' => S w' ∧ wpAnyLIn F n P md ops Q S k fuel (listed.setIfInBounds i true) a' w') a w
theorem wpAnyIn_of_L {Q : Exit → Act → World → Prop} {k : Nat} : ∀ (fuel : Nat) (listed : Array Bool) (a : Act) (w : World), wpAnyLIn F n P md ops Q S k fuel listed a w → wpAnyIn F n P md ops Q (fuel + 1) listed a w
 | 0, listed, a, w, h => ⟨fun h0 => (by rw [h.1] at h0; cases h0), fun i hi => by
  rw [h.1] at hi
  obtain rfl : i = k := by simpa using hi
  exact h.2⟩
 | fuel + 1, listed, a, w, h => ⟨fun h0 => absurd h0 h.1, fun i hi => wpOpIn_mono (fun a' w' h' => wpAnyIn_of_L fuel _ a' w' h'.2) (h.2 i hi).2⟩
theorem wpAnyLIn_first {Q : Exit → Act → World → Prop} {i k f : Nat} {oi : Oper} {v : Value} (hF : ∀ f, F.fn f) (hnd : noDefer ops = true) (hi : ops[i]? = some oi) (hsel : ∀ (j : Nat) (o : Oper) cs b, ops[j]? = some o → o.op ≠ .select cs b)
  (hk : needsB md ops f k i = true) (hQ : ∀ c a w, Q (.panic c) (a.put oi.dst v) w → Q (.panic c) a w) :
  ∀ (fuel : Nat) (listed : Array Bool) (a : Act) (w : World), ClosedL md ops listed →
   (∀ j oj, ops[j]? = some oj → j ≠ i → listed.getD j true = false → (∀ e ∈ oj.after, Region.binds md e = true → e.on ≠ i) → oi.apart ops oj = true) →
   i ∈ Region.ready md ops listed → YieldsIf P ops S oi v a → S w →
   wpAnyLIn F n P md ops Q S k fuel (listed.setIfInBounds i true) (a.put oi.dst v) w → wpAnyLIn F n P md ops Q S k (fuel + 1) listed a w := by
 have notk : ∀ (listed : Array Bool), ClosedL md ops listed → i ∈ Region.ready md ops listed → ∀ j ∈ Region.ready md ops listed, j ≠ k := by
  intro listed hc hr j hj e
  subst e
  have h1 := needs_listed hc f j hk (ready_deps hj).2
  rw [(ready_deps hr).1] at h1; cases h1
 intro fuel
 induction fuel with
 | zero =>
  intro listed a w hc _ hr hy hS H
  refine ⟨fun h => (by rw [h] at hr; cases hr), fun j hj => ⟨notk _ hc hr j hj, ?_⟩⟩
  by_cases hji : j = i
  ·subst hji; exact yieldsIf_wpOpIn hF hnd hi hy hS ⟨hS, H⟩
  ·have := ready_mono hj hji
   rw [H.1] at this
   exact absurd (by simpa using this) (notk _ hc hr j hj)
 | succ fuel ih =>
  intro listed a w hc hfree hr hy hS H
  refine ⟨fun h => (by rw [h] at hr; cases hr), fun j hj => ⟨notk _ hc hr j hj, ?_⟩⟩
  by_cases hji : j = i
  ·subst hji; exact yieldsIf_wpOpIn hF hnd hi hy hS ⟨hS, H⟩
  ·have h1 := (H.2 j (ready_mono hj hji)).2
   obtain ⟨hjun, oj, hoj, hall⟩ := mem_ready.1 hj
   have hnot : ∀ e ∈ oj.after, Region.binds md e = true → e.on ≠ i := fun e he hb heq => by
    have h1 := hall e he hb
    have h0 := (mem_ready.1 hr).1
    rw [heq] at h1
    rcases Nat.lt_or_ge i listed.size with h' | h'
    ·simp [h'] at h0 h1; rw [h0] at h1; cases h1
    ·simp [Array.getElem?_eq_none h'] at h1
   have h2 := wpOpIn_putIf hF hnd hoj (hfree j oj hoj hji hjun hnot) (fun cs b => hsel i oi cs b hi) (fun cs b => hsel j oj cs b hoj) hQ hy h1
   have hfree' : ∀ k ok, ops[k]? = some ok → k ≠ i → (listed.setIfInBounds j true).getD k true = false →
     (∀ e ∈ ok.after, Region.binds md e = true → e.on ≠ i) → oi.apart ops ok = true := fun k ok hk hki hun hno => by
    refine hfree k ok hk hki ?_ hno
    by_cases hjk : j = k
    ·subst hjk; exact hjun
    ·rw [getD_set_ne true hjk] at hun; exact hun
   refine wpOpIn_mono (fun a' w' h3 => ⟨h3.2.1, ih (listed.setIfInBounds j true) a' w' (closed_set hc hj) hfree' (ready_mono hr (Ne.symm hji)) h3.1 h3.2.1 ?_⟩) h2
   rw [Array.setIfInBounds_comm _ _ hji]
   exact h3.2.2
def takesLB (md : Region.Mode) (ops : Array Oper) (k : Nat) : List Nat → Array Bool → Option (Array Bool)
 | [], listed => some listed
 | i :: is, listed => if (mayTake md ops listed i && needsB md ops 8 k i) = true then takesLB md ops k is (listed.setIfInBounds i true) else none
theorem takes_L {Q : Exit → Act → World → Prop} {k : Nat} (hF : ∀ f, F.fn f) (hnd : noDefer ops = true) (hsel : Region.noSelect ops = true) (hQ : ∀ (c : _) (a : Act) (d : Option Tmp) (v : Value) (w : World), Q (.panic c) (a.put d v) w → Q (.panic c) a w) (fuel : Nat) (R : Act → Prop) (w : World) (hS : S w) :
  ∀ (is : List Nat) (listed listed' : Array Bool) (a : Act), ClosedL md ops listed → takesLB md ops k is listed = some listed' → wpQuiet P ops S R (is.filterMap (ops[·]?)) a →
   (∀ a', ClosedL md ops listed' → R a' → wpAnyLIn F n P md ops Q S k fuel listed' a' w) → wpAnyLIn F n P md ops Q S k (is.length + fuel) listed a w
 | [], listed, listed', a, hc, hB, h, hK => by
  simp only [takesLB, Option.some.injEq] at hB
  subst hB
  rw [List.length_nil, Nat.zero_add]
  exact hK a hc h
 | i :: is, listed, listed', a, hc, hB, h, hK => by
  unfold takesLB at hB
  by_cases hcc : (mayTake md ops listed i && needsB md ops 8 k i) = true
  ·rw [if_pos hcc] at hB
   obtain ⟨hcm, hnk⟩ := Bool.and_eq_true_iff.1 hcc
   unfold mayTake at hcm
   simp only [Bool.and_eq_true] at hcm
   obtain ⟨⟨hr, hf⟩, hl⟩ := hcm
   cases ho : ops[i]? with
   | none => rw [ho] at hl; cases hl
   | some o =>
    rw [ho] at hl
    have e : (i :: is).filterMap (ops[·]?) = o :: is.filterMap (ops[·]?) := by rw [List.filterMap_cons, ho]
    rw [e] at h
    have hst : qOp P ops S i (wpQuiet P ops S R (is.filterMap (ops[·]?))) a := by unfold qOp; simp only [ho]; exact h
    obtain ⟨v, hy, hK'⟩ := yieldsIn_of_qOp ho hst
    have hri : i ∈ Region.ready md ops listed := by simpa using hr
    rw [List.length_cons, show is.length + 1 + fuel = (is.length + fuel) + 1 by omega]
    exact wpAnyLIn_first hF hnd ho (Region.noSelect_spec hsel) hnk (fun c a w h => hQ c a _ _ w h) _ _ _ _ hc (Region.free_spec ho hf) hri (yieldsIf_of hl hy) hS
     (takes_L hF hnd hsel hQ fuel R w hS is _ listed' _ (closed_set hc hri) hB hK' hK)
  ·rw [if_neg hcc] at hB
   cases hB
def ordLB (md : Region.Mode) (ops : Array Oper) (k : Nat) (is0 : List Nat) : List (List Nat × Nat) → Array Bool → Bool
 | [], listed => match takesLB md ops k is0 listed with | some l => decide (Region.ready md ops l = [k]) && (Region.ready md ops (l.setIfInBounds k true)).isEmpty | none => false
 | (is, i) :: st, listed => match takesLB md ops k is listed with | some l => decide (Region.ready md ops l = [i]) && (decide (i ≠ k) && ordLB md ops k is0 st (l.setIfInBounds i true)) | none => false
def wpOrdL (F : Fence) (n : Nat) (P : Program) (ops : Array Oper) (S : World → Prop) (l0 : List Oper) (ok : Option Oper) (R : Act → World → Prop) : List (List Oper × Option Oper) → Act → World → Prop
 | [], a, w => wpQuiet P ops S (fun a' => ∀ Q₁ : Exit → Act → World → Prop, (∀ a'' w'', R a'' w'' → Q₁ .normal a'' w'') → wpListIn F n P ops Q₁ ok.toList a' w) l0 a
 | (l, o) :: st, a, w => wpQuiet P ops S (fun a' => ∀ Q₁ : Exit → Act → World → Prop, (∀ a'' w'', S w'' → wpOrdL F n P ops S l0 ok R st a'' w'' → Q₁ .normal a'' w'') → wpListIn F n P ops Q₁ o.toList a' w) l a
theorem op_of_list {Q : Exit → Act → World → Prop} {K : Act → World → Prop} {i : Nat} {o : Oper} {a : Act} {w : World} (hF : ∀ f, F.fn f) (ho : ops[i]? = some o)
  (h1 : wpListIn F n P ops (fun e a'' w'' => match e with | .normal => K a'' w'' | _ => False) [o] a w) : wpOpIn F n P ops Q i K a w := by
 unfold wpOpIn
 simp only [ho]
 simp only [wpListIn] at h1
 split
 ·rename_i hw
  simp only [hw, if_true] at h1
  exact operIn_more (fun e a w he h => by cases e <;> first | exact absurd rfl he | exact h.elim) o _ _ _ _ (fun a w h => h) h1
 ·rename_i hw
  simp only [hw] at h1
  exact ⟨fun f _ => hF f, (by first | exact h1.2 | exact h1)⟩
theorem ord_L {Q : Exit → Act → World → Prop} {k : Nat} (hF : ∀ f, F.fn f) (hnd : noDefer ops = true) (hsel : Region.noSelect ops = true) (hQ : ∀ e a w, e ≠ .normal → ¬ Q e a w) (is0 : List Nat) (R : Act → World → Prop) (hR : ∀ a w, R a w → Q .normal a w) :
  ∀ (st : List (List Nat × Nat)) (listed : Array Bool) (a : Act) (w : World), ClosedL md ops listed → S w → ordLB md ops k is0 st listed = true →
   wpOrdL F n P ops S (is0.filterMap (ops[·]?)) ops[k]? R (st.map fun x => (x.1.filterMap (ops[·]?), ops[x.2]?)) a w → wpAnyLIn F n P md ops Q S k (ordLen is0 st) listed a w
 | [], listed, a, w, hc, hS, hB, h => by
  unfold ordLB at hB
  split at hB
  ·rename_i l hl
   simp only [Bool.and_eq_true, decide_eq_true_eq] at hB
   refine takes_L (Q := Q) hF hnd hsel (fun c a d v w h => absurd h (hQ _ _ _ (by simp))) 0 _ w hS is0 listed l a hc hl h (fun a' hc' h' => ⟨hB.1, ?_⟩)
   have hi : k ∈ Region.ready md ops l := by rw [hB.1]; simp
   obtain ⟨_, o, ho, _⟩ := mem_ready.1 hi
   have h1 := h' (fun e a'' w'' => match e with | .normal => Region.ready md ops (l.setIfInBounds k true) = [] ∧ Q .normal a'' w'' | _ => False) (fun a'' w'' hr => ⟨List.isEmpty_iff.1 hB.2, hR _ _ hr⟩)
   rw [ho] at h1
   exact op_of_list hF ho h1
  ·cases hB
 | (is, i) :: st, listed, a, w, hc, hS, hB, h => by
  unfold ordLB at hB
  split at hB
  ·rename_i l hl
   simp only [Bool.and_eq_true, decide_eq_true_eq] at hB
   have := takes_L (Q := Q) hF hnd hsel (fun c a d v w h => absurd h (hQ _ _ _ (by simp))) (ordLen is0 st + 1) _ w hS is listed l a hc hl h (fun a' hc' h' => by
    have hi : i ∈ Region.ready md ops l := by rw [hB.1]; simp
    obtain ⟨_, o, ho, _⟩ := mem_ready.1 hi
    refine ⟨by rw [hB.1]; simp, fun j hj => ?_⟩
    rw [hB.1] at hj
    obtain rfl : j = i := by simpa using hj
    refine ⟨hB.2.1, ?_⟩
    have h1 := h' (fun e a'' w'' => match e with | .normal => S w'' ∧ wpAnyLIn F n P md ops Q S k (ordLen is0 st) (l.setIfInBounds j true) a'' w'' | _ => False)
     (fun a'' w'' hS' hr => ⟨hS', ord_L hF hnd hsel hQ is0 R hR st _ _ _ (closed_set hc' hi) hS' hB.2.2 hr⟩)
    rw [ho] at h1
    exact op_of_list hF ho h1)
   rw [Nat.add_comm (ordLen is0 st) 1] at this
   exact this
  ·cases hB
theorem region_ord_last {id : Nat} {Q : Exit → Act → World → Prop} {a : Act} {w : World} {l : List Oper} (S : World → Prop) (st : List (List Nat × Nat)) (is0 : List Nat) (k : Nat) (hF : ∀ f, F.fn f) (hm : P.follows .mixedOrders = true) (hnd : noDefer l.toArray = true) (hsel : Region.noSelect l.toArray = true)
  (hB : ordLB .any l.toArray k is0 st (Array.replicate l.toArray.size false) = true) (hn : ordLen is0 st + 1 = l.toArray.size) (hS : S w.drew)
  (h : wpOrdL F n P l.toArray S (is0.filterMap (l[·]?)) l[k]? (fun a w => Q .normal a w) (st.map fun x => (x.1.filterMap (l[·]?), l[x.2]?)) a w.drew) : (Code.region id l.toArray true).wpIn F n P Q a w := by
 refine wpIn_region_any hm (wpAnyIn_more (Q := fun e a w => match e with | .normal => Q .normal a w | _ => False) (fun e a w h => by cases e <;> first | exact h | exact h.elim) _ _ _ _ ?_)
 have := wpAnyIn_of_L _ _ _ _ (ord_L (F := F) (n := n) (P := P) (md := .any) (S := S) (k := k) (Q := fun e a w => match e with | .normal => Q .normal a w | _ => False) hF hnd hsel (fun e a w he h => by cases e <;> first | exact absurd rfl he | exact h.elim) is0 (fun a w => Q .normal a w) (fun _ _ h => h) st _ a w.drew (closed_start _ rfl) hS hB (by simpa using h))
 rw [hn] at this
 exact this
theorem ordL_step {l0 : List Oper} {ok : Option Oper} {R : Act → World → Prop} {l : List Oper} {o : Option Oper} {st : List (List Oper × Option Oper)} {a : Act} {w : World}
  (h : wpQuiet P ops S (fun a' => ∀ Q₁ : Exit → Act → World → Prop, (∀ a'' w'', S w'' → wpOrdL F n P ops S l0 ok R st a'' w'' → Q₁ .normal a'' w'') → wpListIn F n P ops Q₁ o.toList a' w) l a) : wpOrdL F n P ops S l0 ok R ((l, o) :: st) a w := h
theorem ordL_last {l0 : List Oper} {ok : Option Oper} {R : Act → World → Prop} {a : Act} {w : World}
  (h : wpQuiet P ops S (fun a' => ∀ Q₁ : Exit → Act → World → Prop, (∀ a'' w'', R a'' w'' → Q₁ .normal a'' w'') → wpListIn F n P ops Q₁ ok.toList a' w) l0 a) : wpOrdL F n P ops S l0 ok R [] a w := h
end
end Go.Proofs.YtiblhlaemmdphaaGreat
/- As RegInv, in any fence. -/
namespace Go.Proofs.YtiblhlaemmdphaaGreat
open Go Go.RowKit
section
variable {F : Fence} {n : Nat} {P : Program}
def OpStepIn (F : Fence) (n : Nat) (P : Program) (ops : Array Oper) (J : (Nat → Bool) → Act → World → Prop) (i : Nat) (o : Oper) : Prop :=
 ∀ (f : Nat → Bool) (a : Act) (w : World), J f a w → f i = false → (∀ e ∈ o.after, Region.binds .any e = true → f e.on = true) →
  ∀ Q₁ : Exit → Act → World → Prop, (∀ a'' w'', J (upd f i) a'' w'' → Q₁ .normal a'' w'') → wpListIn F n P ops Q₁ [o] a w
theorem wpAnyIn_of_inv (hF : ∀ f, F.fn f) {l : List Oper} {Q : Exit → Act → World → Prop} (_hQ : ∀ e a w, e ≠ .normal → ¬ Q e a w) (J : (Nat → Bool) → Act → World → Prop) (hlow : lowB l.toArray = true) (hstep : ∀ i o, l[i]? = some o → OpStepIn F n P l.toArray J i o)
  (hend : ∀ f a w, J f a w → (∀ i, i < l.length → f i = true) → Q .normal a w) :
  ∀ (fuel : Nat) (listed : Array Bool) (a : Act) (w : World), listed.size = l.length → listed.toList.count false ≤ fuel → J (fun i => listed.getD i false) a w → wpAnyIn F n P .any l.toArray Q fuel listed a w := by
 have hall : ∀ (listed : Array Bool), listed.size = l.length → Region.ready .any l.toArray listed = [] → ∀ i, i < l.length → listed.getD i false = true := by
  intro listed hs hr i
  induction i using Nat.strongRecOn with
  | _ i ih =>
   intro hi
   rcases hb : listed.getD i false with _ | _
   ·exfalso
    have : i ∈ Region.ready .any l.toArray listed := by
     refine mem_ready.2 ⟨?_, l[i], by simp [hi], fun e he _ => ?_⟩
     ·rw [Array.getD_eq_getD_getElem?] at hb ⊢
      have : listed[i]? = some listed[i] := by simp [hs, hi]
      rw [this] at hb ⊢
      exact hb
     ·have h1 := List.all_eq_true.1 hlow i (by simpa using hi)
      have e1 : l.toArray[i]? = some l[i] := by simp [hi]
      rw [e1] at h1
      have h2 := List.all_eq_true.1 h1 e (by simpa using he)
      have h3 : e.on < i := by simpa using h2
      exact ih e.on h3 (by omega)
    rw [hr] at this; cases this
   ·rfl
 intro fuel
 induction fuel with
 | zero =>
  intro listed a w hs hc hJ
  have h0 : ∀ i, i < l.length → listed.getD i false = true := fun i hi => by
   rcases hb : listed.getD i false with _ | _
   ·exfalso
    have hm : false ∈ listed.toList := by
     rw [Array.getD_eq_getD_getElem?] at hb
     have e : listed[i]? = some listed[i] := by simp [hs, hi]
     rw [e] at hb
     have : listed[i] = false := hb
     rw [← this]; simp
    have := List.count_pos_iff.2 hm
    omega
   ·rfl
  refine ⟨?_, hend _ _ _ hJ h0⟩
  rw [List.eq_nil_iff_forall_not_mem]
  intro j hj
  obtain ⟨h1, o, ho, _⟩ := mem_ready.1 hj
  have hjl : j < l.length := by
   have := (Array.getElem?_eq_some_iff.1 ho).1; simpa using this
  have h2 := h0 j hjl
  rw [Array.getD_eq_getD_getElem?] at h1 h2
  have e : listed[j]? = some listed[j] := by simp [hs, hjl]
  rw [e] at h1 h2
  have a1 : listed[j] = false := h1
  have a2 : listed[j] = true := h2
  rw [a1] at a2; cases a2
 | succ fuel ih =>
  intro listed a w hs hc hJ
  refine ⟨fun hr => hend _ _ _ hJ (hall listed hs hr), fun i hi => ?_⟩
  obtain ⟨h1, o, ho, hd⟩ := mem_ready.1 hi
  have hil : i < l.length := by
   have := (Array.getElem?_eq_some_iff.1 ho).1; simpa using this
  have e : listed[i]? = some listed[i] := by simp [hs, hil]
  have hf : listed[i] = false := by rw [Array.getD_eq_getD_getElem?, e] at h1; exact h1
  have hf' : listed.getD i false = false := by rw [Array.getD_eq_getD_getElem?, e]; exact hf
  have hl : l[i]? = some o := by simpa using ho
  have hcnt : (listed.setIfInBounds i true).toList.count false ≤ fuel := by
   have hp : 0 < listed.toList.count false := List.count_pos_iff.2 (by rw [← hf]; simp)
   have : (listed.setIfInBounds i true).toList.count false = listed.toList.count false - 1 := by
    rw [Array.toList_setIfInBounds, List.count_set (by simp [hs, hil])]
    simp [hf]
   omega
  have hup : (fun j => (listed.setIfInBounds i true).getD j false) = upd (fun j => listed.getD j false) i := by
   funext j
   unfold upd
   by_cases hj : j = i
   ·subst hj
    simp [Array.getD_eq_getD_getElem?, hs, hil]
   ·simp [Array.getD_eq_getD_getElem?, Array.getElem?_setIfInBounds_ne (fun h => hj h.symm), hj]
  have h2 := hstep i o hl _ a w hJ hf' hd (fun e a'' w'' => match e with | .normal => wpAnyIn F n P .any l.toArray Q fuel (listed.setIfInBounds i true) a'' w'' | _ => False)
   (fun a'' w'' hj => ih _ _ _ (by simp [hs]) hcnt (by rw [hup]; exact hj))
  exact op_of_list hF ho h2
theorem region_inv_in {id : Nat} {Q : Exit → Act → World → Prop} {a : Act} {w : World} {l : List Oper} (J : Act → (Nat → Bool) → Act → World → Prop) (hF : ∀ f, F.fn f) (hm : P.follows .mixedOrders = true) (hlow : lowB l.toArray = true)
  (h0 : J a (fun _ => false) a w.drew) (hstep : ∀ i o, l[i]? = some o → OpStepIn F n P l.toArray (J a) i o) (hend : ∀ f a' w', J a f a' w' → (∀ i, i < l.length → f i = true) → Q .normal a' w') : (Code.region id l.toArray true).wpIn F n P Q a w := by
 refine wpIn_region_any hm (wpAnyIn_more (Q := fun e a w => match e with | .normal => Q .normal a w | _ => False) (fun e a w h => by cases e <;> first | exact h | exact h.elim) _ _ _ _ ?_)
 refine wpAnyIn_of_inv hF (Q := fun e a w => match e with | .normal => Q .normal a w | _ => False) (fun e a w he h => by cases e <;> first | exact absurd rfl he | exact h.elim) (J a) hlow hstep hend _ _ _ _ (by simp) (by rw [Array.toList_replicate]; exact Nat.le_trans List.count_le_length (by simp)) ?_
 have : (fun i => (Array.replicate l.toArray.size false).getD i false) = fun _ => false := by
  funext i
  rw [Array.getD_eq_getD_getElem?, Array.getElem?_replicate]
  split <;> rfl
 rw [this]
 exact h0
theorem steps_nil_in {ops : Array Oper} {J : (Nat → Bool) → Act → World → Prop} {k : Nat} : ∀ i o, ([] : List Oper)[i]? = some o → OpStepIn F n P ops J (k + i) o := fun i o h => by simp at h
theorem steps_cons_in {ops : Array Oper} {J : (Nat → Bool) → Act → World → Prop} {k : Nat} {x : Oper} {l : List Oper} (h : OpStepIn F n P ops J k x) (hs : ∀ i o, l[i]? = some o → OpStepIn F n P ops J (k + 1 + i) o) : ∀ i o, (x :: l)[i]? = some o → OpStepIn F n P ops J (k + i) o := fun i o hi => by
 rcases i with _ | i
 ·simp at hi; subst hi; exact h
 ·have := hs i o (by simpa using hi)
  rwa [show k + (i + 1) = k + 1 + i by omega]
end
end Go.Proofs.YtiblhlaemmdphaaGreat
