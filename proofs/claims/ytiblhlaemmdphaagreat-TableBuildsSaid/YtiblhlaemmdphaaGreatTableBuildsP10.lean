/- A region that draws its order, walked in ONE given order: operations that only look (at what every world of a class 'S' holds) are taken first; every other operation is the only one that may come up. So a call may hand back new memory, and the walk goes on from the very world that it left. -/
import Derived.OrdersHeld
import Derived.StillTail
import Derived.Deep.Quiet
import Derived.Tactics
import Derived.Test.YtiblhlaemmdphaaGreatTableBuildsP8
namespace Go.Proofs.YtiblhlaemmdphaaGreat
open Go Go.RowKit
section
variable {P : Program} {ops : Array Oper} {md : Region.Mode} {S : World → Prop}
def looks (o : Oper) : Bool :=
 match o.op with
 | .move _ | .assign _ | .pick _ _ _ | .build _ _ | .load _ _ | .binOp _ _ _ _ _ | .unOp _ _ _ | .convert _ _ _ | .fieldAddr _ _ _ | .field _ _ _ | .indexAddr _ _ _ | .index _ _ _ | .extract _ _ | .slice _ _ _ _ _ | .makeFunc _ _ _ | .nilCheck _ | .sliceToArrayPointer _ _ => true
 | .call c => match c.callee with | .builtin .len => true | _ => false
 | _ => false
theorem run_vals {α : Type} {s : Sem α} {f : α → Value} {w w' : World} {n : Next} (h : (Sem.bind s (fun x => Sem.pure (Next.value (f x)))).run P w = .ok n w') : ∃ u, n = .value u := by
 have e : (Sem.bind s (fun x => Sem.pure (Next.value (f x)))).run P w = (s.run P w).andThen fun a w' => (Sem.pure (Next.value (f a))).run P w' := Sem.run_bind ..
 rw [e] at h
 cases hr : s.run P w with
 | ok a w1 => rw [hr] at h; simp [Result.andThen, Sem.run] at h; exact ⟨f a, h.1.symm⟩
 | halt x w1 => rw [hr] at h; simp [Result.andThen] at h
theorem run_pure {v : Value} {w w' : World} {n : Next} (h : (Sem.pure (Next.value v) : Sem Next).run P w = .ok n w') : ∃ u, n = .value u := by
 simp [Sem.run] at h; exact ⟨_, h.1.symm⟩
def AllVal (P : Program) (m : Sem Next) : Prop := ∀ (w w' : World) (n : Next), m.run P w = .ok n w' → ∃ u, n = .value u
theorem allVal_bind {α : Type} {s : Sem α} {k : α → Sem Next} (h : ∀ a, AllVal P (k a)) : AllVal P (Sem.bind s k) := by
 intro w w' n hr
 have e : (Sem.bind s k).run P w = (s.run P w).andThen fun a w' => (k a).run P w' := Sem.run_bind ..
 rw [e] at hr
 cases hs : s.run P w with
 | ok a w1 => rw [hs] at hr; exact h a w1 w' n hr
 | halt x w1 => rw [hs] at hr; simp [Result.andThen] at hr
theorem allVal_pure (v : Value) : AllVal P (Sem.pure (Next.value v)) := fun _ _ _ hr => run_pure hr
theorem allVal_nilCheck (o : Oper) (x : Operand) (ρ : Operand → Value) (h : o.op = .nilCheck x) : AllVal P (execOp ρ o) := by
 unfold execOp
 rw [h]
 dsimp only
 have hp : AllVal P (runtimePanic RuntimeError.nilDeref) := allVal_bind fun a => by
   intro w w' n hr
   exact absurd hr (by simp [goPanic])
 split
 ·exact hp
 ·exact hp
 ·exact hp
 ·split
  ·exact hp
  ·refine allVal_bind fun a => allVal_bind fun b => ?_
   split
   ·exact allVal_bind fun _ => allVal_pure _
   ·exact allVal_pure _
  ·exact allVal_pure _
 ·exact allVal_pure _
theorem looks_value {o : Oper} (h : looks o = true) (ρ : Operand → Value) {w w' : World} {n : Next} (hr : (execOp ρ o).run P w = .ok n w') : ∃ u, n = .value u := by
 by_cases hnc : ∃ x, o.op = .nilCheck x
 ·obtain ⟨x, hx⟩ := hnc
  exact allVal_nilCheck o x ρ hx _ _ _ hr
 unfold looks at h
 unfold execOp at hr
 generalize o.op = op at *
 cases op
 case call c =>
  obtain ⟨cal, args, at'⟩ := c
  cases cal
  case builtin b =>
   cases b <;> simp at h
   exact run_vals (s := Builtin.len_ at' o.type (args.map ρ)) (f := id) hr
  all_goals simp at h
 case move x => exact run_pure hr
 case assign x => exact run_pure hr
 case pick c a b => exact run_vals (s := asBool (ρ c)) (f := fun b' => if b' = true then ρ a else ρ b) hr
 case nilCheck x => exact absurd ⟨x, rfl⟩ hnc
 all_goals first
  | (simp at h; done)
  | exact run_vals (f := id) hr
theorem yieldsIf_of {o : Oper} {v : Value} {a : Act} (hl : looks o = true) (h : YieldsIn P ops S o v a) : YieldsIf P ops S o v a := by
 rcases h with ⟨hw, hv⟩ | h
 ·refine .inl ⟨hw, fun w hS => ?_⟩
  have h1 := hv w hS
  unfold Oper.quietAt at h1
  cases hr : (execOp a.eval o).run P w with
  | ok n w' =>
   obtain ⟨u, rfl⟩ := looks_value hl _ hr
   rw [hr] at h1
   obtain ⟨rfl, rfl⟩ := h1
   rfl
  | halt x w' => rw [hr] at h1; exact h1.elim
 ·exact .inr h
def mayTake (md : Region.Mode) (ops : Array Oper) (listed : Array Bool) (i : Nat) : Bool := (Region.ready md ops listed).contains i && Region.free md ops listed i && (match ops[i]? with | some o => looks o | none => false)
def takesB (md : Region.Mode) (ops : Array Oper) : List Nat → Array Bool → Option (Array Bool)
 | [], listed => some listed
 | i :: is, listed => if mayTake md ops listed i = true then takesB md ops is (listed.setIfInBounds i true) else none
theorem takes_held {Q : Exit → Act → World → Prop} (hsel : Region.noSelect ops = true) (hQ : ∀ (c : _) (a : Act) (d : Option Tmp) (v : Value) (w : World), Q (.panic c) (a.put d v) w → Q (.panic c) a w) (fuel : Nat) (R : Act → Prop) (w : World) (hS : S w) :
  ∀ (is : List Nat) (listed listed' : Array Bool) (a : Act), takesB md ops is listed = some listed' → wpQuiet P ops S R (is.filterMap (ops[·]?)) a →
   (∀ a', R a' → wpAnyH P md ops Q S fuel listed' a' w) → wpAnyH P md ops Q S (is.length + fuel) listed a w
 | [], listed, listed', a, hB, h, hK => by
  simp only [takesB, Option.some.injEq] at hB
  subst hB
  rw [List.length_nil, Nat.zero_add]
  exact hK a h
 | i :: is, listed, listed', a, hB, h, hK => by
  unfold takesB at hB
  by_cases hc : mayTake md ops listed i = true
  ·rw [if_pos hc] at hB
   unfold mayTake at hc
   simp only [Bool.and_eq_true] at hc
   obtain ⟨⟨hr, hf⟩, hl⟩ := hc
   cases ho : ops[i]? with
   | none => rw [ho] at hl; cases hl
   | some o =>
    rw [ho] at hl
    have e : (i :: is).filterMap (ops[·]?) = o :: is.filterMap (ops[·]?) := by rw [List.filterMap_cons, ho]
    rw [e] at h
    have hst : qOp P ops S i (wpQuiet P ops S R (is.filterMap (ops[·]?))) a := by unfold qOp; simp only [ho]; exact h
    obtain ⟨v, hy, hK'⟩ := yieldsIn_of_qOp ho hst
    rw [List.length_cons, show is.length + 1 + fuel = (is.length + fuel) + 1 by omega]
    exact wpAnyH_take ho hsel hf hr (fun c a w h => hQ c a _ _ w h) (yieldsIf_of hl hy) hS
     (takes_held hsel hQ fuel R w hS is _ listed' _ hB hK' hK)
  ·rw [if_neg hc] at hB
   cases hB
theorem oper_more {Q Q' : Exit → Act → World → Prop} (hQ : ∀ e a w, e ≠ .normal → Q e a w → Q' e a w) : ∀ (o : Oper) (a : Act) (w : World) (K K' : Act → World → Prop), (∀ a w, K a w → K' a w) → o.wp P a w K Q → o.wp P a w K' Q' := by
 intro o a w K K' hK h
 unfold Oper.wp at *
 generalize (execOp a.eval o).run P w = r at *
 cases r with
 | ok n w' =>
  cases n <;> simp only [Oper.upon] at h ⊢ <;>
   first
    | exact hK _ _ h
    | exact Calls.mono h (fun e w'' he => by cases e <;> first | exact hK _ _ he | exact hQ _ _ _ (by simp) he | exact ⟨he.choose, he.choose_spec.choose, hQ _ _ _ (by simp) he.choose_spec.choose_spec⟩)
    | exact Rows.mono h (fun _ _ he => hK _ _ he)
 | halt x w' => cases x <;> simp only [Oper.upon] at h ⊢; exact hQ _ _ _ (by simp) h
def ordB (md : Region.Mode) (ops : Array Oper) (fin : List Nat) : List (List Nat × Nat) → Array Bool → Bool
 | [], listed => match takesB md ops fin listed with | some l => (Region.ready md ops l).isEmpty | none => false
 | (is, i) :: st, listed => match takesB md ops is listed with | some l => decide (Region.ready md ops l = [i]) && ordB md ops fin st (l.setIfInBounds i true) | none => false
def ordLen (fin : List Nat) : List (List Nat × Nat) → Nat
 | [] => fin.length
 | (is, _) :: st => is.length + (1 + ordLen fin st)
def wpOrd (P : Program) (ops : Array Oper) (S : World → Prop) (fin : List Oper) (R : Act → World → Prop) : List (List Oper × Option Oper) → Act → World → Prop
 | [], a, w => wpQuiet P ops S (fun a' => R a' w) fin a
 | (l, o) :: st, a, w => wpQuiet P ops S (fun a' => ∀ Q₁ : Exit → Act → World → Prop, (∀ a'' w'', S w'' → wpOrd P ops S fin R st a'' w'' → Q₁ .normal a'' w'') → wpList P ops Q₁ o.toList a' w) l a
theorem ord_held {Q : Exit → Act → World → Prop} (hsel : Region.noSelect ops = true) (hQ : ∀ e a w, e ≠ .normal → ¬ Q e a w) (fin : List Nat) (R : Act → World → Prop) (hR : ∀ a w, R a w → Q .normal a w) :
  ∀ (st : List (List Nat × Nat)) (listed : Array Bool) (a : Act) (w : World), S w → ordB md ops fin st listed = true →
   wpOrd P ops S (fin.filterMap (ops[·]?)) R (st.map fun x => (x.1.filterMap (ops[·]?), ops[x.2]?)) a w → wpAnyH P md ops Q S (ordLen fin st) listed a w
 | [], listed, a, w, hS, hB, h => by
  unfold ordB at hB
  split at hB
  ·rename_i l hl
   have := takes_held (Q := Q) hsel (fun c a d v w h => absurd h (hQ _ _ _ (by simp))) 0 _ w hS fin listed l a hl h (fun a' h' => ⟨List.isEmpty_iff.1 hB, hR _ _ h'⟩)
   exact this
  ·cases hB
 | (is, i) :: st, listed, a, w, hS, hB, h => by
  unfold ordB at hB
  split at hB
  ·rename_i l hl
   simp only [Bool.and_eq_true, decide_eq_true_eq] at hB
   refine takes_held (Q := Q) hsel (fun c a d v w h => absurd h (hQ _ _ _ (by simp))) (1 + ordLen fin st) _ w hS is listed l a hl h (fun a' h' => ?_)
   have hi : i ∈ Region.ready md ops l := by rw [hB.1]; simp
   obtain ⟨_, o, ho, _⟩ := mem_ready.1 hi
   have h1 := h' (fun e a'' w'' => match e with | .normal => S w'' ∧ wpAnyH P md ops Q S (ordLen fin st) (l.setIfInBounds i true) a'' w'' | _ => False)
    (fun a'' w'' hS' hr => ⟨hS', ord_held hsel hQ fin R hR st _ _ _ hS' hB.2 hr⟩)
   rw [ho] at h1
   rw [Nat.add_comm 1]
   refine wpAnyH_all hB.1 (by simp) ?_
   intro j hj
   obtain rfl : j = i := by simpa using hj
   unfold wpOp
   simp only [ho]
   simp only [Option.toList, wpList] at h1
   split
   ·rename_i hw
    simp only [hw, if_true] at h1
    rcases h1 with h1 | ⟨_, b, w2, h2⟩
    ·exact .inl (oper_more (fun e a w he h => by cases e <;> first | exact absurd rfl he | exact h.elim) o _ _ _ _ (fun a w h => h) h1)
    ·exact h2.elim
   ·rename_i hw
    simp only [hw] at h1
    exact h1
  ·cases hB
theorem region_ord {id : Nat} {Q : Exit → Act → World → Prop} {a : Act} {w : World} {l : List Oper} (S : World → Prop) (st : List (List Nat × Nat)) (fin : List Nat) (hm : P.follows .mixedOrders = true) (hsel : Region.noSelect l.toArray = true)
  (hB : ordB .any l.toArray fin st (Array.replicate l.toArray.size false) = true) (hn : ordLen fin st = l.toArray.size) (hS : S w.drew)
  (h : wpOrd P l.toArray S (fin.filterMap (l[·]?)) (fun a w => Q .normal a w) (st.map fun x => (x.1.filterMap (l[·]?), l[x.2]?)) a w.drew) : (Code.region id l.toArray true).wp P Q a w := by
 refine wp_region_any hm (wpAny_more (Q := fun e a w => match e with | .normal => Q .normal a w | _ => False) (fun e a w h => by cases e <;> first | exact h | exact h.elim) _ _ _ _ (wpAny_of_held (S := S) _ _ _ _ ?_))
 have := ord_held (P := P) (md := .any) (S := S) (Q := fun e a w => match e with | .normal => Q .normal a w | _ => False) hsel (fun e a w he h => by cases e <;> first | exact absurd rfl he | exact h.elim) fin (fun a w => Q .normal a w) (fun _ _ h => h) st _ a w.drew hS hB (by simpa using h)
 rw [hn] at this
 exact this
theorem ord_step {fin : List Oper} {R : Act → World → Prop} {l : List Oper} {o : Option Oper} {st : List (List Oper × Option Oper)} {a : Act} {w : World}
  (h : wpQuiet P ops S (fun a' => ∀ Q₁ : Exit → Act → World → Prop, (∀ a'' w'', S w'' → wpOrd P ops S fin R st a'' w'' → Q₁ .normal a'' w'') → wpList P ops Q₁ o.toList a' w) l a) : wpOrd P ops S fin R ((l, o) :: st) a w := h
theorem ord_last {fin : List Oper} {R : Act → World → Prop} {a : Act} {w : World} (h : wpQuiet P ops S (fun a' => R a' w) fin a) : wpOrd P ops S fin R [] a w := h
end
end Go.Proofs.YtiblhlaemmdphaaGreat
/- A region that draws its order, by an invariant over what has been taken so far: each operation is walked once. -/
namespace Go.Proofs.YtiblhlaemmdphaaGreat
open Go Go.RowKit
section
variable {P : Program}
def lowB (ops : Array Oper) : Bool := (List.range ops.size).all fun i => match ops[i]? with | some o => o.after.toList.all (fun e => decide (e.on < i)) | none => true
def upd (f : Nat → Bool) (i : Nat) : Nat → Bool := fun j => decide (j = i) || f j
@[simp] theorem upd_same (f : Nat → Bool) (i : Nat) : upd f i i = true := by simp [upd]
def OpStep (P : Program) (ops : Array Oper) (J : (Nat → Bool) → Act → World → Prop) (i : Nat) (o : Oper) : Prop :=
 ∀ (f : Nat → Bool) (a : Act) (w : World), J f a w → f i = false → (∀ e ∈ o.after, Region.binds .any e = true → f e.on = true) →
  ∀ Q₁ : Exit → Act → World → Prop, (∀ a'' w'', J (upd f i) a'' w'' → Q₁ .normal a'' w'') → wpList P ops Q₁ [o] a w
theorem wpAny_of_inv {l : List Oper} {Q : Exit → Act → World → Prop} (_hQ : ∀ e a w, e ≠ .normal → ¬ Q e a w) (J : (Nat → Bool) → Act → World → Prop) (hlow : lowB l.toArray = true) (hstep : ∀ i o, l[i]? = some o → OpStep P l.toArray J i o)
  (hend : ∀ f a w, J f a w → (∀ i, i < l.length → f i = true) → Q .normal a w) :
  ∀ (fuel : Nat) (listed : Array Bool) (a : Act) (w : World), listed.size = l.length → listed.toList.count false ≤ fuel → J (fun i => listed.getD i false) a w → wpAny P .any l.toArray Q fuel listed a w := by
 have hall : ∀ (listed : Array Bool), listed.size = l.length → Region.ready .any l.toArray listed = [] → ∀ i, i < l.length → listed.getD i false = true := by
  intro listed hs hr i
  induction i using Nat.strongRecOn with
  | _ i ih =>
   intro hi
   rcases hb : listed.getD i false with _ | _
   ·exfalso
    have : i ∈ Region.ready .any l.toArray listed := by
     refine mem_ready.2 ⟨?_, l[i], by simp [hi], fun e he _ => ?_⟩
     ·rw [Array.getD_eq_getD_getElem?] at hb ⊢
      have : listed[i]? = some listed[i] := by simp [hs, hi]
      rw [this] at hb ⊢
      exact hb
     ·have h1 := List.all_eq_true.1 hlow i (by simpa using hi)
      have e1 : l.toArray[i]? = some l[i] := by simp [hi]
      rw [e1] at h1
      have h2 := List.all_eq_true.1 h1 e (by simpa using he)
      have h3 : e.on < i := by simpa using h2
      exact ih e.on h3 (by omega)
    rw [hr] at this; cases this
   ·rfl
 intro fuel
 induction fuel with
 | zero =>
  intro listed a w hs hc hJ
  have h0 : ∀ i, i < l.length → listed.getD i false = true := fun i hi => by
   rcases hb : listed.getD i false with _ | _
   ·exfalso
    have hm : false ∈ listed.toList := by
     rw [Array.getD_eq_getD_getElem?] at hb
     have e : listed[i]? = some listed[i] := by simp [hs, hi]
     rw [e] at hb
     have : listed[i] = false := hb
     rw [← this]; simp
    have := List.count_pos_iff.2 hm
    omega
   ·rfl
  refine ⟨?_, hend _ _ _ hJ h0⟩
  rw [List.eq_nil_iff_forall_not_mem]
  intro j hj
  obtain ⟨h1, o, ho, _⟩ := mem_ready.1 hj
  have hjl : j < l.length := by
   have := (Array.getElem?_eq_some_iff.1 ho).1; simpa using this
  have h2 := h0 j hjl
  rw [Array.getD_eq_getD_getElem?] at h1 h2
  have e : listed[j]? = some listed[j] := by simp [hs, hjl]
  rw [e] at h1 h2
  have a1 : listed[j] = false := h1
  have a2 : listed[j] = true := h2
  rw [a1] at a2; cases a2
 | succ fuel ih =>
  intro listed a w hs hc hJ
  refine ⟨fun hr => hend _ _ _ hJ (hall listed hs hr), fun i hi => ?_⟩
  obtain ⟨h1, o, ho, hd⟩ := mem_ready.1 hi
  have hil : i < l.length := by
   have := (Array.getElem?_eq_some_iff.1 ho).1; simpa using this
  have e : listed[i]? = some listed[i] := by simp [hs, hil]
  have hf : listed[i] = false := by rw [Array.getD_eq_getD_getElem?, e] at h1; exact h1
  have hf' : listed.getD i false = false := by rw [Array.getD_eq_getD_getElem?, e]; exact hf
  have hl : l[i]? = some o := by simpa using ho
  have hcnt : (listed.setIfInBounds i true).toList.count false ≤ fuel := by
   have hp : 0 < listed.toList.count false := List.count_pos_iff.2 (by rw [← hf]; simp)
   have : (listed.setIfInBounds i true).toList.count false = listed.toList.count false - 1 := by
    rw [Array.toList_setIfInBounds, List.count_set (by simp [hs, hil])]
    simp [hf]
   omega
  have hup : (fun j => (listed.setIfInBounds i true).getD j false) = upd (fun j => listed.getD j false) i := by
   funext j
   unfold upd
   by_cases hj : j = i
   ·subst hj
    simp [Array.getD_eq_getD_getElem?, hs, hil]
   ·simp [Array.getD_eq_getD_getElem?, Array.getElem?_setIfInBounds_ne (fun h => hj h.symm), hj]
  have h2 := hstep i o hl _ a w hJ hf' hd (fun e a'' w'' => match e with | .normal => wpAny P .any l.toArray Q fuel (listed.setIfInBounds i true) a'' w'' | _ => False)
   (fun a'' w'' hj => ih _ _ _ (by simp [hs]) hcnt (by rw [hup]; exact hj))
  unfold wpOp
  simp only [ho]
  simp only [wpList] at h2
  split
  ·rename_i hw
   simp only [hw, if_true] at h2
   rcases h2 with h2 | ⟨_, b, w2, h2⟩
   ·exact .inl (oper_more (fun e a w he h => by cases e <;> first | exact absurd rfl he | exact h.elim) o _ _ _ _ (fun a w h => h) h2)
   ·exact h2.elim
  ·rename_i hw
   simp only [hw] at h2
   exact h2
theorem region_inv {id : Nat} {Q : Exit → Act → World → Prop} {a : Act} {w : World} {l : List Oper} (J : Act → (Nat → Bool) → Act → World → Prop) (hm : P.follows .mixedOrders = true) (hlow : lowB l.toArray = true)
  (h0 : J a (fun _ => false) a w.drew) (hstep : ∀ i o, l[i]? = some o → OpStep P l.toArray (J a) i o) (hend : ∀ f a' w', J a f a' w' → (∀ i, i < l.length → f i = true) → Q .normal a' w') : (Code.region id l.toArray true).wp P Q a w := by
 refine wp_region_any hm (wpAny_more (Q := fun e a w => match e with | .normal => Q .normal a w | _ => False) (fun e a w h => by cases e <;> first | exact h | exact h.elim) _ _ _ _ ?_)
 refine wpAny_of_inv (Q := fun e a w => match e with | .normal => Q .normal a w | _ => False) (fun e a w he h => by cases e <;> first | exact absurd rfl he | exact h.elim) (J a) hlow hstep hend _ _ _ _ (by simp) (by rw [Array.toList_replicate]; exact Nat.le_trans List.count_le_length (by simp)) ?_
 have : (fun i => (Array.replicate l.toArray.size false).getD i false) = fun _ => false := by
  funext i
  rw [Array.getD_eq_getD_getElem?, Array.getElem?_replicate]
  split <;> rfl
 rw [this]
 exact h0
theorem steps_nil {ops : Array Oper} {J : (Nat → Bool) → Act → World → Prop} {k : Nat} : ∀ i o, ([] : List Oper)[i]? = some o → OpStep P ops J (k + i) o := fun i o h => by simp at h
theorem steps_cons {ops : Array Oper} {J : (Nat → Bool) → Act → World → Prop} {k : Nat} {x : Oper} {l : List Oper} (h : OpStep P ops J k x) (hs : ∀ i o, l[i]? = some o → OpStep P ops J (k + 1 + i) o) : ∀ i o, (x :: l)[i]? = some o → OpStep P ops J (k + i) o := fun i o hi => by
 rcases i with _ | i
 ·simp at hi; subst hi; exact h
 ·have := hs i o (by simpa using hi)
  rwa [show k + (i + 1) = k + 1 + i by omega]
end
end Go.Proofs.YtiblhlaemmdphaaGreat
/- As Ord, for a region whose operations may throw. -/
namespace Go.Proofs.YtiblhlaemmdphaaGreat
open Go Go.RowKit
section
variable {P : Program} {ops : Array Oper} {md : Region.Mode} {S : World → Prop}
def onlyP (Q : Exit → Act → World → Prop) : Exit → Act → World → Prop := fun e a w => match e with | .normal => Q .normal a w | .panic c => Q (.panic c) a w | _ => False
end
end Go.Proofs.YtiblhlaemmdphaaGreat
/- As OrdP, where several operations may come up next: one goal for each of them. -/
namespace Go.Proofs.YtiblhlaemmdphaaGreat
open Go Go.RowKit
section
variable {P : Program} {l : List Oper} {S : World → Prop} {Q : Exit → Act → World → Prop}
def tookB (l : List Oper) (is : List Nat) (listed : Array Bool) : Array Bool := (takesB .any l.toArray is listed).getD #[]
def treeB (l : List Oper) (is rs : List Nat) (listed : Array Bool) : Bool :=
 match takesB .any l.toArray is listed with
 | some k => decide (Region.ready .any l.toArray k = rs)
 | none => false
theorem treeB_iff {is rs : List Nat} {listed : Array Bool} (h : treeB l is rs listed = true) : takesB .any l.toArray is listed = some (tookB l is listed) ∧ Region.ready .any l.toArray (tookB l is listed) = rs := by
 unfold treeB at h
 unfold tookB
 split at h
 ·rename_i k hk
  rw [hk]
  exact ⟨rfl, of_decide_eq_true h⟩
 ·cases h
theorem tree_step (is rs : List Nat) (m : Nat) {n : Nat} {listed : Array Bool} {a : Act} {w : World} (hsel : Region.noSelect l.toArray = true) (hP : ∀ (c : _) (a : Act) (d : Option Tmp) (v : Value) (w : World), Q (.panic c) (a.put d v) w → Q (.panic c) a w)
  (hB : treeB l is rs listed = true) (hne : rs ≠ []) (hn : n = is.length + (1 + m)) (hS : S w)
  (h : wpQuiet P l.toArray S (fun a' => ∀ i ∈ rs, ∀ Q₁ : Exit → Act → World → Prop, (∀ a'' w'', S w'' → wpAnyH P .any l.toArray (onlyP Q) S m ((tookB l is listed).setIfInBounds i true) a'' w'' → Q₁ .normal a'' w'') → (∀ c a'' w'', Q (.panic c) a'' w'' → Q₁ (.panic c) a'' w'') → wpList P l.toArray Q₁ (l[i]?).toList a' w) (is.filterMap (l[·]?)) a) :
  wpAnyH P .any l.toArray (onlyP Q) S n listed a w := by
 obtain ⟨h1, h2⟩ := treeB_iff hB
 subst hn
 refine takes_held (Q := onlyP Q) hsel (fun c a d v w h => hP c a d v w h) (1 + m) _ w hS is listed _ a h1 (by simpa using h) (fun a' h' => ?_)
 rw [Nat.add_comm 1]
 refine wpAnyH_all h2 hne ?_
 intro i hi
 have hi' : i ∈ Region.ready .any l.toArray (tookB l is listed) := by rw [h2]; exact hi
 obtain ⟨_, o, ho, _⟩ := mem_ready.1 hi'
 have h3 := h' i hi (fun e a'' w'' => match e with | .normal => S w'' ∧ wpAnyH P .any l.toArray (onlyP Q) S m ((tookB l is listed).setIfInBounds i true) a'' w'' | .panic c => Q (.panic c) a'' w'' | _ => False)
  (fun a'' w'' hS' hr => ⟨hS', hr⟩) (fun c a'' w'' h => h)
 have ho' : l[i]? = some o := by simpa using ho
 rw [ho'] at h3
 unfold wpOp
 simp only [ho]
 simp only [Option.toList, wpList] at h3
 split
 ·rename_i hw
  simp only [hw, if_true] at h3
  rcases h3 with h3 | ⟨_, b, w2, h2⟩
  ·exact .inl (oper_more (fun e a w he h => by cases e <;> first | exact absurd rfl he | exact h | exact h.elim) o _ _ _ _ (fun a w h => h) h3)
  ·exact h2.elim
 ·rename_i hw
  simp only [hw] at h3
  exact h3
theorem tree_end (is : List Nat) {n : Nat} {listed : Array Bool} {a : Act} {w : World} (hsel : Region.noSelect l.toArray = true) (hP : ∀ (c : _) (a : Act) (d : Option Tmp) (v : Value) (w : World), Q (.panic c) (a.put d v) w → Q (.panic c) a w)
  (hB : treeB l is [] listed = true) (hn : n = is.length) (hS : S w) (h : wpQuiet P l.toArray S (fun a' => Q .normal a' w) (is.filterMap (l[·]?)) a) : wpAnyH P .any l.toArray (onlyP Q) S n listed a w := by
 obtain ⟨h1, h2⟩ := treeB_iff hB
 subst hn
 exact takes_held (Q := onlyP Q) hsel (fun c a d v w h => hP c a d v w h) 0 _ w hS is listed _ a h1 (by rw [show is.filterMap (l.toArray[·]?) = is.filterMap (l[·]?) by simp]; exact h) (fun a' h' => ⟨h2, h'⟩)
theorem region_tree {id : Nat} {a : Act} {w : World} (S : World → Prop) (hm : P.follows .mixedOrders = true)
  (h : wpAnyH P .any l.toArray (onlyP Q) S l.toArray.size (Array.replicate l.toArray.size false) a w.drew) : (Code.region id l.toArray true).wp P Q a w :=
 wp_region_any hm (wpAny_more (Q := onlyP Q) (fun e a w h => by cases e <;> first | exact h | exact h.elim) _ _ _ _ (wpAny_of_held (S := S) _ _ _ _ h))
structure HeldF (f : Nat → Prop) (w0 : World) where
 x : World
 h : ∀ b, f b → x.heap[b]? = w0.heap[b]?
instance heldFNonempty (f : Nat → Prop) (w0 : World) : Nonempty (HeldF f w0) := ⟨⟨w0, fun _ _ => rfl⟩⟩
end
end Go.Proofs.YtiblhlaemmdphaaGreat
