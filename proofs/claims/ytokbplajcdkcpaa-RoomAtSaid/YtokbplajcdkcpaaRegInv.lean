/- A region that draws its order, by an invariant over what has been taken so far: each operation is walked once. -/
import Derived.Test.YtokbplajcdkcpaaOrd
namespace Go.Proofs.Ytokbplajcdkcpaa
open Go Go.RowKit

section
variable {P : Program}

def lowB (ops : Array Oper) : Bool := (List.range ops.size).all fun i => match ops[i]? with | some o => o.after.toList.all (fun e => decide (e.on < i)) | none => true
def upd (f : Nat → Bool) (i : Nat) : Nat → Bool := fun j => decide (j = i) || f j
@[simp] theorem upd_same (f : Nat → Bool) (i : Nat) : upd f i i = true := by simp [upd]
/-- What is owed of an operation, taken at any time that it may be taken. -/
def OpStep (P : Program) (ops : Array Oper) (J : (Nat → Bool) → Act → World → Prop) (i : Nat) (o : Oper) : Prop :=
  ∀ (f : Nat → Bool) (a : Act) (w : World), J f a w → f i = false → (∀ e ∈ o.after, Region.binds .any e = true → f e.on = true) →
    ∀ Q₁ : Exit → Act → World → Prop, (∀ a'' w'', J (upd f i) a'' w'' → Q₁ .normal a'' w'') → wpList P ops Q₁ [o] a w

theorem wpAny_of_inv {l : List Oper} {Q : Exit → Act → World → Prop} (hQ : ∀ e a w, e ≠ .normal → ¬ Q e a w) (J : (Nat → Bool) → Act → World → Prop) (hlow : lowB l.toArray = true) (hstep : ∀ i o, l[i]? = some o → OpStep P l.toArray J i o)
    (hend : ∀ f a w, J f a w → (∀ i, i < l.length → f i = true) → Q .normal a w) :
    ∀ (fuel : Nat) (listed : Array Bool) (a : Act) (w : World), listed.size = l.length → listed.toList.count false ≤ fuel → J (fun i => listed.getD i false) a w → wpAny P .any l.toArray Q fuel listed a w := by
  have hall : ∀ (listed : Array Bool), listed.size = l.length → Region.ready .any l.toArray listed = [] → ∀ i, i < l.length → listed.getD i false = true := by
    intro listed hs hr i
    induction i using Nat.strongRecOn with
    | _ i ih =>
      intro hi
      rcases hb : listed.getD i false with _ | _
      · exfalso
        have : i ∈ Region.ready .any l.toArray listed := by
          refine mem_ready.2 ⟨?_, l[i], by simp [hi], fun e he _ => ?_⟩
          · rw [Array.getD_eq_getD_getElem?] at hb ⊢
            have : listed[i]? = some listed[i] := by simp [hs, hi]
            rw [this] at hb ⊢
            exact hb
          · have h1 := List.all_eq_true.1 hlow i (by simpa using hi)
            have e1 : l.toArray[i]? = some l[i] := by simp [hi]
            rw [e1] at h1
            have h2 := List.all_eq_true.1 h1 e (by simpa using he)
            have h3 : e.on < i := by simpa using h2
            exact ih e.on h3 (by omega)
        rw [hr] at this; cases this
      · rfl
  intro fuel
  induction fuel with
  | zero =>
    intro listed a w hs hc hJ
    have h0 : ∀ i, i < l.length → listed.getD i false = true := fun i hi => by
      rcases hb : listed.getD i false with _ | _
      · exfalso
        have hm : false ∈ listed.toList := by
          rw [Array.getD_eq_getD_getElem?] at hb
          have e : listed[i]? = some listed[i] := by simp [hs, hi]
          rw [e] at hb
          have : listed[i] = false := hb
          rw [← this]; simp
        have := List.count_pos_iff.2 hm
        omega
      · rfl
    refine ⟨?_, hend _ _ _ hJ h0⟩
    rw [List.eq_nil_iff_forall_not_mem]
    intro j hj
    obtain ⟨h1, o, ho, _⟩ := mem_ready.1 hj
    have hjl : j < l.length := by
      have := (Array.getElem?_eq_some_iff.1 ho).1; simpa using this
    have h2 := h0 j hjl
    rw [Array.getD_eq_getD_getElem?] at h1 h2
    have e : listed[j]? = some listed[j] := by simp [hs, hjl]
    rw [e] at h1 h2
    have a1 : listed[j] = false := h1
    have a2 : listed[j] = true := h2
    rw [a1] at a2; cases a2
  | succ fuel ih =>
    intro listed a w hs hc hJ
    refine ⟨fun hr => hend _ _ _ hJ (hall listed hs hr), fun i hi => ?_⟩
    obtain ⟨h1, o, ho, hd⟩ := mem_ready.1 hi
    have hil : i < l.length := by
      have := (Array.getElem?_eq_some_iff.1 ho).1; simpa using this
    have e : listed[i]? = some listed[i] := by simp [hs, hil]
    have hf : listed[i] = false := by rw [Array.getD_eq_getD_getElem?, e] at h1; exact h1
    have hf' : listed.getD i false = false := by rw [Array.getD_eq_getD_getElem?, e]; exact hf
    have hl : l[i]? = some o := by simpa using ho
    have hcnt : (listed.setIfInBounds i true).toList.count false ≤ fuel := by
      have hp : 0 < listed.toList.count false := List.count_pos_iff.2 (by rw [← hf]; simp)
      have : (listed.setIfInBounds i true).toList.count false = listed.toList.count false - 1 := by
        rw [Array.toList_setIfInBounds, List.count_set (by simp [hs, hil])]
        simp [hf]
      omega
    have hup : (fun j => (listed.setIfInBounds i true).getD j false) = upd (fun j => listed.getD j false) i := by
      funext j
      unfold upd
      by_cases hj : j = i
      · subst hj
        simp [Array.getD_eq_getD_getElem?, hs, hil]
      · simp [Array.getD_eq_getD_getElem?, Array.getElem?_setIfInBounds_ne (fun h => hj h.symm), hj]
    have h2 := hstep i o hl _ a w hJ hf' hd (fun e a'' w'' => match e with | .normal => wpAny P .any l.toArray Q fuel (listed.setIfInBounds i true) a'' w'' | _ => False)
      (fun a'' w'' hj => ih _ _ _ (by simp [hs]) hcnt (by rw [hup]; exact hj))
    unfold wpOp
    simp only [ho]
    simp only [wpList] at h2
    split
    · rename_i hw
      simp only [hw, if_true] at h2
      rcases h2 with h2 | ⟨_, b, w2, h2⟩
      · exact .inl (oper_more (fun e a w he h => by cases e <;> first | exact absurd rfl he | exact h.elim) o _ _ _ _ (fun a w h => h) h2)
      · exact h2.elim
    · rename_i hw
      simp only [hw] at h2
      exact h2

theorem region_inv {id : Nat} {Q : Exit → Act → World → Prop} {a : Act} {w : World} {l : List Oper} (J : Act → (Nat → Bool) → Act → World → Prop) (hm : P.follows .mixedOrders = true) (hlow : lowB l.toArray = true)
    (h0 : J a (fun _ => false) a w.drew) (hstep : ∀ i o, l[i]? = some o → OpStep P l.toArray (J a) i o) (hend : ∀ f a' w', J a f a' w' → (∀ i, i < l.length → f i = true) → Q .normal a' w') : (Code.region id l.toArray true).wp P Q a w := by
  refine wp_region_any hm (wpAny_more (Q := fun e a w => match e with | .normal => Q .normal a w | _ => False) (fun e a w h => by cases e <;> first | exact h | exact h.elim) _ _ _ _ ?_)
  refine wpAny_of_inv (Q := fun e a w => match e with | .normal => Q .normal a w | _ => False) (fun e a w he h => by cases e <;> first | exact absurd rfl he | exact h.elim) (J a) hlow hstep hend _ _ _ _ (by simp) (by rw [Array.toList_replicate]; exact Nat.le_trans List.count_le_length (by simp)) ?_
  have : (fun i => (Array.replicate l.toArray.size false).getD i false) = fun _ => false := by
    funext i
    rw [Array.getD_eq_getD_getElem?, Array.getElem?_replicate]
    split <;> rfl
  rw [this]
  exact h0

/-- The operations one by one. -/
theorem steps_nil {ops : Array Oper} {J : (Nat → Bool) → Act → World → Prop} {k : Nat} : ∀ i o, ([] : List Oper)[i]? = some o → OpStep P ops J (k + i) o := fun i o h => by simp at h
theorem steps_cons {ops : Array Oper} {J : (Nat → Bool) → Act → World → Prop} {k : Nat} {x : Oper} {l : List Oper} (h : OpStep P ops J k x) (hs : ∀ i o, l[i]? = some o → OpStep P ops J (k + 1 + i) o) : ∀ i o, (x :: l)[i]? = some o → OpStep P ops J (k + i) o := fun i o hi => by
  rcases i with _ | i
  · simp at hi; subst hi; exact h
  · have := hs i o (by simpa using hi)
    rwa [show k + (i + 1) = k + 1 + i by omega]
end
end Go.Proofs.Ytokbplajcdkcpaa
