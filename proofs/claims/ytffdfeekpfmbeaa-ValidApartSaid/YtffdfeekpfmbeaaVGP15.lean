/- As Ord, for a region whose operations may throw. -/
import Derived.Test.YtffdfeekpfmbeaaVGP14
namespace Go.Proofs.Ytffdfeekpfmbeaa
open Go Go.RowKit

section
variable {P : Program} {ops : Array Oper} {md : Region.Mode} {S : World → Prop}
/-- The walk over the plan; what is asked at an end and where something was thrown. -/
def wpOrdP (P : Program) (ops : Array Oper) (S : World → Prop) (fin : List Oper) (R : Exit → Act → World → Prop) : List (List Oper × Option Oper) → Act → World → Prop
  | [], a, w => wpQuiet P ops S (fun a' => R .normal a' w) fin a
  | (l, o) :: st, a, w => wpQuiet P ops S (fun a' => ∀ Q₁ : Exit → Act → World → Prop, (∀ a'' w'', S w'' → wpOrdP P ops S fin R st a'' w'' → Q₁ .normal a'' w'') → (∀ c a'' w'', R (.panic c) a'' w'' → Q₁ (.panic c) a'' w'') → wpList P ops Q₁ o.toList a' w) l a
/-- What is kept of an exit: an end, or a panic. -/
def onlyP (Q : Exit → Act → World → Prop) : Exit → Act → World → Prop := fun e a w => match e with | .normal => Q .normal a w | .panic c => Q (.panic c) a w | _ => False
theorem ordP_held {Q : Exit → Act → World → Prop} (hsel : Region.noSelect ops = true) (hP : ∀ (c : _) (a : Act) (d : Option Tmp) (v : Value) (w : World), Q (.panic c) (a.put d v) w → Q (.panic c) a w) (fin : List Nat) :
    ∀ (st : List (List Nat × Nat)) (listed : Array Bool) (a : Act) (w : World), S w → ordB md ops fin st listed = true →
      wpOrdP P ops S (fin.filterMap (ops[·]?)) Q (st.map fun x => (x.1.filterMap (ops[·]?), ops[x.2]?)) a w → wpAnyH P md ops (onlyP Q) S (ordLen fin st) listed a w
  | [], listed, a, w, hS, hB, h => by
    unfold ordB at hB
    split at hB
    · rename_i l hl
      exact takes_held (Q := onlyP Q) hsel (fun c a d v w h => hP c a d v w h) 0 _ w hS fin listed l a hl h (fun a' h' => ⟨List.isEmpty_iff.1 hB, h'⟩)
    · cases hB
  | (is, i) :: st, listed, a, w, hS, hB, h => by
    unfold ordB at hB
    split at hB
    · rename_i l hl
      simp only [Bool.and_eq_true, decide_eq_true_eq] at hB
      refine takes_held (Q := onlyP Q) hsel (fun c a d v w h => hP c a d v w h) (1 + ordLen fin st) _ w hS is listed l a hl h (fun a' h' => ?_)
      have hi : i ∈ Region.ready md ops l := by rw [hB.1]; simp
      obtain ⟨_, o, ho, _⟩ := mem_ready.1 hi
      have h1 := h' (fun e a'' w'' => match e with | .normal => S w'' ∧ wpAnyH P md ops (onlyP Q) S (ordLen fin st) (l.setIfInBounds i true) a'' w'' | .panic c => Q (.panic c) a'' w'' | _ => False)
        (fun a'' w'' hS' hr => ⟨hS', ordP_held hsel hP fin st _ _ _ hS' hB.2 hr⟩) (fun c a'' w'' h => h)
      rw [ho] at h1
      rw [Nat.add_comm 1]
      refine wpAnyH_all hB.1 (by simp) ?_
      intro j hj
      obtain rfl : j = i := by simpa using hj
      unfold wpOp
      simp only [ho]
      simp only [Option.toList, wpList] at h1
      split
      · rename_i hw
        simp only [hw, if_true] at h1
        rcases h1 with h1 | ⟨_, b, w2, h2⟩
        · exact .inl (oper_more (fun e a w he h => by cases e <;> first | exact absurd rfl he | exact h | exact h.elim) o _ _ _ _ (fun a w h => h) h1)
        · exact h2.elim
      · rename_i hw
        simp only [hw] at h1
        exact h1
    · cases hB
theorem region_ordP {id : Nat} {Q : Exit → Act → World → Prop} {a : Act} {w : World} {l : List Oper} (S : World → Prop) (st : List (List Nat × Nat)) (fin : List Nat) (hm : P.follows .mixedOrders = true) (hsel : Region.noSelect l.toArray = true)
    (hB : ordB .any l.toArray fin st (Array.replicate l.toArray.size false) = true) (hn : ordLen fin st = l.toArray.size) (hS : S w.drew) (hP : ∀ (c : _) (a : Act) (d : Option Tmp) (v : Value) (w : World), Q (.panic c) (a.put d v) w → Q (.panic c) a w)
    (h : wpOrdP P l.toArray S (fin.filterMap (l[·]?)) Q (st.map fun x => (x.1.filterMap (l[·]?), l[x.2]?)) a w.drew) : (Code.region id l.toArray true).wp P Q a w := by
  refine wp_region_any hm (wpAny_more (Q := onlyP Q) (fun e a w h => by cases e <;> first | exact h | exact h.elim) _ _ _ _ (wpAny_of_held (S := S) _ _ _ _ ?_))
  have := ordP_held (P := P) (md := .any) (S := S) (Q := Q) hsel hP fin st _ a w.drew hS hB (by simpa using h)
  rw [hn] at this
  exact this
theorem ordP_step {fin : List Oper} {R : Exit → Act → World → Prop} {l : List Oper} {o : Option Oper} {st : List (List Oper × Option Oper)} {a : Act} {w : World}
    (h : wpQuiet P ops S (fun a' => ∀ Q₁ : Exit → Act → World → Prop, (∀ a'' w'', S w'' → wpOrdP P ops S fin R st a'' w'' → Q₁ .normal a'' w'') → (∀ c a'' w'', R (.panic c) a'' w'' → Q₁ (.panic c) a'' w'') → wpList P ops Q₁ o.toList a' w) l a) : wpOrdP P ops S fin R ((l, o) :: st) a w := h
theorem ordP_last {fin : List Oper} {R : Exit → Act → World → Prop} {a : Act} {w : World} (h : wpQuiet P ops S (fun a' => R .normal a' w) fin a) : wpOrdP P ops S fin R [] a w := h
end
end Go.Proofs.Ytffdfeekpfmbeaa
