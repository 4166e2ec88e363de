/- As OrdP, where several operations may come up next: one goal for each of them. -/
import Derived.Test.YtffdfeekpfmbeaaGreatValidChecksP16
namespace Go.Proofs.YtffdfeekpfmbeaaGreat
open Go Go.RowKit

section
variable {P : Program} {l : List Oper} {S : World → Prop} {Q : Exit → Act → World → Prop}
/-- What is listed once these were taken. -/
def tookB (l : List Oper) (is : List Nat) (listed : Array Bool) : Array Bool := (takesB .any l.toArray is listed).getD #[]
/-- These may be taken; then just these may come up. -/
def treeB (l : List Oper) (is rs : List Nat) (listed : Array Bool) : Bool :=
  match takesB .any l.toArray is listed with
  | some k => decide (Region.ready .any l.toArray k = rs)
  | none => false
theorem treeB_iff {is rs : List Nat} {listed : Array Bool} (h : treeB l is rs listed = true) : takesB .any l.toArray is listed = some (tookB l is listed) ∧ Region.ready .any l.toArray (tookB l is listed) = rs := by
  unfold treeB at h
  unfold tookB
  split at h
  · rename_i k hk
    rw [hk]
    exact ⟨rfl, of_decide_eq_true h⟩
  · cases h
theorem tree_step (is rs : List Nat) (m : Nat) {n : Nat} {listed : Array Bool} {a : Act} {w : World} (hsel : Region.noSelect l.toArray = true) (hP : ∀ (c : _) (a : Act) (d : Option Tmp) (v : Value) (w : World), Q (.panic c) (a.put d v) w → Q (.panic c) a w)
    (hB : treeB l is rs listed = true) (hne : rs ≠ []) (hn : n = is.length + (1 + m)) (hS : S w)
    (h : wpQuiet P l.toArray S (fun a' => ∀ i ∈ rs, ∀ Q₁ : Exit → Act → World → Prop, (∀ a'' w'', S w'' → wpAnyH P .any l.toArray (onlyP Q) S m ((tookB l is listed).setIfInBounds i true) a'' w'' → Q₁ .normal a'' w'') → (∀ c a'' w'', Q (.panic c) a'' w'' → Q₁ (.panic c) a'' w'') → wpList P l.toArray Q₁ (l[i]?).toList a' w) (is.filterMap (l[·]?)) a) :
    wpAnyH P .any l.toArray (onlyP Q) S n listed a w := by
  obtain ⟨h1, h2⟩ := treeB_iff hB
  subst hn
  refine takes_held (Q := onlyP Q) hsel (fun c a d v w h => hP c a d v w h) (1 + m) _ w hS is listed _ a h1 (by simpa using h) (fun a' h' => ?_)
  rw [Nat.add_comm 1]
  refine wpAnyH_all h2 hne ?_
  intro i hi
  have hi' : i ∈ Region.ready .any l.toArray (tookB l is listed) := by rw [h2]; exact hi
  obtain ⟨_, o, ho, _⟩ := mem_ready.1 hi'
  have h3 := h' i hi (fun e a'' w'' => match e with | .normal => S w'' ∧ wpAnyH P .any l.toArray (onlyP Q) S m ((tookB l is listed).setIfInBounds i true) a'' w'' | .panic c => Q (.panic c) a'' w'' | _ => False)
    (fun a'' w'' hS' hr => ⟨hS', hr⟩) (fun c a'' w'' h => h)
  have ho' : l[i]? = some o := by simpa using ho
  rw [ho'] at h3
  unfold wpOp
  simp only [ho]
  simp only [Option.toList, wpList] at h3
  split
  · rename_i hw
    simp only [hw, if_true] at h3
    rcases h3 with h3 | ⟨_, b, w2, h2⟩
    · exact .inl (oper_more (fun e a w he h => by cases e <;> first | exact absurd rfl he | exact h | exact h.elim) o _ _ _ _ (fun a w h => h) h3)
    · exact h2.elim
  · rename_i hw
    simp only [hw] at h3
    exact h3
theorem tree_end (is : List Nat) {n : Nat} {listed : Array Bool} {a : Act} {w : World} (hsel : Region.noSelect l.toArray = true) (hP : ∀ (c : _) (a : Act) (d : Option Tmp) (v : Value) (w : World), Q (.panic c) (a.put d v) w → Q (.panic c) a w)
    (hB : treeB l is [] listed = true) (hn : n = is.length) (hS : S w) (h : wpQuiet P l.toArray S (fun a' => Q .normal a' w) (is.filterMap (l[·]?)) a) : wpAnyH P .any l.toArray (onlyP Q) S n listed a w := by
  obtain ⟨h1, h2⟩ := treeB_iff hB
  subst hn
  exact takes_held (Q := onlyP Q) hsel (fun c a d v w h => hP c a d v w h) 0 _ w hS is listed _ a h1 (by rw [show is.filterMap (l.toArray[·]?) = is.filterMap (l[·]?) by simp]; exact h) (fun a' h' => ⟨h2, h'⟩)
theorem region_tree {id : Nat} {a : Act} {w : World} (S : World → Prop) (hm : P.follows .mixedOrders = true)
    (h : wpAnyH P .any l.toArray (onlyP Q) S l.toArray.size (Array.replicate l.toArray.size false) a w.drew) : (Code.region id l.toArray true).wp P Q a w :=
  wp_region_any hm (wpAny_more (Q := onlyP Q) (fun e a w h => by cases e <;> first | exact h | exact h.elim) _ _ _ _ (wpAny_of_held (S := S) _ _ _ _ h))
/-- All that certain blocks hold. -/
structure HeldF (f : Nat → Prop) (w0 : World) where
  x : World
  h : ∀ b, f b → x.heap[b]? = w0.heap[b]?
instance heldFNonempty (f : Nat → Prop) (w0 : World) : Nonempty (HeldF f w0) := ⟨⟨w0, fun _ _ => rfl⟩⟩
end
theorem mem3 {i a b c : Nat} (h : i ∈ [a, b, c]) : i = a ∨ i = b ∨ i = c := by simpa using h
theorem mem2 {i a b : Nat} (h : i ∈ [a, b]) : i = a ∨ i = b := by simpa using h
theorem mem1 {i a : Nat} (h : i ∈ [a]) : i = a := by simpa using h
end Go.Proofs.YtffdfeekpfmbeaaGreat
