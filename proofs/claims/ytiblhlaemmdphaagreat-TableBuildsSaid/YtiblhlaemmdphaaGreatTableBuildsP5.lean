/- A region that draws its order, whose operations only read and whose callees lay blocks at most: one walk in the order of the text. The class of worlds: all that hold what lay. -/
import Derived.Deep.QuietTactic
import Derived.BigQuiet
import Derived.Test.YtiblhlaemmdphaaGreatTableBuildsP1
namespace Go.Proofs.YtiblhlaemmdphaaGreat
open Go Go.RowKit
structure Later (B : Nat) (w0 : World) where
 x : World
 h : Below B w0 x
instance laterNonempty (B : Nat) (w0 : World) : Nonempty (Later B w0) := ⟨⟨w0, Below.refl _ _⟩⟩
theorem region_later {P : Program} {id : Nat} {Q : Exit → Act → World → Prop} {a : Act} {w : World} {l : List Oper} (B : Nat) (w0 : World) (h0 : Below B w0 w) (hm : P.follows .mixedOrders = true) (hB : Region.lexB .any l.toArray = true)
  (h : wpQuiet P l.toArray (fun w' => ∃ X : Later B w0, w' = X.x) (fun a' => ∀ w', (∃ X : Later B w0, w' = X.x) → Q .normal a' w') l a) : (Code.region id l.toArray true).wp P Q a w :=
 wp_region_quiet (C := fun w' => ∃ X : Later B w0, w' = X.x) hm hB ⟨⟨_, h0.drew⟩, rfl⟩ (by simpa using h)
theorem quiet_later {P : Program} {f : FuncId} {args : Array Value} {B : Nat} {w0 : World} {X : Later B w0} {v : Value} (hB : B ≤ w0.heap.size)
  (h : Calls P f args X.x fun e w' => e = .returned v ∧ Below X.x.heap.size X.x w') : Calls P f args X.x fun e w'' => e = .returned v ∧ ∃ Y : Later B w0, w'' = Y.x :=
 h.mono fun _ _ ⟨he, hb⟩ => ⟨he, ⟨⟨_, X.h.trans (hb.mono (Nat.le_trans hB X.h.size))⟩, rfl⟩⟩
theorem later_cell {B : Nat} {w0 : World} {b o : Nat} {v : Value} (h : w0.cell? ⟨b, o, none⟩ = some v) (hb : b < B) : ∀ X : Later B w0, X.x.cell? ⟨b, o, none⟩ = some v :=
 fun X => (X.h.cell (p := ⟨b, o, none⟩) hb).trans h
end Go.Proofs.YtiblhlaemmdphaaGreat
