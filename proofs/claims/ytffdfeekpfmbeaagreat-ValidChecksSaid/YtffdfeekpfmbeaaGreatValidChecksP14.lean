/- A region that draws its order: a head that only reads and calls, a tail whose order is forced (and which may throw). -/
import Derived.Test.YtffdfeekpfmbeaaGreatValidChecksP10
namespace Go.Proofs.YtffdfeekpfmbeaaGreat
open Go Go.RowKit

theorem region_later_tl {P : Program} {id : Nat} {Q : Exit → Act → World → Prop} {a : Act} {w : World} {l : List Oper} (B : Nat) (w0 : World) (n : Nat) (h0 : Below B w0 w) (hm : P.follows .mixedOrders = true) (hB : headTailB l.toArray n = true)
    (h : wpQuiet P l.toArray (fun w' => ∃ X : Later B w0, w' = X.x) (fun a' => ∀ w', (∃ X : Later B w0, w' = X.x) → wpList P l.toArray Q (l.drop n) a' w') (l.take n) a) : (Code.region id l.toArray true).wp P Q a w :=
  wp_region_quiet_tail (C := fun w' => ∃ X : Later B w0, w' = X.x) n hm hB ⟨⟨_, h0.drew⟩, rfl⟩ h
end Go.Proofs.YtffdfeekpfmbeaaGreat
