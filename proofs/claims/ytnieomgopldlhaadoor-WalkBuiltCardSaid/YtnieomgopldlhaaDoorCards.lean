/-
  DERIVED. GIVEN WITH THE SEED: THE CARDS: each row of YtnieomgopldlhaaDoorRows.lean that lists a variable, with what it lists TIED to the program's text (the seventh form; the later family's looks); each row that meets fmt, with fmt's text TOLD by the authors' own Lean function (tested against real Go, not proved from fmt's source: count such statements apart). THE CARD IS WHAT COUNTS. Prove the row's statement (the work); the ties are given (YtnieomgopldlhaaDoorTie.lean); close each card by the builder's one call (the guide's Derived/Test/ToyasCard.lean, 'card_holds'). Laid BY PROGRAM, IN A SANDBOX (cutbox-door.mjs). By AI agents, Wed Nov 11 2026. No macro, syntax, notation, axiom, sorry.
-/
import Derived.Test.YtnieomgopldlhaaDoorRows
import GoSem.ClaimSeven
namespace Go.Proofs.YtnieomgopldlhaaDoor
namespace Rows

/-- THE TIED CARD OF 'portreevelaw20.WalkBuilt'. -/
def walkBuiltCard : Claim7 := { stood := { row := walkBuiltRow, standIns := [], harness := (true, "e1406a8d6225372ee805c93baa90be4a630118c1f4cb0fe6eb5e677c8959009e"), looks := false }, kinds := [], alts := [], laidByText := true, laidKinds := [.data], laidTests := true, laidLooks := .later }
def WalkBuiltCardSaid : Prop := Claim7.holds Tryd.pinned (.plain (OpenSpec.ofChange walkBuiltSpec)) walkBuiltCard

/-- THE SECOND FORM's CARD OF 'portreevelaw20.WalkBuilt'. -/
def walkBuiltUptoCard : Claim7 := { stood := { row := walkBuiltUptoRow, standIns := [], harness := (true, "e1406a8d6225372ee805c93baa90be4a630118c1f4cb0fe6eb5e677c8959009e"), looks := false }, kinds := [], alts := [], laidByText := true, laidKinds := [.data], laidTests := true, laidLooks := .later }
def WalkBuiltUptoCardSaid : Prop := Claim7.holds Tryd.pinned (.plain (OpenSpec.upto walkBuiltSpec)) walkBuiltUptoCard
end Rows
end Go.Proofs.YtnieomgopldlhaaDoor
