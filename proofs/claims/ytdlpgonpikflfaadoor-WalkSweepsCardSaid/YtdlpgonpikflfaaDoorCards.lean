/-
  DERIVED. GIVEN WITH THE SEED: THE CARDS: each row of YtdlpgonpikflfaaDoorRows.lean that lists a variable, with what it lists TIED to the program's text (the seventh form; the later family's looks); each row that meets fmt, with fmt's text TOLD by the authors' own Lean function (tested against real Go, not proved from fmt's source: count such statements apart). THE CARD IS WHAT COUNTS. Prove the row's statement (the work); the ties are given (YtdlpgonpikflfaaDoorTie.lean); close each card by the builder's one call (the guide's Derived/Test/ToyasCard.lean, 'card_holds'). Laid BY PROGRAM, IN A SANDBOX (cutbox-door.mjs). By AI agents, Wed Nov 11 2026. No macro, syntax, notation, axiom, sorry.
-/
import Derived.Test.YtdlpgonpikflfaaDoorRows
import GoSem.ClaimSeven
namespace Go.Proofs.YtdlpgonpikflfaaDoor
namespace Rows

/-- THE TIED CARD OF 'portreevelaw20.WalkTells'. -/
def walkTellsCard : Claim7 := { stood := { row := walkTellsRow, standIns := [], harness := (true, "1336719981b75a4fce395c0bdafc7c3d1c67f516f261a177e1c08eb42e1b830b"), looks := false }, kinds := [], alts := [], laidByText := true, laidKinds := [.data], laidTests := true, laidLooks := .later }
def WalkTellsCardSaid : Prop := Claim7.holds Tryd.pinned (.plain (OpenSpec.ofChange walkTellsSpec)) walkTellsCard

/-- THE TIED CARD OF 'portreevelaw20.WalkNone'. -/
def walkNoneCard : Claim7 := { stood := { row := walkNoneRow, standIns := [], harness := (true, "1336719981b75a4fce395c0bdafc7c3d1c67f516f261a177e1c08eb42e1b830b"), looks := false }, kinds := [], alts := [], laidByText := true, laidKinds := [.data], laidTests := true, laidLooks := .later }
def WalkNoneCardSaid : Prop := Claim7.holds Tryd.pinned (.plain (OpenSpec.ofChange walkNoneSpec)) walkNoneCard

/-- THE TIED CARD OF 'portreevelaw20.WalkAgrees'. -/
def walkAgreesCard : Claim7 := { stood := { row := walkAgreesRow, standIns := [], harness := (true, "1336719981b75a4fce395c0bdafc7c3d1c67f516f261a177e1c08eb42e1b830b"), looks := false }, kinds := [], alts := [], laidByText := true, laidKinds := [.data], laidTests := true, laidLooks := .later }
def WalkAgreesCardSaid : Prop := Claim7.holds Tryd.pinned (.plain (OpenSpec.ofChange walkAgreesSpec)) walkAgreesCard

/-- THE TIED CARD OF 'portreevelaw20.WalkSweeps'. -/
def walkSweepsCard : Claim7 := { stood := { row := walkSweepsRow, standIns := [], harness := (true, "1336719981b75a4fce395c0bdafc7c3d1c67f516f261a177e1c08eb42e1b830b"), looks := false }, kinds := [], alts := [], laidByText := true, laidKinds := [.data], laidTests := true, laidLooks := .later }
def WalkSweepsCardSaid : Prop := Claim7.holds Tryd.pinned (.plain (OpenSpec.ofChange walkSweepsSpec)) walkSweepsCard

/-- THE SECOND FORM's CARD OF 'portreevelaw20.WalkTells'. -/
def walkTellsUptoCard : Claim7 := { stood := { row := walkTellsUptoRow, standIns := [], harness := (true, "1336719981b75a4fce395c0bdafc7c3d1c67f516f261a177e1c08eb42e1b830b"), looks := false }, kinds := [], alts := [], laidByText := true, laidKinds := [.data], laidTests := true, laidLooks := .later }
def WalkTellsUptoCardSaid : Prop := Claim7.holds Tryd.pinned (.plain (OpenSpec.upto walkTellsSpec)) walkTellsUptoCard

/-- THE SECOND FORM's CARD OF 'portreevelaw20.WalkNone'. -/
def walkNoneUptoCard : Claim7 := { stood := { row := walkNoneUptoRow, standIns := [], harness := (true, "1336719981b75a4fce395c0bdafc7c3d1c67f516f261a177e1c08eb42e1b830b"), looks := false }, kinds := [], alts := [], laidByText := true, laidKinds := [.data], laidTests := true, laidLooks := .later }
def WalkNoneUptoCardSaid : Prop := Claim7.holds Tryd.pinned (.plain (OpenSpec.upto walkNoneSpec)) walkNoneUptoCard

/-- THE SECOND FORM's CARD OF 'portreevelaw20.WalkAgrees'. -/
def walkAgreesUptoCard : Claim7 := { stood := { row := walkAgreesUptoRow, standIns := [], harness := (true, "1336719981b75a4fce395c0bdafc7c3d1c67f516f261a177e1c08eb42e1b830b"), looks := false }, kinds := [], alts := [], laidByText := true, laidKinds := [.data], laidTests := true, laidLooks := .later }
def WalkAgreesUptoCardSaid : Prop := Claim7.holds Tryd.pinned (.plain (OpenSpec.upto walkAgreesSpec)) walkAgreesUptoCard

/-- THE SECOND FORM's CARD OF 'portreevelaw20.WalkSweeps'. -/
def walkSweepsUptoCard : Claim7 := { stood := { row := walkSweepsUptoRow, standIns := [], harness := (true, "1336719981b75a4fce395c0bdafc7c3d1c67f516f261a177e1c08eb42e1b830b"), looks := false }, kinds := [], alts := [], laidByText := true, laidKinds := [.data], laidTests := true, laidLooks := .later }
def WalkSweepsUptoCardSaid : Prop := Claim7.holds Tryd.pinned (.plain (OpenSpec.upto walkSweepsSpec)) walkSweepsUptoCard
end Rows
end Go.Proofs.YtdlpgonpikflfaaDoor
