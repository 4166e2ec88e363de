/-
  DERIVED. GIVEN WITH THE SEED: THE CARDS: each row of YtgihknfoncljbaaGreatDoorRows.lean that lists a variable, with what it lists TIED to the program's text (the seventh form; the later family's looks); each row that meets fmt, with fmt's text TOLD by the authors' own Lean function (tested against real Go, not proved from fmt's source: count such statements apart). THE CARD IS WHAT COUNTS. Prove the row's statement (the work); the ties are given (YtgihknfoncljbaaGreatDoorTie.lean); close each card by the builder's one call (the guide's Derived/Test/ToyasCard.lean, 'card_holds'). Laid BY PROGRAM, IN A SANDBOX (cutbox-door.mjs). By AI agents, Wed Nov 11 2026. No macro, syntax, notation, axiom, sorry.
-/
import Derived.Test.YtgihknfoncljbaaGreatDoorRows
import GoSem.ClaimSeven
namespace Go.Proofs.YtgihknfoncljbaaGreatDoor
namespace Rows

/-- THE TIED CARD OF 'portreevelaw36.RingOrder'. -/
def ringOrderCard : Claim7 := { stood := { row := ringOrderRow, standIns := [], harness := (true, "6307d43ae9dd840285ca537366836a5e599ddbe450a65e2834a749ddfe27af4a"), looks := false }, kinds := [], alts := [], laidByText := true, laidKinds := [.data], laidTests := true, laidLooks := .later }
def RingOrderCardSaid : Prop := Claim7.holds Tryz.pinned (.plain (OpenSpec.ofChange ringOrderSpec)) ringOrderCard

/-- THE TIED CARD OF 'portreevelaw36.RingReads'. -/
def ringReadsCard : Claim7 := { stood := { row := ringReadsRow, standIns := [], harness := (true, "6307d43ae9dd840285ca537366836a5e599ddbe450a65e2834a749ddfe27af4a"), looks := false }, kinds := [], alts := [], laidByText := true, laidKinds := [.data], laidTests := true, laidLooks := .later }
def RingReadsCardSaid : Prop := Claim7.holds Tryz.pinned (.plain (OpenSpec.ofChange ringReadsSpec)) ringReadsCard

/-- THE TIED CARD OF 'portreevelaw36.RingNone'. -/
def ringNoneCard : Claim7 := { stood := { row := ringNoneRow, standIns := [], harness := (true, "6307d43ae9dd840285ca537366836a5e599ddbe450a65e2834a749ddfe27af4a"), looks := false }, kinds := [], alts := [], laidByText := true, laidKinds := [.data], laidTests := true, laidLooks := .later }
def RingNoneCardSaid : Prop := Claim7.holds Tryz.pinned (.plain (OpenSpec.ofChange ringNoneSpec)) ringNoneCard

/-- THE SECOND FORM's CARD OF 'portreevelaw36.RingOrder'. -/
def ringOrderUptoCard : Claim7 := { stood := { row := ringOrderUptoRow, standIns := [], harness := (true, "6307d43ae9dd840285ca537366836a5e599ddbe450a65e2834a749ddfe27af4a"), looks := false }, kinds := [], alts := [], laidByText := true, laidKinds := [.data], laidTests := true, laidLooks := .later }
def RingOrderUptoCardSaid : Prop := Claim7.holds Tryz.pinned (.plain (OpenSpec.upto ringOrderSpec)) ringOrderUptoCard

/-- THE SECOND FORM's CARD OF 'portreevelaw36.RingReads'. -/
def ringReadsUptoCard : Claim7 := { stood := { row := ringReadsUptoRow, standIns := [], harness := (true, "6307d43ae9dd840285ca537366836a5e599ddbe450a65e2834a749ddfe27af4a"), looks := false }, kinds := [], alts := [], laidByText := true, laidKinds := [.data], laidTests := true, laidLooks := .later }
def RingReadsUptoCardSaid : Prop := Claim7.holds Tryz.pinned (.plain (OpenSpec.upto ringReadsSpec)) ringReadsUptoCard

/-- THE SECOND FORM's CARD OF 'portreevelaw36.RingNone'. -/
def ringNoneUptoCard : Claim7 := { stood := { row := ringNoneUptoRow, standIns := [], harness := (true, "6307d43ae9dd840285ca537366836a5e599ddbe450a65e2834a749ddfe27af4a"), looks := false }, kinds := [], alts := [], laidByText := true, laidKinds := [.data], laidTests := true, laidLooks := .later }
def RingNoneUptoCardSaid : Prop := Claim7.holds Tryz.pinned (.plain (OpenSpec.upto ringNoneSpec)) ringNoneUptoCard
end Rows
end Go.Proofs.YtgihknfoncljbaaGreatDoor
