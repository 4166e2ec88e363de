/-
  DERIVED. GIVEN WITH THE SEED: THE CARDS: each row of YtnoojpipohdidaaDoorRows.lean that lists a variable, with what it lists TIED to the program's text (the seventh form; the later family's looks); each row that meets fmt, with fmt's text TOLD by the authors' own Lean function (tested against real Go, not proved from fmt's source: count such statements apart). THE CARD IS WHAT COUNTS. Prove the row's statement (the work); the ties are given (YtnoojpipohdidaaDoorTie.lean); close each card by the builder's one call (the guide's Derived/Test/ToyasCard.lean, 'card_holds'). Laid BY PROGRAM, IN A SANDBOX (cutbox-door.mjs). By AI agents, Wed Nov 11 2026. No macro, syntax, notation, axiom, sorry.
-/
import Derived.Test.YtnoojpipohdidaaDoorRows
import GoSem.ClaimSeven
namespace Go.Proofs.YtnoojpipohdidaaDoor
namespace Rows

/-- THE TIED CARD OF 'portreevelaw18.DescReads'. -/
def descReadsCard : Claim7 := { stood := { row := descReadsRow, standIns := [], harness := (true, "14c1c609fa6437c712f54fd3c358619cbed0a081542ec8a47adaf52fcca606ae"), looks := false }, kinds := [], alts := [], laidByText := true, laidKinds := [.data], laidTests := true, laidLooks := .later }
def DescReadsCardSaid : Prop := Claim7.holds Tryd.pinned (.plain (OpenSpec.ofChange descReadsSpec)) descReadsCard

/-- THE TIED CARD OF 'portreevelaw18.DescFields'. -/
def descFieldsCard : Claim7 := { stood := { row := descFieldsRow, standIns := [], harness := (true, "14c1c609fa6437c712f54fd3c358619cbed0a081542ec8a47adaf52fcca606ae"), looks := false }, kinds := [], alts := [], laidByText := true, laidKinds := [.data], laidTests := true, laidLooks := .later }
def DescFieldsCardSaid : Prop := Claim7.holds Tryd.pinned (.plain (OpenSpec.ofChange descFieldsSpec)) descFieldsCard

/-- THE TIED CARD OF 'portreevelaw18.DescBack'. -/
def descBackCard : Claim7 := { stood := { row := descBackRow, standIns := [], harness := (true, "14c1c609fa6437c712f54fd3c358619cbed0a081542ec8a47adaf52fcca606ae"), looks := false }, kinds := [], alts := [], laidByText := true, laidKinds := [.data], laidTests := true, laidLooks := .later }
def DescBackCardSaid : Prop := Claim7.holds Tryd.pinned (.plain (OpenSpec.ofChange descBackSpec)) descBackCard

/-- THE TIED CARD OF 'portreevelaw18.DescOnce'. -/
def descOnceCard : Claim7 := { stood := { row := descOnceRow, standIns := [], harness := (true, "14c1c609fa6437c712f54fd3c358619cbed0a081542ec8a47adaf52fcca606ae"), looks := false }, kinds := [], alts := [], laidByText := true, laidKinds := [.data], laidTests := true, laidLooks := .later }
def DescOnceCardSaid : Prop := Claim7.holds Tryd.pinned (.plain (OpenSpec.ofChange descOnceSpec)) descOnceCard

/-- THE SECOND FORM's CARD OF 'portreevelaw18.DescReads'. -/
def descReadsUptoCard : Claim7 := { stood := { row := descReadsUptoRow, standIns := [], harness := (true, "14c1c609fa6437c712f54fd3c358619cbed0a081542ec8a47adaf52fcca606ae"), looks := false }, kinds := [], alts := [], laidByText := true, laidKinds := [.data], laidTests := true, laidLooks := .later }
def DescReadsUptoCardSaid : Prop := Claim7.holds Tryd.pinned (.plain (OpenSpec.upto descReadsSpec)) descReadsUptoCard

/-- THE SECOND FORM's CARD OF 'portreevelaw18.DescFields'. -/
def descFieldsUptoCard : Claim7 := { stood := { row := descFieldsUptoRow, standIns := [], harness := (true, "14c1c609fa6437c712f54fd3c358619cbed0a081542ec8a47adaf52fcca606ae"), looks := false }, kinds := [], alts := [], laidByText := true, laidKinds := [.data], laidTests := true, laidLooks := .later }
def DescFieldsUptoCardSaid : Prop := Claim7.holds Tryd.pinned (.plain (OpenSpec.upto descFieldsSpec)) descFieldsUptoCard

/-- THE SECOND FORM's CARD OF 'portreevelaw18.DescBack'. -/
def descBackUptoCard : Claim7 := { stood := { row := descBackUptoRow, standIns := [], harness := (true, "14c1c609fa6437c712f54fd3c358619cbed0a081542ec8a47adaf52fcca606ae"), looks := false }, kinds := [], alts := [], laidByText := true, laidKinds := [.data], laidTests := true, laidLooks := .later }
def DescBackUptoCardSaid : Prop := Claim7.holds Tryd.pinned (.plain (OpenSpec.upto descBackSpec)) descBackUptoCard

/-- THE SECOND FORM's CARD OF 'portreevelaw18.DescOnce'. -/
def descOnceUptoCard : Claim7 := { stood := { row := descOnceUptoRow, standIns := [], harness := (true, "14c1c609fa6437c712f54fd3c358619cbed0a081542ec8a47adaf52fcca606ae"), looks := false }, kinds := [], alts := [], laidByText := true, laidKinds := [.data], laidTests := true, laidLooks := .later }
def DescOnceUptoCardSaid : Prop := Claim7.holds Tryd.pinned (.plain (OpenSpec.upto descOnceSpec)) descOnceUptoCard
end Rows
end Go.Proofs.YtnoojpipohdidaaDoor
