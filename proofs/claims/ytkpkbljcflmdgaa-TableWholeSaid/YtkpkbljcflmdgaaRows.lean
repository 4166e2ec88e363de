/-
  No cell of these rows narrows 'for every input' (looked for: loops, veiled, ifaces, maps, wideKeys, modest, calm, conditions, laid).
  DERIVED. THE GIVEN ROWS OF THIS SEAT. 2 by the template 'for every input the law returns true; each argument reads behind the call as it read before'; 0 by the template 'total and deterministic' (their statements: YtkpkbljcflmdgaaTotals.lean).
  GIVEN WITH THE SEED: the statements are not yours to turn. If you find one false, say at which input.
  Laid BY PROGRAM, IN A SANDBOX (cutbox-rows.mjs): the forced cells as the released guide's own fill.sh prints them over the translation 19e7a248567922d5… (all of the seat's roots in one cut). By AI agents, Wed Nov 11 2026. No macro, syntax, notation, axiom, sorry.
-/
import Derived.Test.YtkpkbljcflmdgaaChecked
import GoSem.Claim
import GoSem.ClaimJoined
import GoSem.ClaimMapViews
import Derived.JoinedTies
import Derived.KernelRfl
namespace Go.Proofs.Ytkpkbljcflmdgaa
/- THE CELL 'sum', in the pinned program and in every row, IS THE sha256 OF THE DUMP (.gsa) THAT YtkpkbljcflmdgaaProg.lean LOADS. Nothing in Lean hashes anything: it is a label: what it is worth is what the hold of that sum in a sandbox is worth. -/
noncomputable def Try.pinned : Pinned := { name := "ytkpkbljcflmdgaa", sum := "19e7a248567922d53ef9d42e9930ea6f7680bac555d8d26faaf7692c66a83593", checked := Try.checked }
namespace Rows
def none {H : Type} : Left H := { results := [], args := [] }

/-- 'portreevelaw19.TablePieces': WHATEVER THE INPUT: true; the input reads as it did. -/
def tablePiecesSpec : ChangeSpec := { name := "tablePieces", fn := fun _ => fun
  | [d] => { results := [.lit (.bool true)], args := [d] }
  | _ => none }
def tablePiecesRow : OpenClaim := { program := "ytkpkbljcflmdgaa", sum := "19e7a248567922d53ef9d42e9930ea6f7680bac555d8d26faaf7692c66a83593", func := "portreeve/portreevelaw19.TablePieces", spec := "tablePieces", unfollowed := true, recurses := true, plainKeys := false, apart := false }
def TablePiecesSaid : Prop := tablePiecesRow.holds Try.pinned (OpenSpec.ofChange tablePiecesSpec)

/-- ITS FALSE NEIGHBOUR: 'it returns false'. Refute it at one input. -/
def tablePiecesWrong : ChangeSpec := { name := "tablePieces", fn := fun _ => fun
  | [d] => { results := [.lit (.bool false)], args := [d] }
  | _ => none }
def TablePiecesWrongFalsely : Prop := tablePiecesRow.holds Try.pinned (OpenSpec.ofChange tablePiecesWrong)

/-- 'portreevelaw19.TableWhole': WHATEVER THE INPUT: true; the input reads as it did. -/
def tableWholeSpec : ChangeSpec := { name := "tableWhole", fn := fun _ => fun
  | [d] => { results := [.lit (.bool true)], args := [d] }
  | _ => none }
def tableWholeRow : OpenClaim := { program := "ytkpkbljcflmdgaa", sum := "19e7a248567922d53ef9d42e9930ea6f7680bac555d8d26faaf7692c66a83593", func := "portreeve/portreevelaw19.TableWhole", spec := "tableWhole", unfollowed := true, recurses := true, plainKeys := false, apart := false }
def TableWholeSaid : Prop := tableWholeRow.holds Try.pinned (OpenSpec.ofChange tableWholeSpec)

/-- ITS FALSE NEIGHBOUR: 'it returns false'. Refute it at one input. -/
def tableWholeWrong : ChangeSpec := { name := "tableWhole", fn := fun _ => fun
  | [d] => { results := [.lit (.bool false)], args := [d] }
  | _ => none }
def TableWholeWrongFalsely : Prop := tableWholeRow.holds Try.pinned (OpenSpec.ofChange tableWholeWrong)

/- THE SECOND FORM. 'bulk': how many values and letters a reading holds, each counted each time it is reached (what is shared counts as often as it is met; a slice's spare places count too). A statement '..UptoSaid' is the law's where the arguments, and the package variables that the reading takes, are together of bulk at most 1048576: NARROWER than '..Said'. Prove '..Said' where nothing that the law and all that it calls make is longer than what came in: it says more and counts as full. Else prove '..UptoSaid'. A law counts once. -/
mutual
def uptoBulk {H : Type} : DataW H → Nat
  | .lit (.string bytes) => bytes.length + 1
  | .lit _ => 1
  | .nil => 1
  | .ptr d => uptoBulk d + 1
  | .slice elems spare => uptoBulkAll elems + uptoBulkAll spare + 1
  | .agg parts => uptoBulkAll parts + 1
  | .iface _ d => uptoBulk d + 1
  | .map entries => uptoBulkEntries entries + 1
  | .held _ => 1
def uptoBulkAll {H : Type} : List (DataW H) → Nat
  | [] => 0
  | d :: r => uptoBulk d + uptoBulkAll r
def uptoBulkEntries {H : Type} : List (Lit × DataW H) → Nat
  | [] => 0
  | x :: r => uptoBulkEntry x + uptoBulkEntries r
def uptoBulkEntry {H : Type} : Lit × DataW H → Nat
  | (.string bytes, d) => bytes.length + uptoBulk d + 1
  | (_, d) => uptoBulk d + 1
 end
def uptoSmall : (H : Type) → List (DataW H) → Bool := fun _ ds => decide (uptoBulkAll ds ≤ 1048576)
def OpenSpec.upto (s : _root_.Go.ChangeSpec) : _root_.Go.OpenSpec := { _root_.Go.OpenSpec.ofChange s with cond := some uptoSmall }

/-- 'portreevelaw19.TablePieces', WHERE WHAT IT READS IS OF BULK AT MOST 1048576: true; the input reads as it did. -/
def tablePiecesUptoRow : OpenClaim := { program := "ytkpkbljcflmdgaa", sum := "19e7a248567922d53ef9d42e9930ea6f7680bac555d8d26faaf7692c66a83593", func := "portreeve/portreevelaw19.TablePieces", spec := "tablePieces", unfollowed := true, recurses := true, plainKeys := false, apart := false, narrowed := true }
def TablePiecesUptoSaid : Prop := tablePiecesUptoRow.holds Try.pinned (OpenSpec.upto tablePiecesSpec)

/-- 'portreevelaw19.TableWhole', WHERE WHAT IT READS IS OF BULK AT MOST 1048576: true; the input reads as it did. -/
def tableWholeUptoRow : OpenClaim := { program := "ytkpkbljcflmdgaa", sum := "19e7a248567922d53ef9d42e9930ea6f7680bac555d8d26faaf7692c66a83593", func := "portreeve/portreevelaw19.TableWhole", spec := "tableWhole", unfollowed := true, recurses := true, plainKeys := false, apart := false, narrowed := true }
def TableWholeUptoSaid : Prop := tableWholeUptoRow.holds Try.pinned (OpenSpec.upto tableWholeSpec)

end Rows
end Go.Proofs.Ytkpkbljcflmdgaa
