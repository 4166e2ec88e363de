/-
  No cell of these rows narrows 'for every input' (looked for: loops, veiled, ifaces, maps, wideKeys, modest, calm, conditions, laid).
  DERIVED. THE GIVEN ROWS OF THIS SEAT. 4 by the template 'for every input the law returns true; each argument reads behind the call as it read before'; 0 by the template 'total and deterministic' (their statements: YtdeldhoeelijeaaTotals.lean).
  GIVEN WITH THE SEED: the statements are not yours to turn. If you find one false, say at which input.
  Laid BY PROGRAM, IN A SANDBOX (cutbox-rows.mjs): the forced cells as the released guide's own fill.sh prints them over the translation 546151724129e76b… (all of the seat's roots in one cut). By AI agents, Wed Nov 11 2026. No macro, syntax, notation, axiom, sorry.
-/
import Derived.Test.YtdeldhoeelijeaaChecked
import GoSem.Claim
import GoSem.ClaimJoined
import GoSem.ClaimMapViews
import Derived.JoinedTies
import Derived.KernelRfl
namespace Go.Proofs.Ytdeldhoeelijeaa
/- THE CELL 'sum', in the pinned program and in every row, IS THE sha256 OF THE DUMP (.gsa) THAT YtdeldhoeelijeaaProg.lean LOADS. Nothing in Lean hashes anything: it is a label: what it is worth is what the hold of that sum in a sandbox is worth. -/
noncomputable def Try.pinned : Pinned := { name := "ytdeldhoeelijeaa", sum := "546151724129e76bff3a1fa22cbdf3c730c45db66abfdcef02db6e7cf422ff5e", checked := Try.checked }
namespace Rows
def none {H : Type} : Left H := { results := [], args := [] }

/-- 'portreevelaw34.ColorTakes': WHATEVER THE INPUT: true; the input reads as it did. -/
def colorTakesSpec : ChangeSpec := { name := "colorTakes", fn := fun _ => fun
  | [d1, d2, d3, d4, d5] => { results := [.lit (.bool true)], args := [d1, d2, d3, d4, d5] }
  | _ => none }
def colorTakesRow : OpenClaim := { program := "ytdeldhoeelijeaa", sum := "546151724129e76bff3a1fa22cbdf3c730c45db66abfdcef02db6e7cf422ff5e", func := "portreeve/portreevelaw34.ColorTakes", spec := "colorTakes", inPlace := ["math/bits.Add64"], unfollowed := true, recurses := true, apart := false }
def ColorTakesSaid : Prop := colorTakesRow.holds Try.pinned (OpenSpec.ofChange colorTakesSpec)

/-- ITS FALSE NEIGHBOUR: 'it returns false'. Refute it at one input. -/
def colorTakesWrong : ChangeSpec := { name := "colorTakes", fn := fun _ => fun
  | [d1, d2, d3, d4, d5] => { results := [.lit (.bool false)], args := [d1, d2, d3, d4, d5] }
  | _ => none }
def ColorTakesWrongFalsely : Prop := colorTakesRow.holds Try.pinned (OpenSpec.ofChange colorTakesWrong)

/-- 'portreevelaw34.ColorApart': WHATEVER THE INPUT: true; the input reads as it did. -/
def colorApartSpec : ChangeSpec := { name := "colorApart", fn := fun _ => fun
  | [d1, d2, d3, d4, d5, d6] => { results := [.lit (.bool true)], args := [d1, d2, d3, d4, d5, d6] }
  | _ => none }
def colorApartRow : OpenClaim := { program := "ytdeldhoeelijeaa", sum := "546151724129e76bff3a1fa22cbdf3c730c45db66abfdcef02db6e7cf422ff5e", func := "portreeve/portreevelaw34.ColorApart", spec := "colorApart", inPlace := ["math/bits.Add64"], unfollowed := true, recurses := true, apart := false }
def ColorApartSaid : Prop := colorApartRow.holds Try.pinned (OpenSpec.ofChange colorApartSpec)

/-- ITS FALSE NEIGHBOUR: 'it returns false'. Refute it at one input. -/
def colorApartWrong : ChangeSpec := { name := "colorApart", fn := fun _ => fun
  | [d1, d2, d3, d4, d5, d6] => { results := [.lit (.bool false)], args := [d1, d2, d3, d4, d5, d6] }
  | _ => none }
def ColorApartWrongFalsely : Prop := colorApartRow.holds Try.pinned (OpenSpec.ofChange colorApartWrong)

/-- 'portreevelaw34.ColorCounts': WHATEVER THE INPUT: true; the input reads as it did. -/
def colorCountsSpec : ChangeSpec := { name := "colorCounts", fn := fun _ => fun
  | [d1, d2, d3, d4] => { results := [.lit (.bool true)], args := [d1, d2, d3, d4] }
  | _ => none }
def colorCountsRow : OpenClaim := { program := "ytdeldhoeelijeaa", sum := "546151724129e76bff3a1fa22cbdf3c730c45db66abfdcef02db6e7cf422ff5e", func := "portreeve/portreevelaw34.ColorCounts", spec := "colorCounts", inPlace := ["math/bits.Add64"], unfollowed := true, recurses := true, apart := false }
def ColorCountsSaid : Prop := colorCountsRow.holds Try.pinned (OpenSpec.ofChange colorCountsSpec)

/-- ITS FALSE NEIGHBOUR: 'it returns false'. Refute it at one input. -/
def colorCountsWrong : ChangeSpec := { name := "colorCounts", fn := fun _ => fun
  | [d1, d2, d3, d4] => { results := [.lit (.bool false)], args := [d1, d2, d3, d4] }
  | _ => none }
def ColorCountsWrongFalsely : Prop := colorCountsRow.holds Try.pinned (OpenSpec.ofChange colorCountsWrong)

/-- 'portreevelaw34.ColorMaps': WHATEVER THE INPUT: true; the input reads as it did. -/
def colorMapsSpec : ChangeSpec := { name := "colorMaps", fn := fun _ => fun
  | [d1, d2, d3] => { results := [.lit (.bool true)], args := [d1, d2, d3] }
  | _ => none }
def colorMapsRow : OpenClaim := { program := "ytdeldhoeelijeaa", sum := "546151724129e76bff3a1fa22cbdf3c730c45db66abfdcef02db6e7cf422ff5e", func := "portreeve/portreevelaw34.ColorMaps", spec := "colorMaps", inPlace := ["math/bits.Add64"], unfollowed := true, recurses := true, apart := false }
def ColorMapsSaid : Prop := colorMapsRow.holds Try.pinned (OpenSpec.ofChange colorMapsSpec)

/-- ITS FALSE NEIGHBOUR: 'it returns false'. Refute it at one input. -/
def colorMapsWrong : ChangeSpec := { name := "colorMaps", fn := fun _ => fun
  | [d1, d2, d3] => { results := [.lit (.bool false)], args := [d1, d2, d3] }
  | _ => none }
def ColorMapsWrongFalsely : Prop := colorMapsRow.holds Try.pinned (OpenSpec.ofChange colorMapsWrong)

/- THE SECOND FORM. 'bulk': how many values and letters a reading holds, each counted each time it is reached (what is shared counts as often as it is met; a slice's spare places count too). A statement '..UptoSaid' is the law's where the arguments, and the package variables that the reading takes, are together of bulk at most 1048576: NARROWER than '..Said'. Prove '..Said' where nothing that the law and all that it calls make is longer than what came in: it says more and counts as full. Else prove '..UptoSaid'. A law counts once. -/
mutual
def uptoBulk {H : Type} : DataW H → Nat
  | .lit (.string bytes) => bytes.length + 1
  | .lit _ => 1
  | .nil => 1
  | .ptr d => uptoBulk d + 1
  | .slice elems spare => uptoBulkAll elems + uptoBulkAll spare + 1
  | .agg parts => uptoBulkAll parts + 1
  | .iface _ d => uptoBulk d + 1
  | .map entries => uptoBulkEntries entries + 1
  | .held _ => 1
def uptoBulkAll {H : Type} : List (DataW H) → Nat
  | [] => 0
  | d :: r => uptoBulk d + uptoBulkAll r
def uptoBulkEntries {H : Type} : List (Lit × DataW H) → Nat
  | [] => 0
  | x :: r => uptoBulkEntry x + uptoBulkEntries r
def uptoBulkEntry {H : Type} : Lit × DataW H → Nat
  | (.string bytes, d) => bytes.length + uptoBulk d + 1
  | (_, d) => uptoBulk d + 1
 end
def uptoSmall : (H : Type) → List (DataW H) → Bool := fun _ ds => decide (uptoBulkAll ds ≤ 1048576)
def OpenSpec.upto (s : _root_.Go.ChangeSpec) : _root_.Go.OpenSpec := { _root_.Go.OpenSpec.ofChange s with cond := some uptoSmall }

/-- 'portreevelaw34.ColorTakes', WHERE WHAT IT READS IS OF BULK AT MOST 1048576: true; the input reads as it did. -/
def colorTakesUptoRow : OpenClaim := { program := "ytdeldhoeelijeaa", sum := "546151724129e76bff3a1fa22cbdf3c730c45db66abfdcef02db6e7cf422ff5e", func := "portreeve/portreevelaw34.ColorTakes", spec := "colorTakes", inPlace := ["math/bits.Add64"], unfollowed := true, recurses := true, apart := false, narrowed := true }
def ColorTakesUptoSaid : Prop := colorTakesUptoRow.holds Try.pinned (OpenSpec.upto colorTakesSpec)

/-- 'portreevelaw34.ColorApart', WHERE WHAT IT READS IS OF BULK AT MOST 1048576: true; the input reads as it did. -/
def colorApartUptoRow : OpenClaim := { program := "ytdeldhoeelijeaa", sum := "546151724129e76bff3a1fa22cbdf3c730c45db66abfdcef02db6e7cf422ff5e", func := "portreeve/portreevelaw34.ColorApart", spec := "colorApart", inPlace := ["math/bits.Add64"], unfollowed := true, recurses := true, apart := false, narrowed := true }
def ColorApartUptoSaid : Prop := colorApartUptoRow.holds Try.pinned (OpenSpec.upto colorApartSpec)

/-- 'portreevelaw34.ColorCounts', WHERE WHAT IT READS IS OF BULK AT MOST 1048576: true; the input reads as it did. -/
def colorCountsUptoRow : OpenClaim := { program := "ytdeldhoeelijeaa", sum := "546151724129e76bff3a1fa22cbdf3c730c45db66abfdcef02db6e7cf422ff5e", func := "portreeve/portreevelaw34.ColorCounts", spec := "colorCounts", inPlace := ["math/bits.Add64"], unfollowed := true, recurses := true, apart := false, narrowed := true }
def ColorCountsUptoSaid : Prop := colorCountsUptoRow.holds Try.pinned (OpenSpec.upto colorCountsSpec)

/-- 'portreevelaw34.ColorMaps', WHERE WHAT IT READS IS OF BULK AT MOST 1048576: true; the input reads as it did. -/
def colorMapsUptoRow : OpenClaim := { program := "ytdeldhoeelijeaa", sum := "546151724129e76bff3a1fa22cbdf3c730c45db66abfdcef02db6e7cf422ff5e", func := "portreeve/portreevelaw34.ColorMaps", spec := "colorMaps", inPlace := ["math/bits.Add64"], unfollowed := true, recurses := true, apart := false, narrowed := true }
def ColorMapsUptoSaid : Prop := colorMapsUptoRow.holds Try.pinned (OpenSpec.upto colorMapsSpec)

end Rows
end Go.Proofs.Ytdeldhoeelijeaa
