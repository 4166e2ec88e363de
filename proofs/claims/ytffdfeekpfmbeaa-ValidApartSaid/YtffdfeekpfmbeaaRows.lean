/-
  No cell of these rows narrows 'for every input' (looked for: loops, veiled, ifaces, maps, wideKeys, modest, calm, conditions, laid).
  DERIVED. THE GIVEN ROWS OF THIS SEAT. 4 by the template 'for every input the law returns true; each argument reads behind the call as it read before'; 0 by the template 'total and deterministic' (their statements: YtffdfeekpfmbeaaTotals.lean).
  GIVEN WITH THE SEED: the statements are not yours to turn. If you find one false, say at which input.
  Laid BY PROGRAM, IN A SANDBOX (cutbox-rows.mjs): the forced cells as the released guide's own fill.sh prints them over the translation a9bdef4d23bc3755… (all of the seat's roots in one cut). By AI agents, Wed Nov 11 2026. No macro, syntax, notation, axiom, sorry.
-/
import Derived.Test.YtffdfeekpfmbeaaChecked
import GoSem.Claim
import GoSem.ClaimJoined
import GoSem.ClaimMapViews
import Derived.JoinedTies
import Derived.KernelRfl
namespace Go.Proofs.Ytffdfeekpfmbeaa
/- THE CELL 'sum', in the pinned program and in every row, IS THE sha256 OF THE DUMP (.gsa) THAT YtffdfeekpfmbeaaProg.lean LOADS. Nothing in Lean hashes anything: it is a label: what it is worth is what the hold of that sum in a sandbox is worth. -/
noncomputable def Try.pinned : Pinned := { name := "ytffdfeekpfmbeaa", sum := "a9bdef4d23bc375501d22c4c39dce8471764756a5dd9d1cefd5f6e15f779def5", checked := Try.checked }
namespace Rows
def none {H : Type} : Left H := { results := [], args := [] }

/-- 'portreevelaw17.ValidApart': WHATEVER THE INPUT: true; the input reads as it did. -/
def validApartSpec : ChangeSpec := { name := "validApart", fn := fun _ => fun
  | [d1, d2] => { results := [.lit (.bool true)], args := [d1, d2] }
  | _ => none }
def validApartRow : OpenClaim := { program := "ytffdfeekpfmbeaa", sum := "a9bdef4d23bc375501d22c4c39dce8471764756a5dd9d1cefd5f6e15f779def5", func := "portreeve/portreevelaw17.ValidApart", spec := "validApart", unfollowed := true, recurses := true, apart := false }
def ValidApartSaid : Prop := validApartRow.holds Try.pinned (OpenSpec.ofChange validApartSpec)

/-- ITS FALSE NEIGHBOUR: 'it returns false'. Refute it at one input. -/
def validApartWrong : ChangeSpec := { name := "validApart", fn := fun _ => fun
  | [d1, d2] => { results := [.lit (.bool false)], args := [d1, d2] }
  | _ => none }
def ValidApartWrongFalsely : Prop := validApartRow.holds Try.pinned (OpenSpec.ofChange validApartWrong)

/-- 'portreevelaw17.ValidMaps': WHATEVER THE INPUT: true; the input reads as it did. -/
def validMapsSpec : ChangeSpec := { name := "validMaps", fn := fun _ => fun
  | [d1, d2] => { results := [.lit (.bool true)], args := [d1, d2] }
  | _ => none }
def validMapsRow : OpenClaim := { program := "ytffdfeekpfmbeaa", sum := "a9bdef4d23bc375501d22c4c39dce8471764756a5dd9d1cefd5f6e15f779def5", func := "portreeve/portreevelaw17.ValidMaps", spec := "validMaps", unfollowed := true, recurses := true, apart := false }
def ValidMapsSaid : Prop := validMapsRow.holds Try.pinned (OpenSpec.ofChange validMapsSpec)

/-- ITS FALSE NEIGHBOUR: 'it returns false'. Refute it at one input. -/
def validMapsWrong : ChangeSpec := { name := "validMaps", fn := fun _ => fun
  | [d1, d2] => { results := [.lit (.bool false)], args := [d1, d2] }
  | _ => none }
def ValidMapsWrongFalsely : Prop := validMapsRow.holds Try.pinned (OpenSpec.ofChange validMapsWrong)

/-- 'portreevelaw17.ValidSmall': WHATEVER THE INPUT: true; the input reads as it did. -/
def validSmallSpec : ChangeSpec := { name := "validSmall", fn := fun _ => fun
  | [d1, d2] => { results := [.lit (.bool true)], args := [d1, d2] }
  | _ => none }
def validSmallRow : OpenClaim := { program := "ytffdfeekpfmbeaa", sum := "a9bdef4d23bc375501d22c4c39dce8471764756a5dd9d1cefd5f6e15f779def5", func := "portreeve/portreevelaw17.ValidSmall", spec := "validSmall", unfollowed := true, recurses := true, apart := false }
def ValidSmallSaid : Prop := validSmallRow.holds Try.pinned (OpenSpec.ofChange validSmallSpec)

/-- ITS FALSE NEIGHBOUR: 'it returns false'. Refute it at one input. -/
def validSmallWrong : ChangeSpec := { name := "validSmall", fn := fun _ => fun
  | [d1, d2] => { results := [.lit (.bool false)], args := [d1, d2] }
  | _ => none }
def ValidSmallWrongFalsely : Prop := validSmallRow.holds Try.pinned (OpenSpec.ofChange validSmallWrong)

/-- 'portreevelaw17.ValidOwners': WHATEVER THE INPUT: true; the input reads as it did. -/
def validOwnersSpec : ChangeSpec := { name := "validOwners", fn := fun _ => fun
  | [d1, d2] => { results := [.lit (.bool true)], args := [d1, d2] }
  | _ => none }
def validOwnersRow : OpenClaim := { program := "ytffdfeekpfmbeaa", sum := "a9bdef4d23bc375501d22c4c39dce8471764756a5dd9d1cefd5f6e15f779def5", func := "portreeve/portreevelaw17.ValidOwners", spec := "validOwners", unfollowed := true, recurses := true, apart := false }
def ValidOwnersSaid : Prop := validOwnersRow.holds Try.pinned (OpenSpec.ofChange validOwnersSpec)

/-- ITS FALSE NEIGHBOUR: 'it returns false'. Refute it at one input. -/
def validOwnersWrong : ChangeSpec := { name := "validOwners", fn := fun _ => fun
  | [d1, d2] => { results := [.lit (.bool false)], args := [d1, d2] }
  | _ => none }
def ValidOwnersWrongFalsely : Prop := validOwnersRow.holds Try.pinned (OpenSpec.ofChange validOwnersWrong)

/- THE SECOND FORM. 'bulk': how many values and letters a reading holds, each counted each time it is reached (what is shared counts as often as it is met; a slice's spare places count too). A statement '..UptoSaid' is the law's where the arguments, and the package variables that the reading takes, are together of bulk at most 1048576: NARROWER than '..Said'. Prove '..Said' where nothing that the law and all that it calls make is longer than what came in: it says more and counts as full. Else prove '..UptoSaid'. A law counts once. -/
mutual
def uptoBulk {H : Type} : DataW H → Nat
  | .lit (.string bytes) => bytes.length + 1
  | .lit _ => 1
  | .nil => 1
  | .ptr d => uptoBulk d + 1
  | .slice elems spare => uptoBulkAll elems + uptoBulkAll spare + 1
  | .agg parts => uptoBulkAll parts + 1
  | .iface _ d => uptoBulk d + 1
  | .map entries => uptoBulkEntries entries + 1
  | .held _ => 1
def uptoBulkAll {H : Type} : List (DataW H) → Nat
  | [] => 0
  | d :: r => uptoBulk d + uptoBulkAll r
def uptoBulkEntries {H : Type} : List (Lit × DataW H) → Nat
  | [] => 0
  | x :: r => uptoBulkEntry x + uptoBulkEntries r
def uptoBulkEntry {H : Type} : Lit × DataW H → Nat
  | (.string bytes, d) => bytes.length + uptoBulk d + 1
  | (_, d) => uptoBulk d + 1
 end
def uptoSmall : (H : Type) → List (DataW H) → Bool := fun _ ds => decide (uptoBulkAll ds ≤ 1048576)
def OpenSpec.upto (s : _root_.Go.ChangeSpec) : _root_.Go.OpenSpec := { _root_.Go.OpenSpec.ofChange s with cond := some uptoSmall }

/-- 'portreevelaw17.ValidApart', WHERE WHAT IT READS IS OF BULK AT MOST 1048576: true; the input reads as it did. -/
def validApartUptoRow : OpenClaim := { program := "ytffdfeekpfmbeaa", sum := "a9bdef4d23bc375501d22c4c39dce8471764756a5dd9d1cefd5f6e15f779def5", func := "portreeve/portreevelaw17.ValidApart", spec := "validApart", unfollowed := true, recurses := true, apart := false, narrowed := true }
def ValidApartUptoSaid : Prop := validApartUptoRow.holds Try.pinned (OpenSpec.upto validApartSpec)

/-- 'portreevelaw17.ValidMaps', WHERE WHAT IT READS IS OF BULK AT MOST 1048576: true; the input reads as it did. -/
def validMapsUptoRow : OpenClaim := { program := "ytffdfeekpfmbeaa", sum := "a9bdef4d23bc375501d22c4c39dce8471764756a5dd9d1cefd5f6e15f779def5", func := "portreeve/portreevelaw17.ValidMaps", spec := "validMaps", unfollowed := true, recurses := true, apart := false, narrowed := true }
def ValidMapsUptoSaid : Prop := validMapsUptoRow.holds Try.pinned (OpenSpec.upto validMapsSpec)

/-- 'portreevelaw17.ValidSmall', WHERE WHAT IT READS IS OF BULK AT MOST 1048576: true; the input reads as it did. -/
def validSmallUptoRow : OpenClaim := { program := "ytffdfeekpfmbeaa", sum := "a9bdef4d23bc375501d22c4c39dce8471764756a5dd9d1cefd5f6e15f779def5", func := "portreeve/portreevelaw17.ValidSmall", spec := "validSmall", unfollowed := true, recurses := true, apart := false, narrowed := true }
def ValidSmallUptoSaid : Prop := validSmallUptoRow.holds Try.pinned (OpenSpec.upto validSmallSpec)

/-- 'portreevelaw17.ValidOwners', WHERE WHAT IT READS IS OF BULK AT MOST 1048576: true; the input reads as it did. -/
def validOwnersUptoRow : OpenClaim := { program := "ytffdfeekpfmbeaa", sum := "a9bdef4d23bc375501d22c4c39dce8471764756a5dd9d1cefd5f6e15f779def5", func := "portreeve/portreevelaw17.ValidOwners", spec := "validOwners", unfollowed := true, recurses := true, apart := false, narrowed := true }
def ValidOwnersUptoSaid : Prop := validOwnersUptoRow.holds Try.pinned (OpenSpec.upto validOwnersSpec)

end Rows
end Go.Proofs.Ytffdfeekpfmbeaa
