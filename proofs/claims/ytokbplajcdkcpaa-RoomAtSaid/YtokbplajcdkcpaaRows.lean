/-
  No cell of these rows narrows 'for every input' (looked for: loops, veiled, ifaces, maps, wideKeys, modest, calm, conditions, laid).
  DERIVED. THE GIVEN ROWS OF THIS SEAT. 8 by the template 'for every input the law returns true; each argument reads behind the call as it read before'; 0 by the template 'total and deterministic' (their statements: YtokbplajcdkcpaaTotals.lean).
  GIVEN WITH THE SEED: the statements are not yours to turn. If you find one false, say at which input.
  Laid BY PROGRAM, IN A SANDBOX (cutbox-rows.mjs): the forced cells as the released guide's own fill.sh prints them over the translation 5bc2aefc2b3db54d… (all of the seat's roots in one cut). By AI agents, Wed Nov 11 2026. No macro, syntax, notation, axiom, sorry.
-/
import Derived.Test.YtokbplajcdkcpaaChecked
import GoSem.Claim
import GoSem.ClaimJoined
import GoSem.ClaimMapViews
import Derived.JoinedTies
import Derived.KernelRfl
namespace Go.Proofs.Ytokbplajcdkcpaa
/- THE CELL 'sum', in the pinned program and in every row, IS THE sha256 OF THE DUMP (.gsa) THAT YtokbplajcdkcpaaProg.lean LOADS. Nothing in Lean hashes anything: it is a label: what it is worth is what the hold of that sum in a sandbox is worth. -/
noncomputable def Try.pinned : Pinned := { name := "ytokbplajcdkcpaa", sum := "5bc2aefc2b3db54d15dbdd11b31c8d85711bb5c74b4d1e0b48b1dfae9df3e43d", checked := Try.checked }
namespace Rows
def none {H : Type} : Left H := { results := [], args := [] }

/-- 'portreevelaw16.RoomMaps': WHATEVER THE INPUT: true; the input reads as it did. -/
def roomMapsSpec : ChangeSpec := { name := "roomMaps", fn := fun _ => fun
  | [d1, d2] => { results := [.lit (.bool true)], args := [d1, d2] }
  | _ => none }
def roomMapsRow : OpenClaim := { program := "ytokbplajcdkcpaa", sum := "5bc2aefc2b3db54d15dbdd11b31c8d85711bb5c74b4d1e0b48b1dfae9df3e43d", func := "portreeve/portreevelaw16.RoomMaps", spec := "roomMaps", unfollowed := true, recurses := true, apart := false }
def RoomMapsSaid : Prop := roomMapsRow.holds Try.pinned (OpenSpec.ofChange roomMapsSpec)

/-- ITS FALSE NEIGHBOUR: 'it returns false'. Refute it at one input. -/
def roomMapsWrong : ChangeSpec := { name := "roomMaps", fn := fun _ => fun
  | [d1, d2] => { results := [.lit (.bool false)], args := [d1, d2] }
  | _ => none }
def RoomMapsWrongFalsely : Prop := roomMapsRow.holds Try.pinned (OpenSpec.ofChange roomMapsWrong)

/-- 'portreevelaw16.RoomOnce': WHATEVER THE INPUT: true; the input reads as it did. -/
def roomOnceSpec : ChangeSpec := { name := "roomOnce", fn := fun _ => fun
  | [d1, d2, d3] => { results := [.lit (.bool true)], args := [d1, d2, d3] }
  | _ => none }
def roomOnceRow : OpenClaim := { program := "ytokbplajcdkcpaa", sum := "5bc2aefc2b3db54d15dbdd11b31c8d85711bb5c74b4d1e0b48b1dfae9df3e43d", func := "portreeve/portreevelaw16.RoomOnce", spec := "roomOnce", unfollowed := true, recurses := true, apart := false }
def RoomOnceSaid : Prop := roomOnceRow.holds Try.pinned (OpenSpec.ofChange roomOnceSpec)

/-- ITS FALSE NEIGHBOUR: 'it returns false'. Refute it at one input. -/
def roomOnceWrong : ChangeSpec := { name := "roomOnce", fn := fun _ => fun
  | [d1, d2, d3] => { results := [.lit (.bool false)], args := [d1, d2, d3] }
  | _ => none }
def RoomOnceWrongFalsely : Prop := roomOnceRow.holds Try.pinned (OpenSpec.ofChange roomOnceWrong)

/-- 'portreevelaw16.RoomSpans': WHATEVER THE INPUT: true; the input reads as it did. -/
def roomSpansSpec : ChangeSpec := { name := "roomSpans", fn := fun _ => fun
  | [d1, d2] => { results := [.lit (.bool true)], args := [d1, d2] }
  | _ => none }
def roomSpansRow : OpenClaim := { program := "ytokbplajcdkcpaa", sum := "5bc2aefc2b3db54d15dbdd11b31c8d85711bb5c74b4d1e0b48b1dfae9df3e43d", func := "portreeve/portreevelaw16.RoomSpans", spec := "roomSpans", unfollowed := true, recurses := true, apart := false }
def RoomSpansSaid : Prop := roomSpansRow.holds Try.pinned (OpenSpec.ofChange roomSpansSpec)

/-- ITS FALSE NEIGHBOUR: 'it returns false'. Refute it at one input. -/
def roomSpansWrong : ChangeSpec := { name := "roomSpans", fn := fun _ => fun
  | [d1, d2] => { results := [.lit (.bool false)], args := [d1, d2] }
  | _ => none }
def RoomSpansWrongFalsely : Prop := roomSpansRow.holds Try.pinned (OpenSpec.ofChange roomSpansWrong)

/-- 'portreevelaw16.RoomAt': WHATEVER THE INPUT: true; the input reads as it did. -/
def roomAtSpec : ChangeSpec := { name := "roomAt", fn := fun _ => fun
  | [d1, d2] => { results := [.lit (.bool true)], args := [d1, d2] }
  | _ => none }
def roomAtRow : OpenClaim := { program := "ytokbplajcdkcpaa", sum := "5bc2aefc2b3db54d15dbdd11b31c8d85711bb5c74b4d1e0b48b1dfae9df3e43d", func := "portreeve/portreevelaw16.RoomAt", spec := "roomAt", unfollowed := true, recurses := true, apart := false }
def RoomAtSaid : Prop := roomAtRow.holds Try.pinned (OpenSpec.ofChange roomAtSpec)

/-- ITS FALSE NEIGHBOUR: 'it returns false'. Refute it at one input. -/
def roomAtWrong : ChangeSpec := { name := "roomAt", fn := fun _ => fun
  | [d1, d2] => { results := [.lit (.bool false)], args := [d1, d2] }
  | _ => none }
def RoomAtWrongFalsely : Prop := roomAtRow.holds Try.pinned (OpenSpec.ofChange roomAtWrong)

/-- 'portreevelaw17.ValidApart': WHATEVER THE INPUT: true; the input reads as it did. -/
def validApartSpec : ChangeSpec := { name := "validApart", fn := fun _ => fun
  | [d1, d2] => { results := [.lit (.bool true)], args := [d1, d2] }
  | _ => none }
def validApartRow : OpenClaim := { program := "ytokbplajcdkcpaa", sum := "5bc2aefc2b3db54d15dbdd11b31c8d85711bb5c74b4d1e0b48b1dfae9df3e43d", func := "portreeve/portreevelaw17.ValidApart", spec := "validApart", unfollowed := true, recurses := true, apart := false }
def ValidApartSaid : Prop := validApartRow.holds Try.pinned (OpenSpec.ofChange validApartSpec)

/-- ITS FALSE NEIGHBOUR: 'it returns false'. Refute it at one input. -/
def validApartWrong : ChangeSpec := { name := "validApart", fn := fun _ => fun
  | [d1, d2] => { results := [.lit (.bool false)], args := [d1, d2] }
  | _ => none }
def ValidApartWrongFalsely : Prop := validApartRow.holds Try.pinned (OpenSpec.ofChange validApartWrong)

/-- 'portreevelaw17.ValidMaps': WHATEVER THE INPUT: true; the input reads as it did. -/
def validMapsSpec : ChangeSpec := { name := "validMaps", fn := fun _ => fun
  | [d1, d2] => { results := [.lit (.bool true)], args := [d1, d2] }
  | _ => none }
def validMapsRow : OpenClaim := { program := "ytokbplajcdkcpaa", sum := "5bc2aefc2b3db54d15dbdd11b31c8d85711bb5c74b4d1e0b48b1dfae9df3e43d", func := "portreeve/portreevelaw17.ValidMaps", spec := "validMaps", unfollowed := true, recurses := true, apart := false }
def ValidMapsSaid : Prop := validMapsRow.holds Try.pinned (OpenSpec.ofChange validMapsSpec)

/-- ITS FALSE NEIGHBOUR: 'it returns false'. Refute it at one input. -/
def validMapsWrong : ChangeSpec := { name := "validMaps", fn := fun _ => fun
  | [d1, d2] => { results := [.lit (.bool false)], args := [d1, d2] }
  | _ => none }
def ValidMapsWrongFalsely : Prop := validMapsRow.holds Try.pinned (OpenSpec.ofChange validMapsWrong)

/-- 'portreevelaw17.ValidSmall': WHATEVER THE INPUT: true; the input reads as it did. -/
def validSmallSpec : ChangeSpec := { name := "validSmall", fn := fun _ => fun
  | [d1, d2] => { results := [.lit (.bool true)], args := [d1, d2] }
  | _ => none }
def validSmallRow : OpenClaim := { program := "ytokbplajcdkcpaa", sum := "5bc2aefc2b3db54d15dbdd11b31c8d85711bb5c74b4d1e0b48b1dfae9df3e43d", func := "portreeve/portreevelaw17.ValidSmall", spec := "validSmall", unfollowed := true, recurses := true, apart := false }
def ValidSmallSaid : Prop := validSmallRow.holds Try.pinned (OpenSpec.ofChange validSmallSpec)

/-- ITS FALSE NEIGHBOUR: 'it returns false'. Refute it at one input. -/
def validSmallWrong : ChangeSpec := { name := "validSmall", fn := fun _ => fun
  | [d1, d2] => { results := [.lit (.bool false)], args := [d1, d2] }
  | _ => none }
def ValidSmallWrongFalsely : Prop := validSmallRow.holds Try.pinned (OpenSpec.ofChange validSmallWrong)

/-- 'portreevelaw17.ValidOwners': WHATEVER THE INPUT: true; the input reads as it did. -/
def validOwnersSpec : ChangeSpec := { name := "validOwners", fn := fun _ => fun
  | [d1, d2] => { results := [.lit (.bool true)], args := [d1, d2] }
  | _ => none }
def validOwnersRow : OpenClaim := { program := "ytokbplajcdkcpaa", sum := "5bc2aefc2b3db54d15dbdd11b31c8d85711bb5c74b4d1e0b48b1dfae9df3e43d", func := "portreeve/portreevelaw17.ValidOwners", spec := "validOwners", unfollowed := true, recurses := true, apart := false }
def ValidOwnersSaid : Prop := validOwnersRow.holds Try.pinned (OpenSpec.ofChange validOwnersSpec)

/-- ITS FALSE NEIGHBOUR: 'it returns false'. Refute it at one input. -/
def validOwnersWrong : ChangeSpec := { name := "validOwners", fn := fun _ => fun
  | [d1, d2] => { results := [.lit (.bool false)], args := [d1, d2] }
  | _ => none }
def ValidOwnersWrongFalsely : Prop := validOwnersRow.holds Try.pinned (OpenSpec.ofChange validOwnersWrong)

/- THE SECOND FORM. 'bulk': how many values and letters a reading holds, each counted each time it is reached (what is shared counts as often as it is met; a slice's spare places count too). A statement '..UptoSaid' is the law's where the arguments, and the package variables that the reading takes, are together of bulk at most 1048576: NARROWER than '..Said'. Prove '..Said' where nothing that the law and all that it calls make is longer than what came in: it says more and counts as full. Else prove '..UptoSaid'. A law counts once. -/
mutual
def uptoBulk {H : Type} : DataW H → Nat
  | .lit (.string bytes) => bytes.length + 1
  | .lit _ => 1
  | .nil => 1
  | .ptr d => uptoBulk d + 1
  | .slice elems spare => uptoBulkAll elems + uptoBulkAll spare + 1
  | .agg parts => uptoBulkAll parts + 1
  | .iface _ d => uptoBulk d + 1
  | .map entries => uptoBulkEntries entries + 1
  | .held _ => 1
def uptoBulkAll {H : Type} : List (DataW H) → Nat
  | [] => 0
  | d :: r => uptoBulk d + uptoBulkAll r
def uptoBulkEntries {H : Type} : List (Lit × DataW H) → Nat
  | [] => 0
  | x :: r => uptoBulkEntry x + uptoBulkEntries r
def uptoBulkEntry {H : Type} : Lit × DataW H → Nat
  | (.string bytes, d) => bytes.length + uptoBulk d + 1
  | (_, d) => uptoBulk d + 1
 end
def uptoSmall : (H : Type) → List (DataW H) → Bool := fun _ ds => decide (uptoBulkAll ds ≤ 1048576)
def OpenSpec.upto (s : _root_.Go.ChangeSpec) : _root_.Go.OpenSpec := { _root_.Go.OpenSpec.ofChange s with cond := some uptoSmall }

/-- 'portreevelaw16.RoomMaps', WHERE WHAT IT READS IS OF BULK AT MOST 1048576: true; the input reads as it did. -/
def roomMapsUptoRow : OpenClaim := { program := "ytokbplajcdkcpaa", sum := "5bc2aefc2b3db54d15dbdd11b31c8d85711bb5c74b4d1e0b48b1dfae9df3e43d", func := "portreeve/portreevelaw16.RoomMaps", spec := "roomMaps", unfollowed := true, recurses := true, apart := false, narrowed := true }
def RoomMapsUptoSaid : Prop := roomMapsUptoRow.holds Try.pinned (OpenSpec.upto roomMapsSpec)

/-- 'portreevelaw16.RoomOnce', WHERE WHAT IT READS IS OF BULK AT MOST 1048576: true; the input reads as it did. -/
def roomOnceUptoRow : OpenClaim := { program := "ytokbplajcdkcpaa", sum := "5bc2aefc2b3db54d15dbdd11b31c8d85711bb5c74b4d1e0b48b1dfae9df3e43d", func := "portreeve/portreevelaw16.RoomOnce", spec := "roomOnce", unfollowed := true, recurses := true, apart := false, narrowed := true }
def RoomOnceUptoSaid : Prop := roomOnceUptoRow.holds Try.pinned (OpenSpec.upto roomOnceSpec)

/-- 'portreevelaw16.RoomSpans', WHERE WHAT IT READS IS OF BULK AT MOST 1048576: true; the input reads as it did. -/
def roomSpansUptoRow : OpenClaim := { program := "ytokbplajcdkcpaa", sum := "5bc2aefc2b3db54d15dbdd11b31c8d85711bb5c74b4d1e0b48b1dfae9df3e43d", func := "portreeve/portreevelaw16.RoomSpans", spec := "roomSpans", unfollowed := true, recurses := true, apart := false, narrowed := true }
def RoomSpansUptoSaid : Prop := roomSpansUptoRow.holds Try.pinned (OpenSpec.upto roomSpansSpec)

/-- 'portreevelaw16.RoomAt', WHERE WHAT IT READS IS OF BULK AT MOST 1048576: true; the input reads as it did. -/
def roomAtUptoRow : OpenClaim := { program := "ytokbplajcdkcpaa", sum := "5bc2aefc2b3db54d15dbdd11b31c8d85711bb5c74b4d1e0b48b1dfae9df3e43d", func := "portreeve/portreevelaw16.RoomAt", spec := "roomAt", unfollowed := true, recurses := true, apart := false, narrowed := true }
def RoomAtUptoSaid : Prop := roomAtUptoRow.holds Try.pinned (OpenSpec.upto roomAtSpec)

/-- 'portreevelaw17.ValidApart', WHERE WHAT IT READS IS OF BULK AT MOST 1048576: true; the input reads as it did. -/
def validApartUptoRow : OpenClaim := { program := "ytokbplajcdkcpaa", sum := "5bc2aefc2b3db54d15dbdd11b31c8d85711bb5c74b4d1e0b48b1dfae9df3e43d", func := "portreeve/portreevelaw17.ValidApart", spec := "validApart", unfollowed := true, recurses := true, apart := false, narrowed := true }
def ValidApartUptoSaid : Prop := validApartUptoRow.holds Try.pinned (OpenSpec.upto validApartSpec)

/-- 'portreevelaw17.ValidMaps', WHERE WHAT IT READS IS OF BULK AT MOST 1048576: true; the input reads as it did. -/
def validMapsUptoRow : OpenClaim := { program := "ytokbplajcdkcpaa", sum := "5bc2aefc2b3db54d15dbdd11b31c8d85711bb5c74b4d1e0b48b1dfae9df3e43d", func := "portreeve/portreevelaw17.ValidMaps", spec := "validMaps", unfollowed := true, recurses := true, apart := false, narrowed := true }
def ValidMapsUptoSaid : Prop := validMapsUptoRow.holds Try.pinned (OpenSpec.upto validMapsSpec)

/-- 'portreevelaw17.ValidSmall', WHERE WHAT IT READS IS OF BULK AT MOST 1048576: true; the input reads as it did. -/
def validSmallUptoRow : OpenClaim := { program := "ytokbplajcdkcpaa", sum := "5bc2aefc2b3db54d15dbdd11b31c8d85711bb5c74b4d1e0b48b1dfae9df3e43d", func := "portreeve/portreevelaw17.ValidSmall", spec := "validSmall", unfollowed := true, recurses := true, apart := false, narrowed := true }
def ValidSmallUptoSaid : Prop := validSmallUptoRow.holds Try.pinned (OpenSpec.upto validSmallSpec)

/-- 'portreevelaw17.ValidOwners', WHERE WHAT IT READS IS OF BULK AT MOST 1048576: true; the input reads as it did. -/
def validOwnersUptoRow : OpenClaim := { program := "ytokbplajcdkcpaa", sum := "5bc2aefc2b3db54d15dbdd11b31c8d85711bb5c74b4d1e0b48b1dfae9df3e43d", func := "portreeve/portreevelaw17.ValidOwners", spec := "validOwners", unfollowed := true, recurses := true, apart := false, narrowed := true }
def ValidOwnersUptoSaid : Prop := validOwnersUptoRow.holds Try.pinned (OpenSpec.upto validOwnersSpec)

end Rows
end Go.Proofs.Ytokbplajcdkcpaa
