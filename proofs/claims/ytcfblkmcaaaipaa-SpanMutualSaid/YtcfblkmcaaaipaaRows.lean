/-
  No cell of these rows narrows 'for every input' (looked for: loops, veiled, ifaces, maps, wideKeys, modest, calm, conditions, laid).
  DERIVED. THE GIVEN ROWS OF THIS SEAT. 6 by the template 'for every input the law returns true; each argument reads behind the call as it read before'; 0 by the template 'total and deterministic' (their statements: YtcfblkmcaaaipaaTotals.lean).
  GIVEN WITH THE SEED: the statements are not yours to turn. If you find one false, say at which input.
  Laid BY PROGRAM, IN A SANDBOX (cutbox-rows.mjs): the forced cells as the released guide's own fill.sh prints them over the translation d28029ace4447fa4… (all of the seat's roots in one cut). By AI agents, Wed Nov 11 2026. No macro, syntax, notation, axiom, sorry.
-/
import Derived.Test.YtcfblkmcaaaipaaChecked
import GoSem.Claim
import GoSem.ClaimJoined
import GoSem.ClaimMapViews
import Derived.JoinedTies
import Derived.KernelRfl
namespace Go.Proofs.Ytcfblkmcaaaipaa
/- THE CELL 'sum', in the pinned program and in every row, IS THE sha256 OF THE DUMP (.gsa) THAT YtcfblkmcaaaipaaProg.lean LOADS. Nothing in Lean hashes anything: it is a label: what it is worth is what the hold of that sum in a sandbox is worth. -/
noncomputable def Try.pinned : Pinned := { name := "ytcfblkmcaaaipaa", sum := "d28029ace4447fa4d2d7778cee393cc0dd998ef536e8a2aec1209d0a3a31476e", checked := Try.checked }
namespace Rows
def none {H : Type} : Left H := { results := [], args := [] }

/-- 'portreevelaw02.SpanMerges': WHATEVER THE INPUT: true; the input reads as it did. -/
def spanMergesSpec : ChangeSpec := { name := "spanMerges", fn := fun _ => fun
  | [d] => { results := [.lit (.bool true)], args := [d] }
  | _ => none }
def spanMergesRow : OpenClaim := { program := "ytcfblkmcaaaipaa", sum := "d28029ace4447fa4d2d7778cee393cc0dd998ef536e8a2aec1209d0a3a31476e", func := "portreeve/portreevelaw02.SpanMerges", spec := "spanMerges", unfollowed := true, recurses := true, apart := false }
def SpanMergesSaid : Prop := spanMergesRow.holds Try.pinned (OpenSpec.ofChange spanMergesSpec)

/-- ITS FALSE NEIGHBOUR: 'it returns false'. Refute it at one input. -/
def spanMergesWrong : ChangeSpec := { name := "spanMerges", fn := fun _ => fun
  | [d] => { results := [.lit (.bool false)], args := [d] }
  | _ => none }
def SpanMergesWrongFalsely : Prop := spanMergesRow.holds Try.pinned (OpenSpec.ofChange spanMergesWrong)

/-- 'portreevelaw02.SpanCuts': WHATEVER THE INPUT: true; the input reads as it did. -/
def spanCutsSpec : ChangeSpec := { name := "spanCuts", fn := fun _ => fun
  | [d1, d2] => { results := [.lit (.bool true)], args := [d1, d2] }
  | _ => none }
def spanCutsRow : OpenClaim := { program := "ytcfblkmcaaaipaa", sum := "d28029ace4447fa4d2d7778cee393cc0dd998ef536e8a2aec1209d0a3a31476e", func := "portreeve/portreevelaw02.SpanCuts", spec := "spanCuts", unfollowed := true, recurses := true, apart := false }
def SpanCutsSaid : Prop := spanCutsRow.holds Try.pinned (OpenSpec.ofChange spanCutsSpec)

/-- ITS FALSE NEIGHBOUR: 'it returns false'. Refute it at one input. -/
def spanCutsWrong : ChangeSpec := { name := "spanCuts", fn := fun _ => fun
  | [d1, d2] => { results := [.lit (.bool false)], args := [d1, d2] }
  | _ => none }
def SpanCutsWrongFalsely : Prop := spanCutsRow.holds Try.pinned (OpenSpec.ofChange spanCutsWrong)

/-- 'portreevelaw02.SpanSets': WHATEVER THE INPUT: true; the input reads as it did. -/
def spanSetsSpec : ChangeSpec := { name := "spanSets", fn := fun _ => fun
  | [d1, d2, d3] => { results := [.lit (.bool true)], args := [d1, d2, d3] }
  | _ => none }
def spanSetsRow : OpenClaim := { program := "ytcfblkmcaaaipaa", sum := "d28029ace4447fa4d2d7778cee393cc0dd998ef536e8a2aec1209d0a3a31476e", func := "portreeve/portreevelaw02.SpanSets", spec := "spanSets", unfollowed := true, recurses := true, apart := false }
def SpanSetsSaid : Prop := spanSetsRow.holds Try.pinned (OpenSpec.ofChange spanSetsSpec)

/-- ITS FALSE NEIGHBOUR: 'it returns false'. Refute it at one input. -/
def spanSetsWrong : ChangeSpec := { name := "spanSets", fn := fun _ => fun
  | [d1, d2, d3] => { results := [.lit (.bool false)], args := [d1, d2, d3] }
  | _ => none }
def SpanSetsWrongFalsely : Prop := spanSetsRow.holds Try.pinned (OpenSpec.ofChange spanSetsWrong)

/-- 'portreevelaw02.SpanMutual': WHATEVER THE INPUT: true; the input reads as it did. -/
def spanMutualSpec : ChangeSpec := { name := "spanMutual", fn := fun _ => fun
  | [d1, d2] => { results := [.lit (.bool true)], args := [d1, d2] }
  | _ => none }
def spanMutualRow : OpenClaim := { program := "ytcfblkmcaaaipaa", sum := "d28029ace4447fa4d2d7778cee393cc0dd998ef536e8a2aec1209d0a3a31476e", func := "portreeve/portreevelaw02.SpanMutual", spec := "spanMutual", unfollowed := true, recurses := true, apart := false }
def SpanMutualSaid : Prop := spanMutualRow.holds Try.pinned (OpenSpec.ofChange spanMutualSpec)

/-- ITS FALSE NEIGHBOUR: 'it returns false'. Refute it at one input. -/
def spanMutualWrong : ChangeSpec := { name := "spanMutual", fn := fun _ => fun
  | [d1, d2] => { results := [.lit (.bool false)], args := [d1, d2] }
  | _ => none }
def SpanMutualWrongFalsely : Prop := spanMutualRow.holds Try.pinned (OpenSpec.ofChange spanMutualWrong)

/-- 'portreevelaw02.SpanTells': WHATEVER THE INPUT: true; the input reads as it did. -/
def spanTellsSpec : ChangeSpec := { name := "spanTells", fn := fun _ => fun
  | [d1, d2, d3] => { results := [.lit (.bool true)], args := [d1, d2, d3] }
  | _ => none }
def spanTellsRow : OpenClaim := { program := "ytcfblkmcaaaipaa", sum := "d28029ace4447fa4d2d7778cee393cc0dd998ef536e8a2aec1209d0a3a31476e", func := "portreeve/portreevelaw02.SpanTells", spec := "spanTells", unfollowed := true, recurses := true, apart := false }
def SpanTellsSaid : Prop := spanTellsRow.holds Try.pinned (OpenSpec.ofChange spanTellsSpec)

/-- ITS FALSE NEIGHBOUR: 'it returns false'. Refute it at one input. -/
def spanTellsWrong : ChangeSpec := { name := "spanTells", fn := fun _ => fun
  | [d1, d2, d3] => { results := [.lit (.bool false)], args := [d1, d2, d3] }
  | _ => none }
def SpanTellsWrongFalsely : Prop := spanTellsRow.holds Try.pinned (OpenSpec.ofChange spanTellsWrong)

/-- 'portreevelaw02.SpanFirst': WHATEVER THE INPUT: true; the input reads as it did. -/
def spanFirstSpec : ChangeSpec := { name := "spanFirst", fn := fun _ => fun
  | [d] => { results := [.lit (.bool true)], args := [d] }
  | _ => none }
def spanFirstRow : OpenClaim := { program := "ytcfblkmcaaaipaa", sum := "d28029ace4447fa4d2d7778cee393cc0dd998ef536e8a2aec1209d0a3a31476e", func := "portreeve/portreevelaw02.SpanFirst", spec := "spanFirst", unfollowed := true, recurses := true, apart := false }
def SpanFirstSaid : Prop := spanFirstRow.holds Try.pinned (OpenSpec.ofChange spanFirstSpec)

/-- ITS FALSE NEIGHBOUR: 'it returns false'. Refute it at one input. -/
def spanFirstWrong : ChangeSpec := { name := "spanFirst", fn := fun _ => fun
  | [d] => { results := [.lit (.bool false)], args := [d] }
  | _ => none }
def SpanFirstWrongFalsely : Prop := spanFirstRow.holds Try.pinned (OpenSpec.ofChange spanFirstWrong)

/- THE SECOND FORM. 'bulk': how many values and letters a reading holds, each counted each time it is reached (what is shared counts as often as it is met; a slice's spare places count too). A statement '..UptoSaid' is the law's where the arguments, and the package variables that the reading takes, are together of bulk at most 1048576: NARROWER than '..Said'. Prove '..Said' where nothing that the law and all that it calls make is longer than what came in: it says more and counts as full. Else prove '..UptoSaid'. A law counts once. -/
mutual
def uptoBulk {H : Type} : DataW H → Nat
  | .lit (.string bytes) => bytes.length + 1
  | .lit _ => 1
  | .nil => 1
  | .ptr d => uptoBulk d + 1
  | .slice elems spare => uptoBulkAll elems + uptoBulkAll spare + 1
  | .agg parts => uptoBulkAll parts + 1
  | .iface _ d => uptoBulk d + 1
  | .map entries => uptoBulkEntries entries + 1
  | .held _ => 1
def uptoBulkAll {H : Type} : List (DataW H) → Nat
  | [] => 0
  | d :: r => uptoBulk d + uptoBulkAll r
def uptoBulkEntries {H : Type} : List (Lit × DataW H) → Nat
  | [] => 0
  | x :: r => uptoBulkEntry x + uptoBulkEntries r
def uptoBulkEntry {H : Type} : Lit × DataW H → Nat
  | (.string bytes, d) => bytes.length + uptoBulk d + 1
  | (_, d) => uptoBulk d + 1
 end
def uptoSmall : (H : Type) → List (DataW H) → Bool := fun _ ds => decide (uptoBulkAll ds ≤ 1048576)
def OpenSpec.upto (s : _root_.Go.ChangeSpec) : _root_.Go.OpenSpec := { _root_.Go.OpenSpec.ofChange s with cond := some uptoSmall }

/-- 'portreevelaw02.SpanMerges', WHERE WHAT IT READS IS OF BULK AT MOST 1048576: true; the input reads as it did. -/
def spanMergesUptoRow : OpenClaim := { program := "ytcfblkmcaaaipaa", sum := "d28029ace4447fa4d2d7778cee393cc0dd998ef536e8a2aec1209d0a3a31476e", func := "portreeve/portreevelaw02.SpanMerges", spec := "spanMerges", unfollowed := true, recurses := true, apart := false, narrowed := true }
def SpanMergesUptoSaid : Prop := spanMergesUptoRow.holds Try.pinned (OpenSpec.upto spanMergesSpec)

/-- 'portreevelaw02.SpanCuts', WHERE WHAT IT READS IS OF BULK AT MOST 1048576: true; the input reads as it did. -/
def spanCutsUptoRow : OpenClaim := { program := "ytcfblkmcaaaipaa", sum := "d28029ace4447fa4d2d7778cee393cc0dd998ef536e8a2aec1209d0a3a31476e", func := "portreeve/portreevelaw02.SpanCuts", spec := "spanCuts", unfollowed := true, recurses := true, apart := false, narrowed := true }
def SpanCutsUptoSaid : Prop := spanCutsUptoRow.holds Try.pinned (OpenSpec.upto spanCutsSpec)

/-- 'portreevelaw02.SpanSets', WHERE WHAT IT READS IS OF BULK AT MOST 1048576: true; the input reads as it did. -/
def spanSetsUptoRow : OpenClaim := { program := "ytcfblkmcaaaipaa", sum := "d28029ace4447fa4d2d7778cee393cc0dd998ef536e8a2aec1209d0a3a31476e", func := "portreeve/portreevelaw02.SpanSets", spec := "spanSets", unfollowed := true, recurses := true, apart := false, narrowed := true }
def SpanSetsUptoSaid : Prop := spanSetsUptoRow.holds Try.pinned (OpenSpec.upto spanSetsSpec)

/-- 'portreevelaw02.SpanMutual', WHERE WHAT IT READS IS OF BULK AT MOST 1048576: true; the input reads as it did. -/
def spanMutualUptoRow : OpenClaim := { program := "ytcfblkmcaaaipaa", sum := "d28029ace4447fa4d2d7778cee393cc0dd998ef536e8a2aec1209d0a3a31476e", func := "portreeve/portreevelaw02.SpanMutual", spec := "spanMutual", unfollowed := true, recurses := true, apart := false, narrowed := true }
def SpanMutualUptoSaid : Prop := spanMutualUptoRow.holds Try.pinned (OpenSpec.upto spanMutualSpec)

/-- 'portreevelaw02.SpanTells', WHERE WHAT IT READS IS OF BULK AT MOST 1048576: true; the input reads as it did. -/
def spanTellsUptoRow : OpenClaim := { program := "ytcfblkmcaaaipaa", sum := "d28029ace4447fa4d2d7778cee393cc0dd998ef536e8a2aec1209d0a3a31476e", func := "portreeve/portreevelaw02.SpanTells", spec := "spanTells", unfollowed := true, recurses := true, apart := false, narrowed := true }
def SpanTellsUptoSaid : Prop := spanTellsUptoRow.holds Try.pinned (OpenSpec.upto spanTellsSpec)

/-- 'portreevelaw02.SpanFirst', WHERE WHAT IT READS IS OF BULK AT MOST 1048576: true; the input reads as it did. -/
def spanFirstUptoRow : OpenClaim := { program := "ytcfblkmcaaaipaa", sum := "d28029ace4447fa4d2d7778cee393cc0dd998ef536e8a2aec1209d0a3a31476e", func := "portreeve/portreevelaw02.SpanFirst", spec := "spanFirst", unfollowed := true, recurses := true, apart := false, narrowed := true }
def SpanFirstUptoSaid : Prop := spanFirstUptoRow.holds Try.pinned (OpenSpec.upto spanFirstSpec)

end Rows
end Go.Proofs.Ytcfblkmcaaaipaa
