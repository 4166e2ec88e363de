/- Swp: SwpP, SwpF, SwpA, SwpB, SwpC, SwpD, SwpE, SwpG, SwpH, SwpI, as one text. -/
import Derived.RangeFuncBox
import Derived.RangeFuncNested
import Derived.RangeFuncBound
import Derived.RangeFuncCalls
import Derived.RangeFuncLeaves
import Derived.Shelf.Abstract
import Derived.Shelf.RegionOpen
import Derived.WalkKit
import Derived.OwnWalkIn
import Derived.TacticsInMore
import Derived.LoopNIn
import Derived.LoopIn
import Derived.ControlIn
import Derived.Maps.OwnIn
import Derived.Maps.AppendAt
import Derived.Test.YtgihknfoncljbaaGreatDoorRingsP14
import Derived.Test.YtgihknfoncljbaaGreatDoorRingsP16
import Derived.Test.YtgihknfoncljbaaGreatDoorRingsP17
import Derived.Test.YtgihknfoncljbaaGreatDoorRingsP19
import Derived.Test.YtgihknfoncljbaaGreatDoorRingsP31
/-! A sweep of tables, in plain words: what is put, which tables are gone through, whether it is too long. -/
namespace Go.Proofs.YtgihknfoncljbaaGreatDoor
open Go
variable {σ : Type}
end Go.Proofs.YtgihknfoncljbaaGreatDoor
/-! What a sweep's steps leave as it lay: all but the blocks that it owns. -/
namespace Go.Proofs.YtgihknfoncljbaaGreatDoor
open Go Go.RowKit
structure PutsP (n0 : Nat) (σ : Type) (len : σ → Nat) (step : σ → M5 → σ) where
 I : σ → World → Prop
 O : World → Nat → Prop
 own : ∀ {s W}, I s W → ∀ {k}, O W k → n0 ≤ k ∧ k < W.heap.size ∧ ∃ o : Obj, W.heap[k]? = some o ∧ o.isCells = true
 kept : ∀ {s W W'}, I s W → W.heap.size ≤ W'.heap.size → (∀ k, O W k → W'.heap[k]? = W.heap[k]?) → I s W' ∧ ∀ k, O W' k ↔ O W k
 grows : ∀ s x, len (step s x) ≤ len s + 1
section
variable {σ : Type} {len : σ → Nat} {step : σ → M5 → σ} {n0 : Nat}
variable {Z : PutsP n0 σ len step} {wb : Nat} {mp : Value} {E T : TypeId}
end
end Go.Proofs.YtgihknfoncljbaaGreatDoor
/-! The iterator of a table's descriptors. -/
namespace Go.Proofs.YtgihknfoncljbaaGreatDoor
open Go Go.RowKit Go.Shelf Go.BigFrame
attribute [local go_sem] Oper.semAt_some
end Go.Proofs.YtgihknfoncljbaaGreatDoor
/-! A sweep: what is laid ahead of it; the iterator as its loop sees it. -/
namespace Go.Proofs.YtgihknfoncljbaaGreatDoor
open Go Go.RowKit Go.Shelf Go.BigFrame
attribute [local go_sem] Oper.semAt_some
end Go.Proofs.YtgihknfoncljbaaGreatDoor
/-! The program's sweep. -/
namespace Go.Proofs.YtgihknfoncljbaaGreatDoor
open Go Go.RowKit Go.Shelf Go.BigFrame
attribute [local go_sem] Oper.semAt_some
section
variable {σ : Type} {len : σ → Nat} {step : σ → M5 → σ} {n0 : Nat}
end
end Go.Proofs.YtgihknfoncljbaaGreatDoor
/-! The program's sweep: the walk. -/
namespace Go.Proofs.YtgihknfoncljbaaGreatDoor
open Go Go.RowKit Go.Shelf Go.BigFrame
attribute [local go_sem] Oper.semAt_some
section
variable {σ : Type} {len : σ → Nat} {step : σ → M5 → σ} {n0 : Nat}
end
end Go.Proofs.YtgihknfoncljbaaGreatDoor
/-! What a sweep puts: parts, joined where they go on; or nothing. -/
namespace Go.Proofs.YtgihknfoncljbaaGreatDoor
open Go Go.RowKit Go.Shelf Go.BigFrame
end Go.Proofs.YtgihknfoncljbaaGreatDoor
/-! Nothing is put: the callback of Tables. -/
namespace Go.Proofs.YtgihknfoncljbaaGreatDoor
open Go Go.RowKit Go.Shelf Go.BigFrame
end Go.Proofs.YtgihknfoncljbaaGreatDoor
/-! Parts are put: the callback of All. -/
namespace Go.Proofs.YtgihknfoncljbaaGreatDoor
open Go Go.RowKit Go.Shelf Go.BigFrame
end Go.Proofs.YtgihknfoncljbaaGreatDoor
/-! All and Tables: what a sweep of a memory's tables comes to. -/
namespace Go.Proofs.YtgihknfoncljbaaGreatDoor
open Go Go.RowKit Go.Shelf Go.BigFrame
end Go.Proofs.YtgihknfoncljbaaGreatDoor
