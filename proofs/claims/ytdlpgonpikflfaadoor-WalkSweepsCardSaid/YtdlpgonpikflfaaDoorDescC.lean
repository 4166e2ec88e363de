/- The walks of desc.Of and of the reference's Of, and what both give. Conditions: words are of 64 bits; the library's table for trailing zeros is as its initialiser lays it. -/
import Derived.Test.YtdlpgonpikflfaaDoorDescB
import Derived.Deep.DeepCutAuto
namespace Go.Proofs.YtdlpgonpikflfaaDoor
open Go.RowKit

/-- A descriptor, as a value. -/
structure DescV where
  kind : Int
  pa : Int
  perm : Int
  mem : Int
  af : Bool
def DescV.val (d : DescV) : Value := .agg #[.int .i64 d.kind, .int .u64 d.pa, .int .i64 d.perm, .int .i64 d.mem, .bool d.af]

/-- What the table of the library holds at the three places that are asked. -/
def Tab3 (w : World) : Prop := w.cell? ⟨0, 27, none⟩ = some (.int .u8 30) ∧ w.cell? ⟨0, 43, none⟩ = some (.int .u8 21) ∧ w.cell? ⟨0, 30, none⟩ = some (.int .u8 12) ∧ 0 < w.heap.size

theorem ctz_any (l : Int) (w : World) (hT : Tab3 w) (h : l = 1 ∨ l = 2 ∨ l = 3) :
    Calls Tryd.prog 45 #[.int .u64 (szV l)] w fun e w' => e = .returned (.int .i64 (39 - 9 * l)) ∧ w = w' := by
  obtain ⟨h30, h21, h12, _⟩ := hT
  rcases h with rfl | rfl | rfl
  · show Calls _ _ #[.int .u64 1073741824] _ _
    have hi : IntKind.u64.wrap (bits BinOp.and IntKind.u64 1073741824 (IntKind.u64.wrap (-1073741824)) * 285870213051353865) / 288230376151711744 = 27 := by decide +kernel
    go_enter Tryd.func45, Tryd.ntmps45
    go_wp2
    go_ret
    exact ⟨rfl, rfl⟩
  · show Calls _ _ #[.int .u64 2097152] _ _
    have hi : IntKind.u64.wrap (bits BinOp.and IntKind.u64 2097152 (IntKind.u64.wrap (-2097152)) * 285870213051353865) / 288230376151711744 = 43 := by decide +kernel
    go_enter Tryd.func45, Tryd.ntmps45
    go_wp2
    go_ret
    exact ⟨rfl, rfl⟩
  · show Calls _ _ #[.int .u64 4096] _ _
    have hi : IntKind.u64.wrap (bits BinOp.and IntKind.u64 4096 (IntKind.u64.wrap (-4096)) * 285870213051353865) / 288230376151711744 = 30 := by decide +kernel
    go_enter Tryd.func45, Tryd.ntmps45
    go_wp2
    go_ret
    exact ⟨rfl, rfl⟩
end Go.Proofs.YtdlpgonpikflfaaDoor
