/- The library's table for trailing zeros, out of the row's condition. -/
import Derived.LaidMore
import Derived.ProofKit
import Derived.Stop.Joined
import Derived.Lib.LaidTab
import Derived.Test.YtgihknfoncljbaaGreatDoorRows
import Derived.Test.YtgihknfoncljbaaGreatDoorRingsP3
namespace Go.Proofs.YtgihknfoncljbaaGreatDoor
open Go.ChangeShapes Go.WideShapes Go.ChangeAt Go.RowKit
theorem gTab : Tryz.prog.globalNamed "math/bits.deBruijn64tab" = some 0 := by kernel_rfl
theorem tTab : (Tryz.prog.globals[0]?).map (·.type) = some 249 := by kernel_rfl
theorem tab3_of_laid {W : World} (h : laidMetH Tryz.prog [("math/bits.deBruijn64tab", Rows.laid_math_bits_deBruijn64tab)] W) : Tab3 W := by
 rw [MakeChecks.laidMetH_plain _ _ _ (by kernel_rfl)] at h
 have hT := Lib.tabIs_of_head (k := .u8) (zs := [0, 1, 56, 2, 57, 49, 28, 3, 61, 58, 42, 50, 38, 29, 17, 4, 62, 47, 59, 36, 45, 43, 51, 22, 53, 39, 33, 30, 24, 18, 12, 5, 63, 55, 48, 27, 60, 41, 37, 16, 46, 35, 44, 21, 52, 32, 23, 11, 54, 26, 40, 15, 34, 20, 31, 10, 25, 14, 19, 9, 13, 8, 7, 6]) (rest := []) gTab tTab Tryz.underlying249 Tryz.underlying5 (by kernel_rfl) (by kernel_rfl) h
 have h27 := hT.cell gTab 27 (by decide)
 refine ⟨h27, hT.cell gTab 43 (by decide), hT.cell gTab 30 (by decide), ?_⟩
 rcases Nat.eq_zero_or_pos W.heap.size with e | e
 ·have hn : W.heap[0]? = none := Array.getElem?_eq_none (by omega)
  simp [World.cell?, hn] at h27
 ·exact e
end Go.Proofs.YtgihknfoncljbaaGreatDoor
