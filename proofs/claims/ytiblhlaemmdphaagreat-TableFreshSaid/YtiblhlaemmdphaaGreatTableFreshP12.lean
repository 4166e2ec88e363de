/- RemX: RemA, RemB, RemC, RemD, as one text. -/
import Derived.Lib.AppendZerosOnto
import Derived.Laws.CopyRow
import Derived.Test.YtiblhlaemmdphaaGreatTableFreshP4
import Derived.Test.YtiblhlaemmdphaaGreatTableFreshP7
import Derived.Test.YtiblhlaemmdphaaGreatTableFreshP8
import Derived.Test.YtiblhlaemmdphaaGreatTableFreshP11
/-! Memory as the reference keeps it: a list of pages; a new memory; what an access asks. -/
namespace Go.Proofs.YtiblhlaemmdphaaGreat
open Go Go.RowKit Go.BigFrame Go.Maps
def Pg.enc (p : Pg) : List Value := [.int .u64 (p.n * 4096), .slice (some ⟨p.blk, 0, none⟩) 4096 4096]
def encPg (L : List Pg) : List Value := L.flatMap Pg.enc
structure MemR (W : World) (rb : Nat) (pv : Value) (s z : Int) (L : List Pg) : Prop where
 hd : W.heap[rb]? = some (.cells #[.int .u64 s, .int .u64 z, pv] 95 (0, 0))
 row : W.ownsRow 0 127 2 pv L.length (encPg L)
 page : ∀ p ∈ L, W.heap[p.blk]? = some (.cells (bytesV p.bs) 5 (0, 0))
 blks : (L.map Pg.blk).Nodup
 ok : PgOk (L.map Pg.ab)
 ws : W64 s
 wz : W64 z
def refBlks (rb : Nat) (pv : Value) (L : List Pg) : List Nat := rb :: (pv.ownBlock.toList ++ L.map Pg.blk)
end Go.Proofs.YtiblhlaemmdphaaGreat
/-! The reference's memory: writing bytes. -/
namespace Go.Proofs.YtiblhlaemmdphaaGreat
open Go Go.RowKit Go.BigFrame Go.Maps
end Go.Proofs.YtiblhlaemmdphaaGreat
/-! The reference's memory: putting a word; reading bytes; a word. -/
namespace Go.Proofs.YtiblhlaemmdphaaGreat
open Go Go.RowKit Go.BigFrame Go.Maps
def rdB (pg : PG) (a : Int) (n : Nat) : List Int := (List.range n).map fun i : Nat => bt pg (a + (i : Int))
theorem rdB_len (pg : PG) (a : Int) (n : Nat) : (rdB pg a n).length = n := by simp [rdB]
theorem rdB_none {pg : PG} {a : Int} {m : Nat} (h : pgFind pg (a / 4096) = none) (hm : (a % 4096).toNat + m ≤ 4096) : rdB pg a m = List.replicate m 0 := by
 apply List.ext_getElem
 ·simp [rdB]
 ·intro i h1 h2
  have hi : i < m := by simpa [rdB] using h1
  rw [List.getElem_replicate]
  simp only [rdB, List.getElem_map, List.getElem_range]
  unfold bt
  rw [show (a + (i : Int)) / 4096 = a / 4096 by omega, h]
theorem rdB_some {pg : PG} {a : Int} {m : Nat} {bs : List Int} (h : pgFind pg (a / 4096) = some bs) (hl : bs.length = 4096) (hm : (a % 4096).toNat + m ≤ 4096) : rdB pg a m = (bs.drop (a % 4096).toNat).take m := by
 apply List.ext_getElem
 ·rw [rdB_len, List.length_take, List.length_drop]; omega
 ·intro i h1 h2
  have hi : i < m := by rw [rdB_len] at h1; exact h1
  simp only [rdB, List.getElem_map, List.getElem_range, List.getElem_take, List.getElem_drop]
  unfold bt
  rw [show (a + (i : Int)) / 4096 = a / 4096 by omega, h, show ((a + (i : Int)) % 4096).toNat = (a % 4096).toNat + i by omega]
  show bs.getD _ 0 = _
  rw [List.getD_eq_getElem?_getD, List.getElem?_eq_getElem (by omega)]
  rfl
end Go.Proofs.YtiblhlaemmdphaaGreat
/-! The reference's memory: a word. -/
namespace Go.Proofs.YtiblhlaemmdphaaGreat
open Go Go.RowKit Go.BigFrame Go.Maps
end Go.Proofs.YtiblhlaemmdphaaGreat
