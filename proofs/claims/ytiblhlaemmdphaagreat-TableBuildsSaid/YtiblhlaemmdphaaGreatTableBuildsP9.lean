/- append(own row of bytes, make([]byte, n)...): zeros behind a row of the call's own. -/
import Derived.Lib.AppendZerosOnto
import Derived.Laws.CopyRow
import Derived.Test.YtiblhlaemmdphaaGreatTableBuildsP3
namespace Go.Proofs.YtiblhlaemmdphaaGreat
open Go Go.RowKit
theorem zero_bytes (n : Nat) : Builtin.zeroCells (Value.int .u8 0).cells n = ((List.replicate n (0 : Int)).map fun x => Value.int .u8 x).toArray := by
 apply Array.ext
 ·simp [Builtin.zeroCells, Value.cells]
 ·intro i h1 h2
  simp [Builtin.zeroCells, Value.cells, Nat.mod_one]
theorem append_zeros {w : World} (base : Nat) (v : Value) (l : List Int) (ty : TypeId) (k : Nat) (q : IntKind) (hown : OwnB w base v l) (h0 : 0 < k) (hl : l.length + k ≤ 140737488355328) (hbase : base ≤ w.heap.size) :
  ∃ v' w', (Builtin.append_ #[31, 26] ty #[v, .int q k]).run Tryz.prog w = .ok v' w' ∧ OwnB w' base v' (l ++ List.replicate k 0) ∧ w.grownBy w' v.ownBlock := by
 obtain ⟨i0, hi1, hi2⟩ := Option.map_eq_some_iff.1 infoByte
 rw [Prod.mk.injEq, Prod.mk.injEq] at hi2
 obtain ⟨hz, hs, hb⟩ := hi2
 have hlen : (l ++ List.replicate k (0 : Int)).length = l.length + k := by simp
 have grown : ∀ (old : Nat), old < l.length + k → ∀ (row : Option Nat),
   OwnB (w.drew.alloc (.cells ((l.map fun x => Value.int .u8 x).toArray ++ Builtin.zeroCells (Value.int .u8 0).cells k ++ Builtin.zeroCells (Value.int .u8 0).cells (grownCap w (l.length + k) old 5 - (l.length + k))) 5)) base
    (.slice (some ⟨w.heap.size, 0, none⟩) (l.length + k) (grownCap w (l.length + k) old 5)) (l ++ List.replicate k 0) ∧
   w.grownBy (w.drew.alloc (.cells ((l.map fun x => Value.int .u8 x).toArray ++ Builtin.zeroCells (Value.int .u8 0).cells k ++ Builtin.zeroCells (Value.int .u8 0).cells (grownCap w (l.length + k) old 5 - (l.length + k))) 5)) row := by
  intro old ho row
  have hge := grownCap_ge w (l.length + k) old 5
  have hcm : grownCap w (l.length + k) old 5 ≤ maxLen := grownCap_le_maxLen w (l.length + k) old 5 (by unfold maxLen; omega)
  refine ⟨⟨by simp, .inr ⟨w.heap.size, _, _, by rw [hlen], hbase, heap_alloc_new w.drew _, by rw [hlen]; exact hge, hcm, ?_, ?_⟩⟩, ⟨rfl, rfl, rfl, by simp, fun k' hk' _ => (bone w.drew _).block k' hk'⟩⟩
  ·rw [zero_bytes, zero_bytes]
   simp
   omega
  ·rw [zero_bytes, zero_bytes]
   simp only [Array.toList_append, List.length_append, List.length_replicate, Nat.mul_one]
   rw [List.take_left' (by simp)]
   simp
 obtain ⟨_, ⟨rfl, h0'⟩ | ⟨g, cap, cur, rfl, hbg, hg, hnc, hcm, hcs, htake⟩⟩ := id hown
 ·have hx : l = [] := List.length_eq_zero_iff.1 h0'
  subst hx
  have hr := Go.Lib.run_append_nil_zeros (P := Tryz.prog) w 31 26 ty 5 i0 _ q .u64 Tryz.underlying31 Tryz.underlying26 hi1 hz k h0 (by omega) (by simp at hl; omega) (by rw [hb]; simp at hl; omega)
  have hgr := grown 0 (by simp; omega) (Value.ownBlock (.slice none 0 0))
  simp only [List.map_nil, List.length_nil, Nat.zero_add, List.nil_append] at hgr ⊢
  have e : ((#[] : Array Value) ++ Builtin.zeroCells (Value.int .u8 0).cells k) = Builtin.zeroCells (Value.int .u8 0).cells k := by simp
  rw [e] at hgr
  exact ⟨_, _, hr, hgr.1, hgr.2⟩
 ·by_cases hroom : l.length + k ≤ cap
  ·have hcl : cur.size = cap := by simpa using hcs
   have hst := run_storeCells_at Tryz.prog g l.length 5 ((List.replicate k (0 : Int)).map fun x => Value.int .u8 x) 0 cur w hg (by simp; omega) (by intro v hv; obtain ⟨x, _, rfl⟩ := List.mem_map.1 hv; rfl)
   have hw : IntKind.i64.wrap (k : Int) = k := by rw [IntKind.wrap_i64]; omega
   have hneg : ¬ ((k : Int) < 0) := by omega
   have h48i : ¬ (281474976710656 < (k : Int) * (i0.bytes : Int)) := by rw [hb]; omega
   have hns : ¬ (k * i0.size = 0) := by rw [hs]; omega
   refine ⟨.slice (some ⟨g, 0, none⟩) (l.length + k) cap, w.setRow g (cur.toList.take (l.length + 0) ++ ((List.replicate k (0 : Int)).map fun x => Value.int .u8 x) ++ cur.toList.drop (l.length + 0 + ((List.replicate k (0 : Int)).map fun x => Value.int .u8 x).length)).toArray, ?_, ?_, ?_⟩
   ·simp only [Nat.add_zero, List.map_replicate, List.length_replicate] at hst ⊢
    rw [hs] at hns
    simp [Builtin.append_, run_underlying Tryz.underlying31, run_underlying Tryz.underlying26, sizeOf, typeInfo, zeroValue, hi1, hz, hs, asInt, asIntOf, hw, hneg, h48i, hroom, Addr.add_lit, zero_bytes, hst, Nat.ne_of_gt h0]
   ·refine ⟨by simp, .inr ⟨g, cap, _, by rw [hlen], hbg, setRow_heap w g cur _ _ _ hg, by rw [hlen]; exact hroom, hcm, ?_, ?_⟩⟩
    ·simp; omega
    ·have ht : cur.toList.take l.length = l.map fun x => Value.int .u8 x := by rw [Nat.mul_one] at htake; exact htake
     simp only [Nat.add_zero, List.length_append, List.length_replicate, Nat.mul_one, List.map_append]
     rw [ht]
     exact List.take_left' (by rw [List.length_append, List.length_map, List.length_map, List.length_replicate])
   ·exact ⟨rfl, rfl, rfl, by simp [World.setRow], fun k' _ hk => setRow_other w g k' _ (fun e => hk (by simp [Value.ownBlock, e]))⟩
  ·have hr := Go.Lib.run_append_grow_zeros (P := Tryz.prog) w 31 26 ty 5 i0 _ q .u64 Tryz.underlying31 Tryz.underlying26 hi1 hz (some ⟨g, 0, none⟩) l.length cap (l.map fun x => Value.int .u8 x) ?_ k h0 (by omega) (by omega) (by omega) (by rw [hb]; omega) (growslice_fits (by omega) (by rw [hb]; omega))
   ·have hgr := grown cap (by omega) (Value.ownBlock (.slice (some ⟨g, 0, none⟩) l.length cap))
    exact ⟨_, _, hr, hgr.1, hgr.2⟩
   ·rw [hs]
    exact run_firstCells_some (P := Tryz.prog) w.drew 1 l.length ⟨g, 0, none⟩ l.length cap (l.map fun x => Value.int .u8 x) (by simp) (World.ownsRow.cells hown (g := g) rfl)
end Go.Proofs.YtiblhlaemmdphaaGreat
