/- The walks of desc.Size, desc.Field, desc.bit, desc.from and of the reference's Field. Conditions: words are of 64 bits. -/
import Derived.WalkKit
import Derived.Lib.Hide
import Derived.WalkSpells
import Derived.WalkLawsBesides
import Derived.Deep.DeepCutAuto
import Derived.Test.YtiblhlaemmdphaaGreatProg
import Derived.Test.YtiblhlaemmdphaaGreatTableFreshP1
import Derived.Test.YtiblhlaemmdphaaGreatTableFreshP27
namespace Go.Proofs.YtiblhlaemmdphaaGreat
open Go.RowKit
set_option maxHeartbeats 400000 in
theorem size_any (a : Int) (w : World) :
  Calls Tryz.prog 55 #[.int .i64 a] w fun e w' => e = .returned (.int .u64 (szV a)) ∧ w = w' := by
 by_cases h1 : a = 1
 ·subst h1
  go_enter Tryz.func55, Tryz.ntmps55
  go_wp2
  go_ret
  exact ⟨rfl, rfl⟩
 by_cases h2 : a = 2
 ·subst h2
  go_enter Tryz.func55, Tryz.ntmps55
  go_wp2
  go_ret
  exact ⟨rfl, rfl⟩
 by_cases h3 : a = 3
 ·subst h3
  go_enter Tryz.func55, Tryz.ntmps55
  go_wp2
  go_ret
  exact ⟨rfl, rfl⟩
 have hz : szV a = 0 := by unfold szV; rw [if_neg h1, if_neg h2, if_neg h3]
 rw [hz]
 by_cases h4 : a < 1
 ·go_enter Tryz.func55, Tryz.ntmps55
  go_wp2
  go_ret
  exact ⟨rfl, rfl⟩
 ·have h5 : 3 < a := by omega
  go_enter Tryz.func55, Tryz.ntmps55
  go_wp2
  go_ret
  exact ⟨rfl, rfl⟩
end Go.Proofs.YtiblhlaemmdphaaGreat
/- The walks of desc.Of and of the reference's Of, and what both give. Conditions: words are of 64 bits; the library's table for trailing zeros is as its initialiser lays it. -/
namespace Go.Proofs.YtiblhlaemmdphaaGreat
open Go.RowKit
structure DescV where
 kind : Int
 pa : Int
 perm : Int
 mem : Int
 af : Bool
def DescV.val (d : DescV) : Value := .agg #[.int .i64 d.kind, .int .u64 d.pa, .int .i64 d.perm, .int .i64 d.mem, .bool d.af]
end Go.Proofs.YtiblhlaemmdphaaGreat
/- The walk of (leveled).may: which descriptors may be of a level. Conditions: words are of 64 bits. -/
namespace Go.Proofs.YtiblhlaemmdphaaGreat
open Go.RowKit
def bareV (d : DescV) : Bool := decide (d.perm = 0) && decide (d.mem = 0) && !d.af
def mayV (l : Int) (d : DescV) : Bool :=
 if szV l = 0 ∨ 1099511627776 ≤ d.pa then false
 else if d.kind = 0 then bareV d && decide (d.pa = 0)
 else if d.kind = 1 then bareV d && decide (l < 3) && decide (d.pa % 4096 = 0)
 else if d.kind = 2 ∨ d.kind = 3 then
  (decide (d.kind = 3) == decide (l = 3)) && decide (d.pa % szV l = 0) && decide (0 ≤ d.perm) && decide (d.perm ≤ 7) && (decide (d.mem = 0) || decide (d.mem = 1))
 else false
theorem szV_bd (l : Int) : 0 ≤ szV l ∧ szV l ≤ 1073741824 := by unfold szV; split; omega; split; omega; split <;> omega
set_option maxHeartbeats 2000000 in
theorem may_any (l k pa perm mem : Int) (af : Bool) (w : World) (h0 : 0 ≤ pa) (h0' : pa < 18446744073709551616) :
  Calls Tryz.prog 101 #[.agg #[.int .i64 k, .int .u64 pa, .int .i64 perm, .int .i64 mem, .bool af, .int .i64 l]] w fun e w' => e = .returned (.bool (mayV l ⟨k, pa, perm, mem, af⟩)) ∧ Below w.heap.size w w' := by
 have hs := szV_bd l
 go_enter Tryz.func101, Tryz.ntmps101
 go_wp2_with (first | (go_at_call 55; refine (size_any _ _).mono ?_; rintro e w' ⟨rfl, rfl⟩))
 all_goals
  go_ret
  refine ⟨ret_bool ?_, (Below.refl _ _).alloc (Nat.le_refl _) _⟩
  clear hs
  simp [mayV, bareV]
  try simp_all
  try (rw [Bool.eq_iff_iff]; simp <;> omega)
  try omega
end Go.Proofs.YtiblhlaemmdphaaGreat
/- The walks of desc.joined and desc.one. Conditions: shifts from 0 to 63. -/
namespace Go.Proofs.YtiblhlaemmdphaaGreat
open Go.RowKit
def joinV (fs : List (Int × Int)) : Int := fs.foldl (fun acc f => bits BinOp.or IntKind.u64 acc (IntKind.u64.wrap (f.2 * 2 ^ f.1.toNat))) 0
theorem joinV_snoc (fs : List (Int × Int)) (x y : Int) : joinV (fs ++ [(x, y)]) = bits BinOp.or IntKind.u64 (joinV fs) (IntKind.u64.wrap (y * 2 ^ x.toNat)) := by
 simp [joinV, List.foldl_append]
def oneV (b : Bool) : Int := if b = true then 1 else 0
set_option maxHeartbeats 400000 in
theorem one_any (b : Bool) (w : World) :
  Calls Tryz.prog 103 #[.bool b] w fun e w' => e = .returned (.int .u64 (oneV b)) ∧ w = w' := by
 cases b
 all_goals
  go_enter Tryz.func103, Tryz.ntmps103
  go_wp2
  go_ret
  exact ⟨rfl, rfl⟩
set_option maxHeartbeats 1000000 in
theorem joined_any (fs : List (Int × Int)) (b off cap : Nat) (w : World) (hb : b < w.heap.size) (hl : fs.length ≤ 100)
  (hc : ∀ i, (h : i < fs.length) → w.cell? ⟨b, off + i * 2, none⟩ = some (.int .i64 fs[i].1) ∧ w.cell? ⟨b, off + i * 2 + 1, none⟩ = some (.int .u64 fs[i].2))
  (hr : ∀ f ∈ fs, 0 ≤ f.1 ∧ f.1 ≤ 63) :
  Calls Tryz.prog 102 #[.slice (some ⟨b, off, none⟩) fs.length cap] w fun e w' => e = .returned (.int .u64 (joinV fs)) ∧ Below w.heap.size w w' := by
 go_enter Tryz.func102, Tryz.ntmps102
 go_wp2
 go_loopw [3, 8] (fun s i wr => ∃ k : Nat, k ≤ fs.length ∧ i = .int .i64 k ∧ s = .int .u64 (joinV (fs.take k)) ∧ Below w.heap.size w wr) (fun _ i _ => fs.length - (intOf i).toNat)
 case atStart => exact ⟨0, Nat.zero_le _, rfl, rfl, Below.refl _ _⟩
 case round =>
  obtain ⟨k, hk, rfl, rfl, hB⟩ := hrel
  by_cases hlt : k < fs.length
  ·have h1 := (hc k hlt).1
   have h2 := (hc k hlt).2
   have h3 := hr fs[k] (List.getElem_mem hlt)
   have ht : fs.take (k + 1) = fs.take k ++ [(fs[k].1, fs[k].2)] := by rw [List.take_succ_eq_append_getElem hlt]
   generalize fs[k].1 = x at *
   generalize fs[k].2 = y at *
   rw [← hB.cell (by exact hb)] at h1 h2
   have hs := Lib.hid (joinV_snoc (fs.take k) x y)
   have ht := Lib.hid ht
   clear hc
   go_wp2
   go_roundw
   case rel => exact ⟨k + 1, by omega, by go_num, by rw [ht.out, hs.out], (hB.alloc hB.size _)⟩
   case measure => simp [intOf]; omega
  ·have hk : k = fs.length := by omega
   subst hk
   go_wp2
   go_ret
   exact ⟨ret_u64 (by rw [List.take_of_length_le (Nat.le_refl _)]), hB⟩
end Go.Proofs.YtiblhlaemmdphaaGreat
