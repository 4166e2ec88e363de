/- The walk of (leveled).may: which descriptors may be of a level. Conditions: words are of 64 bits. -/
import Derived.Test.YtnoojpipohdidaaDoorDescC
namespace Go.Proofs.YtnoojpipohdidaaDoor
open Go.RowKit

def bareV (d : DescV) : Bool := decide (d.perm = 0) && decide (d.mem = 0) && !d.af
def mayV (l : Int) (d : DescV) : Bool :=
  if szV l = 0 ∨ 1099511627776 ≤ d.pa then false
  else if d.kind = 0 then bareV d && decide (d.pa = 0)
  else if d.kind = 1 then bareV d && decide (l < 3) && decide (d.pa % 4096 = 0)
  else if d.kind = 2 ∨ d.kind = 3 then
    (decide (d.kind = 3) == decide (l = 3)) && decide (d.pa % szV l = 0) && decide (0 ≤ d.perm) && decide (d.perm ≤ 7) && (decide (d.mem = 0) || decide (d.mem = 1))
  else false

theorem szV_bd (l : Int) : 0 ≤ szV l ∧ szV l ≤ 1073741824 := by unfold szV; split; omega; split; omega; split <;> omega

theorem ret_bool {a b : Bool} (h : a = b) : Ending.returned (.bool a) = .returned (.bool b) := by rw [h]
set_option maxHeartbeats 2000000 in
theorem may_any (l k pa perm mem : Int) (af : Bool) (w : World) (h0 : 0 ≤ pa) (h0' : pa < 18446744073709551616) :
    Calls Tryd.prog 17 #[.agg #[.int .i64 k, .int .u64 pa, .int .i64 perm, .int .i64 mem, .bool af, .int .i64 l]] w fun e w' => e = .returned (.bool (mayV l ⟨k, pa, perm, mem, af⟩)) ∧ Below w.heap.size w w' := by
  have hs := szV_bd l
  go_enter Tryd.func17, Tryd.ntmps17
  go_wp2_with (first | (go_at_call 13; refine (size_any _ _).mono ?_; rintro e w' ⟨rfl, rfl⟩))
  all_goals
    go_ret
    refine ⟨ret_bool ?_, (Below.refl _ _).alloc (Nat.le_refl _) _⟩
    clear hs
    simp [mayV, bareV]
    try simp_all
    try (rw [Bool.eq_iff_iff]; simp <;> omega)
    try omega
end Go.Proofs.YtnoojpipohdidaaDoor
