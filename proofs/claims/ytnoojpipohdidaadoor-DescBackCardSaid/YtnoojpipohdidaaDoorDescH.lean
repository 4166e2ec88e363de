/- The walks of desc.joined and desc.one. Conditions: shifts from 0 to 63. -/
import Derived.Test.YtnoojpipohdidaaDoorDescG
namespace Go.Proofs.YtnoojpipohdidaaDoor
open Go.RowKit

def joinV (fs : List (Int × Int)) : Int := fs.foldl (fun acc f => bits BinOp.or IntKind.u64 acc (IntKind.u64.wrap (f.2 * 2 ^ f.1.toNat))) 0
theorem joinV_snoc (fs : List (Int × Int)) (x y : Int) : joinV (fs ++ [(x, y)]) = bits BinOp.or IntKind.u64 (joinV fs) (IntKind.u64.wrap (y * 2 ^ x.toNat)) := by
  simp [joinV, List.foldl_append]
def oneV (b : Bool) : Int := if b = true then 1 else 0
set_option maxHeartbeats 400000 in
theorem one_any (b : Bool) (w : World) :
    Calls Tryd.prog 19 #[.bool b] w fun e w' => e = .returned (.int .u64 (oneV b)) ∧ w = w' := by
  cases b
  all_goals
    go_enter Tryd.func19, Tryd.ntmps19
    go_wp2
    go_ret
    exact ⟨rfl, rfl⟩

set_option maxHeartbeats 1000000 in
theorem joined_any (fs : List (Int × Int)) (b off cap : Nat) (w : World) (hb : b < w.heap.size) (hl : fs.length ≤ 100)
    (hc : ∀ i, (h : i < fs.length) → w.cell? ⟨b, off + i * 2, none⟩ = some (.int .i64 fs[i].1) ∧ w.cell? ⟨b, off + i * 2 + 1, none⟩ = some (.int .u64 fs[i].2))
    (hr : ∀ f ∈ fs, 0 ≤ f.1 ∧ f.1 ≤ 63) :
    Calls Tryd.prog 18 #[.slice (some ⟨b, off, none⟩) fs.length cap] w fun e w' => e = .returned (.int .u64 (joinV fs)) ∧ Below w.heap.size w w' := by
  go_enter Tryd.func18, Tryd.ntmps18
  go_wp2
  go_loopw [3, 8] (fun s i wr => ∃ k : Nat, k ≤ fs.length ∧ i = .int .i64 k ∧ s = .int .u64 (joinV (fs.take k)) ∧ Below w.heap.size w wr) (fun _ i _ => fs.length - (intOf i).toNat)
  case atStart => exact ⟨0, Nat.zero_le _, rfl, rfl, Below.refl _ _⟩
  case round =>
    obtain ⟨k, hk, rfl, rfl, hB⟩ := hrel
    by_cases hlt : k < fs.length
    · have h1 := (hc k hlt).1
      have h2 := (hc k hlt).2
      have h3 := hr fs[k] (List.getElem_mem hlt)
      have ht : fs.take (k + 1) = fs.take k ++ [(fs[k].1, fs[k].2)] := by rw [List.take_succ_eq_append_getElem hlt]
      generalize fs[k].1 = x at *
      generalize fs[k].2 = y at *
      rw [← hB.cell (by exact hb)] at h1 h2
      have hs := Lib.hid (joinV_snoc (fs.take k) x y)
      have ht := Lib.hid ht
      clear hc
      go_wp2
      go_roundw
      case rel => exact ⟨k + 1, by omega, by go_num, by rw [ht.out, hs.out], (hB.alloc hB.size _)⟩
      case measure => simp [intOf]; omega
    · have hk : k = fs.length := by omega
      subst hk
      go_wp2
      go_ret
      exact ⟨ret_u64 (by rw [List.take_of_length_le (Nat.le_refl _)]), hB⟩
end Go.Proofs.YtnoojpipohdidaaDoor
