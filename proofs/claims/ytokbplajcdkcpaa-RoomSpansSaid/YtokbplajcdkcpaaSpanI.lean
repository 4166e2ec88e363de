/- The walks of the reference's Same and of the law's in. Conditions: words of 64 bits; slices below 2^40. -/
import Derived.Test.YtokbplajcdkcpaaSpanC
import Derived.Test.YtokbplajcdkcpaaTwo
namespace Go.Proofs.Ytokbplajcdkcpaa
open Go.RowKit

def sameB (x y : Two) : Bool := decide (x.a = y.a) && decide (x.b = y.b)
theorem sameB_iff {x y : Two} : sameB x y = true ↔ x = y := by
  unfold sameB
  simp
  exact ⟨fun ⟨h, k⟩ => Two.ext h k, fun h => by subst h; exact ⟨rfl, rfl⟩⟩
/-- Whether lists are alike. -/
def sameV (l m : List Two) : Bool := decide (l.length = m.length) && (List.range l.length).all fun i => sameB l[i]! m[i]!
theorem sameV_refl (l : List Two) : sameV l l = true := by
  unfold sameV
  simp [sameB]
theorem sameV_len {l m : List Two} (h : l.length ≠ m.length) : sameV l m = false := by unfold sameV; rw [decide_eq_false h]; rfl
theorem sameV_miss {l m : List Two} {k : Nat} (hk : k < l.length) (h : sameB l[k]! m[k]! = false) : sameV l m = false := by
  unfold sameV
  rw [Bool.and_eq_false_iff]
  right
  rw [List.all_eq_false]
  exact ⟨k, List.mem_range.2 hk, by rw [h]; simp⟩
theorem sameV_hit {l m : List Two} (h : l.length = m.length) (hk : ∀ k, k < l.length → sameB l[k]! m[k]! = true) : sameV l m = true := by
  unfold sameV
  rw [decide_eq_true h, Bool.true_and, List.all_eq_true]
  exact fun k hk' => hk k (List.mem_range.1 hk')

set_option maxHeartbeats 1000000 in
theorem refSame_any (v u : Value) (l m : List Two) (w : World) (hv : RowTwo w v l) (hu : RowTwo w u m) (hl : l.length ≤ 1099511627776) (hm : m.length ≤ 1099511627776) :
    Calls Try.prog 17 #[v, u] w fun e w' => e = .returned (.bool (sameV l m)) ∧ Below w.heap.size w w' := by
  obtain ⟨a, cap, rfl, hcap, hrow⟩ := hv
  obtain ⟨a2, cap2, rfl, hcap2, hrow2⟩ := hu
  by_cases hlm : l.length = m.length
  · have ht : ((l.length : Int) != (m.length : Int)) = false := by rw [hlm]; simp
    have hlm' : Hid (l.length = m.length) := hlm
    have hl2 : l.length ≤ m.length := by omega
    clear hlm
    go_enter Try.func17, Try.ntmps17
    go_wp2
    go_loopw [5, 13] (fun _ i wr => ∃ k : Nat, k ≤ l.length ∧ i = .int .i64 k ∧ Hid (∀ q, q < k → sameB l[q]! m[q]! = true) ∧ Below w.heap.size w wr) (fun _ i _ => l.length - (intOf i).toNat)
    case atStart => exact ⟨0, Nat.zero_le _, rfl, Lib.hid (fun q hq => by omega), Below.refl _ _⟩
    case round =>
      obtain ⟨k, hk, rfl, hall, hB⟩ := hrel
      by_cases hlt : k < l.length
      · obtain ⟨b, off, rfl, hbl, hcell⟩ := hrow (by rintro rfl; simp at hlt)
        obtain ⟨b2, off2, rfl, hbl2, hcell2⟩ := hrow2 (fun e => by rw [e] at hl2; exact absurd (Nat.lt_of_lt_of_le hlt hl2) (by simp))
        have h1 := (hcell k hlt).1
        have h2 := (hcell k hlt).2
        have h3 := (hcell2 k (by omega)).1
        have h4 := (hcell2 k (by omega)).2
        rw [← hB.cell (p := ⟨b, _, none⟩) hbl] at h1 h2
        rw [← hB.cell (p := ⟨b2, _, none⟩) hbl2] at h3 h4
        have b1 : (0 : Int) ≤ k := by omega
        have b2' : (k : Int) < l.length := by omega
        have b3 : (k : Int) < m.length := by omega
        have hs : sameB l[k]! m[k]! = sameB l[k] m[k] := by rw [getElem!_pos l k hlt, getElem!_pos m k (by omega)]
        have miss := fun h => sameV_miss hlt (h : sameB l[k]! m[k]! = false)
        have hall2 : sameB l[k]! m[k]! = true → ∀ q, q < k + 1 → sameB l[q]! m[q]! = true := fun h q hq => by
          rcases Nat.lt_or_ge q k with h' | h'
          · exact hall.out q h'
          · obtain rfl : q = k := by omega
            exact h
        clear hcell hcell2 hrow hrow2
        generalize l[k] = x at *
        generalize m[k] = y at *
        cases he : sameB x y
        · rw [he] at hs
          replace miss := Lib.hid (miss hs)
          have hne : x.a ≠ y.a ∨ x.b ≠ y.b := by
            unfold sameB at he
            simp at he
            omega
          clear hs hall2 he
          rcases hne with hne | hne
          · have hne : (x.a == y.a) = false := by simpa using hne
            go_wp2
            go_quiet (fail)
            go_wp2
            go_ret
            exact ⟨ret_bool miss.out.symm, hB.trans ((below_drewN (Below.refl _ _) _).mono hB.size)⟩
          · have hne : (x.b == y.b) = false := by simpa using hne
            go_wp2
            go_quiet (fail)
            go_wp2
            all_goals
              go_ret
              exact ⟨ret_bool miss.out.symm, hB.trans ((below_drewN (Below.refl _ _) _).mono hB.size)⟩
        · rw [he] at hs
          have hall2 := Lib.hid (hall2 hs)
          obtain rfl := sameB_iff.1 he
          clear hs miss he
          go_wp2
          go_quiet (fail)
          go_wp2
          go_roundw
          case rel => exact ⟨k + 1, by omega, by go_num, hall2, hB.trans ((below_drewN (Below.refl _ _) _).mono hB.size)⟩
          case measure => simp [intOf]; omega
      · obtain rfl : k = l.length := by omega
        have hit := Lib.hid (sameV_hit hlm'.out hall.out)
        go_wp2
        go_ret
        exact ⟨ret_bool hit.out.symm, hB⟩
  · have ht : ((l.length : Int) != (m.length : Int)) = true := by simp; omega
    have e := Lib.hid (sameV_len hlm)
    clear hlm
    go_enter Try.func17, Try.ntmps17
    go_wp2
    go_ret
    exact ⟨ret_bool e.out.symm, Below.refl _ _⟩

def inV (l : List Two) (at' : Int) : Bool := l.any fun x => hasB x.a x.b at'
end Go.Proofs.Ytokbplajcdkcpaa
