/- The walk of the reference's First, which gives what span.First gives. Conditions: words of 64 bits; slices below 2^40. -/
import Derived.Test.YtffdfeekpfmbeaaGreatValidChecksP9
namespace Go.Proofs.YtffdfeekpfmbeaaGreat
open Go.RowKit Go.Shelf

theorem idxV_hit {p : Two → Bool} {l : List Two} {i j : Nat} (hi : i < j) (hj : j < l.length) (h : p l[i]! = true) (hn : ∀ k, k < i → p l[k]! = false) : idxV p (l.take j) = i :=
  Lib.idxBy_hit (fun _ y => p y) l j i default hi (by omega) h hn
theorem idxV_miss {p : Two → Bool} {l : List Two} {j : Nat} (hj : j ≤ l.length) (hn : ∀ k, k < j → p l[k]! = false) : idxV p (l.take j) = -1 := by
  refine Lib.idxByFrom_miss (fun _ y => p y) default (l.take j) 0 fun k hk => ?_
  rw [List.length_take] at hk
  have e : (l.take j)[k]! = l[k]! := by
    rw [getElem!_pos (l.take j) k (by rw [List.length_take]; omega), getElem!_pos l k (by omega), List.getElem_take]
  rw [e]; exact hn k (by omega)

set_option maxHeartbeats 1000000 in
theorem refFirst_any (v : Value) (l : List Two) (w : World) (hv : RowTwo w v l) (hl : l.length ≤ 1099511627776) :
    Calls Tryz.prog 41 #[v] w fun e w' => e = .returned (.tuple #[.int .i64 (firstV l).1, .int .i64 (firstV l).2.1, .bool (firstV l).2.2]) ∧ Below w.heap.size w w' := by
  obtain ⟨a, cap, rfl, hcap, hrow⟩ := hv
  go_enter Tryz.func41, Tryz.ntmps41
  go_wp2
  go_loopw [5, 6] (fun i _ wr => ∃ k : Nat, k ≤ l.length ∧ i = .int .i64 k ∧ firstV l = firstFrom l (l.length - k) k ∧ Below w.heap.size w wr) (fun i _ _ => l.length - (intOf i).toNat)
  case atStart => exact ⟨0, Nat.zero_le _, rfl, rfl, Below.refl _ _⟩
  case round =>
    obtain ⟨k, hk, rfl, hf, hB⟩ := hrel
    by_cases hlt : k < l.length
    · obtain ⟨b, off, rfl, hbl, hcell⟩ := hrow (by rintro rfl; simp at hlt)
      have HF := Lib.hid hf
      clear hf
      obtain ⟨wo, rfl⟩ : ∃ wo : World, wo = wr := ⟨_, rfl⟩
      go_wp2
      go_loopw [6] (fun i wr => ∃ m : Nat, m ≤ k ∧ i = .int .i64 m ∧ Hid (∀ q, q < m → ovl l k l[q]! = false) ∧ Below w.heap.size w wr) (fun i _ => k - (intOf i).toNat)
      case atStart => exact ⟨0, Nat.zero_le _, rfl, Lib.hid (fun q hq => by omega), hB⟩
      case round =>
        obtain ⟨m, hm, rfl, hno, hB2⟩ := hrel
        by_cases hlt2 : m < k
        · have h1 := (hcell k hlt).1
          have h2 := (hcell k hlt).2
          have h3 := (hcell m (by omega)).1
          have h4 := (hcell m (by omega)).2
          have b1 : (0 : Int) ≤ k := by omega
          have b2 : (k : Int) < l.length := by omega
          have b3 : (0 : Int) ≤ m := by omega
          have b4 : (m : Int) < l.length := by omega
          have hov : ovl l k l[m]! = overlapB l[m].a l[m].b l[k].a l[k].b := by unfold ovl; rw [getElem!_pos l k hlt, getElem!_pos l m (by omega)]
          have hhit := fun h => idxV_hit (p := ovl l k) hlt2 hlt (h : ovl l k l[m]! = true) hno.out
          rw [← hB2.cell (p := ⟨b, _, none⟩) hbl] at h1 h2 h3 h4
          have hbl2 : b < wr.heap.size := Nat.lt_of_lt_of_le hbl hB2.size
          generalize l[k] = x at *
          generalize l[m] = y at *
          have x1 := later_cell h1 hbl2
          have x2 := later_cell h2 hbl2
          have x3 := later_cell h3 hbl2
          have x4 := later_cell h4 hbl2
          clear h1 h2 h3 h4 hcell hrow
          cases ho : overlapB y.a y.b x.a x.b
          · rw [ho] at hov
            replace hov := Lib.hid hov
            clear hhit
            go_wp2_with fail
            refine region_later wr.heap.size wr (Below.refl _ _) (by kernel_rfl) (by kernel_rfl) ?_
            repeat (quiet_step ((go_at_call 38; exact quiet_later (Nat.le_refl _) (refOverlap_any _ _ _ _ _ y.ha y.hb x.ha x.hb))))
            refine wpQuiet_nil ?_
            rintro _ ⟨X, rfl⟩
            have hX := X.h
            clear x1 x2 x3 x4
            simp only [ho]
            go_wp2_with fail
            go_roundw
            case rel =>
              refine ⟨m + 1, by omega, by go_num, Lib.hid (fun q hq => ?_), hB2.trans (hX.mono hB2.size)⟩
              rcases Nat.lt_or_ge q m with h | h
              · exact hno.out q h
              · obtain rfl : q = m := by omega
                exact hov.out
            case measure => simp [intOf]; omega
          · rw [ho] at hov
            have hit := Lib.hid (firstV_hit hlt HF.out (by rw [hhit hov]; omega))
            have he := Lib.hid (hhit hov)
            clear hov hhit
            go_wp2_with fail
            refine region_later wr.heap.size wr (Below.refl _ _) (by kernel_rfl) (by kernel_rfl) ?_
            repeat (quiet_step ((go_at_call 38; exact quiet_later (Nat.le_refl _) (refOverlap_any _ _ _ _ _ y.ha y.hb x.ha x.hb))))
            refine wpQuiet_nil ?_
            rintro _ ⟨X, rfl⟩
            have hX := X.h
            clear x1 x2 x3 x4
            simp only [ho]
            go_wp2_with fail
            go_ret3
            exact ⟨by rw [hit.out, he.out]; rfl, hB2.trans (hX.mono hB2.size)⟩
        · obtain rfl : m = k := by omega
          have miss := Lib.hid (firstV_miss hlt HF.out (by rw [idxV_miss (by omega) hno.out]; omega))
          go_wp2
          go_roundw
          case rel => exact ⟨m + 1, by omega, by go_num, miss.out, hB2⟩
          case measure => simp [intOf]; omega
    · have : k = l.length := by omega
      subst this
      rw [Nat.sub_self] at hf
      replace hf := Lib.hid hf
      go_wp2
      go_ret3
      exact ⟨by rw [hf.out]; rfl, hB⟩
end Go.Proofs.YtffdfeekpfmbeaaGreat
