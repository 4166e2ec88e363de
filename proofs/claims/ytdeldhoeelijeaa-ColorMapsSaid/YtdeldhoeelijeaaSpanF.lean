/- The walk of span.spans: stretches as spans. Conditions: words of 64 bits; slices below 2^40. -/
import Derived.Test.YtdeldhoeelijeaaApp
import Derived.Test.YtdeldhoeelijeaaSpanC
namespace Go.Proofs.Ytdeldhoeelijeaa
open Go.RowKit

def fullB (x : Two) : Bool := decide (x.a = 0) && decide (x.b = 18446744073709551615)
def convV (x : Two) : Two := tw x.a (x.b - x.a + 1)
def halfA : Two := ⟨0, 9223372036854775808, by unfold W64; omega, by unfold W64; omega⟩
def halfB : Two := ⟨9223372036854775808, 9223372036854775808, by unfold W64; omega, by unfold W64; omega⟩
def spansV (l : List Two) : List Two := if l.any fullB = true then [halfA, halfB] else l.map convV
theorem spansV_hit {l : List Two} {k : Nat} (hk : k < l.length) (h : fullB l[k] = true) : spansV l = [halfA, halfB] := by
  unfold spansV; rw [if_pos (List.any_eq_true.2 ⟨_, List.getElem_mem hk, h⟩)]
theorem conv_val (x : Two) : (convV x).a = x.a ∧ (convV x).b = IntKind.u64.wrap (IntKind.u64.wrap (x.b - x.a) + 1) := by
  refine ⟨W64.eq x.ha, ?_⟩
  rw [IntKind.wrap_u64, IntKind.wrap_u64]
  show (x.b - x.a + 1) % _ = _
  omega
theorem infoSpan : InfoTwo Try.prog 24 := by unfold InfoTwo; kernel_rfl

set_option maxHeartbeats 1000000 in
theorem spans_any (v : Value) (l : List Two) (w : World) (hv : RowTwo w v l) (hl : l.length ≤ 549755813888) :
    Calls Try.prog 40 #[v] w (RetOwn 24 w (spansV l)) := by
  obtain ⟨a, cap, rfl, hcap, hrow⟩ := hv
  go_enter Try.func40, Try.ntmps40
  go_wp2
  go_loopw [3, 8] (fun o i wr => ∃ k : Nat, k ≤ l.length ∧ i = .int .i64 k ∧ OwnTwo 24 wr w.heap.size o ((l.take k).map convV) ∧ Hid (∀ j, (h : j < l.length) → j < k → fullB l[j] = false) ∧ Below w.heap.size w wr) (fun _ i _ => l.length - (intOf i).toNat)
  case atStart => exact ⟨0, Nat.zero_le _, rfl, OwnTwo.nil _ _ _, Lib.hid (fun j _ h => by omega), Below.refl _ _⟩
  case round =>
    obtain ⟨k, hk, rfl, hown, hno, hB⟩ := hrel
    by_cases hlt : k < l.length
    · obtain ⟨b, off, rfl, hbl, hcell⟩ := hrow (by rintro rfl; simp at hlt)
      have h1 := (hcell k hlt).1
      have h2 := (hcell k hlt).2
      rw [← hB.cell (p := ⟨b, _, none⟩) hbl] at h1 h2
      have hcv := conv_val l[k]
      have hsn : (l.take (k + 1)).map convV = (l.take k).map convV ++ [convV l[k]] := by rw [List.take_succ_eq_append_getElem hlt, List.map_append]; rfl
      have hit := fun h => spansV_hit hlt h
      have hmiss : fullB l[k] = false → ∀ j, (h : j < l.length) → j < k + 1 → fullB l[j] = false := fun hf j hj hjk => by
        rcases Nat.lt_or_ge j k with h | h
        · exact hno.out j hj h
        · obtain rfl : j = k := by omega
          exact hf
      clear hcell hrow
      generalize l[k] = x at *
      have hx := x.ha
      have hy := x.hb
      unfold W64 at hx hy
      cases hf : fullB x
      · have hmiss := Lib.hid (hmiss hf)
        have hle : wr.heap.size ≤ wr.heap.size + 1 := by omega
        clear hit
        have hsn := Lib.hid hsn
        have hcv := Lib.hid hcv
        have hB1 : w.heap.size ≤ wr.heap.size := hB.size
        by_cases ha : (x.a == 0) = true
        · have hb : (x.b == 18446744073709551615) = false := by simp at ha; simp [fullB, ha] at hf; simpa using hf
          go_wp2_with (at_builtin; refine wpl_append_two rfl _ _ 26 rfl w.heap.size 24 infoSpan Try.underlying26 _ _ (convV x) rfl rfl (hown.alloc _) ?_ ?_ ?_ ?_ ?_; (focus (simp; done)); (focus (rw [hcv.out.1, hcv.out.2]; exact ⟨rfl, rfl⟩)); (focus (rw [List.length_map, List.length_take]; omega)); (focus (simp; omega)); intro v' w1 hown' hbel hgrow; have hb1 := ((bone wr _).mono hB1).trans (hbel _ (Nat.le_refl _)); clear hbel hgrow)
          go_roundw
          case rel => exact ⟨k + 1, by omega, by go_num, by rw [hsn.out]; exact hown', hmiss, hB.trans hb1⟩
          case measure => simp [intOf]; omega
        · have ha : (x.a == 0) = false := by simpa using ha
          go_wp2_with (at_builtin; refine wpl_append_two rfl _ _ 26 rfl w.heap.size 24 infoSpan Try.underlying26 _ _ (convV x) rfl rfl (hown.alloc _) ?_ ?_ ?_ ?_ ?_; (focus (simp; done)); (focus (rw [hcv.out.1, hcv.out.2]; exact ⟨rfl, rfl⟩)); (focus (rw [List.length_map, List.length_take]; omega)); (focus (simp; omega)); intro v' w1 hown' hbel hgrow; have hb1 := ((bone wr _).mono hB1).trans (hbel _ (Nat.le_refl _)); clear hbel hgrow)
          go_roundw
          case rel => exact ⟨k + 1, by omega, by go_num, by rw [hsn.out]; exact hown', hmiss, hB.trans hb1⟩
          case measure => simp [intOf]; omega
      · have hit := Lib.hid (hit hf)
        have ha : (x.a == 0) = true := by simp [fullB] at hf; simp [hf.1]
        have hb : (x.b == 18446744073709551615) = true := by simp [fullB] at hf; simp [hf.2]
        clear hsn hmiss
        go_wp2
        go_ret
        have hB1 : w.heap.size ≤ wr.heap.size := hB.size
        refine ⟨_, rfl, ?_, hB.trans (((bone wr _).mono hB1).trans ((bone _ _).mono (by simp; omega)))⟩
        rw [hit.out]
        have hL := OwnTwo.lit 24 (wr.alloc (.cells #[.int .u64 x.a, .int .u64 x.b] 82)) w.heap.size (by simp; omega) [halfA, halfB]
        rw [World.size_alloc] at hL
        exact hL
    · have : k = l.length := by omega
      subst this
      have e : spansV l = l.map convV := by
        unfold spansV
        rw [if_neg]
        intro h
        obtain ⟨x, hx, hf⟩ := List.any_eq_true.1 h
        obtain ⟨i, hi, rfl⟩ := List.getElem_of_mem hx
        rw [hno.out i hi hi] at hf; cases hf
      rw [List.take_length, ← e] at hown
      clear e
      go_wp2
      go_ret
      exact ⟨_, rfl, hown, hB⟩
end Go.Proofs.Ytdeldhoeelijeaa
