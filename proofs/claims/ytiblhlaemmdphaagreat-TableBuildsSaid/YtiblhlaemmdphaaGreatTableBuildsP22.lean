/- The walk of the reference's insert: one more stretch among such that neither touch nor overlap. Conditions: words of 64 bits; slices below 2^39. -/
import Derived.Deep.DeepCutAuto
import Derived.Test.YtiblhlaemmdphaaGreatTableBuildsP6
import Derived.Test.YtiblhlaemmdphaaGreatTableBuildsP8
import Derived.Test.YtiblhlaemmdphaaGreatTableBuildsP13
namespace Go.Proofs.YtiblhlaemmdphaaGreat
open Go.RowKit
def joinMin (x s : Two) : Two := ⟨if x.a < s.a then x.a else s.a, if s.b < x.b then x.b else s.b, by split; exact x.ha; exact s.ha, by split; exact x.hb; exact s.hb⟩
def insStep (st : List Two × Two × Bool) (x : Two) : List Two × Two × Bool :=
 if x.b < st.2.1.a ∧ 1 < st.2.1.a - x.b then (st.1 ++ [x], st.2.1, st.2.2)
 else if st.2.1.b < x.a ∧ 1 < x.a - st.2.1.b then (if st.2.2 = true then (st.1 ++ [x], st.2.1, true) else (st.1 ++ [st.2.1] ++ [x], st.2.1, true))
 else (st.1, joinMin x st.2.1, st.2.2)
def insAll (l : List Two) (s : Two) : List Two × Two × Bool := l.foldl insStep ([], s, false)
def insertV (l : List Two) (s : Two) : List Two := if (insAll l s).2.2 = true then (insAll l s).1 else (insAll l s).1 ++ [(insAll l s).2.1]
theorem insAll_snoc (l : List Two) (s x : Two) : insAll (l ++ [x]) s = insStep (insAll l s) x := by simp [insAll, List.foldl_append]
end Go.Proofs.YtiblhlaemmdphaaGreat
/- The walk of span.spans: stretches as spans. Conditions: words of 64 bits; slices below 2^40. -/
namespace Go.Proofs.YtiblhlaemmdphaaGreat
open Go.RowKit
def fullB (x : Two) : Bool := decide (x.a = 0) && decide (x.b = 18446744073709551615)
def convV (x : Two) : Two := tw x.a (x.b - x.a + 1)
def halfA : Two := ⟨0, 9223372036854775808, by unfold W64; omega, by unfold W64; omega⟩
def halfB : Two := ⟨9223372036854775808, 9223372036854775808, by unfold W64; omega, by unfold W64; omega⟩
def spansV (l : List Two) : List Two := if l.any fullB = true then [halfA, halfB] else l.map convV
theorem spansV_hit {l : List Two} {k : Nat} (hk : k < l.length) (h : fullB l[k] = true) : spansV l = [halfA, halfB] := by
 unfold spansV; rw [if_pos (List.any_eq_true.2 ⟨_, List.getElem_mem hk, h⟩)]
theorem conv_val (x : Two) : (convV x).a = x.a ∧ (convV x).b = IntKind.u64.wrap (IntKind.u64.wrap (x.b - x.a) + 1) := by
 refine ⟨W64.eq x.ha, ?_⟩
 rw [IntKind.wrap_u64, IntKind.wrap_u64]
 show (x.b - x.a + 1) % _ = _
 omega
theorem infoSpan : InfoTwo Tryz.prog 28 := by unfold InfoTwo; kernel_rfl
set_option maxHeartbeats 1000000 in
theorem spans_any (v : Value) (l : List Two) (w : World) (hv : RowTwo w v l) (hl : l.length ≤ 549755813888) :
  Calls Tryz.prog 99 #[v] w (RetOwn 28 w (spansV l)) := by
 obtain ⟨a, cap, rfl, hcap, hrow⟩ := hv
 go_enter Tryz.func99, Tryz.ntmps99
 go_wp2
 go_loopw [3, 8] (fun o i wr => ∃ k : Nat, k ≤ l.length ∧ i = .int .i64 k ∧ OwnTwo 28 wr w.heap.size o ((l.take k).map convV) ∧ Hid (∀ j, (h : j < l.length) → j < k → fullB l[j] = false) ∧ Below w.heap.size w wr) (fun _ i _ => l.length - (intOf i).toNat)
 case atStart => exact ⟨0, Nat.zero_le _, rfl, OwnTwo.nil _ _ _, Lib.hid (fun j _ h => by omega), Below.refl _ _⟩
 case round =>
  obtain ⟨k, hk, rfl, hown, hno, hB⟩ := hrel
  by_cases hlt : k < l.length
  ·obtain ⟨b, off, rfl, hbl, hcell⟩ := hrow (by rintro rfl; simp at hlt)
   have h1 := (hcell k hlt).1
   have h2 := (hcell k hlt).2
   rw [← hB.cell (p := ⟨b, _, none⟩) hbl] at h1 h2
   have hcv := conv_val l[k]
   have hsn : (l.take (k + 1)).map convV = (l.take k).map convV ++ [convV l[k]] := by rw [List.take_succ_eq_append_getElem hlt, List.map_append]; rfl
   have hit := fun h => spansV_hit hlt h
   have hmiss : fullB l[k] = false → ∀ j, (h : j < l.length) → j < k + 1 → fullB l[j] = false := fun hf j hj hjk => by
    rcases Nat.lt_or_ge j k with h | h
    ·exact hno.out j hj h
    ·obtain rfl : j = k := by omega
     exact hf
   clear hcell hrow
   generalize l[k] = x at *
   have hx := x.ha
   have hy := x.hb
   unfold W64 at hx hy
   cases hf : fullB x
   ·have hmiss := Lib.hid (hmiss hf)
    have hle : wr.heap.size ≤ wr.heap.size + 1 := by omega
    clear hit
    have hsn := Lib.hid hsn
    have hcv := Lib.hid hcv
    have hB1 : w.heap.size ≤ wr.heap.size := hB.size
    by_cases ha : (x.a == 0) = true
    ·have hb : (x.b == 18446744073709551615) = false := by simp at ha; simp [fullB, ha] at hf; simpa using hf
     go_wp2_with (at_builtin; refine wpl_append_two rfl _ _ 80 rfl w.heap.size 28 infoSpan Tryz.underlying80 _ _ (convV x) rfl rfl (hown.alloc _) ?_ ?_ ?_ ?_ ?_; (focus (simp; done)); (focus (rw [hcv.out.1, hcv.out.2]; exact ⟨rfl, rfl⟩)); (focus (rw [List.length_map, List.length_take]; omega)); (focus (simp; omega)); intro v' w1 hown' hbel hgrow; have hb1 := ((bone wr _).mono hB1).trans (hbel _ (Nat.le_refl _)); clear hbel hgrow)
     go_roundw
     case rel => exact ⟨k + 1, by omega, by go_num, by rw [hsn.out]; exact hown', hmiss, hB.trans hb1⟩
     case measure => simp [intOf]; omega
    ·have ha : (x.a == 0) = false := by simpa using ha
     go_wp2_with (at_builtin; refine wpl_append_two rfl _ _ 80 rfl w.heap.size 28 infoSpan Tryz.underlying80 _ _ (convV x) rfl rfl (hown.alloc _) ?_ ?_ ?_ ?_ ?_; (focus (simp; done)); (focus (rw [hcv.out.1, hcv.out.2]; exact ⟨rfl, rfl⟩)); (focus (rw [List.length_map, List.length_take]; omega)); (focus (simp; omega)); intro v' w1 hown' hbel hgrow; have hb1 := ((bone wr _).mono hB1).trans (hbel _ (Nat.le_refl _)); clear hbel hgrow)
     go_roundw
     case rel => exact ⟨k + 1, by omega, by go_num, by rw [hsn.out]; exact hown', hmiss, hB.trans hb1⟩
     case measure => simp [intOf]; omega
   ·have hit := Lib.hid (hit hf)
    have ha : (x.a == 0) = true := by simp [fullB] at hf; simp [hf.1]
    have hb : (x.b == 18446744073709551615) = true := by simp [fullB] at hf; simp [hf.2]
    clear hsn hmiss
    go_wp2
    go_ret
    have hB1 : w.heap.size ≤ wr.heap.size := hB.size
    refine ⟨_, rfl, ?_, hB.trans (((bone wr _).mono hB1).trans ((bone _ _).mono (by simp; omega)))⟩
    rw [hit.out]
    have hL := OwnTwo.lit 28 (wr.alloc (.cells #[.int .u64 x.a, .int .u64 x.b] 177)) w.heap.size (by simp; omega) [halfA, halfB]
    rw [World.size_alloc] at hL
    exact hL
  ·have : k = l.length := by omega
   subst this
   have e : spansV l = l.map convV := by
    unfold spansV
    rw [if_neg]
    intro h
    obtain ⟨x, hx, hf⟩ := List.any_eq_true.1 h
    obtain ⟨i, hi, rfl⟩ := List.getElem_of_mem hx
    rw [hno.out i hi hi] at hf; cases hf
   rw [List.take_length, ← e] at hown
   clear e
   go_wp2
   go_ret
   exact ⟨_, rfl, hown, hB⟩
end Go.Proofs.YtiblhlaemmdphaaGreat
/- The walk of the reference's Merge. Conditions: words of 64 bits; slices below 2^38. -/
namespace Go.Proofs.YtiblhlaemmdphaaGreat
open Go.RowKit
def endsV (x : Two) : Two := ⟨x.a, lastV x.a x.b, x.ha, lastV_w x.ha x.hb⟩
def refStep (acc : List Two) (x : Two) : List Two := if goodB x.a x.b = true then insertV acc (endsV x) else acc
def refAllV (l : List Two) : List Two := l.foldl refStep []
def conv2 (x : Two) : List Two := if fullB x = true then [halfA, halfB] else [convV x]
def refMergeV (l : List Two) : List Two := (refAllV l).flatMap conv2
end Go.Proofs.YtiblhlaemmdphaaGreat
/- The walk of the reference's Cut. Conditions: words of 64 bits; the pieces stay fewer than 2^38. -/
namespace Go.Proofs.YtiblhlaemmdphaaGreat
open Go.RowKit
def pcsSV (x y : Two) : List Two :=
 if overlapB x.a x.b y.a y.b = false then [y]
 else (if y.a < x.a then [tw y.a (x.a - y.a)] else []) ++ (if lastV x.a x.b < lastV y.a y.b then [tw (lastV x.a x.b + 1) (lastV y.a y.b - lastV x.a x.b)] else [])
end Go.Proofs.YtiblhlaemmdphaaGreat
