/- The walk of the reference's insert: one more stretch among such that neither touch nor overlap. Conditions: words of 64 bits; slices below 2^39. -/
import Derived.Test.YtdeldhoeelijeaaApp
import Derived.Test.YtdeldhoeelijeaaSpanC
import Derived.Deep.DeepCutAuto
namespace Go.Proofs.Ytdeldhoeelijeaa
open Go.RowKit

def joinMin (x s : Two) : Two := ⟨if x.a < s.a then x.a else s.a, if s.b < x.b then x.b else s.b, by split; exact x.ha; exact s.ha, by split; exact x.hb; exact s.hb⟩
def insStep (st : List Two × Two × Bool) (x : Two) : List Two × Two × Bool :=
  if x.b < st.2.1.a ∧ 1 < st.2.1.a - x.b then (st.1 ++ [x], st.2.1, st.2.2)
  else if st.2.1.b < x.a ∧ 1 < x.a - st.2.1.b then (if st.2.2 = true then (st.1 ++ [x], st.2.1, true) else (st.1 ++ [st.2.1] ++ [x], st.2.1, true))
  else (st.1, joinMin x st.2.1, st.2.2)
def insAll (l : List Two) (s : Two) : List Two × Two × Bool := l.foldl insStep ([], s, false)
def insertV (l : List Two) (s : Two) : List Two := if (insAll l s).2.2 = true then (insAll l s).1 else (insAll l s).1 ++ [(insAll l s).2.1]
theorem insAll_snoc (l : List Two) (s x : Two) : insAll (l ++ [x]) s = insStep (insAll l s) x := by simp [insAll, List.foldl_append]
def dn (b : Bool) : Nat := cond b 0 1
theorem insStep_len (st : List Two × Two × Bool) (x : Two) : (insStep st x).1.length + dn (insStep st x).2.2 ≤ st.1.length + dn st.2.2 + 1 := by
  obtain ⟨o, s, d⟩ := st
  unfold insStep
  dsimp only
  split
  · simp <;> omega
  · split
    · cases d <;> simp [dn]
    · simp
theorem insAll_len (l : List Two) (s : Two) : (insAll l s).1.length + dn (insAll l s).2.2 ≤ l.length + 1 := by
  suffices h : ∀ (l : List Two) (st : List Two × Two × Bool), (l.foldl insStep st).1.length + dn (l.foldl insStep st).2.2 ≤ st.1.length + dn st.2.2 + l.length by
    have := h l ([], s, false)
    simp only [insAll]; simp [dn] at this ⊢; omega
  intro l
  induction l with
  | nil => intro st; simp
  | cons x l ih => intro st; have h1 := ih (insStep st x); have h2 := insStep_len st x; simp only [List.foldl_cons, List.length_cons]; omega
theorem insertV_len (l : List Two) (s : Two) : (insertV l s).length ≤ l.length + 1 := by
  have := insAll_len l s
  unfold insertV
  cases h : (insAll l s).2.2 <;> simp [h, dn] at this ⊢ <;> omega
theorem infoEnds1 : InfoTwo Try.prog 76 := by unfold InfoTwo; kernel_rfl

theorem joinMin_11 {x s : Two} (h : x.a < s.a) (k : s.b < x.b) : (joinMin x s).a = x.a ∧ (joinMin x s).b = x.b := ⟨if_pos h, if_pos k⟩
theorem joinMin_10 {x s : Two} (h : x.a < s.a) (k : ¬ s.b < x.b) : (joinMin x s).a = x.a ∧ (joinMin x s).b = s.b := ⟨if_pos h, if_neg k⟩
theorem joinMin_01 {x s : Two} (h : ¬ x.a < s.a) (k : s.b < x.b) : (joinMin x s).a = s.a ∧ (joinMin x s).b = x.b := ⟨if_neg h, if_pos k⟩
theorem joinMin_00 {x s : Two} (h : ¬ x.a < s.a) (k : ¬ s.b < x.b) : (joinMin x s).a = s.a ∧ (joinMin x s).b = s.b := ⟨if_neg h, if_neg k⟩
theorem insClose {E : TypeId} {w wr V : World} {o : Value} {out : List Two} {s : Two} {p q : Int} {O : Obj} {H : Prop} (hj : s.a = p ∧ s.b = q) (ht : TwoAt w.heap.size wr V p q) (hown : OwnTwo E wr (w.heap.size + 1) o out) (h : H) (hz : w.heap.size + 1 ≤ wr.heap.size) (hB : Below w.heap.size w wr) :
    OwnTwo E (V.alloc O) (w.heap.size + 1) o out ∧ H ∧ (V.alloc O).cell? ⟨w.heap.size, 0, none⟩ = some (.int .u64 s.a) ∧ (V.alloc O).cell? ⟨w.heap.size, 1, none⟩ = some (.int .u64 s.b) ∧ (V.alloc O).frozen? ⟨w.heap.size, 0, none⟩ = false ∧ (V.alloc O).frozen? ⟨w.heap.size, 1, none⟩ = false ∧ w.heap.size + 1 ≤ (V.alloc O).heap.size ∧ Below w.heap.size w (V.alloc O) := by
  obtain ⟨rfl, rfl⟩ := hj
  have hs := ht.size
  exact ⟨(ht.own hown (by omega)).alloc _, h, cell_lt (bone V O) ht.c0, cell_lt (bone V O) ht.c1, frozen_lt (bone V O) ht.z0, frozen_lt (bone V O) ht.z1, by simp; omega, (hB.trans ht.below).trans ((bone V O).mono (by omega))⟩

set_option maxHeartbeats 4000000 in
theorem insert_any (v : Value) (l : List Two) (s0 : Two) (w : World) (hv : RowTwo w v l) (hl : l.length ≤ 549755813888) :
    Calls Try.prog 42 #[v, .agg #[.int .u64 s0.a, .int .u64 s0.b]] w (RetOwn 76 w (insertV l s0)) := by
  obtain ⟨a, cap, rfl, hcap, hrow⟩ := hv
  go_enter Try.func42, Try.ntmps42
  go_wp2
  go_loopw [5, 6, 11] (fun o d i wr => ∃ (k : Nat) (out : List Two) (s : Two) (done : Bool), k ≤ l.length ∧ i = .int .i64 k ∧ d = .bool done ∧ OwnTwo 76 wr (w.heap.size + 1) o out ∧ Hid (insAll (l.take k) s0 = (out, s, done)) ∧
      wr.cell? ⟨w.heap.size, 0, none⟩ = some (.int .u64 s.a) ∧ wr.cell? ⟨w.heap.size, 1, none⟩ = some (.int .u64 s.b) ∧ wr.frozen? ⟨w.heap.size, 0, none⟩ = false ∧ wr.frozen? ⟨w.heap.size, 1, none⟩ = false ∧ w.heap.size + 1 ≤ wr.heap.size ∧ Below w.heap.size w wr) (fun _ _ i _ => l.length - (intOf i).toNat)
  case atStart =>
    exact ⟨0, [], s0, false, Nat.zero_le _, rfl, rfl, OwnTwo.nil _ _ _, Lib.hid rfl, by simp [World.cell?_alloc_new], by simp [World.cell?_alloc_new], by simp [go_sem], by simp [go_sem], by simp, bone _ _⟩
  case round =>
    obtain ⟨k, out, s, done, hk, rfl, rfl, hown, hst, c0, c1, z0, z1, hz, hB⟩ := hrel
    have hlen := insAll_len (l.take k) s0
    rw [hst.out, List.length_take, Nat.min_eq_left hk] at hlen
    dsimp only at hlen
    replace hlen : out.length ≤ k + 1 := by omega
    by_cases hlt : k < l.length
    · obtain ⟨b, off, rfl, hbl, hcell⟩ := hrow (by rintro rfl; simp at hlt)
      have h1 := (hcell k hlt).1
      have h2 := (hcell k hlt).2
      rw [← hB.cell (p := ⟨b, _, none⟩) hbl] at h1 h2
      have hsn : insAll (l.take (k + 1)) s0 = insStep (out, s, done) l[k] := by rw [List.take_succ_eq_append_getElem hlt, insAll_snoc, hst.out]
      clear hcell hrow hst
      generalize l[k] = x at *
      have hx := x.ha
      have hy := x.hb
      have hp := s.ha
      have hq := s.hb
      unfold W64 at hx hy hp hq
      have hzz : w.heap.size < wr.heap.size := by omega
      have hne : ¬ wr.heap.size = w.heap.size := by omega
      have hne' : ¬ w.heap.size = wr.heap.size := by omega
      have d0 : (wr.alloc (.cells #[.int .u64 x.a, .int .u64 x.b] 76)).cell? ⟨w.heap.size, 0, none⟩ = some (.int .u64 s.a) := by rw [(bone wr _).cell hzz]; exact c0
      have d1 : (wr.alloc (.cells #[.int .u64 x.a, .int .u64 x.b] 76)).cell? ⟨w.heap.size, 1, none⟩ = some (.int .u64 s.b) := by rw [(bone wr _).cell hzz]; exact c1
      have e0 : (wr.alloc (.cells #[.int .u64 x.a, .int .u64 x.b] 76)).frozen? ⟨w.heap.size, 0, none⟩ = false := by rw [(bone wr _).frozen hzz]; exact z0
      have e1 : (wr.alloc (.cells #[.int .u64 x.a, .int .u64 x.b] 76)).frozen? ⟨w.heap.size, 1, none⟩ = false := by rw [(bone wr _).frozen hzz]; exact z1
      have hown1 := hown.alloc (.cells #[.int .u64 x.a, .int .u64 x.b] 76)
      by_cases hA : x.b < s.a ∧ 1 < s.a - x.b
      · obtain ⟨hA1, hA2⟩ := hA
        have hsn' : Hid (insAll (l.take (k + 1)) s0 = (out ++ [x], s, done)) := by show _ = _; rw [hsn]; unfold insStep; rw [if_pos ⟨hA1, hA2⟩]
        clear hsn
        go_wp2_with (at_builtin; (refine wpl_append_two rfl _ _ 73 rfl (w.heap.size + 1) 76 infoEnds1 Try.underlying73 _ out x rfl rfl ?_ ?_ ?_ ?_ ?_ ?_); (focus (exact hown1)); (focus (first | rfl | (simp; done) | (simp; omega))); (focus (exact ⟨rfl, rfl⟩)); (focus (omega)); (focus (first | (simp; omega) | omega)); intro v' w1 hown' hbel hgrow)
        go_roundw
        case rel => exact ⟨k + 1, _, s, done, by omega, by go_num, rfl, hown', hsn', cell_lt (hbel (w.heap.size + 1) (Nat.le_refl _)) d0, cell_lt (hbel (w.heap.size + 1) (Nat.le_refl _)) d1, frozen_lt (hbel (w.heap.size + 1) (Nat.le_refl _)) e0, frozen_lt (hbel (w.heap.size + 1) (Nat.le_refl _)) e1, Nat.le_trans (by simp; omega) (hbel (w.heap.size + 1) (Nat.le_refl _)).size, hB.trans (((bone wr _).mono hB.size).trans ((hbel (w.heap.size + 1) (Nat.le_refl _)).mono (by omega)))⟩
        case measure => simp [intOf]; omega
      · have hA1 : ¬ (x.b < s.a ∧ 1 < s.a - x.b) := hA
        by_cases hC : s.b < x.a ∧ 1 < x.a - s.b
        · obtain ⟨hC1, hC2⟩ := hC
          by_cases hA2 : x.b < s.a
          case' pos => have hA3 : s.a - x.b ≤ 1 := by omega
          all_goals
            cases done
            · have hsn' : Hid (insAll (l.take (k + 1)) s0 = (out ++ [s] ++ [x], s, true)) := by show _ = _; rw [hsn]; unfold insStep; rw [if_neg hA1, if_pos ⟨hC1, hC2⟩]; rfl
              clear hA hA1 hsn
              go_upto_region 16 with (at_builtin; (refine wpl_append_two rfl _ _ 73 rfl (w.heap.size + 1) 76 infoEnds1 Try.underlying73 _ out s rfl rfl ?_ ?_ ?_ ?_ ?_ ?_); (focus (exact hown1)); (focus (first | rfl | (simp; done) | (simp; omega))); (focus (exact ⟨rfl, rfl⟩)); (focus (omega)); (focus (first | (simp; omega) | omega)); intro v' w1 hown' hbel hgrow; have g0 : w1.cell? ⟨wr.heap.size, 0, none⟩ = some (.int .u64 x.a) := (by rw [grown_cell hgrow 0 (by simp; omega) (fun e => by have := (hown.lt _ e).2; omega)]; simp [World.cell?_alloc_past, World.cell?_alloc_new]); have g1 : w1.cell? ⟨wr.heap.size, 1, none⟩ = some (.int .u64 x.b) := (by rw [grown_cell hgrow 1 (by simp; omega) (fun e => by have := (hown.lt _ e).2; omega)]; simp [World.cell?_alloc_past, World.cell?_alloc_new]); have hz1 : w.heap.size + 1 ≤ w1.heap.size := Nat.le_trans (by simp; omega) (hbel (w.heap.size + 1) (Nat.le_refl _)).size; have Bt1 := hbel (w.heap.size + 1) (Nat.le_refl _); clear hbel hgrow; have tok := trivial)
              go_wp2_with (at_builtin; (refine wpl_append_two rfl _ _ 73 rfl (w.heap.size + 1) 76 infoEnds1 Try.underlying73 _ (out ++ [s]) x rfl rfl ?_ ?_ ?_ ?_ ?_ ?_); (focus (exact hown')); (focus (first | rfl | (simp; done) | (simp; omega))); (focus (exact ⟨rfl, rfl⟩)); (focus (simp; omega)); (focus (first | (simp; omega) | omega)); intro v' w2 hown2 hbel hgrow)
              go_roundw
              case rel => exact ⟨k + 1, _, s, true, by omega, by go_num, rfl, hown2, hsn', cell_lt (Bt1.trans (hbel (w.heap.size + 1) (Nat.le_refl _))) d0, cell_lt (Bt1.trans (hbel (w.heap.size + 1) (Nat.le_refl _))) d1, frozen_lt (Bt1.trans (hbel (w.heap.size + 1) (Nat.le_refl _))) e0, frozen_lt (Bt1.trans (hbel (w.heap.size + 1) (Nat.le_refl _))) e1, Nat.le_trans (by simp; omega) (Bt1.trans (hbel (w.heap.size + 1) (Nat.le_refl _))).size, hB.trans (((bone wr _).mono hB.size).trans ((Bt1.trans (hbel (w.heap.size + 1) (Nat.le_refl _))).mono (by omega)))⟩
              case measure => simp [intOf]; omega
            · have hsn' : Hid (insAll (l.take (k + 1)) s0 = (out ++ [x], s, true)) := by show _ = _; rw [hsn]; unfold insStep; rw [if_neg hA1, if_pos ⟨hC1, hC2⟩]; rfl
              clear hA hA1 hsn
              go_wp2_with (at_builtin; (refine wpl_append_two rfl _ _ 73 rfl (w.heap.size + 1) 76 infoEnds1 Try.underlying73 _ out x rfl rfl ?_ ?_ ?_ ?_ ?_ ?_); (focus (exact hown1)); (focus (first | rfl | (simp; done) | (simp; omega))); (focus (exact ⟨rfl, rfl⟩)); (focus (omega)); (focus (first | (simp; omega) | omega)); intro v' w1 hown' hbel hgrow)
              go_roundw
              case rel => exact ⟨k + 1, _, s, true, by omega, by go_num, rfl, hown', hsn', cell_lt (hbel (w.heap.size + 1) (Nat.le_refl _)) d0, cell_lt (hbel (w.heap.size + 1) (Nat.le_refl _)) d1, frozen_lt (hbel (w.heap.size + 1) (Nat.le_refl _)) e0, frozen_lt (hbel (w.heap.size + 1) (Nat.le_refl _)) e1, Nat.le_trans (by simp; omega) (hbel (w.heap.size + 1) (Nat.le_refl _)).size, hB.trans (((bone wr _).mono hB.size).trans ((hbel (w.heap.size + 1) (Nat.le_refl _)).mono (by omega)))⟩
              case measure => simp [intOf]; omega
        · have hsn' : Hid (insAll (l.take (k + 1)) s0 = (out, joinMin x s, done)) := by show _ = _; rw [hsn]; unfold insStep; rw [if_neg hA1, if_neg hC]
          clear hsn hA
          have tw : TwoAt w.heap.size wr wr s.a s.b := ⟨c0, c1, z0, z1, rfl, fun _ _ => rfl, rfl, rfl, rfl⟩
          clear d0 d1 e0 e1 hown1
          go_wp2
          all_goals
            go_roundw
            case rel =>
              refine ⟨k + 1, out, joinMin x s, done, by omega, by go_num, rfl, ?_⟩
              first
                | exact insClose (joinMin_11 (by assumption) (by assumption)) ((tw.set0 _).set1 _) hown hsn' hz hB
                | exact insClose (joinMin_10 (by assumption) (by omega)) (tw.set0 _) hown hsn' hz hB
                | exact insClose (joinMin_01 (by omega) (by assumption)) (tw.set1 _) hown hsn' hz hB
                | exact insClose (joinMin_00 (by omega) (by omega)) tw hown hsn' hz hB
            case measure => simp [intOf]; omega
    · obtain rfl : k = l.length := by omega
      rw [List.take_length] at hst
      cases done
      · have e : insertV l s0 = out ++ [s] := by unfold insertV; rw [hst.out]; rfl
        replace e := Lib.hid e
        go_wp2_with (at_builtin; (refine wpl_append_two rfl _ _ 73 rfl (w.heap.size + 1) 76 infoEnds1 Try.underlying73 _ out s rfl rfl ?_ ?_ ?_ ?_ ?_ ?_); (focus (exact hown)); (focus (first | rfl | (simp; done) | (simp; omega))); (focus (exact ⟨rfl, rfl⟩)); (focus (omega)); (focus (first | (simp; omega) | omega)); intro v' w1 hown' hbel hgrow)
        go_ret
        exact ⟨_, rfl, by rw [e.out]; exact hown'.mono (Nat.le_succ _), hB.trans (hbel w.heap.size (by omega))⟩
      · have e : insertV l s0 = out := by unfold insertV; rw [hst.out]; rfl
        replace e := Lib.hid e
        go_wp2
        go_ret
        exact ⟨_, rfl, by rw [e.out]; exact hown.mono (Nat.le_succ _), hB⟩
end Go.Proofs.Ytdeldhoeelijeaa
