/- The walk of the reference's insert: one more stretch among such that neither touch nor overlap. Conditions: words of 64 bits; slices below 2^39. -/
import Derived.Test.YtehijlgopmbglaaApp
import Derived.Test.YtehijlgopmbglaaSpanC
import Derived.Deep.DeepCutAuto
namespace Go.Proofs.Ytehijlgopmbglaa
open Go.RowKit

def joinMin (x s : Two) : Two := ⟨if x.a < s.a then x.a else s.a, if s.b < x.b then x.b else s.b, by split; exact x.ha; exact s.ha, by split; exact x.hb; exact s.hb⟩
def insStep (st : List Two × Two × Bool) (x : Two) : List Two × Two × Bool :=
  if x.b < st.2.1.a ∧ 1 < st.2.1.a - x.b then (st.1 ++ [x], st.2.1, st.2.2)
  else if st.2.1.b < x.a ∧ 1 < x.a - st.2.1.b then (if st.2.2 = true then (st.1 ++ [x], st.2.1, true) else (st.1 ++ [st.2.1] ++ [x], st.2.1, true))
  else (st.1, joinMin x st.2.1, st.2.2)
def insAll (l : List Two) (s : Two) : List Two × Two × Bool := l.foldl insStep ([], s, false)
def insertV (l : List Two) (s : Two) : List Two := if (insAll l s).2.2 = true then (insAll l s).1 else (insAll l s).1 ++ [(insAll l s).2.1]
theorem insAll_snoc (l : List Two) (s x : Two) : insAll (l ++ [x]) s = insStep (insAll l s) x := by simp [insAll, List.foldl_append]
def dn (b : Bool) : Nat := cond b 0 1
theorem insStep_len (st : List Two × Two × Bool) (x : Two) : (insStep st x).1.length + dn (insStep st x).2.2 ≤ st.1.length + dn st.2.2 + 1 := by
  obtain ⟨o, s, d⟩ := st
  unfold insStep
  dsimp only
  split
  · simp <;> omega
  · split
    · cases d <;> simp [dn]
    · simp
theorem insAll_len (l : List Two) (s : Two) : (insAll l s).1.length + dn (insAll l s).2.2 ≤ l.length + 1 := by
  suffices h : ∀ (l : List Two) (st : List Two × Two × Bool), (l.foldl insStep st).1.length + dn (l.foldl insStep st).2.2 ≤ st.1.length + dn st.2.2 + l.length by
    have := h l ([], s, false)
    simp only [insAll]; simp [dn] at this ⊢; omega
  intro l
  induction l with
  | nil => intro st; simp
  | cons x l ih => intro st; have h1 := ih (insStep st x); have h2 := insStep_len st x; simp only [List.foldl_cons, List.length_cons]; omega
theorem insertV_len (l : List Two) (s : Two) : (insertV l s).length ≤ l.length + 1 := by
  have := insAll_len l s
  unfold insertV
  cases h : (insAll l s).2.2 <;> simp [h, dn] at this ⊢ <;> omega

theorem joinMin_11 {x s : Two} (h : x.a < s.a) (k : s.b < x.b) : (joinMin x s).a = x.a ∧ (joinMin x s).b = x.b := ⟨if_pos h, if_pos k⟩
theorem joinMin_10 {x s : Two} (h : x.a < s.a) (k : ¬ s.b < x.b) : (joinMin x s).a = x.a ∧ (joinMin x s).b = s.b := ⟨if_pos h, if_neg k⟩
theorem joinMin_01 {x s : Two} (h : ¬ x.a < s.a) (k : s.b < x.b) : (joinMin x s).a = s.a ∧ (joinMin x s).b = x.b := ⟨if_neg h, if_pos k⟩
theorem joinMin_00 {x s : Two} (h : ¬ x.a < s.a) (k : ¬ s.b < x.b) : (joinMin x s).a = s.a ∧ (joinMin x s).b = s.b := ⟨if_neg h, if_neg k⟩
theorem insClose {E : TypeId} {w wr V : World} {o : Value} {out : List Two} {s : Two} {p q : Int} {O : Obj} {H : Prop} (hj : s.a = p ∧ s.b = q) (ht : TwoAt w.heap.size wr V p q) (hown : OwnTwo E wr (w.heap.size + 1) o out) (h : H) (hz : w.heap.size + 1 ≤ wr.heap.size) (hB : Below w.heap.size w wr) :
    OwnTwo E (V.alloc O) (w.heap.size + 1) o out ∧ H ∧ (V.alloc O).cell? ⟨w.heap.size, 0, none⟩ = some (.int .u64 s.a) ∧ (V.alloc O).cell? ⟨w.heap.size, 1, none⟩ = some (.int .u64 s.b) ∧ (V.alloc O).frozen? ⟨w.heap.size, 0, none⟩ = false ∧ (V.alloc O).frozen? ⟨w.heap.size, 1, none⟩ = false ∧ w.heap.size + 1 ≤ (V.alloc O).heap.size ∧ Below w.heap.size w (V.alloc O) := by
  obtain ⟨rfl, rfl⟩ := hj
  have hs := ht.size
  exact ⟨(ht.own hown (by omega)).alloc _, h, cell_lt (bone V O) ht.c0, cell_lt (bone V O) ht.c1, frozen_lt (bone V O) ht.z0, frozen_lt (bone V O) ht.z1, by simp; omega, (hB.trans ht.below).trans ((bone V O).mono (by omega))⟩

end Go.Proofs.Ytehijlgopmbglaa
