/- The walk of span.good: it hands out the good ones of any spans, as their first and last addresses, in order. Conditions: words of 64 bits; no more spans than a slice may hold. -/
import Derived.RangeFuncNested
import Derived.RangeFuncBound
import Derived.RangeFuncCalls
import Derived.RangeFuncLeaves
import Derived.Shelf.Abstract
import Derived.Shelf.RegionOpen
import Derived.WalkKit
import Derived.OwnWalkIn
import Derived.TacticsInMore
import Derived.LoopNIn
import Derived.LoopIn
import Derived.Test.YtdlpgonpikflfaaDoorQuietI
import Derived.Test.YtdlpgonpikflfaaDoorSpanB
import Derived.Test.YtdlpgonpikflfaaDoorTwo
namespace Go.Proofs.YtdlpgonpikflfaaDoor
open Go Go.RowKit Go.Shelf

attribute [local go_sem] Oper.semAt_some

def endOf (x : Two) : Two := tw x.a (lastV x.a x.b)
def goodEnds (l : List Two) : List Two := (l.filter fun x => goodB x.a x.b).map endOf
theorem goodEnds_yes (l : List Two) {x : Two} (h : goodB x.a x.b = true) : goodEnds (l ++ [x]) = goodEnds l ++ [endOf x] := by simp [goodEnds, h]
theorem goodEnds_no (l : List Two) {x : Two} (h : goodB x.a x.b = false) : goodEnds (l ++ [x]) = goodEnds l := by simp [goodEnds, h]
theorem goodEnds_take_lt (l : List Two) (k : Nat) (hk : k < l.length) (h : goodB l[k].a l[k].b = true) : (goodEnds (l.take k)).length < (goodEnds l).length := by
  have e : goodEnds l = goodEnds (l.take k) ++ (goodEnds (l.drop k)) := by
    unfold goodEnds; rw [← List.map_append, ← List.filter_append, List.take_append_drop]
  rw [e, List.length_append, List.drop_eq_getElem_cons hk]
  unfold goodEnds
  rw [List.filter_cons_of_pos (by simpa using h)]
  simp
theorem endOf_parts (x : Two) : (endOf x).a = x.a ∧ (endOf x).b = lastV x.a x.b := ⟨W64.eq x.ha, W64.eq (lastV_w x.ha x.hb)⟩
theorem grown_of_below {w w' : World} (h : Below w.heap.size w w') : w.grownBy w' none := ⟨h.os, h.tape, h.output, h.size, fun k hk _ => h.block k hk⟩
theorem abides_below {B : Nat} {J : List Two → World → Prop} (hJ : AbidesFrom B J) {s : List Two} {w w' : World} (h : J s w) (hb : Below w.heap.size w w') : J s w' :=
  hJ s w w' none h (grown_of_below hb) (fun _ e => by cases e)



end Go.Proofs.YtdlpgonpikflfaaDoor
