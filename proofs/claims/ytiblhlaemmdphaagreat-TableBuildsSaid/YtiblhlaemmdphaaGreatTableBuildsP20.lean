/- The library's sort of ends, by first and last address: what lay in the row lies there in order. -/
import Derived.Shelf.SlSortCmp.NoneTotal
import Derived.Test.YtiblhlaemmdphaaGreatShelf
import Derived.Test.YtiblhlaemmdphaaGreatTableBuildsP13
import Derived.Test.YtiblhlaemmdphaaGreatTableBuildsP14
namespace Go.Proofs.YtiblhlaemmdphaaGreat
open Go Go.RowKit Go.Shelf Go.Lib Go.Sort
theorem flat_encs (l : List Two) : (flatK Two.enc 2 l.toArray).toList = encs l := by
 apply List.ext_getElem?
 intro t
 by_cases ht : t < l.length * 2
 ·have hi : t / 2 < l.length := by omega
  have hs : t < (flatK Two.enc 2 l.toArray).size := by simp; omega
  have h1 := get_flatK Two.enc 2 l.toArray t (by simpa using ht)
  rw [getElem!_pos _ t hs] at h1
  rw [Array.getElem?_toList, Array.getElem?_eq_getElem hs, h1]
  have hg := encs_get l (t / 2) hi
  have hd : l.toArray[t / 2]! = l[t / 2] := by simp [hi]
  rw [hd]
  rcases Nat.mod_two_eq_zero_or_one t with hm | hm
  ·have e : t = t / 2 * 2 := by omega
   rw [hm]
   conv => rhs; rw [e]
   rw [hg.1]; simp [Two.enc]
  ·have e : t = t / 2 * 2 + 1 := by omega
   rw [hm]
   conv => rhs; rw [e]
   rw [hg.2]; simp [Two.enc]
 ·rw [List.getElem?_eq_none (by simp; omega), List.getElem?_eq_none (by rw [encs_len]; omega)]
theorem ltTwo_iff (x y : Two) : ltOf cmpTwo x y = true ↔ x.a < y.a ∨ (x.a = y.a ∧ x.b < y.b) := by
 unfold ltOf cmpTwo cmpI
 simp only [decide_eq_true_eq]
 repeat' split
 all_goals omega
theorem swoTwo : SWO (ltOf cmpTwo) where
 irrefl x := by rw [Bool.eq_false_iff, Ne, ltTwo_iff]; omega
 trans x y z h1 h2 := by rw [ltTwo_iff] at *; omega
 ntrans x y z h1 h2 := by rw [Bool.eq_false_iff, Ne, ltTwo_iff] at *; omega
theorem totalTwo (x y : Two) (h1 : ltOf cmpTwo x y = false) (h2 : ltOf cmpTwo y x = false) : x = y := by
 rw [Bool.eq_false_iff, Ne, ltTwo_iff] at *
 exact Two.ext (by omega) (by omega)
def sortV (l : List Two) : List Two := l.mergeSort fun x y => !(ltOf cmpTwo) y x
theorem sortV_len (l : List Two) : (sortV l).length = l.length := by unfold sortV; exact List.length_mergeSort l
theorem put_take (F c : Array Value) (h : F.size ≤ c.size) : (putCells id 0 F c).toList.take F.size = F.toList ∧ (putCells id 0 F c).size = c.size := by
 refine ⟨?_, by simp [putCells]⟩
 apply List.ext_getElem?
 intro t
 by_cases ht : t < F.size
 ·rw [List.getElem?_take, if_pos ht]
  simp only [putCells, Array.getElem?_toList, Array.getElem?_mapIdx]
  rw [Array.getElem?_eq_getElem (show t < c.size by omega)]
  simp [ht]
 ·rw [List.getElem?_eq_none (by simp; omega), List.getElem?_eq_none (by simp; omega)]
theorem sortEnds_any (base : Nat) (v : Value) (l : List Two) (w : World) (h : OwnTwo 177 w base v l) (hl : l.length ≤ 1099511627776) :
  Calls Tryz.prog 117 #[v, .func (.func 118) #[] #[]] w fun e w' => e = .returned (.tuple #[]) ∧ OwnTwo 177 w' base v (sortV l) ∧ w.grownBy w' v.ownBlock := by
 have hlen : l.toArray.size = l.length := by simp
 obtain ⟨hx0, ⟨rfl, h0⟩ | ⟨g, cap, cur, rfl, hbg, hg, hn, hm, hs, hx⟩⟩ := h
 ·obtain rfl : l = [] := List.length_eq_zero_iff.1 h0
  have hcon := AnyF.slices_SortFunc_none Tryz.sortEnds none 0 (.func (.func 118) #[] #[]) w
  change Calls Tryz.prog 117 _ _ _ at hcon
  refine hcon.mono ?_
  rintro e w' ⟨rfl, rfl⟩
  exact ⟨rfl, by unfold sortV; rw [List.mergeSort_nil]; exact OwnTwo.nil _ _ _, ⟨rfl, rfl, rfl, Nat.le_refl _, fun _ _ _ => rfl⟩⟩
 ·have hgl : g < w.heap.size := (Array.getElem?_eq_some_iff.1 hg).1
  have key : ∀ j, j < l.length * 2 → w.cell? ⟨g, 0 + j, none⟩ = (encs l)[j]? := by
   intro j hj
   rw [← hx, List.getElem?_take, if_pos hj, Nat.zero_add]
   simp only [World.cell?, hg]
   simp
  have hH : HoldsK Two.enc 2 w g 0 l.toArray := by
   intro j hj
   rw [size_flatK] at hj
   refine ⟨?_, by simp [World.frozen?, hg]⟩
   have hj' : j < (flatK Two.enc 2 l.toArray).size := by simpa using hj
   rw [key j (by simpa using hj), ← flat_encs, Array.getElem?_toList, Array.getElem?_eq_getElem hj', getElem!_pos _ j hj']
   rfl
  have eg : ∀ args w, (callFunc 118 args).run Tryz.prog w = .ok (.enter 118 args) w := enters_of Tryz.func118 (by kernel_rfl) rfl
  have hcon := AnyQ.slices_SortFunc_total Tryz.sortEnds 2 Tryz.isAgg177 Tryz.sizeOf177 Two.enc (fun _ => rfl) (fun x v hv => by simp [Two.enc] at hv; rcases hv with rfl | rfl <;> rfl) cmpTwo swoTwo 118 #[] g 0 cap l.toArray w eg (fun _ _ _ _ x y => closure_any x y _) hH hgl (by rw [hlen]; omega) totalTwo
  change Calls Tryz.prog 117 _ _ _ at hcon
  rw [hlen] at hcon
  refine hcon.mono ?_
  rintro e w' ⟨rfl, n, os, rfl⟩
  have e1 : (l.toArray.toList.mergeSort fun x y => !(ltOf cmpTwo) y x) = sortV l := rfl
  rw [e1]
  have hF : (flatK Two.enc 2 (sortV l).toArray).toList = encs (sortV l) := flat_encs _
  have hFs : (flatK Two.enc 2 (sortV l).toArray).size = l.length * 2 := by simp [sortV_len]
  obtain ⟨p1, p2⟩ := put_take (flatK Two.enc 2 (sortV l).toArray) cur (by rw [hFs, hs]; omega)
  have hblk : (sortWorldK Two.enc 2 w g 0 n (sortV l).toArray os).heap[g]? = some (.cells (putCells id 0 (flatK Two.enc 2 (sortV l).toArray) cur) 177 (0, 0)) := by
   unfold sortWorldK
   rw [heap_grow_old _ _ (by simp [putRowK, putRow, mapBlock]; exact hgl)]
   simp [putRowK, putRow, mapBlock, Array.getElem?_modify, hg, onCells]
  refine ⟨rfl, ⟨by rw [encs_len], .inr ⟨g, cap, _, ?_, hbg, hblk, ?_, hm, p2.trans hs, ?_⟩⟩, ⟨rfl, rfl, rfl, ?_, ?_⟩⟩
  ·rw [sortV_len]
  ·rw [sortV_len]; exact hn
  ·rw [sortV_len, ← hFs, p1, hF]
  ·simp [sortWorldK, putRowK, putRow, mapBlock]
  ·intro k hk hne
   unfold sortWorldK
   rw [heap_grow_old _ _ (by simp [putRowK, putRow, mapBlock]; exact hk)]
   have : g ≠ k := fun e => hne (by rw [e]; rfl)
   simp [putRowK, putRow, mapBlock, Array.getElem?_modify, this]
end Go.Proofs.YtiblhlaemmdphaaGreat
