/- The walks of span.Merge, span.Cut and of both Covers. Conditions: words of 64 bits; slices below 2^38. -/
import Derived.Test.YtdeldhoeelijeaaSpanP
import Derived.Test.YtdeldhoeelijeaaSpanF
namespace Go.Proofs.Ytdeldhoeelijeaa
open Go.RowKit

theorem mergedV_len (l : List Two) : (mergedV l).length ≤ l.length := by
  have h1 := mergeFold_len (sortV (goodEnds l)) []
  have h2 := sortV_len (goodEnds l)
  have h3 : (goodEnds l).length ≤ l.length := by unfold goodEnds; rw [List.length_map]; exact List.length_filter_le _ _
  unfold mergedV
  simp only [List.length_nil] at h1
  omega
theorem app_cell {E : TypeId} {base : Nat} {v : Value} {l : List Two} {wr w5 : World} {O C : Obj} (hown : OwnTwo E wr base v l) (hg : ((wr.alloc O).alloc C).grownBy w5 v.ownBlock) (o : Nat) (u : Value) (h : (wr.alloc O).cell? ⟨wr.heap.size, o, none⟩ = some u) :
    w5.cell? ⟨wr.heap.size, o, none⟩ = some u := by
  rw [grown_cell hg o (by simp; omega) (fun e => by have := (hown.lt _ e).2; omega), (bone (wr.alloc O) C).cell (p := ⟨wr.heap.size, o, none⟩) (by simp)]
  exact h
theorem spansV_len (l : List Two) : (spansV l).length ≤ l.length + 2 := by
  unfold spansV; split
  · simp
  · simp

set_option maxHeartbeats 1000000 in
theorem merge_any (v : Value) (l : List Two) (w : World) (hv : RowTwo w v l) (hl : l.length ≤ 274877906944) :
    Calls Try.prog 24 #[v] w (RetOwn 24 w (spansV (mergedV l))) := by
  have hlM := mergedV_len l
  obtain ⟨a, cap, rfl, _⟩ := id hv
  go_enter Try.func24, Try.ntmps24
  go_wp2_with fail
  refine (merged_any _ l w hv (by omega)).mono ?_
  rintro e2 w3 ⟨r, rfl, hM, hb3⟩
  go_wp2_with fail
  refine (spans_any _ _ _ (OwnTwo.row hM) (by omega)).mono ?_
  rintro e6 w6 ⟨r6, rfl, hr6, hb6⟩
  go_wp2_with fail
  go_ret
  exact ⟨_, rfl, hr6.mono hb3.size, bthen hb3 hb6⟩


end Go.Proofs.Ytdeldhoeelijeaa
