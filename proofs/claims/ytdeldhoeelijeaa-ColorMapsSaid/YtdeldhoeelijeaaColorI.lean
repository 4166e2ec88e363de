/- The chapter's example, and the walk of the statement ColorTakes. -/
import Derived.Test.YtdeldhoeelijeaaColorH
import Derived.Test.YtdeldhoeelijeaaSpanI
import Derived.Test.YtdeldhoeelijeaaSpanJ
namespace Go.Proofs.Ytdeldhoeelijeaa
open Go Go.RowKit Go.BigFrame

theorem takeL_eq (s : Two) (n m many : Int) : takeL s n m many = refTakeL s n m many := by
  unfold takeL refTakeL; rw [merge_eq]
def exS : Two := tw 1073741824 32768
theorem ex_err : takeErr exS 4 2 2 = 0 := by kernel_rfl
theorem ex_list : takeL exS 4 2 2 = [tw 1073745920 4096, tw 1073762304 4096] := by rw [takeL_eq]; kernel_rfl

set_option maxHeartbeats 2000000 in
theorem awake_any (w : World) : Calls Try.prog 7 #[] w fun e w' => e = .returned (.bool true) ∧ Below w.heap.size w w' := by
  have ht := fun W => take_any exS 4 2 2 W (by unfold W64; omega)
  rw [ex_err, ex_list] at ht
  go_enter Try.func7, Try.ntmps7
  go_wp2_with fail
  refine (ht _).mono ?_; rintro e w1 ⟨r, rfl, hr, hb1⟩
  obtain ⟨a, cap, rfl, hcap, hrow⟩ := OwnTwo.row hr
  obtain ⟨b, off, rfl, hbl, hcell⟩ := hrow (by simp)
  have p1 : (tw 1073745920 4096).a = 1073745920 ∧ (tw 1073745920 4096).b = 4096 := tw_parts (by unfold W64; omega) (by unfold W64; omega)
  have p2 : (tw 1073762304 4096).a = 1073762304 ∧ (tw 1073762304 4096).b = 4096 := tw_parts (by unfold W64; omega) (by unfold W64; omega)
  have c00 : w1.cell? ⟨b, off, none⟩ = some (.int .u64 1073745920) := by simpa [p1.1, p1.2] using (hcell 0 (by simp)).1
  have c01 : w1.cell? ⟨b, off + 1, none⟩ = some (.int .u64 4096) := by simpa [p1.1, p1.2] using (hcell 0 (by simp)).2
  have c10 : w1.cell? ⟨b, off + 2, none⟩ = some (.int .u64 1073762304) := by simpa [p2.1] using (hcell 1 (by simp)).1
  clear hcell hrow hr ht p1 p2
  go_wp2_with fail
  go_ret
  exact ⟨rfl, hb1⟩

set_option maxRecDepth 20000 in
set_option maxHeartbeats 2000000 in
theorem colorTakes_walk (s : Two) (n m pages pa : Int) (w : World) (hm : W64 m) (hpa : W64 pa) : Calls Try.prog 3 #[.agg #[.int .u64 s.a, .int .u64 s.b], .int .i64 n, .int .u64 m, .int .i64 pages, .int .u64 pa] w fun e w' => e = .returned (.bool true) ∧ Below w.heap.size w w' := by
  by_cases hp : 300 < pages
  · go_enter Try.func3, Try.ntmps3
    go_wp2_with fail
    refine (awake_any _).mono ?_; rintro e w1 ⟨rfl, hb1⟩
    go_wp2_with fail
    go_ret
    exact ⟨rfl, bnew hb1⟩
  · have hlen : (takeL s n m pages).length ≤ 1099511627776 := by
      unfold takeL
      split
      · have h1 := spansV_len (mergedV (takenV s n m pages))
        have h2 := mergedV_len (takenV s n m pages)
        have h3 : (takenV s n m pages).length ≤ pages.toNat := by unfold takenV; exact List.length_take_le _ _
        omega
      · simp
    have ht := fun W => take_any s n m pages W hm
    have hr := fun W => refTake_any s n m pages W hm
    rw [← takeL_eq] at hr
    have ho := fun W => of_any pa n W hpa
    have hc := fun W => refColor_any pa n W hpa
    have h1 := fun W => count_any s n m W hm
    have h2 := fun W => refCount_any s n m W hm
    generalize takeL s n m pages = L at *
    generalize takeErr s n m pages = er at *
    generalize ofV pa n = cl at *
    generalize countV s n m = C at *
    go_enter Try.func3, Try.ntmps3
    go_wp2_with fail
    refine (awake_any _).mono ?_; rintro e w1 ⟨rfl, hb1⟩
    have k1 := alloc_two w (.int .u64 s.a) (.int .u64 s.b) 24
    have c0 := cell_lt hb1 k1.1 (by simp)
    have c1 := cell_lt hb1 k1.2 (by simp)
    have hz1 : w.heap.size + 1 ≤ w1.heap.size := by have := hb1.size; simpa using this
    have hW1 := bnew hb1
    clear k1 hb1
    go_wp2_with fail
    refine (ht _).mono ?_; rintro e w2 ⟨r2, rfl, hr2, hb2⟩
    have d0 := cell_lt hb2 c0 (by omega)
    have d1 := cell_lt hb2 c1 (by omega)
    have hz2 := hb2.size
    have hW2 := bthen hW1 hb2
    clear c0 c1 hb2 hW1
    go_wp2_with fail
    refine (hr _).mono ?_; rintro e w3 ⟨r3, rfl, hr3, hb3⟩
    have e0 := cell_lt hb3 d0 (by omega)
    have e1 := cell_lt hb3 d1 (by omega)
    have hz3 := hb3.size
    have hrow2 := (OwnTwo.row hr2).below hb3
    have hrow3 := OwnTwo.row hr3
    have hW3 := bthen hW2 hb3
    have hsame : sameV L L = true := sameV_refl L
    have hsm := fun X : Later w3.heap.size w3 => refSame_any r2 r3 L L X.x (hrow2.below X.h) (hrow3.below X.h) hlen hlen
    rw [hsame] at hsm
    clear d0 d1 hb3 hW2 hr2 hr3 ht hr hsame
    go_wp2_with fail
    refine region_later w3.heap.size w3 (Below.refl _ _) (by kernel_rfl) (by kernel_rfl) ?_
    have y0 := later_cell (B := w3.heap.size) e0 (by omega)
    have y1 := later_cell (B := w3.heap.size) e1 (by omega)
    repeat (quiet_step ((first | (go_at_call 10; exact quiet_later (Nat.le_refl _) ((ho _).mono fun e w' h => ⟨h.1, h.2 ▸ Below.refl _ _⟩)) | (go_at_call 11; exact quiet_later (Nat.le_refl _) ((hc _).mono fun e w' h => ⟨h.1, h.2 ▸ Below.refl _ _⟩)) | (go_at_call 12; exact quiet_later (Nat.le_refl _) (hsm _)) | (go_at_call 13; exact quiet_later (Nat.le_refl _) (h1 _)) | (go_at_call 14; exact quiet_later (Nat.le_refl _) (h2 _)))))
    refine wpQuiet_nil ?_
    first | (rintro _ ⟨X, rfl⟩) | (intro X)
    have hX := X.h
    clear y0 y1
    go_wp2_with fail
    go_ret
    exact ⟨rfl, bthen hW3 hX⟩
end Go.Proofs.Ytdeldhoeelijeaa
