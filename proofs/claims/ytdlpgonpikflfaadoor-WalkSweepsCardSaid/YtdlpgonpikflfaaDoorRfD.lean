/- The walks of the reference's All, of SameAddresses, and of the statement WalkSweeps. -/
import Derived.Test.YtdlpgonpikflfaaDoorRfC
import Derived.Test.YtdlpgonpikflfaaDoorMapB
import Derived.Test.YtdlpgonpikflfaaDoorLaidA
namespace Go.Proofs.YtdlpgonpikflfaaDoor
open Go Go.RowKit Go.Shelf Go.BigFrame Go.Maps

/-- A row of numbers. -/
def RowU (w : World) (v : Value) (l : List Int) : Prop :=
  ∃ (a : Option Addr) (cap : Nat), v = .slice a l.length cap ∧ (l ≠ [] → ∃ b, a = some ⟨b, 0, none⟩ ∧ b < w.heap.size ∧ ∀ i (h : i < l.length), w.cell? ⟨b, i, none⟩ = some (.int .u64 l[i]))
theorem RowU.below {w w' : World} {v : Value} {l : List Int} (h : RowU w v l) (hb : Below w.heap.size w w') : RowU w' v l := by
  obtain ⟨a, cap, h1, h2⟩ := h
  refine ⟨a, cap, h1, fun hl => ?_⟩
  obtain ⟨b, ha, hlt, hcell⟩ := h2 hl
  exact ⟨b, ha, Nat.lt_of_lt_of_le hlt hb.size, fun i hi => (hb.cell (p := ⟨b, _, none⟩) hlt).trans (hcell i hi)⟩
theorem rowU_of {E : TypeId} {w : World} {base : Nat} {v : Value} {l : List Int} (h : w.ownsRow base E 1 v l.length (l.map (Value.int .u64))) : RowU w v l := by
  obtain ⟨hlen, ⟨rfl, h0⟩ | ⟨g, cap, cur, rfl, hb, hg, hn, hm, hs, hx⟩⟩ := h
  · obtain rfl : l = [] := List.length_eq_zero_iff.1 h0
    exact ⟨none, 0, rfl, fun h => absurd rfl h⟩
  · refine ⟨some ⟨g, 0, none⟩, cap, rfl, fun _ => ⟨g, rfl, (Array.getElem?_eq_some_iff.1 hg).1, fun i hi => ?_⟩⟩
    have h1 : w.cell? ⟨g, i, none⟩ = (l.map (Value.int .u64))[i]? := by
      rw [← hx, List.getElem?_take, if_pos (by omega)]
      simp only [World.cell?, hg]
      simp
    rw [h1, List.getElem?_map, List.getElem?_eq_getElem hi]; rfl
set_option maxRecDepth 20000 in
set_option maxHeartbeats 2000000 in
theorem sameAddr_any (v u : Value) (l : List Int) (w : World) (hv : RowU w v l) (hu : RowU w u l) (hl : l.length ≤ 1099511627776) :
    Calls Tryd.prog 16 #[v, u] w fun e w' => e = .returned (.bool true) ∧ Below w.heap.size w w' := by
  obtain ⟨a1, cp1, rfl, hc1⟩ := hv
  obtain ⟨a2, cp2, rfl, hc2⟩ := hu
  go_enter Tryd.func16, Tryd.ntmps16
  go_wp2_with fail
  go_loopw [13] (fun i wr => ∃ k : Nat, k ≤ l.length ∧ i = .int .i64 k ∧ Below w.heap.size w wr) (fun i _ => l.length - (intOf i).toNat)
  case atStart => exact ⟨0, Nat.zero_le _, rfl, Below.refl _ _⟩
  case round =>
    obtain ⟨k, hk, rfl, hB⟩ := hrel
    have hz := hB.size
    by_cases hlt : k < l.length
    · obtain ⟨b1, rfl, hb1, hcell1⟩ := hc1 (by rintro rfl; simp at hlt)
      obtain ⟨b2, rfl, hb2, hcell2⟩ := hc2 (by rintro rfl; simp at hlt)
      have e0 := later_cell (B := wr.heap.size) (cell_lt hB (hcell1 k hlt) hb1) (by omega)
      have f0 := later_cell (B := wr.heap.size) (cell_lt hB (hcell2 k hlt) hb2) (by omega)
      clear hcell1 hcell2
      generalize l[k] = x at *
      go_wp2_with fail
      refine region_later wr.heap.size wr (Below.refl _ _) (by kernel_rfl) (by kernel_rfl) ?_
      repeat (change wpQuiet _ _ _ _ (List.cons _ _) _; go_big_quiet_step (fail))
      refine wpQuiet_nil ?_
      first | (rintro _ ⟨X, rfl⟩) | (intro X)
      have hX := X.h
      clear e0 f0
      go_wp2_with fail
      go_roundw
      case rel => exact ⟨k + 1, by omega, by go_num, hB.trans (hX.mono hz)⟩
      case measure => simp [intOf]; omega
    · obtain rfl : k = l.length := by omega
      go_wp2_with fail
      go_ret
      exact ⟨rfl, hB⟩
set_option maxRecDepth 100000 in
set_option maxHeartbeats 2000000 in
theorem refAll_any (D : Nat) (hD : D = 3) (p : Option Addr) (rd : Int → Int × Int) (w : World) (hrd : ReadsR (.pointer p) rd w.heap.size w) (root : Int) (hr : W64 root) :
    Calls Tryd.prog 14 #[.pointer p, .int .u64 root] w fun e w' => Below w.heap.size w w' ∧ ∃ v u, e = .returned (.tuple #[v, u, .int .i64 (if (swAll D rd root).long = true then 2 else 0)]) ∧ RowM w' v (if (swAll D rd root).long = true then [] else (swAll D rd root).st) ∧ RowU w' u (if (swAll D rd root).long = true then [] else (swAll D rd root).tabs) := by
  replace hD := Lib.hid hD
  have hrel := rsw_rel (rd := rd) D root 1024 1 0 ⟨[], false, []⟩
  rw [show sw rd addM D root 1024 1 0 ⟨[], false, []⟩ = swAll D rd root from rfl] at hrel
  obtain ⟨s, hse⟩ : ∃ s, s = swAll D rd root := ⟨_, rfl⟩
  rw [← hse] at hrel ⊢
  clear hse
  have hS : RS w.heap.size w.heap.size (.pointer p) ⟨[], false, []⟩ (.slice none 0 0) (.slice none 0 0) (w.alloc (.cells #[.pointer p, .slice none 0 0, .slice none 0 0, .bool false] 82)) :=
    ⟨World.alloc_heap_new _ _, OwnM.nil _ _ _, World.ownsRow_nil _ _ _ _, Nat.le_refl _⟩
  have htb := table_any w.heap.size w.heap.size (.pointer p) rd w hrd D root 1024 1 0 ⟨[], false, []⟩ _ _ _ (by have := hD.out; omega) (by decide) (by decide) (by decide) hr (by decide) (by decide) hS (bone _ _) ⟨by simp, by simp⟩
  generalize rsw rd D root 1024 1 0 ⟨[], false, []⟩ = s' at *
  go_enter Tryd.func14, Tryd.ntmps14
  go_wp2_with fail
  refine htb.mono ?_; rintro e w2 ⟨⟨ve, rfl⟩, ⟨v1, v2, R⟩, hb2⟩
  have hB : Below w.heap.size w w2 := (bone _ _).trans hb2
  obtain ⟨c0, c1, c2, c3, cf⟩ := R.cells
  have lsb := R.lt
  obtain ⟨a1, k1, rfl⟩ := rowSlice R.parts
  obtain ⟨a2, k2, rfl⟩ := rowSlice R.tabs
  have hp := R.parts.row
  have ht := rowU_of R.tabs
  obtain ⟨tabs, long, st⟩ := s'
  simp only at c1 c2 c3 hp ht
  clear htb hS hb2 cf c0
  cases long
  · obtain rfl : _ = s := by
      rcases hrel with h | h
      · exact h
      · exact absurd h.1 (by simp)
    go_wp2_with fail
    refine region_later w2.heap.size w2 (Below.refl _ _) (by kernel_rfl) (by kernel_rfl) ?_
    have e1 := later_cell (B := w2.heap.size) c1 lsb
    have e2 := later_cell (B := w2.heap.size) c2 lsb
    repeat (change wpQuiet _ _ _ _ (List.cons _ _) _; go_big_quiet_step (fail))
    refine wpQuiet_nil ?_
    first | (rintro _ ⟨X, rfl⟩) | (intro X)
    have hX := X.h
    clear e1 e2
    go_wp2_with fail
    refine bodyPost_ret (v := .tuple #[.slice a1 st.length k1, .slice a2 tabs.length k2, .int .i64 0]) (by simp [results, Tryd.results14, go_sem]) rfl ?_
    exact ⟨bthen hB hX, _, _, rfl, hp.below hX, ht.below hX⟩
  · have hl : s.long = true := by
      rcases hrel with rfl | h
      · rfl
      · exact h.2
    replace hl := Lib.hid hl
    go_wp2_with fail
    refine bodyPost_ret (v := .tuple #[.slice none 0 0, .slice none 0 0, .int .i64 2]) (by simp [results, Tryd.results14, go_sem]) rfl ?_
    exact ⟨hB, _, _, rfl, ⟨none, 0, rfl, Nat.le_refl _, fun h => absurd rfl h⟩, ⟨none, 0, rfl, fun h => absurd rfl h⟩⟩
end Go.Proofs.YtdlpgonpikflfaaDoor
