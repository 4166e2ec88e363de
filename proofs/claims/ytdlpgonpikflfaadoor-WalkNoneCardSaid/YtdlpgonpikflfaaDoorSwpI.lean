/- All and Tables: what a sweep of a memory's tables comes to. -/
import Derived.Test.YtdlpgonpikflfaaDoorSwpH
namespace Go.Proofs.YtdlpgonpikflfaaDoor
open Go Go.RowKit Go.Shelf Go.BigFrame

/-- 'D' is 3: a variable, lest it be reckoned. -/
def swAll (D : Nat) (rd : Int → Int × Int) (root : Int) : Sw (List M5) := sw rd addM D root 1024 1 0 ⟨[], false, []⟩
def swTabs (D : Nat) (rd : Int → Int × Int) (root : Int) : Sw Unit := sw rd (fun s _ => s) D root 1024 1 0 ⟨[], false, ()⟩
theorem swTabs_eq (D : Nat) (rd : Int → Int × Int) (root : Int) : (swTabs D rd root).tabs = (swAll D rd root).tabs ∧ (swTabs D rd root).long = (swAll D rd root).long := by
  have h := sw_map (σ := List M5) (τ := Unit) (fun _ => ()) (rd := rd) (step := addM) (step' := fun s _ => s) (fun _ _ => rfl) D root 1024 1 0 ⟨[], false, []⟩
  rw [show Sw.map (fun _ : List M5 => ()) (⟨[], false, []⟩ : Sw (List M5)) = (⟨[], false, ()⟩ : Sw Unit) from rfl] at h
  unfold swTabs swAll
  rw [h]; exact ⟨rfl, rfl⟩
/-- What a walker is born with. -/
theorem walker_new (w : World) (p : Option Addr) (T E : TypeId) (hT : T ≠ E) : WkP w.heap.size w.heap.size (.pointer p) E T (w.alloc (.cells #[.pointer p, .slice none 0 0, .bool false] T)) [] false :=
  ⟨⟨_, World.alloc_heap_new _ _, World.ownsRow_nil _ _ _ _⟩, Nat.le_refl _, hT⟩
set_option maxRecDepth 100000 in
set_option maxHeartbeats 2000000 in
theorem all_any (D : Nat) (hD : D = 3) (p : Option Addr) (rd : Int → Int × Int) (w : World) (hrd : Reads (.pointer p) rd w.heap.size w) (hT : Tab3 w) (root : Int) (hr : W64 root) :
    Calls Tryd.prog 11 #[.pointer p, .int .u64 root] w fun e w' => Below w.heap.size w w' ∧ ∃ v, e = .returned (.tuple #[v, .int .i64 (if (swAll D rd root).long = true then 2 else 0)]) ∧ OwnM 42 w' w.heap.size v (if (swAll D rd root).long = true then [] else (swAll D rd root).st) := by
  replace hD := Lib.hid hD
  have hTb : 0 < w.heap.size := by have := hT.2.2.2; omega
  obtain ⟨s, hse⟩ : ∃ s, s = swAll D rd root := ⟨_, rfl⟩
  rw [← hse]
  obtain ⟨tabs, long, st⟩ := s
  replace hse := Lib.hid hse
  go_enter Tryd.func11, Tryd.ntmps11
  go_wp2_with fail
  obtain ⟨W1, hW1⟩ : ∃ W1, W1 = (w.alloc (.cells #[.pointer p, .slice none 0 0, .bool false] 66)) := ⟨_, rfl⟩
  have hk1 := walker_new w p 66 23 (by decide)
  have hz1 : W1.heap.size = w.heap.size + 1 := by rw [hW1]; simp
  have hb1 : Below w.heap.size w W1 := by rw [hW1]; exact bone _ _
  rw [← hW1] at hk1 ⊢
  clear hW1
  obtain ⟨W2, hW2⟩ : ∃ W2, W2 = (W1.alloc (.cells #[.slice none 0 0] 37)) := ⟨_, rfl⟩
  have hz2 : W2.heap.size = w.heap.size + 2 := by rw [hW2]; simp; omega
  have hb2 : Below W1.heap.size W1 W2 := by rw [hW2]; exact bone _ _
  have hx2 : Boxed W2 (w.heap.size + 1) 37 (.slice none 0 0) := by rw [hW2, ← hz1]; exact Boxed.new _ _ _
  obtain ⟨hk2, ho2⟩ := hk1.kept (W' := W2) (fun k ho => hb2.block k (hk1.own ho).2.1)
  rw [← hW2]
  clear hW2
  have hS : SwP (partsZ w.heap.size (w.heap.size + 1)) w.heap.size (.pointer p) 23 66 ⟨[], false, []⟩ W2 := by
    refine ⟨hk2, ⟨by omega, _, hx2, OwnM.nil _ _ _⟩, fun k ho hp => ?_, by omega⟩
    have h1 := (hk1.own ((ho2 k).1 ho)).2.1
    rcases hp with rfl | ⟨u, hu, hk⟩
    · omega
    · rw [hx2.cell] at hu; cases hu; cases hk
  have hsw := sweep_any (partsZ w.heap.size (w.heap.size + 1)) w.heap.size p rd w hrd hT hTb _ _ (parts_puts w.heap.size (w.heap.size + 1)) D root 1024 1 0 ⟨[], false, []⟩ W2 (by have := hD.out; omega) (by decide) (by decide) (by decide) hr (by decide) (by decide) hS (bthen hb1 hb2) ⟨by simp, by simp⟩
  rw [show sw rd addM D root 1024 1 0 ⟨[], false, []⟩ = swAll D rd root from rfl, ← hse.out] at hsw
  refine hsw.mono ?_; rintro e W3 ⟨⟨vr, rfl⟩, hS3, hF3⟩
  have hB3 := (bthen hb1 hb2).trans (hF3.below hS.base (fun k h => (hS.own h).1))
  obtain ⟨v3, hv3, _⟩ := hS3.wk.row
  obtain ⟨_, v4, hx3, hr3⟩ := hS3.put
  have c2 : W3.cell? ⟨w.heap.size, 2, none⟩ = some (.bool long) := by simp [World.cell?, hv3]
  have c7 := hx3.cell
  obtain ⟨a4, k4, rfl⟩ := rowSlice hr3
  clear hsw hS hx2 hk1 hk2 ho2 hv3 hF3 hS3 hb1 hb2
  cases long
  · go_wp2_with fail
    refine bodyPost_ret (v := .tuple #[.slice a4 st.length k4, .int .i64 0]) (by simp [results, Tryd.results11, go_sem]) rfl ?_
    exact ⟨hB3, _, rfl, hr3⟩
  · go_wp2_with fail
    refine bodyPost_ret (v := .tuple #[.slice none 0 0, .int .i64 2]) (by simp [results, Tryd.results11, go_sem]) rfl ?_
    exact ⟨hB3, _, rfl, OwnM.nil _ _ _⟩
set_option maxRecDepth 100000 in
set_option maxHeartbeats 2000000 in
theorem tabs_any (D : Nat) (hD : D = 3) (p : Option Addr) (rd : Int → Int × Int) (w : World) (hrd : Reads (.pointer p) rd w.heap.size w) (hT : Tab3 w) (root : Int) (hr : W64 root) :
    Calls Tryd.prog 13 #[.pointer p, .int .u64 root] w fun e w' => Below w.heap.size w w' ∧ ∃ v, e = .returned (.tuple #[v, .int .i64 (if (swTabs D rd root).long = true then 2 else 0)]) ∧ w'.ownsRow w.heap.size 23 1 v (if (swTabs D rd root).long = true then [] else (swTabs D rd root).tabs).length ((if (swTabs D rd root).long = true then [] else (swTabs D rd root).tabs).map (Value.int .u64)) := by
  replace hD := Lib.hid hD
  have hTb : 0 < w.heap.size := by have := hT.2.2.2; omega
  obtain ⟨s, hse⟩ : ∃ s, s = swTabs D rd root := ⟨_, rfl⟩
  rw [← hse]
  obtain ⟨tabs, long, st⟩ := s
  replace hse := Lib.hid hse
  go_enter Tryd.func13, Tryd.ntmps13
  go_wp2_with fail
  obtain ⟨W1, hW1⟩ : ∃ W1, W1 = (w.alloc (.cells #[.pointer p, .slice none 0 0, .bool false] 66)) := ⟨_, rfl⟩
  have hk1 := walker_new w p 66 23 (by decide)
  have hz1 : W1.heap.size = w.heap.size + 1 := by rw [hW1]; simp
  have hb1 : Below w.heap.size w W1 := by rw [hW1]; exact bone _ _
  rw [← hW1] at hk1 ⊢
  clear hW1
  have hS : SwP (noneZ w.heap.size) w.heap.size (.pointer p) 23 66 ⟨[], false, ()⟩ W1 :=
    ⟨hk1, trivial, fun k ho hp => hp, by omega⟩
  have hsw := sweep_any (noneZ w.heap.size) w.heap.size p rd w hrd hT hTb _ _ (none_puts w.heap.size) D root 1024 1 0 ⟨[], false, ()⟩ W1 (by have := hD.out; omega) (by decide) (by decide) (by decide) hr (by decide) (by decide) hS hb1 ⟨by simp, by simp⟩
  rw [show sw rd (fun (s : Unit) _ => s) D root 1024 1 0 ⟨[], false, ()⟩ = swTabs D rd root from rfl, ← hse.out] at hsw
  refine hsw.mono ?_; rintro e W3 ⟨⟨vr, rfl⟩, hS3, hF3⟩
  have hB3 := hb1.trans (hF3.below hS.base (fun k h => (hS.own h).1))
  obtain ⟨v3, hv3, hr3⟩ := hS3.wk.row
  have c2 : W3.cell? ⟨w.heap.size, 2, none⟩ = some (.bool long) := by simp [World.cell?, hv3]
  have c7 : W3.cell? ⟨w.heap.size, 1, none⟩ = some v3 := by simp [World.cell?, hv3]
  obtain ⟨a4, k4, rfl⟩ := rowSlice hr3
  clear hsw hS hk1 hv3 hF3 hS3 hb1
  cases long
  · go_wp2_with fail
    refine bodyPost_ret (v := .tuple #[.slice a4 tabs.length k4, .int .i64 0]) (by simp [results, Tryd.results13, go_sem]) rfl ?_
    exact ⟨hB3, _, rfl, hr3⟩
  · go_wp2_with fail
    refine bodyPost_ret (v := .tuple #[.slice none 0 0, .int .i64 2]) (by simp [results, Tryd.results13, go_sem]) rfl ?_
    exact ⟨hB3, _, rfl, World.ownsRow_nil _ _ _ _⟩
end Go.Proofs.YtdlpgonpikflfaaDoor
