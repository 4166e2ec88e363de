/- The walks of the reference's Has and At: which part has an address. -/
import Derived.BigRegion
import Derived.Test.YtnieomgopldlhaaDoorWalkBuiltP17
import Derived.Test.YtnieomgopldlhaaDoorWalkBuiltP20
namespace Go.Proofs.YtnieomgopldlhaaDoor
open Go Go.RowKit Go.BigFrame

/-- Whether an address is in a span. -/
def holdsB (a b at' : Int) : Bool := goodB a b && (decide (a ≤ at') && decide (at' - a < b))
def M5.has (x : M5) (at' : Int) : Bool := holdsB x.ipa x.sz at'
/-- The first part with an address. -/
def atM (l : List M5) (at' : Int) : Option M5 := l.find? (fun x => x.has at')
def atPA (o : Option M5) (at' : Int) : Int :=
  match o with
  | some x => (x.pa + (at' - x.ipa)) % 18446744073709551616
  | none => 0
theorem atM_none {l : List M5} {at' : Int} (h : ∀ j, j < l.length → (l[j]!).has at' = false) : atM l at' = none := by
  unfold atM
  rw [List.find?_eq_none]
  intro x hx
  obtain ⟨j, hj, rfl⟩ := List.mem_iff_getElem.1 hx
  have := h j hj
  rw [getElem!_pos l j hj] at this
  rw [this]; simp
theorem atM_some {l : List M5} {at' : Int} {k : Nat} (hk : k < l.length) (h : ∀ j, j < k → (l[j]!).has at' = false) (hh : (l[k]).has at' = true) : atM l at' = some l[k] := by
  unfold atM
  rw [List.find?_eq_some_iff_getElem]
  refine ⟨hh, k, hk, rfl, fun j hj => ?_⟩
  have := h j hj
  rw [getElem!_pos l j (by omega)] at this
  simp [this]

set_option maxHeartbeats 1000000 in
theorem refHasS_any (a b at' : Int) (w : World) (ha : W64 a) (hb : W64 b) (ht : W64 at') : Calls Tryd.prog 25 #[.agg #[.int .u64 a, .int .u64 b], .int .u64 at'] w fun e w' => e = .returned (.bool (holdsB a b at')) ∧ Below w.heap.size w w' := by
  have ha0 := ha.1
  have hb0 := hb.1
  have ht1 := ht.2
  unfold holdsB
  cases hg : goodB a b
  · go_enter Tryd.func25, Tryd.ntmps25
    go_wp2_with fail
    refine (refGood_any _ _ _ ha hb).mono ?_; rintro e1 w1 ⟨rfl, hb1⟩
    rw [hg]
    go_wp2_with fail
    go_ret
    exact ⟨rfl, bnew hb1⟩
  · by_cases h1 : a ≤ at'
    all_goals
      have hw : a ≤ at' → IntKind.u64.wrap (at' - a) = at' - a := fun h => by rw [IntKind.wrap_u64]; omega
      go_enter Tryd.func25, Tryd.ntmps25
      go_wp2_with fail
      refine (refGood_any _ _ _ ha hb).mono ?_; rintro e1 w1 ⟨rfl, hb1⟩
      have c0 : w1.cell? ⟨w.heap.size, 0, none⟩ = some (.int .u64 a) := cell_lt hb1 (by simp [World.cell?_alloc_new]) (by simp)
      have c1 : w1.cell? ⟨w.heap.size, 1, none⟩ = some (.int .u64 b) := cell_lt hb1 (by simp [World.cell?_alloc_new]) (by simp)
      rw [hg]
      first | (have h2 := hw h1; clear hw) | clear hw
      go_wp2_with fail
      go_ret
      exact ⟨ret_bool (by first | (simp [h1]; done) | (simp; omega)), bnew hb1⟩
theorem below_five {B b : Nat} {w wr : World} (h : Below B w wr) (hb : B ≤ b) (x0 x1 x2 x3 x4 : Value) : Below B w (((((wr.setCell ⟨b, 0, none⟩ x0).setCell ⟨b, 1, none⟩ x1).setCell ⟨b, 2, none⟩ x2).setCell ⟨b, 3, none⟩ x3).setCell ⟨b, 4, none⟩ x4) :=
  ((((h.setCell (by simpa using hb) _).setCell (by simpa using hb) _).setCell (by simpa using hb) _).setCell (by simpa using hb) _).setCell (by simpa using hb) _
theorem new5 (W : World) (a b c d e : Value) (t : TypeId) : (W.alloc (.cells #[a, b, c, d, e] t)).cell? ⟨W.heap.size, 0, none⟩ = some a ∧ (W.alloc (.cells #[a, b, c, d, e] t)).cell? ⟨W.heap.size, 1, none⟩ = some b ∧ (W.alloc (.cells #[a, b, c, d, e] t)).cell? ⟨W.heap.size, 2, none⟩ = some c ∧ (W.alloc (.cells #[a, b, c, d, e] t)).cell? ⟨W.heap.size, 3, none⟩ = some d ∧ (W.alloc (.cells #[a, b, c, d, e] t)).cell? ⟨W.heap.size, 4, none⟩ = some e := by
  refine ⟨?_, ?_, ?_, ?_, ?_⟩ <;> simp [World.cell?_alloc_new]
set_option maxRecDepth 20000 in
set_option maxHeartbeats 4000000 in
theorem refAt_any (v : Value) (l : List M5) (at' : Int) (w : World) (hv : RowM w v l) (ht : W64 at') (hl : l.length ≤ 1099511627776) :
    Calls Tryd.prog 11 #[v, .int .u64 at'] w fun e w' => e = .returned (.tuple #[((atM l at').getD default).val, .int .u64 (atPA (atM l at') at'), .bool (atM l at').isSome]) ∧ Below w.heap.size w w' := by
  obtain ⟨a1, cp1, rfl, _, hc1⟩ := hv
  go_enter Tryd.func11, Tryd.ntmps11
  go_wp2_with fail
  have h40 : (w.alloc (.cells #[.int .u64 0, .int .u64 0, .int .u64 0, .int .i64 0, .int .i64 0] 26)).heap[w.heap.size]? = some (.cells #[.int .u64 0, .int .u64 0, .int .u64 0, .int .i64 0, .int .i64 0] 26 (0, 0)) := World.alloc_heap_new w _
  go_loopw [11] (fun i wr => ∃ k : Nat, k ≤ l.length ∧ i = .int .i64 k ∧ (∀ j, j < k → (l[j]!).has at' = false) ∧ wr.heap[w.heap.size]? = some (.cells #[.int .u64 0, .int .u64 0, .int .u64 0, .int .i64 0, .int .i64 0] 26 (0, 0)) ∧ Below w.heap.size w wr) (fun i _ => l.length - (intOf i).toNat)
  case atStart => exact ⟨0, Nat.zero_le _, rfl, fun j hj => by omega, h40, bone _ _⟩
  case round =>
    clear h40
    obtain ⟨k, hk, rfl, hall, h4, hB⟩ := hrel
    have hz := hB.size
    have l4 := (Array.getElem?_eq_some_iff.1 h4).1
    by_cases hlt : k < l.length
    · obtain ⟨b1, o1, rfl, hb1, hcell1⟩ := hc1 (by rintro rfl; simp at hlt)
      obtain ⟨p0, p1, p2, p3, p4⟩ := hcell1 k hlt
      replace p0 := cell_lt hB p0 hb1
      replace p1 := cell_lt hB p1 hb1
      replace p2 := cell_lt hB p2 hb1
      replace p3 := cell_lt hB p3 hb1
      replace p4 := cell_lt hB p4 hb1
      have hyes := @atM_some l at' k hlt hall
      have hno : (l[k]).has at' = false → ∀ j, j < k + 1 → (l[j]!).has at' = false := fun h j hj => by
        by_cases e : j = k
        · subst e; rw [getElem!_pos l j hlt]; exact h
        · exact hall j (by omega)
      clear hcell1
      generalize l[k] = x at *
      have hha := fun W => refHasS_any x.ipa x.sz at' W x.hi x.hs ht
      obtain ⟨m0, m1, m2, m3, m4⟩ := new5 wr (.int .u64 x.ipa) (.int .u64 x.pa) (.int .u64 x.sz) (.int .i64 x.perm) (.int .i64 x.kind) 26
      have hhe : holdsB x.ipa x.sz at' = x.has at' := rfl
      rw [hhe] at hha
      clear hhe hall
      cases hc1 : x.has at'
      · replace hno := Lib.hid (hno hc1)
        rw [hc1] at hha
        clear hyes hc1
        go_wp2_with fail
        refine (hha _).mono ?_; rintro e w1 ⟨rfl, hb2⟩
        have hB1 : Below wr.heap.size wr w1 := bnew hb2
        go_wp2_with fail
        go_roundw
        case rel => exact ⟨k + 1, by omega, by go_num, hno.out, (hB1.block _ l4).trans h4, hB.trans (hB1.mono hz)⟩
        case measure => simp [intOf]; omega
      · replace hyes := Lib.hid (hyes hc1)
        rw [hc1] at hha
        clear hno hc1
        go_wp2_with fail
        refine (hha _).mono ?_; rintro e w1 ⟨rfl, hb2⟩
        have hB1 : Below wr.heap.size wr w1 := bnew hb2
        have n0 := cell_lt hb2 m0 (by simp)
        have n1 := cell_lt hb2 m1 (by simp)
        have n2 := cell_lt hb2 m2 (by simp)
        have n3 := cell_lt hb2 m3 (by simp)
        have n4 := cell_lt hb2 m4 (by simp)
        replace h4 := (hB1.block _ l4).trans h4
        have hz1 : wr.heap.size + 1 ≤ w1.heap.size := by have := hb2.size; simpa using this
        clear m0 m1 m2 m3 m4 p0 p1 p2 p3 p4 hha hb2
        have f4 : ∀ o, w1.frozen? ⟨w.heap.size, o, none⟩ = false := fun o => by simp [World.frozen?, h4]
        have f40 := f4 0
        have f41 := f4 1
        have f42 := f4 2
        have f43 := f4 3
        have f44 := f4 4
        have c40 : w1.cell? ⟨w.heap.size, 0, none⟩ = some (.int .u64 0) ∧ w1.cell? ⟨w.heap.size, 1, none⟩ = some (.int .u64 0) ∧ w1.cell? ⟨w.heap.size, 2, none⟩ = some (.int .u64 0) ∧ w1.cell? ⟨w.heap.size, 3, none⟩ = some (.int .i64 0) ∧ w1.cell? ⟨w.heap.size, 4, none⟩ = some (.int .i64 0) := by
          refine ⟨?_, ?_, ?_, ?_, ?_⟩ <;> simp [World.cell?, h4]
        obtain ⟨c40, c41, c42, c43, c44⟩ := c40
        clear f4 h4
        go_wp2_with fail
        go_region
        go_wp2_with fail
        refine bodyPost_ret (v := .tuple #[x.val, .int .u64 (IntKind.u64.wrap (x.pa + IntKind.u64.wrap (at' - x.ipa))), .bool true]) (by simp [results, Tryd.results11, go_sem, M5.val, c40, c41, c42, c43, c44]) rfl ?_
        rw [hyes.out]
        refine ⟨?_, (below_five (hB.trans (hB1.mono hz)) (Nat.le_refl _) _ _ _ _ _).drew⟩
        rw [show IntKind.u64.wrap (x.pa + IntKind.u64.wrap (at' - x.ipa)) = atPA (some x) at' from by
          show _ = (x.pa + (at' - x.ipa)) % 18446744073709551616
          rw [IntKind.wrap_u64, IntKind.wrap_u64]; omega]
        rfl
    · obtain rfl : k = l.length := by omega
      have hn := Lib.hid (atM_none hall)
      have f4 : ∀ o, wr.frozen? ⟨w.heap.size, o, none⟩ = false := fun o => by simp [World.frozen?, h4]
      have f40 := f4 0
      have f41 := f4 1
      have f42 := f4 2
      have f43 := f4 3
      have f44 := f4 4
      have c40 : wr.cell? ⟨w.heap.size, 0, none⟩ = some (.int .u64 0) ∧ wr.cell? ⟨w.heap.size, 1, none⟩ = some (.int .u64 0) ∧ wr.cell? ⟨w.heap.size, 2, none⟩ = some (.int .u64 0) ∧ wr.cell? ⟨w.heap.size, 3, none⟩ = some (.int .i64 0) ∧ wr.cell? ⟨w.heap.size, 4, none⟩ = some (.int .i64 0) := by
        refine ⟨?_, ?_, ?_, ?_, ?_⟩ <;> simp [World.cell?, h4]
      obtain ⟨c40, c41, c42, c43, c44⟩ := c40
      clear f4 h4 hall
      go_wp2_with fail
      refine bodyPost_ret (v := .tuple #[.agg #[.int .u64 0, .int .u64 0, .int .u64 0, .int .i64 0, .int .i64 0], .int .u64 0, .bool false]) (by simp [results, Tryd.results11, go_sem, M5.val, c40, c41, c42, c43, c44]) rfl ?_
      rw [hn.out]
      exact ⟨rfl, below_five hB (Nat.le_refl _) _ _ _ _ _⟩
end Go.Proofs.YtnieomgopldlhaaDoor
