/- Whether a part has no more pieces than may be: a range over the iterator of pieces that counts and may return. -/
import Derived.Maps.OwnIn
import Derived.Test.YtkpkbljcflmdgaaTabB
namespace Go.Proofs.Ytkpkbljcflmdgaa
open Go Go.RowKit Go.Shelf Go.BigFrame

attribute [local go_sem] Oper.semAt_some

theorem pieces_iter (n Bm : Nat) (hn : 1 ≤ n) (y : M5) (hc : Cut y) (w : World) (hb : BoxM w Bm y) :
    IterW Fence.wide n Try.prog 26 #[.pointer (some ⟨Bm, 0, none⟩)] (fun x : Int × M5 => #[.int .i64 x.1, .agg #[.int .u64 x.2.ipa, .int .u64 x.2.pa, .int .u64 x.2.sz, .int .i64 x.2.perm, .int .i64 x.2.kind]]) Bm (fun ys => ys = piecesL y) (fun pre => ∃ t, piecesL y = pre ++ t) (fun pre x => ∃ t, piecesL y = pre ++ x :: t) w :=
  fun l J Jx W hW hJ _ hY h0 => pieces1_in n l Bm hn y hc J Jx hY W hJ (hb.below hW hb.lt) h0

theorem boxed_own (B : Nat) (t : TypeId) {β : Type} (f : β → Value) : Own (fun (s : β) W => Boxed W B t (f s)) :=
  fun s W W' row h hg hr => (grownBy_keeps_cells hg hr h rfl).trans h

theorem boxed_off {W : World} {B B' o : Nat} {t : TypeId} {v : Value} (h : Boxed W B t v) (hne : B ≠ B') (u : Value) : Boxed (W.setCell ⟨B', o, none⟩ u) B t v := (Below.heap_setCell W _ u B (by simpa using hne)).trans h
theorem KeepN.setCell {b B : Nat} (W : World) {l o : Nat} (v : Value) (hb : b ≠ l) (hl : l < B) : KeepN b B W (W.setCell ⟨l, o, none⟩ v) :=
  ⟨by simp, Below.heap_setCell W _ v b (by simpa using hb), fun k h1 _ => Below.heap_setCell W _ v k (by simp; omega)⟩

set_option maxRecDepth 20000 in
set_option maxHeartbeats 1000000 in
theorem few_any (y : M5) (hc : Cut y) (w : World) : Calls Try.prog 15 #[.agg #[.int .u64 y.ipa, .int .u64 y.pa, .int .u64 y.sz, .int .i64 y.perm, .int .i64 y.kind]] w fun e w' => e = .returned (.bool (decide ((piecesL y).length ≤ 10000))) ∧ Below w.heap.size w w' := by
  refine (callsIn_wide (n := 9)).1 ?_
  refine callsIn_of_wp_marks Try.func15 rfl trivial ?_ rfl
  simp only [Try.ntmps15, List.size_toArray, List.length_cons, List.length_nil, Nat.reduceAdd, Nat.reduceSub, Array.replicate_succ, Array.replicate_zero, List.push_toArray, List.append_toArray, List.nil_append, List.cons_append]
  gi_wp2_with (refine ⟨trivial, ?_⟩; gi_at_call 16; refine (pieces_in 8 y _).mono ?_; rintro e w' ⟨rfl, rfl⟩)
  have z0 : ((((w.alloc (.cells #[.int .u64 y.ipa, .int .u64 y.pa, .int .u64 y.sz, .int .i64 y.perm, .int .i64 y.kind] 27)).alloc (.cells #[.bool false] 4)).alloc (.cells #[.int .i64 0] 3)).alloc (.cells #[.int .u64 y.ipa, .int .u64 y.pa, .int .u64 y.sz, .int .i64 y.perm, .int .i64 y.kind] 27)).heap.size = w.heap.size + 4 := by simp
  have hB0 : Below w.heap.size w ((((w.alloc (.cells #[.int .u64 y.ipa, .int .u64 y.pa, .int .u64 y.sz, .int .i64 y.perm, .int .i64 y.kind] 27)).alloc (.cells #[.bool false] 4)).alloc (.cells #[.int .i64 0] 3)).alloc (.cells #[.int .u64 y.ipa, .int .u64 y.pa, .int .u64 y.sz, .int .i64 y.perm, .int .i64 y.kind] 27)) := ((((Below.refl _ w).alloc (Nat.le_refl _) _).alloc (by simp) _).alloc (by simp; omega) _).alloc (by simp; omega) _
  have b1 : Boxed ((((w.alloc (.cells #[.int .u64 y.ipa, .int .u64 y.pa, .int .u64 y.sz, .int .i64 y.perm, .int .i64 y.kind] 27)).alloc (.cells #[.bool false] 4)).alloc (.cells #[.int .i64 0] 3)).alloc (.cells #[.int .u64 y.ipa, .int .u64 y.pa, .int .u64 y.sz, .int .i64 y.perm, .int .i64 y.kind] 27)) (w.heap.size + 1) 4 (.bool false) := by
    refine Boxed.alloc (Boxed.alloc ?_ _) _
    have := Boxed.new (w.alloc (.cells #[.int .u64 y.ipa, .int .u64 y.pa, .int .u64 y.sz, .int .i64 y.perm, .int .i64 y.kind] 27)) 4 (.bool false)
    rwa [World.size_alloc] at this
  have b2 : Boxed ((((w.alloc (.cells #[.int .u64 y.ipa, .int .u64 y.pa, .int .u64 y.sz, .int .i64 y.perm, .int .i64 y.kind] 27)).alloc (.cells #[.bool false] 4)).alloc (.cells #[.int .i64 0] 3)).alloc (.cells #[.int .u64 y.ipa, .int .u64 y.pa, .int .u64 y.sz, .int .i64 y.perm, .int .i64 y.kind] 27)) (w.heap.size + 1 + 1) 3 (.int .i64 0) := by
    refine Boxed.alloc ?_ _
    have := Boxed.new ((w.alloc (.cells #[.int .u64 y.ipa, .int .u64 y.pa, .int .u64 y.sz, .int .i64 y.perm, .int .i64 y.kind] 27)).alloc (.cells #[.bool false] 4)) 3 (.int .i64 0)
    rwa [World.size_alloc, World.size_alloc] at this
  have b3 : BoxM ((((w.alloc (.cells #[.int .u64 y.ipa, .int .u64 y.pa, .int .u64 y.sz, .int .i64 y.perm, .int .i64 y.kind] 27)).alloc (.cells #[.bool false] 4)).alloc (.cells #[.int .i64 0] 3)).alloc (.cells #[.int .u64 y.ipa, .int .u64 y.pa, .int .u64 y.sz, .int .i64 y.perm, .int .i64 y.kind] 27)) (w.heap.size + 1 + 1 + 1) y := by
    have := BoxM.new (((w.alloc (.cells #[.int .u64 y.ipa, .int .u64 y.pa, .int .u64 y.sz, .int .i64 y.perm, .int .i64 y.kind] 27)).alloc (.cells #[.bool false] 4)).alloc (.cells #[.int .i64 0] 3)) y
    rwa [World.size_alloc, World.size_alloc, World.size_alloc] at this
  generalize ((((w.alloc (.cells #[.int .u64 y.ipa, .int .u64 y.pa, .int .u64 y.sz, .int .i64 y.perm, .int .i64 y.kind] 27)).alloc (.cells #[.bool false] 4)).alloc (.cells #[.int .i64 0] 3)).alloc (.cells #[.int .u64 y.ipa, .int .u64 y.pa, .int .u64 y.sz, .int .i64 y.perm, .int .i64 y.kind] 27)) = W0 at *
  have hI : Mine (β := List (Int × M5)) W0.heap.size (w.heap.size + 1 + 1 + 1) (fun pre W => (Boxed W (w.heap.size + 1) 4 (.bool false) ∧ Boxed W (w.heap.size + 1 + 1) 3 (.int .i64 pre.length) ∧ pre.length ≤ 10000) ∧ Below w.heap.size w W) :=
    ⟨OwnFrom.and (Own.from (fun s W W' row h hg hr => ⟨boxed_own _ _ (fun _ => .bool false) s W W' row h.1 hg hr, boxed_own _ _ (fun s : List (Int × M5) => .int .i64 s.length) s W W' row h.2.1 hg hr, h.2.2⟩) _) (ownFrom_below (Nat.le_refl _) (by omega)),
      fun s W o v h => ⟨⟨boxed_off h.1.1 (by omega) _, boxed_off h.1.2.1 (by omega) _, h.1.2.2⟩, h.2.setCell (by simp; omega) _⟩⟩
  have hIx : ∀ c, Mine (β := List (Int × M5)) W0.heap.size (w.heap.size + 1 + 1 + 1) (fun pre W => c = Code.ret ∧ (Boxed W (w.heap.size + 1) 4 (.bool false) ∧ 10000 < pre.length) ∧ Below w.heap.size w W) := fun c =>
    ⟨fun s W W' row hs hg hr => ⟨hs.1, ⟨boxed_own _ _ (fun _ => .bool false) s W W' row hs.2.1.1 hg (fun r e => (hr r e).2), hs.2.1.2⟩, ownFrom_below (β := Unit) (B := W0.heap.size) (Nat.le_refl _) (by omega) () W W' row hs.2.2 hg hr⟩, fun s W o v h => ⟨h.1, ⟨boxed_off h.2.1.1 (by omega) _, h.2.1.2⟩, h.2.2.setCell (by simp; omega) _⟩⟩
  refine wpIn_range_state rfl (by decide) (gf := 26) (lb := #[.pointer (some ⟨w.heap.size + 1 + 1 + 1, 0, none⟩)]) rfl trivial (enters_of Try.func26 (by kernel_rfl) rfl)
    (pieces_iter _ (w.heap.size + 1 + 1 + 1) (by decide) y hc W0 b3) b3.lt (fun _ => rfl)
    (fun pre W => (Boxed W (w.heap.size + 1) 4 (.bool false) ∧ Boxed W (w.heap.size + 1 + 1) 3 (.int .i64 pre.length) ∧ pre.length ≤ 10000) ∧ Below w.heap.size w W)
    (fun c pre W => c = .ret ∧ (Boxed W (w.heap.size + 1) 4 (.bool false) ∧ 10000 < pre.length) ∧ Below w.heap.size w W)
    hI
    hIx
    ⟨⟨b1, b2, by simp⟩, hB0⟩
    (fun _ pre W => (Boxed W (w.heap.size + 1) 4 (.bool false) ∧ Boxed W (w.heap.size + 1 + 1) 3 (.int .i64 pre.length) ∧ pre.length ≤ 10000) ∧ Below w.heap.size w W)
    (fun _ _ h => h) (fun _ => hI.own)
    (fun x a' _ => a' = { tmps := #[.agg #[.int .u64 y.ipa, .int .u64 y.pa, .int .u64 y.sz, .int .i64 y.perm, .int .i64 y.kind], .pointer (some ⟨w.heap.size, 0, none⟩), .pointer (some ⟨w.heap.size + 1, 0, none⟩), .pointer (some ⟨w.heap.size + 1 + 1, 0, none⟩), .agg #[.int .u64 y.ipa, .int .u64 y.pa, .int .u64 y.sz, .int .i64 y.perm, .int .i64 y.kind], .func (.func 26) #[] #[.pointer (some ⟨w.heap.size + 1 + 1 + 1, 0, none⟩)], .int .i64 x.1, .agg #[.int .u64 x.2.ipa, .int .u64 x.2.pa, .int .u64 x.2.sz, .int .i64 x.2.perm, .int .i64 x.2.kind], undef, undef, undef, undef], defers := [] })
    (fun x a' _ X Y row hs hg hr => hs)
    ?assign ?body ?done ?stop
  case assign =>
    rintro l1 B pre x W K hB hI hK
    gi_wp2
    exact hK _ _ ((KeepsOthers.refl _).from _) (KeepN.refl _ _ _) hI (by first | rfl | simp | kernel_rfl)
  case body =>
    rintro l1 B pre x a' W hl1 hB hBW ⟨⟨h1, h2, hle⟩, hbel⟩ rfl hlt
    have c1 := h1.cell
    have f1 := h1.frozen
    have c2 := h2.cell
    have f2 := h2.frozen
    have hw : IntKind.i64.wrap ((pre.length : Int) + 1) = (pre.length : Int) + 1 := by rw [IntKind.wrap_i64]; omega
    replace z0 := Lib.hid z0
    have hz0 : w.heap.size + 1 + 1 < B := by have := z0.out; omega
    have hl0 : ∀ v : Value, ((pre ++ [x]).length : Int) = (pre.length : Int) + 1 := fun _ => by simp
    by_cases hm : pre.length + 1 ≤ 10000
    · have k1 : ¬ ((10000 : Int) < (pre.length : Int) + 1) := by omega
      gi_wp2
      refine ⟨(KeepsOthers.setCell _ _ _).from _, KeepN.setCell _ _ (by omega) hz0, ⟨boxed_off h1 (by omega) _, ?_, by simpa using hm⟩, hbel.setCell (by simp; omega) _⟩
      rw [hl0 undef]
      exact h2.set _
    · have k1 : (10000 : Int) < (pre.length : Int) + 1 := by omega
      gi_wp2
      refine ⟨((KeepsOthers.setCell _ _ _).trans (KeepsOthers.setCell _ _ _)).from _, rfl, ⟨Boxed.set _ (boxed_off h1 (by omega) _), by simp; omega⟩, (hbel.setCell (by simp; omega) _).setCell (by simp) _⟩
  case done =>
    rintro D ys W hD rfl ⟨⟨h1, h2, hle⟩, hB⟩ hK
    have c1 := h1.cell
    have f1 := h1.frozen
    have hk : decide ((piecesL y).length ≤ 10000) = true := decide_eq_true hle
    replace z0 := Lib.hid z0
    have hz0 : w.heap.size + 4 ≤ D := by have := z0.out; omega
    have hr1 : Boxed (W.setCell ⟨w.heap.size + 1, 0, none⟩ (.bool true)) (w.heap.size + 1) 4 (.bool true) := h1.set _
    have hK1 : (W.setCell ⟨w.heap.size + 1, 0, none⟩ (.bool true)).heap[D]? = some (.deferred (some [])) := (Below.heap_setCell W _ _ D (by simp; omega)).trans hK
    have hB1 : Below w.heap.size w (W.setCell ⟨w.heap.size + 1, 0, none⟩ (.bool true)) := hB.setCell (by simp) _
    gi_wp2
    generalize W.setCell ⟨w.heap.size + 1, 0, none⟩ (.bool true) = W5 at *
    have hr2 : Boxed (W5.putObj D (.deferred none)) (w.heap.size + 1) 4 (.bool true) := (World.putObj_heap_other (by omega)).trans hr1
    refine ⟨by simp, .inl ⟨_, _, rfl, run_takeDeferred hK1, ?_⟩⟩
    rw [hk]
    exact ⟨.bool true, by simp [results, Try.results15, go_sem, hr2.cell], rfl, hB1.trans (belowK_b (w := w) (Nat.le_refl _) W5 D _ _ (by omega) hK1 rfl rfl)⟩
  case stop =>
    rintro D cc pre W hD ⟨t, ht⟩ ⟨rfl, ⟨h1, hlt⟩, hB⟩ hK
    have hk : decide ((piecesL y).length ≤ 10000) = false := decide_eq_false (by rw [ht, List.length_append]; omega)
    replace z0 := Lib.hid z0
    have hz0 : w.heap.size + 4 ≤ D := by have := z0.out; omega
    gi_wp2
    have hr2 : Boxed (W.putObj D (.deferred none)) (w.heap.size + 1) 4 (.bool false) := (World.putObj_heap_other (by omega)).trans h1
    refine ⟨by simp, .inl ⟨_, _, rfl, run_takeDeferred hK, ?_⟩⟩
    rw [hk]
    exact ⟨.bool false, by simp [results, Try.results15, go_sem, hr2.cell], rfl, hB.trans (belowK_b (w := w) (Nat.le_refl _) W D _ _ (by omega) hK rfl rfl)⟩
end Go.Proofs.Ytkpkbljcflmdgaa
