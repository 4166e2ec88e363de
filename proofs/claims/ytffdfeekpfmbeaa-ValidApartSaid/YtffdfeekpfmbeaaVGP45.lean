/- The walk of valid.Check around its rules: what is thrown is caught. -/
import Derived.Defers
import Derived.Recover
import Derived.Test.YtffdfeekpfmbeaaVGP43
namespace Go.Proofs.Ytffdfeekpfmbeaa
open Go Go.RowKit Go.BigFrame

theorem check1_idle (a1 b1 e1 : Nat) (w : World) :
    CallsD Try.prog 15 #[.pointer (some ⟨a1, 0, none⟩), .pointer (some ⟨b1, 0, none⟩), .pointer (some ⟨e1, 0, none⟩)] .returning w fun e u' w' => e = .returned (.tuple #[]) ∧ u' = .returning ∧ w' = w := by
  refine callsD_of_wpS Try.func15 rfl fun c₀ cs hu => ?_
  apply wpS_seq
  apply wpS_region
  simp [wpOpsS, go_sem, recoverD, hu, Try.ntmps15, Exit.thenS]
  refine wpS_of_wp ?_
  simp only [Array.replicate, List.replicate, List.setIfInBounds_toArray, List.set_cons_succ, List.set_cons_zero, List.append_toArray, List.cons_append, List.nil_append]
  go_wp2_with fail
  cases c₀
  simp_all [bodyPostS, results, Try.results15]
def vpan (p n : Int) (r : Bool) : PanicEntry := { v := .iface 67 (.agg #[.int .i64 p, .int .i64 n]), recovered := r }
set_option maxRecDepth 100000 in
theorem check1_panic (p n : Int) (a1 b1 e1 : Nat) (w : World) (hne : a1 ≠ b1) (hne2 : a1 ≠ e1) (hne3 : b1 ≠ e1) (h1 : w.heap[a1]? = some (.cells #[.int .i64 0] 3 (0, 0))) (h2 : w.heap[b1]? = some (.cells #[.int .i64 0] 3 (0, 0))) (h3 : w.heap[e1]? = some (.cells #[.int .i64 0] 34 (0, 0))) :
    CallsD Try.prog 15 #[.pointer (some ⟨a1, 0, none⟩), .pointer (some ⟨b1, 0, none⟩), .pointer (some ⟨e1, 0, none⟩)] (.panicking [vpan p n false]) w fun e u' w' => e = .returned (.tuple #[]) ∧ u' = .panicking [vpan p n true] ∧
      w'.heap[a1]? = some (.cells #[.int .i64 p] 3 (0, 0)) ∧ w'.heap[b1]? = some (.cells #[.int .i64 n] 3 (0, 0)) ∧ w'.heap[e1]? = some (.cells #[.int .i64 170] 34 (0, 0)) ∧ OffV (min a1 (min b1 e1)) [a1, b1, e1] w w' := by
  refine callsD_of_wpS Try.func15 rfl fun c₀ cs hu => ?_
  unfold vpan at hu
  apply wpS_seq
  apply wpS_region
  simp [wpOpsS, go_sem, recoverD, hu, Try.ntmps15, Exit.thenS]
  refine wpS_of_wp ?_
  simp only [Array.replicate, List.replicate, List.setIfInBounds_toArray, List.set_cons_succ, List.set_cons_zero, List.append_toArray, List.cons_append, List.nil_append]
  have hta : ∀ (I : TypeId) (w : World), (Instr.typeAssert (.iface 67 (.agg #[.int .i64 p, .int .i64 n])) I 67 true).run Try.prog w = .ok (.tuple #[.agg #[.int .i64 p, .int .i64 n], .bool true]) w := fun _ _ => by kernel_rfl
  go_wp2_with fail
  obtain ⟨W1, hW1⟩ : ∃ W1, W1 = w.alloc (.cells #[.int .i64 p, .int .i64 n] 67) := ⟨_, rfl⟩
  have hb1 : Below w.heap.size w W1 := by rw [hW1]; exact bone _ _
  have f0 : W1.cell? ⟨w.heap.size, 0, none⟩ = some (.int .i64 p) := by rw [hW1]; simp [World.cell?_alloc_new]
  have f1 : W1.cell? ⟨w.heap.size, 1, none⟩ = some (.int .i64 n) := by rw [hW1]; simp [World.cell?_alloc_new]
  have l1 : a1 < w.heap.size := (Array.getElem?_eq_some_iff.1 h1).1
  have l2 : b1 < w.heap.size := (Array.getElem?_eq_some_iff.1 h2).1
  have l3 : e1 < w.heap.size := (Array.getElem?_eq_some_iff.1 h3).1
  have k1 := (hb1.block a1 l1).trans h1
  have k2 := (hb1.block b1 l2).trans h2
  have m2 := (hb1.block e1 l3).trans h3
  rw [← hW1]
  clear hW1
  refine region_ord (fun z => ∃ X : HeldB w.heap.size W1, z = X.x) [([0, 1, 2, 3], 4), ([], 5), ([], 6)] [] (by kernel_rfl) (by kernel_rfl) (by kernel_rfl) (by kernel_rfl) ⟨⟨W1.drew, rfl⟩, rfl⟩ ?_
  simp only [List.map_cons, List.map_nil, List.filterMap_cons, List.filterMap_nil, List.getElem?_cons_succ, List.getElem?_cons_zero]
  have y0 := held_cell (w0 := W1) f0
  have y1 := held_cell (w0 := W1) f1
  have hbd : Below w.heap.size w W1.drew := hb1.drew
  have hh : W1.drew.heap[w.heap.size]? = W1.heap[w.heap.size]? := rfl
  have k1' : W1.drew.heap[a1]? = some (.cells #[.int .i64 0] 3 (0, 0)) := k1
  have k2' : W1.drew.heap[b1]? = some (.cells #[.int .i64 0] 3 (0, 0)) := k2
  have m2' : W1.drew.heap[e1]? = some (.cells #[.int .i64 0] 34 (0, 0)) := m2
  generalize W1.drew = W2 at *
  have z1 : W2.frozen? ⟨a1, 0, none⟩ = false := by simp [World.frozen?, k1']
  have c1 : W2.cell? ⟨a1, 0, none⟩ = some (.int .i64 0) := by simp [World.cell?, k1']
  refine ord_step ?_
  repeat (change wpQuiet _ _ _ _ (List.cons _ _) _; go_big_quiet_step (fail))
  refine wpQuiet_nil ?_
  intro Q₁ hQ₁
  simp only [Option.toList]
  go_wp2_with fail
  have k3 := setCell_at k1' 0 (.int .i64 p)
  have k4 : (W2.setCell ⟨a1, 0, none⟩ (.int .i64 p)).heap[b1]? = some (.cells #[.int .i64 0] 3 (0, 0)) := (setCell_other (Ne.symm hne)).trans k2'
  have m4 : (W2.setCell ⟨a1, 0, none⟩ (.int .i64 p)).heap[e1]? = some (.cells #[.int .i64 0] 34 (0, 0)) := (setCell_other (Ne.symm hne2)).trans m2'
  have hh3 : (W2.setCell ⟨a1, 0, none⟩ (.int .i64 p)).heap[w.heap.size]? = W1.heap[w.heap.size]? := (setCell_other (by omega)).trans hh
  have hoff : OffV (min a1 (min b1 e1)) [a1, b1, e1] w (W2.setCell ⟨a1, 0, none⟩ (.int .i64 p)) := (OffV.of_below hbd (by omega)).set (.inl (by simp)) (by omega)
  refine hQ₁ _ _ ⟨⟨_, hh3⟩, rfl⟩ ?_
  clear hQ₁ Q₁
  generalize W2.setCell ⟨a1, 0, none⟩ (.int .i64 p) = W3 at *
  have z3 : W3.frozen? ⟨b1, 0, none⟩ = false := by simp [World.frozen?, k4]
  have c3 : W3.cell? ⟨b1, 0, none⟩ = some (.int .i64 0) := by simp [World.cell?, k4]
  refine ord_step ?_
  refine wpQuiet_nil ?_
  intro Q₁ hQ₁
  simp only [Option.toList]
  go_wp2_with fail
  have k5 := setCell_at k4 0 (.int .i64 n)
  have k6 : (W3.setCell ⟨b1, 0, none⟩ (.int .i64 n)).heap[a1]? = some (.cells #[.int .i64 p] 3 (0, 0)) := (setCell_other hne).trans (k3.trans rfl)
  have m6 : (W3.setCell ⟨b1, 0, none⟩ (.int .i64 n)).heap[e1]? = some (.cells #[.int .i64 0] 34 (0, 0)) := (setCell_other (Ne.symm hne3)).trans m4
  have hh4 : (W3.setCell ⟨b1, 0, none⟩ (.int .i64 n)).heap[w.heap.size]? = W1.heap[w.heap.size]? := (setCell_other (by omega)).trans hh3
  have hoff2 : OffV (min a1 (min b1 e1)) [a1, b1, e1] w (W3.setCell ⟨b1, 0, none⟩ (.int .i64 n)) := hoff.set (.inl (by simp)) (by omega)
  refine hQ₁ _ _ ⟨⟨_, hh4⟩, rfl⟩ ?_
  clear hQ₁ Q₁
  generalize W3.setCell ⟨b1, 0, none⟩ (.int .i64 n) = W4 at *
  have z4 : W4.frozen? ⟨e1, 0, none⟩ = false := by simp [World.frozen?, m6]
  have c4 : W4.cell? ⟨e1, 0, none⟩ = some (.int .i64 0) := by simp [World.cell?, m6]
  refine ord_step ?_
  refine wpQuiet_nil ?_
  intro Q₁ hQ₁
  simp only [Option.toList]
  go_wp2_with fail
  have k7 : (W4.setCell ⟨e1, 0, none⟩ (.int .i64 170)).heap[a1]? = some (.cells #[.int .i64 p] 3 (0, 0)) := (setCell_other hne2).trans k6
  have k8 : (W4.setCell ⟨e1, 0, none⟩ (.int .i64 170)).heap[b1]? = some (.cells #[.int .i64 n] 3 (0, 0)) := (setCell_other hne3).trans (k5.trans rfl)
  have m8 := setCell_at m6 0 (.int .i64 170)
  have hoff3 : OffV (min a1 (min b1 e1)) [a1, b1, e1] w (W4.setCell ⟨e1, 0, none⟩ (.int .i64 170)) := hoff2.set (.inl (by simp)) (by omega)
  refine hQ₁ _ _ ⟨⟨_, (setCell_other (by omega)).trans hh4⟩, rfl⟩ ?_
  clear hQ₁ Q₁
  refine ord_last ?_
  refine wpQuiet_nil ?_
  exact ⟨rfl, _, rfl, _, results_none rfl _ _ _, rfl, rfl, k7, k8, m8.trans rfl, hoff3⟩
theorem results3_cells {W : World} {a1 b1 e1 : Nat} {x y z : Int} {tmps : Array Value} (h0 : tmps.getD 4 undef = .pointer (some ⟨a1, 0, none⟩)) (h1 : tmps.getD 5 undef = .pointer (some ⟨b1, 0, none⟩)) (h2 : tmps.getD 6 undef = .pointer (some ⟨e1, 0, none⟩))
    (c0 : W.cell? ⟨a1, 0, none⟩ = some (.int .i64 x)) (c1 : W.cell? ⟨b1, 0, none⟩ = some (.int .i64 y)) (c2 : W.cell? ⟨e1, 0, none⟩ = some (.int .i64 z)) : (results Try.f9 tmps).run Try.prog W = .ok (.tuple #[.int .i64 x, .int .i64 y, .int .i64 z]) W := by
  simp only [Array.getD_eq_getD_getElem?] at h0 h1 h2
  simp [results, Try.results9, go_sem, h0, h1, h2, c0, c1, c2]
set_option maxRecDepth 100000 in
set_option maxHeartbeats 2000000 in
theorem check_of (b : BrdV) (ver : Int) (vg vc : Value) (hvg : ∃ a n c, vg = .slice a n c) (hvc : ∃ a n c, vc = .slice a n c) (o : Option (Int × Int)) (w : World)
    (hAll : ∀ (W : World) (xb mi ms : Nat), Below w.heap.size w W → ChkAt W xb b ver vg vc 0 mi ms (.slice none 0 0) (.slice none 0 0) → IrqM W mi [] → StrM W ms [] → w.heap.size ≤ xb → w.heap.size ≤ mi → w.heap.size ≤ ms → mi ≠ ms → xb ≠ mi ∧ xb ≠ ms →
      Calls Try.prog 16 #[.pointer (some ⟨xb, 0, none⟩)] W fun e W' => e = endE o ∧ OffV w.heap.size [xb, mi, ms] W W') :
    Calls Try.prog 9 #[.agg #[.int .u64 b.ram.a, .int .u64 b.ram.b, .int .u64 b.ldr.a, .int .u64 b.ldr.b, .int .i64 b.irqs, .int .i64 b.strs, .int .i64 b.cpus], .agg #[.int .u32 ver, vg, vc]] w fun e w' =>
      e = .returned (.tuple #[.int .i64 (ruleV o), .int .i64 (placeW o), .int .i64 (errV o)]) ∧ Below w.heap.size w w' := by
  obtain ⟨ag, ng, cg, rfl⟩ := hvg
  obtain ⟨ac, nc, cc, rfl⟩ := hvc
  have hmf : ∀ (fn : Fn) (first cap : Array Value) (w : World), (Instr.makeFunc fn first cap).run Try.prog w = .ok (.func fn first cap) w := fun _ _ _ _ => rfl
  obtain ⟨A1, hA1⟩ : ∃ A1, A1 = w.alloc (.cells #[.int .u64 b.ram.a, .int .u64 b.ram.b, .int .u64 b.ldr.a, .int .u64 b.ldr.b, .int .i64 b.irqs, .int .i64 b.strs, .int .i64 b.cpus] 26) := ⟨_, rfl⟩
  obtain ⟨A2, hA2⟩ : ∃ A2, A2 = A1.alloc (.cells #[.int .u32 ver, .slice ag ng cg, .slice ac nc cc] 31) := ⟨_, rfl⟩
  obtain ⟨A3, hA3⟩ : ∃ A3, A3 = A2.alloc (.cells #[.int .i64 0] 3) := ⟨_, rfl⟩
  obtain ⟨A4, hA4⟩ : ∃ A4, A4 = A3.alloc (.cells #[.int .i64 0] 3) := ⟨_, rfl⟩
  obtain ⟨A5, hA5⟩ : ∃ A5, A5 = A4.alloc (.cells #[.int .i64 0] 34) := ⟨_, rfl⟩
  obtain ⟨A6, hA6⟩ : ∃ A6, A6 = A5.alloc (.map #[] 0) := ⟨_, rfl⟩
  obtain ⟨A7, hA7⟩ : ∃ A7, A7 = A6.alloc (.map #[] 0) := ⟨_, rfl⟩
  obtain ⟨A8, hA8⟩ : ∃ A8, A8 = A7.alloc (.cells #[.int .u64 b.ram.a, .int .u64 b.ram.b, .int .u64 b.ldr.a, .int .u64 b.ldr.b, .int .i64 b.irqs, .int .i64 b.strs, .int .i64 b.cpus, .int .u32 ver, .slice ag ng cg, .slice ac nc cc, .int .u32 0, .map (some (w.heap.size + 1 + 1 + 1 + 1 + 1)), .map (some (w.heap.size + 1 + 1 + 1 + 1 + 1 + 1)), .slice none 0 0, .slice none 0 0] 71) := ⟨_, rfl⟩
  have z1 : A1.heap.size = w.heap.size + 1 := by rw [hA1]; simp
  have z2 : A2.heap.size = w.heap.size + 2 := by rw [hA2]; simp [z1]
  have z3 : A3.heap.size = w.heap.size + 3 := by rw [hA3]; simp [z2]
  have z4 : A4.heap.size = w.heap.size + 4 := by rw [hA4]; simp [z3]
  have z5 : A5.heap.size = w.heap.size + 5 := by rw [hA5]; simp [z4]
  have z6 : A6.heap.size = w.heap.size + 6 := by rw [hA6]; simp [z5]
  have z7 : A7.heap.size = w.heap.size + 7 := by rw [hA7]; simp [z6]
  have n3 : A3.heap[w.heap.size + 2]? = some (.cells #[.int .i64 0] 3 (0, 0)) := by rw [← z2, hA3]; exact World.alloc_heap_new _ _
  have n4 : A4.heap[w.heap.size + 3]? = some (.cells #[.int .i64 0] 3 (0, 0)) := by rw [← z3, hA4]; exact World.alloc_heap_new _ _
  have n5 : A5.heap[w.heap.size + 4]? = some (.cells #[.int .i64 0] 34 (0, 0)) := by rw [← z4, hA5]; exact World.alloc_heap_new _ _
  have n6 : IrqM A6 (w.heap.size + 5) [] := by rw [← z5, hA6]; exact ⟨CntKV.new _, by simp⟩
  have n7 : StrM A7 (w.heap.size + 6) [] := by rw [← z6, hA7]; exact ⟨CntKV.new _, by simp⟩
  have n8 : ChkAt A8 (w.heap.size + 7) b ver (.slice ag ng cg) (.slice ac nc cc) 0 (w.heap.size + 5) (w.heap.size + 6) (.slice none 0 0) (.slice none 0 0) := ⟨by rw [← z7, hA8]; exact World.alloc_heap_new _ _⟩
  have b8 : Below A7.heap.size A7 A8 := by rw [hA8]; exact bone _ _
  have b7 : Below A6.heap.size A6 A8 := bthen (by rw [hA7]; exact bone _ _) b8
  have b6 : Below A5.heap.size A5 A8 := bthen (by rw [hA6]; exact bone _ _) b7
  have b5 : Below A4.heap.size A4 A8 := bthen (by rw [hA5]; exact bone _ _) b6
  have b4 : Below A3.heap.size A3 A8 := bthen (by rw [hA4]; exact bone _ _) b5
  have b3 : Below A2.heap.size A2 A8 := bthen (by rw [hA3]; exact bone _ _) b4
  have b2 : Below A1.heap.size A1 A8 := bthen (by rw [hA2]; exact bone _ _) b3
  have b1 : Below w.heap.size w A8 := bthen (by rw [hA1]; exact bone _ _) b2
  replace n3 := (b4.block (w.heap.size + 2) (by omega)).trans n3
  replace n4 := (b5.block (w.heap.size + 3) (by omega)).trans n4
  replace n5 := (b6.block (w.heap.size + 4) (by omega)).trans n5
  replace n6 := n6.same (b7.block (w.heap.size + 5) (by omega))
  replace n7 := n7.same (b8.block (w.heap.size + 6) (by omega))
  have hcall := hAll A8 (w.heap.size + 7) (w.heap.size + 5) (w.heap.size + 6) b1 n8 n6 n7 (by omega) (by omega) (by omega) (by omega) ⟨by omega, by omega⟩
  have z8 : A8.heap.size = w.heap.size + 8 := by rw [hA8]; simp [z7]
  clear b2 b3 b4 b5 b6 b7 b8 z1 z2 z3 z4 z5 z6 z7 n6 n7 n8 hAll
  replace hA1 := Lib.hid hA1
  replace hA2 := Lib.hid hA2
  replace hA3 := Lib.hid hA3
  replace hA4 := Lib.hid hA4
  replace hA5 := Lib.hid hA5
  replace hA6 := Lib.hid hA6
  replace hA7 := Lib.hid hA7
  replace hA8 := Lib.hid hA8
  replace n3 := Lib.hid n3
  replace n4 := Lib.hid n4
  replace n5 := Lib.hid n5
  go_enter_defers Try.func9, Try.ntmps9
  have hmi : ∀ W : World, (Instr.makeMap 54 none).run Try.prog W = .ok (.map (some W.heap.size)) (W.alloc (.map #[] 0)) := fun _ => rfl
  have hms : ∀ W : World, (Instr.makeMap 55 none).run Try.prog W = .ok (.map (some W.heap.size)) (W.alloc (.map #[] 0)) := fun _ => rfl
  go_wp2_with fail
  rw [← hA1.out, ← hA2.out, ← hA3.out, ← hA4.out, ← hA5.out, ← hA6.out, ← hA7.out, ← hA8.out]
  clear hA1 hA2 hA3 hA4 hA5 hA6 hA7 hA8
  refine hcall.mono ?_; rintro e W' ⟨rfl, hoff⟩
  have q3 := (hoff.rest (w.heap.size + 2) (by omega) (by simp)).trans n3.out
  have q4 := (hoff.rest (w.heap.size + 3) (by omega) (by simp)).trans n4.out
  have q5 := (hoff.rest (w.heap.size + 4) (by omega) (by simp)).trans n5.out
  have hbw : Below w.heap.size w W' := b1.trans hoff.below
  clear hoff hcall n3 n4 n5 z8
  cases o with
  | none =>
    simp only [endE]
    have z3 : W'.frozen? ⟨w.heap.size + 1 + 1, 0, none⟩ = false := by simp only [World.frozen?]; rw [show W'.heap[w.heap.size + 1 + 1]? = _ from q3]; simp
    have z4 : W'.frozen? ⟨w.heap.size + 1 + 1 + 1, 0, none⟩ = false := by simp only [World.frozen?]; rw [show W'.heap[w.heap.size + 1 + 1 + 1]? = _ from q4]; simp
    have z5 : W'.frozen? ⟨w.heap.size + 1 + 1 + 1 + 1, 0, none⟩ = false := by simp only [World.frozen?]; rw [show W'.heap[w.heap.size + 1 + 1 + 1 + 1]? = _ from q5]; simp
    have c3 : W'.cell? ⟨w.heap.size + 1 + 1, 0, none⟩ = some (.int .i64 0) := by simp only [World.cell?]; rw [show W'.heap[w.heap.size + 1 + 1]? = _ from q3]; simp
    have c4 : W'.cell? ⟨w.heap.size + 1 + 1 + 1, 0, none⟩ = some (.int .i64 0) := by simp only [World.cell?]; rw [show W'.heap[w.heap.size + 1 + 1 + 1]? = _ from q4]; simp
    have c5 : W'.cell? ⟨w.heap.size + 1 + 1 + 1 + 1, 0, none⟩ = some (.int .i64 0) := by simp only [World.cell?]; rw [show W'.heap[w.heap.size + 1 + 1 + 1 + 1]? = _ from q5]; simp
    replace q3 := Lib.hid q3
    replace q4 := Lib.hid q4
    replace q5 := Lib.hid q5
    go_wp2_with fail
    have r3 : (((W'.setCell ⟨w.heap.size + 1 + 1, 0, none⟩ (.int .i64 0)).setCell ⟨w.heap.size + 1 + 1 + 1, 0, none⟩ (.int .i64 0)).setCell ⟨w.heap.size + 1 + 1 + 1 + 1, 0, none⟩ (.int .i64 0)).heap[w.heap.size + 1 + 1]? = some (.cells #[.int .i64 0] 3 (0, 0)) := (setCell_other (by omega)).trans ((setCell_other (by omega)).trans ((setCell_at q3.out 0 _).trans rfl))
    have r4 : (((W'.setCell ⟨w.heap.size + 1 + 1, 0, none⟩ (.int .i64 0)).setCell ⟨w.heap.size + 1 + 1 + 1, 0, none⟩ (.int .i64 0)).setCell ⟨w.heap.size + 1 + 1 + 1 + 1, 0, none⟩ (.int .i64 0)).heap[w.heap.size + 1 + 1 + 1]? = some (.cells #[.int .i64 0] 3 (0, 0)) := (setCell_other (by omega)).trans ((setCell_at ((setCell_other (by omega)).trans q4.out) 0 _).trans rfl)
    have r5 : (((W'.setCell ⟨w.heap.size + 1 + 1, 0, none⟩ (.int .i64 0)).setCell ⟨w.heap.size + 1 + 1 + 1, 0, none⟩ (.int .i64 0)).setCell ⟨w.heap.size + 1 + 1 + 1 + 1, 0, none⟩ (.int .i64 0)).heap[w.heap.size + 1 + 1 + 1 + 1]? = some (.cells #[.int .i64 0] 34 (0, 0)) := (setCell_at ((setCell_other (by omega)).trans ((setCell_other (by omega)).trans q5.out)) 0 _).trans rfl
    have hbe : Below w.heap.size w (((W'.setCell ⟨w.heap.size + 1 + 1, 0, none⟩ (.int .i64 0)).setCell ⟨w.heap.size + 1 + 1 + 1, 0, none⟩ (.int .i64 0)).setCell ⟨w.heap.size + 1 + 1 + 1 + 1, 0, none⟩ (.int .i64 0)) := ((hbw.setCell (p := ⟨w.heap.size + 1 + 1, 0, none⟩) (by show w.heap.size ≤ w.heap.size + 1 + 1; omega) _).setCell (p := ⟨w.heap.size + 1 + 1 + 1, 0, none⟩) (by show w.heap.size ≤ w.heap.size + 1 + 1 + 1; omega) _).setCell (p := ⟨w.heap.size + 1 + 1 + 1 + 1, 0, none⟩) (by show w.heap.size ≤ w.heap.size + 1 + 1 + 1 + 1; omega) _
    generalize (((W'.setCell ⟨w.heap.size + 1 + 1, 0, none⟩ (.int .i64 0)).setCell ⟨w.heap.size + 1 + 1 + 1, 0, none⟩ (.int .i64 0)).setCell ⟨w.heap.size + 1 + 1 + 1 + 1, 0, none⟩ (.int .i64 0)) = W2 at *
    refine leaves_cons (f := 15) (args := #[.pointer (some ⟨w.heap.size + 1 + 1, 0, none⟩), .pointer (some ⟨w.heap.size + 1 + 1 + 1, 0, none⟩), .pointer (some ⟨w.heap.size + 1 + 1 + 1 + 1, 0, none⟩)]) (by simp) (by simp [go_sem]) ?_
    refine (check1_idle (w.heap.size + 1 + 1) (w.heap.size + 1 + 1 + 1) (w.heap.size + 1 + 1 + 1 + 1) _).mono ?_
    rintro e u' w'' ⟨rfl, rfl, rfl⟩
    have d0 : w''.cell? ⟨w.heap.size + 1 + 1, 0, none⟩ = some (.int .i64 0) := by simp only [World.cell?, r3]; simp
    have d1 : w''.cell? ⟨w.heap.size + 1 + 1 + 1, 0, none⟩ = some (.int .i64 0) := by simp only [World.cell?, r4]; simp
    have d2 : w''.cell? ⟨w.heap.size + 1 + 1 + 1 + 1, 0, none⟩ = some (.int .i64 0) := by simp only [World.cell?, r5]; simp
    exact ⟨.tuple #[.int .i64 0, .int .i64 0, .int .i64 0], results3_cells rfl rfl rfl d0 d1 d2, rfl, hbe⟩
  | some x =>
    simp only [endE]
    obtain ⟨r, pl⟩ := x
    refine leaves_cons (f := 15) (args := #[.pointer (some ⟨w.heap.size + 1 + 1, 0, none⟩), .pointer (some ⟨w.heap.size + 1 + 1 + 1, 0, none⟩), .pointer (some ⟨w.heap.size + 1 + 1 + 1 + 1, 0, none⟩)]) (by simp) (by simp [go_sem]) ?_
    refine (check1_panic r pl (w.heap.size + 1 + 1) (w.heap.size + 1 + 1 + 1) (w.heap.size + 1 + 1 + 1 + 1) _ (by omega) (by omega) (by omega) q3 q4 q5).mono ?_
    rintro e u' w'' ⟨rfl, rfl, r0, r1, r2, hoff⟩
    have d0 : w''.cell? ⟨w.heap.size + 1 + 1, 0, none⟩ = some (.int .i64 r) := by simp only [World.cell?, r0]; simp
    have d1 : w''.cell? ⟨w.heap.size + 1 + 1 + 1, 0, none⟩ = some (.int .i64 pl) := by simp only [World.cell?, r1]; simp
    have d2 : w''.cell? ⟨w.heap.size + 1 + 1 + 1 + 1, 0, none⟩ = some (.int .i64 170) := by simp only [World.cell?, r2]; simp
    have hbe : Below w.heap.size w w'' := hbw.trans (hoff.below.mono (by omega))
    exact ⟨.tuple #[.int .i64 r, .int .i64 pl, .int .i64 170], results3_cells rfl rfl rfl d0 d1 d2, rfl, hbe⟩
end Go.Proofs.Ytffdfeekpfmbeaa
