/- The walks of cfg's caught: what is thrown is caught. -/
import Derived.Defers
import Derived.Recover
import Derived.Test.YtffdfeekpfmbeaaGreatValidChecksP32
namespace Go.Proofs.YtffdfeekpfmbeaaGreat
open Go Go.RowKit Go.BigFrame

theorem caught1_idle (a1 e1 : Nat) (w : World) :
    CallsD Tryz.prog 80 #[.pointer (some ⟨a1, 0, none⟩), .pointer (some ⟨e1, 0, none⟩)] .returning w fun e u' w' => e = .returned (.tuple #[]) ∧ u' = .returning ∧ w' = w := by
  refine callsD_of_wpS Tryz.func80 rfl fun c₀ cs hu => ?_
  apply wpS_seq
  apply wpS_region
  simp [wpOpsS, go_sem, recoverD, hu, Tryz.ntmps80, Exit.thenS]
  refine wpS_of_wp ?_
  simp only [Array.replicate, List.replicate, List.setIfInBounds_toArray, List.set_cons_succ, List.set_cons_zero, List.append_toArray, List.cons_append, List.nil_append]
  go_wp2_with fail
  cases c₀
  simp_all [bodyPostS, results, Tryz.results80]
def cpan (p n : Int) (r : Bool) : PanicEntry := { v := .iface 147 (.agg #[.int .i64 p, .int .i64 n]), recovered := r }
set_option maxRecDepth 100000 in
theorem caught1_panic (p n : Int) (a1 e1 : Nat) (w : World) (hne : a1 ≠ e1) (h1 : w.heap[a1]? = some (.cells #[.int .i64 0] 3 (0, 0))) (h2 : w.heap[e1]? = some (.cells #[.int .i64 0] 34 (0, 0))) :
    CallsD Tryz.prog 80 #[.pointer (some ⟨a1, 0, none⟩), .pointer (some ⟨e1, 0, none⟩)] (.panicking [cpan p n false]) w fun e u' w' => e = .returned (.tuple #[]) ∧ u' = .panicking [cpan p n true] ∧
      w'.heap[a1]? = some (.cells #[.int .i64 p] 3 (0, 0)) ∧ w'.heap[e1]? = some (.cells #[.int .i64 n] 34 (0, 0)) ∧ OffV (min a1 e1) [a1, e1] w w' := by
  refine callsD_of_wpS Tryz.func80 rfl fun c₀ cs hu => ?_
  unfold cpan at hu
  apply wpS_seq
  apply wpS_region
  simp [wpOpsS, go_sem, recoverD, hu, Tryz.ntmps80, Exit.thenS]
  refine wpS_of_wp ?_
  simp only [Array.replicate, List.replicate, List.setIfInBounds_toArray, List.set_cons_succ, List.set_cons_zero, List.append_toArray, List.cons_append, List.nil_append]
  have hta : ∀ (I : TypeId) (w : World), (Instr.typeAssert (.iface 147 (.agg #[.int .i64 p, .int .i64 n])) I 147 true).run Tryz.prog w = .ok (.tuple #[.agg #[.int .i64 p, .int .i64 n], .bool true]) w := fun _ _ => by kernel_rfl
  go_wp2_with fail
  obtain ⟨W1, hW1⟩ : ∃ W1, W1 = w.alloc (.cells #[.int .i64 p, .int .i64 n] 147) := ⟨_, rfl⟩
  have hb1 : Below w.heap.size w W1 := by rw [hW1]; exact bone _ _
  have b0 : W1.cell? ⟨w.heap.size, 0, none⟩ = some (.int .i64 p) := by rw [hW1]; simp [World.cell?_alloc_new]
  have b1 : W1.cell? ⟨w.heap.size, 1, none⟩ = some (.int .i64 n) := by rw [hW1]; simp [World.cell?_alloc_new]
  have l1 : a1 < w.heap.size := (Array.getElem?_eq_some_iff.1 h1).1
  have l2 : e1 < w.heap.size := (Array.getElem?_eq_some_iff.1 h2).1
  have k1 := (hb1.block a1 l1).trans h1
  have k2 := (hb1.block e1 l2).trans h2
  rw [← hW1]
  clear hW1
  refine region_ord (fun z => ∃ X : HeldB w.heap.size W1, z = X.x) [([0, 1, 2, 3], 4), ([], 5)] [] (by kernel_rfl) (by kernel_rfl) (by kernel_rfl) (by kernel_rfl) ⟨⟨W1.drew, rfl⟩, rfl⟩ ?_
  simp only [List.map_cons, List.map_nil, List.filterMap_cons, List.filterMap_nil, List.getElem?_cons_succ, List.getElem?_cons_zero]
  have y0 := held_cell (w0 := W1) b0
  have y1 := held_cell (w0 := W1) b1
  have hbd : Below w.heap.size w W1.drew := hb1.drew
  have hh : W1.drew.heap[w.heap.size]? = W1.heap[w.heap.size]? := rfl
  have k1' : W1.drew.heap[a1]? = some (.cells #[.int .i64 0] 3 (0, 0)) := k1
  have k2' : W1.drew.heap[e1]? = some (.cells #[.int .i64 0] 34 (0, 0)) := k2
  generalize W1.drew = W2 at *
  have z1 : W2.frozen? ⟨a1, 0, none⟩ = false := by simp [World.frozen?, k1']
  have c1 : W2.cell? ⟨a1, 0, none⟩ = some (.int .i64 0) := by simp [World.cell?, k1']
  refine ord_step ?_
  repeat (change wpQuiet _ _ _ _ (List.cons _ _) _; go_big_quiet_step (fail))
  refine wpQuiet_nil ?_
  intro Q₁ hQ₁
  simp only [Option.toList]
  go_wp2_with fail
  have k3 := setCell_at k1' 0 (.int .i64 p)
  have k4 : (W2.setCell ⟨a1, 0, none⟩ (.int .i64 p)).heap[e1]? = some (.cells #[.int .i64 0] 34 (0, 0)) := (setCell_other (Ne.symm hne)).trans k2'
  have hh3 : (W2.setCell ⟨a1, 0, none⟩ (.int .i64 p)).heap[w.heap.size]? = W1.heap[w.heap.size]? := (setCell_other (by omega)).trans hh
  have hoff : OffV (min a1 e1) [a1, e1] w (W2.setCell ⟨a1, 0, none⟩ (.int .i64 p)) := (OffV.of_below hbd (by omega)).set (.inl (by simp)) (by omega)
  refine hQ₁ _ _ ⟨⟨_, hh3⟩, rfl⟩ ?_
  clear hQ₁ Q₁
  generalize W2.setCell ⟨a1, 0, none⟩ (.int .i64 p) = W3 at *
  have z3 : W3.frozen? ⟨e1, 0, none⟩ = false := by simp [World.frozen?, k4]
  have c3 : W3.cell? ⟨e1, 0, none⟩ = some (.int .i64 0) := by simp [World.cell?, k4]
  refine ord_step ?_
  refine wpQuiet_nil ?_
  intro Q₁ hQ₁
  simp only [Option.toList]
  go_wp2_with fail
  have k5 := setCell_at k4 0 (.int .i64 n)
  have k6 : (W3.setCell ⟨e1, 0, none⟩ (.int .i64 n)).heap[a1]? = some (.cells #[.int .i64 p] 3 (0, 0)) := (setCell_other hne).trans (k3.trans rfl)
  have hoff2 : OffV (min a1 e1) [a1, e1] w (W3.setCell ⟨e1, 0, none⟩ (.int .i64 n)) := hoff.set (.inl (by simp)) (by omega)
  refine hQ₁ _ _ ⟨⟨_, (setCell_other (by omega)).trans hh3⟩, rfl⟩ ?_
  clear hQ₁ Q₁
  refine ord_last ?_
  refine wpQuiet_nil ?_
  exact ⟨rfl, _, rfl, _, results_none rfl _ _ _, rfl, rfl, k6, k5.trans rfl, hoff2⟩
set_option maxRecDepth 100000 in
/-- A function that may throw, caught: its error's number. -/
theorem caught_any (F : Nat) (caps : Array Value) (t : Bool) (w : World) (B : Nat) (hBw : B ≤ w.heap.size) (Post : World → Prop) (eF : ∀ args w, (callFunc F args).run Tryz.prog w = .ok (.enter F args) w)
    (hF : ∀ W, Below w.heap.size w W → W.heap.size = w.heap.size + 2 → Calls Tryz.prog F caps W fun e W' => PutE t (.tuple #[]) e ∧ (Below B W W' ∧ W'.heap[w.heap.size]? = W.heap[w.heap.size]? ∧ W'.heap[w.heap.size + 1]? = W.heap[w.heap.size + 1]?) ∧ (t = true → Post W'))
    (hPost : ∀ (W W' : World), Post W → (∀ k, k ≠ w.heap.size → k ≠ w.heap.size + 1 → k < W.heap.size → W'.heap[k]? = W.heap[k]?) → Post W') :
    Calls Tryz.prog 49 #[.func (.func F) #[] caps] w fun e w' => (∃ p n, e = .returned (.tuple #[.int .i64 p, .int .i64 n]) ∧ (n = 0 ↔ t = true)) ∧ Below B w w' ∧ (t = true → Post w') := by
  have hmf : ∀ (fn : Fn) (first cap : Array Value) (w : World), (Instr.makeFunc fn first cap).run Tryz.prog w = .ok (.func fn first cap) w := fun _ _ _ _ => rfl
  obtain ⟨W0, hW0⟩ : ∃ W0, W0 = (w.alloc (.cells #[.int .i64 0] 3)).alloc (.cells #[.int .i64 0] 34) := ⟨_, rfl⟩
  have hb0 : Below w.heap.size w W0 := by rw [hW0]; exact bnew (bone _ _)
  have hz0 : W0.heap.size = w.heap.size + 2 := by rw [hW0]; simp
  have k0 : W0.heap[w.heap.size]? = some (.cells #[.int .i64 0] 3 (0, 0)) := by rw [hW0]; exact ((bone _ _).block _ (by simp)).trans (World.alloc_heap_new w _)
  have k1 : W0.heap[w.heap.size + 1]? = some (.cells #[.int .i64 0] 34 (0, 0)) := by
    rw [hW0]
    have := World.alloc_heap_new (w.alloc (.cells #[.int .i64 0] 3)) (.cells #[.int .i64 0] 34)
    simpa using this
  have hF0 := hF W0 hb0 hz0
  clear hF
  replace hW0 := Lib.hid hW0
  replace k0 := Lib.hid k0
  replace k1 := Lib.hid k1
  go_enter_defers Tryz.func49, Tryz.ntmps49
  go_wp2_with fail
  rw [← hW0.out]
  clear hW0
  refine hF0.mono ?_; rintro e W1 ⟨hP, ⟨hb1, hk0, hk1⟩, hpo⟩
  have q0 := hk0.trans k0.out
  have q1 := hk1.trans k1.out
  have hbw : Below B w W1 := (hb0.mono hBw).trans hb1
  cases t
  case true =>
    have he : e = .returned (.tuple #[]) := hP
    subst he
    have z0 : W1.frozen? ⟨w.heap.size, 0, none⟩ = false := by simp [World.frozen?, q0]
    have z1 : W1.frozen? ⟨w.heap.size + 1, 0, none⟩ = false := by simp [World.frozen?, q1]
    have c0 : W1.cell? ⟨w.heap.size, 0, none⟩ = some (.int .i64 0) := by simp [World.cell?, q0]
    have c1 : W1.cell? ⟨w.heap.size + 1, 0, none⟩ = some (.int .i64 0) := by simp [World.cell?, q1]
    go_wp2_with fail
    have r0 : ((W1.setCell ⟨w.heap.size, 0, none⟩ (.int .i64 0)).setCell ⟨w.heap.size + 1, 0, none⟩ (.int .i64 0)).heap[w.heap.size]? = some (.cells #[.int .i64 0] 3 (0, 0)) := (setCell_other (by omega)).trans ((setCell_at q0 0 _).trans rfl)
    have r1 : ((W1.setCell ⟨w.heap.size, 0, none⟩ (.int .i64 0)).setCell ⟨w.heap.size + 1, 0, none⟩ (.int .i64 0)).heap[w.heap.size + 1]? = some (.cells #[.int .i64 0] 34 (0, 0)) := (setCell_at ((setCell_other (by omega)).trans q1) 0 _).trans rfl
    have hbe : Below B w ((W1.setCell ⟨w.heap.size, 0, none⟩ (.int .i64 0)).setCell ⟨w.heap.size + 1, 0, none⟩ (.int .i64 0)) := (hbw.setCell (p := ⟨w.heap.size, 0, none⟩) hBw _).setCell (p := ⟨w.heap.size + 1, 0, none⟩) (by show B ≤ w.heap.size + 1; omega) _
    have hpe := hPost W1 ((W1.setCell ⟨w.heap.size, 0, none⟩ (.int .i64 0)).setCell ⟨w.heap.size + 1, 0, none⟩ (.int .i64 0)) (hpo (by first | rfl | trivial)) (fun k h1 h2 _ => (setCell_other h2).trans (setCell_other h1))
    generalize (W1.setCell ⟨w.heap.size, 0, none⟩ (.int .i64 0)).setCell ⟨w.heap.size + 1, 0, none⟩ (.int .i64 0) = W2 at *
    refine leaves_cons (f := 80) (args := #[.pointer (some ⟨w.heap.size, 0, none⟩), .pointer (some ⟨w.heap.size + 1, 0, none⟩)]) (by simp) (by simp [go_sem]) ?_
    refine (caught1_idle w.heap.size (w.heap.size + 1) _).mono ?_
    rintro e u' w'' ⟨rfl, rfl, rfl⟩
    have d0 : w''.cell? ⟨w.heap.size, 0, none⟩ = some (.int .i64 0) := by simp [World.cell?, r0]
    have d1 : w''.cell? ⟨w.heap.size + 1, 0, none⟩ = some (.int .i64 0) := by simp [World.cell?, r1]
    refine ⟨.tuple #[.int .i64 0, .int .i64 0], ?_, ⟨0, rfl⟩, hbe, hpe⟩
    simp [results, Tryz.results49, go_sem, d0, d1]
  case false =>
    obtain ⟨p, n, hn, he⟩ : ∃ p n, n ≠ 0 ∧ e = .panicked [cwrongV p n] := hP
    subst he
    refine leaves_cons (f := 80) (args := #[.pointer (some ⟨w.heap.size, 0, none⟩), .pointer (some ⟨w.heap.size + 1, 0, none⟩)]) (by simp) (by simp [go_sem]) ?_
    refine (caught1_panic p n w.heap.size (w.heap.size + 1) _ (by omega) q0 q1).mono ?_
    rintro e u' w'' ⟨rfl, rfl, r0, r1, hoff⟩
    have d0 : w''.cell? ⟨w.heap.size, 0, none⟩ = some (.int .i64 p) := by simp [World.cell?, r0]
    have d1 : w''.cell? ⟨w.heap.size + 1, 0, none⟩ = some (.int .i64 n) := by simp [World.cell?, r1]
    have hbe : Below B w w'' := hbw.trans (hoff.below.mono (by omega))
    refine ⟨.tuple #[.int .i64 p, .int .i64 n], ?_, ⟨p, n, rfl, by simp [hn]⟩, hbe, fun h => by cases h⟩
    simp [results, Tryz.results49, go_sem, d0, d1]
end Go.Proofs.YtffdfeekpfmbeaaGreat
/- The walk of cfg.Put around what writes: what is thrown is caught. -/
namespace Go.Proofs.YtffdfeekpfmbeaaGreat
open Go Go.RowKit Go.BigFrame

theorem OwnN.shift {W W' : World} {base : Nat} {v : Value} {n : Nat} (h : OwnN W base v n) (hk : ∀ k, v.ownBlock = some k → W'.heap[k]? = W.heap[k]?) : OwnN W' base v n := by
  obtain ⟨xs, ⟨hl, hc⟩, hone⟩ := h
  refine ⟨xs, ⟨hl, ?_⟩, hone⟩
  rcases hc with hc | ⟨g, cap, cur, rfl, h1, hg, hr⟩
  · exact .inl hc
  · exact .inr ⟨g, cap, cur, rfl, h1, (hk g rfl).trans hg, hr⟩
set_option maxRecDepth 100000 in
set_option maxHeartbeats 2000000 in
theorem put_of (ver : Int) (vg vc : Value) (hvg : ∃ a n c, vg = .slice a n c) (hvc : ∃ a n c, vc = .slice a n c) (t : Bool) (w : World)
    (hP : ∀ W : World, Below w.heap.size w W → Wr W (w.heap.size + 1) w.heap.size 0 (.slice none 0 0) → W.heap[w.heap.size]? = some (.cells #[.int .u32 ver, vg, vc] 31 (0, 0)) → W.heap[w.heap.size + 2]? = some (.cells #[.pointer (some ⟨w.heap.size + 1, 0, none⟩)] 111 (0, 0)) →
      Calls Tryz.prog 50 #[.pointer (some ⟨w.heap.size, 0, none⟩), .pointer (some ⟨w.heap.size + 2, 0, none⟩)] W fun e W' => PutE t (.tuple #[]) e ∧ (Below w.heap.size W W' ∧ ∀ k, w.heap.size + 2 ≤ k → k < W.heap.size → W'.heap[k]? = W.heap[k]?) ∧ (t = true → ∃ n v, Wr W' (w.heap.size + 1) w.heap.size n v ∧ ∀ k, v.ownBlock = some k → W.heap.size ≤ k)) :
    Calls Tryz.prog 23 #[.agg #[.int .u32 ver, vg, vc]] w fun e w' => (∃ v n, e = .returned (.tuple #[v, .int .i64 n]) ∧ (n = 0 ↔ t = true)) ∧ Below w.heap.size w w' := by
  obtain ⟨ag, ng, cg, rfl⟩ := hvg
  obtain ⟨ac, nc, cc, rfl⟩ := hvc
  have hmf : ∀ (fn : Fn) (first cap : Array Value) (w : World), (Instr.makeFunc fn first cap).run Tryz.prog w = .ok (.func fn first cap) w := fun _ _ _ _ => rfl
  obtain ⟨Wa, hWa⟩ : ∃ Wa, Wa = w.alloc (.cells #[.int .u32 ver, .slice ag ng cg, .slice ac nc cc] 31) := ⟨_, rfl⟩
  obtain ⟨Wb, hWb⟩ : ∃ Wb, Wb = Wa.alloc (.cells #[.slice none 0 0] 113) := ⟨_, rfl⟩
  obtain ⟨W0, hW0⟩ : ∃ W0, W0 = Wb.alloc (.cells #[.pointer (some ⟨w.heap.size + 1, 0, none⟩)] 111) := ⟨_, rfl⟩
  have ha : Below w.heap.size w Wa := by rw [hWa]; exact bone _ _
  have za : Wa.heap.size = w.heap.size + 1 := by rw [hWa]; simp
  have hb : Below Wa.heap.size Wa Wb := by rw [hWb]; exact bone _ _
  have zb : Wb.heap.size = w.heap.size + 2 := by rw [hWb]; simp [za]
  have hc : Below Wb.heap.size Wb W0 := by rw [hW0]; exact bone _ _
  have z0 : W0.heap.size = w.heap.size + 3 := by rw [hW0]; simp [zb]
  have k0 : W0.heap[w.heap.size]? = some (.cells #[.int .u32 ver, .slice ag ng cg, .slice ac nc cc] 31 (0, 0)) := by
    refine (hc.block _ (by omega)).trans ((hb.block _ (by omega)).trans ?_)
    rw [hWa]; exact World.alloc_heap_new w _
  have k1 : W0.heap[w.heap.size + 1]? = some (.cells #[.slice none 0 0] 113 (0, 0)) := by
    refine (hc.block _ (by omega)).trans ?_
    rw [hWb, ← za]; exact World.alloc_heap_new Wa _
  have k2 : W0.heap[w.heap.size + 2]? = some (.cells #[.pointer (some ⟨w.heap.size + 1, 0, none⟩)] 111 (0, 0)) := by
    rw [hW0, ← zb]; exact World.alloc_heap_new Wb _
  have hw0 : Below w.heap.size w W0 := (ha.trans (hb.mono (by omega))).trans (hc.mono (by omega))
  have heq : W0 = ((w.alloc (.cells #[.int .u32 ver, .slice ag ng cg, .slice ac nc cc] 31)).alloc (.cells #[.slice none 0 0] 113)).alloc (.cells #[.pointer (some ⟨w.heap.size + 1, 0, none⟩)] 111) := by rw [hW0, hWb, hWa]
  clear hW0 hWb hWa ha hb hc za zb
  clear Wa Wb
  have hcall : Calls Tryz.prog 49 #[.func (.func 50) #[] #[.pointer (some ⟨w.heap.size, 0, none⟩), .pointer (some ⟨w.heap.size + 1 + 1, 0, none⟩)]] W0 fun e w' => (∃ p n, e = .returned (.tuple #[.int .i64 p, .int .i64 n]) ∧ (n = 0 ↔ t = true)) ∧ Below w.heap.size W0 w' ∧ (t = true → ∃ n v, Wr w' (w.heap.size + 1) w.heap.size n v ∧ w'.heap[w.heap.size + 2]? = some (.cells #[.pointer (some ⟨w.heap.size + 1, 0, none⟩)] 111 (0, 0)) ∧ (v.ownBlock ≠ some W0.heap.size ∧ v.ownBlock ≠ some (W0.heap.size + 1))) := by
    refine caught_any 50 _ t W0 w.heap.size (by omega) _ (fun _ _ => rfl) ?_ ?_
    · intro W hW hz
      have hs : ∀ {k o}, W0.heap[k]? = some o → W.heap[k]? = some o := fun {k o} h => (hW.block k (Array.getElem?_eq_some_iff.1 h).1).trans h
      refine (hP W (hw0.trans (hW.mono (by omega))) ⟨hs k1, ⟨[], ⟨rfl, .inl ⟨rfl, rfl⟩⟩, by simp⟩⟩ (hs k0) (hs k2)).mono ?_
      rintro e W' ⟨h1, ⟨h2, h3⟩, h4⟩
      refine ⟨h1, ⟨h2, h3 _ (by omega) (by omega), h3 _ (by omega) (by omega)⟩, fun ht => ?_⟩
      obtain ⟨n, v, h5, h6⟩ := h4 ht
      refine ⟨n, v, h5, (h3 _ (by omega) (by omega)).trans (hs k2), fun h => ?_, fun h => ?_⟩
      · have := h6 _ h; omega
      · have := h6 _ h; omega
    · rintro W W' ⟨n, v, h1, h2, h3, h4⟩ hk
      refine ⟨n, v, ⟨(hk _ (by omega) (by omega) h1.lt).trans h1.blk, h1.own.shift fun k hv => hk k (fun e => h3 (by rw [← e]; exact hv)) (fun e => h4 (by rw [← e]; exact hv)) (h1.own.lt k hv).2⟩, (hk _ (by omega) (by omega) (Array.getElem?_eq_some_iff.1 h2).1).trans h2, h3, h4⟩
  replace heq := Lib.hid heq
  replace k0 := Lib.hid k0
  replace k1 := Lib.hid k1
  replace k2 := Lib.hid k2
  replace z0 := Lib.hid z0
  clear hP
  go_enter Tryz.func23, Tryz.ntmps23
  go_wp2_with fail
  rw [← heq.out]
  clear heq
  refine hcall.mono ?_; rintro e W1 ⟨⟨p, n, rfl, hn⟩, hb1, hpo⟩
  have hbw := hw0.trans hb1
  by_cases hz : n = 0
  · have ht := hn.1 hz
    obtain ⟨m, v, h1, h2, -, -⟩ := hpo ht
    have c1 : W1.cell? ⟨w.heap.size + 2, 0, none⟩ = some (.pointer (some ⟨w.heap.size + 1, 0, none⟩)) := by simp [World.cell?, h2]
    have c2 := h1.cell
    subst hz
    clear hn
    go_wp2_with fail
    exact bodyPost_ret (v := .tuple #[v, .int .i64 0]) (by simp [results, Tryz.results23, go_sem]) rfl ⟨⟨v, 0, rfl, by simp [ht]⟩, hbw⟩
  · replace hn := Lib.hid hn
    go_wp2_with fail
    exact bodyPost_ret (v := .tuple #[.slice none 0 0, .int .i64 n]) (by simp [results, Tryz.results23, go_sem]) rfl ⟨⟨_, n, rfl, hn.out⟩, hbw⟩
end Go.Proofs.YtffdfeekpfmbeaaGreat
