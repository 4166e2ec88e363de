/- The program's places of tables; the reference's list of numbers. -/
import Derived.ControlIn
import Derived.WalkArith
import Derived.Test.YtiblhlaemmdphaaGreatTableBuildsP15
import Derived.Test.YtiblhlaemmdphaaGreatTableBuildsP18
import Derived.Test.YtiblhlaemmdphaaGreatTableBuildsP37
namespace Go.Proofs.YtiblhlaemmdphaaGreat
open Go Go.RowKit Go.BigFrame
theorem keyOf_two {P : Program} {T : TypeId} {f1 f2 : Field} {x y : Int} (hT : P.underlying T = some (.struct #[f1, f2])) (hk : P.keyType T = true) (hc : P.cellsOf T = 2) (h1 : P.underlying f1.type = some (.int .i64)) (h2 : P.underlying f2.type = some (.int .u64))
  (c1 : P.cellsOf f1.type = 1) (c2 : P.cellsOf f2.type = 1) (o1 : f1.offset = 0) (o2 : f2.offset = 1) (n1 : (f1.name != "_") = true) (n2 : (f2.name != "_") = true) (hs : 0 < P.types.size) (w1 : (Lit.int .i64 x).wf = true) (w2 : (Lit.int .u64 y).wf = true) :
  ∃ l, keyOf P T (.agg #[.int .i64 x, .int .u64 y]) = some l := by
 obtain ⟨d, hd⟩ : ∃ d, P.types.size = d + 1 := ⟨P.types.size - 1, by omega⟩
 have hf : (Value.agg #[.int .i64 x, .int .u64 y]).formed P T = true := by simp [Value.formed, hT, hc]
 have e1 : P.keyLits (d + 1) f1.type [.int .i64 x] = some [.int .i64 x] := by
  unfold Program.keyLits; simp only [h1]; simp [w1]
 have e2 : P.keyLits (d + 1) f2.type [.int .u64 y] = some [.int .u64 y] := by
  unfold Program.keyLits; simp only [h2]; simp [w2]
 have hl : P.keyLits (d + 1 + 1) T [.int .i64 x, .int .u64 y] = some [.int .i64 x, .int .u64 y] := by
  unfold Program.keyLits
  simp only [hT]
  have hn : (#[f1, f2] : Array Field).all (·.name != "_") = true := by simp at n1 n2; simp [n1, n2]
  rw [if_pos ⟨by simp [hc], hn⟩]
  simp [o1, o2, c1, c2, e1, e2]
 unfold keyOf
 simp only [hT]
 rw [hk, hf, hd]
 exact ⟨_, by simp only [Bool.and_self, if_true]; show Option.map _ (P.keyLits (d + 1 + 1) T [.int .i64 x, .int .u64 y]) = _; rw [hl]; rfl⟩
theorem place_key (p : Int × Int) (h1 : p.1 = 2 ∨ p.1 = 3) (h2 : W64 p.2) : ∃ l, keyOf Tryz.prog 107 (placeV p) = some l := by
 obtain ⟨a, b⟩ := h2
 exact keyOf_two Tryz.underlying107 (by kernel_rfl) (by kernel_rfl) Tryz.underlying3 Tryz.underlying26 (by kernel_rfl) (by kernel_rfl) rfl rfl (by decide) (by decide) (of_decide_eq_true (by kernel_rfl)) (WalkArith.wf_i64 (by omega)) (WalkArith.wf_u64 (by omega))
set_option maxHeartbeats 1000000 in
theorem above_any (y : M5) (k : Int) (w : World) (hk : k = 2 ∨ k = 3) : Calls Tryz.prog 45 #[.agg #[.int .u64 y.ipa, .int .u64 y.pa, .int .u64 y.sz, .int .i64 y.perm, .int .i64 y.kind], .int .i64 k] w fun e w' => e = .returned (placeV (k, y.ipa / szK (k - 1))) ∧ Below w.heap.size w w' := by
 have hs : ∀ W, Calls Tryz.prog 55 #[.int .i64 (k - 1)] W fun e w' => e = .returned (.int .u64 (szK (k - 1))) ∧ Below W.heap.size W w' := fun W => (sizeK_any (k - 1) W (by omega)).mono fun e w' ⟨h, e2⟩ => ⟨h, by subst e2; exact Below.refl _ _⟩
 have hwk : IntKind.i64.wrap (k - 1) = k - 1 := by rw [IntKind.wrap_i64]; omega
 have hsz : 0 < szK (k - 1) ∧ ¬ szK (k - 1) = 0 := by rcases hk with rfl | rfl <;> decide
 have hq : IntKind.u64.wrap (y.ipa.tdiv (szK (k - 1))) = y.ipa / szK (k - 1) := by
  have h0 := y.hi.1
  have h1 := y.hi.2
  rw [Int.tdiv_eq_ediv_of_nonneg h0, IntKind.wrap_u64]
  have := Int.ediv_nonneg h0 (Int.le_of_lt hsz.1)
  have := Int.ediv_le_self (szK (k - 1)) h0
  omega
 obtain ⟨hs0, hs1⟩ := hsz
 obtain ⟨m0, m1, m2, m3, m4⟩ := five_new w (.int .u64 y.ipa) (.int .u64 y.pa) (.int .u64 y.sz) (.int .i64 y.perm) (.int .i64 y.kind) 59
 have c0 := cell_lt (bone (w.alloc (.cells #[.int .u64 y.ipa, .int .u64 y.pa, .int .u64 y.sz, .int .i64 y.perm, .int .i64 y.kind] 59)) (.cells #[.int .i64 0, .int .u64 0] 107)) m0 (by simp)
 clear m0 m1 m2 m3 m4
 generalize szK (k - 1) = S at *
 go_enter Tryz.func45, Tryz.ntmps45
 go_wp2_with fail
 have hz : ((w.alloc (.cells #[.int .u64 y.ipa, .int .u64 y.pa, .int .u64 y.sz, .int .i64 y.perm, .int .i64 y.kind] 59)).alloc (.cells #[.int .i64 0, .int .u64 0] 107)).heap.size = w.heap.size + 2 := by simp
 have hb0 : Below w.heap.size w ((w.alloc (.cells #[.int .u64 y.ipa, .int .u64 y.pa, .int .u64 y.sz, .int .i64 y.perm, .int .i64 y.kind] 59)).alloc (.cells #[.int .i64 0, .int .u64 0] 107)) := ((Below.refl _ w).alloc (Nat.le_refl _) _).alloc (by simp) _
 have hx0 : ((w.alloc (.cells #[.int .u64 y.ipa, .int .u64 y.pa, .int .u64 y.sz, .int .i64 y.perm, .int .i64 y.kind] 59)).alloc (.cells #[.int .i64 0, .int .u64 0] 107)).heap[w.heap.size + 1]? = some (.cells #[.int .i64 0, .int .u64 0] 107 (0, 0)) := by
  have := World.alloc_heap_new (w.alloc (.cells #[.int .u64 y.ipa, .int .u64 y.pa, .int .u64 y.sz, .int .i64 y.perm, .int .i64 y.kind] 59)) (.cells #[.int .i64 0, .int .u64 0] 107)
  rwa [World.size_alloc] at this
 generalize (w.alloc (.cells #[.int .u64 y.ipa, .int .u64 y.pa, .int .u64 y.sz, .int .i64 y.perm, .int .i64 y.kind] 59)).alloc (.cells #[.int .i64 0, .int .u64 0] 107) = w0 at *
 replace hz := Lib.hid hz
 refine (wpIn_wide (n := 9)).1 ?_
 refine region_later_tail_in w0.heap.size w0 8 (Below.refl _ _) rfl (by kernel_rfl) (by kernel_rfl) ?_
 have y0 := later_cell (B := w0.heap.size) c0 (by have := hz.out; omega)
 simp only [List.take_succ_cons, List.take_zero, List.drop_succ_cons, List.drop_zero]
 repeat (refine wpQuietIn_step (fun _ _ _ _ => trivial) (fun K hK => ?_); go_simp; first | (refine hK _ ?_; clear hK K) | (apply Exists.intro; refine ⟨fun _ => ?_, hK _ ?_⟩; (first | (gi_at_call 55; exact quiet_later_in (Nat.le_refl _) (callsIn_wide.2 (hs _)))); clear hK K))
 refine wpQuietIn_nil ?_
 first | (rintro _ ⟨X, rfl⟩) | (intro X)
 have hX := X.h
 clear y0
 generalize X.x = w3 at *
 have hx3 := (hX.block (w.heap.size + 1) (by have := hz.out; omega)).trans hx0
 have e0 : w3.cell? ⟨w.heap.size + 1, 0, none⟩ = some (.int .i64 0) := by simp [World.cell?, hx3]
 have e1 : w3.cell? ⟨w.heap.size + 1, 1, none⟩ = some (.int .u64 0) := by simp [World.cell?, hx3]
 have f0 : ∀ o, w3.frozen? ⟨w.heap.size + 1, o, none⟩ = false := fun o => by simp [World.frozen?, hx3]
 have g0 := f0 0
 have g1 := f0 1
 gi_wp2
 go_wp2_with fail
 refine bodyPost_ret (v := placeV (k, y.ipa / S)) (by simp [results, Tryz.results45, go_sem, placeV, e0, e1]) rfl ?_
 exact ⟨rfl, ((hb0.trans (hX.mono (by have := hz.out; omega))).setCell (by simp) _).setCell (by simp) _⟩
end Go.Proofs.YtiblhlaemmdphaaGreat
