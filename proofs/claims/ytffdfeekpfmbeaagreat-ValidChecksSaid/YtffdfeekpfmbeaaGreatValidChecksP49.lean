/- The small configuration, built. -/
import Derived.Test.YtffdfeekpfmbeaaGreatValidChecksP30
import Derived.Test.YtffdfeekpfmbeaaGreatValidChecksP43
import Derived.Test.YtffdfeekpfmbeaaGreatValidChecksP48
namespace Go.Proofs.YtffdfeekpfmbeaaGreat
open Go Go.RowKit Go.BigFrame

def gName1 : ByteArray := ⟨#[111, 110, 101]⟩
def gName2 : ByteArray := ⟨#[116, 119, 111]⟩
theorem row_ne {W : World} {b g : Nat} {cs c : Array Value} {T T' : TypeId} {f f' : Nat × Nat} (h1 : W.heap[b]? = some (.cells cs T f)) (h2 : W.heap[g]? = some (.cells c T' f')) (hne : T ≠ T') : b ≠ g := fun e => by
  subst e
  rw [h2] at h1
  injection h1 with h1
  injection h1 with _ h1
  exact hne h1.symm
/-- A slice is built, its run known. -/
theorem wpl_build_slice {P : Program} {ops : Array Oper} {rest : List Oper} {o : Oper} {a : Act} {w : World} {Q : Exit → Act → World → Prop} (hgd : o.guard = none) (t : TypeId) (n : Nat) (ps : Array (Nat × Operand)) (ho : o.op = .buildSlice t n ps) (parts : Array (Nat × Value)) (hp : (ps.map fun (i, x) => (i, a.eval x)) = parts) (v : Value) (w' : World)
    (hr : (Instr.buildSlice t n parts).run P w = .ok v w') (h : wpList P ops Q rest (a.put o.dst v) w') : wpList P ops Q (o :: rest) a w := by
  refine wpList_plain hgd fun K hK => ?_
  unfold Oper.wp execOp
  simp only [ho, hp, Sem.run_bind, hr, Result.andThen_ok, Sem.run_pure]
  exact hK _ _ h
theorem small_rows (s1 s2 : ByteArray) (f : Fin 68 → Int) (a b c d e g : Nat) (W : World) :
    (Instr.buildSlice 28 2 #[(0, .agg (smallC s1 0 (List.ofFn f) a b c).toArray), (1, .agg (smallC s2 1 (List.ofFn f) d e g).toArray)]).run Tryz.prog W = .ok (.slice (some ⟨W.heap.size, 0, none⟩) 2 2) (W.alloc (.cells (smallC s1 0 (List.ofFn f) a b c ++ smallC s2 1 (List.ofFn f) d e g).toArray 50)) := by
  kernel_rfl
theorem small_res {V : World} {g4 g5 : Nat} {c4 c5 : Array Value} {tmps : Array Value} (k4 : V.heap[g4]? = some (.cells c4 26 (0, 0))) (k5 : V.heap[g5]? = some (.cells c5 31 (0, 0))) (h4 : tmps.getD 4 undef = .pointer (some ⟨g4, 0, none⟩)) (h5 : tmps.getD 5 undef = .pointer (some ⟨g5, 0, none⟩)) (s4 : (Tryz.prog.info? 26).map (·.size) = some c4.size := by kernel_rfl) (s5 : (Tryz.prog.info? 31).map (·.size) = some c5.size := by kernel_rfl) :
    (results Tryz.f8 tmps).run Tryz.prog V = .ok (.tuple #[.agg c4, .agg c5]) V := by
  have h : Tryz.f8.results = #[.cell 4 26, .cell 5 31] := by kernel_rfl
  have h4' : tmps[4]?.getD undef = .pointer (some ⟨g4, 0, none⟩) := by simpa using h4
  have h5' : tmps[5]?.getD undef = .pointer (some ⟨g5, 0, none⟩) := by simpa using h5
  simp [results, h4', h5', asAddr, run_loadVar_row V g4 _ _ c4 _ _ k4 Tryz.underlying26 rfl s4, run_loadVar_row V g5 _ _ c5 _ _ k5 Tryz.underlying31 rfl s5]
/-- Where the small configuration lies. -/
structure SmW (W : World) (f : Fin 68 → Int) (p : Int) (bw1 bi1 bs1 bw2 bi2 bs2 bg bc : Nat) : Prop where
  g1 : SmG W 0 1074790400 bw1 bi1 bs1
  g2 : SmG W 1 1075838976 bw2 bi2 bs2
  kg : W.heap[bg]? = some (.cells (smallC gName1 0 (List.ofFn f) bw1 bi1 bs1 ++ smallC gName2 1 (List.ofFn f) bw2 bi2 bs2).toArray 50 (0, 0))
  kc : W.heap[bc]? = some (.cells #[.int .u64 1107296256, .int .u64 (p * 4096), .int .i64 0, .int .i64 3, .int .u64 268435456, .int .i64 1, .int .i64 1, .int .u64 536870912] 76 (0, 0))
set_option maxRecDepth 100000 in
set_option maxHeartbeats 16000000 in
theorem small17_any (p : Int) (hp0 : 0 ≤ p) (hp1 : p ≤ 64) (f : Fin 68 → Int) (w : World) :
    Calls Tryz.prog 8 #[.int .u64 p, .agg ((List.ofFn f).map (Value.int .u8)).toArray] w fun e w' => ∃ bw1 bi1 bs1 bw2 bi2 bs2 bg bc, e = .returned (.tuple #[.agg #[.int .u64 1073741824, .int .u64 134217728, .int .u64 1073741824, .int .u64 1048576, .int .i64 64, .int .i64 8, .int .i64 4], .agg #[.int .u32 1, .slice (some ⟨bg, 0, none⟩) 2 2, .slice (some ⟨bc, 0, none⟩) 1 1]]) ∧ SmW w' f p bw1 bi1 bs1 bw2 bi2 bs2 bg bc ∧ w.heap.size ≤ bw2 ∧ Below w.heap.size w w' := by
  have hg1 := fun W => guest17_any ⟨#[111, 110, 101]⟩ 0 0 (.inl ⟨rfl, rfl⟩) 1074790400 (List.ofFn f) (by simp) W
  have hg2 := fun W => guest17_any ⟨#[116, 119, 111]⟩ 1 1 (.inr ⟨rfl, rfl⟩) 1075838976 (List.ofFn f) (by simp) W
  obtain ⟨KA, hKA⟩ : ∃ KA, KA = ((List.ofFn f).map (Value.int .u8)).toArray := ⟨_, rfl⟩
  have hKs : KA.size = 68 := by rw [hKA]; simp
  rw [← hKA]
  rw [← hKA] at hg1 hg2
  obtain ⟨A1, e1, z1, k1, b1⟩ := one_new w (.cells KA 40)
  obtain ⟨A2, e2, z2, k4, b2⟩ := one_new A1 (.cells #[.int .u64 0, .int .u64 0, .int .u64 0, .int .u64 0, .int .i64 0, .int .i64 0, .int .i64 0] 26)
  obtain ⟨A3, e3, z3, k5, b3⟩ := one_new A2 (.cells #[.int .u32 0, .slice none 0 0, .slice none 0 0] 31)
  obtain ⟨A4, e4, z4, k6, b4⟩ := one_new A3 (.cells #[.int .u64 1073741824, .int .u64 134217728, .int .u64 1073741824, .int .u64 1048576, .int .i64 64, .int .i64 8, .int .i64 4] 26)
  obtain ⟨W1, e5, z5, k7, b5⟩ := one_new A4 (.cells #[.int .u64 1107296256, .int .u64 (p * 4096), .int .i64 0, .int .i64 3, .int .u64 268435456, .int .i64 1, .int .i64 1, .int .u64 536870912] 76)
  replace k1 := k1 _ _ rfl
  replace k4 := k4 _ _ rfl
  replace k5 := k5 _ _ rfl
  replace k6 := k6 _ _ rfl
  replace k7 := k7 _ _ rfl
  rw [z1] at k4
  rw [z2, z1] at k5
  rw [z3, z2, z1] at k6
  rw [z4, z3, z2, z1] at k7
  have kK := (b5.block _ (by omega)).trans ((b4.block _ (by omega)).trans ((b3.block _ (by omega)).trans ((b2.block _ (by omega)).trans k1)))
  replace k4 := (b5.block _ (by omega)).trans ((b4.block _ (by omega)).trans ((b3.block _ (by omega)).trans k4))
  replace k5 := (b5.block _ (by omega)).trans ((b4.block _ (by omega)).trans k5)
  replace k6 := (b5.block _ (by omega)).trans k6
  have hb1 : Below w.heap.size w W1 := bthen (bthen (bthen (bthen b1 b2) b3) b4) b5
  have hz1 : W1.heap.size = w.heap.size + 5 := by omega
  clear k1 b1 b2 b3 b4 b5 z1 z2 z3 z4 z5
  have he : W1 = ((((w.alloc (.cells KA 40)).alloc (.cells #[.int .u64 0, .int .u64 0, .int .u64 0, .int .u64 0, .int .i64 0, .int .i64 0, .int .i64 0] 26)).alloc (.cells #[.int .u32 0, .slice none 0 0, .slice none 0 0] 31)).alloc (.cells #[.int .u64 1073741824, .int .u64 134217728, .int .u64 1073741824, .int .u64 1048576, .int .i64 64, .int .i64 8, .int .i64 4] 26)).alloc (.cells #[.int .u64 1107296256, .int .u64 (p * 4096), .int .i64 0, .int .i64 3, .int .u64 268435456, .int .i64 1, .int .i64 1, .int .u64 536870912] 76) := by rw [e5, e4, e3, e2, e1]
  clear e1 e2 e3 e4 e5 A1 A2 A3 A4
  replace he := Lib.hid he
  replace hKA := Lib.hid hKA
  replace hKs := Lib.hid hKs
  replace hz1 := Lib.hid hz1
  replace hg1 := Lib.hid hg1
  replace hg2 := Lib.hid hg2
  go_enter Tryz.func8, Tryz.ntmps8
  go_upto_region 3 with fail
  rw [← he.out]
  clear he
  have hsz : p * 4096 = p * 4096 := rfl
  clear hsz
  obtain ⟨hf, hfe⟩ : ∃ hf : Nat → Prop, hf = fun b => b = w.heap.size ∨ b = w.heap.size + 1 + 1 + 1 ∨ b = w.heap.size + 1 + 1 + 1 + 1 := ⟨_, rfl⟩
  have hf1 : hf w.heap.size := by rw [hfe]; exact .inl rfl
  have hf2 : hf (w.heap.size + 1 + 1 + 1) := by rw [hfe]; exact .inr (.inl rfl)
  have hf3 : hf (w.heap.size + 1 + 1 + 1 + 1) := by rw [hfe]; exact .inr (.inr rfl)
  have hfz : ∀ b, hf b → b < w.heap.size + 5 := fun b hb => by rw [hfe] at hb; rcases hb with h | h | h <;> omega
  have hfn : ∀ b, hf b → b ≠ w.heap.size + 1 ∧ b ≠ w.heap.size + 1 + 1 := fun b hb => by rw [hfe] at hb; rcases hb with h | h | h <;> omega
  clear hfe
  have yK : ∀ X : HeldF hf W1, (Instr.loadAt 40 (.pointer (some ⟨w.heap.size, 0, none⟩))).run Tryz.prog X.x = .ok (.agg KA) X.x := fun X => by
    have h := run_loadAt_mid (P := Tryz.prog) X.x w.heap.size 0 40 KA.toList _ (fun j v hv => by
      simp only [World.cell?, X.h _ hf1, kK]
      simpa using hv) Tryz.underlying40 rfl (by rw [Array.length_toList, hKs.out]; kernel_rfl)
    rwa [Array.toArray_toList] at h
  have yB : ∀ X : HeldF hf W1, (Instr.loadAt 26 (.pointer (some ⟨w.heap.size + 1 + 1 + 1, 0, none⟩))).run Tryz.prog X.x = .ok (.agg #[.int .u64 1073741824, .int .u64 134217728, .int .u64 1073741824, .int .u64 1048576, .int .i64 64, .int .i64 8, .int .i64 4]) X.x := fun X =>
    run_loadAt_mid (P := Tryz.prog) X.x (w.heap.size + 1 + 1 + 1) 0 26 [.int .u64 1073741824, .int .u64 134217728, .int .u64 1073741824, .int .u64 1048576, .int .i64 64, .int .i64 8, .int .i64 4] _ (fun j v hv => by
      simp only [World.cell?, X.h _ hf2, k6]
      simpa using hv) Tryz.underlying26 rfl (by kernel_rfl)
  have yC : ∀ X : HeldF hf W1, (Instr.loadAt 76 (.pointer (some ⟨w.heap.size + 1 + 1 + 1 + 1, 0, none⟩))).run Tryz.prog X.x = .ok (.agg #[.int .u64 1107296256, .int .u64 (p * 4096), .int .i64 0, .int .i64 3, .int .u64 268435456, .int .i64 1, .int .i64 1, .int .u64 536870912]) X.x := fun X =>
    run_loadAt_mid (P := Tryz.prog) X.x (w.heap.size + 1 + 1 + 1 + 1) 0 76 [.int .u64 1107296256, .int .u64 (p * 4096), .int .i64 0, .int .i64 3, .int .u64 268435456, .int .i64 1, .int .i64 1, .int .u64 536870912] _ (fun j v hv => by
      simp only [World.cell?, X.h _ hf3, k7]
      simpa using hv) Tryz.underlying76 rfl (by kernel_rfl)
  refine region_tree (fun z => ∃ X : HeldF hf W1, z = X.x) (by kernel_rfl) ?_
  obtain ⟨X, hXe⟩ : ∃ X, X = W1.drew := ⟨_, rfl⟩
  rw [← hXe]
  have hX : ∀ b, hf b → X.heap[b]? = W1.heap[b]? := fun b _ => by rw [hXe]; rfl
  have dX : Below w.heap.size w X := by rw [hXe]; exact hb1.drew
  have zX : w.heap.size + 5 ≤ X.heap.size := by rw [hXe]; exact Nat.le_of_eq hz1.out.symm
  replace k4 := (show X.heap[w.heap.size + 1]? = W1.heap[w.heap.size + 1]? by rw [hXe]; rfl).trans k4
  replace k5 := (show X.heap[w.heap.size + 1 + 1]? = W1.heap[w.heap.size + 1 + 1]? by rw [hXe]; rfl).trans k5
  clear hXe hb1 kK k6 k7
  replace hfz := Lib.hid hfz
  replace hfn := Lib.hid hfn
  refine tree_step [0, 1, 3, 6] [2, 7] 6 (by kernel_rfl) (fun _ _ d _ _ h => by cases d <;> exact h) (by kernel_rfl) (by simp) rfl ⟨⟨X, hX⟩, rfl⟩ ?_
  simp only [List.filterMap_cons, List.filterMap_nil, List.getElem?_cons_succ, List.getElem?_cons_zero]
  refine wpQuiet_load rfl 26 _ rfl (.pointer (some ⟨w.heap.size + 1 + 1 + 1, 0, none⟩)) (.agg #[.int .u64 1073741824, .int .u64 134217728, .int .u64 1073741824, .int .u64 1048576, .int .i64 64, .int .i64 8, .int .i64 4]) rfl (fun w2 hw2 => by obtain ⟨X, rfl⟩ := hw2; exact yB X) ?_; simp only [Act.put, List.setIfInBounds_toArray, List.set_cons_succ, List.set_cons_zero]
  refine wpQuiet_load rfl 40 _ rfl (.pointer (some ⟨w.heap.size, 0, none⟩)) (.agg KA) rfl (fun w2 hw2 => by obtain ⟨X, rfl⟩ := hw2; exact yK X) ?_; simp only [Act.put, List.setIfInBounds_toArray, List.set_cons_succ, List.set_cons_zero]
  refine wpQuiet_load rfl 40 _ rfl (.pointer (some ⟨w.heap.size, 0, none⟩)) (.agg KA) rfl (fun w2 hw2 => by obtain ⟨X, rfl⟩ := hw2; exact yK X) ?_; simp only [Act.put, List.setIfInBounds_toArray, List.set_cons_succ, List.set_cons_zero]
  refine wpQuiet_load rfl 76 _ rfl (.pointer (some ⟨w.heap.size + 1 + 1 + 1 + 1, 0, none⟩)) (.agg #[.int .u64 1107296256, .int .u64 (p * 4096), .int .i64 0, .int .i64 3, .int .u64 268435456, .int .i64 1, .int .i64 1, .int .u64 536870912]) rfl (fun w2 hw2 => by obtain ⟨X, rfl⟩ := hw2; exact yC X) ?_; simp only [Act.put, List.setIfInBounds_toArray, List.set_cons_succ, List.set_cons_zero]
  refine wpQuiet_nil ?_
  intro i hi Q₁ hQ₁ hQp
  obtain rfl | rfl := mem2 hi
  · simp only [List.getElem?_cons_succ, List.getElem?_cons_zero, Option.toList]
    go_wp2_with fail
    refine (hg1.out X).mono ?_; rintro e Xa ⟨bw1, bi1, bs1, rfl, ⟨kw1, ki1, ks1⟩, lb1, bXa⟩
    replace lb1 : w.heap.size ≤ bw1 := by omega
    replace k4 := (bXa.block _ (Array.getElem?_eq_some_iff.1 k4).1).trans k4
    replace k5 := (bXa.block _ (Array.getElem?_eq_some_iff.1 k5).1).trans k5
    have hXa : ∀ b, hf b → Xa.heap[b]? = W1.heap[b]? := fun b hb => (bXa.block b (by have := hfz.out b hb; have := zX; omega)).trans (hX b hb)
    have zXa : w.heap.size + 5 ≤ Xa.heap.size := Nat.le_trans zX bXa.size
    have dXa := dX.trans (bXa.mono (by omega))
    go_wp2_with fail
    refine hQ₁ _ _ ⟨⟨Xa, hXa⟩, rfl⟩ ?_
    clear hQ₁ hQp Q₁
    refine tree_step [] [4, 7] 5 (by kernel_rfl) (fun _ _ d _ _ h => by cases d <;> exact h) (by kernel_rfl) (by simp) rfl ⟨⟨Xa, hXa⟩, rfl⟩ ?_
    simp only [List.filterMap_nil]
    refine wpQuiet_nil ?_
    intro i hi Q₁ hQ₁ hQp
    obtain rfl | rfl := mem2 hi
    · simp only [List.getElem?_cons_succ, List.getElem?_cons_zero, Option.toList]
      go_wp2_with fail
      refine (hg2.out Xa).mono ?_; rintro e Xab ⟨bw2, bi2, bs2, rfl, ⟨kw2, ki2, ks2⟩, lb2, bXab⟩
      replace lb2 : w.heap.size ≤ bw2 := by omega
      replace k4 := (bXab.block _ (Array.getElem?_eq_some_iff.1 k4).1).trans k4
      replace k5 := (bXab.block _ (Array.getElem?_eq_some_iff.1 k5).1).trans k5
      replace kw1 := (bXab.block _ (Array.getElem?_eq_some_iff.1 kw1).1).trans kw1
      replace ki1 := (bXab.block _ (Array.getElem?_eq_some_iff.1 ki1).1).trans ki1
      replace ks1 := (bXab.block _ (Array.getElem?_eq_some_iff.1 ks1).1).trans ks1
      have hXab : ∀ b, hf b → Xab.heap[b]? = W1.heap[b]? := fun b hb => (bXab.block b (by have := hfz.out b hb; have := zXa; omega)).trans (hXa b hb)
      have zXab : w.heap.size + 5 ≤ Xab.heap.size := Nat.le_trans zXa bXab.size
      have dXab := dXa.trans (bXab.mono (by omega))
      go_wp2_with fail
      refine hQ₁ _ _ ⟨⟨Xab, hXab⟩, rfl⟩ ?_
      clear hQ₁ hQp Q₁
      refine tree_step [] [5, 7, 9] 4 (by kernel_rfl) (fun _ _ d _ _ h => by cases d <;> exact h) (by kernel_rfl) (by simp) rfl ⟨⟨Xab, hXab⟩, rfl⟩ ?_
      simp only [List.filterMap_nil]
      refine wpQuiet_nil ?_
      intro i hi Q₁ hQ₁ hQp
      obtain rfl | rfl | rfl := mem3 hi
      · simp only [List.getElem?_cons_succ, List.getElem?_cons_zero, Option.toList]
        obtain ⟨Xabg, eXabg, sXabg, kg, bXabg⟩ := one_new Xab (.cells (smallC ⟨#[111, 110, 101]⟩ 0 (List.ofFn f) bw1 bi1 bs1 ++ smallC ⟨#[116, 119, 111]⟩ 1 (List.ofFn f) bw2 bi2 bs2).toArray 50)
        replace kg := kg _ _ rfl
        replace k4 := (bXabg.block _ (Array.getElem?_eq_some_iff.1 k4).1).trans k4
        replace k5 := (bXabg.block _ (Array.getElem?_eq_some_iff.1 k5).1).trans k5
        replace kw1 := (bXabg.block _ (Array.getElem?_eq_some_iff.1 kw1).1).trans kw1
        replace ki1 := (bXabg.block _ (Array.getElem?_eq_some_iff.1 ki1).1).trans ki1
        replace ks1 := (bXabg.block _ (Array.getElem?_eq_some_iff.1 ks1).1).trans ks1
        replace kw2 := (bXabg.block _ (Array.getElem?_eq_some_iff.1 kw2).1).trans kw2
        replace ki2 := (bXabg.block _ (Array.getElem?_eq_some_iff.1 ki2).1).trans ki2
        replace ks2 := (bXabg.block _ (Array.getElem?_eq_some_iff.1 ks2).1).trans ks2
        have hXabg : ∀ b, hf b → Xabg.heap[b]? = W1.heap[b]? := fun b hb => (bXabg.block b (by have := hfz.out b hb; have := zXab; omega)).trans (hXab b hb)
        have zXabg : w.heap.size + 5 ≤ Xabg.heap.size := Nat.le_trans zXab bXabg.size
        have dXabg := dXab.trans (bXabg.mono (by omega))
        clear sXabg
        refine wpl_build_slice rfl 28 2 _ rfl #[(0, .agg (smallC ⟨#[111, 110, 101]⟩ 0 (List.ofFn f) bw1 bi1 bs1).toArray), (1, .agg (smallC ⟨#[116, 119, 111]⟩ 1 (List.ofFn f) bw2 bi2 bs2).toArray)] (by simp [Act.eval]) _ _ (small_rows _ _ f _ _ _ _ _ _ Xab) ?_
        refine wpList_nil ?_
        simp only [Act.put, List.setIfInBounds_toArray, List.set_cons_succ, List.set_cons_zero]
        rw [← eXabg]
        clear eXabg
        refine hQ₁ _ _ ⟨⟨Xabg, hXabg⟩, rfl⟩ ?_
        clear hQ₁ hQp Q₁
        refine tree_step [] [7, 9] 3 (by kernel_rfl) (fun _ _ d _ _ h => by cases d <;> exact h) (by kernel_rfl) (by simp) rfl ⟨⟨Xabg, hXabg⟩, rfl⟩ ?_
        simp only [List.filterMap_nil]
        refine wpQuiet_nil ?_
        intro i hi Q₁ hQ₁ hQp
        obtain rfl | rfl := mem2 hi
        · simp only [List.getElem?_cons_succ, List.getElem?_cons_zero, Option.toList]
          obtain ⟨Xabgc, eXabgc, sXabgc, kc, bXabgc⟩ := one_new Xabg (.cells #[.int .u64 1107296256, .int .u64 (p * 4096), .int .i64 0, .int .i64 3, .int .u64 268435456, .int .i64 1, .int .i64 1, .int .u64 536870912] 76)
          replace kc := kc _ _ rfl
          replace k4 := (bXabgc.block _ (Array.getElem?_eq_some_iff.1 k4).1).trans k4
          replace k5 := (bXabgc.block _ (Array.getElem?_eq_some_iff.1 k5).1).trans k5
          replace kw1 := (bXabgc.block _ (Array.getElem?_eq_some_iff.1 kw1).1).trans kw1
          replace ki1 := (bXabgc.block _ (Array.getElem?_eq_some_iff.1 ki1).1).trans ki1
          replace ks1 := (bXabgc.block _ (Array.getElem?_eq_some_iff.1 ks1).1).trans ks1
          replace kw2 := (bXabgc.block _ (Array.getElem?_eq_some_iff.1 kw2).1).trans kw2
          replace ki2 := (bXabgc.block _ (Array.getElem?_eq_some_iff.1 ki2).1).trans ki2
          replace ks2 := (bXabgc.block _ (Array.getElem?_eq_some_iff.1 ks2).1).trans ks2
          replace kg := (bXabgc.block _ (Array.getElem?_eq_some_iff.1 kg).1).trans kg
          have hXabgc : ∀ b, hf b → Xabgc.heap[b]? = W1.heap[b]? := fun b hb => (bXabgc.block b (by have := hfz.out b hb; have := zXabg; omega)).trans (hXabg b hb)
          have zXabgc : w.heap.size + 5 ≤ Xabgc.heap.size := Nat.le_trans zXabg bXabgc.size
          have dXabgc := dXabg.trans (bXabgc.mono (by omega))
          clear sXabgc
          go_wp2_with fail
          rw [← eXabgc]
          clear eXabgc
          refine hQ₁ _ _ ⟨⟨Xabgc, hXabgc⟩, rfl⟩ ?_
          clear hQ₁ hQp Q₁
          refine tree_step [8] [9] 1 (by kernel_rfl) (fun _ _ d _ _ h => by cases d <;> exact h) (by kernel_rfl) (by simp) rfl ⟨⟨Xabgc, hXabgc⟩, rfl⟩ ?_
          simp only [List.filterMap_cons, List.filterMap_nil, List.getElem?_cons_succ, List.getElem?_cons_zero]
          repeat (change wpQuiet _ _ _ _ (List.cons _ _) _; go_big_quiet_step (fail))
          refine wpQuiet_nil ?_
          intro i hi Q₁ hQ₁ hQp
          obtain rfl := mem1 hi
          simp only [List.getElem?_cons_succ, List.getElem?_cons_zero, Option.toList]
          refine wpl_store_row rfl 26 _ _ rfl k4 (by kernel_rfl) (by kernel_rfl) (by kernel_rfl) rfl rfl ?_
          refine wpList_nil ?_
          obtain ⟨Xabgcs, eXabgcs⟩ : ∃ Y, Y = Xabgc.setRow (w.heap.size + 1) #[.int .u64 1073741824, .int .u64 134217728, .int .u64 1073741824, .int .u64 1048576, .int .i64 64, .int .i64 8, .int .i64 4] := ⟨_, rfl⟩
          replace k5 := (setRow_other Xabgc (w.heap.size + 1) _ #[.int .u64 1073741824, .int .u64 134217728, .int .u64 1073741824, .int .u64 1048576, .int .i64 64, .int .i64 8, .int .i64 4] (row_ne k5 k4 (by decide))).trans k5
          replace kw1 := (setRow_other Xabgc (w.heap.size + 1) _ #[.int .u64 1073741824, .int .u64 134217728, .int .u64 1073741824, .int .u64 1048576, .int .i64 64, .int .i64 8, .int .i64 4] (row_ne kw1 k4 (by decide))).trans kw1
          replace ki1 := (setRow_other Xabgc (w.heap.size + 1) _ #[.int .u64 1073741824, .int .u64 134217728, .int .u64 1073741824, .int .u64 1048576, .int .i64 64, .int .i64 8, .int .i64 4] (row_ne ki1 k4 (by decide))).trans ki1
          replace ks1 := (setRow_other Xabgc (w.heap.size + 1) _ #[.int .u64 1073741824, .int .u64 134217728, .int .u64 1073741824, .int .u64 1048576, .int .i64 64, .int .i64 8, .int .i64 4] (row_ne ks1 k4 (by decide))).trans ks1
          replace kw2 := (setRow_other Xabgc (w.heap.size + 1) _ #[.int .u64 1073741824, .int .u64 134217728, .int .u64 1073741824, .int .u64 1048576, .int .i64 64, .int .i64 8, .int .i64 4] (row_ne kw2 k4 (by decide))).trans kw2
          replace ki2 := (setRow_other Xabgc (w.heap.size + 1) _ #[.int .u64 1073741824, .int .u64 134217728, .int .u64 1073741824, .int .u64 1048576, .int .i64 64, .int .i64 8, .int .i64 4] (row_ne ki2 k4 (by decide))).trans ki2
          replace ks2 := (setRow_other Xabgc (w.heap.size + 1) _ #[.int .u64 1073741824, .int .u64 134217728, .int .u64 1073741824, .int .u64 1048576, .int .i64 64, .int .i64 8, .int .i64 4] (row_ne ks2 k4 (by decide))).trans ks2
          replace kg := (setRow_other Xabgc (w.heap.size + 1) _ #[.int .u64 1073741824, .int .u64 134217728, .int .u64 1073741824, .int .u64 1048576, .int .i64 64, .int .i64 8, .int .i64 4] (row_ne kg k4 (by decide))).trans kg
          replace kc := (setRow_other Xabgc (w.heap.size + 1) _ #[.int .u64 1073741824, .int .u64 134217728, .int .u64 1073741824, .int .u64 1048576, .int .i64 64, .int .i64 8, .int .i64 4] (row_ne kc k4 (by decide))).trans kc
          replace k4 := setRow_heap Xabgc (w.heap.size + 1) _ #[.int .u64 1073741824, .int .u64 134217728, .int .u64 1073741824, .int .u64 1048576, .int .i64 64, .int .i64 8, .int .i64 4] _ _ k4
          rw [← eXabgcs] at k4 k5 kw1 ki1 ks1 kw2 ki2 ks2 kg kc ⊢
          have hXabgcs : ∀ b, hf b → Xabgcs.heap[b]? = W1.heap[b]? := fun b hb => by rw [eXabgcs]; exact (setRow_other Xabgc (w.heap.size + 1) b _ (by have := hfn.out b hb; omega)).trans (hXabgc b hb)
          have zXabgcs : w.heap.size + 5 ≤ Xabgcs.heap.size := by rw [eXabgcs, setRow_size]; exact zXabgc
          have dXabgcs : Below w.heap.size w Xabgcs := by rw [eXabgcs]; exact below_setRow dXabgc (by omega) _
          clear eXabgcs
          simp only [Act.put]
          refine hQ₁ _ _ ⟨⟨Xabgcs, hXabgcs⟩, rfl⟩ ?_
          clear hQ₁ hQp Q₁
          refine tree_step [] [10] 0 (by kernel_rfl) (fun _ _ d _ _ h => by cases d <;> exact h) (by kernel_rfl) (by simp) rfl ⟨⟨Xabgcs, hXabgcs⟩, rfl⟩ ?_
          simp only [List.filterMap_nil]
          refine wpQuiet_nil ?_
          intro i hi Q₁ hQ₁ hQp
          obtain rfl := mem1 hi
          simp only [List.getElem?_cons_succ, List.getElem?_cons_zero, Option.toList]
          refine wpl_store_row rfl 31 _ _ rfl k5 (by kernel_rfl) (by kernel_rfl) (by kernel_rfl) rfl rfl ?_
          refine wpList_nil ?_
          obtain ⟨Xabgcst, eXabgcst⟩ : ∃ Y, Y = Xabgcs.setRow (w.heap.size + 1 + 1) #[.int .u32 1, .slice (some ⟨Xab.heap.size, 0, none⟩) 2 2, .slice (some ⟨Xabg.heap.size, 0, none⟩) 1 1] := ⟨_, rfl⟩
          replace k4 := (setRow_other Xabgcs (w.heap.size + 1 + 1) _ #[.int .u32 1, .slice (some ⟨Xab.heap.size, 0, none⟩) 2 2, .slice (some ⟨Xabg.heap.size, 0, none⟩) 1 1] (row_ne k4 k5 (by decide))).trans k4
          replace kw1 := (setRow_other Xabgcs (w.heap.size + 1 + 1) _ #[.int .u32 1, .slice (some ⟨Xab.heap.size, 0, none⟩) 2 2, .slice (some ⟨Xabg.heap.size, 0, none⟩) 1 1] (row_ne kw1 k5 (by decide))).trans kw1
          replace ki1 := (setRow_other Xabgcs (w.heap.size + 1 + 1) _ #[.int .u32 1, .slice (some ⟨Xab.heap.size, 0, none⟩) 2 2, .slice (some ⟨Xabg.heap.size, 0, none⟩) 1 1] (row_ne ki1 k5 (by decide))).trans ki1
          replace ks1 := (setRow_other Xabgcs (w.heap.size + 1 + 1) _ #[.int .u32 1, .slice (some ⟨Xab.heap.size, 0, none⟩) 2 2, .slice (some ⟨Xabg.heap.size, 0, none⟩) 1 1] (row_ne ks1 k5 (by decide))).trans ks1
          replace kw2 := (setRow_other Xabgcs (w.heap.size + 1 + 1) _ #[.int .u32 1, .slice (some ⟨Xab.heap.size, 0, none⟩) 2 2, .slice (some ⟨Xabg.heap.size, 0, none⟩) 1 1] (row_ne kw2 k5 (by decide))).trans kw2
          replace ki2 := (setRow_other Xabgcs (w.heap.size + 1 + 1) _ #[.int .u32 1, .slice (some ⟨Xab.heap.size, 0, none⟩) 2 2, .slice (some ⟨Xabg.heap.size, 0, none⟩) 1 1] (row_ne ki2 k5 (by decide))).trans ki2
          replace ks2 := (setRow_other Xabgcs (w.heap.size + 1 + 1) _ #[.int .u32 1, .slice (some ⟨Xab.heap.size, 0, none⟩) 2 2, .slice (some ⟨Xabg.heap.size, 0, none⟩) 1 1] (row_ne ks2 k5 (by decide))).trans ks2
          replace kg := (setRow_other Xabgcs (w.heap.size + 1 + 1) _ #[.int .u32 1, .slice (some ⟨Xab.heap.size, 0, none⟩) 2 2, .slice (some ⟨Xabg.heap.size, 0, none⟩) 1 1] (row_ne kg k5 (by decide))).trans kg
          replace kc := (setRow_other Xabgcs (w.heap.size + 1 + 1) _ #[.int .u32 1, .slice (some ⟨Xab.heap.size, 0, none⟩) 2 2, .slice (some ⟨Xabg.heap.size, 0, none⟩) 1 1] (row_ne kc k5 (by decide))).trans kc
          replace k5 := setRow_heap Xabgcs (w.heap.size + 1 + 1) _ #[.int .u32 1, .slice (some ⟨Xab.heap.size, 0, none⟩) 2 2, .slice (some ⟨Xabg.heap.size, 0, none⟩) 1 1] _ _ k5
          rw [← eXabgcst] at k4 k5 kw1 ki1 ks1 kw2 ki2 ks2 kg kc ⊢
          have hXabgcst : ∀ b, hf b → Xabgcst.heap[b]? = W1.heap[b]? := fun b hb => by rw [eXabgcst]; exact (setRow_other Xabgcs (w.heap.size + 1 + 1) b _ (by have := hfn.out b hb; omega)).trans (hXabgcs b hb)
          have zXabgcst : w.heap.size + 5 ≤ Xabgcst.heap.size := by rw [eXabgcst, setRow_size]; exact zXabgcs
          have dXabgcst : Below w.heap.size w Xabgcst := by rw [eXabgcst]; exact below_setRow dXabgcs (by omega) _
          clear eXabgcst
          simp only [Act.put]
          refine hQ₁ _ _ ⟨⟨Xabgcst, hXabgcst⟩, rfl⟩ ?_
          clear hQ₁ hQp Q₁
          refine tree_end [] (by kernel_rfl) (fun _ _ d _ _ h => by cases d <;> exact h) (by kernel_rfl) rfl ⟨⟨Xabgcst, hXabgcst⟩, rfl⟩ ?_
          refine wpQuiet_nil ?_
          go_wp2_with fail
          exact bodyPost_ret (small_res k4 k5 rfl rfl) rfl ⟨_, _, _, _, _, _, _, _, rfl, ⟨⟨kw1, ki1, ks1⟩, ⟨kw2, ki2, ks2⟩, kg, kc⟩, lb2, dXabgcst⟩
        · simp only [List.getElem?_cons_succ, List.getElem?_cons_zero, Option.toList]
          refine wpl_store_row rfl 26 _ _ rfl k4 (by kernel_rfl) (by kernel_rfl) (by kernel_rfl) rfl rfl ?_
          refine wpList_nil ?_
          obtain ⟨Xabgs, eXabgs⟩ : ∃ Y, Y = Xabg.setRow (w.heap.size + 1) #[.int .u64 1073741824, .int .u64 134217728, .int .u64 1073741824, .int .u64 1048576, .int .i64 64, .int .i64 8, .int .i64 4] := ⟨_, rfl⟩
          replace k5 := (setRow_other Xabg (w.heap.size + 1) _ #[.int .u64 1073741824, .int .u64 134217728, .int .u64 1073741824, .int .u64 1048576, .int .i64 64, .int .i64 8, .int .i64 4] (row_ne k5 k4 (by decide))).trans k5
          replace kw1 := (setRow_other Xabg (w.heap.size + 1) _ #[.int .u64 1073741824, .int .u64 134217728, .int .u64 1073741824, .int .u64 1048576, .int .i64 64, .int .i64 8, .int .i64 4] (row_ne kw1 k4 (by decide))).trans kw1
          replace ki1 := (setRow_other Xabg (w.heap.size + 1) _ #[.int .u64 1073741824, .int .u64 134217728, .int .u64 1073741824, .int .u64 1048576, .int .i64 64, .int .i64 8, .int .i64 4] (row_ne ki1 k4 (by decide))).trans ki1
          replace ks1 := (setRow_other Xabg (w.heap.size + 1) _ #[.int .u64 1073741824, .int .u64 134217728, .int .u64 1073741824, .int .u64 1048576, .int .i64 64, .int .i64 8, .int .i64 4] (row_ne ks1 k4 (by decide))).trans ks1
          replace kw2 := (setRow_other Xabg (w.heap.size + 1) _ #[.int .u64 1073741824, .int .u64 134217728, .int .u64 1073741824, .int .u64 1048576, .int .i64 64, .int .i64 8, .int .i64 4] (row_ne kw2 k4 (by decide))).trans kw2
          replace ki2 := (setRow_other Xabg (w.heap.size + 1) _ #[.int .u64 1073741824, .int .u64 134217728, .int .u64 1073741824, .int .u64 1048576, .int .i64 64, .int .i64 8, .int .i64 4] (row_ne ki2 k4 (by decide))).trans ki2
          replace ks2 := (setRow_other Xabg (w.heap.size + 1) _ #[.int .u64 1073741824, .int .u64 134217728, .int .u64 1073741824, .int .u64 1048576, .int .i64 64, .int .i64 8, .int .i64 4] (row_ne ks2 k4 (by decide))).trans ks2
          replace kg := (setRow_other Xabg (w.heap.size + 1) _ #[.int .u64 1073741824, .int .u64 134217728, .int .u64 1073741824, .int .u64 1048576, .int .i64 64, .int .i64 8, .int .i64 4] (row_ne kg k4 (by decide))).trans kg
          replace k4 := setRow_heap Xabg (w.heap.size + 1) _ #[.int .u64 1073741824, .int .u64 134217728, .int .u64 1073741824, .int .u64 1048576, .int .i64 64, .int .i64 8, .int .i64 4] _ _ k4
          rw [← eXabgs] at k4 k5 kw1 ki1 ks1 kw2 ki2 ks2 kg ⊢
          have hXabgs : ∀ b, hf b → Xabgs.heap[b]? = W1.heap[b]? := fun b hb => by rw [eXabgs]; exact (setRow_other Xabg (w.heap.size + 1) b _ (by have := hfn.out b hb; omega)).trans (hXabg b hb)
          have zXabgs : w.heap.size + 5 ≤ Xabgs.heap.size := by rw [eXabgs, setRow_size]; exact zXabg
          have dXabgs : Below w.heap.size w Xabgs := by rw [eXabgs]; exact below_setRow dXabg (by omega) _
          clear eXabgs
          simp only [Act.put]
          refine hQ₁ _ _ ⟨⟨Xabgs, hXabgs⟩, rfl⟩ ?_
          clear hQ₁ hQp Q₁
          refine tree_step [] [7] 2 (by kernel_rfl) (fun _ _ d _ _ h => by cases d <;> exact h) (by kernel_rfl) (by simp) rfl ⟨⟨Xabgs, hXabgs⟩, rfl⟩ ?_
          simp only [List.filterMap_nil]
          refine wpQuiet_nil ?_
          intro i hi Q₁ hQ₁ hQp
          obtain rfl := mem1 hi
          simp only [List.getElem?_cons_succ, List.getElem?_cons_zero, Option.toList]
          obtain ⟨Xabgsc, eXabgsc, sXabgsc, kc, bXabgsc⟩ := one_new Xabgs (.cells #[.int .u64 1107296256, .int .u64 (p * 4096), .int .i64 0, .int .i64 3, .int .u64 268435456, .int .i64 1, .int .i64 1, .int .u64 536870912] 76)
          replace kc := kc _ _ rfl
          replace k4 := (bXabgsc.block _ (Array.getElem?_eq_some_iff.1 k4).1).trans k4
          replace k5 := (bXabgsc.block _ (Array.getElem?_eq_some_iff.1 k5).1).trans k5
          replace kw1 := (bXabgsc.block _ (Array.getElem?_eq_some_iff.1 kw1).1).trans kw1
          replace ki1 := (bXabgsc.block _ (Array.getElem?_eq_some_iff.1 ki1).1).trans ki1
          replace ks1 := (bXabgsc.block _ (Array.getElem?_eq_some_iff.1 ks1).1).trans ks1
          replace kw2 := (bXabgsc.block _ (Array.getElem?_eq_some_iff.1 kw2).1).trans kw2
          replace ki2 := (bXabgsc.block _ (Array.getElem?_eq_some_iff.1 ki2).1).trans ki2
          replace ks2 := (bXabgsc.block _ (Array.getElem?_eq_some_iff.1 ks2).1).trans ks2
          replace kg := (bXabgsc.block _ (Array.getElem?_eq_some_iff.1 kg).1).trans kg
          have hXabgsc : ∀ b, hf b → Xabgsc.heap[b]? = W1.heap[b]? := fun b hb => (bXabgsc.block b (by have := hfz.out b hb; have := zXabgs; omega)).trans (hXabgs b hb)
          have zXabgsc : w.heap.size + 5 ≤ Xabgsc.heap.size := Nat.le_trans zXabgs bXabgsc.size
          have dXabgsc := dXabgs.trans (bXabgsc.mono (by omega))
          clear sXabgsc
          go_wp2_with fail
          rw [← eXabgsc]
          clear eXabgsc
          refine hQ₁ _ _ ⟨⟨Xabgsc, hXabgsc⟩, rfl⟩ ?_
          clear hQ₁ hQp Q₁
          refine tree_step [8] [10] 0 (by kernel_rfl) (fun _ _ d _ _ h => by cases d <;> exact h) (by kernel_rfl) (by simp) rfl ⟨⟨Xabgsc, hXabgsc⟩, rfl⟩ ?_
          simp only [List.filterMap_cons, List.filterMap_nil, List.getElem?_cons_succ, List.getElem?_cons_zero]
          repeat (change wpQuiet _ _ _ _ (List.cons _ _) _; go_big_quiet_step (fail))
          refine wpQuiet_nil ?_
          intro i hi Q₁ hQ₁ hQp
          obtain rfl := mem1 hi
          simp only [List.getElem?_cons_succ, List.getElem?_cons_zero, Option.toList]
          refine wpl_store_row rfl 31 _ _ rfl k5 (by kernel_rfl) (by kernel_rfl) (by kernel_rfl) rfl rfl ?_
          refine wpList_nil ?_
          obtain ⟨Xabgsct, eXabgsct⟩ : ∃ Y, Y = Xabgsc.setRow (w.heap.size + 1 + 1) #[.int .u32 1, .slice (some ⟨Xab.heap.size, 0, none⟩) 2 2, .slice (some ⟨Xabgs.heap.size, 0, none⟩) 1 1] := ⟨_, rfl⟩
          replace k4 := (setRow_other Xabgsc (w.heap.size + 1 + 1) _ #[.int .u32 1, .slice (some ⟨Xab.heap.size, 0, none⟩) 2 2, .slice (some ⟨Xabgs.heap.size, 0, none⟩) 1 1] (row_ne k4 k5 (by decide))).trans k4
          replace kw1 := (setRow_other Xabgsc (w.heap.size + 1 + 1) _ #[.int .u32 1, .slice (some ⟨Xab.heap.size, 0, none⟩) 2 2, .slice (some ⟨Xabgs.heap.size, 0, none⟩) 1 1] (row_ne kw1 k5 (by decide))).trans kw1
          replace ki1 := (setRow_other Xabgsc (w.heap.size + 1 + 1) _ #[.int .u32 1, .slice (some ⟨Xab.heap.size, 0, none⟩) 2 2, .slice (some ⟨Xabgs.heap.size, 0, none⟩) 1 1] (row_ne ki1 k5 (by decide))).trans ki1
          replace ks1 := (setRow_other Xabgsc (w.heap.size + 1 + 1) _ #[.int .u32 1, .slice (some ⟨Xab.heap.size, 0, none⟩) 2 2, .slice (some ⟨Xabgs.heap.size, 0, none⟩) 1 1] (row_ne ks1 k5 (by decide))).trans ks1
          replace kw2 := (setRow_other Xabgsc (w.heap.size + 1 + 1) _ #[.int .u32 1, .slice (some ⟨Xab.heap.size, 0, none⟩) 2 2, .slice (some ⟨Xabgs.heap.size, 0, none⟩) 1 1] (row_ne kw2 k5 (by decide))).trans kw2
          replace ki2 := (setRow_other Xabgsc (w.heap.size + 1 + 1) _ #[.int .u32 1, .slice (some ⟨Xab.heap.size, 0, none⟩) 2 2, .slice (some ⟨Xabgs.heap.size, 0, none⟩) 1 1] (row_ne ki2 k5 (by decide))).trans ki2
          replace ks2 := (setRow_other Xabgsc (w.heap.size + 1 + 1) _ #[.int .u32 1, .slice (some ⟨Xab.heap.size, 0, none⟩) 2 2, .slice (some ⟨Xabgs.heap.size, 0, none⟩) 1 1] (row_ne ks2 k5 (by decide))).trans ks2
          replace kg := (setRow_other Xabgsc (w.heap.size + 1 + 1) _ #[.int .u32 1, .slice (some ⟨Xab.heap.size, 0, none⟩) 2 2, .slice (some ⟨Xabgs.heap.size, 0, none⟩) 1 1] (row_ne kg k5 (by decide))).trans kg
          replace kc := (setRow_other Xabgsc (w.heap.size + 1 + 1) _ #[.int .u32 1, .slice (some ⟨Xab.heap.size, 0, none⟩) 2 2, .slice (some ⟨Xabgs.heap.size, 0, none⟩) 1 1] (row_ne kc k5 (by decide))).trans kc
          replace k5 := setRow_heap Xabgsc (w.heap.size + 1 + 1) _ #[.int .u32 1, .slice (some ⟨Xab.heap.size, 0, none⟩) 2 2, .slice (some ⟨Xabgs.heap.size, 0, none⟩) 1 1] _ _ k5
          rw [← eXabgsct] at k4 k5 kw1 ki1 ks1 kw2 ki2 ks2 kg kc ⊢
          have hXabgsct : ∀ b, hf b → Xabgsct.heap[b]? = W1.heap[b]? := fun b hb => by rw [eXabgsct]; exact (setRow_other Xabgsc (w.heap.size + 1 + 1) b _ (by have := hfn.out b hb; omega)).trans (hXabgsc b hb)
          have zXabgsct : w.heap.size + 5 ≤ Xabgsct.heap.size := by rw [eXabgsct, setRow_size]; exact zXabgsc
          have dXabgsct : Below w.heap.size w Xabgsct := by rw [eXabgsct]; exact below_setRow dXabgsc (by omega) _
          clear eXabgsct
          simp only [Act.put]
          refine hQ₁ _ _ ⟨⟨Xabgsct, hXabgsct⟩, rfl⟩ ?_
          clear hQ₁ hQp Q₁
          refine tree_end [] (by kernel_rfl) (fun _ _ d _ _ h => by cases d <;> exact h) (by kernel_rfl) rfl ⟨⟨Xabgsct, hXabgsct⟩, rfl⟩ ?_
          refine wpQuiet_nil ?_
          go_wp2_with fail
          exact bodyPost_ret (small_res k4 k5 rfl rfl) rfl ⟨_, _, _, _, _, _, _, _, rfl, ⟨⟨kw1, ki1, ks1⟩, ⟨kw2, ki2, ks2⟩, kg, kc⟩, lb2, dXabgsct⟩
      · simp only [List.getElem?_cons_succ, List.getElem?_cons_zero, Option.toList]
        obtain ⟨Xabc, eXabc, sXabc, kc, bXabc⟩ := one_new Xab (.cells #[.int .u64 1107296256, .int .u64 (p * 4096), .int .i64 0, .int .i64 3, .int .u64 268435456, .int .i64 1, .int .i64 1, .int .u64 536870912] 76)
        replace kc := kc _ _ rfl
        replace k4 := (bXabc.block _ (Array.getElem?_eq_some_iff.1 k4).1).trans k4
        replace k5 := (bXabc.block _ (Array.getElem?_eq_some_iff.1 k5).1).trans k5
        replace kw1 := (bXabc.block _ (Array.getElem?_eq_some_iff.1 kw1).1).trans kw1
        replace ki1 := (bXabc.block _ (Array.getElem?_eq_some_iff.1 ki1).1).trans ki1
        replace ks1 := (bXabc.block _ (Array.getElem?_eq_some_iff.1 ks1).1).trans ks1
        replace kw2 := (bXabc.block _ (Array.getElem?_eq_some_iff.1 kw2).1).trans kw2
        replace ki2 := (bXabc.block _ (Array.getElem?_eq_some_iff.1 ki2).1).trans ki2
        replace ks2 := (bXabc.block _ (Array.getElem?_eq_some_iff.1 ks2).1).trans ks2
        have hXabc : ∀ b, hf b → Xabc.heap[b]? = W1.heap[b]? := fun b hb => (bXabc.block b (by have := hfz.out b hb; have := zXab; omega)).trans (hXab b hb)
        have zXabc : w.heap.size + 5 ≤ Xabc.heap.size := Nat.le_trans zXab bXabc.size
        have dXabc := dXab.trans (bXabc.mono (by omega))
        clear sXabc
        go_wp2_with fail
        rw [← eXabc]
        clear eXabc
        refine hQ₁ _ _ ⟨⟨Xabc, hXabc⟩, rfl⟩ ?_
        clear hQ₁ hQp Q₁
        refine tree_step [] [5, 9] 3 (by kernel_rfl) (fun _ _ d _ _ h => by cases d <;> exact h) (by kernel_rfl) (by simp) rfl ⟨⟨Xabc, hXabc⟩, rfl⟩ ?_
        simp only [List.filterMap_nil]
        refine wpQuiet_nil ?_
        intro i hi Q₁ hQ₁ hQp
        obtain rfl | rfl := mem2 hi
        · simp only [List.getElem?_cons_succ, List.getElem?_cons_zero, Option.toList]
          obtain ⟨Xabcg, eXabcg, sXabcg, kg, bXabcg⟩ := one_new Xabc (.cells (smallC ⟨#[111, 110, 101]⟩ 0 (List.ofFn f) bw1 bi1 bs1 ++ smallC ⟨#[116, 119, 111]⟩ 1 (List.ofFn f) bw2 bi2 bs2).toArray 50)
          replace kg := kg _ _ rfl
          replace k4 := (bXabcg.block _ (Array.getElem?_eq_some_iff.1 k4).1).trans k4
          replace k5 := (bXabcg.block _ (Array.getElem?_eq_some_iff.1 k5).1).trans k5
          replace kw1 := (bXabcg.block _ (Array.getElem?_eq_some_iff.1 kw1).1).trans kw1
          replace ki1 := (bXabcg.block _ (Array.getElem?_eq_some_iff.1 ki1).1).trans ki1
          replace ks1 := (bXabcg.block _ (Array.getElem?_eq_some_iff.1 ks1).1).trans ks1
          replace kw2 := (bXabcg.block _ (Array.getElem?_eq_some_iff.1 kw2).1).trans kw2
          replace ki2 := (bXabcg.block _ (Array.getElem?_eq_some_iff.1 ki2).1).trans ki2
          replace ks2 := (bXabcg.block _ (Array.getElem?_eq_some_iff.1 ks2).1).trans ks2
          replace kc := (bXabcg.block _ (Array.getElem?_eq_some_iff.1 kc).1).trans kc
          have hXabcg : ∀ b, hf b → Xabcg.heap[b]? = W1.heap[b]? := fun b hb => (bXabcg.block b (by have := hfz.out b hb; have := zXabc; omega)).trans (hXabc b hb)
          have zXabcg : w.heap.size + 5 ≤ Xabcg.heap.size := Nat.le_trans zXabc bXabcg.size
          have dXabcg := dXabc.trans (bXabcg.mono (by omega))
          clear sXabcg
          refine wpl_build_slice rfl 28 2 _ rfl #[(0, .agg (smallC ⟨#[111, 110, 101]⟩ 0 (List.ofFn f) bw1 bi1 bs1).toArray), (1, .agg (smallC ⟨#[116, 119, 111]⟩ 1 (List.ofFn f) bw2 bi2 bs2).toArray)] (by simp [Act.eval]) _ _ (small_rows _ _ f _ _ _ _ _ _ Xabc) ?_
          refine wpList_nil ?_
          simp only [Act.put, List.setIfInBounds_toArray, List.set_cons_succ, List.set_cons_zero]
          rw [← eXabcg]
          clear eXabcg
          refine hQ₁ _ _ ⟨⟨Xabcg, hXabcg⟩, rfl⟩ ?_
          clear hQ₁ hQp Q₁
          refine tree_step [8] [9] 1 (by kernel_rfl) (fun _ _ d _ _ h => by cases d <;> exact h) (by kernel_rfl) (by simp) rfl ⟨⟨Xabcg, hXabcg⟩, rfl⟩ ?_
          simp only [List.filterMap_cons, List.filterMap_nil, List.getElem?_cons_succ, List.getElem?_cons_zero]
          repeat (change wpQuiet _ _ _ _ (List.cons _ _) _; go_big_quiet_step (fail))
          refine wpQuiet_nil ?_
          intro i hi Q₁ hQ₁ hQp
          obtain rfl := mem1 hi
          simp only [List.getElem?_cons_succ, List.getElem?_cons_zero, Option.toList]
          refine wpl_store_row rfl 26 _ _ rfl k4 (by kernel_rfl) (by kernel_rfl) (by kernel_rfl) rfl rfl ?_
          refine wpList_nil ?_
          obtain ⟨Xabcgs, eXabcgs⟩ : ∃ Y, Y = Xabcg.setRow (w.heap.size + 1) #[.int .u64 1073741824, .int .u64 134217728, .int .u64 1073741824, .int .u64 1048576, .int .i64 64, .int .i64 8, .int .i64 4] := ⟨_, rfl⟩
          replace k5 := (setRow_other Xabcg (w.heap.size + 1) _ #[.int .u64 1073741824, .int .u64 134217728, .int .u64 1073741824, .int .u64 1048576, .int .i64 64, .int .i64 8, .int .i64 4] (row_ne k5 k4 (by decide))).trans k5
          replace kw1 := (setRow_other Xabcg (w.heap.size + 1) _ #[.int .u64 1073741824, .int .u64 134217728, .int .u64 1073741824, .int .u64 1048576, .int .i64 64, .int .i64 8, .int .i64 4] (row_ne kw1 k4 (by decide))).trans kw1
          replace ki1 := (setRow_other Xabcg (w.heap.size + 1) _ #[.int .u64 1073741824, .int .u64 134217728, .int .u64 1073741824, .int .u64 1048576, .int .i64 64, .int .i64 8, .int .i64 4] (row_ne ki1 k4 (by decide))).trans ki1
          replace ks1 := (setRow_other Xabcg (w.heap.size + 1) _ #[.int .u64 1073741824, .int .u64 134217728, .int .u64 1073741824, .int .u64 1048576, .int .i64 64, .int .i64 8, .int .i64 4] (row_ne ks1 k4 (by decide))).trans ks1
          replace kw2 := (setRow_other Xabcg (w.heap.size + 1) _ #[.int .u64 1073741824, .int .u64 134217728, .int .u64 1073741824, .int .u64 1048576, .int .i64 64, .int .i64 8, .int .i64 4] (row_ne kw2 k4 (by decide))).trans kw2
          replace ki2 := (setRow_other Xabcg (w.heap.size + 1) _ #[.int .u64 1073741824, .int .u64 134217728, .int .u64 1073741824, .int .u64 1048576, .int .i64 64, .int .i64 8, .int .i64 4] (row_ne ki2 k4 (by decide))).trans ki2
          replace ks2 := (setRow_other Xabcg (w.heap.size + 1) _ #[.int .u64 1073741824, .int .u64 134217728, .int .u64 1073741824, .int .u64 1048576, .int .i64 64, .int .i64 8, .int .i64 4] (row_ne ks2 k4 (by decide))).trans ks2
          replace kc := (setRow_other Xabcg (w.heap.size + 1) _ #[.int .u64 1073741824, .int .u64 134217728, .int .u64 1073741824, .int .u64 1048576, .int .i64 64, .int .i64 8, .int .i64 4] (row_ne kc k4 (by decide))).trans kc
          replace kg := (setRow_other Xabcg (w.heap.size + 1) _ #[.int .u64 1073741824, .int .u64 134217728, .int .u64 1073741824, .int .u64 1048576, .int .i64 64, .int .i64 8, .int .i64 4] (row_ne kg k4 (by decide))).trans kg
          replace k4 := setRow_heap Xabcg (w.heap.size + 1) _ #[.int .u64 1073741824, .int .u64 134217728, .int .u64 1073741824, .int .u64 1048576, .int .i64 64, .int .i64 8, .int .i64 4] _ _ k4
          rw [← eXabcgs] at k4 k5 kw1 ki1 ks1 kw2 ki2 ks2 kc kg ⊢
          have hXabcgs : ∀ b, hf b → Xabcgs.heap[b]? = W1.heap[b]? := fun b hb => by rw [eXabcgs]; exact (setRow_other Xabcg (w.heap.size + 1) b _ (by have := hfn.out b hb; omega)).trans (hXabcg b hb)
          have zXabcgs : w.heap.size + 5 ≤ Xabcgs.heap.size := by rw [eXabcgs, setRow_size]; exact zXabcg
          have dXabcgs : Below w.heap.size w Xabcgs := by rw [eXabcgs]; exact below_setRow dXabcg (by omega) _
          clear eXabcgs
          simp only [Act.put]
          refine hQ₁ _ _ ⟨⟨Xabcgs, hXabcgs⟩, rfl⟩ ?_
          clear hQ₁ hQp Q₁
          refine tree_step [] [10] 0 (by kernel_rfl) (fun _ _ d _ _ h => by cases d <;> exact h) (by kernel_rfl) (by simp) rfl ⟨⟨Xabcgs, hXabcgs⟩, rfl⟩ ?_
          simp only [List.filterMap_nil]
          refine wpQuiet_nil ?_
          intro i hi Q₁ hQ₁ hQp
          obtain rfl := mem1 hi
          simp only [List.getElem?_cons_succ, List.getElem?_cons_zero, Option.toList]
          refine wpl_store_row rfl 31 _ _ rfl k5 (by kernel_rfl) (by kernel_rfl) (by kernel_rfl) rfl rfl ?_
          refine wpList_nil ?_
          obtain ⟨Xabcgst, eXabcgst⟩ : ∃ Y, Y = Xabcgs.setRow (w.heap.size + 1 + 1) #[.int .u32 1, .slice (some ⟨Xabc.heap.size, 0, none⟩) 2 2, .slice (some ⟨Xab.heap.size, 0, none⟩) 1 1] := ⟨_, rfl⟩
          replace k4 := (setRow_other Xabcgs (w.heap.size + 1 + 1) _ #[.int .u32 1, .slice (some ⟨Xabc.heap.size, 0, none⟩) 2 2, .slice (some ⟨Xab.heap.size, 0, none⟩) 1 1] (row_ne k4 k5 (by decide))).trans k4
          replace kw1 := (setRow_other Xabcgs (w.heap.size + 1 + 1) _ #[.int .u32 1, .slice (some ⟨Xabc.heap.size, 0, none⟩) 2 2, .slice (some ⟨Xab.heap.size, 0, none⟩) 1 1] (row_ne kw1 k5 (by decide))).trans kw1
          replace ki1 := (setRow_other Xabcgs (w.heap.size + 1 + 1) _ #[.int .u32 1, .slice (some ⟨Xabc.heap.size, 0, none⟩) 2 2, .slice (some ⟨Xab.heap.size, 0, none⟩) 1 1] (row_ne ki1 k5 (by decide))).trans ki1
          replace ks1 := (setRow_other Xabcgs (w.heap.size + 1 + 1) _ #[.int .u32 1, .slice (some ⟨Xabc.heap.size, 0, none⟩) 2 2, .slice (some ⟨Xab.heap.size, 0, none⟩) 1 1] (row_ne ks1 k5 (by decide))).trans ks1
          replace kw2 := (setRow_other Xabcgs (w.heap.size + 1 + 1) _ #[.int .u32 1, .slice (some ⟨Xabc.heap.size, 0, none⟩) 2 2, .slice (some ⟨Xab.heap.size, 0, none⟩) 1 1] (row_ne kw2 k5 (by decide))).trans kw2
          replace ki2 := (setRow_other Xabcgs (w.heap.size + 1 + 1) _ #[.int .u32 1, .slice (some ⟨Xabc.heap.size, 0, none⟩) 2 2, .slice (some ⟨Xab.heap.size, 0, none⟩) 1 1] (row_ne ki2 k5 (by decide))).trans ki2
          replace ks2 := (setRow_other Xabcgs (w.heap.size + 1 + 1) _ #[.int .u32 1, .slice (some ⟨Xabc.heap.size, 0, none⟩) 2 2, .slice (some ⟨Xab.heap.size, 0, none⟩) 1 1] (row_ne ks2 k5 (by decide))).trans ks2
          replace kc := (setRow_other Xabcgs (w.heap.size + 1 + 1) _ #[.int .u32 1, .slice (some ⟨Xabc.heap.size, 0, none⟩) 2 2, .slice (some ⟨Xab.heap.size, 0, none⟩) 1 1] (row_ne kc k5 (by decide))).trans kc
          replace kg := (setRow_other Xabcgs (w.heap.size + 1 + 1) _ #[.int .u32 1, .slice (some ⟨Xabc.heap.size, 0, none⟩) 2 2, .slice (some ⟨Xab.heap.size, 0, none⟩) 1 1] (row_ne kg k5 (by decide))).trans kg
          replace k5 := setRow_heap Xabcgs (w.heap.size + 1 + 1) _ #[.int .u32 1, .slice (some ⟨Xabc.heap.size, 0, none⟩) 2 2, .slice (some ⟨Xab.heap.size, 0, none⟩) 1 1] _ _ k5
          rw [← eXabcgst] at k4 k5 kw1 ki1 ks1 kw2 ki2 ks2 kc kg ⊢
          have hXabcgst : ∀ b, hf b → Xabcgst.heap[b]? = W1.heap[b]? := fun b hb => by rw [eXabcgst]; exact (setRow_other Xabcgs (w.heap.size + 1 + 1) b _ (by have := hfn.out b hb; omega)).trans (hXabcgs b hb)
          have zXabcgst : w.heap.size + 5 ≤ Xabcgst.heap.size := by rw [eXabcgst, setRow_size]; exact zXabcgs
          have dXabcgst : Below w.heap.size w Xabcgst := by rw [eXabcgst]; exact below_setRow dXabcgs (by omega) _
          clear eXabcgst
          simp only [Act.put]
          refine hQ₁ _ _ ⟨⟨Xabcgst, hXabcgst⟩, rfl⟩ ?_
          clear hQ₁ hQp Q₁
          refine tree_end [] (by kernel_rfl) (fun _ _ d _ _ h => by cases d <;> exact h) (by kernel_rfl) rfl ⟨⟨Xabcgst, hXabcgst⟩, rfl⟩ ?_
          refine wpQuiet_nil ?_
          go_wp2_with fail
          exact bodyPost_ret (small_res k4 k5 rfl rfl) rfl ⟨_, _, _, _, _, _, _, _, rfl, ⟨⟨kw1, ki1, ks1⟩, ⟨kw2, ki2, ks2⟩, kg, kc⟩, lb2, dXabcgst⟩
        · simp only [List.getElem?_cons_succ, List.getElem?_cons_zero, Option.toList]
          refine wpl_store_row rfl 26 _ _ rfl k4 (by kernel_rfl) (by kernel_rfl) (by kernel_rfl) rfl rfl ?_
          refine wpList_nil ?_
          obtain ⟨Xabcs, eXabcs⟩ : ∃ Y, Y = Xabc.setRow (w.heap.size + 1) #[.int .u64 1073741824, .int .u64 134217728, .int .u64 1073741824, .int .u64 1048576, .int .i64 64, .int .i64 8, .int .i64 4] := ⟨_, rfl⟩
          replace k5 := (setRow_other Xabc (w.heap.size + 1) _ #[.int .u64 1073741824, .int .u64 134217728, .int .u64 1073741824, .int .u64 1048576, .int .i64 64, .int .i64 8, .int .i64 4] (row_ne k5 k4 (by decide))).trans k5
          replace kw1 := (setRow_other Xabc (w.heap.size + 1) _ #[.int .u64 1073741824, .int .u64 134217728, .int .u64 1073741824, .int .u64 1048576, .int .i64 64, .int .i64 8, .int .i64 4] (row_ne kw1 k4 (by decide))).trans kw1
          replace ki1 := (setRow_other Xabc (w.heap.size + 1) _ #[.int .u64 1073741824, .int .u64 134217728, .int .u64 1073741824, .int .u64 1048576, .int .i64 64, .int .i64 8, .int .i64 4] (row_ne ki1 k4 (by decide))).trans ki1
          replace ks1 := (setRow_other Xabc (w.heap.size + 1) _ #[.int .u64 1073741824, .int .u64 134217728, .int .u64 1073741824, .int .u64 1048576, .int .i64 64, .int .i64 8, .int .i64 4] (row_ne ks1 k4 (by decide))).trans ks1
          replace kw2 := (setRow_other Xabc (w.heap.size + 1) _ #[.int .u64 1073741824, .int .u64 134217728, .int .u64 1073741824, .int .u64 1048576, .int .i64 64, .int .i64 8, .int .i64 4] (row_ne kw2 k4 (by decide))).trans kw2
          replace ki2 := (setRow_other Xabc (w.heap.size + 1) _ #[.int .u64 1073741824, .int .u64 134217728, .int .u64 1073741824, .int .u64 1048576, .int .i64 64, .int .i64 8, .int .i64 4] (row_ne ki2 k4 (by decide))).trans ki2
          replace ks2 := (setRow_other Xabc (w.heap.size + 1) _ #[.int .u64 1073741824, .int .u64 134217728, .int .u64 1073741824, .int .u64 1048576, .int .i64 64, .int .i64 8, .int .i64 4] (row_ne ks2 k4 (by decide))).trans ks2
          replace kc := (setRow_other Xabc (w.heap.size + 1) _ #[.int .u64 1073741824, .int .u64 134217728, .int .u64 1073741824, .int .u64 1048576, .int .i64 64, .int .i64 8, .int .i64 4] (row_ne kc k4 (by decide))).trans kc
          replace k4 := setRow_heap Xabc (w.heap.size + 1) _ #[.int .u64 1073741824, .int .u64 134217728, .int .u64 1073741824, .int .u64 1048576, .int .i64 64, .int .i64 8, .int .i64 4] _ _ k4
          rw [← eXabcs] at k4 k5 kw1 ki1 ks1 kw2 ki2 ks2 kc ⊢
          have hXabcs : ∀ b, hf b → Xabcs.heap[b]? = W1.heap[b]? := fun b hb => by rw [eXabcs]; exact (setRow_other Xabc (w.heap.size + 1) b _ (by have := hfn.out b hb; omega)).trans (hXabc b hb)
          have zXabcs : w.heap.size + 5 ≤ Xabcs.heap.size := by rw [eXabcs, setRow_size]; exact zXabc
          have dXabcs : Below w.heap.size w Xabcs := by rw [eXabcs]; exact below_setRow dXabc (by omega) _
          clear eXabcs
          simp only [Act.put]
          refine hQ₁ _ _ ⟨⟨Xabcs, hXabcs⟩, rfl⟩ ?_
          clear hQ₁ hQp Q₁
          refine tree_step [] [5] 2 (by kernel_rfl) (fun _ _ d _ _ h => by cases d <;> exact h) (by kernel_rfl) (by simp) rfl ⟨⟨Xabcs, hXabcs⟩, rfl⟩ ?_
          simp only [List.filterMap_nil]
          refine wpQuiet_nil ?_
          intro i hi Q₁ hQ₁ hQp
          obtain rfl := mem1 hi
          simp only [List.getElem?_cons_succ, List.getElem?_cons_zero, Option.toList]
          obtain ⟨Xabcsg, eXabcsg, sXabcsg, kg, bXabcsg⟩ := one_new Xabcs (.cells (smallC ⟨#[111, 110, 101]⟩ 0 (List.ofFn f) bw1 bi1 bs1 ++ smallC ⟨#[116, 119, 111]⟩ 1 (List.ofFn f) bw2 bi2 bs2).toArray 50)
          replace kg := kg _ _ rfl
          replace k4 := (bXabcsg.block _ (Array.getElem?_eq_some_iff.1 k4).1).trans k4
          replace k5 := (bXabcsg.block _ (Array.getElem?_eq_some_iff.1 k5).1).trans k5
          replace kw1 := (bXabcsg.block _ (Array.getElem?_eq_some_iff.1 kw1).1).trans kw1
          replace ki1 := (bXabcsg.block _ (Array.getElem?_eq_some_iff.1 ki1).1).trans ki1
          replace ks1 := (bXabcsg.block _ (Array.getElem?_eq_some_iff.1 ks1).1).trans ks1
          replace kw2 := (bXabcsg.block _ (Array.getElem?_eq_some_iff.1 kw2).1).trans kw2
          replace ki2 := (bXabcsg.block _ (Array.getElem?_eq_some_iff.1 ki2).1).trans ki2
          replace ks2 := (bXabcsg.block _ (Array.getElem?_eq_some_iff.1 ks2).1).trans ks2
          replace kc := (bXabcsg.block _ (Array.getElem?_eq_some_iff.1 kc).1).trans kc
          have hXabcsg : ∀ b, hf b → Xabcsg.heap[b]? = W1.heap[b]? := fun b hb => (bXabcsg.block b (by have := hfz.out b hb; have := zXabcs; omega)).trans (hXabcs b hb)
          have zXabcsg : w.heap.size + 5 ≤ Xabcsg.heap.size := Nat.le_trans zXabcs bXabcsg.size
          have dXabcsg := dXabcs.trans (bXabcsg.mono (by omega))
          clear sXabcsg
          refine wpl_build_slice rfl 28 2 _ rfl #[(0, .agg (smallC ⟨#[111, 110, 101]⟩ 0 (List.ofFn f) bw1 bi1 bs1).toArray), (1, .agg (smallC ⟨#[116, 119, 111]⟩ 1 (List.ofFn f) bw2 bi2 bs2).toArray)] (by simp [Act.eval]) _ _ (small_rows _ _ f _ _ _ _ _ _ Xabcs) ?_
          refine wpList_nil ?_
          simp only [Act.put, List.setIfInBounds_toArray, List.set_cons_succ, List.set_cons_zero]
          rw [← eXabcsg]
          clear eXabcsg
          refine hQ₁ _ _ ⟨⟨Xabcsg, hXabcsg⟩, rfl⟩ ?_
          clear hQ₁ hQp Q₁
          refine tree_step [8] [10] 0 (by kernel_rfl) (fun _ _ d _ _ h => by cases d <;> exact h) (by kernel_rfl) (by simp) rfl ⟨⟨Xabcsg, hXabcsg⟩, rfl⟩ ?_
          simp only [List.filterMap_cons, List.filterMap_nil, List.getElem?_cons_succ, List.getElem?_cons_zero]
          repeat (change wpQuiet _ _ _ _ (List.cons _ _) _; go_big_quiet_step (fail))
          refine wpQuiet_nil ?_
          intro i hi Q₁ hQ₁ hQp
          obtain rfl := mem1 hi
          simp only [List.getElem?_cons_succ, List.getElem?_cons_zero, Option.toList]
          refine wpl_store_row rfl 31 _ _ rfl k5 (by kernel_rfl) (by kernel_rfl) (by kernel_rfl) rfl rfl ?_
          refine wpList_nil ?_
          obtain ⟨Xabcsgt, eXabcsgt⟩ : ∃ Y, Y = Xabcsg.setRow (w.heap.size + 1 + 1) #[.int .u32 1, .slice (some ⟨Xabcs.heap.size, 0, none⟩) 2 2, .slice (some ⟨Xab.heap.size, 0, none⟩) 1 1] := ⟨_, rfl⟩
          replace k4 := (setRow_other Xabcsg (w.heap.size + 1 + 1) _ #[.int .u32 1, .slice (some ⟨Xabcs.heap.size, 0, none⟩) 2 2, .slice (some ⟨Xab.heap.size, 0, none⟩) 1 1] (row_ne k4 k5 (by decide))).trans k4
          replace kw1 := (setRow_other Xabcsg (w.heap.size + 1 + 1) _ #[.int .u32 1, .slice (some ⟨Xabcs.heap.size, 0, none⟩) 2 2, .slice (some ⟨Xab.heap.size, 0, none⟩) 1 1] (row_ne kw1 k5 (by decide))).trans kw1
          replace ki1 := (setRow_other Xabcsg (w.heap.size + 1 + 1) _ #[.int .u32 1, .slice (some ⟨Xabcs.heap.size, 0, none⟩) 2 2, .slice (some ⟨Xab.heap.size, 0, none⟩) 1 1] (row_ne ki1 k5 (by decide))).trans ki1
          replace ks1 := (setRow_other Xabcsg (w.heap.size + 1 + 1) _ #[.int .u32 1, .slice (some ⟨Xabcs.heap.size, 0, none⟩) 2 2, .slice (some ⟨Xab.heap.size, 0, none⟩) 1 1] (row_ne ks1 k5 (by decide))).trans ks1
          replace kw2 := (setRow_other Xabcsg (w.heap.size + 1 + 1) _ #[.int .u32 1, .slice (some ⟨Xabcs.heap.size, 0, none⟩) 2 2, .slice (some ⟨Xab.heap.size, 0, none⟩) 1 1] (row_ne kw2 k5 (by decide))).trans kw2
          replace ki2 := (setRow_other Xabcsg (w.heap.size + 1 + 1) _ #[.int .u32 1, .slice (some ⟨Xabcs.heap.size, 0, none⟩) 2 2, .slice (some ⟨Xab.heap.size, 0, none⟩) 1 1] (row_ne ki2 k5 (by decide))).trans ki2
          replace ks2 := (setRow_other Xabcsg (w.heap.size + 1 + 1) _ #[.int .u32 1, .slice (some ⟨Xabcs.heap.size, 0, none⟩) 2 2, .slice (some ⟨Xab.heap.size, 0, none⟩) 1 1] (row_ne ks2 k5 (by decide))).trans ks2
          replace kc := (setRow_other Xabcsg (w.heap.size + 1 + 1) _ #[.int .u32 1, .slice (some ⟨Xabcs.heap.size, 0, none⟩) 2 2, .slice (some ⟨Xab.heap.size, 0, none⟩) 1 1] (row_ne kc k5 (by decide))).trans kc
          replace kg := (setRow_other Xabcsg (w.heap.size + 1 + 1) _ #[.int .u32 1, .slice (some ⟨Xabcs.heap.size, 0, none⟩) 2 2, .slice (some ⟨Xab.heap.size, 0, none⟩) 1 1] (row_ne kg k5 (by decide))).trans kg
          replace k5 := setRow_heap Xabcsg (w.heap.size + 1 + 1) _ #[.int .u32 1, .slice (some ⟨Xabcs.heap.size, 0, none⟩) 2 2, .slice (some ⟨Xab.heap.size, 0, none⟩) 1 1] _ _ k5
          rw [← eXabcsgt] at k4 k5 kw1 ki1 ks1 kw2 ki2 ks2 kc kg ⊢
          have hXabcsgt : ∀ b, hf b → Xabcsgt.heap[b]? = W1.heap[b]? := fun b hb => by rw [eXabcsgt]; exact (setRow_other Xabcsg (w.heap.size + 1 + 1) b _ (by have := hfn.out b hb; omega)).trans (hXabcsg b hb)
          have zXabcsgt : w.heap.size + 5 ≤ Xabcsgt.heap.size := by rw [eXabcsgt, setRow_size]; exact zXabcsg
          have dXabcsgt : Below w.heap.size w Xabcsgt := by rw [eXabcsgt]; exact below_setRow dXabcsg (by omega) _
          clear eXabcsgt
          simp only [Act.put]
          refine hQ₁ _ _ ⟨⟨Xabcsgt, hXabcsgt⟩, rfl⟩ ?_
          clear hQ₁ hQp Q₁
          refine tree_end [] (by kernel_rfl) (fun _ _ d _ _ h => by cases d <;> exact h) (by kernel_rfl) rfl ⟨⟨Xabcsgt, hXabcsgt⟩, rfl⟩ ?_
          refine wpQuiet_nil ?_
          go_wp2_with fail
          exact bodyPost_ret (small_res k4 k5 rfl rfl) rfl ⟨_, _, _, _, _, _, _, _, rfl, ⟨⟨kw1, ki1, ks1⟩, ⟨kw2, ki2, ks2⟩, kg, kc⟩, lb2, dXabcsgt⟩
      · simp only [List.getElem?_cons_succ, List.getElem?_cons_zero, Option.toList]
        refine wpl_store_row rfl 26 _ _ rfl k4 (by kernel_rfl) (by kernel_rfl) (by kernel_rfl) rfl rfl ?_
        refine wpList_nil ?_
        obtain ⟨Xabs, eXabs⟩ : ∃ Y, Y = Xab.setRow (w.heap.size + 1) #[.int .u64 1073741824, .int .u64 134217728, .int .u64 1073741824, .int .u64 1048576, .int .i64 64, .int .i64 8, .int .i64 4] := ⟨_, rfl⟩
        replace k5 := (setRow_other Xab (w.heap.size + 1) _ #[.int .u64 1073741824, .int .u64 134217728, .int .u64 1073741824, .int .u64 1048576, .int .i64 64, .int .i64 8, .int .i64 4] (row_ne k5 k4 (by decide))).trans k5
        replace kw1 := (setRow_other Xab (w.heap.size + 1) _ #[.int .u64 1073741824, .int .u64 134217728, .int .u64 1073741824, .int .u64 1048576, .int .i64 64, .int .i64 8, .int .i64 4] (row_ne kw1 k4 (by decide))).trans kw1
        replace ki1 := (setRow_other Xab (w.heap.size + 1) _ #[.int .u64 1073741824, .int .u64 134217728, .int .u64 1073741824, .int .u64 1048576, .int .i64 64, .int .i64 8, .int .i64 4] (row_ne ki1 k4 (by decide))).trans ki1
        replace ks1 := (setRow_other Xab (w.heap.size + 1) _ #[.int .u64 1073741824, .int .u64 134217728, .int .u64 1073741824, .int .u64 1048576, .int .i64 64, .int .i64 8, .int .i64 4] (row_ne ks1 k4 (by decide))).trans ks1
        replace kw2 := (setRow_other Xab (w.heap.size + 1) _ #[.int .u64 1073741824, .int .u64 134217728, .int .u64 1073741824, .int .u64 1048576, .int .i64 64, .int .i64 8, .int .i64 4] (row_ne kw2 k4 (by decide))).trans kw2
        replace ki2 := (setRow_other Xab (w.heap.size + 1) _ #[.int .u64 1073741824, .int .u64 134217728, .int .u64 1073741824, .int .u64 1048576, .int .i64 64, .int .i64 8, .int .i64 4] (row_ne ki2 k4 (by decide))).trans ki2
        replace ks2 := (setRow_other Xab (w.heap.size + 1) _ #[.int .u64 1073741824, .int .u64 134217728, .int .u64 1073741824, .int .u64 1048576, .int .i64 64, .int .i64 8, .int .i64 4] (row_ne ks2 k4 (by decide))).trans ks2
        replace k4 := setRow_heap Xab (w.heap.size + 1) _ #[.int .u64 1073741824, .int .u64 134217728, .int .u64 1073741824, .int .u64 1048576, .int .i64 64, .int .i64 8, .int .i64 4] _ _ k4
        rw [← eXabs] at k4 k5 kw1 ki1 ks1 kw2 ki2 ks2 ⊢
        have hXabs : ∀ b, hf b → Xabs.heap[b]? = W1.heap[b]? := fun b hb => by rw [eXabs]; exact (setRow_other Xab (w.heap.size + 1) b _ (by have := hfn.out b hb; omega)).trans (hXab b hb)
        have zXabs : w.heap.size + 5 ≤ Xabs.heap.size := by rw [eXabs, setRow_size]; exact zXab
        have dXabs : Below w.heap.size w Xabs := by rw [eXabs]; exact below_setRow dXab (by omega) _
        clear eXabs
        simp only [Act.put]
        refine hQ₁ _ _ ⟨⟨Xabs, hXabs⟩, rfl⟩ ?_
        clear hQ₁ hQp Q₁
        refine tree_step [] [5, 7] 3 (by kernel_rfl) (fun _ _ d _ _ h => by cases d <;> exact h) (by kernel_rfl) (by simp) rfl ⟨⟨Xabs, hXabs⟩, rfl⟩ ?_
        simp only [List.filterMap_nil]
        refine wpQuiet_nil ?_
        intro i hi Q₁ hQ₁ hQp
        obtain rfl | rfl := mem2 hi
        · simp only [List.getElem?_cons_succ, List.getElem?_cons_zero, Option.toList]
          obtain ⟨Xabsg, eXabsg, sXabsg, kg, bXabsg⟩ := one_new Xabs (.cells (smallC ⟨#[111, 110, 101]⟩ 0 (List.ofFn f) bw1 bi1 bs1 ++ smallC ⟨#[116, 119, 111]⟩ 1 (List.ofFn f) bw2 bi2 bs2).toArray 50)
          replace kg := kg _ _ rfl
          replace k4 := (bXabsg.block _ (Array.getElem?_eq_some_iff.1 k4).1).trans k4
          replace k5 := (bXabsg.block _ (Array.getElem?_eq_some_iff.1 k5).1).trans k5
          replace kw1 := (bXabsg.block _ (Array.getElem?_eq_some_iff.1 kw1).1).trans kw1
          replace ki1 := (bXabsg.block _ (Array.getElem?_eq_some_iff.1 ki1).1).trans ki1
          replace ks1 := (bXabsg.block _ (Array.getElem?_eq_some_iff.1 ks1).1).trans ks1
          replace kw2 := (bXabsg.block _ (Array.getElem?_eq_some_iff.1 kw2).1).trans kw2
          replace ki2 := (bXabsg.block _ (Array.getElem?_eq_some_iff.1 ki2).1).trans ki2
          replace ks2 := (bXabsg.block _ (Array.getElem?_eq_some_iff.1 ks2).1).trans ks2
          have hXabsg : ∀ b, hf b → Xabsg.heap[b]? = W1.heap[b]? := fun b hb => (bXabsg.block b (by have := hfz.out b hb; have := zXabs; omega)).trans (hXabs b hb)
          have zXabsg : w.heap.size + 5 ≤ Xabsg.heap.size := Nat.le_trans zXabs bXabsg.size
          have dXabsg := dXabs.trans (bXabsg.mono (by omega))
          clear sXabsg
          refine wpl_build_slice rfl 28 2 _ rfl #[(0, .agg (smallC ⟨#[111, 110, 101]⟩ 0 (List.ofFn f) bw1 bi1 bs1).toArray), (1, .agg (smallC ⟨#[116, 119, 111]⟩ 1 (List.ofFn f) bw2 bi2 bs2).toArray)] (by simp [Act.eval]) _ _ (small_rows _ _ f _ _ _ _ _ _ Xabs) ?_
          refine wpList_nil ?_
          simp only [Act.put, List.setIfInBounds_toArray, List.set_cons_succ, List.set_cons_zero]
          rw [← eXabsg]
          clear eXabsg
          refine hQ₁ _ _ ⟨⟨Xabsg, hXabsg⟩, rfl⟩ ?_
          clear hQ₁ hQp Q₁
          refine tree_step [] [7] 2 (by kernel_rfl) (fun _ _ d _ _ h => by cases d <;> exact h) (by kernel_rfl) (by simp) rfl ⟨⟨Xabsg, hXabsg⟩, rfl⟩ ?_
          simp only [List.filterMap_nil]
          refine wpQuiet_nil ?_
          intro i hi Q₁ hQ₁ hQp
          obtain rfl := mem1 hi
          simp only [List.getElem?_cons_succ, List.getElem?_cons_zero, Option.toList]
          obtain ⟨Xabsgc, eXabsgc, sXabsgc, kc, bXabsgc⟩ := one_new Xabsg (.cells #[.int .u64 1107296256, .int .u64 (p * 4096), .int .i64 0, .int .i64 3, .int .u64 268435456, .int .i64 1, .int .i64 1, .int .u64 536870912] 76)
          replace kc := kc _ _ rfl
          replace k4 := (bXabsgc.block _ (Array.getElem?_eq_some_iff.1 k4).1).trans k4
          replace k5 := (bXabsgc.block _ (Array.getElem?_eq_some_iff.1 k5).1).trans k5
          replace kw1 := (bXabsgc.block _ (Array.getElem?_eq_some_iff.1 kw1).1).trans kw1
          replace ki1 := (bXabsgc.block _ (Array.getElem?_eq_some_iff.1 ki1).1).trans ki1
          replace ks1 := (bXabsgc.block _ (Array.getElem?_eq_some_iff.1 ks1).1).trans ks1
          replace kw2 := (bXabsgc.block _ (Array.getElem?_eq_some_iff.1 kw2).1).trans kw2
          replace ki2 := (bXabsgc.block _ (Array.getElem?_eq_some_iff.1 ki2).1).trans ki2
          replace ks2 := (bXabsgc.block _ (Array.getElem?_eq_some_iff.1 ks2).1).trans ks2
          replace kg := (bXabsgc.block _ (Array.getElem?_eq_some_iff.1 kg).1).trans kg
          have hXabsgc : ∀ b, hf b → Xabsgc.heap[b]? = W1.heap[b]? := fun b hb => (bXabsgc.block b (by have := hfz.out b hb; have := zXabsg; omega)).trans (hXabsg b hb)
          have zXabsgc : w.heap.size + 5 ≤ Xabsgc.heap.size := Nat.le_trans zXabsg bXabsgc.size
          have dXabsgc := dXabsg.trans (bXabsgc.mono (by omega))
          clear sXabsgc
          go_wp2_with fail
          rw [← eXabsgc]
          clear eXabsgc
          refine hQ₁ _ _ ⟨⟨Xabsgc, hXabsgc⟩, rfl⟩ ?_
          clear hQ₁ hQp Q₁
          refine tree_step [8] [10] 0 (by kernel_rfl) (fun _ _ d _ _ h => by cases d <;> exact h) (by kernel_rfl) (by simp) rfl ⟨⟨Xabsgc, hXabsgc⟩, rfl⟩ ?_
          simp only [List.filterMap_cons, List.filterMap_nil, List.getElem?_cons_succ, List.getElem?_cons_zero]
          repeat (change wpQuiet _ _ _ _ (List.cons _ _) _; go_big_quiet_step (fail))
          refine wpQuiet_nil ?_
          intro i hi Q₁ hQ₁ hQp
          obtain rfl := mem1 hi
          simp only [List.getElem?_cons_succ, List.getElem?_cons_zero, Option.toList]
          refine wpl_store_row rfl 31 _ _ rfl k5 (by kernel_rfl) (by kernel_rfl) (by kernel_rfl) rfl rfl ?_
          refine wpList_nil ?_
          obtain ⟨Xabsgct, eXabsgct⟩ : ∃ Y, Y = Xabsgc.setRow (w.heap.size + 1 + 1) #[.int .u32 1, .slice (some ⟨Xabs.heap.size, 0, none⟩) 2 2, .slice (some ⟨Xabsg.heap.size, 0, none⟩) 1 1] := ⟨_, rfl⟩
          replace k4 := (setRow_other Xabsgc (w.heap.size + 1 + 1) _ #[.int .u32 1, .slice (some ⟨Xabs.heap.size, 0, none⟩) 2 2, .slice (some ⟨Xabsg.heap.size, 0, none⟩) 1 1] (row_ne k4 k5 (by decide))).trans k4
          replace kw1 := (setRow_other Xabsgc (w.heap.size + 1 + 1) _ #[.int .u32 1, .slice (some ⟨Xabs.heap.size, 0, none⟩) 2 2, .slice (some ⟨Xabsg.heap.size, 0, none⟩) 1 1] (row_ne kw1 k5 (by decide))).trans kw1
          replace ki1 := (setRow_other Xabsgc (w.heap.size + 1 + 1) _ #[.int .u32 1, .slice (some ⟨Xabs.heap.size, 0, none⟩) 2 2, .slice (some ⟨Xabsg.heap.size, 0, none⟩) 1 1] (row_ne ki1 k5 (by decide))).trans ki1
          replace ks1 := (setRow_other Xabsgc (w.heap.size + 1 + 1) _ #[.int .u32 1, .slice (some ⟨Xabs.heap.size, 0, none⟩) 2 2, .slice (some ⟨Xabsg.heap.size, 0, none⟩) 1 1] (row_ne ks1 k5 (by decide))).trans ks1
          replace kw2 := (setRow_other Xabsgc (w.heap.size + 1 + 1) _ #[.int .u32 1, .slice (some ⟨Xabs.heap.size, 0, none⟩) 2 2, .slice (some ⟨Xabsg.heap.size, 0, none⟩) 1 1] (row_ne kw2 k5 (by decide))).trans kw2
          replace ki2 := (setRow_other Xabsgc (w.heap.size + 1 + 1) _ #[.int .u32 1, .slice (some ⟨Xabs.heap.size, 0, none⟩) 2 2, .slice (some ⟨Xabsg.heap.size, 0, none⟩) 1 1] (row_ne ki2 k5 (by decide))).trans ki2
          replace ks2 := (setRow_other Xabsgc (w.heap.size + 1 + 1) _ #[.int .u32 1, .slice (some ⟨Xabs.heap.size, 0, none⟩) 2 2, .slice (some ⟨Xabsg.heap.size, 0, none⟩) 1 1] (row_ne ks2 k5 (by decide))).trans ks2
          replace kg := (setRow_other Xabsgc (w.heap.size + 1 + 1) _ #[.int .u32 1, .slice (some ⟨Xabs.heap.size, 0, none⟩) 2 2, .slice (some ⟨Xabsg.heap.size, 0, none⟩) 1 1] (row_ne kg k5 (by decide))).trans kg
          replace kc := (setRow_other Xabsgc (w.heap.size + 1 + 1) _ #[.int .u32 1, .slice (some ⟨Xabs.heap.size, 0, none⟩) 2 2, .slice (some ⟨Xabsg.heap.size, 0, none⟩) 1 1] (row_ne kc k5 (by decide))).trans kc
          replace k5 := setRow_heap Xabsgc (w.heap.size + 1 + 1) _ #[.int .u32 1, .slice (some ⟨Xabs.heap.size, 0, none⟩) 2 2, .slice (some ⟨Xabsg.heap.size, 0, none⟩) 1 1] _ _ k5
          rw [← eXabsgct] at k4 k5 kw1 ki1 ks1 kw2 ki2 ks2 kg kc ⊢
          have hXabsgct : ∀ b, hf b → Xabsgct.heap[b]? = W1.heap[b]? := fun b hb => by rw [eXabsgct]; exact (setRow_other Xabsgc (w.heap.size + 1 + 1) b _ (by have := hfn.out b hb; omega)).trans (hXabsgc b hb)
          have zXabsgct : w.heap.size + 5 ≤ Xabsgct.heap.size := by rw [eXabsgct, setRow_size]; exact zXabsgc
          have dXabsgct : Below w.heap.size w Xabsgct := by rw [eXabsgct]; exact below_setRow dXabsgc (by omega) _
          clear eXabsgct
          simp only [Act.put]
          refine hQ₁ _ _ ⟨⟨Xabsgct, hXabsgct⟩, rfl⟩ ?_
          clear hQ₁ hQp Q₁
          refine tree_end [] (by kernel_rfl) (fun _ _ d _ _ h => by cases d <;> exact h) (by kernel_rfl) rfl ⟨⟨Xabsgct, hXabsgct⟩, rfl⟩ ?_
          refine wpQuiet_nil ?_
          go_wp2_with fail
          exact bodyPost_ret (small_res k4 k5 rfl rfl) rfl ⟨_, _, _, _, _, _, _, _, rfl, ⟨⟨kw1, ki1, ks1⟩, ⟨kw2, ki2, ks2⟩, kg, kc⟩, lb2, dXabsgct⟩
        · simp only [List.getElem?_cons_succ, List.getElem?_cons_zero, Option.toList]
          obtain ⟨Xabsc, eXabsc, sXabsc, kc, bXabsc⟩ := one_new Xabs (.cells #[.int .u64 1107296256, .int .u64 (p * 4096), .int .i64 0, .int .i64 3, .int .u64 268435456, .int .i64 1, .int .i64 1, .int .u64 536870912] 76)
          replace kc := kc _ _ rfl
          replace k4 := (bXabsc.block _ (Array.getElem?_eq_some_iff.1 k4).1).trans k4
          replace k5 := (bXabsc.block _ (Array.getElem?_eq_some_iff.1 k5).1).trans k5
          replace kw1 := (bXabsc.block _ (Array.getElem?_eq_some_iff.1 kw1).1).trans kw1
          replace ki1 := (bXabsc.block _ (Array.getElem?_eq_some_iff.1 ki1).1).trans ki1
          replace ks1 := (bXabsc.block _ (Array.getElem?_eq_some_iff.1 ks1).1).trans ks1
          replace kw2 := (bXabsc.block _ (Array.getElem?_eq_some_iff.1 kw2).1).trans kw2
          replace ki2 := (bXabsc.block _ (Array.getElem?_eq_some_iff.1 ki2).1).trans ki2
          replace ks2 := (bXabsc.block _ (Array.getElem?_eq_some_iff.1 ks2).1).trans ks2
          have hXabsc : ∀ b, hf b → Xabsc.heap[b]? = W1.heap[b]? := fun b hb => (bXabsc.block b (by have := hfz.out b hb; have := zXabs; omega)).trans (hXabs b hb)
          have zXabsc : w.heap.size + 5 ≤ Xabsc.heap.size := Nat.le_trans zXabs bXabsc.size
          have dXabsc := dXabs.trans (bXabsc.mono (by omega))
          clear sXabsc
          go_wp2_with fail
          rw [← eXabsc]
          clear eXabsc
          refine hQ₁ _ _ ⟨⟨Xabsc, hXabsc⟩, rfl⟩ ?_
          clear hQ₁ hQp Q₁
          refine tree_step [] [5] 2 (by kernel_rfl) (fun _ _ d _ _ h => by cases d <;> exact h) (by kernel_rfl) (by simp) rfl ⟨⟨Xabsc, hXabsc⟩, rfl⟩ ?_
          simp only [List.filterMap_nil]
          refine wpQuiet_nil ?_
          intro i hi Q₁ hQ₁ hQp
          obtain rfl := mem1 hi
          simp only [List.getElem?_cons_succ, List.getElem?_cons_zero, Option.toList]
          obtain ⟨Xabscg, eXabscg, sXabscg, kg, bXabscg⟩ := one_new Xabsc (.cells (smallC ⟨#[111, 110, 101]⟩ 0 (List.ofFn f) bw1 bi1 bs1 ++ smallC ⟨#[116, 119, 111]⟩ 1 (List.ofFn f) bw2 bi2 bs2).toArray 50)
          replace kg := kg _ _ rfl
          replace k4 := (bXabscg.block _ (Array.getElem?_eq_some_iff.1 k4).1).trans k4
          replace k5 := (bXabscg.block _ (Array.getElem?_eq_some_iff.1 k5).1).trans k5
          replace kw1 := (bXabscg.block _ (Array.getElem?_eq_some_iff.1 kw1).1).trans kw1
          replace ki1 := (bXabscg.block _ (Array.getElem?_eq_some_iff.1 ki1).1).trans ki1
          replace ks1 := (bXabscg.block _ (Array.getElem?_eq_some_iff.1 ks1).1).trans ks1
          replace kw2 := (bXabscg.block _ (Array.getElem?_eq_some_iff.1 kw2).1).trans kw2
          replace ki2 := (bXabscg.block _ (Array.getElem?_eq_some_iff.1 ki2).1).trans ki2
          replace ks2 := (bXabscg.block _ (Array.getElem?_eq_some_iff.1 ks2).1).trans ks2
          replace kc := (bXabscg.block _ (Array.getElem?_eq_some_iff.1 kc).1).trans kc
          have hXabscg : ∀ b, hf b → Xabscg.heap[b]? = W1.heap[b]? := fun b hb => (bXabscg.block b (by have := hfz.out b hb; have := zXabsc; omega)).trans (hXabsc b hb)
          have zXabscg : w.heap.size + 5 ≤ Xabscg.heap.size := Nat.le_trans zXabsc bXabscg.size
          have dXabscg := dXabsc.trans (bXabscg.mono (by omega))
          clear sXabscg
          refine wpl_build_slice rfl 28 2 _ rfl #[(0, .agg (smallC ⟨#[111, 110, 101]⟩ 0 (List.ofFn f) bw1 bi1 bs1).toArray), (1, .agg (smallC ⟨#[116, 119, 111]⟩ 1 (List.ofFn f) bw2 bi2 bs2).toArray)] (by simp [Act.eval]) _ _ (small_rows _ _ f _ _ _ _ _ _ Xabsc) ?_
          refine wpList_nil ?_
          simp only [Act.put, List.setIfInBounds_toArray, List.set_cons_succ, List.set_cons_zero]
          rw [← eXabscg]
          clear eXabscg
          refine hQ₁ _ _ ⟨⟨Xabscg, hXabscg⟩, rfl⟩ ?_
          clear hQ₁ hQp Q₁
          refine tree_step [8] [10] 0 (by kernel_rfl) (fun _ _ d _ _ h => by cases d <;> exact h) (by kernel_rfl) (by simp) rfl ⟨⟨Xabscg, hXabscg⟩, rfl⟩ ?_
          simp only [List.filterMap_cons, List.filterMap_nil, List.getElem?_cons_succ, List.getElem?_cons_zero]
          repeat (change wpQuiet _ _ _ _ (List.cons _ _) _; go_big_quiet_step (fail))
          refine wpQuiet_nil ?_
          intro i hi Q₁ hQ₁ hQp
          obtain rfl := mem1 hi
          simp only [List.getElem?_cons_succ, List.getElem?_cons_zero, Option.toList]
          refine wpl_store_row rfl 31 _ _ rfl k5 (by kernel_rfl) (by kernel_rfl) (by kernel_rfl) rfl rfl ?_
          refine wpList_nil ?_
          obtain ⟨Xabscgt, eXabscgt⟩ : ∃ Y, Y = Xabscg.setRow (w.heap.size + 1 + 1) #[.int .u32 1, .slice (some ⟨Xabsc.heap.size, 0, none⟩) 2 2, .slice (some ⟨Xabs.heap.size, 0, none⟩) 1 1] := ⟨_, rfl⟩
          replace k4 := (setRow_other Xabscg (w.heap.size + 1 + 1) _ #[.int .u32 1, .slice (some ⟨Xabsc.heap.size, 0, none⟩) 2 2, .slice (some ⟨Xabs.heap.size, 0, none⟩) 1 1] (row_ne k4 k5 (by decide))).trans k4
          replace kw1 := (setRow_other Xabscg (w.heap.size + 1 + 1) _ #[.int .u32 1, .slice (some ⟨Xabsc.heap.size, 0, none⟩) 2 2, .slice (some ⟨Xabs.heap.size, 0, none⟩) 1 1] (row_ne kw1 k5 (by decide))).trans kw1
          replace ki1 := (setRow_other Xabscg (w.heap.size + 1 + 1) _ #[.int .u32 1, .slice (some ⟨Xabsc.heap.size, 0, none⟩) 2 2, .slice (some ⟨Xabs.heap.size, 0, none⟩) 1 1] (row_ne ki1 k5 (by decide))).trans ki1
          replace ks1 := (setRow_other Xabscg (w.heap.size + 1 + 1) _ #[.int .u32 1, .slice (some ⟨Xabsc.heap.size, 0, none⟩) 2 2, .slice (some ⟨Xabs.heap.size, 0, none⟩) 1 1] (row_ne ks1 k5 (by decide))).trans ks1
          replace kw2 := (setRow_other Xabscg (w.heap.size + 1 + 1) _ #[.int .u32 1, .slice (some ⟨Xabsc.heap.size, 0, none⟩) 2 2, .slice (some ⟨Xabs.heap.size, 0, none⟩) 1 1] (row_ne kw2 k5 (by decide))).trans kw2
          replace ki2 := (setRow_other Xabscg (w.heap.size + 1 + 1) _ #[.int .u32 1, .slice (some ⟨Xabsc.heap.size, 0, none⟩) 2 2, .slice (some ⟨Xabs.heap.size, 0, none⟩) 1 1] (row_ne ki2 k5 (by decide))).trans ki2
          replace ks2 := (setRow_other Xabscg (w.heap.size + 1 + 1) _ #[.int .u32 1, .slice (some ⟨Xabsc.heap.size, 0, none⟩) 2 2, .slice (some ⟨Xabs.heap.size, 0, none⟩) 1 1] (row_ne ks2 k5 (by decide))).trans ks2
          replace kc := (setRow_other Xabscg (w.heap.size + 1 + 1) _ #[.int .u32 1, .slice (some ⟨Xabsc.heap.size, 0, none⟩) 2 2, .slice (some ⟨Xabs.heap.size, 0, none⟩) 1 1] (row_ne kc k5 (by decide))).trans kc
          replace kg := (setRow_other Xabscg (w.heap.size + 1 + 1) _ #[.int .u32 1, .slice (some ⟨Xabsc.heap.size, 0, none⟩) 2 2, .slice (some ⟨Xabs.heap.size, 0, none⟩) 1 1] (row_ne kg k5 (by decide))).trans kg
          replace k5 := setRow_heap Xabscg (w.heap.size + 1 + 1) _ #[.int .u32 1, .slice (some ⟨Xabsc.heap.size, 0, none⟩) 2 2, .slice (some ⟨Xabs.heap.size, 0, none⟩) 1 1] _ _ k5
          rw [← eXabscgt] at k4 k5 kw1 ki1 ks1 kw2 ki2 ks2 kc kg ⊢
          have hXabscgt : ∀ b, hf b → Xabscgt.heap[b]? = W1.heap[b]? := fun b hb => by rw [eXabscgt]; exact (setRow_other Xabscg (w.heap.size + 1 + 1) b _ (by have := hfn.out b hb; omega)).trans (hXabscg b hb)
          have zXabscgt : w.heap.size + 5 ≤ Xabscgt.heap.size := by rw [eXabscgt, setRow_size]; exact zXabscg
          have dXabscgt : Below w.heap.size w Xabscgt := by rw [eXabscgt]; exact below_setRow dXabscg (by omega) _
          clear eXabscgt
          simp only [Act.put]
          refine hQ₁ _ _ ⟨⟨Xabscgt, hXabscgt⟩, rfl⟩ ?_
          clear hQ₁ hQp Q₁
          refine tree_end [] (by kernel_rfl) (fun _ _ d _ _ h => by cases d <;> exact h) (by kernel_rfl) rfl ⟨⟨Xabscgt, hXabscgt⟩, rfl⟩ ?_
          refine wpQuiet_nil ?_
          go_wp2_with fail
          exact bodyPost_ret (small_res k4 k5 rfl rfl) rfl ⟨_, _, _, _, _, _, _, _, rfl, ⟨⟨kw1, ki1, ks1⟩, ⟨kw2, ki2, ks2⟩, kg, kc⟩, lb2, dXabscgt⟩
    · simp only [List.getElem?_cons_succ, List.getElem?_cons_zero, Option.toList]
      obtain ⟨Xac, eXac, sXac, kc, bXac⟩ := one_new Xa (.cells #[.int .u64 1107296256, .int .u64 (p * 4096), .int .i64 0, .int .i64 3, .int .u64 268435456, .int .i64 1, .int .i64 1, .int .u64 536870912] 76)
      replace kc := kc _ _ rfl
      replace k4 := (bXac.block _ (Array.getElem?_eq_some_iff.1 k4).1).trans k4
      replace k5 := (bXac.block _ (Array.getElem?_eq_some_iff.1 k5).1).trans k5
      replace kw1 := (bXac.block _ (Array.getElem?_eq_some_iff.1 kw1).1).trans kw1
      replace ki1 := (bXac.block _ (Array.getElem?_eq_some_iff.1 ki1).1).trans ki1
      replace ks1 := (bXac.block _ (Array.getElem?_eq_some_iff.1 ks1).1).trans ks1
      have hXac : ∀ b, hf b → Xac.heap[b]? = W1.heap[b]? := fun b hb => (bXac.block b (by have := hfz.out b hb; have := zXa; omega)).trans (hXa b hb)
      have zXac : w.heap.size + 5 ≤ Xac.heap.size := Nat.le_trans zXa bXac.size
      have dXac := dXa.trans (bXac.mono (by omega))
      clear sXac
      go_wp2_with fail
      rw [← eXac]
      clear eXac
      refine hQ₁ _ _ ⟨⟨Xac, hXac⟩, rfl⟩ ?_
      clear hQ₁ hQp Q₁
      refine tree_step [] [4] 4 (by kernel_rfl) (fun _ _ d _ _ h => by cases d <;> exact h) (by kernel_rfl) (by simp) rfl ⟨⟨Xac, hXac⟩, rfl⟩ ?_
      simp only [List.filterMap_nil]
      refine wpQuiet_nil ?_
      intro i hi Q₁ hQ₁ hQp
      obtain rfl := mem1 hi
      simp only [List.getElem?_cons_succ, List.getElem?_cons_zero, Option.toList]
      go_wp2_with fail
      refine (hg2.out Xac).mono ?_; rintro e Xacb ⟨bw2, bi2, bs2, rfl, ⟨kw2, ki2, ks2⟩, lb2, bXacb⟩
      replace lb2 : w.heap.size ≤ bw2 := by omega
      replace k4 := (bXacb.block _ (Array.getElem?_eq_some_iff.1 k4).1).trans k4
      replace k5 := (bXacb.block _ (Array.getElem?_eq_some_iff.1 k5).1).trans k5
      replace kw1 := (bXacb.block _ (Array.getElem?_eq_some_iff.1 kw1).1).trans kw1
      replace ki1 := (bXacb.block _ (Array.getElem?_eq_some_iff.1 ki1).1).trans ki1
      replace ks1 := (bXacb.block _ (Array.getElem?_eq_some_iff.1 ks1).1).trans ks1
      replace kc := (bXacb.block _ (Array.getElem?_eq_some_iff.1 kc).1).trans kc
      have hXacb : ∀ b, hf b → Xacb.heap[b]? = W1.heap[b]? := fun b hb => (bXacb.block b (by have := hfz.out b hb; have := zXac; omega)).trans (hXac b hb)
      have zXacb : w.heap.size + 5 ≤ Xacb.heap.size := Nat.le_trans zXac bXacb.size
      have dXacb := dXac.trans (bXacb.mono (by omega))
      go_wp2_with fail
      refine hQ₁ _ _ ⟨⟨Xacb, hXacb⟩, rfl⟩ ?_
      clear hQ₁ hQp Q₁
      refine tree_step [] [5, 9] 3 (by kernel_rfl) (fun _ _ d _ _ h => by cases d <;> exact h) (by kernel_rfl) (by simp) rfl ⟨⟨Xacb, hXacb⟩, rfl⟩ ?_
      simp only [List.filterMap_nil]
      refine wpQuiet_nil ?_
      intro i hi Q₁ hQ₁ hQp
      obtain rfl | rfl := mem2 hi
      · simp only [List.getElem?_cons_succ, List.getElem?_cons_zero, Option.toList]
        obtain ⟨Xacbg, eXacbg, sXacbg, kg, bXacbg⟩ := one_new Xacb (.cells (smallC ⟨#[111, 110, 101]⟩ 0 (List.ofFn f) bw1 bi1 bs1 ++ smallC ⟨#[116, 119, 111]⟩ 1 (List.ofFn f) bw2 bi2 bs2).toArray 50)
        replace kg := kg _ _ rfl
        replace k4 := (bXacbg.block _ (Array.getElem?_eq_some_iff.1 k4).1).trans k4
        replace k5 := (bXacbg.block _ (Array.getElem?_eq_some_iff.1 k5).1).trans k5
        replace kw1 := (bXacbg.block _ (Array.getElem?_eq_some_iff.1 kw1).1).trans kw1
        replace ki1 := (bXacbg.block _ (Array.getElem?_eq_some_iff.1 ki1).1).trans ki1
        replace ks1 := (bXacbg.block _ (Array.getElem?_eq_some_iff.1 ks1).1).trans ks1
        replace kc := (bXacbg.block _ (Array.getElem?_eq_some_iff.1 kc).1).trans kc
        replace kw2 := (bXacbg.block _ (Array.getElem?_eq_some_iff.1 kw2).1).trans kw2
        replace ki2 := (bXacbg.block _ (Array.getElem?_eq_some_iff.1 ki2).1).trans ki2
        replace ks2 := (bXacbg.block _ (Array.getElem?_eq_some_iff.1 ks2).1).trans ks2
        have hXacbg : ∀ b, hf b → Xacbg.heap[b]? = W1.heap[b]? := fun b hb => (bXacbg.block b (by have := hfz.out b hb; have := zXacb; omega)).trans (hXacb b hb)
        have zXacbg : w.heap.size + 5 ≤ Xacbg.heap.size := Nat.le_trans zXacb bXacbg.size
        have dXacbg := dXacb.trans (bXacbg.mono (by omega))
        clear sXacbg
        refine wpl_build_slice rfl 28 2 _ rfl #[(0, .agg (smallC ⟨#[111, 110, 101]⟩ 0 (List.ofFn f) bw1 bi1 bs1).toArray), (1, .agg (smallC ⟨#[116, 119, 111]⟩ 1 (List.ofFn f) bw2 bi2 bs2).toArray)] (by simp [Act.eval]) _ _ (small_rows _ _ f _ _ _ _ _ _ Xacb) ?_
        refine wpList_nil ?_
        simp only [Act.put, List.setIfInBounds_toArray, List.set_cons_succ, List.set_cons_zero]
        rw [← eXacbg]
        clear eXacbg
        refine hQ₁ _ _ ⟨⟨Xacbg, hXacbg⟩, rfl⟩ ?_
        clear hQ₁ hQp Q₁
        refine tree_step [8] [9] 1 (by kernel_rfl) (fun _ _ d _ _ h => by cases d <;> exact h) (by kernel_rfl) (by simp) rfl ⟨⟨Xacbg, hXacbg⟩, rfl⟩ ?_
        simp only [List.filterMap_cons, List.filterMap_nil, List.getElem?_cons_succ, List.getElem?_cons_zero]
        repeat (change wpQuiet _ _ _ _ (List.cons _ _) _; go_big_quiet_step (fail))
        refine wpQuiet_nil ?_
        intro i hi Q₁ hQ₁ hQp
        obtain rfl := mem1 hi
        simp only [List.getElem?_cons_succ, List.getElem?_cons_zero, Option.toList]
        refine wpl_store_row rfl 26 _ _ rfl k4 (by kernel_rfl) (by kernel_rfl) (by kernel_rfl) rfl rfl ?_
        refine wpList_nil ?_
        obtain ⟨Xacbgs, eXacbgs⟩ : ∃ Y, Y = Xacbg.setRow (w.heap.size + 1) #[.int .u64 1073741824, .int .u64 134217728, .int .u64 1073741824, .int .u64 1048576, .int .i64 64, .int .i64 8, .int .i64 4] := ⟨_, rfl⟩
        replace k5 := (setRow_other Xacbg (w.heap.size + 1) _ #[.int .u64 1073741824, .int .u64 134217728, .int .u64 1073741824, .int .u64 1048576, .int .i64 64, .int .i64 8, .int .i64 4] (row_ne k5 k4 (by decide))).trans k5
        replace kw1 := (setRow_other Xacbg (w.heap.size + 1) _ #[.int .u64 1073741824, .int .u64 134217728, .int .u64 1073741824, .int .u64 1048576, .int .i64 64, .int .i64 8, .int .i64 4] (row_ne kw1 k4 (by decide))).trans kw1
        replace ki1 := (setRow_other Xacbg (w.heap.size + 1) _ #[.int .u64 1073741824, .int .u64 134217728, .int .u64 1073741824, .int .u64 1048576, .int .i64 64, .int .i64 8, .int .i64 4] (row_ne ki1 k4 (by decide))).trans ki1
        replace ks1 := (setRow_other Xacbg (w.heap.size + 1) _ #[.int .u64 1073741824, .int .u64 134217728, .int .u64 1073741824, .int .u64 1048576, .int .i64 64, .int .i64 8, .int .i64 4] (row_ne ks1 k4 (by decide))).trans ks1
        replace kc := (setRow_other Xacbg (w.heap.size + 1) _ #[.int .u64 1073741824, .int .u64 134217728, .int .u64 1073741824, .int .u64 1048576, .int .i64 64, .int .i64 8, .int .i64 4] (row_ne kc k4 (by decide))).trans kc
        replace kw2 := (setRow_other Xacbg (w.heap.size + 1) _ #[.int .u64 1073741824, .int .u64 134217728, .int .u64 1073741824, .int .u64 1048576, .int .i64 64, .int .i64 8, .int .i64 4] (row_ne kw2 k4 (by decide))).trans kw2
        replace ki2 := (setRow_other Xacbg (w.heap.size + 1) _ #[.int .u64 1073741824, .int .u64 134217728, .int .u64 1073741824, .int .u64 1048576, .int .i64 64, .int .i64 8, .int .i64 4] (row_ne ki2 k4 (by decide))).trans ki2
        replace ks2 := (setRow_other Xacbg (w.heap.size + 1) _ #[.int .u64 1073741824, .int .u64 134217728, .int .u64 1073741824, .int .u64 1048576, .int .i64 64, .int .i64 8, .int .i64 4] (row_ne ks2 k4 (by decide))).trans ks2
        replace kg := (setRow_other Xacbg (w.heap.size + 1) _ #[.int .u64 1073741824, .int .u64 134217728, .int .u64 1073741824, .int .u64 1048576, .int .i64 64, .int .i64 8, .int .i64 4] (row_ne kg k4 (by decide))).trans kg
        replace k4 := setRow_heap Xacbg (w.heap.size + 1) _ #[.int .u64 1073741824, .int .u64 134217728, .int .u64 1073741824, .int .u64 1048576, .int .i64 64, .int .i64 8, .int .i64 4] _ _ k4
        rw [← eXacbgs] at k4 k5 kw1 ki1 ks1 kc kw2 ki2 ks2 kg ⊢
        have hXacbgs : ∀ b, hf b → Xacbgs.heap[b]? = W1.heap[b]? := fun b hb => by rw [eXacbgs]; exact (setRow_other Xacbg (w.heap.size + 1) b _ (by have := hfn.out b hb; omega)).trans (hXacbg b hb)
        have zXacbgs : w.heap.size + 5 ≤ Xacbgs.heap.size := by rw [eXacbgs, setRow_size]; exact zXacbg
        have dXacbgs : Below w.heap.size w Xacbgs := by rw [eXacbgs]; exact below_setRow dXacbg (by omega) _
        clear eXacbgs
        simp only [Act.put]
        refine hQ₁ _ _ ⟨⟨Xacbgs, hXacbgs⟩, rfl⟩ ?_
        clear hQ₁ hQp Q₁
        refine tree_step [] [10] 0 (by kernel_rfl) (fun _ _ d _ _ h => by cases d <;> exact h) (by kernel_rfl) (by simp) rfl ⟨⟨Xacbgs, hXacbgs⟩, rfl⟩ ?_
        simp only [List.filterMap_nil]
        refine wpQuiet_nil ?_
        intro i hi Q₁ hQ₁ hQp
        obtain rfl := mem1 hi
        simp only [List.getElem?_cons_succ, List.getElem?_cons_zero, Option.toList]
        refine wpl_store_row rfl 31 _ _ rfl k5 (by kernel_rfl) (by kernel_rfl) (by kernel_rfl) rfl rfl ?_
        refine wpList_nil ?_
        obtain ⟨Xacbgst, eXacbgst⟩ : ∃ Y, Y = Xacbgs.setRow (w.heap.size + 1 + 1) #[.int .u32 1, .slice (some ⟨Xacb.heap.size, 0, none⟩) 2 2, .slice (some ⟨Xa.heap.size, 0, none⟩) 1 1] := ⟨_, rfl⟩
        replace k4 := (setRow_other Xacbgs (w.heap.size + 1 + 1) _ #[.int .u32 1, .slice (some ⟨Xacb.heap.size, 0, none⟩) 2 2, .slice (some ⟨Xa.heap.size, 0, none⟩) 1 1] (row_ne k4 k5 (by decide))).trans k4
        replace kw1 := (setRow_other Xacbgs (w.heap.size + 1 + 1) _ #[.int .u32 1, .slice (some ⟨Xacb.heap.size, 0, none⟩) 2 2, .slice (some ⟨Xa.heap.size, 0, none⟩) 1 1] (row_ne kw1 k5 (by decide))).trans kw1
        replace ki1 := (setRow_other Xacbgs (w.heap.size + 1 + 1) _ #[.int .u32 1, .slice (some ⟨Xacb.heap.size, 0, none⟩) 2 2, .slice (some ⟨Xa.heap.size, 0, none⟩) 1 1] (row_ne ki1 k5 (by decide))).trans ki1
        replace ks1 := (setRow_other Xacbgs (w.heap.size + 1 + 1) _ #[.int .u32 1, .slice (some ⟨Xacb.heap.size, 0, none⟩) 2 2, .slice (some ⟨Xa.heap.size, 0, none⟩) 1 1] (row_ne ks1 k5 (by decide))).trans ks1
        replace kc := (setRow_other Xacbgs (w.heap.size + 1 + 1) _ #[.int .u32 1, .slice (some ⟨Xacb.heap.size, 0, none⟩) 2 2, .slice (some ⟨Xa.heap.size, 0, none⟩) 1 1] (row_ne kc k5 (by decide))).trans kc
        replace kw2 := (setRow_other Xacbgs (w.heap.size + 1 + 1) _ #[.int .u32 1, .slice (some ⟨Xacb.heap.size, 0, none⟩) 2 2, .slice (some ⟨Xa.heap.size, 0, none⟩) 1 1] (row_ne kw2 k5 (by decide))).trans kw2
        replace ki2 := (setRow_other Xacbgs (w.heap.size + 1 + 1) _ #[.int .u32 1, .slice (some ⟨Xacb.heap.size, 0, none⟩) 2 2, .slice (some ⟨Xa.heap.size, 0, none⟩) 1 1] (row_ne ki2 k5 (by decide))).trans ki2
        replace ks2 := (setRow_other Xacbgs (w.heap.size + 1 + 1) _ #[.int .u32 1, .slice (some ⟨Xacb.heap.size, 0, none⟩) 2 2, .slice (some ⟨Xa.heap.size, 0, none⟩) 1 1] (row_ne ks2 k5 (by decide))).trans ks2
        replace kg := (setRow_other Xacbgs (w.heap.size + 1 + 1) _ #[.int .u32 1, .slice (some ⟨Xacb.heap.size, 0, none⟩) 2 2, .slice (some ⟨Xa.heap.size, 0, none⟩) 1 1] (row_ne kg k5 (by decide))).trans kg
        replace k5 := setRow_heap Xacbgs (w.heap.size + 1 + 1) _ #[.int .u32 1, .slice (some ⟨Xacb.heap.size, 0, none⟩) 2 2, .slice (some ⟨Xa.heap.size, 0, none⟩) 1 1] _ _ k5
        rw [← eXacbgst] at k4 k5 kw1 ki1 ks1 kc kw2 ki2 ks2 kg ⊢
        have hXacbgst : ∀ b, hf b → Xacbgst.heap[b]? = W1.heap[b]? := fun b hb => by rw [eXacbgst]; exact (setRow_other Xacbgs (w.heap.size + 1 + 1) b _ (by have := hfn.out b hb; omega)).trans (hXacbgs b hb)
        have zXacbgst : w.heap.size + 5 ≤ Xacbgst.heap.size := by rw [eXacbgst, setRow_size]; exact zXacbgs
        have dXacbgst : Below w.heap.size w Xacbgst := by rw [eXacbgst]; exact below_setRow dXacbgs (by omega) _
        clear eXacbgst
        simp only [Act.put]
        refine hQ₁ _ _ ⟨⟨Xacbgst, hXacbgst⟩, rfl⟩ ?_
        clear hQ₁ hQp Q₁
        refine tree_end [] (by kernel_rfl) (fun _ _ d _ _ h => by cases d <;> exact h) (by kernel_rfl) rfl ⟨⟨Xacbgst, hXacbgst⟩, rfl⟩ ?_
        refine wpQuiet_nil ?_
        go_wp2_with fail
        exact bodyPost_ret (small_res k4 k5 rfl rfl) rfl ⟨_, _, _, _, _, _, _, _, rfl, ⟨⟨kw1, ki1, ks1⟩, ⟨kw2, ki2, ks2⟩, kg, kc⟩, lb2, dXacbgst⟩
      · simp only [List.getElem?_cons_succ, List.getElem?_cons_zero, Option.toList]
        refine wpl_store_row rfl 26 _ _ rfl k4 (by kernel_rfl) (by kernel_rfl) (by kernel_rfl) rfl rfl ?_
        refine wpList_nil ?_
        obtain ⟨Xacbs, eXacbs⟩ : ∃ Y, Y = Xacb.setRow (w.heap.size + 1) #[.int .u64 1073741824, .int .u64 134217728, .int .u64 1073741824, .int .u64 1048576, .int .i64 64, .int .i64 8, .int .i64 4] := ⟨_, rfl⟩
        replace k5 := (setRow_other Xacb (w.heap.size + 1) _ #[.int .u64 1073741824, .int .u64 134217728, .int .u64 1073741824, .int .u64 1048576, .int .i64 64, .int .i64 8, .int .i64 4] (row_ne k5 k4 (by decide))).trans k5
        replace kw1 := (setRow_other Xacb (w.heap.size + 1) _ #[.int .u64 1073741824, .int .u64 134217728, .int .u64 1073741824, .int .u64 1048576, .int .i64 64, .int .i64 8, .int .i64 4] (row_ne kw1 k4 (by decide))).trans kw1
        replace ki1 := (setRow_other Xacb (w.heap.size + 1) _ #[.int .u64 1073741824, .int .u64 134217728, .int .u64 1073741824, .int .u64 1048576, .int .i64 64, .int .i64 8, .int .i64 4] (row_ne ki1 k4 (by decide))).trans ki1
        replace ks1 := (setRow_other Xacb (w.heap.size + 1) _ #[.int .u64 1073741824, .int .u64 134217728, .int .u64 1073741824, .int .u64 1048576, .int .i64 64, .int .i64 8, .int .i64 4] (row_ne ks1 k4 (by decide))).trans ks1
        replace kc := (setRow_other Xacb (w.heap.size + 1) _ #[.int .u64 1073741824, .int .u64 134217728, .int .u64 1073741824, .int .u64 1048576, .int .i64 64, .int .i64 8, .int .i64 4] (row_ne kc k4 (by decide))).trans kc
        replace kw2 := (setRow_other Xacb (w.heap.size + 1) _ #[.int .u64 1073741824, .int .u64 134217728, .int .u64 1073741824, .int .u64 1048576, .int .i64 64, .int .i64 8, .int .i64 4] (row_ne kw2 k4 (by decide))).trans kw2
        replace ki2 := (setRow_other Xacb (w.heap.size + 1) _ #[.int .u64 1073741824, .int .u64 134217728, .int .u64 1073741824, .int .u64 1048576, .int .i64 64, .int .i64 8, .int .i64 4] (row_ne ki2 k4 (by decide))).trans ki2
        replace ks2 := (setRow_other Xacb (w.heap.size + 1) _ #[.int .u64 1073741824, .int .u64 134217728, .int .u64 1073741824, .int .u64 1048576, .int .i64 64, .int .i64 8, .int .i64 4] (row_ne ks2 k4 (by decide))).trans ks2
        replace k4 := setRow_heap Xacb (w.heap.size + 1) _ #[.int .u64 1073741824, .int .u64 134217728, .int .u64 1073741824, .int .u64 1048576, .int .i64 64, .int .i64 8, .int .i64 4] _ _ k4
        rw [← eXacbs] at k4 k5 kw1 ki1 ks1 kc kw2 ki2 ks2 ⊢
        have hXacbs : ∀ b, hf b → Xacbs.heap[b]? = W1.heap[b]? := fun b hb => by rw [eXacbs]; exact (setRow_other Xacb (w.heap.size + 1) b _ (by have := hfn.out b hb; omega)).trans (hXacb b hb)
        have zXacbs : w.heap.size + 5 ≤ Xacbs.heap.size := by rw [eXacbs, setRow_size]; exact zXacb
        have dXacbs : Below w.heap.size w Xacbs := by rw [eXacbs]; exact below_setRow dXacb (by omega) _
        clear eXacbs
        simp only [Act.put]
        refine hQ₁ _ _ ⟨⟨Xacbs, hXacbs⟩, rfl⟩ ?_
        clear hQ₁ hQp Q₁
        refine tree_step [] [5] 2 (by kernel_rfl) (fun _ _ d _ _ h => by cases d <;> exact h) (by kernel_rfl) (by simp) rfl ⟨⟨Xacbs, hXacbs⟩, rfl⟩ ?_
        simp only [List.filterMap_nil]
        refine wpQuiet_nil ?_
        intro i hi Q₁ hQ₁ hQp
        obtain rfl := mem1 hi
        simp only [List.getElem?_cons_succ, List.getElem?_cons_zero, Option.toList]
        obtain ⟨Xacbsg, eXacbsg, sXacbsg, kg, bXacbsg⟩ := one_new Xacbs (.cells (smallC ⟨#[111, 110, 101]⟩ 0 (List.ofFn f) bw1 bi1 bs1 ++ smallC ⟨#[116, 119, 111]⟩ 1 (List.ofFn f) bw2 bi2 bs2).toArray 50)
        replace kg := kg _ _ rfl
        replace k4 := (bXacbsg.block _ (Array.getElem?_eq_some_iff.1 k4).1).trans k4
        replace k5 := (bXacbsg.block _ (Array.getElem?_eq_some_iff.1 k5).1).trans k5
        replace kw1 := (bXacbsg.block _ (Array.getElem?_eq_some_iff.1 kw1).1).trans kw1
        replace ki1 := (bXacbsg.block _ (Array.getElem?_eq_some_iff.1 ki1).1).trans ki1
        replace ks1 := (bXacbsg.block _ (Array.getElem?_eq_some_iff.1 ks1).1).trans ks1
        replace kc := (bXacbsg.block _ (Array.getElem?_eq_some_iff.1 kc).1).trans kc
        replace kw2 := (bXacbsg.block _ (Array.getElem?_eq_some_iff.1 kw2).1).trans kw2
        replace ki2 := (bXacbsg.block _ (Array.getElem?_eq_some_iff.1 ki2).1).trans ki2
        replace ks2 := (bXacbsg.block _ (Array.getElem?_eq_some_iff.1 ks2).1).trans ks2
        have hXacbsg : ∀ b, hf b → Xacbsg.heap[b]? = W1.heap[b]? := fun b hb => (bXacbsg.block b (by have := hfz.out b hb; have := zXacbs; omega)).trans (hXacbs b hb)
        have zXacbsg : w.heap.size + 5 ≤ Xacbsg.heap.size := Nat.le_trans zXacbs bXacbsg.size
        have dXacbsg := dXacbs.trans (bXacbsg.mono (by omega))
        clear sXacbsg
        refine wpl_build_slice rfl 28 2 _ rfl #[(0, .agg (smallC ⟨#[111, 110, 101]⟩ 0 (List.ofFn f) bw1 bi1 bs1).toArray), (1, .agg (smallC ⟨#[116, 119, 111]⟩ 1 (List.ofFn f) bw2 bi2 bs2).toArray)] (by simp [Act.eval]) _ _ (small_rows _ _ f _ _ _ _ _ _ Xacbs) ?_
        refine wpList_nil ?_
        simp only [Act.put, List.setIfInBounds_toArray, List.set_cons_succ, List.set_cons_zero]
        rw [← eXacbsg]
        clear eXacbsg
        refine hQ₁ _ _ ⟨⟨Xacbsg, hXacbsg⟩, rfl⟩ ?_
        clear hQ₁ hQp Q₁
        refine tree_step [8] [10] 0 (by kernel_rfl) (fun _ _ d _ _ h => by cases d <;> exact h) (by kernel_rfl) (by simp) rfl ⟨⟨Xacbsg, hXacbsg⟩, rfl⟩ ?_
        simp only [List.filterMap_cons, List.filterMap_nil, List.getElem?_cons_succ, List.getElem?_cons_zero]
        repeat (change wpQuiet _ _ _ _ (List.cons _ _) _; go_big_quiet_step (fail))
        refine wpQuiet_nil ?_
        intro i hi Q₁ hQ₁ hQp
        obtain rfl := mem1 hi
        simp only [List.getElem?_cons_succ, List.getElem?_cons_zero, Option.toList]
        refine wpl_store_row rfl 31 _ _ rfl k5 (by kernel_rfl) (by kernel_rfl) (by kernel_rfl) rfl rfl ?_
        refine wpList_nil ?_
        obtain ⟨Xacbsgt, eXacbsgt⟩ : ∃ Y, Y = Xacbsg.setRow (w.heap.size + 1 + 1) #[.int .u32 1, .slice (some ⟨Xacbs.heap.size, 0, none⟩) 2 2, .slice (some ⟨Xa.heap.size, 0, none⟩) 1 1] := ⟨_, rfl⟩
        replace k4 := (setRow_other Xacbsg (w.heap.size + 1 + 1) _ #[.int .u32 1, .slice (some ⟨Xacbs.heap.size, 0, none⟩) 2 2, .slice (some ⟨Xa.heap.size, 0, none⟩) 1 1] (row_ne k4 k5 (by decide))).trans k4
        replace kw1 := (setRow_other Xacbsg (w.heap.size + 1 + 1) _ #[.int .u32 1, .slice (some ⟨Xacbs.heap.size, 0, none⟩) 2 2, .slice (some ⟨Xa.heap.size, 0, none⟩) 1 1] (row_ne kw1 k5 (by decide))).trans kw1
        replace ki1 := (setRow_other Xacbsg (w.heap.size + 1 + 1) _ #[.int .u32 1, .slice (some ⟨Xacbs.heap.size, 0, none⟩) 2 2, .slice (some ⟨Xa.heap.size, 0, none⟩) 1 1] (row_ne ki1 k5 (by decide))).trans ki1
        replace ks1 := (setRow_other Xacbsg (w.heap.size + 1 + 1) _ #[.int .u32 1, .slice (some ⟨Xacbs.heap.size, 0, none⟩) 2 2, .slice (some ⟨Xa.heap.size, 0, none⟩) 1 1] (row_ne ks1 k5 (by decide))).trans ks1
        replace kc := (setRow_other Xacbsg (w.heap.size + 1 + 1) _ #[.int .u32 1, .slice (some ⟨Xacbs.heap.size, 0, none⟩) 2 2, .slice (some ⟨Xa.heap.size, 0, none⟩) 1 1] (row_ne kc k5 (by decide))).trans kc
        replace kw2 := (setRow_other Xacbsg (w.heap.size + 1 + 1) _ #[.int .u32 1, .slice (some ⟨Xacbs.heap.size, 0, none⟩) 2 2, .slice (some ⟨Xa.heap.size, 0, none⟩) 1 1] (row_ne kw2 k5 (by decide))).trans kw2
        replace ki2 := (setRow_other Xacbsg (w.heap.size + 1 + 1) _ #[.int .u32 1, .slice (some ⟨Xacbs.heap.size, 0, none⟩) 2 2, .slice (some ⟨Xa.heap.size, 0, none⟩) 1 1] (row_ne ki2 k5 (by decide))).trans ki2
        replace ks2 := (setRow_other Xacbsg (w.heap.size + 1 + 1) _ #[.int .u32 1, .slice (some ⟨Xacbs.heap.size, 0, none⟩) 2 2, .slice (some ⟨Xa.heap.size, 0, none⟩) 1 1] (row_ne ks2 k5 (by decide))).trans ks2
        replace kg := (setRow_other Xacbsg (w.heap.size + 1 + 1) _ #[.int .u32 1, .slice (some ⟨Xacbs.heap.size, 0, none⟩) 2 2, .slice (some ⟨Xa.heap.size, 0, none⟩) 1 1] (row_ne kg k5 (by decide))).trans kg
        replace k5 := setRow_heap Xacbsg (w.heap.size + 1 + 1) _ #[.int .u32 1, .slice (some ⟨Xacbs.heap.size, 0, none⟩) 2 2, .slice (some ⟨Xa.heap.size, 0, none⟩) 1 1] _ _ k5
        rw [← eXacbsgt] at k4 k5 kw1 ki1 ks1 kc kw2 ki2 ks2 kg ⊢
        have hXacbsgt : ∀ b, hf b → Xacbsgt.heap[b]? = W1.heap[b]? := fun b hb => by rw [eXacbsgt]; exact (setRow_other Xacbsg (w.heap.size + 1 + 1) b _ (by have := hfn.out b hb; omega)).trans (hXacbsg b hb)
        have zXacbsgt : w.heap.size + 5 ≤ Xacbsgt.heap.size := by rw [eXacbsgt, setRow_size]; exact zXacbsg
        have dXacbsgt : Below w.heap.size w Xacbsgt := by rw [eXacbsgt]; exact below_setRow dXacbsg (by omega) _
        clear eXacbsgt
        simp only [Act.put]
        refine hQ₁ _ _ ⟨⟨Xacbsgt, hXacbsgt⟩, rfl⟩ ?_
        clear hQ₁ hQp Q₁
        refine tree_end [] (by kernel_rfl) (fun _ _ d _ _ h => by cases d <;> exact h) (by kernel_rfl) rfl ⟨⟨Xacbsgt, hXacbsgt⟩, rfl⟩ ?_
        refine wpQuiet_nil ?_
        go_wp2_with fail
        exact bodyPost_ret (small_res k4 k5 rfl rfl) rfl ⟨_, _, _, _, _, _, _, _, rfl, ⟨⟨kw1, ki1, ks1⟩, ⟨kw2, ki2, ks2⟩, kg, kc⟩, lb2, dXacbsgt⟩
  · simp only [List.getElem?_cons_succ, List.getElem?_cons_zero, Option.toList]
    obtain ⟨Xc, eXc, sXc, kc, bXc⟩ := one_new X (.cells #[.int .u64 1107296256, .int .u64 (p * 4096), .int .i64 0, .int .i64 3, .int .u64 268435456, .int .i64 1, .int .i64 1, .int .u64 536870912] 76)
    replace kc := kc _ _ rfl
    replace k4 := (bXc.block _ (Array.getElem?_eq_some_iff.1 k4).1).trans k4
    replace k5 := (bXc.block _ (Array.getElem?_eq_some_iff.1 k5).1).trans k5
    have hXc : ∀ b, hf b → Xc.heap[b]? = W1.heap[b]? := fun b hb => (bXc.block b (by have := hfz.out b hb; have := zX; omega)).trans (hX b hb)
    have zXc : w.heap.size + 5 ≤ Xc.heap.size := Nat.le_trans zX bXc.size
    have dXc := dX.trans (bXc.mono (by omega))
    clear sXc
    go_wp2_with fail
    rw [← eXc]
    clear eXc
    refine hQ₁ _ _ ⟨⟨Xc, hXc⟩, rfl⟩ ?_
    clear hQ₁ hQp Q₁
    refine tree_step [] [2] 5 (by kernel_rfl) (fun _ _ d _ _ h => by cases d <;> exact h) (by kernel_rfl) (by simp) rfl ⟨⟨Xc, hXc⟩, rfl⟩ ?_
    simp only [List.filterMap_nil]
    refine wpQuiet_nil ?_
    intro i hi Q₁ hQ₁ hQp
    obtain rfl := mem1 hi
    simp only [List.getElem?_cons_succ, List.getElem?_cons_zero, Option.toList]
    go_wp2_with fail
    refine (hg1.out Xc).mono ?_; rintro e Xca ⟨bw1, bi1, bs1, rfl, ⟨kw1, ki1, ks1⟩, lb1, bXca⟩
    replace lb1 : w.heap.size ≤ bw1 := by omega
    replace k4 := (bXca.block _ (Array.getElem?_eq_some_iff.1 k4).1).trans k4
    replace k5 := (bXca.block _ (Array.getElem?_eq_some_iff.1 k5).1).trans k5
    replace kc := (bXca.block _ (Array.getElem?_eq_some_iff.1 kc).1).trans kc
    have hXca : ∀ b, hf b → Xca.heap[b]? = W1.heap[b]? := fun b hb => (bXca.block b (by have := hfz.out b hb; have := zXc; omega)).trans (hXc b hb)
    have zXca : w.heap.size + 5 ≤ Xca.heap.size := Nat.le_trans zXc bXca.size
    have dXca := dXc.trans (bXca.mono (by omega))
    go_wp2_with fail
    refine hQ₁ _ _ ⟨⟨Xca, hXca⟩, rfl⟩ ?_
    clear hQ₁ hQp Q₁
    refine tree_step [] [4] 4 (by kernel_rfl) (fun _ _ d _ _ h => by cases d <;> exact h) (by kernel_rfl) (by simp) rfl ⟨⟨Xca, hXca⟩, rfl⟩ ?_
    simp only [List.filterMap_nil]
    refine wpQuiet_nil ?_
    intro i hi Q₁ hQ₁ hQp
    obtain rfl := mem1 hi
    simp only [List.getElem?_cons_succ, List.getElem?_cons_zero, Option.toList]
    go_wp2_with fail
    refine (hg2.out Xca).mono ?_; rintro e Xcab ⟨bw2, bi2, bs2, rfl, ⟨kw2, ki2, ks2⟩, lb2, bXcab⟩
    replace lb2 : w.heap.size ≤ bw2 := by omega
    replace k4 := (bXcab.block _ (Array.getElem?_eq_some_iff.1 k4).1).trans k4
    replace k5 := (bXcab.block _ (Array.getElem?_eq_some_iff.1 k5).1).trans k5
    replace kc := (bXcab.block _ (Array.getElem?_eq_some_iff.1 kc).1).trans kc
    replace kw1 := (bXcab.block _ (Array.getElem?_eq_some_iff.1 kw1).1).trans kw1
    replace ki1 := (bXcab.block _ (Array.getElem?_eq_some_iff.1 ki1).1).trans ki1
    replace ks1 := (bXcab.block _ (Array.getElem?_eq_some_iff.1 ks1).1).trans ks1
    have hXcab : ∀ b, hf b → Xcab.heap[b]? = W1.heap[b]? := fun b hb => (bXcab.block b (by have := hfz.out b hb; have := zXca; omega)).trans (hXca b hb)
    have zXcab : w.heap.size + 5 ≤ Xcab.heap.size := Nat.le_trans zXca bXcab.size
    have dXcab := dXca.trans (bXcab.mono (by omega))
    go_wp2_with fail
    refine hQ₁ _ _ ⟨⟨Xcab, hXcab⟩, rfl⟩ ?_
    clear hQ₁ hQp Q₁
    refine tree_step [] [5, 9] 3 (by kernel_rfl) (fun _ _ d _ _ h => by cases d <;> exact h) (by kernel_rfl) (by simp) rfl ⟨⟨Xcab, hXcab⟩, rfl⟩ ?_
    simp only [List.filterMap_nil]
    refine wpQuiet_nil ?_
    intro i hi Q₁ hQ₁ hQp
    obtain rfl | rfl := mem2 hi
    · simp only [List.getElem?_cons_succ, List.getElem?_cons_zero, Option.toList]
      obtain ⟨Xcabg, eXcabg, sXcabg, kg, bXcabg⟩ := one_new Xcab (.cells (smallC ⟨#[111, 110, 101]⟩ 0 (List.ofFn f) bw1 bi1 bs1 ++ smallC ⟨#[116, 119, 111]⟩ 1 (List.ofFn f) bw2 bi2 bs2).toArray 50)
      replace kg := kg _ _ rfl
      replace k4 := (bXcabg.block _ (Array.getElem?_eq_some_iff.1 k4).1).trans k4
      replace k5 := (bXcabg.block _ (Array.getElem?_eq_some_iff.1 k5).1).trans k5
      replace kc := (bXcabg.block _ (Array.getElem?_eq_some_iff.1 kc).1).trans kc
      replace kw1 := (bXcabg.block _ (Array.getElem?_eq_some_iff.1 kw1).1).trans kw1
      replace ki1 := (bXcabg.block _ (Array.getElem?_eq_some_iff.1 ki1).1).trans ki1
      replace ks1 := (bXcabg.block _ (Array.getElem?_eq_some_iff.1 ks1).1).trans ks1
      replace kw2 := (bXcabg.block _ (Array.getElem?_eq_some_iff.1 kw2).1).trans kw2
      replace ki2 := (bXcabg.block _ (Array.getElem?_eq_some_iff.1 ki2).1).trans ki2
      replace ks2 := (bXcabg.block _ (Array.getElem?_eq_some_iff.1 ks2).1).trans ks2
      have hXcabg : ∀ b, hf b → Xcabg.heap[b]? = W1.heap[b]? := fun b hb => (bXcabg.block b (by have := hfz.out b hb; have := zXcab; omega)).trans (hXcab b hb)
      have zXcabg : w.heap.size + 5 ≤ Xcabg.heap.size := Nat.le_trans zXcab bXcabg.size
      have dXcabg := dXcab.trans (bXcabg.mono (by omega))
      clear sXcabg
      refine wpl_build_slice rfl 28 2 _ rfl #[(0, .agg (smallC ⟨#[111, 110, 101]⟩ 0 (List.ofFn f) bw1 bi1 bs1).toArray), (1, .agg (smallC ⟨#[116, 119, 111]⟩ 1 (List.ofFn f) bw2 bi2 bs2).toArray)] (by simp [Act.eval]) _ _ (small_rows _ _ f _ _ _ _ _ _ Xcab) ?_
      refine wpList_nil ?_
      simp only [Act.put, List.setIfInBounds_toArray, List.set_cons_succ, List.set_cons_zero]
      rw [← eXcabg]
      clear eXcabg
      refine hQ₁ _ _ ⟨⟨Xcabg, hXcabg⟩, rfl⟩ ?_
      clear hQ₁ hQp Q₁
      refine tree_step [8] [9] 1 (by kernel_rfl) (fun _ _ d _ _ h => by cases d <;> exact h) (by kernel_rfl) (by simp) rfl ⟨⟨Xcabg, hXcabg⟩, rfl⟩ ?_
      simp only [List.filterMap_cons, List.filterMap_nil, List.getElem?_cons_succ, List.getElem?_cons_zero]
      repeat (change wpQuiet _ _ _ _ (List.cons _ _) _; go_big_quiet_step (fail))
      refine wpQuiet_nil ?_
      intro i hi Q₁ hQ₁ hQp
      obtain rfl := mem1 hi
      simp only [List.getElem?_cons_succ, List.getElem?_cons_zero, Option.toList]
      refine wpl_store_row rfl 26 _ _ rfl k4 (by kernel_rfl) (by kernel_rfl) (by kernel_rfl) rfl rfl ?_
      refine wpList_nil ?_
      obtain ⟨Xcabgs, eXcabgs⟩ : ∃ Y, Y = Xcabg.setRow (w.heap.size + 1) #[.int .u64 1073741824, .int .u64 134217728, .int .u64 1073741824, .int .u64 1048576, .int .i64 64, .int .i64 8, .int .i64 4] := ⟨_, rfl⟩
      replace k5 := (setRow_other Xcabg (w.heap.size + 1) _ #[.int .u64 1073741824, .int .u64 134217728, .int .u64 1073741824, .int .u64 1048576, .int .i64 64, .int .i64 8, .int .i64 4] (row_ne k5 k4 (by decide))).trans k5
      replace kc := (setRow_other Xcabg (w.heap.size + 1) _ #[.int .u64 1073741824, .int .u64 134217728, .int .u64 1073741824, .int .u64 1048576, .int .i64 64, .int .i64 8, .int .i64 4] (row_ne kc k4 (by decide))).trans kc
      replace kw1 := (setRow_other Xcabg (w.heap.size + 1) _ #[.int .u64 1073741824, .int .u64 134217728, .int .u64 1073741824, .int .u64 1048576, .int .i64 64, .int .i64 8, .int .i64 4] (row_ne kw1 k4 (by decide))).trans kw1
      replace ki1 := (setRow_other Xcabg (w.heap.size + 1) _ #[.int .u64 1073741824, .int .u64 134217728, .int .u64 1073741824, .int .u64 1048576, .int .i64 64, .int .i64 8, .int .i64 4] (row_ne ki1 k4 (by decide))).trans ki1
      replace ks1 := (setRow_other Xcabg (w.heap.size + 1) _ #[.int .u64 1073741824, .int .u64 134217728, .int .u64 1073741824, .int .u64 1048576, .int .i64 64, .int .i64 8, .int .i64 4] (row_ne ks1 k4 (by decide))).trans ks1
      replace kw2 := (setRow_other Xcabg (w.heap.size + 1) _ #[.int .u64 1073741824, .int .u64 134217728, .int .u64 1073741824, .int .u64 1048576, .int .i64 64, .int .i64 8, .int .i64 4] (row_ne kw2 k4 (by decide))).trans kw2
      replace ki2 := (setRow_other Xcabg (w.heap.size + 1) _ #[.int .u64 1073741824, .int .u64 134217728, .int .u64 1073741824, .int .u64 1048576, .int .i64 64, .int .i64 8, .int .i64 4] (row_ne ki2 k4 (by decide))).trans ki2
      replace ks2 := (setRow_other Xcabg (w.heap.size + 1) _ #[.int .u64 1073741824, .int .u64 134217728, .int .u64 1073741824, .int .u64 1048576, .int .i64 64, .int .i64 8, .int .i64 4] (row_ne ks2 k4 (by decide))).trans ks2
      replace kg := (setRow_other Xcabg (w.heap.size + 1) _ #[.int .u64 1073741824, .int .u64 134217728, .int .u64 1073741824, .int .u64 1048576, .int .i64 64, .int .i64 8, .int .i64 4] (row_ne kg k4 (by decide))).trans kg
      replace k4 := setRow_heap Xcabg (w.heap.size + 1) _ #[.int .u64 1073741824, .int .u64 134217728, .int .u64 1073741824, .int .u64 1048576, .int .i64 64, .int .i64 8, .int .i64 4] _ _ k4
      rw [← eXcabgs] at k4 k5 kc kw1 ki1 ks1 kw2 ki2 ks2 kg ⊢
      have hXcabgs : ∀ b, hf b → Xcabgs.heap[b]? = W1.heap[b]? := fun b hb => by rw [eXcabgs]; exact (setRow_other Xcabg (w.heap.size + 1) b _ (by have := hfn.out b hb; omega)).trans (hXcabg b hb)
      have zXcabgs : w.heap.size + 5 ≤ Xcabgs.heap.size := by rw [eXcabgs, setRow_size]; exact zXcabg
      have dXcabgs : Below w.heap.size w Xcabgs := by rw [eXcabgs]; exact below_setRow dXcabg (by omega) _
      clear eXcabgs
      simp only [Act.put]
      refine hQ₁ _ _ ⟨⟨Xcabgs, hXcabgs⟩, rfl⟩ ?_
      clear hQ₁ hQp Q₁
      refine tree_step [] [10] 0 (by kernel_rfl) (fun _ _ d _ _ h => by cases d <;> exact h) (by kernel_rfl) (by simp) rfl ⟨⟨Xcabgs, hXcabgs⟩, rfl⟩ ?_
      simp only [List.filterMap_nil]
      refine wpQuiet_nil ?_
      intro i hi Q₁ hQ₁ hQp
      obtain rfl := mem1 hi
      simp only [List.getElem?_cons_succ, List.getElem?_cons_zero, Option.toList]
      refine wpl_store_row rfl 31 _ _ rfl k5 (by kernel_rfl) (by kernel_rfl) (by kernel_rfl) rfl rfl ?_
      refine wpList_nil ?_
      obtain ⟨Xcabgst, eXcabgst⟩ : ∃ Y, Y = Xcabgs.setRow (w.heap.size + 1 + 1) #[.int .u32 1, .slice (some ⟨Xcab.heap.size, 0, none⟩) 2 2, .slice (some ⟨X.heap.size, 0, none⟩) 1 1] := ⟨_, rfl⟩
      replace k4 := (setRow_other Xcabgs (w.heap.size + 1 + 1) _ #[.int .u32 1, .slice (some ⟨Xcab.heap.size, 0, none⟩) 2 2, .slice (some ⟨X.heap.size, 0, none⟩) 1 1] (row_ne k4 k5 (by decide))).trans k4
      replace kc := (setRow_other Xcabgs (w.heap.size + 1 + 1) _ #[.int .u32 1, .slice (some ⟨Xcab.heap.size, 0, none⟩) 2 2, .slice (some ⟨X.heap.size, 0, none⟩) 1 1] (row_ne kc k5 (by decide))).trans kc
      replace kw1 := (setRow_other Xcabgs (w.heap.size + 1 + 1) _ #[.int .u32 1, .slice (some ⟨Xcab.heap.size, 0, none⟩) 2 2, .slice (some ⟨X.heap.size, 0, none⟩) 1 1] (row_ne kw1 k5 (by decide))).trans kw1
      replace ki1 := (setRow_other Xcabgs (w.heap.size + 1 + 1) _ #[.int .u32 1, .slice (some ⟨Xcab.heap.size, 0, none⟩) 2 2, .slice (some ⟨X.heap.size, 0, none⟩) 1 1] (row_ne ki1 k5 (by decide))).trans ki1
      replace ks1 := (setRow_other Xcabgs (w.heap.size + 1 + 1) _ #[.int .u32 1, .slice (some ⟨Xcab.heap.size, 0, none⟩) 2 2, .slice (some ⟨X.heap.size, 0, none⟩) 1 1] (row_ne ks1 k5 (by decide))).trans ks1
      replace kw2 := (setRow_other Xcabgs (w.heap.size + 1 + 1) _ #[.int .u32 1, .slice (some ⟨Xcab.heap.size, 0, none⟩) 2 2, .slice (some ⟨X.heap.size, 0, none⟩) 1 1] (row_ne kw2 k5 (by decide))).trans kw2
      replace ki2 := (setRow_other Xcabgs (w.heap.size + 1 + 1) _ #[.int .u32 1, .slice (some ⟨Xcab.heap.size, 0, none⟩) 2 2, .slice (some ⟨X.heap.size, 0, none⟩) 1 1] (row_ne ki2 k5 (by decide))).trans ki2
      replace ks2 := (setRow_other Xcabgs (w.heap.size + 1 + 1) _ #[.int .u32 1, .slice (some ⟨Xcab.heap.size, 0, none⟩) 2 2, .slice (some ⟨X.heap.size, 0, none⟩) 1 1] (row_ne ks2 k5 (by decide))).trans ks2
      replace kg := (setRow_other Xcabgs (w.heap.size + 1 + 1) _ #[.int .u32 1, .slice (some ⟨Xcab.heap.size, 0, none⟩) 2 2, .slice (some ⟨X.heap.size, 0, none⟩) 1 1] (row_ne kg k5 (by decide))).trans kg
      replace k5 := setRow_heap Xcabgs (w.heap.size + 1 + 1) _ #[.int .u32 1, .slice (some ⟨Xcab.heap.size, 0, none⟩) 2 2, .slice (some ⟨X.heap.size, 0, none⟩) 1 1] _ _ k5
      rw [← eXcabgst] at k4 k5 kc kw1 ki1 ks1 kw2 ki2 ks2 kg ⊢
      have hXcabgst : ∀ b, hf b → Xcabgst.heap[b]? = W1.heap[b]? := fun b hb => by rw [eXcabgst]; exact (setRow_other Xcabgs (w.heap.size + 1 + 1) b _ (by have := hfn.out b hb; omega)).trans (hXcabgs b hb)
      have zXcabgst : w.heap.size + 5 ≤ Xcabgst.heap.size := by rw [eXcabgst, setRow_size]; exact zXcabgs
      have dXcabgst : Below w.heap.size w Xcabgst := by rw [eXcabgst]; exact below_setRow dXcabgs (by omega) _
      clear eXcabgst
      simp only [Act.put]
      refine hQ₁ _ _ ⟨⟨Xcabgst, hXcabgst⟩, rfl⟩ ?_
      clear hQ₁ hQp Q₁
      refine tree_end [] (by kernel_rfl) (fun _ _ d _ _ h => by cases d <;> exact h) (by kernel_rfl) rfl ⟨⟨Xcabgst, hXcabgst⟩, rfl⟩ ?_
      refine wpQuiet_nil ?_
      go_wp2_with fail
      exact bodyPost_ret (small_res k4 k5 rfl rfl) rfl ⟨_, _, _, _, _, _, _, _, rfl, ⟨⟨kw1, ki1, ks1⟩, ⟨kw2, ki2, ks2⟩, kg, kc⟩, lb2, dXcabgst⟩
    · simp only [List.getElem?_cons_succ, List.getElem?_cons_zero, Option.toList]
      refine wpl_store_row rfl 26 _ _ rfl k4 (by kernel_rfl) (by kernel_rfl) (by kernel_rfl) rfl rfl ?_
      refine wpList_nil ?_
      obtain ⟨Xcabs, eXcabs⟩ : ∃ Y, Y = Xcab.setRow (w.heap.size + 1) #[.int .u64 1073741824, .int .u64 134217728, .int .u64 1073741824, .int .u64 1048576, .int .i64 64, .int .i64 8, .int .i64 4] := ⟨_, rfl⟩
      replace k5 := (setRow_other Xcab (w.heap.size + 1) _ #[.int .u64 1073741824, .int .u64 134217728, .int .u64 1073741824, .int .u64 1048576, .int .i64 64, .int .i64 8, .int .i64 4] (row_ne k5 k4 (by decide))).trans k5
      replace kc := (setRow_other Xcab (w.heap.size + 1) _ #[.int .u64 1073741824, .int .u64 134217728, .int .u64 1073741824, .int .u64 1048576, .int .i64 64, .int .i64 8, .int .i64 4] (row_ne kc k4 (by decide))).trans kc
      replace kw1 := (setRow_other Xcab (w.heap.size + 1) _ #[.int .u64 1073741824, .int .u64 134217728, .int .u64 1073741824, .int .u64 1048576, .int .i64 64, .int .i64 8, .int .i64 4] (row_ne kw1 k4 (by decide))).trans kw1
      replace ki1 := (setRow_other Xcab (w.heap.size + 1) _ #[.int .u64 1073741824, .int .u64 134217728, .int .u64 1073741824, .int .u64 1048576, .int .i64 64, .int .i64 8, .int .i64 4] (row_ne ki1 k4 (by decide))).trans ki1
      replace ks1 := (setRow_other Xcab (w.heap.size + 1) _ #[.int .u64 1073741824, .int .u64 134217728, .int .u64 1073741824, .int .u64 1048576, .int .i64 64, .int .i64 8, .int .i64 4] (row_ne ks1 k4 (by decide))).trans ks1
      replace kw2 := (setRow_other Xcab (w.heap.size + 1) _ #[.int .u64 1073741824, .int .u64 134217728, .int .u64 1073741824, .int .u64 1048576, .int .i64 64, .int .i64 8, .int .i64 4] (row_ne kw2 k4 (by decide))).trans kw2
      replace ki2 := (setRow_other Xcab (w.heap.size + 1) _ #[.int .u64 1073741824, .int .u64 134217728, .int .u64 1073741824, .int .u64 1048576, .int .i64 64, .int .i64 8, .int .i64 4] (row_ne ki2 k4 (by decide))).trans ki2
      replace ks2 := (setRow_other Xcab (w.heap.size + 1) _ #[.int .u64 1073741824, .int .u64 134217728, .int .u64 1073741824, .int .u64 1048576, .int .i64 64, .int .i64 8, .int .i64 4] (row_ne ks2 k4 (by decide))).trans ks2
      replace k4 := setRow_heap Xcab (w.heap.size + 1) _ #[.int .u64 1073741824, .int .u64 134217728, .int .u64 1073741824, .int .u64 1048576, .int .i64 64, .int .i64 8, .int .i64 4] _ _ k4
      rw [← eXcabs] at k4 k5 kc kw1 ki1 ks1 kw2 ki2 ks2 ⊢
      have hXcabs : ∀ b, hf b → Xcabs.heap[b]? = W1.heap[b]? := fun b hb => by rw [eXcabs]; exact (setRow_other Xcab (w.heap.size + 1) b _ (by have := hfn.out b hb; omega)).trans (hXcab b hb)
      have zXcabs : w.heap.size + 5 ≤ Xcabs.heap.size := by rw [eXcabs, setRow_size]; exact zXcab
      have dXcabs : Below w.heap.size w Xcabs := by rw [eXcabs]; exact below_setRow dXcab (by omega) _
      clear eXcabs
      simp only [Act.put]
      refine hQ₁ _ _ ⟨⟨Xcabs, hXcabs⟩, rfl⟩ ?_
      clear hQ₁ hQp Q₁
      refine tree_step [] [5] 2 (by kernel_rfl) (fun _ _ d _ _ h => by cases d <;> exact h) (by kernel_rfl) (by simp) rfl ⟨⟨Xcabs, hXcabs⟩, rfl⟩ ?_
      simp only [List.filterMap_nil]
      refine wpQuiet_nil ?_
      intro i hi Q₁ hQ₁ hQp
      obtain rfl := mem1 hi
      simp only [List.getElem?_cons_succ, List.getElem?_cons_zero, Option.toList]
      obtain ⟨Xcabsg, eXcabsg, sXcabsg, kg, bXcabsg⟩ := one_new Xcabs (.cells (smallC ⟨#[111, 110, 101]⟩ 0 (List.ofFn f) bw1 bi1 bs1 ++ smallC ⟨#[116, 119, 111]⟩ 1 (List.ofFn f) bw2 bi2 bs2).toArray 50)
      replace kg := kg _ _ rfl
      replace k4 := (bXcabsg.block _ (Array.getElem?_eq_some_iff.1 k4).1).trans k4
      replace k5 := (bXcabsg.block _ (Array.getElem?_eq_some_iff.1 k5).1).trans k5
      replace kc := (bXcabsg.block _ (Array.getElem?_eq_some_iff.1 kc).1).trans kc
      replace kw1 := (bXcabsg.block _ (Array.getElem?_eq_some_iff.1 kw1).1).trans kw1
      replace ki1 := (bXcabsg.block _ (Array.getElem?_eq_some_iff.1 ki1).1).trans ki1
      replace ks1 := (bXcabsg.block _ (Array.getElem?_eq_some_iff.1 ks1).1).trans ks1
      replace kw2 := (bXcabsg.block _ (Array.getElem?_eq_some_iff.1 kw2).1).trans kw2
      replace ki2 := (bXcabsg.block _ (Array.getElem?_eq_some_iff.1 ki2).1).trans ki2
      replace ks2 := (bXcabsg.block _ (Array.getElem?_eq_some_iff.1 ks2).1).trans ks2
      have hXcabsg : ∀ b, hf b → Xcabsg.heap[b]? = W1.heap[b]? := fun b hb => (bXcabsg.block b (by have := hfz.out b hb; have := zXcabs; omega)).trans (hXcabs b hb)
      have zXcabsg : w.heap.size + 5 ≤ Xcabsg.heap.size := Nat.le_trans zXcabs bXcabsg.size
      have dXcabsg := dXcabs.trans (bXcabsg.mono (by omega))
      clear sXcabsg
      refine wpl_build_slice rfl 28 2 _ rfl #[(0, .agg (smallC ⟨#[111, 110, 101]⟩ 0 (List.ofFn f) bw1 bi1 bs1).toArray), (1, .agg (smallC ⟨#[116, 119, 111]⟩ 1 (List.ofFn f) bw2 bi2 bs2).toArray)] (by simp [Act.eval]) _ _ (small_rows _ _ f _ _ _ _ _ _ Xcabs) ?_
      refine wpList_nil ?_
      simp only [Act.put, List.setIfInBounds_toArray, List.set_cons_succ, List.set_cons_zero]
      rw [← eXcabsg]
      clear eXcabsg
      refine hQ₁ _ _ ⟨⟨Xcabsg, hXcabsg⟩, rfl⟩ ?_
      clear hQ₁ hQp Q₁
      refine tree_step [8] [10] 0 (by kernel_rfl) (fun _ _ d _ _ h => by cases d <;> exact h) (by kernel_rfl) (by simp) rfl ⟨⟨Xcabsg, hXcabsg⟩, rfl⟩ ?_
      simp only [List.filterMap_cons, List.filterMap_nil, List.getElem?_cons_succ, List.getElem?_cons_zero]
      repeat (change wpQuiet _ _ _ _ (List.cons _ _) _; go_big_quiet_step (fail))
      refine wpQuiet_nil ?_
      intro i hi Q₁ hQ₁ hQp
      obtain rfl := mem1 hi
      simp only [List.getElem?_cons_succ, List.getElem?_cons_zero, Option.toList]
      refine wpl_store_row rfl 31 _ _ rfl k5 (by kernel_rfl) (by kernel_rfl) (by kernel_rfl) rfl rfl ?_
      refine wpList_nil ?_
      obtain ⟨Xcabsgt, eXcabsgt⟩ : ∃ Y, Y = Xcabsg.setRow (w.heap.size + 1 + 1) #[.int .u32 1, .slice (some ⟨Xcabs.heap.size, 0, none⟩) 2 2, .slice (some ⟨X.heap.size, 0, none⟩) 1 1] := ⟨_, rfl⟩
      replace k4 := (setRow_other Xcabsg (w.heap.size + 1 + 1) _ #[.int .u32 1, .slice (some ⟨Xcabs.heap.size, 0, none⟩) 2 2, .slice (some ⟨X.heap.size, 0, none⟩) 1 1] (row_ne k4 k5 (by decide))).trans k4
      replace kc := (setRow_other Xcabsg (w.heap.size + 1 + 1) _ #[.int .u32 1, .slice (some ⟨Xcabs.heap.size, 0, none⟩) 2 2, .slice (some ⟨X.heap.size, 0, none⟩) 1 1] (row_ne kc k5 (by decide))).trans kc
      replace kw1 := (setRow_other Xcabsg (w.heap.size + 1 + 1) _ #[.int .u32 1, .slice (some ⟨Xcabs.heap.size, 0, none⟩) 2 2, .slice (some ⟨X.heap.size, 0, none⟩) 1 1] (row_ne kw1 k5 (by decide))).trans kw1
      replace ki1 := (setRow_other Xcabsg (w.heap.size + 1 + 1) _ #[.int .u32 1, .slice (some ⟨Xcabs.heap.size, 0, none⟩) 2 2, .slice (some ⟨X.heap.size, 0, none⟩) 1 1] (row_ne ki1 k5 (by decide))).trans ki1
      replace ks1 := (setRow_other Xcabsg (w.heap.size + 1 + 1) _ #[.int .u32 1, .slice (some ⟨Xcabs.heap.size, 0, none⟩) 2 2, .slice (some ⟨X.heap.size, 0, none⟩) 1 1] (row_ne ks1 k5 (by decide))).trans ks1
      replace kw2 := (setRow_other Xcabsg (w.heap.size + 1 + 1) _ #[.int .u32 1, .slice (some ⟨Xcabs.heap.size, 0, none⟩) 2 2, .slice (some ⟨X.heap.size, 0, none⟩) 1 1] (row_ne kw2 k5 (by decide))).trans kw2
      replace ki2 := (setRow_other Xcabsg (w.heap.size + 1 + 1) _ #[.int .u32 1, .slice (some ⟨Xcabs.heap.size, 0, none⟩) 2 2, .slice (some ⟨X.heap.size, 0, none⟩) 1 1] (row_ne ki2 k5 (by decide))).trans ki2
      replace ks2 := (setRow_other Xcabsg (w.heap.size + 1 + 1) _ #[.int .u32 1, .slice (some ⟨Xcabs.heap.size, 0, none⟩) 2 2, .slice (some ⟨X.heap.size, 0, none⟩) 1 1] (row_ne ks2 k5 (by decide))).trans ks2
      replace kg := (setRow_other Xcabsg (w.heap.size + 1 + 1) _ #[.int .u32 1, .slice (some ⟨Xcabs.heap.size, 0, none⟩) 2 2, .slice (some ⟨X.heap.size, 0, none⟩) 1 1] (row_ne kg k5 (by decide))).trans kg
      replace k5 := setRow_heap Xcabsg (w.heap.size + 1 + 1) _ #[.int .u32 1, .slice (some ⟨Xcabs.heap.size, 0, none⟩) 2 2, .slice (some ⟨X.heap.size, 0, none⟩) 1 1] _ _ k5
      rw [← eXcabsgt] at k4 k5 kc kw1 ki1 ks1 kw2 ki2 ks2 kg ⊢
      have hXcabsgt : ∀ b, hf b → Xcabsgt.heap[b]? = W1.heap[b]? := fun b hb => by rw [eXcabsgt]; exact (setRow_other Xcabsg (w.heap.size + 1 + 1) b _ (by have := hfn.out b hb; omega)).trans (hXcabsg b hb)
      have zXcabsgt : w.heap.size + 5 ≤ Xcabsgt.heap.size := by rw [eXcabsgt, setRow_size]; exact zXcabsg
      have dXcabsgt : Below w.heap.size w Xcabsgt := by rw [eXcabsgt]; exact below_setRow dXcabsg (by omega) _
      clear eXcabsgt
      simp only [Act.put]
      refine hQ₁ _ _ ⟨⟨Xcabsgt, hXcabsgt⟩, rfl⟩ ?_
      clear hQ₁ hQp Q₁
      refine tree_end [] (by kernel_rfl) (fun _ _ d _ _ h => by cases d <;> exact h) (by kernel_rfl) rfl ⟨⟨Xcabsgt, hXcabsgt⟩, rfl⟩ ?_
      refine wpQuiet_nil ?_
      go_wp2_with fail
      exact bodyPost_ret (small_res k4 k5 rfl rfl) rfl ⟨_, _, _, _, _, _, _, _, rfl, ⟨⟨kw1, ki1, ks1⟩, ⟨kw2, ki2, ks2⟩, kg, kc⟩, lb2, dXcabsgt⟩
end Go.Proofs.YtffdfeekpfmbeaaGreat
/- The small configuration's rules, reckoned. -/
namespace Go.Proofs.YtffdfeekpfmbeaaGreat
open Go Go.RowKit Go.BigFrame

def smWin (pa : Int) (h : W64 pa) : WinV := ⟨0, pa, 1048576, 7, ⟨by decide, by decide⟩, h, ⟨by decide, by decide⟩⟩
def smG (s : ByteArray) (c : Nat) (pa : Int) (h : W64 pa) (K : List Int) : GuestV := ⟨s, false, 0, 0, (2 ^ c : Nat), 4096, 0, K, [smWin pa h], [], [⟨(32 + c : Nat), c, false⟩], [(c : Int)]⟩
theorem pa1 : W64 1074790400 := ⟨by decide, by decide⟩
theorem pa2 : W64 1075838976 := ⟨by decide, by decide⟩
theorem pa3 : W64 1074786304 := ⟨by decide, by decide⟩
def smGs (K : List Int) : List GuestV := [smG gName1 0 1074790400 pa1 K, smG gName2 1 1075838976 pa2 K]
def smGs' (K : List Int) : List GuestV := [smG gName1 0 1074790400 pa1 K, smG gName2 1 1074786304 pa3 K]
def smCh (n : Nat) : ChV := ⟨1107296256, ((min n 63 + 1 : Nat) : Int) * 4096, ⟨0, 3, 268435456, ⟨by decide, by decide⟩⟩, ⟨1, 1, 536870912, ⟨by decide, by decide⟩⟩, ⟨by decide, by decide⟩, ⟨by omega, by omega⟩⟩
def smB : BrdV := ⟨⟨1073741824, 134217728, ⟨by decide, by decide⟩, ⟨by decide, by decide⟩⟩, ⟨1073741824, 1048576, ⟨by decide, by decide⟩, ⟨by decide, by decide⟩⟩, 64, 8, 4⟩
/-- The rows. -/
theorem smC_len (s : ByteArray) (c : Nat) (f : Fin 68 → Int) (a b d : Nat) : (smallC s c (List.ofFn f) a b d).length = 79 := by
  have := small_len s c f a b d
  simpa using this
theorem one_le : (1 : Nat) ≤ maxLen := by decide
theorem two_le : (2 : Nat) ≤ maxLen := by decide
theorem i64_7 : I64 7 := ⟨by decide, by decide⟩
theorem w64_e : W64 4096 := ⟨by decide, by decide⟩
theorem small_guest {W : World} {c : Nat} (hc : c ≤ 1) {pa : Int} (h : W64 pa) {f : Fin 68 → Int} (hf : ∀ i, 0 ≤ f i ∧ f i < 256) {s : ByteArray} {bw bi bs : Nat} (g : SmG W c pa bw bi bs) : GuestR W (smallC s c (List.ofFn f) bw bi bs) (smG s c pa h (List.ofFn f)) := by
  have hu : U32 ((2 ^ c : Nat) : Int) := by
    obtain rfl | rfl : c = 0 ∨ c = 1 := by omega
    · exact ⟨by decide, by decide⟩
    · exact ⟨by decide, by decide⟩
  have h1 : RowX 4 WinR W (.slice (some ⟨bw, 0, none⟩) 1 1) [smWin pa h] := rowX_blk g.bw rfl one_le fun i hi => by
    obtain rfl : i = 0 := by simpa using hi
    exact ⟨⟨rfl, i64_7⟩, rfl⟩
  have h2 : RowX 3 IrqR W (.slice (some ⟨bi, 0, none⟩) 1 1) [⟨(32 + c : Nat), c, false⟩] := rowX_blk g.bi rfl one_le fun i hi => by
    obtain rfl : i = 0 := by simpa using hi
    refine ⟨⟨rfl, ⟨?_, ?_⟩, ⟨?_, ?_⟩⟩, rfl⟩
    all_goals simp
    all_goals omega
  have h3 : RowX 1 StrR W (.slice (some ⟨bs, 0, none⟩) 1 1) [(c : Int)] := rowX_blk g.bs rfl one_le fun i hi => by
    obtain rfl : i = 0 := by simpa using hi
    refine ⟨⟨rfl, ⟨?_, ?_⟩⟩, rfl⟩
    all_goals simp
    all_goals omega
  exact ⟨rfl, rfl, ⟨rfl, u32_0⟩, ⟨rfl, u32_0⟩, ⟨rfl, hu⟩, ⟨rfl, w64_e⟩, ⟨rfl, w64_0⟩, ⟨by kernel_rfl, by simp [smG], fun b hb => by
    obtain ⟨i, rfl⟩ := List.mem_ofFn.1 hb
    exact hf i⟩, ⟨_, by kernel_rfl, h1⟩, ⟨_, by kernel_rfl, rowX_nil⟩, ⟨_, by kernel_rfl, h2⟩, ⟨_, by kernel_rfl, h3⟩⟩
theorem small_row {W : World} {p1 p2 : Int} (h1 : W64 p1) (h2 : W64 p2) {f : Fin 68 → Int} (hf : ∀ i, 0 ≤ f i ∧ f i < 256) {bw1 bi1 bs1 bw2 bi2 bs2 bg : Nat} (g1 : SmG W 0 p1 bw1 bi1 bs1) (g2 : SmG W 1 p2 bw2 bi2 bs2)
    (kg : W.heap[bg]? = some (.cells (smallC gName1 0 (List.ofFn f) bw1 bi1 bs1 ++ smallC gName2 1 (List.ofFn f) bw2 bi2 bs2).toArray 50 (0, 0))) : RowG W (.slice (some ⟨bg, 0, none⟩) 2 2) [smG gName1 0 p1 h1 (List.ofFn f), smG gName2 1 p2 h2 (List.ofFn f)] := by
  have l1 := smC_len gName1 0 f bw1 bi1 bs1
  have l2 := smC_len gName2 1 f bw2 bi2 bs2
  refine rowX_blk kg rfl two_le fun i hi => ?_
  have hi' : i = 0 ∨ i = 1 := by simp at hi; omega
  rcases hi' with rfl | rfl
  · have e : ((smallC gName1 0 (List.ofFn f) bw1 bi1 bs1 ++ smallC gName2 1 (List.ofFn f) bw2 bi2 bs2).toArray.toList.drop (0 * 79)).take 79 = smallC gName1 0 (List.ofFn f) bw1 bi1 bs1 := by
      rw [Nat.zero_mul, List.drop_zero]
      exact List.take_left' l1
    rw [e]
    exact ⟨small_guest (by decide) h1 hf g1, l1⟩
  · have e : ((smallC gName1 0 (List.ofFn f) bw1 bi1 bs1 ++ smallC gName2 1 (List.ofFn f) bw2 bi2 bs2).toArray.toList.drop (1 * 79)).take 79 = smallC gName2 1 (List.ofFn f) bw2 bi2 bs2 := by
      rw [Nat.one_mul]
      show (List.drop 79 (smallC gName1 0 (List.ofFn f) bw1 bi1 bs1 ++ smallC gName2 1 (List.ofFn f) bw2 bi2 bs2)).take 79 = _
      rw [List.drop_left' l1, List.take_of_length_le (by rw [l2]; omega)]
    rw [e]
    exact ⟨small_guest (by decide) h2 hf g2, l2⟩
theorem small_chan {W : World} {bc : Nat} (n : Nat) (hn : n ≤ 63) (p : Int) (hp : p = (n + 1 : Nat)) (kc : W.heap[bc]? = some (.cells #[.int .u64 1107296256, .int .u64 (p * 4096), .int .i64 0, .int .i64 3, .int .u64 268435456, .int .i64 1, .int .i64 1, .int .u64 536870912] 76 (0, 0))) : RowC W (.slice (some ⟨bc, 0, none⟩) 1 1) [smCh n] :=
  rowX_blk kc rfl one_le fun i hi => by
    obtain rfl : i = 0 := by simpa using hi
    refine ⟨⟨?_, (show I64 0 from ⟨by decide, by decide⟩), (show I64 3 from ⟨by decide, by decide⟩), (show I64 1 from ⟨by decide, by decide⟩), (show I64 1 from ⟨by decide, by decide⟩)⟩, rfl⟩
    have e : p * 4096 = ((min n 63 + 1 : Nat) : Int) * 4096 := by rw [hp, Nat.min_eq_left hn]
    rw [e]
    rfl
/-- What the rules come to. -/
theorem c13_put {gs : List GuestV} {chs : List ChV} {g : Nat} (hg : g < gs.length) (hs : smallP gs chs) : c13 gs chs g = decide ((checkM (putAll (partsV gs[g]! chs g))).2 = 0) := by
  unfold c13
  rw [mapsP_in hg, ← putAll_eq _ (by have := hs g hg; omega), getElem!_pos gs g hg]
def tailP (b : BrdV) (gs : List GuestV) (chs : List ChV) : List Rl := namesO gs gs.length ++ (guestsO b gs gs.length ++ (chansO b gs chs chs.length ++ (List.range gs.length).flatMap fun (g : Nat) => [(decide ((checkM (putAll (partsV gs[g]! chs g))).2 = 0), 13, (g : Int))]))
theorem flat_congr {α β : Type} {l : List α} {f g : α → List β} (h : ∀ x ∈ l, f x = g x) : l.flatMap f = l.flatMap g := by
  induction l with
  | nil => rfl
  | cons x l ih => rw [List.flatMap_cons, List.flatMap_cons, h x (by simp), ih (fun y hy => h y (by simp [hy]))]
theorem endL_len (g : Int) (c : ChV) (e : EndV) : (endL g c e).length ≤ 1 := by unfold endL; split <;> simp
theorem chM_len (g : Int) (c : ChV) : (chM g c).length ≤ 2 := by
  unfold chM
  rw [List.length_append]
  have := endL_len g c c.e0
  have := endL_len g c c.e1
  omega
theorem tailP_eq {b : BrdV} {gs : List GuestV} {chs : List ChV} (hs : smallP gs chs) : tailO b gs chs = tailP b gs chs := by
  unfold tailO tailP mapsO
  congr 3
  refine flat_congr fun g hg => ?_
  rw [c13_put (List.mem_range.1 hg) hs]
theorem sm_small (K : List Int) (n : Nat) (p2 : Int) (h2 : W64 p2) : smallP [smG gName1 0 1074790400 pa1 K, smG gName2 1 p2 h2 K] [smCh n] := fun gi hg => by
  have hi' : gi = 0 ∨ gi = 1 := by simp at hg; omega
  rcases hi' with rfl | rfl
  · show ([_] ++ ([] ++ (chM 0 (smCh n) ++ []))).length ≤ _
    have := chM_len 0 (smCh n)
    simp; omega
  · show ([_] ++ ([] ++ (chM 1 (smCh n) ++ []))).length ≤ _
    have := chM_len 1 (smCh n)
    simp; omega
theorem sm_fit : fitV smB = true := by kernel_rfl
theorem sm_put (K : List Int) (hK : keyOk K = true) (n : Nat) (p2 : Int) (h2 : W64 p2) : putOk [smG gName1 0 1074790400 pa1 K, smG gName2 1 p2 h2 K] [smCh n] = true := by
  have e : ∀ s c p (h : W64 p), gOk (smG s c p h K) = (nameOk s && (keyOk K && (cntOk (smG s c p h K) && ((smG s c p h K).win.all permB && (smG s c p h K).irq.all irqB)))) := fun s c p h => rfl
  have g1 : gOk (smG gName1 0 1074790400 pa1 K) = true := by
    refine (e _ _ _ _).trans ?_
    rw [hK]
    kernel_rfl
  have g2 : gOk (smG gName2 1 p2 h2 K) = true := by
    refine (e _ _ _ _).trans ?_
    rw [hK]
    kernel_rfl
  have c : chB (smCh n) = true := by kernel_rfl
  rw [putOk_eq, List.all_cons, List.all_cons, List.all_nil, List.all_cons, List.all_nil, g1, g2, c]
  rfl
theorem sm_ok (K : List Int) : (List.range 64).all (fun n => (fb (tailP smB (smGs K) [smCh n])).isNone) = true := by kernel_rfl
theorem sm_bad (K : List Int) : fb (tailP smB (smGs' K) [smCh 0]) = some (4, 1) := by kernel_rfl
theorem sm_check (K : List Int) (hK : keyOk K = true) (n : Nat) (hn : n ≤ 63) : checkO smB (smGs K) [smCh n] = none := by
  rw [checkO_eq, sm_fit, if_pos rfl, show putOk (smGs K) [smCh n] = true from sm_put K hK n _ pa2, if_pos rfl, show tailO smB (smGs K) [smCh n] = _ from tailP_eq (sm_small K n _ pa2)]
  have := List.all_eq_true.1 (sm_ok K) n (List.mem_range.2 (by omega))
  exact Option.isNone_iff_eq_none.1 this
theorem sm_check' (K : List Int) (hK : keyOk K = true) : checkO smB (smGs' K) [smCh 0] = some (4, 1) := by
  rw [checkO_eq, sm_fit, if_pos rfl, show putOk (smGs' K) [smCh 0] = true from sm_put K hK 0 _ pa3, if_pos rfl, show tailO smB (smGs' K) [smCh 0] = _ from tailP_eq (sm_small K 0 _ pa3)]
  exact sm_bad K
end Go.Proofs.YtffdfeekpfmbeaaGreat
/- Chapter 17's example. -/
namespace Go.Proofs.YtffdfeekpfmbeaaGreat
open Go Go.RowKit Go.BigFrame

def f17 : Fin 68 → Int := fun i => if i.1 = 3 then 1 else 0
theorem f17_bd : ∀ i, 0 ≤ f17 i ∧ f17 i < 256 := fun i => by unfold f17; split <;> decide
theorem f17_ok : keyOk (List.ofFn f17) = true := by kernel_rfl
theorem key_build (W : World) : (Instr.build 40 #[(3, .int .u8 1)]).run Tryz.prog W = .ok (.agg ((List.ofFn f17).map (Value.int .u8)).toArray) W := run_build W _ _ _ (by kernel_rfl)
theorem zk_info : (Tryz.prog.info? 40).map (fun i => (i.zero, i.size)) = some (some (.agg (Array.replicate 68 (.int .u8 0))), 68) := by kernel_rfl
theorem sm_cells (f : Fin 68 → Int) (a b c d e g : Nat) : (smallC gName1 0 (List.ofFn f) a b c ++ smallC gName2 1 (List.ofFn f) d e g).toArray[154]? = some (.slice (some ⟨d, 0, none⟩) 1 1) := by kernel_rfl
theorem wpl_build {P : Program} {ops : Array Oper} {rest : List Oper} {o : Oper} {a : Act} {w : World} {Q : Exit → Act → World → Prop} (hgd : o.guard = none) (t : TypeId) (ps : Array (Nat × Operand)) (ho : o.op = .build t ps) (parts : Array (Nat × Value)) (hp : (ps.map fun (i, x) => (i, a.eval x)) = parts) (v : Value)
    (hr : (Instr.build t parts).run P w = .ok v w) (h : wpList P ops Q rest (a.put o.dst v) w) : wpList P ops Q (o :: rest) a w := by
  refine wpList_plain hgd fun K hK => ?_
  unfold Oper.wp execOp
  simp only [ho, hp, Sem.run_bind, hr, Result.andThen_ok, Sem.run_pure]
  exact hK _ _ h
/-- What the check says of a small configuration. -/
theorem small_check_any (f : Fin 68 → Int) (hf : ∀ i, 0 ≤ f i ∧ f i < 256) (hK : keyOk (List.ofFn f) = true) (n : Nat) (hn : n ≤ 63) (p : Int) (hp : p = (n + 1 : Nat)) {bw1 bi1 bs1 bw2 bi2 bs2 bg bc : Nat} (w : World) (h : SmW w f p bw1 bi1 bs1 bw2 bi2 bs2 bg bc) :
    Calls Tryz.prog 6 #[.agg #[.int .u64 1073741824, .int .u64 134217728, .int .u64 1073741824, .int .u64 1048576, .int .i64 64, .int .i64 8, .int .i64 4], .agg #[.int .u32 1, .slice (some ⟨bg, 0, none⟩) 2 2, .slice (some ⟨bc, 0, none⟩) 1 1]] w fun e w' =>
      e = .returned (.tuple #[.int .i64 0, .int .i64 0, .int .i64 0]) ∧ Below w.heap.size w w' := by
  have hG := small_row pa1 pa2 hf h.g1 h.g2 h.kg
  have hC := small_chan n hn p hp h.kc
  refine (check_any smB 1 _ _ (smGs (List.ofFn f)) [smCh n] w hG hC (sm_small _ n _ pa2) (fun g hg => ?_)).mono ?_
  · rcases List.mem_cons.1 hg with rfl | hg
    · exact (by decide : gName1.size ≤ 1000000)
    · rw [List.mem_singleton.1 hg]; exact (by decide : gName2.size ≤ 1000000)
  · rintro e w' ⟨rfl, hb⟩
    rw [sm_check _ hK n hn]
    exact ⟨rfl, hb⟩
theorem small_check_bad (f : Fin 68 → Int) (hf : ∀ i, 0 ≤ f i ∧ f i < 256) (hK : keyOk (List.ofFn f) = true) {bw1 bi1 bs1 bw2 bi2 bs2 bg bc : Nat} (w : World) (g1 : SmG w 0 1074790400 bw1 bi1 bs1) (g2 : SmG w 1 1074786304 bw2 bi2 bs2)
    (kg : w.heap[bg]? = some (.cells (smallC gName1 0 (List.ofFn f) bw1 bi1 bs1 ++ smallC gName2 1 (List.ofFn f) bw2 bi2 bs2).toArray 50 (0, 0)))
    (kc : w.heap[bc]? = some (.cells #[.int .u64 1107296256, .int .u64 (1 * 4096), .int .i64 0, .int .i64 3, .int .u64 268435456, .int .i64 1, .int .i64 1, .int .u64 536870912] 76 (0, 0))) :
    Calls Tryz.prog 6 #[.agg #[.int .u64 1073741824, .int .u64 134217728, .int .u64 1073741824, .int .u64 1048576, .int .i64 64, .int .i64 8, .int .i64 4], .agg #[.int .u32 1, .slice (some ⟨bg, 0, none⟩) 2 2, .slice (some ⟨bc, 0, none⟩) 1 1]] w fun e w' =>
      e = .returned (.tuple #[.int .i64 4, .int .i64 1, .int .i64 170]) ∧ Below w.heap.size w w' := by
  have hG := small_row pa1 pa3 hf g1 g2 kg
  have hC := small_chan 0 (by decide) 1 rfl kc
  refine (check_any smB 1 _ _ (smGs' (List.ofFn f)) [smCh 0] w hG hC (sm_small _ 0 _ pa3) (fun g hg => ?_)).mono ?_
  · rcases List.mem_cons.1 hg with rfl | hg
    · exact (by decide : gName1.size ≤ 1000000)
    · rw [List.mem_singleton.1 hg]; exact (by decide : gName2.size ≤ 1000000)
  · rintro e w' ⟨rfl, hb⟩
    rw [sm_check' _ hK]
    exact ⟨rfl, hb⟩
set_option maxRecDepth 100000 in
set_option maxHeartbeats 8000000 in
theorem awake17_any (w : World) : Calls Tryz.prog 4 #[] w fun e w' => e = .returned (.bool true) ∧ Below w.heap.size w w' := by
  obtain ⟨KA, hKA⟩ : ∃ KA, KA = ((List.ofFn f17).map (Value.int .u8)).toArray := ⟨_, rfl⟩
  have hKs : KA.size = 68 := by rw [hKA]; rfl
  have hK1 : KA.all (·.oneCell') = true := by rw [hKA]; kernel_rfl
  have hbuild := fun W => key_build W
  have hsm := fun W => small17_any 1 (by decide) (by decide) f17 W
  rw [← hKA] at hsm hbuild
  obtain ⟨W1, e1, z1, k1, b1⟩ := one_new w (.cells KA 40)
  replace k1 := k1 _ _ rfl
  replace hsm := hsm W1
  replace hKA := Lib.hid hKA
  replace hKs := Lib.hid hKs
  replace hK1 := Lib.hid hK1
  replace hbuild := Lib.hid hbuild
  replace e1 := Lib.hid e1
  replace z1 := Lib.hid z1
  go_enter Tryz.func4, Tryz.ntmps4
  go_upto_region 2 with (first | (refine wpl_build rfl 40 _ rfl #[(3, .int .u8 1)] (by simp [Act.eval]) _ (hbuild.out _) ?_) | (refine wpl_alloc_x rfl 40 rfl zk_info ?_) | (refine wpl_store_x rfl 40 _ _ rfl (by rw [hKs.out]; kernel_rfl) (by rw [hKs.out]; rfl) hK1.out rfl rfl ?_))
  rw [← e1.out]
  clear e1
  go_wp2_with (refine wpl_load_x rfl 40 _ rfl w.heap.size 0 68 KA.toList Tryz.underlying40 rfl (by kernel_rfl) rfl (by rw [Array.length_toList, hKs.out]) (fun j u hu => by simp only [World.cell?]; rw [show W1.heap[w.heap.size]? = _ from k1]; simpa using hu) ?_)
  rw [Array.toArray_toList]
  refine hsm.mono ?_; rintro e W2 ⟨bw1, bi1, bs1, bw2, bi2, bs2, bg, bc, rfl, hS, hlb, hb2⟩
  obtain ⟨W3, e3, z3, k3, b3⟩ := one_new W2 (.cells #[.int .u64 1073741824, .int .u64 134217728, .int .u64 1073741824, .int .u64 1048576, .int .i64 64, .int .i64 8, .int .i64 4] 26)
  obtain ⟨W4, e4, z4, k4, b4⟩ := one_new W3 (.cells #[.int .u32 1, .slice (some ⟨bg, 0, none⟩) 2 2, .slice (some ⟨bc, 0, none⟩) 1 1] 31)
  replace k3 := k3 _ _ rfl
  replace k4 := k4 _ _ rfl
  rw [z3] at k4
  have b24 : Below W2.heap.size W2 W4 := bthen b3 b4
  have hS4 : SmW W4 f17 1 bw1 bi1 bs1 bw2 bi2 bs2 bg bc := ⟨hS.g1.below b24, hS.g2.below b24, (b24.block _ (Array.getElem?_eq_some_iff.1 hS.kg).1).trans hS.kg, (b24.block _ (Array.getElem?_eq_some_iff.1 hS.kc).1).trans hS.kc⟩
  have kb := (b4.block _ (by omega)).trans k3
  have hz4 : W4.heap.size = W2.heap.size + 1 + 1 := by omega
  have hwW : w.heap.size < W2.heap.size := by have := hb2.size; have := z1.out; omega
  have hbl : Below w.heap.size w W4 := bthen (bthen b1 hb2) b24
  have e34 : W4 = (W2.alloc (.cells #[.int .u64 1073741824, .int .u64 134217728, .int .u64 1073741824, .int .u64 1048576, .int .i64 64, .int .i64 8, .int .i64 4] 26)).alloc (.cells #[.int .u32 1, .slice (some ⟨bg, 0, none⟩) 2 2, .slice (some ⟨bc, 0, none⟩) 1 1] 31) := by rw [e4, e3]
  clear e3 e4 z3 z4 k3 b3 b4 b24 hS
  have c0 : ∀ j u, #[.int .u64 1073741824, .int .u64 134217728, .int .u64 1073741824, .int .u64 1048576, .int .i64 64, .int .i64 8, .int .i64 4][j]? = some u → W4.cell? ⟨W2.heap.size, j, none⟩ = some u := fun j u hu => by
    simp only [World.cell?]; rw [show W4.heap[W2.heap.size]? = _ from kb]; simpa using hu
  have c1 : ∀ j u, #[.int .u32 1, .slice (some ⟨bg, 0, none⟩) 2 2, .slice (some ⟨bc, 0, none⟩) 1 1][j]? = some u → W4.cell? ⟨W2.heap.size + 1, j, none⟩ = some u := fun j u hu => by
    simp only [World.cell?]; rw [show W4.heap[W2.heap.size + 1]? = _ from k4]; simpa using hu
  have hck := small_check_any f17 f17_bd f17_ok 0 (by decide) 1 rfl W4 hS4
  replace e34 := Lib.hid e34
  replace hz4 := Lib.hid hz4
  replace c0 := Lib.hid c0
  replace c1 := Lib.hid c1
  go_upto_region 3 with fail
  rw [← e34.out]
  clear e34
  go_wp2_with (first | (refine wpl_load_x rfl 26 _ rfl W2.heap.size 0 7 [.int .u64 1073741824, .int .u64 134217728, .int .u64 1073741824, .int .u64 1048576, .int .i64 64, .int .i64 8, .int .i64 4] Tryz.underlying26 rfl (by kernel_rfl) rfl rfl (fun j u hu => by rw [Nat.zero_add]; exact c0.out j u (by simpa using hu)) ?_) | (refine wpl_load_x rfl 31 _ rfl (W2.heap.size + 1) 0 3 [.int .u32 1, .slice (some ⟨bg, 0, none⟩) 2 2, .slice (some ⟨bc, 0, none⟩) 1 1] Tryz.underlying31 rfl (by kernel_rfl) rfl rfl (fun j u hu => by rw [Nat.zero_add]; exact c1.out j u (by simpa using hu)) ?_))
  refine hck.mono ?_; rintro e W5 ⟨rfl, hb5⟩
  have st : ∀ {k o}, W4.heap[k]? = some o → W5.heap[k]? = some o := fun {k o} h => (hb5.block k (Array.getElem?_eq_some_iff.1 h).1).trans h
  have q1 := st hS4.g1.bw
  have q2 := st hS4.g1.bi
  have q3 := st hS4.g1.bs
  have q4 := st hS4.g2.bw
  have q5 := st hS4.g2.bi
  have q6 := st hS4.g2.bs
  have q7 := st hS4.kg
  have q8 := st hS4.kc
  have kb5 := st kb
  have k45 := st k4
  have hbl5 := bthen hbl hb5
  have hne : bw1 ≠ bw2 := fun e => by
    subst e
    rw [q1] at q4
    injection q4 with q4
    injection q4 with q4
    simp at q4
  have d1 : W5.cell? ⟨W2.heap.size + 1, 1, none⟩ = some (.slice (some ⟨bg, 0, none⟩) 2 2) := by
    simp only [World.cell?]; rw [show W5.heap[W2.heap.size + 1]? = _ from k45]; rfl
  have d2 : W5.cell? ⟨bg, 154, none⟩ = some (.slice (some ⟨bw2, 0, none⟩) 1 1) := by
    simp only [World.cell?]; rw [show W5.heap[bg]? = _ from q7]; exact sm_cells f17 _ _ _ _ _ _
  have d3 : W5.cell? ⟨bw2, 1, none⟩ = some (.int .u64 1075838976) := by
    simp only [World.cell?]; rw [show W5.heap[bw2]? = _ from q4]; rfl
  have d4 : W5.frozen? ⟨bw2, 1, none⟩ = false := by simp only [World.frozen?]; rw [show W5.heap[bw2]? = _ from q4]; simp
  obtain ⟨W6, e6⟩ : ∃ W6, W6 = W5.setCell ⟨bw2, 1, none⟩ (.int .u64 1074786304) := ⟨_, rfl⟩
  have hbl6 : Below w.heap.size w W6 := by rw [e6]; exact hbl5.setCell (by have := z1.out; show w.heap.size ≤ bw2; omega) _
  have o : ∀ {k : Nat}, k ≠ bw2 → W6.heap[k]? = W5.heap[k]? := fun {k} h => by rw [e6]; exact setCell_other h
  have g1 : SmG W6 0 1074790400 bw1 bi1 bs1 := ⟨(o hne).trans q1, (o (row_ne q2 q4 (by decide))).trans q2, (o (row_ne q3 q4 (by decide))).trans q3⟩
  have g2 : SmG W6 1 1074786304 bw2 bi2 bs2 := ⟨by rw [e6]; exact (setCell_at q4 1 _).trans rfl, (o (row_ne q5 q4 (by decide))).trans q5, (o (row_ne q6 q4 (by decide))).trans q6⟩
  have kg := (o (row_ne q7 q4 (by decide))).trans q7
  have kc := (o (row_ne q8 q4 (by decide))).trans q8
  have kb6 := (o (row_ne kb5 q4 (by decide))).trans kb5
  have k46 := (o (row_ne k45 q4 (by decide))).trans k45
  have hck2 := small_check_bad f17 f17_bd f17_ok W6 g1 g2 kg kc
  have m0 : ∀ j u, #[.int .u64 1073741824, .int .u64 134217728, .int .u64 1073741824, .int .u64 1048576, .int .i64 64, .int .i64 8, .int .i64 4][j]? = some u → W6.cell? ⟨W2.heap.size, j, none⟩ = some u := fun j u hu => by
    simp only [World.cell?]; rw [show W6.heap[W2.heap.size]? = _ from kb6]; simpa using hu
  have m1 : ∀ j u, #[.int .u32 1, .slice (some ⟨bg, 0, none⟩) 2 2, .slice (some ⟨bc, 0, none⟩) 1 1][j]? = some u → W6.cell? ⟨W2.heap.size + 1, j, none⟩ = some u := fun j u hu => by
    simp only [World.cell?]; rw [show W6.heap[W2.heap.size + 1]? = _ from k46]; simpa using hu
  clear st q1 q2 q3 q4 q5 q6 q7 q8 kb5 k45 o g1 g2 kg kc kb6 k46 hne hck hS4 kb k4 k1 b1 hb2 hsm hbl c0 c1
  replace e6 := Lib.hid e6
  replace m0 := Lib.hid m0
  replace m1 := Lib.hid m1
  go_upto_region 5 with fail
  rw [← e6.out]
  clear e6 d1 d2 d3 d4
  go_wp2_with (first | (refine wpl_load_x rfl 26 _ rfl W2.heap.size 0 7 [.int .u64 1073741824, .int .u64 134217728, .int .u64 1073741824, .int .u64 1048576, .int .i64 64, .int .i64 8, .int .i64 4] Tryz.underlying26 rfl (by kernel_rfl) rfl rfl (fun j u hu => by rw [Nat.zero_add]; exact m0.out j u (by simpa using hu)) ?_) | (refine wpl_load_x rfl 31 _ rfl (W2.heap.size + 1) 0 3 [.int .u32 1, .slice (some ⟨bg, 0, none⟩) 2 2, .slice (some ⟨bc, 0, none⟩) 1 1] Tryz.underlying31 rfl (by kernel_rfl) rfl rfl (fun j u hu => by rw [Nat.zero_add]; exact m1.out j u (by simpa using hu)) ?_))
  refine hck2.mono ?_; rintro e W7 ⟨rfl, hb7⟩
  have hbl7 := bthen hbl6 hb7
  clear hck2 m0 m1
  go_wp2_with fail
  go_ret
  exact ⟨rfl, hbl7⟩
end Go.Proofs.YtffdfeekpfmbeaaGreat
/- Where chapter 17's laws stand; ValidMaps. -/
namespace Go.Proofs.YtffdfeekpfmbeaaGreat
open Go Go.RowKit Go.Shelf Go.BigFrame

/-- The arguments' boxes, and all that lay before as it lay. -/
structure LIn (w0 W : World) (b : BrdV) (ver : Int) (vg vc : Value) : Prop where
  kb : W.heap[w0.heap.size]? = some (.cells #[.int .u64 b.ram.a, .int .u64 b.ram.b, .int .u64 b.ldr.a, .int .u64 b.ldr.b, .int .i64 b.irqs, .int .i64 b.strs, .int .i64 b.cpus] 26 (0, 0))
  kc : W.heap[w0.heap.size + 1]? = some (.cells #[.int .u32 ver, vg, vc] 31 (0, 0))
  bl : Below w0.heap.size w0 W
section
variable {w0 W W' : World} {b : BrdV} {ver : Int} {vg vc : Value}
theorem LIn.then (h : LIn w0 W b ver vg vc) (hb : Below W.heap.size W W') : LIn w0 W' b ver vg vc :=
  ⟨(hb.block _ (Array.getElem?_eq_some_iff.1 h.kb).1).trans h.kb, (hb.block _ (Array.getElem?_eq_some_iff.1 h.kc).1).trans h.kc, bthen h.bl hb⟩
theorem LIn.start (w0 : World) (b : BrdV) (ver : Int) (vg vc : Value) : LIn w0 ((w0.alloc (.cells #[.int .u64 b.ram.a, .int .u64 b.ram.b, .int .u64 b.ldr.a, .int .u64 b.ldr.b, .int .i64 b.irqs, .int .i64 b.strs, .int .i64 b.cpus] 26)).alloc (.cells #[.int .u32 ver, vg, vc] 31)) b ver vg vc := by
  refine ⟨((bone _ _).block _ (by simp)).trans (World.alloc_heap_new w0 _), ?_, bthen (bone w0 _) (bone _ _)⟩
  have := World.alloc_heap_new (w0.alloc (.cells #[.int .u64 b.ram.a, .int .u64 b.ram.b, .int .u64 b.ldr.a, .int .u64 b.ldr.b, .int .i64 b.irqs, .int .i64 b.strs, .int .i64 b.cpus] 26)) (.cells #[.int .u32 ver, vg, vc] 31)
  simpa using this
theorem LIn.cfg (h : LIn w0 W b ver vg vc) : W.cell? ⟨w0.heap.size + 1, 0, none⟩ = some (.int .u32 ver) ∧ W.cell? ⟨w0.heap.size + 1, 1, none⟩ = some vg ∧ W.cell? ⟨w0.heap.size + 1, 2, none⟩ = some vc := by
  simp only [World.cell?]
  rw [show W.heap[w0.heap.size + 1]? = _ from h.kc]
  exact ⟨rfl, rfl, rfl⟩
theorem LIn.brd (h : LIn w0 W b ver vg vc) : ∀ j u, [Value.int .u64 b.ram.a, .int .u64 b.ram.b, .int .u64 b.ldr.a, .int .u64 b.ldr.b, .int .i64 b.irqs, .int .i64 b.strs, .int .i64 b.cpus][j]? = some u → W.cell? ⟨w0.heap.size, 0 + j, none⟩ = some u := fun j u hu => by
  simp only [World.cell?]
  rw [show W.heap[w0.heap.size]? = _ from h.kb, Nat.zero_add]
  simpa using hu
end
theorem few_names {gs : List GuestV} {chs : List ChV} (h : fewV gs chs = true) : gs.length ≤ 20 ∧ chs.length ≤ 40 ∧ ∀ g ∈ gs, g.name.size ≤ 1000000 := by
  unfold fewV at h
  simp only [Bool.and_eq_true, decide_eq_true_eq, List.all_eq_true] at h
  refine ⟨h.1, h.2.1, fun g hg => ?_⟩
  have := h.2.2 g hg
  unfold fewG at this
  simp only [Bool.and_eq_true, decide_eq_true_eq] at this
  omega
/-- What a law says. -/
def LPost (w0 : World) (e : Ending) (W' : World) : Prop := e = .returned (.bool true) ∧ Below w0.heap.size w0 W'
end Go.Proofs.YtffdfeekpfmbeaaGreat
