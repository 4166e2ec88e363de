/- The small configuration: a guest of it. -/
import Derived.Test.YtffdfeekpfmbeaaGreatValidChecksP30
import Derived.Test.YtffdfeekpfmbeaaGreatValidChecksP43
import Derived.Test.YtffdfeekpfmbeaaGreatValidChecksP44
namespace Go.Proofs.YtffdfeekpfmbeaaGreat
open Go Go.RowKit Go.BigFrame

def smallCo (s : ByteArray) (c : Nat) (K : List Int) (a8 a10 a11 : Option Addr) : List Value :=
  [.string s, .bool false, .int .u32 0, .int .u32 0, .int .u32 (2 ^ c : Nat), .int .u64 4096, .int .u64 0] ++ (K.map (Value.int .u8) ++ [.slice a8 1 1, .slice none 0 0, .slice a10 1 1, .slice a11 1 1])
def smallC (s : ByteArray) (c : Nat) (K : List Int) (bw bi bs : Nat) : List Value :=
  [.string s, .bool false, .int .u32 0, .int .u32 0, .int .u32 (2 ^ c : Nat), .int .u64 4096, .int .u64 0] ++ (K.map (Value.int .u8) ++ [.slice (some ⟨bw, 0, none⟩) 1 1, .slice none 0 0, .slice (some ⟨bi, 0, none⟩) 1 1, .slice (some ⟨bs, 0, none⟩) 1 1])
/-- Where a small guest's rows lie. -/
structure SmG (W : World) (c : Nat) (pa : Int) (bw bi bs : Nat) : Prop where
  bw : W.heap[bw]? = some (.cells #[.int .u64 0, .int .u64 pa, .int .u64 1048576, .int .i64 7] 44 (0, 0))
  bi : W.heap[bi]? = some (.cells #[.int .i64 (32 + c : Nat), .int .i64 c, .bool false] 101 (0, 0))
  bs : W.heap[bs]? = some (.cells #[.int .u32 c] 27 (0, 0))
theorem SmG.below {W W' : World} {c : Nat} {pa : Int} {bw bi bs : Nat} (h : SmG W c pa bw bi bs) (hb : Below W.heap.size W W') : SmG W' c pa bw bi bs :=
  ⟨(hb.block _ (Array.getElem?_eq_some_iff.1 h.bw).1).trans h.bw, (hb.block _ (Array.getElem?_eq_some_iff.1 h.bi).1).trans h.bi, (hb.block _ (Array.getElem?_eq_some_iff.1 h.bs).1).trans h.bs⟩
theorem of_fn {K : List Int} (h : K.length = 68) : ∃ f : Fin 68 → Int, K = List.ofFn f :=
  ⟨fun i => K[i.1]'(by have := i.2; omega), by
    apply List.ext_getElem
    · rw [List.length_ofFn, h]
    · intro i h1 h2; rw [List.getElem_ofFn]⟩
theorem small_build (s : ByteArray) (c : Nat) (f : Fin 68 → Int) (a8 a10 a11 : Option Addr) (w : World) :
    (Instr.build 50 #[(0, .string s), (4, .int .u32 (2 ^ c : Nat)), (5, .int .u64 4096), (7, .agg ((List.ofFn f).map (Value.int .u8)).toArray), (8, .slice a8 1 1), (10, .slice a10 1 1), (11, .slice a11 1 1)]).run Tryz.prog w = .ok (.agg (smallCo s c (List.ofFn f) a8 a10 a11).toArray) w :=
  run_build w _ _ _ (by kernel_rfl)
theorem small_len (s : ByteArray) (c : Nat) (f : Fin 68 → Int) (bw bi bs : Nat) : (smallC s c (List.ofFn f) bw bi bs).toArray.size = 79 := by
  unfold smallC
  simp
theorem small_size (s : ByteArray) (c : Nat) (f : Fin 68 → Int) (bw bi bs : Nat) : (Tryz.prog.info? 50).map (·.size) = some (smallC s c (List.ofFn f) bw bi bs).toArray.size := by rw [small_len]; exact guest_size
theorem small_one (s : ByteArray) (c : Nat) (f : Fin 68 → Int) (bw bi bs : Nat) : (smallC s c (List.ofFn f) bw bi bs).toArray.all (·.oneCell') = true := by
  unfold smallC
  rw [List.all_toArray, List.all_append, List.all_append, Bool.and_eq_true, Bool.and_eq_true]
  refine ⟨rfl, List.all_eq_true.2 fun x hx => ?_, rfl⟩
  obtain ⟨n, _, rfl⟩ := List.mem_map.1 hx
  rfl
theorem one_new (X : World) (o : Obj) : ∃ Y, Y = X.alloc o ∧ Y.heap.size = X.heap.size + 1 ∧ (∀ cs T, o = .cells cs T → Y.heap[X.heap.size]? = some (.cells cs T (0, 0))) ∧ Below X.heap.size X Y :=
  ⟨_, rfl, by simp, fun cs T e => by subst e; exact World.alloc_heap_new X _, bone _ _⟩
structure Leaf (w V : World) (g8 : Nat) (c : Nat) (pa : Int) (bw bi bs : Nat) : Prop where
  hb : Below w.heap.size w V
  k8 : V.heap[g8]? = some (.cells zGuest 50 (0, 0))
  hl : w.heap.size ≤ g8
  sm : SmG V c pa bw bi bs
theorem Leaf.stored {w V : World} {g8 c : Nat} {pa : Int} {bw bi bs : Nat} (h : Leaf w V g8 c pa bw bi bs) (C : Array Value) : SmG (V.setRow g8 C) c pa bw bi bs ∧ Below w.heap.size w (V.setRow g8 C) ∧ (V.setRow g8 C).heap[g8]? = some (.cells C 50 (0, 0)) := by
  have hne : ∀ {b : Nat} {cs : Array Value} {T : TypeId}, V.heap[b]? = some (.cells cs T (0, 0)) → T ≠ 50 → b ≠ g8 := fun h1 h2 e => by
    subst e
    rw [h.k8] at h1
    injection h1 with h1
    injection h1 with _ h1
    exact h2 h1.symm
  exact ⟨⟨(setRow_other V g8 _ C (hne h.sm.bw (by decide))).trans h.sm.bw, (setRow_other V g8 _ C (hne h.sm.bi (by decide))).trans h.sm.bi, (setRow_other V g8 _ C (hne h.sm.bs (by decide))).trans h.sm.bs⟩, below_setRow h.hb h.hl C, setRow_heap V g8 _ C _ _ h.k8⟩
set_option maxRecDepth 100000 in
set_option maxHeartbeats 8000000 in
theorem guest17_any (s : ByteArray) (c : Nat) (ci : Int) (hc : (c = 0 ∧ ci = 0) ∨ (c = 1 ∧ ci = 1)) (pa : Int) (K : List Int) (h68 : K.length = 68) (w : World) :
    Calls Tryz.prog 20 #[.string s, .int .i64 ci, .int .u64 pa, .agg (K.map (Value.int .u8)).toArray] w fun e w' => ∃ bw bi bs, e = .returned (.agg (smallC s c K bw bi bs).toArray) ∧ SmG w' c pa bw bi bs ∧ w.heap.size ≤ bw ∧ Below w.heap.size w w' := by
  obtain ⟨f, rfl⟩ := of_fn h68
  obtain ⟨KA, hKA⟩ : ∃ KA, KA = ((List.ofFn f).map (Value.int .u8)).toArray := ⟨_, rfl⟩
  have hKs : KA.size = 68 := by rw [hKA]; simp
  rw [← hKA]
  obtain ⟨W1, hW1⟩ : ∃ W1, W1 = (w.alloc (.cells KA 40)).alloc (.cells zGuest 50) := ⟨_, rfl⟩
  have hb1 : Below w.heap.size w W1 := by rw [hW1]; exact bthen (bone w _) (bone _ _)
  have k7 : W1.heap[w.heap.size]? = some (.cells KA 40 (0, 0)) := by rw [hW1]; exact ((bone _ _).block _ (by simp)).trans (World.alloc_heap_new w _)
  have k8 : W1.heap[w.heap.size + 1]? = some (.cells zGuest 50 (0, 0)) := by
    have := World.alloc_heap_new (w.alloc (.cells KA 40)) (.cells zGuest 50)
    rw [hW1]
    simpa using this
  replace hKA := Lib.hid hKA
  replace hW1 := Lib.hid hW1
  replace hKs := Lib.hid hKs
  go_enter Tryz.func20, Tryz.ntmps20
  go_upto_region 1 with (refine wpl_alloc_x rfl 50 rfl zGuest_info ?_)
  rw [← hW1.out]
  clear hW1
  have yK : ∀ X : HeldF (· = w.heap.size) W1, (Instr.loadAt 40 (.pointer (some ⟨w.heap.size, 0, none⟩))).run Tryz.prog X.x = .ok (.agg KA) X.x := fun X => by
    have h := run_loadAt_mid (P := Tryz.prog) X.x w.heap.size 0 40 KA.toList _ (fun j v hv => by
      simp only [World.cell?, X.h _ rfl, k7]
      simpa using hv) Tryz.underlying40 rfl (by rw [Array.length_toList, hKs.out]; kernel_rfl)
    rwa [Array.toArray_toList] at h
  simp only [Act.put, List.setIfInBounds_toArray, List.set_cons_succ, List.set_cons_zero, World.size_alloc]
  refine region_tree (fun z => ∃ X : HeldF (· = w.heap.size) W1, z = X.x) (by kernel_rfl) ?_
  obtain ⟨X, hXe⟩ : ∃ X, X = W1.drew := ⟨_, rfl⟩
  rw [← hXe]
  have hX : ∀ b, b = w.heap.size → X.heap[b]? = W1.heap[b]? := fun b _ => by rw [hXe]; rfl
  have hbX : Below w.heap.size w X := by rw [hXe]; exact hb1.drew
  have k8X : X.heap[w.heap.size + 1]? = some (.cells zGuest 50 (0, 0)) := by rw [hXe]; exact k8
  have hzX : w.heap.size + 1 < X.heap.size := (Array.getElem?_eq_some_iff.1 k8X).1
  clear hXe hb1 k7 k8 h68
  rcases hc with hc | hc
  · obtain ⟨rfl, rfl⟩ := hc
    refine tree_step [0, 1, 2, 3, 4, 5, 7, 8, 9, 10, 12, 13] [6, 11, 14] 4 (by kernel_rfl) (fun _ _ d _ _ h => by cases d <;> exact h) (by kernel_rfl) (by simp) rfl ⟨⟨X, hX⟩, rfl⟩ ?_
    simp only [List.filterMap_cons, List.filterMap_nil, List.getElem?_cons_succ, List.getElem?_cons_zero]
    repeat (change wpQuiet _ _ _ _ (List.cons _ _) _; first | go_big_quiet_step (fail) | (refine wpQuiet_load rfl 40 _ rfl (.pointer (some ⟨w.heap.size, 0, none⟩)) (.agg KA) rfl (fun w' hw' => by obtain ⟨X, rfl⟩ := hw'; exact yK X) ?_; simp only [Act.put, List.setIfInBounds_toArray, List.set_cons_succ, List.set_cons_zero]))
    refine wpQuiet_nil ?_
    intro i hi Q₁ hQ₁ hQp
    obtain rfl | rfl | rfl := mem3 hi
    · simp only [List.getElem?_cons_succ, List.getElem?_cons_zero, Option.toList]
      obtain ⟨X6, eX6, zX6, kX6, bX6⟩ := one_new X (.cells #[.int .u64 0, .int .u64 pa, .int .u64 1048576, .int .i64 7] 44)
      replace kX6 := kX6 _ _ rfl
      have hX6 : ∀ b, b = w.heap.size → X6.heap[b]? = W1.heap[b]? := fun b hb => (bX6.block b (by have := zX6; omega)).trans (hX b hb)
      have hzX6 : w.heap.size + 1 < X6.heap.size := by omega
      replace zX6 := Lib.hid zX6
      go_wp2_with fail
      rw [← eX6]
      refine hQ₁ _ _ ⟨⟨X6, hX6⟩, rfl⟩ ?_
      clear hQ₁ hQp Q₁ eX6
      refine tree_step [] [11, 14] 3 (by kernel_rfl) (fun _ _ d _ _ h => by cases d <;> exact h) (by kernel_rfl) (by simp) rfl ⟨⟨X6, hX6⟩, rfl⟩ ?_
      refine wpQuiet_nil ?_
      intro i hi Q₁ hQ₁ hQp
      obtain rfl | rfl := mem2 hi
      · simp only [List.getElem?_cons_succ, List.getElem?_cons_zero, Option.toList]
        obtain ⟨X611, eX611, zX611, kX611, bX611⟩ := one_new X6 (.cells #[.int .i64 32, .int .i64 0, .bool false] 101)
        replace kX611 := kX611 _ _ rfl
        have hX611 : ∀ b, b = w.heap.size → X611.heap[b]? = W1.heap[b]? := fun b hb => (bX611.block b (by have := zX611; omega)).trans (hX6 b hb)
        have hzX611 : w.heap.size + 1 < X611.heap.size := by omega
        replace zX611 := Lib.hid zX611
        go_wp2_with fail
        rw [← eX611]
        refine hQ₁ _ _ ⟨⟨X611, hX611⟩, rfl⟩ ?_
        clear hQ₁ hQp Q₁ eX611
        refine tree_step [] [14] 2 (by kernel_rfl) (fun _ _ d _ _ h => by cases d <;> exact h) (by kernel_rfl) (by simp) rfl ⟨⟨X611, hX611⟩, rfl⟩ ?_
        refine wpQuiet_nil ?_
        intro i hi Q₁ hQ₁ hQp
        obtain rfl := mem1 hi
        simp only [List.getElem?_cons_succ, List.getElem?_cons_zero, Option.toList]
        obtain ⟨X61114, eX61114, zX61114, kX61114, bX61114⟩ := one_new X611 (.cells #[.int .u32 0] 27)
        replace kX61114 := kX61114 _ _ rfl
        have hX61114 : ∀ b, b = w.heap.size → X61114.heap[b]? = W1.heap[b]? := fun b hb => (bX61114.block b (by have := zX61114; omega)).trans (hX611 b hb)
        have hzX61114 : w.heap.size + 1 < X61114.heap.size := by omega
        replace zX61114 := Lib.hid zX61114
        go_wp2_with fail
        rw [← eX61114]
        refine hQ₁ _ _ ⟨⟨X61114, hX61114⟩, rfl⟩ ?_
        clear hQ₁ hQp Q₁ eX61114
        have hV : Below w.heap.size w X61114 := bthen (bthen (bthen hbX bX6) bX611) bX61114
        have hL : Leaf w X61114 (w.heap.size + 1) 0 pa X.heap.size X6.heap.size X611.heap.size := ⟨hV, (bX61114.block _ (by have := hzX611; omega)).trans ((bX611.block _ (by have := hzX6; omega)).trans ((bX6.block _ (by omega)).trans k8X)), by omega, ⟨(bX61114.block _ (Array.getElem?_eq_some_iff.1 ((bX611.block _ (Array.getElem?_eq_some_iff.1 (kX6)).1).trans (kX6))).1).trans ((bX611.block _ (Array.getElem?_eq_some_iff.1 (kX6)).1).trans (kX6)), (bX61114.block _ (Array.getElem?_eq_some_iff.1 (kX611)).1).trans (kX611), kX61114⟩⟩
        obtain ⟨q1, q2, q3⟩ := hL.stored (smallC s 0 (List.ofFn f) X.heap.size X6.heap.size X611.heap.size).toArray
        have hbd : ∀ W : World, (Instr.build 50 #[(0, .string s), (4, .int .u32 1), (5, .int .u64 4096), (7, .agg KA), (8, .slice (some ⟨X.heap.size, 0, none⟩) 1 1), (10, .slice (some ⟨X6.heap.size, 0, none⟩) 1 1), (11, .slice (some ⟨X611.heap.size, 0, none⟩) 1 1)]).run Tryz.prog W = .ok (.agg (smallC s 0 (List.ofFn f) X.heap.size X6.heap.size X611.heap.size).toArray) W := fun W => by rw [hKA.out]; exact small_build s 0 f _ _ _ W
        refine tree_step [15] [16] 0 (by kernel_rfl) (fun _ _ d _ _ h => by cases d <;> exact h) (by kernel_rfl) (by simp) rfl ⟨⟨X61114, hX61114⟩, rfl⟩ ?_
        simp only [List.filterMap_cons, List.filterMap_nil, List.getElem?_cons_succ, List.getElem?_cons_zero]
        refine wpQuiet_build rfl 50 _ rfl #[(0, .string s), (4, .int .u32 1), (5, .int .u64 4096), (7, .agg KA), (8, .slice (some ⟨X.heap.size, 0, none⟩) 1 1), (10, .slice (some ⟨X6.heap.size, 0, none⟩) 1 1), (11, .slice (some ⟨X611.heap.size, 0, none⟩) 1 1)] (by simp [Act.eval]) _ hbd ?_
        refine wpQuiet_nil ?_
        intro i hi Q₁ hQ₁ hQp
        obtain rfl := mem1 hi
        simp only [List.getElem?_cons_succ, List.getElem?_cons_zero, Option.toList]
        refine wpl_store_row rfl 50 _ _ rfl hL.k8 (small_size _ _ _ _ _ _) (by rw [small_len]; kernel_rfl) (small_one _ _ _ _ _ _) rfl rfl ?_
        refine wpList_nil ?_
        refine hQ₁ _ _ ⟨⟨_, fun b hb => (setRow_other _ _ _ _ (by omega)).trans (hX61114 b hb)⟩, rfl⟩ ?_
        clear hQ₁ hQp Q₁
        refine tree_end [] (by kernel_rfl) (fun _ _ d _ _ h => by cases d <;> exact h) (by kernel_rfl) rfl ⟨⟨_, fun b hb => (setRow_other _ _ _ _ (by omega)).trans (hX61114 b hb)⟩, rfl⟩ ?_
        refine wpQuiet_nil ?_
        go_wp2_with fail
        exact bodyPost_ret (results_cell_row (fn := Tryz.f20) (p := 8) (ty := 50) (by kernel_rfl) _ _ _ _ _ _ _ rfl q3 Tryz.underlying50 rfl (by rw [small_len]; exact guest_size)) rfl ⟨_, _, _, rfl, q1, by omega, q2⟩
      · simp only [List.getElem?_cons_succ, List.getElem?_cons_zero, Option.toList]
        obtain ⟨X614, eX614, zX614, kX614, bX614⟩ := one_new X6 (.cells #[.int .u32 0] 27)
        replace kX614 := kX614 _ _ rfl
        have hX614 : ∀ b, b = w.heap.size → X614.heap[b]? = W1.heap[b]? := fun b hb => (bX614.block b (by have := zX614; omega)).trans (hX6 b hb)
        have hzX614 : w.heap.size + 1 < X614.heap.size := by omega
        replace zX614 := Lib.hid zX614
        go_wp2_with fail
        rw [← eX614]
        refine hQ₁ _ _ ⟨⟨X614, hX614⟩, rfl⟩ ?_
        clear hQ₁ hQp Q₁ eX614
        refine tree_step [] [11] 2 (by kernel_rfl) (fun _ _ d _ _ h => by cases d <;> exact h) (by kernel_rfl) (by simp) rfl ⟨⟨X614, hX614⟩, rfl⟩ ?_
        refine wpQuiet_nil ?_
        intro i hi Q₁ hQ₁ hQp
        obtain rfl := mem1 hi
        simp only [List.getElem?_cons_succ, List.getElem?_cons_zero, Option.toList]
        obtain ⟨X61411, eX61411, zX61411, kX61411, bX61411⟩ := one_new X614 (.cells #[.int .i64 32, .int .i64 0, .bool false] 101)
        replace kX61411 := kX61411 _ _ rfl
        have hX61411 : ∀ b, b = w.heap.size → X61411.heap[b]? = W1.heap[b]? := fun b hb => (bX61411.block b (by have := zX61411; omega)).trans (hX614 b hb)
        have hzX61411 : w.heap.size + 1 < X61411.heap.size := by omega
        replace zX61411 := Lib.hid zX61411
        go_wp2_with fail
        rw [← eX61411]
        refine hQ₁ _ _ ⟨⟨X61411, hX61411⟩, rfl⟩ ?_
        clear hQ₁ hQp Q₁ eX61411
        have hV : Below w.heap.size w X61411 := bthen (bthen (bthen hbX bX6) bX614) bX61411
        have hL : Leaf w X61411 (w.heap.size + 1) 0 pa X.heap.size X614.heap.size X6.heap.size := ⟨hV, (bX61411.block _ (by have := hzX614; omega)).trans ((bX614.block _ (by have := hzX6; omega)).trans ((bX6.block _ (by omega)).trans k8X)), by omega, ⟨(bX61411.block _ (Array.getElem?_eq_some_iff.1 ((bX614.block _ (Array.getElem?_eq_some_iff.1 (kX6)).1).trans (kX6))).1).trans ((bX614.block _ (Array.getElem?_eq_some_iff.1 (kX6)).1).trans (kX6)), kX61411, (bX61411.block _ (Array.getElem?_eq_some_iff.1 (kX614)).1).trans (kX614)⟩⟩
        obtain ⟨q1, q2, q3⟩ := hL.stored (smallC s 0 (List.ofFn f) X.heap.size X614.heap.size X6.heap.size).toArray
        have hbd : ∀ W : World, (Instr.build 50 #[(0, .string s), (4, .int .u32 1), (5, .int .u64 4096), (7, .agg KA), (8, .slice (some ⟨X.heap.size, 0, none⟩) 1 1), (10, .slice (some ⟨X614.heap.size, 0, none⟩) 1 1), (11, .slice (some ⟨X6.heap.size, 0, none⟩) 1 1)]).run Tryz.prog W = .ok (.agg (smallC s 0 (List.ofFn f) X.heap.size X614.heap.size X6.heap.size).toArray) W := fun W => by rw [hKA.out]; exact small_build s 0 f _ _ _ W
        refine tree_step [15] [16] 0 (by kernel_rfl) (fun _ _ d _ _ h => by cases d <;> exact h) (by kernel_rfl) (by simp) rfl ⟨⟨X61411, hX61411⟩, rfl⟩ ?_
        simp only [List.filterMap_cons, List.filterMap_nil, List.getElem?_cons_succ, List.getElem?_cons_zero]
        refine wpQuiet_build rfl 50 _ rfl #[(0, .string s), (4, .int .u32 1), (5, .int .u64 4096), (7, .agg KA), (8, .slice (some ⟨X.heap.size, 0, none⟩) 1 1), (10, .slice (some ⟨X614.heap.size, 0, none⟩) 1 1), (11, .slice (some ⟨X6.heap.size, 0, none⟩) 1 1)] (by simp [Act.eval]) _ hbd ?_
        refine wpQuiet_nil ?_
        intro i hi Q₁ hQ₁ hQp
        obtain rfl := mem1 hi
        simp only [List.getElem?_cons_succ, List.getElem?_cons_zero, Option.toList]
        refine wpl_store_row rfl 50 _ _ rfl hL.k8 (small_size _ _ _ _ _ _) (by rw [small_len]; kernel_rfl) (small_one _ _ _ _ _ _) rfl rfl ?_
        refine wpList_nil ?_
        refine hQ₁ _ _ ⟨⟨_, fun b hb => (setRow_other _ _ _ _ (by omega)).trans (hX61411 b hb)⟩, rfl⟩ ?_
        clear hQ₁ hQp Q₁
        refine tree_end [] (by kernel_rfl) (fun _ _ d _ _ h => by cases d <;> exact h) (by kernel_rfl) rfl ⟨⟨_, fun b hb => (setRow_other _ _ _ _ (by omega)).trans (hX61411 b hb)⟩, rfl⟩ ?_
        refine wpQuiet_nil ?_
        go_wp2_with fail
        exact bodyPost_ret (results_cell_row (fn := Tryz.f20) (p := 8) (ty := 50) (by kernel_rfl) _ _ _ _ _ _ _ rfl q3 Tryz.underlying50 rfl (by rw [small_len]; exact guest_size)) rfl ⟨_, _, _, rfl, q1, by omega, q2⟩
    · simp only [List.getElem?_cons_succ, List.getElem?_cons_zero, Option.toList]
      obtain ⟨X11, eX11, zX11, kX11, bX11⟩ := one_new X (.cells #[.int .i64 32, .int .i64 0, .bool false] 101)
      replace kX11 := kX11 _ _ rfl
      have hX11 : ∀ b, b = w.heap.size → X11.heap[b]? = W1.heap[b]? := fun b hb => (bX11.block b (by have := zX11; omega)).trans (hX b hb)
      have hzX11 : w.heap.size + 1 < X11.heap.size := by omega
      replace zX11 := Lib.hid zX11
      go_wp2_with fail
      rw [← eX11]
      refine hQ₁ _ _ ⟨⟨X11, hX11⟩, rfl⟩ ?_
      clear hQ₁ hQp Q₁ eX11
      refine tree_step [] [6, 14] 3 (by kernel_rfl) (fun _ _ d _ _ h => by cases d <;> exact h) (by kernel_rfl) (by simp) rfl ⟨⟨X11, hX11⟩, rfl⟩ ?_
      refine wpQuiet_nil ?_
      intro i hi Q₁ hQ₁ hQp
      obtain rfl | rfl := mem2 hi
      · simp only [List.getElem?_cons_succ, List.getElem?_cons_zero, Option.toList]
        obtain ⟨X116, eX116, zX116, kX116, bX116⟩ := one_new X11 (.cells #[.int .u64 0, .int .u64 pa, .int .u64 1048576, .int .i64 7] 44)
        replace kX116 := kX116 _ _ rfl
        have hX116 : ∀ b, b = w.heap.size → X116.heap[b]? = W1.heap[b]? := fun b hb => (bX116.block b (by have := zX116; omega)).trans (hX11 b hb)
        have hzX116 : w.heap.size + 1 < X116.heap.size := by omega
        replace zX116 := Lib.hid zX116
        go_wp2_with fail
        rw [← eX116]
        refine hQ₁ _ _ ⟨⟨X116, hX116⟩, rfl⟩ ?_
        clear hQ₁ hQp Q₁ eX116
        refine tree_step [] [14] 2 (by kernel_rfl) (fun _ _ d _ _ h => by cases d <;> exact h) (by kernel_rfl) (by simp) rfl ⟨⟨X116, hX116⟩, rfl⟩ ?_
        refine wpQuiet_nil ?_
        intro i hi Q₁ hQ₁ hQp
        obtain rfl := mem1 hi
        simp only [List.getElem?_cons_succ, List.getElem?_cons_zero, Option.toList]
        obtain ⟨X11614, eX11614, zX11614, kX11614, bX11614⟩ := one_new X116 (.cells #[.int .u32 0] 27)
        replace kX11614 := kX11614 _ _ rfl
        have hX11614 : ∀ b, b = w.heap.size → X11614.heap[b]? = W1.heap[b]? := fun b hb => (bX11614.block b (by have := zX11614; omega)).trans (hX116 b hb)
        have hzX11614 : w.heap.size + 1 < X11614.heap.size := by omega
        replace zX11614 := Lib.hid zX11614
        go_wp2_with fail
        rw [← eX11614]
        refine hQ₁ _ _ ⟨⟨X11614, hX11614⟩, rfl⟩ ?_
        clear hQ₁ hQp Q₁ eX11614
        have hV : Below w.heap.size w X11614 := bthen (bthen (bthen hbX bX11) bX116) bX11614
        have hL : Leaf w X11614 (w.heap.size + 1) 0 pa X11.heap.size X.heap.size X116.heap.size := ⟨hV, (bX11614.block _ (by have := hzX116; omega)).trans ((bX116.block _ (by have := hzX11; omega)).trans ((bX11.block _ (by omega)).trans k8X)), by omega, ⟨(bX11614.block _ (Array.getElem?_eq_some_iff.1 (kX116)).1).trans (kX116), (bX11614.block _ (Array.getElem?_eq_some_iff.1 ((bX116.block _ (Array.getElem?_eq_some_iff.1 (kX11)).1).trans (kX11))).1).trans ((bX116.block _ (Array.getElem?_eq_some_iff.1 (kX11)).1).trans (kX11)), kX11614⟩⟩
        obtain ⟨q1, q2, q3⟩ := hL.stored (smallC s 0 (List.ofFn f) X11.heap.size X.heap.size X116.heap.size).toArray
        have hbd : ∀ W : World, (Instr.build 50 #[(0, .string s), (4, .int .u32 1), (5, .int .u64 4096), (7, .agg KA), (8, .slice (some ⟨X11.heap.size, 0, none⟩) 1 1), (10, .slice (some ⟨X.heap.size, 0, none⟩) 1 1), (11, .slice (some ⟨X116.heap.size, 0, none⟩) 1 1)]).run Tryz.prog W = .ok (.agg (smallC s 0 (List.ofFn f) X11.heap.size X.heap.size X116.heap.size).toArray) W := fun W => by rw [hKA.out]; exact small_build s 0 f _ _ _ W
        refine tree_step [15] [16] 0 (by kernel_rfl) (fun _ _ d _ _ h => by cases d <;> exact h) (by kernel_rfl) (by simp) rfl ⟨⟨X11614, hX11614⟩, rfl⟩ ?_
        simp only [List.filterMap_cons, List.filterMap_nil, List.getElem?_cons_succ, List.getElem?_cons_zero]
        refine wpQuiet_build rfl 50 _ rfl #[(0, .string s), (4, .int .u32 1), (5, .int .u64 4096), (7, .agg KA), (8, .slice (some ⟨X11.heap.size, 0, none⟩) 1 1), (10, .slice (some ⟨X.heap.size, 0, none⟩) 1 1), (11, .slice (some ⟨X116.heap.size, 0, none⟩) 1 1)] (by simp [Act.eval]) _ hbd ?_
        refine wpQuiet_nil ?_
        intro i hi Q₁ hQ₁ hQp
        obtain rfl := mem1 hi
        simp only [List.getElem?_cons_succ, List.getElem?_cons_zero, Option.toList]
        refine wpl_store_row rfl 50 _ _ rfl hL.k8 (small_size _ _ _ _ _ _) (by rw [small_len]; kernel_rfl) (small_one _ _ _ _ _ _) rfl rfl ?_
        refine wpList_nil ?_
        refine hQ₁ _ _ ⟨⟨_, fun b hb => (setRow_other _ _ _ _ (by omega)).trans (hX11614 b hb)⟩, rfl⟩ ?_
        clear hQ₁ hQp Q₁
        refine tree_end [] (by kernel_rfl) (fun _ _ d _ _ h => by cases d <;> exact h) (by kernel_rfl) rfl ⟨⟨_, fun b hb => (setRow_other _ _ _ _ (by omega)).trans (hX11614 b hb)⟩, rfl⟩ ?_
        refine wpQuiet_nil ?_
        go_wp2_with fail
        exact bodyPost_ret (results_cell_row (fn := Tryz.f20) (p := 8) (ty := 50) (by kernel_rfl) _ _ _ _ _ _ _ rfl q3 Tryz.underlying50 rfl (by rw [small_len]; exact guest_size)) rfl ⟨_, _, _, rfl, q1, by omega, q2⟩
      · simp only [List.getElem?_cons_succ, List.getElem?_cons_zero, Option.toList]
        obtain ⟨X1114, eX1114, zX1114, kX1114, bX1114⟩ := one_new X11 (.cells #[.int .u32 0] 27)
        replace kX1114 := kX1114 _ _ rfl
        have hX1114 : ∀ b, b = w.heap.size → X1114.heap[b]? = W1.heap[b]? := fun b hb => (bX1114.block b (by have := zX1114; omega)).trans (hX11 b hb)
        have hzX1114 : w.heap.size + 1 < X1114.heap.size := by omega
        replace zX1114 := Lib.hid zX1114
        go_wp2_with fail
        rw [← eX1114]
        refine hQ₁ _ _ ⟨⟨X1114, hX1114⟩, rfl⟩ ?_
        clear hQ₁ hQp Q₁ eX1114
        refine tree_step [] [6] 2 (by kernel_rfl) (fun _ _ d _ _ h => by cases d <;> exact h) (by kernel_rfl) (by simp) rfl ⟨⟨X1114, hX1114⟩, rfl⟩ ?_
        refine wpQuiet_nil ?_
        intro i hi Q₁ hQ₁ hQp
        obtain rfl := mem1 hi
        simp only [List.getElem?_cons_succ, List.getElem?_cons_zero, Option.toList]
        obtain ⟨X11146, eX11146, zX11146, kX11146, bX11146⟩ := one_new X1114 (.cells #[.int .u64 0, .int .u64 pa, .int .u64 1048576, .int .i64 7] 44)
        replace kX11146 := kX11146 _ _ rfl
        have hX11146 : ∀ b, b = w.heap.size → X11146.heap[b]? = W1.heap[b]? := fun b hb => (bX11146.block b (by have := zX11146; omega)).trans (hX1114 b hb)
        have hzX11146 : w.heap.size + 1 < X11146.heap.size := by omega
        replace zX11146 := Lib.hid zX11146
        go_wp2_with fail
        rw [← eX11146]
        refine hQ₁ _ _ ⟨⟨X11146, hX11146⟩, rfl⟩ ?_
        clear hQ₁ hQp Q₁ eX11146
        have hV : Below w.heap.size w X11146 := bthen (bthen (bthen hbX bX11) bX1114) bX11146
        have hL : Leaf w X11146 (w.heap.size + 1) 0 pa X1114.heap.size X.heap.size X11.heap.size := ⟨hV, (bX11146.block _ (by have := hzX1114; omega)).trans ((bX1114.block _ (by have := hzX11; omega)).trans ((bX11.block _ (by omega)).trans k8X)), by omega, ⟨kX11146, (bX11146.block _ (Array.getElem?_eq_some_iff.1 ((bX1114.block _ (Array.getElem?_eq_some_iff.1 (kX11)).1).trans (kX11))).1).trans ((bX1114.block _ (Array.getElem?_eq_some_iff.1 (kX11)).1).trans (kX11)), (bX11146.block _ (Array.getElem?_eq_some_iff.1 (kX1114)).1).trans (kX1114)⟩⟩
        obtain ⟨q1, q2, q3⟩ := hL.stored (smallC s 0 (List.ofFn f) X1114.heap.size X.heap.size X11.heap.size).toArray
        have hbd : ∀ W : World, (Instr.build 50 #[(0, .string s), (4, .int .u32 1), (5, .int .u64 4096), (7, .agg KA), (8, .slice (some ⟨X1114.heap.size, 0, none⟩) 1 1), (10, .slice (some ⟨X.heap.size, 0, none⟩) 1 1), (11, .slice (some ⟨X11.heap.size, 0, none⟩) 1 1)]).run Tryz.prog W = .ok (.agg (smallC s 0 (List.ofFn f) X1114.heap.size X.heap.size X11.heap.size).toArray) W := fun W => by rw [hKA.out]; exact small_build s 0 f _ _ _ W
        refine tree_step [15] [16] 0 (by kernel_rfl) (fun _ _ d _ _ h => by cases d <;> exact h) (by kernel_rfl) (by simp) rfl ⟨⟨X11146, hX11146⟩, rfl⟩ ?_
        simp only [List.filterMap_cons, List.filterMap_nil, List.getElem?_cons_succ, List.getElem?_cons_zero]
        refine wpQuiet_build rfl 50 _ rfl #[(0, .string s), (4, .int .u32 1), (5, .int .u64 4096), (7, .agg KA), (8, .slice (some ⟨X1114.heap.size, 0, none⟩) 1 1), (10, .slice (some ⟨X.heap.size, 0, none⟩) 1 1), (11, .slice (some ⟨X11.heap.size, 0, none⟩) 1 1)] (by simp [Act.eval]) _ hbd ?_
        refine wpQuiet_nil ?_
        intro i hi Q₁ hQ₁ hQp
        obtain rfl := mem1 hi
        simp only [List.getElem?_cons_succ, List.getElem?_cons_zero, Option.toList]
        refine wpl_store_row rfl 50 _ _ rfl hL.k8 (small_size _ _ _ _ _ _) (by rw [small_len]; kernel_rfl) (small_one _ _ _ _ _ _) rfl rfl ?_
        refine wpList_nil ?_
        refine hQ₁ _ _ ⟨⟨_, fun b hb => (setRow_other _ _ _ _ (by omega)).trans (hX11146 b hb)⟩, rfl⟩ ?_
        clear hQ₁ hQp Q₁
        refine tree_end [] (by kernel_rfl) (fun _ _ d _ _ h => by cases d <;> exact h) (by kernel_rfl) rfl ⟨⟨_, fun b hb => (setRow_other _ _ _ _ (by omega)).trans (hX11146 b hb)⟩, rfl⟩ ?_
        refine wpQuiet_nil ?_
        go_wp2_with fail
        exact bodyPost_ret (results_cell_row (fn := Tryz.f20) (p := 8) (ty := 50) (by kernel_rfl) _ _ _ _ _ _ _ rfl q3 Tryz.underlying50 rfl (by rw [small_len]; exact guest_size)) rfl ⟨_, _, _, rfl, q1, by omega, q2⟩
    · simp only [List.getElem?_cons_succ, List.getElem?_cons_zero, Option.toList]
      obtain ⟨X14, eX14, zX14, kX14, bX14⟩ := one_new X (.cells #[.int .u32 0] 27)
      replace kX14 := kX14 _ _ rfl
      have hX14 : ∀ b, b = w.heap.size → X14.heap[b]? = W1.heap[b]? := fun b hb => (bX14.block b (by have := zX14; omega)).trans (hX b hb)
      have hzX14 : w.heap.size + 1 < X14.heap.size := by omega
      replace zX14 := Lib.hid zX14
      go_wp2_with fail
      rw [← eX14]
      refine hQ₁ _ _ ⟨⟨X14, hX14⟩, rfl⟩ ?_
      clear hQ₁ hQp Q₁ eX14
      refine tree_step [] [6, 11] 3 (by kernel_rfl) (fun _ _ d _ _ h => by cases d <;> exact h) (by kernel_rfl) (by simp) rfl ⟨⟨X14, hX14⟩, rfl⟩ ?_
      refine wpQuiet_nil ?_
      intro i hi Q₁ hQ₁ hQp
      obtain rfl | rfl := mem2 hi
      · simp only [List.getElem?_cons_succ, List.getElem?_cons_zero, Option.toList]
        obtain ⟨X146, eX146, zX146, kX146, bX146⟩ := one_new X14 (.cells #[.int .u64 0, .int .u64 pa, .int .u64 1048576, .int .i64 7] 44)
        replace kX146 := kX146 _ _ rfl
        have hX146 : ∀ b, b = w.heap.size → X146.heap[b]? = W1.heap[b]? := fun b hb => (bX146.block b (by have := zX146; omega)).trans (hX14 b hb)
        have hzX146 : w.heap.size + 1 < X146.heap.size := by omega
        replace zX146 := Lib.hid zX146
        go_wp2_with fail
        rw [← eX146]
        refine hQ₁ _ _ ⟨⟨X146, hX146⟩, rfl⟩ ?_
        clear hQ₁ hQp Q₁ eX146
        refine tree_step [] [11] 2 (by kernel_rfl) (fun _ _ d _ _ h => by cases d <;> exact h) (by kernel_rfl) (by simp) rfl ⟨⟨X146, hX146⟩, rfl⟩ ?_
        refine wpQuiet_nil ?_
        intro i hi Q₁ hQ₁ hQp
        obtain rfl := mem1 hi
        simp only [List.getElem?_cons_succ, List.getElem?_cons_zero, Option.toList]
        obtain ⟨X14611, eX14611, zX14611, kX14611, bX14611⟩ := one_new X146 (.cells #[.int .i64 32, .int .i64 0, .bool false] 101)
        replace kX14611 := kX14611 _ _ rfl
        have hX14611 : ∀ b, b = w.heap.size → X14611.heap[b]? = W1.heap[b]? := fun b hb => (bX14611.block b (by have := zX14611; omega)).trans (hX146 b hb)
        have hzX14611 : w.heap.size + 1 < X14611.heap.size := by omega
        replace zX14611 := Lib.hid zX14611
        go_wp2_with fail
        rw [← eX14611]
        refine hQ₁ _ _ ⟨⟨X14611, hX14611⟩, rfl⟩ ?_
        clear hQ₁ hQp Q₁ eX14611
        have hV : Below w.heap.size w X14611 := bthen (bthen (bthen hbX bX14) bX146) bX14611
        have hL : Leaf w X14611 (w.heap.size + 1) 0 pa X14.heap.size X146.heap.size X.heap.size := ⟨hV, (bX14611.block _ (by have := hzX146; omega)).trans ((bX146.block _ (by have := hzX14; omega)).trans ((bX14.block _ (by omega)).trans k8X)), by omega, ⟨(bX14611.block _ (Array.getElem?_eq_some_iff.1 (kX146)).1).trans (kX146), kX14611, (bX14611.block _ (Array.getElem?_eq_some_iff.1 ((bX146.block _ (Array.getElem?_eq_some_iff.1 (kX14)).1).trans (kX14))).1).trans ((bX146.block _ (Array.getElem?_eq_some_iff.1 (kX14)).1).trans (kX14))⟩⟩
        obtain ⟨q1, q2, q3⟩ := hL.stored (smallC s 0 (List.ofFn f) X14.heap.size X146.heap.size X.heap.size).toArray
        have hbd : ∀ W : World, (Instr.build 50 #[(0, .string s), (4, .int .u32 1), (5, .int .u64 4096), (7, .agg KA), (8, .slice (some ⟨X14.heap.size, 0, none⟩) 1 1), (10, .slice (some ⟨X146.heap.size, 0, none⟩) 1 1), (11, .slice (some ⟨X.heap.size, 0, none⟩) 1 1)]).run Tryz.prog W = .ok (.agg (smallC s 0 (List.ofFn f) X14.heap.size X146.heap.size X.heap.size).toArray) W := fun W => by rw [hKA.out]; exact small_build s 0 f _ _ _ W
        refine tree_step [15] [16] 0 (by kernel_rfl) (fun _ _ d _ _ h => by cases d <;> exact h) (by kernel_rfl) (by simp) rfl ⟨⟨X14611, hX14611⟩, rfl⟩ ?_
        simp only [List.filterMap_cons, List.filterMap_nil, List.getElem?_cons_succ, List.getElem?_cons_zero]
        refine wpQuiet_build rfl 50 _ rfl #[(0, .string s), (4, .int .u32 1), (5, .int .u64 4096), (7, .agg KA), (8, .slice (some ⟨X14.heap.size, 0, none⟩) 1 1), (10, .slice (some ⟨X146.heap.size, 0, none⟩) 1 1), (11, .slice (some ⟨X.heap.size, 0, none⟩) 1 1)] (by simp [Act.eval]) _ hbd ?_
        refine wpQuiet_nil ?_
        intro i hi Q₁ hQ₁ hQp
        obtain rfl := mem1 hi
        simp only [List.getElem?_cons_succ, List.getElem?_cons_zero, Option.toList]
        refine wpl_store_row rfl 50 _ _ rfl hL.k8 (small_size _ _ _ _ _ _) (by rw [small_len]; kernel_rfl) (small_one _ _ _ _ _ _) rfl rfl ?_
        refine wpList_nil ?_
        refine hQ₁ _ _ ⟨⟨_, fun b hb => (setRow_other _ _ _ _ (by omega)).trans (hX14611 b hb)⟩, rfl⟩ ?_
        clear hQ₁ hQp Q₁
        refine tree_end [] (by kernel_rfl) (fun _ _ d _ _ h => by cases d <;> exact h) (by kernel_rfl) rfl ⟨⟨_, fun b hb => (setRow_other _ _ _ _ (by omega)).trans (hX14611 b hb)⟩, rfl⟩ ?_
        refine wpQuiet_nil ?_
        go_wp2_with fail
        exact bodyPost_ret (results_cell_row (fn := Tryz.f20) (p := 8) (ty := 50) (by kernel_rfl) _ _ _ _ _ _ _ rfl q3 Tryz.underlying50 rfl (by rw [small_len]; exact guest_size)) rfl ⟨_, _, _, rfl, q1, by omega, q2⟩
      · simp only [List.getElem?_cons_succ, List.getElem?_cons_zero, Option.toList]
        obtain ⟨X1411, eX1411, zX1411, kX1411, bX1411⟩ := one_new X14 (.cells #[.int .i64 32, .int .i64 0, .bool false] 101)
        replace kX1411 := kX1411 _ _ rfl
        have hX1411 : ∀ b, b = w.heap.size → X1411.heap[b]? = W1.heap[b]? := fun b hb => (bX1411.block b (by have := zX1411; omega)).trans (hX14 b hb)
        have hzX1411 : w.heap.size + 1 < X1411.heap.size := by omega
        replace zX1411 := Lib.hid zX1411
        go_wp2_with fail
        rw [← eX1411]
        refine hQ₁ _ _ ⟨⟨X1411, hX1411⟩, rfl⟩ ?_
        clear hQ₁ hQp Q₁ eX1411
        refine tree_step [] [6] 2 (by kernel_rfl) (fun _ _ d _ _ h => by cases d <;> exact h) (by kernel_rfl) (by simp) rfl ⟨⟨X1411, hX1411⟩, rfl⟩ ?_
        refine wpQuiet_nil ?_
        intro i hi Q₁ hQ₁ hQp
        obtain rfl := mem1 hi
        simp only [List.getElem?_cons_succ, List.getElem?_cons_zero, Option.toList]
        obtain ⟨X14116, eX14116, zX14116, kX14116, bX14116⟩ := one_new X1411 (.cells #[.int .u64 0, .int .u64 pa, .int .u64 1048576, .int .i64 7] 44)
        replace kX14116 := kX14116 _ _ rfl
        have hX14116 : ∀ b, b = w.heap.size → X14116.heap[b]? = W1.heap[b]? := fun b hb => (bX14116.block b (by have := zX14116; omega)).trans (hX1411 b hb)
        have hzX14116 : w.heap.size + 1 < X14116.heap.size := by omega
        replace zX14116 := Lib.hid zX14116
        go_wp2_with fail
        rw [← eX14116]
        refine hQ₁ _ _ ⟨⟨X14116, hX14116⟩, rfl⟩ ?_
        clear hQ₁ hQp Q₁ eX14116
        have hV : Below w.heap.size w X14116 := bthen (bthen (bthen hbX bX14) bX1411) bX14116
        have hL : Leaf w X14116 (w.heap.size + 1) 0 pa X1411.heap.size X14.heap.size X.heap.size := ⟨hV, (bX14116.block _ (by have := hzX1411; omega)).trans ((bX1411.block _ (by have := hzX14; omega)).trans ((bX14.block _ (by omega)).trans k8X)), by omega, ⟨kX14116, (bX14116.block _ (Array.getElem?_eq_some_iff.1 (kX1411)).1).trans (kX1411), (bX14116.block _ (Array.getElem?_eq_some_iff.1 ((bX1411.block _ (Array.getElem?_eq_some_iff.1 (kX14)).1).trans (kX14))).1).trans ((bX1411.block _ (Array.getElem?_eq_some_iff.1 (kX14)).1).trans (kX14))⟩⟩
        obtain ⟨q1, q2, q3⟩ := hL.stored (smallC s 0 (List.ofFn f) X1411.heap.size X14.heap.size X.heap.size).toArray
        have hbd : ∀ W : World, (Instr.build 50 #[(0, .string s), (4, .int .u32 1), (5, .int .u64 4096), (7, .agg KA), (8, .slice (some ⟨X1411.heap.size, 0, none⟩) 1 1), (10, .slice (some ⟨X14.heap.size, 0, none⟩) 1 1), (11, .slice (some ⟨X.heap.size, 0, none⟩) 1 1)]).run Tryz.prog W = .ok (.agg (smallC s 0 (List.ofFn f) X1411.heap.size X14.heap.size X.heap.size).toArray) W := fun W => by rw [hKA.out]; exact small_build s 0 f _ _ _ W
        refine tree_step [15] [16] 0 (by kernel_rfl) (fun _ _ d _ _ h => by cases d <;> exact h) (by kernel_rfl) (by simp) rfl ⟨⟨X14116, hX14116⟩, rfl⟩ ?_
        simp only [List.filterMap_cons, List.filterMap_nil, List.getElem?_cons_succ, List.getElem?_cons_zero]
        refine wpQuiet_build rfl 50 _ rfl #[(0, .string s), (4, .int .u32 1), (5, .int .u64 4096), (7, .agg KA), (8, .slice (some ⟨X1411.heap.size, 0, none⟩) 1 1), (10, .slice (some ⟨X14.heap.size, 0, none⟩) 1 1), (11, .slice (some ⟨X.heap.size, 0, none⟩) 1 1)] (by simp [Act.eval]) _ hbd ?_
        refine wpQuiet_nil ?_
        intro i hi Q₁ hQ₁ hQp
        obtain rfl := mem1 hi
        simp only [List.getElem?_cons_succ, List.getElem?_cons_zero, Option.toList]
        refine wpl_store_row rfl 50 _ _ rfl hL.k8 (small_size _ _ _ _ _ _) (by rw [small_len]; kernel_rfl) (small_one _ _ _ _ _ _) rfl rfl ?_
        refine wpList_nil ?_
        refine hQ₁ _ _ ⟨⟨_, fun b hb => (setRow_other _ _ _ _ (by omega)).trans (hX14116 b hb)⟩, rfl⟩ ?_
        clear hQ₁ hQp Q₁
        refine tree_end [] (by kernel_rfl) (fun _ _ d _ _ h => by cases d <;> exact h) (by kernel_rfl) rfl ⟨⟨_, fun b hb => (setRow_other _ _ _ _ (by omega)).trans (hX14116 b hb)⟩, rfl⟩ ?_
        refine wpQuiet_nil ?_
        go_wp2_with fail
        exact bodyPost_ret (results_cell_row (fn := Tryz.f20) (p := 8) (ty := 50) (by kernel_rfl) _ _ _ _ _ _ _ rfl q3 Tryz.underlying50 rfl (by rw [small_len]; exact guest_size)) rfl ⟨_, _, _, rfl, q1, by omega, q2⟩
  · obtain ⟨rfl, rfl⟩ := hc
    refine tree_step [0, 1, 2, 3, 4, 5, 7, 8, 9, 10, 12, 13] [6, 11, 14] 4 (by kernel_rfl) (fun _ _ d _ _ h => by cases d <;> exact h) (by kernel_rfl) (by simp) rfl ⟨⟨X, hX⟩, rfl⟩ ?_
    simp only [List.filterMap_cons, List.filterMap_nil, List.getElem?_cons_succ, List.getElem?_cons_zero]
    repeat (change wpQuiet _ _ _ _ (List.cons _ _) _; first | go_big_quiet_step (fail) | (refine wpQuiet_load rfl 40 _ rfl (.pointer (some ⟨w.heap.size, 0, none⟩)) (.agg KA) rfl (fun w' hw' => by obtain ⟨X, rfl⟩ := hw'; exact yK X) ?_; simp only [Act.put, List.setIfInBounds_toArray, List.set_cons_succ, List.set_cons_zero]))
    refine wpQuiet_nil ?_
    intro i hi Q₁ hQ₁ hQp
    obtain rfl | rfl | rfl := mem3 hi
    · simp only [List.getElem?_cons_succ, List.getElem?_cons_zero, Option.toList]
      obtain ⟨X6, eX6, zX6, kX6, bX6⟩ := one_new X (.cells #[.int .u64 0, .int .u64 pa, .int .u64 1048576, .int .i64 7] 44)
      replace kX6 := kX6 _ _ rfl
      have hX6 : ∀ b, b = w.heap.size → X6.heap[b]? = W1.heap[b]? := fun b hb => (bX6.block b (by have := zX6; omega)).trans (hX b hb)
      have hzX6 : w.heap.size + 1 < X6.heap.size := by omega
      replace zX6 := Lib.hid zX6
      go_wp2_with fail
      rw [← eX6]
      refine hQ₁ _ _ ⟨⟨X6, hX6⟩, rfl⟩ ?_
      clear hQ₁ hQp Q₁ eX6
      refine tree_step [] [11, 14] 3 (by kernel_rfl) (fun _ _ d _ _ h => by cases d <;> exact h) (by kernel_rfl) (by simp) rfl ⟨⟨X6, hX6⟩, rfl⟩ ?_
      refine wpQuiet_nil ?_
      intro i hi Q₁ hQ₁ hQp
      obtain rfl | rfl := mem2 hi
      · simp only [List.getElem?_cons_succ, List.getElem?_cons_zero, Option.toList]
        obtain ⟨X611, eX611, zX611, kX611, bX611⟩ := one_new X6 (.cells #[.int .i64 33, .int .i64 1, .bool false] 101)
        replace kX611 := kX611 _ _ rfl
        have hX611 : ∀ b, b = w.heap.size → X611.heap[b]? = W1.heap[b]? := fun b hb => (bX611.block b (by have := zX611; omega)).trans (hX6 b hb)
        have hzX611 : w.heap.size + 1 < X611.heap.size := by omega
        replace zX611 := Lib.hid zX611
        go_wp2_with fail
        rw [← eX611]
        refine hQ₁ _ _ ⟨⟨X611, hX611⟩, rfl⟩ ?_
        clear hQ₁ hQp Q₁ eX611
        refine tree_step [] [14] 2 (by kernel_rfl) (fun _ _ d _ _ h => by cases d <;> exact h) (by kernel_rfl) (by simp) rfl ⟨⟨X611, hX611⟩, rfl⟩ ?_
        refine wpQuiet_nil ?_
        intro i hi Q₁ hQ₁ hQp
        obtain rfl := mem1 hi
        simp only [List.getElem?_cons_succ, List.getElem?_cons_zero, Option.toList]
        obtain ⟨X61114, eX61114, zX61114, kX61114, bX61114⟩ := one_new X611 (.cells #[.int .u32 1] 27)
        replace kX61114 := kX61114 _ _ rfl
        have hX61114 : ∀ b, b = w.heap.size → X61114.heap[b]? = W1.heap[b]? := fun b hb => (bX61114.block b (by have := zX61114; omega)).trans (hX611 b hb)
        have hzX61114 : w.heap.size + 1 < X61114.heap.size := by omega
        replace zX61114 := Lib.hid zX61114
        go_wp2_with fail
        rw [← eX61114]
        refine hQ₁ _ _ ⟨⟨X61114, hX61114⟩, rfl⟩ ?_
        clear hQ₁ hQp Q₁ eX61114
        have hV : Below w.heap.size w X61114 := bthen (bthen (bthen hbX bX6) bX611) bX61114
        have hL : Leaf w X61114 (w.heap.size + 1) 1 pa X.heap.size X6.heap.size X611.heap.size := ⟨hV, (bX61114.block _ (by have := hzX611; omega)).trans ((bX611.block _ (by have := hzX6; omega)).trans ((bX6.block _ (by omega)).trans k8X)), by omega, ⟨(bX61114.block _ (Array.getElem?_eq_some_iff.1 ((bX611.block _ (Array.getElem?_eq_some_iff.1 (kX6)).1).trans (kX6))).1).trans ((bX611.block _ (Array.getElem?_eq_some_iff.1 (kX6)).1).trans (kX6)), (bX61114.block _ (Array.getElem?_eq_some_iff.1 (kX611)).1).trans (kX611), kX61114⟩⟩
        obtain ⟨q1, q2, q3⟩ := hL.stored (smallC s 1 (List.ofFn f) X.heap.size X6.heap.size X611.heap.size).toArray
        have hbd : ∀ W : World, (Instr.build 50 #[(0, .string s), (4, .int .u32 2), (5, .int .u64 4096), (7, .agg KA), (8, .slice (some ⟨X.heap.size, 0, none⟩) 1 1), (10, .slice (some ⟨X6.heap.size, 0, none⟩) 1 1), (11, .slice (some ⟨X611.heap.size, 0, none⟩) 1 1)]).run Tryz.prog W = .ok (.agg (smallC s 1 (List.ofFn f) X.heap.size X6.heap.size X611.heap.size).toArray) W := fun W => by rw [hKA.out]; exact small_build s 1 f _ _ _ W
        refine tree_step [15] [16] 0 (by kernel_rfl) (fun _ _ d _ _ h => by cases d <;> exact h) (by kernel_rfl) (by simp) rfl ⟨⟨X61114, hX61114⟩, rfl⟩ ?_
        simp only [List.filterMap_cons, List.filterMap_nil, List.getElem?_cons_succ, List.getElem?_cons_zero]
        refine wpQuiet_build rfl 50 _ rfl #[(0, .string s), (4, .int .u32 2), (5, .int .u64 4096), (7, .agg KA), (8, .slice (some ⟨X.heap.size, 0, none⟩) 1 1), (10, .slice (some ⟨X6.heap.size, 0, none⟩) 1 1), (11, .slice (some ⟨X611.heap.size, 0, none⟩) 1 1)] (by simp [Act.eval]) _ hbd ?_
        refine wpQuiet_nil ?_
        intro i hi Q₁ hQ₁ hQp
        obtain rfl := mem1 hi
        simp only [List.getElem?_cons_succ, List.getElem?_cons_zero, Option.toList]
        refine wpl_store_row rfl 50 _ _ rfl hL.k8 (small_size _ _ _ _ _ _) (by rw [small_len]; kernel_rfl) (small_one _ _ _ _ _ _) rfl rfl ?_
        refine wpList_nil ?_
        refine hQ₁ _ _ ⟨⟨_, fun b hb => (setRow_other _ _ _ _ (by omega)).trans (hX61114 b hb)⟩, rfl⟩ ?_
        clear hQ₁ hQp Q₁
        refine tree_end [] (by kernel_rfl) (fun _ _ d _ _ h => by cases d <;> exact h) (by kernel_rfl) rfl ⟨⟨_, fun b hb => (setRow_other _ _ _ _ (by omega)).trans (hX61114 b hb)⟩, rfl⟩ ?_
        refine wpQuiet_nil ?_
        go_wp2_with fail
        exact bodyPost_ret (results_cell_row (fn := Tryz.f20) (p := 8) (ty := 50) (by kernel_rfl) _ _ _ _ _ _ _ rfl q3 Tryz.underlying50 rfl (by rw [small_len]; exact guest_size)) rfl ⟨_, _, _, rfl, q1, by omega, q2⟩
      · simp only [List.getElem?_cons_succ, List.getElem?_cons_zero, Option.toList]
        obtain ⟨X614, eX614, zX614, kX614, bX614⟩ := one_new X6 (.cells #[.int .u32 1] 27)
        replace kX614 := kX614 _ _ rfl
        have hX614 : ∀ b, b = w.heap.size → X614.heap[b]? = W1.heap[b]? := fun b hb => (bX614.block b (by have := zX614; omega)).trans (hX6 b hb)
        have hzX614 : w.heap.size + 1 < X614.heap.size := by omega
        replace zX614 := Lib.hid zX614
        go_wp2_with fail
        rw [← eX614]
        refine hQ₁ _ _ ⟨⟨X614, hX614⟩, rfl⟩ ?_
        clear hQ₁ hQp Q₁ eX614
        refine tree_step [] [11] 2 (by kernel_rfl) (fun _ _ d _ _ h => by cases d <;> exact h) (by kernel_rfl) (by simp) rfl ⟨⟨X614, hX614⟩, rfl⟩ ?_
        refine wpQuiet_nil ?_
        intro i hi Q₁ hQ₁ hQp
        obtain rfl := mem1 hi
        simp only [List.getElem?_cons_succ, List.getElem?_cons_zero, Option.toList]
        obtain ⟨X61411, eX61411, zX61411, kX61411, bX61411⟩ := one_new X614 (.cells #[.int .i64 33, .int .i64 1, .bool false] 101)
        replace kX61411 := kX61411 _ _ rfl
        have hX61411 : ∀ b, b = w.heap.size → X61411.heap[b]? = W1.heap[b]? := fun b hb => (bX61411.block b (by have := zX61411; omega)).trans (hX614 b hb)
        have hzX61411 : w.heap.size + 1 < X61411.heap.size := by omega
        replace zX61411 := Lib.hid zX61411
        go_wp2_with fail
        rw [← eX61411]
        refine hQ₁ _ _ ⟨⟨X61411, hX61411⟩, rfl⟩ ?_
        clear hQ₁ hQp Q₁ eX61411
        have hV : Below w.heap.size w X61411 := bthen (bthen (bthen hbX bX6) bX614) bX61411
        have hL : Leaf w X61411 (w.heap.size + 1) 1 pa X.heap.size X614.heap.size X6.heap.size := ⟨hV, (bX61411.block _ (by have := hzX614; omega)).trans ((bX614.block _ (by have := hzX6; omega)).trans ((bX6.block _ (by omega)).trans k8X)), by omega, ⟨(bX61411.block _ (Array.getElem?_eq_some_iff.1 ((bX614.block _ (Array.getElem?_eq_some_iff.1 (kX6)).1).trans (kX6))).1).trans ((bX614.block _ (Array.getElem?_eq_some_iff.1 (kX6)).1).trans (kX6)), kX61411, (bX61411.block _ (Array.getElem?_eq_some_iff.1 (kX614)).1).trans (kX614)⟩⟩
        obtain ⟨q1, q2, q3⟩ := hL.stored (smallC s 1 (List.ofFn f) X.heap.size X614.heap.size X6.heap.size).toArray
        have hbd : ∀ W : World, (Instr.build 50 #[(0, .string s), (4, .int .u32 2), (5, .int .u64 4096), (7, .agg KA), (8, .slice (some ⟨X.heap.size, 0, none⟩) 1 1), (10, .slice (some ⟨X614.heap.size, 0, none⟩) 1 1), (11, .slice (some ⟨X6.heap.size, 0, none⟩) 1 1)]).run Tryz.prog W = .ok (.agg (smallC s 1 (List.ofFn f) X.heap.size X614.heap.size X6.heap.size).toArray) W := fun W => by rw [hKA.out]; exact small_build s 1 f _ _ _ W
        refine tree_step [15] [16] 0 (by kernel_rfl) (fun _ _ d _ _ h => by cases d <;> exact h) (by kernel_rfl) (by simp) rfl ⟨⟨X61411, hX61411⟩, rfl⟩ ?_
        simp only [List.filterMap_cons, List.filterMap_nil, List.getElem?_cons_succ, List.getElem?_cons_zero]
        refine wpQuiet_build rfl 50 _ rfl #[(0, .string s), (4, .int .u32 2), (5, .int .u64 4096), (7, .agg KA), (8, .slice (some ⟨X.heap.size, 0, none⟩) 1 1), (10, .slice (some ⟨X614.heap.size, 0, none⟩) 1 1), (11, .slice (some ⟨X6.heap.size, 0, none⟩) 1 1)] (by simp [Act.eval]) _ hbd ?_
        refine wpQuiet_nil ?_
        intro i hi Q₁ hQ₁ hQp
        obtain rfl := mem1 hi
        simp only [List.getElem?_cons_succ, List.getElem?_cons_zero, Option.toList]
        refine wpl_store_row rfl 50 _ _ rfl hL.k8 (small_size _ _ _ _ _ _) (by rw [small_len]; kernel_rfl) (small_one _ _ _ _ _ _) rfl rfl ?_
        refine wpList_nil ?_
        refine hQ₁ _ _ ⟨⟨_, fun b hb => (setRow_other _ _ _ _ (by omega)).trans (hX61411 b hb)⟩, rfl⟩ ?_
        clear hQ₁ hQp Q₁
        refine tree_end [] (by kernel_rfl) (fun _ _ d _ _ h => by cases d <;> exact h) (by kernel_rfl) rfl ⟨⟨_, fun b hb => (setRow_other _ _ _ _ (by omega)).trans (hX61411 b hb)⟩, rfl⟩ ?_
        refine wpQuiet_nil ?_
        go_wp2_with fail
        exact bodyPost_ret (results_cell_row (fn := Tryz.f20) (p := 8) (ty := 50) (by kernel_rfl) _ _ _ _ _ _ _ rfl q3 Tryz.underlying50 rfl (by rw [small_len]; exact guest_size)) rfl ⟨_, _, _, rfl, q1, by omega, q2⟩
    · simp only [List.getElem?_cons_succ, List.getElem?_cons_zero, Option.toList]
      obtain ⟨X11, eX11, zX11, kX11, bX11⟩ := one_new X (.cells #[.int .i64 33, .int .i64 1, .bool false] 101)
      replace kX11 := kX11 _ _ rfl
      have hX11 : ∀ b, b = w.heap.size → X11.heap[b]? = W1.heap[b]? := fun b hb => (bX11.block b (by have := zX11; omega)).trans (hX b hb)
      have hzX11 : w.heap.size + 1 < X11.heap.size := by omega
      replace zX11 := Lib.hid zX11
      go_wp2_with fail
      rw [← eX11]
      refine hQ₁ _ _ ⟨⟨X11, hX11⟩, rfl⟩ ?_
      clear hQ₁ hQp Q₁ eX11
      refine tree_step [] [6, 14] 3 (by kernel_rfl) (fun _ _ d _ _ h => by cases d <;> exact h) (by kernel_rfl) (by simp) rfl ⟨⟨X11, hX11⟩, rfl⟩ ?_
      refine wpQuiet_nil ?_
      intro i hi Q₁ hQ₁ hQp
      obtain rfl | rfl := mem2 hi
      · simp only [List.getElem?_cons_succ, List.getElem?_cons_zero, Option.toList]
        obtain ⟨X116, eX116, zX116, kX116, bX116⟩ := one_new X11 (.cells #[.int .u64 0, .int .u64 pa, .int .u64 1048576, .int .i64 7] 44)
        replace kX116 := kX116 _ _ rfl
        have hX116 : ∀ b, b = w.heap.size → X116.heap[b]? = W1.heap[b]? := fun b hb => (bX116.block b (by have := zX116; omega)).trans (hX11 b hb)
        have hzX116 : w.heap.size + 1 < X116.heap.size := by omega
        replace zX116 := Lib.hid zX116
        go_wp2_with fail
        rw [← eX116]
        refine hQ₁ _ _ ⟨⟨X116, hX116⟩, rfl⟩ ?_
        clear hQ₁ hQp Q₁ eX116
        refine tree_step [] [14] 2 (by kernel_rfl) (fun _ _ d _ _ h => by cases d <;> exact h) (by kernel_rfl) (by simp) rfl ⟨⟨X116, hX116⟩, rfl⟩ ?_
        refine wpQuiet_nil ?_
        intro i hi Q₁ hQ₁ hQp
        obtain rfl := mem1 hi
        simp only [List.getElem?_cons_succ, List.getElem?_cons_zero, Option.toList]
        obtain ⟨X11614, eX11614, zX11614, kX11614, bX11614⟩ := one_new X116 (.cells #[.int .u32 1] 27)
        replace kX11614 := kX11614 _ _ rfl
        have hX11614 : ∀ b, b = w.heap.size → X11614.heap[b]? = W1.heap[b]? := fun b hb => (bX11614.block b (by have := zX11614; omega)).trans (hX116 b hb)
        have hzX11614 : w.heap.size + 1 < X11614.heap.size := by omega
        replace zX11614 := Lib.hid zX11614
        go_wp2_with fail
        rw [← eX11614]
        refine hQ₁ _ _ ⟨⟨X11614, hX11614⟩, rfl⟩ ?_
        clear hQ₁ hQp Q₁ eX11614
        have hV : Below w.heap.size w X11614 := bthen (bthen (bthen hbX bX11) bX116) bX11614
        have hL : Leaf w X11614 (w.heap.size + 1) 1 pa X11.heap.size X.heap.size X116.heap.size := ⟨hV, (bX11614.block _ (by have := hzX116; omega)).trans ((bX116.block _ (by have := hzX11; omega)).trans ((bX11.block _ (by omega)).trans k8X)), by omega, ⟨(bX11614.block _ (Array.getElem?_eq_some_iff.1 (kX116)).1).trans (kX116), (bX11614.block _ (Array.getElem?_eq_some_iff.1 ((bX116.block _ (Array.getElem?_eq_some_iff.1 (kX11)).1).trans (kX11))).1).trans ((bX116.block _ (Array.getElem?_eq_some_iff.1 (kX11)).1).trans (kX11)), kX11614⟩⟩
        obtain ⟨q1, q2, q3⟩ := hL.stored (smallC s 1 (List.ofFn f) X11.heap.size X.heap.size X116.heap.size).toArray
        have hbd : ∀ W : World, (Instr.build 50 #[(0, .string s), (4, .int .u32 2), (5, .int .u64 4096), (7, .agg KA), (8, .slice (some ⟨X11.heap.size, 0, none⟩) 1 1), (10, .slice (some ⟨X.heap.size, 0, none⟩) 1 1), (11, .slice (some ⟨X116.heap.size, 0, none⟩) 1 1)]).run Tryz.prog W = .ok (.agg (smallC s 1 (List.ofFn f) X11.heap.size X.heap.size X116.heap.size).toArray) W := fun W => by rw [hKA.out]; exact small_build s 1 f _ _ _ W
        refine tree_step [15] [16] 0 (by kernel_rfl) (fun _ _ d _ _ h => by cases d <;> exact h) (by kernel_rfl) (by simp) rfl ⟨⟨X11614, hX11614⟩, rfl⟩ ?_
        simp only [List.filterMap_cons, List.filterMap_nil, List.getElem?_cons_succ, List.getElem?_cons_zero]
        refine wpQuiet_build rfl 50 _ rfl #[(0, .string s), (4, .int .u32 2), (5, .int .u64 4096), (7, .agg KA), (8, .slice (some ⟨X11.heap.size, 0, none⟩) 1 1), (10, .slice (some ⟨X.heap.size, 0, none⟩) 1 1), (11, .slice (some ⟨X116.heap.size, 0, none⟩) 1 1)] (by simp [Act.eval]) _ hbd ?_
        refine wpQuiet_nil ?_
        intro i hi Q₁ hQ₁ hQp
        obtain rfl := mem1 hi
        simp only [List.getElem?_cons_succ, List.getElem?_cons_zero, Option.toList]
        refine wpl_store_row rfl 50 _ _ rfl hL.k8 (small_size _ _ _ _ _ _) (by rw [small_len]; kernel_rfl) (small_one _ _ _ _ _ _) rfl rfl ?_
        refine wpList_nil ?_
        refine hQ₁ _ _ ⟨⟨_, fun b hb => (setRow_other _ _ _ _ (by omega)).trans (hX11614 b hb)⟩, rfl⟩ ?_
        clear hQ₁ hQp Q₁
        refine tree_end [] (by kernel_rfl) (fun _ _ d _ _ h => by cases d <;> exact h) (by kernel_rfl) rfl ⟨⟨_, fun b hb => (setRow_other _ _ _ _ (by omega)).trans (hX11614 b hb)⟩, rfl⟩ ?_
        refine wpQuiet_nil ?_
        go_wp2_with fail
        exact bodyPost_ret (results_cell_row (fn := Tryz.f20) (p := 8) (ty := 50) (by kernel_rfl) _ _ _ _ _ _ _ rfl q3 Tryz.underlying50 rfl (by rw [small_len]; exact guest_size)) rfl ⟨_, _, _, rfl, q1, by omega, q2⟩
      · simp only [List.getElem?_cons_succ, List.getElem?_cons_zero, Option.toList]
        obtain ⟨X1114, eX1114, zX1114, kX1114, bX1114⟩ := one_new X11 (.cells #[.int .u32 1] 27)
        replace kX1114 := kX1114 _ _ rfl
        have hX1114 : ∀ b, b = w.heap.size → X1114.heap[b]? = W1.heap[b]? := fun b hb => (bX1114.block b (by have := zX1114; omega)).trans (hX11 b hb)
        have hzX1114 : w.heap.size + 1 < X1114.heap.size := by omega
        replace zX1114 := Lib.hid zX1114
        go_wp2_with fail
        rw [← eX1114]
        refine hQ₁ _ _ ⟨⟨X1114, hX1114⟩, rfl⟩ ?_
        clear hQ₁ hQp Q₁ eX1114
        refine tree_step [] [6] 2 (by kernel_rfl) (fun _ _ d _ _ h => by cases d <;> exact h) (by kernel_rfl) (by simp) rfl ⟨⟨X1114, hX1114⟩, rfl⟩ ?_
        refine wpQuiet_nil ?_
        intro i hi Q₁ hQ₁ hQp
        obtain rfl := mem1 hi
        simp only [List.getElem?_cons_succ, List.getElem?_cons_zero, Option.toList]
        obtain ⟨X11146, eX11146, zX11146, kX11146, bX11146⟩ := one_new X1114 (.cells #[.int .u64 0, .int .u64 pa, .int .u64 1048576, .int .i64 7] 44)
        replace kX11146 := kX11146 _ _ rfl
        have hX11146 : ∀ b, b = w.heap.size → X11146.heap[b]? = W1.heap[b]? := fun b hb => (bX11146.block b (by have := zX11146; omega)).trans (hX1114 b hb)
        have hzX11146 : w.heap.size + 1 < X11146.heap.size := by omega
        replace zX11146 := Lib.hid zX11146
        go_wp2_with fail
        rw [← eX11146]
        refine hQ₁ _ _ ⟨⟨X11146, hX11146⟩, rfl⟩ ?_
        clear hQ₁ hQp Q₁ eX11146
        have hV : Below w.heap.size w X11146 := bthen (bthen (bthen hbX bX11) bX1114) bX11146
        have hL : Leaf w X11146 (w.heap.size + 1) 1 pa X1114.heap.size X.heap.size X11.heap.size := ⟨hV, (bX11146.block _ (by have := hzX1114; omega)).trans ((bX1114.block _ (by have := hzX11; omega)).trans ((bX11.block _ (by omega)).trans k8X)), by omega, ⟨kX11146, (bX11146.block _ (Array.getElem?_eq_some_iff.1 ((bX1114.block _ (Array.getElem?_eq_some_iff.1 (kX11)).1).trans (kX11))).1).trans ((bX1114.block _ (Array.getElem?_eq_some_iff.1 (kX11)).1).trans (kX11)), (bX11146.block _ (Array.getElem?_eq_some_iff.1 (kX1114)).1).trans (kX1114)⟩⟩
        obtain ⟨q1, q2, q3⟩ := hL.stored (smallC s 1 (List.ofFn f) X1114.heap.size X.heap.size X11.heap.size).toArray
        have hbd : ∀ W : World, (Instr.build 50 #[(0, .string s), (4, .int .u32 2), (5, .int .u64 4096), (7, .agg KA), (8, .slice (some ⟨X1114.heap.size, 0, none⟩) 1 1), (10, .slice (some ⟨X.heap.size, 0, none⟩) 1 1), (11, .slice (some ⟨X11.heap.size, 0, none⟩) 1 1)]).run Tryz.prog W = .ok (.agg (smallC s 1 (List.ofFn f) X1114.heap.size X.heap.size X11.heap.size).toArray) W := fun W => by rw [hKA.out]; exact small_build s 1 f _ _ _ W
        refine tree_step [15] [16] 0 (by kernel_rfl) (fun _ _ d _ _ h => by cases d <;> exact h) (by kernel_rfl) (by simp) rfl ⟨⟨X11146, hX11146⟩, rfl⟩ ?_
        simp only [List.filterMap_cons, List.filterMap_nil, List.getElem?_cons_succ, List.getElem?_cons_zero]
        refine wpQuiet_build rfl 50 _ rfl #[(0, .string s), (4, .int .u32 2), (5, .int .u64 4096), (7, .agg KA), (8, .slice (some ⟨X1114.heap.size, 0, none⟩) 1 1), (10, .slice (some ⟨X.heap.size, 0, none⟩) 1 1), (11, .slice (some ⟨X11.heap.size, 0, none⟩) 1 1)] (by simp [Act.eval]) _ hbd ?_
        refine wpQuiet_nil ?_
        intro i hi Q₁ hQ₁ hQp
        obtain rfl := mem1 hi
        simp only [List.getElem?_cons_succ, List.getElem?_cons_zero, Option.toList]
        refine wpl_store_row rfl 50 _ _ rfl hL.k8 (small_size _ _ _ _ _ _) (by rw [small_len]; kernel_rfl) (small_one _ _ _ _ _ _) rfl rfl ?_
        refine wpList_nil ?_
        refine hQ₁ _ _ ⟨⟨_, fun b hb => (setRow_other _ _ _ _ (by omega)).trans (hX11146 b hb)⟩, rfl⟩ ?_
        clear hQ₁ hQp Q₁
        refine tree_end [] (by kernel_rfl) (fun _ _ d _ _ h => by cases d <;> exact h) (by kernel_rfl) rfl ⟨⟨_, fun b hb => (setRow_other _ _ _ _ (by omega)).trans (hX11146 b hb)⟩, rfl⟩ ?_
        refine wpQuiet_nil ?_
        go_wp2_with fail
        exact bodyPost_ret (results_cell_row (fn := Tryz.f20) (p := 8) (ty := 50) (by kernel_rfl) _ _ _ _ _ _ _ rfl q3 Tryz.underlying50 rfl (by rw [small_len]; exact guest_size)) rfl ⟨_, _, _, rfl, q1, by omega, q2⟩
    · simp only [List.getElem?_cons_succ, List.getElem?_cons_zero, Option.toList]
      obtain ⟨X14, eX14, zX14, kX14, bX14⟩ := one_new X (.cells #[.int .u32 1] 27)
      replace kX14 := kX14 _ _ rfl
      have hX14 : ∀ b, b = w.heap.size → X14.heap[b]? = W1.heap[b]? := fun b hb => (bX14.block b (by have := zX14; omega)).trans (hX b hb)
      have hzX14 : w.heap.size + 1 < X14.heap.size := by omega
      replace zX14 := Lib.hid zX14
      go_wp2_with fail
      rw [← eX14]
      refine hQ₁ _ _ ⟨⟨X14, hX14⟩, rfl⟩ ?_
      clear hQ₁ hQp Q₁ eX14
      refine tree_step [] [6, 11] 3 (by kernel_rfl) (fun _ _ d _ _ h => by cases d <;> exact h) (by kernel_rfl) (by simp) rfl ⟨⟨X14, hX14⟩, rfl⟩ ?_
      refine wpQuiet_nil ?_
      intro i hi Q₁ hQ₁ hQp
      obtain rfl | rfl := mem2 hi
      · simp only [List.getElem?_cons_succ, List.getElem?_cons_zero, Option.toList]
        obtain ⟨X146, eX146, zX146, kX146, bX146⟩ := one_new X14 (.cells #[.int .u64 0, .int .u64 pa, .int .u64 1048576, .int .i64 7] 44)
        replace kX146 := kX146 _ _ rfl
        have hX146 : ∀ b, b = w.heap.size → X146.heap[b]? = W1.heap[b]? := fun b hb => (bX146.block b (by have := zX146; omega)).trans (hX14 b hb)
        have hzX146 : w.heap.size + 1 < X146.heap.size := by omega
        replace zX146 := Lib.hid zX146
        go_wp2_with fail
        rw [← eX146]
        refine hQ₁ _ _ ⟨⟨X146, hX146⟩, rfl⟩ ?_
        clear hQ₁ hQp Q₁ eX146
        refine tree_step [] [11] 2 (by kernel_rfl) (fun _ _ d _ _ h => by cases d <;> exact h) (by kernel_rfl) (by simp) rfl ⟨⟨X146, hX146⟩, rfl⟩ ?_
        refine wpQuiet_nil ?_
        intro i hi Q₁ hQ₁ hQp
        obtain rfl := mem1 hi
        simp only [List.getElem?_cons_succ, List.getElem?_cons_zero, Option.toList]
        obtain ⟨X14611, eX14611, zX14611, kX14611, bX14611⟩ := one_new X146 (.cells #[.int .i64 33, .int .i64 1, .bool false] 101)
        replace kX14611 := kX14611 _ _ rfl
        have hX14611 : ∀ b, b = w.heap.size → X14611.heap[b]? = W1.heap[b]? := fun b hb => (bX14611.block b (by have := zX14611; omega)).trans (hX146 b hb)
        have hzX14611 : w.heap.size + 1 < X14611.heap.size := by omega
        replace zX14611 := Lib.hid zX14611
        go_wp2_with fail
        rw [← eX14611]
        refine hQ₁ _ _ ⟨⟨X14611, hX14611⟩, rfl⟩ ?_
        clear hQ₁ hQp Q₁ eX14611
        have hV : Below w.heap.size w X14611 := bthen (bthen (bthen hbX bX14) bX146) bX14611
        have hL : Leaf w X14611 (w.heap.size + 1) 1 pa X14.heap.size X146.heap.size X.heap.size := ⟨hV, (bX14611.block _ (by have := hzX146; omega)).trans ((bX146.block _ (by have := hzX14; omega)).trans ((bX14.block _ (by omega)).trans k8X)), by omega, ⟨(bX14611.block _ (Array.getElem?_eq_some_iff.1 (kX146)).1).trans (kX146), kX14611, (bX14611.block _ (Array.getElem?_eq_some_iff.1 ((bX146.block _ (Array.getElem?_eq_some_iff.1 (kX14)).1).trans (kX14))).1).trans ((bX146.block _ (Array.getElem?_eq_some_iff.1 (kX14)).1).trans (kX14))⟩⟩
        obtain ⟨q1, q2, q3⟩ := hL.stored (smallC s 1 (List.ofFn f) X14.heap.size X146.heap.size X.heap.size).toArray
        have hbd : ∀ W : World, (Instr.build 50 #[(0, .string s), (4, .int .u32 2), (5, .int .u64 4096), (7, .agg KA), (8, .slice (some ⟨X14.heap.size, 0, none⟩) 1 1), (10, .slice (some ⟨X146.heap.size, 0, none⟩) 1 1), (11, .slice (some ⟨X.heap.size, 0, none⟩) 1 1)]).run Tryz.prog W = .ok (.agg (smallC s 1 (List.ofFn f) X14.heap.size X146.heap.size X.heap.size).toArray) W := fun W => by rw [hKA.out]; exact small_build s 1 f _ _ _ W
        refine tree_step [15] [16] 0 (by kernel_rfl) (fun _ _ d _ _ h => by cases d <;> exact h) (by kernel_rfl) (by simp) rfl ⟨⟨X14611, hX14611⟩, rfl⟩ ?_
        simp only [List.filterMap_cons, List.filterMap_nil, List.getElem?_cons_succ, List.getElem?_cons_zero]
        refine wpQuiet_build rfl 50 _ rfl #[(0, .string s), (4, .int .u32 2), (5, .int .u64 4096), (7, .agg KA), (8, .slice (some ⟨X14.heap.size, 0, none⟩) 1 1), (10, .slice (some ⟨X146.heap.size, 0, none⟩) 1 1), (11, .slice (some ⟨X.heap.size, 0, none⟩) 1 1)] (by simp [Act.eval]) _ hbd ?_
        refine wpQuiet_nil ?_
        intro i hi Q₁ hQ₁ hQp
        obtain rfl := mem1 hi
        simp only [List.getElem?_cons_succ, List.getElem?_cons_zero, Option.toList]
        refine wpl_store_row rfl 50 _ _ rfl hL.k8 (small_size _ _ _ _ _ _) (by rw [small_len]; kernel_rfl) (small_one _ _ _ _ _ _) rfl rfl ?_
        refine wpList_nil ?_
        refine hQ₁ _ _ ⟨⟨_, fun b hb => (setRow_other _ _ _ _ (by omega)).trans (hX14611 b hb)⟩, rfl⟩ ?_
        clear hQ₁ hQp Q₁
        refine tree_end [] (by kernel_rfl) (fun _ _ d _ _ h => by cases d <;> exact h) (by kernel_rfl) rfl ⟨⟨_, fun b hb => (setRow_other _ _ _ _ (by omega)).trans (hX14611 b hb)⟩, rfl⟩ ?_
        refine wpQuiet_nil ?_
        go_wp2_with fail
        exact bodyPost_ret (results_cell_row (fn := Tryz.f20) (p := 8) (ty := 50) (by kernel_rfl) _ _ _ _ _ _ _ rfl q3 Tryz.underlying50 rfl (by rw [small_len]; exact guest_size)) rfl ⟨_, _, _, rfl, q1, by omega, q2⟩
      · simp only [List.getElem?_cons_succ, List.getElem?_cons_zero, Option.toList]
        obtain ⟨X1411, eX1411, zX1411, kX1411, bX1411⟩ := one_new X14 (.cells #[.int .i64 33, .int .i64 1, .bool false] 101)
        replace kX1411 := kX1411 _ _ rfl
        have hX1411 : ∀ b, b = w.heap.size → X1411.heap[b]? = W1.heap[b]? := fun b hb => (bX1411.block b (by have := zX1411; omega)).trans (hX14 b hb)
        have hzX1411 : w.heap.size + 1 < X1411.heap.size := by omega
        replace zX1411 := Lib.hid zX1411
        go_wp2_with fail
        rw [← eX1411]
        refine hQ₁ _ _ ⟨⟨X1411, hX1411⟩, rfl⟩ ?_
        clear hQ₁ hQp Q₁ eX1411
        refine tree_step [] [6] 2 (by kernel_rfl) (fun _ _ d _ _ h => by cases d <;> exact h) (by kernel_rfl) (by simp) rfl ⟨⟨X1411, hX1411⟩, rfl⟩ ?_
        refine wpQuiet_nil ?_
        intro i hi Q₁ hQ₁ hQp
        obtain rfl := mem1 hi
        simp only [List.getElem?_cons_succ, List.getElem?_cons_zero, Option.toList]
        obtain ⟨X14116, eX14116, zX14116, kX14116, bX14116⟩ := one_new X1411 (.cells #[.int .u64 0, .int .u64 pa, .int .u64 1048576, .int .i64 7] 44)
        replace kX14116 := kX14116 _ _ rfl
        have hX14116 : ∀ b, b = w.heap.size → X14116.heap[b]? = W1.heap[b]? := fun b hb => (bX14116.block b (by have := zX14116; omega)).trans (hX1411 b hb)
        have hzX14116 : w.heap.size + 1 < X14116.heap.size := by omega
        replace zX14116 := Lib.hid zX14116
        go_wp2_with fail
        rw [← eX14116]
        refine hQ₁ _ _ ⟨⟨X14116, hX14116⟩, rfl⟩ ?_
        clear hQ₁ hQp Q₁ eX14116
        have hV : Below w.heap.size w X14116 := bthen (bthen (bthen hbX bX14) bX1411) bX14116
        have hL : Leaf w X14116 (w.heap.size + 1) 1 pa X1411.heap.size X14.heap.size X.heap.size := ⟨hV, (bX14116.block _ (by have := hzX1411; omega)).trans ((bX1411.block _ (by have := hzX14; omega)).trans ((bX14.block _ (by omega)).trans k8X)), by omega, ⟨kX14116, (bX14116.block _ (Array.getElem?_eq_some_iff.1 (kX1411)).1).trans (kX1411), (bX14116.block _ (Array.getElem?_eq_some_iff.1 ((bX1411.block _ (Array.getElem?_eq_some_iff.1 (kX14)).1).trans (kX14))).1).trans ((bX1411.block _ (Array.getElem?_eq_some_iff.1 (kX14)).1).trans (kX14))⟩⟩
        obtain ⟨q1, q2, q3⟩ := hL.stored (smallC s 1 (List.ofFn f) X1411.heap.size X14.heap.size X.heap.size).toArray
        have hbd : ∀ W : World, (Instr.build 50 #[(0, .string s), (4, .int .u32 2), (5, .int .u64 4096), (7, .agg KA), (8, .slice (some ⟨X1411.heap.size, 0, none⟩) 1 1), (10, .slice (some ⟨X14.heap.size, 0, none⟩) 1 1), (11, .slice (some ⟨X.heap.size, 0, none⟩) 1 1)]).run Tryz.prog W = .ok (.agg (smallC s 1 (List.ofFn f) X1411.heap.size X14.heap.size X.heap.size).toArray) W := fun W => by rw [hKA.out]; exact small_build s 1 f _ _ _ W
        refine tree_step [15] [16] 0 (by kernel_rfl) (fun _ _ d _ _ h => by cases d <;> exact h) (by kernel_rfl) (by simp) rfl ⟨⟨X14116, hX14116⟩, rfl⟩ ?_
        simp only [List.filterMap_cons, List.filterMap_nil, List.getElem?_cons_succ, List.getElem?_cons_zero]
        refine wpQuiet_build rfl 50 _ rfl #[(0, .string s), (4, .int .u32 2), (5, .int .u64 4096), (7, .agg KA), (8, .slice (some ⟨X1411.heap.size, 0, none⟩) 1 1), (10, .slice (some ⟨X14.heap.size, 0, none⟩) 1 1), (11, .slice (some ⟨X.heap.size, 0, none⟩) 1 1)] (by simp [Act.eval]) _ hbd ?_
        refine wpQuiet_nil ?_
        intro i hi Q₁ hQ₁ hQp
        obtain rfl := mem1 hi
        simp only [List.getElem?_cons_succ, List.getElem?_cons_zero, Option.toList]
        refine wpl_store_row rfl 50 _ _ rfl hL.k8 (small_size _ _ _ _ _ _) (by rw [small_len]; kernel_rfl) (small_one _ _ _ _ _ _) rfl rfl ?_
        refine wpList_nil ?_
        refine hQ₁ _ _ ⟨⟨_, fun b hb => (setRow_other _ _ _ _ (by omega)).trans (hX14116 b hb)⟩, rfl⟩ ?_
        clear hQ₁ hQp Q₁
        refine tree_end [] (by kernel_rfl) (fun _ _ d _ _ h => by cases d <;> exact h) (by kernel_rfl) rfl ⟨⟨_, fun b hb => (setRow_other _ _ _ _ (by omega)).trans (hX14116 b hb)⟩, rfl⟩ ?_
        refine wpQuiet_nil ?_
        go_wp2_with fail
        exact bodyPost_ret (results_cell_row (fn := Tryz.f20) (p := 8) (ty := 50) (by kernel_rfl) _ _ _ _ _ _ _ rfl q3 Tryz.underlying50 rfl (by rw [small_len]; exact guest_size)) rfl ⟨_, _, _, rfl, q1, by omega, q2⟩
end Go.Proofs.YtffdfeekpfmbeaaGreat
