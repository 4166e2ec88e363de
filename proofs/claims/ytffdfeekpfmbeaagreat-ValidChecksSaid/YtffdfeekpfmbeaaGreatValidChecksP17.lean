/- The walks of valid's small functions: must, low, inside. -/
import Derived.Recover
import Derived.Test.YtffdfeekpfmbeaaGreatValidChecksP9
import Derived.Test.YtffdfeekpfmbeaaGreatValidChecksP13
import Derived.Test.YtffdfeekpfmbeaaGreatValidChecksP14
import Derived.Test.YtffdfeekpfmbeaaGreatValidChecksP16
namespace Go.Proofs.YtffdfeekpfmbeaaGreat
open Go Go.RowKit Go.BigFrame

/-- What is thrown: a rule and a place. -/
def wrongV (r p : Int) : PanicEntry := { v := .iface 52 (.agg #[.int .i64 r, .int .i64 p]), recovered := false }
def mustE (t : Bool) (r p : Int) : Ending := match t with | true => .returned (.tuple #[]) | false => .panicked [wrongV r p]
theorem must_any (t : Bool) (r p : Int) (w : World) : Calls Tryz.prog 21 #[.bool t, .int .i64 r, .int .i64 p] w fun e w' => e = mustE t r p ∧ w = w' := by
  cases t
  · go_enter Tryz.func21, Tryz.ntmps21
    go_wp2
    exact ⟨rfl, rfl, rfl⟩
  · go_enter Tryz.func21, Tryz.ntmps21
    go_wp2
    go_end0
    exact ⟨rfl, rfl⟩
theorem rowOne (W : World) (x : Two) : RowTwo (W.alloc (.cells #[.int .u64 x.a, .int .u64 x.b] 24)) (.slice (some ⟨W.heap.size, 0, none⟩) 1 1) [x] := by
  refine ⟨_, _, rfl, Nat.le_refl _, fun _ => ⟨_, _, rfl, by simp, fun i hi => ?_⟩⟩
  obtain rfl : i = 0 := by simp at hi; omega
  simp [World.cell?_alloc_new]
theorem pagesOne (x : Two) (W : World) (n : Nat) (hn : n = W.heap.size) : Calls Tryz.prog 46 #[.slice (some ⟨n, 0, none⟩) 1 1] (W.alloc (.cells #[.int .u64 x.a, .int .u64 x.b] 24)) fun e w' => e = .returned (.bool (!(pageBad x))) ∧ Below W.heap.size W w' := by
  subst hn
  refine (pages_any _ [x] _ (rowOne W x) (by simp)).mono ?_
  rintro e w' ⟨rfl, hb⟩
  exact ⟨by simp, bnew hb⟩
theorem pageM_two (x : Two) : pageM x.a x.b = (!(pageBad x) && decide (lastV x.a x.b < 1099511627776)) := by
  unfold pageM; rw [pageBad_not]
set_option maxHeartbeats 1000000 in
theorem low_any (x : Two) (w : World) : Calls Tryz.prog 57 #[.int .u64 x.a, .int .u64 x.b] w fun e w' => e = .returned (.bool (pageM x.a x.b)) ∧ Below w.heap.size w w' := by
  have hp := fun W => pagesOne x W
  have hl := fun W => last_any x.a x.b W x.ha x.hb
  rw [pageM_two]
  generalize pageBad x = q at *
  generalize lastV x.a x.b = L at *
  cases q
  all_goals
    go_enter Tryz.func57, Tryz.ntmps57
    go_wp2_with fail
    refine (hp _ _ (by simp)).mono ?_; rintro e w1 ⟨rfl, hb1⟩
    have c0 : w1.cell? ⟨w.heap.size, 0, none⟩ = some (.int .u64 x.a) := cell_lt hb1 (by simp [World.cell?_alloc_new]) (by simp)
    have c1 : w1.cell? ⟨w.heap.size, 1, none⟩ = some (.int .u64 x.b) := cell_lt hb1 (by simp [World.cell?_alloc_new]) (by simp)
    replace hb1 := bnew hb1
    go_wp2_with (go_at_call 47; refine (hl _).mono ?_; rintro e w2 ⟨rfl, hb2⟩)
    go_ret
    first | exact ⟨rfl, hb1⟩ | exact ⟨rfl, bthen hb1 hb2⟩
/-- The check's block: a board, a configuration, what is taken. -/
structure ChkAt (W : World) (xb : Nat) (b : BrdV) (ver : Int) (vg vc : Value) (cpus : Int) (mi ms : Nat) (vo vs : Value) : Prop where
  blk : W.heap[xb]? = some (.cells #[.int .u64 b.ram.a, .int .u64 b.ram.b, .int .u64 b.ldr.a, .int .u64 b.ldr.b, .int .i64 b.irqs, .int .i64 b.strs, .int .i64 b.cpus, .int .u32 ver, vg, vc, .int .u32 cpus, .map (some mi), .map (some ms), vo, vs] 59 (0, 0))
theorem ChkAt.lt {W : World} {xb : Nat} {b : BrdV} {ver : Int} {vg vc : Value} {cpus : Int} {mi ms : Nat} {vo vs : Value} (h : ChkAt W xb b ver vg vc cpus mi ms vo vs) : xb < W.heap.size := (Array.getElem?_eq_some_iff.1 h.blk).1
theorem ChkAt.cell {W : World} {xb : Nat} {b : BrdV} {ver : Int} {vg vc : Value} {cpus : Int} {mi ms : Nat} {vo vs : Value} (h : ChkAt W xb b ver vg vc cpus mi ms vo vs) {j : Nat} {u : Value} (hu : #[.int .u64 b.ram.a, .int .u64 b.ram.b, .int .u64 b.ldr.a, .int .u64 b.ldr.b, .int .i64 b.irqs, .int .i64 b.strs, .int .i64 b.cpus, .int .u32 ver, vg, vc, .int .u32 cpus, .map (some mi), .map (some ms), vo, vs][j]? = some u) : W.cell? ⟨xb, j, none⟩ = some u := by
  simp only [World.cell?, h.blk]
  simpa using hu
theorem ChkAt.below {W W' : World} {xb : Nat} {b : BrdV} {ver : Int} {vg vc : Value} {cpus : Int} {mi ms : Nat} {vo vs : Value} (h : ChkAt W xb b ver vg vc cpus mi ms vo vs) (hb : Below W.heap.size W W') : ChkAt W' xb b ver vg vc cpus mi ms vo vs := ⟨(hb.block xb h.lt).trans h.blk⟩
set_option maxHeartbeats 2000000 in
theorem inside_any (xb : Nat) (b : BrdV) (ver : Int) (vg vc : Value) (cpus : Int) (mi ms : Nat) (vo vs : Value) (x : Two) (w : World) (hc : ChkAt w xb b ver vg vc cpus mi ms vo vs) :
    Calls Tryz.prog 58 #[.pointer (some ⟨xb, 0, none⟩), .agg #[.int .u64 x.a, .int .u64 x.b]] w fun e w' => e = .returned (.bool (insB b x)) ∧ Below w.heap.size w w' := by
  have hp := fun W => pagesOne x W
  have hwi := fun W => within_any x.a x.b b.ram.a b.ram.b W x.ha x.hb b.ram.ha b.ram.hb
  have hov := fun W => overlap_any x.a x.b b.ldr.a b.ldr.b W x.ha x.hb b.ldr.ha b.ldr.hb
  have c0 := hc.cell (j := 0) rfl
  have c1 := hc.cell (j := 1) rfl
  have c2 := hc.cell (j := 2) rfl
  have c3 := hc.cell (j := 3) rfl
  have hlt := hc.lt
  unfold insB
  generalize pageBad x = q1 at *
  generalize withinB x.a x.b b.ram.a b.ram.b = q2 at *
  generalize overlapB x.a x.b b.ldr.a b.ldr.b = q3 at *
  cases q1 <;> cases q2
  all_goals
    go_enter Tryz.func58, Tryz.ntmps58
    go_wp2_with fail
    obtain ⟨W1, hW1⟩ : ∃ W1, W1 = w.alloc (.cells #[.int .u64 x.a, .int .u64 x.b] 24) := ⟨_, rfl⟩
    have hb1 : Below w.heap.size w W1 := by rw [hW1]; exact bone _ _
    have b0 : W1.cell? ⟨w.heap.size, 0, none⟩ = some (.int .u64 x.a) := by rw [hW1]; simp [World.cell?_alloc_new]
    have b1 : W1.cell? ⟨w.heap.size, 1, none⟩ = some (.int .u64 x.b) := by rw [hW1]; simp [World.cell?_alloc_new]
    have hz1 : w.heap.size < W1.heap.size := by rw [hW1]; simp
    have hx1 : xb < W1.heap.size := by omega
    replace c0 := cell_lt hb1 c0 hlt
    replace c1 := cell_lt hb1 c1 hlt
    replace c2 := cell_lt hb1 c2 hlt
    replace c3 := cell_lt hb1 c3 hlt
    rw [← hW1]
    clear hW1
    refine region_ord (fun z => ∃ X : Later W1.heap.size W1, z = X.x) [([0], 1), ([], 2), ([3, 4, 5, 6, 7, 8, 9], 10), ([11, 12, 13, 14, 15, 16, 17, 18], 19)] [20, 21, 22] (by kernel_rfl) (by kernel_rfl) (by kernel_rfl) (by kernel_rfl) ⟨⟨_, (Below.refl _ _).drew⟩, rfl⟩ ?_
    simp only [List.map_cons, List.map_nil, List.filterMap_cons, List.filterMap_nil, List.getElem?_cons_succ, List.getElem?_cons_zero]
    replace b0 := later_cell (B := W1.heap.size) b0 hz1
    replace b1 := later_cell (B := W1.heap.size) b1 hz1
    replace c0 := later_cell (B := W1.heap.size) c0 hx1
    replace c1 := later_cell (B := W1.heap.size) c1 hx1
    replace c2 := later_cell (B := W1.heap.size) c2 hx1
    replace c3 := later_cell (B := W1.heap.size) c3 hx1
    have hB : Below W1.heap.size W1 W1.drew := (Below.refl _ _).drew
    generalize W1.drew = w2 at *
    refine ord_step ?_
    repeat (change wpQuiet _ _ _ _ (List.cons _ _) _; go_big_quiet_step (fail))
    refine wpQuiet_nil ?_
    intro Q₁ hQ₁
    simp only [Option.toList]
    go_wp2_with fail
    refine hQ₁ _ _ ⟨⟨_, hB.alloc (by have := hB.size; omega) _⟩, rfl⟩ ?_
    clear hQ₁ Q₁
    refine ord_step ?_
    refine wpQuiet_nil ?_
    intro Q₁ hQ₁
    simp only [Option.toList]
    go_wp2_with fail
    refine (hp _ _ rfl).mono ?_; rintro e w3 ⟨rfl, hb3⟩
    replace hB := hB.trans (hb3.mono hB.size)
    clear hp hb3
    go_wp2_with fail
    refine hQ₁ _ _ ⟨⟨_, hB⟩, rfl⟩ ?_
    clear hQ₁ Q₁
    refine ord_step ?_
    repeat (change wpQuiet _ _ _ _ (List.cons _ _) _; go_big_quiet_step (fail))
    refine wpQuiet_nil ?_
    intro Q₁ hQ₁
    simp only [Option.toList]
    go_wp2_with fail
    first
      | (refine (hwi _).mono ?_; rintro e w4 ⟨rfl, hb4⟩
         replace hB := hB.trans (hb4.mono hB.size)
         go_wp2_with fail
         refine hQ₁ _ _ ⟨⟨w4, hB⟩, rfl⟩ ?_)
      | refine hQ₁ _ _ ⟨⟨w3, hB⟩, rfl⟩ ?_
    clear hQ₁ Q₁
    refine ord_step ?_
    repeat (change wpQuiet _ _ _ _ (List.cons _ _) _; go_big_quiet_step (fail))
    refine wpQuiet_nil ?_
    intro Q₁ hQ₁
    simp only [Option.toList]
    go_wp2_with fail
    first
      | (refine (hov _).mono ?_; rintro e w5 ⟨rfl, hb5⟩
         replace hB := hB.trans (hb5.mono hB.size)
         go_wp2_with fail
         refine hQ₁ _ _ ⟨⟨w5, hB⟩, rfl⟩ ?_)
      | refine hQ₁ _ _ ⟨⟨_, hB⟩, rfl⟩ ?_
    clear hQ₁ Q₁
    refine ord_last ?_
    repeat (change wpQuiet _ _ _ _ (List.cons _ _) _; go_big_quiet_step (fail))
    refine wpQuiet_nil ?_
    go_wp2_with fail
    go_ret
    exact ⟨ret_bool (by cases q3 <;> rfl), hb1.trans (hB.mono hb1.size)⟩
end Go.Proofs.YtffdfeekpfmbeaaGreat
/- The walk of mach.Fit: which boards may be. -/
namespace Go.Proofs.YtffdfeekpfmbeaaGreat
open Go Go.RowKit Go.BigFrame

theorem rowTwoP (W : World) (x y : Two) : RowTwo (W.alloc (.cells #[.int .u64 x.a, .int .u64 x.b, .int .u64 y.a, .int .u64 y.b] 24)) (.slice (some ⟨W.heap.size, 0, none⟩) 2 2) [x, y] := by
  refine ⟨_, _, rfl, Nat.le_refl _, fun _ => ⟨_, _, rfl, by simp, fun i hi => ?_⟩⟩
  rcases i with _ | _ | i
  · simp [World.cell?_alloc_new]
  · simp [World.cell?_alloc_new]
  · simp at hi; omega
theorem pagesTwo (x y : Two) (W : World) (n : Nat) (hn : n = W.heap.size) : Calls Tryz.prog 46 #[.slice (some ⟨n, 0, none⟩) 2 2] (W.alloc (.cells #[.int .u64 x.a, .int .u64 x.b, .int .u64 y.a, .int .u64 y.b] 24)) fun e w' => e = .returned (.bool (!(pageBad x || pageBad y))) ∧ Below W.heap.size W w' := by
  subst hn
  refine (pages_any _ [x, y] _ (rowTwoP W x y) (by simp)).mono ?_
  rintro e w' ⟨rfl, hb⟩
  exact ⟨by simp, bnew hb⟩
theorem btw_any (n a b : Int) (w : World) : Calls Tryz.prog 45 #[.int .i64 n, .int .i64 a, .int .i64 b] w fun e w' => e = .returned (.bool (decide (a ≤ n ∧ n ≤ b))) ∧ w = w' := by
  by_cases h1 : a ≤ n
  all_goals by_cases h2 : n ≤ b
  all_goals
    go_enter Tryz.func45, Tryz.ntmps45
    go_wp2
    go_ret
    exact ⟨ret_bool (by simp [h1, h2]), rfl⟩
set_option maxHeartbeats 2000000 in
theorem fit_any (b : BrdV) (w : World) : Calls Tryz.prog 22 #[.agg b.enc.toArray] w fun e w' => e = .returned (.int .i64 (if fitV b = true then 0 else 282)) ∧ Below w.heap.size w w' := by
  have hp := fun W => pagesTwo b.ram b.ldr W
  have hl := fun W => last_any b.ram.a b.ram.b W b.ram.ha b.ram.hb
  have hwi := fun W => within_any b.ldr.a b.ldr.b b.ram.a b.ram.b W b.ldr.ha b.ldr.hb b.ram.ha b.ram.hb
  have hi := fun W => btw_any b.irqs 0 1020 W
  have hs := fun W => btw_any b.strs 0 256 W
  have hc := fun W => btw_any b.cpus 1 32 W
  unfold fitV BrdV.enc
  generalize pageBad b.ram = q1 at *
  generalize pageBad b.ldr = q2 at *
  generalize lastV b.ram.a b.ram.b = L at *
  generalize withinB b.ldr.a b.ldr.b b.ram.a b.ram.b = q3 at *
  generalize decide (0 ≤ b.irqs ∧ b.irqs ≤ 1020) = q4 at *
  generalize decide (0 ≤ b.strs ∧ b.strs ≤ 256) = q5 at *
  generalize decide (1 ≤ b.cpus ∧ b.cpus ≤ 32) = q6 at *
  obtain ⟨W1, hW1⟩ : ∃ W1, W1 = w.alloc (.cells #[.int .u64 b.ram.a, .int .u64 b.ram.b, .int .u64 b.ldr.a, .int .u64 b.ldr.b, .int .i64 b.irqs, .int .i64 b.strs, .int .i64 b.cpus] 26) := ⟨_, rfl⟩
  have hb1 : Below w.heap.size w W1 := by rw [hW1]; exact bone _ _
  have hz0 : W1.heap.size = w.heap.size + 1 := by rw [hW1]; simp
  have hz1 : w.heap.size < W1.heap.size := by omega
  have key : ∀ (j : Nat) (u : Value), #[.int .u64 b.ram.a, .int .u64 b.ram.b, .int .u64 b.ldr.a, .int .u64 b.ldr.b, .int .i64 b.irqs, .int .i64 b.strs, .int .i64 b.cpus][j]? = some u → ∀ W2, Below W1.heap.size W1 W2 → W2.cell? ⟨w.heap.size, j, none⟩ = some u := fun j u h W2 h2 => cell_lt h2 (by rw [hW1]; simp only [World.cell?_alloc_new]; exact h) hz1
  replace hW1 := Lib.hid hW1
  go_enter Tryz.func22, Tryz.ntmps22
  go_wp2_with fail
  rw [← hW1.out]
  have c0 := key 0 _ rfl _ (Below.refl _ _)
  have c1 := key 1 _ rfl _ (Below.refl _ _)
  have c2 := key 2 _ rfl _ (Below.refl _ _)
  have c3 := key 3 _ rfl _ (Below.refl _ _)
  clear hW1
  go_wp2_with fail
  refine (hp _ _ hz0.symm).mono ?_; rintro e w2 ⟨rfl, hb2⟩
  have hb2' : Below W1.heap.size W1 w2 := hb2
  cases q1
  case true =>
    go_wp2_with fail
    all_goals go_ret
    all_goals exact ⟨by first | rfl | (simp; done) | (simp [hL]; done), bthen hb1 hb2⟩
  cases q2
  case true =>
    go_wp2_with fail
    all_goals go_ret
    all_goals exact ⟨by first | rfl | (simp; done) | (simp [hL]; done), bthen hb1 hb2⟩
  clear c0 c1 c2 c3
  have c0 := key 0 _ rfl _ hb2
  have c1 := key 1 _ rfl _ hb2
  go_wp2_with fail
  refine (hl _).mono ?_; rintro e w3 ⟨rfl, hb3⟩
  replace hb2 := bthen hb2 hb3
  clear hb2' hb3
  by_cases hL : L < 1099511627776
  case neg =>
    go_wp2_with fail
    all_goals go_ret
    all_goals exact ⟨by first | rfl | (simp; done) | (simp [hL]; done), bthen hb1 hb2⟩
  clear c0 c1
  have c0 := key 0 _ rfl _ hb2
  have c1 := key 1 _ rfl _ hb2
  have c2 := key 2 _ rfl _ hb2
  have c3 := key 3 _ rfl _ hb2
  go_wp2_with fail
  refine (hwi _).mono ?_; rintro e w4 ⟨rfl, hb4⟩
  replace hb2 := bthen hb2 hb4
  clear hb4
  cases q3
  case false =>
    go_wp2_with fail
    all_goals go_ret
    all_goals exact ⟨by first | rfl | (simp; done) | (simp [hL]; done), bthen hb1 hb2⟩
  clear c0 c1 c2 c3
  have c4 := key 4 _ rfl _ hb2
  have c5 := key 5 _ rfl _ hb2
  have c6 := key 6 _ rfl _ hb2
  go_wp2_with fail
  refine (hi _).mono ?_; rintro e w5 ⟨rfl, rfl⟩
  cases q4
  case false =>
    go_wp2_with fail
    all_goals go_ret
    all_goals exact ⟨by first | rfl | (simp; done) | (simp [hL]; done), bthen hb1 hb2⟩
  go_wp2_with fail
  refine (hs _).mono ?_; rintro e w5 ⟨rfl, rfl⟩
  cases q5
  case false =>
    go_wp2_with fail
    all_goals go_ret
    all_goals exact ⟨by first | rfl | (simp; done) | (simp [hL]; done), bthen hb1 hb2⟩
  go_wp2_with fail
  refine (hc _).mono ?_; rintro e w5 ⟨rfl, rfl⟩
  cases q6
  case false =>
    go_wp2_with fail
    all_goals go_ret
    all_goals exact ⟨by first | rfl | (simp; done) | (simp [hL]; done), bthen hb1 hb2⟩
  go_wp2_with fail
  all_goals go_ret
  all_goals exact ⟨by first | rfl | (simp; done) | (simp [hL]; done), bthen hb1 hb2⟩
end Go.Proofs.YtffdfeekpfmbeaaGreat
/- The walk of valid's processors. -/
namespace Go.Proofs.YtffdfeekpfmbeaaGreat
open Go Go.RowKit Go.BigFrame

/-- A variable of a guest's 79 cells. -/
def GBox (W : World) (gb : Nat) (cs : List Value) : Prop := W.heap[gb]? = some (.cells cs.toArray 50 (0, 0))
theorem GBox.new (W : World) (cs : List Value) : GBox (W.alloc (.cells cs.toArray 50)) W.heap.size cs := World.alloc_heap_new W _
theorem GBox.lt {W : World} {gb : Nat} {cs : List Value} (h : GBox W gb cs) : gb < W.heap.size := (Array.getElem?_eq_some_iff.1 h).1
theorem GBox.below {W W' : World} {gb : Nat} {cs : List Value} (h : GBox W gb cs) (hb : Below W.heap.size W W') : GBox W' gb cs := (hb.block gb h.lt).trans h
theorem GBox.cell {W : World} {gb : Nat} {cs : List Value} (h : GBox W gb cs) {j : Nat} {u : Value} (hu : cs[j]? = some u) : W.cell? ⟨gb, j, none⟩ = some u := by
  have h' : W.heap[gb]? = some (.cells cs.toArray 50 (0, 0)) := h
  simp only [World.cell?, h']
  simpa using hu
/-- All blocks but these lie as they lay; what lay below 'B' is as it was. -/
structure OffV (B : Nat) (Bs : List Nat) (X Y : World) : Prop where
  below : Below B X Y
  rest : ∀ k, k < X.heap.size → k ∉ Bs → Y.heap[k]? = X.heap[k]?
theorem OffV.refl (B : Nat) (Bs : List Nat) (X : World) : OffV B Bs X X := ⟨Below.refl _ _, fun _ _ _ => rfl⟩
theorem OffV.of_below {B : Nat} {Bs : List Nat} {X Y : World} (h : Below X.heap.size X Y) (hB : B ≤ X.heap.size) : OffV B Bs X Y := ⟨h.mono hB, fun i h1 _ => h.block i h1⟩
theorem OffV.trans {B : Nat} {Bs Cs : List Nat} {X Y Z : World} (h : OffV B Bs X Y) (k : OffV B Cs Y Z) (hc : ∀ b ∈ Cs, b ∈ Bs ∨ X.heap.size ≤ b) : OffV B Bs X Z :=
  ⟨h.below.trans k.below, fun i h1 h2 => (k.rest i (Nat.lt_of_lt_of_le h1 h.below.size) (fun e => by rcases hc i e with e | e; exact h2 e; omega)).trans (h.rest i h1 h2)⟩
theorem OffV.then {B : Nat} {Bs : List Nat} {X Y Z : World} (h : OffV B Bs X Y) (k : Below Y.heap.size Y Z) (hB : B ≤ X.heap.size) : OffV B Bs X Z :=
  h.trans (OffV.of_below (Bs := []) k (Nat.le_trans hB h.below.size)) (by simp)
theorem OffV.mono {B : Nat} {Bs Cs : List Nat} {X Y : World} (h : OffV B Bs X Y) (hc : ∀ b ∈ Bs, b ∈ Cs) : OffV B Cs X Y := ⟨h.below, fun i h1 h2 => h.rest i h1 fun e => h2 (hc i e)⟩
theorem setCell_other {W : World} {b o k : Nat} {v : Value} (h : k ≠ b) : (W.setCell ⟨b, o, none⟩ v).heap[k]? = W.heap[k]? := Below.heap_setCell W _ v k (by simpa using h)
theorem OffV.set {B b o : Nat} {Bs : List Nat} {X Y : World} {v : Value} (h : OffV B Bs X Y) (hb : b ∈ Bs ∨ X.heap.size ≤ b) (hB : B ≤ b) : OffV B Bs X (Y.setCell ⟨b, o, none⟩ v) :=
  h.trans (Cs := [b]) ⟨(Below.refl B Y).setCell (p := ⟨b, o, none⟩) hB v, fun k _ hk => setCell_other (by simpa using hk)⟩ (by simpa using hb)
theorem setCell_at {w : World} {B : Nat} {cs : Array Value} {T : TypeId} {fz : Nat × Nat} (h : w.heap[B]? = some (.cells cs T fz)) (i : Nat) (u : Value) : (w.setCell ⟨B, i, none⟩ u).heap[B]? = some (.cells (cs.setIfInBounds i u) T fz) := by
  rw [Go.Sort.setCell_eq]
  simp [Go.Sort.mapBlock, Array.getElem?_modify, h, Go.Sort.onCells]
/-- The processors of some guests. -/
def orV (l : List GuestV) : Int := l.foldl (fun a o => bits .or .u32 a o.cpus) 0
set_option maxHeartbeats 2000000 in
theorem proc_any (xb : Nat) (b : BrdV) (ver : Int) (vg vc : Value) (acc : Int) (mi ms : Nat) (vo vs : Value) (g : Int) (t : GuestV) (cs : List Value) (w : World) (hc : ChkAt w xb b ver vg vc acc mi ms vo vs) (hg : GuestR w cs t) (_hl : cs.length = 79) (hcp : 1 ≤ b.cpus ∧ b.cpus ≤ 32) (_ha : U32 acc) (B : Nat) (hBx : B ≤ xb) (hBw : B ≤ w.heap.size) :
    Calls Tryz.prog 24 #[.pointer (some ⟨xb, 0, none⟩), .int .i64 g, .agg cs.toArray] w fun e w' =>
      e = mustE (!(decide (t.cpus = 0)) && (decide (t.cpus / 2 ^ b.cpus.toNat = 0) && decide (bits .and .u32 t.cpus acc = 0))) 3 g ∧ OffV B [xb] w w' ∧
      (e = .returned (.tuple #[]) → ChkAt w' xb b ver vg vc (bits .or .u32 acc t.cpus) mi ms vo vs) := by
  obtain ⟨W1, hW1⟩ : ∃ W1, W1 = w.alloc (.cells cs.toArray 50) := ⟨_, rfl⟩
  have hb1 : Below w.heap.size w W1 := by rw [hW1]; exact bone _ _
  have hB1 : GBox W1 w.heap.size cs := by rw [hW1]; exact GBox.new _ _
  have hc1 := hc.below hb1
  have d4 := hB1.cell hg.cpus.1
  have hu := hg.cpus.2
  have hxlt := hc.lt
  have c6 := hc1.cell (j := 6) rfl
  have c10 := hc1.cell (j := 10) rfl
  have hz1 : W1.heap.size = w.heap.size + 1 := by rw [hW1]; simp
  simp only [List.getElem_toArray, List.getElem_cons_succ, List.getElem_cons_zero] at c6 c10
  generalize t.cpus = q at *
  replace hW1 := Lib.hid hW1
  go_enter Tryz.func24, Tryz.ntmps24
  go_wp2_with fail
  rw [← hW1.out]
  clear hW1
  refine region_later_tl W1.heap.size W1 26 (Below.refl _ _) (by kernel_rfl) (by kernel_rfl) ?_
  simp only [List.take_succ_cons, List.take_zero, List.drop_succ_cons, List.drop_zero]
  have d4' := d4
  replace d4 := later_cell (B := W1.heap.size) d4 (by omega)
  replace c6 := later_cell (B := W1.heap.size) c6 (by omega)
  replace c10 := later_cell (B := W1.heap.size) c10 (by omega)
  have hw : IntKind.u64.wrap q = q := by have := hu.1; have := hu.2; rw [IntKind.wrap_u64]; omega
  have s6 : ¬ b.cpus < 0 := by omega
  have s7 : ¬ b.cpus ≥ 64 := by omega
  by_cases h1 : q = 0
  · have e1 : (q != 0) = false := by simpa using h1
    repeat (change wpQuiet _ _ _ _ (List.cons _ _) _; go_big_quiet_step (fail))
    refine wpQuiet_nil ?_
    rintro w2 ⟨X, rfl⟩
    have hX := X.h
    generalize X.x = w2 at *
    clear X
    go_wp2_with fail
    refine (must_any _ _ _ _).mono ?_; rintro e w3 ⟨rfl, rfl⟩
    refine ⟨rfl, ?_, ?_, ?_⟩
    · rw [h1]; rfl
    · exact (OffV.of_below hb1 hBw).then hX hBw
    · intro h; cases h
  · have e1 : (q != 0) = true := by simpa using h1
    by_cases h2 : q / 2 ^ b.cpus.toNat = 0
    · have e2 : (q / 2 ^ b.cpus.toNat == 0) = true := by simpa using h2
      by_cases h3 : bits .and .u32 q acc = 0
      · have e3 : (bits .and .u32 q acc == 0) = true := by simpa using h3
        repeat (change wpQuiet _ _ _ _ (List.cons _ _) _; go_big_quiet_step (fail))
        refine wpQuiet_nil ?_
        rintro w2 ⟨X, rfl⟩
        have hX := X.h
        generalize X.x = w2 at *
        clear X
        go_wp2_with fail
        refine (must_any _ _ _ _).mono ?_; rintro e w3 ⟨rfl, rfl⟩
        simp only [mustE]
        go_wp2_with fail
        have hz2 := hX.size
        have hc2 := hc1.below hX
        have g4 := later_cell (B := w2.heap.size) (cell_lt hX d4' (by omega)) (by omega)
        have g10 := later_cell (B := w2.heap.size) (hc2.cell (j := 10) rfl) hc2.lt
        have hfz : w2.frozen? ⟨xb, 10, none⟩ = false := by simp [World.frozen?, hc2.blk]
        simp only [List.getElem_toArray, List.getElem_cons_succ, List.getElem_cons_zero] at g10
        refine region_later_tl w2.heap.size w2 9 (Below.refl _ _) (by kernel_rfl) (by kernel_rfl) ?_
        simp only [List.take_succ_cons, List.take_zero, List.drop_succ_cons, List.drop_zero]
        repeat (change wpQuiet _ _ _ _ (List.cons _ _) _; go_big_quiet_step (fail))
        refine wpQuiet_nil ?_
        rintro w3 ⟨X, rfl⟩
        have hX3 := X.h
        generalize X.x = w3 at *
        clear X g4 g10
        have hc3 := hc2.below hX3
        have hfz3 : w3.frozen? ⟨xb, 10, none⟩ = false := by simp [World.frozen?, hc3.blk]
        have g10 := hc3.cell (j := 10) rfl
        go_wp2_with fail
        go_end0
        refine ⟨by simp [h1, h2, h3, mustE], ?_, fun _ => ⟨(setCell_at hc3.blk 10 _).trans rfl⟩⟩
        exact (((OffV.of_below hb1 hBw).then hX hBw).then hX3 hBw).set (.inl (by simp)) hBx
      · have e3 : (bits .and .u32 q acc == 0) = false := by simpa using h3
        repeat (change wpQuiet _ _ _ _ (List.cons _ _) _; go_big_quiet_step (fail))
        refine wpQuiet_nil ?_
        rintro w2 ⟨X, rfl⟩
        have hX := X.h
        generalize X.x = w2 at *
        clear X
        go_wp2_with fail
        refine (must_any _ _ _ _).mono ?_; rintro e w3 ⟨rfl, rfl⟩
        refine ⟨rfl, ?_, ?_, ?_⟩
        · simp [h1, h2, h3, mustE]
        · exact (OffV.of_below hb1 hBw).then hX hBw
        · intro h; cases h
    · have e2 : (q / 2 ^ b.cpus.toNat == 0) = false := by simpa using h2
      repeat (change wpQuiet _ _ _ _ (List.cons _ _) _; go_big_quiet_step (fail))
      refine wpQuiet_nil ?_
      rintro w2 ⟨X, rfl⟩
      have hX := X.h
      generalize X.x = w2 at *
      clear X
      go_wp2_with fail
      refine (must_any _ _ _ _).mono ?_; rintro e w3 ⟨rfl, rfl⟩
      refine ⟨rfl, ?_, ?_, ?_⟩
      · simp [h1, h2, mustE]
      · exact (OffV.of_below hb1 hBw).then hX hBw
      · intro h; cases h
end Go.Proofs.YtffdfeekpfmbeaaGreat
/- The walk of valid's rooms: rules 4 to 7. -/
namespace Go.Proofs.YtffdfeekpfmbeaaGreat
open Go Go.RowKit Go.BigFrame Go.Shelf

/-- How a function of rules ends. -/
def endE (o : Option (Int × Int)) : Ending := match o with | none => .returned (.tuple #[]) | some x => .panicked [wrongV x.1 x.2]
theorem mustE_eq (t : Bool) (r p : Int) : mustE t r p = endE (if t = true then none else some (r, p)) := by cases t <;> rfl

theorem idxW_none (a : Option Addr) (cap : Nat) (f : Value) (w : World) :
    Calls Tryz.prog 86 #[.slice a 0 cap, f] w fun e w' => e = .returned (.int .i64 (-1)) ∧ w = w' := by
  go_enter Tryz.func86, Tryz.ntmps86
  go_wp2
  go_loop [5, 8] (fun _ i => i = .int .i64 0) (fun _ _ => 0)
  case atStart => rfl
  case round =>
    subst hrel
    go_wp2
    go_ret
    exact ⟨rfl, rfl⟩
theorem contW_none (a : Option Addr) (cap : Nat) (f : Value) (w : World) :
    Calls Tryz.prog 62 #[.slice a 0 cap, f] w fun e w' => e = .returned (.bool false) ∧ w = w' := by
  go_enter Tryz.func62, Tryz.ntmps62
  go_wp2_with (go_at_call 86; refine (idxW_none _ _ _ _).mono ?_; rintro e w1 ⟨rfl, rfl⟩)
  go_ret
  exact ⟨rfl, rfl⟩
theorem winEnc_len (x : WinV) : x.enc.length = 4 := rfl
theorem contW_any (p : WinV → Bool) (g : Nat) (lb : Array Value) (v : Value) (l : List WinV) (w : World) (eg : ∀ args w, (callFunc g args).run Tryz.prog w = .ok (.enter g args) w) (hv : RowX 4 WinR w v l)
    (hp : PredBelow Tryz.prog g lb (fun x : WinV => .agg (WinV.enc x).toArray) p w) (hl : l.length ≤ 1099511627776) :
    Calls Tryz.prog 62 #[v, .func (.func g) #[] lb] w fun e w' => e = .returned (.bool (l.any p)) ∧ Below w.heap.size w w' := by
  obtain ⟨a, cap, rfl, _, _, hrow⟩ := hv
  by_cases h0 : l = []
  · subst h0
    refine (contW_none a cap _ w).mono ?_
    rintro e w' ⟨rfl, rfl⟩
    exact ⟨rfl, Below.refl _ _⟩
  · obtain ⟨b, off, rfl, hlt, hcell⟩ := hrow h0
    have h := AnyQ.slices_ContainsFunc Tryz.contWin 4 Tryz.isAgg44 Tryz.sizeOf44 WinV.enc winEnc_len p g lb eg b off l.length cap l w hp (Nat.le_refl _) (by omega) hlt (fun j hj i v hv => by
      obtain ⟨cs, ⟨hr, _⟩, _, hc⟩ := hcell j hj
      rw [getElem!_pos l j hj, ← hr] at hv
      exact hc i v hv)
    rw [List.take_length] at h
    exact h
theorem contS_any (p : Two → Bool) (g : Nat) (lb : Array Value) (v : Value) (l : List Two) (w : World) (eg : ∀ args w, (callFunc g args).run Tryz.prog w = .ok (.enter g args) w) (hv : RowTwo w v l)
    (hp : PredBelow Tryz.prog g lb (fun x => .agg (Two.enc x).toArray) p w) (hl : l.length ≤ 1099511627776) :
    Calls Tryz.prog 66 #[v, .func (.func g) #[] lb] w fun e w' => e = .returned (.bool (l.any p)) ∧ Below w.heap.size w w' := by
  rcases hv.parts with ⟨rfl, a, cap, rfl⟩ | ⟨_, b, off, cap, rfl, _, hlt, hcell⟩
  · refine (cont_none a cap _ w).mono ?_
    rintro e w' ⟨rfl, rfl⟩
    exact ⟨rfl, Below.refl _ _⟩
  · have h := AnyQ.slices_ContainsFunc Tryz.contSpan 2 Tryz.isAgg24 Tryz.sizeOf24 Two.enc (fun _ => rfl) p g lb eg b off l.length cap l w hp (Nat.le_refl _) (by omega) hlt (cells_enc hcell)
    rw [List.take_length] at h
    exact h
theorem w64_tree : W64 16384 := ⟨by decide, by decide⟩
set_option maxHeartbeats 1000000 in
theorem holds_any (x : WinV) (dtb : Int) (gb : Nat) (w : World) (hd : w.cell? ⟨gb, 6, none⟩ = some (.int .u64 dtb)) (hw : W64 dtb) (hlt : gb < w.heap.size) :
    Calls Tryz.prog 61 #[.agg #[.int .u64 x.ipa, .int .u64 x.pa, .int .u64 x.sz, .int .i64 x.perm], .pointer (some ⟨gb, 0, none⟩)] w fun e w' => e = .returned (.bool (c7w dtb x)) ∧ Below w.heap.size w w' := by
  have hwi := fun W => within_any dtb 16384 x.ipa x.sz W hw w64_tree x.hi x.hs
  have n1 : ¬ gb = w.heap.size := by omega
  unfold c7w
  generalize withinB dtb 16384 x.ipa x.sz = q at *
  cases q
  all_goals
    go_enter Tryz.func61, Tryz.ntmps61
    go_wp2_with fail
    refine (hwi _).mono ?_; rintro e w2 ⟨rfl, hb2⟩
    have c3 : w2.cell? ⟨w.heap.size, 3, none⟩ = some (.int .i64 x.perm) := cell_lt hb2 (by simp [World.cell?_alloc_new]) (by simp)
    replace hb2 := bnew hb2
    go_wp2_with fail
    go_ret
    exact ⟨ret_bool (by first | rfl | (rw [Bool.eq_iff_iff]; simp)), hb2⟩
end Go.Proofs.YtffdfeekpfmbeaaGreat
/- The walk of valid's rooms: rules 4 to 7. -/
namespace Go.Proofs.YtffdfeekpfmbeaaGreat
open Go Go.RowKit Go.BigFrame Go.Shelf

def roomsR (b : BrdV) (t : GuestV) (g : Int) : List Rl := [(c4 b t, 4, g), (c5 b t, 5, g), (c6 t, 6, g), (c7 t, 7, g)]
theorem rooms4 {b : BrdV} {t : GuestV} {g : Int} (h : c4 b t = false) : fb (roomsR b t g) = some (4, g) := by unfold roomsR; rw [fb_cons, h]; rfl
theorem rooms5 {b : BrdV} {t : GuestV} {g : Int} (h4 : c4 b t = true) (h : c5 b t = false) : fb (roomsR b t g) = some (5, g) := by unfold roomsR; rw [fb_cons, h4, if_pos rfl, fb_cons, h]; rfl
theorem rooms6 {b : BrdV} {t : GuestV} {g : Int} (h4 : c4 b t = true) (h5 : c5 b t = true) (h : c6 t = false) : fb (roomsR b t g) = some (6, g) := by unfold roomsR; rw [fb_cons, h4, if_pos rfl, fb_cons, h5, if_pos rfl, fb_cons, h]; rfl
theorem rooms7 {b : BrdV} {t : GuestV} {g : Int} (h4 : c4 b t = true) (h5 : c5 b t = true) (h6 : c6 t = true) : fb (roomsR b t g) = if c7 t = true then none else some (7, g) := by unfold roomsR; rw [fb_cons, h4, if_pos rfl, fb_cons, h5, if_pos rfl, fb_cons, h6, if_pos rfl, fb_cons]; rfl
theorem all_false {α : Type} {p : α → Bool} {l : List α} {k : Nat} (hk : k < l.length) (h : p l[k] = false) : l.all p = false := by
  rw [List.all_eq_false]
  exact ⟨l[k], List.getElem_mem hk, by simp [h]⟩
theorem all_true' {α : Type} {p : α → Bool} {l : List α} (h : ∀ j (hj : j < l.length), p l[j] = true) : l.all p = true := by
  rw [List.all_eq_true]
  intro x hx
  obtain ⟨j, hj, rfl⟩ := List.mem_iff_getElem.1 hx
  exact h j hj
theorem four_new (W : World) (a b c d : Value) (t : TypeId) : ∃ V, V = W.alloc (.cells #[a, b, c, d] t) ∧ V.heap.size = W.heap.size + 1 ∧ Below W.heap.size W V ∧ V.cell? ⟨W.heap.size, 0, none⟩ = some a ∧ V.cell? ⟨W.heap.size, 1, none⟩ = some b ∧ V.cell? ⟨W.heap.size, 2, none⟩ = some c ∧ V.cell? ⟨W.heap.size, 3, none⟩ = some d :=
  ⟨_, rfl, by simp, bone _ _, by simp [World.cell?_alloc_new], by simp [World.cell?_alloc_new], by simp [World.cell?_alloc_new], by simp [World.cell?_alloc_new]⟩
theorem three_new (W : World) (a b c : Value) (t : TypeId) : ∃ V, V = W.alloc (.cells #[a, b, c] t) ∧ V.heap.size = W.heap.size + 1 ∧ Below W.heap.size W V ∧ V.cell? ⟨W.heap.size, 0, none⟩ = some a ∧ V.cell? ⟨W.heap.size, 1, none⟩ = some b ∧ V.cell? ⟨W.heap.size, 2, none⟩ = some c :=
  ⟨_, rfl, by simp, bone _ _, by simp [World.cell?_alloc_new], by simp [World.cell?_alloc_new], by simp [World.cell?_alloc_new]⟩

theorem rowX_tail {α : Type} {R : World → List Value → α → Prop} {W : World} {bw ow kw : Nat} {l : List α} (h : RowX 4 R W (.slice (some ⟨bw, ow, none⟩) l.length kw) l) :
    RowX 4 R W (.slice (some ⟨bw, if kw = 1 then ow else ow + 4, none⟩) (l.length - 1) (kw - 1)) (l.drop 1) := by
  obtain ⟨a, cap, e, h1, h2, h3⟩ := h
  injection e with e1 e2 e3
  subst e1
  subst e3
  refine ⟨_, _, by rw [List.length_drop], by rw [List.length_drop]; omega, by omega, fun hne => ?_⟩
  have hl : 1 < l.length := by
    rcases l with _ | ⟨x, _ | ⟨y, l⟩⟩
    · simp at hne
    · simp at hne
    · simp
  obtain ⟨b, off, e, hb, hc⟩ := h3 (by rintro rfl; simp at hl)
  injection e with e
  injection e with e1 e2 _
  subst e1
  subst e2
  refine ⟨_, _, rfl, hb, fun i hi => ?_⟩
  obtain ⟨cs, r, hlen, hcell⟩ := hc (i + 1) (by rw [List.length_drop] at hi; omega)
  refine ⟨cs, ?_, hlen, fun j u hu => ?_⟩
  · rw [List.getElem_drop]
    have e : 1 + i = i + 1 := by omega
    simp only [e]
    exact r
  · have := hcell j u hu
    rw [if_neg (by omega), show ow + 4 + i * 4 + j = ow + (i + 1) * 4 + j by omega]
    exact this
set_option maxRecDepth 100000 in
set_option maxHeartbeats 8000000 in
theorem rooms_any (xb : Nat) (b : BrdV) (ver : Int) (vg vc : Value) (acc : Int) (mi ms : Nat) (vo vs : Value) (g : Int) (t : GuestV) (cs : List Value) (w : World) (hc : ChkAt w xb b ver vg vc acc mi ms vo vs) (hg : GuestR w cs t) (_hl : cs.length = 79) (h1w : 1 ≤ t.win.length) (hcnt : t.win.length ≤ 1000000 ∧ t.dev.length ≤ 1000000) :
    Calls Tryz.prog 25 #[.pointer (some ⟨xb, 0, none⟩), .int .i64 g, .agg cs.toArray] w fun e w' => e = endE (fb (roomsR b t g)) ∧ Below w.heap.size w w' := by
  obtain ⟨W1, hW1⟩ : ∃ W1, W1 = w.alloc (.cells cs.toArray 50) := ⟨_, rfl⟩
  have hb1 : Below w.heap.size w W1 := by rw [hW1]; exact bone _ _
  have hB1 : GBox W1 w.heap.size cs := by rw [hW1]; exact GBox.new _ _
  have hc1 := hc.below hb1
  obtain ⟨vw, ew, rw'⟩ := hg.win
  obtain ⟨vd, ed, rd'⟩ := hg.dev
  have rw1 := rw'.below hb1 lasts_win
  have rd1 := rd'.below hb1 lasts_dev
  clear rw' rd'
  have d5 := hB1.cell hg.entry.1
  have d6 := hB1.cell hg.dtb.1
  have d8 := hB1.cell ew
  have d9 := hB1.cell ed
  have hent := hg.entry.2
  have hdtb := hg.dtb.2
  have hz1 : W1.heap.size = w.heap.size + 1 := by rw [hW1]; simp
  have hxlt := hc1.lt
  have hr4 := @rooms4 b t g
  have hr5 := @rooms5 b t g
  have hr6 := @rooms6 b t g
  have hr7 := @rooms7 b t g
  generalize fb (roomsR b t g) = R at *
  have hrow1 := rw1
  obtain ⟨aw, kw, rfl, hlw, hmw, hcw⟩ := rw1
  obtain ⟨ad, kd, rfl, hld, hmd, hcd⟩ := rd1
  have k8 : cs.toArray[75]? = some (.slice aw t.win.length kw) := by simpa using ew
  have k9 : cs.toArray[76]? = some (.slice ad t.dev.length kd) := by simpa using ed
  clear hg ew ed hB1 hc _hl
  generalize cs.toArray = C at *
  replace hW1 := Lib.hid hW1
  replace hc1 := Lib.hid hc1
  replace hr4 := Lib.hid hr4
  replace hr5 := Lib.hid hr5
  replace hr6 := Lib.hid hr6
  replace hr7 := Lib.hid hr7
  go_enter Tryz.func25, Tryz.ntmps25
  go_wp2_with fail
  rw [← hW1.out]
  clear hW1 k8 k9
  go_loopw [15] (fun i wr => ∃ k : Nat, k ≤ t.win.length ∧ i = .int .i64 k ∧ (∀ j (hj : j < t.win.length), j < k → c4w b t.win[j] = true) ∧ Below W1.heap.size W1 wr) (fun i _ => t.win.length - (intOf i).toNat)
  case atStart => exact ⟨0, Nat.zero_le _, rfl, fun j _ hj => by omega, Below.refl _ _⟩
  case round =>
    obtain ⟨k, hk, rfl, hall, hB⟩ := hrel
    by_cases hlt : k < t.win.length
    · obtain ⟨bw, ow, rfl, hbw, hcell⟩ := hcw (by rintro e; simp [e] at hlt)
      obtain ⟨ws, ⟨rfl, _⟩, _, hce⟩ := hcell k hlt
      have p0 := cell_lt hB (hce 0 _ rfl) hbw
      have p1 := cell_lt hB (hce 1 _ rfl) hbw
      have p2 := cell_lt hB (hce 2 _ rfl) hbw
      have p3 := cell_lt hB (hce 3 _ rfl) hbw
      simp only [Nat.add_zero] at p0
      have hno : c4w b t.win[k] = false → R = some (4, g) := fun h => hr4.out (all_false hlt h)
      have hyes : c4w b t.win[k] = true → ∀ j (hj : j < t.win.length), j < k + 1 → c4w b t.win[j] = true := fun h j hj h2 => by
        by_cases e : j = k
        · subst e; exact h
        · exact hall j hj (by omega)
      clear hce hcell hall
      generalize t.win[k] = x at *
      replace hyes := Lib.hid hyes
      replace hno := Lib.hid hno
      have hlo := fun W => low_any ⟨x.ipa, x.sz, x.hi, x.hs⟩ W
      have hin := fun W h => inside_any xb b ver vg vc acc mi ms vo vs ⟨x.pa, x.sz, x.hp, x.hs⟩ W h
      simp only at hlo hin
      obtain ⟨V, hV, hVz, hVb, v0, v1, v2, v3⟩ := four_new wr (.int .u64 x.ipa) (.int .u64 x.pa) (.int .u64 x.sz) (.int .i64 x.perm) 44
      have hBV := hB.trans (hVb.mono hB.size)
      have hVlt : wr.heap.size < V.heap.size := by omega
      go_wp2_with fail
      rw [← hV]
      clear hV
      go_wp2_with fail
      refine (hlo _).mono ?_; rintro e w2 ⟨rfl, hb2⟩
      have hB2 := hBV.trans (hb2.mono hBV.size)
      have t1 := cell_lt hb2 v1 hVlt
      have t2 := cell_lt hb2 v2 hVlt
      have t3 := cell_lt hb2 v3 hVlt
      clear v0 v1 v2 v3 hlo p0 p1 p2 p3
      cases hq : pageM x.ipa x.sz
      case false =>
        have hc4 : c4w b x = false := by unfold c4w; rw [hq]; rfl
        go_wp2_with fail
        refine (must_any _ _ _ _).mono ?_; rintro e w3 ⟨rfl, rfl⟩
        refine ⟨rfl, ?_, ?_⟩
        · rw [hno.out hc4]; rfl
        · exact hb1.trans (hB2.mono hb1.size)
      by_cases hp : x.perm = 0
      case pos =>
        have hc4 : c4w b x = false := by unfold c4w; rw [hq, hp]; rfl
        have hp1 : (x.perm != 0) = false := by simpa using hp
        go_wp2_with fail
        refine (must_any _ _ _ _).mono ?_; rintro e w3 ⟨rfl, rfl⟩
        refine ⟨rfl, ?_, ?_⟩
        · rw [hno.out hc4]; rfl
        · exact hb1.trans (hB2.mono hb1.size)
      have hp1 : (x.perm != 0) = true := by simpa using hp
      have hin2 := hin w2 (hc1.out.below hB2)
      have hc4 : c4w b x = insB b ⟨x.pa, x.sz, x.hp, x.hs⟩ := by unfold c4w; rw [hq]; simp [hp]
      generalize insB b ⟨x.pa, x.sz, x.hp, x.hs⟩ = z at *
      clear hin
      replace hc4 := Lib.hid hc4
      go_wp2_with fail
      refine hin2.mono ?_; rintro e w3 ⟨rfl, hb3⟩
      have hB3 := hB2.trans (hb3.mono hB2.size)
      cases z
      case false =>
        go_wp2_with fail
        refine (must_any _ _ _ _).mono ?_; rintro e w4 ⟨rfl, rfl⟩
        refine ⟨rfl, ?_, ?_⟩
        · rw [hno.out hc4.out]; rfl
        · exact hb1.trans (hB3.mono hb1.size)
      go_wp2_with fail
      refine (must_any _ _ _ _).mono ?_; rintro e w4 ⟨rfl, rfl⟩
      simp only [mustE]
      go_wp2_with fail
      exact ⟨⟨k + 1, hlt, by go_num, hyes.out hc4.out, hB3⟩, by simp [intOf]; omega⟩
    · obtain rfl : k = t.win.length := by omega
      have h4 : c4 b t = true := all_true' fun j hj => hall j hj hj
      clear hall
      replace h4 := Lib.hid h4
      have g5 := cell_lt hB d5 (by omega)
      have g6 := cell_lt hB d6 (by omega)
      have g8 := cell_lt hB d8 (by omega)
      have g9 := cell_lt hB d9 (by omega)
      go_wp2_with fail
      obtain ⟨wo, rfl⟩ : ∃ wo, wo = wr := ⟨_, rfl⟩
      go_loopw [44] (fun i wr => ∃ k : Nat, k ≤ t.dev.length ∧ i = .int .i64 k ∧ (∀ j (hj : j < t.dev.length), j < k → c5d b t.dev[j] = true) ∧ Below wo.heap.size wo wr) (fun i _ => t.dev.length - (intOf i).toNat)
      case atStart => exact ⟨0, Nat.zero_le _, rfl, fun j _ hj => by omega, Below.refl _ _⟩
      case round =>
        obtain ⟨k, hk, rfl, hall, hB'⟩ := hrel
        have hB2 := hB.trans (hB'.mono hB.size)
        by_cases hlt : k < t.dev.length
        · obtain ⟨bw, ow, rfl, hbw, hcell⟩ := hcd (by rintro e; simp [e] at hlt)
          obtain ⟨ws, rfl, _, hce⟩ := hcell k hlt
          have p0 := cell_lt hB2 (hce 0 _ rfl) hbw
          have p1 := cell_lt hB2 (hce 1 _ rfl) hbw
          have p2 := cell_lt hB2 (hce 2 _ rfl) hbw
          simp only [Nat.add_zero] at p0
          have hno : c5d b t.dev[k] = false → R = some (5, g) := fun h => hr5.out h4.out (all_false hlt h)
          have hyes : c5d b t.dev[k] = true → ∀ j (hj : j < t.dev.length), j < k + 1 → c5d b t.dev[j] = true := fun h j hj h2 => by
            by_cases e : j = k
            · subst e; exact h
            · exact hall j hj (by omega)
          clear hce hcell hall
          generalize t.dev[k] = x at *
          replace hyes := Lib.hid hyes
          replace hno := Lib.hid hno
          have hlo := fun W => low_any ⟨x.ipa, x.sz, x.hi, x.hs⟩ W
          have hlp := fun W => low_any ⟨x.pa, x.sz, x.hp, x.hs⟩ W
          have hov := fun W => overlap_any x.pa x.sz b.ram.a b.ram.b W x.hp x.hs b.ram.ha b.ram.hb
          simp only at hlo hlp
          have hcd5 : c5d b x = (pageM x.ipa x.sz && (pageM x.pa x.sz && !(overlapB x.pa x.sz b.ram.a b.ram.b))) := rfl
          generalize pageM x.ipa x.sz = q1 at *
          generalize pageM x.pa x.sz = q2 at *
          generalize overlapB x.pa x.sz b.ram.a b.ram.b = q3 at *
          replace hcd5 := Lib.hid hcd5
          obtain ⟨V, hV, hVz, hVb, v0, v1, v2⟩ := three_new wr (.int .u64 x.ipa) (.int .u64 x.pa) (.int .u64 x.sz) 98
          have hBV := hB2.trans (hVb.mono hB2.size)
          have hBo := hB'.trans (hVb.mono hB'.size)
          have hVlt : wr.heap.size < V.heap.size := by omega
          have hxV : xb < V.heap.size := by have := hBV.size; omega
          have hcV := hc1.out.below hBV
          have y0 := hcV.cell (j := 0) rfl
          have y1 := hcV.cell (j := 1) rfl
          simp only [List.getElem_toArray, List.getElem_cons_succ, List.getElem_cons_zero] at y0 y1
          go_wp2_with fail
          rw [← hV]
          clear hV hcV
          replace v0 := later_cell (B := V.heap.size) v0 hVlt
          replace v1 := later_cell (B := V.heap.size) v1 hVlt
          replace v2 := later_cell (B := V.heap.size) v2 hVlt
          replace y0 := later_cell (B := V.heap.size) y0 hxV
          replace y1 := later_cell (B := V.heap.size) y1 hxV
          refine region_later_tl V.heap.size V 27 (Below.refl _ _) (by kernel_rfl) (by kernel_rfl) ?_
          simp only [List.take_succ_cons, List.take_zero, List.drop_succ_cons, List.drop_zero]
          repeat (change wpQuiet _ _ _ _ (List.cons _ _) _; go_big_quiet_step (fail))
          go_big_quiet_step ((go_at_call 57; exact quiet_later (Nat.le_refl _) (hlo _)))
          cases q1
          · repeat (change wpQuiet _ _ _ _ (List.cons _ _) _; go_big_quiet_step (fail))
            refine wpQuiet_nil ?_
            rintro w2 ⟨X, rfl⟩
            have hB3 := hBV.trans (X.h.mono hBV.size)
            have hB'' := hBo.trans (X.h.mono hBo.size)
            generalize X.x = w2 at *
            clear X
            go_wp2_with fail
            refine (must_any _ _ _ _).mono ?_; rintro e w4 ⟨rfl, rfl⟩
            refine ⟨rfl, ?_, ?_⟩
            · rw [hno.out hcd5.out]; rfl
            · exact hb1.trans (hB3.mono hb1.size)
          repeat (change wpQuiet _ _ _ _ (List.cons _ _) _; go_big_quiet_step (fail))
          go_big_quiet_step ((go_at_call 57; exact quiet_later (Nat.le_refl _) (hlp _)))
          cases q2
          · repeat (change wpQuiet _ _ _ _ (List.cons _ _) _; go_big_quiet_step (fail))
            refine wpQuiet_nil ?_
            rintro w2 ⟨X, rfl⟩
            have hB3 := hBV.trans (X.h.mono hBV.size)
            have hB'' := hBo.trans (X.h.mono hBo.size)
            generalize X.x = w2 at *
            clear X
            go_wp2_with fail
            refine (must_any _ _ _ _).mono ?_; rintro e w4 ⟨rfl, rfl⟩
            refine ⟨rfl, ?_, ?_⟩
            · rw [hno.out hcd5.out]; rfl
            · exact hb1.trans (hB3.mono hb1.size)
          repeat (change wpQuiet _ _ _ _ (List.cons _ _) _; go_big_quiet_step (fail))
          go_big_quiet_step ((go_at_call 59; exact quiet_later (Nat.le_refl _) (hov _)))
          cases q3
          · repeat (change wpQuiet _ _ _ _ (List.cons _ _) _; go_big_quiet_step (fail))
            refine wpQuiet_nil ?_
            rintro w2 ⟨X, rfl⟩
            have hB3 := hBV.trans (X.h.mono hBV.size)
            have hB'' := hBo.trans (X.h.mono hBo.size)
            generalize X.x = w2 at *
            clear X
            go_wp2_with fail
            refine (must_any _ _ _ _).mono ?_; rintro e w4 ⟨rfl, rfl⟩
            simp only [mustE]
            go_wp2_with fail
            exact ⟨⟨k + 1, hlt, by go_num, hyes.out hcd5.out, hB''⟩, by simp [intOf]; omega⟩
          · repeat (change wpQuiet _ _ _ _ (List.cons _ _) _; go_big_quiet_step (fail))
            refine wpQuiet_nil ?_
            rintro w2 ⟨X, rfl⟩
            have hB3 := hBV.trans (X.h.mono hBV.size)
            have hB'' := hBo.trans (X.h.mono hBo.size)
            generalize X.x = w2 at *
            clear X
            go_wp2_with fail
            refine (must_any _ _ _ _).mono ?_; rintro e w4 ⟨rfl, rfl⟩
            refine ⟨rfl, ?_, ?_⟩
            · rw [hno.out hcd5.out]; rfl
            · exact hb1.trans (hB3.mono hb1.size)
        · obtain rfl : k = t.dev.length := by omega
          have h5 : c5 b t = true := all_true' fun j hj => hall j hj hj
          clear hall hcd
          replace h5 := Lib.hid h5
          replace g5 := cell_lt hB' g5 (by have := hB.size; omega)
          replace g6 := cell_lt hB' g6 (by have := hB.size; omega)
          replace g8 := cell_lt hB' g8 (by have := hB.size; omega)
          have hwne : t.win ≠ [] := by intro e; rw [e] at h1w; simp at h1w
          obtain ⟨bw, ow, rfl, hbw, hcell⟩ := hcw hwne
          obtain ⟨ws, ⟨rfl, _⟩, _, hce⟩ := hcell 0 (by omega)
          have p0 := cell_lt hB2 (hce 0 _ rfl) hbw
          have p1 := cell_lt hB2 (hce 1 _ rfl) hbw
          have p2 := cell_lt hB2 (hce 2 _ rfl) hbw
          have p3 := cell_lt hB2 (hce 3 _ rfl) hbw
          simp only [Nat.add_zero, Nat.zero_mul] at p0 p1 p2 p3
          have hc6 : c6 t = (decide (t.entry % 4 = 0) && (hasB t.win[0].ipa t.win[0].sz t.entry && decide (bits .and .i64 t.win[0].perm 5 = 5))) := by unfold c6; rw [getElem!_pos t.win 0 (by omega)]
          have hn1 : 0 < t.win.length := by omega
          clear hce
          generalize t.win[0] = x at *
          have hha := fun W => has_any x.ipa x.sz t.entry W x.hi x.hs
          generalize hasB x.ipa x.sz t.entry = q2 at *
          replace hc6 := Lib.hid hc6
          obtain ⟨V, hV, hVz, hVb, v0, v1, v2, v3⟩ := four_new wr (.int .u64 x.ipa) (.int .u64 x.pa) (.int .u64 x.sz) (.int .i64 x.perm) 44
          have hBV := hB2.trans (hVb.mono hB2.size)
          have hVlt : wr.heap.size < V.heap.size := by omega
          have hgV : w.heap.size < wr.heap.size := by have := hB2.size; omega
          have G5 := cell_lt hVb g5 hgV
          have G6 := cell_lt hVb g6 hgV
          have G8 := cell_lt hVb g8 hgV
          have hent0 := hent.1
          by_cases e1 : t.entry % 4 = 0
          case neg =>
            have e1' : (t.entry % 4 == 0) = false := by simpa using e1
            go_wp2_with fail
            rw [← hV]
            refine (must_any _ _ _ _).mono ?_; rintro e w4 ⟨rfl, rfl⟩
            refine ⟨rfl, ?_, ?_⟩
            · rw [hr6.out h4.out h5.out (hc6.out.trans (by first | (simp [e1]; done) | (simp [e1, e3]; done)))]; rfl
            · exact hb1.trans (hBV.mono hb1.size)
          have e1' : (t.entry % 4 == 0) = true := by simpa using e1
          go_wp2_with fail
          rw [← hV]
          clear hV
          refine (hha _).mono ?_; rintro e w2 ⟨rfl, hb2⟩
          have hB3 := hBV.trans (hb2.mono hBV.size)
          have t3 := cell_lt hb2 v3 hVlt
          have hg2 : w.heap.size < V.heap.size := by omega
          replace G6 := cell_lt hb2 G6 hg2
          replace G8 := cell_lt hb2 G8 hg2
          clear v0 v1 v2 v3 p0 p1 p2 p3 hha G5 g5 g6 g8 d5 d6 d8 d9 g9
          cases q2
          case false =>
            go_wp2_with fail
            refine (must_any _ _ _ _).mono ?_; rintro e w4 ⟨rfl, rfl⟩
            refine ⟨rfl, ?_, ?_⟩
            · rw [hr6.out h4.out h5.out (hc6.out.trans (by first | (simp [e1]; done) | (simp [e1, e3]; done)))]; rfl
            · exact hb1.trans (hB3.mono hb1.size)
          by_cases e3 : bits .and .i64 x.perm 5 = 5
          case neg =>
            have e3' : (bits .and .i64 x.perm 5 == 5) = false := by simpa using e3
            go_wp2_with fail
            refine (must_any _ _ _ _).mono ?_; rintro e w4 ⟨rfl, rfl⟩
            refine ⟨rfl, ?_, ?_⟩
            · rw [hr6.out h4.out h5.out (hc6.out.trans (by first | (simp [e1]; done) | (simp [e1, e3]; done)))]; rfl
            · exact hb1.trans (hB3.mono hb1.size)
          have e3' : (bits .and .i64 x.perm 5 == 5) = true := by simpa using e3
          have h6 : c6 t = true := hc6.out.trans (by simp [e1, e3])
          have h7 := hr7.out h4.out h5.out h6
          clear hr7 hr6 hr5 hr4
          replace h7 := Lib.hid h7
          have hmf : ∀ (fn : Fn) (first cap : Array Value) (w : World), (Instr.makeFunc fn first cap).run Tryz.prog w = .ok (.func fn first cap) w := fun _ _ _ _ => rfl
          have hd0 := hdtb.1
          go_wp2_with fail
          refine (must_any _ _ _ _).mono ?_; rintro e w4 ⟨rfl, rfl⟩
          simp only [mustE]
          have hc7 : c7 t = (decide (t.dtb = 0) || (decide (t.dtb % 4096 = 0) && (t.win.drop 1).any (c7w t.dtb))) := rfl
          by_cases f1 : t.dtb = 0
          case pos =>
            have f1' : (t.dtb == 0) = true := by simpa using f1
            go_wp2_with fail
            refine (must_any _ _ _ _).mono ?_; rintro e w4 ⟨rfl, rfl⟩
            simp only [mustE]
            go_wp2_with fail
            go_end0
            refine ⟨?_, hb1.trans (hB3.mono hb1.size)⟩
            rw [h7.out, hc7]; simp [f1, endE]
          have f1' : (t.dtb == 0) = false := by simpa using f1
          by_cases f2 : t.dtb % 4096 = 0
          case neg =>
            have f2' : (t.dtb % 4096 == 0) = false := by simpa using f2
            go_wp2_with fail
            refine (must_any _ _ _ _).mono ?_; rintro e w4 ⟨rfl, rfl⟩
            refine ⟨rfl, ?_, hb1.trans (hB3.mono hb1.size)⟩
            rw [h7.out, hc7]; simp [f1, f2, endE]
          have f2' : (t.dtb % 4096 == 0) = true := by simpa using f2
          have hrT : RowX 4 WinR w2 (.slice (some ⟨bw, if kw = 1 then ow else ow + 4, none⟩) (t.win.length - 1) (kw - 1)) (t.win.drop 1) := rowX_tail ((hrow1).below hB3 lasts_win)
          have hcn := contW_any (c7w t.dtb) 61 #[.pointer (some ⟨w.heap.size, 0, none⟩)] _ (t.win.drop 1) w2 (enters_of Tryz.func61 (by kernel_rfl) rfl) hrT
            (fun W x hb => (holds_any x t.dtb w.heap.size W (cell_lt hb G6 (by have := hb2.size; omega)) hdtb (by have := hb2.size; have := hb.size; omega)).mono fun _ _ ⟨he, hb'⟩ => ⟨he, bthen hb hb'⟩) (by rw [List.length_drop]; omega)
          clear hrT
          by_cases hk1 : kw = 1
          · rw [if_pos hk1, show kw - 1 = 0 by omega] at hcn
            go_wp2_with fail
            refine hcn.mono ?_; rintro e w3 ⟨rfl, hb3⟩
            have hB4 := hB3.trans (hb3.mono hB3.size)
            generalize (t.win.drop 1).any (c7w t.dtb) = q at *
            clear hcn
            replace hc7 := Lib.hid hc7
            go_wp2_with fail
            refine (must_any _ _ _ _).mono ?_; rintro e w4 ⟨rfl, rfl⟩
            cases q
            · refine ⟨rfl, ?_, hb1.trans (hB4.mono hb1.size)⟩
              rw [h7.out, hc7.out]; simp [f1, f2, endE]
            · simp only [mustE]
              go_wp2_with fail
              go_end0
              refine ⟨?_, hb1.trans (hB4.mono hb1.size)⟩
              rw [h7.out, hc7.out]; simp [f1, f2, endE]
          · rw [if_neg hk1] at hcn
            go_wp2_with fail
            refine hcn.mono ?_; rintro e w3 ⟨rfl, hb3⟩
            have hB4 := hB3.trans (hb3.mono hB3.size)
            generalize (t.win.drop 1).any (c7w t.dtb) = q at *
            clear hcn
            replace hc7 := Lib.hid hc7
            go_wp2_with fail
            refine (must_any _ _ _ _).mono ?_; rintro e w4 ⟨rfl, rfl⟩
            cases q
            · refine ⟨rfl, ?_, hb1.trans (hB4.mono hb1.size)⟩
              rw [h7.out, hc7.out]; simp [f1, f2, endE]
            · simp only [mustE]
              go_wp2_with fail
              go_end0
              refine ⟨?_, hb1.trans (hB4.mono hb1.size)⟩
              rw [h7.out, hc7.out]; simp [f1, f2, endE]
end Go.Proofs.YtffdfeekpfmbeaaGreat
