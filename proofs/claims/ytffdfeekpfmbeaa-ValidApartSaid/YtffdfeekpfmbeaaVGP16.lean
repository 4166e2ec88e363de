/- The walks of valid's small functions: must, low, inside. -/
import Derived.Recover
import Derived.Test.YtffdfeekpfmbeaaVGP9
import Derived.Test.YtffdfeekpfmbeaaVGP12
import Derived.Test.YtffdfeekpfmbeaaVGP13
import Derived.Test.YtffdfeekpfmbeaaVGP15
namespace Go.Proofs.Ytffdfeekpfmbeaa
open Go Go.RowKit Go.BigFrame

/-- What is thrown: a rule and a place. -/
def wrongV (r p : Int) : PanicEntry := { v := .iface 67 (.agg #[.int .i64 r, .int .i64 p]), recovered := false }
def mustE (t : Bool) (r p : Int) : Ending := match t with | true => .returned (.tuple #[]) | false => .panicked [wrongV r p]
theorem must_any (t : Bool) (r p : Int) (w : World) : Calls Try.prog 22 #[.bool t, .int .i64 r, .int .i64 p] w fun e w' => e = mustE t r p ∧ w = w' := by
  cases t
  · go_enter Try.func22, Try.ntmps22
    go_wp2
    exact ⟨rfl, rfl, rfl⟩
  · go_enter Try.func22, Try.ntmps22
    go_wp2
    go_end0
    exact ⟨rfl, rfl⟩
theorem rowOne (W : World) (x : Two) : RowTwo (W.alloc (.cells #[.int .u64 x.a, .int .u64 x.b] 24)) (.slice (some ⟨W.heap.size, 0, none⟩) 1 1) [x] := by
  refine ⟨_, _, rfl, Nat.le_refl _, fun _ => ⟨_, _, rfl, by simp, fun i hi => ?_⟩⟩
  obtain rfl : i = 0 := by simp at hi; omega
  simp [World.cell?_alloc_new]
theorem pagesOne (x : Two) (W : World) (n : Nat) (hn : n = W.heap.size) : Calls Try.prog 34 #[.slice (some ⟨n, 0, none⟩) 1 1] (W.alloc (.cells #[.int .u64 x.a, .int .u64 x.b] 24)) fun e w' => e = .returned (.bool (!(pageBad x))) ∧ Below W.heap.size W w' := by
  subst hn
  refine (pages_any _ [x] _ (rowOne W x) (by simp)).mono ?_
  rintro e w' ⟨rfl, hb⟩
  exact ⟨by simp, bnew hb⟩
theorem pageM_two (x : Two) : pageM x.a x.b = (!(pageBad x) && decide (lastV x.a x.b < 1099511627776)) := by
  unfold pageM; rw [pageBad_not]
set_option maxHeartbeats 1000000 in
theorem low_any (x : Two) (w : World) : Calls Try.prog 45 #[.int .u64 x.a, .int .u64 x.b] w fun e w' => e = .returned (.bool (pageM x.a x.b)) ∧ Below w.heap.size w w' := by
  have hp := fun W => pagesOne x W
  have hl := fun W => last_any x.a x.b W x.ha x.hb
  rw [pageM_two]
  generalize pageBad x = q at *
  generalize lastV x.a x.b = L at *
  cases q
  all_goals
    go_enter Try.func45, Try.ntmps45
    go_wp2_with fail
    refine (hp _ _ (by simp)).mono ?_; rintro e w1 ⟨rfl, hb1⟩
    have c0 : w1.cell? ⟨w.heap.size, 0, none⟩ = some (.int .u64 x.a) := cell_lt hb1 (by simp [World.cell?_alloc_new]) (by simp)
    have c1 : w1.cell? ⟨w.heap.size, 1, none⟩ = some (.int .u64 x.b) := cell_lt hb1 (by simp [World.cell?_alloc_new]) (by simp)
    replace hb1 := bnew hb1
    go_wp2_with (go_at_call 35; refine (hl _).mono ?_; rintro e w2 ⟨rfl, hb2⟩)
    go_ret
    first | exact ⟨rfl, hb1⟩ | exact ⟨rfl, bthen hb1 hb2⟩
/-- The check's block: a board, a configuration, what is taken. -/
structure ChkAt (W : World) (xb : Nat) (b : BrdV) (ver : Int) (vg vc : Value) (cpus : Int) (mi ms : Nat) (vo vs : Value) : Prop where
  blk : W.heap[xb]? = some (.cells #[.int .u64 b.ram.a, .int .u64 b.ram.b, .int .u64 b.ldr.a, .int .u64 b.ldr.b, .int .i64 b.irqs, .int .i64 b.strs, .int .i64 b.cpus, .int .u32 ver, vg, vc, .int .u32 cpus, .map (some mi), .map (some ms), vo, vs] 71 (0, 0))
theorem ChkAt.lt {W : World} {xb : Nat} {b : BrdV} {ver : Int} {vg vc : Value} {cpus : Int} {mi ms : Nat} {vo vs : Value} (h : ChkAt W xb b ver vg vc cpus mi ms vo vs) : xb < W.heap.size := (Array.getElem?_eq_some_iff.1 h.blk).1
theorem ChkAt.cell {W : World} {xb : Nat} {b : BrdV} {ver : Int} {vg vc : Value} {cpus : Int} {mi ms : Nat} {vo vs : Value} (h : ChkAt W xb b ver vg vc cpus mi ms vo vs) {j : Nat} {u : Value} (hu : #[.int .u64 b.ram.a, .int .u64 b.ram.b, .int .u64 b.ldr.a, .int .u64 b.ldr.b, .int .i64 b.irqs, .int .i64 b.strs, .int .i64 b.cpus, .int .u32 ver, vg, vc, .int .u32 cpus, .map (some mi), .map (some ms), vo, vs][j]? = some u) : W.cell? ⟨xb, j, none⟩ = some u := by
  simp only [World.cell?, h.blk]
  simpa using hu
theorem ChkAt.below {W W' : World} {xb : Nat} {b : BrdV} {ver : Int} {vg vc : Value} {cpus : Int} {mi ms : Nat} {vo vs : Value} (h : ChkAt W xb b ver vg vc cpus mi ms vo vs) (hb : Below W.heap.size W W') : ChkAt W' xb b ver vg vc cpus mi ms vo vs := ⟨(hb.block xb h.lt).trans h.blk⟩
set_option maxHeartbeats 2000000 in
theorem inside_any (xb : Nat) (b : BrdV) (ver : Int) (vg vc : Value) (cpus : Int) (mi ms : Nat) (vo vs : Value) (x : Two) (w : World) (hc : ChkAt w xb b ver vg vc cpus mi ms vo vs) :
    Calls Try.prog 46 #[.pointer (some ⟨xb, 0, none⟩), .agg #[.int .u64 x.a, .int .u64 x.b]] w fun e w' => e = .returned (.bool (insB b x)) ∧ Below w.heap.size w w' := by
  have hp := fun W => pagesOne x W
  have hwi := fun W => within_any x.a x.b b.ram.a b.ram.b W x.ha x.hb b.ram.ha b.ram.hb
  have hov := fun W => overlap_any x.a x.b b.ldr.a b.ldr.b W x.ha x.hb b.ldr.ha b.ldr.hb
  have c0 := hc.cell (j := 0) rfl
  have c1 := hc.cell (j := 1) rfl
  have c2 := hc.cell (j := 2) rfl
  have c3 := hc.cell (j := 3) rfl
  have hlt := hc.lt
  unfold insB
  generalize pageBad x = q1 at *
  generalize withinB x.a x.b b.ram.a b.ram.b = q2 at *
  generalize overlapB x.a x.b b.ldr.a b.ldr.b = q3 at *
  cases q1 <;> cases q2
  all_goals
    go_enter Try.func46, Try.ntmps46
    go_wp2_with fail
    obtain ⟨W1, hW1⟩ : ∃ W1, W1 = w.alloc (.cells #[.int .u64 x.a, .int .u64 x.b] 24) := ⟨_, rfl⟩
    have hb1 : Below w.heap.size w W1 := by rw [hW1]; exact bone _ _
    have b0 : W1.cell? ⟨w.heap.size, 0, none⟩ = some (.int .u64 x.a) := by rw [hW1]; simp [World.cell?_alloc_new]
    have b1 : W1.cell? ⟨w.heap.size, 1, none⟩ = some (.int .u64 x.b) := by rw [hW1]; simp [World.cell?_alloc_new]
    have hz1 : w.heap.size < W1.heap.size := by rw [hW1]; simp
    have hx1 : xb < W1.heap.size := by omega
    replace c0 := cell_lt hb1 c0 hlt
    replace c1 := cell_lt hb1 c1 hlt
    replace c2 := cell_lt hb1 c2 hlt
    replace c3 := cell_lt hb1 c3 hlt
    rw [← hW1]
    clear hW1
    refine region_ord (fun z => ∃ X : Later W1.heap.size W1, z = X.x) [([0], 1), ([], 2), ([3, 4, 5, 6, 7, 8, 9], 10), ([11, 12, 13, 14, 15, 16, 17, 18], 19)] [20, 21, 22] (by kernel_rfl) (by kernel_rfl) (by kernel_rfl) (by kernel_rfl) ⟨⟨_, (Below.refl _ _).drew⟩, rfl⟩ ?_
    simp only [List.map_cons, List.map_nil, List.filterMap_cons, List.filterMap_nil, List.getElem?_cons_succ, List.getElem?_cons_zero]
    replace b0 := later_cell (B := W1.heap.size) b0 hz1
    replace b1 := later_cell (B := W1.heap.size) b1 hz1
    replace c0 := later_cell (B := W1.heap.size) c0 hx1
    replace c1 := later_cell (B := W1.heap.size) c1 hx1
    replace c2 := later_cell (B := W1.heap.size) c2 hx1
    replace c3 := later_cell (B := W1.heap.size) c3 hx1
    have hB : Below W1.heap.size W1 W1.drew := (Below.refl _ _).drew
    generalize W1.drew = w2 at *
    refine ord_step ?_
    repeat (change wpQuiet _ _ _ _ (List.cons _ _) _; go_big_quiet_step (fail))
    refine wpQuiet_nil ?_
    intro Q₁ hQ₁
    simp only [Option.toList]
    go_wp2_with fail
    refine hQ₁ _ _ ⟨⟨_, hB.alloc (by have := hB.size; omega) _⟩, rfl⟩ ?_
    clear hQ₁ Q₁
    refine ord_step ?_
    refine wpQuiet_nil ?_
    intro Q₁ hQ₁
    simp only [Option.toList]
    go_wp2_with fail
    refine (hp _ _ rfl).mono ?_; rintro e w3 ⟨rfl, hb3⟩
    replace hB := hB.trans (hb3.mono hB.size)
    clear hp hb3
    go_wp2_with fail
    refine hQ₁ _ _ ⟨⟨_, hB⟩, rfl⟩ ?_
    clear hQ₁ Q₁
    refine ord_step ?_
    repeat (change wpQuiet _ _ _ _ (List.cons _ _) _; go_big_quiet_step (fail))
    refine wpQuiet_nil ?_
    intro Q₁ hQ₁
    simp only [Option.toList]
    go_wp2_with fail
    first
      | (refine (hwi _).mono ?_; rintro e w4 ⟨rfl, hb4⟩
         replace hB := hB.trans (hb4.mono hB.size)
         go_wp2_with fail
         refine hQ₁ _ _ ⟨⟨w4, hB⟩, rfl⟩ ?_)
      | refine hQ₁ _ _ ⟨⟨w3, hB⟩, rfl⟩ ?_
    clear hQ₁ Q₁
    refine ord_step ?_
    repeat (change wpQuiet _ _ _ _ (List.cons _ _) _; go_big_quiet_step (fail))
    refine wpQuiet_nil ?_
    intro Q₁ hQ₁
    simp only [Option.toList]
    go_wp2_with fail
    first
      | (refine (hov _).mono ?_; rintro e w5 ⟨rfl, hb5⟩
         replace hB := hB.trans (hb5.mono hB.size)
         go_wp2_with fail
         refine hQ₁ _ _ ⟨⟨w5, hB⟩, rfl⟩ ?_)
      | refine hQ₁ _ _ ⟨⟨_, hB⟩, rfl⟩ ?_
    clear hQ₁ Q₁
    refine ord_last ?_
    repeat (change wpQuiet _ _ _ _ (List.cons _ _) _; go_big_quiet_step (fail))
    refine wpQuiet_nil ?_
    go_wp2_with fail
    go_ret
    exact ⟨ret_bool (by cases q3 <;> rfl), hb1.trans (hB.mono hb1.size)⟩
end Go.Proofs.Ytffdfeekpfmbeaa
/- The walk of mach.Fit: which boards may be. -/
namespace Go.Proofs.Ytffdfeekpfmbeaa
open Go Go.RowKit Go.BigFrame

theorem rowTwoP (W : World) (x y : Two) : RowTwo (W.alloc (.cells #[.int .u64 x.a, .int .u64 x.b, .int .u64 y.a, .int .u64 y.b] 24)) (.slice (some ⟨W.heap.size, 0, none⟩) 2 2) [x, y] := by
  refine ⟨_, _, rfl, Nat.le_refl _, fun _ => ⟨_, _, rfl, by simp, fun i hi => ?_⟩⟩
  rcases i with _ | _ | i
  · simp [World.cell?_alloc_new]
  · simp [World.cell?_alloc_new]
  · simp at hi; omega
theorem pagesTwo (x y : Two) (W : World) (n : Nat) (hn : n = W.heap.size) : Calls Try.prog 34 #[.slice (some ⟨n, 0, none⟩) 2 2] (W.alloc (.cells #[.int .u64 x.a, .int .u64 x.b, .int .u64 y.a, .int .u64 y.b] 24)) fun e w' => e = .returned (.bool (!(pageBad x || pageBad y))) ∧ Below W.heap.size W w' := by
  subst hn
  refine (pages_any _ [x, y] _ (rowTwoP W x y) (by simp)).mono ?_
  rintro e w' ⟨rfl, hb⟩
  exact ⟨by simp, bnew hb⟩
theorem btw_any (n a b : Int) (w : World) : Calls Try.prog 33 #[.int .i64 n, .int .i64 a, .int .i64 b] w fun e w' => e = .returned (.bool (decide (a ≤ n ∧ n ≤ b))) ∧ w = w' := by
  by_cases h1 : a ≤ n
  all_goals by_cases h2 : n ≤ b
  all_goals
    go_enter Try.func33, Try.ntmps33
    go_wp2
    go_ret
    exact ⟨ret_bool (by simp [h1, h2]), rfl⟩
set_option maxHeartbeats 2000000 in
theorem fit_any (b : BrdV) (w : World) : Calls Try.prog 23 #[.agg b.enc.toArray] w fun e w' => e = .returned (.int .i64 (if fitV b = true then 0 else 282)) ∧ Below w.heap.size w w' := by
  have hp := fun W => pagesTwo b.ram b.ldr W
  have hl := fun W => last_any b.ram.a b.ram.b W b.ram.ha b.ram.hb
  have hwi := fun W => within_any b.ldr.a b.ldr.b b.ram.a b.ram.b W b.ldr.ha b.ldr.hb b.ram.ha b.ram.hb
  have hi := fun W => btw_any b.irqs 0 1020 W
  have hs := fun W => btw_any b.strs 0 256 W
  have hc := fun W => btw_any b.cpus 1 32 W
  unfold fitV BrdV.enc
  generalize pageBad b.ram = q1 at *
  generalize pageBad b.ldr = q2 at *
  generalize lastV b.ram.a b.ram.b = L at *
  generalize withinB b.ldr.a b.ldr.b b.ram.a b.ram.b = q3 at *
  generalize decide (0 ≤ b.irqs ∧ b.irqs ≤ 1020) = q4 at *
  generalize decide (0 ≤ b.strs ∧ b.strs ≤ 256) = q5 at *
  generalize decide (1 ≤ b.cpus ∧ b.cpus ≤ 32) = q6 at *
  obtain ⟨W1, hW1⟩ : ∃ W1, W1 = w.alloc (.cells #[.int .u64 b.ram.a, .int .u64 b.ram.b, .int .u64 b.ldr.a, .int .u64 b.ldr.b, .int .i64 b.irqs, .int .i64 b.strs, .int .i64 b.cpus] 26) := ⟨_, rfl⟩
  have hb1 : Below w.heap.size w W1 := by rw [hW1]; exact bone _ _
  have hz0 : W1.heap.size = w.heap.size + 1 := by rw [hW1]; simp
  have hz1 : w.heap.size < W1.heap.size := by omega
  have key : ∀ (j : Nat) (u : Value), #[.int .u64 b.ram.a, .int .u64 b.ram.b, .int .u64 b.ldr.a, .int .u64 b.ldr.b, .int .i64 b.irqs, .int .i64 b.strs, .int .i64 b.cpus][j]? = some u → ∀ W2, Below W1.heap.size W1 W2 → W2.cell? ⟨w.heap.size, j, none⟩ = some u := fun j u h W2 h2 => cell_lt h2 (by rw [hW1]; simp only [World.cell?_alloc_new]; exact h) hz1
  replace hW1 := Lib.hid hW1
  go_enter Try.func23, Try.ntmps23
  go_wp2_with fail
  rw [← hW1.out]
  have c0 := key 0 _ rfl _ (Below.refl _ _)
  have c1 := key 1 _ rfl _ (Below.refl _ _)
  have c2 := key 2 _ rfl _ (Below.refl _ _)
  have c3 := key 3 _ rfl _ (Below.refl _ _)
  clear hW1
  go_wp2_with fail
  refine (hp _ _ hz0.symm).mono ?_; rintro e w2 ⟨rfl, hb2⟩
  have hb2' : Below W1.heap.size W1 w2 := hb2
  cases q1
  case true =>
    go_wp2_with fail
    all_goals go_ret
    all_goals exact ⟨by first | rfl | (simp; done) | (simp [hL]; done), bthen hb1 hb2⟩
  cases q2
  case true =>
    go_wp2_with fail
    all_goals go_ret
    all_goals exact ⟨by first | rfl | (simp; done) | (simp [hL]; done), bthen hb1 hb2⟩
  clear c0 c1 c2 c3
  have c0 := key 0 _ rfl _ hb2
  have c1 := key 1 _ rfl _ hb2
  go_wp2_with fail
  refine (hl _).mono ?_; rintro e w3 ⟨rfl, hb3⟩
  replace hb2 := bthen hb2 hb3
  clear hb2' hb3
  by_cases hL : L < 1099511627776
  case neg =>
    go_wp2_with fail
    all_goals go_ret
    all_goals exact ⟨by first | rfl | (simp; done) | (simp [hL]; done), bthen hb1 hb2⟩
  clear c0 c1
  have c0 := key 0 _ rfl _ hb2
  have c1 := key 1 _ rfl _ hb2
  have c2 := key 2 _ rfl _ hb2
  have c3 := key 3 _ rfl _ hb2
  go_wp2_with fail
  refine (hwi _).mono ?_; rintro e w4 ⟨rfl, hb4⟩
  replace hb2 := bthen hb2 hb4
  clear hb4
  cases q3
  case false =>
    go_wp2_with fail
    all_goals go_ret
    all_goals exact ⟨by first | rfl | (simp; done) | (simp [hL]; done), bthen hb1 hb2⟩
  clear c0 c1 c2 c3
  have c4 := key 4 _ rfl _ hb2
  have c5 := key 5 _ rfl _ hb2
  have c6 := key 6 _ rfl _ hb2
  go_wp2_with fail
  refine (hi _).mono ?_; rintro e w5 ⟨rfl, rfl⟩
  cases q4
  case false =>
    go_wp2_with fail
    all_goals go_ret
    all_goals exact ⟨by first | rfl | (simp; done) | (simp [hL]; done), bthen hb1 hb2⟩
  go_wp2_with fail
  refine (hs _).mono ?_; rintro e w5 ⟨rfl, rfl⟩
  cases q5
  case false =>
    go_wp2_with fail
    all_goals go_ret
    all_goals exact ⟨by first | rfl | (simp; done) | (simp [hL]; done), bthen hb1 hb2⟩
  go_wp2_with fail
  refine (hc _).mono ?_; rintro e w5 ⟨rfl, rfl⟩
  cases q6
  case false =>
    go_wp2_with fail
    all_goals go_ret
    all_goals exact ⟨by first | rfl | (simp; done) | (simp [hL]; done), bthen hb1 hb2⟩
  go_wp2_with fail
  all_goals go_ret
  all_goals exact ⟨by first | rfl | (simp; done) | (simp [hL]; done), bthen hb1 hb2⟩
end Go.Proofs.Ytffdfeekpfmbeaa
/- The walk of valid's processors. -/
namespace Go.Proofs.Ytffdfeekpfmbeaa
open Go Go.RowKit Go.BigFrame

/-- A variable of a guest's 79 cells. -/
def GBox (W : World) (gb : Nat) (cs : List Value) : Prop := W.heap[gb]? = some (.cells cs.toArray 61 (0, 0))
theorem GBox.new (W : World) (cs : List Value) : GBox (W.alloc (.cells cs.toArray 61)) W.heap.size cs := World.alloc_heap_new W _
theorem GBox.lt {W : World} {gb : Nat} {cs : List Value} (h : GBox W gb cs) : gb < W.heap.size := (Array.getElem?_eq_some_iff.1 h).1
theorem GBox.below {W W' : World} {gb : Nat} {cs : List Value} (h : GBox W gb cs) (hb : Below W.heap.size W W') : GBox W' gb cs := (hb.block gb h.lt).trans h
theorem GBox.cell {W : World} {gb : Nat} {cs : List Value} (h : GBox W gb cs) {j : Nat} {u : Value} (hu : cs[j]? = some u) : W.cell? ⟨gb, j, none⟩ = some u := by
  have h' : W.heap[gb]? = some (.cells cs.toArray 61 (0, 0)) := h
  simp only [World.cell?, h']
  simpa using hu
/-- All blocks but these lie as they lay; what lay below 'B' is as it was. -/
structure OffV (B : Nat) (Bs : List Nat) (X Y : World) : Prop where
  below : Below B X Y
  rest : ∀ k, k < X.heap.size → k ∉ Bs → Y.heap[k]? = X.heap[k]?
theorem OffV.refl (B : Nat) (Bs : List Nat) (X : World) : OffV B Bs X X := ⟨Below.refl _ _, fun _ _ _ => rfl⟩
theorem OffV.of_below {B : Nat} {Bs : List Nat} {X Y : World} (h : Below X.heap.size X Y) (hB : B ≤ X.heap.size) : OffV B Bs X Y := ⟨h.mono hB, fun i h1 _ => h.block i h1⟩
theorem OffV.trans {B : Nat} {Bs Cs : List Nat} {X Y Z : World} (h : OffV B Bs X Y) (k : OffV B Cs Y Z) (hc : ∀ b ∈ Cs, b ∈ Bs ∨ X.heap.size ≤ b) : OffV B Bs X Z :=
  ⟨h.below.trans k.below, fun i h1 h2 => (k.rest i (Nat.lt_of_lt_of_le h1 h.below.size) (fun e => by rcases hc i e with e | e; exact h2 e; omega)).trans (h.rest i h1 h2)⟩
theorem OffV.then {B : Nat} {Bs : List Nat} {X Y Z : World} (h : OffV B Bs X Y) (k : Below Y.heap.size Y Z) (hB : B ≤ X.heap.size) : OffV B Bs X Z :=
  h.trans (OffV.of_below (Bs := []) k (Nat.le_trans hB h.below.size)) (by simp)
theorem OffV.mono {B : Nat} {Bs Cs : List Nat} {X Y : World} (h : OffV B Bs X Y) (hc : ∀ b ∈ Bs, b ∈ Cs) : OffV B Cs X Y := ⟨h.below, fun i h1 h2 => h.rest i h1 fun e => h2 (hc i e)⟩
theorem setCell_other {W : World} {b o k : Nat} {v : Value} (h : k ≠ b) : (W.setCell ⟨b, o, none⟩ v).heap[k]? = W.heap[k]? := Below.heap_setCell W _ v k (by simpa using h)
theorem OffV.set {B b o : Nat} {Bs : List Nat} {X Y : World} {v : Value} (h : OffV B Bs X Y) (hb : b ∈ Bs ∨ X.heap.size ≤ b) (hB : B ≤ b) : OffV B Bs X (Y.setCell ⟨b, o, none⟩ v) :=
  h.trans (Cs := [b]) ⟨(Below.refl B Y).setCell (p := ⟨b, o, none⟩) hB v, fun k _ hk => setCell_other (by simpa using hk)⟩ (by simpa using hb)
theorem setCell_at {w : World} {B : Nat} {cs : Array Value} {T : TypeId} {fz : Nat × Nat} (h : w.heap[B]? = some (.cells cs T fz)) (i : Nat) (u : Value) : (w.setCell ⟨B, i, none⟩ u).heap[B]? = some (.cells (cs.setIfInBounds i u) T fz) := by
  rw [Go.Sort.setCell_eq]
  simp [Go.Sort.mapBlock, Array.getElem?_modify, h, Go.Sort.onCells]
/-- The processors of some guests. -/
def orV (l : List GuestV) : Int := l.foldl (fun a o => bits .or .u32 a o.cpus) 0
set_option maxHeartbeats 2000000 in
theorem proc_any (xb : Nat) (b : BrdV) (ver : Int) (vg vc : Value) (acc : Int) (mi ms : Nat) (vo vs : Value) (g : Int) (t : GuestV) (cs : List Value) (w : World) (hc : ChkAt w xb b ver vg vc acc mi ms vo vs) (hg : GuestR w cs t) (_hl : cs.length = 79) (hcp : 1 ≤ b.cpus ∧ b.cpus ≤ 32) (_ha : U32 acc) (B : Nat) (hBx : B ≤ xb) (hBw : B ≤ w.heap.size) :
    Calls Try.prog 25 #[.pointer (some ⟨xb, 0, none⟩), .int .i64 g, .agg cs.toArray] w fun e w' =>
      e = mustE (!(decide (t.cpus = 0)) && (decide (t.cpus / 2 ^ b.cpus.toNat = 0) && decide (bits .and .u32 t.cpus acc = 0))) 3 g ∧ OffV B [xb] w w' ∧
      (e = .returned (.tuple #[]) → ChkAt w' xb b ver vg vc (bits .or .u32 acc t.cpus) mi ms vo vs) := by
  obtain ⟨W1, hW1⟩ : ∃ W1, W1 = w.alloc (.cells cs.toArray 61) := ⟨_, rfl⟩
  have hb1 : Below w.heap.size w W1 := by rw [hW1]; exact bone _ _
  have hB1 : GBox W1 w.heap.size cs := by rw [hW1]; exact GBox.new _ _
  have hc1 := hc.below hb1
  have d4 := hB1.cell hg.cpus.1
  have hu := hg.cpus.2
  have hxlt := hc.lt
  have c6 := hc1.cell (j := 6) rfl
  have c10 := hc1.cell (j := 10) rfl
  have hz1 : W1.heap.size = w.heap.size + 1 := by rw [hW1]; simp
  simp only [List.getElem_toArray, List.getElem_cons_succ, List.getElem_cons_zero] at c6 c10
  generalize t.cpus = q at *
  replace hW1 := Lib.hid hW1
  go_enter Try.func25, Try.ntmps25
  go_wp2_with fail
  rw [← hW1.out]
  clear hW1
  refine region_later_tl W1.heap.size W1 26 (Below.refl _ _) (by kernel_rfl) (by kernel_rfl) ?_
  simp only [List.take_succ_cons, List.take_zero, List.drop_succ_cons, List.drop_zero]
  have d4' := d4
  replace d4 := later_cell (B := W1.heap.size) d4 (by omega)
  replace c6 := later_cell (B := W1.heap.size) c6 (by omega)
  replace c10 := later_cell (B := W1.heap.size) c10 (by omega)
  have hw : IntKind.u64.wrap q = q := by have := hu.1; have := hu.2; rw [IntKind.wrap_u64]; omega
  have s6 : ¬ b.cpus < 0 := by omega
  have s7 : ¬ b.cpus ≥ 64 := by omega
  by_cases h1 : q = 0
  · have e1 : (q != 0) = false := by simpa using h1
    repeat (change wpQuiet _ _ _ _ (List.cons _ _) _; go_big_quiet_step (fail))
    refine wpQuiet_nil ?_
    rintro w2 ⟨X, rfl⟩
    have hX := X.h
    generalize X.x = w2 at *
    clear X
    go_wp2_with fail
    refine (must_any _ _ _ _).mono ?_; rintro e w3 ⟨rfl, rfl⟩
    refine ⟨rfl, ?_, ?_, ?_⟩
    · rw [h1]; rfl
    · exact (OffV.of_below hb1 hBw).then hX hBw
    · intro h; cases h
  · have e1 : (q != 0) = true := by simpa using h1
    by_cases h2 : q / 2 ^ b.cpus.toNat = 0
    · have e2 : (q / 2 ^ b.cpus.toNat == 0) = true := by simpa using h2
      by_cases h3 : bits .and .u32 q acc = 0
      · have e3 : (bits .and .u32 q acc == 0) = true := by simpa using h3
        repeat (change wpQuiet _ _ _ _ (List.cons _ _) _; go_big_quiet_step (fail))
        refine wpQuiet_nil ?_
        rintro w2 ⟨X, rfl⟩
        have hX := X.h
        generalize X.x = w2 at *
        clear X
        go_wp2_with fail
        refine (must_any _ _ _ _).mono ?_; rintro e w3 ⟨rfl, rfl⟩
        simp only [mustE]
        go_wp2_with fail
        have hz2 := hX.size
        have hc2 := hc1.below hX
        have g4 := later_cell (B := w2.heap.size) (cell_lt hX d4' (by omega)) (by omega)
        have g10 := later_cell (B := w2.heap.size) (hc2.cell (j := 10) rfl) hc2.lt
        have hfz : w2.frozen? ⟨xb, 10, none⟩ = false := by simp [World.frozen?, hc2.blk]
        simp only [List.getElem_toArray, List.getElem_cons_succ, List.getElem_cons_zero] at g10
        refine region_later_tl w2.heap.size w2 9 (Below.refl _ _) (by kernel_rfl) (by kernel_rfl) ?_
        simp only [List.take_succ_cons, List.take_zero, List.drop_succ_cons, List.drop_zero]
        repeat (change wpQuiet _ _ _ _ (List.cons _ _) _; go_big_quiet_step (fail))
        refine wpQuiet_nil ?_
        rintro w3 ⟨X, rfl⟩
        have hX3 := X.h
        generalize X.x = w3 at *
        clear X g4 g10
        have hc3 := hc2.below hX3
        have hfz3 : w3.frozen? ⟨xb, 10, none⟩ = false := by simp [World.frozen?, hc3.blk]
        have g10 := hc3.cell (j := 10) rfl
        go_wp2_with fail
        go_end0
        refine ⟨by simp [h1, h2, h3, mustE], ?_, fun _ => ⟨(setCell_at hc3.blk 10 _).trans rfl⟩⟩
        exact (((OffV.of_below hb1 hBw).then hX hBw).then hX3 hBw).set (.inl (by simp)) hBx
      · have e3 : (bits .and .u32 q acc == 0) = false := by simpa using h3
        repeat (change wpQuiet _ _ _ _ (List.cons _ _) _; go_big_quiet_step (fail))
        refine wpQuiet_nil ?_
        rintro w2 ⟨X, rfl⟩
        have hX := X.h
        generalize X.x = w2 at *
        clear X
        go_wp2_with fail
        refine (must_any _ _ _ _).mono ?_; rintro e w3 ⟨rfl, rfl⟩
        refine ⟨rfl, ?_, ?_, ?_⟩
        · simp [h1, h2, h3, mustE]
        · exact (OffV.of_below hb1 hBw).then hX hBw
        · intro h; cases h
    · have e2 : (q / 2 ^ b.cpus.toNat == 0) = false := by simpa using h2
      repeat (change wpQuiet _ _ _ _ (List.cons _ _) _; go_big_quiet_step (fail))
      refine wpQuiet_nil ?_
      rintro w2 ⟨X, rfl⟩
      have hX := X.h
      generalize X.x = w2 at *
      clear X
      go_wp2_with fail
      refine (must_any _ _ _ _).mono ?_; rintro e w3 ⟨rfl, rfl⟩
      refine ⟨rfl, ?_, ?_, ?_⟩
      · simp [h1, h2, mustE]
      · exact (OffV.of_below hb1 hBw).then hX hBw
      · intro h; cases h
end Go.Proofs.Ytffdfeekpfmbeaa
