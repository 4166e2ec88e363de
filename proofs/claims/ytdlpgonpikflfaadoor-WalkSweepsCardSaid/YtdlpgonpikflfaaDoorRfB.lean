/- The walk of the reference's add: a part among parts. -/
import Derived.Test.YtdlpgonpikflfaaDoorRfA
namespace Go.Proofs.YtdlpgonpikflfaaDoor
open Go Go.RowKit Go.Shelf Go.BigFrame

/-- A part in a box, and the slice of parts. -/
structure BoxSl (bx sb : Nat) (p : M5) (v : Value) where
  x : World
  h0 : x.cell? ⟨bx, 0, none⟩ = some (.int .u64 p.ipa)
  h1 : x.cell? ⟨bx, 1, none⟩ = some (.int .u64 p.pa)
  h2 : x.cell? ⟨bx, 2, none⟩ = some (.int .u64 p.sz)
  h3 : x.cell? ⟨bx, 3, none⟩ = some (.int .i64 p.perm)
  h4 : x.cell? ⟨bx, 4, none⟩ = some (.int .i64 p.kind)
  hv : x.cell? ⟨sb, 1, none⟩ = some v
set_option maxRecDepth 100000 in
set_option maxHeartbeats 2000000 in
theorem radd_nil (sb n0 : Nat) (mp v1 v2 : Value) (s : Sw (List M5)) (x : M5) (W : World) (h : RS sb n0 mp s v1 v2 W) (hst : s.st = []) :
    Calls Tryd.prog 53 #[.pointer (some ⟨sb, 0, none⟩), .agg #[.int .u64 x.ipa, .int .u64 x.pa, .int .u64 x.sz, .int .i64 x.perm, .int .i64 x.kind]] W fun e W' => (∃ v, e = .returned v) ∧ (∃ v1', RS sb n0 mp { s with st := addM s.st x } v1' v2 W') ∧ Below n0 W W' := by
  have hr0 := h.parts
  obtain ⟨a1, c1, rfl⟩ := rowSlice hr0
  rw [hst] at h hr0 ⊢
  rw [addM_nil]
  replace hst := Lib.hid hst
  simp only [List.length_nil] at h hr0 ⊢
  obtain ⟨W1, hW1⟩ : ∃ W1, W1 = W.alloc (.cells #[.int .u64 x.ipa, .int .u64 x.pa, .int .u64 x.sz, .int .i64 x.perm, .int .i64 x.kind] 42) := ⟨_, rfl⟩
  have HB : Below W.heap.size W W1 := by rw [hW1]; exact bone _ _
  have hbx : W.heap.size < W1.heap.size := by rw [hW1]; simp
  have hnewx : W1.heap[W.heap.size]? = some (.cells #[.int .u64 x.ipa, .int .u64 x.pa, .int .u64 x.sz, .int .i64 x.perm, .int .i64 x.kind] 42 (0, 0)) := by rw [hW1]; exact World.alloc_heap_new _ _
  have x0 : W1.cell? ⟨W.heap.size, 0, none⟩ = some (.int .u64 x.ipa) := by simp [World.cell?, hnewx]
  have x1 : W1.cell? ⟨W.heap.size, 1, none⟩ = some (.int .u64 x.pa) := by simp [World.cell?, hnewx]
  have x2 : W1.cell? ⟨W.heap.size, 2, none⟩ = some (.int .u64 x.sz) := by simp [World.cell?, hnewx]
  have x3 : W1.cell? ⟨W.heap.size, 3, none⟩ = some (.int .i64 x.perm) := by simp [World.cell?, hnewx]
  have x4 : W1.cell? ⟨W.heap.size, 4, none⟩ = some (.int .i64 x.kind) := by simp [World.cell?, hnewx]
  have R := h.later HB
  have hcp := R.cells.2.1
  rw [hW1] at hcp
  go_enter Tryd.func53, Tryd.ntmps53
  go_wp2_with fail
  rw [← hW1] at hcp ⊢
  clear hW1 hnewx hcp
  have hm1 := R.cells.2.1
  refine (wpIn_wide (n := 9)).1 ?_
  haveI : Nonempty (BoxSl W.heap.size sb x (.slice a1 0 c1)) := ⟨⟨W1, x0, x1, x2, x3, x4, hm1⟩⟩
  refine region_ord_last (fun q => ∃ X : BoxSl W.heap.size sb x (.slice a1 0 c1), q = X.x) [([0, 1, 2, 3, 4, 5], 6), ([], 7)] [8, 9] 10 (fun _ => trivial) (by kernel_rfl) (by kernel_rfl) (by kernel_rfl) (by kernel_rfl) (by kernel_rfl) ⟨⟨World.drew W1, x0, x1, x2, x3, x4, hm1⟩, rfl⟩ ?_
  simp only [List.map_cons, List.map_nil, List.filterMap_cons, List.filterMap_nil, List.getElem?_cons_succ, List.getElem?_cons_zero]
  have u0 := fun X : BoxSl W.heap.size sb x (.slice a1 0 c1) => X.h0
  have u1 := fun X : BoxSl W.heap.size sb x (.slice a1 0 c1) => X.h1
  have u2 := fun X : BoxSl W.heap.size sb x (.slice a1 0 c1) => X.h2
  have u3 := fun X : BoxSl W.heap.size sb x (.slice a1 0 c1) => X.h3
  have u4 := fun X : BoxSl W.heap.size sb x (.slice a1 0 c1) => X.h4
  have uv := fun X : BoxSl W.heap.size sb x (.slice a1 0 c1) => X.hv
  have hd : Below (World.heap W1).size W1 (World.drew W1) := (Below.refl _ _).drew
  replace R := R.later hd
  replace HB := bthen HB hd
  replace x0 := cell_lt hd x0 hbx
  replace x1 := cell_lt hd x1 hbx
  replace x2 := cell_lt hd x2 hbx
  replace x3 := cell_lt hd x3 hbx
  replace x4 := cell_lt hd x4 hbx
  replace hm1 := R.cells.2.1
  replace hbx := Nat.lt_of_lt_of_le hbx hd.size
  generalize hwd : World.drew W1 = wd at *
  clear hwd hd
  refine ordL_step ?_
  repeat (change wpQuiet _ _ _ _ (List.cons _ _) _; go_big_quiet_step (fail))
  refine wpQuiet_nil ?_
  intro Q₁ hQ₁
  gi_wp2
  have hb1 := bone wd (.cells #[.int .u64 x.ipa, .int .u64 x.pa, .int .u64 x.sz, .int .i64 x.perm, .int .i64 x.kind] 42)
  have e0 := cell_lt hb1 x0 hbx
  have e1 := cell_lt hb1 x1 hbx
  have e2 := cell_lt hb1 x2 hbx
  have e3 := cell_lt hb1 x3 hbx
  have e4 := cell_lt hb1 x4 hbx
  have ev := cell_lt hb1 hm1 R.lt
  refine hQ₁ _ _ ⟨⟨_, e0, e1, e2, e3, e4, ev⟩, rfl⟩ ?_
  clear hQ₁ Q₁
  refine ordL_step ?_
  refine wpQuiet_nil ?_
  intro Q₁ hQ₁
  have hpp : OwnM 42 wd n0 (.slice a1 0 c1) ([]) := by have := R.parts; rw [hst.out] at this; exact this
  have hn0 := R.n0lt
  simp only [Option.toList]
  gi_wp2_with (gi_at_builtin; (refine wplIn_append_map_at rfl _ _ 37 rfl n0 42 infoMapS Tryd.underlying37 (.slice a1 0 c1) ([]) [x] rfl rfl ?_ ?_ ?_ ?_ ?_ ?_ ?_); (focus (exact hpp)); (focus rfl); (focus rfl); (focus (first | rfl | (simp; done))); (focus (first | (simp; done) | (simp; omega))); (focus omega); intro v' w6 hown' hat hgrow)
  obtain ⟨hsb, R6, hB6⟩ := R.app1 hb1 hgrow hown' hat
  obtain ⟨a6, c6, rfl⟩ := rowSlice hown'
  have hne : (.slice a1 0 c1 : Value).ownBlock ≠ some W.heap.size := fun e => by have := (h.lt1 e).2; omega
  have hlb : W.heap.size < (wd.alloc (.cells #[.int .u64 x.ipa, .int .u64 x.pa, .int .u64 x.sz, .int .i64 x.perm, .int .i64 x.kind] 42)).heap.size := Nat.lt_of_lt_of_le hbx hb1.size
  replace e0 := (grown_cell hgrow 0 hlb hne).trans e0
  replace e1 := (grown_cell hgrow 1 hlb hne).trans e1
  replace e2 := (grown_cell hgrow 2 hlb hne).trans e2
  replace e3 := (grown_cell hgrow 3 hlb hne).trans e3
  replace e4 := (grown_cell hgrow 4 hlb hne).trans e4
  have ev6 : w6.cell? ⟨sb, 1, none⟩ = some (.slice a1 0 c1) := (World.cell?_of_block hsb).trans R.cells.2.1
  have ef6 : w6.frozen? ⟨sb, 1, none⟩ = false := by have := R.blk; simp only [World.frozen?, hsb, this]; rfl
  refine hQ₁ _ _ ⟨⟨w6, e0, e1, e2, e3, e4, ev6⟩, rfl⟩ ?_
  clear hQ₁ Q₁
  refine ordL_last ?_
  repeat (change wpQuiet _ _ _ _ (List.cons _ _) _; go_big_quiet_step (fail))
  refine wpQuiet_nil ?_
  intro Q₁ hQ₁
  clear u0 u1 u2 u3 u4 uv e0 e1 e2 e3 e4 x0 x1 x2 x3 x4 hat hown' hpp hgrow
  simp only [Option.toList]
  gi_wp2
  go_end0
  exact ⟨⟨_, rfl⟩, ⟨_, R6⟩, (HB.mono h.n0lt).trans hB6⟩
set_option maxRecDepth 100000 in
set_option maxHeartbeats 4000000 in
theorem radd_snoc (sb n0 : Nat) (mp v1 v2 : Value) (s : Sw (List M5)) (l : List M5) (y x : M5) (W : World) (h : RS sb n0 mp s v1 v2 W) (hst : s.st = l ++ [y]) (hl : l.length ≤ 2048000) :
    Calls Tryd.prog 53 #[.pointer (some ⟨sb, 0, none⟩), .agg #[.int .u64 x.ipa, .int .u64 x.pa, .int .u64 x.sz, .int .i64 x.perm, .int .i64 x.kind]] W fun e W' => (∃ v, e = .returned v) ∧ (∃ v1', RS sb n0 mp { s with st := addM s.st x } v1' v2 W') ∧ Below n0 W W' := by
  have hr := h.parts
  rw [hst] at hr ⊢
  have hrow := hr.row
  have hll : (l ++ [y]).length = l.length + 1 := by simp
  obtain ⟨g, c, rfl⟩ := ownsRow_succ (hll ▸ hr : W.ownsRow n0 42 5 v1 (l.length + 1) (encM (l ++ [y])))
  obtain ⟨a0, c0, e0, hcap, hcell⟩ := hrow
  injection e0 with e0 e0l e0c
  clear hcap e0l e0c
  obtain ⟨g2, off, e1, hgl, hcell2⟩ := hcell (by simp)
  clear hcell
  rw [← e0] at e1
  injection e1 with e1
  injection e1 with e1 e2 e3
  subst e1
  subst e2
  clear e0 e3
  have hy := hcell2 l.length (by simp)
  simp only [List.getElem_append_right (Nat.le_refl _), Nat.sub_self, List.getElem_cons_zero, Nat.zero_add] at hy
  obtain ⟨y0, y1, y2, y3, y4⟩ := hy
  clear hcell2
  replace hst := Lib.hid hst
  obtain ⟨W1, hW1⟩ : ∃ W1, W1 = W.alloc (.cells #[.int .u64 x.ipa, .int .u64 x.pa, .int .u64 x.sz, .int .i64 x.perm, .int .i64 x.kind] 42) := ⟨_, rfl⟩
  have HB : Below W.heap.size W W1 := by rw [hW1]; exact bone _ _
  have hbx : W.heap.size < W1.heap.size := by rw [hW1]; simp
  have hnewx : W1.heap[W.heap.size]? = some (.cells #[.int .u64 x.ipa, .int .u64 x.pa, .int .u64 x.sz, .int .i64 x.perm, .int .i64 x.kind] 42 (0, 0)) := by rw [hW1]; exact World.alloc_heap_new _ _
  have x0 : W1.cell? ⟨W.heap.size, 0, none⟩ = some (.int .u64 x.ipa) := by simp [World.cell?, hnewx]
  have x1 : W1.cell? ⟨W.heap.size, 1, none⟩ = some (.int .u64 x.pa) := by simp [World.cell?, hnewx]
  have x2 : W1.cell? ⟨W.heap.size, 2, none⟩ = some (.int .u64 x.sz) := by simp [World.cell?, hnewx]
  have x3 : W1.cell? ⟨W.heap.size, 3, none⟩ = some (.int .i64 x.perm) := by simp [World.cell?, hnewx]
  have x4 : W1.cell? ⟨W.heap.size, 4, none⟩ = some (.int .i64 x.kind) := by simp [World.cell?, hnewx]
  replace y0 := cell_lt HB y0 hgl
  replace y1 := cell_lt HB y1 hgl
  replace y2 := cell_lt HB y2 hgl
  replace y3 := cell_lt HB y3 hgl
  replace y4 := cell_lt HB y4 hgl
  have hg1 : g < W1.heap.size := by omega
  have hadd := addM_snoc l y x
  unfold goesOn at hadd
  generalize k1e : (IntKind.u64.wrap (y.ipa + y.sz) == x.ipa) = k1 at *
  generalize k2e : (IntKind.u64.wrap (y.pa + y.sz) == x.pa) = k2 at *
  generalize k3e : (y.perm == x.perm) = k3 at *
  generalize k4e : (y.kind == x.kind) = k4 at *
  replace hadd := Lib.hid hadd
  have R := h.later HB
  have hcp := R.cells.2.1
  replace hll := Lib.hid hll
  rw [hW1] at hcp
  go_enter Tryd.func53, Tryd.ntmps53
  go_wp2_with fail
  rw [← hW1] at hcp ⊢
  clear hW1 hnewx hcp
  rcases k1 with _ | _
  · refine region_later W1.heap.size W1 (Below.refl _ _) (by kernel_rfl) (by kernel_rfl) ?_
    have u0 := later_cell (B := W1.heap.size) y0 hg1
    have u1 := later_cell (B := W1.heap.size) y1 hg1
    have u2 := later_cell (B := W1.heap.size) y2 hg1
    have u3 := later_cell (B := W1.heap.size) y3 hg1
    have u4 := later_cell (B := W1.heap.size) y4 hg1
    have t0 := later_cell (B := W1.heap.size) x0 hbx
    have t1 := later_cell (B := W1.heap.size) x1 hbx
    have t2 := later_cell (B := W1.heap.size) x2 hbx
    have t3 := later_cell (B := W1.heap.size) x3 hbx
    have t4 := later_cell (B := W1.heap.size) x4 hbx
    repeat (change wpQuiet _ _ _ _ (List.cons _ _) _; go_big_quiet_step (fail))
    refine wpQuiet_nil ?_
    first | (rintro _ ⟨X, rfl⟩) | (intro X)
    have hX := X.h
    clear u0 u1 u2 u3 u4 t0 t1 t2 t3 t4
    generalize X.x = W2 at *
    clear X
    replace x0 := cell_lt hX x0 hbx
    replace x1 := cell_lt hX x1 hbx
    replace x2 := cell_lt hX x2 hbx
    replace x3 := cell_lt hX x3 hbx
    replace x4 := cell_lt hX x4 hbx
    replace y0 := cell_lt hX y0 hg1
    replace y2 := cell_lt hX y2 hg1
    replace hbx := Nat.lt_of_lt_of_le hbx hX.size
    replace hg1 := Nat.lt_of_lt_of_le hg1 hX.size
    replace R := R.later hX
    replace HB := bthen HB hX
    clear hX y1 y3 y4
    go_wp2_with fail
    have hm1 := R.cells.2.1
    refine (wpIn_wide (n := 9)).1 ?_
    haveI : Nonempty (BoxSl W.heap.size sb x (.slice (some ⟨g, 0, none⟩) (l.length + 1) c)) := ⟨⟨W2, x0, x1, x2, x3, x4, hm1⟩⟩
    refine region_ord_last (fun q => ∃ X : BoxSl W.heap.size sb x (.slice (some ⟨g, 0, none⟩) (l.length + 1) c), q = X.x) [([0, 1, 2, 3, 4, 5], 6), ([], 7)] [8, 9] 10 (fun _ => trivial) (by kernel_rfl) (by kernel_rfl) (by kernel_rfl) (by kernel_rfl) (by kernel_rfl) ⟨⟨World.drew W2, x0, x1, x2, x3, x4, hm1⟩, rfl⟩ ?_
    simp only [List.map_cons, List.map_nil, List.filterMap_cons, List.filterMap_nil, List.getElem?_cons_succ, List.getElem?_cons_zero]
    have u0 := fun X : BoxSl W.heap.size sb x (.slice (some ⟨g, 0, none⟩) (l.length + 1) c) => X.h0
    have u1 := fun X : BoxSl W.heap.size sb x (.slice (some ⟨g, 0, none⟩) (l.length + 1) c) => X.h1
    have u2 := fun X : BoxSl W.heap.size sb x (.slice (some ⟨g, 0, none⟩) (l.length + 1) c) => X.h2
    have u3 := fun X : BoxSl W.heap.size sb x (.slice (some ⟨g, 0, none⟩) (l.length + 1) c) => X.h3
    have u4 := fun X : BoxSl W.heap.size sb x (.slice (some ⟨g, 0, none⟩) (l.length + 1) c) => X.h4
    have uv := fun X : BoxSl W.heap.size sb x (.slice (some ⟨g, 0, none⟩) (l.length + 1) c) => X.hv
    have hd : Below (World.heap W2).size W2 (World.drew W2) := (Below.refl _ _).drew
    replace R := R.later hd
    replace HB := bthen HB hd
    replace x0 := cell_lt hd x0 hbx
    replace x1 := cell_lt hd x1 hbx
    replace x2 := cell_lt hd x2 hbx
    replace x3 := cell_lt hd x3 hbx
    replace x4 := cell_lt hd x4 hbx
    replace hm1 := R.cells.2.1
    replace hbx := Nat.lt_of_lt_of_le hbx hd.size
    generalize hwd : World.drew W2 = wd at *
    clear hwd hd
    refine ordL_step ?_
    repeat (change wpQuiet _ _ _ _ (List.cons _ _) _; go_big_quiet_step (fail))
    refine wpQuiet_nil ?_
    intro Q₁ hQ₁
    gi_wp2
    have hb1 := bone wd (.cells #[.int .u64 x.ipa, .int .u64 x.pa, .int .u64 x.sz, .int .i64 x.perm, .int .i64 x.kind] 42)
    have e0 := cell_lt hb1 x0 hbx
    have e1 := cell_lt hb1 x1 hbx
    have e2 := cell_lt hb1 x2 hbx
    have e3 := cell_lt hb1 x3 hbx
    have e4 := cell_lt hb1 x4 hbx
    have ev := cell_lt hb1 hm1 R.lt
    refine hQ₁ _ _ ⟨⟨_, e0, e1, e2, e3, e4, ev⟩, rfl⟩ ?_
    clear hQ₁ Q₁
    refine ordL_step ?_
    refine wpQuiet_nil ?_
    intro Q₁ hQ₁
    have hpp : OwnM 42 wd n0 (.slice (some ⟨g, 0, none⟩) (l.length + 1) c) (l ++ [y]) := by have := R.parts; rw [hst.out] at this; exact this
    have hn0 := R.n0lt
    simp only [Option.toList]
    gi_wp2_with (gi_at_builtin; (refine wplIn_append_map_at rfl _ _ 37 rfl n0 42 infoMapS Tryd.underlying37 (.slice (some ⟨g, 0, none⟩) (l.length + 1) c) (l ++ [y]) [x] rfl rfl ?_ ?_ ?_ ?_ ?_ ?_ ?_); (focus (exact hpp)); (focus rfl); (focus rfl); (focus (first | rfl | (simp; done))); (focus (first | (simp; done) | (simp; omega))); (focus omega); intro v' w6 hown' hat hgrow)
    obtain ⟨hsb, R6, hB6⟩ := R.app1 hb1 hgrow hown' hat
    obtain ⟨a6, c6, rfl⟩ := rowSlice hown'
    have hne : (.slice (some ⟨g, 0, none⟩) (l.length + 1) c : Value).ownBlock ≠ some W.heap.size := fun e => by have := (h.lt1 e).2; omega
    have hlb : W.heap.size < (wd.alloc (.cells #[.int .u64 x.ipa, .int .u64 x.pa, .int .u64 x.sz, .int .i64 x.perm, .int .i64 x.kind] 42)).heap.size := Nat.lt_of_lt_of_le hbx hb1.size
    replace e0 := (grown_cell hgrow 0 hlb hne).trans e0
    replace e1 := (grown_cell hgrow 1 hlb hne).trans e1
    replace e2 := (grown_cell hgrow 2 hlb hne).trans e2
    replace e3 := (grown_cell hgrow 3 hlb hne).trans e3
    replace e4 := (grown_cell hgrow 4 hlb hne).trans e4
    have ev6 : w6.cell? ⟨sb, 1, none⟩ = some (.slice (some ⟨g, 0, none⟩) (l.length + 1) c) := (World.cell?_of_block hsb).trans R.cells.2.1
    have ef6 : w6.frozen? ⟨sb, 1, none⟩ = false := by have := R.blk; simp only [World.frozen?, hsb, this]; rfl
    refine hQ₁ _ _ ⟨⟨w6, e0, e1, e2, e3, e4, ev6⟩, rfl⟩ ?_
    clear hQ₁ Q₁
    refine ordL_last ?_
    repeat (change wpQuiet _ _ _ _ (List.cons _ _) _; go_big_quiet_step (fail))
    refine wpQuiet_nil ?_
    intro Q₁ hQ₁
    clear u0 u1 u2 u3 u4 uv e0 e1 e2 e3 e4 x0 x1 x2 x3 x4 hat hown' hpp hgrow
    simp only [Option.toList]
    gi_wp2
    go_end0
    rw [show (l ++ [y] ++ [x]).length = l.length + 2 by simp] at R6 hB6
    have e := hadd.out
    rw [e]
    exact ⟨⟨_, rfl⟩, ⟨_, R6⟩, (HB.mono h.n0lt).trans hB6⟩
  · rcases k2 with _ | _
    · refine region_later W1.heap.size W1 (Below.refl _ _) (by kernel_rfl) (by kernel_rfl) ?_
      have u0 := later_cell (B := W1.heap.size) y0 hg1
      have u1 := later_cell (B := W1.heap.size) y1 hg1
      have u2 := later_cell (B := W1.heap.size) y2 hg1
      have u3 := later_cell (B := W1.heap.size) y3 hg1
      have u4 := later_cell (B := W1.heap.size) y4 hg1
      have t0 := later_cell (B := W1.heap.size) x0 hbx
      have t1 := later_cell (B := W1.heap.size) x1 hbx
      have t2 := later_cell (B := W1.heap.size) x2 hbx
      have t3 := later_cell (B := W1.heap.size) x3 hbx
      have t4 := later_cell (B := W1.heap.size) x4 hbx
      repeat (change wpQuiet _ _ _ _ (List.cons _ _) _; go_big_quiet_step (fail))
      refine wpQuiet_nil ?_
      first | (rintro _ ⟨X, rfl⟩) | (intro X)
      have hX := X.h
      clear u0 u1 u2 u3 u4 t0 t1 t2 t3 t4
      generalize X.x = W2 at *
      clear X
      replace x0 := cell_lt hX x0 hbx
      replace x1 := cell_lt hX x1 hbx
      replace x2 := cell_lt hX x2 hbx
      replace x3 := cell_lt hX x3 hbx
      replace x4 := cell_lt hX x4 hbx
      replace y0 := cell_lt hX y0 hg1
      replace y2 := cell_lt hX y2 hg1
      replace hbx := Nat.lt_of_lt_of_le hbx hX.size
      replace hg1 := Nat.lt_of_lt_of_le hg1 hX.size
      replace R := R.later hX
      replace HB := bthen HB hX
      clear hX y1 y3 y4
      go_wp2_with fail
      have hm1 := R.cells.2.1
      refine (wpIn_wide (n := 9)).1 ?_
      haveI : Nonempty (BoxSl W.heap.size sb x (.slice (some ⟨g, 0, none⟩) (l.length + 1) c)) := ⟨⟨W2, x0, x1, x2, x3, x4, hm1⟩⟩
      refine region_ord_last (fun q => ∃ X : BoxSl W.heap.size sb x (.slice (some ⟨g, 0, none⟩) (l.length + 1) c), q = X.x) [([0, 1, 2, 3, 4, 5], 6), ([], 7)] [8, 9] 10 (fun _ => trivial) (by kernel_rfl) (by kernel_rfl) (by kernel_rfl) (by kernel_rfl) (by kernel_rfl) ⟨⟨World.drew W2, x0, x1, x2, x3, x4, hm1⟩, rfl⟩ ?_
      simp only [List.map_cons, List.map_nil, List.filterMap_cons, List.filterMap_nil, List.getElem?_cons_succ, List.getElem?_cons_zero]
      have u0 := fun X : BoxSl W.heap.size sb x (.slice (some ⟨g, 0, none⟩) (l.length + 1) c) => X.h0
      have u1 := fun X : BoxSl W.heap.size sb x (.slice (some ⟨g, 0, none⟩) (l.length + 1) c) => X.h1
      have u2 := fun X : BoxSl W.heap.size sb x (.slice (some ⟨g, 0, none⟩) (l.length + 1) c) => X.h2
      have u3 := fun X : BoxSl W.heap.size sb x (.slice (some ⟨g, 0, none⟩) (l.length + 1) c) => X.h3
      have u4 := fun X : BoxSl W.heap.size sb x (.slice (some ⟨g, 0, none⟩) (l.length + 1) c) => X.h4
      have uv := fun X : BoxSl W.heap.size sb x (.slice (some ⟨g, 0, none⟩) (l.length + 1) c) => X.hv
      have hd : Below (World.heap W2).size W2 (World.drew W2) := (Below.refl _ _).drew
      replace R := R.later hd
      replace HB := bthen HB hd
      replace x0 := cell_lt hd x0 hbx
      replace x1 := cell_lt hd x1 hbx
      replace x2 := cell_lt hd x2 hbx
      replace x3 := cell_lt hd x3 hbx
      replace x4 := cell_lt hd x4 hbx
      replace hm1 := R.cells.2.1
      replace hbx := Nat.lt_of_lt_of_le hbx hd.size
      generalize hwd : World.drew W2 = wd at *
      clear hwd hd
      refine ordL_step ?_
      repeat (change wpQuiet _ _ _ _ (List.cons _ _) _; go_big_quiet_step (fail))
      refine wpQuiet_nil ?_
      intro Q₁ hQ₁
      gi_wp2
      have hb1 := bone wd (.cells #[.int .u64 x.ipa, .int .u64 x.pa, .int .u64 x.sz, .int .i64 x.perm, .int .i64 x.kind] 42)
      have e0 := cell_lt hb1 x0 hbx
      have e1 := cell_lt hb1 x1 hbx
      have e2 := cell_lt hb1 x2 hbx
      have e3 := cell_lt hb1 x3 hbx
      have e4 := cell_lt hb1 x4 hbx
      have ev := cell_lt hb1 hm1 R.lt
      refine hQ₁ _ _ ⟨⟨_, e0, e1, e2, e3, e4, ev⟩, rfl⟩ ?_
      clear hQ₁ Q₁
      refine ordL_step ?_
      refine wpQuiet_nil ?_
      intro Q₁ hQ₁
      have hpp : OwnM 42 wd n0 (.slice (some ⟨g, 0, none⟩) (l.length + 1) c) (l ++ [y]) := by have := R.parts; rw [hst.out] at this; exact this
      have hn0 := R.n0lt
      simp only [Option.toList]
      gi_wp2_with (gi_at_builtin; (refine wplIn_append_map_at rfl _ _ 37 rfl n0 42 infoMapS Tryd.underlying37 (.slice (some ⟨g, 0, none⟩) (l.length + 1) c) (l ++ [y]) [x] rfl rfl ?_ ?_ ?_ ?_ ?_ ?_ ?_); (focus (exact hpp)); (focus rfl); (focus rfl); (focus (first | rfl | (simp; done))); (focus (first | (simp; done) | (simp; omega))); (focus omega); intro v' w6 hown' hat hgrow)
      obtain ⟨hsb, R6, hB6⟩ := R.app1 hb1 hgrow hown' hat
      obtain ⟨a6, c6, rfl⟩ := rowSlice hown'
      have hne : (.slice (some ⟨g, 0, none⟩) (l.length + 1) c : Value).ownBlock ≠ some W.heap.size := fun e => by have := (h.lt1 e).2; omega
      have hlb : W.heap.size < (wd.alloc (.cells #[.int .u64 x.ipa, .int .u64 x.pa, .int .u64 x.sz, .int .i64 x.perm, .int .i64 x.kind] 42)).heap.size := Nat.lt_of_lt_of_le hbx hb1.size
      replace e0 := (grown_cell hgrow 0 hlb hne).trans e0
      replace e1 := (grown_cell hgrow 1 hlb hne).trans e1
      replace e2 := (grown_cell hgrow 2 hlb hne).trans e2
      replace e3 := (grown_cell hgrow 3 hlb hne).trans e3
      replace e4 := (grown_cell hgrow 4 hlb hne).trans e4
      have ev6 : w6.cell? ⟨sb, 1, none⟩ = some (.slice (some ⟨g, 0, none⟩) (l.length + 1) c) := (World.cell?_of_block hsb).trans R.cells.2.1
      have ef6 : w6.frozen? ⟨sb, 1, none⟩ = false := by have := R.blk; simp only [World.frozen?, hsb, this]; rfl
      refine hQ₁ _ _ ⟨⟨w6, e0, e1, e2, e3, e4, ev6⟩, rfl⟩ ?_
      clear hQ₁ Q₁
      refine ordL_last ?_
      repeat (change wpQuiet _ _ _ _ (List.cons _ _) _; go_big_quiet_step (fail))
      refine wpQuiet_nil ?_
      intro Q₁ hQ₁
      clear u0 u1 u2 u3 u4 uv e0 e1 e2 e3 e4 x0 x1 x2 x3 x4 hat hown' hpp hgrow
      simp only [Option.toList]
      gi_wp2
      go_end0
      rw [show (l ++ [y] ++ [x]).length = l.length + 2 by simp] at R6 hB6
      have e := hadd.out
      rw [e]
      exact ⟨⟨_, rfl⟩, ⟨_, R6⟩, (HB.mono h.n0lt).trans hB6⟩
    · rcases k3 with _ | _
      · refine region_later W1.heap.size W1 (Below.refl _ _) (by kernel_rfl) (by kernel_rfl) ?_
        have u0 := later_cell (B := W1.heap.size) y0 hg1
        have u1 := later_cell (B := W1.heap.size) y1 hg1
        have u2 := later_cell (B := W1.heap.size) y2 hg1
        have u3 := later_cell (B := W1.heap.size) y3 hg1
        have u4 := later_cell (B := W1.heap.size) y4 hg1
        have t0 := later_cell (B := W1.heap.size) x0 hbx
        have t1 := later_cell (B := W1.heap.size) x1 hbx
        have t2 := later_cell (B := W1.heap.size) x2 hbx
        have t3 := later_cell (B := W1.heap.size) x3 hbx
        have t4 := later_cell (B := W1.heap.size) x4 hbx
        repeat (change wpQuiet _ _ _ _ (List.cons _ _) _; go_big_quiet_step (fail))
        refine wpQuiet_nil ?_
        first | (rintro _ ⟨X, rfl⟩) | (intro X)
        have hX := X.h
        clear u0 u1 u2 u3 u4 t0 t1 t2 t3 t4
        generalize X.x = W2 at *
        clear X
        replace x0 := cell_lt hX x0 hbx
        replace x1 := cell_lt hX x1 hbx
        replace x2 := cell_lt hX x2 hbx
        replace x3 := cell_lt hX x3 hbx
        replace x4 := cell_lt hX x4 hbx
        replace y0 := cell_lt hX y0 hg1
        replace y2 := cell_lt hX y2 hg1
        replace hbx := Nat.lt_of_lt_of_le hbx hX.size
        replace hg1 := Nat.lt_of_lt_of_le hg1 hX.size
        replace R := R.later hX
        replace HB := bthen HB hX
        clear hX y1 y3 y4
        go_wp2_with fail
        have hm1 := R.cells.2.1
        refine (wpIn_wide (n := 9)).1 ?_
        haveI : Nonempty (BoxSl W.heap.size sb x (.slice (some ⟨g, 0, none⟩) (l.length + 1) c)) := ⟨⟨W2, x0, x1, x2, x3, x4, hm1⟩⟩
        refine region_ord_last (fun q => ∃ X : BoxSl W.heap.size sb x (.slice (some ⟨g, 0, none⟩) (l.length + 1) c), q = X.x) [([0, 1, 2, 3, 4, 5], 6), ([], 7)] [8, 9] 10 (fun _ => trivial) (by kernel_rfl) (by kernel_rfl) (by kernel_rfl) (by kernel_rfl) (by kernel_rfl) ⟨⟨World.drew W2, x0, x1, x2, x3, x4, hm1⟩, rfl⟩ ?_
        simp only [List.map_cons, List.map_nil, List.filterMap_cons, List.filterMap_nil, List.getElem?_cons_succ, List.getElem?_cons_zero]
        have u0 := fun X : BoxSl W.heap.size sb x (.slice (some ⟨g, 0, none⟩) (l.length + 1) c) => X.h0
        have u1 := fun X : BoxSl W.heap.size sb x (.slice (some ⟨g, 0, none⟩) (l.length + 1) c) => X.h1
        have u2 := fun X : BoxSl W.heap.size sb x (.slice (some ⟨g, 0, none⟩) (l.length + 1) c) => X.h2
        have u3 := fun X : BoxSl W.heap.size sb x (.slice (some ⟨g, 0, none⟩) (l.length + 1) c) => X.h3
        have u4 := fun X : BoxSl W.heap.size sb x (.slice (some ⟨g, 0, none⟩) (l.length + 1) c) => X.h4
        have uv := fun X : BoxSl W.heap.size sb x (.slice (some ⟨g, 0, none⟩) (l.length + 1) c) => X.hv
        have hd : Below (World.heap W2).size W2 (World.drew W2) := (Below.refl _ _).drew
        replace R := R.later hd
        replace HB := bthen HB hd
        replace x0 := cell_lt hd x0 hbx
        replace x1 := cell_lt hd x1 hbx
        replace x2 := cell_lt hd x2 hbx
        replace x3 := cell_lt hd x3 hbx
        replace x4 := cell_lt hd x4 hbx
        replace hm1 := R.cells.2.1
        replace hbx := Nat.lt_of_lt_of_le hbx hd.size
        generalize hwd : World.drew W2 = wd at *
        clear hwd hd
        refine ordL_step ?_
        repeat (change wpQuiet _ _ _ _ (List.cons _ _) _; go_big_quiet_step (fail))
        refine wpQuiet_nil ?_
        intro Q₁ hQ₁
        gi_wp2
        have hb1 := bone wd (.cells #[.int .u64 x.ipa, .int .u64 x.pa, .int .u64 x.sz, .int .i64 x.perm, .int .i64 x.kind] 42)
        have e0 := cell_lt hb1 x0 hbx
        have e1 := cell_lt hb1 x1 hbx
        have e2 := cell_lt hb1 x2 hbx
        have e3 := cell_lt hb1 x3 hbx
        have e4 := cell_lt hb1 x4 hbx
        have ev := cell_lt hb1 hm1 R.lt
        refine hQ₁ _ _ ⟨⟨_, e0, e1, e2, e3, e4, ev⟩, rfl⟩ ?_
        clear hQ₁ Q₁
        refine ordL_step ?_
        refine wpQuiet_nil ?_
        intro Q₁ hQ₁
        have hpp : OwnM 42 wd n0 (.slice (some ⟨g, 0, none⟩) (l.length + 1) c) (l ++ [y]) := by have := R.parts; rw [hst.out] at this; exact this
        have hn0 := R.n0lt
        simp only [Option.toList]
        gi_wp2_with (gi_at_builtin; (refine wplIn_append_map_at rfl _ _ 37 rfl n0 42 infoMapS Tryd.underlying37 (.slice (some ⟨g, 0, none⟩) (l.length + 1) c) (l ++ [y]) [x] rfl rfl ?_ ?_ ?_ ?_ ?_ ?_ ?_); (focus (exact hpp)); (focus rfl); (focus rfl); (focus (first | rfl | (simp; done))); (focus (first | (simp; done) | (simp; omega))); (focus omega); intro v' w6 hown' hat hgrow)
        obtain ⟨hsb, R6, hB6⟩ := R.app1 hb1 hgrow hown' hat
        obtain ⟨a6, c6, rfl⟩ := rowSlice hown'
        have hne : (.slice (some ⟨g, 0, none⟩) (l.length + 1) c : Value).ownBlock ≠ some W.heap.size := fun e => by have := (h.lt1 e).2; omega
        have hlb : W.heap.size < (wd.alloc (.cells #[.int .u64 x.ipa, .int .u64 x.pa, .int .u64 x.sz, .int .i64 x.perm, .int .i64 x.kind] 42)).heap.size := Nat.lt_of_lt_of_le hbx hb1.size
        replace e0 := (grown_cell hgrow 0 hlb hne).trans e0
        replace e1 := (grown_cell hgrow 1 hlb hne).trans e1
        replace e2 := (grown_cell hgrow 2 hlb hne).trans e2
        replace e3 := (grown_cell hgrow 3 hlb hne).trans e3
        replace e4 := (grown_cell hgrow 4 hlb hne).trans e4
        have ev6 : w6.cell? ⟨sb, 1, none⟩ = some (.slice (some ⟨g, 0, none⟩) (l.length + 1) c) := (World.cell?_of_block hsb).trans R.cells.2.1
        have ef6 : w6.frozen? ⟨sb, 1, none⟩ = false := by have := R.blk; simp only [World.frozen?, hsb, this]; rfl
        refine hQ₁ _ _ ⟨⟨w6, e0, e1, e2, e3, e4, ev6⟩, rfl⟩ ?_
        clear hQ₁ Q₁
        refine ordL_last ?_
        repeat (change wpQuiet _ _ _ _ (List.cons _ _) _; go_big_quiet_step (fail))
        refine wpQuiet_nil ?_
        intro Q₁ hQ₁
        clear u0 u1 u2 u3 u4 uv e0 e1 e2 e3 e4 x0 x1 x2 x3 x4 hat hown' hpp hgrow
        simp only [Option.toList]
        gi_wp2
        go_end0
        rw [show (l ++ [y] ++ [x]).length = l.length + 2 by simp] at R6 hB6
        have e := hadd.out
        rw [e]
        exact ⟨⟨_, rfl⟩, ⟨_, R6⟩, (HB.mono h.n0lt).trans hB6⟩
      · rcases k4 with _ | _
        · refine region_later W1.heap.size W1 (Below.refl _ _) (by kernel_rfl) (by kernel_rfl) ?_
          have u0 := later_cell (B := W1.heap.size) y0 hg1
          have u1 := later_cell (B := W1.heap.size) y1 hg1
          have u2 := later_cell (B := W1.heap.size) y2 hg1
          have u3 := later_cell (B := W1.heap.size) y3 hg1
          have u4 := later_cell (B := W1.heap.size) y4 hg1
          have t0 := later_cell (B := W1.heap.size) x0 hbx
          have t1 := later_cell (B := W1.heap.size) x1 hbx
          have t2 := later_cell (B := W1.heap.size) x2 hbx
          have t3 := later_cell (B := W1.heap.size) x3 hbx
          have t4 := later_cell (B := W1.heap.size) x4 hbx
          repeat (change wpQuiet _ _ _ _ (List.cons _ _) _; go_big_quiet_step (fail))
          refine wpQuiet_nil ?_
          first | (rintro _ ⟨X, rfl⟩) | (intro X)
          have hX := X.h
          clear u0 u1 u2 u3 u4 t0 t1 t2 t3 t4
          generalize X.x = W2 at *
          clear X
          replace x0 := cell_lt hX x0 hbx
          replace x1 := cell_lt hX x1 hbx
          replace x2 := cell_lt hX x2 hbx
          replace x3 := cell_lt hX x3 hbx
          replace x4 := cell_lt hX x4 hbx
          replace y0 := cell_lt hX y0 hg1
          replace y2 := cell_lt hX y2 hg1
          replace hbx := Nat.lt_of_lt_of_le hbx hX.size
          replace hg1 := Nat.lt_of_lt_of_le hg1 hX.size
          replace R := R.later hX
          replace HB := bthen HB hX
          clear hX y1 y3 y4
          go_wp2_with fail
          have hm1 := R.cells.2.1
          refine (wpIn_wide (n := 9)).1 ?_
          haveI : Nonempty (BoxSl W.heap.size sb x (.slice (some ⟨g, 0, none⟩) (l.length + 1) c)) := ⟨⟨W2, x0, x1, x2, x3, x4, hm1⟩⟩
          refine region_ord_last (fun q => ∃ X : BoxSl W.heap.size sb x (.slice (some ⟨g, 0, none⟩) (l.length + 1) c), q = X.x) [([0, 1, 2, 3, 4, 5], 6), ([], 7)] [8, 9] 10 (fun _ => trivial) (by kernel_rfl) (by kernel_rfl) (by kernel_rfl) (by kernel_rfl) (by kernel_rfl) ⟨⟨World.drew W2, x0, x1, x2, x3, x4, hm1⟩, rfl⟩ ?_
          simp only [List.map_cons, List.map_nil, List.filterMap_cons, List.filterMap_nil, List.getElem?_cons_succ, List.getElem?_cons_zero]
          have u0 := fun X : BoxSl W.heap.size sb x (.slice (some ⟨g, 0, none⟩) (l.length + 1) c) => X.h0
          have u1 := fun X : BoxSl W.heap.size sb x (.slice (some ⟨g, 0, none⟩) (l.length + 1) c) => X.h1
          have u2 := fun X : BoxSl W.heap.size sb x (.slice (some ⟨g, 0, none⟩) (l.length + 1) c) => X.h2
          have u3 := fun X : BoxSl W.heap.size sb x (.slice (some ⟨g, 0, none⟩) (l.length + 1) c) => X.h3
          have u4 := fun X : BoxSl W.heap.size sb x (.slice (some ⟨g, 0, none⟩) (l.length + 1) c) => X.h4
          have uv := fun X : BoxSl W.heap.size sb x (.slice (some ⟨g, 0, none⟩) (l.length + 1) c) => X.hv
          have hd : Below (World.heap W2).size W2 (World.drew W2) := (Below.refl _ _).drew
          replace R := R.later hd
          replace HB := bthen HB hd
          replace x0 := cell_lt hd x0 hbx
          replace x1 := cell_lt hd x1 hbx
          replace x2 := cell_lt hd x2 hbx
          replace x3 := cell_lt hd x3 hbx
          replace x4 := cell_lt hd x4 hbx
          replace hm1 := R.cells.2.1
          replace hbx := Nat.lt_of_lt_of_le hbx hd.size
          generalize hwd : World.drew W2 = wd at *
          clear hwd hd
          refine ordL_step ?_
          repeat (change wpQuiet _ _ _ _ (List.cons _ _) _; go_big_quiet_step (fail))
          refine wpQuiet_nil ?_
          intro Q₁ hQ₁
          gi_wp2
          have hb1 := bone wd (.cells #[.int .u64 x.ipa, .int .u64 x.pa, .int .u64 x.sz, .int .i64 x.perm, .int .i64 x.kind] 42)
          have e0 := cell_lt hb1 x0 hbx
          have e1 := cell_lt hb1 x1 hbx
          have e2 := cell_lt hb1 x2 hbx
          have e3 := cell_lt hb1 x3 hbx
          have e4 := cell_lt hb1 x4 hbx
          have ev := cell_lt hb1 hm1 R.lt
          refine hQ₁ _ _ ⟨⟨_, e0, e1, e2, e3, e4, ev⟩, rfl⟩ ?_
          clear hQ₁ Q₁
          refine ordL_step ?_
          refine wpQuiet_nil ?_
          intro Q₁ hQ₁
          have hpp : OwnM 42 wd n0 (.slice (some ⟨g, 0, none⟩) (l.length + 1) c) (l ++ [y]) := by have := R.parts; rw [hst.out] at this; exact this
          have hn0 := R.n0lt
          simp only [Option.toList]
          gi_wp2_with (gi_at_builtin; (refine wplIn_append_map_at rfl _ _ 37 rfl n0 42 infoMapS Tryd.underlying37 (.slice (some ⟨g, 0, none⟩) (l.length + 1) c) (l ++ [y]) [x] rfl rfl ?_ ?_ ?_ ?_ ?_ ?_ ?_); (focus (exact hpp)); (focus rfl); (focus rfl); (focus (first | rfl | (simp; done))); (focus (first | (simp; done) | (simp; omega))); (focus omega); intro v' w6 hown' hat hgrow)
          obtain ⟨hsb, R6, hB6⟩ := R.app1 hb1 hgrow hown' hat
          obtain ⟨a6, c6, rfl⟩ := rowSlice hown'
          have hne : (.slice (some ⟨g, 0, none⟩) (l.length + 1) c : Value).ownBlock ≠ some W.heap.size := fun e => by have := (h.lt1 e).2; omega
          have hlb : W.heap.size < (wd.alloc (.cells #[.int .u64 x.ipa, .int .u64 x.pa, .int .u64 x.sz, .int .i64 x.perm, .int .i64 x.kind] 42)).heap.size := Nat.lt_of_lt_of_le hbx hb1.size
          replace e0 := (grown_cell hgrow 0 hlb hne).trans e0
          replace e1 := (grown_cell hgrow 1 hlb hne).trans e1
          replace e2 := (grown_cell hgrow 2 hlb hne).trans e2
          replace e3 := (grown_cell hgrow 3 hlb hne).trans e3
          replace e4 := (grown_cell hgrow 4 hlb hne).trans e4
          have ev6 : w6.cell? ⟨sb, 1, none⟩ = some (.slice (some ⟨g, 0, none⟩) (l.length + 1) c) := (World.cell?_of_block hsb).trans R.cells.2.1
          have ef6 : w6.frozen? ⟨sb, 1, none⟩ = false := by have := R.blk; simp only [World.frozen?, hsb, this]; rfl
          refine hQ₁ _ _ ⟨⟨w6, e0, e1, e2, e3, e4, ev6⟩, rfl⟩ ?_
          clear hQ₁ Q₁
          refine ordL_last ?_
          repeat (change wpQuiet _ _ _ _ (List.cons _ _) _; go_big_quiet_step (fail))
          refine wpQuiet_nil ?_
          intro Q₁ hQ₁
          clear u0 u1 u2 u3 u4 uv e0 e1 e2 e3 e4 x0 x1 x2 x3 x4 hat hown' hpp hgrow
          simp only [Option.toList]
          gi_wp2
          go_end0
          rw [show (l ++ [y] ++ [x]).length = l.length + 2 by simp] at R6 hB6
          have e := hadd.out
          rw [e]
          exact ⟨⟨_, rfl⟩, ⟨_, R6⟩, (HB.mono h.n0lt).trans hB6⟩
        · refine region_later W1.heap.size W1 (Below.refl _ _) (by kernel_rfl) (by kernel_rfl) ?_
          have u0 := later_cell (B := W1.heap.size) y0 hg1
          have u1 := later_cell (B := W1.heap.size) y1 hg1
          have u2 := later_cell (B := W1.heap.size) y2 hg1
          have u3 := later_cell (B := W1.heap.size) y3 hg1
          have u4 := later_cell (B := W1.heap.size) y4 hg1
          have t0 := later_cell (B := W1.heap.size) x0 hbx
          have t1 := later_cell (B := W1.heap.size) x1 hbx
          have t2 := later_cell (B := W1.heap.size) x2 hbx
          have t3 := later_cell (B := W1.heap.size) x3 hbx
          have t4 := later_cell (B := W1.heap.size) x4 hbx
          repeat (change wpQuiet _ _ _ _ (List.cons _ _) _; go_big_quiet_step (fail))
          refine wpQuiet_nil ?_
          first | (rintro _ ⟨X, rfl⟩) | (intro X)
          have hX := X.h
          clear u0 u1 u2 u3 u4 t0 t1 t2 t3 t4
          generalize X.x = W2 at *
          clear X
          replace x0 := cell_lt hX x0 hbx
          replace x1 := cell_lt hX x1 hbx
          replace x2 := cell_lt hX x2 hbx
          replace x3 := cell_lt hX x3 hbx
          replace x4 := cell_lt hX x4 hbx
          replace y0 := cell_lt hX y0 hg1
          replace y2 := cell_lt hX y2 hg1
          replace hbx := Nat.lt_of_lt_of_le hbx hX.size
          replace hg1 := Nat.lt_of_lt_of_le hg1 hX.size
          replace R := R.later hX
          replace HB := bthen HB hX
          clear hX y1 y3 y4
          go_wp2_with fail
          refine region_later_tail W2.heap.size W2 9 (Below.refl _ _) (by kernel_rfl) (by kernel_rfl) ?_
          simp only [List.take_succ_cons, List.take_zero, List.drop_succ_cons, List.drop_zero]
          have u2 := later_cell (B := W2.heap.size) y2 hg1
          have t2 := later_cell (B := W2.heap.size) x2 hbx
          repeat (change wpQuiet _ _ _ _ (List.cons _ _) _; go_big_quiet_step (fail))
          refine wpQuiet_nil ?_
          first | (rintro _ ⟨X, rfl⟩) | (intro X)
          have hX := X.h
          clear u2 t2
          generalize X.x = W3 at *
          clear X
          replace R := R.later hX
          replace HB := bthen HB hX
          have c2 := cell_lt hX y2 hg1
          have hfz : W3.frozen? ⟨g, l.length * 5 + 2, none⟩ = false := by
            have h4 : OwnM 42 W3 n0 (.slice (some ⟨g, 0, none⟩) (l.length + 1) c) (l ++ [y]) := by have := R.parts; rw [hst.out] at this; exact this
            have h5 : W3.ownsRow n0 42 5 (.slice (some ⟨g, 0, none⟩) (l.length + 1) c) (l.length + 1) (encM (l ++ [y])) := hll.out ▸ h4
            exact World.ownsRow.frozenAt h5 _
          obtain ⟨R4, hB4⟩ := R.grow (x := x) hst.out
          have hlg : (longer y x).sz = IntKind.u64.wrap (y.sz + x.sz) := rfl
          go_wp2_with fail
          have e := hadd.out
          refine bodyPost_ret (results_none rfl _ _ _) rfl ?_
          rw [e]
          exact ⟨⟨_, rfl⟩, ⟨_, R4⟩, (HB.mono h.n0lt).trans hB4⟩
theorem radd_any (sb n0 : Nat) (mp v1 v2 : Value) (s : Sw (List M5)) (x : M5) (W : World) (h : RS sb n0 mp s v1 v2 W) (hl : s.st.length ≤ 2048000) :
    Calls Tryd.prog 53 #[.pointer (some ⟨sb, 0, none⟩), .agg #[.int .u64 x.ipa, .int .u64 x.pa, .int .u64 x.sz, .int .i64 x.perm, .int .i64 x.kind]] W fun e W' => (∃ v, e = .returned v) ∧ (∃ v1', RS sb n0 mp { s with st := addM s.st x } v1' v2 W') ∧ Below n0 W W' := by
  rcases List.eq_nil_or_concat s.st with hst | ⟨l, y, hst⟩
  · exact radd_nil sb n0 mp v1 v2 s x W h hst
  · rw [List.concat_eq_append] at hst
    exact radd_snoc sb n0 mp v1 v2 s l y x W h hst (by rw [hst, List.length_append] at hl; omega)
end Go.Proofs.YtdlpgonpikflfaaDoor
