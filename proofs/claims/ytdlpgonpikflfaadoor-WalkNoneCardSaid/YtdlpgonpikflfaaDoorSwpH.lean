/- Parts are put: the callback of All. -/
import Derived.Test.YtdlpgonpikflfaaDoorSwpG
import Derived.Maps.AppendAt
namespace Go.Proofs.YtdlpgonpikflfaaDoor
open Go Go.RowKit Go.Shelf Go.BigFrame

theorem ownsRow_put {w : World} {base size n g cap j : Nat} {e : TypeId} {xs : List Value} (u : Value) (h : w.ownsRow base e size (.slice (some ⟨g, 0, none⟩) n cap) n xs) (hj : j < n * size) : (w.setCell ⟨g, j, none⟩ u).ownsRow base e size (.slice (some ⟨g, 0, none⟩) n cap) n (xs.set j u) := by
  obtain ⟨hlen, ⟨h1, _⟩ | ⟨g', cap', cur, hv, hb, hg, hn, hm, hs, hx⟩⟩ := h
  · cases h1
  · cases hv
    refine ⟨by simpa using hlen, .inr ⟨g, cap, cur.setIfInBounds j u, rfl, hb, ?_, hn, hm, by simpa using hs, ?_⟩⟩
    · simp [World.setCell, Array.getElem?_modify, hg]
    · rw [Array.toList_setIfInBounds, List.take_set, hx]
theorem encM_longer (l : List M5) (y x : M5) : (encM (l ++ [y])).set (l.length * 5 + 2) (.int .u64 (longer y x).sz) = encM (l ++ [longer y x]) := by
  rw [encM_snoc, encM_snoc, List.set_append_right _ _ (by rw [encM_len]; omega), encM_len, show l.length * 5 + 2 - l.length * 5 = 2 by omega]
  rfl
theorem wpl_append_map_at {P : Program} {ops : Array Oper} {rest : List Oper} {o : Oper} {a : Act} {Q : Exit → Act → World → Prop} {w : World} {g m : Nat} {C : Array Value} (hgd : o.guard = none) (s x : Operand) (S : TypeId)
    (ho : o.op = .call { callee := .builtin .append, args := #[s, x], argTypes := #[S, S] })
    (base : Nat) (E : TypeId) (hi : InfoM P E) (ht : P.underlying S = some (.slice E)) (v : Value) (l : List M5) (ys : List M5) (hs : a.eval s = v)
    (hx : a.eval x = .slice (some ⟨g, 0, none⟩) m m) (hown : OwnM E w base v l) (hm : m = ys.length) (hg : g = w.heap.size) (hy : C = (encM ys).toArray) (hl : l.length + ys.length ≤ 1099511627776) (hbase : base ≤ w.heap.size)
    (h : ∀ v' w', OwnM E w' base v' (l ++ ys) → (v'.ownBlock = v.ownBlock ∨ v'.ownBlock = some (w.alloc (.cells C E)).heap.size) → (w.alloc (.cells C E)).grownBy w' v.ownBlock → wpList P ops Q rest (a.put o.dst v') w') :
    wpList P ops Q (o :: rest) a (w.alloc (.cells C E)) := by
  subst hy
  subst hg
  subst hm
  obtain ⟨i0, hi1, hi2⟩ := Option.map_eq_some_iff.1 hi
  rw [Prod.mk.injEq, Prod.mk.injEq] at hi2
  obtain ⟨hz0, hz1, hz2⟩ := hi2
  refine wpList_append_own_at _ hgd s x S ho base E i0 _ 5 40 ht hi1 hz0 hz1 hz2 rfl (by decide) v l.length (encM l) hs (World.ownsRow.alloc hown _)
    ⟨w.heap.size, 0, none⟩ ys.length ys.length (encM ys) hx (encM_len ys) ?_ ?_ ?_ ?_ ?_ ?_
  · intro j u hu
    have hadd : (⟨w.heap.size, 0, none⟩ : Addr).add j = ⟨w.heap.size, j, none⟩ := by unfold Addr.add; split <;> simp_all
    rw [hadd, World.cell?_alloc_new]
    simpa using hu
  · intro u hu
    exact encM_one ys u hu
  · unfold maxLen; omega
  · omega
  · simp; omega
  · intro v' w' hown' hg _ hat
    refine h v' w' ?_ hat hg
    unfold OwnM
    have e : encM (l ++ ys) = encM l ++ encM ys := by simp [encM]
    rw [e, List.length_append]; exact hown'
theorem parts_app {n0 lb : Nat} {l l' : List M5} {W w6 : World} {v v' : Value} {t1 t2 : Obj} (hb : n0 ≤ lb) (hv : Boxed W lb 37 v) (hr : OwnM 42 W n0 v l) (hg : ((W.alloc t1).alloc t2).grownBy w6 v.ownBlock) (ho : OwnM 42 w6 n0 v' l')
    (hat : v'.ownBlock = v.ownBlock ∨ v'.ownBlock = some ((W.alloc t1).alloc t2).heap.size) : PartsI n0 lb l' (w6.setCell ⟨lb, 0, none⟩ v') ∧ Fr (OwnL lb) W (w6.setCell ⟨lb, 0, none⟩ v') := by
  have hnr : some lb ≠ v.ownBlock := hv.not_row (by decide) hr
  have hvl := hv.lt
  have hv6 : Boxed w6 lb 37 v := ((hv.alloc _).alloc _).kept hg hnr
  have hne : v'.ownBlock ≠ some lb := by
    rcases hat with e | e
    · rw [e]; exact fun h => hnr h.symm
    · rw [e]; intro h; injection h with h; simp at h; omega
  have hv7 := hv6.set v'
  have hoth : ∀ k, k < W.heap.size → v.ownBlock ≠ some k → w6.heap[k]? = W.heap[k]? := fun k h1 h2 => (hg.block k (by simp; omega) (fun e => h2 e.symm)).trans ((Below.heap_alloc _ _ _ (by simp; omega)).trans (Below.heap_alloc _ _ _ h1))
  refine ⟨⟨hb, v', hv7, ownsRow_setCell_other ho hne _⟩, hg.os, hg.tape, hg.output, ?_, fun k hk hno => ?_⟩
  · have := hg.size; simp at this; simp [World.setCell]; omega
  · have hkl : k ≠ lb := fun e => hno (.inl e)
    have hkr : v.ownBlock ≠ some k := fun e => hno (.inr ⟨v, hv.cell, e⟩)
    refine ⟨(Below.heap_setCell _ _ _ _ hkl).trans (hoth k hk hkr), ?_⟩
    rintro (rfl | ⟨u, hu, hk'⟩)
    · exact hkl rfl
    · rw [hv7.cell] at hu; cases hu
      rcases hat with e | e
      · exact hkr (e ▸ hk')
      · rw [e] at hk'; injection hk' with h; simp at h; omega
theorem parts_later {n0 lb : Nat} {l : List M5} {W V : World} (h : PartsI n0 lb l W) (hb : Below W.heap.size W V) : PartsI n0 lb l V ∧ Fr (OwnL lb) W V := by
  have h1 := h.kept hb.size (fun k ho => hb.block k (h.own ho).2.1)
  exact ⟨h1.1, hb.os, hb.tape, hb.output, hb.size, fun k hk ho => ⟨hb.block k hk, fun e => ho ((h1.2 k).1 e)⟩⟩
theorem parts_app1 {n0 lb : Nat} {l l' : List M5} {W w6 : World} {v v' : Value} {t2 : Obj} (hb : n0 ≤ lb) (hv : Boxed W lb 37 v) (hr : OwnM 42 W n0 v l) (hg : (W.alloc t2).grownBy w6 v.ownBlock) (ho : OwnM 42 w6 n0 v' l')
    (hat : v'.ownBlock = v.ownBlock ∨ v'.ownBlock = some (W.alloc t2).heap.size) : PartsI n0 lb l' (w6.setCell ⟨lb, 0, none⟩ v') ∧ Fr (OwnL lb) W (w6.setCell ⟨lb, 0, none⟩ v') := by
  have hnr : some lb ≠ v.ownBlock := hv.not_row (by decide) hr
  have hvl := hv.lt
  have hv6 : Boxed w6 lb 37 v := (hv.alloc _).kept hg hnr
  have hne : v'.ownBlock ≠ some lb := by
    rcases hat with e | e
    · rw [e]; exact fun h => hnr h.symm
    · rw [e]; intro h; injection h with h; simp at h; omega
  have hv7 := hv6.set v'
  have hoth : ∀ k, k < W.heap.size → v.ownBlock ≠ some k → w6.heap[k]? = W.heap[k]? := fun k h1 h2 => (hg.block k (by simp; omega) (fun e => h2 e.symm)).trans (Below.heap_alloc _ _ _ h1)
  refine ⟨⟨hb, v', hv7, ownsRow_setCell_other ho hne _⟩, hg.os, hg.tape, hg.output, ?_, fun k hk hno => ?_⟩
  · have := hg.size; simp at this; simp [World.setCell]; omega
  · have hkl : k ≠ lb := fun e => hno (.inl e)
    have hkr : v.ownBlock ≠ some k := fun e => hno (.inr ⟨v, hv.cell, e⟩)
    refine ⟨(Below.heap_setCell _ _ _ _ hkl).trans (hoth k hk hkr), ?_⟩
    rintro (rfl | ⟨u, hu, hk'⟩)
    · exact hkl rfl
    · rw [hv7.cell] at hu; cases hu
      rcases hat with e | e
      · exact hkr (e ▸ hk')
      · rw [e] at hk'; injection hk' with h; simp at h; omega
theorem parts_put {n0 lb g c : Nat} {l : List M5} {y x : M5} {W : World} (hb : n0 ≤ lb) (hv : Boxed W lb 37 (.slice (some ⟨g, 0, none⟩) (l.length + 1) c)) (hr : OwnM 42 W n0 (.slice (some ⟨g, 0, none⟩) (l.length + 1) c) (l ++ [y])) :
    PartsI n0 lb (l ++ [longer y x]) (W.setCell ⟨g, l.length * 5 + 2, none⟩ (.int .u64 (longer y x).sz)) ∧ Fr (OwnL lb) W (W.setCell ⟨g, l.length * 5 + 2, none⟩ (.int .u64 (longer y x).sz)) := by
  have hnr : some lb ≠ (Value.slice (some ⟨g, 0, none⟩) (l.length + 1) c).ownBlock := hv.not_row (by decide) hr
  have hgl : g ≠ lb := fun e => hnr (by rw [← e]; rfl)
  have hll : (l ++ [y]).length = l.length + 1 := by simp
  have h1 : W.ownsRow n0 42 5 (.slice (some ⟨g, 0, none⟩) (l.length + 1) c) (l.length + 1) (encM (l ++ [y])) := hll ▸ hr
  have h2 := ownsRow_put (j := l.length * 5 + 2) (.int .u64 (longer y x).sz) h1 (by omega)
  rw [encM_longer] at h2
  have hblk : ∀ k, k ≠ g → (W.setCell ⟨g, l.length * 5 + 2, none⟩ (.int .u64 (longer y x).sz)).heap[k]? = W.heap[k]? := fun k hk => Below.heap_setCell W ⟨g, l.length * 5 + 2, none⟩ _ k hk
  have hv2 : Boxed (W.setCell ⟨g, l.length * 5 + 2, none⟩ (.int .u64 (longer y x).sz)) lb 37 (.slice (some ⟨g, 0, none⟩) (l.length + 1) c) := (hblk lb (fun e => hgl e.symm)).trans hv
  refine ⟨⟨hb, _, hv2, ?_⟩, rfl, rfl, rfl, by simp [World.setCell], fun k _ hno => ?_⟩
  · unfold OwnM
    rw [show (l ++ [longer y x]).length = l.length + 1 by simp]
    exact h2
  · have hkl : k ≠ lb := fun e => hno (.inl e)
    have hkg : k ≠ g := fun e => hno (.inr ⟨_, hv.cell, by rw [e]; rfl⟩)
    refine ⟨hblk k hkg, ?_⟩
    rintro (rfl | ⟨u, hu, hk'⟩)
    · exact hkl rfl
    · rw [hv2.cell] at hu; cases hu
      exact hkg (by injection hk' with h; exact h.symm)
theorem region_later_tail {P : Program} {id : Nat} {Q : Exit → Act → World → Prop} {a : Act} {w : World} {l : List Oper} (B : Nat) (w0 : World) (n : Nat) (h0 : Below B w0 w) (hm : P.follows .mixedOrders = true) (hB : headTailB l.toArray n = true)
    (h : wpQuiet P l.toArray (fun w' => ∃ X : Later B w0, w' = X.x) (fun a' => ∀ w', (∃ X : Later B w0, w' = X.x) → wpList P l.toArray Q (l.drop n) a' w') (l.take n) a) : (Code.region id l.toArray true).wp P Q a w :=
  wp_region_quiet_tail (C := fun w' => ∃ X : Later B w0, w' = X.x) n hm hB ⟨⟨_, h0.drew⟩, rfl⟩ h
theorem infoMapS : InfoM Tryd.prog 42 := by unfold InfoM; kernel_rfl
set_option maxRecDepth 20000 in
set_option maxHeartbeats 2000000 in
theorem parts_nil (n0 lb : Nat) (x : M5) (W : World) (h : PartsI n0 lb [] W) (hn : n0 ≤ W.heap.size) : Calls Tryd.prog 29 #[.agg #[.int .u64 x.ipa, .int .u64 x.pa, .int .u64 x.sz, .int .i64 x.perm, .int .i64 x.kind], .pointer (some ⟨lb, 0, none⟩)] W fun e W' => (∃ v, e = .returned v) ∧ PartsI n0 lb [x] W' ∧ Fr (OwnL lb) W W' := by
  obtain ⟨hb, v, hv, hr⟩ := h
  obtain ⟨a, c, rfl⟩ := rowSlice hr
  have hvl := hv.lt
  have hc1 : (W.alloc (.cells #[.int .u64 x.ipa, .int .u64 x.pa, .int .u64 x.sz, .int .i64 x.perm, .int .i64 x.kind] 42)).cell? ⟨lb, 0, none⟩ = some (.slice a 0 c) := (hv.alloc _).cell
  have hx : (W.alloc (.cells #[.int .u64 x.ipa, .int .u64 x.pa, .int .u64 x.sz, .int .i64 x.perm, .int .i64 x.kind] 42)).heap.size = W.heap.size + 1 := by simp
  go_enter Tryd.func29, Tryd.ntmps29
  have hr1 : OwnM 42 (W.alloc (.cells #[.int .u64 x.ipa, .int .u64 x.pa, .int .u64 x.sz, .int .i64 x.perm, .int .i64 x.kind] 42)) n0 (.slice a 0 c) [] := hr.below (bone _ _) (Nat.le_refl _)
  have hnr : some lb ≠ (Value.slice a 0 c).ownBlock := hv.not_row (by decide) hr
  go_wp2_with (at_builtin; refine wpl_append_map_at rfl _ _ 37 rfl n0 42 infoMapS Tryd.underlying37 (.slice a 0 c) [] [x] rfl rfl ?_ ?_ ?_ ?_ ?_ ?_ ?_; (focus (exact hr1)); (focus rfl); (focus (first | rfl | (simp; done))); (focus rfl); (focus (simp)); (focus (simp; omega)); intro v' w6 hown' hat hgrow; have hv6 : Boxed w6 lb 37 (.slice a 0 c) := ((hv.alloc _).alloc _).kept hgrow hnr; have hc6 := hv6.cell; have hf6 := hv6.frozen; obtain ⟨a6, c6, rfl⟩ := rowSlice hown')
  go_end0
  obtain ⟨h1, h2⟩ := parts_app hb hv hr hgrow hown' hat
  exact ⟨⟨_, rfl⟩, h1, h2⟩
set_option maxRecDepth 100000 in
set_option maxHeartbeats 4000000 in
theorem parts_snoc (n0 lb : Nat) (l : List M5) (y x : M5) (W : World) (h : PartsI n0 lb (l ++ [y]) W) (hn : n0 ≤ W.heap.size) (hl : l.length ≤ 2048000) : Calls Tryd.prog 29 #[.agg #[.int .u64 x.ipa, .int .u64 x.pa, .int .u64 x.sz, .int .i64 x.perm, .int .i64 x.kind], .pointer (some ⟨lb, 0, none⟩)] W fun e W' => (∃ v, e = .returned v) ∧ PartsI n0 lb (addM (l ++ [y]) x) W' ∧ Fr (OwnL lb) W W' := by
  obtain ⟨hb, v, hv, hr⟩ := h
  have hrow := hr.row
  have hll : (l ++ [y]).length = l.length + 1 := by simp
  obtain ⟨g, c, rfl⟩ := ownsRow_succ (hll ▸ hr : W.ownsRow n0 42 5 v (l.length + 1) (encM (l ++ [y])))
  obtain ⟨a0, c0, e0, hcap, hcell⟩ := hrow
  injection e0 with e0 e0l e0c
  clear hcap e0l e0c
  obtain ⟨g2, off, e1, hgl, hcell2⟩ := hcell (by simp)
  clear hcell
  rw [← e0] at e1
  injection e1 with e1
  injection e1 with e1 e2 e3
  subst e1
  subst e2
  clear e0 e3
  have hy := hcell2 l.length (by simp)
  simp only [List.getElem_append_right (Nat.le_refl _), Nat.sub_self, List.getElem_cons_zero, Nat.zero_add] at hy
  obtain ⟨y0, y1, y2, y3, y4⟩ := hy
  have hc1 : (W.alloc (.cells #[.int .u64 x.ipa, .int .u64 x.pa, .int .u64 x.sz, .int .i64 x.perm, .int .i64 x.kind] 42)).cell? ⟨lb, 0, none⟩ = some (.slice (some ⟨g, 0, none⟩) (l.length + 1) c) := (hv.alloc _).cell
  clear hcell2
  replace hll := Lib.hid hll
  obtain ⟨W1, hW1⟩ : ∃ W1, W1 = W.alloc (.cells #[.int .u64 x.ipa, .int .u64 x.pa, .int .u64 x.sz, .int .i64 x.perm, .int .i64 x.kind] 42) := ⟨_, rfl⟩
  have hb1 : Below W.heap.size W W1 := by rw [hW1]; exact bone _ _
  have hz1 : W1.heap.size = W.heap.size + 1 := by rw [hW1]; simp
  have hnewx : W1.heap[W.heap.size]? = some (.cells #[.int .u64 x.ipa, .int .u64 x.pa, .int .u64 x.sz, .int .i64 x.perm, .int .i64 x.kind] 42 (0, 0)) := by rw [hW1]; exact World.alloc_heap_new _ _
  have x0 : W1.cell? ⟨W.heap.size, 0, none⟩ = some (.int .u64 x.ipa) := by simp [World.cell?, hnewx]
  have x1 : W1.cell? ⟨W.heap.size, 1, none⟩ = some (.int .u64 x.pa) := by simp [World.cell?, hnewx]
  have x2 : W1.cell? ⟨W.heap.size, 2, none⟩ = some (.int .u64 x.sz) := by simp [World.cell?, hnewx]
  have x3 : W1.cell? ⟨W.heap.size, 3, none⟩ = some (.int .i64 x.perm) := by simp [World.cell?, hnewx]
  have x4 : W1.cell? ⟨W.heap.size, 4, none⟩ = some (.int .i64 x.kind) := by simp [World.cell?, hnewx]
  replace y0 := cell_lt hb1 y0 hgl
  replace y1 := cell_lt hb1 y1 hgl
  replace y2 := cell_lt hb1 y2 hgl
  replace y3 := cell_lt hb1 y3 hgl
  replace y4 := cell_lt hb1 y4 hgl
  have hg1 : g < W1.heap.size := by omega
  have hadd := addM_snoc l y x
  unfold goesOn at hadd
  generalize k1e : (IntKind.u64.wrap (y.ipa + y.sz) == x.ipa) = k1 at *
  generalize k2e : (IntKind.u64.wrap (y.pa + y.sz) == x.pa) = k2 at *
  generalize k3e : (y.perm == x.perm) = k3 at *
  generalize k4e : (y.kind == x.kind) = k4 at *
  replace hadd := Lib.hid hadd
  go_enter Tryd.func29, Tryd.ntmps29
  go_wp2_with fail
  rw [← hW1]
  clear hW1 hc1
  have hx1 : W.heap.size < W1.heap.size := by omega
  obtain ⟨hP1, hF1⟩ := parts_later ⟨hb, _, hv, hr⟩ hb1
  have hv1 : Boxed W1 lb 37 (.slice (some ⟨g, 0, none⟩) (l.length + 1) c) := (hb1.block lb hv.lt).trans hv
  have hr1 := hr.below hb1 (Nat.le_refl _)
  have hB1 := hb1
  clear hv hr hb1
  rcases k1 with _ | _
  · refine region_later W1.heap.size W1 (Below.refl _ _) (by kernel_rfl) (by kernel_rfl) ?_
    have u0 := later_cell (B := W1.heap.size) y0 hg1
    have u1 := later_cell (B := W1.heap.size) y1 hg1
    have u2 := later_cell (B := W1.heap.size) y2 hg1
    have u3 := later_cell (B := W1.heap.size) y3 hg1
    have u4 := later_cell (B := W1.heap.size) y4 hg1
    have v0 := later_cell (B := W1.heap.size) x0 hx1
    have v1 := later_cell (B := W1.heap.size) x1 hx1
    have v2 := later_cell (B := W1.heap.size) x2 hx1
    have v3 := later_cell (B := W1.heap.size) x3 hx1
    have v4 := later_cell (B := W1.heap.size) x4 hx1
    repeat (change wpQuiet _ _ _ _ (List.cons _ _) _; go_big_quiet_step (fail))
    refine wpQuiet_nil ?_
    first | (rintro _ ⟨X, rfl⟩) | (intro X)
    have hX := X.h
    clear u0 u1 u2 u3 u4 v0 v1 v2 v3 v4
    generalize X.x = W2 at *
    clear X
    replace y0 := cell_lt hX y0 hg1
    replace y1 := cell_lt hX y1 hg1
    replace y2 := cell_lt hX y2 hg1
    replace y3 := cell_lt hX y3 hg1
    replace y4 := cell_lt hX y4 hg1
    replace x0 := cell_lt hX x0 hx1
    replace x1 := cell_lt hX x1 hx1
    replace x2 := cell_lt hX x2 hx1
    replace x3 := cell_lt hX x3 hx1
    replace x4 := cell_lt hX x4 hx1
    have hg2 : g < W2.heap.size := Nat.lt_of_lt_of_le hg1 hX.size
    have hx2 : W.heap.size < W2.heap.size := Nat.lt_of_lt_of_le hx1 hX.size
    obtain ⟨hP2, hF2⟩ := parts_later hP1 hX
    have hv2 : Boxed W2 lb 37 (.slice (some ⟨g, 0, none⟩) (l.length + 1) c) := (hX.block lb hv1.lt).trans hv1
    have hr2 := hr1.below hX (Nat.le_refl _)
    have hB2 := bthen hB1 hX
    clear hX
    go_wp2_with fail
    refine region_later W2.heap.size W2 (Below.refl _ _) (by kernel_rfl) (by kernel_rfl) ?_
    have u0 := later_cell (B := W2.heap.size) y0 hg2
    have u1 := later_cell (B := W2.heap.size) y1 hg2
    have u2 := later_cell (B := W2.heap.size) y2 hg2
    have u3 := later_cell (B := W2.heap.size) y3 hg2
    have u4 := later_cell (B := W2.heap.size) y4 hg2
    have v0 := later_cell (B := W2.heap.size) x0 hx2
    have v1 := later_cell (B := W2.heap.size) x1 hx2
    have v2 := later_cell (B := W2.heap.size) x2 hx2
    have v3 := later_cell (B := W2.heap.size) x3 hx2
    have v4 := later_cell (B := W2.heap.size) x4 hx2
    repeat (change wpQuiet _ _ _ _ (List.cons _ _) _; go_big_quiet_step (fail))
    refine wpQuiet_nil ?_
    first | (rintro _ ⟨X, rfl⟩) | (intro X)
    have hX := X.h
    clear u0 u1 u2 u3 u4 v0 v1 v2 v3 v4
    generalize X.x = W3 at *
    clear X
    replace y0 := cell_lt hX y0 hg2
    replace y1 := cell_lt hX y1 hg2
    replace y2 := cell_lt hX y2 hg2
    replace y3 := cell_lt hX y3 hg2
    replace y4 := cell_lt hX y4 hg2
    replace x0 := cell_lt hX x0 hx2
    replace x1 := cell_lt hX x1 hx2
    replace x2 := cell_lt hX x2 hx2
    replace x3 := cell_lt hX x3 hx2
    replace x4 := cell_lt hX x4 hx2
    have hg3 : g < W3.heap.size := Nat.lt_of_lt_of_le hg2 hX.size
    have hx3 : W.heap.size < W3.heap.size := Nat.lt_of_lt_of_le hx2 hX.size
    obtain ⟨hP3, hF3⟩ := parts_later hP2 hX
    have hv3 : Boxed W3 lb 37 (.slice (some ⟨g, 0, none⟩) (l.length + 1) c) := (hX.block lb hv2.lt).trans hv2
    have hr3 := hr2.below hX (Nat.le_refl _)
    have hB3 := bthen hB2 hX
    clear hX
    have hc3 := hv3.cell
    have hnr : some lb ≠ (Value.slice (some ⟨g, 0, none⟩) (l.length + 1) c).ownBlock := hv3.not_row (by decide) hr3
    go_wp2_with (at_builtin; refine wpl_append_map_at rfl _ _ 37 rfl n0 42 infoMapS Tryd.underlying37 (.slice (some ⟨g, 0, none⟩) (l.length + 1) c) (l ++ [y]) [x] rfl rfl ?_ ?_ ?_ ?_ ?_ ?_ ?_; (focus (exact hr3)); (focus rfl); (focus (first | rfl | (simp; done))); (focus rfl); (focus (simp; omega)); (focus (have := hB3.size; omega)); intro v' w6 hown' hat hgrow; have hv6 : Boxed w6 lb 37 (.slice (some ⟨g, 0, none⟩) (l.length + 1) c) := (hv3.alloc _).kept hgrow hnr; have hc6 := hv6.cell; have hf6 := hv6.frozen; obtain ⟨a6, c6, rfl⟩ := rowSlice hown')
    go_end0
    obtain ⟨h1, h2⟩ := parts_app1 hb hv3 hr3 hgrow hown' hat
    rw [show (l ++ [y] ++ [x]).length = l.length + 2 by simp] at h1 h2
    have e := hadd.out
    exact ⟨⟨_, rfl⟩, by rw [e]; exact h1, (hF1.trans (hF2.trans hF3)).trans h2⟩
  · rcases k2 with _ | _
    · refine region_later W1.heap.size W1 (Below.refl _ _) (by kernel_rfl) (by kernel_rfl) ?_
      have u0 := later_cell (B := W1.heap.size) y0 hg1
      have u1 := later_cell (B := W1.heap.size) y1 hg1
      have u2 := later_cell (B := W1.heap.size) y2 hg1
      have u3 := later_cell (B := W1.heap.size) y3 hg1
      have u4 := later_cell (B := W1.heap.size) y4 hg1
      have v0 := later_cell (B := W1.heap.size) x0 hx1
      have v1 := later_cell (B := W1.heap.size) x1 hx1
      have v2 := later_cell (B := W1.heap.size) x2 hx1
      have v3 := later_cell (B := W1.heap.size) x3 hx1
      have v4 := later_cell (B := W1.heap.size) x4 hx1
      repeat (change wpQuiet _ _ _ _ (List.cons _ _) _; go_big_quiet_step (fail))
      refine wpQuiet_nil ?_
      first | (rintro _ ⟨X, rfl⟩) | (intro X)
      have hX := X.h
      clear u0 u1 u2 u3 u4 v0 v1 v2 v3 v4
      generalize X.x = W2 at *
      clear X
      replace y0 := cell_lt hX y0 hg1
      replace y1 := cell_lt hX y1 hg1
      replace y2 := cell_lt hX y2 hg1
      replace y3 := cell_lt hX y3 hg1
      replace y4 := cell_lt hX y4 hg1
      replace x0 := cell_lt hX x0 hx1
      replace x1 := cell_lt hX x1 hx1
      replace x2 := cell_lt hX x2 hx1
      replace x3 := cell_lt hX x3 hx1
      replace x4 := cell_lt hX x4 hx1
      have hg2 : g < W2.heap.size := Nat.lt_of_lt_of_le hg1 hX.size
      have hx2 : W.heap.size < W2.heap.size := Nat.lt_of_lt_of_le hx1 hX.size
      obtain ⟨hP2, hF2⟩ := parts_later hP1 hX
      have hv2 : Boxed W2 lb 37 (.slice (some ⟨g, 0, none⟩) (l.length + 1) c) := (hX.block lb hv1.lt).trans hv1
      have hr2 := hr1.below hX (Nat.le_refl _)
      have hB2 := bthen hB1 hX
      clear hX
      go_wp2_with fail
      refine region_later W2.heap.size W2 (Below.refl _ _) (by kernel_rfl) (by kernel_rfl) ?_
      have u0 := later_cell (B := W2.heap.size) y0 hg2
      have u1 := later_cell (B := W2.heap.size) y1 hg2
      have u2 := later_cell (B := W2.heap.size) y2 hg2
      have u3 := later_cell (B := W2.heap.size) y3 hg2
      have u4 := later_cell (B := W2.heap.size) y4 hg2
      have v0 := later_cell (B := W2.heap.size) x0 hx2
      have v1 := later_cell (B := W2.heap.size) x1 hx2
      have v2 := later_cell (B := W2.heap.size) x2 hx2
      have v3 := later_cell (B := W2.heap.size) x3 hx2
      have v4 := later_cell (B := W2.heap.size) x4 hx2
      repeat (change wpQuiet _ _ _ _ (List.cons _ _) _; go_big_quiet_step (fail))
      refine wpQuiet_nil ?_
      first | (rintro _ ⟨X, rfl⟩) | (intro X)
      have hX := X.h
      clear u0 u1 u2 u3 u4 v0 v1 v2 v3 v4
      generalize X.x = W3 at *
      clear X
      replace y0 := cell_lt hX y0 hg2
      replace y1 := cell_lt hX y1 hg2
      replace y2 := cell_lt hX y2 hg2
      replace y3 := cell_lt hX y3 hg2
      replace y4 := cell_lt hX y4 hg2
      replace x0 := cell_lt hX x0 hx2
      replace x1 := cell_lt hX x1 hx2
      replace x2 := cell_lt hX x2 hx2
      replace x3 := cell_lt hX x3 hx2
      replace x4 := cell_lt hX x4 hx2
      have hg3 : g < W3.heap.size := Nat.lt_of_lt_of_le hg2 hX.size
      have hx3 : W.heap.size < W3.heap.size := Nat.lt_of_lt_of_le hx2 hX.size
      obtain ⟨hP3, hF3⟩ := parts_later hP2 hX
      have hv3 : Boxed W3 lb 37 (.slice (some ⟨g, 0, none⟩) (l.length + 1) c) := (hX.block lb hv2.lt).trans hv2
      have hr3 := hr2.below hX (Nat.le_refl _)
      have hB3 := bthen hB2 hX
      clear hX
      have hc3 := hv3.cell
      have hnr : some lb ≠ (Value.slice (some ⟨g, 0, none⟩) (l.length + 1) c).ownBlock := hv3.not_row (by decide) hr3
      go_wp2_with (at_builtin; refine wpl_append_map_at rfl _ _ 37 rfl n0 42 infoMapS Tryd.underlying37 (.slice (some ⟨g, 0, none⟩) (l.length + 1) c) (l ++ [y]) [x] rfl rfl ?_ ?_ ?_ ?_ ?_ ?_ ?_; (focus (exact hr3)); (focus rfl); (focus (first | rfl | (simp; done))); (focus rfl); (focus (simp; omega)); (focus (have := hB3.size; omega)); intro v' w6 hown' hat hgrow; have hv6 : Boxed w6 lb 37 (.slice (some ⟨g, 0, none⟩) (l.length + 1) c) := (hv3.alloc _).kept hgrow hnr; have hc6 := hv6.cell; have hf6 := hv6.frozen; obtain ⟨a6, c6, rfl⟩ := rowSlice hown')
      go_end0
      obtain ⟨h1, h2⟩ := parts_app1 hb hv3 hr3 hgrow hown' hat
      rw [show (l ++ [y] ++ [x]).length = l.length + 2 by simp] at h1 h2
      have e := hadd.out
      exact ⟨⟨_, rfl⟩, by rw [e]; exact h1, (hF1.trans (hF2.trans hF3)).trans h2⟩
    · rcases k3 with _ | _
      · refine region_later W1.heap.size W1 (Below.refl _ _) (by kernel_rfl) (by kernel_rfl) ?_
        have u0 := later_cell (B := W1.heap.size) y0 hg1
        have u1 := later_cell (B := W1.heap.size) y1 hg1
        have u2 := later_cell (B := W1.heap.size) y2 hg1
        have u3 := later_cell (B := W1.heap.size) y3 hg1
        have u4 := later_cell (B := W1.heap.size) y4 hg1
        have v0 := later_cell (B := W1.heap.size) x0 hx1
        have v1 := later_cell (B := W1.heap.size) x1 hx1
        have v2 := later_cell (B := W1.heap.size) x2 hx1
        have v3 := later_cell (B := W1.heap.size) x3 hx1
        have v4 := later_cell (B := W1.heap.size) x4 hx1
        repeat (change wpQuiet _ _ _ _ (List.cons _ _) _; go_big_quiet_step (fail))
        refine wpQuiet_nil ?_
        first | (rintro _ ⟨X, rfl⟩) | (intro X)
        have hX := X.h
        clear u0 u1 u2 u3 u4 v0 v1 v2 v3 v4
        generalize X.x = W2 at *
        clear X
        replace y0 := cell_lt hX y0 hg1
        replace y1 := cell_lt hX y1 hg1
        replace y2 := cell_lt hX y2 hg1
        replace y3 := cell_lt hX y3 hg1
        replace y4 := cell_lt hX y4 hg1
        replace x0 := cell_lt hX x0 hx1
        replace x1 := cell_lt hX x1 hx1
        replace x2 := cell_lt hX x2 hx1
        replace x3 := cell_lt hX x3 hx1
        replace x4 := cell_lt hX x4 hx1
        have hg2 : g < W2.heap.size := Nat.lt_of_lt_of_le hg1 hX.size
        have hx2 : W.heap.size < W2.heap.size := Nat.lt_of_lt_of_le hx1 hX.size
        obtain ⟨hP2, hF2⟩ := parts_later hP1 hX
        have hv2 : Boxed W2 lb 37 (.slice (some ⟨g, 0, none⟩) (l.length + 1) c) := (hX.block lb hv1.lt).trans hv1
        have hr2 := hr1.below hX (Nat.le_refl _)
        have hB2 := bthen hB1 hX
        clear hX
        go_wp2_with fail
        refine region_later W2.heap.size W2 (Below.refl _ _) (by kernel_rfl) (by kernel_rfl) ?_
        have u0 := later_cell (B := W2.heap.size) y0 hg2
        have u1 := later_cell (B := W2.heap.size) y1 hg2
        have u2 := later_cell (B := W2.heap.size) y2 hg2
        have u3 := later_cell (B := W2.heap.size) y3 hg2
        have u4 := later_cell (B := W2.heap.size) y4 hg2
        have v0 := later_cell (B := W2.heap.size) x0 hx2
        have v1 := later_cell (B := W2.heap.size) x1 hx2
        have v2 := later_cell (B := W2.heap.size) x2 hx2
        have v3 := later_cell (B := W2.heap.size) x3 hx2
        have v4 := later_cell (B := W2.heap.size) x4 hx2
        repeat (change wpQuiet _ _ _ _ (List.cons _ _) _; go_big_quiet_step (fail))
        refine wpQuiet_nil ?_
        first | (rintro _ ⟨X, rfl⟩) | (intro X)
        have hX := X.h
        clear u0 u1 u2 u3 u4 v0 v1 v2 v3 v4
        generalize X.x = W3 at *
        clear X
        replace y0 := cell_lt hX y0 hg2
        replace y1 := cell_lt hX y1 hg2
        replace y2 := cell_lt hX y2 hg2
        replace y3 := cell_lt hX y3 hg2
        replace y4 := cell_lt hX y4 hg2
        replace x0 := cell_lt hX x0 hx2
        replace x1 := cell_lt hX x1 hx2
        replace x2 := cell_lt hX x2 hx2
        replace x3 := cell_lt hX x3 hx2
        replace x4 := cell_lt hX x4 hx2
        have hg3 : g < W3.heap.size := Nat.lt_of_lt_of_le hg2 hX.size
        have hx3 : W.heap.size < W3.heap.size := Nat.lt_of_lt_of_le hx2 hX.size
        obtain ⟨hP3, hF3⟩ := parts_later hP2 hX
        have hv3 : Boxed W3 lb 37 (.slice (some ⟨g, 0, none⟩) (l.length + 1) c) := (hX.block lb hv2.lt).trans hv2
        have hr3 := hr2.below hX (Nat.le_refl _)
        have hB3 := bthen hB2 hX
        clear hX
        have hc3 := hv3.cell
        have hnr : some lb ≠ (Value.slice (some ⟨g, 0, none⟩) (l.length + 1) c).ownBlock := hv3.not_row (by decide) hr3
        go_wp2_with (at_builtin; refine wpl_append_map_at rfl _ _ 37 rfl n0 42 infoMapS Tryd.underlying37 (.slice (some ⟨g, 0, none⟩) (l.length + 1) c) (l ++ [y]) [x] rfl rfl ?_ ?_ ?_ ?_ ?_ ?_ ?_; (focus (exact hr3)); (focus rfl); (focus (first | rfl | (simp; done))); (focus rfl); (focus (simp; omega)); (focus (have := hB3.size; omega)); intro v' w6 hown' hat hgrow; have hv6 : Boxed w6 lb 37 (.slice (some ⟨g, 0, none⟩) (l.length + 1) c) := (hv3.alloc _).kept hgrow hnr; have hc6 := hv6.cell; have hf6 := hv6.frozen; obtain ⟨a6, c6, rfl⟩ := rowSlice hown')
        go_end0
        obtain ⟨h1, h2⟩ := parts_app1 hb hv3 hr3 hgrow hown' hat
        rw [show (l ++ [y] ++ [x]).length = l.length + 2 by simp] at h1 h2
        have e := hadd.out
        exact ⟨⟨_, rfl⟩, by rw [e]; exact h1, (hF1.trans (hF2.trans hF3)).trans h2⟩
      · rcases k4 with _ | _
        · refine region_later W1.heap.size W1 (Below.refl _ _) (by kernel_rfl) (by kernel_rfl) ?_
          have u0 := later_cell (B := W1.heap.size) y0 hg1
          have u1 := later_cell (B := W1.heap.size) y1 hg1
          have u2 := later_cell (B := W1.heap.size) y2 hg1
          have u3 := later_cell (B := W1.heap.size) y3 hg1
          have u4 := later_cell (B := W1.heap.size) y4 hg1
          have v0 := later_cell (B := W1.heap.size) x0 hx1
          have v1 := later_cell (B := W1.heap.size) x1 hx1
          have v2 := later_cell (B := W1.heap.size) x2 hx1
          have v3 := later_cell (B := W1.heap.size) x3 hx1
          have v4 := later_cell (B := W1.heap.size) x4 hx1
          repeat (change wpQuiet _ _ _ _ (List.cons _ _) _; go_big_quiet_step (fail))
          refine wpQuiet_nil ?_
          first | (rintro _ ⟨X, rfl⟩) | (intro X)
          have hX := X.h
          clear u0 u1 u2 u3 u4 v0 v1 v2 v3 v4
          generalize X.x = W2 at *
          clear X
          replace y0 := cell_lt hX y0 hg1
          replace y1 := cell_lt hX y1 hg1
          replace y2 := cell_lt hX y2 hg1
          replace y3 := cell_lt hX y3 hg1
          replace y4 := cell_lt hX y4 hg1
          replace x0 := cell_lt hX x0 hx1
          replace x1 := cell_lt hX x1 hx1
          replace x2 := cell_lt hX x2 hx1
          replace x3 := cell_lt hX x3 hx1
          replace x4 := cell_lt hX x4 hx1
          have hg2 : g < W2.heap.size := Nat.lt_of_lt_of_le hg1 hX.size
          have hx2 : W.heap.size < W2.heap.size := Nat.lt_of_lt_of_le hx1 hX.size
          obtain ⟨hP2, hF2⟩ := parts_later hP1 hX
          have hv2 : Boxed W2 lb 37 (.slice (some ⟨g, 0, none⟩) (l.length + 1) c) := (hX.block lb hv1.lt).trans hv1
          have hr2 := hr1.below hX (Nat.le_refl _)
          have hB2 := bthen hB1 hX
          clear hX
          go_wp2_with fail
          refine region_later W2.heap.size W2 (Below.refl _ _) (by kernel_rfl) (by kernel_rfl) ?_
          have u0 := later_cell (B := W2.heap.size) y0 hg2
          have u1 := later_cell (B := W2.heap.size) y1 hg2
          have u2 := later_cell (B := W2.heap.size) y2 hg2
          have u3 := later_cell (B := W2.heap.size) y3 hg2
          have u4 := later_cell (B := W2.heap.size) y4 hg2
          have v0 := later_cell (B := W2.heap.size) x0 hx2
          have v1 := later_cell (B := W2.heap.size) x1 hx2
          have v2 := later_cell (B := W2.heap.size) x2 hx2
          have v3 := later_cell (B := W2.heap.size) x3 hx2
          have v4 := later_cell (B := W2.heap.size) x4 hx2
          repeat (change wpQuiet _ _ _ _ (List.cons _ _) _; go_big_quiet_step (fail))
          refine wpQuiet_nil ?_
          first | (rintro _ ⟨X, rfl⟩) | (intro X)
          have hX := X.h
          clear u0 u1 u2 u3 u4 v0 v1 v2 v3 v4
          generalize X.x = W3 at *
          clear X
          replace y0 := cell_lt hX y0 hg2
          replace y1 := cell_lt hX y1 hg2
          replace y2 := cell_lt hX y2 hg2
          replace y3 := cell_lt hX y3 hg2
          replace y4 := cell_lt hX y4 hg2
          replace x0 := cell_lt hX x0 hx2
          replace x1 := cell_lt hX x1 hx2
          replace x2 := cell_lt hX x2 hx2
          replace x3 := cell_lt hX x3 hx2
          replace x4 := cell_lt hX x4 hx2
          have hg3 : g < W3.heap.size := Nat.lt_of_lt_of_le hg2 hX.size
          have hx3 : W.heap.size < W3.heap.size := Nat.lt_of_lt_of_le hx2 hX.size
          obtain ⟨hP3, hF3⟩ := parts_later hP2 hX
          have hv3 : Boxed W3 lb 37 (.slice (some ⟨g, 0, none⟩) (l.length + 1) c) := (hX.block lb hv2.lt).trans hv2
          have hr3 := hr2.below hX (Nat.le_refl _)
          have hB3 := bthen hB2 hX
          clear hX
          have hc3 := hv3.cell
          have hnr : some lb ≠ (Value.slice (some ⟨g, 0, none⟩) (l.length + 1) c).ownBlock := hv3.not_row (by decide) hr3
          go_wp2_with (at_builtin; refine wpl_append_map_at rfl _ _ 37 rfl n0 42 infoMapS Tryd.underlying37 (.slice (some ⟨g, 0, none⟩) (l.length + 1) c) (l ++ [y]) [x] rfl rfl ?_ ?_ ?_ ?_ ?_ ?_ ?_; (focus (exact hr3)); (focus rfl); (focus (first | rfl | (simp; done))); (focus rfl); (focus (simp; omega)); (focus (have := hB3.size; omega)); intro v' w6 hown' hat hgrow; have hv6 : Boxed w6 lb 37 (.slice (some ⟨g, 0, none⟩) (l.length + 1) c) := (hv3.alloc _).kept hgrow hnr; have hc6 := hv6.cell; have hf6 := hv6.frozen; obtain ⟨a6, c6, rfl⟩ := rowSlice hown')
          go_end0
          obtain ⟨h1, h2⟩ := parts_app1 hb hv3 hr3 hgrow hown' hat
          rw [show (l ++ [y] ++ [x]).length = l.length + 2 by simp] at h1 h2
          have e := hadd.out
          exact ⟨⟨_, rfl⟩, by rw [e]; exact h1, (hF1.trans (hF2.trans hF3)).trans h2⟩
        · refine region_later W1.heap.size W1 (Below.refl _ _) (by kernel_rfl) (by kernel_rfl) ?_
          have u0 := later_cell (B := W1.heap.size) y0 hg1
          have u1 := later_cell (B := W1.heap.size) y1 hg1
          have u2 := later_cell (B := W1.heap.size) y2 hg1
          have u3 := later_cell (B := W1.heap.size) y3 hg1
          have u4 := later_cell (B := W1.heap.size) y4 hg1
          have v0 := later_cell (B := W1.heap.size) x0 hx1
          have v1 := later_cell (B := W1.heap.size) x1 hx1
          have v2 := later_cell (B := W1.heap.size) x2 hx1
          have v3 := later_cell (B := W1.heap.size) x3 hx1
          have v4 := later_cell (B := W1.heap.size) x4 hx1
          repeat (change wpQuiet _ _ _ _ (List.cons _ _) _; go_big_quiet_step (fail))
          refine wpQuiet_nil ?_
          first | (rintro _ ⟨X, rfl⟩) | (intro X)
          have hX := X.h
          clear u0 u1 u2 u3 u4 v0 v1 v2 v3 v4
          generalize X.x = W2 at *
          clear X
          replace y0 := cell_lt hX y0 hg1
          replace y1 := cell_lt hX y1 hg1
          replace y2 := cell_lt hX y2 hg1
          replace y3 := cell_lt hX y3 hg1
          replace y4 := cell_lt hX y4 hg1
          replace x0 := cell_lt hX x0 hx1
          replace x1 := cell_lt hX x1 hx1
          replace x2 := cell_lt hX x2 hx1
          replace x3 := cell_lt hX x3 hx1
          replace x4 := cell_lt hX x4 hx1
          have hg2 : g < W2.heap.size := Nat.lt_of_lt_of_le hg1 hX.size
          have hx2 : W.heap.size < W2.heap.size := Nat.lt_of_lt_of_le hx1 hX.size
          obtain ⟨hP2, hF2⟩ := parts_later hP1 hX
          have hv2 : Boxed W2 lb 37 (.slice (some ⟨g, 0, none⟩) (l.length + 1) c) := (hX.block lb hv1.lt).trans hv1
          have hr2 := hr1.below hX (Nat.le_refl _)
          have hB2 := bthen hB1 hX
          clear hX
          go_wp2_with fail
          refine region_later W2.heap.size W2 (Below.refl _ _) (by kernel_rfl) (by kernel_rfl) ?_
          have u0 := later_cell (B := W2.heap.size) y0 hg2
          have u1 := later_cell (B := W2.heap.size) y1 hg2
          have u2 := later_cell (B := W2.heap.size) y2 hg2
          have u3 := later_cell (B := W2.heap.size) y3 hg2
          have u4 := later_cell (B := W2.heap.size) y4 hg2
          have v0 := later_cell (B := W2.heap.size) x0 hx2
          have v1 := later_cell (B := W2.heap.size) x1 hx2
          have v2 := later_cell (B := W2.heap.size) x2 hx2
          have v3 := later_cell (B := W2.heap.size) x3 hx2
          have v4 := later_cell (B := W2.heap.size) x4 hx2
          repeat (change wpQuiet _ _ _ _ (List.cons _ _) _; go_big_quiet_step (fail))
          refine wpQuiet_nil ?_
          first | (rintro _ ⟨X, rfl⟩) | (intro X)
          have hX := X.h
          clear u0 u1 u2 u3 u4 v0 v1 v2 v3 v4
          generalize X.x = W3 at *
          clear X
          replace y0 := cell_lt hX y0 hg2
          replace y1 := cell_lt hX y1 hg2
          replace y2 := cell_lt hX y2 hg2
          replace y3 := cell_lt hX y3 hg2
          replace y4 := cell_lt hX y4 hg2
          replace x0 := cell_lt hX x0 hx2
          replace x1 := cell_lt hX x1 hx2
          replace x2 := cell_lt hX x2 hx2
          replace x3 := cell_lt hX x3 hx2
          replace x4 := cell_lt hX x4 hx2
          have hg3 : g < W3.heap.size := Nat.lt_of_lt_of_le hg2 hX.size
          have hx3 : W.heap.size < W3.heap.size := Nat.lt_of_lt_of_le hx2 hX.size
          obtain ⟨hP3, hF3⟩ := parts_later hP2 hX
          have hv3 : Boxed W3 lb 37 (.slice (some ⟨g, 0, none⟩) (l.length + 1) c) := (hX.block lb hv2.lt).trans hv2
          have hr3 := hr2.below hX (Nat.le_refl _)
          have hB3 := bthen hB2 hX
          clear hX
          go_wp2_with fail
          refine region_later_tail W3.heap.size W3 9 (Below.refl _ _) (by kernel_rfl) (by kernel_rfl) ?_
          simp only [List.take_succ_cons, List.take_zero, List.drop_succ_cons, List.drop_zero]
          have u0 := later_cell (B := W3.heap.size) y0 hg3
          have u1 := later_cell (B := W3.heap.size) y1 hg3
          have u2 := later_cell (B := W3.heap.size) y2 hg3
          have u3 := later_cell (B := W3.heap.size) y3 hg3
          have u4 := later_cell (B := W3.heap.size) y4 hg3
          have v0 := later_cell (B := W3.heap.size) x0 hx3
          have v1 := later_cell (B := W3.heap.size) x1 hx3
          have v2 := later_cell (B := W3.heap.size) x2 hx3
          have v3 := later_cell (B := W3.heap.size) x3 hx3
          have v4 := later_cell (B := W3.heap.size) x4 hx3
          repeat (change wpQuiet _ _ _ _ (List.cons _ _) _; go_big_quiet_step (fail))
          refine wpQuiet_nil ?_
          first | (rintro _ ⟨X, rfl⟩) | (intro X)
          have hX := X.h
          clear u0 u1 u2 u3 u4 v0 v1 v2 v3 v4
          generalize X.x = W4 at *
          clear X
          obtain ⟨hP4, hF4⟩ := parts_later hP3 hX
          have hv4 : Boxed W4 lb 37 (.slice (some ⟨g, 0, none⟩) (l.length + 1) c) := (hX.block lb hv3.lt).trans hv3
          have hr4 := hr3.below hX (Nat.le_refl _)
          have hgo : (W4.heap[g]?).isSome := by rw [Array.getElem?_eq_getElem (Nat.lt_of_lt_of_le hg3 hX.size)]; rfl
          have c2 := cell_lt hX y2 hg3
          have hfz : W4.frozen? ⟨g, l.length * 5 + 2, none⟩ = false := by
            have h5 : W4.ownsRow n0 42 5 (.slice (some ⟨g, 0, none⟩) (l.length + 1) c) (l.length + 1) (encM (l ++ [y])) := hll.out ▸ hr4
            exact World.ownsRow.frozenAt h5 _
          obtain ⟨h1, h2⟩ := parts_put (x := x) hb hv4 hr4
          have hlg : (longer y x).sz = IntKind.u64.wrap (y.sz + x.sz) := rfl
          go_wp2_with fail
          have e := hadd.out
          refine bodyPost_ret (results_none rfl _ _ _) rfl ?_
          exact ⟨⟨_, rfl⟩, by rw [e]; exact h1, (hF1.trans (hF2.trans (hF3.trans hF4))).trans h2⟩
theorem parts_puts (n0 lb : Nat) : Puts (partsZ n0 lb) 29 #[.pointer (some ⟨lb, 0, none⟩)] := by
  refine ⟨enters_of Tryd.func29 (by kernel_rfl) rfl, fun x s W hI hn hl => ?_⟩
  show Calls Tryd.prog 29 #[.agg #[.int .u64 x.ipa, .int .u64 x.pa, .int .u64 x.sz, .int .i64 x.perm, .int .i64 x.kind], .pointer (some ⟨lb, 0, none⟩)] W fun e W' => (∃ v, e = .returned v) ∧ PartsI n0 lb (addM s x) W' ∧ Fr (OwnL lb) W W'
  rcases List.eq_nil_or_concat s with rfl | ⟨l, y, rfl⟩
  · exact parts_nil n0 lb x W hI hn
  · rw [List.concat_eq_append] at hI hl ⊢
    exact parts_snoc n0 lb l y x W hI hn (by rw [List.length_append] at hl; omega)
end Go.Proofs.YtdlpgonpikflfaaDoor
