/- The walks of cfg's writer: four, eight, two. -/
import Derived.Test.YtffdfeekpfmbeaaGreatValidChecksP19
import Derived.Test.YtffdfeekpfmbeaaGreatValidChecksP21
namespace Go.Proofs.YtffdfeekpfmbeaaGreat
open Go Go.RowKit Go.BigFrame

/-- The writer: its variable, and so many bytes of its own. -/
structure Wr (W : World) (wb B n : Nat) (v : Value) : Prop where
  blk : W.heap[wb]? = some (.cells #[v] 113 (0, 0))
  own : OwnN W B v n
theorem Wr.lt {W : World} {wb B n : Nat} {v : Value} (h : Wr W wb B n v) : wb < W.heap.size := (Array.getElem?_eq_some_iff.1 h.blk).1
theorem Wr.cell {W : World} {wb B n : Nat} {v : Value} (h : Wr W wb B n v) : W.cell? ⟨wb, 0, none⟩ = some v := by simp [World.cell?, h.blk]
theorem Wr.below {W W' : World} {wb B n : Nat} {v : Value} (h : Wr W wb B n v) (hb : Below W.heap.size W W') : Wr W' wb B n v := ⟨(hb.block wb h.lt).trans h.blk, h.own.below hb⟩
theorem OwnN.base {W : World} {base base' : Nat} {v : Value} {n : Nat} (h : OwnN W base v n) (hb : base' ≤ base) : OwnN W base' v n := by
  obtain ⟨xs, ⟨hl, hc⟩, hone⟩ := h
  refine ⟨xs, ⟨hl, ?_⟩, hone⟩
  rcases hc with hc | ⟨g, cap, cur, rfl, h1, hg⟩
  · exact .inl hc
  · exact .inr ⟨g, cap, cur, rfl, Nat.le_trans hb h1, hg⟩
theorem OwnN.set_other {W : World} {base xb o : Nat} {v u : Value} {n : Nat} (h : OwnN W base v n) (hne : v.ownBlock ≠ some xb) : OwnN (W.setCell ⟨xb, o, none⟩ u) base v n := by
  obtain ⟨xs, ⟨hl, hc⟩, hone⟩ := h
  refine ⟨xs, ⟨hl, ?_⟩, hone⟩
  rcases hc with hc | ⟨g, cap, cur, rfl, h1, hg, hr⟩
  · exact .inl hc
  · exact .inr ⟨g, cap, cur, rfl, h1, (setCell_other (fun e => hne (by rw [← e]; rfl))).trans hg, hr⟩
theorem wr_u8 : 113 ≠ 5 := by decide
theorem OwnN.ne {W : World} {xb : Nat} {cells : Array Value} {T : TypeId} {base : Nat} {v : Value} {n : Nat} (h : W.heap[xb]? = some (.cells cells T (0, 0))) (hne : T ≠ 5) (ho : OwnN W base v n) : v.ownBlock ≠ some xb := by
  obtain ⟨_, ⟨_, ⟨rfl, _⟩ | ⟨g, cap, cur, rfl, _, hg, _⟩⟩, _⟩ := ho
  · simp [Value.ownBlock]
  · intro e
    injection e with e
    have e : g = xb := e
    subst e
    rw [h] at hg
    injection hg with hg
    injection hg with _ hg
    exact hne hg
/-- What the writer turns. -/
structure WT (B wb : Nat) (v v' : Value) (W W' : World) : Prop where
  off : OffV B (wb :: v.ownBlock.toList) W W'
  blk : ∀ k, v'.ownBlock = some k → v.ownBlock = some k ∨ W.heap.size ≤ k
theorem WT.refl (B wb : Nat) (v : Value) (W : World) : WT B wb v v W W := ⟨OffV.refl _ _ _, fun _ h => .inl h⟩
theorem WT.trans {B wb : Nat} {v v' v'' : Value} {X Y Z : World} (h : WT B wb v v' X Y) (k : WT B wb v' v'' Y Z) : WT B wb v v'' X Z := by
  refine ⟨h.off.trans k.off fun b hb => ?_, fun q hq => ?_⟩
  · rcases List.mem_cons.1 hb with rfl | hb
    · exact .inl (by simp)
    · rw [Option.mem_toList] at hb
      rcases h.blk b hb with e | e
      · exact .inl (by rw [List.mem_cons, e]; right; simp)
      · exact .inr e
  · rcases k.blk q hq with e | e
    · exact h.blk q e
    · exact .inr (Nat.le_trans h.off.below.size e)
theorem WT.then {B wb : Nat} {v v' : Value} {X Y Z : World} (h : WT B wb v v' X Y) (k : Below Y.heap.size Y Z) (hB : B ≤ X.heap.size) : WT B wb v v' X Z := ⟨h.off.then k hB, h.blk⟩
theorem WT.of_below {B wb : Nat} {v : Value} {X Y : World} (h : Below X.heap.size X Y) (hB : B ≤ X.heap.size) : WT B wb v v X Y := ⟨OffV.of_below h hB, fun _ h => .inl h⟩
/-- A block that is neither the writer's variable nor its bytes. -/
theorem WT.keep {B wb b : Nat} {v v' : Value} {X Y : World} (h : WT B wb v v' X Y) (hb : b < X.heap.size) (h1 : b ≠ wb) (h2 : v.ownBlock ≠ some b) : Y.heap[b]? = X.heap[b]? ∧ v'.ownBlock ≠ some b :=
  ⟨h.off.rest b hb (by
    intro e
    rcases List.mem_cons.1 e with e | e
    · exact h1 e
    · rw [Option.mem_toList] at e; exact h2 e), fun e => by
    rcases h.blk b e with e | e
    · exact h2 e
    · omega⟩
theorem RowV.keep {B wb : Nat} {v v' : Value} {X Y : World} {u : Value} {ys : List Value} {b off cap : Nat} (h : WT B wb v v' X Y) (hu : u = .slice (some ⟨b, off, none⟩) ys.length cap) (hb : b < X.heap.size) (h1 : b ≠ wb) (h2 : v.ownBlock ≠ some b) (hc : ∀ j y, ys[j]? = some y → X.cell? ⟨b, off + j, none⟩ = some y) : RowV Y u ys :=
  ⟨_, _, hu, fun _ => ⟨b, off, rfl, Nat.lt_of_lt_of_le hb h.off.below.size, fun j y hy => heapc (h.keep hb h1 h2).1 (hc j y hy)⟩⟩

/-- More bytes, and the variable stored. -/
theorem Wr.stored {W X Y : World} {wb B m m2 : Nat} {v v2 : Value} (h : Wr W wb B m v) (hb : Below W.heap.size W X) (hgr : X.grownBy Y v.ownBlock) (hown : OwnN Y B v2 m2) (hat : v2.ownBlock = v.ownBlock ∨ v2.ownBlock = some X.heap.size) (hB : B ≤ W.heap.size) (hBx : B ≤ wb) :
    Wr (Y.setCell ⟨wb, 0, none⟩ v2) wb B m2 v2 ∧ WT B wb v v2 W (Y.setCell ⟨wb, 0, none⟩ v2) := by
  have hwl := h.lt
  have hne := h.own.ne h.blk wr_u8
  have hk : Y.heap[wb]? = some (.cells #[v] 113 (0, 0)) := (hgr.block wb (by have := hb.size; omega) (fun e => hne e.symm)).trans ((hb.block wb hwl).trans h.blk)
  refine ⟨⟨(setCell_at hk 0 _).trans rfl, hown.set_other (hown.ne hk wr_u8)⟩, OffV.set ?_ (.inl (by simp)) hBx, fun q hq => ?_⟩
  · refine ⟨(hb.mono hB).grown hgr (by have := hb.size; omega) (fun q hq => (h.own.lt q hq).1), fun q hq hn => ?_⟩
    refine (hgr.block q (by have := hb.size; omega) fun e => hn ?_).trans (hb.block q hq)
    rw [List.mem_cons]; right; rw [← e]; simp
  · rcases hat with e | e
    · exact .inl (by rw [← e]; exact hq)
    · rw [e] at hq
      injection hq with hq
      exact .inr (by rw [← hq]; exact hb.size)
set_option maxHeartbeats 1000000 in
theorem four_any (wb B n : Nat) (v vl : Value) (ls : List Int) (w : World) (hw : Wr w wb B n v) (hl : RowV w vl (ls.map (Value.int .u32))) (hn : n ≤ 10000000 ∧ ls.length ≤ 10000) (hBw : B ≤ w.heap.size) (hBx : B ≤ wb) :
    Calls Tryz.prog 52 #[.pointer (some ⟨wb, 0, none⟩), vl] w fun e w' => ∃ v', e = .returned (.tuple #[]) ∧ Wr w' wb B (n + 4 * ls.length) v' ∧ WT B wb v v' w w' := by
  obtain ⟨ys, hyl, hrow, hone⟩ := hw.own.row
  subst hyl
  have h := be32_len v vl ys ls w hrow hone hl hn
  have hc := hw.cell
  have hwl := hw.lt
  obtain ⟨a, cap, hvv⟩ := hw.own.slice
  subst hvv
  go_enter Tryz.func52, Tryz.ntmps52
  go_wp2_with fail
  refine h.mono ?_; rintro e w1 ⟨r, rfl, hown, hb1⟩
  have hk := (hb1.block wb hwl).trans hw.blk
  have hf : w1.frozen? ⟨wb, 0, none⟩ = false := by simp [World.frozen?, hk]
  have hc1 : w1.cell? ⟨wb, 0, none⟩ = some (.slice a ys.length cap) := by simp [World.cell?, hk]
  obtain ⟨a2, c2, rfl⟩ := hown.slice
  go_wp2_with fail
  go_end0
  refine ⟨_, rfl, ⟨(setCell_at hk 0 _).trans rfl, ?_⟩, ?_, ?_⟩
  · exact (hown.base hBw).set_other (hown.ne hk wr_u8)
  · exact (OffV.of_below hb1 hBw).set (.inl (by simp)) hBx
  · intro q hq
    exact .inr (hown.lt q hq).1
set_option maxHeartbeats 1000000 in
theorem eight_any (wb B n : Nat) (v vl : Value) (ls : List Int) (w : World) (hw : Wr w wb B n v) (hl : RowV w vl (ls.map (Value.int .u64))) (hn : n ≤ 10000000 ∧ ls.length ≤ 10000) (hBw : B ≤ w.heap.size) (hBx : B ≤ wb) :
    Calls Tryz.prog 55 #[.pointer (some ⟨wb, 0, none⟩), vl] w fun e w' => ∃ v', e = .returned (.tuple #[]) ∧ Wr w' wb B (n + 8 * ls.length) v' ∧ WT B wb v v' w w' := by
  obtain ⟨ys, hyl, hrow, hone⟩ := hw.own.row
  subst hyl
  have h := be64_len v vl ys ls w hrow hone hl hn
  have hc := hw.cell
  have hwl := hw.lt
  obtain ⟨a, cap, hvv⟩ := hw.own.slice
  subst hvv
  go_enter Tryz.func55, Tryz.ntmps55
  go_wp2_with fail
  refine h.mono ?_; rintro e w1 ⟨r, rfl, hown, hb1⟩
  have hk := (hb1.block wb hwl).trans hw.blk
  have hf : w1.frozen? ⟨wb, 0, none⟩ = false := by simp [World.frozen?, hk]
  have hc1 : w1.cell? ⟨wb, 0, none⟩ = some (.slice a ys.length cap) := by simp [World.cell?, hk]
  obtain ⟨a2, c2, rfl⟩ := hown.slice
  go_wp2_with fail
  go_end0
  refine ⟨_, rfl, ⟨(setCell_at hk 0 _).trans rfl, ?_⟩, ?_, ?_⟩
  · exact (hown.base hBw).set_other (hown.ne hk wr_u8)
  · exact (OffV.of_below hb1 hBw).set (.inl (by simp)) hBx
  · intro q hq
    exact .inr (hown.lt q hq).1
set_option maxHeartbeats 2000000 in
theorem two_any (wb B n : Nat) (v vl : Value) (ls : List Int) (w : World) (hw : Wr w wb B n v) (hl : RowV w vl (ls.map (Value.int .i64))) (hn : n ≤ 10000000 ∧ ls.length ≤ 10000) (hBw : B ≤ w.heap.size) (hBx : B ≤ wb) (hlw : ∀ b off c, vl = .slice (some ⟨b, off, none⟩) ls.length c → b ≠ wb ∧ v.ownBlock ≠ some b) :
    Calls Tryz.prog 53 #[.pointer (some ⟨wb, 0, none⟩), vl] w fun e w' => ∃ v', e = .returned (.tuple #[]) ∧ Wr w' wb B (n + 2 * ls.length) v' ∧ WT B wb v v' w w' := by
  obtain ⟨al, cl, hvl, hcl⟩ := hl
  rw [List.length_map] at hvl
  subst hvl
  go_enter Tryz.func53, Tryz.ntmps53
  go_wp2_with fail
  go_loopw [8] (fun i wr => ∃ (j : Nat) (v' : Value), j ≤ ls.length ∧ i = .int .i64 j ∧ Wr wr wb B (n + 2 * j) v' ∧ WT B wb v v' w wr) (fun i _ => ls.length - (intOf i).toNat)
  case atStart => exact ⟨0, v, Nat.zero_le _, rfl, hw, WT.refl _ _ _ _⟩
  case round =>
    obtain ⟨j, v', hj, rfl, hW, hT⟩ := hrel
    have hz := hT.off.below.size
    by_cases hlt : j < ls.length
    · obtain ⟨b, off, rfl, hbl, hc⟩ := hcl (by intro e; rw [List.map_eq_nil_iff] at e; rw [e] at hlt; simp at hlt)
      obtain ⟨hb1, hb2⟩ := hlw b off cl rfl
      have c0 := heapc (hT.keep hbl hb1 hb2).1 (hc j (.int .i64 ls[j]) (by simp [hlt]))
      generalize ls[j] = x at *
      have hcw := hW.cell
      have hwl := hW.lt
      have hol := hW.own.lt
      obtain ⟨av, cv, rfl⟩ := hW.own.slice
      have hne := hW.own.ne hW.blk wr_u8
      go_wp2_with (at_builtin; go_must (refine OwnN.app rfl _ _ rfl B (.slice av (n + 2 * j) cv) (.slice (some ⟨wr.heap.size, 0, none⟩) 2 2) (n + 2 * j) _ rfl rfl ?_ (RowV.lit wr _ 5) ?_ ?_ ?_ ?_ ?_); go_must (focus (exact hW.own.below (bone _ _))); go_must (focus (simp)); go_must (focus (intro y hy; simp at hy; rcases hy with rfl | rfl <;> rfl)); go_must (focus (simp; omega)); go_must (focus (simp; omega)); intro v2 w6 hown6 hgr hat; go_must (have hk6 := (hgr.block wb (by simp; omega) (fun e => hne e.symm)).trans (((bone wr _).block wb hwl).trans hW.blk)); go_must (have hf6 : w6.frozen? ⟨wb, 0, none⟩ = false := by simp [World.frozen?, hk6]); go_must (have hc6 : w6.cell? ⟨wb, 0, none⟩ = some (.slice av (n + 2 * j) cv) := by simp [World.cell?, hk6]); go_must (obtain ⟨a2, c2, rfl⟩ := hown6.slice))
      obtain ⟨hW2, hT2⟩ := hW.stored (bone wr _) hgr hown6 hat (Nat.le_trans hBw hz) hBx
      have e1 : n + 2 * (j + 1) = n + 2 * j + 2 := by omega
      exact ⟨⟨j + 1, _, by omega, by go_num, by rw [e1]; exact hW2, hT.trans hT2⟩, by simp [intOf]; omega⟩
    · obtain rfl : j = ls.length := by omega
      go_wp2_with fail
      go_end0
      exact ⟨v', rfl, hW, hT⟩
end Go.Proofs.YtffdfeekpfmbeaaGreat
