/- Swp: SwpP, SwpF, SwpA, SwpB, SwpC, SwpD, SwpE, SwpG, SwpH, SwpI, as one text. -/
import Derived.RangeFuncBox
import Derived.RangeFuncNested
import Derived.RangeFuncBound
import Derived.RangeFuncCalls
import Derived.RangeFuncLeaves
import Derived.Shelf.Abstract
import Derived.Shelf.RegionOpen
import Derived.WalkKit
import Derived.OwnWalkIn
import Derived.TacticsInMore
import Derived.LoopNIn
import Derived.LoopIn
import Derived.ControlIn
import Derived.Maps.OwnIn
import Derived.Maps.AppendAt
import Derived.Test.YtgihknfoncljbaaGreatDoorRingNoneP14
import Derived.Test.YtgihknfoncljbaaGreatDoorRingNoneP16
import Derived.Test.YtgihknfoncljbaaGreatDoorRingNoneP18
import Derived.Test.YtgihknfoncljbaaGreatDoorRingNoneP21
import Derived.Test.YtgihknfoncljbaaGreatDoorRingNoneP23
/-! A sweep of tables, in plain words: what is put, which tables are gone through, whether it is too long. -/
namespace Go.Proofs.YtgihknfoncljbaaGreatDoor
open Go

/-- A descriptor and its number. -/
structure PD where
  i : Nat
  d : DescV
def PD.args (x : PD) : Array Value := #[.int .u64 x.i, x.d.val]
/-- A sweep's state. -/
structure Sw (σ : Type) where
  tabs : List Int
  long : Bool
  st : σ
variable {σ : Type}
/-- What is put does not steer a sweep. -/
def Sw.map {τ : Type} (h : σ → τ) (s : Sw σ) : Sw τ := ⟨s.tabs, s.long, h s.st⟩
end Go.Proofs.YtgihknfoncljbaaGreatDoor
/-! What a sweep's steps leave as it lay: all but the blocks that it owns. -/
namespace Go.Proofs.YtgihknfoncljbaaGreatDoor
open Go Go.RowKit

/-- All but what is owned lies as it lay, and is not owned behind. -/
structure Fr (O : World → Nat → Prop) (W W' : World) : Prop where
  os : W'.os = W.os
  tape : W'.tape = W.tape
  output : W'.output = W.output
  size : W.heap.size ≤ W'.heap.size
  block : ∀ k, k < W.heap.size → ¬ O W k → W'.heap[k]? = W.heap[k]? ∧ ¬ O W' k
theorem Fr.refl (O : World → Nat → Prop) (W : World) : Fr O W W := ⟨rfl, rfl, rfl, Nat.le_refl _, fun _ _ h => ⟨rfl, h⟩⟩
theorem Fr.trans {O : World → Nat → Prop} {A B C : World} (h : Fr O A B) (k : Fr O B C) : Fr O A C :=
  ⟨k.os.trans h.os, k.tape.trans h.tape, k.output.trans h.output, Nat.le_trans h.size k.size, fun i hi ho => by
    obtain ⟨e1, o1⟩ := h.block i hi ho
    obtain ⟨e2, o2⟩ := k.block i (Nat.lt_of_lt_of_le hi h.size) o1
    exact ⟨e2.trans e1, o2⟩⟩
/-- What is owned lies from block 'n' on. -/
theorem Fr.below {O : World → Nat → Prop} {A B : World} (h : Fr O A B) {n : Nat} (hn : n ≤ A.heap.size) (ho : ∀ k, O A k → n ≤ k) : Below n A B :=
  ⟨h.os, h.tape, h.output, h.size, fun k hk => (h.block k (by omega) (fun e => by have := ho k e; omega)).1⟩
/-- Blocks that are owned are cells. -/
theorem Fr.keeps {O : World → Nat → Prop} {A B : World} (h : Fr O A B) (ho : ∀ k, O A k → ∃ o : Obj, A.heap[k]? = some o ∧ o.isCells = true) : KeepsOthers A B :=
  ⟨h.size, fun k o hk hc => (h.block k (Array.getElem?_eq_some_iff.1 hk).1 (fun e => by
    obtain ⟨o', h1, h2⟩ := ho k e
    rw [hk] at h1; cases h1; rw [hc] at h2; cases h2)).1.trans hk⟩
/-- What a slice in a cell owns. -/
def rowAt (a : Addr) (W : World) (k : Nat) : Prop := ∃ v, W.cell? a = some v ∧ v.ownBlock = some k
/-- What a walker owns: its own block, its row of tables. -/
def OwnW (wb : Nat) (W : World) (k : Nat) : Prop := k = wb ∨ rowAt ⟨wb, 1, none⟩ W k
def Both2 (O O' : World → Nat → Prop) (W : World) (k : Nat) : Prop := O W k ∨ O' W k

/-- A walker: its memory, the tables that it has gone through, whether they are too many. -/
structure WkP (wb n0 : Nat) (mp : Value) (E : TypeId) (T : TypeId) (W : World) (tabs : List Int) (long : Bool) : Prop where
  row : ∃ v, W.heap[wb]? = some (.cells #[mp, v, .bool long] T (0, 0)) ∧ W.ownsRow n0 E 1 v tabs.length (tabs.map (Value.int .u64))
  base : n0 ≤ wb
  ty : T ≠ E

theorem WkP.lt {wb n0 : Nat} {mp : Value} {E T : TypeId} {W : World} {tabs : List Int} {long : Bool} (h : WkP wb n0 mp E T W tabs long) : wb < W.heap.size := by
  obtain ⟨v, hv, _⟩ := h.row
  exact (Array.getElem?_eq_some_iff.1 hv).1
theorem WkP.own {wb n0 : Nat} {mp : Value} {E T : TypeId} {W : World} {tabs : List Int} {long : Bool} (h : WkP wb n0 mp E T W tabs long) {k : Nat} (ho : OwnW wb W k) : n0 ≤ k ∧ k < W.heap.size ∧ ∃ o : Obj, W.heap[k]? = some o ∧ o.isCells = true := by
  obtain ⟨v, hv, hr⟩ := h.row
  rcases ho with rfl | ⟨u, hu, hk⟩
  · exact ⟨h.base, h.lt, _, hv, rfl⟩
  · have : u = v := by
      have e : W.cell? ⟨wb, 1, none⟩ = some v := by simp [World.cell?, hv]
      rw [hu] at e; injection e
    subst this
    have hl := World.ownsRow.lt hr k hk
    refine ⟨hl.1, hl.2, ?_⟩
    obtain ⟨_, ⟨rfl, _⟩ | ⟨g, cap, cur, rfl, _, hg, _⟩⟩ := hr
    · simp [Value.ownBlock] at hk
    · simp [Value.ownBlock] at hk
      subst hk
      exact ⟨_, hg, rfl⟩
/-- A step that leaves what a walker owns leaves the walker. -/
theorem WkP.kept {wb n0 : Nat} {mp : Value} {E T : TypeId} {W W' : World} {tabs : List Int} {long : Bool} (h : WkP wb n0 mp E T W tabs long) (hk : ∀ k, OwnW wb W k → W'.heap[k]? = W.heap[k]?) : WkP wb n0 mp E T W' tabs long ∧ ∀ k, OwnW wb W' k ↔ OwnW wb W k := by
  obtain ⟨⟨v, hv, hr⟩, hb, ht⟩ := h
  have hw := hk wb (.inl rfl)
  refine ⟨⟨⟨v, hw.trans hv, ?_⟩, hb, ht⟩, fun k => ?_⟩
  · obtain ⟨hlen, hc⟩ := hr
    refine ⟨hlen, ?_⟩
    rcases hc with hc | ⟨g, cap, cur, rfl, hbg, hg, hrest⟩
    · exact .inl hc
    · exact .inr ⟨g, cap, cur, rfl, hbg, (hk g (.inr ⟨.slice (some ⟨g, 0, none⟩) tabs.length cap, by simp [World.cell?, hv], rfl⟩)).trans hg, hrest⟩
  · have e : W'.cell? ⟨wb, 1, none⟩ = W.cell? ⟨wb, 1, none⟩ := World.cell?_of_block hw
    unfold OwnW rowAt
    rw [e]

/-- A state of what is put, apart from a walker. -/
structure PutsP (n0 : Nat) (σ : Type) (len : σ → Nat) (step : σ → M5 → σ) where
  I : σ → World → Prop
  O : World → Nat → Prop
  own : ∀ {s W}, I s W → ∀ {k}, O W k → n0 ≤ k ∧ k < W.heap.size ∧ ∃ o : Obj, W.heap[k]? = some o ∧ o.isCells = true
  kept : ∀ {s W W'}, I s W → W.heap.size ≤ W'.heap.size → (∀ k, O W k → W'.heap[k]? = W.heap[k]?) → I s W' ∧ ∀ k, O W' k ↔ O W k
  grows : ∀ s x, len (step s x) ≤ len s + 1

section
variable {σ : Type} {len : σ → Nat} {step : σ → M5 → σ} {n0 : Nat}
/-- A sweep's state in memory: a walker, and what is put, apart. -/
structure SwP (Z : PutsP n0 σ len step) (wb : Nat) (mp : Value) (E T : TypeId) (s : Sw σ) (W : World) : Prop where
  wk : WkP wb n0 mp E T W s.tabs s.long
  put : Z.I s.st W
  apart : ∀ k, OwnW wb W k → ¬ Z.O W k
  base : n0 ≤ W.heap.size

variable {Z : PutsP n0 σ len step} {wb : Nat} {mp : Value} {E T : TypeId}
theorem SwP.own {s : Sw σ} {W : World} (h : SwP Z wb mp E T s W) {k : Nat} (ho : Both2 (OwnW wb) Z.O W k) : n0 ≤ k ∧ k < W.heap.size ∧ ∃ o : Obj, W.heap[k]? = some o ∧ o.isCells = true := by
  rcases ho with ho | ho
  · exact h.wk.own ho
  · exact Z.own h.put ho
/-- A step of nobody's. -/
theorem SwP.later {s : Sw σ} {W W' : World} (h : SwP Z wb mp E T s W) (hb : Below W.heap.size W W') : SwP Z wb mp E T s W' ∧ Fr (Both2 (OwnW wb) Z.O) W W' := by
  have h1 := h.wk.kept (fun k ho => hb.block k (h.wk.own ho).2.1)
  have h2 := Z.kept h.put hb.size (fun k ho => hb.block k (Z.own h.put ho).2.1)
  refine ⟨⟨h1.1, h2.1, fun k ho hp => h.apart k ((h1.2 k).1 ho) ((h2.2 k).1 hp), Nat.le_trans h.base hb.size⟩, hb.os, hb.tape, hb.output, hb.size, fun k hk ho => ⟨hb.block k hk, ?_⟩⟩
  rintro (h' | h')
  · exact ho (.inl ((h1.2 k).1 h'))
  · exact ho (.inr ((h2.2 k).1 h'))
/-- A step of the walker's. -/
theorem SwP.walks {s : Sw σ} {tabs : List Int} {long : Bool} {W W' : World} (h : SwP Z wb mp E T s W) (hf : Fr (OwnW wb) W W') (hw : WkP wb n0 mp E T W' tabs long) : SwP Z wb mp E T { s with tabs := tabs, long := long } W' ∧ Fr (Both2 (OwnW wb) Z.O) W W' := by
  have hno : ∀ k, Z.O W k → ¬ OwnW wb W k := fun k hp ho => h.apart k ho hp
  have h2 := Z.kept h.put hf.size (fun k ho => (hf.block k (Z.own h.put ho).2.1 (hno k ho)).1)
  refine ⟨⟨hw, h2.1, fun k ho hp => (hf.block k (Z.own h.put ((h2.2 k).1 hp)).2.1 (hno k ((h2.2 k).1 hp))).2 ho, Nat.le_trans h.base hf.size⟩, hf.os, hf.tape, hf.output, hf.size, fun k hk ho => ?_⟩
  have h3 := hf.block k hk (fun e => ho (.inl e))
  exact ⟨h3.1, fun e => e.elim (fun e => h3.2 e) (fun e => ho (.inr ((h2.2 k).1 e)))⟩
end
end Go.Proofs.YtgihknfoncljbaaGreatDoor
/-! The iterator of a table's descriptors. -/
namespace Go.Proofs.YtgihknfoncljbaaGreatDoor
open Go Go.RowKit Go.Shelf Go.BigFrame

attribute [local go_sem] Oper.semAt_some

/-- What the iterator wants kept: its four boxes, the walker's memory, what lay ahead. -/
structure KeepsD (Bn Bw Ba Bl wb n0 : Nat) (W W' : World) : Prop where
  below : Below n0 W W'
  n : W'.heap[Bn]? = W.heap[Bn]?
  w : W'.heap[Bw]? = W.heap[Bw]?
  a : W'.heap[Ba]? = W.heap[Ba]?
  l : W'.heap[Bl]? = W.heap[Bl]?
  m : W'.cell? ⟨wb, 0, none⟩ = W.cell? ⟨wb, 0, none⟩
theorem KeepsD.refl (Bn Bw Ba Bl wb n0 : Nat) (W : World) : KeepsD Bn Bw Ba Bl wb n0 W W := ⟨Below.refl _ _, rfl, rfl, rfl, rfl, rfl⟩
theorem KeepsD.trans {Bn Bw Ba Bl wb n0 : Nat} {A B C : World} (h : KeepsD Bn Bw Ba Bl wb n0 A B) (k : KeepsD Bn Bw Ba Bl wb n0 B C) : KeepsD Bn Bw Ba Bl wb n0 A C :=
  ⟨h.below.trans k.below, k.n.trans h.n, k.w.trans h.w, k.a.trans h.a, k.l.trans h.l, k.m.trans h.m⟩
/-- The iterator's boxes. -/
structure DBoxes (Bn Bw Ba Bl wb n0 : Nat) (mp : Value) (t k : Int) (n : Nat) (W : World) : Prop where
  n : W.cell? ⟨Bn, 0, none⟩ = some (.int .i64 n)
  w : W.cell? ⟨Bw, 0, none⟩ = some (.pointer (some ⟨wb, 0, none⟩))
  a : W.cell? ⟨Ba, 0, none⟩ = some (.int .u64 t)
  l : W.cell? ⟨Bl, 0, none⟩ = some (.int .i64 k)
  m : W.cell? ⟨wb, 0, none⟩ = some mp
  base : n0 ≤ W.heap.size
theorem DBoxes.kept {Bn Bw Ba Bl wb n0 : Nat} {mp : Value} {t k : Int} {n : Nat} {W W' : World} (h : DBoxes Bn Bw Ba Bl wb n0 mp t k n W) (hk : KeepsD Bn Bw Ba Bl wb n0 W W') : DBoxes Bn Bw Ba Bl wb n0 mp t k n W' :=
  ⟨(World.cell?_of_block hk.n).trans h.n, (World.cell?_of_block hk.w).trans h.w, (World.cell?_of_block hk.a).trans h.a, (World.cell?_of_block hk.l).trans h.l, hk.m.trans h.m, Nat.le_trans h.base hk.below.size⟩
theorem DBoxes.keeps {Bn Bw Ba Bl wb n0 : Nat} {mp : Value} {t k : Int} {n : Nat} {W W' : World} (h : DBoxes Bn Bw Ba Bl wb n0 mp t k n W) (hb : Below W.heap.size W W') : KeepsD Bn Bw Ba Bl wb n0 W W' :=
  ⟨hb.mono h.base, hb.block _ (World.block_lt_of_cell? W _ h.n), hb.block _ (World.block_lt_of_cell? W _ h.w), hb.block _ (World.block_lt_of_cell? W _ h.a), hb.block _ (World.block_lt_of_cell? W _ h.l), hb.cell (p := ⟨wb, 0, none⟩) (World.block_lt_of_cell? W _ h.m)⟩

end Go.Proofs.YtgihknfoncljbaaGreatDoor
/-! A sweep: what is laid ahead of it; the iterator as its loop sees it. -/
namespace Go.Proofs.YtgihknfoncljbaaGreatDoor
open Go Go.RowKit Go.Shelf Go.BigFrame

attribute [local go_sem] Oper.semAt_some

theorem DBoxes.lt {Bn Bw Ba Bl wb n0 : Nat} {mp : Value} {t k : Int} {n : Nat} {W : World} (h : DBoxes Bn Bw Ba Bl wb n0 mp t k n W) : Bn < W.heap.size ∧ Bw < W.heap.size ∧ Ba < W.heap.size ∧ Bl < W.heap.size ∧ wb < W.heap.size :=
  ⟨World.block_lt_of_cell? W _ h.n, World.block_lt_of_cell? W _ h.w, World.block_lt_of_cell? W _ h.a, World.block_lt_of_cell? W _ h.l, World.block_lt_of_cell? W _ h.m⟩
end Go.Proofs.YtgihknfoncljbaaGreatDoor
/-! The program's sweep. -/
namespace Go.Proofs.YtgihknfoncljbaaGreatDoor
open Go Go.RowKit Go.Shelf Go.BigFrame

attribute [local go_sem] Oper.semAt_some

section
variable {σ : Type} {len : σ → Nat} {step : σ → M5 → σ} {n0 : Nat}
/-- A table more. -/
theorem SwP.app {Z : PutsP n0 σ len step} {wb : Nat} {mp : Value} {E T : TypeId} {s : Sw σ} {W w4 : World} {v v' : Value} {t : Int} {tmp : Obj} (h : SwP Z wb mp E T s W) (hv : W.cell? ⟨wb, 1, none⟩ = some v) (hg : (W.alloc tmp).grownBy w4 v.ownBlock)
    (ho : w4.ownsRow n0 E 1 v' (s.tabs.length + 1) ((s.tabs ++ [t]).map (Value.int .u64))) (hat : v'.ownBlock = v.ownBlock ∨ ∀ k, v'.ownBlock = some k → W.heap.size ≤ k) :
    SwP Z wb mp E T { s with tabs := s.tabs ++ [t] } (w4.setCell ⟨wb, 1, none⟩ v') ∧ Fr (Both2 (OwnW wb) Z.O) W (w4.setCell ⟨wb, 1, none⟩ v') := by
  obtain ⟨v0, hv0, hr⟩ := h.wk.row
  have hlt := h.wk.lt
  have he : v0 = v := by
    have e : W.cell? ⟨wb, 1, none⟩ = some v0 := by simp [World.cell?, hv0]
    rw [hv] at e; injection e with e; exact e.symm
  subst he
  have hne : ∀ k, v0.ownBlock = some k → k ≠ wb := fun k hk => by
    rintro rfl
    obtain ⟨_, ⟨rfl, _⟩ | ⟨g, cap, cur, rfl, _, hg', _⟩⟩ := hr
    · simp [Value.ownBlock] at hk
    · simp [Value.ownBlock] at hk
      subst hk
      rw [hv0] at hg'
      have := h.wk.ty
      simp at hg'
      exact this hg'.2
  have hb4 : ∀ k, k < W.heap.size → v0.ownBlock ≠ some k → w4.heap[k]? = W.heap[k]? := fun k hk hn => (hg.block k (by simp; omega) (fun e => hn e.symm)).trans (Below.heap_alloc _ _ _ hk)
  have hw4 : w4.heap[wb]? = some (.cells #[mp, v0, .bool s.long] T (0, 0)) := (hb4 wb hlt (fun e => hne _ e rfl)).trans hv0
  have hs4 : W.heap.size ≤ w4.heap.size := by have := hg.size; simp at this; omega
  have hb : ∀ k, k ≠ wb → (w4.setCell ⟨wb, 1, none⟩ v').heap[k]? = w4.heap[k]? := fun k hk => Below.heap_setCell w4 ⟨wb, 1, none⟩ _ k hk
  have hnew : (w4.setCell ⟨wb, 1, none⟩ v').heap[wb]? = some (.cells #[mp, v', .bool s.long] T (0, 0)) := by
    simp [World.setCell, Array.getElem?_modify, hw4]
  have hne' : ∀ k, v'.ownBlock = some k → k ≠ wb := fun k hk => by
    rcases hat with e | e
    · exact hne k (e ▸ hk)
    · have := e k hk; omega
  have hw : WkP wb n0 mp E T (w4.setCell ⟨wb, 1, none⟩ v') (s.tabs ++ [t]) s.long := by
    refine ⟨⟨v', hnew, ?_⟩, h.wk.base, h.wk.ty⟩
    rw [List.length_append]
    obtain ⟨hlen, hc⟩ := ho
    refine ⟨hlen, ?_⟩
    rcases hc with hc | ⟨g, cap, cur, rfl, hbg, hg', hrest⟩
    · exact .inl hc
    · exact .inr ⟨g, cap, cur, rfl, hbg, (hb g (hne' g rfl)).trans hg', hrest⟩
  refine h.walks (tabs := s.tabs ++ [t]) (long := s.long) ⟨hg.os, hg.tape, hg.output, by simpa [World.setCell] using hs4, fun k hk ho => ⟨(hb k (fun e => ho (.inl e))).trans (hb4 k hk (fun e => ho (.inr ⟨v0, hv, e⟩))), ?_⟩⟩ hw
  rintro (rfl | ⟨u, hu, hk'⟩)
  · exact ho (.inl rfl)
  · have e1 : (w4.setCell ⟨wb, 1, none⟩ v').cell? ⟨wb, 1, none⟩ = some v' := by simp [World.cell?, hnew]
    rw [hu] at e1; cases e1
    rcases hat with e | e
    · exact ho (.inr ⟨v0, hv, e ▸ hk'⟩)
    · have := e k hk'; omega
end
end Go.Proofs.YtgihknfoncljbaaGreatDoor
/-! The program's sweep: the walk. -/
namespace Go.Proofs.YtgihknfoncljbaaGreatDoor
open Go Go.RowKit Go.Shelf Go.BigFrame

attribute [local go_sem] Oper.semAt_some

section
variable {σ : Type} {len : σ → Nat} {step : σ → M5 → σ} {n0 : Nat}
end
end Go.Proofs.YtgihknfoncljbaaGreatDoor
/-! What a sweep puts: parts, joined where they go on; or nothing. -/
namespace Go.Proofs.YtgihknfoncljbaaGreatDoor
open Go Go.RowKit Go.Shelf Go.BigFrame

def OwnL (lb : Nat) (W : World) (k : Nat) : Prop := k = lb ∨ rowAt ⟨lb, 0, none⟩ W k
/-- The parts in a captured variable. -/
def PartsI (n0 lb : Nat) (l : List M5) (W : World) : Prop := n0 ≤ lb ∧ ∃ v, Boxed W lb 78 v ∧ OwnM 126 W n0 v l
theorem PartsI.own {n0 lb : Nat} {l : List M5} {W : World} (h : PartsI n0 lb l W) {k : Nat} (ho : OwnL lb W k) : n0 ≤ k ∧ k < W.heap.size ∧ ∃ o : Obj, W.heap[k]? = some o ∧ o.isCells = true := by
  obtain ⟨hb, v, hv, hr⟩ := h
  rcases ho with rfl | ⟨u, hu, hk⟩
  · exact ⟨hb, hv.lt, _, hv, rfl⟩
  · have : u = v := by
      have e := hv.cell
      rw [hu] at e; injection e
    subst this
    have hl := World.ownsRow.lt hr k hk
    refine ⟨hl.1, hl.2, ?_⟩
    obtain ⟨_, ⟨rfl, _⟩ | ⟨g, cap, cur, rfl, _, hg, _⟩⟩ := hr
    · simp [Value.ownBlock] at hk
    · simp [Value.ownBlock] at hk
      subst hk
      exact ⟨_, hg, rfl⟩
theorem PartsI.kept {n0 lb : Nat} {l : List M5} {W W' : World} (h : PartsI n0 lb l W) (_ : W.heap.size ≤ W'.heap.size) (hk : ∀ k, OwnL lb W k → W'.heap[k]? = W.heap[k]?) : PartsI n0 lb l W' ∧ ∀ k, OwnL lb W' k ↔ OwnL lb W k := by
  obtain ⟨hb, v, hv, hr⟩ := h
  have hw := hk lb (.inl rfl)
  refine ⟨⟨hb, v, hw.trans hv, ?_⟩, fun k => ?_⟩
  · obtain ⟨hlen, hc⟩ := hr
    refine ⟨hlen, ?_⟩
    rcases hc with hc | ⟨g, cap, cur, rfl, hbg, hg, hrest⟩
    · exact .inl hc
    · exact .inr ⟨g, cap, cur, rfl, hbg, (hk g (.inr ⟨_, hv.cell, rfl⟩)).trans hg, hrest⟩
  · have e : W'.cell? ⟨lb, 0, none⟩ = W.cell? ⟨lb, 0, none⟩ := World.cell?_of_block hw
    unfold OwnL rowAt
    rw [e]
end Go.Proofs.YtgihknfoncljbaaGreatDoor
/-! Nothing is put: the callback of Tables. -/
namespace Go.Proofs.YtgihknfoncljbaaGreatDoor
open Go Go.RowKit Go.Shelf Go.BigFrame

end Go.Proofs.YtgihknfoncljbaaGreatDoor
/-! Parts are put: the callback of All. -/
namespace Go.Proofs.YtgihknfoncljbaaGreatDoor
open Go Go.RowKit Go.Shelf Go.BigFrame

end Go.Proofs.YtgihknfoncljbaaGreatDoor
/-! All and Tables: what a sweep of a memory's tables comes to. -/
namespace Go.Proofs.YtgihknfoncljbaaGreatDoor
open Go Go.RowKit Go.Shelf Go.BigFrame

end Go.Proofs.YtgihknfoncljbaaGreatDoor
