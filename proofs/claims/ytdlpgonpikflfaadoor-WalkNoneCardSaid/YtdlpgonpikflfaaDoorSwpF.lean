/- What a sweep's steps leave as it lay: all but the blocks that it owns. -/
import Derived.Test.YtdlpgonpikflfaaDoorSwpP
import Derived.RangeFuncBox
import Derived.RangeFuncNested
namespace Go.Proofs.YtdlpgonpikflfaaDoor
open Go Go.RowKit

/-- All but what is owned lies as it lay, and is not owned behind. -/
structure Fr (O : World → Nat → Prop) (W W' : World) : Prop where
  os : W'.os = W.os
  tape : W'.tape = W.tape
  output : W'.output = W.output
  size : W.heap.size ≤ W'.heap.size
  block : ∀ k, k < W.heap.size → ¬ O W k → W'.heap[k]? = W.heap[k]? ∧ ¬ O W' k
theorem Fr.refl (O : World → Nat → Prop) (W : World) : Fr O W W := ⟨rfl, rfl, rfl, Nat.le_refl _, fun _ _ h => ⟨rfl, h⟩⟩
theorem Fr.trans {O : World → Nat → Prop} {A B C : World} (h : Fr O A B) (k : Fr O B C) : Fr O A C :=
  ⟨k.os.trans h.os, k.tape.trans h.tape, k.output.trans h.output, Nat.le_trans h.size k.size, fun i hi ho => by
    obtain ⟨e1, o1⟩ := h.block i hi ho
    obtain ⟨e2, o2⟩ := k.block i (Nat.lt_of_lt_of_le hi h.size) o1
    exact ⟨e2.trans e1, o2⟩⟩
/-- What is owned lies from block 'n' on. -/
theorem Fr.below {O : World → Nat → Prop} {A B : World} (h : Fr O A B) {n : Nat} (hn : n ≤ A.heap.size) (ho : ∀ k, O A k → n ≤ k) : Below n A B :=
  ⟨h.os, h.tape, h.output, h.size, fun k hk => (h.block k (by omega) (fun e => by have := ho k e; omega)).1⟩
/-- Blocks that are owned are cells. -/
theorem Fr.keeps {O : World → Nat → Prop} {A B : World} (h : Fr O A B) (ho : ∀ k, O A k → ∃ o : Obj, A.heap[k]? = some o ∧ o.isCells = true) : KeepsOthers A B :=
  ⟨h.size, fun k o hk hc => (h.block k (Array.getElem?_eq_some_iff.1 hk).1 (fun e => by
    obtain ⟨o', h1, h2⟩ := ho k e
    rw [hk] at h1; cases h1; rw [hc] at h2; cases h2)).1.trans hk⟩
/-- What a slice in a cell owns. -/
def rowAt (a : Addr) (W : World) (k : Nat) : Prop := ∃ v, W.cell? a = some v ∧ v.ownBlock = some k
/-- What a walker owns: its own block, its row of tables. -/
def OwnW (wb : Nat) (W : World) (k : Nat) : Prop := k = wb ∨ rowAt ⟨wb, 1, none⟩ W k
def Both2 (O O' : World → Nat → Prop) (W : World) (k : Nat) : Prop := O W k ∨ O' W k

/-- A walker: its memory, the tables that it has gone through, whether they are too many. -/
structure WkP (wb n0 : Nat) (mp : Value) (E : TypeId) (T : TypeId) (W : World) (tabs : List Int) (long : Bool) : Prop where
  row : ∃ v, W.heap[wb]? = some (.cells #[mp, v, .bool long] T (0, 0)) ∧ W.ownsRow n0 E 1 v tabs.length (tabs.map (Value.int .u64))
  base : n0 ≤ wb
  ty : T ≠ E

theorem WkP.lt {wb n0 : Nat} {mp : Value} {E T : TypeId} {W : World} {tabs : List Int} {long : Bool} (h : WkP wb n0 mp E T W tabs long) : wb < W.heap.size := by
  obtain ⟨v, hv, _⟩ := h.row
  exact (Array.getElem?_eq_some_iff.1 hv).1
theorem WkP.own {wb n0 : Nat} {mp : Value} {E T : TypeId} {W : World} {tabs : List Int} {long : Bool} (h : WkP wb n0 mp E T W tabs long) {k : Nat} (ho : OwnW wb W k) : n0 ≤ k ∧ k < W.heap.size ∧ ∃ o : Obj, W.heap[k]? = some o ∧ o.isCells = true := by
  obtain ⟨v, hv, hr⟩ := h.row
  rcases ho with rfl | ⟨u, hu, hk⟩
  · exact ⟨h.base, h.lt, _, hv, rfl⟩
  · have : u = v := by
      have e : W.cell? ⟨wb, 1, none⟩ = some v := by simp [World.cell?, hv]
      rw [hu] at e; injection e
    subst this
    have hl := World.ownsRow.lt hr k hk
    refine ⟨hl.1, hl.2, ?_⟩
    obtain ⟨_, ⟨rfl, _⟩ | ⟨g, cap, cur, rfl, _, hg, _⟩⟩ := hr
    · simp [Value.ownBlock] at hk
    · simp [Value.ownBlock] at hk
      subst hk
      exact ⟨_, hg, rfl⟩
/-- A step that leaves what a walker owns leaves the walker. -/
theorem WkP.kept {wb n0 : Nat} {mp : Value} {E T : TypeId} {W W' : World} {tabs : List Int} {long : Bool} (h : WkP wb n0 mp E T W tabs long) (hk : ∀ k, OwnW wb W k → W'.heap[k]? = W.heap[k]?) : WkP wb n0 mp E T W' tabs long ∧ ∀ k, OwnW wb W' k ↔ OwnW wb W k := by
  obtain ⟨⟨v, hv, hr⟩, hb, ht⟩ := h
  have hw := hk wb (.inl rfl)
  refine ⟨⟨⟨v, hw.trans hv, ?_⟩, hb, ht⟩, fun k => ?_⟩
  · obtain ⟨hlen, hc⟩ := hr
    refine ⟨hlen, ?_⟩
    rcases hc with hc | ⟨g, cap, cur, rfl, hbg, hg, hrest⟩
    · exact .inl hc
    · exact .inr ⟨g, cap, cur, rfl, hbg, (hk g (.inr ⟨.slice (some ⟨g, 0, none⟩) tabs.length cap, by simp [World.cell?, hv], rfl⟩)).trans hg, hrest⟩
  · have e : W'.cell? ⟨wb, 1, none⟩ = W.cell? ⟨wb, 1, none⟩ := World.cell?_of_block hw
    unfold OwnW rowAt
    rw [e]

/-- A state of what is put, apart from a walker. -/
structure PutsP (n0 : Nat) (σ : Type) (len : σ → Nat) (step : σ → M5 → σ) where
  I : σ → World → Prop
  O : World → Nat → Prop
  own : ∀ {s W}, I s W → ∀ {k}, O W k → n0 ≤ k ∧ k < W.heap.size ∧ ∃ o : Obj, W.heap[k]? = some o ∧ o.isCells = true
  kept : ∀ {s W W'}, I s W → W.heap.size ≤ W'.heap.size → (∀ k, O W k → W'.heap[k]? = W.heap[k]?) → I s W' ∧ ∀ k, O W' k ↔ O W k
  grows : ∀ s x, len (step s x) ≤ len s + 1

section
variable {σ : Type} {len : σ → Nat} {step : σ → M5 → σ} {n0 : Nat}
/-- A sweep's state in memory: a walker, and what is put, apart. -/
structure SwP (Z : PutsP n0 σ len step) (wb : Nat) (mp : Value) (E T : TypeId) (s : Sw σ) (W : World) : Prop where
  wk : WkP wb n0 mp E T W s.tabs s.long
  put : Z.I s.st W
  apart : ∀ k, OwnW wb W k → ¬ Z.O W k
  base : n0 ≤ W.heap.size

variable {Z : PutsP n0 σ len step} {wb : Nat} {mp : Value} {E T : TypeId}
theorem SwP.own {s : Sw σ} {W : World} (h : SwP Z wb mp E T s W) {k : Nat} (ho : Both2 (OwnW wb) Z.O W k) : n0 ≤ k ∧ k < W.heap.size ∧ ∃ o : Obj, W.heap[k]? = some o ∧ o.isCells = true := by
  rcases ho with ho | ho
  · exact h.wk.own ho
  · exact Z.own h.put ho
/-- A step of nobody's. -/
theorem SwP.later {s : Sw σ} {W W' : World} (h : SwP Z wb mp E T s W) (hb : Below W.heap.size W W') : SwP Z wb mp E T s W' ∧ Fr (Both2 (OwnW wb) Z.O) W W' := by
  have h1 := h.wk.kept (fun k ho => hb.block k (h.wk.own ho).2.1)
  have h2 := Z.kept h.put hb.size (fun k ho => hb.block k (Z.own h.put ho).2.1)
  refine ⟨⟨h1.1, h2.1, fun k ho hp => h.apart k ((h1.2 k).1 ho) ((h2.2 k).1 hp), Nat.le_trans h.base hb.size⟩, hb.os, hb.tape, hb.output, hb.size, fun k hk ho => ⟨hb.block k hk, ?_⟩⟩
  rintro (h' | h')
  · exact ho (.inl ((h1.2 k).1 h'))
  · exact ho (.inr ((h2.2 k).1 h'))
/-- A put. -/
theorem SwP.puts {s : Sw σ} {st : σ} {W W' : World} (h : SwP Z wb mp E T s W) (hf : Fr Z.O W W') (hI : Z.I st W') : SwP Z wb mp E T { s with st := st } W' ∧ Fr (Both2 (OwnW wb) Z.O) W W' := by
  have h1 := h.wk.kept (fun k ho => (hf.block k (h.wk.own ho).2.1 (h.apart k ho)).1)
  refine ⟨⟨h1.1, hI, fun k ho => (hf.block k (h.wk.own ((h1.2 k).1 ho)).2.1 (h.apart k ((h1.2 k).1 ho))).2, Nat.le_trans h.base hf.size⟩, hf.os, hf.tape, hf.output, hf.size, fun k hk ho => ?_⟩
  have h2 := hf.block k hk (fun e => ho (.inr e))
  exact ⟨h2.1, fun e => e.elim (fun e => ho (.inl ((h1.2 k).1 e))) (fun e => h2.2 e)⟩
/-- A step of the walker's. -/
theorem SwP.walks {s : Sw σ} {tabs : List Int} {long : Bool} {W W' : World} (h : SwP Z wb mp E T s W) (hf : Fr (OwnW wb) W W') (hw : WkP wb n0 mp E T W' tabs long) : SwP Z wb mp E T { s with tabs := tabs, long := long } W' ∧ Fr (Both2 (OwnW wb) Z.O) W W' := by
  have hno : ∀ k, Z.O W k → ¬ OwnW wb W k := fun k hp ho => h.apart k ho hp
  have h2 := Z.kept h.put hf.size (fun k ho => (hf.block k (Z.own h.put ho).2.1 (hno k ho)).1)
  refine ⟨⟨hw, h2.1, fun k ho hp => (hf.block k (Z.own h.put ((h2.2 k).1 hp)).2.1 (hno k ((h2.2 k).1 hp))).2 ho, Nat.le_trans h.base hf.size⟩, hf.os, hf.tape, hf.output, hf.size, fun k hk ho => ?_⟩
  have h3 := hf.block k hk (fun e => ho (.inl e))
  exact ⟨h3.1, fun e => e.elim (fun e => h3.2 e) (fun e => ho (.inr ((h2.2 k).1 e)))⟩
/-- A turn of a block that is no cells. -/
theorem SwP.turns {s : Sw σ} {W W' : World} {row : Option Nat} (h : SwP Z wb mp E T s W) (hg : W.grownBy W' row) (hr : ∀ r, row = some r → ∃ o : Obj, W.heap[r]? = some o ∧ o.isCells = false) : SwP Z wb mp E T s W' ∧ ∀ k, Both2 (OwnW wb) Z.O W' k ↔ Both2 (OwnW wb) Z.O W k := by
  have hk : ∀ k, Both2 (OwnW wb) Z.O W k → W'.heap[k]? = W.heap[k]? := fun k ho => by
    obtain ⟨_, hl, o, e, hc⟩ := h.own ho
    refine hg.block k hl (fun e' => ?_)
    obtain ⟨o', e1, e2⟩ := hr k e'.symm
    rw [e] at e1; cases e1; rw [hc] at e2; cases e2
  have h1 := h.wk.kept (fun k ho => hk k (.inl ho))
  have h2 := Z.kept h.put hg.size (fun k ho => hk k (.inr ho))
  exact ⟨⟨h1.1, h2.1, fun k ho hp => h.apart k ((h1.2 k).1 ho) ((h2.2 k).1 hp), Nat.le_trans h.base hg.size⟩, fun k => or_congr (h1.2 k) (h2.2 k)⟩
end
end Go.Proofs.YtdlpgonpikflfaaDoor
