/- A range over a function that keeps state in a captured variable of its own (one block): what the caller owes, what the iterator owes. -/
import Derived.RangeFuncNested
import Derived.RangeFuncBound
import Derived.RangeFuncCalls
import Derived.RangeFuncLeaves
import Derived.RangeFuncBox
import Derived.WalkKit
import Derived.OwnWalkIn
import Derived.Test.YtiblhlaemmdphaaGreatTableBuildsP1
namespace Go.Proofs.YtiblhlaemmdphaaGreat
open Go Go.RowKit
section
variable {F : Fence} {n : Nat} {P : Program}
structure Deaf {β : Type} (B b : Nat) (J : β → World → Prop) : Prop where
 walks : AbidesFrom B J
 cells : ∀ s W o v, J s W → J s (W.setCell ⟨b, o, none⟩ v)
structure KeepN (b B : Nat) (W W' : World) : Prop where
 size : W.heap.size ≤ W'.heap.size
 same : W'.heap[b]? = W.heap[b]?
 late : ∀ k, B ≤ k → k < W.heap.size → W'.heap[k]? = W.heap[k]?
theorem KeepN.refl (b B : Nat) (W : World) : KeepN b B W W := ⟨Nat.le_refl _, rfl, fun _ _ _ => rfl⟩
theorem KeepN.trans {b B : Nat} {X Y Z : World} (h : KeepN b B X Y) (k : KeepN b B Y Z) : KeepN b B X Z :=
 ⟨Nat.le_trans h.size k.size, k.same.trans h.same, fun i h1 h2 => (k.late i h1 (Nat.lt_of_lt_of_le h2 h.size)).trans (h.late i h1 h2)⟩
theorem KeepN.of_below {b B : Nat} {W W' : World} (h : Below W.heap.size W W') (hb : b < W.heap.size) : KeepN b B W W' := ⟨h.size, h.block _ hb, fun k _ hk => h.block k hk⟩
theorem KeepN.putObj {b B : Nat} (W : World) {l : Nat} (o : Obj) (hb : b ≠ l) (hl : l < B) : KeepN b B W (W.putObj l o) :=
 ⟨by simp [World.putObj], World.putObj_heap_other hb, fun k h1 _ => World.putObj_heap_other (by omega)⟩
def IterW {α : Type} (F : Fence) (n : Nat) (P : Program) (g : Nat) (lb : Array Value) (encs : α → Array Value) (b : Nat) (S Sp : List α → Prop) (T : List α → α → Prop) (w : World) : Prop :=
 ∀ (l : Nat) (J Jx : List α → World → Prop) (W : World), Below w.heap.size w W → Deaf W.heap.size b J → Deaf W.heap.size b Jx →
  (∀ pre x W0 W1, J pre W0 → Below W0.heap.size W0 W1 → T pre x → YieldAt F (n - 1) P l (encs x) W1 fun e W' =>
   (e = .returned (.bool true) ∧ J (pre ++ [x]) W' ∧ KeepN b W0.heap.size W1 W') ∨ (e = .returned (.bool false) ∧ Jx (pre ++ [x]) W')) →
  J [] W →
  CallsIn F n P g (#[.func (.yield l) #[] #[]] ++ lb) W fun e W' => (∃ v, e = .returned v) ∧ ((∃ xs, S xs ∧ J xs W') ∨ (∃ pre, Sp pre ∧ Jx pre W'))
structure Book (L D : Nat) (r : Loop) (W : World) : Prop where
 loop : W.heap[L]? = some (.loop r)
 late : W.heap[D]? = some (.deferred (some []))
theorem Book.turned {L D : Nat} {r : Loop} {W : World} (h : Book L D r W) (hne : D ≠ L) (r' : Loop) : Book L D r' (W.putObj L (.loop r')) :=
 ⟨World.putObj_heap_same (Array.getElem?_eq_some_iff.1 h.loop).1, (World.putObj_heap_other hne).trans h.late⟩
theorem Book.kept {L D : Nat} {r : Loop} {W W' : World} (h : Book L D r W) (hk : KeepsFrom D W W') (hL : D ≤ L) : Book L D r W' :=
 ⟨hk.same _ _ hL h.loop rfl, hk.same _ _ (Nat.le_refl _) h.late rfl⟩
theorem Book.deaf {L D B b : Nat} {r : Loop} (hD : b < D) (hL : b < L) : Deaf (β := Unit) B b (fun _ W => Book L D r W) :=
 ⟨fun _ W W' row h hg hr => ⟨(grownBy_keeps hg (fun q e => (hr q e).2) h.loop rfl).trans h.loop, (grownBy_keeps hg (fun q e => (hr q e).2) h.late rfl).trans h.late⟩,
  fun _ W o v h => ⟨(Below.heap_setCell W _ v L (by simp; omega)).trans h.loop, (Below.heap_setCell W _ v D (by simp; omega)).trans h.late⟩⟩
structure Mine {β : Type} (B b : Nat) (I : β → World → Prop) : Prop where
 own : OwnFrom B I
 cells : ∀ s W o v, I s W → I s (W.setCell ⟨b, o, none⟩ v)
theorem Mine.book {β : Type} {D L b B : Nat} {I : β → World → Prop} {r : Loop} (h : Mine D b I) (hb : b < D) (hL : b < L) (hB : D ≤ B) : Deaf B b (fun s W => I s W ∧ Book L D r W) :=
 ⟨fun s W W' row hs hg hr => ⟨h.own s W W' row hs.1 hg (fun q e => by obtain ⟨h1, o, ho, hw⟩ := hr q e; exact ⟨Nat.le_trans hB h1, o, ho, Obj.not_cells_of_walk hw⟩), (Book.deaf hb hL).walks () W W' row hs.2 hg hr⟩,
  fun s W o v hs => ⟨h.cells s W o v hs.1, (Book.deaf (B := B) hb hL).cells () W o v hs.2⟩⟩
def RoundEnd {α : Type} (B : Nat) (Kp : World → World → Prop) (I : List α → World → Prop) (Ix : Code → List α → World → Prop) (xs : List α) (W : World) : Exit → Act → World → Prop
 | .normal, _, W' => KeepsFrom B W W' ∧ Kp W W' ∧ I xs W'
 | .ret, _, W' => KeepsFrom B W W' ∧ Ix .ret xs W'
 | .exit id, _, W' => KeepsFrom B W W' ∧ Ix (.exit id) xs W'
 | _, _, _ => False
theorem wpIn_range_state {α : Type} {g : Operand} {ps : Array Tmp} {assign body : Code} {Q : Exit → Act → World → Prop} {a : Act} {w : World}
  (hro : F.round = none) (h1 : 1 ≤ n) {gf : Nat} {lb : Array Value} (hg : a.eval g = .func (.func gf) #[] lb) (hFg : F.fn gf) (eg : ∀ args w, (callFunc gf args).run P w = .ok (.enter gf args) w)
  {encs : α → Array Value} {b : Nat} {S Sp : List α → Prop} {T : List α → α → Prop} (hit : IterW F (n - 1) P gf lb encs b S Sp T w) (hb : b < w.heap.size) (hps : ∀ x, (encs x).size = ps.size)
  (I : List α → World → Prop) (Ix : Code → List α → World → Prop) (hI : Mine w.heap.size b I) (hIx : ∀ c, Mine w.heap.size b (Ix c)) (h0 : I [] w) (Bd : Nat → List α → World → Prop) (hBd : ∀ s W, I s W → Bd W.heap.size s W) (hBo : ∀ B, OwnFrom w.heap.size (Bd B)) (Ax : α → Act → World → Prop) (hAx : ∀ x a', OwnFrom w.heap.size (fun (_ : Unit) W => Ax x a' W))
  (hassign : ∀ (l B : Nat) (pre : List α) (x : α) (W : World) (K : Act → World → Prop), B ≤ W.heap.size → Bd B pre W → (∀ a' W', KeepsFrom w.heap.size W W' → KeepN b B W W' → Bd B pre W' → Ax x a' W' → K a' W') →
   assign.wpIn (F.inRound l) (n - 1 - 1) P (Exit.then K (fun _ _ _ => False)) { tmps := (ps.zip (encs x)).foldl (fun t (p, v) => t.setIfInBounds p v) a.tmps, defers := [] } W)
  (hbody : ∀ (l B : Nat) (pre : List α) (x : α) (a' : Act) (W : World), w.heap.size ≤ l → w.heap.size ≤ B → B ≤ W.heap.size → Bd B pre W → Ax x a' W → T pre x → body.wpIn (F.inRound l) (n - 1 - 1) P (RoundEnd w.heap.size (KeepN b B) I Ix (pre ++ [x]) W) a' W)
  (hdone : ∀ (D : Nat) (xs : List α) (W : World), w.heap.size ≤ D → S xs → I xs W → W.heap[D]? = some (.deferred (some [])) → Q .normal { a with defers := { target := .collected D, args := #[] } :: a.defers } W)
  (hstop : ∀ (D : Nat) (c : Code) (pre : List α) (W : World), w.heap.size ≤ D → Sp pre → Ix c pre W → W.heap[D]? = some (.deferred (some [])) → c.wpIn F n P Q { a with defers := { target := .collected D, args := #[] } :: a.defers } W) :
  (Code.rangeFunc g ps assign body).wpIn F n P Q a w := by
 refine wpIn_rangeFunc fun fn hfn => ?_
 let rec' : LoopState → Option Code → Loop := fun st pe => { state := st, pending := pe, fn, tmps := a.tmps, params := ps, assign, body, defers := w.heap.size }
 have hz : (w.alloc (.deferred (some []))).heap.size = w.heap.size + 1 := World.size_alloc _ _
 have hbook : Book (w.heap.size + 1) w.heap.size (rec' .ready none) ((w.alloc (.deferred (some []))).alloc (.loop (rec' .ready none))) := by
  refine ⟨?_, ?_⟩
  ·have h := World.alloc_heap_new (w.alloc (.deferred (some []))) (.loop (rec' .ready none))
   rw [hz] at h; exact h
  ·exact ((bone _ _).block _ (by omega)).trans (World.alloc_heap_new w _)
 have hbl : Below w.heap.size w ((w.alloc (.deferred (some []))).alloc (.loop (rec' .ready none))) := (bone w _).trans ((bone _ _).mono (by omega))
 have hst := hI.own.alloc (.loop (rec' .ready none)) (hI.own.alloc (.deferred (some [])) h0)
 have hzz : w.heap.size ≤ ((w.alloc (.deferred (some []))).alloc (.loop (rec' .ready none))).heap.size := hbl.size
 obtain ⟨W1, hW1⟩ : ∃ W1, W1 = (w.alloc (.deferred (some []))).alloc (.loop (rec' .ready none)) := ⟨_, rfl⟩
 rw [← hW1] at hbook hbl hst hzz
 have hent : (Instr.enterLoop fn a.tmps ps assign body F.round).run P w = .ok (w.heap.size + 1, [{ target := .collected w.heap.size, args := #[] }]) W1 := by rw [hro, hW1]; exact run_enterLoop_outer _ _ _ _ _
 have hres : (resolve a.eval (rangeCall g (w.heap.size + 1)) 0).run P W1 = .ok { target := .fn (.func gf) lb, args := #[.func (.yield (w.heap.size + 1)) #[] #[]] } W1 := by
  simp only [resolve, hg]
  simp [go_sem]
 have hinv : (invoke (.fn (.func gf) lb) #[.func (.yield (w.heap.size + 1)) #[] #[]]).run P W1 = .ok (.enter gf (#[.func (.yield (w.heap.size + 1)) #[] #[]] ++ lb)) W1 := by simp [invoke, go_sem, eg]
 refine ⟨w.heap.size + 1, [{ target := .collected w.heap.size, args := #[] }], W1, { target := .fn (.func gf) lb, args := #[.func (.yield (w.heap.size + 1)) #[] #[]] }, W1, gf, #[.func (.yield (w.heap.size + 1)) #[] #[]] ++ lb, W1,
  hent, hres, fun f' hf' => by simp [Target.leads] at hf'; subst hf'; exact hFg, hinv, fun _ => h1, ?_⟩
 clear hent hres hinv hW1
 refine (hit (w.heap.size + 1) (fun pre W => I pre W ∧ Book (w.heap.size + 1) w.heap.size (rec' .ready none) W) (fun pre W => ∃ c, Ix c pre W ∧ Book (w.heap.size + 1) w.heap.size (rec' .done (some c)) W) _ hbl
  (hI.book hb (by omega) hzz)
  ⟨fun s A B row hs hg' hr => by obtain ⟨c, hc⟩ := hs; exact ⟨c, ((hIx c).book hb (by omega) hzz).walks s A B row hc hg' hr⟩, fun s W o v hs => by obtain ⟨c, hc⟩ := hs; exact ⟨c, ((hIx c).book (L := w.heap.size + 1) hb (by omega) hzz).cells s W o v hc⟩⟩
  ?_ ⟨hst, hbook⟩).mono ?_
 ·rintro pre x W0 W ⟨hi, hbk0⟩ hW0 hlen
  have hLB : w.heap.size + 1 < W0.heap.size := (Array.getElem?_eq_some_iff.1 hbk0.loop).1
  have hgn : W0.grownBy W none := ⟨hW0.os, hW0.tape, hW0.output, hW0.size, fun k hk _ => hW0.block k hk⟩
  have hbd := hBo W0.heap.size pre W0 W none (hBd pre W0 hi) hgn (fun r e => by cases e)
  have hbk : Book (w.heap.size + 1) w.heap.size (rec' .ready none) W := ⟨(hW0.block _ hLB).trans hbk0.loop, (hW0.block _ (by omega)).trans hbk0.late⟩
  refine ⟨fn, _, assign, body, run_yield hbk.loop (hps x), roundIn_of_wpIn hfn (hassign _ W0.heap.size pre x W _ hW0.size hbd fun a' Wa hka hpa hia hax => ?_)⟩
  have hba := hbk.kept hka (by omega)
  refine ⟨_, run_beginRound hba.loop rfl, ?_⟩
  have hbb := hba.turned (by omega) { rec' .ready none with state := .busy }
  have hp1 : KeepN b W0.heap.size Wa (Wa.putObj (w.heap.size + 1) (.loop { rec' .ready none with state := .busy })) := KeepN.putObj _ _ (by omega) hLB
  have ended : ∀ (jump : Option Code) (W3 : World), KeepsFrom w.heap.size (Wa.putObj (w.heap.size + 1) (.loop { rec' .ready none with state := .busy })) W3 →
    ∃ W4, (Instr.endRound (w.heap.size + 1) jump).run P W3 = .ok (.bool jump.isNone) W4 ∧ W4 = W3.putObj (w.heap.size + 1) (.loop (rec' (if jump.isNone then .ready else .done) jump)) ∧ Book (w.heap.size + 1) w.heap.size (rec' (if jump.isNone then .ready else .done) jump) W4 ∧ W3.heap[w.heap.size + 1]? = some (.loop { rec' .ready none with state := .busy }) := fun jump W3 h3 => by
   have hb3 := hbb.kept h3 (by omega)
   exact ⟨_, run_endRound jump hb3.loop, rfl, hb3.turned (by omega) _, hb3.loop⟩
  refine wpIn_mono (hbody _ W0.heap.size pre x a' _ (by omega) (by omega) (Nat.le_trans hW0.size (Nat.le_trans hpa.size hp1.size)) ((hBo _).putObj _ hia (by omega) hba.loop rfl) ((hAx x a').putObj (s := ()) _ hax (by omega) hba.loop rfl) hlen) ?_
  intro e a3 W3 hp
  cases e with
  | normal =>
   obtain ⟨hk3, hkp, hi3⟩ := hp
   obtain ⟨W4, hr, hW4, hb4, hl3⟩ := ended none W3 hk3
   refine ⟨_, W4, hr, .inl ⟨rfl, ⟨?_, hb4⟩, hpa.trans (hp1.trans (hkp.trans ?_))⟩⟩
   ·rw [hW4]; exact hI.own.putObj _ hi3 (by omega) hl3 rfl
   ·rw [hW4]; exact KeepN.putObj _ _ (by omega) hLB
  | ret =>
   obtain ⟨hk3, hi3⟩ := hp
   obtain ⟨W4, hr, hW4, hb4, hl3⟩ := ended (some .ret) W3 hk3
   exact ⟨_, W4, hr, .inr ⟨rfl, .ret, by rw [hW4]; exact (hIx _).own.putObj _ hi3 (by omega) hl3 rfl, hb4⟩⟩
  | exit id =>
   obtain ⟨hk3, hi3⟩ := hp
   obtain ⟨W4, hr, hW4, hb4, hl3⟩ := ended (some (.exit id)) W3 hk3
   exact ⟨_, W4, hr, .inr ⟨rfl, .exit id, by rw [hW4]; exact (hIx _).own.putObj _ hi3 (by omega) hl3 rfl, hb4⟩⟩
  | goto t => exact hp.elim
  | panic ch => exact hp.elim
  | outgrown => exact hp.elim
 ·rintro e W2 ⟨⟨v, rfl⟩, (⟨xs, hS, hi, hbk⟩ | ⟨pre, hSp, c, hi, hbk⟩)⟩
  ·exact ⟨none, _, run_endLoop hbk.loop (by simp [rec']), hdone _ xs _ (Nat.le_refl _) hS (hI.own.putObj _ hi (by omega) hbk.loop rfl) (hbk.turned (by omega) _).late⟩
  ·exact ⟨some c, _, run_endLoop hbk.loop (by simp [rec']), hstop _ c pre _ (Nat.le_refl _) hSp ((hIx c).own.putObj _ hi (by omega) hbk.loop rfl) (hbk.turned (by omega) _).late⟩
end
end Go.Proofs.YtiblhlaemmdphaaGreat
