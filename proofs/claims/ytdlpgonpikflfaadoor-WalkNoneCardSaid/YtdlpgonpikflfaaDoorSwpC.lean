/- The program's sweep. -/
import Derived.Test.YtdlpgonpikflfaaDoorSwpB
import Derived.Maps.OwnIn
namespace Go.Proofs.YtdlpgonpikflfaaDoor
open Go Go.RowKit Go.Shelf Go.BigFrame

attribute [local go_sem] Oper.semAt_some

section
variable {σ : Type} {len : σ → Nat} {step : σ → M5 → σ} {n0 : Nat}
/-- What puts a part. -/
def Puts (Z : PutsP n0 σ len step) (pf : Nat) (pb : Array Value) : Prop :=
  (∀ args w, (callFunc pf args).run Tryd.prog w = .ok (.enter pf args) w) ∧ ∀ (x : M5) (s : σ) (W : World), Z.I s W → n0 ≤ W.heap.size → len s ≤ 2048000 → Calls Tryd.prog pf (#[.agg x.enc.toArray] ++ pb) W fun e W' => (∃ v, e = .returned v) ∧ Z.I (step s x) W' ∧ Fr Z.O W W'

/-- The walker's mark is set. -/
theorem SwP.mark {Z : PutsP n0 σ len step} {wb : Nat} {mp : Value} {E T : TypeId} {s : Sw σ} {W : World} (h : SwP Z wb mp E T s W) (L : Bool) : SwP Z wb mp E T { s with long := L } (W.setCell ⟨wb, 2, none⟩ (.bool L)) ∧ Fr (Both2 (OwnW wb) Z.O) W (W.setCell ⟨wb, 2, none⟩ (.bool L)) := by
  obtain ⟨v, hv, hr⟩ := h.wk.row
  have hlt := h.wk.lt
  have hb : ∀ k, k ≠ wb → (W.setCell ⟨wb, 2, none⟩ (.bool L)).heap[k]? = W.heap[k]? := fun k hk => Below.heap_setCell W ⟨wb, 2, none⟩ _ k hk
  have hnew : (W.setCell ⟨wb, 2, none⟩ (.bool L)).heap[wb]? = some (.cells #[mp, v, .bool L] T (0, 0)) := by
    simp [World.setCell, Array.getElem?_modify, hv]
  have hw : WkP wb n0 mp E T (W.setCell ⟨wb, 2, none⟩ (.bool L)) s.tabs L := by
    refine ⟨⟨v, hnew, ?_⟩, h.wk.base, h.wk.ty⟩
    obtain ⟨hlen, hc⟩ := hr
    refine ⟨hlen, ?_⟩
    rcases hc with hc | ⟨g, cap, cur, rfl, hbg, hg, hrest⟩
    · exact .inl hc
    · refine .inr ⟨g, cap, cur, rfl, hbg, (hb g ?_).trans hg, hrest⟩
      rintro rfl
      rw [hv] at hg
      have := h.wk.ty
      simp at hg
      exact this hg.2
  refine h.walks (tabs := s.tabs) (long := L) ⟨rfl, rfl, rfl, by simp [World.setCell], fun k hk ho => ⟨hb k (fun e => ho (.inl e)), ?_⟩⟩ hw
  rintro (rfl | ⟨u, hu, hk'⟩)
  · exact ho (.inl rfl)
  · have e1 : (W.setCell ⟨wb, 2, none⟩ (.bool L)).cell? ⟨wb, 1, none⟩ = some v := by simp [World.cell?, hnew]
    rw [hu] at e1; cases e1
    exact ho (.inr ⟨v, by simp [World.cell?, hv], hk'⟩)
theorem SwP.rowne {Z : PutsP n0 σ len step} {wb : Nat} {mp : Value} {E T : TypeId} {s : Sw σ} {W : World} {v : Value} (h : SwP Z wb mp E T s W) (hv : W.cell? ⟨wb, 1, none⟩ = some v) : v.ownBlock ≠ some wb ∧ ∀ k, v.ownBlock = some k → n0 ≤ k ∧ k < W.heap.size := by
  refine ⟨fun hk => ?_, fun k hk => ?_⟩
  · obtain ⟨v0, hv0, hr⟩ := h.wk.row
    have he : v0 = v := by
      have e : W.cell? ⟨wb, 1, none⟩ = some v0 := by simp [World.cell?, hv0]
      rw [hv] at e; injection e with e; exact e.symm
    subst he
    obtain ⟨_, ⟨rfl, _⟩ | ⟨g, cap, cur, rfl, _, hg', _⟩⟩ := hr
    · simp [Value.ownBlock] at hk
    · simp [Value.ownBlock] at hk
      subst hk
      rw [hv0] at hg'
      have := h.wk.ty
      simp at hg'
      exact this hg'.2
  · have := h.wk.own (k := k) (.inr ⟨v, hv, hk⟩)
    exact ⟨this.1, this.2.1⟩
/-- A table more. -/
theorem SwP.app {Z : PutsP n0 σ len step} {wb : Nat} {mp : Value} {E T : TypeId} {s : Sw σ} {W w4 : World} {v v' : Value} {t : Int} {tmp : Obj} (h : SwP Z wb mp E T s W) (hv : W.cell? ⟨wb, 1, none⟩ = some v) (hg : (W.alloc tmp).grownBy w4 v.ownBlock)
    (ho : w4.ownsRow n0 E 1 v' (s.tabs.length + 1) ((s.tabs ++ [t]).map (Value.int .u64))) (hat : v'.ownBlock = v.ownBlock ∨ ∀ k, v'.ownBlock = some k → W.heap.size ≤ k) :
    SwP Z wb mp E T { s with tabs := s.tabs ++ [t] } (w4.setCell ⟨wb, 1, none⟩ v') ∧ Fr (Both2 (OwnW wb) Z.O) W (w4.setCell ⟨wb, 1, none⟩ v') := by
  obtain ⟨v0, hv0, hr⟩ := h.wk.row
  have hlt := h.wk.lt
  have he : v0 = v := by
    have e : W.cell? ⟨wb, 1, none⟩ = some v0 := by simp [World.cell?, hv0]
    rw [hv] at e; injection e with e; exact e.symm
  subst he
  have hne : ∀ k, v0.ownBlock = some k → k ≠ wb := fun k hk => by
    rintro rfl
    obtain ⟨_, ⟨rfl, _⟩ | ⟨g, cap, cur, rfl, _, hg', _⟩⟩ := hr
    · simp [Value.ownBlock] at hk
    · simp [Value.ownBlock] at hk
      subst hk
      rw [hv0] at hg'
      have := h.wk.ty
      simp at hg'
      exact this hg'.2
  have hb4 : ∀ k, k < W.heap.size → v0.ownBlock ≠ some k → w4.heap[k]? = W.heap[k]? := fun k hk hn => (hg.block k (by simp; omega) (fun e => hn e.symm)).trans (Below.heap_alloc _ _ _ hk)
  have hw4 : w4.heap[wb]? = some (.cells #[mp, v0, .bool s.long] T (0, 0)) := (hb4 wb hlt (fun e => hne _ e rfl)).trans hv0
  have hs4 : W.heap.size ≤ w4.heap.size := by have := hg.size; simp at this; omega
  have hb : ∀ k, k ≠ wb → (w4.setCell ⟨wb, 1, none⟩ v').heap[k]? = w4.heap[k]? := fun k hk => Below.heap_setCell w4 ⟨wb, 1, none⟩ _ k hk
  have hnew : (w4.setCell ⟨wb, 1, none⟩ v').heap[wb]? = some (.cells #[mp, v', .bool s.long] T (0, 0)) := by
    simp [World.setCell, Array.getElem?_modify, hw4]
  have hne' : ∀ k, v'.ownBlock = some k → k ≠ wb := fun k hk => by
    rcases hat with e | e
    · exact hne k (e ▸ hk)
    · have := e k hk; omega
  have hw : WkP wb n0 mp E T (w4.setCell ⟨wb, 1, none⟩ v') (s.tabs ++ [t]) s.long := by
    refine ⟨⟨v', hnew, ?_⟩, h.wk.base, h.wk.ty⟩
    rw [List.length_append]
    obtain ⟨hlen, hc⟩ := ho
    refine ⟨hlen, ?_⟩
    rcases hc with hc | ⟨g, cap, cur, rfl, hbg, hg', hrest⟩
    · exact .inl hc
    · exact .inr ⟨g, cap, cur, rfl, hbg, (hb g (hne' g rfl)).trans hg', hrest⟩
  refine h.walks (tabs := s.tabs ++ [t]) (long := s.long) ⟨hg.os, hg.tape, hg.output, by simpa [World.setCell] using hs4, fun k hk ho => ⟨(hb k (fun e => ho (.inl e))).trans (hb4 k hk (fun e => ho (.inr ⟨v0, hv, e⟩))), ?_⟩⟩ hw
  rintro (rfl | ⟨u, hu, hk'⟩)
  · exact ho (.inl rfl)
  · have e1 : (w4.setCell ⟨wb, 1, none⟩ v').cell? ⟨wb, 1, none⟩ = some v' := by simp [World.cell?, hnew]
    rw [hu] at e1; cases e1
    rcases hat with e | e
    · exact ho (.inr ⟨v0, hv, e ▸ hk'⟩)
    · have := e k hk'; omega
theorem SwP.later_lt {Z : PutsP n0 σ len step} {wb : Nat} {mp : Value} {E T : TypeId} {s : Sw σ} {W W' : World} (h : SwP Z wb mp E T s W) (hb : Below W.heap.size W W') {k : Nat} (ho : Both2 (OwnW wb) Z.O W' k) : k < W.heap.size := by
  have h1 := h.wk.kept (fun k ho => hb.block k (h.wk.own ho).2.1)
  have h2 := Z.kept h.put hb.size (fun k ho => hb.block k (Z.own h.put ho).2.1)
  rcases ho with ho | ho
  · exact (h.wk.own ((h1.2 k).1 ho)).2.1
  · exact (Z.own h.put ((h2.2 k).1 ho)).2.1
/-- What a sweep's loop carries abides the turn of a block that is no cells. -/
theorem ownFrom_sw {β : Type} {Z : PutsP n0 σ len step} {wb : Nat} {mp : Value} {E T : TypeId} (W0 : World) (f : β → Sw σ) (G : β → Prop) : OwnFrom W0.heap.size (fun s V => G s ∧ SwP Z wb mp E T (f s) V ∧ Fr (Both2 (OwnW wb) Z.O) W0 V) := by
  rintro s V V' row ⟨hG, hs, hf⟩ hg hr
  obtain ⟨h1, h2⟩ := hs.turns hg (fun r e => (hr r e).2)
  refine ⟨hG, h1, hg.os.trans hf.os, hg.tape.trans hf.tape, hg.output.trans hf.output, Nat.le_trans hf.size hg.size, fun k hk ho => ?_⟩
  obtain ⟨e1, o1⟩ := hf.block k hk ho
  refine ⟨(hg.block k (Nat.lt_of_lt_of_le hk hf.size) (fun e => ?_)).trans e1, fun h => o1 ((h2 k).1 h)⟩
  have := (hr k e.symm).1
  omega
end
end Go.Proofs.YtdlpgonpikflfaaDoor
