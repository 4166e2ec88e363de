/- Swp: SwpP, SwpF, SwpA, SwpB, SwpC, SwpD, SwpE, SwpG, SwpH, SwpI, as one text. -/
import Derived.RangeFuncBox
import Derived.RangeFuncNested
import Derived.RangeFuncBound
import Derived.RangeFuncCalls
import Derived.RangeFuncLeaves
import Derived.Shelf.Abstract
import Derived.Shelf.RegionOpen
import Derived.WalkKit
import Derived.OwnWalkIn
import Derived.TacticsInMore
import Derived.LoopNIn
import Derived.LoopIn
import Derived.ControlIn
import Derived.Maps.OwnIn
import Derived.Maps.AppendAt
import Derived.Test.YtnieomgopldlhaaGreatDoorWalkPartsP9
import Derived.Test.YtnieomgopldlhaaGreatDoorWalkPartsP12
import Derived.Test.YtnieomgopldlhaaGreatDoorWalkPartsP14
import Derived.Test.YtnieomgopldlhaaGreatDoorWalkPartsP26
import Derived.Test.YtnieomgopldlhaaGreatDoorWalkPartsP33
/-! A sweep of tables, in plain words: what is put, which tables are gone through, whether it is too long. -/
namespace Go.Proofs.YtnieomgopldlhaaGreatDoor
open Go

/-- A descriptor and its number. -/
structure PD where
  i : Nat
  d : DescV
def PD.args (x : PD) : Array Value := #[.int .u64 x.i, x.d.val]
def mkM (a b c p q : Int) : M5 := ⟨IntKind.u64.wrap a, IntKind.u64.wrap b, IntKind.u64.wrap c, p, q, by rw [IntKind.wrap_u64]; unfold W64; omega, by rw [IntKind.wrap_u64]; unfold W64; omega, by rw [IntKind.wrap_u64]; unfold W64; omega⟩
def rdAt (t : Int) (i : Nat) : Int := IntKind.u64.wrap (t + 8 * (i : Int))
/-- A table's first descriptors, without those that are none. -/
def descsV (rd : Int → Int × Int) (k t : Int) : Nat → List PD
  | 0 => []
  | i + 1 => descsV rd k t i ++ if (rd (rdAt t i)).2 = 0 ∧ (ofV k (rd (rdAt t i)).1).kind ≠ 0 then [⟨i, ofV k (rd (rdAt t i)).1⟩] else []
theorem descsV_len (rd : Int → Int × Int) (k t : Int) : ∀ n, (descsV rd k t n).length ≤ n
  | 0 => Nat.le_refl _
  | n + 1 => by
    have := descsV_len rd k t n
    show (descsV rd k t n ++ _).length ≤ _
    rw [List.length_append]
    split <;> simp <;> omega
theorem descsV_pre (rd : Int → Int × Int) (k t : Int) (n : Nat) : ∀ d, ∃ r, descsV rd k t (n + d) = descsV rd k t n ++ r
  | 0 => ⟨[], by simp⟩
  | d + 1 => by
    obtain ⟨r, hr⟩ := descsV_pre rd k t n d
    exact ⟨r ++ if (rd (rdAt t (n + d))).2 = 0 ∧ (ofV k (rd (rdAt t (n + d))).1).kind ≠ 0 then [⟨n + d, ofV k (rd (rdAt t (n + d))).1⟩] else [], by
      show descsV rd k t (n + d) ++ _ = _
      rw [hr, List.append_assoc]; rfl⟩
theorem descsV_mem {rd : Int → Int × Int} {k t : Int} : ∀ {n : Nat} {x : PD}, x ∈ descsV rd k t n → x.i < n ∧ x.d = ofV k (rd (rdAt t x.i)).1 ∧ (rd (rdAt t x.i)).2 = 0 ∧ x.d.kind ≠ 0
  | 0, _, h => by cases h
  | n + 1, x, h => by
    rcases List.mem_append.1 (show x ∈ descsV rd k t n ++ _ from h) with h | h
    · have := descsV_mem h
      exact ⟨by omega, this.2⟩
    · by_cases hc : (rd (rdAt t n)).2 = 0 ∧ (ofV k (rd (rdAt t n)).1).kind ≠ 0
      · rw [if_pos hc, List.mem_singleton] at h
        subst h
        exact ⟨Nat.lt_succ_self n, rfl, hc.1, hc.2⟩
      · rw [if_neg hc] at h; cases h

/-- A sweep's state. -/
structure Sw (σ : Type) where
  tabs : List Int
  long : Bool
  st : σ
variable {σ : Type}
/-- What one descriptor comes to. -/
def swX (step : σ → M5 → σ) (rec : Int → Int → Sw σ → Sw σ) (k ipa : Int) (s : Sw σ) (x : PD) : Sw σ :=
  if s.long = true then s
  else if x.d.kind = 1 then rec x.d.pa (ipa + x.i * szV k) s
  else if x.d.af = true ∧ x.d.pa < 1099511627776 then { s with st := step s.st (mkM (ipa + x.i * szV k) x.d.pa (szV k) x.d.perm x.d.mem) }
  else s
def sw (rd : Int → Int × Int) (step : σ → M5 → σ) : Nat → Int → Nat → Int → Int → Sw σ → Sw σ
  | 0, _, _, _, _, s => s
  | D + 1, t, n, k, ipa, s =>
    if s.long = true ∨ s.tabs.length = 2000 then { s with long := true }
    else (descsV rd k t n).foldl (swX step (fun t' a' => sw rd step D t' 512 (k + 1) a') k ipa) { s with tabs := s.tabs ++ [t] }
/-- A state that is too long stays. -/
theorem swX_long (step : σ → M5 → σ) (rec : Int → Int → Sw σ → Sw σ) (k ipa : Int) : ∀ (l : List PD) (s : Sw σ), s.long = true → l.foldl (swX step rec k ipa) s = s
  | [], _, _ => rfl
  | x :: l, s, h => by
    rw [List.foldl_cons, show swX step rec k ipa s x = s by unfold swX; rw [if_pos h]]
    exact swX_long step rec k ipa l s h
/-- What a sweep puts is bounded by the tables that it goes through. -/
structure SwOk (len : σ → Nat) (s : Sw σ) (c : Nat) : Prop where
  tabs : s.tabs.length ≤ 2000
  st : len s.st + c ≤ 1024 * s.tabs.length
theorem swX_ok {len : σ → Nat} {step : σ → M5 → σ} (hs : ∀ s x, len (step s x) ≤ len s + 1) {rec : Int → Int → Sw σ → Sw σ} (hr : ∀ t a s c, SwOk len s c → SwOk len (rec t a s) c) (k ipa : Int) (x : PD) {s : Sw σ} {c : Nat} (h : SwOk len s (c + 1)) : SwOk len (swX step rec k ipa s x) c := by
  have h' : SwOk len s c := ⟨h.tabs, by have := h.st; omega⟩
  unfold swX
  split
  · exact h'
  · split
    · exact hr _ _ _ _ h'
    · split
      · exact ⟨h.tabs, by have := h.st; have := hs s.st (mkM (ipa + x.i * szV k) x.d.pa (szV k) x.d.perm x.d.mem); show len (step s.st _) + c ≤ 1024 * s.tabs.length; omega⟩
      · exact h'
theorem swL_ok {len : σ → Nat} {step : σ → M5 → σ} (hs : ∀ s x, len (step s x) ≤ len s + 1) {rec : Int → Int → Sw σ → Sw σ} (hr : ∀ t a s c, SwOk len s c → SwOk len (rec t a s) c) (k ipa : Int) : ∀ (l : List PD) {s : Sw σ} {c : Nat}, SwOk len s (c + l.length) → SwOk len (l.foldl (swX step rec k ipa) s) c
  | [], _, _, h => h
  | x :: l, s, c, h => by
    rw [List.foldl_cons]
    exact swL_ok hs hr k ipa l (swX_ok hs hr k ipa x (by rw [List.length_cons, ← Nat.add_assoc] at h; exact h))
theorem sw_enter {len : σ → Nat} {s : Sw σ} {c : Nat} (t : Int) (h : SwOk len s c) (hn : ¬ s.tabs.length = 2000) : SwOk len ({ s with tabs := s.tabs ++ [t] } : Sw σ) (c + 1024) :=
  ⟨by have := h.tabs; simp only [List.length_append, List.length_cons, List.length_nil]; omega, by have := h.st; simp only [List.length_append, List.length_cons, List.length_nil]; omega⟩
theorem sw_ok {len : σ → Nat} {rd : Int → Int × Int} {step : σ → M5 → σ} (hs : ∀ s x, len (step s x) ≤ len s + 1) : ∀ (D : Nat) (t : Int) (n : Nat) (k ipa : Int) (s : Sw σ) (c : Nat), n ≤ 1024 → SwOk len s c → SwOk len (sw rd step D t n k ipa s) c
  | 0, _, _, _, _, _, _, _, h => h
  | D + 1, t, n, k, ipa, s, c, hn, h => by
    unfold sw
    split
    · exact ⟨h.tabs, h.st⟩
    · rename_i hc
      have he := sw_enter t h (fun e => hc (.inr e))
      have hl := descsV_len rd k t n
      exact swL_ok hs (fun t' a' s' c' h' => sw_ok hs D t' 512 (k + 1) a' s' c' (by omega) h') k ipa _ ⟨he.tabs, by have := he.st; omega⟩
/-- What is put does not steer a sweep. -/
def Sw.map {τ : Type} (h : σ → τ) (s : Sw σ) : Sw τ := ⟨s.tabs, s.long, h s.st⟩
theorem sw_map {τ : Type} (h : σ → τ) {rd : Int → Int × Int} {step : σ → M5 → σ} {step' : τ → M5 → τ} (hh : ∀ s x, h (step s x) = step' (h s) x) : ∀ (D : Nat) (t : Int) (n : Nat) (k ipa : Int) (s : Sw σ), sw rd step' D t n k ipa (s.map h) = (sw rd step D t n k ipa s).map h
  | 0, _, _, _, _, _ => rfl
  | D + 1, t, n, k, ipa, s => by
    unfold sw
    have key : ∀ (l : List PD) (s : Sw σ), l.foldl (swX step' (fun t' a' => sw rd step' D t' 512 (k + 1) a') k ipa) (s.map h) = (l.foldl (swX step (fun t' a' => sw rd step D t' 512 (k + 1) a') k ipa) s).map h := by
      intro l
      induction l with
      | nil => intro s; rfl
      | cons x l ih =>
        intro s
        rw [List.foldl_cons, List.foldl_cons, ← ih]
        congr 1
        unfold swX
        show (if s.long = true then s.map h else _) = _
        split
        · rfl
        · split
          · exact sw_map h hh D _ _ _ _ s
          · split
            · show (⟨s.tabs, s.long, step' (h s.st) _⟩ : Sw τ) = ⟨s.tabs, s.long, h (step s.st _)⟩
              rw [hh]
            · rfl
    show (if s.long = true ∨ s.tabs.length = 2000 then _ else _) = _
    split
    · rfl
    · exact key _ { s with tabs := s.tabs ++ [t] }
theorem ofV_low {k a : Int} (hk : k = 3) : (ofV k a).kind ≠ 1 := by
  subst hk
  unfold ofV
  split
  · decide
  · split
    · rename_i h; exact absurd h (by simp)
    · show (if (3 : Int) = 3 then (3 : Int) else 2) ≠ 1
      decide
end Go.Proofs.YtnieomgopldlhaaGreatDoor
/-! What a sweep's steps leave as it lay: all but the blocks that it owns. -/
namespace Go.Proofs.YtnieomgopldlhaaGreatDoor
open Go Go.RowKit

/-- All but what is owned lies as it lay, and is not owned behind. -/
structure Fr (O : World → Nat → Prop) (W W' : World) : Prop where
  os : W'.os = W.os
  tape : W'.tape = W.tape
  output : W'.output = W.output
  size : W.heap.size ≤ W'.heap.size
  block : ∀ k, k < W.heap.size → ¬ O W k → W'.heap[k]? = W.heap[k]? ∧ ¬ O W' k
theorem Fr.refl (O : World → Nat → Prop) (W : World) : Fr O W W := ⟨rfl, rfl, rfl, Nat.le_refl _, fun _ _ h => ⟨rfl, h⟩⟩
theorem Fr.trans {O : World → Nat → Prop} {A B C : World} (h : Fr O A B) (k : Fr O B C) : Fr O A C :=
  ⟨k.os.trans h.os, k.tape.trans h.tape, k.output.trans h.output, Nat.le_trans h.size k.size, fun i hi ho => by
    obtain ⟨e1, o1⟩ := h.block i hi ho
    obtain ⟨e2, o2⟩ := k.block i (Nat.lt_of_lt_of_le hi h.size) o1
    exact ⟨e2.trans e1, o2⟩⟩
/-- What is owned lies from block 'n' on. -/
theorem Fr.below {O : World → Nat → Prop} {A B : World} (h : Fr O A B) {n : Nat} (hn : n ≤ A.heap.size) (ho : ∀ k, O A k → n ≤ k) : Below n A B :=
  ⟨h.os, h.tape, h.output, h.size, fun k hk => (h.block k (by omega) (fun e => by have := ho k e; omega)).1⟩
/-- Blocks that are owned are cells. -/
theorem Fr.keeps {O : World → Nat → Prop} {A B : World} (h : Fr O A B) (ho : ∀ k, O A k → ∃ o : Obj, A.heap[k]? = some o ∧ o.isCells = true) : KeepsOthers A B :=
  ⟨h.size, fun k o hk hc => (h.block k (Array.getElem?_eq_some_iff.1 hk).1 (fun e => by
    obtain ⟨o', h1, h2⟩ := ho k e
    rw [hk] at h1; cases h1; rw [hc] at h2; cases h2)).1.trans hk⟩
/-- What a slice in a cell owns. -/
def rowAt (a : Addr) (W : World) (k : Nat) : Prop := ∃ v, W.cell? a = some v ∧ v.ownBlock = some k
/-- What a walker owns: its own block, its row of tables. -/
def OwnW (wb : Nat) (W : World) (k : Nat) : Prop := k = wb ∨ rowAt ⟨wb, 1, none⟩ W k
def Both2 (O O' : World → Nat → Prop) (W : World) (k : Nat) : Prop := O W k ∨ O' W k

/-- A walker: its memory, the tables that it has gone through, whether they are too many. -/
structure WkP (wb n0 : Nat) (mp : Value) (E : TypeId) (T : TypeId) (W : World) (tabs : List Int) (long : Bool) : Prop where
  row : ∃ v, W.heap[wb]? = some (.cells #[mp, v, .bool long] T (0, 0)) ∧ W.ownsRow n0 E 1 v tabs.length (tabs.map (Value.int .u64))
  base : n0 ≤ wb
  ty : T ≠ E

theorem WkP.lt {wb n0 : Nat} {mp : Value} {E T : TypeId} {W : World} {tabs : List Int} {long : Bool} (h : WkP wb n0 mp E T W tabs long) : wb < W.heap.size := by
  obtain ⟨v, hv, _⟩ := h.row
  exact (Array.getElem?_eq_some_iff.1 hv).1
theorem WkP.own {wb n0 : Nat} {mp : Value} {E T : TypeId} {W : World} {tabs : List Int} {long : Bool} (h : WkP wb n0 mp E T W tabs long) {k : Nat} (ho : OwnW wb W k) : n0 ≤ k ∧ k < W.heap.size ∧ ∃ o : Obj, W.heap[k]? = some o ∧ o.isCells = true := by
  obtain ⟨v, hv, hr⟩ := h.row
  rcases ho with rfl | ⟨u, hu, hk⟩
  · exact ⟨h.base, h.lt, _, hv, rfl⟩
  · have : u = v := by
      have e : W.cell? ⟨wb, 1, none⟩ = some v := by simp [World.cell?, hv]
      rw [hu] at e; injection e
    subst this
    have hl := World.ownsRow.lt hr k hk
    refine ⟨hl.1, hl.2, ?_⟩
    obtain ⟨_, ⟨rfl, _⟩ | ⟨g, cap, cur, rfl, _, hg, _⟩⟩ := hr
    · simp [Value.ownBlock] at hk
    · simp [Value.ownBlock] at hk
      subst hk
      exact ⟨_, hg, rfl⟩
/-- A step that leaves what a walker owns leaves the walker. -/
theorem WkP.kept {wb n0 : Nat} {mp : Value} {E T : TypeId} {W W' : World} {tabs : List Int} {long : Bool} (h : WkP wb n0 mp E T W tabs long) (hk : ∀ k, OwnW wb W k → W'.heap[k]? = W.heap[k]?) : WkP wb n0 mp E T W' tabs long ∧ ∀ k, OwnW wb W' k ↔ OwnW wb W k := by
  obtain ⟨⟨v, hv, hr⟩, hb, ht⟩ := h
  have hw := hk wb (.inl rfl)
  refine ⟨⟨⟨v, hw.trans hv, ?_⟩, hb, ht⟩, fun k => ?_⟩
  · obtain ⟨hlen, hc⟩ := hr
    refine ⟨hlen, ?_⟩
    rcases hc with hc | ⟨g, cap, cur, rfl, hbg, hg, hrest⟩
    · exact .inl hc
    · exact .inr ⟨g, cap, cur, rfl, hbg, (hk g (.inr ⟨.slice (some ⟨g, 0, none⟩) tabs.length cap, by simp [World.cell?, hv], rfl⟩)).trans hg, hrest⟩
  · have e : W'.cell? ⟨wb, 1, none⟩ = W.cell? ⟨wb, 1, none⟩ := World.cell?_of_block hw
    unfold OwnW rowAt
    rw [e]

/-- A state of what is put, apart from a walker. -/
structure PutsP (n0 : Nat) (σ : Type) (len : σ → Nat) (step : σ → M5 → σ) where
  I : σ → World → Prop
  O : World → Nat → Prop
  own : ∀ {s W}, I s W → ∀ {k}, O W k → n0 ≤ k ∧ k < W.heap.size ∧ ∃ o : Obj, W.heap[k]? = some o ∧ o.isCells = true
  kept : ∀ {s W W'}, I s W → W.heap.size ≤ W'.heap.size → (∀ k, O W k → W'.heap[k]? = W.heap[k]?) → I s W' ∧ ∀ k, O W' k ↔ O W k
  grows : ∀ s x, len (step s x) ≤ len s + 1

section
variable {σ : Type} {len : σ → Nat} {step : σ → M5 → σ} {n0 : Nat}
/-- A sweep's state in memory: a walker, and what is put, apart. -/
structure SwP (Z : PutsP n0 σ len step) (wb : Nat) (mp : Value) (E T : TypeId) (s : Sw σ) (W : World) : Prop where
  wk : WkP wb n0 mp E T W s.tabs s.long
  put : Z.I s.st W
  apart : ∀ k, OwnW wb W k → ¬ Z.O W k
  base : n0 ≤ W.heap.size

variable {Z : PutsP n0 σ len step} {wb : Nat} {mp : Value} {E T : TypeId}
theorem SwP.own {s : Sw σ} {W : World} (h : SwP Z wb mp E T s W) {k : Nat} (ho : Both2 (OwnW wb) Z.O W k) : n0 ≤ k ∧ k < W.heap.size ∧ ∃ o : Obj, W.heap[k]? = some o ∧ o.isCells = true := by
  rcases ho with ho | ho
  · exact h.wk.own ho
  · exact Z.own h.put ho
/-- A step of nobody's. -/
theorem SwP.later {s : Sw σ} {W W' : World} (h : SwP Z wb mp E T s W) (hb : Below W.heap.size W W') : SwP Z wb mp E T s W' ∧ Fr (Both2 (OwnW wb) Z.O) W W' := by
  have h1 := h.wk.kept (fun k ho => hb.block k (h.wk.own ho).2.1)
  have h2 := Z.kept h.put hb.size (fun k ho => hb.block k (Z.own h.put ho).2.1)
  refine ⟨⟨h1.1, h2.1, fun k ho hp => h.apart k ((h1.2 k).1 ho) ((h2.2 k).1 hp), Nat.le_trans h.base hb.size⟩, hb.os, hb.tape, hb.output, hb.size, fun k hk ho => ⟨hb.block k hk, ?_⟩⟩
  rintro (h' | h')
  · exact ho (.inl ((h1.2 k).1 h'))
  · exact ho (.inr ((h2.2 k).1 h'))
/-- A put. -/
theorem SwP.puts {s : Sw σ} {st : σ} {W W' : World} (h : SwP Z wb mp E T s W) (hf : Fr Z.O W W') (hI : Z.I st W') : SwP Z wb mp E T { s with st := st } W' ∧ Fr (Both2 (OwnW wb) Z.O) W W' := by
  have h1 := h.wk.kept (fun k ho => (hf.block k (h.wk.own ho).2.1 (h.apart k ho)).1)
  refine ⟨⟨h1.1, hI, fun k ho => (hf.block k (h.wk.own ((h1.2 k).1 ho)).2.1 (h.apart k ((h1.2 k).1 ho))).2, Nat.le_trans h.base hf.size⟩, hf.os, hf.tape, hf.output, hf.size, fun k hk ho => ?_⟩
  have h2 := hf.block k hk (fun e => ho (.inr e))
  exact ⟨h2.1, fun e => e.elim (fun e => ho (.inl ((h1.2 k).1 e))) (fun e => h2.2 e)⟩
/-- A step of the walker's. -/
theorem SwP.walks {s : Sw σ} {tabs : List Int} {long : Bool} {W W' : World} (h : SwP Z wb mp E T s W) (hf : Fr (OwnW wb) W W') (hw : WkP wb n0 mp E T W' tabs long) : SwP Z wb mp E T { s with tabs := tabs, long := long } W' ∧ Fr (Both2 (OwnW wb) Z.O) W W' := by
  have hno : ∀ k, Z.O W k → ¬ OwnW wb W k := fun k hp ho => h.apart k ho hp
  have h2 := Z.kept h.put hf.size (fun k ho => (hf.block k (Z.own h.put ho).2.1 (hno k ho)).1)
  refine ⟨⟨hw, h2.1, fun k ho hp => (hf.block k (Z.own h.put ((h2.2 k).1 hp)).2.1 (hno k ((h2.2 k).1 hp))).2 ho, Nat.le_trans h.base hf.size⟩, hf.os, hf.tape, hf.output, hf.size, fun k hk ho => ?_⟩
  have h3 := hf.block k hk (fun e => ho (.inl e))
  exact ⟨h3.1, fun e => e.elim (fun e => h3.2 e) (fun e => ho (.inr ((h2.2 k).1 e)))⟩
/-- A turn of a block that is no cells. -/
theorem SwP.turns {s : Sw σ} {W W' : World} {row : Option Nat} (h : SwP Z wb mp E T s W) (hg : W.grownBy W' row) (hr : ∀ r, row = some r → ∃ o : Obj, W.heap[r]? = some o ∧ o.isCells = false) : SwP Z wb mp E T s W' ∧ ∀ k, Both2 (OwnW wb) Z.O W' k ↔ Both2 (OwnW wb) Z.O W k := by
  have hk : ∀ k, Both2 (OwnW wb) Z.O W k → W'.heap[k]? = W.heap[k]? := fun k ho => by
    obtain ⟨_, hl, o, e, hc⟩ := h.own ho
    refine hg.block k hl (fun e' => ?_)
    obtain ⟨o', e1, e2⟩ := hr k e'.symm
    rw [e] at e1; cases e1; rw [hc] at e2; cases e2
  have h1 := h.wk.kept (fun k ho => hk k (.inl ho))
  have h2 := Z.kept h.put hg.size (fun k ho => hk k (.inr ho))
  exact ⟨⟨h1.1, h2.1, fun k ho hp => h.apart k ((h1.2 k).1 ho) ((h2.2 k).1 hp), Nat.le_trans h.base hg.size⟩, fun k => or_congr (h1.2 k) (h2.2 k)⟩
end
end Go.Proofs.YtnieomgopldlhaaGreatDoor
/-! The iterator of a table's descriptors. -/
namespace Go.Proofs.YtnieomgopldlhaaGreatDoor
open Go Go.RowKit Go.Shelf Go.BigFrame

attribute [local go_sem] Oper.semAt_some

/-- What the iterator wants kept: its four boxes, the walker's memory, what lay ahead. -/
structure KeepsD (Bn Bw Ba Bl wb n0 : Nat) (W W' : World) : Prop where
  below : Below n0 W W'
  n : W'.heap[Bn]? = W.heap[Bn]?
  w : W'.heap[Bw]? = W.heap[Bw]?
  a : W'.heap[Ba]? = W.heap[Ba]?
  l : W'.heap[Bl]? = W.heap[Bl]?
  m : W'.cell? ⟨wb, 0, none⟩ = W.cell? ⟨wb, 0, none⟩
theorem KeepsD.refl (Bn Bw Ba Bl wb n0 : Nat) (W : World) : KeepsD Bn Bw Ba Bl wb n0 W W := ⟨Below.refl _ _, rfl, rfl, rfl, rfl, rfl⟩
theorem KeepsD.trans {Bn Bw Ba Bl wb n0 : Nat} {A B C : World} (h : KeepsD Bn Bw Ba Bl wb n0 A B) (k : KeepsD Bn Bw Ba Bl wb n0 B C) : KeepsD Bn Bw Ba Bl wb n0 A C :=
  ⟨h.below.trans k.below, k.n.trans h.n, k.w.trans h.w, k.a.trans h.a, k.l.trans h.l, k.m.trans h.m⟩
/-- The iterator's boxes. -/
structure DBoxes (Bn Bw Ba Bl wb n0 : Nat) (mp : Value) (t k : Int) (n : Nat) (W : World) : Prop where
  n : W.cell? ⟨Bn, 0, none⟩ = some (.int .i64 n)
  w : W.cell? ⟨Bw, 0, none⟩ = some (.pointer (some ⟨wb, 0, none⟩))
  a : W.cell? ⟨Ba, 0, none⟩ = some (.int .u64 t)
  l : W.cell? ⟨Bl, 0, none⟩ = some (.int .i64 k)
  m : W.cell? ⟨wb, 0, none⟩ = some mp
  base : n0 ≤ W.heap.size
theorem DBoxes.kept {Bn Bw Ba Bl wb n0 : Nat} {mp : Value} {t k : Int} {n : Nat} {W W' : World} (h : DBoxes Bn Bw Ba Bl wb n0 mp t k n W) (hk : KeepsD Bn Bw Ba Bl wb n0 W W') : DBoxes Bn Bw Ba Bl wb n0 mp t k n W' :=
  ⟨(World.cell?_of_block hk.n).trans h.n, (World.cell?_of_block hk.w).trans h.w, (World.cell?_of_block hk.a).trans h.a, (World.cell?_of_block hk.l).trans h.l, hk.m.trans h.m, Nat.le_trans h.base hk.below.size⟩
theorem DBoxes.keeps {Bn Bw Ba Bl wb n0 : Nat} {mp : Value} {t k : Int} {n : Nat} {W W' : World} (h : DBoxes Bn Bw Ba Bl wb n0 mp t k n W) (hb : Below W.heap.size W W') : KeepsD Bn Bw Ba Bl wb n0 W W' :=
  ⟨hb.mono h.base, hb.block _ (World.block_lt_of_cell? W _ h.n), hb.block _ (World.block_lt_of_cell? W _ h.w), hb.block _ (World.block_lt_of_cell? W _ h.a), hb.block _ (World.block_lt_of_cell? W _ h.l), hb.cell (p := ⟨wb, 0, none⟩) (World.block_lt_of_cell? W _ h.m)⟩

theorem abides_all {β : Type} {B : Nat} {J : β → World → Prop} (hJ : AbidesFrom B J) {s : β} {w w' : World} (h : J s w) (hb : Below w.heap.size w w') : J s w' :=
  hJ s w w' none h (grown_of_below hb) (fun _ e => by cases e)
set_option maxRecDepth 100000 in
set_option maxHeartbeats 4000000 in
theorem descs1_in (n l Bn Bw Ba Bl wb n0 : Nat) (hn : 1 ≤ n) (p : Option Addr) (rd : Int → Int × Int) (w0 : World) (hrd : Reads (.pointer p) rd n0 w0) (hT : Tab3 w0) (hT0 : 0 < n0) (t k : Int) (c : Nat) (hc : c ≤ 1024) (ht : W64 t) (J Jx : List PD → World → Prop)
    (hY : ∀ pre (x : PD) W, x ∈ descsV rd k t c → J pre W → pre.length < (descsV rd k t c).length → YieldAt Fence.wide (n - 1) Tryz.prog l x.args W fun e W' =>
      (e = .returned (.bool true) ∧ J (pre ++ [x]) W' ∧ KeepsD Bn Bw Ba Bl wb n0 W W') ∨ (e = .returned (.bool false) ∧ Jx (pre ++ [x]) W'))
    (W : World) (hJ : AbidesFrom W.heap.size J) (hD : DBoxes Bn Bw Ba Bl wb n0 (.pointer p) t k c W) (hW0 : Below n0 w0 W) (h0 : J [] W) :
    CallsIn Fence.wide n Tryz.prog 107 #[.func (.yield l) #[] #[], .pointer (some ⟨Bn, 0, none⟩), .pointer (some ⟨Bw, 0, none⟩), .pointer (some ⟨Ba, 0, none⟩), .pointer (some ⟨Bl, 0, none⟩)] W fun e W' => (∃ v, e = .returned v) ∧
      ((∃ ys, ys = descsV rd k t c ∧ J ys W') ∨ (∃ pre, (∃ r, descsV rd k t c = pre ++ r) ∧ Jx pre W')) := by
  have t0 := ht.1
  have t1 := ht.2
  have hwr : IntKind.u64.wrap (c : Int) = c := by rw [IntKind.wrap_u64]; omega
  refine callsIn_of_wp Tryz.func107 rfl trivial ?_ rfl
  simp only [Tryz.ntmps107, List.size_toArray, List.length_cons, List.length_nil, Nat.reduceAdd, Nat.reduceSub, Array.replicate_succ, Array.replicate_zero, List.push_toArray, List.append_toArray, List.nil_append, List.cons_append]
  have q0 := hD.n
  gi_wp2
  clear q0
  gi_loopw [12] (fun i wr => ∃ j : Nat, j ≤ c ∧ i = .int .u64 j ∧ J (descsV rd k t j) wr ∧ KeepsD Bn Bw Ba Bl wb n0 W wr) (fun i _ => c - (intOf i).toNat)
  case atStart => exact ⟨0, Nat.zero_le _, rfl, h0, KeepsD.refl _ _ _ _ _ _ _⟩
  case round =>
    obtain ⟨j, hj, rfl, hJs, hK⟩ := hrel
    by_cases hlt : j < c
    · have hD1 := hD.kept hK
      have hB1 := hW0.trans hK.below
      have hsz := hK.below.size
      have hA : W64 (IntKind.u64.wrap (t + 8 * (j : Int))) := by rw [IntKind.wrap_u64]; unfold W64; omega
      have hw8 : IntKind.u64.wrap (8 * (j : Int)) = 8 * (j : Int) := by rw [IntKind.wrap_u64]; omega
      have hwd := fun W h => hrd.2 _ W h hA
      have hrb := hrd.1 (IntKind.u64.wrap (t + 8 * (j : Int)))
      have hsn : descsV rd k t (j + 1) = descsV rd k t j ++ if (rd (rdAt t j)).2 = 0 ∧ (ofV k (rd (rdAt t j)).1).kind ≠ 0 then [⟨j, ofV k (rd (rdAt t j)).1⟩] else [] := rfl
      have hpre := descsV_pre rd k t (j + 1) (c - (j + 1))
      rw [show j + 1 + (c - (j + 1)) = c by omega] at hpre
      rw [show rdAt t j = IntKind.u64.wrap (t + 8 * (j : Int)) from rfl] at hsn
      generalize hAe : IntKind.u64.wrap (t + 8 * (j : Int)) = A at *
      generalize rd A = ra at *
      obtain ⟨x, ex⟩ := ra
      have hof := fun (W : World) (h : Tab3 W) => of_any k x W h hrb.1 hrb.2
      simp only at hsn
      obtain ⟨q1, q2, q3, q4, q5, q6⟩ := hD1
      gi_wp2
      refine region_later_in wr.heap.size wr (Below.refl _ _) rfl (by kernel_rfl) (by kernel_rfl) ?_
      have y0 := later_cell (B := wr.heap.size) q2 (World.block_lt_of_cell? wr _ q2)
      have y1 := later_cell (B := wr.heap.size) q3 (World.block_lt_of_cell? wr _ q3)
      have y2 := later_cell (B := wr.heap.size) q5 (World.block_lt_of_cell? wr _ q5)
      have hwl : ∀ W', Below wr.heap.size wr W' → Below n0 w0 W' := fun W' h => hB1.trans (h.mono q6)
      repeat (refine wpQuietIn_step (fun _ _ _ _ => trivial) (fun K hK => ?_); go_simp; first | (refine hK _ ?_; clear hK K) | (apply Exists.intro; refine ⟨fun _ => ?_, hK _ ?_⟩; (first | (gi_at_call 56; exact quiet_later_in (Nat.le_refl _) (callsIn_wide.2 (hwd _ (hwl _ (Later.h _)))))); clear hK K))
      refine wpQuietIn_nil ?_
      first | (rintro _ ⟨X, rfl⟩) | (intro X)
      have hX := X.h
      clear y0 y1 y2
      generalize X.x = w3 at *
      have q4' : w3.cell? ⟨Bl, 0, none⟩ = some (.int .i64 k) := cell_lt hX q4 (World.block_lt_of_cell? wr _ q4)
      have hB3 := hwl _ hX
      have hK3 := hK.trans (DBoxes.keeps ⟨q1, q2, q3, q4, q5, q6⟩ hX)
      have hJ3 := abides_all (B := W.heap.size) hJ hJs hX
      have hTw := (hT.belowB hB3 hT0)
      clear hwd hwl q1 q2 q3 q4 q5
      by_cases hex : ex = 0
      · have hq0 : (ex == 0) = true := by rw [hex]; rfl
        rw [hex] at hsn
        have hofw := hof _ hTw
        clear hof
        generalize ofV k x = d at *
        obtain ⟨kd, pa, pm, mm, af⟩ := d
        simp only [DescV.val] at hofw
        gi_wp2
        refine ⟨trivial, ?_⟩
        refine (callsIn_wide.2 hofw).mono ?_; rintro e w4 ⟨rfl, hb4⟩
        have hb5 : Below w3.heap.size w3 (w4.alloc (.cells #[.int .i64 kd, .int .u64 pa, .int .i64 pm, .int .i64 mm, .bool af] 153)) := hb4.alloc hb4.size _
        by_cases hk0 : kd = 0
        · have hq1 : (kd != 0) = false := by rw [hk0]; rfl
          rw [if_neg (by simp [hk0]), List.append_nil] at hsn
          replace hsn := Lib.hid hsn
          replace hk0 := Lib.hid hk0
          gi_wp2
          refine ⟨(fun f h => (by cases h)), ?_⟩
          gi_wp2
          go_roundw
          case rel => exact ⟨j + 1, by omega, by go_num, by rw [hsn.out]; exact abides_all (B := W.heap.size) hJ hJ3 hb5, hK3.trans (DBoxes.keeps (hD.kept hK3) hb5)⟩
          case measure => simp [intOf]; omega
        · have hq1 : (kd != 0) = true := by simpa using hk0
          rw [if_pos (by simp [hk0])] at hsn
          obtain ⟨r, hr⟩ := hpre
          rw [hsn] at hr
          have hlk : (descsV rd k t j).length < (descsV rd k t c).length := by rw [hr]; simp
          have hy0 := hY _ ⟨j, ⟨kd, pa, pm, mm, af⟩⟩ _ (by rw [hr]; simp) (abides_all (B := W.heap.size) hJ hJ3 hb5) hlk
          simp only [PD.args, DescV.val] at hy0
          obtain ⟨fn, tmps, assign, body, hy, hR⟩ := hy0
          have hK5 := hK3.trans (DBoxes.keeps (hD.kept hK3) hb5)
          replace hr := Lib.hid hr
          replace hsn := Lib.hid hsn
          clear hlk hofw
          gi_wp2
          refine hR.mono ?_
          rintro e W3 (⟨rfl, hJ4, hk4⟩ | ⟨rfl, hJx4⟩)
          · gi_wp2
            go_roundw
            case rel => exact ⟨j + 1, by omega, by go_num, by rw [hsn.out]; exact hJ4, hK5.trans hk4⟩
            case measure => simp [intOf]; omega
          · gi_wp2
            refine bodyPost_ret (results_none rfl _ _ _) rfl ?_
            exact ⟨⟨_, rfl⟩, .inr ⟨_, ⟨_, hr.out⟩, hJx4⟩⟩
      · have hq0 : (ex == 0) = false := by simpa using hex
        rw [if_neg (by simp [hex]), List.append_nil] at hsn
        replace hsn := Lib.hid hsn
        gi_wp2
        go_roundw
        case rel => exact ⟨j + 1, by omega, by go_num, by rw [hsn.out]; exact hJ3, hK3⟩
        case measure => simp [intOf]; omega
    · obtain rfl : j = c := by omega
      gi_wp2
      go_end0
      exact ⟨⟨_, rfl⟩, .inl ⟨_, rfl, hJs⟩⟩
end Go.Proofs.YtnieomgopldlhaaGreatDoor
/-! A sweep: what is laid ahead of it; the iterator as its loop sees it. -/
namespace Go.Proofs.YtnieomgopldlhaaGreatDoor
open Go Go.RowKit Go.Shelf Go.BigFrame

attribute [local go_sem] Oper.semAt_some

/-- Four boxes, one behind the other. -/
theorem box_four (w W1 : World) (a b c d : Value) (ta tb tc td : TypeId) (h : W1 = (((w.alloc (.cells #[a] ta)).alloc (.cells #[b] tb)).alloc (.cells #[c] tc)).alloc (.cells #[d] td)) :
    W1.cell? ⟨w.heap.size, 0, none⟩ = some a ∧ W1.cell? ⟨w.heap.size + 1, 0, none⟩ = some b ∧ W1.cell? ⟨w.heap.size + 1 + 1, 0, none⟩ = some c ∧ W1.cell? ⟨w.heap.size + 1 + 1 + 1, 0, none⟩ = some d ∧ W1.heap.size = w.heap.size + 4 ∧ Below w.heap.size w W1 := by
  obtain ⟨x1, h1⟩ : ∃ x, x = w.alloc (.cells #[a] ta) := ⟨_, rfl⟩
  obtain ⟨x2, h2⟩ : ∃ x, x = x1.alloc (.cells #[b] tb) := ⟨_, rfl⟩
  obtain ⟨x3, h3⟩ : ∃ x, x = x2.alloc (.cells #[c] tc) := ⟨_, rfl⟩
  rw [← h1, ← h2, ← h3] at h
  have z1 : x1.heap.size = w.heap.size + 1 := by rw [h1]; simp
  have z2 : x2.heap.size = w.heap.size + 1 + 1 := by rw [h2]; simp [z1]
  have z3 : x3.heap.size = w.heap.size + 1 + 1 + 1 := by rw [h3]; simp [z2]
  have z4 : W1.heap.size = w.heap.size + 1 + 1 + 1 + 1 := by rw [h]; simp [z3]
  have f1 := bone w (.cells #[a] ta)
  rw [← h1] at f1
  have f2 := bone x1 (.cells #[b] tb)
  rw [← h2] at f2
  have f3 := bone x2 (.cells #[c] tc)
  rw [← h3] at f3
  have f4 := bone x3 (.cells #[d] td)
  rw [← h] at f4
  have c1 : x1.cell? ⟨w.heap.size, 0, none⟩ = some a := by rw [h1]; simp [World.cell?_alloc_new]
  have c2 : x2.cell? ⟨x1.heap.size, 0, none⟩ = some b := by rw [h2]; simp [World.cell?_alloc_new]
  have c3 : x3.cell? ⟨x2.heap.size, 0, none⟩ = some c := by rw [h3]; simp [World.cell?_alloc_new]
  have c4 : W1.cell? ⟨x3.heap.size, 0, none⟩ = some d := by rw [h]; simp [World.cell?_alloc_new]
  rw [z1] at c2
  rw [z2] at c3
  rw [z3] at c4
  exact ⟨cell_lt f4 (cell_lt f3 (cell_lt f2 c1 (by omega)) (by omega)) (by omega), cell_lt f4 (cell_lt f3 c2 (by omega)) (by omega), cell_lt f4 c3 (by omega), c4, by omega, bthen (bthen (bthen f1 f2) f3) f4⟩

set_option maxRecDepth 20000 in
set_option maxHeartbeats 1000000 in
theorem descs_in (n wb : Nat) (t k : Int) (c : Int) (w : World) :
    CallsIn Fence.wide n Tryz.prog 75 #[.pointer (some ⟨wb, 0, none⟩), .int .u64 t, .int .i64 c, .int .i64 k] w fun e w' => e = .returned (.func (.func 107) #[] #[.pointer (some ⟨w.heap.size + 1 + 1, 0, none⟩), .pointer (some ⟨w.heap.size, 0, none⟩), .pointer (some ⟨w.heap.size + 1, 0, none⟩), .pointer (some ⟨w.heap.size + 1 + 1 + 1, 0, none⟩)]) ∧ w' = (((w.alloc (.cells #[.pointer (some ⟨wb, 0, none⟩)] 169)).alloc (.cells #[.int .u64 t] 24)).alloc (.cells #[.int .i64 c] 3)).alloc (.cells #[.int .i64 k] 3) := by
  refine callsIn_of_wp Tryz.func75 rfl trivial ?_ rfl
  simp only [Tryz.ntmps75, List.size_toArray, List.length_cons, List.length_nil, Nat.reduceAdd, Nat.reduceSub, Array.replicate_succ, Array.replicate_zero, List.push_toArray, List.append_toArray, List.nil_append, List.cons_append]
  gi_wp2
  go_ret
  exact ⟨rfl, rfl⟩

theorem DBoxes.lt {Bn Bw Ba Bl wb n0 : Nat} {mp : Value} {t k : Int} {n : Nat} {W : World} (h : DBoxes Bn Bw Ba Bl wb n0 mp t k n W) : Bn < W.heap.size ∧ Bw < W.heap.size ∧ Ba < W.heap.size ∧ Bl < W.heap.size ∧ wb < W.heap.size :=
  ⟨World.block_lt_of_cell? W _ h.n, World.block_lt_of_cell? W _ h.w, World.block_lt_of_cell? W _ h.a, World.block_lt_of_cell? W _ h.l, World.block_lt_of_cell? W _ h.m⟩
/-- A descriptor of a table. -/
structure PDIn (rd : Int → Int × Int) (k t : Int) (c : Nat) where
  x : PD
  mem : x ∈ descsV rd k t c
theorem descs_stops (n Bn Bw Ba Bl wb n0 : Nat) (hn : 1 ≤ n) (p : Option Addr) (rd : Int → Int × Int) (w0 w : World) (hrd : Reads (.pointer p) rd n0 w0) (hT : Tab3 w0) (hT0 : 0 < n0) (t k : Int) (c : Nat) (hc : c ≤ 1024) (ht : W64 t)
    (hD : DBoxes Bn Bw Ba Bl wb n0 (.pointer p) t k c w) (hW0 : Below n0 w0 w) :
    SeqStopsK Fence.wide n Tryz.prog 107 #[.pointer (some ⟨Bn, 0, none⟩), .pointer (some ⟨Bw, 0, none⟩), .pointer (some ⟨Ba, 0, none⟩), .pointer (some ⟨Bl, 0, none⟩)] (fun x : PDIn rd k t c => x.1.args) (KeepsD Bn Bw Ba Bl wb n0) (fun ys => ys.map (·.1) = descsV rd k t c) (fun pre => ∃ r, descsV rd k t c = pre.map (·.1) ++ r) (descsV rd k t c).length w := by
  intro l J Jx W hW1 hJ hJx hY h00
  refine (descs1_in n l Bn Bw Ba Bl wb n0 hn p rd w0 hrd hT hT0 t k c hc ht (fun l W => ∃ l' : List (PDIn rd k t c), l'.map (·.1) = l ∧ J l' W) (fun l W => ∃ l' : List (PDIn rd k t c), l'.map (·.1) = l ∧ Jx l' W) ?_ W ?_ (hD.kept (hD.keeps hW1)) (hW0.trans (hW1.mono hD.base)) ⟨[], rfl, h00⟩).mono ?_
  · rintro _ x W' hx ⟨l', rfl, hj⟩ hl
    refine YieldAt.mono (hY l' ⟨x, hx⟩ W' hj (by simpa using hl)) ?_
    rintro e W'' (⟨h1, h2, h3⟩ | ⟨h1, h2⟩)
    · exact .inl ⟨h1, ⟨_, by rw [List.map_append]; rfl, h2⟩, h3⟩
    · exact .inr ⟨h1, _, by rw [List.map_append]; rfl, h2⟩
  · rintro s X Y row ⟨l', h1, h2⟩ hg hr
    exact ⟨l', h1, hJ _ X Y row h2 hg hr⟩
  · rintro e W' ⟨h1, ⟨ys, rfl, l', h2, h3⟩ | ⟨pre, ⟨r, hr⟩, l', rfl, h3⟩⟩
    · exact ⟨h1, .inl ⟨l', h2, h3⟩⟩
    · exact ⟨h1, .inr ⟨l', ⟨r, hr⟩, h3⟩⟩
theorem keepsD_put {Bn Bw Ba Bl wb n0 : Nat} {mp : Value} {t k : Int} {n : Nat} {w : World} (hD : DBoxes Bn Bw Ba Bl wb n0 mp t k n w) (W : World) (l : Nat) (o o' : Obj) (hl : w.heap.size ≤ l) (hlo : W.heap[l]? = some o) (_ : o.isCells = false) (_ : o.isWalk = false) : KeepsD Bn Bw Ba Bl wb n0 W (W.putObj l o') := by
  obtain ⟨h1, h2, h3, h4, h5⟩ := hD.lt
  have hb : ∀ b, b < w.heap.size → (W.putObj l o').heap[b]? = W.heap[b]? := fun b hb => by
    rw [show (W.putObj l o').heap = W.heap.setIfInBounds l o' from rfl, Array.getElem?_setIfInBounds_ne (by omega)]
  exact ⟨(Below.refl n0 W).grown (grownBy_putObj' W l o') (by have := (Array.getElem?_eq_some_iff.1 hlo).1; have := hD.base; omega) (fun k e => by cases e; have := hD.base; omega), hb _ h1, hb _ h2, hb _ h3, hb _ h4, World.cell?_of_block (hb _ h5)⟩
/-- A sweep's step keeps what the iterator wants, where its boxes are nobody's. -/
theorem KeepsD.of_fr {σ : Type} {len : σ → Nat} {step : σ → M5 → σ} {n0 : Nat} {Z : PutsP n0 σ len step} {wb : Nat} {mp : Value} {E T : TypeId} {s s' : Sw σ} {W W' : World} {Bn Bw Ba Bl : Nat} {t k : Int} {n : Nat}
    (hs : SwP Z wb mp E T s W) (hf : Fr (Both2 (OwnW wb) Z.O) W W') (hs' : SwP Z wb mp E T s' W') (hD : DBoxes Bn Bw Ba Bl wb n0 mp t k n W)
    (h1 : ¬ Both2 (OwnW wb) Z.O W Bn) (h2 : ¬ Both2 (OwnW wb) Z.O W Bw) (h3 : ¬ Both2 (OwnW wb) Z.O W Ba) (h4 : ¬ Both2 (OwnW wb) Z.O W Bl) : KeepsD Bn Bw Ba Bl wb n0 W W' := by
  obtain ⟨l1, l2, l3, l4, l5⟩ := hD.lt
  refine ⟨hf.below hs.base (fun k h => (hs.own h).1), (hf.block _ l1 h1).1, (hf.block _ l2 h2).1, (hf.block _ l3 h3).1, (hf.block _ l4 h4).1, ?_⟩
  obtain ⟨v, hv, _⟩ := hs'.wk.row
  rw [hD.m]
  simp [World.cell?, hv]
end Go.Proofs.YtnieomgopldlhaaGreatDoor
/-! The program's sweep. -/
namespace Go.Proofs.YtnieomgopldlhaaGreatDoor
open Go Go.RowKit Go.Shelf Go.BigFrame

attribute [local go_sem] Oper.semAt_some

section
variable {σ : Type} {len : σ → Nat} {step : σ → M5 → σ} {n0 : Nat}
/-- What puts a part. -/
def Puts (Z : PutsP n0 σ len step) (pf : Nat) (pb : Array Value) : Prop :=
  (∀ args w, (callFunc pf args).run Tryz.prog w = .ok (.enter pf args) w) ∧ ∀ (x : M5) (s : σ) (W : World), Z.I s W → n0 ≤ W.heap.size → len s ≤ 2048000 → Calls Tryz.prog pf (#[.agg x.enc.toArray] ++ pb) W fun e W' => (∃ v, e = .returned v) ∧ Z.I (step s x) W' ∧ Fr Z.O W W'

/-- The walker's mark is set. -/
theorem SwP.mark {Z : PutsP n0 σ len step} {wb : Nat} {mp : Value} {E T : TypeId} {s : Sw σ} {W : World} (h : SwP Z wb mp E T s W) (L : Bool) : SwP Z wb mp E T { s with long := L } (W.setCell ⟨wb, 2, none⟩ (.bool L)) ∧ Fr (Both2 (OwnW wb) Z.O) W (W.setCell ⟨wb, 2, none⟩ (.bool L)) := by
  obtain ⟨v, hv, hr⟩ := h.wk.row
  have hlt := h.wk.lt
  have hb : ∀ k, k ≠ wb → (W.setCell ⟨wb, 2, none⟩ (.bool L)).heap[k]? = W.heap[k]? := fun k hk => Below.heap_setCell W ⟨wb, 2, none⟩ _ k hk
  have hnew : (W.setCell ⟨wb, 2, none⟩ (.bool L)).heap[wb]? = some (.cells #[mp, v, .bool L] T (0, 0)) := by
    simp [World.setCell, Array.getElem?_modify, hv]
  have hw : WkP wb n0 mp E T (W.setCell ⟨wb, 2, none⟩ (.bool L)) s.tabs L := by
    refine ⟨⟨v, hnew, ?_⟩, h.wk.base, h.wk.ty⟩
    obtain ⟨hlen, hc⟩ := hr
    refine ⟨hlen, ?_⟩
    rcases hc with hc | ⟨g, cap, cur, rfl, hbg, hg, hrest⟩
    · exact .inl hc
    · refine .inr ⟨g, cap, cur, rfl, hbg, (hb g ?_).trans hg, hrest⟩
      rintro rfl
      rw [hv] at hg
      have := h.wk.ty
      simp at hg
      exact this hg.2
  refine h.walks (tabs := s.tabs) (long := L) ⟨rfl, rfl, rfl, by simp [World.setCell], fun k hk ho => ⟨hb k (fun e => ho (.inl e)), ?_⟩⟩ hw
  rintro (rfl | ⟨u, hu, hk'⟩)
  · exact ho (.inl rfl)
  · have e1 : (W.setCell ⟨wb, 2, none⟩ (.bool L)).cell? ⟨wb, 1, none⟩ = some v := by simp [World.cell?, hnew]
    rw [hu] at e1; cases e1
    exact ho (.inr ⟨v, by simp [World.cell?, hv], hk'⟩)
theorem SwP.rowne {Z : PutsP n0 σ len step} {wb : Nat} {mp : Value} {E T : TypeId} {s : Sw σ} {W : World} {v : Value} (h : SwP Z wb mp E T s W) (hv : W.cell? ⟨wb, 1, none⟩ = some v) : v.ownBlock ≠ some wb ∧ ∀ k, v.ownBlock = some k → n0 ≤ k ∧ k < W.heap.size := by
  refine ⟨fun hk => ?_, fun k hk => ?_⟩
  · obtain ⟨v0, hv0, hr⟩ := h.wk.row
    have he : v0 = v := by
      have e : W.cell? ⟨wb, 1, none⟩ = some v0 := by simp [World.cell?, hv0]
      rw [hv] at e; injection e with e; exact e.symm
    subst he
    obtain ⟨_, ⟨rfl, _⟩ | ⟨g, cap, cur, rfl, _, hg', _⟩⟩ := hr
    · simp [Value.ownBlock] at hk
    · simp [Value.ownBlock] at hk
      subst hk
      rw [hv0] at hg'
      have := h.wk.ty
      simp at hg'
      exact this hg'.2
  · have := h.wk.own (k := k) (.inr ⟨v, hv, hk⟩)
    exact ⟨this.1, this.2.1⟩
/-- A table more. -/
theorem SwP.app {Z : PutsP n0 σ len step} {wb : Nat} {mp : Value} {E T : TypeId} {s : Sw σ} {W w4 : World} {v v' : Value} {t : Int} {tmp : Obj} (h : SwP Z wb mp E T s W) (hv : W.cell? ⟨wb, 1, none⟩ = some v) (hg : (W.alloc tmp).grownBy w4 v.ownBlock)
    (ho : w4.ownsRow n0 E 1 v' (s.tabs.length + 1) ((s.tabs ++ [t]).map (Value.int .u64))) (hat : v'.ownBlock = v.ownBlock ∨ ∀ k, v'.ownBlock = some k → W.heap.size ≤ k) :
    SwP Z wb mp E T { s with tabs := s.tabs ++ [t] } (w4.setCell ⟨wb, 1, none⟩ v') ∧ Fr (Both2 (OwnW wb) Z.O) W (w4.setCell ⟨wb, 1, none⟩ v') := by
  obtain ⟨v0, hv0, hr⟩ := h.wk.row
  have hlt := h.wk.lt
  have he : v0 = v := by
    have e : W.cell? ⟨wb, 1, none⟩ = some v0 := by simp [World.cell?, hv0]
    rw [hv] at e; injection e with e; exact e.symm
  subst he
  have hne : ∀ k, v0.ownBlock = some k → k ≠ wb := fun k hk => by
    rintro rfl
    obtain ⟨_, ⟨rfl, _⟩ | ⟨g, cap, cur, rfl, _, hg', _⟩⟩ := hr
    · simp [Value.ownBlock] at hk
    · simp [Value.ownBlock] at hk
      subst hk
      rw [hv0] at hg'
      have := h.wk.ty
      simp at hg'
      exact this hg'.2
  have hb4 : ∀ k, k < W.heap.size → v0.ownBlock ≠ some k → w4.heap[k]? = W.heap[k]? := fun k hk hn => (hg.block k (by simp; omega) (fun e => hn e.symm)).trans (Below.heap_alloc _ _ _ hk)
  have hw4 : w4.heap[wb]? = some (.cells #[mp, v0, .bool s.long] T (0, 0)) := (hb4 wb hlt (fun e => hne _ e rfl)).trans hv0
  have hs4 : W.heap.size ≤ w4.heap.size := by have := hg.size; simp at this; omega
  have hb : ∀ k, k ≠ wb → (w4.setCell ⟨wb, 1, none⟩ v').heap[k]? = w4.heap[k]? := fun k hk => Below.heap_setCell w4 ⟨wb, 1, none⟩ _ k hk
  have hnew : (w4.setCell ⟨wb, 1, none⟩ v').heap[wb]? = some (.cells #[mp, v', .bool s.long] T (0, 0)) := by
    simp [World.setCell, Array.getElem?_modify, hw4]
  have hne' : ∀ k, v'.ownBlock = some k → k ≠ wb := fun k hk => by
    rcases hat with e | e
    · exact hne k (e ▸ hk)
    · have := e k hk; omega
  have hw : WkP wb n0 mp E T (w4.setCell ⟨wb, 1, none⟩ v') (s.tabs ++ [t]) s.long := by
    refine ⟨⟨v', hnew, ?_⟩, h.wk.base, h.wk.ty⟩
    rw [List.length_append]
    obtain ⟨hlen, hc⟩ := ho
    refine ⟨hlen, ?_⟩
    rcases hc with hc | ⟨g, cap, cur, rfl, hbg, hg', hrest⟩
    · exact .inl hc
    · exact .inr ⟨g, cap, cur, rfl, hbg, (hb g (hne' g rfl)).trans hg', hrest⟩
  refine h.walks (tabs := s.tabs ++ [t]) (long := s.long) ⟨hg.os, hg.tape, hg.output, by simpa [World.setCell] using hs4, fun k hk ho => ⟨(hb k (fun e => ho (.inl e))).trans (hb4 k hk (fun e => ho (.inr ⟨v0, hv, e⟩))), ?_⟩⟩ hw
  rintro (rfl | ⟨u, hu, hk'⟩)
  · exact ho (.inl rfl)
  · have e1 : (w4.setCell ⟨wb, 1, none⟩ v').cell? ⟨wb, 1, none⟩ = some v' := by simp [World.cell?, hnew]
    rw [hu] at e1; cases e1
    rcases hat with e | e
    · exact ho (.inr ⟨v0, hv, e ▸ hk'⟩)
    · have := e k hk'; omega
theorem SwP.later_lt {Z : PutsP n0 σ len step} {wb : Nat} {mp : Value} {E T : TypeId} {s : Sw σ} {W W' : World} (h : SwP Z wb mp E T s W) (hb : Below W.heap.size W W') {k : Nat} (ho : Both2 (OwnW wb) Z.O W' k) : k < W.heap.size := by
  have h1 := h.wk.kept (fun k ho => hb.block k (h.wk.own ho).2.1)
  have h2 := Z.kept h.put hb.size (fun k ho => hb.block k (Z.own h.put ho).2.1)
  rcases ho with ho | ho
  · exact (h.wk.own ((h1.2 k).1 ho)).2.1
  · exact (Z.own h.put ((h2.2 k).1 ho)).2.1
/-- What a sweep's loop carries abides the turn of a block that is no cells. -/
theorem ownFrom_sw {β : Type} {Z : PutsP n0 σ len step} {wb : Nat} {mp : Value} {E T : TypeId} (W0 : World) (f : β → Sw σ) (G : β → Prop) : OwnFrom W0.heap.size (fun s V => G s ∧ SwP Z wb mp E T (f s) V ∧ Fr (Both2 (OwnW wb) Z.O) W0 V) := by
  rintro s V V' row ⟨hG, hs, hf⟩ hg hr
  obtain ⟨h1, h2⟩ := hs.turns hg (fun r e => (hr r e).2)
  refine ⟨hG, h1, hg.os.trans hf.os, hg.tape.trans hf.tape, hg.output.trans hf.output, Nat.le_trans hf.size hg.size, fun k hk ho => ?_⟩
  obtain ⟨e1, o1⟩ := hf.block k hk ho
  refine ⟨(hg.block k (Nat.lt_of_lt_of_le hk hf.size) (fun e => ?_)).trans e1, fun h => o1 ((h2 k).1 h)⟩
  have := (hr k e.symm).1
  omega
end
end Go.Proofs.YtnieomgopldlhaaGreatDoor
/-! The program's sweep: the walk. -/
namespace Go.Proofs.YtnieomgopldlhaaGreatDoor
open Go Go.RowKit Go.Shelf Go.BigFrame

attribute [local go_sem] Oper.semAt_some

/-- Two cells. -/
structure CellsAre (b o b' o' : Nat) (v v' : Value) where
  x : World
  h : x.cell? ⟨b, o, none⟩ = some v
  h' : x.cell? ⟨b', o', none⟩ = some v'
theorem rowSlice {w : World} {base size n : Nat} {E : TypeId} {v : Value} {xs : List Value} (h : w.ownsRow base E size v n xs) : ∃ (a : Option Addr) (c : Nat), v = .slice a n c := by
  obtain ⟨_, ⟨rfl, rfl⟩ | ⟨g, cap, cur, hv, _⟩⟩ := h
  · exact ⟨none, 0, rfl⟩
  · exact ⟨_, _, hv⟩
theorem infoU64 : (Tryz.prog.info? 24).map (fun i => (i.zero, i.size, i.bytes)) = some (some (.int .u64 0), 1, 8) := by kernel_rfl

section
variable {σ : Type} {len : σ → Nat} {step : σ → M5 → σ} {n0 : Nat}
set_option maxRecDepth 100000 in
set_option maxHeartbeats 4000000 in
theorem sweep_any (Z : PutsP n0 σ len step) (wb : Nat) (p : Option Addr) (rd : Int → Int × Int) (w0 : World) (hrd : Reads (.pointer p) rd n0 w0) (hT : Tab3 w0) (hT0 : 0 < n0) (pf : Nat) (pb : Array Value) (hput : Puts Z pf pb) :
    ∀ (D : Nat) (t : Int) (n : Nat) (k : Int) (ipa : Int) (s : Sw σ) (W : World), k = 4 - (D : Int) → 1 ≤ k → k ≤ 3 → n ≤ 1024 → W64 t → 0 ≤ ipa → ipa + n * szV k ≤ 1099511627776 → SwP Z wb (.pointer p) 24 108 s W → Below n0 w0 W → SwOk len s 0 →
      Calls Tryz.prog 36 #[.pointer (some ⟨wb, 0, none⟩), .int .u64 t, .int .i64 n, .int .i64 k, .int .u64 ipa, .func (.func pf) #[] pb] W fun e W' => (∃ v, e = .returned v) ∧ SwP Z wb (.pointer p) 24 108 (sw rd step D t n k ipa s) W' ∧ Fr (Both2 (OwnW wb) Z.O) W W' := by
  intro D
  induction D with
  | zero => intro t n k ipa s W hk h1 h3; omega
  | succ D ih =>
    intro t n k ipa s W hk h1 h3 hn ht hi0 hi1 hs hW hok
    obtain ⟨tabs, long, st⟩ := s
    obtain ⟨v0, hv0, hr0⟩ := hs.wk.row
    obtain ⟨xa, xc, rfl⟩ := rowSlice hr0
    have hwl := hs.wk.lt
    obtain ⟨W1, hW1⟩ : ∃ W1, W1 = (((W.alloc (.cells #[.pointer (some ⟨wb, 0, none⟩)] 169)).alloc (.cells #[.int .i64 k] 3)).alloc (.cells #[.int .u64 ipa] 24)).alloc (.cells #[.func (.func pf) #[] pb] 110) := ⟨_, rfl⟩
    obtain ⟨b0, b1, b2, b3, hz1, hB1⟩ := box_four W W1 _ _ _ _ _ _ _ _ hW1
    obtain ⟨hs1, hf1⟩ := hs.later hB1
    simp only at hv0 hr0
    have c1 : W1.cell? ⟨wb, 1, none⟩ = some (.slice xa tabs.length xc) := cell_lt hB1 (by simp [World.cell?, hv0]) hwl
    have c2 : W1.cell? ⟨wb, 2, none⟩ = some (.bool long) := cell_lt hB1 (by simp [World.cell?, hv0]) hwl
    replace hk := Lib.hid hk
    by_cases hL : (long || decide (tabs.length = 2000)) = true
    · have hsw : sw rd step (D + 1) t n k ipa ⟨tabs, long, st⟩ = ⟨tabs, true, st⟩ := by
        unfold sw; rw [if_pos (by simpa using hL)]
      rw [hsw]
      clear hsw ih
      refine (callsIn_wide (n := 9)).1 ?_
      refine callsIn_of_wp_marks Tryz.func36 rfl trivial ?_ rfl
      simp only [Tryz.ntmps36, List.size_toArray, List.length_cons, List.length_nil, Nat.reduceAdd, Nat.reduceSub, Array.replicate_succ, Array.replicate_zero, List.push_toArray, List.append_toArray, List.nil_append, List.cons_append]
      gi_wp2
      rw [← hW1]
      clear hW1
      refine region_later_tail_in W1.heap.size W1 15 (Below.refl _ _) rfl (by kernel_rfl) (by kernel_rfl) ?_
      have y0 := later_cell (B := W1.heap.size) b0 (by omega)
      have y1 := later_cell (B := W1.heap.size) c1 (by omega)
      have y2 := later_cell (B := W1.heap.size) c2 (by omega)
      simp only [List.take_succ_cons, List.take_zero, List.drop_succ_cons, List.drop_zero]
      have hE : ∀ x : Later W1.heap.size W1, ∃ W3, W3 = x.x.setCell ⟨wb, 2, none⟩ (.bool true) ∧ W3.cell? ⟨W.heap.size, 0, none⟩ = some (.pointer (some ⟨wb, 0, none⟩)) ∧ W3.cell? ⟨wb, 2, none⟩ = some (.bool true) ∧ x.x.frozen? ⟨wb, 2, none⟩ = false ∧ x.x.cell? ⟨wb, 2, none⟩ = some (.bool long) ∧ SwP Z wb (.pointer p) 24 108 ⟨tabs, true, st⟩ W3 ∧ Fr (Both2 (OwnW wb) Z.O) W W3 := by
        intro x
        obtain ⟨hs2, hf2⟩ := hs1.later x.h
        obtain ⟨hs3, hf3⟩ := hs2.mark true
        obtain ⟨v2, hv2, _⟩ := hs2.wk.row
        obtain ⟨v3, hv3, _⟩ := hs3.wk.row
        refine ⟨_, rfl, ?_, by simp [World.cell?, hv3], by simp [World.frozen?, hv2], by simp [World.cell?, hv2], hs3, (hf1.trans hf2).trans hf3⟩
        refine (World.cell?_of_block (Below.heap_setCell _ ⟨wb, 2, none⟩ _ _ ?_)).trans (cell_lt x.h b0 (by omega))
        show W.heap.size ≠ wb
        omega
      rcases long with _ | _
      · have hq : ((tabs.length : Int) == 2000) = true := by simp at hL; simp; omega
        repeat (refine wpQuietIn_step (fun _ _ _ _ => trivial) (fun K hK => ?_); go_simp; first | (refine hK _ ?_; clear hK K))
        refine wpQuietIn_nil ?_
        first | (rintro _ ⟨X, rfl⟩) | (intro X)
        obtain ⟨_, rfl, g0, g2, gf, gc, hS3, hF3⟩ := hE X
        clear y0 y1 y2 hE
        generalize X.x = w3 at *
        gi_wp2
        exact ⟨_, results_none rfl _ _ _, ⟨_, rfl⟩, hS3, hF3⟩
      · repeat (refine wpQuietIn_step (fun _ _ _ _ => trivial) (fun K hK => ?_); go_simp; first | (refine hK _ ?_; clear hK K))
        refine wpQuietIn_nil ?_
        first | (rintro _ ⟨X, rfl⟩) | (intro X)
        obtain ⟨_, rfl, g0, g2, gf, gc, hS3, hF3⟩ := hE X
        clear y0 y1 y2 hE
        generalize X.x = w3 at *
        gi_wp2
        exact ⟨_, results_none rfl _ _ _, ⟨_, rfl⟩, hS3, hF3⟩
    · obtain ⟨rfl, hln⟩ : long = false ∧ tabs.length ≠ 2000 := by
        simp at hL; exact hL
      have hsw : sw rd step (D + 1) t n k ipa ⟨tabs, false, st⟩ = (descsV rd k t n).foldl (swX step (fun t' a' => sw rd step D t' 512 (k + 1) a') k ipa) ⟨tabs ++ [t], false, st⟩ := by
        show (if _ then _ else _) = _
        rw [if_neg (by simp; exact hln)]
      rw [hsw]
      clear hsw hL
      have hq : ((tabs.length : Int) == 2000) = false := by simp; omega
      refine (callsIn_wide (n := 9)).1 ?_
      refine callsIn_of_wp_marks Tryz.func36 rfl trivial ?_ rfl
      simp only [Tryz.ntmps36, List.size_toArray, List.length_cons, List.length_nil, Nat.reduceAdd, Nat.reduceSub, Array.replicate_succ, Array.replicate_zero, List.push_toArray, List.append_toArray, List.nil_append, List.cons_append]
      gi_wp2
      rw [← hW1]
      clear hW1
      refine region_later_tail_in W1.heap.size W1 15 (Below.refl _ _) rfl (by kernel_rfl) (by kernel_rfl) ?_
      have y0 := later_cell (B := W1.heap.size) b0 (by omega)
      have y1 := later_cell (B := W1.heap.size) c1 (by omega)
      have y2 := later_cell (B := W1.heap.size) c2 (by omega)
      simp only [List.take_succ_cons, List.take_zero, List.drop_succ_cons, List.drop_zero]
      have hE : ∀ x : Later W1.heap.size W1, ∃ W3, W3 = x.x.setCell ⟨wb, 2, none⟩ (.bool false) ∧ W3.cell? ⟨W.heap.size, 0, none⟩ = some (.pointer (some ⟨wb, 0, none⟩)) ∧ W3.cell? ⟨wb, 2, none⟩ = some (.bool false) ∧ x.x.frozen? ⟨wb, 2, none⟩ = false ∧ x.x.cell? ⟨wb, 2, none⟩ = some (.bool false) ∧ W3.cell? ⟨wb, 1, none⟩ = some (.slice xa tabs.length xc) ∧ W3.cell? ⟨W.heap.size + 1, 0, none⟩ = some (.int .i64 k) ∧ W3.cell? ⟨W.heap.size + 1 + 1, 0, none⟩ = some (.int .u64 ipa) ∧ W3.cell? ⟨W.heap.size + 1 + 1 + 1, 0, none⟩ = some (.func (.func pf) #[] pb) ∧ W.heap.size + 4 ≤ W3.heap.size ∧ SwP Z wb (.pointer p) 24 108 ⟨tabs, false, st⟩ W3 ∧ Fr (Both2 (OwnW wb) Z.O) W1 W3 := by
        intro x
        obtain ⟨hs2, hf2⟩ := hs1.later x.h
        obtain ⟨hs3, hf3⟩ := hs2.mark false
        obtain ⟨v2, hv2, _⟩ := hs2.wk.row
        obtain ⟨v3, hv3, _⟩ := hs3.wk.row
        have hof : ∀ b, b ≠ wb → b < W1.heap.size → ∀ u, W1.cell? ⟨b, 0, none⟩ = some u → (x.x.setCell ⟨wb, 2, none⟩ (.bool false)).cell? ⟨b, 0, none⟩ = some u := fun b hb hl u hu =>
          (World.cell?_of_block (Below.heap_setCell _ ⟨wb, 2, none⟩ _ _ hb)).trans (cell_lt x.h hu hl)
        refine ⟨_, rfl, hof _ (by omega) (by omega) _ b0, by simp [World.cell?, hv3], by simp [World.frozen?, hv2], by simp [World.cell?, hv2], ?_, hof _ (by omega) (by omega) _ b1, hof _ (by omega) (by omega) _ b2, hof _ (by omega) (by omega) _ b3, ?_, hs3, hf2.trans hf3⟩
        · exact (World.cell?_setCell_other _ ⟨wb, 2, none⟩ ⟨wb, 1, none⟩ _ (by simp)).trans (cell_lt x.h c1 (by omega))
        · have := x.h.size; simp [World.setCell]; omega
      repeat (refine wpQuietIn_step (fun _ _ _ _ => trivial) (fun K hK => ?_); go_simp; first | (refine hK _ ?_; clear hK K))
      refine wpQuietIn_nil ?_
      first | (rintro _ ⟨X, rfl⟩) | (intro X)
      obtain ⟨_, rfl, g0, g2, gf, gc, g1, gk, gi, gp, hz3, hS3, hF3⟩ := hE X
      clear y0 y1 y2 hE
      generalize X.x = w3 at *
      gi_wp2
      clear gf gc
      generalize w3.setCell ⟨wb, 2, none⟩ (.bool false) = W3 at *
      haveI : Nonempty (CellsAre W.heap.size 0 wb 1 (.pointer (some ⟨wb, 0, none⟩)) (.slice xa tabs.length xc)) := ⟨⟨W3, g0, g1⟩⟩
      refine region_ord_last (fun q => ∃ X : CellsAre W.heap.size 0 wb 1 (.pointer (some ⟨wb, 0, none⟩)) (.slice xa tabs.length xc), q = X.x) [([0, 1, 2, 3, 4, 5], 6), ([], 7)] [8, 9] 10 (fun _ => trivial) (by kernel_rfl) (by kernel_rfl) (by kernel_rfl) (by kernel_rfl) (by kernel_rfl) ⟨⟨W3.drew, g0, g1⟩, rfl⟩ ?_
      simp only [List.map_cons, List.map_nil, List.filterMap_cons, List.filterMap_nil, List.getElem?_cons_succ, List.getElem?_cons_zero]
      have y0 := fun X : CellsAre W.heap.size 0 wb 1 (.pointer (some ⟨wb, 0, none⟩)) (.slice xa tabs.length xc) => X.h
      have y1 := fun X : CellsAre W.heap.size 0 wb 1 (.pointer (some ⟨wb, 0, none⟩)) (.slice xa tabs.length xc) => X.h'
      have hd : Below W3.heap.size W3 W3.drew := (Below.refl _ _).drew
      have hzd : W3.drew.heap.size = W3.heap.size := rfl
      have g0d := cell_lt hd g0 (World.block_lt_of_cell? _ _ g0)
      have g1d := cell_lt hd g1 (World.block_lt_of_cell? _ _ g1)
      obtain ⟨hSd, hFd⟩ := hS3.later hd
      generalize W3.drew = wd at *
      refine ordL_step ?_
      repeat (change wpQuiet _ _ _ _ (List.cons _ _) _; go_big_quiet_step (fail))
      refine wpQuiet_nil ?_
      intro Q₁ hQ₁
      gi_wp2
      obtain ⟨i0, hi0, hz00, hz01, hz02⟩ : ∃ i, Tryz.prog.info? 24 = some i ∧ i.zero = some (.int .u64 0) ∧ i.size = 1 ∧ i.bytes = 8 := by
        obtain ⟨i0, hi1, hi2⟩ := Option.map_eq_some_iff.1 infoU64
        rw [Prod.mk.injEq, Prod.mk.injEq] at hi2
        exact ⟨i0, hi1, hi2.1, hi2.2.1, hi2.2.2⟩
      have hb1d := bone wd (.cells #[.int .u64 t] 24)
      have g0e := cell_lt hb1d g0d (World.block_lt_of_cell? _ _ g0d)
      have g1e := cell_lt hb1d g1d (World.block_lt_of_cell? _ _ g1d)
      refine hQ₁ _ _ ⟨⟨_, g0e, g1e⟩, rfl⟩ ?_
      clear hQ₁ Q₁
      refine ordL_step ?_
      refine wpQuiet_nil ?_
      intro Q₁ hQ₁
      have hownd : (wd.alloc (.cells #[.int .u64 t] 24)).ownsRow n0 24 1 (.slice xa tabs.length xc) tabs.length (tabs.map (Value.int .u64)) := by
        obtain ⟨vd, hvd, hr⟩ := hSd.wk.row
        have e : wd.cell? ⟨wb, 1, none⟩ = some vd := by simp [World.cell?, hvd]
        rw [g1d] at e; injection e with e; subst e
        exact World.ownsRow.alloc hr _
      obtain ⟨hne1, hne2⟩ := hSd.rowne g1d
      have hlow : ∀ k, (Value.slice xa tabs.length xc).ownBlock = some k → k < W.heap.size := fun k e => (hs.rowne (v := .slice xa tabs.length xc) (by simp [World.cell?, hv0])).2 k e |>.2
      have htl := hok.tabs
      simp only at htl
      have hn0 : n0 ≤ wd.heap.size := hSd.base
      have hzb : (wd.alloc (.cells #[.int .u64 t] 24)).heap.size = wd.heap.size + 1 := by simp
      replace hi1 := Lib.hid hi1
      simp only [Option.toList]
      gi_wp2_with (gi_at_builtin; (refine wpListIn_append_own_at _ rfl _ _ 106 rfl n0 24 i0 _ 1 8 Tryz.underlying106 hi0 hz00 hz01 hz02 rfl (by decide) _ _ _ rfl hownd ⟨W3.heap.size, 0, none⟩ 1 1 [.int .u64 t] ?_ rfl ?_ ?_ ?_ ?_ ?_ ?_); (focus rfl); (focus (rw [← hzd]; intro j u hj; rcases j with _ | j; (simp at hj; rw [← hj]; simp [Addr.add, World.cell?_alloc_new]); (simp at hj))); (focus (intro u hu; simp at hu; rcases hu with rfl; rfl)); (focus (unfold maxLen; omega)); (focus omega); (focus omega); intro v' w4 hown4 hgrow4 _ hat4)
      replace hgrow4 : (wd.alloc (.cells #[.int .u64 t] 24)).grownBy w4 (Value.slice xa tabs.length xc).ownBlock := hgrow4
      have hat' : v'.ownBlock = (Value.slice xa tabs.length xc).ownBlock ∨ ∀ k, v'.ownBlock = some k → wd.heap.size ≤ k := hat4.imp id fun h k e => by rw [h] at e; cases e; omega
      obtain ⟨hS5, hF5⟩ := hSd.app (t := t) g1d hgrow4 (by simpa using hown4) hat'
      obtain ⟨g', cap', rfl⟩ := ownsRow_succ hown4
      have hb4 : ∀ (b o : Nat) (u : Value), (Value.slice xa tabs.length xc).ownBlock ≠ some b → W3.cell? ⟨b, o, none⟩ = some u → w4.cell? ⟨b, o, none⟩ = some u := fun b o u h1 h2 =>
        have h3 := cell_lt hd h2 (World.block_lt_of_cell? _ _ h2)
        have h4 := cell_lt hb1d h3 (World.block_lt_of_cell? _ _ h3)
        (grown_cell hgrow4 o (World.block_lt_of_cell? _ _ h4) h1).trans h4
      have hfar : ∀ b, W.heap.size ≤ b → (Value.slice xa tabs.length xc).ownBlock ≠ some b := fun b hb e => by have := hlow b e; omega
      have g0f := hb4 _ _ _ (hfar _ (Nat.le_refl _)) g0
      have g1f := hb4 _ _ _ hne1 g1
      have gkf := hb4 _ _ _ (hfar _ (by omega)) gk
      have gif := hb4 _ _ _ (hfar _ (by omega)) gi
      have gpf := hb4 _ _ _ (hfar _ (by omega)) gp
      refine hQ₁ _ _ ⟨⟨w4, g0f, g1f⟩, rfl⟩ ?_
      clear hQ₁ Q₁
      refine ordL_last ?_
      repeat (change wpQuiet _ _ _ _ (List.cons _ _) _; go_big_quiet_step (fail))
      refine wpQuiet_nil ?_
      intro Q₁ hQ₁
      have f1 : w4.frozen? ⟨wb, 1, none⟩ = false := by
        obtain ⟨v5, hv5, _⟩ := hS5.wk.row
        have e : w4.frozen? ⟨wb, 1, none⟩ = (w4.setCell ⟨wb, 1, none⟩ (.slice (some ⟨g', 0, none⟩) (tabs.length + 1) cap')).frozen? ⟨wb, 1, none⟩ := (World.frozen?_setCell _ _ _ _).symm
        rw [e]
        simp [World.frozen?, hv5]
      have hset : ∀ b, W.heap.size ≤ b → ∀ u, w4.cell? ⟨b, 0, none⟩ = some u → (w4.setCell ⟨wb, 1, none⟩ (.slice (some ⟨g', 0, none⟩) (tabs.length + 1) cap')).cell? ⟨b, 0, none⟩ = some u := fun b hb u hu =>
        (World.cell?_of_block (Below.heap_setCell _ ⟨wb, 1, none⟩ _ _ (by show b ≠ wb; omega))).trans hu
      have g0s := hset _ (Nat.le_refl _) _ g0f
      have gks := hset _ (by omega) _ gkf
      have gis := hset _ (by omega) _ gif
      have gps := hset _ (by omega) _ gpf
      clear y0 y1 hat4 hown4 hownd g0 g1 gk gi gp g0d g1d g0e g1e hb4 hset gkf gif gpf b0 b1 b2 b3 c1 c2
      simp only [Option.toList]
      gi_wp2_with (refine ⟨trivial, ?_⟩; gi_at_call 75; refine (descs_in _ _ _ _ _ _).mono ?_; rintro e w' ⟨rfl, rfl⟩)
      have hW5z : (w4.setCell ⟨wb, 1, none⟩ (.slice (some ⟨g', 0, none⟩) (tabs.length + 1) cap')).heap.size = w4.heap.size := by simp [World.setCell]
      obtain ⟨W5, hW5⟩ : ∃ W5, W5 = w4.setCell ⟨wb, 1, none⟩ (.slice (some ⟨g', 0, none⟩) (tabs.length + 1) cap') := ⟨_, rfl⟩
      rw [← hW5] at hS5 hF5 g0s gks gis gps hW5z ⊢
      rw [← hW5z]
      clear hW5 hW5z f1
      obtain ⟨W0, hW0⟩ : ∃ W0, W0 = (((W5.alloc (.cells #[.pointer (some ⟨wb, 0, none⟩)] 169)).alloc (.cells #[.int .u64 t] 24)).alloc (.cells #[.int .i64 n] 3)).alloc (.cells #[.int .i64 k] 3) := ⟨_, rfl⟩
      rw [← hW0]
      obtain ⟨b0, b1, b2, b3, hz0, hB0⟩ := box_four W5 W0 _ _ _ _ _ _ _ _ hW0
      clear hW0
      obtain ⟨hS0, hF0⟩ := hS5.later hB0
      have hW10 : Fr (Both2 (OwnW wb) Z.O) W1 W0 := (hF3.trans hFd).trans (hF5.trans hF0)
      have hWW0 := hf1.trans hW10
      have hb0 : Below n0 w0 W0 := hW.trans (hWW0.below hs.base (fun k h => (hs.own h).1))
      have no1 : ∀ i, i < 4 → ¬ Both2 (OwnW wb) Z.O W0 (W.heap.size + i) := fun i hi =>
        (hW10.block _ (by omega) (fun h => by have := hs.later_lt hB1 h; omega)).2
      have no2 : ∀ b, W5.heap.size ≤ b → ¬ Both2 (OwnW wb) Z.O W0 b := fun b hb h => by have := hS5.later_lt hB0 h; omega
      have hD0 : DBoxes (W5.heap.size + 1 + 1) W5.heap.size (W5.heap.size + 1) (W5.heap.size + 1 + 1 + 1) wb n0 (.pointer p) t k n W0 := by
        obtain ⟨v6, hv6, _⟩ := hS0.wk.row
        exact ⟨b2, b0, b1, b3, by simp [World.cell?, hv6], hS0.base⟩
      have g0z := cell_lt hB0 g0s (World.block_lt_of_cell? _ _ g0s)
      have gkz := cell_lt hB0 gks (World.block_lt_of_cell? _ _ gks)
      have giz := cell_lt hB0 gis (World.block_lt_of_cell? _ _ gis)
      have gpz := cell_lt hB0 gps (World.block_lt_of_cell? _ _ gps)
      have hWz := hWW0.size
      have hW5z : W.heap.size + 4 ≤ W5.heap.size := by have := (hF3.trans hFd).trans hF5 |>.size; omega
      have hKD : ∀ (s' : Sw σ) (V : World), SwP Z wb (.pointer p) 24 108 s' V → Fr (Both2 (OwnW wb) Z.O) W0 V → KeepsD (W5.heap.size + 1 + 1) W5.heap.size (W5.heap.size + 1) (W5.heap.size + 1 + 1 + 1) wb n0 W0 V := fun s' V h1 h2 =>
        KeepsD.of_fr hS0 h2 h1 hD0 (no2 _ (by omega)) (no2 _ (by omega)) (no2 _ (by omega)) (no2 _ (by omega))
      have hn2 : ∀ (s' : Sw σ) (V : World), Fr (Both2 (OwnW wb) Z.O) W0 V → ∀ b, W5.heap.size ≤ b → b < W0.heap.size → ¬ Both2 (OwnW wb) Z.O V b := fun s' V h2 b hb hl => (h2.block b hl (no2 b hb)).2
      clear b0 b1 b2 b3 g0s gks gis gps g0f g1f hfar hgrow4 hat' hlow hne1 hne2
      generalize hfoe : swX step (fun t' a' => sw rd step D t' 512 (k + 1) a') k ipa = fo
      replace hfoe := Lib.hid hfoe
      refine wpIn_rangeFunc_ownH rfl (by decide) (gf := 107) (lb := #[.pointer (some ⟨W5.heap.size + 1 + 1, 0, none⟩), .pointer (some ⟨W5.heap.size, 0, none⟩), .pointer (some ⟨W5.heap.size + 1, 0, none⟩), .pointer (some ⟨W5.heap.size + 1 + 1 + 1, 0, none⟩)]) rfl trivial (enters_of Tryz.func107 (by kernel_rfl) rfl)
        (descs_stops _ _ _ _ _ wb n0 (by decide) p rd w0 W0 hrd hT hT0 t k n hn ht hD0 hb0) KeepsD.trans (keepsD_put hD0) (Below.refl _ _) (fun _ => rfl)
        (fun pre V => ((pre.map (·.1)).foldl fo ⟨tabs ++ [t], false, st⟩).long = false ∧ SwP Z wb (.pointer p) 24 108 ((pre.map (·.1)).foldl fo ⟨tabs ++ [t], false, st⟩) V ∧ Fr (Both2 (OwnW wb) Z.O) W0 V)
        (fun c pre V => (c = .ret ∧ ((pre.map (·.1)).foldl fo ⟨tabs ++ [t], false, st⟩).long = true) ∧ SwP Z wb (.pointer p) 24 108 ((pre.map (·.1)).foldl fo ⟨tabs ++ [t], false, st⟩) V ∧ Fr (Both2 (OwnW wb) Z.O) W0 V)
        (ownFrom_sw W0 _ _) (fun c => ownFrom_sw W0 _ _) ⟨rfl, hS0, Fr.refl _ _⟩
        (fun x a' V => ∃ Bx, W0.heap.size ≤ Bx ∧ V.heap[Bx]? = some (.cells #[.int .i64 x.1.d.kind, .int .u64 x.1.d.pa, .int .i64 x.1.d.perm, .int .i64 x.1.d.mem, .bool x.1.d.af] 153 (0, 0)) ∧ a' = { tmps := #[.pointer (some ⟨wb, 0, none⟩), .int .u64 t, .int .i64 n, .int .i64 k, .int .u64 ipa, .func (.func pf) #[] pb, .pointer (some ⟨W.heap.size, 0, none⟩), undef, undef, .pointer (some ⟨W.heap.size + 1, 0, none⟩), .pointer (some ⟨W.heap.size + 1 + 1, 0, none⟩), .pointer (some ⟨W.heap.size + 1 + 1 + 1, 0, none⟩), .int .u64 x.1.i, .pointer (some ⟨Bx, 0, none⟩), undef, .pointer (some ⟨wb, 0, none⟩), .pointer (some ⟨wb, 0, none⟩), .pointer (some ⟨wb, 0, none⟩), .pointer (some ⟨wb, 2, none⟩), .bool false, .bool false, .pointer (some ⟨wb, 0, none⟩), .pointer (some ⟨wb, 0, none⟩), .pointer (some ⟨wb, 1, none⟩), .slice xa tabs.length xc, .int .i64 tabs.length, .bool false, .bool false, .pointer (some ⟨wb, 0, none⟩), .pointer (some ⟨wb, 2, none⟩), .pointer (some ⟨wb, 0, none⟩), .pointer (some ⟨wb, 0, none⟩), .pointer (some ⟨wb, 2, none⟩), .bool false, .pointer (some ⟨wb, 0, none⟩), .pointer (some ⟨wb, 0, none⟩), .pointer (some ⟨wb, 0, none⟩), .pointer (some ⟨wb, 1, none⟩), .slice xa tabs.length xc, .int .u64 t, .slice (some ⟨W3.heap.size, 0, none⟩) 1 1, .slice (some ⟨g', 0, none⟩) (tabs.length + 1) cap', .pointer (some ⟨wb, 0, none⟩), .pointer (some ⟨wb, 1, none⟩), .pointer (some ⟨wb, 0, none⟩), .int .u64 t, .int .i64 n, .int .i64 k, .func (.func 107) #[] #[.pointer (some ⟨W5.heap.size + 1 + 1, 0, none⟩), .pointer (some ⟨W5.heap.size, 0, none⟩), .pointer (some ⟨W5.heap.size + 1, 0, none⟩), .pointer (some ⟨W5.heap.size + 1 + 1 + 1, 0, none⟩)], .int .u64 x.1.i, x.1.d.val, undef, undef, undef, undef, undef, undef, undef, undef, undef, undef, undef, undef, undef, undef, undef, undef, undef, undef, undef, undef, undef, undef, undef, undef, undef, undef, undef, undef, undef, undef, undef, undef, undef, undef, undef, undef, undef, undef, undef, undef, undef, undef], defers := [] })
        (fun x a' _ X Y row hs hg hr => by obtain ⟨Bx, h1, h2, h3⟩ := hs; exact ⟨Bx, h1, (hg.block Bx (Array.getElem?_eq_some_iff.1 h2).1 (fun e => by obtain ⟨_, o, e1, e2⟩ := hr Bx e.symm; rw [h2] at e1; cases e1; cases e2)).trans h2, h3⟩)
        ?assign ?body ?done ?stop
      case assign =>
        rintro l1 pre ⟨⟨i, kd, pa, pm, mm, af⟩, hx⟩ V K ⟨hlg, hsp, hf⟩ hK
        simp only [PD.args, DescV.val]
        obtain ⟨hl1, hl2⟩ := hsp.later (bone V (.cells #[.int .i64 kd, .int .u64 pa, .int .i64 pm, .int .i64 mm, .bool af] 153))
        gi_wp2
        exact hK _ _ ((KeepsOthers.alloc _ _).from _) ((hD0.kept (hKD _ V hsp hf)).keeps (bone _ _)) ⟨hlg, hl1, hf.trans hl2⟩ ⟨V.heap.size, hf.size, World.alloc_heap_new _ _, rfl⟩
      case body =>
        rintro l1 pre ⟨⟨i, kd, pa, pm, mm, af⟩, hx⟩ a' V hl1 ⟨rr, hrr⟩ ⟨hlg, hsp, hf⟩ ⟨Bx, hBx, hbx, rfl⟩ hlt
        obtain ⟨hin, hdd, he0, hk0⟩ := descsV_mem hx
        simp only at hin hdd he0 hk0 hbx
        have hpa : W64 pa := by
          have := ofV_pa' k (rd (rdAt t i)).1
          rw [← hdd] at this
          exact ⟨this.1, this.2⟩
        have hlow : k = 3 → kd ≠ 1 := fun e => by
          have := ofV_low (k := k) (a := (rd (rdAt t i)).1) e
          rw [← hdd] at this
          exact this
        have hsk : SwOk len ((pre.map (·.1)).foldl fo ⟨tabs ++ [t], false, st⟩) (1024 - pre.length) := by
          have e := hfoe.out
          subst e
          have hpl : pre.length ≤ 1024 := by have := descsV_len rd k t n; omega
          refine swL_ok Z.grows (fun t' a' s' c' h' => sw_ok Z.grows D t' 512 (k + 1) a' s' c' (by omega) h') k ipa (pre.map (·.1)) ?_
          have h6 := sw_enter (c := 0) t hok hln
          rw [List.length_map]
          have h7 : len st + (0 + 1024) ≤ 1024 * (tabs ++ [t]).length := h6.st
          exact ⟨h6.tabs, by show len st + (1024 - pre.length + pre.length) ≤ 1024 * (tabs ++ [t]).length; omega⟩
        have hnx : ((pre ++ [(⟨⟨i, ⟨kd, pa, pm, mm, af⟩⟩, hx⟩ : PDIn rd k t n)]).map (·.1)).foldl fo ⟨tabs ++ [t], false, st⟩ = fo ((pre.map (·.1)).foldl fo ⟨tabs ++ [t], false, st⟩) ⟨i, ⟨kd, pa, pm, mm, af⟩⟩ := by rw [List.map_append, List.foldl_append]; rfl
        clear hdd he0
        generalize (pre.map (·.1)).foldl fo ⟨tabs ++ [t], false, st⟩ = s' at *
        have hfo : fo s' ⟨i, ⟨kd, pa, pm, mm, af⟩⟩ = if kd = 1 then sw rd step D pa 512 (k + 1) (ipa + i * szV k) s' else if af = true ∧ pa < 1099511627776 then { s' with st := step s'.st (mkM (ipa + i * szV k) pa (szV k) pm mm) } else s' := by
          have e := hfoe.out
          subst e
          unfold swX
          rw [if_neg (by rw [hlg]; simp)]
        rw [hfo] at hnx
        replace hnx := Lib.hid hnx
        clear hfo
        have hbl : ∀ b, b < W0.heap.size → ¬ Both2 (OwnW wb) Z.O W0 b → V.heap[b]? = W0.heap[b]? := fun b h1 h2 => (hf.block b h1 h2).1
        have q6 : V.cell? ⟨W.heap.size, 0, none⟩ = some (.pointer (some ⟨wb, 0, none⟩)) := (World.cell?_of_block (hbl W.heap.size (by omega) (no1 0 (by omega)))).trans g0z
        have q9 : V.cell? ⟨W.heap.size + 1, 0, none⟩ = some (.int .i64 k) := (World.cell?_of_block (hbl (W.heap.size + 1) (by omega) (no1 1 (by omega)))).trans gkz
        have q10 : V.cell? ⟨W.heap.size + 1 + 1, 0, none⟩ = some (.int .u64 ipa) := (World.cell?_of_block (hbl (W.heap.size + 1 + 1) (by omega) (no1 2 (by omega)))).trans giz
        have q11 : V.cell? ⟨W.heap.size + 1 + 1 + 1, 0, none⟩ = some (.func (.func pf) #[] pb) := (World.cell?_of_block (hbl (W.heap.size + 1 + 1 + 1) (by omega) (no1 3 (by omega)))).trans gpz
        have hVz := hf.size
        have hBxl := (Array.getElem?_eq_some_iff.1 hbx).1
        have hk' : k = 1 ∨ k = 2 ∨ k = 3 := by omega
        have hsz : 0 < szV k ∧ szV k ≤ 1073741824 := by rcases hk' with h | h | h <;> rw [h] <;> decide
        have hsze := fun W => size_any k W
        have hin1 : ((i : Int) + 1) * szV k ≤ n * szV k := Int.mul_le_mul_of_nonneg_right (by omega) (by omega)
        have hin2 : ((i : Int) + 1) * szV k = i * szV k + szV k := by rw [Int.add_mul, Int.one_mul]
        have hin3 : 0 ≤ (i : Int) * szV k := Int.mul_nonneg (by omega) (by omega)
        have hi1' := hi1.out
        have hwm : IntKind.u64.wrap ((i : Int) * szV k) = i * szV k := by rw [IntKind.wrap_u64]; omega
        have hwa : IntKind.u64.wrap (ipa + (i : Int) * szV k) = ipa + i * szV k := by rw [IntKind.wrap_u64]; omega
        have hk2 := hk.out
        have hchild : kd = 1 → 1 ≤ k + 1 ∧ k + 1 ≤ 3 ∧ (ipa + i * szV k) + (512 : Nat) * szV (k + 1) ≤ 1099511627776 := fun e => by
          have h3' : k ≠ 3 := fun e' => hlow e' e
          have : (512 : Int) * szV (k + 1) = szV k := by
            rcases hk' with h | h | h
            · rw [h]; decide
            · rw [h]; decide
            · exact absurd h h3'
          refine ⟨by omega, by omega, ?_⟩
          show (ipa + i * szV k) + 512 * szV (k + 1) ≤ _
          rw [this]; omega
        replace hi1 := Lib.hid hi1.out
        clear hi1'
        replace hchild := Lib.hid hchild
        replace hlow := Lib.hid hlow
        replace hk0 := Lib.hid hk0
        replace hk2 := Lib.hid hk2
        replace hin2 := Lib.hid hin2
        gi_wp2
        refine region_ord_in (fun z => ∃ X : Later V.heap.size V, z = X.x) [([0, 1, 2], 3)] [4, 5, 6] (fun _ => trivial) (by kernel_rfl) (by kernel_rfl) (by kernel_rfl) (by kernel_rfl) (by kernel_rfl) ⟨⟨_, (Below.refl _ _).drew⟩, rfl⟩ ?_
        simp only [List.map_cons, List.map_nil, List.filterMap_cons, List.filterMap_nil, List.getElem?_cons_succ, List.getElem?_cons_zero]
        have y0 := later_cell (B := V.heap.size) q9 (by omega)
        have y1 := later_cell (B := V.heap.size) q10 (by omega)
        have hd7 : Below V.heap.size V V.drew := (Below.refl _ _).drew
        generalize V.drew = vd at *
        refine ord_step_in ?_
        repeat (change wpQuiet _ _ _ _ (List.cons _ _) _; go_big_quiet_step (fail))
        refine wpQuiet_nil ?_
        intro Q₁ hQ₁
        simp only [Option.toList]
        gi_wp2_with (refine ⟨trivial, ?_⟩; gi_at_call 55; refine (CallsIn.inRound l1 (callsIn_wide.2 (hsze _))).mono ?_; rintro e v1 ⟨rfl, rfl⟩)
        refine hQ₁ _ _ ⟨⟨vd, hd7⟩, rfl⟩ ?_
        clear hQ₁ Q₁
        refine ord_last_in ?_
        repeat (change wpQuiet _ _ _ _ (List.cons _ _) _; go_big_quiet_step (fail))
        refine wpQuiet_nil ?_
        clear y0 y1 hwm hwa
        obtain ⟨hsd, hfd⟩ := hsp.later hd7
        have hfd0 := hf.trans hfd
        have hbxd := (hd7.block _ hBxl).trans hbx
        have e0 : vd.cell? ⟨Bx, 0, none⟩ = some (.int .i64 kd) := by simp [World.cell?, hbxd]
        have e1 : vd.cell? ⟨Bx, 1, none⟩ = some (.int .u64 pa) := by simp [World.cell?, hbxd]
        have e2 : vd.cell? ⟨Bx, 2, none⟩ = some (.int .i64 pm) := by simp [World.cell?, hbxd]
        have e3 : vd.cell? ⟨Bx, 3, none⟩ = some (.int .i64 mm) := by simp [World.cell?, hbxd]
        have e4 : vd.cell? ⟨Bx, 4, none⟩ = some (.bool af) := by simp [World.cell?, hbxd]
        have p6 := cell_lt hd7 q6 (by omega)
        have p9 := cell_lt hd7 q9 (by omega)
        have p11 := cell_lt hd7 q11 (by omega)
        have hkpd := (hD0.kept (hKD _ V hsp hf))
        have hki : IntKind.i64.wrap (k + 1) = k + 1 := by rw [IntKind.wrap_i64]; omega
        have hbd0 : Below n0 w0 vd := hb0.trans ((hfd0.below hS0.base (fun k h => (hS0.own h).1)))
        clear q6 q9 q10 q11 hbx
        -- what every way comes to
        have hend : ∀ (s2 : Sw σ) (v2 : World), SwP Z wb (.pointer p) 24 108 s2 v2 → Fr (Both2 (OwnW wb) Z.O) vd v2 → v2.cell? ⟨W.heap.size, 0, none⟩ = some (.pointer (some ⟨wb, 0, none⟩)) ∧ v2.cell? ⟨wb, 2, none⟩ = some (.bool s2.long) ∧ KeepsFrom W0.heap.size V v2 ∧ KeepsD (W5.heap.size + 1 + 1) W5.heap.size (W5.heap.size + 1) (W5.heap.size + 1 + 1 + 1) wb n0 V v2 ∧ Fr (Both2 (OwnW wb) Z.O) W0 v2 := by
          intro s2 v2 h2 f2
          have f3 := hfd.trans f2
          obtain ⟨v7, hv7, _⟩ := h2.wk.row
          refine ⟨(World.cell?_of_block ((hfd0.trans f2).block W.heap.size (by omega) (no1 0 (by omega))).1).trans g0z, by simp [World.cell?, hv7], (f3.keeps (fun k h => (hsp.own h).2.2)).from _, KeepsD.of_fr hsp f3 h2 hkpd ?_ ?_ ?_ ?_, hf.trans f3⟩
          all_goals exact hn2 s' V hf _ (by omega) (by omega)
        replace hz0 := Lib.hid hz0
        by_cases hk1 : kd = 1
        · have hq1 : (kd == 1) = true := by rw [hk1]; rfl
          obtain ⟨hc1, hc2, hc3⟩ := hchild.out hk1
          have hnx1 := hnx.out
          rw [if_pos hk1] at hnx1
          replace hnx := Lib.hid hnx1
          clear hnx1
          have hih := ih pa 512 (k + 1) (ipa + i * szV k) s' vd (by have := hk2.out; omega) hc1 hc2 (by omega) hpa (by omega) hc3 hsd hbd0 ⟨hsk.tabs, by have := hsk.st; omega⟩
          replace hk1 := Lib.hid hk1
          replace hc3 := Lib.hid hc3
          generalize sw rd step D pa 512 (k + 1) (ipa + i * szV k) s' = s2 at *
          cases hlg2 : s2.long
          · gi_wp2_with (refine ⟨trivial, ?_⟩; gi_at_call 36; refine (CallsIn.inRound l1 (callsIn_wide.2 hih)).mono ?_; rintro e v2 ⟨⟨vr, rfl⟩, hS2, hF2⟩; obtain ⟨z1, z2, z3, z4, z5⟩ := hend _ _ hS2 hF2)
            have e := hnx.out
            exact ⟨z3, z4, by rw [e]; exact hlg2, by rw [e]; exact hS2, z5⟩
          · gi_wp2_with (refine ⟨trivial, ?_⟩; gi_at_call 36; refine (CallsIn.inRound l1 (callsIn_wide.2 hih)).mono ?_; rintro e v2 ⟨⟨vr, rfl⟩, hS2, hF2⟩; obtain ⟨z1, z2, z3, z4, z5⟩ := hend _ _ hS2 hF2)
            have e := hnx.out
            exact ⟨z3, ⟨rfl, by rw [e]; exact hlg2⟩, by rw [e]; exact hS2, z5⟩
        · have hq1 : (kd == 1) = false := by simpa using hk1
          have hnx1 := hnx.out
          rw [if_neg hk1] at hnx1
          replace hnx := Lib.hid hnx1
          clear hnx1 ih
          by_cases hg : af = true ∧ pa < 1099511627776
          · have hnx1 := hnx.out
            rw [if_pos hg] at hnx1
            replace hnx := Lib.hid hnx1
            clear hnx1
            obtain ⟨rfl, hq2⟩ := hg
            gi_wp2
            haveI : Nonempty (Later vd.heap.size vd) := ⟨⟨vd, Below.refl _ _⟩⟩
            refine region_ord_last (fun z => ∃ X : Later vd.heap.size vd, z = X.x) [([0, 1, 2, 3, 4, 6, 7, 8, 9], 5)] [10] 11 (fun _ => trivial) (by kernel_rfl) (by kernel_rfl) (by kernel_rfl) (by kernel_rfl) (by kernel_rfl) ⟨⟨_, (Below.refl _ _).drew⟩, rfl⟩ ?_
            simp only [List.map_cons, List.map_nil, List.filterMap_cons, List.filterMap_nil, List.getElem?_cons_succ, List.getElem?_cons_zero]
            have y0 := later_cell (B := vd.heap.size) e1 (World.block_lt_of_cell? _ _ e1)
            have y1 := later_cell (B := vd.heap.size) e2 (World.block_lt_of_cell? _ _ e2)
            have y2 := later_cell (B := vd.heap.size) e3 (World.block_lt_of_cell? _ _ e3)
            have y3 := later_cell (B := vd.heap.size) p9 (World.block_lt_of_cell? _ _ p9)
            have y4 := later_cell (B := vd.heap.size) p11 (World.block_lt_of_cell? _ _ p11)
            have hda : Below vd.heap.size vd vd.drew := (Below.refl _ _).drew
            generalize vd.drew = ve at *
            obtain ⟨hse, hfe⟩ := hsd.later hda
            refine ordL_step ?_
            repeat (change wpQuiet _ _ _ _ (List.cons _ _) _; go_big_quiet_step (fail))
            refine wpQuiet_nil ?_
            intro Q₁ hQ₁
            simp only [Option.toList]
            gi_wp2_with (refine ⟨trivial, ?_⟩; gi_at_call 55; refine (CallsIn.inRound l1 (callsIn_wide.2 (hsze _))).mono ?_; rintro e v1 ⟨rfl, rfl⟩)
            refine hQ₁ _ _ ⟨⟨ve, hda⟩, rfl⟩ ?_
            clear hQ₁ Q₁
            refine ordL_last ?_
            repeat (change wpQuiet _ _ _ _ (List.cons _ _) _; go_big_quiet_step (fail))
            refine wpQuiet_nil ?_
            intro Q₁ hQ₁
            simp only [Option.toList]
            have hp0 := hpa.1
            have hM : (mkM (ipa + i * szV k) pa (szV k) pm mm).enc.toArray = #[.int .u64 (ipa + i * szV k), .int .u64 pa, .int .u64 (szV k), .int .i64 pm, .int .i64 mm] := by
              have hin2' := hin2.out
              have hi1' := hi1.out
              show #[Value.int .u64 (IntKind.u64.wrap (ipa + i * szV k)), .int .u64 (IntKind.u64.wrap pa), .int .u64 (IntKind.u64.wrap (szV k)), _, _] = _
              rw [IntKind.wrap_u64, IntKind.wrap_u64, IntKind.wrap_u64, Int.emod_eq_of_lt (by omega) (by omega), Int.emod_eq_of_lt (by omega) (by omega), Int.emod_eq_of_lt (by omega) (by omega)]
              rfl
            have hpt := hput.2 (mkM (ipa + i * szV k) pa (szV k) pm mm) s'.st ve hse.put hse.base (by have := hsk.st; have := hsk.tabs; omega)
            rw [hM] at hpt
            have heg := hput.1
            clear hM y0 y1 y2 y3 y4
            gi_wp2
            refine ⟨trivial, ?_⟩
            refine (CallsIn.inRound l1 (callsIn_wide.2 hpt)).mono ?_
            rintro e v2 ⟨⟨vr, rfl⟩, hI2, hF2⟩
            obtain ⟨hS2, hF2'⟩ := hse.puts hF2 hI2
            obtain ⟨z1, z2, z3, z4, z5⟩ := hend _ _ hS2 (hfe.trans hF2')
            have z2' : v2.cell? ⟨wb, 2, none⟩ = some (.bool false) := by rw [← hlg]; exact z2
            clear z2
            gi_wp2
            first | (refine hQ₁ _ _ ?_; gi_wp2) | skip
            have e := hnx.out
            exact ⟨z3, z4, by rw [e]; exact hlg, by rw [e]; exact hS2, z5⟩
          · have hnx1 := hnx.out
            rw [if_neg hg] at hnx1
            replace hnx := Lib.hid hnx1
            clear hnx1
            obtain ⟨z1, z2, z3, z4, z5⟩ := hend _ _ hsd (Fr.refl _ _)
            cases af
            · gi_wp2
              have e := hnx.out
              exact ⟨z3, z4, by rw [e]; exact hlg, by rw [e]; exact hsd, z5⟩
            · have hq2 : ¬ pa < 1099511627776 := fun h => hg ⟨rfl, h⟩
              replace hg := Lib.hid hg
              gi_wp2
              have e := hnx.out
              exact ⟨z3, z4, by rw [e]; exact hlg, by rw [e]; exact hsd, z5⟩
      case done =>
        rintro D' xs V hD hxs ⟨hlg, hsp, hf⟩ hK
        rw [hxs] at hlg hsp
        gi_wp2
        refine ⟨by simp, .inl ⟨_, _, rfl, run_takeDeferred hK, ?_⟩⟩
        obtain ⟨_, q1, q2⟩ := (ownFrom_sw (Z := Z) (wb := wb) (mp := .pointer p) (E := 24) (T := 108) W0 (fun _ : Unit => (descsV rd k t n).foldl fo ⟨tabs ++ [t], false, st⟩) (fun _ => True)).putObj (s := ()) (.deferred none) ⟨trivial, hsp, hf⟩ hD hK rfl
        have e := hfoe.out
        subst e
        exact ⟨_, results_none rfl _ _ _, ⟨_, rfl⟩, q1, hWW0.trans q2⟩
      case stop =>
        rintro D' cc pre V hD ⟨r, hr⟩ ⟨⟨rfl, hlg⟩, hsp, hf⟩ hK
        have hfin : (descsV rd k t n).foldl fo ⟨tabs ++ [t], false, st⟩ = (pre.map (·.1)).foldl fo ⟨tabs ++ [t], false, st⟩ := by
          rw [hr, List.foldl_append]
          have e := hfoe.out
          subst e
          exact swX_long _ _ _ _ _ _ hlg
        replace hfin := Lib.hid hfin
        clear hr
        gi_wp2
        refine ⟨by simp, .inl ⟨_, _, rfl, run_takeDeferred hK, ?_⟩⟩
        obtain ⟨_, q1, q2⟩ := (ownFrom_sw (Z := Z) (wb := wb) (mp := .pointer p) (E := 24) (T := 108) W0 (fun _ : Unit => (pre.map (·.1)).foldl fo ⟨tabs ++ [t], false, st⟩) (fun _ => True)).putObj (s := ()) (.deferred none) ⟨trivial, hsp, hf⟩ hD hK rfl
        have hfin' := hfin.out
        have e := hfoe.out
        subst e
        exact ⟨_, results_none rfl _ _ _, ⟨_, rfl⟩, by rw [hfin']; exact q1, hWW0.trans q2⟩
end
end Go.Proofs.YtnieomgopldlhaaGreatDoor
/-! What a sweep puts: parts, joined where they go on; or nothing. -/
namespace Go.Proofs.YtnieomgopldlhaaGreatDoor
open Go Go.RowKit Go.Shelf Go.BigFrame

def goesOn (y x : M5) : Bool := (IntKind.u64.wrap (y.ipa + y.sz) == x.ipa) && ((IntKind.u64.wrap (y.pa + y.sz) == x.pa) && ((y.perm == x.perm) && (y.kind == x.kind)))
def longer (y x : M5) : M5 := { y with sz := IntKind.u64.wrap (y.sz + x.sz), hs := by rw [IntKind.wrap_u64]; unfold W64; omega }
/-- A part among parts: put to the last one, if it goes on. -/
def addM (l : List M5) (x : M5) : List M5 :=
  match l.getLast? with
  | some y => if goesOn y x = true then l.dropLast ++ [longer y x] else l ++ [x]
  | none => [x]
theorem addM_nil (x : M5) : addM [] x = [x] := rfl
theorem addM_snoc (l : List M5) (y x : M5) : addM (l ++ [y]) x = if goesOn y x = true then l ++ [longer y x] else l ++ [y] ++ [x] := by
  unfold addM
  rw [List.getLast?_concat, List.dropLast_concat]
theorem addM_len (l : List M5) (x : M5) : (addM l x).length ≤ l.length + 1 := by
  rcases List.eq_nil_or_concat l with rfl | ⟨l, y, rfl⟩
  · exact Nat.le_refl _
  · rw [List.concat_eq_append, addM_snoc]
    split <;> simp

def OwnL (lb : Nat) (W : World) (k : Nat) : Prop := k = lb ∨ rowAt ⟨lb, 0, none⟩ W k
/-- The parts in a captured variable. -/
def PartsI (n0 lb : Nat) (l : List M5) (W : World) : Prop := n0 ≤ lb ∧ ∃ v, Boxed W lb 22 v ∧ OwnM 26 W n0 v l
theorem PartsI.own {n0 lb : Nat} {l : List M5} {W : World} (h : PartsI n0 lb l W) {k : Nat} (ho : OwnL lb W k) : n0 ≤ k ∧ k < W.heap.size ∧ ∃ o : Obj, W.heap[k]? = some o ∧ o.isCells = true := by
  obtain ⟨hb, v, hv, hr⟩ := h
  rcases ho with rfl | ⟨u, hu, hk⟩
  · exact ⟨hb, hv.lt, _, hv, rfl⟩
  · have : u = v := by
      have e := hv.cell
      rw [hu] at e; injection e
    subst this
    have hl := World.ownsRow.lt hr k hk
    refine ⟨hl.1, hl.2, ?_⟩
    obtain ⟨_, ⟨rfl, _⟩ | ⟨g, cap, cur, rfl, _, hg, _⟩⟩ := hr
    · simp [Value.ownBlock] at hk
    · simp [Value.ownBlock] at hk
      subst hk
      exact ⟨_, hg, rfl⟩
theorem PartsI.kept {n0 lb : Nat} {l : List M5} {W W' : World} (h : PartsI n0 lb l W) (_ : W.heap.size ≤ W'.heap.size) (hk : ∀ k, OwnL lb W k → W'.heap[k]? = W.heap[k]?) : PartsI n0 lb l W' ∧ ∀ k, OwnL lb W' k ↔ OwnL lb W k := by
  obtain ⟨hb, v, hv, hr⟩ := h
  have hw := hk lb (.inl rfl)
  refine ⟨⟨hb, v, hw.trans hv, ?_⟩, fun k => ?_⟩
  · obtain ⟨hlen, hc⟩ := hr
    refine ⟨hlen, ?_⟩
    rcases hc with hc | ⟨g, cap, cur, rfl, hbg, hg, hrest⟩
    · exact .inl hc
    · exact .inr ⟨g, cap, cur, rfl, hbg, (hk g (.inr ⟨_, hv.cell, rfl⟩)).trans hg, hrest⟩
  · have e : W'.cell? ⟨lb, 0, none⟩ = W.cell? ⟨lb, 0, none⟩ := World.cell?_of_block hw
    unfold OwnL rowAt
    rw [e]
def partsZ (n0 lb : Nat) : PutsP n0 (List M5) List.length addM := ⟨PartsI n0 lb, OwnL lb, fun h _ ho => h.own ho, fun h h1 h2 => h.kept h1 h2, addM_len⟩
end Go.Proofs.YtnieomgopldlhaaGreatDoor
/-! Nothing is put: the callback of Tables. -/
namespace Go.Proofs.YtnieomgopldlhaaGreatDoor
open Go Go.RowKit Go.Shelf Go.BigFrame

end Go.Proofs.YtnieomgopldlhaaGreatDoor
/-! Parts are put: the callback of All. -/
namespace Go.Proofs.YtnieomgopldlhaaGreatDoor
open Go Go.RowKit Go.Shelf Go.BigFrame

theorem ownsRow_put {w : World} {base size n g cap j : Nat} {e : TypeId} {xs : List Value} (u : Value) (h : w.ownsRow base e size (.slice (some ⟨g, 0, none⟩) n cap) n xs) (hj : j < n * size) : (w.setCell ⟨g, j, none⟩ u).ownsRow base e size (.slice (some ⟨g, 0, none⟩) n cap) n (xs.set j u) := by
  obtain ⟨hlen, ⟨h1, _⟩ | ⟨g', cap', cur, hv, hb, hg, hn, hm, hs, hx⟩⟩ := h
  · cases h1
  · cases hv
    refine ⟨by simpa using hlen, .inr ⟨g, cap, cur.setIfInBounds j u, rfl, hb, ?_, hn, hm, by simpa using hs, ?_⟩⟩
    · simp [World.setCell, Array.getElem?_modify, hg]
    · rw [Array.toList_setIfInBounds, List.take_set, hx]
theorem encM_longer (l : List M5) (y x : M5) : (encM (l ++ [y])).set (l.length * 5 + 2) (.int .u64 (longer y x).sz) = encM (l ++ [longer y x]) := by
  rw [encM_snoc, encM_snoc, List.set_append_right _ _ (by rw [encM_len]; omega), encM_len, show l.length * 5 + 2 - l.length * 5 = 2 by omega]
  rfl
theorem wpl_append_map_at {P : Program} {ops : Array Oper} {rest : List Oper} {o : Oper} {a : Act} {Q : Exit → Act → World → Prop} {w : World} {g m : Nat} {C : Array Value} (hgd : o.guard = none) (s x : Operand) (S : TypeId)
    (ho : o.op = .call { callee := .builtin .append, args := #[s, x], argTypes := #[S, S] })
    (base : Nat) (E : TypeId) (hi : InfoM P E) (ht : P.underlying S = some (.slice E)) (v : Value) (l : List M5) (ys : List M5) (hs : a.eval s = v)
    (hx : a.eval x = .slice (some ⟨g, 0, none⟩) m m) (hown : OwnM E w base v l) (hm : m = ys.length) (hg : g = w.heap.size) (hy : C = (encM ys).toArray) (hl : l.length + ys.length ≤ 1099511627776) (hbase : base ≤ w.heap.size)
    (h : ∀ v' w', OwnM E w' base v' (l ++ ys) → (v'.ownBlock = v.ownBlock ∨ v'.ownBlock = some (w.alloc (.cells C E)).heap.size) → (w.alloc (.cells C E)).grownBy w' v.ownBlock → wpList P ops Q rest (a.put o.dst v') w') :
    wpList P ops Q (o :: rest) a (w.alloc (.cells C E)) := by
  subst hy
  subst hg
  subst hm
  obtain ⟨i0, hi1, hi2⟩ := Option.map_eq_some_iff.1 hi
  rw [Prod.mk.injEq, Prod.mk.injEq] at hi2
  obtain ⟨hz0, hz1, hz2⟩ := hi2
  refine wpList_append_own_at _ hgd s x S ho base E i0 _ 5 40 ht hi1 hz0 hz1 hz2 rfl (by decide) v l.length (encM l) hs (World.ownsRow.alloc hown _)
    ⟨w.heap.size, 0, none⟩ ys.length ys.length (encM ys) hx (encM_len ys) ?_ ?_ ?_ ?_ ?_ ?_
  · intro j u hu
    have hadd : (⟨w.heap.size, 0, none⟩ : Addr).add j = ⟨w.heap.size, j, none⟩ := by unfold Addr.add; split <;> simp_all
    rw [hadd, World.cell?_alloc_new]
    simpa using hu
  · intro u hu
    exact encM_one ys u hu
  · unfold maxLen; omega
  · omega
  · simp; omega
  · intro v' w' hown' hg _ hat
    refine h v' w' ?_ hat hg
    unfold OwnM
    have e : encM (l ++ ys) = encM l ++ encM ys := by simp [encM]
    rw [e, List.length_append]; exact hown'
theorem parts_app {n0 lb : Nat} {l l' : List M5} {W w6 : World} {v v' : Value} {t1 t2 : Obj} (hb : n0 ≤ lb) (hv : Boxed W lb 22 v) (hr : OwnM 26 W n0 v l) (hg : ((W.alloc t1).alloc t2).grownBy w6 v.ownBlock) (ho : OwnM 26 w6 n0 v' l')
    (hat : v'.ownBlock = v.ownBlock ∨ v'.ownBlock = some ((W.alloc t1).alloc t2).heap.size) : PartsI n0 lb l' (w6.setCell ⟨lb, 0, none⟩ v') ∧ Fr (OwnL lb) W (w6.setCell ⟨lb, 0, none⟩ v') := by
  have hnr : some lb ≠ v.ownBlock := hv.not_row (by decide) hr
  have hvl := hv.lt
  have hv6 : Boxed w6 lb 22 v := ((hv.alloc _).alloc _).kept hg hnr
  have hne : v'.ownBlock ≠ some lb := by
    rcases hat with e | e
    · rw [e]; exact fun h => hnr h.symm
    · rw [e]; intro h; injection h with h; simp at h; omega
  have hv7 := hv6.set v'
  have hoth : ∀ k, k < W.heap.size → v.ownBlock ≠ some k → w6.heap[k]? = W.heap[k]? := fun k h1 h2 => (hg.block k (by simp; omega) (fun e => h2 e.symm)).trans ((Below.heap_alloc _ _ _ (by simp; omega)).trans (Below.heap_alloc _ _ _ h1))
  refine ⟨⟨hb, v', hv7, ownsRow_setCell_other ho hne _⟩, hg.os, hg.tape, hg.output, ?_, fun k hk hno => ?_⟩
  · have := hg.size; simp at this; simp [World.setCell]; omega
  · have hkl : k ≠ lb := fun e => hno (.inl e)
    have hkr : v.ownBlock ≠ some k := fun e => hno (.inr ⟨v, hv.cell, e⟩)
    refine ⟨(Below.heap_setCell _ _ _ _ hkl).trans (hoth k hk hkr), ?_⟩
    rintro (rfl | ⟨u, hu, hk'⟩)
    · exact hkl rfl
    · rw [hv7.cell] at hu; cases hu
      rcases hat with e | e
      · exact hkr (e ▸ hk')
      · rw [e] at hk'; injection hk' with h; simp at h; omega
theorem parts_later {n0 lb : Nat} {l : List M5} {W V : World} (h : PartsI n0 lb l W) (hb : Below W.heap.size W V) : PartsI n0 lb l V ∧ Fr (OwnL lb) W V := by
  have h1 := h.kept hb.size (fun k ho => hb.block k (h.own ho).2.1)
  exact ⟨h1.1, hb.os, hb.tape, hb.output, hb.size, fun k hk ho => ⟨hb.block k hk, fun e => ho ((h1.2 k).1 e)⟩⟩
theorem parts_app1 {n0 lb : Nat} {l l' : List M5} {W w6 : World} {v v' : Value} {t2 : Obj} (hb : n0 ≤ lb) (hv : Boxed W lb 22 v) (hr : OwnM 26 W n0 v l) (hg : (W.alloc t2).grownBy w6 v.ownBlock) (ho : OwnM 26 w6 n0 v' l')
    (hat : v'.ownBlock = v.ownBlock ∨ v'.ownBlock = some (W.alloc t2).heap.size) : PartsI n0 lb l' (w6.setCell ⟨lb, 0, none⟩ v') ∧ Fr (OwnL lb) W (w6.setCell ⟨lb, 0, none⟩ v') := by
  have hnr : some lb ≠ v.ownBlock := hv.not_row (by decide) hr
  have hvl := hv.lt
  have hv6 : Boxed w6 lb 22 v := (hv.alloc _).kept hg hnr
  have hne : v'.ownBlock ≠ some lb := by
    rcases hat with e | e
    · rw [e]; exact fun h => hnr h.symm
    · rw [e]; intro h; injection h with h; simp at h; omega
  have hv7 := hv6.set v'
  have hoth : ∀ k, k < W.heap.size → v.ownBlock ≠ some k → w6.heap[k]? = W.heap[k]? := fun k h1 h2 => (hg.block k (by simp; omega) (fun e => h2 e.symm)).trans (Below.heap_alloc _ _ _ h1)
  refine ⟨⟨hb, v', hv7, ownsRow_setCell_other ho hne _⟩, hg.os, hg.tape, hg.output, ?_, fun k hk hno => ?_⟩
  · have := hg.size; simp at this; simp [World.setCell]; omega
  · have hkl : k ≠ lb := fun e => hno (.inl e)
    have hkr : v.ownBlock ≠ some k := fun e => hno (.inr ⟨v, hv.cell, e⟩)
    refine ⟨(Below.heap_setCell _ _ _ _ hkl).trans (hoth k hk hkr), ?_⟩
    rintro (rfl | ⟨u, hu, hk'⟩)
    · exact hkl rfl
    · rw [hv7.cell] at hu; cases hu
      rcases hat with e | e
      · exact hkr (e ▸ hk')
      · rw [e] at hk'; injection hk' with h; simp at h; omega
theorem parts_put {n0 lb g c : Nat} {l : List M5} {y x : M5} {W : World} (hb : n0 ≤ lb) (hv : Boxed W lb 22 (.slice (some ⟨g, 0, none⟩) (l.length + 1) c)) (hr : OwnM 26 W n0 (.slice (some ⟨g, 0, none⟩) (l.length + 1) c) (l ++ [y])) :
    PartsI n0 lb (l ++ [longer y x]) (W.setCell ⟨g, l.length * 5 + 2, none⟩ (.int .u64 (longer y x).sz)) ∧ Fr (OwnL lb) W (W.setCell ⟨g, l.length * 5 + 2, none⟩ (.int .u64 (longer y x).sz)) := by
  have hnr : some lb ≠ (Value.slice (some ⟨g, 0, none⟩) (l.length + 1) c).ownBlock := hv.not_row (by decide) hr
  have hgl : g ≠ lb := fun e => hnr (by rw [← e]; rfl)
  have hll : (l ++ [y]).length = l.length + 1 := by simp
  have h1 : W.ownsRow n0 26 5 (.slice (some ⟨g, 0, none⟩) (l.length + 1) c) (l.length + 1) (encM (l ++ [y])) := hll ▸ hr
  have h2 := ownsRow_put (j := l.length * 5 + 2) (.int .u64 (longer y x).sz) h1 (by omega)
  rw [encM_longer] at h2
  have hblk : ∀ k, k ≠ g → (W.setCell ⟨g, l.length * 5 + 2, none⟩ (.int .u64 (longer y x).sz)).heap[k]? = W.heap[k]? := fun k hk => Below.heap_setCell W ⟨g, l.length * 5 + 2, none⟩ _ k hk
  have hv2 : Boxed (W.setCell ⟨g, l.length * 5 + 2, none⟩ (.int .u64 (longer y x).sz)) lb 22 (.slice (some ⟨g, 0, none⟩) (l.length + 1) c) := (hblk lb (fun e => hgl e.symm)).trans hv
  refine ⟨⟨hb, _, hv2, ?_⟩, rfl, rfl, rfl, by simp [World.setCell], fun k _ hno => ?_⟩
  · unfold OwnM
    rw [show (l ++ [longer y x]).length = l.length + 1 by simp]
    exact h2
  · have hkl : k ≠ lb := fun e => hno (.inl e)
    have hkg : k ≠ g := fun e => hno (.inr ⟨_, hv.cell, by rw [e]; rfl⟩)
    refine ⟨hblk k hkg, ?_⟩
    rintro (rfl | ⟨u, hu, hk'⟩)
    · exact hkl rfl
    · rw [hv2.cell] at hu; cases hu
      exact hkg (by injection hk' with h; exact h.symm)
theorem region_later_tail {P : Program} {id : Nat} {Q : Exit → Act → World → Prop} {a : Act} {w : World} {l : List Oper} (B : Nat) (w0 : World) (n : Nat) (h0 : Below B w0 w) (hm : P.follows .mixedOrders = true) (hB : headTailB l.toArray n = true)
    (h : wpQuiet P l.toArray (fun w' => ∃ X : Later B w0, w' = X.x) (fun a' => ∀ w', (∃ X : Later B w0, w' = X.x) → wpList P l.toArray Q (l.drop n) a' w') (l.take n) a) : (Code.region id l.toArray true).wp P Q a w :=
  wp_region_quiet_tail (C := fun w' => ∃ X : Later B w0, w' = X.x) n hm hB ⟨⟨_, h0.drew⟩, rfl⟩ h
theorem infoMapS : InfoM Tryz.prog 26 := by unfold InfoM; kernel_rfl
set_option maxRecDepth 20000 in
set_option maxHeartbeats 2000000 in
theorem parts_nil (n0 lb : Nat) (x : M5) (W : World) (h : PartsI n0 lb [] W) (hn : n0 ≤ W.heap.size) : Calls Tryz.prog 37 #[.agg #[.int .u64 x.ipa, .int .u64 x.pa, .int .u64 x.sz, .int .i64 x.perm, .int .i64 x.kind], .pointer (some ⟨lb, 0, none⟩)] W fun e W' => (∃ v, e = .returned v) ∧ PartsI n0 lb [x] W' ∧ Fr (OwnL lb) W W' := by
  obtain ⟨hb, v, hv, hr⟩ := h
  obtain ⟨a, c, rfl⟩ := rowSlice hr
  have hvl := hv.lt
  have hc1 : (W.alloc (.cells #[.int .u64 x.ipa, .int .u64 x.pa, .int .u64 x.sz, .int .i64 x.perm, .int .i64 x.kind] 26)).cell? ⟨lb, 0, none⟩ = some (.slice a 0 c) := (hv.alloc _).cell
  have hx : (W.alloc (.cells #[.int .u64 x.ipa, .int .u64 x.pa, .int .u64 x.sz, .int .i64 x.perm, .int .i64 x.kind] 26)).heap.size = W.heap.size + 1 := by simp
  go_enter Tryz.func37, Tryz.ntmps37
  have hr1 : OwnM 26 (W.alloc (.cells #[.int .u64 x.ipa, .int .u64 x.pa, .int .u64 x.sz, .int .i64 x.perm, .int .i64 x.kind] 26)) n0 (.slice a 0 c) [] := hr.below (bone _ _) (Nat.le_refl _)
  have hnr : some lb ≠ (Value.slice a 0 c).ownBlock := hv.not_row (by decide) hr
  go_wp2_with (at_builtin; refine wpl_append_map_at rfl _ _ 22 rfl n0 26 infoMapS Tryz.underlying22 (.slice a 0 c) [] [x] rfl rfl ?_ ?_ ?_ ?_ ?_ ?_ ?_; (focus (exact hr1)); (focus rfl); (focus (first | rfl | (simp; done))); (focus rfl); (focus (simp)); (focus (simp; omega)); intro v' w6 hown' hat hgrow; have hv6 : Boxed w6 lb 22 (.slice a 0 c) := ((hv.alloc _).alloc _).kept hgrow hnr; have hc6 := hv6.cell; have hf6 := hv6.frozen; obtain ⟨a6, c6, rfl⟩ := rowSlice hown')
  go_end0
  obtain ⟨h1, h2⟩ := parts_app hb hv hr hgrow hown' hat
  exact ⟨⟨_, rfl⟩, h1, h2⟩
set_option maxRecDepth 100000 in
set_option maxHeartbeats 4000000 in
theorem parts_snoc (n0 lb : Nat) (l : List M5) (y x : M5) (W : World) (h : PartsI n0 lb (l ++ [y]) W) (hn : n0 ≤ W.heap.size) (hl : l.length ≤ 2048000) : Calls Tryz.prog 37 #[.agg #[.int .u64 x.ipa, .int .u64 x.pa, .int .u64 x.sz, .int .i64 x.perm, .int .i64 x.kind], .pointer (some ⟨lb, 0, none⟩)] W fun e W' => (∃ v, e = .returned v) ∧ PartsI n0 lb (addM (l ++ [y]) x) W' ∧ Fr (OwnL lb) W W' := by
  obtain ⟨hb, v, hv, hr⟩ := h
  have hrow := hr.row
  have hll : (l ++ [y]).length = l.length + 1 := by simp
  obtain ⟨g, c, rfl⟩ := ownsRow_succ (hll ▸ hr : W.ownsRow n0 26 5 v (l.length + 1) (encM (l ++ [y])))
  obtain ⟨a0, c0, e0, hcap, hcell⟩ := hrow
  injection e0 with e0 e0l e0c
  clear hcap e0l e0c
  obtain ⟨g2, off, e1, hgl, hcell2⟩ := hcell (by simp)
  clear hcell
  rw [← e0] at e1
  injection e1 with e1
  injection e1 with e1 e2 e3
  subst e1
  subst e2
  clear e0 e3
  have hy := hcell2 l.length (by simp)
  simp only [List.getElem_append_right (Nat.le_refl _), Nat.sub_self, List.getElem_cons_zero, Nat.zero_add] at hy
  obtain ⟨y0, y1, y2, y3, y4⟩ := hy
  have hc1 : (W.alloc (.cells #[.int .u64 x.ipa, .int .u64 x.pa, .int .u64 x.sz, .int .i64 x.perm, .int .i64 x.kind] 26)).cell? ⟨lb, 0, none⟩ = some (.slice (some ⟨g, 0, none⟩) (l.length + 1) c) := (hv.alloc _).cell
  clear hcell2
  replace hll := Lib.hid hll
  obtain ⟨W1, hW1⟩ : ∃ W1, W1 = W.alloc (.cells #[.int .u64 x.ipa, .int .u64 x.pa, .int .u64 x.sz, .int .i64 x.perm, .int .i64 x.kind] 26) := ⟨_, rfl⟩
  have hb1 : Below W.heap.size W W1 := by rw [hW1]; exact bone _ _
  have hz1 : W1.heap.size = W.heap.size + 1 := by rw [hW1]; simp
  have hnewx : W1.heap[W.heap.size]? = some (.cells #[.int .u64 x.ipa, .int .u64 x.pa, .int .u64 x.sz, .int .i64 x.perm, .int .i64 x.kind] 26 (0, 0)) := by rw [hW1]; exact World.alloc_heap_new _ _
  have x0 : W1.cell? ⟨W.heap.size, 0, none⟩ = some (.int .u64 x.ipa) := by simp [World.cell?, hnewx]
  have x1 : W1.cell? ⟨W.heap.size, 1, none⟩ = some (.int .u64 x.pa) := by simp [World.cell?, hnewx]
  have x2 : W1.cell? ⟨W.heap.size, 2, none⟩ = some (.int .u64 x.sz) := by simp [World.cell?, hnewx]
  have x3 : W1.cell? ⟨W.heap.size, 3, none⟩ = some (.int .i64 x.perm) := by simp [World.cell?, hnewx]
  have x4 : W1.cell? ⟨W.heap.size, 4, none⟩ = some (.int .i64 x.kind) := by simp [World.cell?, hnewx]
  replace y0 := cell_lt hb1 y0 hgl
  replace y1 := cell_lt hb1 y1 hgl
  replace y2 := cell_lt hb1 y2 hgl
  replace y3 := cell_lt hb1 y3 hgl
  replace y4 := cell_lt hb1 y4 hgl
  have hg1 : g < W1.heap.size := by omega
  have hadd := addM_snoc l y x
  unfold goesOn at hadd
  generalize k1e : (IntKind.u64.wrap (y.ipa + y.sz) == x.ipa) = k1 at *
  generalize k2e : (IntKind.u64.wrap (y.pa + y.sz) == x.pa) = k2 at *
  generalize k3e : (y.perm == x.perm) = k3 at *
  generalize k4e : (y.kind == x.kind) = k4 at *
  replace hadd := Lib.hid hadd
  go_enter Tryz.func37, Tryz.ntmps37
  go_wp2_with fail
  rw [← hW1]
  clear hW1 hc1
  have hx1 : W.heap.size < W1.heap.size := by omega
  obtain ⟨hP1, hF1⟩ := parts_later ⟨hb, _, hv, hr⟩ hb1
  have hv1 : Boxed W1 lb 22 (.slice (some ⟨g, 0, none⟩) (l.length + 1) c) := (hb1.block lb hv.lt).trans hv
  have hr1 := hr.below hb1 (Nat.le_refl _)
  have hB1 := hb1
  clear hv hr hb1
  rcases k1 with _ | _
  · refine region_later W1.heap.size W1 (Below.refl _ _) (by kernel_rfl) (by kernel_rfl) ?_
    have u0 := later_cell (B := W1.heap.size) y0 hg1
    have u1 := later_cell (B := W1.heap.size) y1 hg1
    have u2 := later_cell (B := W1.heap.size) y2 hg1
    have u3 := later_cell (B := W1.heap.size) y3 hg1
    have u4 := later_cell (B := W1.heap.size) y4 hg1
    have v0 := later_cell (B := W1.heap.size) x0 hx1
    have v1 := later_cell (B := W1.heap.size) x1 hx1
    have v2 := later_cell (B := W1.heap.size) x2 hx1
    have v3 := later_cell (B := W1.heap.size) x3 hx1
    have v4 := later_cell (B := W1.heap.size) x4 hx1
    repeat (change wpQuiet _ _ _ _ (List.cons _ _) _; go_big_quiet_step (fail))
    refine wpQuiet_nil ?_
    first | (rintro _ ⟨X, rfl⟩) | (intro X)
    have hX := X.h
    clear u0 u1 u2 u3 u4 v0 v1 v2 v3 v4
    generalize X.x = W2 at *
    clear X
    replace y0 := cell_lt hX y0 hg1
    replace y1 := cell_lt hX y1 hg1
    replace y2 := cell_lt hX y2 hg1
    replace y3 := cell_lt hX y3 hg1
    replace y4 := cell_lt hX y4 hg1
    replace x0 := cell_lt hX x0 hx1
    replace x1 := cell_lt hX x1 hx1
    replace x2 := cell_lt hX x2 hx1
    replace x3 := cell_lt hX x3 hx1
    replace x4 := cell_lt hX x4 hx1
    have hg2 : g < W2.heap.size := Nat.lt_of_lt_of_le hg1 hX.size
    have hx2 : W.heap.size < W2.heap.size := Nat.lt_of_lt_of_le hx1 hX.size
    obtain ⟨hP2, hF2⟩ := parts_later hP1 hX
    have hv2 : Boxed W2 lb 22 (.slice (some ⟨g, 0, none⟩) (l.length + 1) c) := (hX.block lb hv1.lt).trans hv1
    have hr2 := hr1.below hX (Nat.le_refl _)
    have hB2 := bthen hB1 hX
    clear hX
    go_wp2_with fail
    refine region_later W2.heap.size W2 (Below.refl _ _) (by kernel_rfl) (by kernel_rfl) ?_
    have u0 := later_cell (B := W2.heap.size) y0 hg2
    have u1 := later_cell (B := W2.heap.size) y1 hg2
    have u2 := later_cell (B := W2.heap.size) y2 hg2
    have u3 := later_cell (B := W2.heap.size) y3 hg2
    have u4 := later_cell (B := W2.heap.size) y4 hg2
    have v0 := later_cell (B := W2.heap.size) x0 hx2
    have v1 := later_cell (B := W2.heap.size) x1 hx2
    have v2 := later_cell (B := W2.heap.size) x2 hx2
    have v3 := later_cell (B := W2.heap.size) x3 hx2
    have v4 := later_cell (B := W2.heap.size) x4 hx2
    repeat (change wpQuiet _ _ _ _ (List.cons _ _) _; go_big_quiet_step (fail))
    refine wpQuiet_nil ?_
    first | (rintro _ ⟨X, rfl⟩) | (intro X)
    have hX := X.h
    clear u0 u1 u2 u3 u4 v0 v1 v2 v3 v4
    generalize X.x = W3 at *
    clear X
    replace y0 := cell_lt hX y0 hg2
    replace y1 := cell_lt hX y1 hg2
    replace y2 := cell_lt hX y2 hg2
    replace y3 := cell_lt hX y3 hg2
    replace y4 := cell_lt hX y4 hg2
    replace x0 := cell_lt hX x0 hx2
    replace x1 := cell_lt hX x1 hx2
    replace x2 := cell_lt hX x2 hx2
    replace x3 := cell_lt hX x3 hx2
    replace x4 := cell_lt hX x4 hx2
    have hg3 : g < W3.heap.size := Nat.lt_of_lt_of_le hg2 hX.size
    have hx3 : W.heap.size < W3.heap.size := Nat.lt_of_lt_of_le hx2 hX.size
    obtain ⟨hP3, hF3⟩ := parts_later hP2 hX
    have hv3 : Boxed W3 lb 22 (.slice (some ⟨g, 0, none⟩) (l.length + 1) c) := (hX.block lb hv2.lt).trans hv2
    have hr3 := hr2.below hX (Nat.le_refl _)
    have hB3 := bthen hB2 hX
    clear hX
    have hc3 := hv3.cell
    have hnr : some lb ≠ (Value.slice (some ⟨g, 0, none⟩) (l.length + 1) c).ownBlock := hv3.not_row (by decide) hr3
    go_wp2_with (at_builtin; refine wpl_append_map_at rfl _ _ 22 rfl n0 26 infoMapS Tryz.underlying22 (.slice (some ⟨g, 0, none⟩) (l.length + 1) c) (l ++ [y]) [x] rfl rfl ?_ ?_ ?_ ?_ ?_ ?_ ?_; (focus (exact hr3)); (focus rfl); (focus (first | rfl | (simp; done))); (focus rfl); (focus (simp; omega)); (focus (have := hB3.size; omega)); intro v' w6 hown' hat hgrow; have hv6 : Boxed w6 lb 22 (.slice (some ⟨g, 0, none⟩) (l.length + 1) c) := (hv3.alloc _).kept hgrow hnr; have hc6 := hv6.cell; have hf6 := hv6.frozen; obtain ⟨a6, c6, rfl⟩ := rowSlice hown')
    go_end0
    obtain ⟨h1, h2⟩ := parts_app1 hb hv3 hr3 hgrow hown' hat
    rw [show (l ++ [y] ++ [x]).length = l.length + 2 by simp] at h1 h2
    have e := hadd.out
    exact ⟨⟨_, rfl⟩, by rw [e]; exact h1, (hF1.trans (hF2.trans hF3)).trans h2⟩
  · rcases k2 with _ | _
    · refine region_later W1.heap.size W1 (Below.refl _ _) (by kernel_rfl) (by kernel_rfl) ?_
      have u0 := later_cell (B := W1.heap.size) y0 hg1
      have u1 := later_cell (B := W1.heap.size) y1 hg1
      have u2 := later_cell (B := W1.heap.size) y2 hg1
      have u3 := later_cell (B := W1.heap.size) y3 hg1
      have u4 := later_cell (B := W1.heap.size) y4 hg1
      have v0 := later_cell (B := W1.heap.size) x0 hx1
      have v1 := later_cell (B := W1.heap.size) x1 hx1
      have v2 := later_cell (B := W1.heap.size) x2 hx1
      have v3 := later_cell (B := W1.heap.size) x3 hx1
      have v4 := later_cell (B := W1.heap.size) x4 hx1
      repeat (change wpQuiet _ _ _ _ (List.cons _ _) _; go_big_quiet_step (fail))
      refine wpQuiet_nil ?_
      first | (rintro _ ⟨X, rfl⟩) | (intro X)
      have hX := X.h
      clear u0 u1 u2 u3 u4 v0 v1 v2 v3 v4
      generalize X.x = W2 at *
      clear X
      replace y0 := cell_lt hX y0 hg1
      replace y1 := cell_lt hX y1 hg1
      replace y2 := cell_lt hX y2 hg1
      replace y3 := cell_lt hX y3 hg1
      replace y4 := cell_lt hX y4 hg1
      replace x0 := cell_lt hX x0 hx1
      replace x1 := cell_lt hX x1 hx1
      replace x2 := cell_lt hX x2 hx1
      replace x3 := cell_lt hX x3 hx1
      replace x4 := cell_lt hX x4 hx1
      have hg2 : g < W2.heap.size := Nat.lt_of_lt_of_le hg1 hX.size
      have hx2 : W.heap.size < W2.heap.size := Nat.lt_of_lt_of_le hx1 hX.size
      obtain ⟨hP2, hF2⟩ := parts_later hP1 hX
      have hv2 : Boxed W2 lb 22 (.slice (some ⟨g, 0, none⟩) (l.length + 1) c) := (hX.block lb hv1.lt).trans hv1
      have hr2 := hr1.below hX (Nat.le_refl _)
      have hB2 := bthen hB1 hX
      clear hX
      go_wp2_with fail
      refine region_later W2.heap.size W2 (Below.refl _ _) (by kernel_rfl) (by kernel_rfl) ?_
      have u0 := later_cell (B := W2.heap.size) y0 hg2
      have u1 := later_cell (B := W2.heap.size) y1 hg2
      have u2 := later_cell (B := W2.heap.size) y2 hg2
      have u3 := later_cell (B := W2.heap.size) y3 hg2
      have u4 := later_cell (B := W2.heap.size) y4 hg2
      have v0 := later_cell (B := W2.heap.size) x0 hx2
      have v1 := later_cell (B := W2.heap.size) x1 hx2
      have v2 := later_cell (B := W2.heap.size) x2 hx2
      have v3 := later_cell (B := W2.heap.size) x3 hx2
      have v4 := later_cell (B := W2.heap.size) x4 hx2
      repeat (change wpQuiet _ _ _ _ (List.cons _ _) _; go_big_quiet_step (fail))
      refine wpQuiet_nil ?_
      first | (rintro _ ⟨X, rfl⟩) | (intro X)
      have hX := X.h
      clear u0 u1 u2 u3 u4 v0 v1 v2 v3 v4
      generalize X.x = W3 at *
      clear X
      replace y0 := cell_lt hX y0 hg2
      replace y1 := cell_lt hX y1 hg2
      replace y2 := cell_lt hX y2 hg2
      replace y3 := cell_lt hX y3 hg2
      replace y4 := cell_lt hX y4 hg2
      replace x0 := cell_lt hX x0 hx2
      replace x1 := cell_lt hX x1 hx2
      replace x2 := cell_lt hX x2 hx2
      replace x3 := cell_lt hX x3 hx2
      replace x4 := cell_lt hX x4 hx2
      have hg3 : g < W3.heap.size := Nat.lt_of_lt_of_le hg2 hX.size
      have hx3 : W.heap.size < W3.heap.size := Nat.lt_of_lt_of_le hx2 hX.size
      obtain ⟨hP3, hF3⟩ := parts_later hP2 hX
      have hv3 : Boxed W3 lb 22 (.slice (some ⟨g, 0, none⟩) (l.length + 1) c) := (hX.block lb hv2.lt).trans hv2
      have hr3 := hr2.below hX (Nat.le_refl _)
      have hB3 := bthen hB2 hX
      clear hX
      have hc3 := hv3.cell
      have hnr : some lb ≠ (Value.slice (some ⟨g, 0, none⟩) (l.length + 1) c).ownBlock := hv3.not_row (by decide) hr3
      go_wp2_with (at_builtin; refine wpl_append_map_at rfl _ _ 22 rfl n0 26 infoMapS Tryz.underlying22 (.slice (some ⟨g, 0, none⟩) (l.length + 1) c) (l ++ [y]) [x] rfl rfl ?_ ?_ ?_ ?_ ?_ ?_ ?_; (focus (exact hr3)); (focus rfl); (focus (first | rfl | (simp; done))); (focus rfl); (focus (simp; omega)); (focus (have := hB3.size; omega)); intro v' w6 hown' hat hgrow; have hv6 : Boxed w6 lb 22 (.slice (some ⟨g, 0, none⟩) (l.length + 1) c) := (hv3.alloc _).kept hgrow hnr; have hc6 := hv6.cell; have hf6 := hv6.frozen; obtain ⟨a6, c6, rfl⟩ := rowSlice hown')
      go_end0
      obtain ⟨h1, h2⟩ := parts_app1 hb hv3 hr3 hgrow hown' hat
      rw [show (l ++ [y] ++ [x]).length = l.length + 2 by simp] at h1 h2
      have e := hadd.out
      exact ⟨⟨_, rfl⟩, by rw [e]; exact h1, (hF1.trans (hF2.trans hF3)).trans h2⟩
    · rcases k3 with _ | _
      · refine region_later W1.heap.size W1 (Below.refl _ _) (by kernel_rfl) (by kernel_rfl) ?_
        have u0 := later_cell (B := W1.heap.size) y0 hg1
        have u1 := later_cell (B := W1.heap.size) y1 hg1
        have u2 := later_cell (B := W1.heap.size) y2 hg1
        have u3 := later_cell (B := W1.heap.size) y3 hg1
        have u4 := later_cell (B := W1.heap.size) y4 hg1
        have v0 := later_cell (B := W1.heap.size) x0 hx1
        have v1 := later_cell (B := W1.heap.size) x1 hx1
        have v2 := later_cell (B := W1.heap.size) x2 hx1
        have v3 := later_cell (B := W1.heap.size) x3 hx1
        have v4 := later_cell (B := W1.heap.size) x4 hx1
        repeat (change wpQuiet _ _ _ _ (List.cons _ _) _; go_big_quiet_step (fail))
        refine wpQuiet_nil ?_
        first | (rintro _ ⟨X, rfl⟩) | (intro X)
        have hX := X.h
        clear u0 u1 u2 u3 u4 v0 v1 v2 v3 v4
        generalize X.x = W2 at *
        clear X
        replace y0 := cell_lt hX y0 hg1
        replace y1 := cell_lt hX y1 hg1
        replace y2 := cell_lt hX y2 hg1
        replace y3 := cell_lt hX y3 hg1
        replace y4 := cell_lt hX y4 hg1
        replace x0 := cell_lt hX x0 hx1
        replace x1 := cell_lt hX x1 hx1
        replace x2 := cell_lt hX x2 hx1
        replace x3 := cell_lt hX x3 hx1
        replace x4 := cell_lt hX x4 hx1
        have hg2 : g < W2.heap.size := Nat.lt_of_lt_of_le hg1 hX.size
        have hx2 : W.heap.size < W2.heap.size := Nat.lt_of_lt_of_le hx1 hX.size
        obtain ⟨hP2, hF2⟩ := parts_later hP1 hX
        have hv2 : Boxed W2 lb 22 (.slice (some ⟨g, 0, none⟩) (l.length + 1) c) := (hX.block lb hv1.lt).trans hv1
        have hr2 := hr1.below hX (Nat.le_refl _)
        have hB2 := bthen hB1 hX
        clear hX
        go_wp2_with fail
        refine region_later W2.heap.size W2 (Below.refl _ _) (by kernel_rfl) (by kernel_rfl) ?_
        have u0 := later_cell (B := W2.heap.size) y0 hg2
        have u1 := later_cell (B := W2.heap.size) y1 hg2
        have u2 := later_cell (B := W2.heap.size) y2 hg2
        have u3 := later_cell (B := W2.heap.size) y3 hg2
        have u4 := later_cell (B := W2.heap.size) y4 hg2
        have v0 := later_cell (B := W2.heap.size) x0 hx2
        have v1 := later_cell (B := W2.heap.size) x1 hx2
        have v2 := later_cell (B := W2.heap.size) x2 hx2
        have v3 := later_cell (B := W2.heap.size) x3 hx2
        have v4 := later_cell (B := W2.heap.size) x4 hx2
        repeat (change wpQuiet _ _ _ _ (List.cons _ _) _; go_big_quiet_step (fail))
        refine wpQuiet_nil ?_
        first | (rintro _ ⟨X, rfl⟩) | (intro X)
        have hX := X.h
        clear u0 u1 u2 u3 u4 v0 v1 v2 v3 v4
        generalize X.x = W3 at *
        clear X
        replace y0 := cell_lt hX y0 hg2
        replace y1 := cell_lt hX y1 hg2
        replace y2 := cell_lt hX y2 hg2
        replace y3 := cell_lt hX y3 hg2
        replace y4 := cell_lt hX y4 hg2
        replace x0 := cell_lt hX x0 hx2
        replace x1 := cell_lt hX x1 hx2
        replace x2 := cell_lt hX x2 hx2
        replace x3 := cell_lt hX x3 hx2
        replace x4 := cell_lt hX x4 hx2
        have hg3 : g < W3.heap.size := Nat.lt_of_lt_of_le hg2 hX.size
        have hx3 : W.heap.size < W3.heap.size := Nat.lt_of_lt_of_le hx2 hX.size
        obtain ⟨hP3, hF3⟩ := parts_later hP2 hX
        have hv3 : Boxed W3 lb 22 (.slice (some ⟨g, 0, none⟩) (l.length + 1) c) := (hX.block lb hv2.lt).trans hv2
        have hr3 := hr2.below hX (Nat.le_refl _)
        have hB3 := bthen hB2 hX
        clear hX
        have hc3 := hv3.cell
        have hnr : some lb ≠ (Value.slice (some ⟨g, 0, none⟩) (l.length + 1) c).ownBlock := hv3.not_row (by decide) hr3
        go_wp2_with (at_builtin; refine wpl_append_map_at rfl _ _ 22 rfl n0 26 infoMapS Tryz.underlying22 (.slice (some ⟨g, 0, none⟩) (l.length + 1) c) (l ++ [y]) [x] rfl rfl ?_ ?_ ?_ ?_ ?_ ?_ ?_; (focus (exact hr3)); (focus rfl); (focus (first | rfl | (simp; done))); (focus rfl); (focus (simp; omega)); (focus (have := hB3.size; omega)); intro v' w6 hown' hat hgrow; have hv6 : Boxed w6 lb 22 (.slice (some ⟨g, 0, none⟩) (l.length + 1) c) := (hv3.alloc _).kept hgrow hnr; have hc6 := hv6.cell; have hf6 := hv6.frozen; obtain ⟨a6, c6, rfl⟩ := rowSlice hown')
        go_end0
        obtain ⟨h1, h2⟩ := parts_app1 hb hv3 hr3 hgrow hown' hat
        rw [show (l ++ [y] ++ [x]).length = l.length + 2 by simp] at h1 h2
        have e := hadd.out
        exact ⟨⟨_, rfl⟩, by rw [e]; exact h1, (hF1.trans (hF2.trans hF3)).trans h2⟩
      · rcases k4 with _ | _
        · refine region_later W1.heap.size W1 (Below.refl _ _) (by kernel_rfl) (by kernel_rfl) ?_
          have u0 := later_cell (B := W1.heap.size) y0 hg1
          have u1 := later_cell (B := W1.heap.size) y1 hg1
          have u2 := later_cell (B := W1.heap.size) y2 hg1
          have u3 := later_cell (B := W1.heap.size) y3 hg1
          have u4 := later_cell (B := W1.heap.size) y4 hg1
          have v0 := later_cell (B := W1.heap.size) x0 hx1
          have v1 := later_cell (B := W1.heap.size) x1 hx1
          have v2 := later_cell (B := W1.heap.size) x2 hx1
          have v3 := later_cell (B := W1.heap.size) x3 hx1
          have v4 := later_cell (B := W1.heap.size) x4 hx1
          repeat (change wpQuiet _ _ _ _ (List.cons _ _) _; go_big_quiet_step (fail))
          refine wpQuiet_nil ?_
          first | (rintro _ ⟨X, rfl⟩) | (intro X)
          have hX := X.h
          clear u0 u1 u2 u3 u4 v0 v1 v2 v3 v4
          generalize X.x = W2 at *
          clear X
          replace y0 := cell_lt hX y0 hg1
          replace y1 := cell_lt hX y1 hg1
          replace y2 := cell_lt hX y2 hg1
          replace y3 := cell_lt hX y3 hg1
          replace y4 := cell_lt hX y4 hg1
          replace x0 := cell_lt hX x0 hx1
          replace x1 := cell_lt hX x1 hx1
          replace x2 := cell_lt hX x2 hx1
          replace x3 := cell_lt hX x3 hx1
          replace x4 := cell_lt hX x4 hx1
          have hg2 : g < W2.heap.size := Nat.lt_of_lt_of_le hg1 hX.size
          have hx2 : W.heap.size < W2.heap.size := Nat.lt_of_lt_of_le hx1 hX.size
          obtain ⟨hP2, hF2⟩ := parts_later hP1 hX
          have hv2 : Boxed W2 lb 22 (.slice (some ⟨g, 0, none⟩) (l.length + 1) c) := (hX.block lb hv1.lt).trans hv1
          have hr2 := hr1.below hX (Nat.le_refl _)
          have hB2 := bthen hB1 hX
          clear hX
          go_wp2_with fail
          refine region_later W2.heap.size W2 (Below.refl _ _) (by kernel_rfl) (by kernel_rfl) ?_
          have u0 := later_cell (B := W2.heap.size) y0 hg2
          have u1 := later_cell (B := W2.heap.size) y1 hg2
          have u2 := later_cell (B := W2.heap.size) y2 hg2
          have u3 := later_cell (B := W2.heap.size) y3 hg2
          have u4 := later_cell (B := W2.heap.size) y4 hg2
          have v0 := later_cell (B := W2.heap.size) x0 hx2
          have v1 := later_cell (B := W2.heap.size) x1 hx2
          have v2 := later_cell (B := W2.heap.size) x2 hx2
          have v3 := later_cell (B := W2.heap.size) x3 hx2
          have v4 := later_cell (B := W2.heap.size) x4 hx2
          repeat (change wpQuiet _ _ _ _ (List.cons _ _) _; go_big_quiet_step (fail))
          refine wpQuiet_nil ?_
          first | (rintro _ ⟨X, rfl⟩) | (intro X)
          have hX := X.h
          clear u0 u1 u2 u3 u4 v0 v1 v2 v3 v4
          generalize X.x = W3 at *
          clear X
          replace y0 := cell_lt hX y0 hg2
          replace y1 := cell_lt hX y1 hg2
          replace y2 := cell_lt hX y2 hg2
          replace y3 := cell_lt hX y3 hg2
          replace y4 := cell_lt hX y4 hg2
          replace x0 := cell_lt hX x0 hx2
          replace x1 := cell_lt hX x1 hx2
          replace x2 := cell_lt hX x2 hx2
          replace x3 := cell_lt hX x3 hx2
          replace x4 := cell_lt hX x4 hx2
          have hg3 : g < W3.heap.size := Nat.lt_of_lt_of_le hg2 hX.size
          have hx3 : W.heap.size < W3.heap.size := Nat.lt_of_lt_of_le hx2 hX.size
          obtain ⟨hP3, hF3⟩ := parts_later hP2 hX
          have hv3 : Boxed W3 lb 22 (.slice (some ⟨g, 0, none⟩) (l.length + 1) c) := (hX.block lb hv2.lt).trans hv2
          have hr3 := hr2.below hX (Nat.le_refl _)
          have hB3 := bthen hB2 hX
          clear hX
          have hc3 := hv3.cell
          have hnr : some lb ≠ (Value.slice (some ⟨g, 0, none⟩) (l.length + 1) c).ownBlock := hv3.not_row (by decide) hr3
          go_wp2_with (at_builtin; refine wpl_append_map_at rfl _ _ 22 rfl n0 26 infoMapS Tryz.underlying22 (.slice (some ⟨g, 0, none⟩) (l.length + 1) c) (l ++ [y]) [x] rfl rfl ?_ ?_ ?_ ?_ ?_ ?_ ?_; (focus (exact hr3)); (focus rfl); (focus (first | rfl | (simp; done))); (focus rfl); (focus (simp; omega)); (focus (have := hB3.size; omega)); intro v' w6 hown' hat hgrow; have hv6 : Boxed w6 lb 22 (.slice (some ⟨g, 0, none⟩) (l.length + 1) c) := (hv3.alloc _).kept hgrow hnr; have hc6 := hv6.cell; have hf6 := hv6.frozen; obtain ⟨a6, c6, rfl⟩ := rowSlice hown')
          go_end0
          obtain ⟨h1, h2⟩ := parts_app1 hb hv3 hr3 hgrow hown' hat
          rw [show (l ++ [y] ++ [x]).length = l.length + 2 by simp] at h1 h2
          have e := hadd.out
          exact ⟨⟨_, rfl⟩, by rw [e]; exact h1, (hF1.trans (hF2.trans hF3)).trans h2⟩
        · refine region_later W1.heap.size W1 (Below.refl _ _) (by kernel_rfl) (by kernel_rfl) ?_
          have u0 := later_cell (B := W1.heap.size) y0 hg1
          have u1 := later_cell (B := W1.heap.size) y1 hg1
          have u2 := later_cell (B := W1.heap.size) y2 hg1
          have u3 := later_cell (B := W1.heap.size) y3 hg1
          have u4 := later_cell (B := W1.heap.size) y4 hg1
          have v0 := later_cell (B := W1.heap.size) x0 hx1
          have v1 := later_cell (B := W1.heap.size) x1 hx1
          have v2 := later_cell (B := W1.heap.size) x2 hx1
          have v3 := later_cell (B := W1.heap.size) x3 hx1
          have v4 := later_cell (B := W1.heap.size) x4 hx1
          repeat (change wpQuiet _ _ _ _ (List.cons _ _) _; go_big_quiet_step (fail))
          refine wpQuiet_nil ?_
          first | (rintro _ ⟨X, rfl⟩) | (intro X)
          have hX := X.h
          clear u0 u1 u2 u3 u4 v0 v1 v2 v3 v4
          generalize X.x = W2 at *
          clear X
          replace y0 := cell_lt hX y0 hg1
          replace y1 := cell_lt hX y1 hg1
          replace y2 := cell_lt hX y2 hg1
          replace y3 := cell_lt hX y3 hg1
          replace y4 := cell_lt hX y4 hg1
          replace x0 := cell_lt hX x0 hx1
          replace x1 := cell_lt hX x1 hx1
          replace x2 := cell_lt hX x2 hx1
          replace x3 := cell_lt hX x3 hx1
          replace x4 := cell_lt hX x4 hx1
          have hg2 : g < W2.heap.size := Nat.lt_of_lt_of_le hg1 hX.size
          have hx2 : W.heap.size < W2.heap.size := Nat.lt_of_lt_of_le hx1 hX.size
          obtain ⟨hP2, hF2⟩ := parts_later hP1 hX
          have hv2 : Boxed W2 lb 22 (.slice (some ⟨g, 0, none⟩) (l.length + 1) c) := (hX.block lb hv1.lt).trans hv1
          have hr2 := hr1.below hX (Nat.le_refl _)
          have hB2 := bthen hB1 hX
          clear hX
          go_wp2_with fail
          refine region_later W2.heap.size W2 (Below.refl _ _) (by kernel_rfl) (by kernel_rfl) ?_
          have u0 := later_cell (B := W2.heap.size) y0 hg2
          have u1 := later_cell (B := W2.heap.size) y1 hg2
          have u2 := later_cell (B := W2.heap.size) y2 hg2
          have u3 := later_cell (B := W2.heap.size) y3 hg2
          have u4 := later_cell (B := W2.heap.size) y4 hg2
          have v0 := later_cell (B := W2.heap.size) x0 hx2
          have v1 := later_cell (B := W2.heap.size) x1 hx2
          have v2 := later_cell (B := W2.heap.size) x2 hx2
          have v3 := later_cell (B := W2.heap.size) x3 hx2
          have v4 := later_cell (B := W2.heap.size) x4 hx2
          repeat (change wpQuiet _ _ _ _ (List.cons _ _) _; go_big_quiet_step (fail))
          refine wpQuiet_nil ?_
          first | (rintro _ ⟨X, rfl⟩) | (intro X)
          have hX := X.h
          clear u0 u1 u2 u3 u4 v0 v1 v2 v3 v4
          generalize X.x = W3 at *
          clear X
          replace y0 := cell_lt hX y0 hg2
          replace y1 := cell_lt hX y1 hg2
          replace y2 := cell_lt hX y2 hg2
          replace y3 := cell_lt hX y3 hg2
          replace y4 := cell_lt hX y4 hg2
          replace x0 := cell_lt hX x0 hx2
          replace x1 := cell_lt hX x1 hx2
          replace x2 := cell_lt hX x2 hx2
          replace x3 := cell_lt hX x3 hx2
          replace x4 := cell_lt hX x4 hx2
          have hg3 : g < W3.heap.size := Nat.lt_of_lt_of_le hg2 hX.size
          have hx3 : W.heap.size < W3.heap.size := Nat.lt_of_lt_of_le hx2 hX.size
          obtain ⟨hP3, hF3⟩ := parts_later hP2 hX
          have hv3 : Boxed W3 lb 22 (.slice (some ⟨g, 0, none⟩) (l.length + 1) c) := (hX.block lb hv2.lt).trans hv2
          have hr3 := hr2.below hX (Nat.le_refl _)
          have hB3 := bthen hB2 hX
          clear hX
          go_wp2_with fail
          refine region_later_tail W3.heap.size W3 9 (Below.refl _ _) (by kernel_rfl) (by kernel_rfl) ?_
          simp only [List.take_succ_cons, List.take_zero, List.drop_succ_cons, List.drop_zero]
          have u0 := later_cell (B := W3.heap.size) y0 hg3
          have u1 := later_cell (B := W3.heap.size) y1 hg3
          have u2 := later_cell (B := W3.heap.size) y2 hg3
          have u3 := later_cell (B := W3.heap.size) y3 hg3
          have u4 := later_cell (B := W3.heap.size) y4 hg3
          have v0 := later_cell (B := W3.heap.size) x0 hx3
          have v1 := later_cell (B := W3.heap.size) x1 hx3
          have v2 := later_cell (B := W3.heap.size) x2 hx3
          have v3 := later_cell (B := W3.heap.size) x3 hx3
          have v4 := later_cell (B := W3.heap.size) x4 hx3
          repeat (change wpQuiet _ _ _ _ (List.cons _ _) _; go_big_quiet_step (fail))
          refine wpQuiet_nil ?_
          first | (rintro _ ⟨X, rfl⟩) | (intro X)
          have hX := X.h
          clear u0 u1 u2 u3 u4 v0 v1 v2 v3 v4
          generalize X.x = W4 at *
          clear X
          obtain ⟨hP4, hF4⟩ := parts_later hP3 hX
          have hv4 : Boxed W4 lb 22 (.slice (some ⟨g, 0, none⟩) (l.length + 1) c) := (hX.block lb hv3.lt).trans hv3
          have hr4 := hr3.below hX (Nat.le_refl _)
          have hgo : (W4.heap[g]?).isSome := by rw [Array.getElem?_eq_getElem (Nat.lt_of_lt_of_le hg3 hX.size)]; rfl
          have c2 := cell_lt hX y2 hg3
          have hfz : W4.frozen? ⟨g, l.length * 5 + 2, none⟩ = false := by
            have h5 : W4.ownsRow n0 26 5 (.slice (some ⟨g, 0, none⟩) (l.length + 1) c) (l.length + 1) (encM (l ++ [y])) := hll.out ▸ hr4
            exact World.ownsRow.frozenAt h5 _
          obtain ⟨h1, h2⟩ := parts_put (x := x) hb hv4 hr4
          have hlg : (longer y x).sz = IntKind.u64.wrap (y.sz + x.sz) := rfl
          go_wp2_with fail
          have e := hadd.out
          refine bodyPost_ret (results_none rfl _ _ _) rfl ?_
          exact ⟨⟨_, rfl⟩, by rw [e]; exact h1, (hF1.trans (hF2.trans (hF3.trans hF4))).trans h2⟩
theorem parts_puts (n0 lb : Nat) : Puts (partsZ n0 lb) 37 #[.pointer (some ⟨lb, 0, none⟩)] := by
  refine ⟨enters_of Tryz.func37 (by kernel_rfl) rfl, fun x s W hI hn hl => ?_⟩
  show Calls Tryz.prog 37 #[.agg #[.int .u64 x.ipa, .int .u64 x.pa, .int .u64 x.sz, .int .i64 x.perm, .int .i64 x.kind], .pointer (some ⟨lb, 0, none⟩)] W fun e W' => (∃ v, e = .returned v) ∧ PartsI n0 lb (addM s x) W' ∧ Fr (OwnL lb) W W'
  rcases List.eq_nil_or_concat s with rfl | ⟨l, y, rfl⟩
  · exact parts_nil n0 lb x W hI hn
  · rw [List.concat_eq_append] at hI hl ⊢
    exact parts_snoc n0 lb l y x W hI hn (by rw [List.length_append] at hl; omega)
end Go.Proofs.YtnieomgopldlhaaGreatDoor
/-! All and Tables: what a sweep of a memory's tables comes to. -/
namespace Go.Proofs.YtnieomgopldlhaaGreatDoor
open Go Go.RowKit Go.Shelf Go.BigFrame

/-- 'D' is 3: a variable, lest it be reckoned. -/
def swAll (D : Nat) (rd : Int → Int × Int) (root : Int) : Sw (List M5) := sw rd addM D root 1024 1 0 ⟨[], false, []⟩
/-- What a walker is born with. -/
theorem walker_new (w : World) (p : Option Addr) (T E : TypeId) (hT : T ≠ E) : WkP w.heap.size w.heap.size (.pointer p) E T (w.alloc (.cells #[.pointer p, .slice none 0 0, .bool false] T)) [] false :=
  ⟨⟨_, World.alloc_heap_new _ _, World.ownsRow_nil _ _ _ _⟩, Nat.le_refl _, hT⟩
set_option maxRecDepth 100000 in
set_option maxHeartbeats 2000000 in
theorem all_any (D : Nat) (hD : D = 3) (p : Option Addr) (rd : Int → Int × Int) (w : World) (hrd : Reads (.pointer p) rd w.heap.size w) (hT : Tab3 w) (root : Int) (hr : W64 root) :
    Calls Tryz.prog 13 #[.pointer p, .int .u64 root] w fun e w' => Below w.heap.size w w' ∧ ∃ v, e = .returned (.tuple #[v, .int .i64 (if (swAll D rd root).long = true then 2 else 0)]) ∧ OwnM 26 w' w.heap.size v (if (swAll D rd root).long = true then [] else (swAll D rd root).st) := by
  replace hD := Lib.hid hD
  have hTb : 0 < w.heap.size := by have := hT.2.2.2; omega
  obtain ⟨s, hse⟩ : ∃ s, s = swAll D rd root := ⟨_, rfl⟩
  rw [← hse]
  obtain ⟨tabs, long, st⟩ := s
  replace hse := Lib.hid hse
  go_enter Tryz.func13, Tryz.ntmps13
  go_wp2_with fail
  obtain ⟨W1, hW1⟩ : ∃ W1, W1 = (w.alloc (.cells #[.pointer p, .slice none 0 0, .bool false] 108)) := ⟨_, rfl⟩
  have hk1 := walker_new w p 108 24 (by decide)
  have hz1 : W1.heap.size = w.heap.size + 1 := by rw [hW1]; simp
  have hb1 : Below w.heap.size w W1 := by rw [hW1]; exact bone _ _
  rw [← hW1] at hk1 ⊢
  clear hW1
  obtain ⟨W2, hW2⟩ : ∃ W2, W2 = (W1.alloc (.cells #[.slice none 0 0] 22)) := ⟨_, rfl⟩
  have hz2 : W2.heap.size = w.heap.size + 2 := by rw [hW2]; simp; omega
  have hb2 : Below W1.heap.size W1 W2 := by rw [hW2]; exact bone _ _
  have hx2 : Boxed W2 (w.heap.size + 1) 22 (.slice none 0 0) := by rw [hW2, ← hz1]; exact Boxed.new _ _ _
  obtain ⟨hk2, ho2⟩ := hk1.kept (W' := W2) (fun k ho => hb2.block k (hk1.own ho).2.1)
  rw [← hW2]
  clear hW2
  have hS : SwP (partsZ w.heap.size (w.heap.size + 1)) w.heap.size (.pointer p) 24 108 ⟨[], false, []⟩ W2 := by
    refine ⟨hk2, ⟨by omega, _, hx2, OwnM.nil _ _ _⟩, fun k ho hp => ?_, by omega⟩
    have h1 := (hk1.own ((ho2 k).1 ho)).2.1
    rcases hp with rfl | ⟨u, hu, hk⟩
    · omega
    · rw [hx2.cell] at hu; cases hu; cases hk
  have hsw := sweep_any (partsZ w.heap.size (w.heap.size + 1)) w.heap.size p rd w hrd hT hTb _ _ (parts_puts w.heap.size (w.heap.size + 1)) D root 1024 1 0 ⟨[], false, []⟩ W2 (by have := hD.out; omega) (by decide) (by decide) (by decide) hr (by decide) (by decide) hS (bthen hb1 hb2) ⟨by simp, by simp⟩
  rw [show sw rd addM D root 1024 1 0 ⟨[], false, []⟩ = swAll D rd root from rfl, ← hse.out] at hsw
  refine hsw.mono ?_; rintro e W3 ⟨⟨vr, rfl⟩, hS3, hF3⟩
  have hB3 := (bthen hb1 hb2).trans (hF3.below hS.base (fun k h => (hS.own h).1))
  obtain ⟨v3, hv3, _⟩ := hS3.wk.row
  obtain ⟨_, v4, hx3, hr3⟩ := hS3.put
  have c2 : W3.cell? ⟨w.heap.size, 2, none⟩ = some (.bool long) := by simp [World.cell?, hv3]
  have c7 := hx3.cell
  obtain ⟨a4, k4, rfl⟩ := rowSlice hr3
  clear hsw hS hx2 hk1 hk2 ho2 hv3 hF3 hS3 hb1 hb2
  cases long
  · go_wp2_with fail
    refine bodyPost_ret (v := .tuple #[.slice a4 st.length k4, .int .i64 0]) (by simp [results, Tryz.results13, go_sem]) rfl ?_
    exact ⟨hB3, _, rfl, hr3⟩
  · go_wp2_with fail
    refine bodyPost_ret (v := .tuple #[.slice none 0 0, .int .i64 2]) (by simp [results, Tryz.results13, go_sem]) rfl ?_
    exact ⟨hB3, _, rfl, OwnM.nil _ _ _⟩
end Go.Proofs.YtnieomgopldlhaaGreatDoor
