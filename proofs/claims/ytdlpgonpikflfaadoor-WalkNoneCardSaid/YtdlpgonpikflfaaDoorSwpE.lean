/- What a sweep puts: parts, joined where they go on; or nothing. -/
import Derived.Test.YtdlpgonpikflfaaDoorSwpD
namespace Go.Proofs.YtdlpgonpikflfaaDoor
open Go Go.RowKit Go.Shelf Go.BigFrame

def goesOn (y x : M5) : Bool := (IntKind.u64.wrap (y.ipa + y.sz) == x.ipa) && ((IntKind.u64.wrap (y.pa + y.sz) == x.pa) && ((y.perm == x.perm) && (y.kind == x.kind)))
def longer (y x : M5) : M5 := { y with sz := IntKind.u64.wrap (y.sz + x.sz), hs := by rw [IntKind.wrap_u64]; unfold W64; omega }
/-- A part among parts: put to the last one, if it goes on. -/
def addM (l : List M5) (x : M5) : List M5 :=
  match l.getLast? with
  | some y => if goesOn y x = true then l.dropLast ++ [longer y x] else l ++ [x]
  | none => [x]
theorem addM_nil (x : M5) : addM [] x = [x] := rfl
theorem addM_snoc (l : List M5) (y x : M5) : addM (l ++ [y]) x = if goesOn y x = true then l ++ [longer y x] else l ++ [y] ++ [x] := by
  unfold addM
  rw [List.getLast?_concat, List.dropLast_concat]
theorem addM_len (l : List M5) (x : M5) : (addM l x).length ≤ l.length + 1 := by
  rcases List.eq_nil_or_concat l with rfl | ⟨l, y, rfl⟩
  · exact Nat.le_refl _
  · rw [List.concat_eq_append, addM_snoc]
    split <;> simp

def OwnL (lb : Nat) (W : World) (k : Nat) : Prop := k = lb ∨ rowAt ⟨lb, 0, none⟩ W k
/-- The parts in a captured variable. -/
def PartsI (n0 lb : Nat) (l : List M5) (W : World) : Prop := n0 ≤ lb ∧ ∃ v, Boxed W lb 37 v ∧ OwnM 42 W n0 v l
theorem PartsI.own {n0 lb : Nat} {l : List M5} {W : World} (h : PartsI n0 lb l W) {k : Nat} (ho : OwnL lb W k) : n0 ≤ k ∧ k < W.heap.size ∧ ∃ o : Obj, W.heap[k]? = some o ∧ o.isCells = true := by
  obtain ⟨hb, v, hv, hr⟩ := h
  rcases ho with rfl | ⟨u, hu, hk⟩
  · exact ⟨hb, hv.lt, _, hv, rfl⟩
  · have : u = v := by
      have e := hv.cell
      rw [hu] at e; injection e
    subst this
    have hl := World.ownsRow.lt hr k hk
    refine ⟨hl.1, hl.2, ?_⟩
    obtain ⟨_, ⟨rfl, _⟩ | ⟨g, cap, cur, rfl, _, hg, _⟩⟩ := hr
    · simp [Value.ownBlock] at hk
    · simp [Value.ownBlock] at hk
      subst hk
      exact ⟨_, hg, rfl⟩
theorem PartsI.kept {n0 lb : Nat} {l : List M5} {W W' : World} (h : PartsI n0 lb l W) (_ : W.heap.size ≤ W'.heap.size) (hk : ∀ k, OwnL lb W k → W'.heap[k]? = W.heap[k]?) : PartsI n0 lb l W' ∧ ∀ k, OwnL lb W' k ↔ OwnL lb W k := by
  obtain ⟨hb, v, hv, hr⟩ := h
  have hw := hk lb (.inl rfl)
  refine ⟨⟨hb, v, hw.trans hv, ?_⟩, fun k => ?_⟩
  · obtain ⟨hlen, hc⟩ := hr
    refine ⟨hlen, ?_⟩
    rcases hc with hc | ⟨g, cap, cur, rfl, hbg, hg, hrest⟩
    · exact .inl hc
    · exact .inr ⟨g, cap, cur, rfl, hbg, (hk g (.inr ⟨_, hv.cell, rfl⟩)).trans hg, hrest⟩
  · have e : W'.cell? ⟨lb, 0, none⟩ = W.cell? ⟨lb, 0, none⟩ := World.cell?_of_block hw
    unfold OwnL rowAt
    rw [e]
def partsZ (n0 lb : Nat) : PutsP n0 (List M5) List.length addM := ⟨PartsI n0 lb, OwnL lb, fun h _ ho => h.own ho, fun h h1 h2 => h.kept h1 h2, addM_len⟩
def noneZ (n0 : Nat) : PutsP n0 Unit (fun _ => 0) (fun s _ => s) := ⟨fun _ _ => True, fun _ _ => False, fun _ _ h => h.elim, fun _ _ _ => ⟨trivial, fun _ => Iff.rfl⟩, fun _ _ => Nat.zero_le _⟩
end Go.Proofs.YtdlpgonpikflfaaDoor
