/- Memory as the program keeps it: a map of pages; what an access asks; a new memory; a word of it. -/
import Derived.Test.YtdlpgonpikflfaaDoorMemW
import Derived.Test.YtdlpgonpikflfaaDoorMapK
import Derived.Test.YtdlpgonpikflfaaDoorSpanD
import Derived.Test.YtdlpgonpikflfaaDoorQuietB
namespace Go.Proofs.YtdlpgonpikflfaaDoor
open Go Go.RowKit Go.BigFrame Go.Maps

/-- A page: its number, its bytes, the block that holds them. -/
structure Pg where
  n : Int
  bs : List Int
  blk : Nat
def Pg.ab (p : Pg) : Int × List Int := (p.n, p.bs)
def bytesV (l : List Int) : Array Value := (l.map fun x => Value.int .u8 x).toArray
def Pg.kv (p : Pg) : Value × Value := (.int .u64 p.n, .slice (some ⟨p.blk, 0, none⟩) 4096 4096)

/-- Memory in 'W': its variable in block 'mb', its map in block 'pb'. -/
structure MemP (W : World) (mb pb : Nat) (s z : Int) (L : List Pg) : Prop where
  hd : W.heap[mb]? = some (.cells #[.int .u64 s, .int .u64 z, .map (some pb)] 89 (0, 0))
  mp : MapKV W pb (L.map Pg.kv)
  page : ∀ p ∈ L, W.heap[p.blk]? = some (.cells (bytesV p.bs) 5 (0, 0))
  blks : (L.map Pg.blk).Nodup
  ok : PgOk (L.map Pg.ab)
  ws : W64 s
  wz : W64 z
/-- Its blocks. -/
def memBlks (mb pb : Nat) (L : List Pg) : List Nat := mb :: pb :: L.map Pg.blk

/-- All blocks from 'B' on but these lie as they lay, all below 'B' too. -/
structure OffL (B : Nat) (Bs : List Nat) (X Y : World) : Prop where
  below : Below B X Y
  rest : ∀ k, k < X.heap.size → k ∉ Bs → Y.heap[k]? = X.heap[k]?
theorem OffL.refl (B : Nat) (Bs : List Nat) (X : World) : OffL B Bs X X := ⟨Below.refl _ _, fun _ _ _ => rfl⟩
theorem OffL.of_below {B : Nat} {Bs : List Nat} {X Y : World} (h : Below X.heap.size X Y) (hB : B ≤ X.heap.size) : OffL B Bs X Y := ⟨h.mono hB, fun i h1 _ => h.block i h1⟩
/-- One after the other; what is written behind may be new. -/
theorem OffL.trans {B : Nat} {Bs Cs : List Nat} {X Y Z : World} (h : OffL B Bs X Y) (k : OffL B Cs Y Z) (hc : ∀ b ∈ Cs, b ∈ Bs ∨ X.heap.size ≤ b) : OffL B Bs X Z :=
  ⟨h.below.trans k.below, fun i h1 h2 => (k.rest i (Nat.lt_of_lt_of_le h1 h.below.size) (fun e => by rcases hc i e with e | e; exact h2 e; omega)).trans (h.rest i h1 h2)⟩
theorem OffL.mono {B : Nat} {Bs Cs : List Nat} {X Y : World} (h : OffL B Bs X Y) (hc : ∀ b ∈ Bs, b ∈ Cs) : OffL B Cs X Y := ⟨h.below, fun i h1 h2 => h.rest i h1 fun e => h2 (hc i e)⟩

theorem MemP.lt {W : World} {mb pb : Nat} {s z : Int} {L : List Pg} (h : MemP W mb pb s z L) : ∀ b ∈ memBlks mb pb L, b < W.heap.size := by
  intro b hb
  unfold memBlks at hb
  rcases List.mem_cons.1 hb with rfl | hb
  · exact (Array.getElem?_eq_some_iff.1 h.hd).1
  · rcases List.mem_cons.1 hb with rfl | hb
    · exact h.mp.lt
    · obtain ⟨p, hp, rfl⟩ := List.mem_map.1 hb
      exact (Array.getElem?_eq_some_iff.1 (h.page p hp)).1
theorem MemP.same {W W' : World} {mb pb : Nat} {s z : Int} {L : List Pg} (h : MemP W mb pb s z L) (hs : ∀ b ∈ memBlks mb pb L, W'.heap[b]? = W.heap[b]?) : MemP W' mb pb s z L :=
  ⟨(hs mb (by simp [memBlks])).trans h.hd, h.mp.same (hs pb (by simp [memBlks])), fun p hp => (hs p.blk (by simp only [memBlks, List.mem_cons]; exact .inr (.inr (List.mem_map.2 ⟨p, hp, rfl⟩)))).trans (h.page p hp), h.blks, h.ok, h.ws, h.wz⟩
theorem MemP.below {W W' : World} {mb pb B : Nat} {s z : Int} {L : List Pg} (h : MemP W mb pb s z L) (hb : Below B W W') (hB : W.heap.size ≤ B) : MemP W' mb pb s z L :=
  h.same fun b hm => hb.block b (Nat.lt_of_lt_of_le (h.lt b hm) hB)
theorem MemP.off {W W' : World} {mb pb B : Nat} {s z : Int} {L : List Pg} {Bs : List Nat} (h : MemP W mb pb s z L) (ho : OffL B Bs W W') (hd : ∀ b ∈ memBlks mb pb L, b ∉ Bs) : MemP W' mb pb s z L :=
  h.same fun b hm => ho.rest b (h.lt b hm) (hd b hm)
theorem MemP.cells {W : World} {mb pb : Nat} {s z : Int} {L : List Pg} (h : MemP W mb pb s z L) : W.cell? ⟨mb, 0, none⟩ = some (.int .u64 s) ∧ W.cell? ⟨mb, 1, none⟩ = some (.int .u64 z) ∧ W.cell? ⟨mb, 2, none⟩ = some (.map (some pb)) := by
  refine ⟨?_, ?_, ?_⟩ <;> simp [World.cell?, h.hd]

/-- The error of an access. -/
def askV (s z a n : Int) : Int := if 1048576 < n then 2 else if 0 < n ∧ withinB a n s z = false then 90 else 0
theorem keyed64 : Keyed Tryd.prog 23 := int_keyed Tryd.underlying23
theorem wf_64 {n : Int} (h : W64 n) : (Lit.int .u64 n).wf = true := by
  have h1 : IntKind.u64.min = 0 := rfl
  have h2 : IntKind.u64.max = 18446744073709551615 := rfl
  unfold W64 at h
  simp [Lit.wf, h1, h2]; omega
theorem key64 {n : Int} (h : W64 n) : keyOf Tryd.prog 23 (.int .u64 n) = some (.int .u64 n) := keyOf_int_mk Tryd.underlying23 (wf_64 h)
theorem keys64 {L : List Pg} (h : PgOk (L.map Pg.ab)) : ∀ x ∈ L.map Pg.kv, ∃ l, keyOf Tryd.prog 23 x.1 = some l := by
  intro x hx
  obtain ⟨p, hp, rfl⟩ := List.mem_map.1 hx
  have := h.num p.ab (List.mem_map.2 ⟨p, hp, rfl⟩)
  exact ⟨_, key64 ⟨this.1, by have := this.2; show p.n < _; have e : p.ab.1 = p.n := rfl; omega⟩⟩
theorem zeroBytes (w : World) : (zeroValue 90).run Tryd.prog w = .ok (.slice none 0 0) w := by kernel_rfl
theorem mapPg : ∃ k e, Tryd.prog.underlying 87 = some (.map k e) ∧ k = 23 ∧ e = 90 := ⟨_, _, by kernel_rfl, rfl, rfl⟩
theorem pgFind_of {L : List Pg} {n : Int} : pgFind (L.map Pg.ab) n = (L.find? fun p => decide (p.n = n)).map (·.bs) := by
  unfold pgFind
  rw [List.find?_map]
  cases h : L.find? ((fun p => decide (p.1 = n)) ∘ Pg.ab) with
  | none => have : L.find? (fun p => decide (p.n = n)) = none := h; rw [this]; rfl
  | some p => have : L.find? (fun p => decide (p.n = n)) = some p := h; rw [this]; rfl
/-- A page is looked up. -/
theorem pg_lookup {W : World} {mb pb : Nat} {s z : Int} {L : List Pg} (h : MemP W mb pb s z L) (n : Int) (hn : W64 n) :
    ((∀ p ∈ L, p.n ≠ n) ∧ (Instr.lookup 87 (.map (some pb)) (.int .u64 n) false).run Tryd.prog W = .ok (.slice none 0 0) W) ∨
    (∃ p ∈ L, p.n = n ∧ (Instr.lookup 87 (.map (some pb)) (.int .u64 n) false).run Tryd.prog W = .ok (.slice (some ⟨p.blk, 0, none⟩) 4096 4096) W) := by
  obtain ⟨k, e, ht, rfl, rfl⟩ := mapPg
  rcases kv_lookup keyed64 ht zeroBytes h.mp (keys64 h.ok) (key64 hn) with ⟨h1, h2⟩ | ⟨j, v, h1, h2⟩
  · refine .inl ⟨fun p hp e => ?_, h2⟩
    exact h1 p.kv (List.mem_map.2 ⟨p, hp, rfl⟩) (by unfold Pg.kv; rw [e])
  · rw [List.getElem?_map] at h1
    obtain ⟨p, hp, hk⟩ := Option.map_eq_some_iff.1 h1
    unfold Pg.kv at hk
    simp only [Prod.mk.injEq, Value.int.injEq, true_and] at hk
    exact .inr ⟨p, List.mem_of_getElem? hp, hk.1, by rw [h2, ← hk.2]⟩
theorem pg_find_some {L : List Pg} (h : PgOk (L.map Pg.ab)) {p : Pg} (hp : p ∈ L) : pgFind (L.map Pg.ab) p.n = some p.bs := by
  cases hf : pgFind (L.map Pg.ab) p.n with
  | none => exact absurd (List.mem_map.2 ⟨p.ab, List.mem_map.2 ⟨p, hp, rfl⟩, rfl⟩) (pgFind_none.1 hf)
  | some bs =>
    have hm := pgFind_mem hf
    obtain ⟨q, hq, e⟩ := List.mem_map.1 hm
    have hnd := h.nodup
    have hmem : p.ab ∈ L.map Pg.ab := List.mem_map.2 ⟨p, hp, rfl⟩
    have : p.ab = (p.n, bs) := by
      have key : ∀ (l : PG), (l.map (·.1)).Nodup → ∀ a ∈ l, ∀ b ∈ l, a.1 = b.1 → a = b := by
        intro l
        induction l with
        | nil => intro _ a ha; cases ha
        | cons c l ih =>
          intro hnd a ha b hb hab
          rw [List.map_cons, List.nodup_cons] at hnd
          rcases List.mem_cons.1 ha with ea | ha' <;> rcases List.mem_cons.1 hb with eb | hb'
          · rw [ea, eb]
          · exact absurd (show c.1 ∈ l.map (·.1) from List.mem_map.2 ⟨b, hb', by rw [← hab, ea]⟩) hnd.1
          · exact absurd (show c.1 ∈ l.map (·.1) from List.mem_map.2 ⟨a, ha', by rw [hab, eb]⟩) hnd.1
          · exact ih hnd.2 a ha' b hb' hab
      exact key _ hnd _ hmem _ hm rfl
    unfold Pg.ab at this
    simp only [Prod.mk.injEq] at this
    rw [this.2]
theorem pg_find_none {L : List Pg} {n : Int} (h : ∀ p ∈ L, p.n ≠ n) : pgFind (L.map Pg.ab) n = none := by
  rw [pgFind_none]
  intro hm
  obtain ⟨q, hq, e⟩ := List.mem_map.1 hm
  obtain ⟨p, hp, rfl⟩ := List.mem_map.1 hq
  exact h p hp e

set_option maxRecDepth 20000 in
set_option maxHeartbeats 1000000 in
theorem ask_any (mb pb : Nat) (s z a n : Int) (L : List Pg) (w : World) (hm : MemP w mb pb s z L) (ha : W64 a) (hn : W64 n) :
    Calls Tryd.prog 41 #[.pointer (some ⟨mb, 0, none⟩), .int .u64 a, .int .u64 n] w fun e w' => e = .returned (.int .i64 (askV s z a n)) ∧ Below w.heap.size w w' := by
  obtain ⟨c0, c1, c2⟩ := hm.cells
  have hw := within_any a n s z w ha hn hm.ws hm.wz
  have hn0 := hn.1
  clear hm
  obtain ⟨kt, et, hmt, _, _⟩ := mapPg
  have heq := fun (W : World) (r : Option Nat) => run_eql_map_nil (P := Tryd.prog) W _ kt et r hmt
  clear hmt
  by_cases h1 : 1048576 < n
  · have hr : askV s z a n = 2 := by unfold askV; rw [if_pos h1]
    rw [hr]
    clear hr
    go_enter Tryd.func41, Tryd.ntmps41
    go_wp2_with fail
    go_ret
    exact ⟨rfl, Below.refl _ _⟩
  · by_cases h2 : 0 < n
    · cases hb : withinB a n s z
      · have hr : askV s z a n = 90 := by unfold askV; rw [if_neg h1, if_pos ⟨h2, hb⟩]
        rw [hb] at hw
        rw [hr]
        clear hr hb
        go_enter Tryd.func41, Tryd.ntmps41
        go_wp2_with fail
        refine hw.mono ?_; rintro e w1 ⟨rfl, hb1⟩
        go_wp2_with fail
        go_ret
        exact ⟨rfl, hb1⟩
      · have hr : askV s z a n = 0 := by unfold askV; rw [if_neg h1, if_neg (fun e => by rw [hb] at e; cases e.2)]
        rw [hb] at hw
        rw [hr]
        clear hr hb
        go_enter Tryd.func41, Tryd.ntmps41
        go_wp2_with fail
        refine hw.mono ?_; rintro e w1 ⟨rfl, hb1⟩
        go_wp2_with fail
        go_ret
        exact ⟨rfl, hb1⟩
    · have hr : askV s z a n = 0 := by unfold askV; rw [if_neg h1, if_neg (fun e => h2 e.1)]
      rw [hr]
      clear hr
      go_enter Tryd.func41, Tryd.ntmps41
      go_wp2_with fail
      go_ret
      exact ⟨rfl, Below.refl _ _⟩
end Go.Proofs.YtdlpgonpikflfaaDoor
