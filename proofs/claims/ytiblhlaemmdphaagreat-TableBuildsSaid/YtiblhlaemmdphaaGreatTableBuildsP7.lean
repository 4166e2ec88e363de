/- MemX: MemB, MemC, MemD, MemE, MemF, as one text. -/
import Derived.Lib.SliceRun
import Derived.Laws.CopyRow
import Derived.Test.YtiblhlaemmdphaaGreatTableBuildsP3
import Derived.Test.YtiblhlaemmdphaaGreatTableBuildsP4
import Derived.Test.YtiblhlaemmdphaaGreatTableBuildsP5
import Derived.Test.YtiblhlaemmdphaaGreatTableBuildsP6
/-! Memory as the program keeps it: a map of pages; what an access asks; a new memory; a word of it. -/
namespace Go.Proofs.YtiblhlaemmdphaaGreat
open Go Go.RowKit Go.BigFrame Go.Maps
structure Pg where
 n : Int
 bs : List Int
 blk : Nat
def Pg.ab (p : Pg) : Int × List Int := (p.n, p.bs)
def bytesV (l : List Int) : Array Value := (l.map fun x => Value.int .u8 x).toArray
def Pg.kv (p : Pg) : Value × Value := (.int .u64 p.n, .slice (some ⟨p.blk, 0, none⟩) 4096 4096)
structure MemP (W : World) (mb pb : Nat) (s z : Int) (L : List Pg) : Prop where
 hd : W.heap[mb]? = some (.cells #[.int .u64 s, .int .u64 z, .map (some pb)] 67 (0, 0))
 mp : MapKV W pb (L.map Pg.kv)
 page : ∀ p ∈ L, W.heap[p.blk]? = some (.cells (bytesV p.bs) 5 (0, 0))
 blks : (L.map Pg.blk).Nodup
 ok : PgOk (L.map Pg.ab)
 ws : W64 s
 wz : W64 z
def memBlks (mb pb : Nat) (L : List Pg) : List Nat := mb :: pb :: L.map Pg.blk
structure OffL (B : Nat) (Bs : List Nat) (X Y : World) : Prop where
 below : Below B X Y
 rest : ∀ k, k < X.heap.size → k ∉ Bs → Y.heap[k]? = X.heap[k]?
theorem OffL.refl (B : Nat) (Bs : List Nat) (X : World) : OffL B Bs X X := ⟨Below.refl _ _, fun _ _ _ => rfl⟩
theorem OffL.of_below {B : Nat} {Bs : List Nat} {X Y : World} (h : Below X.heap.size X Y) (hB : B ≤ X.heap.size) : OffL B Bs X Y := ⟨h.mono hB, fun i h1 _ => h.block i h1⟩
theorem OffL.trans {B : Nat} {Bs Cs : List Nat} {X Y Z : World} (h : OffL B Bs X Y) (k : OffL B Cs Y Z) (hc : ∀ b ∈ Cs, b ∈ Bs ∨ X.heap.size ≤ b) : OffL B Bs X Z :=
 ⟨h.below.trans k.below, fun i h1 h2 => (k.rest i (Nat.lt_of_lt_of_le h1 h.below.size) (fun e => by rcases hc i e with e | e; exact h2 e; omega)).trans (h.rest i h1 h2)⟩
theorem OffL.mono {B : Nat} {Bs Cs : List Nat} {X Y : World} (h : OffL B Bs X Y) (hc : ∀ b ∈ Bs, b ∈ Cs) : OffL B Cs X Y := ⟨h.below, fun i h1 h2 => h.rest i h1 fun e => h2 (hc i e)⟩
theorem MemP.lt {W : World} {mb pb : Nat} {s z : Int} {L : List Pg} (h : MemP W mb pb s z L) : ∀ b ∈ memBlks mb pb L, b < W.heap.size := by
 intro b hb
 unfold memBlks at hb
 rcases List.mem_cons.1 hb with rfl | hb
 ·exact (Array.getElem?_eq_some_iff.1 h.hd).1
 ·rcases List.mem_cons.1 hb with rfl | hb
  ·exact h.mp.lt
  ·obtain ⟨p, hp, rfl⟩ := List.mem_map.1 hb
   exact (Array.getElem?_eq_some_iff.1 (h.page p hp)).1
theorem MemP.same {W W' : World} {mb pb : Nat} {s z : Int} {L : List Pg} (h : MemP W mb pb s z L) (hs : ∀ b ∈ memBlks mb pb L, W'.heap[b]? = W.heap[b]?) : MemP W' mb pb s z L :=
 ⟨(hs mb (by simp [memBlks])).trans h.hd, h.mp.same (hs pb (by simp [memBlks])), fun p hp => (hs p.blk (by simp only [memBlks, List.mem_cons]; exact .inr (.inr (List.mem_map.2 ⟨p, hp, rfl⟩)))).trans (h.page p hp), h.blks, h.ok, h.ws, h.wz⟩
theorem MemP.below {W W' : World} {mb pb B : Nat} {s z : Int} {L : List Pg} (h : MemP W mb pb s z L) (hb : Below B W W') (hB : W.heap.size ≤ B) : MemP W' mb pb s z L :=
 h.same fun b hm => hb.block b (Nat.lt_of_lt_of_le (h.lt b hm) hB)
theorem MemP.off {W W' : World} {mb pb B : Nat} {s z : Int} {L : List Pg} {Bs : List Nat} (h : MemP W mb pb s z L) (ho : OffL B Bs W W') (hd : ∀ b ∈ memBlks mb pb L, b ∉ Bs) : MemP W' mb pb s z L :=
 h.same fun b hm => ho.rest b (h.lt b hm) (hd b hm)
theorem MemP.cells {W : World} {mb pb : Nat} {s z : Int} {L : List Pg} (h : MemP W mb pb s z L) : W.cell? ⟨mb, 0, none⟩ = some (.int .u64 s) ∧ W.cell? ⟨mb, 1, none⟩ = some (.int .u64 z) ∧ W.cell? ⟨mb, 2, none⟩ = some (.map (some pb)) := by
 refine ⟨?_, ?_, ?_⟩ <;> simp [World.cell?, h.hd]
def askV (s z a n : Int) : Int := if 1048576 < n then 2 else if 0 < n ∧ withinB a n s z = false then 90 else 0
theorem keyed64 : Keyed Tryz.prog 26 := int_keyed Tryz.underlying26
theorem wf_64 {n : Int} (h : W64 n) : (Lit.int .u64 n).wf = true := by
 have h1 : IntKind.u64.min = 0 := rfl
 have h2 : IntKind.u64.max = 18446744073709551615 := rfl
 unfold W64 at h
 simp [Lit.wf, h1, h2]; omega
theorem key64 {n : Int} (h : W64 n) : keyOf Tryz.prog 26 (.int .u64 n) = some (.int .u64 n) := keyOf_int_mk Tryz.underlying26 (wf_64 h)
theorem keys64 {L : List Pg} (h : PgOk (L.map Pg.ab)) : ∀ x ∈ L.map Pg.kv, ∃ l, keyOf Tryz.prog 26 x.1 = some l := by
 intro x hx
 obtain ⟨p, hp, rfl⟩ := List.mem_map.1 hx
 have := h.num p.ab (List.mem_map.2 ⟨p, hp, rfl⟩)
 exact ⟨_, key64 ⟨this.1, by have := this.2; show p.n < _; have e : p.ab.1 = p.n := rfl; omega⟩⟩
theorem zeroBytes (w : World) : (zeroValue 31).run Tryz.prog w = .ok (.slice none 0 0) w := by kernel_rfl
theorem mapPg : ∃ k e, Tryz.prog.underlying 65 = some (.map k e) ∧ k = 26 ∧ e = 31 := ⟨_, _, by kernel_rfl, rfl, rfl⟩
theorem pg_lookup {W : World} {mb pb : Nat} {s z : Int} {L : List Pg} (h : MemP W mb pb s z L) (n : Int) (hn : W64 n) :
  ((∀ p ∈ L, p.n ≠ n) ∧ (Instr.lookup 65 (.map (some pb)) (.int .u64 n) false).run Tryz.prog W = .ok (.slice none 0 0) W) ∨
  (∃ p ∈ L, p.n = n ∧ (Instr.lookup 65 (.map (some pb)) (.int .u64 n) false).run Tryz.prog W = .ok (.slice (some ⟨p.blk, 0, none⟩) 4096 4096) W) := by
 obtain ⟨k, e, ht, rfl, rfl⟩ := mapPg
 rcases kv_lookup keyed64 ht zeroBytes h.mp (keys64 h.ok) (key64 hn) with ⟨h1, h2⟩ | ⟨j, v, h1, h2⟩
 ·refine .inl ⟨fun p hp e => ?_, h2⟩
  exact h1 p.kv (List.mem_map.2 ⟨p, hp, rfl⟩) (by unfold Pg.kv; rw [e])
 ·rw [List.getElem?_map] at h1
  obtain ⟨p, hp, hk⟩ := Option.map_eq_some_iff.1 h1
  unfold Pg.kv at hk
  simp only [Prod.mk.injEq, Value.int.injEq, true_and] at hk
  exact .inr ⟨p, List.mem_of_getElem? hp, hk.1, by rw [h2, ← hk.2]⟩
theorem pg_find_some {L : List Pg} (h : PgOk (L.map Pg.ab)) {p : Pg} (hp : p ∈ L) : pgFind (L.map Pg.ab) p.n = some p.bs := by
 cases hf : pgFind (L.map Pg.ab) p.n with
 | none => exact absurd (List.mem_map.2 ⟨p.ab, List.mem_map.2 ⟨p, hp, rfl⟩, rfl⟩) (pgFind_none.1 hf)
 | some bs =>
  have hm := pgFind_mem hf
  obtain ⟨q, hq, e⟩ := List.mem_map.1 hm
  have hnd := h.nodup
  have hmem : p.ab ∈ L.map Pg.ab := List.mem_map.2 ⟨p, hp, rfl⟩
  have : p.ab = (p.n, bs) := by
   have key : ∀ (l : PG), (l.map (·.1)).Nodup → ∀ a ∈ l, ∀ b ∈ l, a.1 = b.1 → a = b := by
    intro l
    induction l with
    | nil => intro _ a ha; cases ha
    | cons c l ih =>
     intro hnd a ha b hb hab
     rw [List.map_cons, List.nodup_cons] at hnd
     rcases List.mem_cons.1 ha with ea | ha' <;> rcases List.mem_cons.1 hb with eb | hb'
     ·rw [ea, eb]
     ·exact absurd (show c.1 ∈ l.map (·.1) from List.mem_map.2 ⟨b, hb', by rw [← hab, ea]⟩) hnd.1
     ·exact absurd (show c.1 ∈ l.map (·.1) from List.mem_map.2 ⟨a, ha', by rw [hab, eb]⟩) hnd.1
     ·exact ih hnd.2 a ha' b hb' hab
   exact key _ hnd _ hmem _ hm rfl
  unfold Pg.ab at this
  simp only [Prod.mk.injEq] at this
  rw [this.2]
theorem pg_find_none {L : List Pg} {n : Int} (h : ∀ p ∈ L, p.n ≠ n) : pgFind (L.map Pg.ab) n = none := by
 rw [pgFind_none]
 intro hm
 obtain ⟨q, hq, e⟩ := List.mem_map.1 hm
 obtain ⟨p, hp, rfl⟩ := List.mem_map.1 hq
 exact h p hp e
set_option maxRecDepth 20000 in
set_option maxHeartbeats 1000000 in
theorem ask_any (mb pb : Nat) (s z a n : Int) (L : List Pg) (w : World) (hm : MemP w mb pb s z L) (ha : W64 a) (hn : W64 n) :
  Calls Tryz.prog 33 #[.pointer (some ⟨mb, 0, none⟩), .int .u64 a, .int .u64 n] w fun e w' => e = .returned (.int .i64 (askV s z a n)) ∧ Below w.heap.size w w' := by
 obtain ⟨c0, c1, c2⟩ := hm.cells
 have hw := within_any a n s z w ha hn hm.ws hm.wz
 have hn0 := hn.1
 clear hm
 obtain ⟨kt, et, hmt, _, _⟩ := mapPg
 have heq := fun (W : World) (r : Option Nat) => run_eql_map_nil (P := Tryz.prog) W _ kt et r hmt
 clear hmt
 by_cases h1 : 1048576 < n
 ·have hr : askV s z a n = 2 := by unfold askV; rw [if_pos h1]
  rw [hr]
  clear hr
  go_enter Tryz.func33, Tryz.ntmps33
  go_wp2_with fail
  go_ret
  exact ⟨rfl, Below.refl _ _⟩
 ·by_cases h2 : 0 < n
  ·cases hb : withinB a n s z
   ·have hr : askV s z a n = 90 := by unfold askV; rw [if_neg h1, if_pos ⟨h2, hb⟩]
    rw [hb] at hw
    rw [hr]
    clear hr hb
    go_enter Tryz.func33, Tryz.ntmps33
    go_wp2_with fail
    refine hw.mono ?_; rintro e w1 ⟨rfl, hb1⟩
    go_wp2_with fail
    go_ret
    exact ⟨rfl, hb1⟩
   ·have hr : askV s z a n = 0 := by unfold askV; rw [if_neg h1, if_neg (fun e => by rw [hb] at e; cases e.2)]
    rw [hb] at hw
    rw [hr]
    clear hr hb
    go_enter Tryz.func33, Tryz.ntmps33
    go_wp2_with fail
    refine hw.mono ?_; rintro e w1 ⟨rfl, hb1⟩
    go_wp2_with fail
    go_ret
    exact ⟨rfl, hb1⟩
  ·have hr : askV s z a n = 0 := by unfold askV; rw [if_neg h1, if_neg (fun e => h2 e.1)]
   rw [hr]
   clear hr
   go_enter Tryz.func33, Tryz.ntmps33
   go_wp2_with fail
   go_ret
   exact ⟨rfl, Below.refl _ _⟩
end Go.Proofs.YtiblhlaemmdphaaGreat
/-! A word of the program's memory; a new memory. -/
namespace Go.Proofs.YtiblhlaemmdphaaGreat
open Go Go.RowKit Go.BigFrame Go.Maps
theorem page_row {W : World} {mb pb : Nat} {s z : Int} {L : List Pg} (h : MemP W mb pb s z L) {p : Pg} (hp : p ∈ L) : RowB W (.slice (some ⟨p.blk, 0, none⟩) 4096 4096) p.bs ∧ p.bs.length = 4096 ∧ ∀ c ∈ p.bs, 0 ≤ c ∧ c < 256 := by
 have hl : p.bs.length = 4096 := h.ok.len p.ab (List.mem_map.2 ⟨p, hp, rfl⟩)
 have hg := h.page p hp
 refine ⟨⟨some ⟨p.blk, 0, none⟩, 4096, by rw [hl], by omega, by unfold maxLen; omega, fun _ => ⟨p.blk, 0, rfl, (Array.getElem?_eq_some_iff.1 hg).1, fun i hi => ?_⟩⟩, hl, h.ok.byte p.ab (List.mem_map.2 ⟨p, hp, rfl⟩)⟩
 simp only [World.cell?, hg, Nat.zero_add, bytesV]
 simp [hi]
def wordBad (s z a : Int) : Bool := decide (a % 8 ≠ 0) || decide (askV s z a 8 ≠ 0)
def wordV (s z : Int) (pg : PG) (a : Int) : Int × Int := if wordBad s z a = true then (0, 90) else (wordAt pg a, 0)
theorem rowOne (W : World) (x : Two) : RowTwo (W.alloc (.cells #[.int .u64 x.a, .int .u64 x.b] 28)) (.slice (some ⟨W.heap.size, 0, none⟩) 1 1) [x] := by
 refine ⟨_, _, rfl, Nat.le_refl _, fun _ => ⟨_, _, rfl, by simp, fun i hi => ?_⟩⟩
 obtain rfl : i = 0 := by simp at hi; exact hi
 simp [World.cell?_alloc_new]
theorem two_new (W : World) (a b : Value) (t : TypeId) : (W.alloc (.cells #[a, b] t)).cell? ⟨W.heap.size, 0, none⟩ = some a ∧ (W.alloc (.cells #[a, b] t)).cell? ⟨W.heap.size, 1, none⟩ = some b := by
 constructor <;> simp [World.cell?_alloc_new]
set_option maxRecDepth 20000 in
set_option maxHeartbeats 1000000 in
theorem newMem_any (x : Two) (w : World) (h1 : pageBad x = false) (h2 : lastV x.a x.b < 1099511627776) :
  Calls Tryz.prog 9 #[.agg #[.int .u64 x.a, .int .u64 x.b], .slice none 0 0] w fun e w' =>
   ∃ mb pb, e = .returned (.tuple #[.pointer (some ⟨mb, 0, none⟩), .int .i64 0]) ∧ MemP w' mb pb x.a x.b [] ∧ Below w.heap.size w w' ∧ w.heap.size ≤ mb ∧ w.heap.size ≤ pb := by
 have hp := fun (W : World) => pages_any (.slice (some ⟨W.heap.size, 0, none⟩) 1 1) [x] (W.alloc (.cells #[.int .u64 x.a, .int .u64 x.b] 28)) (rowOne W x) (by simp)
 have hl := fun W => last_any x.a x.b W x.ha x.hb
 have e1 : ([x] : List Two).any pageBad = false := by simp [h1]
 rw [e1] at hp
 generalize lastV x.a x.b = lv at *
 have hmm := @run_makeMap Tryz.prog
 obtain ⟨m0, m1⟩ := two_new w (.int .u64 x.a) (.int .u64 x.b) 28
 have hb0 := bone w (.cells #[.int .u64 x.a, .int .u64 x.b] 28)
 have hz0 : w.heap.size < (w.alloc (.cells #[.int .u64 x.a, .int .u64 x.b] 28)).heap.size := by simp
 clear e1 h1
 go_enter Tryz.func9, Tryz.ntmps9
 have hzz : (w.alloc (.cells #[.int .u64 x.a, .int .u64 x.b] 28)).heap.size = w.heap.size + 1 := by simp
 go_wp2_with fail
 generalize w.alloc (.cells #[.int .u64 x.a, .int .u64 x.b] 28) = w0 at *
 have hp0 := hp w0
 simp only [hzz] at hp0
 refine hp0.mono ?_; rintro e w1 ⟨rfl, hb1⟩
 clear hp0
 rw [World.size_alloc, hzz] at hb1
 replace hb1 : Below w0.heap.size w0 w1 := (bone _ _).trans (hb1.mono (by omega))
 clear hzz
 replace m0 := cell_lt hb1 m0 hz0
 replace m1 := cell_lt hb1 m1 hz0
 replace hz0 := Nat.lt_of_lt_of_le hz0 hb1.size
 replace hb1 := bthen hb0 hb1
 clear hb0 hp
 go_wp2_with fail
 refine (hl w1).mono ?_; rintro e w2 ⟨rfl, hb2⟩
 replace m0 := cell_lt hb2 m0 hz0
 replace m1 := cell_lt hb2 m1 hz0
 replace hz0 := Nat.lt_of_lt_of_le hz0 hb2.size
 replace hb1 := bthen hb1 hb2
 clear hb2 hl
 go_wp2_with fail
 refine wp_loop_rounds 1 ?_
 rw [rounds_succ]
 go_wp2_with fail
 go_ret2
 have hlo : ∀ (o1 o2 : Obj), ((w2.alloc o1).alloc o2).heap[w2.heap.size]? = some o1 := fun o1 o2 => ((bone _ _).block _ (by simp)).trans (World.alloc_heap_new w2 o1)
 have hhi : ∀ (o1 o2 : Obj), ((w2.alloc o1).alloc o2).heap[w2.heap.size + 1]? = some o2 := fun o1 o2 => by
  have := World.alloc_heap_new (w2.alloc o1) o2
  rwa [World.size_alloc] at this
 refine ⟨w2.heap.size + 1, w2.heap.size, rfl, ⟨hhi _ _, ⟨#[], 0, hlo _ _, rfl, Go.MapKept.stamped_empty 0⟩, by simp, by simp, PgOk.nil, x.ha, x.hb⟩, (hb1.alloc (by omega) _).alloc (by simp; omega) _, by omega, by omega⟩
end Go.Proofs.YtiblhlaemmdphaaGreat
/-! Bytes are written into the program's memory. -/
namespace Go.Proofs.YtiblhlaemmdphaaGreat
open Go Go.RowKit Go.BigFrame Go.Maps
theorem bytesV_one (l : List Int) : ∀ v ∈ l.map (fun x => Value.int .u8 x), v.oneCell' = true := by
 intro v hv
 obtain ⟨x, _, rfl⟩ := List.mem_map.1 hv
 rfl
def Pg.upd (n : Int) (o : Nat) (m : List Int) (p : Pg) : Pg := if p.n = n then { p with bs := spl p.bs o m } else p
theorem upd_n (n : Int) (o : Nat) (m : List Int) (p : Pg) : (p.upd n o m).n = p.n := by unfold Pg.upd; split <;> rfl
theorem upd_blk (n : Int) (o : Nat) (m : List Int) (p : Pg) : (p.upd n o m).blk = p.blk := by unfold Pg.upd; split <;> rfl
theorem upd_kv (n : Int) (o : Nat) (m : List Int) (p : Pg) : (p.upd n o m).kv = p.kv := by unfold Pg.kv; rw [upd_n, upd_blk]
theorem upd_ab (L : List Pg) (n : Int) (o : Nat) (m : List Int) : (L.map (Pg.upd n o m)).map Pg.ab = (L.map Pg.ab).map (fun p => if p.1 = n then (p.1, spl p.2 o m) else p) := by
 rw [List.map_map, List.map_map]
 apply List.map_congr_left
 intro p _
 show (p.upd n o m).ab = if p.ab.1 = n then (p.ab.1, spl p.ab.2 o m) else p.ab
 by_cases h : p.ab.1 = n
 ·have h' : p.n = n := h
  rw [if_pos h]; unfold Pg.upd; rw [if_pos h']; rfl
 ·have h' : ¬ p.n = n := h
  rw [if_neg h]; unfold Pg.upd; rw [if_neg h']
theorem upd_blks (mb pb : Nat) (L : List Pg) (n : Int) (o : Nat) (m : List Int) : memBlks mb pb (L.map (Pg.upd n o m)) = memBlks mb pb L := by
 unfold memBlks
 rw [List.map_map]
 congr 2
 apply List.map_congr_left
 intro p _
 exact upd_blk n o m p
theorem spl_bytes (l : List Int) (o : Nat) (m : List Int) : bytesV (spl l o m) = ((bytesV l).toList.take o ++ (m.map fun x => Value.int .u8 x) ++ (bytesV l).toList.drop (o + (m.map fun x => Value.int .u8 x).length)).toArray := by
 unfold bytesV spl
 simp [List.map_take, List.map_drop]
theorem pg_same {L : List Pg} (h : PgOk (L.map Pg.ab)) {p q : Pg} (hp : p ∈ L) (hq : q ∈ L) (e : p.n = q.n) : p.blk = q.blk ∧ p.bs = q.bs := by
 have h1 := pg_find_some h hp
 have h2 := pg_find_some h hq
 rw [e, h2] at h1
 refine ⟨?_, (Option.some.inj h1).symm⟩
 have hnd := h.nodup
 rw [List.map_map] at hnd
 have key : ∀ l : List Pg, (l.map ((·.1) ∘ Pg.ab)).Nodup → ∀ a ∈ l, ∀ b ∈ l, a.n = b.n → a.blk = b.blk := by
  intro l
  induction l with
  | nil => intro _ a ha; cases ha
  | cons c l ih =>
   intro hnd a ha b hb hab
   rw [List.map_cons, List.nodup_cons] at hnd
   rcases List.mem_cons.1 ha with ea | ha' <;> rcases List.mem_cons.1 hb with eb | hb'
   ·rw [ea, eb]
   ·exact absurd (show c.n ∈ l.map ((·.1) ∘ Pg.ab) from List.mem_map.2 ⟨b, hb', by rw [← ea, hab]; rfl⟩) hnd.1
   ·exact absurd (show c.n ∈ l.map ((·.1) ∘ Pg.ab) from List.mem_map.2 ⟨a, ha', by rw [← eb, ← hab]; rfl⟩) hnd.1
   ·exact ih hnd.2 a ha' b hb' hab
 exact key L hnd p hp q hq e
theorem blk_inj {L : List Pg} (hb : (L.map Pg.blk).Nodup) {p q : Pg} (hp : p ∈ L) (hq : q ∈ L) (e : p.blk = q.blk) : p = q := by
 induction L with
 | nil => cases hp
 | cons c l ih =>
  rw [List.map_cons, List.nodup_cons] at hb
  rcases List.mem_cons.1 hp with ea | ha' <;> rcases List.mem_cons.1 hq with eb | hb'
  ·rw [ea, eb]
  ·exact absurd (List.mem_map.2 ⟨q, hb', by rw [← ea, e]⟩) hb.1
  ·exact absurd (List.mem_map.2 ⟨p, ha', by rw [← eb, ← e]⟩) hb.1
  ·exact ih hb.2 ha' hb'
theorem MemP.apart {W : World} {mb pb : Nat} {s z : Int} {L : List Pg} (h : MemP W mb pb s z L) {p : Pg} (hp : p ∈ L) : p.blk ≠ mb ∧ p.blk ≠ pb ∧ mb ≠ pb := by
 have h1 := h.page p hp
 refine ⟨fun e => ?_, fun e => ?_, fun e => ?_⟩
 ·rw [e, h.hd] at h1
  simp at h1
 ·rw [e] at h1; exact h.mp.not_cells h1
 ·have := h.hd; rw [e] at this; exact h.mp.not_cells this
theorem MemP.put {W : World} {mb pb : Nat} {s z : Int} {L : List Pg} (h : MemP W mb pb s z L) {p : Pg} (hp : p ∈ L) {o : Nat} {m : List Int} (ho : o + m.length ≤ 4096) (hm : ∀ c ∈ m, 0 ≤ c ∧ c < 256) :
  MemP (W.setRow p.blk (bytesV (spl p.bs o m))) mb pb s z (L.map (Pg.upd p.n o m)) ∧ (L.map (Pg.upd p.n o m)).map Pg.ab = pgPut (L.map Pg.ab) p.n o m := by
 have hab : (L.map (Pg.upd p.n o m)).map Pg.ab = pgPut (L.map Pg.ab) p.n o m := by
  rw [upd_ab]
  unfold pgPut
  rw [if_pos (show p.n ∈ (L.map Pg.ab).map (·.1) from List.mem_map.2 ⟨p.ab, List.mem_map.2 ⟨p, hp, rfl⟩, rfl⟩)]
 obtain ⟨n1, n2, n3⟩ := h.apart hp
 refine ⟨⟨(setRow_other W p.blk mb _ (fun e => n1 e.symm)).trans h.hd, ?_, ?_, ?_, ?_, h.ws, h.wz⟩, hab⟩
 ·rw [List.map_map]
  have e : List.map (Pg.kv ∘ Pg.upd p.n o m) L = L.map Pg.kv := List.map_congr_left fun q _ => upd_kv p.n o m q
  rw [e]
  exact h.mp.same (setRow_other W p.blk pb _ (fun e => n2 e.symm))
 ·intro q hq
  obtain ⟨q0, hq0, rfl⟩ := List.mem_map.1 hq
  rw [upd_blk]
  by_cases hn : q0.n = p.n
  ·obtain ⟨e1, e2⟩ := pg_same h.ok hq0 hp hn
   have : (q0.upd p.n o m).bs = spl p.bs o m := by unfold Pg.upd; rw [if_pos hn, ← e2]
   rw [this, e1]
   exact setRow_heap W p.blk _ _ _ _ (h.page p hp)
  ·have : (q0.upd p.n o m).bs = q0.bs := by unfold Pg.upd; rw [if_neg hn]
   rw [this]
   exact (setRow_other W p.blk q0.blk _ (fun e => hn (by rw [blk_inj h.blks hq0 hp e]))).trans (h.page q0 hq0)
 ·rw [List.map_map]
  have e : List.map (Pg.blk ∘ Pg.upd p.n o m) L = L.map Pg.blk := List.map_congr_left fun q _ => upd_blk p.n o m q
  rw [e]; exact h.blks
 ·rw [hab]
  exact h.ok.put ho hm (h.ok.num p.ab (List.mem_map.2 ⟨p, hp, rfl⟩))
theorem MemP.add {W : World} {mb pb : Nat} {s z : Int} {L : List Pg} (h : MemP W mb pb s z L) {n : Int} (hn : 0 ≤ n ∧ n < 4503599627370496) (hno : ∀ p ∈ L, p.n ≠ n) :
  ∃ o, (Instr.mapUpdate 65 (.map (some pb)) (.int .u64 n) (.slice (some ⟨W.heap.size, 0, none⟩) 4096 4096)).run Tryz.prog (W.alloc (.cells (bytesV zpg) 5)) = .ok () (Go.ChangeMaps.setBlock (W.alloc (.cells (bytesV zpg) 5)) pb o) ∧
   MemP (Go.ChangeMaps.setBlock (W.alloc (.cells (bytesV zpg) 5)) pb o) mb pb s z (L ++ [⟨n, zpg, W.heap.size⟩]) := by
 obtain ⟨k, e, ht, rfl, rfl⟩ := mapPg
 have hb := bone W (.cells (bytesV zpg) 5)
 have hW : W64 n := ⟨hn.1, by omega⟩
 have h1 := h.below hb (Nat.le_refl _)
 have hlt := h.lt
 obtain ⟨o, hrun, hkv⟩ := kv_store_new keyed64 ht h1.mp (keys64 h.ok) (key64 hW) (fun y hy => by
  obtain ⟨p, hp, rfl⟩ := List.mem_map.1 hy
  intro e
  unfold Pg.kv at e
  simp at e
  exact hno p hp e) (.slice (some ⟨W.heap.size, 0, none⟩) 4096 4096)
 have hmp : mb ≠ pb := fun e => by have := h.hd; rw [e] at this; exact h.mp.not_cells this
 have hpb := hlt pb (by simp [memBlks])
 refine ⟨o, hrun, ⟨(setB_other o hmp).trans h1.hd, ?_, ?_, ?_, ?_, h.ws, h.wz⟩⟩
 ·rw [List.map_append]; exact hkv
 ·intro q hq
  rcases List.mem_append.1 hq with hq | hq
  ·exact (setB_other o (h.apart hq).2.1).trans (h1.page q hq)
  ·simp only [List.mem_singleton] at hq
   subst hq
   exact (setB_other o (by show W.heap.size ≠ pb; omega)).trans (World.alloc_heap_new W _)
 ·rw [List.map_append, List.nodup_append]
  refine ⟨h.blks, by simp, fun a ha b hb e => ?_⟩
  simp only [List.map_cons, List.map_nil, List.mem_singleton] at hb
  have := hlt a (by unfold memBlks; simp [ha])
  omega
 ·have := h.ok.put (n := n) (o := 0) (m := []) (by simp) (by simp) hn
  unfold pgPut at this
  rw [if_neg (fun hm => by
   obtain ⟨q, hq, e⟩ := List.mem_map.1 hm
   obtain ⟨p, hp, rfl⟩ := List.mem_map.1 hq
   exact hno p hp e)] at this
  rw [List.map_append]
  have e0 : spl zpg 0 [] = zpg := by unfold spl; simp
  rw [e0] at this
  exact this
theorem copy_page {W : World} {mb pb : Nat} {s z : Int} {L : List Pg} (h : MemP W mb pb s z L) {p : Pg} (hp : p ∈ L) (o : Nat) (ho : o < 4096) (b off cap : Nat) (l : List Int)
  (hv : ∀ i (hi : i < l.length), W.cell? ⟨b, off + i, none⟩ = some (.int .u8 l[i])) (ty : TypeId) :
  (Builtin.copy_ #[31, 31] ty #[.slice (some ⟨p.blk, o, none⟩) (4096 - o) (4096 - o), .slice (some ⟨b, off, none⟩) l.length cap]).run Tryz.prog W =
   .ok (goInt ((min (4096 - o) l.length : Nat) : Int)) (W.setRow p.blk (bytesV (spl p.bs o (l.take (min (4096 - o) l.length))))) := by
 have hl : p.bs.length = 4096 := h.ok.len p.ab (List.mem_map.2 ⟨p, hp, rfl⟩)
 have hlen : (List.map (fun x => Value.int .u8 x) (l.take (min (4096 - o) l.length))).length = min (4096 - o) l.length := by
  rw [List.length_map, List.length_take]; omega
 have hr := run_copy_row (P := Tryz.prog) W 31 31 ty 5 p.blk o (4096 - o) (4096 - o) ⟨b, off, none⟩ l.length cap (bytesV p.bs) 5 ((l.take (min (4096 - o) l.length)).map fun x => Value.int .u8 x)
  Tryz.underlying31 (by kernel_rfl) (h.page p hp) (by rw [hlen]; exact Nat.min_comm _ _) ?_ ?_ (bytesV_one _)
 ·rw [hlen] at hr
  rw [hr, spl_bytes, hlen]
 ·intro j v hj
  rw [List.getElem?_map, List.getElem?_take] at hj
  split at hj
  ·rename_i hlt
   have hjl : j < l.length := by omega
   rw [List.getElem?_eq_getElem hjl] at hj
   simp only [Option.map_some, Option.some.injEq] at hj
   subst hj
   have hadd : (⟨b, off, none⟩ : Addr).add j = ⟨b, off + j, none⟩ := by unfold Addr.add; split <;> simp_all
   rw [hadd]; exact hv j hjl
  ·cases hj
 ·rw [hlen]
  have : (bytesV p.bs).size = 4096 := by unfold bytesV; simp [hl]
  omega
end Go.Proofs.YtiblhlaemmdphaaGreat
/-! The walk of the program's Write: bytes are written into memory, page by page. -/
namespace Go.Proofs.YtiblhlaemmdphaaGreat
open Go Go.RowKit Go.BigFrame Go.Maps
structure Wrote (w w' : World) (mb pb : Nat) (s z : Int) (L L' : List Pg) (B : Nat) (tgt : PG) : Prop where
 mem : MemP w' mb pb s z L'
 ab : L'.map Pg.ab = tgt
 off : OffL B (memBlks mb pb L) w w'
 blks : ∀ b ∈ memBlks mb pb L', b ∈ memBlks mb pb L ∨ w.heap.size ≤ b
def lenV : Value → Nat
 | .slice _ n _ => n
 | _ => 0
theorem ask_bd {s z a n : Int} (h : askV s z a n = 0) (hn : 0 < n) : a + n ≤ 18446744073709551616 := by
 unfold askV at h
 split at h
 ·cases h
 ·split at h
  ·cases h
  ·rename_i h1 h2
   have : withinB a n s z = true := by
    cases hb : withinB a n s z
    ·exact absurd ⟨hn, hb⟩ h2
    ·rfl
   have := (goodB_iff.1 (withinB_iff.1 this).1).2
   omega
theorem Wrote.fresh {w wr : World} {mb pb : Nat} {s z : Int} {L L1 : List Pg} {B : Nat} {tgt : PG} (h : Wrote w wr mb pb s z L L1 B tgt) : ∀ k, k < w.heap.size → k ∉ memBlks mb pb L → k ∉ memBlks mb pb L1 := fun k h1 h2 h3 => by
 rcases h.blks k h3 with e | e
 ·exact h2 e
 ·omega
theorem Wrote.put {w wr : World} {mb pb : Nat} {s z : Int} {L L1 : List Pg} {B : Nat} {tgt : PG} (h : Wrote w wr mb pb s z L L1 B tgt) (hB : ∀ k ∈ memBlks mb pb L, B ≤ k) (hBw : B ≤ w.heap.size) {p : Pg} (hp : p ∈ L1) {o : Nat} {m : List Int} (ho : o + m.length ≤ 4096) (hm : ∀ c ∈ m, 0 ≤ c ∧ c < 256) :
  Wrote w (wr.setRow p.blk (bytesV (spl p.bs o m))) mb pb s z L (L1.map (Pg.upd p.n o m)) B (pgPut (L1.map Pg.ab) p.n o m) := by
 obtain ⟨h1, h2⟩ := h.mem.put hp ho hm
 have hpb : p.blk ∈ memBlks mb pb L1 := by simp only [memBlks, List.mem_cons]; exact .inr (.inr (List.mem_map.2 ⟨p, hp, rfl⟩))
 have hBp : B ≤ p.blk := by
  rcases h.blks _ hpb with e | e
  ·exact hB _ e
  ·omega
 refine ⟨h1, h2, ⟨below_setRow h.off.below hBp _, fun k h3 h4 => ?_⟩, fun k hk => ?_⟩
 ·exact (setRow_other wr p.blk k _ (fun e => h.fresh k h3 h4 (e ▸ hpb))).trans (h.off.rest k h3 h4)
 ·rw [upd_blks] at hk; exact h.blks k hk
theorem Wrote.add {w wr : World} {mb pb : Nat} {s z : Int} {L L1 : List Pg} {B : Nat} {tgt : PG} (h : Wrote w wr mb pb s z L L1 B tgt) (hB : ∀ k ∈ memBlks mb pb L, B ≤ k) {o : Obj} {n : Int}
  (hm : MemP (Go.ChangeMaps.setBlock (wr.alloc (.cells (bytesV zpg) 5)) pb o) mb pb s z (L1 ++ [⟨n, zpg, wr.heap.size⟩])) : Wrote w (Go.ChangeMaps.setBlock (wr.alloc (.cells (bytesV zpg) 5)) pb o) mb pb s z L (L1 ++ [⟨n, zpg, wr.heap.size⟩]) B ((L1 ++ [⟨n, zpg, wr.heap.size⟩] : List Pg).map Pg.ab) := by
 have hbw : wr.heap.size < (wr.alloc (.cells (bytesV zpg) 5)).heap.size := by simp
 have hs := h.off.below.size
 refine ⟨hm, rfl, ⟨⟨h.off.below.os, h.off.below.tape, h.off.below.output, by rw [setB_size]; omega, fun k hk => ?_⟩, fun k h1 h2 => ?_⟩, fun k hk => ?_⟩
 ·have h1 : pb ≠ k := fun e => by have := hB pb (by simp [memBlks]); omega
  have hwk : k < wr.heap.size := by
   have := hB pb (by simp [memBlks])
   have := h.mem.lt pb (by simp [memBlks])
   omega
  exact (setB_other o (fun e => h1 e.symm)).trans (((bone wr _).block k hwk).trans (h.off.below.block k hk))
 ·have h3 : k ≠ pb := fun e => h2 (by rw [e]; simp [memBlks])
  exact (setB_other o h3).trans (((bone wr _).block k (by omega)).trans (h.off.rest k h1 h2))
 ·unfold memBlks at hk
  rw [List.map_append] at hk
  simp only [List.mem_cons, List.mem_append, List.map_cons, List.map_nil, List.not_mem_nil, or_false] at hk
  rcases hk with rfl | rfl | hk | rfl
  ·exact h.blks _ (by simp [memBlks])
  ·exact h.blks _ (by simp [memBlks])
  ·exact h.blks _ (by simp only [memBlks, List.mem_cons]; exact .inr (.inr hk))
  ·exact .inr hs
theorem pgPut_add {L : List Pg} {n : Int} {o k : Nat} {m : List Int} (hno : ∀ p ∈ L, p.n ≠ n) : pgPut ((L ++ [⟨n, zpg, k⟩] : List Pg).map Pg.ab) n o m = pgPut (L.map Pg.ab) n o m := by
 have hn : n ∉ (L.map Pg.ab).map (·.1) := fun hm => by
  obtain ⟨q, hq, e⟩ := List.mem_map.1 hm
  obtain ⟨p, hp, rfl⟩ := List.mem_map.1 hq
  exact hno p hp e
 unfold pgPut
 rw [if_neg hn, if_pos (by rw [List.map_append, List.map_append]; simp [Pg.ab]), List.map_append, List.map_append]
 congr 1
 ·rw [List.map_map]
  apply List.map_congr_left
  intro p hp
  show (if p.ab.1 = n then (p.ab.1, spl p.ab.2 o m) else p.ab) = p.ab
  rw [if_neg (show ¬ p.ab.1 = n from hno p hp)]
 ·simp [Pg.ab]
theorem write_left (a a1 : Int) (j b off cap : Nat) (l D : List Int) (pg pg' tgt : PG) (hD : D.length = l.length - j) (hDj : ∀ k, D.drop k = l.drop (j + k)) (hA : a + (j : Int) = a1) (hj : j < l.length) (hcap : l.length ≤ cap) (h0 : 0 ≤ a1) (h1 : a1 + (D.length : Int) ≤ 18446744073709551616)
  (k : Nat) (hk : 1 ≤ k) (hkD : k ≤ D.length) (hpg : pg' = pg) (ht : writeV pg (a1 + (k : Int)) (D.drop k) = tgt) :
  j + k ≤ l.length ∧ W64 (IntKind.u64.wrap (a1 + (k : Int))) ∧
   Value.slice (if cap - j = k then some ⟨b, off + j, none⟩ else some ⟨b, off + j + k, none⟩) (D.length - k) (cap - j - k) = Value.slice (if cap - j = k then some ⟨b, off + j, none⟩ else some ⟨b, off + j + k, none⟩) (l.length - (j + k)) (cap - (j + k)) ∧
   (j + k < l.length → (if cap - j = k then some (⟨b, off + j, none⟩ : Addr) else some ⟨b, off + j + k, none⟩) = some ⟨b, off + (j + k), none⟩ ∧ IntKind.u64.wrap (a1 + (k : Int)) = a + ((j + k : Nat) : Int)) ∧
   writeV pg' (IntKind.u64.wrap (a1 + (k : Int))) (l.drop (j + k)) = tgt := by
 subst hpg
 have hw : W64 (IntKind.u64.wrap (a1 + (k : Int))) := by rw [IntKind.wrap_u64]; unfold W64; omega
 refine ⟨by omega, hw, by rw [show D.length - k = l.length - (j + k) by omega, show cap - j - k = cap - (j + k) by omega], fun h => ⟨?_, ?_⟩, ?_⟩
 ·rw [if_neg (by omega), Nat.add_assoc]
 ·rw [IntKind.wrap_u64]; omega
 ·rw [← hDj]
  by_cases h : j + k < l.length
  ·have : IntKind.u64.wrap (a1 + (k : Int)) = a1 + (k : Int) := by rw [IntKind.wrap_u64]; omega
   rw [this]; exact ht
  ·have hn : D.drop k = [] := List.drop_of_length_le (by omega)
   rw [hn, writeV_nil] at ht ⊢
   exact ht
set_option maxRecDepth 100000 in
set_option maxHeartbeats 4000000 in
theorem write_any (mb pb : Nat) (s z a : Int) (L : List Pg) (B b off cap : Nat) (x : Option Addr) (l : List Int) (w : World) (hm : MemP w mb pb s z L) (ha : W64 a) (hB : ∀ k ∈ memBlks mb pb L, B ≤ k)
  (hx : l ≠ [] → x = some ⟨b, off, none⟩ ∧ b < w.heap.size ∧ b ∉ memBlks mb pb L ∧ ∀ i (h : i < l.length), w.cell? ⟨b, off + i, none⟩ = some (.int .u8 l[i])) (hl : ∀ c ∈ l, 0 ≤ c ∧ c < 256) (hlen : l.length ≤ 9223372036854775807) (hcap : l.length ≤ cap) :
  Calls Tryz.prog 23 #[.pointer (some ⟨mb, 0, none⟩), .int .u64 a, .slice x l.length cap] w fun e w' => e = .returned (.int .i64 (askV s z a l.length)) ∧ ∃ L', Wrote w w' mb pb s z L L' B (if askV s z a l.length = 0 then writeV (L.map Pg.ab) a l else L.map Pg.ab) := by
 have hk := fun W h => ask_any mb pb s z a l.length L W h ha (by unfold W64; omega)
 have ha0 := ha.1
 have ha1 := ha.2
 by_cases hq : askV s z a l.length = 0
 ·have hend := fun h => ask_bd hq h
  rw [hq] at hk ⊢
  rw [if_pos rfl]
  clear hq
  replace hend := Lib.hid hend
  have hBw : B ≤ w.heap.size := by have := hm.lt mb (by simp [memBlks]); have := hB mb (by simp [memBlks]); omega
  replace hBw := hBw
  go_enter Tryz.func23, Tryz.ntmps23
  go_wp2_with fail
  refine (hk _ hm).mono ?_; rintro e w1 ⟨rfl, hb1⟩
  clear hk
  go_wp2_with fail
  go_loopw [1, 2] (fun u1 u2 wr => ∃ (L1 : List Pg) (j : Nat) (a1 : Int) (y : Option Addr), j ≤ l.length ∧ u1 = .int .u64 a1 ∧ W64 a1 ∧ u2 = .slice y (l.length - j) (cap - j) ∧ (j < l.length → y = some ⟨b, off + j, none⟩ ∧ a1 = a + j) ∧ Wrote w wr mb pb s z L L1 B (L1.map Pg.ab) ∧ writeV (L1.map Pg.ab) a1 (l.drop j) = writeV (L.map Pg.ab) a l) (fun _ u2 _ => lenV u2)
  case atStart => exact ⟨L, 0, a, x, Nat.zero_le _, rfl, ha, rfl, fun h => ⟨(hx (by rintro rfl; simp at h)).1, by simp⟩, ⟨hm.below hb1 (Nat.le_refl _), rfl, OffL.of_below hb1 (by have := hm.lt mb (by simp [memBlks]); have := hB mb (by simp [memBlks]); omega), fun b h => .inl h⟩, rfl⟩
  case round =>
   obtain ⟨L1, j, a1, y, hj, rfl, hw1, rfl, hya, hwr, htgt⟩ := hrel
   clear hb1 hm
   obtain ⟨c0, c1, c2⟩ := hwr.mem.cells
   by_cases hlt : j < l.length
   ·obtain ⟨rfl, rfl⟩ := hya hlt
    have hlne : l ≠ [] := by rintro rfl; simp at hlt
    obtain ⟨rfl, hbw, hbn, hcell⟩ := hx hlne
    have hsame : wr.heap[b]? = w.heap[b]? := hwr.off.rest b hbw hbn
    have hcell1 : ∀ i (h : i < (l.drop j).length), wr.cell? ⟨b, off + j + i, none⟩ = some (.int .u8 (l.drop j)[i]) := fun i h => by
     have h1 := hcell (j + i) (by rw [List.length_drop] at h; omega)
     simp only [World.cell?, hsame]
     simp only [World.cell?] at h1
     rw [Nat.add_assoc, List.getElem_drop]; exact h1
    have hdl : (l.drop j).length = l.length - j := List.length_drop
    have hDne : l.drop j ≠ [] := by intro e; rw [e] at hdl; simp at hdl; omega
    have hDb : ∀ c ∈ l.drop j, 0 ≤ c ∧ c < 256 := fun c hc => hl c (List.mem_of_mem_drop hc)
    have hDj : ∀ k, (l.drop j).drop k = l.drop (j + k) := fun k => by rw [List.drop_drop]
    rw [writeV_step _ _ hDne] at htgt
    have hE : a + j + (l.length - j : Nat) ≤ 18446744073709551616 := by have := hend.out (by omega); omega
    have hj0 : (0 : Int) ≤ a + j := by omega
    have hcj : l.length - j ≤ cap - j := by omega
    have hw10 := hw1.1
    have hw11 := hw1.2
    generalize l.drop j = D at *
    rw [← hdl] at hE hcj ⊢
    have hD0 : 0 < D.length := by omega
    generalize hA : a + (j : Int) = a1 at *
    replace hA := Lib.hid hA
    replace htgt := Lib.hid htgt
    replace hdl := Lib.hid hdl
    replace hDj := Lib.hid hDj
    clear hDne hj0 hcell hsame
    rcases pg_lookup hwr.mem (a1 / 4096) (by unfold W64 at *; omega) with ⟨hno, hrun⟩ | ⟨p, hp, hpn, hrun⟩
    ·obtain ⟨o, hup, hm2⟩ := hwr.mem.add (n := a1 / 4096) ⟨by omega, by omega⟩ hno
     have hwr2 := hwr.add hB hm2
     have hmk := make_bytes wr 4096 4096 (by omega) (by omega) (by omega)
     change (Instr.makeSlice _ _ _).run _ _ = .ok (.slice (some ⟨wr.heap.size, 0, none⟩) 4096 4096) (wr.alloc (.cells (bytesV zpg) 5)) at hmk
     have hp : (⟨a1 / 4096, zpg, wr.heap.size⟩ : Pg) ∈ L1 ++ [⟨a1 / 4096, zpg, wr.heap.size⟩] := by simp
     have hne := fun (W : World) (x : Option Addr) (n c : Nat) => Lib.run_eql_slice_nil (P := Tryz.prog) W 31 5 x n c 0 0 Tryz.underlying31
     have hc2b : (wr.alloc (.cells (bytesV zpg) 5)).cell? ⟨mb, 2, none⟩ = some (.map (some pb)) := cell_lt (bone _ _) c2 (hwr.mem.lt mb (by simp [memBlks]))
     have hb3 : b ≠ pb := fun e => by have := hwr.fresh b hbw hbn; rw [e] at this; exact this (by simp [memBlks])
     have hcell2 : ∀ i (h : i < D.length), (Go.ChangeMaps.setBlock (wr.alloc (.cells (bytesV zpg) 5)) pb o).cell? ⟨b, off + j + i, none⟩ = some (.int .u8 D[i]) := fun i h => by
      have h1 := hcell1 i h
      have h2 : (Go.ChangeMaps.setBlock (wr.alloc (.cells (bytesV zpg) 5)) pb o).heap[b]? = wr.heap[b]? := (setB_other o hb3).trans ((bone wr _).block b (World.block_lt_of_cell? _ _ h1))
      simp only [World.cell?, h2]
      simpa only [World.cell?] using h1
     have hcp := fun ty => copy_page hm2 hp (a1 % 4096).toNat (by omega) b (off + j) (cap - j) D hcell2 ty
     have hpn : Hid ((⟨a1 / 4096, zpg, wr.heap.size⟩ : Pg).n = a1 / 4096) := Lib.hid rfl
     have htgt2 := htgt.out
     have hpe : pgPut ((L1 ++ [⟨a1 / 4096, zpg, wr.heap.size⟩] : List Pg).map Pg.ab) (a1 / 4096) (a1 % 4096).toNat (D.take (min (4096 - (a1 % 4096).toNat) D.length)) = pgPut (L1.map Pg.ab) (a1 / 4096) (a1 % 4096).toNat (D.take (min (4096 - (a1 % 4096).toNat) D.length)) := pgPut_add hno
     rw [← hpe] at htgt2
     clear htgt hpe
     have htgt := Lib.hid htgt2
     clear htgt2
     clear hcell1 hno hm2
     replace hwr := hwr2
     clear hwr2
     generalize hL2 : L1 ++ [⟨a1 / 4096, zpg, wr.heap.size⟩] = L2 at *
     replace hL2 := Lib.hid hL2
     go_wp2_with fail
     have hko : (a1 % 4096).toNat < 4096 := by omega
     have hwp := hwr.put hB hBw hp (o := (a1 % 4096).toNat) (m := D.take (min (4096 - (a1 % 4096).toNat) D.length)) (by rw [List.length_take]; omega) (fun c hc => hDb c (List.mem_of_mem_take hc))
     obtain ⟨r1, r2, r3, r4, r5⟩ := write_left a a1 j b off cap l D _ _ (writeV (L.map Pg.ab) a l) hdl.out hDj.out hA.out hlt hcap hw10 hE (min (4096 - (a1 % 4096).toNat) D.length) (by omega) (by omega) hwp.ab (by rw [hpn.out]; exact htgt.out)
     refine ⟨⟨_, j + (min (4096 - (a1 % 4096).toNat) D.length), _, _, r1, rfl, r2, r3, r4, ⟨hwp.mem, rfl, hwp.off, hwp.blks⟩, r5⟩, ?_⟩
     simp only [lenV]
     omega
    ·have hcp := fun ty => copy_page hwr.mem hp (a1 % 4096).toNat (by omega) b (off + j) (cap - j) D hcell1 ty
     replace hpn := Lib.hid hpn
     have hne := fun (W : World) (x : Option Addr) (n c : Nat) => Lib.run_eql_slice_nil (P := Tryz.prog) W 31 5 x n c 0 0 Tryz.underlying31
     go_wp2_with fail
     have hko : (a1 % 4096).toNat < 4096 := by omega
     have hwp := hwr.put hB hBw hp (o := (a1 % 4096).toNat) (m := D.take (min (4096 - (a1 % 4096).toNat) D.length)) (by rw [List.length_take]; omega) (fun c hc => hDb c (List.mem_of_mem_take hc))
     obtain ⟨r1, r2, r3, r4, r5⟩ := write_left a a1 j b off cap l D _ _ (writeV (L.map Pg.ab) a l) hdl.out hDj.out hA.out hlt hcap hw10 hE (min (4096 - (a1 % 4096).toNat) D.length) (by omega) (by omega) hwp.ab (by rw [hpn.out]; exact htgt.out)
     refine ⟨⟨_, j + (min (4096 - (a1 % 4096).toNat) D.length), _, _, r1, rfl, r2, r3, r4, ⟨hwp.mem, rfl, hwp.off, hwp.blks⟩, r5⟩, ?_⟩
     simp only [lenV]
     omega
   ·obtain rfl : j = l.length := by omega
    rw [List.drop_length, writeV_nil] at htgt
    have hpos : ¬ 0 < (((l.length - l.length : Nat) : Int)) := by omega
    replace htgt := Lib.hid htgt
    go_wp2_with fail
    go_ret
    exact ⟨rfl, L1, hwr.mem, htgt.out, hwr.off, hwr.blks⟩
 ·rw [if_neg hq]
  generalize askV s z a l.length = q at *
  have hq' : (q == 0) = false := by simpa using hq
  go_enter Tryz.func23, Tryz.ntmps23
  go_wp2_with fail
  refine (hk _ hm).mono ?_; rintro e w1 ⟨rfl, hb1⟩
  clear hk
  go_wp2_with fail
  go_ret
  exact ⟨rfl, L, hm.below hb1 (Nat.le_refl _), rfl, OffL.of_below hb1 (by have := hm.lt mb (by simp [memBlks]); have := hB mb (by simp [memBlks]); omega), fun b h => .inl h⟩
end Go.Proofs.YtiblhlaemmdphaaGreat
/-! The walk of the program's Put: a word is written into memory. -/
namespace Go.Proofs.YtiblhlaemmdphaaGreat
open Go Go.RowKit Go.BigFrame Go.Maps
theorem Wrote.pre {w w1 w' : World} {mb pb : Nat} {s z : Int} {L L' : List Pg} {B : Nat} {tgt : PG} (h : Wrote w1 w' mb pb s z L L' B tgt) (hb : Below w.heap.size w w1) (hB : B ≤ w.heap.size) : Wrote w w' mb pb s z L L' B tgt :=
 ⟨h.mem, h.ab, ⟨(hb.mono hB).trans h.off.below, fun k h1 h2 => (h.off.rest k (Nat.lt_of_lt_of_le h1 hb.size) h2).trans (hb.block k h1)⟩, fun b hk => (h.blks b hk).imp id fun e => Nat.le_trans hb.size e⟩
theorem Wrote.stay {w w' : World} {mb pb : Nat} {s z : Int} {L : List Pg} {B : Nat} (h : MemP w mb pb s z L) (hb : Below w.heap.size w w') (hB : B ≤ w.heap.size) : Wrote w w' mb pb s z L L B (L.map Pg.ab) :=
 ⟨h.below hb (Nat.le_refl _), rfl, OffL.of_below hb hB, fun _ h => .inl h⟩
theorem OwnB.open {w : World} {base : Nat} {v : Value} {l : List Int} (h : OwnB w base v l) : ∃ (x : Option Addr) (cap g : Nat), v = .slice x l.length cap ∧ l.length ≤ cap ∧ (l ≠ [] → x = some ⟨g, 0, none⟩ ∧ base ≤ g ∧ g < w.heap.size ∧ ∀ i (hi : i < l.length), w.cell? ⟨g, 0 + i, none⟩ = some (.int .u8 l[i])) := by
 have hr := h.row
 obtain ⟨hlen, ⟨rfl, h0⟩ | ⟨g, cap, cur, rfl, hb, hg, hn, hm, hs, hx⟩⟩ := h
 ·obtain rfl : l = [] := List.length_eq_zero_iff.1 h0
  exact ⟨none, 0, 0, rfl, Nat.le_refl _, fun h => absurd rfl h⟩
 ·refine ⟨some ⟨g, 0, none⟩, cap, g, rfl, hn, fun hne => ⟨rfl, hb, (Array.getElem?_eq_some_iff.1 hg).1, fun i hi => ?_⟩⟩
  obtain ⟨a2, c2, e1, _, _, hc⟩ := hr
  obtain ⟨b2, o2, e2, _, hc⟩ := hc hne
  simp only [Value.slice.injEq, true_and] at e1
  rw [e2] at e1
  simp only [Option.some.injEq, Addr.mk.injEq, and_true] at e1
  obtain ⟨⟨rfl, rfl⟩, _⟩ := e1
  exact hc i hi
def putE (s z a : Int) : Int := if a % 8 = 0 then askV s z a 8 else 90
set_option maxRecDepth 20000 in
set_option maxHeartbeats 2000000 in
theorem putM_any (mb pb : Nat) (s z a x : Int) (L : List Pg) (B : Nat) (w : World) (hm : MemP w mb pb s z L) (ha : W64 a) (hx : W64 x) (hB : ∀ k ∈ memBlks mb pb L, B ≤ k) :
  Calls Tryz.prog 82 #[.pointer (some ⟨mb, 0, none⟩), .int .u64 a, .int .u64 x] w fun e w' => e = .returned (.int .i64 (putE s z a)) ∧ ∃ L', Wrote w w' mb pb s z L L' B (if putE s z a = 0 then writeV (L.map Pg.ab) a (putB x) else L.map Pg.ab) := by
 have hBw : B ≤ w.heap.size := by have := hm.lt mb (by simp [memBlks]); have := hB mb (by simp [memBlks]); omega
 have ha0 := ha.1
 have ha1 := ha.2
 by_cases h8 : a % 8 = 0
 ·have hpe : putE s z a = askV s z a 8 := by unfold putE; rw [if_pos h8]
  rw [hpe]
  clear hpe
  generalize hT : (if askV s z a 8 = 0 then writeV (L.map Pg.ab) a (putB x) else L.map Pg.ab) = T
  replace hT := Lib.hid hT
  have hc0 : (w.alloc (.cells #[.int .u64 x] 26)).cell? ⟨w.heap.size, 0, none⟩ = some (.int .u64 x) := by simp [World.cell?_alloc_new]
  have hb0 := bone w (.cells #[.int .u64 x] 26)
  have hp := putLe64_any x w.heap.size 0 1 _ hx hc0
  go_enter Tryz.func82, Tryz.ntmps82
  go_wp2_with fail
  refine hp.mono ?_; rintro e w1 ⟨r, rfl, hown, hb1⟩
  replace hb1 := bthen hb0 hb1
  clear hp hb0 hc0
  obtain ⟨y, cap, g, rfl, hcap, hg⟩ := hown.open
  have hg' : putB x ≠ [] := by intro e; have := putB_len x; rw [e] at this; simp at this
  obtain ⟨rfl, hgb, hglt, hgc⟩ := hg hg'
  have hm1 := hm.below hb1 (Nat.le_refl _)
  have hgn : g ∉ memBlks mb pb L := fun e => by have := hm.lt g e; simp at hgb; omega
  have hw := write_any mb pb s z a L B g 0 cap (some ⟨g, 0, none⟩) (putB x) w1 hm1 ha hB (fun _ => ⟨rfl, hglt, hgn, hgc⟩) (putB_byte x) (by rw [putB_len]; omega) hcap
  have hlen : (((putB x).length : Nat) : Int) = 8 := by rw [putB_len]; rfl
  rw [hlen, hT.out] at hw
  clear hgc hown
  replace hlen := Lib.hid hlen
  go_wp2_with fail
  refine hw.mono ?_; rintro e w2 ⟨rfl, L', hwr⟩
  go_wp2_with fail
  go_ret
  exact ⟨rfl, L', hwr.pre hb1 hBw⟩
 ·have hpe : putE s z a = 90 := by unfold putE; rw [if_neg h8]
  rw [hpe, if_neg (by decide)]
  clear hpe
  go_enter Tryz.func82, Tryz.ntmps82
  go_wp2_with fail
  go_ret
  exact ⟨rfl, L, Wrote.stay hm (Below.refl _ _) hBw⟩
end Go.Proofs.YtiblhlaemmdphaaGreat
