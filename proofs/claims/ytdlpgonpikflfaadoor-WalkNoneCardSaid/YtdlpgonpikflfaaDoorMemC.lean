/- A word of the program's memory; a new memory. -/
import Derived.Test.YtdlpgonpikflfaaDoorMemB
import Derived.Lib.SliceRun
namespace Go.Proofs.YtdlpgonpikflfaaDoor
open Go Go.RowKit Go.BigFrame Go.Maps

theorem word_map {pg : PG} {a : Int} (h8 : a % 8 = 0) (i : Nat) (hi : i < 8) : bt pg (a + (i : Int)) = match pgFind pg (a / 4096) with | some bs => bs.getD ((a % 4096).toNat + i) 0 | none => 0 := by
  unfold bt
  rw [show (a + (i : Int)) / 4096 = a / 4096 by omega, show ((a + (i : Int)) % 4096).toNat = (a % 4096).toNat + i by omega]
  cases pgFind pg (a / 4096) <;> rfl
theorem wordAt_none {pg : PG} {a : Int} (h8 : a % 8 = 0) (h : pgFind pg (a / 4096) = none) : wordAt pg a = 0 := by
  unfold wordAt
  have : ((List.range 8).map fun i : Nat => bt pg (a + (i : Int))) = List.replicate 8 0 := by
    apply List.ext_getElem
    · simp
    · intro i h1 h2
      have hi : i < 8 := by simpa using h1
      rw [List.getElem_map, List.getElem_range, word_map h8 i hi, h, List.getElem_replicate]
  rw [this]; decide
theorem wordAt_some {pg : PG} {a : Int} {bs : List Int} (h8 : a % 8 = 0) (h : pgFind pg (a / 4096) = some bs) (hl : bs.length = 4096) : wordAt pg a = le ((bs.drop (a % 4096).toNat).take 8) := by
  unfold wordAt
  congr 1
  have ho : (a % 4096).toNat + 8 ≤ 4096 := by omega
  apply List.ext_getElem
  · rw [List.length_map, List.length_range, List.length_take, List.length_drop]; omega
  · intro i h1 h2
    have hi : i < 8 := by simpa using h1
    rw [List.getElem_map, List.getElem_range, word_map h8 i hi, h]
    simp only [List.getElem_take, List.getElem_drop]
    rw [List.getD_eq_getElem?_getD, List.getElem?_eq_getElem (by omega)]
    rfl
theorem page_row {W : World} {mb pb : Nat} {s z : Int} {L : List Pg} (h : MemP W mb pb s z L) {p : Pg} (hp : p ∈ L) : RowB W (.slice (some ⟨p.blk, 0, none⟩) 4096 4096) p.bs ∧ p.bs.length = 4096 ∧ ∀ c ∈ p.bs, 0 ≤ c ∧ c < 256 := by
  have hl : p.bs.length = 4096 := h.ok.len p.ab (List.mem_map.2 ⟨p, hp, rfl⟩)
  have hg := h.page p hp
  refine ⟨⟨some ⟨p.blk, 0, none⟩, 4096, by rw [hl], by omega, by unfold maxLen; omega, fun _ => ⟨p.blk, 0, rfl, (Array.getElem?_eq_some_iff.1 hg).1, fun i hi => ?_⟩⟩, hl, h.ok.byte p.ab (List.mem_map.2 ⟨p, hp, rfl⟩)⟩
  simp only [World.cell?, hg, Nat.zero_add, bytesV]
  simp [hi]

def wordBad (s z a : Int) : Bool := decide (a % 8 ≠ 0) || decide (askV s z a 8 ≠ 0)
def wordV (s z : Int) (pg : PG) (a : Int) : Int × Int := if wordBad s z a = true then (0, 90) else (wordAt pg a, 0)

set_option maxRecDepth 20000 in
set_option maxHeartbeats 1000000 in
theorem word_any (mb pb : Nat) (s z a : Int) (L : List Pg) (w : World) (hm : MemP w mb pb s z L) (ha : W64 a) :
    Calls Tryd.prog 23 #[.pointer (some ⟨mb, 0, none⟩), .int .u64 a] w fun e w' => e = .returned (.tuple #[.int .u64 (wordV s z (L.map Pg.ab) a).1, .int .i64 (wordV s z (L.map Pg.ab) a).2]) ∧ Below w.heap.size w w' := by
  have hk := fun W h => ask_any mb pb s z a 8 L W h ha (by unfold W64; omega)
  have ha0 := ha.1
  have ha1 := ha.2
  by_cases h8 : a % 8 = 0
  · by_cases hq : askV s z a 8 = 0
    · have hbad : wordBad s z a = false := by unfold wordBad; simp [h8, hq]
      rw [hq] at hk
      have hr : wordV s z (L.map Pg.ab) a = (wordAt (L.map Pg.ab) a, 0) := by unfold wordV; rw [hbad]; rfl
      rw [hr]
      clear hr hbad
      replace hq := Lib.hid hq
      have hlk := fun W h => pg_lookup (W := W) (mb := mb) (pb := pb) (s := s) (z := z) (L := L) h (a / 4096) (by unfold W64 at *; omega)
      have hne := fun (W : World) (x : Option Addr) (n c : Nat) => Lib.run_eql_slice_nil (P := Tryd.prog) W 90 5 x n c 0 0 Tryd.underlying90
      go_enter Tryd.func23, Tryd.ntmps23
      go_wp2_with fail
      refine (hk _ hm).mono ?_; rintro e w1 ⟨rfl, hb1⟩
      have hm1 := hm.below hb1 (Nat.le_refl _)
      obtain ⟨c0, c1, c2⟩ := hm1.cells
      rcases hlk _ hm1 with ⟨hno, hrun⟩ | ⟨p, hp, hpn, hrun⟩
      · have hz := wordAt_none h8 (pg_find_none hno)
        clear hlk hk hno
        replace hz := Lib.hid hz
        go_wp2_with fail
        go_ret2
        refine ⟨?_, hb1⟩
        rw [hz.out]; rfl
      · obtain ⟨hrow, hl, hby⟩ := page_row hm1 hp
        have hz := wordAt_some h8 (by rw [← hpn]; exact pg_find_some hm.ok hp) hl
        have hle := le64_any _ p.bs (a % 4096).toNat w1 hrow hby (by omega)
        have hcast : (((a % 4096).toNat : Nat) : Int) = a % 4096 := by omega
        rw [← hz] at hle
        rw [hcast] at hle
        clear hlk hk hcast
        replace hz := Lib.hid hz
        replace hpn := Lib.hid hpn
        go_wp2_with fail
        refine hle.mono ?_; rintro e w2 ⟨rfl, rfl⟩
        clear hle
        go_wp2_with fail
        go_ret2
        exact ⟨rfl, hb1⟩
    · have hbad : wordBad s z a = true := by unfold wordBad; simp [hq]
      have hr : wordV s z (L.map Pg.ab) a = (0, 90) := by unfold wordV; rw [hbad]; rfl
      rw [hr]
      clear hr hbad
      go_enter Tryd.func23, Tryd.ntmps23
      go_wp2_with fail
      refine (hk _ hm).mono ?_; rintro e w1 ⟨rfl, hb1⟩
      generalize askV s z a 8 = q at *
      go_wp2_with fail
      go_ret2
      exact ⟨rfl, hb1⟩
  · have hbad : wordBad s z a = true := by unfold wordBad; simp [h8]
    have hr : wordV s z (L.map Pg.ab) a = (0, 90) := by unfold wordV; rw [hbad]; rfl
    rw [hr]
    clear hr hbad
    go_enter Tryd.func23, Tryd.ntmps23
    go_wp2_with fail
    go_ret2
    exact ⟨rfl, Below.refl _ _⟩
theorem rowOne (W : World) (x : Two) : RowTwo (W.alloc (.cells #[.int .u64 x.a, .int .u64 x.b] 54)) (.slice (some ⟨W.heap.size, 0, none⟩) 1 1) [x] := by
  refine ⟨_, _, rfl, Nat.le_refl _, fun _ => ⟨_, _, rfl, by simp, fun i hi => ?_⟩⟩
  obtain rfl : i = 0 := by simp at hi; exact hi
  simp [World.cell?_alloc_new]
theorem two_new (W : World) (a b : Value) (t : TypeId) : (W.alloc (.cells #[a, b] t)).cell? ⟨W.heap.size, 0, none⟩ = some a ∧ (W.alloc (.cells #[a, b] t)).cell? ⟨W.heap.size, 1, none⟩ = some b := by
  constructor <;> simp [World.cell?_alloc_new]

set_option maxRecDepth 20000 in
set_option maxHeartbeats 1000000 in
/-- A new memory, with nothing in it. -/
theorem newMem_any (x : Two) (w : World) (h1 : pageBad x = false) (h2 : lastV x.a x.b < 1099511627776) :
    Calls Tryd.prog 18 #[.agg #[.int .u64 x.a, .int .u64 x.b], .slice none 0 0] w fun e w' =>
      ∃ mb pb, e = .returned (.tuple #[.pointer (some ⟨mb, 0, none⟩), .int .i64 0]) ∧ MemP w' mb pb x.a x.b [] ∧ Below w.heap.size w w' ∧ w.heap.size ≤ mb ∧ w.heap.size ≤ pb := by
  have hp := fun (W : World) => pages_any (.slice (some ⟨W.heap.size, 0, none⟩) 1 1) [x] (W.alloc (.cells #[.int .u64 x.a, .int .u64 x.b] 54)) (rowOne W x) (by simp)
  have hl := fun W => last_any x.a x.b W x.ha x.hb
  have e1 : ([x] : List Two).any pageBad = false := by simp [h1]
  rw [e1] at hp
  generalize lastV x.a x.b = lv at *
  have hmm := @run_makeMap Tryd.prog
  obtain ⟨m0, m1⟩ := two_new w (.int .u64 x.a) (.int .u64 x.b) 54
  have hb0 := bone w (.cells #[.int .u64 x.a, .int .u64 x.b] 54)
  have hz0 : w.heap.size < (w.alloc (.cells #[.int .u64 x.a, .int .u64 x.b] 54)).heap.size := by simp
  clear e1 h1
  go_enter Tryd.func18, Tryd.ntmps18
  have hzz : (w.alloc (.cells #[.int .u64 x.a, .int .u64 x.b] 54)).heap.size = w.heap.size + 1 := by simp
  go_wp2_with fail
  generalize w.alloc (.cells #[.int .u64 x.a, .int .u64 x.b] 54) = w0 at *
  have hp0 := hp w0
  simp only [hzz] at hp0
  refine hp0.mono ?_; rintro e w1 ⟨rfl, hb1⟩
  clear hp0
  rw [World.size_alloc, hzz] at hb1
  replace hb1 : Below w0.heap.size w0 w1 := (bone _ _).trans (hb1.mono (by omega))
  clear hzz
  replace m0 := cell_lt hb1 m0 hz0
  replace m1 := cell_lt hb1 m1 hz0
  replace hz0 := Nat.lt_of_lt_of_le hz0 hb1.size
  replace hb1 := bthen hb0 hb1
  clear hb0 hp
  go_wp2_with fail
  refine (hl w1).mono ?_; rintro e w2 ⟨rfl, hb2⟩
  replace m0 := cell_lt hb2 m0 hz0
  replace m1 := cell_lt hb2 m1 hz0
  replace hz0 := Nat.lt_of_lt_of_le hz0 hb2.size
  replace hb1 := bthen hb1 hb2
  clear hb2 hl
  go_wp2_with fail
  refine wp_loop_rounds 1 ?_
  rw [rounds_succ]
  go_wp2_with fail
  go_ret2
  have hlo : ∀ (o1 o2 : Obj), ((w2.alloc o1).alloc o2).heap[w2.heap.size]? = some o1 := fun o1 o2 => ((bone _ _).block _ (by simp)).trans (World.alloc_heap_new w2 o1)
  have hhi : ∀ (o1 o2 : Obj), ((w2.alloc o1).alloc o2).heap[w2.heap.size + 1]? = some o2 := fun o1 o2 => by
    have := World.alloc_heap_new (w2.alloc o1) o2
    rwa [World.size_alloc] at this
  refine ⟨w2.heap.size + 1, w2.heap.size, rfl, ⟨hhi _ _, ⟨#[], 0, hlo _ _, rfl, Go.MapKept.stamped_empty 0⟩, by simp, by simp, PgOk.nil, x.ha, x.hb⟩, (hb1.alloc (by omega) _).alloc (by simp; omega) _, by omega, by omega⟩
end Go.Proofs.YtdlpgonpikflfaaDoor
