/- The program's Zero over whole pages: those that lie in the span are taken away. -/
import Derived.Maps.Range
import Derived.Maps.RangeRun
import Derived.LoopTactic
import Derived.Test.YtiblhlaemmdphaaGreatTableBuildsP2
import Derived.Test.YtiblhlaemmdphaaGreatTableBuildsP7
namespace Go.Proofs.YtiblhlaemmdphaaGreat
open Go Go.RowKit Go.BigFrame Go.Maps Go.MapKept
open Go.ChangeMaps (setBlock)
section
variable {P : Program} {t k e : TypeId}
theorem kv_delete (K : Keyed P k) (ht : P.underlying t = some (.map k e)) {W : World} {B : Nat} {es : Array MapEntry} {clock : Nat} (hb : W.heap[B]? = some (.map es clock)) (hs : Stamped es clock) (hks : ∀ x ∈ es.toList, ∃ l, keyOf P k x.key = some l)
  {x : MapEntry} (hx : x ∈ es.toList) : ∃ es', (∀ ty, (Builtin.delete_ #[t, k] ty #[.map (some B), x.key]).run P W = .ok (.tuple #[]) (setBlock W B (.map es' clock))) ∧ es'.toList = es.toList.filter (fun y => decide (y.born ≠ x.born)) ∧ Stamped es' clock := by
 obtain ⟨l, hl⟩ := hks x hx
 have hst := (stamped_iff es clock).1 hs
 rcases K.find W hl es.toList hks with ⟨f1, f2⟩ | ⟨j, e0, f1, f2, f3⟩
 ·exact absurd rfl (f2 x hx)
 ·have hjl : j < es.toList.length := (List.getElem?_eq_some_iff.1 f2).1
  have hjs : j < es.size := by simpa using hjl
  have hm0 : e0 ∈ es.toList := List.mem_of_getElem? f2
  have e0x : e0 = x := by
   have : e0.key = x.key := f3
   exact entry_eq_of_key hst.2.2 hm0 hx this
  have hsub : (es.eraseIdxIfInBounds j).toList = es.toList.eraseIdx j := by
   unfold Array.eraseIdxIfInBounds
   rw [dif_pos hjs]
   simp
  refine ⟨es.eraseIdxIfInBounds j, fun ty => ?_, ?_, stamped_erase hs j⟩
  ·simp [Builtin.delete_, run_underlying ht, MapKept.run_getObj_map hb, K.check W _ hl, f1, MapKept.run_setObj_map _ hb, Result.andThen, setBlock]
  ·rw [hsub]
   subst e0x
   have key : ∀ (l : List MapEntry) (j : Nat), (l.map (·.born)).Nodup → l[j]? = some e0 → l.eraseIdx j = l.filter (fun y => decide (y.born ≠ e0.born)) := by
    intro l
    induction l with
    | nil => intro j _ h; simp at h
    | cons a l ih =>
     intro j hn h
     rw [List.map_cons, List.nodup_cons] at hn
     cases j with
     | zero =>
      simp at h
      subst h
      rw [List.eraseIdx_cons_zero, List.filter_cons_of_neg (by simp)]
      symm
      rw [List.filter_eq_self]
      intro y hy
      rw [decide_eq_true_iff]
      intro e
      exact hn.1 (e ▸ List.mem_map.2 ⟨y, hy, rfl⟩)
     | succ j =>
      simp at h
      have hne : a.born ≠ e0.born := fun e => hn.1 (e ▸ List.mem_map.2 ⟨e0, List.mem_of_getElem? h, rfl⟩)
      rw [List.eraseIdx_cons_succ, List.filter_cons_of_pos (by simpa using hne), ih j hn.2 h]
   exact key es.toList j hst.2.1 f2
end
def spanE (a n : Int) (x : MapEntry) : Bool := match x.key with
 | .int _ m => decide (a ≤ m * 4096) && decide (m * 4096 < a + n)
 | _ => false
theorem OffL.set {B pb : Nat} {X Y : World} (h : OffL B [pb] X Y) (hB : B ≤ pb) (o : Obj) : OffL B [pb] X (setBlock Y pb o) :=
 ⟨⟨h.below.os, h.below.tape, h.below.output, by rw [setB_size]; exact h.below.size, fun i hi => (setB_other o (by omega)).trans (h.below.block i hi)⟩, fun i hi hn => (setB_other o (by simpa using hn)).trans (h.rest i hi hn)⟩
set_option maxRecDepth 20000 in
set_option maxHeartbeats 4000000 in
theorem zero_any (mb pb : Nat) (s z a n : Int) (L : List Pg) (B : Nat) (w : World) (hm : MemP w mb pb s z L) (hB : B ≤ pb) (hBw : B ≤ w.heap.size) (ha : W64 a) (hn : W64 n) (hw : withinB a n s z = true) (ha1 : a + n ≤ 1099511627776) (hlast : lastV a n = a + n - 1) (hal : a % 4096 = 0 ∧ n % 4096 = 0) :
  Calls Tryz.prog 52 #[.pointer (some ⟨mb, 0, none⟩), .agg #[.int .u64 a, .int .u64 n]] w fun e w' => e = .returned (.int .i64 0) ∧ MemP w' mb pb s z (L.filter fun p => !(inPages a n p.ab)) ∧ OffL B [pb] w w' := by
 obtain ⟨c0, c1, c2⟩ := hm.cells
 have hmb := hm.lt mb (by simp [memBlks])
 have hpb := hm.lt pb (by simp [memBlks])
 have hmne : mb ≠ pb := fun e => by
  obtain ⟨es, clock, hes, _⟩ := hm.mp
  rw [← e, hm.hd] at hes
  cases hes
 have hmm := hm
 obtain ⟨es, clock, hes, hkv, hst⟩ := hm.mp
 have hpn : ∀ p ∈ L, 0 ≤ p.n ∧ p.n < 4503599627370496 := fun p hp => hm.ok.num p.ab (List.mem_map.2 ⟨p, hp, rfl⟩)
 have hent : ∀ x ∈ es.toList, ∃ p ∈ L, x.key = .int .u64 p.n ∧ x.val = .slice (some ⟨p.blk, 0, none⟩) 4096 4096 := fun x hx => by
  have h1 : (x.key, x.val) ∈ L.map Pg.kv := by rw [← hkv]; exact List.mem_map.2 ⟨x, hx, rfl⟩
  obtain ⟨p, hp, e⟩ := List.mem_map.1 h1
  unfold Pg.kv at e
  exact ⟨p, hp, (congrArg Prod.fst e).symm, (congrArg Prod.snd e).symm⟩
 have hks : ∀ x ∈ es.toList, ∃ l, keyOf Tryz.prog 26 x.key = some l := fun x hx => by
  obtain ⟨p, hp, e, _⟩ := hent x hx
  have := hpn p hp
  rw [e]
  exact ⟨_, key64 ⟨this.1, by omega⟩⟩
 have hstI := (stamped_iff es clock).1 hst
 have hwi := fun (W : World) => within_any a n s z W ha hn hm.ws hm.wz
 rw [hw] at hwi
 have hla := fun (W : World) => last_any a n W ha hn
 rw [hlast] at hla
 have hb0 := bone w (.cells #[.int .u64 a, .int .u64 n] 28)
 obtain ⟨m0, m1⟩ := two_new w (.int .u64 a) (.int .u64 n) 28
 replace c0 := cell_lt hb0 c0 hmb
 replace c1 := cell_lt hb0 c1 hmb
 replace c2 := cell_lt hb0 c2 hmb
 have he0 := (hb0.block pb hpb).trans hes
 have hsz : w.heap.size < (w.alloc (.cells #[.int .u64 a, .int .u64 n] 28)).heap.size := by simp
 have hmt := mapPg
 clear hm hes
 go_enter Tryz.func52, Tryz.ntmps52
 go_wp2_with fail
 generalize w.alloc (.cells #[.int .u64 a, .int .u64 n] 28) = w0 at *
 refine region_later w0.heap.size w0 (Below.refl _ _) (by kernel_rfl) (by kernel_rfl) ?_
 have x0 := later_cell (B := w0.heap.size) c0 (by omega)
 have x1 := later_cell (B := w0.heap.size) c1 (by omega)
 have x2 := later_cell (B := w0.heap.size) m0 hsz
 have x3 := later_cell (B := w0.heap.size) m1 hsz
 repeat (quiet_step ((go_at_call 64; exact quiet_later (Nat.le_refl _) (hwi _))))
 refine wpQuiet_nil ?_
 rintro _ ⟨X, rfl⟩
 have hX := X.h
 clear x0 x1 x2 x3 hwi
 generalize X.x = w1 at *
 replace c2 := cell_lt hX c2 (by omega)
 replace m0 := cell_lt hX m0 hsz
 replace m1 := cell_lt hX m1 hsz
 replace he0 := (hX.block pb (by omega)).trans he0
 replace hb0 := bthen hb0 hX
 replace hsz := Nat.lt_of_lt_of_le hsz hX.size
 clear hX c0 c1
 go_wp2_with fail
 refine (hla _).mono ?_; rintro e w2 ⟨rfl, hb2⟩
 replace c2 := cell_lt hb2 c2 (by omega)
 replace m0 := cell_lt hb2 m0 hsz
 replace m1 := cell_lt hb2 m1 hsz
 replace he0 := (hb2.block pb (by omega)).trans he0
 replace hb0 := bthen hb0 hb2
 replace hsz := Nat.lt_of_lt_of_le hsz hb2.size
 clear hb2 hla
 obtain ⟨kt, et, hmt, rfl, rfl⟩ := mapPg
 have hrg := run_range_map (P := Tryz.prog) w2 65 _ _ pb es clock hmt he0
 go_wp2_with fail
 have hitr : (w2.alloc (.mapIter (some pb) clock #[] clock)).heap[w2.heap.size]? = some (.mapIter (some pb) clock #[] clock) := World.alloc_heap_new w2 _
 have hbi := bone w2 (.mapIter (some pb) clock #[] clock)
 have hpi := (hbi.block pb (by omega)).trans he0
 generalize w2.alloc (.mapIter (some pb) clock #[] clock) = w3 at *
 go_loopw [] (fun wr => ∃ (seen : Array Nat) (es1 : Array MapEntry), wr.heap[w2.heap.size]? = some (.mapIter (some pb) clock seen clock) ∧ wr.heap[pb]? = some (.map es1 clock) ∧ es1.toList = es.toList.filter (fun x => !(spanE a n x && seen.contains x.born)) ∧ Stamped es1 clock ∧ OffL B [pb] w2 wr) (fun wr => wr.rangeLeft pb w2.heap.size)
 case atStart =>
  refine ⟨#[], es, hitr, hpi, ?_, hst, OffL.of_below hbi (by have := hb0.size; omega)⟩
  symm
  rw [List.filter_eq_self]
  intro x _
  simp
 case round =>
  clear hitr hbi hpi
  obtain ⟨seen, es1, hit, hes1, hfil, hst1, hoff⟩ := hrel
  have hszv := hoff.below.size
  have hst1I := (stamped_iff es1 clock).1 hst1
  have hsub : ∀ x ∈ es1.toList, x ∈ es.toList := fun x hx => by rw [hfil] at hx; exact (List.mem_filter.1 hx).1
  rcases run_next_at (P := Tryz.prog) wr 0 w2.heap.size pb clock clock seen es1 clock hit hes1 hst1I.1 (Nat.le_refl _) with ⟨h0, hrun⟩ | ⟨x, hx, V1, hal, hrun⟩
  ·have hnx : ∀ ty, (Instr.next (.pointer (some ⟨w2.heap.size, 0, none⟩)) false ty).run Tryz.prog wr = _ := fun _ => hrun
   go_wp2_with fail
   go_ret
   have hall := all_seen es1 seen h0
   have hfin : es1.toList = es.toList.filter (fun x => !(spanE a n x)) := by
    rw [hfil]
    apply List.filter_congr
    intro y hy
    cases hsy : spanE a n y
    ·simp
    ·cases hc : seen.contains y.born
     ·have : y ∈ es1.toList := by rw [hfil, List.mem_filter]; exact ⟨hy, by rw [hsy, hc]; rfl⟩
      rw [hall y this] at hc
      cases hc
     ·simp
   have hoffw : OffL B [pb] w wr := (OffL.of_below hb0 hBw).trans hoff fun b hb => .inl hb
   refine ⟨rfl, ?_, hoffw⟩
   have hpages : ∀ p ∈ L, wr.heap[p.blk]? = some (.cells (bytesV p.bs) 5 (0, 0)) := fun p hp => by
    have h1 := hmm.page p hp
    exact (hoffw.rest p.blk (Array.getElem?_eq_some_iff.1 h1).1 (by simp; intro e; rw [e] at h1; obtain ⟨es', cl', h2, _⟩ := hmm.mp; rw [h2] at h1; cases h1)).trans h1
   refine ⟨(hoffw.rest mb hmb (by simpa using hmne)).trans hmm.hd, ⟨es1, clock, hes1, ?_, hst1⟩, fun p hp => hpages p (List.mem_filter.1 hp).1, hmm.blks.sublist (List.Sublist.map _ List.filter_sublist), ?_, hmm.ws, hmm.wz⟩
   ·rw [hfin]
    have e1 : (es.toList.filter (fun x => !(spanE a n x))).map (fun x => (x.key, x.val)) = ((es.toList.map (fun x => (x.key, x.val))).filter (fun q => !(spanE a n ⟨q.1, q.2, 0⟩))) := by
     rw [List.filter_map]; rfl
    rw [e1, hkv, List.filter_map]
    congr 1
   ·have := zpgs_ok hmm.ok a n
    unfold zpgs at this
    rw [List.filter_map] at this
    exact this
  ·have hxm := mem_left hx
   obtain ⟨p, hp, hk, hv⟩ := hent x (hsub x hxm.1)
   rw [hk, hv] at hrun
   have hnx : ∀ ty, (Instr.next (.pointer (some ⟨w2.heap.size, 0, none⟩)) false ty).run Tryz.prog wr = _ := fun _ => hrun
   have hit1 : V1.heap[w2.heap.size]? = some (.mapIter (some pb) clock seen clock) := by rcases hal with rfl | rfl <;> exact hit
   have hes2 : V1.heap[pb]? = some (.map es1 clock) := by rcases hal with rfl | rfl <;> exact hes1
   have hoff1 : OffL B [pb] w2 V1 := by rcases hal with rfl | rfl; exact hoff; exact ⟨hoff.below.drew, hoff.rest⟩
   have hrb : w2.heap.size ≠ pb := by omega
   have hoff2 : OffL B [pb] w2 (setBlock V1 w2.heap.size (.mapIter (some pb) clock (seen.push x.born) clock)) :=
    ⟨⟨hoff1.below.os, hoff1.below.tape, hoff1.below.output, by rw [setB_size]; exact hoff1.below.size, fun i hi => (setB_other _ (by omega)).trans (hoff1.below.block i hi)⟩, fun i hi hn => (setB_other _ (by omega)).trans (hoff1.rest i hi hn)⟩
   have hits : (setBlock V1 w2.heap.size (.mapIter (some pb) clock (seen.push x.born) clock)).heap[w2.heap.size]? = some (.mapIter (some pb) clock (seen.push x.born) clock) := (Go.MapKept.heap_set hit1).1
   have hesY : (setBlock V1 w2.heap.size (.mapIter (some pb) clock (seen.push x.born) clock)).heap[pb]? = some (.map es1 clock) := (setB_other _ (fun e => hrb e.symm)).trans hes2
   have hlt := left_shrinks es1 seen x hx
   have hm0 : wr.rangeLeft pb w2.heap.size = (leftOf es1 seen).size := by simp only [World.rangeLeft, hes1, hit]
   generalize setBlock V1 w2.heap.size (.mapIter (some pb) clock (seen.push x.born) clock) = Y at *
   have hmY : Y.rangeLeft pb w2.heap.size = (leftOf es1 (seen.push x.born)).size := by simp only [World.rangeLeft, hesY, hits]
   have hen := run_entry_at (P := Tryz.prog) Y w2.heap.size pb clock seen es1 clock x hits hesY hxm.1 hst1I.2.1
   rw [hk, hv] at hen
   obtain ⟨hp0, hp1⟩ := hpn p hp
   have hwb : w.heap.size < w2.heap.size := by omega
   have f0 : Y.cell? ⟨w.heap.size, 0, none⟩ = some (.int .u64 a) := by
    rw [show Y.cell? ⟨w.heap.size, 0, none⟩ = w2.cell? ⟨w.heap.size, 0, none⟩ by simp only [World.cell?, hoff2.rest w.heap.size hwb (by simp; omega)]]
    exact m0
   have f2 : Y.cell? ⟨mb, 2, none⟩ = some (.map (some pb)) := by
    rw [show Y.cell? ⟨mb, 2, none⟩ = w2.cell? ⟨mb, 2, none⟩ by simp only [World.cell?, hoff2.rest mb (by omega) (by simpa using hmne)]]
    exact c2
   have g1 : IntKind.u64.wrap (p.n * 4096) = p.n * 4096 := by rw [IntKind.wrap_u64]; omega
   have g3 : IntKind.u64.wrap (IntKind.u64.wrap (p.n * 4096 + 4096) - 1) = p.n * 4096 + 4095 := by rw [IntKind.wrap_u64, IntKind.wrap_u64]; omega
   have hspx : spanE a n x = (decide (a ≤ p.n * 4096) && decide (p.n * 4096 < a + n)) := by unfold spanE; rw [hk]
   have hkeep : spanE a n x = false → es1.toList = es.toList.filter (fun y => !(spanE a n y && (seen.push x.born).contains y.born)) := fun hf => by
    rw [hfil]
    apply List.filter_congr
    intro y hy
    rw [contains_push]
    by_cases hyx : y.born = x.born
    ·have := born_inj hstI.2.1 hy (hsub x hxm.1) hyx
     subst this
     rw [hf]; simp
    ·rw [show (y.born == x.born) = false by simpa using hyx, Bool.or_false]
   obtain ⟨es2, hdel, hf2, hst2⟩ := kv_delete keyed64 hmt hesY hst1 (fun y hy => hks y (hsub y hy)) hxm.1
   rw [hk] at hdel
   have hdrop : spanE a n x = true → es2.toList = es.toList.filter (fun y => !(spanE a n y && (seen.push x.born).contains y.born)) := fun hf => by
    rw [hf2, hfil, List.filter_filter]
    apply List.filter_congr
    intro y hy
    rw [contains_push]
    by_cases hyx : y.born = x.born
    ·have := born_inj hstI.2.1 hy (hsub x hxm.1) hyx
     subst this
     rw [hf]; simp
    ·rw [show (y.born == x.born) = false by simpa using hyx, Bool.or_false, decide_eq_true (show y.born ≠ x.born from hyx), Bool.true_and]
   have hoff3 := hoff2.set hB (.map es2 clock)
   have hits3 : (setBlock Y pb (.map es2 clock)).heap[w2.heap.size]? = some (.mapIter (some pb) clock (seen.push x.born) clock) := (setB_other _ hrb).trans hits
   have hes3 : (setBlock Y pb (.map es2 clock)).heap[pb]? = some (.map es2 clock) := setB_heap _ (Array.getElem?_eq_some_iff.1 hesY).1
   have hm3 : (setBlock Y pb (.map es2 clock)).rangeLeft pb w2.heap.size ≤ (leftOf es1 (seen.push x.born)).size := by
    simp only [World.rangeLeft, hes3, hits3]
    have hl : ∀ e0 : Array MapEntry, (leftOf e0 (seen.push x.born)).size = (e0.toList.filter fun e => !(seen.push x.born).contains e.born).length := fun e0 => by unfold leftOf; rw [← Array.length_toList]; simp
    rw [hl, hl, hf2]
    exact (List.Sublist.filter _ List.filter_sublist).length_le
   clear hrun hmm hent hks hfil hst hkv hf2
   by_cases q1 : p.n * 4096 + 4095 < a
   ·have hsf : spanE a n x = false := by rw [hspx]; simp; omega
    have hkp := hkeep hsf
    clear hdrop hkeep hdel
    go_wp2_with fail
    go_roundw
    case rel => exact ⟨_, _, hits, hesY, hkp, hst1, hoff2⟩
    case measure => rw [hmY, hm0]; exact hlt
   ·by_cases q2 : a + n - 1 < p.n * 4096
    ·have hsf : spanE a n x = false := by rw [hspx]; simp; omega
     have hkp := hkeep hsf
     clear hdrop hkeep hdel
     go_wp2_with fail
     go_roundw
     case rel => exact ⟨_, _, hits, hesY, hkp, hst1, hoff2⟩
     case measure => rw [hmY, hm0]; exact hlt
    ·have q3 : a ≤ p.n * 4096 := by omega
     have q4 : p.n * 4096 + 4095 ≤ a + n - 1 := by omega
     have hst' : spanE a n x = true := by rw [hspx]; simp; omega
     have hdp := hdrop hst'
     clear hdrop hkeep
     go_wp2_with fail
     go_roundw
     case rel => exact ⟨_, _, hits3, hes3, hdp, hst2, hoff3⟩
     case measure => rw [hm0]; exact Nat.lt_of_le_of_lt hm3 hlt
end Go.Proofs.YtiblhlaemmdphaaGreat
