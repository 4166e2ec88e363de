/- The program's Zero over a span in which no page lies: nothing is turned. -/
import Derived.Maps.RangeRun
import Derived.LoopTactic
import Derived.Test.YtnieomgopldlhaaTableNeedsP27
namespace Go.Proofs.Ytnieomgopldlhaa
open Go Go.RowKit Go.BigFrame Go.Maps

set_option maxRecDepth 20000 in
set_option maxHeartbeats 2000000 in
theorem zero_none (mb pb : Nat) (s z a n : Int) (L : List Pg) (w : World) (hm : MemP w mb pb s z L) (ha : W64 a) (hn : W64 n) (hw : withinB a n s z = true) (ha1 : a + n ≤ 1099511627776) (hlast : lastV a n = a + n - 1) (hno : ∀ p ∈ L, p.n * 4096 + 4096 ≤ a ∨ a + n ≤ p.n * 4096) :
    Calls Try.prog 43 #[.pointer (some ⟨mb, 0, none⟩), .agg #[.int .u64 a, .int .u64 n]] w fun e w' => e = .returned (.int .i64 0) ∧ Below w.heap.size w w' := by
  obtain ⟨c0, c1, c2⟩ := hm.cells
  have hmb := hm.lt mb (by simp [memBlks])
  have hpb := hm.lt pb (by simp [memBlks])
  obtain ⟨es, clock, hes, hkv, hst⟩ := hm.mp
  have hpn : ∀ p ∈ L, 0 ≤ p.n ∧ p.n < 4503599627370496 := fun p hp => hm.ok.num p.ab (List.mem_map.2 ⟨p, hp, rfl⟩)
  have hent : ∀ x ∈ es.toList, ∃ p ∈ L, x.key = .int .u64 p.n ∧ x.val = .slice (some ⟨p.blk, 0, none⟩) 4096 4096 := fun x hx => by
    have h1 : (x.key, x.val) ∈ L.map Pg.kv := by rw [← hkv]; exact List.mem_map.2 ⟨x, hx, rfl⟩
    obtain ⟨p, hp, e⟩ := List.mem_map.1 h1
    unfold Pg.kv at e
    exact ⟨p, hp, (congrArg Prod.fst e).symm, (congrArg Prod.snd e).symm⟩
  have hwi := fun (W : World) => within_any a n s z W ha hn hm.ws hm.wz
  rw [hw] at hwi
  have hla := fun (W : World) => last_any a n W ha hn
  rw [hlast] at hla
  have hb0 := bone w (.cells #[.int .u64 a, .int .u64 n] 27)
  obtain ⟨m0, m1⟩ := two_new w (.int .u64 a) (.int .u64 n) 27
  replace c0 := cell_lt hb0 c0 hmb
  replace c1 := cell_lt hb0 c1 hmb
  replace c2 := cell_lt hb0 c2 hmb
  have he0 := (hb0.block pb hpb).trans hes
  have hsz : w.heap.size < (w.alloc (.cells #[.int .u64 a, .int .u64 n] 27)).heap.size := by simp
  have hmt := mapPg
  clear hm hes hkv
  go_enter Try.func43, Try.ntmps43
  go_wp2_with fail
  generalize w.alloc (.cells #[.int .u64 a, .int .u64 n] 27) = w0 at *
  refine region_later w0.heap.size w0 (Below.refl _ _) (by kernel_rfl) (by kernel_rfl) ?_
  have x0 := later_cell (B := w0.heap.size) c0 (by omega)
  have x1 := later_cell (B := w0.heap.size) c1 (by omega)
  have x2 := later_cell (B := w0.heap.size) m0 hsz
  have x3 := later_cell (B := w0.heap.size) m1 hsz
  repeat (quiet_step ((go_at_call 48; exact quiet_later (Nat.le_refl _) (hwi _))))
  refine wpQuiet_nil ?_
  rintro _ ⟨X, rfl⟩
  have hX := X.h
  clear x0 x1 x2 x3 hwi
  generalize X.x = w1 at *
  replace c2 := cell_lt hX c2 (by omega)
  replace m0 := cell_lt hX m0 hsz
  replace m1 := cell_lt hX m1 hsz
  replace he0 := (hX.block pb (by omega)).trans he0
  replace hb0 := bthen hb0 hX
  replace hsz := Nat.lt_of_lt_of_le hsz hX.size
  clear hX c0 c1
  go_wp2_with fail
  refine (hla _).mono ?_; rintro e w2 ⟨rfl, hb2⟩
  replace c2 := cell_lt hb2 c2 (by omega)
  replace m0 := cell_lt hb2 m0 hsz
  replace m1 := cell_lt hb2 m1 hsz
  replace he0 := (hb2.block pb (by omega)).trans he0
  replace hb0 := bthen hb0 hb2
  replace hsz := Nat.lt_of_lt_of_le hsz hb2.size
  clear hb2 hla
  obtain ⟨kt, et, hmt, rfl, rfl⟩ := mapPg
  have hrg := run_range_map (P := Try.prog) w2 49 _ _ pb es clock hmt he0
  go_wp2_with fail
  have hitr : (w2.alloc (.mapIter (some pb) clock #[] clock)).heap[w2.heap.size]? = some (.mapIter (some pb) clock #[] clock) := World.alloc_heap_new w2 _
  have hbi := bone w2 (.mapIter (some pb) clock #[] clock)
  generalize w2.alloc (.mapIter (some pb) clock #[] clock) = w3 at *
  go_loopw [] (fun wr => ∃ (seen : Array Nat), wr.heap[w2.heap.size]? = some (.mapIter (some pb) clock seen clock) ∧ Below w2.heap.size w2 wr) (fun wr => (leftOf es (wr.iterSeen w2.heap.size)).size)
  case atStart => exact ⟨#[], hitr, hbi⟩
  case round =>
    clear hitr hbi
    obtain ⟨seen, hit, hbv⟩ := hrel
    have hszv := hbv.size
    have hbV := (hbv.block pb (by omega)).trans he0
    rcases run_next_at (P := Try.prog) wr 0 w2.heap.size pb clock clock seen es clock hit hbV hst.1 (Nat.le_refl _) with ⟨h0, hrun⟩ | ⟨x, hx, V1, hal, hrun⟩
    · have hnx : ∀ ty, (Instr.next (.pointer (some ⟨w2.heap.size, 0, none⟩)) false ty).run Try.prog wr = _ := fun _ => hrun
      go_wp2_with fail
      go_ret
      exact ⟨rfl, bthen hb0 hbv⟩
    · obtain ⟨p, hp, hk, hv⟩ := hent x (mem_left hx).1
      rw [hk, hv] at hrun
      have hnx : ∀ ty, (Instr.next (.pointer (some ⟨w2.heap.size, 0, none⟩)) false ty).run Try.prog wr = _ := fun _ => hrun
      have hit1 : V1.heap[w2.heap.size]? = some (.mapIter (some pb) clock seen clock) := by rcases hal with rfl | rfl <;> exact hit
      have hbv1 : Below w2.heap.size w2 V1 := by rcases hal with rfl | rfl; exact hbv; exact hbv.drew
      have hbs : Below w2.heap.size w2 (Go.ChangeMaps.setBlock V1 w2.heap.size (.mapIter (some pb) clock (seen.push x.born) clock)) := hbv1.trans ⟨rfl, rfl, rfl, by simp [Go.ChangeMaps.setBlock], fun i hi => by simp [Go.ChangeMaps.setBlock, Array.getElem?_setIfInBounds]; omega⟩
      have hits : (Go.ChangeMaps.setBlock V1 w2.heap.size (.mapIter (some pb) clock (seen.push x.born) clock)).heap[w2.heap.size]? = some (.mapIter (some pb) clock (seen.push x.born) clock) := (Go.MapKept.heap_set hit1).1
      have hlt := left_shrinks es seen x hx
      have hm0 : wr.iterSeen w2.heap.size = seen := by unfold World.iterSeen; rw [hit]
      generalize Go.ChangeMaps.setBlock V1 w2.heap.size (.mapIter (some pb) clock (seen.push x.born) clock) = Y at *
      have hmY : Y.iterSeen w2.heap.size = seen.push x.born := by unfold World.iterSeen; rw [hits]
      have hbY := (hbs.block pb (by omega)).trans he0
      have hen := run_entry_at (P := Try.prog) Y w2.heap.size pb clock seen es clock x hits hbY (mem_left hx).1 hst.2.1
      rw [hk, hv] at hen
      obtain ⟨hp0, hp1⟩ := hpn p hp
      have hno0 := hno p hp
      have f0 : Y.cell? ⟨w.heap.size, 0, none⟩ = some (.int .u64 a) := cell_lt hbs m0 hsz
      have g1 : IntKind.u64.wrap (p.n * 4096) = p.n * 4096 := by rw [IntKind.wrap_u64]; omega
      have g3 : IntKind.u64.wrap (IntKind.u64.wrap (p.n * 4096 + 4096) - 1) = p.n * 4096 + 4095 := by rw [IntKind.wrap_u64, IntKind.wrap_u64]; omega
      go_wp2_with fail
      all_goals first
        | (exfalso; omega)
        | (go_roundw
           case rel => exact ⟨_, hits, hbs⟩
           case measure => rw [hmY, hm0]; exact hlt)
end Go.Proofs.Ytnieomgopldlhaa
