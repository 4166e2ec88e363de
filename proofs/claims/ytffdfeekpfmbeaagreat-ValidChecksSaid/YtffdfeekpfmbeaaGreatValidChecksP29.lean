/- The walk of Few. -/
import Derived.Deep.WholeRow
import Derived.Lib.Hide
import Derived.Test.YtffdfeekpfmbeaaGreatValidChecksP5
import Derived.Test.YtffdfeekpfmbeaaGreatValidChecksP7
namespace Go.Proofs.YtffdfeekpfmbeaaGreat
open Go Go.RowKit Go.BigFrame

theorem loadX {P : Program} {W : World} {b o k : Nat} {cs : List Value} (hk : cs.length = k) (h : ∀ j u, cs[j]? = some u → W.cell? ⟨b, o + j, none⟩ = some u) : Sem.run P (loadCellsFrom ⟨b, o, none⟩ 0 k #[]) W = .ok cs.toArray W := by
  have := run_loadCells_list (P := P) (w := W) ⟨b, o, none⟩ cs (fun j v hv => by rw [Go.WideShapes.add_plain]; exact h j v hv)
  rw [hk] at this
  simpa [loadCells] using this
section
variable {P : Program} {ops : Array Oper} {rest : List Oper} {o : Oper} {a : Act} {w : World} {Q : Exit → Act → World → Prop}
/-- A struct of many cells is loaded: no unrolling. -/
theorem wpl_load_x (hgd : o.guard = none) (t : TypeId) (x : Operand) (ho : o.op = .load t x) (b off n : Nat) (cs : List Value) {d : TypeDesc} (hu : P.underlying t = some d) (hd : (match d with | .struct _ | .array _ _ => true | _ => false) = true) (hi : (P.info? t).map (·.size) = some n)
    (hx : a.eval x = .pointer (some ⟨b, off, none⟩)) (hk : cs.length = n) (hce : ∀ j u, cs[j]? = some u → w.cell? ⟨b, off + j, none⟩ = some u) (h : wpList P ops Q rest (a.put o.dst (.agg cs.toArray)) w) : wpList P ops Q (o :: rest) a w := by
  refine wpList_plain hgd fun K hK => ?_
  have hl := loadX (P := P) hk hce
  cases hq : P.info? t with
  | none => simp [hq] at hi
  | some i =>
    have hs : i.size = n := by simpa [hq] using hi
    have hagg : (isAgg t).run P w = .ok true w := by
      unfold isAgg
      rw [Sem.run_bind, run_underlying hu w]
      cases d <;> simp_all
    have hv : (loadVar t ⟨b, off, none⟩).run P w = .ok (.agg cs.toArray) w := by
      simp [loadVar, Sem.run_bind, hagg, sizeOf, typeInfo, hq, hs, loadCells, hl]
    unfold Oper.wp execOp
    simp only [ho, hx, Instr.loadAt, Instr.sureAddr, Sem.run_bind, Sem.run_pure, Result.andThen_ok, hv]
    exact hK _ _ h
/-- A variable of many cells is made. -/
theorem wpl_alloc_x (hgd : o.guard = none) (t : TypeId) (ho : o.op = .alloc t) {zs : Array Value} {n : Nat} (hi : (P.info? t).map (fun i => (i.zero, i.size)) = some (some (.agg zs), n))
    (h : wpList P ops Q rest (a.put o.dst (.pointer (some ⟨w.heap.size, 0, none⟩))) (w.alloc (.cells zs t))) : wpList P ops Q (o :: rest) a w := by
  refine wpList_plain hgd fun K hK => ?_
  have hz := (zero_of_info hi).1 w
  unfold Oper.wp execOp
  simp only [ho, Instr.alloc, newVar, Sem.run_bind, Sem.run_pure, Result.andThen_ok, hz, Value.cells]
  exact hK _ _ h
/-- A struct of many cells is stored into the variable that was made last. -/
theorem wpl_store_x (hgd : o.guard = none) (t : TypeId) (p x : Operand) (ho : o.op = .store t p x) {c c' : Array Value} (hi : (P.info? t).map (·.size) = some c'.size) (hs : c.size = c'.size) (h1 : c'.all (·.oneCell') = true)
    (hp : a.eval p = .pointer (some ⟨w.heap.size, 0, none⟩)) (hx : a.eval x = .agg c') (h : wpList P ops Q rest (a.put o.dst (.tuple #[])) (w.alloc (.cells c' t))) : wpList P ops Q (o :: rest) a (w.alloc (.cells c t)) := by
  refine wpList_plain hgd fun K hK => ?_
  have hr := run_storeAt_new (P := P) w t c c' hi hs h1
  unfold Oper.wp execOp
  simp only [ho, hp, hx, Sem.run_bind, Sem.run_pure, Result.andThen_ok, hr]
  exact hK _ _ h
end
def zGuest : Array Value := #[.string ⟨#[]⟩, .bool false, .int .u32 0, .int .u32 0, .int .u32 0, .int .u64 0, .int .u64 0] ++ Array.replicate 68 (.int .u8 0) ++ #[.slice none 0 0, .slice none 0 0, .slice none 0 0, .slice none 0 0]
theorem zGuest_info : (Tryz.prog.info? 50).map (fun i => (i.zero, i.size)) = some (some (.agg zGuest), 79) := by kernel_rfl
theorem guest_size : (Tryz.prog.info? 50).map (·.size) = some 79 := by kernel_rfl
theorem RowX.one {α : Type} {C : Nat} {R : World → List Value → α → Prop} {w : World} {v : Value} {l : List α} (h : RowX C R w v l) : v.oneCell' = true := by
  obtain ⟨a, cap, rfl, _⟩ := h; rfl
theorem GuestR.one {w : World} {cs : List Value} {x : GuestV} (h : GuestR w cs x) (hl : cs.length = 79) : cs.toArray.all (·.oneCell') = true := by
  rw [List.all_toArray, List.all_eq_true]
  intro u hu
  obtain ⟨j, hj, rfl⟩ := List.mem_iff_getElem.1 hu
  have key : ∀ v, cs[j]? = some v → v.oneCell' = true → (cs[j]).oneCell' = true := fun v e h => by
    rw [List.getElem?_eq_getElem hj] at e
    injection e with e
    rw [e]; exact h
  obtain ⟨v8, e8, r8⟩ := h.win
  obtain ⟨v9, e9, r9⟩ := h.dev
  obtain ⟨v10, e10, r10⟩ := h.irq
  obtain ⟨v11, e11, r11⟩ := h.str
  rcases (show j = 0 ∨ j = 1 ∨ j = 2 ∨ j = 3 ∨ j = 4 ∨ j = 5 ∨ j = 6 ∨ (7 ≤ j ∧ j < 75) ∨ j = 75 ∨ j = 76 ∨ j = 77 ∨ j = 78 by omega) with rfl | rfl | rfl | rfl | rfl | rfl | rfl | ⟨h1, h2⟩ | rfl | rfl | rfl | rfl
  · exact key _ h.name rfl
  · exact key _ h.mand rfl
  · exact key _ h.off.1 rfl
  · exact key _ h.len.1 rfl
  · exact key _ h.cpus.1 rfl
  · exact key _ h.entry.1 rfl
  · exact key _ h.dtb.1 rfl
  · obtain ⟨i, rfl⟩ : ∃ i, j = 7 + i := ⟨j - 7, by omega⟩
    have e := take_get h.key.1 (j := i) (by omega)
    rw [List.getElem?_map, List.getElem?_eq_getElem (show i < x.key.length by rw [h.key.2.1]; omega)] at e
    exact key _ e rfl
  · exact key _ e8 r8.one
  · exact key _ e9 r9.one
  · exact key _ e10 r10.one
  · exact key _ e11 r11.one
def fewG (g : GuestV) : Bool := decide (g.win.length ≤ 20) && (decide (g.dev.length ≤ 20) && (decide (g.irq.length ≤ 70) && (decide (g.str.length ≤ 40) && decide (g.name.size ≤ 100))))
def fewV (gs : List GuestV) (chs : List ChV) : Bool := decide (gs.length ≤ 20) && (decide (chs.length ≤ 40) && gs.all fewG)
set_option maxRecDepth 100000 in
set_option maxHeartbeats 4000000 in
theorem few_any (ver : Int) (vg vc : Value) (gs : List GuestV) (chs : List ChV) (w : World) (hg : RowG w vg gs) (hc : RowC w vc chs) :
    Calls Tryz.prog 5 #[.agg #[.int .u32 ver, vg, vc]] w fun e w' => e = .returned (.bool (fewV gs chs)) ∧ Below w.heap.size w w' := by
  obtain ⟨ag, cg, rfl, hgl, hgm, hgc⟩ := hg
  obtain ⟨ac, cc, rfl, _, _, _⟩ := hc
  by_cases h1 : gs.length ≤ 20
  · by_cases h2 : chs.length ≤ 40
    · have h1' : ¬ (20 : Int) < (gs.length : Int) := by omega
      have h2' : ¬ (40 : Int) < (chs.length : Int) := by omega
      have hfe : fewV gs chs = gs.all fewG := by unfold fewV; rw [decide_eq_true h1, decide_eq_true h2]; rfl
      replace h1 := Lib.hid h1
      replace h2 := Lib.hid h2
      replace hfe := Lib.hid hfe
      go_enter Tryz.func5, Tryz.ntmps5
      go_wp2_with fail
      go_loopw [18] (fun i wr => ∃ k : Nat, k ≤ gs.length ∧ i = .int .i64 k ∧ (∀ j (h : j < gs.length), j < k → fewG gs[j] = true) ∧ Below w.heap.size w wr) (fun i _ => gs.length - (intOf i).toNat)
      case atStart => exact ⟨0, Nat.zero_le _, rfl, fun j _ hj => by omega, bone _ _⟩
      case round =>
        obtain ⟨k, hk, rfl, hall, hB⟩ := hrel
        have hz := hB.size
        by_cases hlt : k < gs.length
        · obtain ⟨b, off, rfl, hb, hcell⟩ := hgc (by rintro rfl; simp at hlt)
          obtain ⟨cs, hR, hcl, hce⟩ := hcell k hlt
          have hld := loadX (P := Tryz.prog) (W := wr) (b := b) (o := off + k * 79) hcl (fun j u hu => cell_lt hB (hce j u hu) hb)
          have hsl : cs.toArray.size = 79 := by simpa using hcl
          have hone := hR.one hcl
          have hnew : ∀ j u, cs[j]? = some u → (wr.alloc (.cells cs.toArray 50)).cell? ⟨wr.heap.size, j, none⟩ = some u := fun j u hu => by rw [World.cell?_alloc_new]; simpa using hu
          obtain ⟨v8, e8, r8⟩ := hR.win
          obtain ⟨v9, e9, r9⟩ := hR.dev
          obtain ⟨v10, e10, r10⟩ := hR.irq
          obtain ⟨v11, e11, r11⟩ := hR.str
          have n0 := hnew _ _ hR.name
          have n8 := hnew _ _ e8
          have n9 := hnew _ _ e9
          have n10 := hnew _ _ e10
          have n11 := hnew _ _ e11
          obtain ⟨a8, k8, rfl, _⟩ := r8
          obtain ⟨a9, k9, rfl, _⟩ := r9
          obtain ⟨a10, k10, rfl, _⟩ := r10
          obtain ⟨a11, k11, rfl, _⟩ := r11
          have hce' : ∀ j u, cs[j]? = some u → wr.cell? ⟨b, off + k * 79 + j, none⟩ = some u := fun j u hu => cell_lt hB (hce j u hu) hb
          have hfg : fewG gs[k] = (decide (gs[k].win.length ≤ 20) && (decide (gs[k].dev.length ≤ 20) && (decide (gs[k].irq.length ≤ 70) && (decide (gs[k].str.length ≤ 40) && decide (gs[k].name.size ≤ 100))))) := rfl
          have hno : fewG gs[k] = false → gs.all fewG = false := fun h => by
            rw [List.all_eq_false]
            exact ⟨gs[k], List.getElem_mem hlt, by rw [h]; simp⟩
          have hyes : fewG gs[k] = true → ∀ j (h : j < gs.length), j < k + 1 → fewG gs[j] = true := fun h j hj hjk => by
            by_cases e : j = k
            · subst e; exact h
            · exact hall j hj (by omega)
          clear hnew hce hR e8 e9 e10 e11 hld hcell hall
          generalize gs[k] = g at *
          replace hgl := Lib.hid hgl
          replace hno := Lib.hid hno
          replace hyes := Lib.hid hyes
          replace hfg := Lib.hid hfg
          have hcase : (¬ (20 : Int) < g.win.length ∧ ¬ (20 : Int) < g.dev.length ∧ ¬ (70 : Int) < g.irq.length ∧ ¬ (40 : Int) < g.str.length ∧ ¬ (100 : Int) < g.name.size) ∨ fewG g = false ∧ ((20 : Int) < g.win.length ∨ (¬ (20 : Int) < g.win.length ∧ (20 : Int) < g.dev.length) ∨ (¬ (20 : Int) < g.win.length ∧ ¬ (20 : Int) < g.dev.length ∧ (70 : Int) < g.irq.length) ∨ (¬ (20 : Int) < g.win.length ∧ ¬ (20 : Int) < g.dev.length ∧ ¬ (70 : Int) < g.irq.length ∧ (40 : Int) < g.str.length) ∨ (¬ (20 : Int) < g.win.length ∧ ¬ (20 : Int) < g.dev.length ∧ ¬ (70 : Int) < g.irq.length ∧ ¬ (40 : Int) < g.str.length ∧ (100 : Int) < g.name.size)) := by
            rw [hfg.out]
            simp only [Bool.and_eq_false_iff, decide_eq_false_iff_not]
            omega
          rcases hcase with ⟨q1, q2, q3, q4, q5⟩ | ⟨hf, hcase⟩
          · have hy := hyes.out (by rw [hfg.out]; simp only [Bool.and_eq_true, decide_eq_true_iff]; omega)
            replace hy := Lib.hid hy
            clear hno hyes hfg
            go_wp2_with (first | (refine wpl_load_x rfl 50 _ rfl b (off + k * 79) 79 cs Tryz.underlying50 rfl guest_size rfl hcl hce' ?_) | (refine wpl_alloc_x rfl 50 rfl zGuest_info ?_) | (refine wpl_store_x rfl 50 _ _ rfl (by rw [hsl]; exact guest_size) (by rw [hsl]; rfl) hone rfl rfl ?_))
            go_roundw
            case rel => exact ⟨k + 1, by omega, by go_num, hy.out, hB.alloc hz _⟩
            case measure => simp [intOf]; omega
          · have hn := hno.out hf
            rw [← hfe.out] at hn
            replace hn := Lib.hid hn
            clear hno hyes hfg hf
            rcases hcase with q1 | ⟨q1, q2⟩ | ⟨q1, q2, q3⟩ | ⟨q1, q2, q3, q4⟩ | ⟨q1, q2, q3, q4, q5⟩
            all_goals
              go_wp2_with (first | (refine wpl_load_x rfl 50 _ rfl b (off + k * 79) 79 cs Tryz.underlying50 rfl guest_size rfl hcl hce' ?_) | (refine wpl_alloc_x rfl 50 rfl zGuest_info ?_) | (refine wpl_store_x rfl 50 _ _ rfl (by rw [hsl]; exact guest_size) (by rw [hsl]; rfl) hone rfl rfl ?_))
              go_ret
              exact ⟨by rw [hn.out]; rfl, hB.alloc hz _⟩
        · obtain rfl : k = gs.length := by omega
          have hy : fewV gs chs = true := by
            rw [hfe.out, List.all_eq_true]
            intro g hg
            obtain ⟨j, hj, rfl⟩ := List.mem_iff_getElem.1 hg
            exact hall j hj hj
          replace hy := Lib.hid hy
          clear hall
          go_wp2_with fail
          go_ret
          exact ⟨by rw [hy.out]; rfl, hB⟩
    · have h1' : ¬ (20 : Int) < (gs.length : Int) := by omega
      have h2' : (40 : Int) < (chs.length : Int) := by omega
      have hfe : fewV gs chs = false := by unfold fewV; rw [decide_eq_false h2]; simp
      replace hfe := Lib.hid hfe
      clear h1 h2
      go_enter Tryz.func5, Tryz.ntmps5
      go_wp2_with fail
      go_ret
      exact ⟨by rw [hfe.out]; rfl, bone _ _⟩
  · have h1' : (20 : Int) < (gs.length : Int) := by omega
    have hfe : fewV gs chs = false := by unfold fewV; rw [decide_eq_false h1]; rfl
    replace hfe := Lib.hid hfe
    clear h1
    go_enter Tryz.func5, Tryz.ntmps5
    go_wp2_with fail
    go_ret
    exact ⟨by rw [hfe.out]; rfl, bone _ _⟩
end Go.Proofs.YtffdfeekpfmbeaaGreat
