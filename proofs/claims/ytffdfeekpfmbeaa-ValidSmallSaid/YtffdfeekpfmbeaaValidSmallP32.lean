/- The walk of Few. -/
import Derived.Deep.WholeRow
import Derived.Lib.Hide
import Derived.Test.YtffdfeekpfmbeaaValidSmallP5
import Derived.Test.YtffdfeekpfmbeaaValidSmallP7
namespace Go.Proofs.Ytffdfeekpfmbeaa
open Go Go.RowKit Go.BigFrame

theorem loadX {P : Program} {W : World} {b o k : Nat} {cs : List Value} (hk : cs.length = k) (h : ∀ j u, cs[j]? = some u → W.cell? ⟨b, o + j, none⟩ = some u) : Sem.run P (loadCellsFrom ⟨b, o, none⟩ 0 k #[]) W = .ok cs.toArray W := by
  have := run_loadCells_list (P := P) (w := W) ⟨b, o, none⟩ cs (fun j v hv => by rw [Go.WideShapes.add_plain]; exact h j v hv)
  rw [hk] at this
  simpa [loadCells] using this
section
variable {P : Program} {ops : Array Oper} {rest : List Oper} {o : Oper} {a : Act} {w : World} {Q : Exit → Act → World → Prop}
/-- A struct of many cells is loaded: no unrolling. -/
theorem wpl_load_x (hgd : o.guard = none) (t : TypeId) (x : Operand) (ho : o.op = .load t x) (b off n : Nat) (cs : List Value) {d : TypeDesc} (hu : P.underlying t = some d) (hd : (match d with | .struct _ | .array _ _ => true | _ => false) = true) (hi : (P.info? t).map (·.size) = some n)
    (hx : a.eval x = .pointer (some ⟨b, off, none⟩)) (hk : cs.length = n) (hce : ∀ j u, cs[j]? = some u → w.cell? ⟨b, off + j, none⟩ = some u) (h : wpList P ops Q rest (a.put o.dst (.agg cs.toArray)) w) : wpList P ops Q (o :: rest) a w := by
  refine wpList_plain hgd fun K hK => ?_
  have hl := loadX (P := P) hk hce
  cases hq : P.info? t with
  | none => simp [hq] at hi
  | some i =>
    have hs : i.size = n := by simpa [hq] using hi
    have hagg : (isAgg t).run P w = .ok true w := by
      unfold isAgg
      rw [Sem.run_bind, run_underlying hu w]
      cases d <;> simp_all
    have hv : (loadVar t ⟨b, off, none⟩).run P w = .ok (.agg cs.toArray) w := by
      simp [loadVar, Sem.run_bind, hagg, sizeOf, typeInfo, hq, hs, loadCells, hl]
    unfold Oper.wp execOp
    simp only [ho, hx, Instr.loadAt, Instr.sureAddr, Sem.run_bind, Sem.run_pure, Result.andThen_ok, hv]
    exact hK _ _ h
/-- A variable of many cells is made. -/
theorem wpl_alloc_x (hgd : o.guard = none) (t : TypeId) (ho : o.op = .alloc t) {zs : Array Value} {n : Nat} (hi : (P.info? t).map (fun i => (i.zero, i.size)) = some (some (.agg zs), n))
    (h : wpList P ops Q rest (a.put o.dst (.pointer (some ⟨w.heap.size, 0, none⟩))) (w.alloc (.cells zs t))) : wpList P ops Q (o :: rest) a w := by
  refine wpList_plain hgd fun K hK => ?_
  have hz := (zero_of_info hi).1 w
  unfold Oper.wp execOp
  simp only [ho, Instr.alloc, newVar, Sem.run_bind, Sem.run_pure, Result.andThen_ok, hz, Value.cells]
  exact hK _ _ h
/-- A struct of many cells is stored into the variable that was made last. -/
theorem wpl_store_x (hgd : o.guard = none) (t : TypeId) (p x : Operand) (ho : o.op = .store t p x) {c c' : Array Value} (hi : (P.info? t).map (·.size) = some c'.size) (hs : c.size = c'.size) (h1 : c'.all (·.oneCell') = true)
    (hp : a.eval p = .pointer (some ⟨w.heap.size, 0, none⟩)) (hx : a.eval x = .agg c') (h : wpList P ops Q rest (a.put o.dst (.tuple #[])) (w.alloc (.cells c' t))) : wpList P ops Q (o :: rest) a (w.alloc (.cells c t)) := by
  refine wpList_plain hgd fun K hK => ?_
  have hr := run_storeAt_new (P := P) w t c c' hi hs h1
  unfold Oper.wp execOp
  simp only [ho, hp, hx, Sem.run_bind, Sem.run_pure, Result.andThen_ok, hr]
  exact hK _ _ h
end
def zGuest : Array Value := #[.string ⟨#[]⟩, .bool false, .int .u32 0, .int .u32 0, .int .u32 0, .int .u64 0, .int .u64 0] ++ Array.replicate 68 (.int .u8 0) ++ #[.slice none 0 0, .slice none 0 0, .slice none 0 0, .slice none 0 0]
theorem zGuest_info : (Try.prog.info? 61).map (fun i => (i.zero, i.size)) = some (some (.agg zGuest), 79) := by kernel_rfl
theorem guest_size : (Try.prog.info? 61).map (·.size) = some 79 := by kernel_rfl
theorem RowX.one {α : Type} {C : Nat} {R : World → List Value → α → Prop} {w : World} {v : Value} {l : List α} (h : RowX C R w v l) : v.oneCell' = true := by
  obtain ⟨a, cap, rfl, _⟩ := h; rfl
theorem GuestR.one {w : World} {cs : List Value} {x : GuestV} (h : GuestR w cs x) (hl : cs.length = 79) : cs.toArray.all (·.oneCell') = true := by
  rw [List.all_toArray, List.all_eq_true]
  intro u hu
  obtain ⟨j, hj, rfl⟩ := List.mem_iff_getElem.1 hu
  have key : ∀ v, cs[j]? = some v → v.oneCell' = true → (cs[j]).oneCell' = true := fun v e h => by
    rw [List.getElem?_eq_getElem hj] at e
    injection e with e
    rw [e]; exact h
  obtain ⟨v8, e8, r8⟩ := h.win
  obtain ⟨v9, e9, r9⟩ := h.dev
  obtain ⟨v10, e10, r10⟩ := h.irq
  obtain ⟨v11, e11, r11⟩ := h.str
  rcases (show j = 0 ∨ j = 1 ∨ j = 2 ∨ j = 3 ∨ j = 4 ∨ j = 5 ∨ j = 6 ∨ (7 ≤ j ∧ j < 75) ∨ j = 75 ∨ j = 76 ∨ j = 77 ∨ j = 78 by omega) with rfl | rfl | rfl | rfl | rfl | rfl | rfl | ⟨h1, h2⟩ | rfl | rfl | rfl | rfl
  · exact key _ h.name rfl
  · exact key _ h.mand rfl
  · exact key _ h.off.1 rfl
  · exact key _ h.len.1 rfl
  · exact key _ h.cpus.1 rfl
  · exact key _ h.entry.1 rfl
  · exact key _ h.dtb.1 rfl
  · obtain ⟨i, rfl⟩ : ∃ i, j = 7 + i := ⟨j - 7, by omega⟩
    have e := take_get h.key.1 (j := i) (by omega)
    rw [List.getElem?_map, List.getElem?_eq_getElem (show i < x.key.length by rw [h.key.2.1]; omega)] at e
    exact key _ e rfl
  · exact key _ e8 r8.one
  · exact key _ e9 r9.one
  · exact key _ e10 r10.one
  · exact key _ e11 r11.one
end Go.Proofs.Ytffdfeekpfmbeaa
