/- The walk of valid's lines: rules 8 and 9. -/
import Derived.Test.YtffdfeekpfmbeaaGreatValidChecksP17
import Derived.Test.YtffdfeekpfmbeaaGreatValidChecksP20
namespace Go.Proofs.YtffdfeekpfmbeaaGreat
open Go Go.RowKit Go.BigFrame Go.Maps Go.MapKept
open Go.ChangeMaps (setBlock)

def keyI (n : Int) : Value := .int .i64 n
def keyU (n : Int) : Value := .int .u32 n
theorem zeroCnt (w : World) : (zeroValue 3).run Tryz.prog w = .ok (.int .i64 0) w := by kernel_rfl
theorem mapII : ∃ k e, Tryz.prog.underlying 55 = some (.map k e) ∧ k = 3 ∧ e = 3 := ⟨_, _, by kernel_rfl, rfl, rfl⟩
theorem mapUI : ∃ k e, Tryz.prog.underlying 56 = some (.map k e) ∧ k = 27 ∧ e = 3 := ⟨_, _, by kernel_rfl, rfl, rfl⟩
theorem keyedI : Keyed Tryz.prog 3 := int_keyed Tryz.underlying3
theorem keyedU : Keyed Tryz.prog 27 := int_keyed Tryz.underlying27
theorem keyI_of {n : Int} (h : I64 n) : keyOf Tryz.prog 3 (keyI n) = some (.int .i64 n) := by
  refine keyOf_int_mk Tryz.underlying3 ?_
  have h1 : IntKind.i64.min = -9223372036854775808 := rfl
  have h2 : IntKind.i64.max = 9223372036854775807 := rfl
  unfold I64 at h
  simp [Lit.wf, h1, h2]; omega
theorem keyU_of {n : Int} (h : U32 n) : keyOf Tryz.prog 27 (keyU n) = some (.int .u32 n) := by
  refine keyOf_int_mk Tryz.underlying27 ?_
  have h1 : IntKind.u32.min = 0 := rfl
  have h2 : IntKind.u32.max = 4294967295 := rfl
  unfold U32 at h
  simp [Lit.wf, h1, h2]; omega
/-- Numbers that may be keys, each once. -/
structure IrqM (W : World) (mi : Nat) (N : List Int) : Prop where
  kv : CntKV W mi (N.map keyI)
  ok : ∀ n ∈ N, I64 n
structure StrM (W : World) (ms : Nat) (N : List Int) : Prop where
  kv : CntKV W ms (N.map keyU)
  ok : ∀ n ∈ N, U32 n
theorem mem_keyI {N : List Int} {n : Int} : keyI n ∈ N.map keyI ↔ n ∈ N := by
  rw [List.mem_map]
  constructor
  · rintro ⟨m, hm, e⟩; injection e with _ e; rw [← e]; exact hm
  · exact fun h => ⟨n, h, rfl⟩
theorem mem_keyU {N : List Int} {n : Int} : keyU n ∈ N.map keyU ↔ n ∈ N := by
  rw [List.mem_map]
  constructor
  · rintro ⟨m, hm, e⟩; injection e with _ e; rw [← e]; exact hm
  · exact fun h => ⟨n, h, rfl⟩
theorem IrqM.same {W W' : World} {mi : Nat} {N : List Int} (h : IrqM W mi N) (hb : W'.heap[mi]? = W.heap[mi]?) : IrqM W' mi N := ⟨h.kv.same hb, h.ok⟩
theorem StrM.same {W W' : World} {mi : Nat} {N : List Int} (h : StrM W mi N) (hb : W'.heap[mi]? = W.heap[mi]?) : StrM W' mi N := ⟨h.kv.same hb, h.ok⟩
theorem irq_up {W : World} {mi : Nat} {N : List Int} (h : IrqM W mi N) {n : Int} (hn : I64 n) :
    (n ∉ N ∧ (∀ W', W'.heap[mi]? = W.heap[mi]? → (Instr.lookup 55 (.map (some mi)) (.int .i64 n) false).run Tryz.prog W' = .ok (.int .i64 0) W') ∧ ∀ W', W'.heap[mi]? = W.heap[mi]? → ∃ o, (Instr.mapUpdate 55 (.map (some mi)) (.int .i64 n) (.int .i64 1)).run Tryz.prog W' = .ok () (setBlock W' mi o) ∧ IrqM (setBlock W' mi o) mi (N ++ [n]) ∧
      ∀ W2, W2.heap[mi]? = (setBlock W' mi o).heap[mi]? → (Instr.lookup 55 (.map (some mi)) (.int .i64 n) false).run Tryz.prog W2 = .ok (.int .i64 1) W2) ∨
    (n ∈ N ∧ (∀ W', W'.heap[mi]? = W.heap[mi]? → (Instr.lookup 55 (.map (some mi)) (.int .i64 n) false).run Tryz.prog W' = .ok (.int .i64 1) W') ∧ ∀ W', W'.heap[mi]? = W.heap[mi]? → ∃ o, (Instr.mapUpdate 55 (.map (some mi)) (.int .i64 n) (.int .i64 2)).run Tryz.prog W' = .ok () (setBlock W' mi o) ∧
      ∀ W2, W2.heap[mi]? = (setBlock W' mi o).heap[mi]? → (Instr.lookup 55 (.map (some mi)) (.int .i64 n) false).run Tryz.prog W2 = .ok (.int .i64 2) W2) := by
  obtain ⟨k, e, ht, rfl, rfl⟩ := mapII
  rcases cnt_up keyedI ht zeroCnt h.kv (fun x hx => by obtain ⟨m, hm, rfl⟩ := List.mem_map.1 hx; exact ⟨_, keyI_of (h.ok m hm)⟩) (keyI_of hn) with ⟨h1, h2, h3⟩ | ⟨h1, h2, h3⟩
  · refine .inl ⟨fun e => h1 (mem_keyI.2 e), h2, fun W' hb => ?_⟩
    obtain ⟨o, g1, g2, g3⟩ := h3 W' hb
    refine ⟨o, g1, ⟨by rw [List.map_append]; exact g2, fun m hm => ?_⟩, g3⟩
    rcases List.mem_append.1 hm with hm | hm
    · exact h.ok m hm
    · rw [List.mem_singleton.1 hm]; exact hn
  · exact .inr ⟨mem_keyI.1 h1, h2, h3⟩
theorem str_up {W : World} {mi : Nat} {N : List Int} (h : StrM W mi N) {n : Int} (hn : U32 n) :
    (n ∉ N ∧ (∀ W', W'.heap[mi]? = W.heap[mi]? → (Instr.lookup 56 (.map (some mi)) (.int .u32 n) false).run Tryz.prog W' = .ok (.int .i64 0) W') ∧ ∀ W', W'.heap[mi]? = W.heap[mi]? → ∃ o, (Instr.mapUpdate 56 (.map (some mi)) (.int .u32 n) (.int .i64 1)).run Tryz.prog W' = .ok () (setBlock W' mi o) ∧ StrM (setBlock W' mi o) mi (N ++ [n]) ∧
      ∀ W2, W2.heap[mi]? = (setBlock W' mi o).heap[mi]? → (Instr.lookup 56 (.map (some mi)) (.int .u32 n) false).run Tryz.prog W2 = .ok (.int .i64 1) W2) ∨
    (n ∈ N ∧ (∀ W', W'.heap[mi]? = W.heap[mi]? → (Instr.lookup 56 (.map (some mi)) (.int .u32 n) false).run Tryz.prog W' = .ok (.int .i64 1) W') ∧ ∀ W', W'.heap[mi]? = W.heap[mi]? → ∃ o, (Instr.mapUpdate 56 (.map (some mi)) (.int .u32 n) (.int .i64 2)).run Tryz.prog W' = .ok () (setBlock W' mi o) ∧
      ∀ W2, W2.heap[mi]? = (setBlock W' mi o).heap[mi]? → (Instr.lookup 56 (.map (some mi)) (.int .u32 n) false).run Tryz.prog W2 = .ok (.int .i64 2) W2) := by
  obtain ⟨k, e, ht, rfl, rfl⟩ := mapUI
  rcases cnt_up keyedU ht zeroCnt h.kv (fun x hx => by obtain ⟨m, hm, rfl⟩ := List.mem_map.1 hx; exact ⟨_, keyU_of (h.ok m hm)⟩) (keyU_of hn) with ⟨h1, h2, h3⟩ | ⟨h1, h2, h3⟩
  · refine .inl ⟨fun e => h1 (mem_keyU.2 e), h2, fun W' hb => ?_⟩
    obtain ⟨o, g1, g2, g3⟩ := h3 W' hb
    refine ⟨o, g1, ⟨by rw [List.map_append]; exact g2, fun m hm => ?_⟩, g3⟩
    rcases List.mem_append.1 hm with hm | hm
    · exact h.ok m hm
    · rw [List.mem_singleton.1 hm]; exact hn
  · exact .inr ⟨mem_keyU.1 h1, h2, h3⟩
theorem OffV.setB {B b : Nat} {Bs : List Nat} {X Y : World} (h : OffV B Bs X Y) (hb : b ∈ Bs ∨ X.heap.size ≤ b) (hB : B ≤ b) (o : Obj) : OffV B Bs X (setBlock Y b o) :=
  h.trans (Cs := [b]) ⟨⟨rfl, rfl, rfl, by rw [setB_size]; exact Nat.le_refl _, fun k hk => setB_other o (by omega)⟩, fun k _ hk => setB_other o (by simpa using hk)⟩ (by simpa using hb)
theorem heapc {W W' : World} {b o : Nat} {v : Value} (h : W'.heap[b]? = W.heap[b]?) (c : W.cell? ⟨b, o, none⟩ = some v) : W'.cell? ⟨b, o, none⟩ = some v := by
  simp only [World.cell?] at c ⊢
  rw [h]; exact c

theorem kv_cell {W : World} {m : Nat} {kv : List (Value × Value)} (h : MapKV W m kv) {o : Nat} {v : Value} : W.cell? ⟨m, o, none⟩ ≠ some v := by
  obtain ⟨es, clock, h1, _⟩ := h
  simp [World.cell?, h1]
def linesR (b : BrdV) (t : GuestV) (N S : List Int) (g : Int) : List Rl :=
  [((List.range t.irq.length).all fun i => c8q b t t.irq[i]! && !((N ++ (t.irq.map IrqV.num).take i).contains t.irq[i]!.num), 8, g), ((List.range t.str.length).all fun i => decide (t.str[i]! < b.strs) && !((S ++ t.str.take i).contains t.str[i]!), 9, g)]
set_option maxRecDepth 100000 in
set_option maxHeartbeats 8000000 in
theorem lines_any (xb : Nat) (b : BrdV) (ver : Int) (vg vc : Value) (acc : Int) (mi ms : Nat) (vo vs : Value) (g : Int) (t : GuestV) (cs : List Value) (N S : List Int) (w : World) (hc : ChkAt w xb b ver vg vc acc mi ms vo vs) (hg : GuestR w cs t) (_hl : cs.length = 79) (hcnt : t.irq.length ≤ 1000000 ∧ t.str.length ≤ 1000000)
    (hN : IrqM w mi N) (hS : StrM w ms S) (hne : mi ≠ ms) (hs0 : 0 ≤ b.strs ∧ b.strs ≤ 256) (B : Nat) (hBw : B ≤ w.heap.size) (hBi : B ≤ mi) (hBs : B ≤ ms) (hxm : xb ≠ mi ∧ xb ≠ ms) :
    Calls Tryz.prog 26 #[.pointer (some ⟨xb, 0, none⟩), .int .i64 g, .agg cs.toArray] w fun e w' => e = endE (fb (linesR b t N S g)) ∧ OffV B [mi, ms] w w' ∧
      (e = .returned (.tuple #[]) → IrqM w' mi (N ++ t.irq.map IrqV.num) ∧ StrM w' ms (S ++ t.str)) := by
  obtain ⟨W1, hW1⟩ : ∃ W1, W1 = w.alloc (.cells cs.toArray 50) := ⟨_, rfl⟩
  have hb1 : Below w.heap.size w W1 := by rw [hW1]; exact bone _ _
  have hB1 : GBox W1 w.heap.size cs := by rw [hW1]; exact GBox.new _ _
  have hc1 := hc.below hb1
  have hz1 : W1.heap.size = w.heap.size + 1 := by rw [hW1]; simp
  obtain ⟨vi, ei, ri⟩ := hg.irq
  obtain ⟨vt, et, rt⟩ := hg.str
  have ri1 := ri.below hb1 lasts_irq
  have rt1 := rt.below hb1 lasts_str
  clear ri rt
  have d4 := hB1.cell hg.cpus.1
  have hcu := hg.cpus.2
  have d10 := hB1.cell ei
  have d11 := hB1.cell et
  have hmi : mi < w.heap.size := hN.kv.lt
  have hms : ms < w.heap.size := hS.kv.lt
  have hxlt := hc.lt
  have hN1 := hN.same (hb1.block mi hmi)
  have hS1 := hS.same (hb1.block ms hms)
  obtain ⟨ai, ki, rfl, hli, hmi', hci⟩ := ri1
  obtain ⟨at', kt, rfl, hlt', hmt, hct⟩ := rt1
  have k10 : cs.toArray[77]? = some (.slice ai t.irq.length ki) := by simpa using ei
  have k11 : cs.toArray[78]? = some (.slice at' t.str.length kt) := by simpa using et
  clear hg ei et hB1 hc _hl
  generalize cs.toArray = C at *
  have hO1 : OffV B [mi, ms] w W1 := OffV.of_below hb1 hBw
  have hR8 : ∀ i, i < t.irq.length → (c8q b t t.irq[i]! && !((N ++ (t.irq.map IrqV.num).take i).contains t.irq[i]!.num)) = false → fb (linesR b t N S g) = some (8, g) := fun i hi h => by
    unfold linesR
    rw [fb_cons, if_neg]
    rw [Bool.not_eq_true, List.all_eq_false]
    exact ⟨i, List.mem_range.2 hi, by rw [h]; simp⟩
  have hR9 : (∀ i, i < t.irq.length → (c8q b t t.irq[i]! && !((N ++ (t.irq.map IrqV.num).take i).contains t.irq[i]!.num)) = true) → ∀ i, i < t.str.length → (decide (t.str[i]! < b.strs) && !((S ++ t.str.take i).contains t.str[i]!)) = false → fb (linesR b t N S g) = some (9, g) := fun h8 i hi h => by
    unfold linesR
    rw [fb_cons, if_pos (by rw [List.all_eq_true]; intro i hi; exact h8 i (List.mem_range.1 hi)), fb_cons, if_neg]
    rw [Bool.not_eq_true, List.all_eq_false]
    exact ⟨i, List.mem_range.2 hi, by rw [h]; simp⟩
  have hRn : (∀ i, i < t.irq.length → (c8q b t t.irq[i]! && !((N ++ (t.irq.map IrqV.num).take i).contains t.irq[i]!.num)) = true) → (∀ i, i < t.str.length → (decide (t.str[i]! < b.strs) && !((S ++ t.str.take i).contains t.str[i]!)) = true) → fb (linesR b t N S g) = none := fun h8 h9 => by
    unfold linesR
    rw [fb_cons, if_pos (by rw [List.all_eq_true]; intro i hi; exact h8 i (List.mem_range.1 hi)), fb_cons, if_pos (by rw [List.all_eq_true]; intro i hi; exact h9 i (List.mem_range.1 hi))]; rfl
  generalize fb (linesR b t N S g) = R at *
  replace hW1 := Lib.hid hW1
  replace hc1 := Lib.hid hc1
  replace hR8 := Lib.hid hR8
  replace hR9 := Lib.hid hR9
  replace hRn := Lib.hid hRn
  go_enter Tryz.func26, Tryz.ntmps26
  go_wp2_with fail
  rw [← hW1.out]
  clear hW1 k10 k11
  go_loopw [13] (fun i wr => ∃ k : Nat, k ≤ t.irq.length ∧ i = .int .i64 k ∧ (∀ j, j < k → (c8q b t t.irq[j]! && !((N ++ (t.irq.map IrqV.num).take j).contains t.irq[j]!.num)) = true) ∧ IrqM wr mi (N ++ (t.irq.map IrqV.num).take k) ∧ OffV B [mi] W1 wr) (fun i _ => t.irq.length - (intOf i).toNat)
  case atStart => exact ⟨0, Nat.zero_le _, rfl, fun j hj => by omega, by simpa using hN1, OffV.refl _ _ _⟩
  case round =>
    obtain ⟨k, hk, rfl, hall, hM, hO⟩ := hrel
    have hzr := hO.below.size
    by_cases hlt : k < t.irq.length
    · obtain ⟨bw, ow, rfl, hbw, hcell⟩ := hci (by rintro e; simp [e] at hlt)
      obtain ⟨ws, ⟨rfl, hn64, hc64⟩, _, hce⟩ := hcell k hlt
      have hbm : bw ≠ mi := by rintro rfl; exact kv_cell hN1.kv (hce 0 _ rfl)
      have hkeep := hO.rest bw hbw (by simpa using hbm)
      have p0 := heapc hkeep (hce 0 _ rfl)
      have p1 := heapc hkeep (hce 1 _ rfl)
      have p2 := heapc hkeep (hce 2 _ rfl)
      simp only [Nat.add_zero] at p0
      have hix : t.irq[k]! = t.irq[k] := getElem!_pos t.irq k hlt
      have hno : (c8q b t t.irq[k] && !((N ++ (t.irq.map IrqV.num).take k).contains t.irq[k].num)) = false → R = some (8, g) := fun h => hR8.out k hlt (by rw [hix]; exact h)
      have hyes : (c8q b t t.irq[k] && !((N ++ (t.irq.map IrqV.num).take k).contains t.irq[k].num)) = true → ∀ j, j < k + 1 → (c8q b t t.irq[j]! && !((N ++ (t.irq.map IrqV.num).take j).contains t.irq[j]!.num)) = true := fun h j h2 => by
        by_cases e : j = k
        · subst e; rw [hix]; exact h
        · exact hall j (by omega)
      have htk : N ++ (t.irq.map IrqV.num).take (k + 1) = (N ++ (t.irq.map IrqV.num).take k) ++ [t.irq[k].num] := by
        rw [List.take_succ_eq_append_getElem (by simpa using hlt), List.getElem_map, List.append_assoc]
      have hup := irq_up hM hn64
      clear hce hcell hall hix hkeep
      generalize t.irq[k] = q at *
      generalize N ++ (t.irq.map IrqV.num).take k = M at *
      have hc8 : c8q b t q = (decide (32 ≤ q.num ∧ q.num < b.irqs) && (decide (0 ≤ q.cpu ∧ q.cpu < 32) && decide (bits .and .u32 (t.cpus / 2 ^ q.cpu.toNat) 1 = 1))) := rfl
      rw [hc8] at hno hyes
      clear hc8
      replace hyes := Lib.hid hyes
      replace hno := Lib.hid hno
      replace htk := Lib.hid htk
      obtain ⟨V, hV, hVz, hVb, v0, v1, v2⟩ := three_new wr (.int .i64 q.num) (.int .i64 q.cpu) (.bool q.edge) 101
      have hOV : OffV B [mi] W1 V := hO.then hVb (by omega)
      have hVlt : wr.heap.size < V.heap.size := by omega
      have hmV : mi < wr.heap.size := by omega
      have hMV := hVb.block mi hmV
      have hxW : xb < W1.heap.size := by omega
      have hcx : V.heap[xb]? = W1.heap[xb]? := hOV.rest xb hxW (by simpa using hxm.1)
      have x3 : V.cell? ⟨xb, 11, none⟩ = some (.map (some mi)) := heapc hcx (hc1.out.cell (j := 11) rfl)
      have x4 : V.cell? ⟨xb, 4, none⟩ = some (.int .i64 b.irqs) := heapc hcx (hc1.out.cell (j := 4) rfl)
      have hxV : xb < V.heap.size := by omega
      have hgW : w.heap.size < W1.heap.size := by omega
      have hgm : w.heap.size ≠ mi := by omega
      have y4 : V.cell? ⟨w.heap.size, 4, none⟩ = some (.int .u32 t.cpus) := heapc (hOV.rest _ hgW (by simpa using hgm)) d4
      have hmVV : mi < V.heap.size := by omega
      go_wp2_with fail
      rw [← hV]
      clear hV
      have a0 := later_cell (B := V.heap.size) v0 hVlt
      have a3 := later_cell (B := V.heap.size) x3 hxV
      rcases hup with ⟨hin, hlk, hst⟩ | ⟨hin, hlk, hst⟩
      · have hlk' : ∀ X : Later V.heap.size V, (Instr.lookup 55 (.map (some mi)) (.int .i64 q.num) false).run Tryz.prog X.x = .ok (.int .i64 0) X.x := fun X => hlk X.x ((X.h.block mi hmVV).trans hMV)
        refine region_later_tl V.heap.size V 8 (Below.refl _ _) (by kernel_rfl) (by kernel_rfl) ?_
        simp only [List.take_succ_cons, List.take_zero, List.drop_succ_cons, List.drop_zero]
        repeat (change wpQuiet _ _ _ _ (List.cons _ _) _; go_big_quiet_step (fail))
        refine wpQuiet_nil ?_
        rintro w2 ⟨X, rfl⟩
        have hX := X.h
        have hm2 := (hX.block mi hmVV).trans hMV
        generalize X.x = w2 at *
        clear X a0 a3 hlk' hlk
        obtain ⟨o, g1, g2, g3⟩ := hst w2 hm2
        clear hst
        go_wp2_with fail
        obtain ⟨V2, hV2⟩ : ∃ V2, V2 = setBlock w2 mi o := ⟨_, rfl⟩
        rw [← hV2] at g2 g3 ⊢
        have hO2 : OffV B [mi] V V2 := by rw [hV2]; exact ((OffV.refl B [mi] V).then hX (Nat.le_trans hBw (by omega))).setB (.inl (by simp)) hBi o
        clear hV2 g1
        have hz2 := hO2.below.size
        have hOV2 := hOV.trans hO2 (fun _ h => .inl h)
        have hqm : wr.heap.size ≠ mi := by omega
        have e0 : V2.cell? ⟨wr.heap.size, 0, none⟩ = some (.int .i64 q.num) := heapc (hO2.rest _ hVlt (by simpa using hqm)) v0
        have e1 : V2.cell? ⟨wr.heap.size, 1, none⟩ = some (.int .i64 q.cpu) := heapc (hO2.rest _ hVlt (by simpa using hqm)) v1
        have e3 : V2.cell? ⟨xb, 11, none⟩ = some (.map (some mi)) := heapc (hO2.rest _ hxV (by simpa using hxm.1)) x3
        have e4 : V2.cell? ⟨xb, 4, none⟩ = some (.int .i64 b.irqs) := heapc (hO2.rest _ hxV (by simpa using hxm.1)) x4
        have e5 : V2.cell? ⟨w.heap.size, 4, none⟩ = some (.int .u32 t.cpus) := heapc (hO2.rest _ (by omega) (by simpa using hgm)) y4
        clear v0 v1 v2 x3 x4 y4 p0 p1 p2
        have b0 := later_cell (B := V2.heap.size) e0 (by omega)
        have b3 := later_cell (B := V2.heap.size) e3 (by omega)
        have b4 := later_cell (B := V2.heap.size) e4 (by omega)
        have hlk2 : ∀ X : Later V2.heap.size V2, (Instr.lookup 55 (.map (some mi)) (.int .i64 q.num) false).run Tryz.prog X.x = .ok (.int .i64 1) X.x := fun X => g3 X.x (X.h.block mi (by omega))
        refine region_later_tl V2.heap.size V2 24 (Below.refl _ _) (by kernel_rfl) (by kernel_rfl) ?_
        simp only [List.take_succ_cons, List.take_zero, List.drop_succ_cons, List.drop_zero]
        by_cases h1 : 32 ≤ q.num
        case neg =>
          repeat (change wpQuiet _ _ _ _ (List.cons _ _) _; go_big_quiet_step (fail))
          refine wpQuiet_nil ?_
          rintro w3 ⟨X, rfl⟩
          have hX3 := X.h
          generalize X.x = w3 at *
          clear X
          have hO3 := hOV2.then hX3 (by omega)
          go_wp2_with fail
          refine (must_any _ _ _ _).mono ?_; rintro e w4 ⟨rfl, rfl⟩
          refine ⟨rfl, ?_, (hO1.trans hO3 (by simp)), fun h => by simp at h⟩
          rw [hno.out (by simp; intros; omega)]; rfl
        by_cases h2 : q.num < b.irqs
        case neg =>
          repeat (change wpQuiet _ _ _ _ (List.cons _ _) _; go_big_quiet_step (fail))
          refine wpQuiet_nil ?_
          rintro w3 ⟨X, rfl⟩
          have hX3 := X.h
          generalize X.x = w3 at *
          clear X
          have hO3 := hOV2.then hX3 (by omega)
          go_wp2_with fail
          refine (must_any _ _ _ _).mono ?_; rintro e w4 ⟨rfl, rfl⟩
          refine ⟨rfl, ?_, (hO1.trans hO3 (by simp)), fun h => by simp at h⟩
          rw [hno.out (by simp; intros; omega)]; rfl
        repeat (change wpQuiet _ _ _ _ (List.cons _ _) _; go_big_quiet_step (fail))
        refine wpQuiet_nil ?_
        rintro w3 ⟨X, rfl⟩
        have hX3 := X.h
        generalize X.x = w3 at *
        clear X
        have hO3 := hOV2.then hX3 (by omega)
        go_wp2_with fail
        refine (must_any _ _ _ _).mono ?_; rintro e w4 ⟨rfl, rfl⟩
        simp only [mustE]
        have f1 := cell_lt hX3 e1 (by omega)
        have f5 := cell_lt hX3 e5 (by omega)
        clear e0 e1 e3 e4 e5 b0 b3 b4 hlk2
        by_cases h3 : 0 ≤ q.cpu
        case neg =>
          go_wp2_with fail
          refine (must_any _ _ _ _).mono ?_; rintro e w4 ⟨rfl, rfl⟩
          refine ⟨rfl, ?_, (hO1.trans hO3 (by simp)), fun h => by simp at h⟩
          rw [hno.out (by simp; intros; omega)]; rfl
        by_cases h4 : q.cpu < 32
        case neg =>
          go_wp2_with fail
          refine (must_any _ _ _ _).mono ?_; rintro e w4 ⟨rfl, rfl⟩
          refine ⟨rfl, ?_, (hO1.trans hO3 (by simp)), fun h => by simp at h⟩
          rw [hno.out (by simp; intros; omega)]; rfl
        have s6 : ¬ q.cpu < 0 := by omega
        by_cases h5 : bits .and .u32 (t.cpus / 2 ^ q.cpu.toNat) 1 = 1
        case neg =>
          have h5' : (bits .and .u32 (t.cpus / 2 ^ q.cpu.toNat) 1 == 1) = false := by simpa using h5
          go_wp2_with fail
          refine (must_any _ _ _ _).mono ?_; rintro e w4 ⟨rfl, rfl⟩
          refine ⟨rfl, ?_, (hO1.trans hO3 (by simp)), fun h => by simp at h⟩
          rw [hno.out (by simp [h5])]; rfl
        have h5' : (bits .and .u32 (t.cpus / 2 ^ q.cpu.toNat) 1 == 1) = true := by simpa using h5
        go_wp2_with fail
        refine (must_any _ _ _ _).mono ?_; rintro e w4 ⟨rfl, rfl⟩
        simp only [mustE]
        go_wp2_with fail
        exact ⟨⟨k + 1, hlt, by go_num, hyes.out (by simp [h1, h2, h3, h4, h5, hin]), by rw [htk.out]; exact g2.same (hX3.block mi (by omega)), hO3⟩, by simp [intOf]; omega⟩
      · have hlk' : ∀ X : Later V.heap.size V, (Instr.lookup 55 (.map (some mi)) (.int .i64 q.num) false).run Tryz.prog X.x = .ok (.int .i64 1) X.x := fun X => hlk X.x ((X.h.block mi hmVV).trans hMV)
        refine region_later_tl V.heap.size V 8 (Below.refl _ _) (by kernel_rfl) (by kernel_rfl) ?_
        simp only [List.take_succ_cons, List.take_zero, List.drop_succ_cons, List.drop_zero]
        repeat (change wpQuiet _ _ _ _ (List.cons _ _) _; go_big_quiet_step (fail))
        refine wpQuiet_nil ?_
        rintro w2 ⟨X, rfl⟩
        have hX := X.h
        have hm2 := (hX.block mi hmVV).trans hMV
        generalize X.x = w2 at *
        clear X a0 a3 hlk' hlk
        obtain ⟨o, g1, g3⟩ := hst w2 hm2
        clear hst
        go_wp2_with fail
        obtain ⟨V2, hV2⟩ : ∃ V2, V2 = setBlock w2 mi o := ⟨_, rfl⟩
        rw [← hV2] at g3 ⊢
        have hO2 : OffV B [mi] V V2 := by rw [hV2]; exact ((OffV.refl B [mi] V).then hX (Nat.le_trans hBw (by omega))).setB (.inl (by simp)) hBi o
        clear hV2 g1
        have hz2 := hO2.below.size
        have hOV2 := hOV.trans hO2 (fun _ h => .inl h)
        have hqm : wr.heap.size ≠ mi := by omega
        have e0 : V2.cell? ⟨wr.heap.size, 0, none⟩ = some (.int .i64 q.num) := heapc (hO2.rest _ hVlt (by simpa using hqm)) v0
        have e1 : V2.cell? ⟨wr.heap.size, 1, none⟩ = some (.int .i64 q.cpu) := heapc (hO2.rest _ hVlt (by simpa using hqm)) v1
        have e3 : V2.cell? ⟨xb, 11, none⟩ = some (.map (some mi)) := heapc (hO2.rest _ hxV (by simpa using hxm.1)) x3
        have e4 : V2.cell? ⟨xb, 4, none⟩ = some (.int .i64 b.irqs) := heapc (hO2.rest _ hxV (by simpa using hxm.1)) x4
        have e5 : V2.cell? ⟨w.heap.size, 4, none⟩ = some (.int .u32 t.cpus) := heapc (hO2.rest _ (by omega) (by simpa using hgm)) y4
        clear v0 v1 v2 x3 x4 y4 p0 p1 p2
        have b0 := later_cell (B := V2.heap.size) e0 (by omega)
        have b3 := later_cell (B := V2.heap.size) e3 (by omega)
        have b4 := later_cell (B := V2.heap.size) e4 (by omega)
        have hlk2 : ∀ X : Later V2.heap.size V2, (Instr.lookup 55 (.map (some mi)) (.int .i64 q.num) false).run Tryz.prog X.x = .ok (.int .i64 2) X.x := fun X => g3 X.x (X.h.block mi (by omega))
        refine region_later_tl V2.heap.size V2 24 (Below.refl _ _) (by kernel_rfl) (by kernel_rfl) ?_
        simp only [List.take_succ_cons, List.take_zero, List.drop_succ_cons, List.drop_zero]
        by_cases h1 : 32 ≤ q.num
        case neg =>
          repeat (change wpQuiet _ _ _ _ (List.cons _ _) _; go_big_quiet_step (fail))
          refine wpQuiet_nil ?_
          rintro w3 ⟨X, rfl⟩
          have hX3 := X.h
          generalize X.x = w3 at *
          clear X
          have hO3 := hOV2.then hX3 (by omega)
          go_wp2_with fail
          refine (must_any _ _ _ _).mono ?_; rintro e w4 ⟨rfl, rfl⟩
          refine ⟨rfl, ?_, (hO1.trans hO3 (by simp)), fun h => by simp at h⟩
          rw [hno.out (by simp; intros; omega)]; rfl
        by_cases h2 : q.num < b.irqs
        case neg =>
          repeat (change wpQuiet _ _ _ _ (List.cons _ _) _; go_big_quiet_step (fail))
          refine wpQuiet_nil ?_
          rintro w3 ⟨X, rfl⟩
          have hX3 := X.h
          generalize X.x = w3 at *
          clear X
          have hO3 := hOV2.then hX3 (by omega)
          go_wp2_with fail
          refine (must_any _ _ _ _).mono ?_; rintro e w4 ⟨rfl, rfl⟩
          refine ⟨rfl, ?_, (hO1.trans hO3 (by simp)), fun h => by simp at h⟩
          rw [hno.out (by simp; intros; omega)]; rfl
        repeat (change wpQuiet _ _ _ _ (List.cons _ _) _; go_big_quiet_step (fail))
        refine wpQuiet_nil ?_
        rintro w3 ⟨X, rfl⟩
        have hX3 := X.h
        generalize X.x = w3 at *
        clear X
        have hO3 := hOV2.then hX3 (by omega)
        go_wp2_with fail
        refine (must_any _ _ _ _).mono ?_; rintro e w4 ⟨rfl, rfl⟩
        refine ⟨rfl, ?_, (hO1.trans hO3 (by simp)), fun h => by simp at h⟩
        rw [hno.out (by simp; intros; exact hin)]; rfl
    · obtain rfl : k = t.irq.length := by omega
      have hnl : (t.irq.map IrqV.num).take t.irq.length = t.irq.map IrqV.num := List.take_of_length_le (by simp)
      rw [hnl] at hM
      clear hnl hci
      have hR9' := hR9.out hall
      have hRn' := hRn.out hall
      clear hall hR8 hR9 hRn
      replace hR9' := Lib.hid hR9'
      replace hRn' := Lib.hid hRn'
      have hgW : w.heap.size < W1.heap.size := by omega
      have hgm : w.heap.size ≠ mi := by omega
      have y11 := heapc (hO.rest _ hgW (by simpa using hgm)) d11
      have hS2 := hS1.same (hO.rest ms (by omega) (by simpa using hne.symm))
      have hO' : OffV B [mi, ms] W1 wr := hO.mono (by simp)
      clear hO
      go_wp2_with fail
      clear y11
      obtain ⟨wo, rfl⟩ : ∃ wo, wo = wr := ⟨_, rfl⟩
      go_loopw [73] (fun i wr => ∃ k : Nat, k ≤ t.str.length ∧ i = .int .i64 k ∧ (∀ j, j < k → (decide (t.str[j]! < b.strs) && !((S ++ t.str.take j).contains t.str[j]!)) = true) ∧ StrM wr ms (S ++ t.str.take k) ∧ IrqM wr mi (N ++ t.irq.map IrqV.num) ∧ OffV B [mi, ms] W1 wr) (fun i _ => t.str.length - (intOf i).toNat)
      case atStart => exact ⟨0, Nat.zero_le _, rfl, fun j hj => by omega, by simpa using hS2, hM, hO'⟩
      case round =>
        clear hS2 hM hO' hzr
        obtain ⟨k, hk, rfl, hall, hS', hM, hO⟩ := hrel
        have hzr := hO.below.size
        by_cases hlt : k < t.str.length
        · obtain ⟨bw, ow, rfl, hbw, hcell⟩ := hct (by rintro e; simp [e] at hlt)
          obtain ⟨ws, ⟨rfl, hu⟩, _, hce⟩ := hcell k hlt
          have hbm : bw ≠ mi := by rintro rfl; exact kv_cell hN1.kv (hce 0 _ rfl)
          have hbs : bw ≠ ms := by rintro rfl; exact kv_cell hS1.kv (hce 0 _ rfl)
          have p0 := heapc (hO.rest bw hbw (by simp [hbm, hbs])) (hce 0 _ rfl)
          simp only [Nat.add_zero, Nat.mul_one] at p0
          have hix : t.str[k]! = t.str[k] := getElem!_pos t.str k hlt
          have hno : (decide (t.str[k] < b.strs) && !((S ++ t.str.take k).contains t.str[k])) = false → R = some (9, g) := fun h => hR9'.out k hlt (by rw [hix]; exact h)
          have hyes : (decide (t.str[k] < b.strs) && !((S ++ t.str.take k).contains t.str[k])) = true → ∀ j, j < k + 1 → (decide (t.str[j]! < b.strs) && !((S ++ t.str.take j).contains t.str[j]!)) = true := fun h j h2 => by
            by_cases e : j = k
            · subst e; rw [hix]; exact h
            · exact hall j (by omega)
          have htk : S ++ t.str.take (k + 1) = (S ++ t.str.take k) ++ [t.str[k]] := by
            rw [List.take_succ_eq_append_getElem hlt, List.append_assoc]
          have hup := str_up hS' hu
          clear hce hcell hall hix
          generalize t.str[k] = q at *
          generalize S ++ t.str.take k = M at *
          replace hyes := Lib.hid hyes
          replace hno := Lib.hid hno
          replace htk := Lib.hid htk
          have hxW : xb < W1.heap.size := by omega
          have hcx : wr.heap[xb]? = W1.heap[xb]? := hO.rest xb hxW (by simp [hxm])
          have x12 : wr.cell? ⟨xb, 12, none⟩ = some (.map (some ms)) := heapc hcx (hc1.out.cell (j := 12) rfl)
          have hw1 : IntKind.u64.wrap q = q := by have := hu.1; have := hu.2; rw [IntKind.wrap_u64]; omega
          have hw2 : IntKind.u64.wrap b.strs = b.strs := by rw [IntKind.wrap_u64]; omega
          rcases hup with ⟨hin, hlk, hst⟩ | ⟨hin, hlk, hst⟩
          · have hlk0 := hlk wr rfl
            obtain ⟨o, g1, g2, g3⟩ := hst wr rfl
            have hlk1 := g3 _ rfl
            have z12 : (setBlock wr ms o).cell? ⟨xb, 12, none⟩ = some (.map (some ms)) := heapc (setB_other o hxm.2) x12
            have z5 : (setBlock wr ms o).cell? ⟨xb, 5, none⟩ = some (.int .i64 b.strs) := heapc (setB_other o hxm.2) (heapc hcx (hc1.out.cell (j := 5) rfl))
            have hO3 : OffV B [mi, ms] W1 (setBlock wr ms o) := hO.setB (.inl (by simp)) hBs o
            have hM3 : IrqM (setBlock wr ms o) mi (N ++ t.irq.map IrqV.num) := hM.same (setB_other o hne)
            clear hlk hst g3
            by_cases h1 : q < b.strs
            case neg =>
              go_wp2_with fail
              refine (must_any _ _ _ _).mono ?_; rintro e w4 ⟨rfl, rfl⟩
              refine ⟨rfl, ?_, (hO1.trans hO3 (fun _ h => .inl h)), fun h => by simp at h⟩
              rw [hno.out (by simp; intros; omega)]; rfl
            go_wp2_with fail
            refine (must_any _ _ _ _).mono ?_; rintro e w4 ⟨rfl, rfl⟩
            simp only [mustE]
            go_wp2_with fail
            exact ⟨⟨k + 1, hlt, by go_num, hyes.out (by simp [h1, hin]), by rw [htk.out]; exact g2, hM3, hO3⟩, by simp [intOf]; omega⟩
          · have hlk0 := hlk wr rfl
            obtain ⟨o, g1, g3⟩ := hst wr rfl
            have hlk1 := g3 _ rfl
            have z12 : (setBlock wr ms o).cell? ⟨xb, 12, none⟩ = some (.map (some ms)) := heapc (setB_other o hxm.2) x12
            have z5 : (setBlock wr ms o).cell? ⟨xb, 5, none⟩ = some (.int .i64 b.strs) := heapc (setB_other o hxm.2) (heapc hcx (hc1.out.cell (j := 5) rfl))
            have hO3 : OffV B [mi, ms] W1 (setBlock wr ms o) := hO.setB (.inl (by simp)) hBs o
            clear hlk hst g3
            by_cases h1 : q < b.strs
            all_goals
              go_wp2_with fail
              refine (must_any _ _ _ _).mono ?_; rintro e w4 ⟨rfl, rfl⟩
              refine ⟨rfl, ?_, (hO1.trans hO3 (fun _ h => .inl h)), fun h => by simp at h⟩
              rw [hno.out (by simp; intros; exact hin)]; rfl
        · obtain rfl : k = t.str.length := by omega
          have h9 := hRn'.out hall
          rw [List.take_length] at hS'
          clear hall hct
          go_wp2_with fail
          go_end0
          exact ⟨by rw [h9]; rfl, hO1.trans hO (fun _ h => .inl h), fun _ => ⟨hM, hS'⟩⟩
end Go.Proofs.YtffdfeekpfmbeaaGreat
