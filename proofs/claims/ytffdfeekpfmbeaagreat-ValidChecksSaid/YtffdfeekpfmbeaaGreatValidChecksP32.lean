/- The walks of xmss.KeyOf and cfg's keyed: which bytes are a key. -/
import Derived.Laws.Bits64
import Derived.Laws.ResultCell
import Derived.Laws.Cover3
import Derived.Test.YtffdfeekpfmbeaaGreatValidChecksP22
import Derived.Test.YtffdfeekpfmbeaaGreatValidChecksP29
import Derived.Test.YtffdfeekpfmbeaaGreatValidChecksP31
namespace Go.Proofs.YtffdfeekpfmbeaaGreat
open Go Go.RowKit Go.BigFrame

theorem or_byte32 (x c : Int) (hx : 0 ≤ x) (hx' : x < 16777216) (hc : 0 ≤ c) (hc' : c < 256) : bits BinOp.or IntKind.u32 (x * 256) c = x * 256 + c := by
  obtain ⟨a, rfl⟩ := Int.eq_ofNat_of_zero_le hx
  obtain ⟨b, rfl⟩ := Int.eq_ofNat_of_zero_le hc
  have e : ((a : Int) * 256) = ((a * 256 : Nat) : Int) := by omega
  rw [e]
  have hlt : a * 256 ||| b < 2 ^ 32 := Nat.or_lt_two_pow (by omega) (by omega)
  have h1 : (BitVec.ofInt 32 ((a * 256 : Nat) : Int)).toNat = a * 256 := by
    rw [BitVec.ofInt_natCast, BitVec.toNat_ofNat]; exact Nat.mod_eq_of_lt (by omega)
  have h2 : (BitVec.ofInt 32 (b : Int)).toNat = b := by
    rw [BitVec.ofInt_natCast, BitVec.toNat_ofNat]; exact Nat.mod_eq_of_lt (by omega)
  show IntKind.u32.wrap ((BitVec.ofInt 32 ((a * 256 : Nat) : Int) ||| BitVec.ofInt 32 (b : Int)).toNat : Int) = _
  rw [BitVec.toNat_or, h1, h2]
  have h := Nat.shiftLeft_add_eq_or_of_lt (i := 8) (b := b) (by omega) a
  rw [Nat.shiftLeft_eq] at h
  rw [← h, IntKind.wrap_u32]
  omega
def beV (l : List Int) : Int := l.foldl (fun a c => a * 256 + c) 0
theorem beV_snoc (l : List Int) (c : Int) : beV (l ++ [c]) = beV l * 256 + c := by unfold beV; rw [List.foldl_append]; rfl
theorem beV_bd : ∀ (k : Nat) (l : List Int), (∀ c ∈ l, 0 ≤ c ∧ c < 256) → l.length ≤ k → k ≤ 3 → 0 ≤ beV l ∧ beV l < 16777216 := by
  intro k l hl hk h3
  rcases l with _ | ⟨a, _ | ⟨b, _ | ⟨c, _ | ⟨d, l⟩⟩⟩⟩
  · simp [beV]
  · have := hl a (by simp); simp [beV]; omega
  · have := hl a (by simp); have := hl b (by simp); simp [beV]; omega
  · have := hl a (by simp); have := hl b (by simp); have := hl c (by simp); simp [beV]; omega
  · simp at hk; omega
theorem oid_be {l : List Int} (h : 4 ≤ l.length) : beV (l.take 4) = oidV l := by
  rcases l with _ | ⟨a, _ | ⟨b, _ | ⟨c, _ | ⟨d, l⟩⟩⟩⟩ <;> simp at h
  unfold beV oidV
  simp
theorem size32_any (w : World) : Calls Tryz.prog 108 #[] w fun e w' => e = .returned (.int .i64 4) ∧ w = w' := sizeu32_any w
set_option maxRecDepth 100000 in
set_option maxHeartbeats 2000000 in
theorem read32_any (b off n cap : Nat) (l : List Int) (w : World) (hl : ∀ c ∈ l, 0 ≤ c ∧ c < 256) (hn : n = l.length) (h4 : 4 ≤ l.length) (hm : l.length ≤ 1000000) (hc : ∀ i (h : i < l.length), w.cell? ⟨b, off + i, none⟩ = some (.int .u8 l[i])) :
    Calls Tryz.prog 118 #[.slice (some ⟨b, off, none⟩) n cap, .int .i64 0, .bool false] w fun e w' => e = .returned (.tuple #[.int .u32 (oidV l), .bool true]) ∧ w = w' := by
  subst hn
  rw [← oid_be h4]
  go_enter Tryz.func118, Tryz.ntmps118
  go_wp2_with fail
  refine (size32_any _).mono ?_; rintro e w1 ⟨rfl, rfl⟩
  have s1 : ¬ (4 : Int) > l.length := by omega
  have s2 : ¬ (0 : Int) > (l.length : Int) - 4 := by omega
  have s3 : IntKind.i64.wrap ((l.length : Int) - 4) = (l.length : Int) - 4 := by rw [IntKind.wrap_i64]; omega
  go_wp2_with fail
  go_loop [9, 30] (fun x i => ∃ k : Nat, k ≤ 4 ∧ i = .int .i64 k ∧ x = .int .u32 (beV (l.take k))) (fun _ i => 4 - (intOf i).toNat)
  case atStart => exact ⟨0, by omega, rfl, rfl⟩
  case round =>
    obtain ⟨k, hk, rfl, rfl⟩ := hrel
    by_cases hlt : k < 4
    · have hkl : k < l.length := by omega
      have c0 := hc k hkl
      have hsn : beV (l.take (k + 1)) = beV (l.take k) * 256 + l[k] := by rw [List.take_succ_eq_append_getElem hkl, beV_snoc]
      have hcb := hl _ (List.getElem_mem hkl)
      obtain ⟨x0, x1⟩ := beV_bd 3 (l.take k) (fun c hc => hl c (List.mem_of_mem_take hc)) (by rw [List.length_take]; omega) (by omega)
      have ho := or_byte32 _ _ x0 x1 hcb.1 hcb.2
      generalize l[k] = c at *
      generalize beV (l.take k) = x at *
      obtain ⟨c1, c2⟩ := hcb
      have w1 : IntKind.u32.wrap (x * 256) = x * 256 := by rw [IntKind.wrap_u32]; omega
      have w2 : IntKind.u32.wrap c = c := by rw [IntKind.wrap_u32]; omega
      clear hc
      replace hsn := Lib.hid hsn
      go_wp2_with fail
      exact ⟨⟨k + 1, by omega, by go_num, by rw [hsn.out]⟩, by simp [intOf]; omega⟩
    · obtain rfl : k = 4 := by omega
      go_wp2_with fail
      go_ret2
      exact ⟨rfl, rfl⟩
set_option maxRecDepth 100000 in
theorem be32r_any (b off n cap : Nat) (l : List Int) (w : World) (hl : ∀ c ∈ l, 0 ≤ c ∧ c < 256) (hn : n = l.length) (h4 : 4 ≤ l.length) (hm : l.length ≤ 1000000) (hc : ∀ i (h : i < l.length), w.cell? ⟨b, off + i, none⟩ = some (.int .u8 l[i])) :
    Calls Tryz.prog 109 #[.slice (some ⟨b, off, none⟩) n cap, .int .i64 0] w fun e w' => e = .returned (.tuple #[.int .u32 (oidV l), .bool true]) ∧ w = w' := by
  subst hn
  have h := read32_any b off l.length cap l w hl rfl h4 hm hc
  go_enter Tryz.func109, Tryz.ntmps109
  go_wp2_with fail
  refine h.mono ?_; rintro e w1 ⟨rfl, rfl⟩
  go_wp2_with fail
  go_ret2
  exact ⟨rfl, rfl⟩
def heightV (o : Int) : Int := if o = 1 then 10 else if o = 2 then 16 else if o = 3 then 20 else 0
theorem height_any (o : Int) (w : World) : Calls Tryz.prog 110 #[.int .u32 o] w fun e w' => e = .returned (.tuple #[.int .i64 (heightV o), .bool (decide (1 ≤ o ∧ o ≤ 3))]) ∧ w = w' := by
  unfold heightV
  by_cases h1 : o = 1
  · subst h1
    go_enter Tryz.func110, Tryz.ntmps110
    go_wp2
    go_ret2
    exact ⟨rfl, rfl⟩
  by_cases h2 : o = 2
  · subst h2
    go_enter Tryz.func110, Tryz.ntmps110
    go_wp2
    go_ret2
    exact ⟨rfl, rfl⟩
  by_cases h3 : o = 3
  · subst h3
    go_enter Tryz.func110, Tryz.ntmps110
    go_wp2
    go_ret2
    exact ⟨rfl, rfl⟩
  · have e : decide (1 ≤ o ∧ o ≤ 3) = false := decide_eq_false (by omega)
    rw [e, if_neg h1, if_neg h2, if_neg h3]
    have e1 : (o == 1) = false := by simpa using h1
    have e2 : (o == 2) = false := by simpa using h2
    have e3 : (o == 3) = false := by simpa using h3
    go_enter Tryz.func110, Tryz.ntmps110
    go_wp2
    go_ret2
    exact ⟨rfl, rfl⟩
set_option maxHeartbeats 1000000 in
theorem cut1_any (cb b off n cap : Nat) (w : World) (hc : w.heap[cb]? = some (.cells #[.slice (some ⟨b, off, none⟩) n cap] 65 (0, 0))) (h32 : 32 ≤ n) (hn : n ≤ cap) (hm : cap ≤ 1000000) :
    Calls Tryz.prog 119 #[.int .i64 32, .pointer (some ⟨cb, 0, none⟩)] w fun e w' => e = .returned (.slice (some ⟨b, off, none⟩) 32 cap) ∧ ∃ o2, w' = w.setCell ⟨cb, 0, none⟩ (.slice (some ⟨b, o2, none⟩) (n - 32) (cap - 32)) ∧ (32 < cap → o2 = off + 32) := by
  have c0 : w.cell? ⟨cb, 0, none⟩ = some (.slice (some ⟨b, off, none⟩) n cap) := by simp [World.cell?, hc]
  have z0 : w.frozen? ⟨cb, 0, none⟩ = false := by simp [World.frozen?, hc]
  go_enter Tryz.func119, Tryz.ntmps119
  by_cases h : cap = 32
  · subst h
    obtain rfl : n = 32 := by omega
    go_wp2_with fail
    all_goals go_ret
    all_goals exact ⟨rfl, _, rfl, fun h => by omega⟩
  · have h' : ¬ cap - 32 = 0 := by omega
    go_wp2_with fail
    all_goals go_ret
    all_goals exact ⟨rfl, _, rfl, fun _ => rfl⟩
/-- Cells of a row, from one of them on. -/
def RowI (W : World) (b off : Nat) (l : List Int) : Prop := ∀ i (h : i < l.length), W.cell? ⟨b, off + i, none⟩ = some (.int .u8 l[i])
theorem RowI.drop {W : World} {b off : Nat} {l : List Int} (h : RowI W b off l) (k : Nat) : RowI W b (off + k) (l.drop k) := fun i hi => by
  rw [List.length_drop] at hi
  have := h (k + i) (by omega)
  rw [List.getElem_drop, Nat.add_assoc]; exact this
theorem RowI.take {W : World} {b off : Nat} {l : List Int} (h : RowI W b off l) (k : Nat) : RowI W b off (l.take k) := fun i hi => by
  rw [List.length_take] at hi
  rw [List.getElem_take]; exact h i (by omega)
theorem RowI.cells {W : World} {b off : Nat} {l : List Int} (h : RowI W b off l) : ∀ j u, (l.map (Value.int .u8))[j]? = some u → W.cell? ⟨b, off + j, none⟩ = some u := fun j u hu => by
  rw [List.getElem?_map, Option.map_eq_some_iff] at hu
  obtain ⟨x, hx, rfl⟩ := hu
  obtain ⟨hj, rfl⟩ := List.getElem?_eq_some_iff.1 hx
  exact h j hj
theorem cutter_any (a : Option Addr) (n c : Nat) (w : World) : Calls Tryz.prog 111 #[.slice a n c] w fun e w' => e = .returned (.func (.func 119) #[] #[.pointer (some ⟨w.heap.size, 0, none⟩)]) ∧ w' = w.alloc (.cells #[.slice a n c] 65) := by
  have hmf : ∀ (fn : Fn) (first cap : Array Value) (w : World), (Instr.makeFunc fn first cap).run Tryz.prog w = .ok (.func fn first cap) w := fun _ _ _ _ => rfl
  go_enter Tryz.func111, Tryz.ntmps111
  go_wp2_with fail
  go_ret
  exact ⟨rfl, rfl⟩
def Ones (K : Array Value) : Prop := K.all (·.oneCell') = true
theorem all_u8 (m : List Int) : (m.map (Value.int .u8)).toArray.all (·.oneCell') = true := by
  rw [List.all_toArray, List.all_eq_true]
  intro u hu
  obtain ⟨x, _, rfl⟩ := List.mem_map.1 hu
  rfl
section
variable {P : Program} {ops : Array Oper} {rest : List Oper} {o : Oper} {a : Act} {w : World} {Q : Exit → Act → World → Prop}
/-- A struct of many cells is stored into a variable of its own block. -/
theorem wpl_store_row (hgd : o.guard = none) (t : TypeId) (p x : Operand) (ho : o.op = .store t p x) {g : Nat} {c c' : Array Value} (hg : w.heap[g]? = some (.cells c t (0, 0))) (hi : (P.info? t).map (·.size) = some c'.size) (hs : c.size = c'.size) (h1 : c'.all (·.oneCell') = true)
    (hp : a.eval p = .pointer (some ⟨g, 0, none⟩)) (hx : a.eval x = .agg c') (h : wpList P ops Q rest (a.put o.dst (.tuple #[])) (w.setRow g c')) : wpList P ops Q (o :: rest) a w := by
  refine wpList_plain hgd fun K hK => ?_
  have hr : (Instr.storeAt t (.pointer (some ⟨g, 0, none⟩)) (.agg c')).run P w = .ok () (w.setRow g c') := by
    simp only [Instr.storeAt, Instr.sureAddr, Sem.run_bind, Sem.run_pure, Result.andThen]
    exact run_storeVar_row _ _ t t c c' hg hi hs h1
  unfold Oper.wp execOp
  simp only [ho, hp, hx, Sem.run_bind, Sem.run_pure, Result.andThen_ok, hr]
  exact hK _ _ h
end
def zKey : Array Value := #[.int .u32 0] ++ Array.replicate 64 (.int .u8 0)
theorem zKey_info : (Tryz.prog.info? 142).map (fun i => (i.zero, i.size)) = some (some (.agg zKey), 65) := by kernel_rfl
/-- One operation whose run is known. -/
theorem wpQuiet_run {P : Program} {ops : Array Oper} {C : World → Prop} {R : Act → Prop} {a : Act} {o : Oper} {rest : List Oper} (hgd : o.guard = none) (v : Value) (hr : ∀ w, C w → (execOp a.eval o).run P w = .ok (.value v) w) (h : wpQuiet P ops C R rest (a.put o.dst v)) : wpQuiet P ops C R (o :: rest) a := by
  unfold wpQuiet
  rw [if_pos (by simp [Region.wanted, hgd])]
  exact ⟨v, fun w hw => by unfold Oper.quietAt; rw [hr w hw]; exact ⟨rfl, rfl⟩, h⟩
theorem wpQuiet_load {P : Program} {ops : Array Oper} {C : World → Prop} {R : Act → Prop} {a : Act} {o : Oper} {rest : List Oper} (hgd : o.guard = none) (t : TypeId) (x : Operand) (ho : o.op = .load t x) (p v : Value) (hx : a.eval x = p) (hr : ∀ w, C w → (Instr.loadAt t p).run P w = .ok v w) (h : wpQuiet P ops C R rest (a.put o.dst v)) : wpQuiet P ops C R (o :: rest) a :=
  wpQuiet_run hgd v (fun w hw => by unfold execOp; simp only [ho, hx, Sem.run_bind, hr w hw, Result.andThen_ok, Sem.run_pure]) h
theorem wpQuiet_build {P : Program} {ops : Array Oper} {C : World → Prop} {R : Act → Prop} {a : Act} {o : Oper} {rest : List Oper} (hgd : o.guard = none) (t : TypeId) (ps : Array (Nat × Operand)) (ho : o.op = .build t ps) (parts : Array (Nat × Value)) (hp : (ps.map fun (i, x) => (i, a.eval x)) = parts) (v : Value) (hr : ∀ w, (Instr.build t parts).run P w = .ok v w) (h : wpQuiet P ops C R rest (a.put o.dst v)) : wpQuiet P ops C R (o :: rest) a :=
  wpQuiet_run hgd v (fun w hw => by unfold execOp; simp only [ho, hp, Sem.run_bind, hr w, Result.andThen_ok, Sem.run_pure]) h
theorem fold_ones (off n : Nat) : ∀ (l : List (Value × Nat)) (cells : Array Value), (∀ x ∈ l, x.1.oneCell' = true) → cells.size = n → (∀ x ∈ cells.toList, x.oneCell' = true) →
    (l.foldl (fun cs (x : Value × Nat) => cs.setIfInBounds (off + x.2) x.1) cells).size = n ∧ ∀ x ∈ (l.foldl (fun cs (x : Value × Nat) => cs.setIfInBounds (off + x.2) x.1) cells).toList, x.oneCell' = true
  | [], cells, _, hs, hc => ⟨hs, hc⟩
  | (c, j) :: l, cells, hl, hs, hc => by
    rw [List.foldl_cons]
    refine fold_ones off n l _ (fun x hx => hl x (by simp [hx])) (by simp [hs]) fun x hx => ?_
    rw [Array.toList_setIfInBounds] at hx
    rcases List.mem_or_eq_of_mem_set hx with hx | rfl
    · exact hc x hx
    · exact hl _ (List.mem_cons_self ..)
theorem zip_ones {A : Array Value} (h : A.all (·.oneCell') = true) : ∀ x ∈ A.zipIdx.toList, x.1.oneCell' = true := by
  intro x hx
  rw [Array.toList_zipIdx] at hx
  have := List.fst_mem_of_mem_zipIdx hx
  exact (Array.all_eq_true_iff_forall_mem.1 h) _ (by simpa using this)
theorem fill_step {place : Nat → Option (Nat × Nat)} {cells : Array Value} {i : Nat} {v : Value} {rest : List (Nat × Value)} {off size : Nat} (hp : place i = some (off, size)) (h1 : v.cells.size = size) (h2 : off + size ≤ cells.size) :
    Instr.fill place cells ((i, v) :: rest) = Instr.fill place (v.cells.zipIdx.toList.foldl (fun cs (x : Value × Nat) => cs.setIfInBounds (off + x.2) x.1) cells) rest := by
  simp only [Instr.fill, hp]
  rw [if_neg (by simp [h1]; omega), Array.foldl_toList]
theorem key_built0 (parts : List (Nat × Value)) : Tryz.prog.built 142 parts = Instr.fill (#[(0, 1), (1, 32), (33, 32)][·]?) zKey parts := by kernel_rfl
theorem key_built (o : Int) (A1 A2 : Array Value) (h1 : A1.size = 32) (h2 : A2.size = 32) (o1 : A1.all (·.oneCell') = true) (o2 : A2.all (·.oneCell') = true) : ∃ C : Array Value, Tryz.prog.built 142 [(0, .int .u32 o), (1, .agg A1), (2, .agg A2)] = some C ∧ C.size = 65 ∧ C.all (·.oneCell') = true := by
  rw [key_built0]
  have z1 : zKey.size = 65 := by kernel_rfl
  have z2 : ∀ x ∈ zKey.toList, x.oneCell' = true := by
    have : zKey.toList.all (·.oneCell') = true := by kernel_rfl
    exact List.all_eq_true.1 this
  obtain ⟨a1, a2⟩ := fold_ones 0 65 [(.int .u32 o, 0)] zKey (by simp [Value.oneCell']) z1 z2
  have a1' : ((Value.int .u32 o).cells.zipIdx.toList.foldl (fun cs (x : Value × Nat) => cs.setIfInBounds (0 + x.2) x.1) zKey).size = 65 := a1
  obtain ⟨b1, b2⟩ := fold_ones 1 65 A1.zipIdx.toList _ (zip_ones o1) a1 a2
  have b1' : ((Value.agg A1).cells.zipIdx.toList.foldl (fun cs (x : Value × Nat) => cs.setIfInBounds (1 + x.2) x.1) ((Value.int .u32 o).cells.zipIdx.toList.foldl (fun cs (x : Value × Nat) => cs.setIfInBounds (0 + x.2) x.1) zKey)).size = 65 := b1
  obtain ⟨c1, c2⟩ := fold_ones 33 65 A2.zipIdx.toList _ (zip_ones o2) b1 b2
  refine ⟨_, ?_, c1, Array.all_eq_true_iff_forall_mem.2 fun x hx => c2 x (by simpa using hx)⟩
  rw [fill_step (off := 0) (size := 1) rfl rfl (by rw [z1]; omega), fill_step (v := .agg A1) (off := 1) (size := 32) rfl h1 (by rw [a1']; omega), fill_step (v := .agg A2) (off := 33) (size := 32) rfl h2 (by rw [b1']; omega)]
  rfl
theorem key_load {W : World} {kb : Nat} {C : Array Value} (h : W.heap[kb]? = some (.cells C 142 (0, 0))) (hC : C.size = 65) : (loadVar 142 ⟨kb, 0, none⟩).run Tryz.prog W = .ok (.agg C) W := by
  have hl := loadX (P := Tryz.prog) (W := W) (b := kb) (o := 0) (k := 65) (cs := C.toList) (by simpa using hC) (fun j u hu => by rw [Nat.zero_add]; simp only [World.cell?, h]; simpa using hu)
  have hz : (Tryz.prog.info? 142).map (·.size) = some 65 := by kernel_rfl
  cases hq : Tryz.prog.info? 142 with
  | none => simp [hq] at hz
  | some i =>
    have hs : i.size = 65 := by simpa [hq] using hz
    have hagg : (isAgg 142).run Tryz.prog W = .ok true W := by
      unfold isAgg
      rw [Sem.run_bind, run_underlying Tryz.underlying142 W]
      simp
    simp [loadVar, Sem.run_bind, hagg, sizeOf, typeInfo, hq, hs, loadCells, hl]
theorem key_res {W : World} {kb : Nat} {C : Array Value} {e : Int} {tmps : Array Value} (h : (loadVar 142 ⟨kb, 0, none⟩).run Tryz.prog W = .ok (.agg C) W) (h2 : tmps.getD 2 undef = .pointer (some ⟨kb, 0, none⟩)) (h3 : tmps.getD 3 undef = .int .i64 e) : (results Tryz.f96 tmps).run Tryz.prog W = .ok (.tuple #[.agg C, .int .i64 e]) W := by
  rw [results_cell_tmp (p := 2) (u := 3) (ty := 142) (by kernel_rfl), h2, h3]
  simp only [asAddr, Sem.run_pure, Result.andThen_ok, h]
set_option maxRecDepth 100000 in
set_option maxHeartbeats 4000000 in
theorem keyOf_any (b off : Nat) (l : List Int) (w : World) (hl : ∀ c ∈ l, 0 ≤ c ∧ c < 256) (h68 : l.length = 68) (hc : RowI w b off l) (hbl : b < w.heap.size) :
    Calls Tryz.prog 96 #[.slice (some ⟨b, off, none⟩) 68 68] w fun e w' => (∃ K : Array Value, K.size = 65 ∧ Ones K ∧ e = .returned (.tuple #[.agg K, .int .i64 (if keyOk l = true then 0 else 80)])) ∧ Below w.heap.size w w' := by
  have hbe := fun W h => be32r_any b off 68 68 l W hl h68.symm (by omega) (by omega) h
  have hhe := fun W => height_any (oidV l) W
  unfold keyOk
  generalize decide (1 ≤ oidV l ∧ oidV l ≤ 3) = q at *
  generalize heightV (oidV l) = hv at *
  generalize oidV l = o at *
  have hmf : ∀ (fn : Fn) (first cap : Array Value) (w : World), (Instr.makeFunc fn first cap).run Tryz.prog w = .ok (.func fn first cap) w := fun _ _ _ _ => rfl
  go_enter Tryz.func96, Tryz.ntmps96
  go_wp2_with (with_reducible refine wpl_alloc_x rfl _ rfl zKey_info ?_)
  have hb0 := bone w (.cells zKey 142)
  have hc0 : RowI (w.alloc (.cells zKey 142)) b off l := fun i hi => cell_lt hb0 (hc i hi) hbl
  refine (hbe _ hc0).mono ?_; rintro e w1 ⟨rfl, rfl⟩
  go_wp2_with fail
  refine (hhe _).mono ?_; rintro e w1 ⟨rfl, rfl⟩
  cases q
  case false =>
    go_wp2_with (refine wpl_store_x rfl 142 _ _ rfl (c := zKey) (c' := Tryz.zeroCells142) (by kernel_rfl) (by kernel_rfl) (by kernel_rfl) rfl rfl ?_)
    have hld := key_load (World.alloc_heap_new w (.cells Tryz.zeroCells142 142)) (by kernel_rfl)
    all_goals refine bodyPost_ret (v := .tuple #[.agg Tryz.zeroCells142, .int .i64 80]) (key_res hld rfl rfl) rfl ?_
    all_goals exact ⟨⟨_, by kernel_rfl, show Array.all _ _ = true by kernel_rfl, rfl⟩, bone _ _⟩
  case true =>
    go_wp2_with fail
    refine (cutter_any _ _ _ _).mono ?_; rintro e w1 ⟨rfl, rfl⟩
    obtain ⟨w0, hw0⟩ : ∃ w0, w0 = w.alloc (.cells zKey 142) := ⟨_, rfl⟩
    have hz0 : w0.heap.size = w.heap.size + 1 := by rw [hw0]; simp
    have hk0 : w0.heap[w.heap.size]? = some (.cells zKey 142 (0, 0)) := by rw [hw0]; exact World.alloc_heap_new w _
    rw [← hw0] at hb0 hc0 ⊢
    clear hw0
    obtain ⟨w1, hw1⟩ : ∃ w1, w1 = w0.alloc (.cells #[.slice (some ⟨b, off + 4, none⟩) 64 64] 65) := ⟨_, rfl⟩
    have hb1 : Below w0.heap.size w0 w1 := by rw [hw1]; exact bone _ _
    have hk1 : w1.heap[w0.heap.size]? = some (.cells #[.slice (some ⟨b, off + 4, none⟩) 64 64] 65 (0, 0)) := by rw [hw1]; exact World.alloc_heap_new w0 _
    rw [← hw1]
    clear hw1
    rw [hz0] at hk1
    go_wp2_with fail
    refine (cut1_any _ b (off + 4) 64 64 w1 hk1 (by omega) (by omega) (by omega)).mono ?_; rintro e w2 ⟨rfl, o2, rfl, ho2⟩
    obtain rfl := ho2 (by omega)
    have hk2 := setCell_at hk1 0 (.slice (some ⟨b, off + 4 + 32, none⟩) (64 - 32) (64 - 32))
    have hz1 : w.heap.size + 1 < w1.heap.size := (Array.getElem?_eq_some_iff.1 hk1).1
    have hkk1 := (hb1.block w.heap.size (by omega)).trans hk0
    have hcc1 : RowI w1 b off l := fun i hi => cell_lt hb1 (hc0 i hi) (by omega)
    have hbw : Below w.heap.size w w1 := hb0.trans (hb1.mono (by omega))
    go_wp2_with fail
    have hbS : Below w.heap.size w (w1.setCell ⟨w.heap.size + 1, 0, none⟩ (.slice (some ⟨b, off + 4 + 32, none⟩) 32 32)) := hbw.setCell (p := ⟨w.heap.size + 1, 0, none⟩) (by simp) _
    obtain ⟨w2, hw2⟩ : ∃ w2, w2 = w1.setCell ⟨w.heap.size + 1, 0, none⟩ (.slice (some ⟨b, off + 4 + 32, none⟩) 32 32) := ⟨_, rfl⟩
    have hk3 : w2.heap[w.heap.size]? = some (.cells zKey 142 (0, 0)) := by rw [hw2]; exact (setCell_other (by omega)).trans hkk1
    have hc3 : RowI w2 b off l := fun i hi => by rw [hw2]; exact heapc (setCell_other (by omega)) (hcc1 i hi)
    change w2 = w1.setCell ⟨w.heap.size + 1, 0, none⟩ (.slice (some ⟨b, off + 4 + 32, none⟩) 32 32) at hw2
    change (w1.setCell ⟨w.heap.size + 1, 0, none⟩ (.slice (some ⟨b, off + 4 + 32, none⟩) 32 32)).heap[w.heap.size + 1]? = some (.cells #[.slice (some ⟨b, off + 4 + 32, none⟩) 32 32] 65 (0, 0)) at hk2
    rw [← hw2] at hk2 hbS ⊢
    clear hw2
    refine (cut1_any _ b (off + 4 + 32) 32 32 w2 hk2 (by omega) (by omega) (by omega)).mono ?_; rintro e w3 ⟨rfl, o3, rfl, _⟩
    have hb4 := hbS.setCell (p := ⟨w.heap.size + 1, 0, none⟩) (by simp) (.slice (some ⟨b, o3, none⟩) (32 - 32) (32 - 32))
    have hk4 := (setCell_other (o := 0) (v := .slice (some ⟨b, o3, none⟩) (32 - 32) (32 - 32)) (show w.heap.size ≠ w.heap.size + 1 by omega)).trans hk3
    have hc4 : RowI (w2.setCell ⟨w.heap.size + 1, 0, none⟩ (.slice (some ⟨b, o3, none⟩) (32 - 32) (32 - 32))) b off l := fun i hi => heapc (setCell_other (by omega)) (hc3 i hi)
    generalize w2.setCell ⟨w.heap.size + 1, 0, none⟩ (.slice (some ⟨b, o3, none⟩) (32 - 32) (32 - 32)) = w4 at *
    obtain ⟨A1, hA1, hA1s, hA1o⟩ : ∃ A1 : Array Value, (∀ X : HeldB b w4, Sem.run Tryz.prog (loadCellsFrom ⟨b, off + 4, none⟩ 0 32 #[]) X.x = .ok A1 X.x) ∧ A1.size = 32 ∧ A1.all (·.oneCell') = true := by
      have hr := (hc4.drop 4).take 32
      have hlen : ((l.drop 4).take 32).length = 32 := by simp; omega
      refine ⟨(((l.drop 4).take 32).map (Value.int .u8)).toArray, fun X => loadX (by rw [List.length_map]; exact hlen) (fun j u hu => heapc X.h (hr.cells j u hu)), by simp; omega, all_u8 _⟩
    obtain ⟨A2, hA2, hA2s, hA2o⟩ : ∃ A2 : Array Value, (∀ X : HeldB b w4, Sem.run Tryz.prog (loadCellsFrom ⟨b, off + 4 + 32, none⟩ 0 32 #[]) X.x = .ok A2 X.x) ∧ A2.size = 32 ∧ A2.all (·.oneCell') = true := by
      have hr := ((hc4.drop 4).drop 32).take 32
      have hlen : (((l.drop 4).drop 32).take 32).length = 32 := by simp; omega
      refine ⟨((((l.drop 4).drop 32).take 32).map (Value.int .u8)).toArray, fun X => loadX (by rw [List.length_map]; exact hlen) (fun j u hu => heapc X.h (hr.cells j u hu)), by simp; omega, all_u8 _⟩
    have hsa : ∀ (a : Option Addr) (c : Nat) (w : World), (Instr.arrayAt 140 (.slice a 32 c)).run Tryz.prog w = .ok (.pointer a) w := fun a c w => run_arrayAt _ _ _ 32 a 32 c Tryz.underlying140 (Nat.le_refl _)
    go_wp2_with fail
    refine region_ord (fun z => ∃ X : HeldB b w4, z = X.x) [([0, 1, 2, 3, 4, 5, 6, 7], 8)] [9] (by kernel_rfl) (by kernel_rfl) (by kernel_rfl) (by kernel_rfl) ⟨⟨w4.drew, rfl⟩, rfl⟩ ?_
    simp only [List.map_cons, List.map_nil, List.filterMap_cons, List.filterMap_nil, List.getElem?_cons_succ, List.getElem?_cons_zero]
    refine ord_step ?_
    repeat (change wpQuiet _ _ _ _ (List.cons _ _) _; go_big_quiet_step (fail))
    have hnode : (Tryz.prog.info? 140).map (·.size) = some 32 := by kernel_rfl
    have hld : ∀ (o' : Nat) (A : Array Value) (X : World), Sem.run Tryz.prog (loadCellsFrom ⟨b, o', none⟩ 0 32 #[]) X = .ok A X → (Instr.loadAt 140 (.pointer (some ⟨b, o', none⟩))).run Tryz.prog X = .ok (.agg A) X := fun o' A X h => by
      cases hq : Tryz.prog.info? 140 with
      | none => simp [hq] at hnode
      | some i =>
        have hs : i.size = 32 := by simpa [hq] using hnode
        have hagg : (isAgg 140).run Tryz.prog X = .ok true X := by
          unfold isAgg
          rw [Sem.run_bind, run_underlying Tryz.underlying140 X]
          simp
        have hv : (loadVar 140 ⟨b, o', none⟩).run Tryz.prog X = .ok (.agg A) X := by simp [loadVar, Sem.run_bind, hagg, sizeOf, typeInfo, hq, hs, loadCells, h]
        simp only [Instr.loadAt, Instr.sureAddr, Sem.run_bind, Sem.run_pure, Result.andThen_ok, hv]
    obtain ⟨K, hK, hKs, hKo⟩ := key_built o A1 A2 hA1s hA2s hA1o hA2o
    refine wpQuiet_load rfl _ _ rfl _ (.agg A1) rfl (fun X hX => by obtain ⟨Y, rfl⟩ := hX; exact hld _ _ _ (hA1 Y)) ?_
    simp only [Act.put, List.setIfInBounds_toArray, List.set_cons_succ, List.set_cons_zero]
    repeat (change wpQuiet _ _ _ _ (List.cons _ _) _; go_big_quiet_step (fail))
    refine wpQuiet_load rfl _ _ rfl _ (.agg A2) rfl (fun X hX => by obtain ⟨Y, rfl⟩ := hX; exact hld _ _ _ (hA2 Y)) ?_
    simp only [Act.put, List.setIfInBounds_toArray, List.set_cons_succ, List.set_cons_zero]
    refine wpQuiet_build rfl _ _ rfl #[(0, .int .u32 o), (1, .agg A1), (2, .agg A2)] (by simp [Act.eval]) (.agg K) (fun X => run_build X _ _ K hK) ?_
    simp only [Act.put, List.setIfInBounds_toArray, List.set_cons_succ, List.set_cons_zero]
    refine wpQuiet_nil ?_
    intro Q₁ hQ₁
    simp only [Option.toList]
    have hkd : w4.drew.heap[w.heap.size]? = some (.cells zKey 142 (0, 0)) := hk4
    refine wpl_store_row rfl 142 _ _ rfl hkd (by rw [hKs]; kernel_rfl) (by rw [hKs]; kernel_rfl) hKo rfl rfl ?_
    refine hQ₁ _ _ ⟨⟨_, setRow_other w4.drew w.heap.size b K (by omega)⟩, rfl⟩ ?_
    clear hQ₁ Q₁
    refine ord_last ?_
    simp only [Act.put]
    repeat (change wpQuiet _ _ _ _ (List.cons _ _) _; go_big_quiet_step (fail))
    refine wpQuiet_nil ?_
    go_wp2_with fail
    have hld := key_load (setRow_heap w4.drew w.heap.size _ K _ _ hkd) hKs
    refine bodyPost_ret (v := .tuple #[.agg K, .int .i64 0]) (key_res hld rfl rfl) rfl ?_
    exact ⟨⟨K, hKs, hKo, rfl⟩, below_setRow hb4.drew (Nat.le_refl _) _⟩
set_option maxRecDepth 100000 in
set_option maxHeartbeats 4000000 in
theorem keyed_any (l : List Int) (w : World) (hl : ∀ c ∈ l, 0 ≤ c ∧ c < 256) (h68 : l.length = 68) :
    Calls Tryz.prog 84 #[.agg (l.map (Value.int .u8)).toArray] w fun e w' => e = .returned (.bool (keyOk l)) ∧ Below w.heap.size w w' := by
  obtain ⟨w0, hw0⟩ : ∃ w0, w0 = w.alloc (.cells (l.map (Value.int .u8)).toArray 40) := ⟨_, rfl⟩
  have hb0 : Below w.heap.size w w0 := by rw [hw0]; exact bone _ _
  have hz0 : w.heap.size < w0.heap.size := by rw [hw0]; simp
  have hr : RowI w0 w.heap.size 0 l := fun i hi => by
    rw [hw0, Nat.zero_add, World.cell?_alloc_new]
    simp [hi]
  have hko := keyOf_any w.heap.size 0 l w0 hl h68 hr hz0
  generalize (l.map (Value.int .u8)).toArray = C at *
  generalize keyOk l = q at *
  go_enter Tryz.func84, Tryz.ntmps84
  go_wp2_with fail
  rw [← hw0]
  clear hw0
  refine hko.mono ?_; rintro e w1 ⟨⟨K, hKs, hKo, rfl⟩, hb1⟩
  go_wp2_with (first | (with_reducible refine wpl_alloc_x rfl _ rfl zKey_info ?_) | (refine wpl_store_x rfl 142 _ _ rfl (c := zKey) (c' := K) (by rw [hKs]; kernel_rfl) (by rw [hKs]; kernel_rfl) hKo rfl rfl ?_))
  cases q
  all_goals go_ret
  all_goals exact ⟨rfl, bthen (bthen hb0 hb1) (bone _ _)⟩
end Go.Proofs.YtffdfeekpfmbeaaGreat
