/- The walks of word.put: how many bytes there are. -/
import Derived.Laws.CopyOwn
import Derived.Laws.MakeOwn
import Derived.Maps.AppendAt
import Derived.RangeFuncNested
import Derived.Test.YtffdfeekpfmbeaaGreatValidChecksP18
namespace Go.Proofs.YtffdfeekpfmbeaaGreat
open Go Go.RowKit Go.BigFrame

/-- A row of so many cells, of the call's own; a row of cells. -/
def OwnN (W : World) (base : Nat) (v : Value) (n : Nat) : Prop := ∃ xs : List Value, W.ownsRow base 5 1 v n xs ∧ ∀ y ∈ xs, y.oneCell' = true
def RowV (W : World) (u : Value) (ys : List Value) : Prop :=
  ∃ (a : Option Addr) (cap : Nat), u = .slice a ys.length cap ∧ (ys ≠ [] → ∃ b off, a = some ⟨b, off, none⟩ ∧ b < W.heap.size ∧ ∀ j y, ys[j]? = some y → W.cell? ⟨b, off + j, none⟩ = some y)
theorem RowV.below {W W' : World} {u : Value} {ys : List Value} (h : RowV W u ys) (hb : Below W.heap.size W W') : RowV W' u ys := by
  obtain ⟨a, cap, h1, h2⟩ := h
  refine ⟨a, cap, h1, fun hne => ?_⟩
  obtain ⟨b, off, ha, hlt, hc⟩ := h2 hne
  exact ⟨b, off, ha, Nat.lt_of_lt_of_le hlt hb.size, fun j y hy => (hb.cell (p := ⟨b, _, none⟩) hlt).trans (hc j y hy)⟩
theorem RowV.lit (W : World) (C : Array Value) (E : TypeId) : RowV (W.alloc (.cells C E)) (.slice (some ⟨W.heap.size, 0, none⟩) C.size C.size) C.toList := by
  refine ⟨_, _, by rw [Array.length_toList], fun _ => ⟨_, _, rfl, by simp, fun j y hy => ?_⟩⟩
  rw [Nat.zero_add, World.cell?_alloc_new]
  simpa using hy
theorem OwnN.row {W : World} {base : Nat} {v : Value} {n : Nat} (h : OwnN W base v n) : ∃ ys : List Value, ys.length = n ∧ RowV W v ys ∧ (∀ y ∈ ys, y.oneCell' = true) := by
  obtain ⟨xs, ⟨hl, ⟨rfl, rfl⟩ | ⟨g, cap, cur, rfl, hb, hg, h1, h2, h3, h4⟩⟩, hone⟩ := h
  · refine ⟨[], rfl, ⟨none, 0, rfl, fun h => absurd rfl h⟩, by simp⟩
  · have hlx : xs.length = n := by rw [hl, Nat.mul_one]
    have hc : ∀ j y, xs[j]? = some y → W.cell? ⟨g, j, none⟩ = some y := fun j y hy => by
      rw [← h4, List.getElem?_take] at hy
      split at hy
      · simp only [World.cell?, hg]; simpa using hy
      · cases hy
    exact ⟨xs, hlx, ⟨_, cap, by rw [hlx], fun _ => ⟨g, 0, rfl, (Array.getElem?_eq_some_iff.1 hg).1, fun j y hy => by rw [Nat.zero_add]; exact hc j y hy⟩⟩, hone⟩
theorem OwnN.slice {W : World} {base : Nat} {v : Value} {n : Nat} (h : OwnN W base v n) : ∃ a c, v = .slice a n c := by
  obtain ⟨xs, ⟨_, ⟨rfl, rfl⟩ | ⟨g, cap, cur, rfl, _⟩⟩, _⟩ := h
  · exact ⟨_, _, rfl⟩
  · exact ⟨_, _, rfl⟩
theorem OwnN.lt {W : World} {base : Nat} {v : Value} {n : Nat} (h : OwnN W base v n) : ∀ k, v.ownBlock = some k → base ≤ k ∧ k < W.heap.size := by
  obtain ⟨xs, h, _⟩ := h
  exact World.ownsRow.lt h
theorem OwnN.below {W W' : World} {base : Nat} {v : Value} {n : Nat} (h : OwnN W base v n) (hb : Below W.heap.size W W') : OwnN W' base v n := by
  obtain ⟨xs, ⟨hl, hc⟩, hone⟩ := h
  refine ⟨xs, ⟨hl, ?_⟩, hone⟩
  rcases hc with hc | ⟨g, cap, cur, rfl, h1, hg, hr⟩
  · exact .inl hc
  · exact .inr ⟨g, cap, cur, rfl, h1, (hb.block g (Array.getElem?_eq_some_iff.1 hg).1).trans hg, hr⟩
theorem infoU8 : (Tryz.prog.info? 5).map (fun i => (i.zero, i.size, i.bytes)) = some (some (.int .u8 0), 1, 1) := by kernel_rfl
/-- Some more cells behind. -/
theorem OwnN.app {ops : Array Oper} {rest : List Oper} {o : Oper} {a : Act} {Q : Exit → Act → World → Prop} {w : World} (hgd : o.guard = none) (s x : Operand)
    (ho : o.op = .call { callee := .builtin .append, args := #[s, x], argTypes := #[65, 65] }) (base : Nat) (v u : Value) (n : Nat) (ys : List Value) (hs : a.eval s = v) (hx : a.eval x = u) (hown : OwnN w base v n) (hu : RowV w u ys) (hne : ys ≠ []) (h1 : ∀ y ∈ ys, y.oneCell' = true) (hl : n + ys.length ≤ 4398046511104) (hbase : base ≤ w.heap.size)
    (h : ∀ v' w', OwnN w' base v' (n + ys.length) → w.grownBy w' v.ownBlock → (v'.ownBlock = v.ownBlock ∨ v'.ownBlock = some w.heap.size) → wpList Tryz.prog ops Q rest (a.put o.dst v') w') : wpList Tryz.prog ops Q (o :: rest) a w := by
  obtain ⟨xs, hown, hone⟩ := hown
  obtain ⟨i0, hi1, hi2⟩ := Option.map_eq_some_iff.1 infoU8
  rw [Prod.mk.injEq, Prod.mk.injEq] at hi2
  obtain ⟨hz0, hz1, hz2⟩ := hi2
  obtain ⟨ad, cap, rfl, hc⟩ := hu
  obtain ⟨b, off, rfl, hb, hc⟩ := hc hne
  refine wpList_append_own_at (P := Tryz.prog) _ hgd s x 65 ho base 5 i0 _ 1 1 Tryz.underlying65 hi1 hz0 hz1 hz2 rfl (by decide) v n xs hs hown ⟨b, off, none⟩ ys.length cap ys hx (by omega) ?_ h1 (by unfold maxLen; omega) (by omega) hbase ?_
  · intro j y hy
    have hadd : (⟨b, off, none⟩ : Addr).add j = ⟨b, off + j, none⟩ := Go.WideShapes.add_plain ..
    rw [hadd]; exact hc j y hy
  · intro v' w' hown' hg _ hat
    refine h v' w' ⟨_, hown', fun y hy => ?_⟩ hg hat
    rcases List.mem_append.1 hy with hy | hy
    · exact hone y hy
    · exact h1 y hy
theorem make_u8 (w : World) (l c : Int) (h0 : 0 ≤ l) (hlc : l ≤ c) (hc : c ≤ 4398046511104) :
    ∃ cur : List Value, cur.length = c.toNat ∧ (Instr.makeSlice 65 (.int .i64 l) (.int .i64 c)).run Tryz.prog w = .ok (.slice (some ⟨w.heap.size, 0, none⟩) l.toNat c.toNat) (w.alloc (.cells cur.toArray 5)) := by
  obtain ⟨i0, hi1, hi2⟩ := Option.map_eq_some_iff.1 infoU8
  rw [Prod.mk.injEq, Prod.mk.injEq] at hi2
  have h := run_make (P := Tryz.prog) w 65 5 i0 _ Tryz.underlying65 hi1 hi2.1 .i64 .i64 l c h0 hlc (by rw [hi2.2.2]; omega) (by omega)
  rw [hi2.2.1, Nat.mul_one] at h
  exact ⟨(madeCells (Value.int .u8 0).cells c.toNat).toList, by rw [Array.length_toList, size_madeCells], by rw [Array.toArray_toList]; exact h⟩
theorem copy_run {B g n cap capb : Nat} {ab : Option Addr} {bs cur : List Value} {w w0 : World} (hg : w0.heap[g]? = some (.cells cur.toArray 5 (0, 0))) (hn : n = bs.length)
    (hpos : 0 < bs.length → (some ⟨g, 0, none⟩ : Option Addr) = some ⟨g, 0, none⟩ ∧ ∃ ad, ab = some ad ∧ ∀ j v, bs[j]? = some v → w0.cell? (ad.add j) = some v) (hfit : 0 + bs.length ≤ cur.length) (h1 : ∀ v ∈ bs, v.oneCell' = true) (hb : Below B w w0) (hB : B ≤ g) :
    ∃ w3, (Builtin.copy_ #[65, 65] 3 #[.slice (some ⟨g, 0, none⟩) n cap, .slice ab n capb]).run Tryz.prog w0 = .ok (.int .i64 n) w3 ∧ w3.heap[g]? = some (.cells (bs ++ cur.drop bs.length).toArray 5 (0, 0)) ∧ Below B w w3 := by
  subst hn
  have hu := Tryz.underlying65
  have hsz : (Tryz.prog.info? 5).map (·.size) = some 1 := by kernel_rfl
  by_cases h0 : bs.length = 0
  · obtain rfl : bs = [] := List.eq_nil_of_length_eq_zero h0
    exact ⟨w0, run_copy_none (P := Tryz.prog) w0 65 65 3 5 _ _ _ _ _ _ hu hsz rfl, by simpa using hg, hb⟩
  · obtain ⟨_, ad, rfl, hc⟩ := hpos (by omega)
    have h := run_copy_row (P := Tryz.prog) w0 65 65 3 5 g 0 bs.length cap ad bs.length capb cur.toArray 5 bs hu hsz hg (Nat.min_self _).symm hc (by simpa using hfit) h1
    refine ⟨_, h, ?_, below_setRow hb hB _⟩
    simpa using setRow_heap w0 g _ _ 5 _ hg

theorem sizeu32_any (w : World) : Calls Tryz.prog 108 #[] w fun e w' => e = .returned (.int .i64 4) ∧ w = w' := by
  go_enter Tryz.func108, Tryz.ntmps108
  go_wp2
  go_ret
  exact ⟨rfl, rfl⟩
set_option maxRecDepth 20000 in
set_option maxHeartbeats 4000000 in
theorem putu32_len (vb vl : Value) (bs : List Value) (ls : List Int) (w : World) (hb : RowV w vb bs) (h1b : ∀ y ∈ bs, y.oneCell' = true) (hl : RowV w vl (ls.map (Value.int .u32))) (hn : bs.length ≤ 10000000 ∧ ls.length ≤ 10000) :
    Calls Tryz.prog 95 #[vb, .bool false, vl] w fun e w' => ∃ r, e = .returned r ∧ OwnN w' w.heap.size r (bs.length + 4 * ls.length) ∧ Below w.heap.size w w' := by
  have hb' := hb
  obtain ⟨ab, cb, rfl, hcb⟩ := hb'
  obtain ⟨al, cl, hvl, hcl⟩ := hl
  rw [List.length_map] at hvl
  subst hvl
  obtain ⟨cur, hcur, hmk⟩ := make_u8 w bs.length (bs.length + 4 * ls.length) (by omega) (by omega) (by omega)
  have e1 : ((bs.length : Nat) : Int).toNat = bs.length := by omega
  have e2 : ((bs.length : Int) + 4 * (ls.length : Int)).toNat = bs.length + 4 * ls.length := by omega
  rw [e1, e2] at hmk
  rw [e2] at hcur
  have f1 : wrap64 (4 * (ls.length : Int)) = 4 * (ls.length : Int) := by unfold wrap64; omega
  have f2 : wrap64 ((bs.length : Int) + 4 * (ls.length : Int)) = (bs.length : Int) + 4 * (ls.length : Int) := by unfold wrap64; omega
  have f3 : IntKind.i64.wrap (4 * (ls.length : Int)) = 4 * (ls.length : Int) := by rw [IntKind.wrap_i64]; omega
  have f4 : IntKind.i64.wrap ((bs.length : Int) + 4 * (ls.length : Int)) = (bs.length : Int) + 4 * (ls.length : Int) := by rw [IntKind.wrap_i64]; omega
  go_enter Tryz.func95, Tryz.ntmps95
  go_wp2_with fail
  refine (sizeu32_any _).mono ?_; rintro e w1 ⟨rfl, rfl⟩
  obtain ⟨w0, hw0⟩ : ∃ w0, w0 = w.alloc (.cells cur.toArray 5) := ⟨_, rfl⟩
  have hs0 : w0.heap[w.heap.size]? = some (.cells cur.toArray 5 (0, 0)) := by rw [hw0]; exact World.alloc_heap_new w _
  have hb0 : Below w.heap.size w w0 := by rw [hw0]; exact bone w _
  rw [← hw0] at hmk
  clear hw0
  have hpos : 0 < bs.length → (some ⟨w.heap.size, 0, none⟩ : Option Addr) = some ⟨w.heap.size, 0, none⟩ ∧ ∃ ad, ab = some ad ∧ ∀ j v, bs[j]? = some v → w0.cell? (ad.add j) = some v := fun h => by
    obtain ⟨b, off, rfl, hlt, hc⟩ := hcb (by rintro rfl; simp at h)
    refine ⟨rfl, _, rfl, fun j v hv => ?_⟩
    have hadd : (⟨b, off, none⟩ : Addr).add j = ⟨b, off + j, none⟩ := Go.WideShapes.add_plain ..
    rw [hadd]; exact cell_lt hb0 (hc j v hv) hlt
  obtain ⟨w3, hcp, hg3, hb3⟩ := copy_run (capb := cb) (n := bs.length) (cap := bs.length + 4 * ls.length) hs0 rfl hpos (by omega) h1b hb0 (Nat.le_refl _)
  go_wp2_with fail
  have hown3 : OwnN w3 w.heap.size (.slice (some ⟨w.heap.size, 0, none⟩) bs.length (bs.length + 4 * ls.length)) bs.length := by
    refine ⟨bs, ⟨by omega, .inr ⟨w.heap.size, _, _, rfl, Nat.le_refl _, hg3, by omega, by unfold maxLen; omega, ?_, ?_⟩⟩, h1b⟩
    · simp; omega
    · simp
  clear hpos hs0 hg3 hcp hmk hcur hb0 hb
  go_loopw [8, 29] (fun v i wr => ∃ j : Nat, j ≤ ls.length ∧ i = .int .i64 j ∧ OwnN wr w.heap.size v (bs.length + 4 * j) ∧ Below w.heap.size w wr) (fun _ i _ => ls.length - (intOf i).toNat)
  case atStart => exact ⟨0, Nat.zero_le _, rfl, by simpa using hown3, hb3⟩
  case round =>
    obtain ⟨j, hj, rfl, hown, hB⟩ := hrel
    clear hown3 hb3
    by_cases hlt : j < ls.length
    · obtain ⟨b, off, rfl, hbl, hc⟩ := hcl (by intro e; rw [List.map_eq_nil_iff] at e; rw [e] at hlt; simp at hlt)
      have c0 := cell_lt hB (hc j (.int .u32 ls[j]) (by simp [hlt])) hbl
      generalize ls[j] = x at *
      obtain ⟨wo, rfl⟩ : ∃ wo, wo = wr := ⟨_, rfl⟩
      go_wp2_with fail
      go_loopw [8, 34] (fun v i wr => ∃ k : Nat, k ≤ 4 ∧ i = .int .i64 k ∧ OwnN wr w.heap.size v (bs.length + 4 * j + k) ∧ Below w.heap.size w wr) (fun _ i _ => 4 - (intOf i).toNat)
      case atStart => exact ⟨0, Nat.zero_le _, rfl, hown, hB⟩
      case round =>
        clear hown hB
        obtain ⟨k, hk, rfl, hown, hB⟩ := hrel
        have hz := hB.size
        have hol := hown.lt
        by_cases hk4 : k < 4
        · obtain ⟨av, cv, rfl⟩ := hown.slice
          have g1 : IntKind.i64.wrap (3 - (k : Int)) = 3 - (k : Int) := by rw [IntKind.wrap_i64]; omega
          have g2 : IntKind.i64.wrap (8 * (3 - (k : Int))) = 8 * (3 - (k : Int)) := by rw [IntKind.wrap_i64]; omega
          have g3 : ¬ 8 * (3 - (k : Int)) < 0 := by omega
          have g4 : ¬ 8 * (3 - (k : Int)) ≥ 32 := by omega
          go_wp2_with (at_builtin; refine OwnN.app rfl _ _ rfl w.heap.size (.slice av (bs.length + 4 * j + k) cv) (.slice (some ⟨wr.heap.size, 0, none⟩) 1 1) (bs.length + 4 * j + k) _ rfl rfl ?_ (RowV.lit wr _ 5) ?_ ?_ ?_ ?_ ?_; (focus (exact hown.below (bone _ _))); (focus (simp)); (focus (intro y hy; simp at hy; rw [hy]; rfl)); (focus (simp; omega)); (focus (simp; omega)); intro v' w6 hown6 hgr hat)
          have hB6 : Below w.heap.size w w6 := Below.grown (hB.alloc hz _) hgr (by simp; omega) (fun q hq => (hol q hq).1)
          have e1 : bs.length + 4 * j + (k + 1) = bs.length + 4 * j + k + 1 := by omega
          exact ⟨⟨k + 1, by omega, by go_num, by rw [e1]; exact hown6, hB6⟩, by simp [intOf]; omega⟩
        · obtain rfl : k = 4 := by omega
          go_wp2_with fail
          have e1 : bs.length + 4 * (j + 1) = bs.length + 4 * j + 4 := by omega
          exact ⟨⟨j + 1, by omega, by go_num, by rw [e1]; exact hown, hB⟩, by simp [intOf]; omega⟩
    · obtain rfl : j = ls.length := by omega
      go_wp2_with fail
      go_ret
      exact ⟨_, rfl, hown, hB⟩

theorem sizeu64_any (w : World) : Calls Tryz.prog 112 #[] w fun e w' => e = .returned (.int .i64 8) ∧ w = w' := by
  go_enter Tryz.func112, Tryz.ntmps112
  go_wp2
  go_ret
  exact ⟨rfl, rfl⟩
set_option maxRecDepth 20000 in
set_option maxHeartbeats 4000000 in
theorem putu64_len (vb vl : Value) (bs : List Value) (ls : List Int) (w : World) (hb : RowV w vb bs) (h1b : ∀ y ∈ bs, y.oneCell' = true) (hl : RowV w vl (ls.map (Value.int .u64))) (hn : bs.length ≤ 10000000 ∧ ls.length ≤ 10000) :
    Calls Tryz.prog 97 #[vb, .bool false, vl] w fun e w' => ∃ r, e = .returned r ∧ OwnN w' w.heap.size r (bs.length + 8 * ls.length) ∧ Below w.heap.size w w' := by
  have hb' := hb
  obtain ⟨ab, cb, rfl, hcb⟩ := hb'
  obtain ⟨al, cl, hvl, hcl⟩ := hl
  rw [List.length_map] at hvl
  subst hvl
  obtain ⟨cur, hcur, hmk⟩ := make_u8 w bs.length (bs.length + 8 * ls.length) (by omega) (by omega) (by omega)
  have e1 : ((bs.length : Nat) : Int).toNat = bs.length := by omega
  have e2 : ((bs.length : Int) + 8 * (ls.length : Int)).toNat = bs.length + 8 * ls.length := by omega
  rw [e1, e2] at hmk
  rw [e2] at hcur
  have f1 : wrap64 (8 * (ls.length : Int)) = 8 * (ls.length : Int) := by unfold wrap64; omega
  have f2 : wrap64 ((bs.length : Int) + 8 * (ls.length : Int)) = (bs.length : Int) + 8 * (ls.length : Int) := by unfold wrap64; omega
  have f3 : IntKind.i64.wrap (8 * (ls.length : Int)) = 8 * (ls.length : Int) := by rw [IntKind.wrap_i64]; omega
  have f4 : IntKind.i64.wrap ((bs.length : Int) + 8 * (ls.length : Int)) = (bs.length : Int) + 8 * (ls.length : Int) := by rw [IntKind.wrap_i64]; omega
  go_enter Tryz.func97, Tryz.ntmps97
  go_wp2_with fail
  refine (sizeu64_any _).mono ?_; rintro e w1 ⟨rfl, rfl⟩
  obtain ⟨w0, hw0⟩ : ∃ w0, w0 = w.alloc (.cells cur.toArray 5) := ⟨_, rfl⟩
  have hs0 : w0.heap[w.heap.size]? = some (.cells cur.toArray 5 (0, 0)) := by rw [hw0]; exact World.alloc_heap_new w _
  have hb0 : Below w.heap.size w w0 := by rw [hw0]; exact bone w _
  rw [← hw0] at hmk
  clear hw0
  have hpos : 0 < bs.length → (some ⟨w.heap.size, 0, none⟩ : Option Addr) = some ⟨w.heap.size, 0, none⟩ ∧ ∃ ad, ab = some ad ∧ ∀ j v, bs[j]? = some v → w0.cell? (ad.add j) = some v := fun h => by
    obtain ⟨b, off, rfl, hlt, hc⟩ := hcb (by rintro rfl; simp at h)
    refine ⟨rfl, _, rfl, fun j v hv => ?_⟩
    have hadd : (⟨b, off, none⟩ : Addr).add j = ⟨b, off + j, none⟩ := Go.WideShapes.add_plain ..
    rw [hadd]; exact cell_lt hb0 (hc j v hv) hlt
  obtain ⟨w3, hcp, hg3, hb3⟩ := copy_run (capb := cb) (n := bs.length) (cap := bs.length + 8 * ls.length) hs0 rfl hpos (by omega) h1b hb0 (Nat.le_refl _)
  go_wp2_with fail
  have hown3 : OwnN w3 w.heap.size (.slice (some ⟨w.heap.size, 0, none⟩) bs.length (bs.length + 8 * ls.length)) bs.length := by
    refine ⟨bs, ⟨by omega, .inr ⟨w.heap.size, _, _, rfl, Nat.le_refl _, hg3, by omega, by unfold maxLen; omega, ?_, ?_⟩⟩, h1b⟩
    · simp; omega
    · simp
  clear hpos hs0 hg3 hcp hmk hcur hb0 hb
  go_loopw [8, 29] (fun v i wr => ∃ j : Nat, j ≤ ls.length ∧ i = .int .i64 j ∧ OwnN wr w.heap.size v (bs.length + 8 * j) ∧ Below w.heap.size w wr) (fun _ i _ => ls.length - (intOf i).toNat)
  case atStart => exact ⟨0, Nat.zero_le _, rfl, by simpa using hown3, hb3⟩
  case round =>
    obtain ⟨j, hj, rfl, hown, hB⟩ := hrel
    clear hown3 hb3
    by_cases hlt : j < ls.length
    · obtain ⟨b, off, rfl, hbl, hc⟩ := hcl (by intro e; rw [List.map_eq_nil_iff] at e; rw [e] at hlt; simp at hlt)
      have c0 := cell_lt hB (hc j (.int .u64 ls[j]) (by simp [hlt])) hbl
      generalize ls[j] = x at *
      obtain ⟨wo, rfl⟩ : ∃ wo, wo = wr := ⟨_, rfl⟩
      go_wp2_with fail
      go_loopw [8, 34] (fun v i wr => ∃ k : Nat, k ≤ 8 ∧ i = .int .i64 k ∧ OwnN wr w.heap.size v (bs.length + 8 * j + k) ∧ Below w.heap.size w wr) (fun _ i _ => 8 - (intOf i).toNat)
      case atStart => exact ⟨0, Nat.zero_le _, rfl, hown, hB⟩
      case round =>
        clear hown hB
        obtain ⟨k, hk, rfl, hown, hB⟩ := hrel
        have hz := hB.size
        have hol := hown.lt
        by_cases hk4 : k < 8
        · obtain ⟨av, cv, rfl⟩ := hown.slice
          have g1 : IntKind.i64.wrap (7 - (k : Int)) = 7 - (k : Int) := by rw [IntKind.wrap_i64]; omega
          have g2 : IntKind.i64.wrap (8 * (7 - (k : Int))) = 8 * (7 - (k : Int)) := by rw [IntKind.wrap_i64]; omega
          have g3 : ¬ 8 * (7 - (k : Int)) < 0 := by omega
          have g4 : ¬ 8 * (7 - (k : Int)) ≥ 64 := by omega
          go_wp2_with (at_builtin; refine OwnN.app rfl _ _ rfl w.heap.size (.slice av (bs.length + 8 * j + k) cv) (.slice (some ⟨wr.heap.size, 0, none⟩) 1 1) (bs.length + 8 * j + k) _ rfl rfl ?_ (RowV.lit wr _ 5) ?_ ?_ ?_ ?_ ?_; (focus (exact hown.below (bone _ _))); (focus (simp)); (focus (intro y hy; simp at hy; rw [hy]; rfl)); (focus (simp; omega)); (focus (simp; omega)); intro v' w6 hown6 hgr hat)
          have hB6 : Below w.heap.size w w6 := Below.grown (hB.alloc hz _) hgr (by simp; omega) (fun q hq => (hol q hq).1)
          have e1 : bs.length + 8 * j + (k + 1) = bs.length + 8 * j + k + 1 := by omega
          exact ⟨⟨k + 1, by omega, by go_num, by rw [e1]; exact hown6, hB6⟩, by simp [intOf]; omega⟩
        · obtain rfl : k = 8 := by omega
          go_wp2_with fail
          have e1 : bs.length + 8 * (j + 1) = bs.length + 8 * j + 8 := by omega
          exact ⟨⟨j + 1, by omega, by go_num, by rw [e1]; exact hown, hB⟩, by simp [intOf]; omega⟩
    · obtain rfl : j = ls.length := by omega
      go_wp2_with fail
      go_ret
      exact ⟨_, rfl, hown, hB⟩

set_option maxHeartbeats 1000000 in
theorem be32_len (vb vl : Value) (bs : List Value) (ls : List Int) (w : World) (hb : RowV w vb bs) (h1b : ∀ y ∈ bs, y.oneCell' = true) (hl : RowV w vl (ls.map (Value.int .u32))) (hn : bs.length ≤ 10000000 ∧ ls.length ≤ 10000) :
    Calls Tryz.prog 81 #[vb, vl] w fun e w' => ∃ r, e = .returned r ∧ OwnN w' w.heap.size r (bs.length + 4 * ls.length) ∧ Below w.heap.size w w' := by
  have h := putu32_len vb vl bs ls w hb h1b hl hn
  go_enter Tryz.func81, Tryz.ntmps81
  go_wp2_with fail
  refine h.mono ?_; rintro e w1 ⟨r, rfl, hown, hb1⟩
  go_wp2_with fail
  go_ret
  exact ⟨_, rfl, hown, hb1⟩

set_option maxHeartbeats 1000000 in
theorem be64_len (vb vl : Value) (bs : List Value) (ls : List Int) (w : World) (hb : RowV w vb bs) (h1b : ∀ y ∈ bs, y.oneCell' = true) (hl : RowV w vl (ls.map (Value.int .u64))) (hn : bs.length ≤ 10000000 ∧ ls.length ≤ 10000) :
    Calls Tryz.prog 85 #[vb, vl] w fun e w' => ∃ r, e = .returned r ∧ OwnN w' w.heap.size r (bs.length + 8 * ls.length) ∧ Below w.heap.size w w' := by
  have h := putu64_len vb vl bs ls w hb h1b hl hn
  go_enter Tryz.func85, Tryz.ntmps85
  go_wp2_with fail
  refine h.mono ?_; rintro e w1 ⟨r, rfl, hown, hb1⟩
  go_wp2_with fail
  go_ret
  exact ⟨_, rfl, hown, hb1⟩
end Go.Proofs.YtffdfeekpfmbeaaGreat
