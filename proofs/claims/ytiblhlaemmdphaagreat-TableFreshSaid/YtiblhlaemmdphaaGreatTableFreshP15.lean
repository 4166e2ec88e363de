/- Bytes of a page, read; bytes that are given (of RgB, RgI, RgN, RgW, RgY). -/
import Derived.Test.YtiblhlaemmdphaaGreatTableFreshP10
import Derived.Test.YtiblhlaemmdphaaGreatTableFreshP12
import Derived.Test.YtiblhlaemmdphaaGreatTableFreshP14
namespace Go.Proofs.YtiblhlaemmdphaaGreat
open Go Go.Joins Go.ChangeShapes Go.WideShapes Go.Deep Go.RowKit Go.Shelf Go.BigFrame Go.Maps
theorem make_bytesU (w : World) (n : Nat) (hc : n ≤ 1048576) :
  (Instr.makeSlice 31 (.int .u64 n) (.int .u64 n)).run Tryz.prog w = .ok (.slice (some ⟨w.heap.size, 0, none⟩) n n) (w.alloc (.cells (bytesV (List.replicate n 0)) 5)) := by
 obtain ⟨i0, hi1, hi2⟩ := Option.map_eq_some_iff.1 infoByte
 rw [Prod.mk.injEq, Prod.mk.injEq] at hi2
 have h := run_make (P := Tryz.prog) w 31 5 i0 _ Tryz.underlying31 hi1 hi2.1 .u64 .u64 n n (by omega) (by omega) (by rw [hi2.2.2]; omega) (by omega)
 rw [hi2.2.1, Nat.mul_one, made_bytes] at h
 simpa [bytesV] using h
set_option maxRecDepth 20000 in
set_option maxHeartbeats 2000000 in
theorem readIn_any (mb pb : Nat) (s z a : Int) (n : Nat) (L : List Pg) (w : World) (hm : MemP w mb pb s z L) (ha : W64 a) (h1 : 1 ≤ n) (h2 : a % 4096 + n ≤ 4096) (hq : askV s z a n = 0) :
  Calls Tryz.prog 13 #[.pointer (some ⟨mb, 0, none⟩), .int .u64 a, .int .u64 n] w fun e w' => ∃ b, e = .returned (.tuple #[.slice (some ⟨b, 0, none⟩) n n, .int .i64 0]) ∧ w.heap.size ≤ b ∧ Below w.heap.size w w' ∧ w'.heap[b]? = some (.cells (bytesV (rdB (L.map Pg.ab) a n)) 5 (0, 0)) := by
 have hk := fun W h => ask_any mb pb s z a n L W h ha (by unfold W64; omega)
 have ha0 := ha.1
 have ha1 := ha.2
 rw [hq] at hk
 clear hq
 have hlk := fun W h => pg_lookup (W := W) (mb := mb) (pb := pb) (s := s) (z := z) (L := L) h (a / 4096) (by unfold W64 at *; omega)
 have hne := fun (W : World) (x : Option Addr) (n c : Nat) => Lib.run_eql_slice_nil (P := Tryz.prog) W 31 5 x n c 0 0 Tryz.underlying31
 go_enter Tryz.func13, Tryz.ntmps13
 go_wp2_with fail
 refine (hk _ hm).mono ?_; rintro e w1 ⟨rfl, hb1⟩
 have hm1 := hm.below hb1 (Nat.le_refl _)
 clear hk
 obtain ⟨c0, c1, c2⟩ := hm1.cells
 obtain ⟨W2, hW2⟩ : ∃ W2, W2 = w1.alloc (.cells (bytesV (List.replicate n 0)) 5) := ⟨_, rfl⟩
 have hmk := make_bytesU w1 n (by omega)
 have hb2 : Below w1.heap.size w1 W2 := by rw [hW2]; exact bone _ _
 have hbb : W2.heap[w1.heap.size]? = some (.cells (bytesV (List.replicate n 0)) 5 (0, 0)) := by rw [hW2, World.alloc_heap_new]
 rw [← hW2] at hmk
 clear hW2
 have hm2 := hm1.below hb2 (Nat.le_refl _)
 obtain ⟨d0, d1, d2⟩ := hm2.cells
 have hz0 : W2.heap.size > w1.heap.size := (Array.getElem?_eq_some_iff.1 hbb).1
 have hn0 : (0 : Int) < n := by omega
 have hpos : ¬ (n : Int) < n := by omega
 have hmin : min (n : Int) (4096 - a % 4096) = n := by omega
 have hlk2 := hlk _ hm2
 have hle : (a % 4096).toNat + n ≤ 4096 := by omega
 clear c0 c1 c2
 go_wp2_with fail
 clear hmk
 go_loopw [10] (fun u W => (u = .int .u64 0 ∧ W = W2) ∨ (u = .int .u64 n ∧ Below w1.heap.size w1 W ∧ W.heap[w1.heap.size]? = some (.cells (bytesV (rdB (L.map Pg.ab) a n)) 5 (0, 0)))) (fun u _ => n - (intOf u).toNat)
 case atStart => exact .inl ⟨rfl, rfl⟩
 case round =>
  rcases hrel with ⟨rfl, rfl⟩ | ⟨rfl, hbw, hfin⟩
  ·rcases hlk2 with ⟨hno, hrun⟩ | ⟨p, hp, hpn, hrun⟩
   ·have hz := rdB_none (a := a) (m := n) (pg_find_none hno) hle
    rw [← hz] at hbb
    clear hlk hno hz
    go_wp2_with fail
    exact ⟨.inr ⟨rfl, hb2, hbb⟩, by simp [intOf]; omega⟩
   ·obtain ⟨_, hl, hby⟩ := page_row hm2 hp
    have hz := rdB_some (a := a) (m := n) (by rw [← hpn]; exact pg_find_some hm.ok hp) hl hle
    have hcp : ∀ W : World, (∀ k : Nat, W.heap[k]? = wr.heap[k]?) → ∀ ty, (Builtin.copy_ #[31, 31] ty #[.slice (some ⟨w1.heap.size, 0, none⟩) n n, .slice (some ⟨p.blk, (a % 4096).toNat, none⟩) (4096 - (a % 4096).toNat) (4096 - (a % 4096).toNat)]).run Tryz.prog W = .ok (goInt (n : Int)) (W.setRow w1.heap.size (bytesV (rdB (L.map Pg.ab) a n))) := by
     intro W hW ty
     have hlen : (List.map (fun x => Value.int .u8 x) (rdB (L.map Pg.ab) a n)).length = n := by rw [List.length_map, rdB_len]
     have hr := run_copy_row (P := Tryz.prog) W 31 31 ty 5 w1.heap.size 0 n n ⟨p.blk, (a % 4096).toNat, none⟩ (4096 - (a % 4096).toNat) (4096 - (a % 4096).toNat) (bytesV (List.replicate n 0)) 5 ((rdB (L.map Pg.ab) a n).map fun x => Value.int .u8 x)
      Tryz.underlying31 (by kernel_rfl) ((hW _).trans hbb) (by rw [hlen]; exact (Nat.min_eq_right (by omega)).symm) ?_ ?_ (bytesV_one _)
     ·rw [hlen] at hr
      rw [hr]
      congr 2
      simp [bytesV]
     ·intro j v hj
      rw [hz, List.getElem?_map, List.getElem?_take] at hj
      split at hj
      ·rename_i hlt
       rw [List.getElem?_drop, List.getElem?_eq_getElem (by omega)] at hj
       simp only [Option.map_some, Option.some.injEq] at hj
       subst hj
       have hadd : (⟨p.blk, (a % 4096).toNat, none⟩ : Addr).add j = ⟨p.blk, (a % 4096).toNat + j, none⟩ := by unfold Addr.add; split <;> simp_all
       rw [hadd]
       simp only [World.cell?, hW, hm2.page p hp, bytesV]
       simp [List.getElem?_eq_getElem (show (a % 4096).toNat + j < p.bs.length by omega)]
      ·cases hj
     ·rw [hlen]
      simp [bytesV]
    clear hlk hz hby
    replace hpn := Lib.hid hpn
    replace hl := Lib.hid hl
    generalize rdB (L.map Pg.ab) a n = D at *
    go_wp2_with fail
    refine region_ord (fun _ => True) [([0, 1, 2, 3, 4, 5, 6, 7, 8, 9], 10)] [] (by kernel_rfl) (by kernel_rfl) (by kernel_rfl) (by kernel_rfl) trivial ?_
    simp only [List.map_cons, List.map_nil, List.filterMap_cons, List.filterMap_nil, List.getElem?_cons_succ, List.getElem?_cons_zero]
    refine ord_step ?_
    repeat (change wpQuiet _ _ _ _ (List.cons _ _) _; go_big_quiet_step (fail))
    refine wpQuiet_nil ?_
    intro Q₁ hQ₁
    have hc := hcp wr.drew (fun _ => rfl)
    have hbd : Below w1.heap.size w1 wr.drew := hb2.drew
    have hbb' : wr.drew.heap[w1.heap.size]? = some (.cells (bytesV (List.replicate n 0)) 5 (0, 0)) := hbb
    have hfin := setRow_heap wr.drew w1.heap.size _ (bytesV D) _ _ hbb'
    have hbl := below_setRow hbd (Nat.le_refl _) (bytesV D)
    clear hcp hrun
    generalize wr.drew = w5 at *
    go_wp2_with fail
    refine hQ₁ _ _ trivial ?_
    clear hQ₁ Q₁ hc
    generalize w5.setRow w1.heap.size (bytesV D) = w6 at *
    refine ord_last ?_
    refine wpQuiet_nil ?_
    go_wp2_with fail
    exact ⟨.inr ⟨rfl, hbl, hfin⟩, by simp [intOf]; omega⟩
  ·go_wp2_with fail
   go_ret2
   exact ⟨_, rfl, hb1.size, bthen hb1 hbw, hfin⟩
def GivB (w : World) (v : Value) (l : List Int) : Prop :=
 (v = .slice none 0 0 ∧ l = []) ∨ ∃ a cap, v = .slice (some a) l.length cap ∧ (l ≠ [] → ∃ b off, a = ⟨b, off, none⟩ ∧ b < w.heap.size ∧ ∀ i (h : i < l.length), w.cell? ⟨b, off + i, none⟩ = some (.int .u8 l[i]))
theorem GivB.open {w : World} {v : Value} {l : List Int} (h : GivB w v l) : ∃ a cap, v = .slice a l.length cap := by
 rcases h with ⟨h, rfl⟩ | ⟨a, cap, h1, _⟩
 ·exact ⟨none, 0, h⟩
 ·exact ⟨_, cap, h1⟩
theorem GivB.row {w w0 : World} {v : Value} {l : List Int} (h : GivB w0 v l) (hb : Below w0.heap.size w0 w) {Bs : List Nat} (hB : ∀ b ∈ Bs, w0.heap.size ≤ b) :
  ∃ x b off cap, v = .slice x l.length cap ∧ l.length ≤ cap + l.length ∧ (l ≠ [] → x = some ⟨b, off, none⟩ ∧ b < w.heap.size ∧ b ∉ Bs ∧ ∀ i (h : i < l.length), w.cell? ⟨b, off + i, none⟩ = some (.int .u8 l[i])) := by
 rcases h with ⟨rfl, rfl⟩ | ⟨a, cap, rfl, h4⟩
 ·exact ⟨none, 0, 0, 0, rfl, by simp, fun h => absurd rfl h⟩
 ·by_cases hne : l = []
  ·exact ⟨_, 0, 0, cap, rfl, by omega, fun h => absurd hne h⟩
  obtain ⟨b, off, rfl, h2, h3⟩ := h4 hne
  exact ⟨_, b, off, cap, rfl, by omega, fun _ => ⟨rfl, Nat.lt_of_lt_of_le h2 hb.size, fun hm => by have := hB b hm; omega, fun i hi => (hb.cell (p := ⟨b, _, none⟩) h2).trans (h3 i hi)⟩⟩
section
variable {H : Type} {enc : TypeId × Value → H} {w : World} {base : Nat} {spare : Nat → Bool} {held : Bool}
theorem open_givB {fuel : Nat} {c : Value} {y : DataW H × List MemPlace} (h : DataW.trod enc Tryz.prog w base spare held fuel 31 [c] = some y) :
  ∃ l, GivB w c l ∧ (∀ b ∈ l, 0 ≤ b ∧ b < 256) ∧ (∀ x cp, c = .slice x l.length cp → l.length ≤ cp) := by
 rcases open_slice Tryz.underlying31 h with ⟨hcs, _⟩ | ⟨a, len, cap, m, n, D, Pl, hcs, _, hl, hm, hmm, _, hx⟩
 ·simp at hcs
  exact ⟨[], .inl ⟨hcs, rfl⟩, by simp, by simp⟩
 ·simp at hcs
  subst hcs
  have hlm : len ≤ m := by rw [hmm]; split <;> omega
  have hC : Tryz.prog.cellsOf 5 = 1 := by kernel_rfl
  obtain ⟨f, hF⟩ := choose_lt (n := len) (p := fun i (x : Int) => (0 ≤ x ∧ x < 256) ∧ w.cell? (a.add i) = some (.int .u8 x)) (by
   intro i hi
   obtain ⟨cs', h1, h2⟩ := hx i (by omega)
   rw [hC] at h1
   obtain ⟨_, hlen, hcell⟩ := World.cells?_some h1
   obtain ⟨n0, e0, _, w0⟩ := DataW.trod_int Tryz.underlying5 h2
   have e1 := hcell 0 (by decide)
   rw [add_add] at e1
   refine ⟨n0, u8_of w0, ?_⟩
   simp only [e0, Nat.mul_one, Nat.add_zero] at e1
   simpa using e1)
  refine ⟨(List.range len).map f, .inr ⟨a, cap, by simp, fun hne => ?_⟩, ?_, ?_⟩
  ·have hpos : 0 < len := by
    rcases Nat.eq_zero_or_pos len with rfl | h
    ·simp at hne
    ·exact h
   obtain ⟨b, off, spot⟩ := a
   have hs : spot = none := by simpa [Addr.add] using World.cell?_spot (hF 0 hpos).2
   subst hs
   have hb := World.block_lt_of_cell? w _ (hF 0 hpos).2
   refine ⟨b, off, rfl, by simpa [Addr.add] using hb, fun i hi => ?_⟩
   have h2 := (hF i (by simpa using hi)).2
   rw [Go.WideShapes.add_plain] at h2
   simpa using h2
  ·intro x hx
   obtain ⟨i, hi, rfl⟩ := List.mem_map.1 hx
   exact (hF i (List.mem_range.1 hi)).1
  ·intro x cp he
   injection he with _ _ e
   subst e
   simpa using hl
end
theorem conv_row {W : World} {v : Value} {l : List Int} (h : RowB W v l) : (convert 31 9 v).run Tryz.prog W = .ok (.string (strOfNums l)) W := by
 obtain ⟨a, cap, rfl, _, _, h⟩ := h
 by_cases hl : l = []
 ·subst hl
  rcases a with _ | a
  ·exact run_convert_bytes_nil W 31 5 Tryz.underlying31 Tryz.underlying5 0 cap _ Tryz.underlying9
  ·rw [run_convert_bytes_string W 31 9 5 _ _ _ Tryz.underlying31 Tryz.underlying5 Tryz.underlying9]
   exact run_bytesToString W a 0 cap [] rfl
 ·obtain ⟨b, off, rfl, hlt, hc⟩ := h hl
  exact run_convert_bytes_arg W 31 5 Tryz.underlying31 Tryz.underlying5 b off l.length cap l rfl (fun i hi => by rw [hc i hi]; simp [List.getD, hi]) _ Tryz.underlying9
end Go.Proofs.YtiblhlaemmdphaaGreat
/- Chunks that are given, appended; a new memory with any chunks. -/
namespace Go.Proofs.YtiblhlaemmdphaaGreat
open Go Go.Joins Go.ChangeShapes Go.WideShapes Go.Deep Go.RowKit Go.Shelf Go.BigFrame Go.Maps
structure CkV where
 a : Int
 v : Value
 b : List Int
instance : Inhabited CkV := ⟨⟨0, .slice none 0 0, []⟩⟩
structure CkG (w : World) (c : CkV) : Prop where
 giv : GivB w c.v c.b
 byte : ∀ x ∈ c.b, 0 ≤ x ∧ x < 256
 cap : ∀ y k, c.v = .slice y c.b.length k → c.b.length ≤ k
 wa : W64 c.a
def CkR (w : World) (cs : List Value) (c : CkV) : Prop := cs = [.int .u64 c.a, c.v] ∧ CkG w c
theorem CkG.one {w : World} {c : CkV} (h : CkG w c) : c.v.oneCell' = true := by
 obtain ⟨a, cap, e⟩ := h.giv.open
 rw [e]; rfl
section
variable {H : Type} {enc : TypeId × Value → H} {w : World} {base : Nat} {spare : Nat → Bool} {held : Bool}
theorem open_ck (n : Nat) (cs : List Value) (y : DataW H × List MemPlace) (hl : cs.length = 2) (h : DataW.trod enc Tryz.prog w base spare held n 33 cs = some y) : ∃ x, CkR w cs x := by
 obtain ⟨xs, m, _, _, _, hxl, hg⟩ := DataW.trod_struct Tryz.underlying33 h
 obtain ⟨c0, c1, rfl⟩ := list2 hl
 have hsz : xs.length = 2 := hxl
 have g0 : DataW.trod enc Tryz.prog w base spare held m 26 ([c0, c1].drop 0 |>.take (Tryz.prog.cellsOf 26)) = xs[0]? := hg 0 _ rfl
 have g1 : DataW.trod enc Tryz.prog w base spare held m 31 ([c0, c1].drop 1 |>.take (Tryz.prog.cellsOf 31)) = xs[1]? := hg 1 _ rfl
 have k1 : Tryz.prog.cellsOf 26 = 1 := by kernel_rfl
 have k2 : Tryz.prog.cellsOf 31 = 1 := by kernel_rfl
 rw [List.getElem?_eq_getElem (by omega)] at g0 g1
 rw [k1] at g0
 rw [k2] at g1
 obtain ⟨n0, h0, _, w0⟩ := DataW.trod_int Tryz.underlying26 g0
 obtain ⟨l, h1, hb, hc⟩ := open_givB g1
 simp at h0
 subst h0
 exact ⟨⟨n0, c1, l⟩, rfl, h1, hb, hc, u64_bd w0⟩
set_option maxRecDepth 20000 in
theorem open_chunks {r : Reach} {b0 : Nat} {v : Value} {d : DataW H} {p : List MemPlace} (hv : Value.okWide Tryz.prog w r b0 23 v) (h : DataW.Trod enc Tryz.prog w base spare held 23 v d p) : ∃ l, RowX 2 CkR w v l := by
 obtain ⟨a0, len, cap, rfl⟩ := okWide_slice Tryz.underlying23 hv
 obtain ⟨fuel, hf⟩ := h
 exact open_rowX (R := CkR) Tryz.underlying23 (by kernel_rfl) (by decide) open_ck hf
end
def encK (l : List CkV) : List Value := l.flatMap fun c => [.int .u64 c.a, c.v]
theorem encK_get : ∀ (l : List CkV) (i : Nat) (h : i < l.length), (encK l)[2 * i]? = some (.int .u64 l[i].a) ∧ (encK l)[2 * i + 1]? = some l[i].v
 | [], _, h => by simp at h
 | c :: l, 0, _ => ⟨rfl, rfl⟩
 | c :: l, i + 1, h => by
  have ih := encK_get l i (by simpa using h)
  have e : encK (c :: l) = [.int .u64 c.a, c.v] ++ encK l := rfl
  rw [e, List.getElem?_append_right (by simp; omega), List.getElem?_append_right (by simp; omega)]
  simp only [List.length_cons, List.length_nil, List.getElem_cons_succ]
  rw [show 2 * (i + 1) - (0 + 1 + 1) = 2 * i by omega, show 2 * (i + 1) + 1 - (0 + 1 + 1) = 2 * i + 1 by omega]
  exact ih
def OwnK (w : World) (base : Nat) (v : Value) (l : List CkV) : Prop := w.ownsRow base 33 2 v l.length (encK l)
theorem OwnK.nil (w : World) (base : Nat) : OwnK w base (.slice none 0 0) [] := World.ownsRow_nil w base 33 2
theorem OwnK.cells {w : World} {base : Nat} {v : Value} {l : List CkV} (h : OwnK w base v l) : ∃ a cap, v = .slice a l.length cap ∧ ∀ i (h : i < l.length), ∃ g, a = some ⟨g, 0, none⟩ ∧ g < w.heap.size ∧ w.cell? ⟨g, i * 2, none⟩ = some (.int .u64 l[i].a) ∧ w.cell? ⟨g, i * 2 + 1, none⟩ = some l[i].v := by
 obtain ⟨hlen, ⟨rfl, h0⟩ | ⟨g, cap, cur, rfl, hb, hg, hn, hm, hs, hx⟩⟩ := h
 ·obtain rfl : l = [] := List.length_eq_zero_iff.1 h0
  exact ⟨none, 0, rfl, fun i h => by simp at h⟩
 ·refine ⟨_, cap, rfl, fun i hi => ⟨g, rfl, (Array.getElem?_eq_some_iff.1 hg).1, ?_⟩⟩
  obtain ⟨e1, e2⟩ := encK_get l i hi
  rw [Nat.mul_comm] at e1 e2
  rw [← hx, List.getElem?_take, if_pos (by omega)] at e1 e2
  simp only [World.cell?, hg]
  exact ⟨by simpa using e1, by simpa using e2⟩
theorem OwnK.below {w w' : World} {base B : Nat} {v : Value} {l : List CkV} (h : OwnK w base v l) (hb : Below B w w') (hB : w.heap.size ≤ B) : OwnK w' base v l := by
 obtain ⟨hlen, hc⟩ := h
 refine ⟨hlen, ?_⟩
 rcases hc with hc | ⟨g, cap, cur, hv, hbg, hg, hr⟩
 ·exact .inl hc
 ·refine .inr ⟨g, cap, cur, hv, hbg, ?_, hr⟩
  rw [hb.block g (Nat.lt_of_lt_of_le (Array.getElem?_eq_some_iff.1 hg).1 hB)]; exact hg
theorem infoCk : (Tryz.prog.info? 33).map (fun i => (i.zero, i.size, i.bytes)) = some (some (.agg #[.int .u64 0, .slice none 0 0]), 2, 32) := by kernel_rfl
theorem wpl_append_ck {ops : Array Oper} {rest : List Oper} {o : Oper} {a : Act} {Q : Exit → Act → World → Prop} {w : World} {g : Nat} {C : Array Value} (hgd : o.guard = none) (s x : Operand)
  (ho : o.op = .call { callee := .builtin .append, args := #[s, x], argTypes := #[23, 23] })
  (base : Nat) (v : Value) (l : List CkV) (y : CkV) (hs : a.eval s = v) (h1 : y.v.oneCell' = true)
  (hx : a.eval x = .slice (some ⟨g, 0, none⟩) 1 1) (hown : OwnK w base v l) (hg : g = w.heap.size) (hy : C = #[.int .u64 y.a, y.v]) (hl : l.length ≤ 1099511627776) (hbase : base ≤ w.heap.size)
  (h : ∀ v' w', OwnK w' base v' (l ++ [y]) → (∀ B, B ≤ base → Below B w w') → (w.alloc (.cells C 33)).grownBy w' v.ownBlock → wpList Tryz.prog ops Q rest (a.put o.dst v') w') :
  wpList Tryz.prog ops Q (o :: rest) a (w.alloc (.cells C 33)) := by
 subst hy
 subst hg
 obtain ⟨i0, hi1, hi2⟩ := Option.map_eq_some_iff.1 infoCk
 rw [Prod.mk.injEq, Prod.mk.injEq] at hi2
 obtain ⟨hz0, hz1, hz2⟩ := hi2
 refine wpList_append_own _ hgd s x 23 ho base 33 i0 _ 2 32 Tryz.underlying23 hi1 hz0 hz1 hz2 rfl (by decide) v l.length (encK l) hs (World.ownsRow.alloc hown _)
  ⟨w.heap.size, 0, none⟩ 1 1 (encK [y]) hx rfl ?_ ?_ ?_ ?_ ?_ ?_
 ·intro j u hu
  have hadd : (⟨w.heap.size, 0, none⟩ : Addr).add j = ⟨w.heap.size, j, none⟩ := by unfold Addr.add; split <;> simp_all
  rw [hadd, World.cell?_alloc_new]
  simpa [encK] using hu
 ·intro u hu
  simp [encK] at hu
  rcases hu with rfl | rfl
  ·rfl
  ·exact h1
 ·unfold maxLen; omega
 ·omega
 ·simp; omega
 ·intro v' w' hown' hg _
  refine h v' w' ?_ ?_ hg
  ·unfold OwnK
   have e : encK (l ++ [y]) = encK l ++ encK [y] := by simp [encK]
   rw [e, List.length_append]; exact hown'
  ·intro B hB
   refine Below.grown ((Below.refl B w).alloc (by omega) _) hg (by simp; omega) fun k hk => ?_
   exact Nat.le_trans hB (World.ownsRow.lt hown k hk).1
end Go.Proofs.YtiblhlaemmdphaaGreat
/- A new memory with any chunks. -/
namespace Go.Proofs.YtiblhlaemmdphaaGreat
open Go Go.RowKit Go.Shelf Go.BigFrame Go.Maps
set_option maxRecDepth 20000 in
set_option maxHeartbeats 2000000 in
theorem newMemL_any (x : Two) (va : Option Addr) (cap : Nat) (l : List CkV) (w0 w : World) (h1 : pageBad x = false) (h2 : lastV x.a x.b < 1099511627776)
  (hc : ∀ i (h : i < l.length), ∃ g, va = some ⟨g, 0, none⟩ ∧ g < w.heap.size ∧ w.cell? ⟨g, i * 2, none⟩ = some (.int .u64 l[i].a) ∧ w.cell? ⟨g, i * 2 + 1, none⟩ = some l[i].v)
  (hg : ∀ c ∈ l, CkG w0 c ∧ c.b.length ≤ 3000 ∧ askV x.a x.b c.a c.b.length = 0) (hw0 : Below w0.heap.size w0 w) (hl : l.length ≤ 1000) :
  Calls Tryz.prog 9 #[.agg #[.int .u64 x.a, .int .u64 x.b], .slice va l.length cap] w fun e w' =>
   ∃ mb pb L', e = .returned (.tuple #[.pointer (some ⟨mb, 0, none⟩), .int .i64 0]) ∧ MemP w' mb pb x.a x.b L' ∧ Below w.heap.size w w' ∧ ∀ b ∈ memBlks mb pb L', w.heap.size ≤ b := by
 have hp := fun (W : World) => pages_any (.slice (some ⟨W.heap.size, 0, none⟩) 1 1) [x] (W.alloc (.cells #[.int .u64 x.a, .int .u64 x.b] 28)) (rowOne W x) (by simp)
 have hlv := fun W => last_any x.a x.b W x.ha x.hb
 have e1 : ([x] : List Two).any pageBad = false := by simp [h1]
 rw [e1] at hp
 have hw : ∀ (W : World) mb pb L k (hk : k < l.length), MemP W mb pb x.a x.b L → Below w.heap.size w W → (∀ b ∈ memBlks mb pb L, w.heap.size ≤ b) → Calls Tryz.prog 23 #[.pointer (some ⟨mb, 0, none⟩), .int .u64 l[k].a, l[k].v] W fun e W' => e = .returned (.int .i64 0) ∧ ∃ L', Wrote W W' mb pb x.a x.b L L' w.heap.size (writeV (L.map Pg.ab) l[k].a l[k].b) := by
  intro W mb pb L k hk hm hb hB
  obtain ⟨hG, h3, hq⟩ := hg l[k] (List.getElem_mem hk)
  have hcap := hG.cap
  have hwa := hG.wa
  have hby := hG.byte
  obtain ⟨y, b, off, cp, e, -, hx⟩ := hG.giv.row (hw0.trans (hb.mono hw0.size)) (Bs := memBlks mb pb L) (fun b hb => Nat.le_trans hw0.size (hB b hb))
  rw [e]
  have h := write_any mb pb x.a x.b l[k].a L w.heap.size b off cp y l[k].b W hm hwa hB hx hby (by omega) (hcap _ _ e)
  rw [hq] at h
  exact h
 have hvs : ∀ k (hk : k < l.length), ∃ y n cp, l[k].v = .slice y n cp := fun k hk => by
  obtain ⟨y, cp, e⟩ := (hg l[k] (List.getElem_mem hk)).1.giv.open
  exact ⟨y, _, cp, e⟩
 clear e1 h1 hg hw0
 obtain ⟨N, hN⟩ : ∃ N, l.length = N := ⟨_, rfl⟩
 rw [hN]
 obtain ⟨lv, hlv'⟩ : ∃ lv, lastV x.a x.b = lv := ⟨_, rfl⟩
 rw [hlv'] at hlv h2
 clear hlv'
 have hmm := @run_makeMap Tryz.prog
 obtain ⟨m0, m1⟩ := two_new w (.int .u64 x.a) (.int .u64 x.b) 28
 have hb0 := bone w (.cells #[.int .u64 x.a, .int .u64 x.b] 28)
 have hz0 : w.heap.size < (w.alloc (.cells #[.int .u64 x.a, .int .u64 x.b] 28)).heap.size := by simp
 replace hw := Lib.hid hw
 replace hvs := Lib.hid hvs
 replace hc := Lib.hid hc
 replace hN := Lib.hid hN
 go_enter Tryz.func9, Tryz.ntmps9
 have hzz : (w.alloc (.cells #[.int .u64 x.a, .int .u64 x.b] 28)).heap.size = w.heap.size + 1 := by simp
 go_wp2_with fail
 generalize w.alloc (.cells #[.int .u64 x.a, .int .u64 x.b] 28) = w0 at *
 have hp0 := hp w0
 simp only [hzz] at hp0
 refine hp0.mono ?_; rintro e w1 ⟨rfl, hb1⟩
 clear hp0
 rw [World.size_alloc, hzz] at hb1
 replace hb1 : Below w0.heap.size w0 w1 := (bone _ _).trans (hb1.mono (by omega))
 clear hzz
 replace m0 := cell_lt hb1 m0 hz0
 replace m1 := cell_lt hb1 m1 hz0
 replace hz0 := Nat.lt_of_lt_of_le hz0 hb1.size
 replace hb1 := bthen hb0 hb1
 clear hb0 hp
 go_wp2_with fail
 refine (hlv w1).mono ?_; rintro e w2 ⟨rfl, hb2⟩
 replace m0 := cell_lt hb2 m0 hz0
 replace m1 := cell_lt hb2 m1 hz0
 replace hz0 := Nat.lt_of_lt_of_le hz0 hb2.size
 replace hb1 := bthen hb1 hb2
 clear hb2 hlv
 go_wp2_with fail
 have hlo : ∀ (o1 o2 : Obj), ((w2.alloc o1).alloc o2).heap[w2.heap.size]? = some o1 := fun o1 o2 => ((bone _ _).block _ (by simp)).trans (World.alloc_heap_new w2 o1)
 have hhi : ∀ (o1 o2 : Obj), ((w2.alloc o1).alloc o2).heap[w2.heap.size + 1]? = some o2 := fun o1 o2 => by
  have := World.alloc_heap_new (w2.alloc o1) o2
  rwa [World.size_alloc] at this
 have hm3 : MemP ((w2.alloc (.map #[] 0)).alloc (.cells #[.int .u64 x.a, .int .u64 x.b, .map (some w2.heap.size)] 67)) (w2.heap.size + 1) w2.heap.size x.a x.b [] := ⟨hhi _ _, ⟨#[], 0, hlo _ _, rfl, Go.MapKept.stamped_empty 0⟩, by simp, by simp, PgOk.nil, x.ha, x.hb⟩
 have hb3 : Below w.heap.size w ((w2.alloc (.map #[] 0)).alloc (.cells #[.int .u64 x.a, .int .u64 x.b, .map (some w2.heap.size)] 67)) := (hb1.alloc (by omega) _).alloc (by simp; omega) _
 have hb4 : Below w2.heap.size w2 ((w2.alloc (.map #[] 0)).alloc (.cells #[.int .u64 x.a, .int .u64 x.b, .map (some w2.heap.size)] 67)) := (bone _ _).trans ((bone _ _).mono (by simp))
 generalize hW3 : (w2.alloc (.map #[] 0)).alloc (.cells #[.int .u64 x.a, .int .u64 x.b, .map (some w2.heap.size)] 67) = W3 at *
 have hs3 : w2.heap.size + 2 = W3.heap.size := by rw [← hW3]; simp
 have hbk : ∀ b ∈ memBlks (w2.heap.size + 1) w2.heap.size [], w.heap.size ≤ b := by
  intro b hb
  have := hb1.size
  simp [memBlks] at hb
  omega
 clear hlo hhi hW3 hb4 m0 m1 hz0 h2 hmm
 replace hs3 := Lib.hid hs3
 generalize w2.heap.size + 1 = mb at *
 generalize w2.heap.size = pb at *
 go_wp2_with fail
 go_loopw [25] (fun i wr => ∃ (k : Nat) (L : List Pg), k ≤ N ∧ i = .int .i64 k ∧ MemP wr mb pb x.a x.b L ∧ Below w.heap.size w wr ∧ ∀ b ∈ memBlks mb pb L, w.heap.size ≤ b) (fun i _ => (N - intOf i).toNat)
 case atStart => exact ⟨0, [], Nat.zero_le _, rfl, hm3, hb3, hbk⟩
 case round =>
  obtain ⟨k, L, hk, rfl, hm, hb, hB⟩ := hrel
  by_cases hlt : (k : Int) < (N : Int)
  ·have hkl : k < l.length := by have := hN.out; omega
   obtain ⟨g, rfl, hgl, c0, c1⟩ := hc.out k hkl
   replace c0 := cell_lt hb c0 hgl
   replace c1 := cell_lt hb c1 hgl
   have hw1 := hw.out
   have hcw := fun W (hm : MemP W mb pb x.a x.b L) (h : Below w.heap.size w W) => hw1 W mb pb L k hkl hm h hB
   obtain ⟨y, n, cp, hvk⟩ := hvs.out k hkl
   rw [hvk] at c1 hcw
   have hbk : (0 : Int) ≤ (k : Int) ∧ (k : Int) < (N : Int) := ⟨by omega, hlt⟩
   have hwk : IntKind.i64.wrap ((k : Int) + 1) = ((k + 1 : Nat) : Int) := by rw [show (k : Int) + 1 = ((k + 1 : Nat) : Int) by omega]; exact IntWalk.i64_in _ (by omega)
   generalize l[k].a = A at *
   generalize l[k].b = D at *
   have hz := hb.size
   have hbo := fun (o : Obj) => hb.alloc hz o
   have hmo := fun (o : Obj) => hm.below (bone wr o) (Nat.le_refl _)
   have hco := fun (o : Obj) => hcw (wr.alloc o) (hmo o) (hbo o)
   clear hw1 hcw
   replace hB := Lib.hid hB
   replace hm := Lib.hid hm
   replace hvk := Lib.hid hvk
   replace hmo := Lib.hid hmo
   replace hbo := Lib.hid hbo
   replace hco := Lib.hid hco
   go_wp2_with fail
   refine (hco.out _).mono ?_; rintro e w4 ⟨rfl, L', hw4⟩
   have hB4 : ∀ b ∈ memBlks mb pb L', w.heap.size ≤ b := fun b hb' => by
    rcases hw4.blks b hb' with h | h
    ·exact hB.out b h
    ·have := (hbo.out (.cells #[Value.int IntKind.u64 A, Value.slice y n cp] 33)).size
     exact Nat.le_trans this h
   go_wp2_with fail
   refine ⟨⟨k + 1, L', by omega, congrArg (Value.int .i64) (by omega), hw4.mem, (hbo.out _).trans hw4.off.below, hB4⟩, by simp [intOf]; omega⟩
  ·replace hB := Lib.hid hB
   replace hm := Lib.hid hm
   go_wp2_with fail
   go_ret2
   exact ⟨_, rfl, _, L, hm.out, hb, hB.out⟩
end Go.Proofs.YtiblhlaemmdphaaGreat
