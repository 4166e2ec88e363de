/- Slices of pairs that a call makes by append. -/
import Derived.WalkKit
import Derived.Maps.AppendAt
import Derived.RangeFuncBox
import Derived.Test.YtiblhlaemmdphaaGreatTableBuildsP2
namespace Go.Proofs.YtiblhlaemmdphaaGreat
open Go Go.RowKit
def encs (l : List Two) : List Value := l.flatMap Two.enc
theorem encs_len (l : List Two) : (encs l).length = l.length * 2 := by
 induction l with
 | nil => rfl
 | cons x l ih => simp [encs, Two.enc] at *; omega
theorem encs_snoc (l : List Two) (y : Two) : encs (l ++ [y]) = encs l ++ [.int .u64 y.a, .int .u64 y.b] := by simp [encs, Two.enc]
theorem encs_get (l : List Two) : ∀ (i : Nat) (h : i < l.length), (encs l)[i * 2]? = some (.int .u64 l[i].a) ∧ (encs l)[i * 2 + 1]? = some (.int .u64 l[i].b) := by
 induction l with
 | nil => intro i h; simp at h
 | cons x l ih =>
  intro i h
  rcases i with _ | i
  ·simp [encs, Two.enc]
  ·have := ih i (by simpa using h)
   rw [show (i + 1) * 2 = i * 2 + 1 + 1 by omega]
   simpa [encs, Two.enc] using this
def OwnTwo (E : TypeId) (w : World) (base : Nat) (v : Value) (l : List Two) : Prop := w.ownsRow base E 2 v l.length (encs l)
theorem OwnTwo.nil (E : TypeId) (w : World) (base : Nat) : OwnTwo E w base (.slice none 0 0) [] := World.ownsRow_nil w base E 2
theorem OwnTwo.alloc {E : TypeId} {w : World} {base : Nat} {v : Value} {l : List Two} (h : OwnTwo E w base v l) (o : Obj) : OwnTwo E (w.alloc o) base v l := World.ownsRow.alloc h o
theorem OwnTwo.lit (E : TypeId) (w : World) (base : Nat) (hb : base ≤ w.heap.size) (l : List Two) (hl : l.length ≤ 1099511627776 := by decide) : OwnTwo E (w.alloc (.cells (encs l).toArray E)) base (.slice (some ⟨w.heap.size, 0, none⟩) l.length l.length) l := by
 have h := World.ownsRow_lit (e := E) (size := 2) (base := base) w (encs l).toArray l.length hb (by unfold maxLen; omega) (by simp [encs_len])
 simpa [OwnTwo] using h
theorem OwnTwo.row {E : TypeId} {w : World} {base : Nat} {v : Value} {l : List Two} (h : OwnTwo E w base v l) : RowTwo w v l := by
 obtain ⟨hlen, ⟨rfl, h0⟩ | ⟨g, cap, cur, rfl, hb, hg, hn, hm, hs, hx⟩⟩ := h
 ·obtain rfl : l = [] := List.length_eq_zero_iff.1 h0
  exact ⟨none, 0, rfl, Nat.le_refl _, fun h => absurd rfl h⟩
 ·refine ⟨some ⟨g, 0, none⟩, cap, rfl, hn, fun _ => ⟨g, 0, rfl, (Array.getElem?_eq_some_iff.1 hg).1, fun i hi => ?_⟩⟩
  have key : ∀ j, j < l.length * 2 → w.cell? ⟨g, 0 + j, none⟩ = (encs l)[j]? := by
   intro j hj
   rw [← hx, List.getElem?_take, if_pos hj, Nat.zero_add]
   simp only [World.cell?, hg]
   simp
  have h1 := encs_get l i hi
  exact ⟨(key (i * 2) (by omega)).trans h1.1, (by rw [Nat.add_assoc]; exact (key (i * 2 + 1) (by omega)).trans h1.2)⟩
theorem OwnTwo.below {E : TypeId} {w w' : World} {base B : Nat} {v : Value} {l : List Two} (h : OwnTwo E w base v l) (hb : Below B w w') (hB : w.heap.size ≤ B) : OwnTwo E w' base v l := by
 obtain ⟨hlen, hc⟩ := h
 refine ⟨hlen, ?_⟩
 rcases hc with hc | ⟨g, cap, cur, hv, hbg, hg, hr⟩
 ·exact .inl hc
 ·refine .inr ⟨g, cap, cur, hv, hbg, ?_, hr⟩
  rw [hb.block g (Nat.lt_of_lt_of_le (Array.getElem?_eq_some_iff.1 hg).1 hB)]; exact hg
theorem OwnTwo.mono {E : TypeId} {w : World} {base base' : Nat} {v : Value} {l : List Two} (h : OwnTwo E w base v l) (hb : base' ≤ base) : OwnTwo E w base' v l :=
 ⟨h.1, h.2.imp id fun ⟨g, cap, cur, hv, hbg, r⟩ => ⟨g, cap, cur, hv, Nat.le_trans hb hbg, r⟩⟩
theorem OwnTwo.lt {E : TypeId} {w : World} {base : Nat} {v : Value} {l : List Two} (h : OwnTwo E w base v l) : ∀ k, v.ownBlock = some k → base ≤ k ∧ k < w.heap.size := World.ownsRow.lt h
theorem grown_cell {w w' : World} {row : Option Nat} (hg : w.grownBy w' row) {b : Nat} (o : Nat) (hb : b < w.heap.size) (hne : row ≠ some b) : w'.cell? ⟨b, o, none⟩ = w.cell? ⟨b, o, none⟩ :=
 World.cell?_of_block (hg.block b hb (fun e => hne e.symm))
def RetOwn (E : TypeId) (w : World) (L : List Two) (e : Ending) (w' : World) : Prop := ∃ r, e = .returned r ∧ OwnTwo E w' w.heap.size r L ∧ Below w.heap.size w w'
def InfoTwo (P : Program) (E : TypeId) : Prop := (P.info? E).map (fun i => (i.zero, i.size, i.bytes)) = some (some (.agg #[.int .u64 0, .int .u64 0]), 2, 16)
theorem encs_get' (l : List Two) (j : Nat) (u : Value) (h : (encs l)[j]? = some u) : u.oneCell' = true := by
 have : u ∈ encs l := List.mem_of_getElem? h
 simp only [encs, List.mem_flatMap] at this
 obtain ⟨x, _, hx⟩ := this
 simp [Two.enc] at hx
 rcases hx with rfl | rfl <;> rfl
theorem wpl_append_many {P : Program} {ops : Array Oper} {rest : List Oper} {o : Oper} {a : Act} {Q : Exit → Act → World → Prop} {w : World} {g m : Nat} {C : Array Value} (hgd : o.guard = none) (s x : Operand) (S : TypeId)
  (ho : o.op = .call { callee := .builtin .append, args := #[s, x], argTypes := #[S, S] })
  (base : Nat) (E : TypeId) (hi : InfoTwo P E) (ht : P.underlying S = some (.slice E)) (v : Value) (l : List Two) (ys : List Two) (hs : a.eval s = v)
  (hx : a.eval x = .slice (some ⟨g, 0, none⟩) m m) (hown : OwnTwo E w base v l) (hm : m = ys.length) (hg : g = w.heap.size) (hy : C = (encs ys).toArray) (hl : l.length + ys.length ≤ 4398046511104) (hbase : base ≤ w.heap.size)
  (h : ∀ v' w', OwnTwo E w' base v' (l ++ ys) → (∀ B, B ≤ base → Below B w w') → (w.alloc (.cells C E)).grownBy w' v.ownBlock → wpList P ops Q rest (a.put o.dst v') w') :
  wpList P ops Q (o :: rest) a (w.alloc (.cells C E)) := by
 subst hy
 subst hg
 subst hm
 obtain ⟨i0, hi1, hz0, hz1, hz2⟩ := info_parts hi
 refine wpList_append_own _ hgd s x S ho base E i0 _ 2 16 ht hi1 hz0 hz1 hz2 rfl (by decide) v l.length (encs l) hs (World.ownsRow.alloc hown _)
  ⟨w.heap.size, 0, none⟩ ys.length ys.length (encs ys) hx (encs_len ys) ?_ ?_ ?_ ?_ ?_ ?_
 ·intro j u hu
  have hadd : (⟨w.heap.size, 0, none⟩ : Addr).add j = ⟨w.heap.size, j, none⟩ := by unfold Addr.add; split <;> simp_all
  rw [hadd, World.cell?_alloc_new]
  simpa using hu
 ·intro u hu
  obtain ⟨j, hj⟩ := List.mem_iff_getElem?.1 hu
  exact encs_get' ys j u hj
 ·unfold maxLen; omega
 ·omega
 ·simp; omega
 ·intro v' w' hown' hg _
  refine h v' w' ?_ ?_ hg
  ·unfold OwnTwo
   have e : encs (l ++ ys) = encs l ++ encs ys := by simp [encs]
   rw [e, List.length_append]; exact hown'
  ·intro B hB
   refine Below.grown ((Below.refl B w).alloc (by omega) _) hg (by simp; omega) fun k hk => ?_
   exact Nat.le_trans hB (World.ownsRow.lt hown k hk).1
theorem wpl_append_two {P : Program} {ops : Array Oper} {rest : List Oper} {o : Oper} {a : Act} {Q : Exit → Act → World → Prop} {w : World} {p q : Int} {g : Nat} (hgd : o.guard = none) (s x : Operand) (S : TypeId)
  (ho : o.op = .call { callee := .builtin .append, args := #[s, x], argTypes := #[S, S] })
  (base : Nat) (E : TypeId) (hi : InfoTwo P E) (ht : P.underlying S = some (.slice E)) (v : Value) (l : List Two) (y : Two) (hs : a.eval s = v)
  (hx : a.eval x = .slice (some ⟨g, 0, none⟩) 1 1) (hown : OwnTwo E w base v l) (hg : g = w.heap.size) (hy : p = y.a ∧ q = y.b) (hl : l.length < 4398046511104) (hbase : base ≤ w.heap.size)
  (h : ∀ v' w', OwnTwo E w' base v' (l ++ [y]) → (∀ B, B ≤ base → Below B w w') → (w.alloc (.cells #[.int .u64 p, .int .u64 q] E)).grownBy w' v.ownBlock → wpList P ops Q rest (a.put o.dst v') w') :
  wpList P ops Q (o :: rest) a (w.alloc (.cells #[.int .u64 p, .int .u64 q] E)) := by
 obtain ⟨rfl, rfl⟩ := hy
 subst hg
 obtain ⟨i0, hi1, hz0, hz1, hz2⟩ := info_parts hi
 refine wpList_append_own _ hgd s x S ho base E i0 _ 2 16 ht hi1 hz0 hz1 hz2 rfl (by decide) v l.length (encs l) hs (World.ownsRow.alloc hown _)
  ⟨w.heap.size, 0, none⟩ 1 1 [.int .u64 y.a, .int .u64 y.b] hx rfl ?_ ?_ ?_ ?_ ?_ ?_
 ·intro j u hu
  rcases j with _ | _ | j
  ·simp at hu; rw [← hu]; simp [Addr.add, World.cell?_alloc_new]
  ·simp at hu; rw [← hu]; simp [Addr.add, World.cell?_alloc_new]
  ·simp at hu
 ·intro u hu; simp at hu; rcases hu with rfl | rfl <;> rfl
 ·unfold maxLen; omega
 ·omega
 ·simp; omega
 ·intro v' w' hown' hg _
  refine h v' w' ?_ ?_ hg
  ·unfold OwnTwo; rw [encs_snoc, List.length_append]; exact hown'
  ·intro B hB
   refine Below.grown ((Below.refl B w).alloc (by omega) _) hg (by simp; omega) fun k hk => ?_
   exact Nat.le_trans hB (World.ownsRow.lt hown k hk).1
end Go.Proofs.YtiblhlaemmdphaaGreat
/- Rows of maps: structs of five cells. -/
namespace Go.Proofs.YtiblhlaemmdphaaGreat
open Go Go.RowKit
structure M5 where
 ipa : Int
 pa : Int
 sz : Int
 perm : Int
 kind : Int
 hi : W64 ipa
 hp : W64 pa
 hs : W64 sz
instance : Inhabited M5 := ⟨⟨0, 0, 0, 0, 0, by unfold W64; omega, by unfold W64; omega, by unfold W64; omega⟩⟩
def M5.enc (x : M5) : List Value := [.int .u64 x.ipa, .int .u64 x.pa, .int .u64 x.sz, .int .i64 x.perm, .int .i64 x.kind]
def M5.val (x : M5) : Value := .agg #[.int .u64 x.ipa, .int .u64 x.pa, .int .u64 x.sz, .int .i64 x.perm, .int .i64 x.kind]
def encM (l : List M5) : List Value := l.flatMap M5.enc
theorem encM_len (l : List M5) : (encM l).length = l.length * 5 := by
 induction l with
 | nil => rfl
 | cons x l ih => simp [encM, M5.enc] at *; omega
theorem encM_snoc (l : List M5) (y : M5) : encM (l ++ [y]) = encM l ++ y.enc := by simp [encM]
theorem encM_get (l : List M5) : ∀ (i : Nat) (h : i < l.length), (encM l)[i * 5]? = some (.int .u64 l[i].ipa) ∧ (encM l)[i * 5 + 1]? = some (.int .u64 l[i].pa) ∧ (encM l)[i * 5 + 2]? = some (.int .u64 l[i].sz) ∧ (encM l)[i * 5 + 3]? = some (.int .i64 l[i].perm) ∧ (encM l)[i * 5 + 4]? = some (.int .i64 l[i].kind) := by
 induction l with
 | nil => intro i h; simp at h
 | cons x l ih =>
  intro i h
  rcases i with _ | i
  ·simp [encM, M5.enc]
  ·have := ih i (by simpa using h)
   rw [show (i + 1) * 5 = i * 5 + 1 + 1 + 1 + 1 + 1 by omega]
   simpa [encM, M5.enc] using this
def RowM (w : World) (v : Value) (l : List M5) : Prop :=
 ∃ (a : Option Addr) (cap : Nat), v = .slice a l.length cap ∧ l.length ≤ cap ∧ (l ≠ [] → ∃ b off, a = some ⟨b, off, none⟩ ∧ b < w.heap.size ∧
  ∀ i (h : i < l.length), w.cell? ⟨b, off + i * 5, none⟩ = some (.int .u64 l[i].ipa) ∧ w.cell? ⟨b, off + i * 5 + 1, none⟩ = some (.int .u64 l[i].pa) ∧ w.cell? ⟨b, off + i * 5 + 2, none⟩ = some (.int .u64 l[i].sz) ∧ w.cell? ⟨b, off + i * 5 + 3, none⟩ = some (.int .i64 l[i].perm) ∧ w.cell? ⟨b, off + i * 5 + 4, none⟩ = some (.int .i64 l[i].kind))
theorem RowM.below {w w' : World} {v : Value} {l : List M5} (h : RowM w v l) (hb : Below w.heap.size w w') : RowM w' v l := by
 obtain ⟨a, cap, h1, hc, h2⟩ := h
 refine ⟨a, cap, h1, hc, fun hl => ?_⟩
 obtain ⟨b, off, ha, hlt, hcell⟩ := h2 hl
 refine ⟨b, off, ha, Nat.lt_of_lt_of_le hlt hb.size, fun i hi => ?_⟩
 obtain ⟨c0, c1, c2, c3, c4⟩ := hcell i hi
 exact ⟨(hb.cell (p := ⟨b, _, none⟩) hlt).trans c0, (hb.cell (p := ⟨b, _, none⟩) hlt).trans c1, (hb.cell (p := ⟨b, _, none⟩) hlt).trans c2, (hb.cell (p := ⟨b, _, none⟩) hlt).trans c3, (hb.cell (p := ⟨b, _, none⟩) hlt).trans c4⟩
def OwnM (E : TypeId) (w : World) (base : Nat) (v : Value) (l : List M5) : Prop := w.ownsRow base E 5 v l.length (encM l)
theorem OwnM.nil (E : TypeId) (w : World) (base : Nat) : OwnM E w base (.slice none 0 0) [] := World.ownsRow_nil w base E 5
theorem OwnM.row {E : TypeId} {w : World} {base : Nat} {v : Value} {l : List M5} (h : OwnM E w base v l) : RowM w v l := by
 obtain ⟨hlen, ⟨rfl, h0⟩ | ⟨g, cap, cur, rfl, hb, hg, hn, hm, hs, hx⟩⟩ := h
 ·obtain rfl : l = [] := List.length_eq_zero_iff.1 h0
  exact ⟨none, 0, rfl, Nat.le_refl _, fun h => absurd rfl h⟩
 ·refine ⟨some ⟨g, 0, none⟩, cap, rfl, hn, fun _ => ⟨g, 0, rfl, (Array.getElem?_eq_some_iff.1 hg).1, fun i hi => ?_⟩⟩
  have key : ∀ j, j < l.length * 5 → w.cell? ⟨g, 0 + j, none⟩ = (encM l)[j]? := by
   intro j hj
   rw [← hx, List.getElem?_take, if_pos hj, Nat.zero_add]
   simp only [World.cell?, hg]
   simp
  obtain ⟨e0, e1, e2, e3, e4⟩ := encM_get l i hi
  exact ⟨(key (i * 5) (by omega)).trans e0, (by rw [Nat.add_assoc]; exact (key (i * 5 + 1) (by omega)).trans e1), (by rw [Nat.add_assoc]; exact (key (i * 5 + 2) (by omega)).trans e2), (by rw [Nat.add_assoc]; exact (key (i * 5 + 3) (by omega)).trans e3), (by rw [Nat.add_assoc]; exact (key (i * 5 + 4) (by omega)).trans e4)⟩
theorem OwnM.below {E : TypeId} {w w' : World} {base B : Nat} {v : Value} {l : List M5} (h : OwnM E w base v l) (hb : Below B w w') (hB : w.heap.size ≤ B) : OwnM E w' base v l := by
 obtain ⟨hlen, hc⟩ := h
 refine ⟨hlen, ?_⟩
 rcases hc with hc | ⟨g, cap, cur, hv, hbg, hg, hr⟩
 ·exact .inl hc
 ·refine .inr ⟨g, cap, cur, hv, hbg, ?_, hr⟩
  rw [hb.block g (Nat.lt_of_lt_of_le (Array.getElem?_eq_some_iff.1 hg).1 hB)]; exact hg
theorem OwnM.mono {E : TypeId} {w : World} {base base' : Nat} {v : Value} {l : List M5} (h : OwnM E w base v l) (hb : base' ≤ base) : OwnM E w base' v l :=
 ⟨h.1, h.2.imp id fun ⟨g, cap, cur, hv, hbg, r⟩ => ⟨g, cap, cur, hv, Nat.le_trans hb hbg, r⟩⟩
def InfoM (P : Program) (E : TypeId) : Prop := (P.info? E).map (fun i => (i.zero, i.size, i.bytes)) = some (some (.agg #[.int .u64 0, .int .u64 0, .int .u64 0, .int .i64 0, .int .i64 0]), 5, 40)
theorem encM_one (l : List M5) (u : Value) (h : u ∈ encM l) : u.oneCell' = true := by
 simp only [encM, List.mem_flatMap] at h
 obtain ⟨x, _, hx⟩ := h
 simp [M5.enc] at hx
 rcases hx with rfl | rfl | rfl | rfl | rfl <;> rfl
theorem wpl_append_map {P : Program} {ops : Array Oper} {rest : List Oper} {o : Oper} {a : Act} {Q : Exit → Act → World → Prop} {w : World} {g m : Nat} {C : Array Value} (hgd : o.guard = none) (s x : Operand) (S : TypeId)
  (ho : o.op = .call { callee := .builtin .append, args := #[s, x], argTypes := #[S, S] })
  (base : Nat) (E : TypeId) (hi : InfoM P E) (ht : P.underlying S = some (.slice E)) (v : Value) (l : List M5) (ys : List M5) (hs : a.eval s = v)
  (hx : a.eval x = .slice (some ⟨g, 0, none⟩) m m) (hown : OwnM E w base v l) (hm : m = ys.length) (hg : g = w.heap.size) (hy : C = (encM ys).toArray) (hl : l.length + ys.length ≤ 1099511627776) (hbase : base ≤ w.heap.size)
  (h : ∀ v' w', OwnM E w' base v' (l ++ ys) → (∀ B, B ≤ base → Below B w w') → (w.alloc (.cells C E)).grownBy w' v.ownBlock → wpList P ops Q rest (a.put o.dst v') w') :
  wpList P ops Q (o :: rest) a (w.alloc (.cells C E)) := by
 subst hy
 subst hg
 subst hm
 obtain ⟨i0, hi1, hi2⟩ := Option.map_eq_some_iff.1 hi
 rw [Prod.mk.injEq, Prod.mk.injEq] at hi2
 obtain ⟨hz0, hz1, hz2⟩ := hi2
 refine wpList_append_own _ hgd s x S ho base E i0 _ 5 40 ht hi1 hz0 hz1 hz2 rfl (by decide) v l.length (encM l) hs (World.ownsRow.alloc hown _)
  ⟨w.heap.size, 0, none⟩ ys.length ys.length (encM ys) hx (encM_len ys) ?_ ?_ ?_ ?_ ?_ ?_
 ·intro j u hu
  have hadd : (⟨w.heap.size, 0, none⟩ : Addr).add j = ⟨w.heap.size, j, none⟩ := by unfold Addr.add; split <;> simp_all
  rw [hadd, World.cell?_alloc_new]
  simpa using hu
 ·intro u hu
  exact encM_one ys u hu
 ·unfold maxLen; omega
 ·omega
 ·simp; omega
 ·intro v' w' hown' hg _
  refine h v' w' ?_ ?_ hg
  ·unfold OwnM
   have e : encM (l ++ ys) = encM l ++ encM ys := by simp [encM]
   rw [e, List.length_append]; exact hown'
  ·intro B hB
   refine Below.grown ((Below.refl B w).alloc (by omega) _) hg (by simp; omega) fun k hk => ?_
   exact Nat.le_trans hB (World.ownsRow.lt hown k hk).1
end Go.Proofs.YtiblhlaemmdphaaGreat
