/- Plain: tables that are built: what a builder does to pool, pages and tables. -/
import Derived.BigRegion
import Derived.Test.YtiblhlaemmdphaaGreatTableBuildsP2
import Derived.Test.YtiblhlaemmdphaaGreatTableBuildsP6
import Derived.Test.YtiblhlaemmdphaaGreatTableBuildsP7
import Derived.Test.YtiblhlaemmdphaaGreatTableBuildsP13
import Derived.Test.YtiblhlaemmdphaaGreatTableBuildsP15
import Derived.Test.YtiblhlaemmdphaaGreatTableBuildsP16
import Derived.Test.YtiblhlaemmdphaaGreatTableBuildsP25
import Derived.Test.YtiblhlaemmdphaaGreatTableBuildsP26
import Derived.Test.YtiblhlaemmdphaaGreatTableBuildsP27
import Derived.Test.YtiblhlaemmdphaaGreatTableBuildsP32
namespace Go.Proofs.YtiblhlaemmdphaaGreat
open Go Go.RowKit
structure BS where
 pl : Pl
 pg : PG
 tb : List ((Int × Int) × Int)
def lookT (tb : List ((Int × Int) × Int)) (key : Int × Int) : Option Int := (tb.find? fun e => decide (e.1 = key)).map (·.2)
def leafD (lv : Int) (q : M5) : DescV := ⟨if lv = 3 then 3 else 2, q.pa, q.perm, q.kind, true⟩
def tabD (a : Int) : DescV := ⟨1, a, 0, 0, false⟩
def slotV (t : Int) (q : M5) (k : Int) : Int := IntKind.u64.wrap (t + 8 * tabIdx k q.ipa)
def frS (s z n al : Int) (st : BS) : BS × Int × Int :=
 if (runV st.pl n al).2.2 ≠ 0 then ({ st with pl := (runV st.pl n al).1 }, 0, (runV st.pl n al).2.2)
 else if withinB (runV st.pl n al).2.1 (n * 4096) s z = false then ({ st with pl := (runV st.pl n al).1 }, (runV st.pl n al).2.1, 90)
 else ({ st with pl := (runV st.pl n al).1, pg := zpgs st.pg (runV st.pl n al).2.1 (n * 4096) }, (runV st.pl n al).2.1, 0)
def layS (s z at' k : Int) (d : DescV) (st : BS) : BS × Int :=
 if (putV k d).2 ≠ 0 then (st, (putV k d).2)
 else if putE s z at' ≠ 0 then (st, putE s z at')
 else ({ st with pg := wpg st.pg at' (putV k d).1 }, 0)
def stepS (s z : Int) (q : M5) (k : Int) (st : BS) (t : Int) : BS × Int × Int :=
 match lookT st.tb (k, q.ipa / szK (k - 1)) with
 | some a => (st, a, 0)
 | none =>
  if (frS s z 1 4096 st).2.2 ≠ 0 then ((frS s z 1 4096 st).1, t, (frS s z 1 4096 st).2.2)
  else if (layS s z (slotV t q (k - 1)) (k - 1) (tabD (frS s z 1 4096 st).2.1) (frS s z 1 4096 st).1).2 ≠ 0 then
   ((layS s z (slotV t q (k - 1)) (k - 1) (tabD (frS s z 1 4096 st).2.1) (frS s z 1 4096 st).1).1, t, (layS s z (slotV t q (k - 1)) (k - 1) (tabD (frS s z 1 4096 st).2.1) (frS s z 1 4096 st).1).2)
  else ({ (layS s z (slotV t q (k - 1)) (k - 1) (tabD (frS s z 1 4096 st).2.1) (frS s z 1 4096 st).1).1 with tb := st.tb ++ [((k, q.ipa / szK (k - 1)), (frS s z 1 4096 st).2.1)] }, (frS s z 1 4096 st).2.1, 0)
def pathS (s z : Int) (q : M5) : Nat → Int → BS → Int → BS × Int × Int
 | 0, _, st, t => (st, t, 0)
 | n + 1, k, st, t => if (stepS s z q k st t).2.2 ≠ 0 then stepS s z q k st t else pathS s z q n (k + 1) (stepS s z q k st t).1 (stepS s z q k st t).2.1
def pieceS (s z root lv : Int) (q : M5) (st : BS) : BS × Int :=
 if (pathS s z q (lv - 1).toNat 2 st root).2.2 ≠ 0 then ((pathS s z q (lv - 1).toNat 2 st root).1, (pathS s z q (lv - 1).toNat 2 st root).2.2)
 else layS s z (slotV (pathS s z q (lv - 1).toNat 2 st root).2.1 q lv) lv (leafD lv q) (pathS s z q (lv - 1).toNat 2 st root).1
def piecesS (s z root : Int) : List (Int × M5) → BS → BS × Int
 | [], st => (st, 0)
 | x :: L, st => if (pieceS s z root x.1 x.2 st).2 ≠ 0 then pieceS s z root x.1 x.2 st else piecesS s z root L (pieceS s z root x.1 x.2 st).1
def allP (l : List M5) : List (Int × M5) := l.flatMap piecesL
def buildS (s z : Int) (l : List M5) (pl : Pl) (pg : PG) : BS × Int × Int :=
 if (needV l).2 ≠ 0 then (⟨pl, pg, []⟩, 0, (needV l).2)
 else if (frS s z 2 8192 ⟨pl, pg, []⟩).2.2 ≠ 0 then ((frS s z 2 8192 ⟨pl, pg, []⟩).1, 0, (frS s z 2 8192 ⟨pl, pg, []⟩).2.2)
 else if (piecesS s z (frS s z 2 8192 ⟨pl, pg, []⟩).2.1 (allP l) (frS s z 2 8192 ⟨pl, pg, []⟩).1).2 ≠ 0 then
  ((piecesS s z (frS s z 2 8192 ⟨pl, pg, []⟩).2.1 (allP l) (frS s z 2 8192 ⟨pl, pg, []⟩).1).1, 0, (piecesS s z (frS s z 2 8192 ⟨pl, pg, []⟩).2.1 (allP l) (frS s z 2 8192 ⟨pl, pg, []⟩).1).2)
 else ((piecesS s z (frS s z 2 8192 ⟨pl, pg, []⟩).2.1 (allP l) (frS s z 2 8192 ⟨pl, pg, []⟩).1).1, (frS s z 2 8192 ⟨pl, pg, []⟩).2.1, 0)
structure PcOk (x : Int × M5) : Prop where
 lv : x.1 = 1 ∨ x.1 = 2 ∨ x.1 = 3
 i0 : 0 ≤ x.2.ipa
 ia : x.2.ipa % szK x.1 = 0
 i1 : x.2.ipa + szK x.1 ≤ 1099511627776
 p0 : 0 ≤ x.2.pa
 pa : x.2.pa % szK x.1 = 0
 p1 : x.2.pa < 1099511627776
 pm : 0 ≤ x.2.perm ∧ x.2.perm ≤ 7
 kd : x.2.kind = 0 ∨ x.2.kind = 1
def Apart (x y : Int × M5) : Prop := x.2.ipa + szK x.1 ≤ y.2.ipa ∨ y.2.ipa + szK y.1 ≤ x.2.ipa
theorem szK_of {k : Int} (h : k = 1 ∨ k = 2 ∨ k = 3) : (k = 1 ∧ szK k = 1073741824) ∨ (k = 2 ∧ szK k = 2097152) ∨ (k = 3 ∧ szK k = 4096) := by
 rcases h with rfl | rfl | rfl
 ·exact .inl ⟨rfl, rfl⟩
 ·exact .inr (.inl ⟨rfl, rfl⟩)
 ·exact .inr (.inr ⟨rfl, rfl⟩)
def leafAt (D : List (Int × M5)) (k m : Int) : Option (Int × M5) := D.find? fun x => decide (x.1 = k) && decide (x.2.ipa / szK k = m)
def nodeW (D : List (Int × M5)) (tb : List ((Int × Int) × Int)) (k m : Int) : Int :=
 match leafAt D k m with
 | some x => (putV k (leafD k x.2)).1
 | none => match lookT tb (k + 1, m) with
  | some a => (putV k (tabD a)).1
  | none => 0
def SlotAt (tb : List ((Int × Int) × Int)) (root a k m : Int) : Prop :=
 (k = 1 ∧ 0 ≤ m ∧ m < 1024 ∧ a = root + 8 * m) ∨ ∃ e ∈ tb, e.1.1 = k ∧ e.1.2 * 512 ≤ m ∧ m < e.1.2 * 512 + 512 ∧ a = e.2 + 8 * (m - e.1.2 * 512)
structure Bd (s z o root : Int) (E D : List (Int × M5)) (st : BS) : Prop where
 plok : PlOk st.pl
 inv : PlInv st.pl
 out : st.pl.out = o + (st.tb.length : Int)
 cnt : st.pl.out ≤ st.pl.count
 lo : s ≤ st.pl.from' ∧ st.pl.from' + st.pl.count * 4096 ≤ s + z ∧ 0 ≤ s ∧ s + z ≤ 1099511627776
 pgok : PgOk st.pg
 root0 : root % 8192 = 0
 rootC : ∀ x, root ≤ x → x < root + 8192 → (st.pl.from' ≤ x ∧ x < st.pl.from' + st.pl.count * 4096) ∧ covS st.pl.used x
 tab0 : ∀ e ∈ st.tb, e.2 % 4096 = 0
 tabC : ∀ e ∈ st.tb, ∀ x, e.2 ≤ x → x < e.2 + 4096 → (st.pl.from' ≤ x ∧ x < st.pl.from' + st.pl.count * 4096) ∧ covS st.pl.used x
 tabR : ∀ e ∈ st.tb, e.2 + 4096 ≤ root ∨ root + 8192 ≤ e.2
 tabA : (st.tb.map (·.2)).Nodup
 keyN : (st.tb.map (·.1)).Nodup
 keyK : ∀ e ∈ st.tb, (e.1.1 = 2 ∧ 0 ≤ e.1.2 ∧ e.1.2 < 1024) ∨ (e.1.1 = 3 ∧ 0 ≤ e.1.2 ∧ e.1.2 < 524288)
 up : ∀ n, (3, n) ∈ st.tb.map (·.1) → (2, n / 512) ∈ st.tb.map (·.1)
 anc : ∀ key ∈ st.tb.map (·.1), ∃ x ∈ E, key.1 ≤ x.1 ∧ x.2.ipa / szK (key.1 - 1) = key.2
 clos : ∀ x ∈ D, ∀ p ∈ placesOf x, p ∈ st.tb.map (·.1)
 sub : ∀ x ∈ D, x ∈ E
 pcs : ∀ x ∈ E, PcOk x
 apart : E.Pairwise Apart
 word : ∀ a k m, SlotAt st.tb root a k m → wordAt st.pg a = nodeW D st.tb k m
end Go.Proofs.YtiblhlaemmdphaaGreat
/- Plain: a table is made on a piece's way; a leaf is laid: the tables stand as they stood, but for that. -/
namespace Go.Proofs.YtiblhlaemmdphaaGreat
open Go Go.RowKit
theorem lookT_some {tb : List ((Int × Int) × Int)} {key : Int × Int} {a : Int} (h : lookT tb key = some a) : (key, a) ∈ tb := by
 unfold lookT at h
 rw [Option.map_eq_some_iff] at h
 obtain ⟨e, h1, rfl⟩ := h
 have h2 := List.find?_some h1
 have h3 := List.mem_of_find?_eq_some h1
 rw [decide_eq_true_iff] at h2
 rw [← h2]; exact h3
theorem lookT_none {tb : List ((Int × Int) × Int)} {key : Int × Int} : lookT tb key = none ↔ key ∉ tb.map (·.1) := by
 unfold lookT
 rw [Option.map_eq_none_iff, List.find?_eq_none]
 constructor
 ·intro h hm
  obtain ⟨e, he, rfl⟩ := List.mem_map.1 hm
  exact h e he (by simp)
 ·intro h e he hd
  rw [decide_eq_true_iff] at hd
  exact h (List.mem_map.2 ⟨e, he, hd⟩)
theorem lookT_mem {tb : List ((Int × Int) × Int)} (hn : (tb.map (·.1)).Nodup) {e : (Int × Int) × Int} (he : e ∈ tb) : lookT tb e.1 = some e.2 := by
 cases h : lookT tb e.1 with
 | none => exact absurd (List.mem_map.2 ⟨e, he, rfl⟩) (lookT_none.1 h)
 | some a =>
  have h2 := lookT_some h
  have : (e.1, a) = e := by
   have key : ∀ (l : List ((Int × Int) × Int)), (l.map (·.1)).Nodup → ∀ x ∈ l, ∀ y ∈ l, x.1 = y.1 → x = y := by
    intro l
    induction l with
    | nil => intro _ x hx; cases hx
    | cons z l ih =>
     intro hn x hx y hy hxy
     rw [List.map_cons, List.nodup_cons] at hn
     have hm : ∀ v, v ∈ l → v.1 ≠ z.1 := fun v hv e => hn.1 (List.mem_map.2 ⟨v, hv, e⟩)
     rcases List.mem_cons.1 hx with hx | hx
     ·rcases List.mem_cons.1 hy with hy | hy
      ·rw [hx, hy]
      ·rw [hx] at hxy; exact absurd hxy.symm (hm y hy)
     ·rcases List.mem_cons.1 hy with hy | hy
      ·rw [hy] at hxy; exact absurd hxy (hm x hx)
      ·exact ih hn.2 x hx y hy hxy
   exact key tb hn _ h2 _ he rfl
  rw [← this]
theorem lookT_snoc {tb : List ((Int × Int) × Int)} {key key' : Int × Int} {a : Int} (hn : key' ∉ tb.map (·.1)) : lookT (tb ++ [(key', a)]) key = if key = key' then some a else lookT tb key := by
 unfold lookT
 rw [List.find?_append]
 by_cases e : key = key'
 ·subst e
  rw [if_pos rfl]
  have := lookT_none.2 hn
  unfold lookT at this
  rw [Option.map_eq_none_iff] at this
  rw [this]; simp
 ·rw [if_neg e]
  have : ((([(key', a)] : List ((Int × Int) × Int)).find? fun e => decide (e.1 = key))) = none := by
   rw [List.find?_eq_none]; intro x hx; simp at hx; subst hx; simp; exact fun h => e h.symm
  rw [this]
  cases hf : tb.find? (fun e => decide (e.1 = key)) <;> simp
section
variable {s z o root : Int} {E D : List (Int × M5)} {st : BS}
theorem SlotAt.covers (h : Bd s z o root E D st) {a k m : Int} (hs : SlotAt st.tb root a k m) : (∀ i : Int, 0 ≤ i → i < 8 → (st.pl.from' ≤ a + i ∧ a + i < st.pl.from' + st.pl.count * 4096) ∧ covS st.pl.used (a + i)) ∧ a % 8 = 0 := by
 rcases hs with ⟨_, h1, h2, rfl⟩ | ⟨e, he, _, h1, h2, rfl⟩
 ·have := h.root0
  exact ⟨fun i hi hi' => h.rootC _ (by omega) (by omega), by omega⟩
 ·have := h.tab0 e he
  exact ⟨fun i hi hi' => h.tabC e he _ (by omega) (by omega), by omega⟩
theorem SlotAt.lt (h : Bd s z o root E D st) {a k m : Int} (hs : SlotAt st.tb root a k m) : 0 ≤ a ∧ a + 8 ≤ 1099511627776 ∧ a % 8 = 0 ∧ s ≤ a ∧ a + 8 ≤ s + z := by
 obtain ⟨h1, h2⟩ := hs.covers h
 have a0 := (h1 0 (by omega) (by omega)).1
 have a7 := (h1 7 (by omega) (by omega)).1
 obtain ⟨l1, l2, l3, l4⟩ := h.lo
 omega
theorem tb_inj {tb : List ((Int × Int) × Int)} (hn : (tb.map (·.2)).Nodup) {x y : (Int × Int) × Int} (hx : x ∈ tb) (hy : y ∈ tb) (e : x.2 = y.2) : x = y := by
 induction tb with
 | nil => cases hx
 | cons w l ih =>
  rw [List.map_cons, List.nodup_cons] at hn
  have hm : ∀ v, v ∈ l → v.2 ≠ w.2 := fun v hv e => hn.1 (List.mem_map.2 ⟨v, hv, e⟩)
  rcases List.mem_cons.1 hx with hx | hx <;> rcases List.mem_cons.1 hy with hy | hy
  ·rw [hx, hy]
  ·rw [hx] at e; exact absurd e.symm (hm y hy)
  ·rw [hy] at e; exact absurd e (hm x hx)
  ·exact ih hn.2 hx hy
theorem SlotAt.unique (h : Bd s z o root E D st) {a k m k' m' : Int} (h1 : SlotAt st.tb root a k m) (h2 : SlotAt st.tb root a k' m') : k = k' ∧ m = m' := by
 rcases h1 with ⟨rfl, a1, a2, e1⟩ | ⟨e, he, rfl, a1, a2, e1⟩ <;> rcases h2 with ⟨rfl, b1, b2, e2⟩ | ⟨f, hf, rfl, b1, b2, e2⟩
 ·exact ⟨rfl, by omega⟩
 ·have := h.tabR f hf; omega
 ·have := h.tabR e he; omega
 ·have t1 := h.tab0 e he
  have t2 := h.tab0 f hf
  have hef : e = f := tb_inj h.tabA he hf (by omega)
  subst hef
  exact ⟨rfl, by omega⟩
theorem withinB_of {a n c m : Int} (h0 : 0 < n) (_h1 : 0 ≤ a) (h2 : a + n ≤ 1099511627776) (h3 : c ≤ a) (h4 : a + n ≤ c + m) (_h5 : 0 ≤ c) (h6 : c + m ≤ 1099511627776) : withinB a n c m = true := by
 rw [withinB_iff, goodB_iff, goodB_iff]; omega
theorem putE_slot (h : Bd s z o root E D st) {a k m : Int} (hs : SlotAt st.tb root a k m) : putE s z a = 0 := by
 obtain ⟨h1, h2, h3, h4, h5⟩ := hs.lt h
 obtain ⟨l1, l2, l3, l4⟩ := h.lo
 unfold putE askV
 rw [if_pos h3, if_neg (by omega), if_neg]
 rintro ⟨_, e⟩
 rw [withinB_of (by omega) h1 h2 h4 h5 l3 l4] at e
 cases e
theorem word_poke (h : Bd s z o root E D st) {a k m b k' m' x : Int} (hx : W64 x) (hs : SlotAt st.tb root a k m) (hs' : SlotAt st.tb root b k' m') : wordAt (wpg st.pg a x) b = if k' = k ∧ m' = m then x else wordAt st.pg b := by
 obtain ⟨h1, h2, h3, h4, h5⟩ := hs.lt h
 obtain ⟨g1, g2, g3, g4, g5⟩ := hs'.lt h
 rw [wordAt_wpg h.pgok x hx h3 g3 h1 (by omega)]
 by_cases e : b = a
 ·subst e
  obtain ⟨rfl, rfl⟩ := SlotAt.unique h hs hs'
  rw [if_pos rfl, if_pos ⟨rfl, rfl⟩]
 ·rw [if_neg e, if_neg]
  rintro ⟨rfl, rfl⟩
  apply e
  rcases hs with ⟨hk, a1, a2, e1⟩ | ⟨f, hf, hk, a1, a2, e1⟩ <;> rcases hs' with ⟨hk', b1, b2, e2⟩ | ⟨g, hg, hk', b1, b2, e2⟩
  ·omega
  ·have := h.keyK g hg; omega
  ·have := h.keyK f hf; omega
  ·have hfg : f = g := by
    have e3 : f.1 = g.1 := Prod.ext (by omega) (by omega)
    have l1 := lookT_mem h.keyN hf
    have l2 := lookT_mem h.keyN hg
    rw [e3, l2] at l1
    injection l1 with l1
    exact Prod.ext e3 l1.symm
   subst hfg; omega
structure Took (p p' : Pl) (at' : Int) : Prop where
 ok : PlOk p'
 inv : PlInv p'
 out : p'.out = p.out + 1
 cnt : p.out < p.count
 same : p'.from' = p.from' ∧ p'.count = p.count
 pg : at' % 4096 = 0
 reg : p.from' ≤ at' ∧ at' + 4096 ≤ p.from' + p.count * 4096
 new : ∀ x, at' ≤ x → x < at' + 4096 → ¬ covS p.used x
 cov : ∀ x, covS p'.used x ↔ covS p.used x ∨ (at' ≤ x ∧ x < at' + 4096)
theorem frS_one (h : Bd s z o root E D st) : (st.pl.out = st.pl.count ∧ frS s z 1 4096 st = (st, 0, 110)) ∨ ∃ pl' at', frS s z 1 4096 st = ({ st with pl := pl', pg := zpgs st.pg at' 4096 }, at', 0) ∧ Took st.pl pl' at' := by
 have hc := h.cnt
 have hlo := h.lo
 have hf0 := h.plok.f0
 rcases alloc_left h.plok h.inv with ⟨h1, h2⟩ | ⟨h1, x, hg, h2, hx1, hx2⟩
 ·left
  refine ⟨h1, ?_⟩
  unfold frS
  rw [h2, if_pos (by simp)]
 ·right
  generalize hA : (upV x.a 4096).1 = A at *
  have hreg : st.pl.from' ≤ A ∧ A + 4096 ≤ st.pl.from' + st.pl.count * 4096 := by
   have r0 := (hg.inn A (by omega) (by omega)).1
   have r1 := (hg.inn (A + 4095) (by omega) (by omega)).1
   omega
  have hnew : ∀ y, A ≤ y → y < A + 4096 → ¬ covS st.pl.used y := fun y a b => (hg.inn y a (by omega)).2
  have hcov : ∀ y, covS (takeV st.pl 1 (wantV 1 4096 x)).used y ↔ covS st.pl.used y ∨ (A ≤ y ∧ y < A + 4096) := fun y => by
   rw [takeV_cov, hx1, hx2, want_has hg]; simp only [Int.one_mul]
  have hout : (st.pl.out + 1) % 18446744073709551616 = st.pl.out + 1 := by
   have := h.plok.c1; have := h.inv.num; omega
  refine ⟨takeV st.pl 1 (wantV 1 4096 x), A, ?_, takeV_ok h.plok _ _, (take_inv h.plok h.inv hg _ hx1 hx2 (by have := h.plok.c1; omega)).1, ?_, h1, ⟨rfl, rfl⟩, hg.pg, hreg, hnew, hcov⟩
  ·unfold frS
   obtain ⟨l1, l2, l3, l4⟩ := hlo
   have hw : withinB A 4096 s z = true := withinB_of (by decide) (by omega) (by omega) (by omega) (by omega) (by omega) (by omega)
   rw [h2, if_neg (by simp)]
   simp only [Int.one_mul]
   rw [if_neg (by rw [hw]; simp)]
  ·show (st.pl.out + 1) % 18446744073709551616 = _
   exact hout
theorem apart_of {E : List (Int × M5)} (hE : E.Pairwise Apart) {x y : Int × M5} (hx : x ∈ E) (hy : y ∈ E) (hne : x ≠ y) : Apart x y := by
 induction hE with
 | nil => cases hx
 | cons h1 _ ih =>
  rcases List.mem_cons.1 hx with hx | hx <;> rcases List.mem_cons.1 hy with hy | hy
  ·exact absurd (hx.trans hy.symm) hne
  ·rw [hx]; exact h1 y hy
  ·rw [hy]; rcases h1 x hx with e | e
   ·exact .inr e
   ·exact .inl e
  ·exact ih hx hy
theorem writeV_word (pg : PG) {a : Int} (x : Int) (ha : a % 8 = 0) : wpg pg a x = pgPut pg (a / 4096) (a % 4096).toNat (putB x) := by
 have hl : (putB x).length = 8 := putB_len x
 have hm : min (4096 - (a % 4096).toNat) (putB x).length = 8 := by omega
 unfold wpg
 rw [writeV_step pg a (by intro e; rw [e] at hl; cases hl), hm, ← hl, List.take_length, List.drop_length, writeV_nil]
theorem pages_wpg {pg : PG} {a x : Int} (ha : a % 8 = 0) {p : Int × List Int} (hp : p ∈ wpg pg a x) : p.1 = a / 4096 ∨ ∃ p' ∈ pg, p'.1 = p.1 := by
 rw [writeV_word pg x ha] at hp
 unfold pgPut at hp
 split at hp
 ·obtain ⟨p', h1, h2⟩ := List.mem_map.1 hp
  right
  refine ⟨p', h1, ?_⟩
  rw [← h2]
  split <;> rfl
 ·rcases List.mem_append.1 hp with h | h
  ·exact .inr ⟨p, h, rfl⟩
  ·simp at h; subst h; exact .inl rfl
theorem leaf_none (h : Bd s z o root E D st) {lv : Int} {q : M5} (hq : (lv, q) ∈ E) {k : Int} (hk : k = 2 ∨ k = 3) (hkl : k ≤ lv) : leafAt D (k - 1) (q.ipa / szK (k - 1)) = none := by
 unfold leafAt
 rw [List.find?_eq_none]
 intro x hx hd
 rw [Bool.and_eq_true, decide_eq_true_iff, decide_eq_true_iff] at hd
 obtain ⟨h1, h2⟩ := hd
 have hxE := h.sub x hx
 have hne : x ≠ (lv, q) := fun e => by rw [e] at h1; simp only at h1; omega
 have p1 := h.pcs _ hq
 have p2 := h.pcs x hxE
 have ia1 := p1.ia; have ia2 := p2.ia
 have b1 := p1.i0; have b2 := p2.i0
 have lq := szK_of p1.lv
 simp only at ia1 b1 lq
 have := apart_of h.apart hxE hq hne
 unfold Apart at this
 simp only at this
 rcases hk with rfl | rfl
 ·have e1 : x.1 = 1 := by omega
  rw [e1] at ia2 this
  simp only [show (2 : Int) - 1 = 1 from rfl, szK, if_pos] at h2 this ia2
  rcases lq with ⟨_, e⟩ | ⟨_, e⟩ | ⟨_, e⟩ <;> (unfold szK at e; rw [e] at this; omega)
 ·have e1 : x.1 = 2 := by omega
  have e3 : lv = 3 := by rcases p1.lv with e | e | e <;> simp only at e <;> omega
  subst e3
  rw [e1] at ia2 this
  have z2 : szK 2 = 2097152 := rfl
  have z3 : szK 3 = 4096 := rfl
  rw [show (3 : Int) - 1 = 2 from rfl, z2] at h2
  rw [z2] at ia2
  rw [z2, z3] at this
  omega
end
end Go.Proofs.YtiblhlaemmdphaaGreat
/- Plain: a table is made, a leaf is laid: the invariant goes on. -/
namespace Go.Proofs.YtiblhlaemmdphaaGreat
open Go Go.RowKit
section
variable {s z o root : Int} {E D : List (Int × M5)} {st : BS}
theorem leafAt_up {k m : Int} {x : Int × M5} (hk : k = 2 ∨ k = 3) (hx : leafAt D k m = some x) (_hp : PcOk x) : (k, m / 512) ∈ placesOf x := by
 unfold leafAt at hx
 have h1 := List.find?_some hx
 rw [Bool.and_eq_true, decide_eq_true_iff, decide_eq_true_iff] at h1
 obtain ⟨e1, e2⟩ := h1
 have z1 : szK 1 = 1073741824 := rfl
 have z2 : szK 2 = 2097152 := rfl
 have z3 : szK 3 = 4096 := rfl
 unfold placesOf
 rcases hk with rfl | rfl
 ·rw [e1, if_neg (by decide), if_pos rfl, z1]
  rw [z2] at e2
  rw [show x.2.ipa / 1073741824 = m / 512 by omega]; simp
 ·rw [e1, if_pos rfl, z1, z2]
  rw [z3] at e2
  rw [show x.2.ipa / 2097152 = m / 512 by omega]; simp
theorem step_new (h : Bd s z o root E D st) {lv : Int} {q : M5} (hq : (lv, q) ∈ E) {k n : Int} (hk : k = 2 ∨ k = 3) (hkl : k ≤ lv) (hn : n = q.ipa / szK (k - 1)) (hno : (k, n) ∉ st.tb.map (·.1)) {a : Int} (hs : SlotAt st.tb root a (k - 1) n)
  {pl' : Pl} {at' : Int} (ht : Took st.pl pl' at') (hzero : ∀ b, b % 8 = 0 → at' ≤ b → b < at' + 4096 → wordAt st.pg b = 0) : Bd s z o root E D { pl := pl', pg := wpg st.pg a (putV (k - 1) (tabD at')).1, tb := st.tb ++ [((k, n), at')] } := by
 have hW : W64 (putV (k - 1) (tabD at')).1 := putV_bd _ _
 obtain ⟨a1, a2, a3, a4, a5⟩ := hs.lt h
 have hp := h.pcs _ hq
 have hi0 := hp.i0
 have hi1 := hp.i1
 have hlvs := szK_of hp.lv
 simp only at hi0 hi1 hlvs
 have hleaf := leaf_none h hq hk hkl
 rw [← hn] at hleaf
 have hnr : 0 ≤ n ∧ (k = 2 → n < 1024) ∧ (k = 3 → n < 524288) := by
  rcases hk with rfl | rfl
  ·have z1 : szK (2 - 1) = 1073741824 := rfl
   rw [z1] at hn; omega
  ·have z2 : szK (3 - 1) = 2097152 := rfl
   rw [z2] at hn; omega
 have hmono : ∀ x, covS st.pl.used x → covS pl'.used x := fun x hx => (ht.cov x).2 (.inl hx)
 have hpg := ht.pg
 have hnew := ht.new
 have hatnew : ∀ e ∈ st.tb, e.2 ≠ at' := fun e he e2 => by
  have := (h.tabC e he e.2 (by omega) (by omega)).2
  rw [e2] at this
  exact hnew at' (by omega) (by omega) this
 have hkeys : (st.tb ++ [((k, n), at')]).map (·.1) = st.tb.map (·.1) ++ [(k, n)] := by simp
 have hup2 : k = 3 → (2, n / 512) ∈ st.tb.map (·.1) := fun e => by
  subst e
  rcases hs with ⟨e1, _⟩ | ⟨e, he, e1, b1, b2, _⟩
  ·omega
  ·have : e.1 = (2, n / 512) := Prod.ext e1 (by simp only; omega)
   rw [← this]; exact List.mem_map.2 ⟨e, he, rfl⟩
 refine ⟨ht.ok, ht.inv, ?_, ?_, ?_, wpg_ok h.pgok _ a1 (by omega), h.root0, ?_, ?_, ?_, ?_, ?_, ?_, ?_, ?_, ?_, ?_, h.sub, h.pcs, h.apart, ?_⟩
 ·show pl'.out = o + ((st.tb ++ [((k, n), at')]).length : Int)
  rw [ht.out, h.out]; simp; omega
 ·show pl'.out ≤ pl'.count
  rw [ht.out, ht.same.2]; have := ht.cnt; omega
 ·show s ≤ pl'.from' ∧ _
  rw [ht.same.1, ht.same.2]; exact h.lo
 ·intro x h1 h2
  show (pl'.from' ≤ x ∧ x < pl'.from' + pl'.count * 4096) ∧ _
  rw [ht.same.1, ht.same.2]
  exact ⟨(h.rootC x h1 h2).1, hmono x (h.rootC x h1 h2).2⟩
 ·intro e he
  rcases List.mem_append.1 he with he | he
  ·exact h.tab0 e he
  ·simp at he; subst he; exact hpg
 ·intro e he x h1 h2
  show (pl'.from' ≤ x ∧ x < pl'.from' + pl'.count * 4096) ∧ _
  rw [ht.same.1, ht.same.2]
  rcases List.mem_append.1 he with he | he
  ·exact ⟨(h.tabC e he x h1 h2).1, hmono x (h.tabC e he x h1 h2).2⟩
  ·simp at he; subst he
   have := ht.reg
   exact ⟨by simp only at h1 h2; omega, (ht.cov x).2 (.inr ⟨h1, h2⟩)⟩
 ·intro e he
  rcases List.mem_append.1 he with he | he
  ·exact h.tabR e he
  ·simp at he; subst he
   simp only
   have r0 := h.root0
   rcases Int.lt_or_le at' root with h1 | h1
   ·left; omega
   ·right
    rcases Int.lt_or_le at' (root + 8192) with h2 | h2
    ·exact absurd (h.rootC at' h1 h2).2 (hnew at' (by omega) (by omega))
    ·exact h2
 ·show ((st.tb ++ [((k, n), at')]).map (·.2)).Nodup
  rw [List.map_append, List.nodup_append]
  refine ⟨h.tabA, by simp, fun x hx y hy => ?_⟩
  obtain ⟨e, he, rfl⟩ := List.mem_map.1 hx
  simp at hy; subst hy
  exact hatnew e he
 ·show ((st.tb ++ [((k, n), at')]).map (·.1)).Nodup
  rw [hkeys, List.nodup_append]
  refine ⟨h.keyN, by simp, fun x hx y hy => ?_⟩
  simp at hy; subst hy
  exact fun e => hno (e ▸ hx)
 ·intro e he
  rcases List.mem_append.1 he with he | he
  ·exact h.keyK e he
  ·simp at he; subst he
   simp only
   rcases hk with rfl | rfl
   ·left; omega
   ·right; omega
 ·intro m hm
  simp only [hkeys] at hm ⊢
  rcases List.mem_append.1 hm with hm | hm
  ·exact List.mem_append_left _ (h.up m hm)
  ·simp at hm
   obtain ⟨rfl, rfl⟩ := hm
   exact List.mem_append_left _ (hup2 rfl)
 ·intro key hkey
  simp only [hkeys] at hkey
  rcases List.mem_append.1 hkey with hm | hm
  ·exact h.anc key hm
  ·simp at hm; subst hm
   exact ⟨_, hq, hkl, hn.symm⟩
 ·intro x hx p hp
  simp only [hkeys]
  exact List.mem_append_left _ (h.clos x hx p hp)
 ·intro b k' m' hb
  show wordAt (wpg st.pg a (putV (k - 1) (tabD at')).1) b = nodeW D (st.tb ++ [((k, n), at')]) k' m'
  have hnode : nodeW D (st.tb ++ [((k, n), at')]) k' m' = if k' = k - 1 ∧ m' = n then (putV (k - 1) (tabD at')).1 else nodeW D st.tb k' m' := by
   unfold nodeW
   rw [lookT_snoc hno]
   by_cases e : k' = k - 1 ∧ m' = n
   ·rw [if_pos e]
    obtain ⟨rfl, rfl⟩ := e
    have hk : ((k - 1 + 1, m') : Int × Int) = (k, m') := Prod.ext (by simp only; omega) rfl
    rw [hleaf, if_pos hk]
   ·rw [if_neg e, if_neg (fun e2 => e ⟨by have := congrArg Prod.fst e2; simp only at this; omega, congrArg Prod.snd e2⟩)]
  rw [hnode]
  rcases hb with ⟨rfl, b1, b2, rfl⟩ | ⟨e, he, rfl, b1, b2, rfl⟩
  ·have hs' : SlotAt st.tb root (root + 8 * m') 1 m' := .inl ⟨rfl, b1, b2, rfl⟩
   rw [word_poke h hW hs hs', h.word _ _ _ hs']
  ·rcases List.mem_append.1 he with he | he
   ·have hs' : SlotAt st.tb root (e.2 + 8 * (m' - e.1.2 * 512)) e.1.1 m' := .inr ⟨e, he, rfl, b1, b2, rfl⟩
    rw [word_poke h hW hs hs', h.word _ _ _ hs']
   ·simp at he; subst he
    simp only at b1 b2 ⊢
    have hbm : (at' + 8 * (m' - n * 512)) % 8 = 0 := by omega
    rw [wordAt_wpg h.pgok _ hW a3 hbm a1 (by omega), if_neg (fun e => by
     have c := (hs.covers h).1 0 (by omega) (by omega)
     rw [← e, Int.add_zero] at c
     exact hnew _ (by omega) (by omega) c.2)]
    have hz : wordAt st.pg (at' + 8 * (m' - n * 512)) = 0 := hzero _ hbm (by omega) (by omega)
    have hl : leafAt D k m' = none := by
     cases hx : leafAt D k m' with
     | none => rfl
     | some x =>
      exfalso
      have hxD : x ∈ D := List.mem_of_find?_eq_some hx
      have := h.clos x hxD _ (leafAt_up hk hx (h.pcs x (h.sub x hxD)))
      rw [show m' / 512 = n by omega] at this
      exact hno this
    have ht2 : lookT st.tb (k + 1, m') = none := by
     rw [lookT_none]
     intro hm
     obtain ⟨e, he, e1⟩ := List.mem_map.1 hm
     have hkk := h.keyK e he
     rw [e1] at hkk
     simp only at hkk
     have : k = 2 := by omega
     subst this
     have := h.up m' hm
     rw [show m' / 512 = n by omega] at this
     exact hno this
    rw [hz, if_neg (by omega)]
    unfold nodeW
    rw [hl, ht2]
theorem Bd.zero (h : Bd s z o root E D st) {at' : Int} (hal : at' % 4096 = 0) (hnew : ∀ x, at' ≤ x → x < at' + 4096 → ¬ covS st.pl.used x) : Bd s z o root E D { st with pg := zpgs st.pg at' 4096 } ∧ ∀ b, b % 8 = 0 → at' ≤ b → b < at' + 4096 → wordAt (zpgs st.pg at' 4096) b = 0 := by
 refine ⟨⟨h.plok, h.inv, h.out, h.cnt, h.lo, zpgs_ok h.pgok _ _, h.root0, h.rootC, h.tab0, h.tabC, h.tabR, h.tabA, h.keyN, h.keyK, h.up, h.anc, h.clos, h.sub, h.pcs, h.apart, fun a k m hs => ?_⟩, fun b hb h1 h2 => ?_⟩
 ·have hc := (hs.covers h).1 0 (by omega) (by omega)
  have hl := hs.lt h
  rw [Int.add_zero] at hc
  show wordAt (zpgs st.pg at' 4096) a = _
  rw [wordAt_zpgs _ _ _ _ hal (by decide) hl.2.2.1, if_neg (fun e => hnew a e.1 e.2 hc.2)]
  exact h.word a k m hs
 ·rw [wordAt_zpgs _ _ _ _ hal (by decide) hb, if_pos ⟨h1, h2⟩]
theorem leaf_new (h : Bd s z o root E D st) {lv : Int} {q : M5} (hq : (lv, q) ∈ E) (hqD : (lv, q) ∉ D) (hpl : ∀ p ∈ placesOf (lv, q), p ∈ st.tb.map (·.1)) {a : Int} (hs : SlotAt st.tb root a lv (q.ipa / szK lv)) :
  Bd s z o root E (D ++ [(lv, q)]) { st with pg := wpg st.pg a (putV lv (leafD lv q)).1 } := by
 have hW : W64 (putV lv (leafD lv q)).1 := putV_bd _ _
 obtain ⟨a1, a2, a3, a4, a5⟩ := hs.lt h
 have hp := h.pcs _ hq
 have hleaf : leafAt D lv (q.ipa / szK lv) = none := by
  cases hx : leafAt D lv (q.ipa / szK lv) with
  | none => rfl
  | some x =>
   exfalso
   have hxD : x ∈ D := List.mem_of_find?_eq_some hx
   unfold leafAt at hx
   have h1 := List.find?_some hx
   rw [Bool.and_eq_true, decide_eq_true_iff, decide_eq_true_iff] at h1
   obtain ⟨e1, e2⟩ := h1
   have hne : x ≠ (lv, q) := fun e => hqD (e ▸ hxD)
   have hap := apart_of h.apart (h.sub x hxD) hq hne
   have i1 := (h.pcs x (h.sub x hxD)).ia
   have i2 := hp.ia
   have b1 := (h.pcs x (h.sub x hxD)).i0
   have b2 := hp.i0
   unfold Apart at hap
   rw [e1] at i1 hap
   simp only at i2 hap b2
   rcases szK_of hp.lv with ⟨_, e⟩ | ⟨_, e⟩ | ⟨_, e⟩ <;> (simp only at e; rw [e] at hap i1 i2 e2; omega)
 refine ⟨h.plok, h.inv, h.out, h.cnt, h.lo, wpg_ok h.pgok _ a1 (by omega), h.root0, h.rootC, h.tab0, h.tabC, h.tabR, h.tabA, h.keyN, h.keyK, h.up, h.anc, ?_, ?_, h.pcs, h.apart, ?_⟩
 ·intro x hx p hpx
  rcases List.mem_append.1 hx with hx | hx
  ·exact h.clos x hx p hpx
  ·simp at hx; subst hx; exact hpl p hpx
 ·intro x hx
  rcases List.mem_append.1 hx with hx | hx
  ·exact h.sub x hx
  ·simp at hx; subst hx; exact hq
 ·intro b k' m' hb
  show wordAt (wpg st.pg a (putV lv (leafD lv q)).1) b = nodeW (D ++ [(lv, q)]) st.tb k' m'
  rw [word_poke h hW hs hb, h.word _ _ _ hb]
  have hla : leafAt (D ++ [(lv, q)]) k' m' = if k' = lv ∧ m' = q.ipa / szK lv then some (lv, q) else leafAt D k' m' := by
   by_cases e : k' = lv ∧ m' = q.ipa / szK lv
   ·obtain ⟨rfl, rfl⟩ := e
    rw [if_pos ⟨rfl, rfl⟩]
    unfold leafAt at hleaf ⊢
    rw [List.find?_append, hleaf]
    simp
   ·rw [if_neg e]
    unfold leafAt
    rw [List.find?_append]
    have : ([(lv, q)] : List (Int × M5)).find? (fun x => decide (x.1 = k') && decide (x.2.ipa / szK k' = m')) = none := by
     rw [List.find?_eq_none]
     intro x hx hd
     simp at hx; subst hx
     rw [Bool.and_eq_true, decide_eq_true_iff, decide_eq_true_iff] at hd
     simp only at hd
     exact e ⟨hd.1.symm, by rw [hd.1]; exact hd.2.symm⟩
    rw [this]
    cases hf : D.find? (fun x => decide (x.1 = k') && decide (x.2.ipa / szK k' = m')) <;> simp
  unfold nodeW
  rw [hla]
  by_cases e : k' = lv ∧ m' = q.ipa / szK lv
  ·rw [if_pos e, if_pos e, e.1]
  ·rw [if_neg e, if_neg e]
end
end Go.Proofs.YtiblhlaemmdphaaGreat
/- Plain: a piece is laid, or no frame is left; all pieces. -/
namespace Go.Proofs.YtiblhlaemmdphaaGreat
open Go Go.RowKit
section
variable {s z o root : Int} {E D : List (Int × M5)} {st : BS}
theorem slot_root (h : Bd s z o root E D st) {lv : Int} {q : M5} (hq : (lv, q) ∈ E) : SlotAt st.tb root (slotV root q 1) 1 (q.ipa / szK 1) := by
 have hp := h.pcs _ hq
 have h0 := hp.i0
 have h1 := hp.i1
 simp only at h0 h1
 have hz : 0 < szK lv := by rcases szK_of hp.lv with ⟨_, e⟩ | ⟨_, e⟩ | ⟨_, e⟩ <;> (simp only at e; omega)
 have z1 : szK 1 = 1073741824 := rfl
 have v1 : szV 1 = 1073741824 := rfl
 have r := h.rootC root (by omega) (by omega)
 have r2 := h.rootC (root + 8191) (by omega) (by omega)
 have l := h.lo
 have f0 := h.plok.f0
 left
 refine ⟨rfl, by rw [z1]; omega, by rw [z1]; omega, ?_⟩
 unfold slotV tabIdx
 rw [if_neg (by decide), v1, z1, IntKind.wrap_u64]
 omega
theorem slot_tab (h : Bd s z o root E D st) {lv : Int} {q : M5} (hq : (lv, q) ∈ E) {k t : Int} (hk : k = 2 ∨ k = 3) (hm : ((k, q.ipa / szK (k - 1)), t) ∈ st.tb) : SlotAt st.tb root (slotV t q k) k (q.ipa / szK k) := by
 have hp := h.pcs _ hq
 have h0 := hp.i0
 simp only at h0
 have r := h.tabC _ hm t (by simp) (by simp only; omega)
 have r2 := h.tabC _ hm (t + 4095) (by simp only; omega) (by simp only; omega)
 have l := h.lo
 have f0 := h.plok.f0
 right
 refine ⟨_, hm, rfl, ?_⟩
 unfold slotV tabIdx
 have z1 : szK 1 = 1073741824 := rfl
 have z2 : szK 2 = 2097152 := rfl
 have z3 : szK 3 = 4096 := rfl
 have v2 : szV 2 = 2097152 := rfl
 have v3 : szV 3 = 4096 := rfl
 rcases hk with rfl | rfl
 ·simp only [show (2 : Int) - 1 = 1 from rfl, z1, z2, v2]
  rw [if_pos (by simp), IntKind.wrap_u64]
  omega
 ·simp only [show (3 : Int) - 1 = 2 from rfl, z2, z3, v3]
  rw [if_pos (by simp), IntKind.wrap_u64]
  omega
theorem tab_put {k a : Int} (hk : k = 1 ∨ k = 2) (h0 : 0 ≤ a) (h1 : a < 1099511627776) (h2 : a % 4096 = 0) : (putV k (tabD a)).2 = 0 ∧ mayV k (tabD a) = true := by
 have hm : mayV k (tabD a) = true := by
  unfold mayV tabD bareV
  rcases hk with rfl | rfl
  ·simp [szV]; omega
  ·simp [szV]; omega
 rcases putV_ok k (tabD a) with ⟨_, e⟩ | ⟨e, _⟩
 ·exact ⟨e, hm⟩
 ·rw [hm] at e; cases e
theorem leaf_put {lv : Int} {q : M5} (hp : PcOk (lv, q)) : (putV lv (leafD lv q)).2 = 0 ∧ mayV lv (leafD lv q) = true := by
 have h1 := hp.p0; have h2 := hp.p1; have h3 := hp.pa; have h4 := hp.pm; have h5 := hp.kd; have h6 := hp.lv
 simp only at h1 h2 h3 h4 h5 h6
 have hm : mayV lv (leafD lv q) = true := by
  have hz : szV lv = szK lv := rfl
  unfold mayV leafD
  simp only
  rw [hz]
  rcases szK_of h6 with ⟨rfl, e⟩ | ⟨rfl, e⟩ | ⟨rfl, e⟩ <;> rw [e] at h3 ⊢ <;> simp <;> omega
 rcases putV_ok lv (leafD lv q) with ⟨_, e⟩ | ⟨e, _⟩
 ·exact ⟨e, hm⟩
 ·rw [hm] at e; cases e
theorem step_k (h : Bd s z o root E D st) {lv : Int} {q : M5} (hq : (lv, q) ∈ E) {k t : Int} (hk : k = 2 ∨ k = 3) (hkl : k ≤ lv) (hs : SlotAt st.tb root (slotV t q (k - 1)) (k - 1) (q.ipa / szK (k - 1))) :
  (∃ st' a, stepS s z q k st t = (st', a, 0) ∧ Bd s z o root E D st' ∧ ((k, q.ipa / szK (k - 1)), a) ∈ st'.tb ∧ st'.tb.map (·.1) = insP (st.tb.map (·.1)) (k, q.ipa / szK (k - 1)) ∧ st'.pl.count = st.pl.count) ∨
  (stepS s z q k st t = (st, t, 110) ∧ st.pl.out = st.pl.count ∧ (k, q.ipa / szK (k - 1)) ∉ st.tb.map (·.1)) := by
 unfold stepS
 cases hl : lookT st.tb (k, q.ipa / szK (k - 1)) with
 | some a =>
  left
  refine ⟨st, a, rfl, h, lookT_some hl, ?_, rfl⟩
  unfold insP
  rw [if_pos (List.mem_map.2 ⟨_, lookT_some hl, rfl⟩)]
 | none =>
  have hno := lookT_none.1 hl
  simp only
  rcases frS_one h with ⟨h1, h2⟩ | ⟨pl', at', h2, ht⟩
  ·right
   rw [h2]
   exact ⟨by rw [if_pos (by simp)], h1, hno⟩
  ·left
   have hlo := h.lo
   have hreg := ht.reg
   have hf0 := h.plok.f0
   have hp2 := tab_put (k := k - 1) (a := at') (by omega) (by omega) (by omega) ht.pg
   have hpe := putE_slot h hs
   rw [h2, if_neg (by simp)]
   obtain ⟨hz1, hz2⟩ := h.zero ht.pg ht.new
   have hlay : layS s z (slotV t q (k - 1)) (k - 1) (tabD at') { st with pl := pl', pg := zpgs st.pg at' 4096 } = ({ pl := pl', pg := wpg (zpgs st.pg at' 4096) (slotV t q (k - 1)) (putV (k - 1) (tabD at')).1, tb := st.tb }, 0) := by
    unfold layS
    rw [if_neg (by rw [hp2.1]; simp), if_neg (by rw [hpe]; simp)]
   simp only
   rw [hlay, if_neg (by simp)]
   refine ⟨_, _, rfl, step_new hz1 hq hk hkl rfl hno hs ht hz2, ?_, ?_, ht.same.2⟩
   ·simp
   ·unfold insP
    rw [if_neg hno]; simp
theorem insP_ge (ks : List (Int × Int)) (p : Int × Int) : ks.length ≤ (insP ks p).length := by unfold insP; split <;> simp
theorem insP_mem {ks : List (Int × Int)} {p q : Int × Int} (h : q ∈ ks) : q ∈ insP ks p := by unfold insP; split; exact h; exact List.mem_append_left _ h
theorem path_one {s z root a c : Int} {q : M5} {st st' : BS} (h : stepS s z q 2 st root = (st', a, c)) : pathS s z q 1 2 st root = (st', a, c) := by
 rw [pathS, h]
 by_cases e : c = 0
 ·subst e; rw [if_neg (by simp)]; rfl
 ·rw [if_pos e]
theorem path_two {s z root a a3 c : Int} {q : M5} {st st' st3 : BS} (h : stepS s z q 2 st root = (st', a, 0)) (h3 : stepS s z q 3 st' a = (st3, a3, c)) : pathS s z q 2 2 st root = (st3, a3, c) := by
 rw [pathS, h, if_neg (by simp)]
 show pathS s z q 1 3 st' a = _
 rw [pathS, h3]
 by_cases e : c = 0
 ·subst e; rw [if_neg (by simp)]; rfl
 ·rw [if_pos e]
theorem path_two_err {s z root a c : Int} {q : M5} {st st' : BS} (h : stepS s z q 2 st root = (st', a, c)) (hc : c ≠ 0) : pathS s z q 2 2 st root = (st', a, c) := by
 rw [pathS, h, if_pos hc]
theorem piece_run {s z root lv t c : Int} {q : M5} {st st' st2 : BS} (h : pathS s z q (lv - 1).toNat 2 st root = (st', t, 0)) (hl : layS s z (slotV t q lv) lv (leafD lv q) st' = (st2, c)) : pieceS s z root lv q st = (st2, c) := by
 unfold pieceS
 rw [h, if_neg (by simp)]; exact hl
theorem piece_err {s z root lv t c : Int} {q : M5} {st st' : BS} (h : pathS s z q (lv - 1).toNat 2 st root = (st', t, c)) (hc : c ≠ 0) : pieceS s z root lv q st = (st', c) := by
 unfold pieceS
 rw [h, if_pos hc]
theorem piece_k (h : Bd s z o root E D st) {x : Int × M5} (hx : x ∈ E) (hxD : x ∉ D) :
  (∃ st', pieceS s z root x.1 x.2 st = (st', 0) ∧ Bd s z o root E (D ++ [x]) st' ∧ st'.tb.map (·.1) = (placesOf x).foldl insP (st.tb.map (·.1)) ∧ st'.pl.count = st.pl.count) ∨
  (∃ st', pieceS s z root x.1 x.2 st = (st', 110) ∧ Bd s z o root E D st' ∧ st.pl.count < o + (((placesOf x).foldl insP (st.tb.map (·.1))).length : Int) ∧ st'.pl.count = st.pl.count) := by
 obtain ⟨lv, q⟩ := x
 have hp := h.pcs _ hx
 have hlp := leaf_put hp
 have key : ∀ {st' : BS} {t : Int}, Bd s z o root E D st' → SlotAt st'.tb root (slotV t q lv) lv (q.ipa / szK lv) → (∀ p ∈ placesOf (lv, q), p ∈ st'.tb.map (·.1)) → ∃ st2, layS s z (slotV t q lv) lv (leafD lv q) st' = (st2, 0) ∧ Bd s z o root E (D ++ [(lv, q)]) st2 ∧ st2.tb = st'.tb ∧ st2.pl = st'.pl := fun {st' t} h' hs hpl => by
  refine ⟨_, ?_, leaf_new h' hx hxD hpl hs, rfl, rfl⟩
  unfold layS
  rw [if_neg (by rw [hlp.1]; simp), if_neg (by rw [putE_slot h' hs]; simp)]
 have hlv := hp.lv
 simp only at hlv ⊢
 have h2m1 : (2 : Int) - 1 = 1 := rfl
 have h3m1 : (3 : Int) - 1 = 2 := rfl
 rcases hlv with rfl | rfl | rfl
 ·obtain ⟨st2, e, hb, ht, hpl⟩ := key h (slot_root h hx) (by unfold placesOf; simp)
  left
  exact ⟨st2, piece_run (t := root) rfl e, hb, by rw [ht]; unfold placesOf; simp, by rw [hpl]⟩
 ·have hpl2 : placesOf ((2 : Int), q) = [(2, q.ipa / szK 1)] := by unfold placesOf; simp
  rw [hpl2]
  rcases step_k h hx (.inl rfl) (by omega) (by rw [h2m1]; exact slot_root h hx) with ⟨st', a, e, hb, hm, hk, hc⟩ | ⟨e, ho, hno⟩
  ·rw [h2m1] at hm hk
   obtain ⟨st2, e2, hb2, ht, hpl⟩ := key hb (slot_tab hb hx (.inl rfl) (by rw [h2m1]; exact hm)) (by rw [hpl2]; intro p hp'; simp at hp'; subst hp'; exact List.mem_map.2 ⟨_, hm, rfl⟩)
   left
   exact ⟨st2, piece_run (path_one e) e2, hb2, by rw [ht, hk]; rfl, by rw [hpl, hc]⟩
  ·right
   rw [h2m1] at hno
   refine ⟨st, piece_err (path_one e) (by simp), h, ?_, rfl⟩
   have ho2 := h.out
   show _ < o + ((insP (st.tb.map (·.1)) (2, q.ipa / szK 1)).length : Int)
   unfold insP
   rw [if_neg hno]
   simp; omega
 ·have hpl3 : placesOf ((3 : Int), q) = [(2, q.ipa / szK 1), (3, q.ipa / szK 2)] := by unfold placesOf; simp
  rw [hpl3]
  rcases step_k h hx (.inl rfl) (by omega) (by rw [h2m1]; exact slot_root h hx) with ⟨st', a, e, hb, hm, hk, hc⟩ | ⟨e, ho, hno⟩
  ·rw [h2m1] at hm hk
   rcases step_k hb hx (.inr rfl) (by omega) (t := a) (by rw [h3m1]; exact slot_tab hb hx (.inl rfl) (by rw [h2m1]; exact hm)) with ⟨st3, a3, e3, hb3, hm3, hk3, hc3⟩ | ⟨e3, ho3, hno3⟩
   ·rw [h3m1] at hm3 hk3
    obtain ⟨st2, e2, hb2, ht, hpl⟩ := key hb3 (slot_tab hb3 hx (.inr rfl) (by rw [h3m1]; exact hm3)) (by
     rw [hpl3]; intro p hp'
     simp only [List.mem_cons, List.not_mem_nil, or_false] at hp'
     rcases hp' with rfl | rfl
     ·rw [hk3]; exact insP_mem (List.mem_map.2 ⟨_, hm, rfl⟩)
     ·exact List.mem_map.2 ⟨_, hm3, rfl⟩)
    left
    exact ⟨st2, piece_run (path_two e e3) e2, hb2, by rw [ht, hk3, hk]; rfl, by rw [hpl, hc3, hc]⟩
   ·right
    rw [h3m1] at hno3
    refine ⟨st', piece_err (path_two e e3) (by simp), hb, ?_, hc⟩
    have ho2 := hb.out
    show _ < o + ((insP (insP (st.tb.map (·.1)) (2, q.ipa / szK 1)) (3, q.ipa / szK 2)).length : Int)
    rw [← hk]
    have hl3 : (insP (st'.tb.map (·.1)) (3, q.ipa / szK 2)).length = st'.tb.length + 1 := by unfold insP; rw [if_neg hno3]; simp
    rw [hl3]
    push_cast
    omega
  ·right
   rw [h2m1] at hno
   refine ⟨st, piece_err (path_two_err e (by simp)) (by simp), h, ?_, rfl⟩
   have ho2 := h.out
   have hge := insP_ge (insP (st.tb.map (·.1)) (2, q.ipa / szK 1)) (3, q.ipa / szK 2)
   show _ < o + ((insP (insP (st.tb.map (·.1)) (2, q.ipa / szK 1)) (3, q.ipa / szK 2)).length : Int)
   have : (insP (st.tb.map (·.1)) (2, q.ipa / szK 1)).length = st.tb.length + 1 := by unfold insP; rw [if_neg hno]; simp
   omega
theorem apart_notin {D L : List (Int × M5)} {x : Int × M5} (h : (D ++ x :: L).Pairwise Apart) (hp : PcOk x) : x ∉ D := by
 intro hx
 rw [List.pairwise_append] at h
 have := h.2.2 x hx x (by simp)
 unfold Apart at this
 rcases szK_of hp.lv with ⟨_, e⟩ | ⟨_, e⟩ | ⟨_, e⟩ <;> (rw [e] at this; omega)
end
end Go.Proofs.YtiblhlaemmdphaaGreat
/- Plain: the first frames; the pieces of parts that may be mapped. -/
namespace Go.Proofs.YtiblhlaemmdphaaGreat
open Go Go.RowKit
theorem inv_le {p : Pl} (hi : PlInv p) (hc : 0 ≤ p.count) : 0 ≤ p.out ∧ p.out ≤ p.count := by
 have h1 := hi.num
 have h2 := List.countP_le_length (p := fun (k : Nat) => inV p.used (p.from' + 4096 * (k : Int))) (l := List.range p.count.toNat)
 rw [List.length_range] at h2
 omega
theorem start_k {s z : Int} {E : List (Int × M5)} {pl : Pl} {pg : PG} (hok : PlOk pl) (hi : PlInv pl) (hlo : s ≤ pl.from' ∧ pl.from' + pl.count * 4096 ≤ s + z ∧ 0 ≤ s ∧ s + z ≤ 1099511627776) (hpk : PgOk pg)
  (hE : ∀ x ∈ E, PcOk x) (hA : E.Pairwise Apart) :
  (∃ pl' root, frS s z 2 8192 ⟨pl, pg, []⟩ = (⟨pl', zpgs pg root 8192, []⟩, root, 0) ∧ Bd s z (pl.out + 2) root E [] ⟨pl', zpgs pg root 8192, []⟩ ∧ pl'.count = pl.count ∧ (∀ x, root ≤ x → x < root + 8192 → (pl.from' ≤ x ∧ x < pl.from' + pl.count * 4096) ∧ ¬ covS pl.used x)) ∨
  (frS s z 2 8192 ⟨pl, pg, []⟩ = (⟨pl, pg, []⟩, 0, 110) ∧ ∀ m, m % 8192 = 0 → ¬ FitAt pl 2 m) := by
 have hal : W64 8192 := ⟨by decide, by decide⟩
 have hask : askB 2 8192 = true := by decide
 have hf0 := hok.f0
 rcases runV_cases hok 2 8192 hal with ⟨x, hg, he, hx1, hx2⟩ | ⟨he, _, hnone⟩ | ⟨_, hb⟩
 ·left
  generalize hR : (upV x.a 8192).1 = R at *
  have hin : ∀ y, R ≤ y → y < R + 8192 → (pl.from' ≤ y ∧ y < pl.from' + pl.count * 4096) ∧ ¬ covS pl.used y := fun y a b => hg.inn y a (by omega)
  have r0 := (hin R (by omega) (by omega)).1
  have r1 := (hin (R + 8191) (by omega) (by omega)).1
  obtain ⟨b0, b1⟩ := inv_le hi hok.c0
  have c1 := hok.c1
  obtain ⟨ti, tout⟩ := take_inv hok hi hg _ hx1 hx2 (by omega)
  have hcov : ∀ y, covS (takeV pl 2 (wantV 2 8192 x)).used y ↔ covS pl.used y ∨ (R ≤ y ∧ y < R + 8192) := fun y => by
   rw [takeV_cov, hx1, hx2, want_has hg]; rfl
  refine ⟨takeV pl 2 (wantV 2 8192 x), R, ?_, ?_, rfl, hin⟩
  ·unfold frS
   simp only
   obtain ⟨l1, l2, l3, l4⟩ := hlo
   have hw : withinB R (2 * 4096) s z = true := withinB_of (by decide) (by omega) (by omega) (by omega) (by omega) (by omega) (by omega)
   rw [he, if_neg (by simp)]
   simp only
   rw [if_neg (by rw [hw]; simp)]
   rfl
  ·refine ⟨takeV_ok hok _ _, ti, ?_, (inv_le ti hok.c0).2, hlo, zpgs_ok hpk _ _, hg.al, fun y h1 h2 => ⟨(hin y h1 h2).1, (hcov y).2 (.inr ⟨h1, h2⟩)⟩, ?_, ?_, ?_, List.nodup_nil, List.nodup_nil, ?_, ?_, ?_, ?_, ?_, hE, hA, ?_⟩
   ·show (takeV pl 2 (wantV 2 8192 x)).out = pl.out + 2 + 0
    rw [tout]; omega
   ·intro e he; cases he
   ·intro e he; cases he
   ·intro e he; cases he
   ·intro e he; cases he
   ·intro n hn; cases hn
   ·intro k hk; cases hk
   ·intro y hy; cases hy
   ·intro y hy; cases hy
   ·intro a k m hs
    rcases hs with ⟨rfl, m0, m1, rfl⟩ | ⟨e, he, _⟩
    ·show wordAt (zpgs pg R 8192) (R + 8 * m) = 0
     have hal := hg.al
     rw [wordAt_zpgs _ _ _ _ (by omega) (by decide) (by omega), if_pos (by omega)]
    ·cases he
 ·right
  refine ⟨?_, fun m hm hf => ?_⟩
  ·unfold frS
   simp only
   rw [he, if_pos (by simp)]
  ·obtain ⟨t, ht, _, _, t3, _⟩ := fit_stretch hok (by decide) hal (by decide) hm hf
   exact absurd t3 (List.find?_eq_none.1 hnone t ht)
 ·rw [hask] at hb; cases hb
structure PartOk (y : M5) (x : Int × M5) : Prop where
 ok : PcOk x
 sz : x.2.sz = szK x.1
 lo : y.ipa ≤ x.2.ipa
 hi : x.2.ipa + szK x.1 ≤ y.ipa + y.sz
 pa : x.2.pa - x.2.ipa = y.pa - y.ipa
 pm : x.2.perm = y.perm
 kd : x.2.kind = y.kind
theorem good_parts {y : M5} (h : elemB y = true) : 0 < y.sz ∧ y.ipa % 4096 = 0 ∧ y.pa % 4096 = 0 ∧ y.sz % 4096 = 0 ∧ y.ipa + y.sz ≤ 1099511627776 ∧ y.pa + y.sz ≤ 1099511627776 ∧ 1 ≤ y.perm ∧ y.perm ≤ 7 ∧ 0 ≤ y.kind ∧ y.kind ≤ 1 := by
 unfold elemB at h
 rw [Bool.and_eq_true, Bool.and_eq_true, decide_eq_true_iff, pageM_iff, pageM_iff] at h
 omega
structure PartY (y : M5) : Prop where
 cut : Cut y
 ia : y.ipa % 4096 = 0
 pa : y.pa % 4096 = 0
 pm : 1 ≤ y.perm ∧ y.perm ≤ 7
 kd : 0 ≤ y.kind ∧ y.kind ≤ 1
theorem part_good {y : M5} (h : elemB y = true) : PartY y := by
 obtain ⟨h0, h1, h2, h3, h4, h5, h6, h7, h8, h9⟩ := good_parts h
 exact ⟨⟨h3, h4, h5⟩, h1, h2, ⟨h6, h7⟩, ⟨h8, h9⟩⟩
theorem lv_al {y : M5} (h : PartY y) : (lvM y = 1 ∨ lvM y = 2 ∨ lvM y = 3) ∧ y.ipa % szK (lvM y) = 0 ∧ y.pa % szK (lvM y) = 0 := by
 refine ⟨lvM_cases y, ?_⟩
 have key : ∀ k, lvB y k = true → y.ipa % szK k = 0 ∧ y.pa % szK k = 0 := fun k hk => by
  unfold lvB at hk
  rw [Bool.and_eq_true, Bool.and_eq_true, decide_eq_true_iff, decide_eq_true_iff] at hk
  exact hk.1
 unfold lvM
 split
 ·rename_i hh; exact key 1 hh
 ·split
  ·rename_i hh; exact key 2 hh
  ·exact ⟨h.ia, h.pa⟩
theorem parts_of : ∀ (n : Nat) (y : M5), y.sz.toNat ≤ n → PartY y → (∀ x ∈ piecesL y, PartOk y x) ∧ (piecesL y).Pairwise Apart ∧ ∀ a, y.ipa ≤ a → a < y.ipa + y.sz → ∃ x ∈ piecesL y, x.2.ipa ≤ a ∧ a < x.2.ipa + szK x.1
 | n, y, hn, h => by
  by_cases h0 : 0 < y.sz
  ·obtain ⟨s1, s2, s3, s4, s5⟩ := h.cut.step h0
   have hc := stepK_cases y
   obtain ⟨l1, l2, l3⟩ := lv_al h
   have hi := y.hi.1
   have hp := y.hp.1
   have c1 := h.cut.i
   have c2 := h.cut.p
   have hst : stepK y = szK (lvM y) := rfl
   have hrest : PartY (restP y) := ⟨s5, by rw [s2]; have := h.ia; omega, by rw [s3]; have := h.pa; omega, h.pm, h.kd⟩
   cases n with
   | zero => omega
   | succ n =>
    obtain ⟨r1, r2, r3⟩ := parts_of n (restP y) (by rw [s4]; omega) hrest
    rw [piecesL_cons h.cut h0]
    have hh : PartOk y (lvM y, headP y) := by
     refine ⟨⟨l1, hi, l2, ?_, hp, l3, ?_, ⟨by have := h.pm; show 0 ≤ y.perm; omega, h.pm.2⟩, ?_⟩, rfl, Int.le_refl _, ?_, rfl, rfl, rfl⟩
     ·show y.ipa + szK (lvM y) ≤ _; rw [← hst]; omega
     ·show y.pa < _; omega
     ·have := h.kd; show y.kind = 0 ∨ y.kind = 1; omega
     ·show y.ipa + szK (lvM y) ≤ _; rw [← hst]; omega
    have hlift : ∀ x, PartOk (restP y) x → PartOk y x := fun x hx => by
     refine ⟨hx.ok, hx.sz, ?_, ?_, ?_, hx.pm, hx.kd⟩
     ·have := hx.lo; rw [s2] at this; omega
     ·have := hx.hi; rw [s2, s4] at this; omega
     ·have := hx.pa; rw [s2, s3] at this; omega
    refine ⟨fun x hx => ?_, ?_, fun a h1 h2 => ?_⟩
    ·rcases List.mem_cons.1 hx with rfl | hx
     ·exact hh
     ·exact hlift x (r1 x hx)
    ·refine List.pairwise_cons.2 ⟨fun x hx => ?_, r2⟩
     left
     have := (r1 x hx).lo
     rw [s2] at this
     show y.ipa + szK (lvM y) ≤ _
     rw [← hst]; exact this
    ·by_cases hlt : a < y.ipa + stepK y
     ·exact ⟨_, List.mem_cons_self, h1, by show a < y.ipa + szK (lvM y); rw [← hst]; exact hlt⟩
     ·obtain ⟨x, hx, hx1, hx2⟩ := r3 a (by rw [s2]; omega) (by rw [s2, s4]; omega)
      exact ⟨x, List.mem_cons_of_mem _ hx, hx1, hx2⟩
  ·rw [piecesL_nil h0]
   refine ⟨fun x hx => (by cases hx), List.Pairwise.nil, fun a h1 h2 => by omega⟩
theorem good_next {l : List M5} (h : goodM l = true) {k : Nat} (hk : k + 1 < l.length) : l[k]!.ipa + l[k]!.sz ≤ l[k + 1]!.ipa := by
 have h1 := List.all_eq_true.1 h (k + 1) (by simpa using hk)
 unfold okM at h1
 rw [Bool.and_eq_true] at h1
 have h2 := h1.2
 unfold nextB endM at h2
 rw [Bool.or_eq_true, decide_eq_true_iff, Bool.not_eq_true', decide_eq_false_iff_not, Nat.add_sub_cancel] at h2
 have h3 := good_parts (good_elem h (y := l[k]!) (by rw [getElem!_pos l k (by omega)]; exact List.getElem_mem _))
 have hi := l[k]!.hi.1
 omega
theorem good_apart {l : List M5} (h : goodM l = true) : ∀ (j k : Nat), j < k → k < l.length → l[j]!.ipa + l[j]!.sz ≤ l[k]!.ipa
 | j, k, hjk, hk => by
  obtain ⟨d, rfl⟩ : ∃ d, k = j + 1 + d := ⟨k - j - 1, by omega⟩
  induction d with
  | zero => exact good_next h hk
  | succ d ih =>
   have h1 := ih (by omega) (by omega)
   have h2 := good_next h (k := j + 1 + d) (by omega)
   have h3 := good_parts (good_elem h (y := l[j + 1 + d]!) (by rw [getElem!_pos l _ (by omega)]; exact List.getElem_mem _))
   rw [show j + 1 + (d + 1) = j + 1 + d + 1 by omega]
   omega
theorem allP_mem {l : List M5} {x : Int × M5} : x ∈ allP l ↔ ∃ y ∈ l, x ∈ piecesL y := by unfold allP; rw [List.mem_flatMap]
theorem allP_ok {l : List M5} (h : goodM l = true) : (∀ x ∈ allP l, PcOk x) ∧ (allP l).Pairwise Apart := by
 refine ⟨fun x hx => ?_, ?_⟩
 ·obtain ⟨y, hy, hx⟩ := allP_mem.1 hx
  exact ((parts_of _ y (Nat.le_refl _) (part_good (good_elem h hy))).1 x hx).ok
 ·unfold allP
  rw [List.pairwise_flatMap]
  refine ⟨fun y hy => (parts_of _ y (Nat.le_refl _) (part_good (good_elem h hy))).2.1, ?_⟩
  rw [List.pairwise_iff_getElem]
  intro j k hj hk hjk x hx x' hx'
  have g := good_apart h j k hjk hk
  rw [getElem!_pos l j hj, getElem!_pos l k hk] at g
  have a1 := ((parts_of _ _ (Nat.le_refl _) (part_good (good_elem h (List.getElem_mem hj)))).1 x hx).hi
  have a2 := ((parts_of _ _ (Nat.le_refl _) (part_good (good_elem h (List.getElem_mem hk)))).1 x' hx').lo
  left; omega
end Go.Proofs.YtiblhlaemmdphaaGreat
/- Plain: what is built of parts: refused, or whole; what a walk through it tells. -/
namespace Go.Proofs.YtiblhlaemmdphaaGreat
open Go Go.RowKit
theorem buildS_bad {s z : Int} {l : List M5} {pl : Pl} {pg : PG} (h : (needV l).2 ≠ 0) : buildS s z l pl pg = (⟨pl, pg, []⟩, 0, 190) := by
 have e : (needV l).2 = 190 := by
  unfold needV at h ⊢
  split
  ·rename_i hc; rw [if_pos hc] at h; exact absurd rfl h
  ·rfl
 unfold buildS
 rw [if_pos h, e]
theorem needV_ok {l : List M5} (h : (needV l).2 = 0) : goodM l = true ∧ (needV l).1 = 2 + ((allKeys l).length : Int) := by
 unfold needV at h ⊢
 split at h
 ·rename_i hc
  rw [if_pos hc]
  exact ⟨hc.1, rfl⟩
 ·cases h
end Go.Proofs.YtiblhlaemmdphaaGreat
/- The walks of the builder's slot and lay. -/
namespace Go.Proofs.YtiblhlaemmdphaaGreat
open Go Go.RowKit Go.BigFrame Go.Maps
theorem m5_new (w : World) (q : M5) (t : TypeId) : (w.alloc (.cells #[.int .u64 q.ipa, .int .u64 q.pa, .int .u64 q.sz, .int .i64 q.perm, .int .i64 q.kind] t)).cell? ⟨w.heap.size, 0, none⟩ = some (.int .u64 q.ipa) := by
 simp [World.cell?_alloc_new]
set_option maxHeartbeats 1000000 in
theorem slot_any (t k : Int) (q : M5) (w : World) (hk : k = 1 ∨ k = 2 ∨ k = 3) :
  Calls Tryz.prog 57 #[.int .u64 t, q.val, .int .i64 k] w fun e w' => e = .returned (.int .u64 (slotV t q k)) ∧ Below w.heap.size w w' := by
 unfold M5.val
 have hsz := fun W => size_any k W
 have hi := q.hi.1
 have hi' := q.hi.2
 have m0 := m5_new w q 59
 have hb0 := bone w (.cells #[.int .u64 q.ipa, .int .u64 q.pa, .int .u64 q.sz, .int .i64 q.perm, .int .i64 q.kind] 59)
 have hlt : w.heap.size < (w.alloc (.cells #[.int .u64 q.ipa, .int .u64 q.pa, .int .u64 q.sz, .int .i64 q.perm, .int .i64 q.kind] 59)).heap.size := by simp
 have hv : szV k = 1073741824 ∧ k = 1 ∨ szV k = 2097152 ∧ k = 2 ∨ szV k = 4096 ∧ k = 3 := by
  rcases hk with rfl | rfl | rfl
  ·exact .inl ⟨rfl, rfl⟩
  ·exact .inr (.inl ⟨rfl, rfl⟩)
  ·exact .inr (.inr ⟨rfl, rfl⟩)
 unfold slotV tabIdx at *
 generalize szV k = sz at *
 go_enter Tryz.func57, Tryz.ntmps57
 go_wp2_with fail
 generalize w.alloc (.cells #[.int .u64 q.ipa, .int .u64 q.pa, .int .u64 q.sz, .int .i64 q.perm, .int .i64 q.kind] 59) = w0 at *
 refine region_later w0.heap.size w0 (Below.refl _ _) (by kernel_rfl) (by kernel_rfl) ?_
 have x0 := later_cell (B := w0.heap.size) m0 hlt
 have hne : (sz == 0) = false := by rcases hv with ⟨e, _⟩ | ⟨e, _⟩ | ⟨e, _⟩ <;> (rw [e]; rfl)
 have hne' : sz ≠ 0 := by rcases hv with ⟨e, _⟩ | ⟨e, _⟩ | ⟨e, _⟩ <;> (rw [e]; decide)
 repeat (quiet_step ((go_at_call 55; exact quiet_later (Nat.le_refl _) ((hsz _).mono fun e w' h => ⟨h.1, h.2 ▸ Below.refl _ _⟩))))
 refine wpQuiet_nil ?_
 rintro _ ⟨X, rfl⟩
 have hX := X.h
 clear x0
 have hb2 := bthen hb0 hX
 clear hb0 hX m0
 have hd : IntKind.u64.wrap (q.ipa.tdiv sz) = q.ipa / sz ∧ 0 ≤ q.ipa / sz ∧ q.ipa / sz < 4503599627370496 := by
  rw [Int.tdiv_eq_ediv_of_nonneg hi, IntKind.wrap_u64]
  rcases hv with ⟨e, _⟩ | ⟨e, _⟩ | ⟨e, _⟩ <;> (rw [e]; omega)
 obtain ⟨hd0, hd1, hd2⟩ := hd
 rw [hd0]
 clear hd0 hv hne hne'
 generalize hdq : q.ipa / sz = d at *
 by_cases h1 : 1 < k
 ·have hm : IntKind.u64.wrap (d.tmod 512) = d % 512 := by rw [Int.tmod_eq_emod_of_nonneg hd1, IntKind.wrap_u64]; omega
  have hx : IntKind.u64.wrap (8 * (d % 512)) = 8 * (d % 512) := by rw [IntKind.wrap_u64]; omega
  go_wp2_with fail
  go_ret
  exact ⟨ret_u64 rfl, hb2⟩
 ·have hx : IntKind.u64.wrap (8 * d) = 8 * d := by rw [IntKind.wrap_u64]; omega
  go_wp2_with fail
  go_ret
  exact ⟨ret_u64 rfl, hb2⟩
def BdrBlk (W : World) (bb mb fb mp : Nat) (root : Int) : Prop := W.heap[bb]? = some (.cells #[.pointer (some ⟨mb, 0, none⟩), .pointer (some ⟨fb, 0, none⟩), .int .u64 root, .map (some mp)] 72 (0, 0))
theorem BdrBlk.cells {W : World} {bb mb fb mp : Nat} {root : Int} (h : BdrBlk W bb mb fb mp root) : W.cell? ⟨bb, 0, none⟩ = some (.pointer (some ⟨mb, 0, none⟩)) ∧ W.cell? ⟨bb, 1, none⟩ = some (.pointer (some ⟨fb, 0, none⟩)) ∧ W.cell? ⟨bb, 2, none⟩ = some (.int .u64 root) ∧ W.cell? ⟨bb, 3, none⟩ = some (.map (some mp)) := by
 unfold BdrBlk at h
 refine ⟨?_, ?_, ?_, ?_⟩ <;> simp [World.cell?, h]
theorem BdrBlk.lt {W : World} {bb mb fb mp : Nat} {root : Int} (h : BdrBlk W bb mb fb mp root) : bb < W.heap.size := (Array.getElem?_eq_some_iff.1 h).1
theorem lay_any (bb mb pb fb mp : Nat) (s z root at' k : Int) (d : DescV) (L : List Pg) (B : Nat) (w : World) (hbb : BdrBlk w bb mb fb mp root) (hm : MemP w mb pb s z L) (ha : W64 at') (h0 : 0 ≤ d.pa) (h0' : d.pa < 18446744073709551616) (hB : ∀ k ∈ memBlks mb pb L, B ≤ k) :
  Calls Tryz.prog 56 #[.pointer (some ⟨bb, 0, none⟩), .int .u64 at', .int .i64 k, d.val] w fun e w' => e = .returned (.int .i64 (if (putV k d).2 ≠ 0 then (putV k d).2 else putE s z at')) ∧ ∃ L', Wrote w w' mb pb s z L L' B (if (putV k d).2 = 0 ∧ putE s z at' = 0 then wpg (L.map Pg.ab) at' (putV k d).1 else L.map Pg.ab) := by
 have hBw : B ≤ w.heap.size := by have := hm.lt mb (by simp [memBlks]); have := hB mb (by simp [memBlks]); omega
 have hp := fun W => put_any k d W h0 h0'
 have hw64 := putV_bd k d
 have hb0 := bone w (.cells #[.int .i64 d.kind, .int .u64 d.pa, .int .i64 d.perm, .int .i64 d.mem, .bool d.af] 117)
 obtain ⟨c0, c1, c2, c3⟩ := hbb.cells
 have hlt := hbb.lt
 unfold DescV.val at *
 unfold wpg
 generalize putV k d = R at *
 obtain ⟨x, e⟩ := R
 simp only at *
 by_cases he : e = 0
 ·subst he
  have hpm := fun w1 (hm1 : MemP w1 mb pb s z L) => putM_any mb pb s z at' x L B w1 hm1 ha hw64 hB
  rw [if_neg (by simp)]
  simp only [true_and]
  generalize (if putE s z at' = 0 then writeV (L.map Pg.ab) at' (putB x) else L.map Pg.ab) = T at *
  go_enter Tryz.func56, Tryz.ntmps56
  go_wp2_with fail
  refine (hp _).mono ?_; rintro e' w1 ⟨rfl, hb1⟩
  replace hb1 := bthen hb0 hb1
  replace c0 := cell_lt hb1 c0 hlt
  have hm1 := hm.below hb1 (Nat.le_refl _)
  clear hp hb0 c1 c2 c3
  go_wp2_with fail
  refine (hpm _ hm1).mono ?_; rintro e' w2 ⟨rfl, L', hwr⟩
  go_wp2_with fail
  go_ret
  exact ⟨rfl, L', hwr.pre hb1 hBw⟩
 ·rw [if_pos he, if_neg (fun h => he h.1)]
  go_enter Tryz.func56, Tryz.ntmps56
  go_wp2_with fail
  refine (hp _).mono ?_; rintro e' w1 ⟨rfl, hb1⟩
  replace hb1 := bthen hb0 hb1
  replace c0 := cell_lt hb1 c0 hlt
  have hm1 := hm.below hb1 (Nat.le_refl _)
  clear hp hb0 c1 c2 c3
  go_wp2_with fail
  go_ret
  exact ⟨rfl, L, Wrote.stay hm hb1 hBw⟩
end Go.Proofs.YtiblhlaemmdphaaGreat
