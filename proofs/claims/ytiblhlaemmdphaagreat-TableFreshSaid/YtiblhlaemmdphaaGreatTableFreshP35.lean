/- Plain: the pool of the statements' loader, and what is built with it. -/
import Derived.Test.YtiblhlaemmdphaaGreatTableFreshP31
import Derived.Test.YtiblhlaemmdphaaGreatTableFreshP34
namespace Go.Proofs.YtiblhlaemmdphaaGreat
open Go Go.RowKit
def ldT (n : Int) : Two := ⟨1073741824, ramV n, by unfold W64; omega, by unfold W64 ramV; omega⟩
theorem ldT_pool (n : Int) : newV (ldT n) = ⟨1073741824, n % 1024 + 1, [], 0⟩ := by
 have h0 : 0 ≤ n % 1024 := by omega
 have h1 : n % 1024 < 1024 := by omega
 have hg : goodB 1073741824 ((n % 1024 + 1) * 4096) = true := goodB_iff.2 ⟨by omega, by omega⟩
 have hu : upV 1073741824 4096 = (1073741824, true) := by kernel_rfl
 have hl : lastV 1073741824 ((n % 1024 + 1) * 4096) = 1073741824 + ((n % 1024 + 1) * 4096 - 1) := lastV_yes hg
 have e1 : (ldT n).a = 1073741824 := rfl
 have e2 : (ldT n).b = (n % 1024 + 1) * 4096 := rfl
 unfold newV
 rw [e1, e2, hu, hl, if_pos ⟨hg, rfl, by omega⟩]
 congr 1
 omega
theorem pool_facts (n : Int) : PlOk (newV (ldT n)) ∧ PlInv (newV (ldT n)) ∧ ((1073741824 : Int) ≤ (newV (ldT n)).from' ∧ (newV (ldT n)).from' + (newV (ldT n)).count * 4096 ≤ 1073741824 + 16777216 ∧ (0 : Int) ≤ 1073741824 ∧ (1073741824 : Int) + 16777216 ≤ 1099511627776) := by
 refine ⟨(newV_ok _).1, newV_inv _, ?_⟩
 rw [ldT_pool]
 dsimp only
 omega
theorem allP_bd {l : List M5} (h : (needV l).2 = 0) : (allP l).length ≤ 10000 * l.length := by
 have hk : ∀ y ∈ l, (piecesL y).length ≤ 10000 := by
  unfold needV at h
  split at h
  ·rename_i hc; exact hc.2
  ·cases h
 unfold allP
 induction l with
 | nil => simp
 | cons y l ih =>
  have hy := hk y (by simp)
  have ih' : (l.flatMap piecesL).length ≤ 10000 * l.length := by
   clear ih h
   induction l with
   | nil => simp
   | cons z l ih2 =>
    have hz := hk z (by simp)
    have := ih2 fun q hq => hk q (by rcases List.mem_cons.1 hq with rfl | hq <;> simp [*])
    rw [List.flatMap_cons, List.length_append, List.length_cons]
    omega
  rw [List.flatMap_cons, List.length_append, List.length_cons]
  omega
end Go.Proofs.YtiblhlaemmdphaaGreat
/- Tables over old bytes: the plain law. -/
namespace Go.Proofs.YtiblhlaemmdphaaGreat
open Go Go.RowKit Go.BigFrame
def InT (root : Int) (tb : List ((Int × Int) × Int)) (x : Int) : Prop := (root ≤ x ∧ x < root + 8192) ∨ ∃ e ∈ tb, e.2 ≤ x ∧ x < e.2 + 4096
structure Jt (root : Int) (tb : List ((Int × Int) × Int)) (pg pc : PG) : Prop where
 ok : PgOk pc
 same : ∀ x, InT root tb x → bt pg x = bt pc x
 zero : ∀ x, ¬ InT root tb x → bt pc x = 0
 pages : ∀ p ∈ pc, InT root tb (p.1 * 4096)
theorem slot_inp {tb : List ((Int × Int) × Int)} {root a k m : Int} (hs : SlotAt tb root a k m) (h0 : root % 8192 = 0) (h1 : ∀ e ∈ tb, e.2 % 4096 = 0) : InT root tb (a / 4096 * 4096) := by
 rcases hs with ⟨_, m0, m1, rfl⟩ | ⟨e, he, _, m0, m1, rfl⟩
 ·exact .inl (by omega)
 ·have := h1 e he
  exact .inr ⟨e, he, by omega⟩
theorem slot_in {tb : List ((Int × Int) × Int)} {root a k m : Int} (hs : SlotAt tb root a k m) : ∀ i : Int, 0 ≤ i → i < 8 → InT root tb (a + i) := by
 intro i h0 h1
 rcases hs with ⟨_, m0, m1, rfl⟩ | ⟨e, he, _, m0, m1, rfl⟩
 ·exact .inl (by omega)
 ·exact .inr ⟨e, he, by omega⟩
theorem Jt.put {root : Int} {tb : List ((Int × Int) × Int)} {pg pc : PG} (h : Jt root tb pg pc) (hp : PgOk pg) {a : Int} (x : Int) (h0 : 0 ≤ a) (h1 : a + 8 ≤ 18446744073709551616) (hi : ∀ i : Int, 0 ≤ i → i < 8 → InT root tb (a + i)) (h8 : a % 8 = 0) (hip : InT root tb (a / 4096 * 4096)) : Jt root tb (wpg pg a x) (wpg pc a x) := by
 refine ⟨wpg_ok h.ok x h0 h1, fun y hy => ?_, fun y hy => ?_, fun p hp => ?_⟩
 ·rw [bt_wpg hp x h0 h1, bt_wpg h.ok x h0 h1, h.same y hy]
 ·rw [bt_wpg h.ok x h0 h1, if_neg, h.zero y hy]
  intro hc
  refine hy ?_
  have := hi (y - a) (by omega) (by omega)
  rwa [show a + (y - a) = y by omega] at this
 ·rcases pages_wpg h8 hp with e | ⟨p', hp', e⟩
  ·rw [e]; exact hip
  ·rw [← e]; exact h.pages p' hp'
theorem Jt.add {root : Int} {tb : List ((Int × Int) × Int)} {pg pc : PG} (h : Jt root tb pg pc) {a : Int} (ha : a % 4096 = 0) (key : Int × Int) : Jt root (tb ++ [(key, a)]) (zpgs pg a 4096) (zpgs pc a 4096) := by
 refine ⟨zpgs_ok h.ok _ _, fun y hy => ?_, fun y hy => ?_, fun p hp => ?_⟩
 ·rw [bt_zpgs _ _ _ _ ha (by decide), bt_zpgs _ _ _ _ ha (by decide)]
  by_cases hc : a ≤ y ∧ y < a + 4096
  ·rw [if_pos hc, if_pos hc]
  ·rw [if_neg hc, if_neg hc]
   refine h.same y ?_
   rcases hy with hy | ⟨e, he, h1⟩
   ·exact .inl hy
   ·rcases List.mem_append.1 he with he | he
    ·exact .inr ⟨e, he, h1⟩
    ·simp at he; subst he; exact absurd h1 hc
 ·rw [bt_zpgs _ _ _ _ ha (by decide)]
  split
  ·rfl
  ·refine h.zero y fun hi => hy ?_
   rcases hi with hi | ⟨e, he, h1⟩
   ·exact .inl hi
   ·exact .inr ⟨e, List.mem_append_left _ he, h1⟩
 ·rcases h.pages p (List.mem_filter.1 hp).1 with hi | ⟨e, he, h1⟩
  ·exact .inl hi
  ·exact .inr ⟨e, List.mem_append_left _ he, h1⟩
theorem frS_go {s z n al : Int} {st st1 : BS} {a : Int} (h : frS s z n al st = (st1, a, 0)) : ∃ pl', st1 = ⟨pl', zpgs st.pg a (n * 4096), st.tb⟩ ∧ ∀ pc, frS s z n al ⟨st.pl, pc, st.tb⟩ = (⟨pl', zpgs pc a (n * 4096), st.tb⟩, a, 0) := by
 unfold frS at h ⊢
 simp only
 split at h
 ·rename_i hc
  simp only [Prod.mk.injEq] at h
  exact absurd h.2.2 hc
 ·rename_i hc
  split at h
  ·simp at h
  ·rename_i hc2
   simp only [Prod.mk.injEq, and_true] at h
   obtain ⟨rfl, rfl⟩ := h
   exact ⟨_, rfl, fun pc => by rw [if_neg hc, if_neg hc2]⟩
theorem frS_no {s z n al : Int} {st : BS} (h : (frS s z n al st).2.2 ≠ 0) (pc : PG) : frS s z n al ⟨st.pl, pc, st.tb⟩ = (⟨(frS s z n al st).1.pl, pc, (frS s z n al st).1.tb⟩, (frS s z n al st).2) := by
 unfold frS at h ⊢
 simp only
 split at h
 ·rename_i hc
  rw [if_pos hc, if_pos hc]
 ·rename_i hc
  rw [if_neg hc, if_neg hc]
  split at h
  ·rename_i hc2
   rw [if_pos hc2, if_pos hc2]
  ·exact absurd rfl h
section
variable {s z o root : Int} {E D : List (Int × M5)} {st : BS}
theorem step_j (h : Bd s z o root E D st) {lv : Int} {q : M5} (_hq : (lv, q) ∈ E) {k t : Int} (hk : k = 2 ∨ k = 3) (hs : SlotAt st.tb root (slotV t q (k - 1)) (k - 1) (q.ipa / szK (k - 1))) {pc : PG} (hJ : Jt root st.tb st.pg pc) :
  ∃ pc', stepS s z q k ⟨st.pl, pc, st.tb⟩ t = (⟨(stepS s z q k st t).1.pl, pc', (stepS s z q k st t).1.tb⟩, (stepS s z q k st t).2) ∧ Jt root (stepS s z q k st t).1.tb (stepS s z q k st t).1.pg pc' := by
 unfold stepS
 simp only
 cases hl : lookT st.tb (k, q.ipa / szK (k - 1)) with
 | some a => exact ⟨pc, rfl, hJ⟩
 | none =>
  simp only
  rcases frS_one h with ⟨h1, h2⟩ | ⟨pl', at', h2, ht⟩
  ·have h3 := frS_no (s := s) (z := z) (n := 1) (al := 4096) (st := st) (by rw [h2]; simp) pc
   rw [h3, h2, if_pos (by simp), if_pos (by simp)]
   exact ⟨pc, rfl, hJ⟩
  ·obtain ⟨pl2, e2, h3⟩ := frS_go h2
   have h3 : frS s z 1 4096 ⟨st.pl, pc, st.tb⟩ = (⟨pl2, zpgs pc at' 4096, st.tb⟩, at', 0) := h3 pc
   simp only [BS.mk.injEq] at e2
   obtain ⟨rfl, -⟩ := e2
   have hlo := h.lo
   have hreg := ht.reg
   have hf0 := h.plok.f0
   have hp2 := tab_put (k := k - 1) (a := at') (by omega) (by omega) (by omega) ht.pg
   have hpe := putE_slot h hs
   obtain ⟨b0, b1, b2, _⟩ := hs.lt h
   have hlay : ∀ pg : PG, layS s z (slotV t q (k - 1)) (k - 1) (tabD at') ⟨pl', pg, st.tb⟩ = (⟨pl', wpg pg (slotV t q (k - 1)) (putV (k - 1) (tabD at')).1, st.tb⟩, 0) := fun pg => by
    unfold layS
    rw [if_neg (by rw [hp2.1]; simp), if_neg (by rw [hpe]; simp)]
   rw [h3, h2, if_neg (by simp), hlay (zpgs pc at' 4096), if_neg (by simp), if_neg (by simp), hlay (zpgs st.pg at' 4096), if_neg (by simp)]
   refine ⟨_, rfl, (hJ.add ht.pg _).put (zpgs_ok h.pgok _ _) _ b0 (by omega) (fun i i0 i1 => ?_) b2 ?_⟩
   ·rcases slot_in hs i i0 i1 with hx | ⟨e, he, hx⟩
    ·exact .inl hx
    ·exact .inr ⟨e, List.mem_append_left _ he, hx⟩
   ·rcases slot_inp hs h.root0 h.tab0 with hx | ⟨e, he, hx⟩
    ·exact .inl hx
    ·exact .inr ⟨e, List.mem_append_left _ he, hx⟩
theorem lay_j (h : Bd s z o root E D st) {a lv : Int} {q : M5} {m : Int} (hp : PcOk (lv, q)) (hs : SlotAt st.tb root a lv m) {pc : PG} (hJ : Jt root st.tb st.pg pc) :
  ∃ pc', layS s z a lv (leafD lv q) ⟨st.pl, pc, st.tb⟩ = (⟨(layS s z a lv (leafD lv q) st).1.pl, pc', (layS s z a lv (leafD lv q) st).1.tb⟩, (layS s z a lv (leafD lv q) st).2) ∧ Jt root (layS s z a lv (leafD lv q) st).1.tb (layS s z a lv (leafD lv q) st).1.pg pc' := by
 have hlp := leaf_put hp
 have hpe := putE_slot h hs
 obtain ⟨b0, b1, b2, _⟩ := hs.lt h
 unfold layS
 rw [if_neg (by rw [hlp.1]; simp), if_neg (by rw [hpe]; simp), if_neg (by rw [hlp.1]; simp), if_neg (by rw [hpe]; simp)]
 exact ⟨_, rfl, hJ.put h.pgok _ b0 (by omega) (slot_in hs) b2 (slot_inp hs h.root0 h.tab0)⟩
theorem piece_j (h : Bd s z o root E D st) {x : Int × M5} (hx : x ∈ E) {pc : PG} (hJ : Jt root st.tb st.pg pc) :
  ∃ pc', pieceS s z root x.1 x.2 ⟨st.pl, pc, st.tb⟩ = (⟨(pieceS s z root x.1 x.2 st).1.pl, pc', (pieceS s z root x.1 x.2 st).1.tb⟩, (pieceS s z root x.1 x.2 st).2) ∧ Jt root (pieceS s z root x.1 x.2 st).1.tb (pieceS s z root x.1 x.2 st).1.pg pc' := by
 obtain ⟨lv, q⟩ := x
 have hp := h.pcs _ hx
 have hlv := hp.lv
 simp only at hlv ⊢
 have h2m1 : (2 : Int) - 1 = 1 := rfl
 have h3m1 : (3 : Int) - 1 = 2 := rfl
 have fin : ∀ {st' : BS} {t : Int} {pc1 : PG}, Bd s z o root E D st' → SlotAt st'.tb root (slotV t q lv) lv (q.ipa / szK lv) → Jt root st'.tb st'.pg pc1 → pathS s z q (lv - 1).toNat 2 st root = (st', t, 0) → pathS s z q (lv - 1).toNat 2 ⟨st.pl, pc, st.tb⟩ root = (⟨st'.pl, pc1, st'.tb⟩, t, 0) →
   ∃ pc', pieceS s z root lv q ⟨st.pl, pc, st.tb⟩ = (⟨(pieceS s z root lv q st).1.pl, pc', (pieceS s z root lv q st).1.tb⟩, (pieceS s z root lv q st).2) ∧ Jt root (pieceS s z root lv q st).1.tb (pieceS s z root lv q st).1.pg pc' := fun {st' t pc1} h' hs hJ' e1 e2 => by
  rw [piece_run e1 rfl]
  obtain ⟨pc', e3, h3⟩ := lay_j h' hp hs hJ'
  exact ⟨pc', piece_run e2 e3, h3⟩
 rcases hlv with rfl | rfl | rfl
 ·exact fin h (slot_root h hx) hJ rfl rfl
 ·obtain ⟨pc1, f1, j1⟩ := step_j h hx (.inl rfl) (t := root) (by rw [h2m1]; exact slot_root h hx) hJ
  rcases step_k h hx (.inl rfl) (by omega) (by rw [h2m1]; exact slot_root h hx) with ⟨st', a, e, hb, hm, hk, hc⟩ | ⟨e, ho, hno⟩
  ·rw [h2m1] at hm
   rw [e] at f1 j1
   exact fin hb (slot_tab hb hx (.inl rfl) (by rw [h2m1]; exact hm)) j1 (path_one e) (path_one f1)
  ·rw [e] at f1 j1
   have e9 : pieceS s z root 2 q st = (st, 110) := piece_err (path_one e) (by simp)
   rw [e9]
   exact ⟨pc1, piece_err (c := 110) (path_one f1) (by simp), j1⟩
 ·obtain ⟨pc1, f1, j1⟩ := step_j h hx (.inl rfl) (t := root) (by rw [h2m1]; exact slot_root h hx) hJ
  rcases step_k h hx (.inl rfl) (by omega) (by rw [h2m1]; exact slot_root h hx) with ⟨st', a, e, hb, hm, hk, hc⟩ | ⟨e, ho, hno⟩
  ·rw [h2m1] at hm
   rw [e] at f1 j1
   obtain ⟨pc2, f2, j2⟩ := step_j hb hx (.inr rfl) (t := a) (by rw [h3m1]; exact slot_tab hb hx (.inl rfl) (by rw [h2m1]; exact hm)) j1
   rcases step_k hb hx (.inr rfl) (by omega) (t := a) (by rw [h3m1]; exact slot_tab hb hx (.inl rfl) (by rw [h2m1]; exact hm)) with ⟨st3, a3, e3, hb3, hm3, hk3, hc3⟩ | ⟨e3, ho3, hno3⟩
   ·rw [h3m1] at hm3
    rw [e3] at f2 j2
    exact fin hb3 (slot_tab hb3 hx (.inr rfl) (by rw [h3m1]; exact hm3)) j2 (path_two e e3) (path_two f1 f2)
   ·rw [e3] at f2 j2
    have e9 : pieceS s z root 3 q st = (st', 110) := piece_err (path_two e e3) (by simp)
    rw [e9]
    exact ⟨pc2, piece_err (c := 110) (path_two f1 f2) (by simp), j2⟩
  ·rw [e] at f1 j1
   have e9 : pieceS s z root 3 q st = (st, 110) := piece_err (path_two_err e (by simp)) (by simp)
   rw [e9]
   exact ⟨pc1, piece_err (c := 110) (path_two_err (c := 110) f1 (by simp)) (by simp), j1⟩
theorem pieces_j : ∀ (L D : List (Int × M5)) (st : BS) (pc : PG), Bd s z o root (D ++ L) D st → Jt root st.tb st.pg pc →
  ∃ pc', piecesS s z root L ⟨st.pl, pc, st.tb⟩ = (⟨(piecesS s z root L st).1.pl, pc', (piecesS s z root L st).1.tb⟩, (piecesS s z root L st).2) ∧ Jt root (piecesS s z root L st).1.tb (piecesS s z root L st).1.pg pc'
 | [], D, st, pc, h, hJ => ⟨pc, rfl, hJ⟩
 | x :: L, D, st, pc, h, hJ => by
  have hx : x ∈ D ++ x :: L := by simp
  have hxD := apart_notin h.apart (h.pcs x hx)
  obtain ⟨pc1, f1, j1⟩ := piece_j h hx hJ
  rw [piecesS, piecesS, f1]
  rcases piece_k h hx hxD with ⟨st', e, hb, hk, hc⟩ | ⟨st', e, hb, hlt, hc⟩
  ·rw [e] at j1 ⊢
   rw [if_neg (by simp), if_neg (by simp)]
   have ha : D ++ x :: L = (D ++ [x]) ++ L := by simp
   rw [ha] at hb
   exact pieces_j L (D ++ [x]) st' pc1 hb j1
  ·rw [e] at j1 ⊢
   rw [if_pos (by simp), if_pos (by simp)]
   exact ⟨pc1, rfl, j1⟩
theorem build_j {l : List M5} {pl : Pl} {pg : PG} (hok : PlOk pl) (hi : PlInv pl) (hlo : s ≤ pl.from' ∧ pl.from' + pl.count * 4096 ≤ s + z ∧ 0 ≤ s ∧ s + z ≤ 1099511627776) (hpk : PgOk pg) :
  (buildS s z l pl []).2 = (buildS s z l pl pg).2 ∧ ((buildS s z l pl pg).2.2 = 0 → ∃ tb, (∀ x, InT (buildS s z l pl pg).2.1 tb x → s ≤ x / 4096 * 4096 ∧ x / 4096 * 4096 + 4096 ≤ s + z) ∧ (buildS s z l pl pg).2.1 % 8192 = 0 ∧ (∀ e ∈ tb, e.2 % 4096 = 0) ∧ Jt (buildS s z l pl pg).2.1 tb (buildS s z l pl pg).1.pg (buildS s z l pl []).1.pg) := by
 by_cases hn : (needV l).2 = 0
 ·obtain ⟨hg, hne⟩ := needV_ok hn
  obtain ⟨hP, hA⟩ := allP_ok hg
  rcases start_k (s := s) (z := z) (E := allP l) hok hi hlo hpk hP hA with ⟨pl', root, e1, hb, hc, hr⟩ | ⟨e1, hno⟩
  ·obtain ⟨pl2, e2, f2⟩ := frS_go e1
   have f2 : frS s z 2 8192 ⟨pl, [], []⟩ = (⟨pl2, zpgs [] root (2 * 4096), []⟩, root, 0) := f2 []
   simp only [BS.mk.injEq] at e2
   obtain ⟨rfl, -⟩ := e2
   have r0 := hb.root0
   have hJ : Jt root [] (zpgs pg root 8192) (zpgs [] root (2 * 4096)) := by
    refine ⟨zpgs_ok PgOk.nil _ _, fun x hx => ?_, fun x hx => ?_, fun p hp => by cases (List.mem_filter.1 hp).1⟩
    ·rw [bt_zpgs _ _ _ _ (by omega) (by decide), bt_zpgs _ _ _ _ (by omega) (by decide)]
     rcases hx with hx | ⟨e, he, _⟩
     ·rw [if_pos (by omega), if_pos (by omega)]
     ·cases he
    ·rw [bt_zpgs _ _ _ _ (by omega) (by decide), bt_nil]; split <;> rfl
   obtain ⟨pc', f3, j3⟩ := pieces_j (s := s) (z := z) (o := pl.out + 2) (root := root) (allP l) [] ⟨pl', zpgs pg root 8192, []⟩ _ hb hJ
   simp only at f3
   have hb1 : buildS s z l pl pg = if (piecesS s z root (allP l) ⟨pl', zpgs pg root 8192, []⟩).2 ≠ 0 then ((piecesS s z root (allP l) ⟨pl', zpgs pg root 8192, []⟩).1, 0, (piecesS s z root (allP l) ⟨pl', zpgs pg root 8192, []⟩).2) else ((piecesS s z root (allP l) ⟨pl', zpgs pg root 8192, []⟩).1, root, 0) := by
    unfold buildS
    rw [if_neg (by rw [hn]; simp), e1]
    simp only [ne_eq, not_true_eq_false, if_false]
   have hb2 : buildS s z l pl [] = if (piecesS s z root (allP l) ⟨pl', zpgs pg root 8192, []⟩).2 ≠ 0 then (⟨(piecesS s z root (allP l) ⟨pl', zpgs pg root 8192, []⟩).1.pl, pc', (piecesS s z root (allP l) ⟨pl', zpgs pg root 8192, []⟩).1.tb⟩, 0, (piecesS s z root (allP l) ⟨pl', zpgs pg root 8192, []⟩).2) else (⟨(piecesS s z root (allP l) ⟨pl', zpgs pg root 8192, []⟩).1.pl, pc', (piecesS s z root (allP l) ⟨pl', zpgs pg root 8192, []⟩).1.tb⟩, root, 0) := by
    unfold buildS
    rw [if_neg (by rw [hn]; simp), f2]
    simp only [ne_eq, not_true_eq_false, if_false]
    rw [f3]
   rcases pieces_k (s := s) (z := z) (o := pl.out + 2) (root := root) (allP l) [] ⟨pl', zpgs pg root 8192, []⟩ hb with ⟨st', e4, hb4, _, hc4⟩ | ⟨st', D', e4, _, _⟩
   ·rw [e4] at hb1 hb2 j3
    rw [if_neg (by simp)] at hb1 hb2
    rw [hb1, hb2]
    refine ⟨rfl, fun _ => ⟨st'.tb, fun x hx => ?_, r0, hb4.tab0, j3⟩⟩
    have hl4 := hb4.lo
    rcases hx with hx | ⟨e, he, hx⟩
    ·replace hx : root ≤ x ∧ x < root + 8192 := hx
     have g1 := (hb4.rootC (x / 4096 * 4096) (by omega) (by omega)).1
     have g2 := (hb4.rootC (x / 4096 * 4096 + 4095) (by omega) (by omega)).1
     omega
    ·have := hb4.tab0 e he
     have g1 := (hb4.tabC e he (x / 4096 * 4096) (by omega) (by omega)).1
     have g2 := (hb4.tabC e he (x / 4096 * 4096 + 4095) (by omega) (by omega)).1
     omega
   ·rw [e4] at hb1 hb2
    rw [if_pos (by simp)] at hb1 hb2
    rw [hb1, hb2]
    exact ⟨rfl, fun h => by simp at h⟩
  ·have f1 := frS_no (s := s) (z := z) (n := 2) (al := 8192) (st := ⟨pl, pg, []⟩) (by rw [e1]; simp) []
   rw [e1] at f1
   simp only at f1
   have k : ∀ p : PG, frS s z 2 8192 ⟨pl, p, []⟩ = (⟨pl, p, []⟩, 0, 110) → (buildS s z l pl p).2 = (0, 110) := fun p hp => by
    unfold buildS
    rw [if_neg (by rw [hn]; simp), hp]
    simp
   rw [k pg e1, k [] f1]
   exact ⟨rfl, fun h => by simp at h⟩
 ·rw [buildS_bad hn, buildS_bad hn]
  exact ⟨rfl, fun h => by simp at h⟩
end
end Go.Proofs.YtiblhlaemmdphaaGreat
