/- Plain: the two guests' tables as they are built, and what a walk of them tells. -/
import Derived.Test.YtgihknfoncljbaaGreatDoorRingNoneP6
import Derived.Test.YtgihknfoncljbaaGreatDoorRingNoneP34
import Derived.Test.YtgihknfoncljbaaGreatDoorRingNoneP36
namespace Go.Proofs.YtgihknfoncljbaaGreatDoor
open Go Go.RowKit

/-- What a build leaves. -/
def bldG (pg : PG) (R T2 T3 a1 a2 a3 x1 x2 x3 : Int) : PG := wpg (wpg (zpgs (wpg (zpgs (zpgs pg R (2 * 4096)) T2 (1 * 4096)) a1 x1) T3 (1 * 4096)) a2 x2) a3 x3
section
variable {s z : Int}
theorem frS_yes {n al a : Int} {st : BS} {pl' : Pl} (hr : runV st.pl n al = (pl', a, 0)) (hw : withinB a (n * 4096) s z = true) : frS s z n al st = ({ st with pl := pl', pg := zpgs st.pg a (n * 4096) }, a, 0) := by
  unfold frS
  rw [hr, if_neg (by simp), if_neg (by simp [hw])]
theorem layS_yes {a k : Int} {d : DescV} {st : BS} (hq : (putV k d).2 = 0) (he : putE s z a = 0) : layS s z a k d st = ({ st with pg := wpg st.pg a (putV k d).1 }, 0) := by
  unfold layS
  rw [if_neg (by rw [hq]; simp), if_neg (by rw [he]; simp)]
theorem stepS_new {q : M5} {k t : Int} {st st1 : BS} {a : Int} (hl : lookT st.tb (k, q.ipa / szK (k - 1)) = none) (hf : frS s z 1 4096 st = (st1, a, 0)) (hq : (putV (k - 1) (tabD a)).2 = 0) (he : putE s z (slotV t q (k - 1)) = 0) :
    stepS s z q k st t = ({ st1 with pg := wpg st1.pg (slotV t q (k - 1)) (putV (k - 1) (tabD a)).1, tb := st.tb ++ [((k, q.ipa / szK (k - 1)), a)] }, a, 0) := by
  unfold stepS
  rw [hl, hf]
  simp only
  rw [if_neg (by simp), layS_yes hq he, if_neg (by simp)]
theorem build_one {pA pB pC pD : Pl} {R T2 T3 : Int} {m q : M5} (r0 : runV pA 2 8192 = (pB, R, 0)) (r1 : runV pB 1 4096 = (pC, T2, 0)) (r2 : runV pC 1 4096 = (pD, T3, 0)) (hn : (needV [m]).2 = 0) (hp : allP [m] = [(3, q)])
    (w0 : withinB R (2 * 4096) s z = true) (w1 : withinB T2 (1 * 4096) s z = true) (w2 : withinB T3 (1 * 4096) s z = true)
    (e1 : putE s z (slotV R q (2 - 1)) = 0) (e2 : putE s z (slotV T2 q (3 - 1)) = 0) (e3 : putE s z (slotV T3 q 3) = 0) (q1 : (putV (2 - 1) (tabD T2)).2 = 0) (q2 : (putV (3 - 1) (tabD T3)).2 = 0) (q3 : (putV 3 (leafD 3 q)).2 = 0) (pg : PG) :
    ∃ tb, buildS s z [m] pA pg = (⟨pD, bldG pg R T2 T3 (slotV R q (2 - 1)) (slotV T2 q (3 - 1)) (slotV T3 q 3) (putV (2 - 1) (tabD T2)).1 (putV (3 - 1) (tabD T3)).1 (putV 3 (leafD 3 q)).1, tb⟩, R, 0) := by
  have f0 := frS_yes (s := s) (z := z) (st := ⟨pA, pg, []⟩) r0 w0
  have f1 := frS_yes (s := s) (z := z) (st := ⟨pB, zpgs pg R (2 * 4096), []⟩) r1 w1
  have s1 := stepS_new (s := s) (z := z) (q := q) (k := 2) (t := R) (st := ⟨pB, zpgs pg R (2 * 4096), []⟩) rfl f1 q1 e1
  have f2 := frS_yes (s := s) (z := z) (st := ⟨pC, wpg (zpgs (zpgs pg R (2 * 4096)) T2 (1 * 4096)) (slotV R q (2 - 1)) (putV (2 - 1) (tabD T2)).1, [] ++ [((2, q.ipa / szK (2 - 1)), T2)]⟩) r2 w2
  have s2 := stepS_new (s := s) (z := z) (q := q) (k := 3) (t := T2) (st := ⟨pC, wpg (zpgs (zpgs pg R (2 * 4096)) T2 (1 * 4096)) (slotV R q (2 - 1)) (putV (2 - 1) (tabD T2)).1, [] ++ [((2, q.ipa / szK (2 - 1)), T2)]⟩) (by unfold lookT; simp) f2 q2 e2
  have hpc := piece_run (lv := 3) (path_two s1 s2) (layS_yes q3 e3)
  have hps : piecesS s z R [(3, q)] ⟨pB, zpgs pg R (2 * 4096), []⟩ = (⟨pD, bldG pg R T2 T3 (slotV R q (2 - 1)) (slotV T2 q (3 - 1)) (slotV T3 q 3) (putV (2 - 1) (tabD T2)).1 (putV (3 - 1) (tabD T3)).1 (putV 3 (leafD 3 q)).1, [((2, q.ipa / szK (2 - 1)), T2), ((3, q.ipa / szK (3 - 1)), T3)]⟩, 0) := by
    unfold piecesS
    rw [hpc]
    rfl
  refine ⟨[((2, q.ipa / szK (2 - 1)), T2), ((3, q.ipa / szK (3 - 1)), T3)], ?_⟩
  unfold buildS
  rw [if_neg (by rw [hn]; simp), f0, if_neg (by simp), hp]
  simp only
  rw [hps, if_neg (by simp)]
end
theorem bldG_bt {pg : PG} (hp : PgOk pg) {R T2 T3 a1 a2 a3 x1 x2 x3 : Int} (hR : R % 4096 = 0) (h2 : T2 % 4096 = 0) (h3 : T3 % 4096 = 0) {lo hi : Int} (h0 : 0 ≤ lo) (h1 : hi ≤ 1099511627776)
    (c0 : lo ≤ R ∧ R + 8192 ≤ hi) (c1 : lo ≤ T2 ∧ T2 + 4096 ≤ hi) (c2 : lo ≤ T3 ∧ T3 + 4096 ≤ hi) (b1 : lo ≤ a1 ∧ a1 + 8 ≤ hi) (b2 : lo ≤ a2 ∧ a2 + 8 ≤ hi) (b3 : lo ≤ a3 ∧ a3 + 8 ≤ hi) (b : Int) (hb : b < lo ∨ hi ≤ b) :
    bt (bldG pg R T2 T3 a1 a2 a3 x1 x2 x3) b = bt pg b := by
  have k1 := zpgs_ok hp R (2 * 4096)
  have k2 := zpgs_ok k1 T2 (1 * 4096)
  have k3 := wpg_ok k2 x1 (a := a1) (by omega) (by omega)
  have k4 := zpgs_ok k3 T3 (1 * 4096)
  have k5 := wpg_ok k4 x2 (a := a2) (by omega) (by omega)
  unfold bldG
  rw [bt_wpg k5 _ (by omega) (by omega), if_neg (by omega), bt_wpg k4 _ (by omega) (by omega), if_neg (by omega), bt_zpgs _ _ _ _ h3 (by omega), if_neg (by omega), bt_wpg k2 _ (by omega) (by omega), if_neg (by omega), bt_zpgs _ _ _ _ h2 (by omega), if_neg (by omega), bt_zpgs _ _ _ _ hR (by omega), if_neg (by omega)]

def plN (n : Nat) : Pl := ⟨1073741824, 32, if n = 0 then [] else [tw 1073741824 (4096 * n)], n⟩
theorem pool_new : newV (tw 1073741824 131072) = plN 0 := by kernel_rfl
theorem runs : runV (plN 0) 2 8192 = (plN 2, 1073741824, 0) ∧ runV (plN 2) 1 4096 = (plN 3, 1073750016, 0) ∧ runV (plN 3) 1 4096 = (plN 4, 1073754112, 0) ∧ runV (plN 4) 2 8192 = (plN 6, 1073758208, 0) ∧ runV (plN 6) 1 4096 = (plN 7, 1073766400, 0) ∧ runV (plN 7) 1 4096 = (plN 8, 1073770496, 0) := by
  simp only [runV_R]
  refine ⟨?_, ?_, ?_, ?_, ?_, ?_⟩ <;> kernel_rfl
/-- What each guest sees: the shared page. -/
def mapN (g perm : Int) (h : g = 0 ∨ g = 1) : M5 := ⟨65536 + 32768 * g, 1074266112, 4096, perm, 0, by unfold W64; omega, by unfold W64; omega, by unfold W64; omega⟩
def map0 (p : Int) : M5 := mapN 0 p (.inl rfl)
def map1 (q : Int) : M5 := mapN 1 q (.inr rfl)
theorem need_m (g perm : Int) (h : g = 0 ∨ g = 1) (hp : perm = 1 ∨ perm = 3) : (needV [mapN g perm h]).2 = 0 ∧ allP [mapN g perm h] = [(3, mapN g perm h)] := by
  have hlv : lvM (mapN g perm h) = 3 ∧ stepK (mapN g perm h) = 4096 := by
    rcases h with rfl | rfl <;> exact ⟨by kernel_rfl, by kernel_rfl⟩
  have hhd : headP (mapN g perm h) = mapN g perm h := by
    unfold headP
    simp only [hlv.2]
    rfl
  have hrs : (restP (mapN g perm h)).sz = 0 := by
    unfold restP
    simp only [hlv.2]
    rfl
  have hc : piecesL (mapN g perm h) = [(3, mapN g perm h)] := by
    rw [piecesL_cons (good_cut (good_one (by rcases h with rfl | rfl <;> rcases hp with rfl | rfl <;> kernel_rfl))) (by show (0 : Int) < 4096; omega), piecesL_nil (by rw [hrs]; omega), hlv.1, hhd]
  constructor
  · have : needOk [mapN g perm h] := by
      constructor
      · rcases h with rfl | rfl <;> rcases hp with rfl | rfl <;> kernel_rfl
      · intro y hy
        obtain rfl : y = mapN g perm h := by simpa using hy
        rw [hc]; simp
    unfold needV
    rw [if_pos this]
  · unfold allP
    simp [hc]
theorem Bd.turned {s z o root : Int} {E D : List (Int × M5)} {st : BS} (h : Bd s z o root E D st) {pg' : PG} (hok : PgOk pg') (hb : ∀ b, b < st.pl.from' + st.pl.count * 4096 → bt pg' b = bt st.pg b) : Bd s z o root E D { st with pg := pg' } :=
  { h with
    pgok := hok
    word := fun a k m hs => by
      rw [← h.word a k m hs]
      refine wordAt_congr fun i hi => hb _ ?_
      exact ((SlotAt.covers h hs).1 i (by omega) (by omega)).1.2 }
/-- Both guests' tables stand in these pages. -/
structure Tab2 (pg : PG) (p q : Int) : Prop where
  ok : PgOk pg
  t0 : ∃ tb, Bd 1073741824 1048576 2 1073741824 (allP [map0 p]) (allP [map0 p]) ⟨plN 4, pg, tb⟩
  t1 : ∃ tb, Bd 1073741824 1048576 6 1073758208 (allP [map1 q]) (allP [map1 q]) ⟨plN 8, pg, tb⟩
theorem Tab2.keep {pg pg' : PG} {p q : Int} (h : Tab2 pg p q) (hok : PgOk pg') (hb : ∀ b, b < 1073872896 → bt pg' b = bt pg b) : Tab2 pg' p q := by
  obtain ⟨tb0, h0⟩ := h.t0
  obtain ⟨tb1, h1⟩ := h.t1
  exact ⟨hok, ⟨tb0, h0.turned hok fun b hb' => hb b (by simp only [plN] at hb'; omega)⟩, ⟨tb1, h1.turned hok fun b hb' => hb b (by simp only [plN] at hb'; omega)⟩⟩
theorem two_builds {pg0 : PG} (hok : PgOk pg0) {p q : Int} (hp : p = 1 ∨ p = 3) (hq : q = 1 ∨ q = 3) :
    ∃ pgA pgB tb0 tb1, buildS 1073741824 1048576 [map0 p] (plN 0) pg0 = (⟨plN 4, pgA, tb0⟩, 1073741824, 0) ∧ buildS 1073741824 1048576 [map1 q] (plN 4) pgA = (⟨plN 8, pgB, tb1⟩, 1073758208, 0) ∧ PgOk pgA ∧ Tab2 pgB p q ∧ (∀ b, 1073872896 ≤ b → bt pgB b = bt pg0 b) ∧ PlOk (plN 4) ∧ PlInv (plN 4) := by
  obtain ⟨u0, u1, u2, u3, u4, u5⟩ := runs
  have n0 := need_m 0 p (.inl rfl) hp
  have n1 := need_m 1 q (.inr rfl) hq
  have s1 : slotV 1073741824 (mapN 0 p (.inl rfl)) (2 - 1) = 1073741824 := by kernel_rfl
  have s2 : slotV 1073750016 (mapN 0 p (.inl rfl)) (3 - 1) = 1073750016 := by kernel_rfl
  have s3 : slotV 1073754112 (mapN 0 p (.inl rfl)) 3 = 1073754240 := by kernel_rfl
  have s4 : slotV 1073758208 (mapN 1 q (.inr rfl)) (2 - 1) = 1073758208 := by kernel_rfl
  have s5 : slotV 1073766400 (mapN 1 q (.inr rfl)) (3 - 1) = 1073766400 := by kernel_rfl
  have s6 : slotV 1073770496 (mapN 1 q (.inr rfl)) 3 = 1073770688 := by kernel_rfl
  have hl : ∀ k, (1073741824 : Int) ≤ (plN k).from' ∧ (plN k).from' + (plN k).count * 4096 ≤ 1073741824 + 1048576 ∧ (0 : Int) ≤ 1073741824 ∧ (1073741824 : Int) + 1048576 ≤ 1099511627776 := fun k => by unfold plN; dsimp only; omega
  obtain ⟨tb0, e0⟩ := build_one (s := 1073741824) (z := 1048576) u0 u1 u2 n0.1 n0.2 (by kernel_rfl) (by kernel_rfl) (by kernel_rfl) (by kernel_rfl) (by kernel_rfl) (by kernel_rfl) (by kernel_rfl) (by kernel_rfl) (by rcases hp with rfl | rfl <;> kernel_rfl) pg0
  have k0 := build_k (s := 1073741824) (z := 1048576) (pg := pg0) n0.1 (pool_new ▸ (newV_ok _).1) (pool_new ▸ newV_inv _) (hl 0) hok
  rw [e0] at k0
  rcases k0 with ⟨_, st', k0⟩ | ⟨_, st', k0⟩ | ⟨st', root, k0, b0, _⟩
  · simp at k0
  · simp at k0
  · simp only [Prod.mk.injEq] at k0
    obtain ⟨rfl, rfl, _⟩ := k0
    have hokA := b0.pgok
    obtain ⟨tb1, e1⟩ := build_one (s := 1073741824) (z := 1048576) u3 u4 u5 n1.1 n1.2 (by kernel_rfl) (by kernel_rfl) (by kernel_rfl) (by kernel_rfl) (by kernel_rfl) (by kernel_rfl) (by kernel_rfl) (by kernel_rfl) (by rcases hq with rfl | rfl <;> kernel_rfl) (bldG pg0 1073741824 1073750016 1073754112 (slotV 1073741824 (mapN 0 p (.inl rfl)) (2 - 1)) (slotV 1073750016 (mapN 0 p (.inl rfl)) (3 - 1)) (slotV 1073754112 (mapN 0 p (.inl rfl)) 3) (putV (2 - 1) (tabD 1073750016)).1 (putV (3 - 1) (tabD 1073754112)).1 (putV 3 (leafD 3 (mapN 0 p (.inl rfl)))).1)
    have k1 := build_k (s := 1073741824) (z := 1048576) n1.1 b0.plok b0.inv (hl 4) hokA
    have hbA := fun b => bldG_bt hok (R := 1073741824) (T2 := 1073750016) (T3 := 1073754112) (a1 := slotV 1073741824 (mapN 0 p (.inl rfl)) (2 - 1)) (a2 := slotV 1073750016 (mapN 0 p (.inl rfl)) (3 - 1)) (a3 := slotV 1073754112 (mapN 0 p (.inl rfl)) 3) (x1 := (putV (2 - 1) (tabD 1073750016)).1) (x2 := (putV (3 - 1) (tabD 1073754112)).1) (x3 := (putV 3 (leafD 3 (mapN 0 p (.inl rfl)))).1) (lo := 1073741824) (hi := 1073758208) (by decide) (by decide) (by decide) (by decide) (by decide) (by decide) (by decide) (by decide) (by have := s1; omega) (by have := s2; omega) (by have := s3; omega) b
    rw [e1] at k1
    rcases k1 with ⟨_, st', k1⟩ | ⟨_, st', k1⟩ | ⟨st', root, k1, b1, _⟩
    · simp at k1
    · simp at k1
    · simp only [Prod.mk.injEq] at k1
      obtain ⟨rfl, rfl, _⟩ := k1
      have hbB := fun b => bldG_bt hokA (R := 1073758208) (T2 := 1073766400) (T3 := 1073770496) (a1 := slotV 1073758208 (mapN 1 q (.inr rfl)) (2 - 1)) (a2 := slotV 1073766400 (mapN 1 q (.inr rfl)) (3 - 1)) (a3 := slotV 1073770496 (mapN 1 q (.inr rfl)) 3) (x1 := (putV (2 - 1) (tabD 1073766400)).1) (x2 := (putV (3 - 1) (tabD 1073770496)).1) (x3 := (putV 3 (leafD 3 (mapN 1 q (.inr rfl)))).1) (lo := 1073758208) (hi := 1073872896) (by decide) (by decide) (by decide) (by decide) (by decide) (by decide) (by decide) (by decide) (by have := s4; omega) (by have := s5; omega) (by have := s6; omega) b
      refine ⟨_, _, tb0, tb1, e0, e1, hokA, ⟨b1.pgok, ⟨tb0, ?_⟩, ⟨tb1, b1⟩⟩, fun b hb => ?_, b0.plok, b0.inv⟩
      · refine { b0 with pgok := b1.pgok, word := fun a k m hs => ?_ }
        refine Eq.trans ?_ (b0.word a k m hs)
        refine wordAt_congr fun i hi => hbB _ (.inl ?_)
        have hc := ((SlotAt.covers b0 hs).1 i (by omega) (by omega)).2
        obtain ⟨y, hy, c1⟩ := hc
        simp only [plN] at hy
        simp at hy
        subst hy
        have c1 := (hasB_iff.1 c1).2.2
        have e1 : (tw 1073741824 16384).a = 1073741824 := by kernel_rfl
        have e2 : (tw 1073741824 16384).b = 16384 := by kernel_rfl
        rw [e1, e2] at c1
        omega
      · rw [hbB b (.inr hb), hbA b (.inr (by omega))]
/-- Whether an address lies in a guest's page. -/
def InG (g a : Int) : Prop := 65536 + 32768 * g ≤ a ∧ a < 65536 + 32768 * g + 4096
instance (g a : Int) : Decidable (InG g a) := by unfold InG; infer_instance
theorem map_at (g perm : Int) (h : g = 0 ∨ g = 1) (a : Int) : atM [mapN g perm h] a = if InG g a then some (mapN g perm h) else none := by
  have hel : (mapN g perm h).has a = decide (InG g a) := by
    rw [Bool.eq_iff_iff, hasM_iff, decide_eq_true_eq]
    unfold InG mapN
    simp only
    constructor
    · rintro ⟨_, h1, h2⟩
      omega
    · rintro ⟨h1, h2⟩
      exact ⟨by rcases h with rfl | rfl <;> kernel_rfl, h1, by omega⟩
  unfold atM
  rw [List.find?_cons, hel]
  by_cases hi : InG g a
  · rw [if_pos hi, decide_eq_true hi]
  · rw [if_neg hi, decide_eq_false hi]
    rfl
theorem Tab2.walk {pg : PG} {p q : Int} (h : Tab2 pg p q) (hp : p = 1 ∨ p = 3) (hq : q = 1 ∨ q = 3) {g a : Int} (hg : g = 0 ∨ g = 1) (h0 : 0 ≤ a) :
    (InG g a → ∃ k, walkV (wordV 1073741824 1048576 pg) (1073741824 + 16384 * g) a = (⟨P0 + (a - (65536 + 32768 * g)), if g = 0 then p else q, 0, k⟩, 0)) ∧
    (¬ InG g a → ∃ hit, walkV (wordV 1073741824 1048576 pg) (1073741824 + 16384 * g) a = (hit, if 1099511627776 ≤ a then 200 else 201)) := by
  have key : ∀ {o root perm : Int} {st : BS}, (perm = 1 ∨ perm = 3) → Bd 1073741824 1048576 o root (allP [mapN g perm hg]) (allP [mapN g perm hg]) st → st.pg = pg →
      (InG g a → ∃ k, walkV (wordV 1073741824 1048576 pg) root a = (⟨P0 + (a - (65536 + 32768 * g)), perm, 0, k⟩, 0)) ∧ (¬ InG g a → ∃ hit, walkV (wordV 1073741824 1048576 pg) root a = (hit, if 1099511627776 ≤ a then 200 else 201)) := by
    intro o root perm st hpm hb hpg
    by_cases h1 : 1099511627776 ≤ a
    · refine ⟨fun hi => by unfold InG at hi; omega, fun _ => ⟨⟨0, 0, 0, 0⟩, ?_⟩⟩
      unfold walkV
      rw [if_pos h1, if_pos h1]
    · have hg1 := (needV_ok (need_m g perm hg hpm).1).1
      have hat := map_at g perm hg a
      rcases built_at hg1 hb h0 (by omega) with ⟨y, k, e1, e2, _⟩ | ⟨e1, k, e2⟩
      · rw [hat] at e1
        by_cases hi : InG g a
        · rw [if_pos hi] at e1
          injection e1 with e1
          subst e1
          rw [hpg] at e2
          exact ⟨fun _ => ⟨k, e2⟩, fun h => absurd hi h⟩
        · rw [if_neg hi] at e1; cases e1
      · rw [hat] at e1
        by_cases hi : InG g a
        · rw [if_pos hi] at e1; cases e1
        · rw [hpg] at e2
          exact ⟨fun h => absurd h hi, fun _ => ⟨_, by rw [e2, if_neg h1]⟩⟩
  obtain ⟨tb0, b0⟩ := h.t0
  obtain ⟨tb1, b1⟩ := h.t1
  rcases hg with rfl | rfl
  · exact key hp b0 rfl
  · exact key hq b1 rfl
end Go.Proofs.YtgihknfoncljbaaGreatDoor
