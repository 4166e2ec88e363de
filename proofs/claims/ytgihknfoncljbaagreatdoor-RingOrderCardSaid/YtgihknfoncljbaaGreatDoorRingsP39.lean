/- Plain: the two guests' tables as they are built, and what a walk of them tells. -/
import Derived.Maps.OwnIn
import Derived.Test.YtgihknfoncljbaaGreatDoorRingsP6
import Derived.Test.YtgihknfoncljbaaGreatDoorRingsP12
import Derived.Test.YtgihknfoncljbaaGreatDoorRingsP13
import Derived.Test.YtgihknfoncljbaaGreatDoorRingsP26
import Derived.Test.YtgihknfoncljbaaGreatDoorRingsP29
import Derived.Test.YtgihknfoncljbaaGreatDoorRingsP32
import Derived.Test.YtgihknfoncljbaaGreatDoorRingsP33
import Derived.Test.YtgihknfoncljbaaGreatDoorRingsP34
import Derived.Test.YtgihknfoncljbaaGreatDoorRingsP36
import Derived.Test.YtgihknfoncljbaaGreatDoorRingsP38
namespace Go.Proofs.YtgihknfoncljbaaGreatDoor
open Go Go.RowKit
def bldG (pg : PG) (R T2 T3 a1 a2 a3 x1 x2 x3 : Int) : PG := wpg (wpg (zpgs (wpg (zpgs (zpgs pg R (2 * 4096)) T2 (1 * 4096)) a1 x1) T3 (1 * 4096)) a2 x2) a3 x3
section
variable {s z : Int}
theorem frS_yes {n al a : Int} {st : BS} {pl' : Pl} (hr : runV st.pl n al = (pl', a, 0)) (hw : withinB a (n * 4096) s z = true) : frS s z n al st = ({ st with pl := pl', pg := zpgs st.pg a (n * 4096) }, a, 0) := by
 unfold frS
 rw [hr, if_neg (by simp), if_neg (by simp [hw])]
theorem layS_yes {a k : Int} {d : DescV} {st : BS} (hq : (putV k d).2 = 0) (he : putE s z a = 0) : layS s z a k d st = ({ st with pg := wpg st.pg a (putV k d).1 }, 0) := by
 unfold layS
 rw [if_neg (by rw [hq]; simp), if_neg (by rw [he]; simp)]
theorem stepS_new {q : M5} {k t : Int} {st st1 : BS} {a : Int} (hl : lookT st.tb (k, q.ipa / szK (k - 1)) = none) (hf : frS s z 1 4096 st = (st1, a, 0)) (hq : (putV (k - 1) (tabD a)).2 = 0) (he : putE s z (slotV t q (k - 1)) = 0) :
  stepS s z q k st t = ({ st1 with pg := wpg st1.pg (slotV t q (k - 1)) (putV (k - 1) (tabD a)).1, tb := st.tb ++ [((k, q.ipa / szK (k - 1)), a)] }, a, 0) := by
 unfold stepS
 rw [hl, hf]
 simp only
 rw [if_neg (by simp), layS_yes hq he, if_neg (by simp)]
theorem build_one {pA pB pC pD : Pl} {R T2 T3 : Int} {m q : M5} (r0 : runV pA 2 8192 = (pB, R, 0)) (r1 : runV pB 1 4096 = (pC, T2, 0)) (r2 : runV pC 1 4096 = (pD, T3, 0)) (hn : (needV [m]).2 = 0) (hp : allP [m] = [(3, q)])
  (w0 : withinB R (2 * 4096) s z = true) (w1 : withinB T2 (1 * 4096) s z = true) (w2 : withinB T3 (1 * 4096) s z = true)
  (e1 : putE s z (slotV R q (2 - 1)) = 0) (e2 : putE s z (slotV T2 q (3 - 1)) = 0) (e3 : putE s z (slotV T3 q 3) = 0) (q1 : (putV (2 - 1) (tabD T2)).2 = 0) (q2 : (putV (3 - 1) (tabD T3)).2 = 0) (q3 : (putV 3 (leafD 3 q)).2 = 0) (pg : PG) :
  ∃ tb, buildS s z [m] pA pg = (⟨pD, bldG pg R T2 T3 (slotV R q (2 - 1)) (slotV T2 q (3 - 1)) (slotV T3 q 3) (putV (2 - 1) (tabD T2)).1 (putV (3 - 1) (tabD T3)).1 (putV 3 (leafD 3 q)).1, tb⟩, R, 0) := by
 have f0 := frS_yes (s := s) (z := z) (st := ⟨pA, pg, []⟩) r0 w0
 have f1 := frS_yes (s := s) (z := z) (st := ⟨pB, zpgs pg R (2 * 4096), []⟩) r1 w1
 have s1 := stepS_new (s := s) (z := z) (q := q) (k := 2) (t := R) (st := ⟨pB, zpgs pg R (2 * 4096), []⟩) rfl f1 q1 e1
 have f2 := frS_yes (s := s) (z := z) (st := ⟨pC, wpg (zpgs (zpgs pg R (2 * 4096)) T2 (1 * 4096)) (slotV R q (2 - 1)) (putV (2 - 1) (tabD T2)).1, [] ++ [((2, q.ipa / szK (2 - 1)), T2)]⟩) r2 w2
 have s2 := stepS_new (s := s) (z := z) (q := q) (k := 3) (t := T2) (st := ⟨pC, wpg (zpgs (zpgs pg R (2 * 4096)) T2 (1 * 4096)) (slotV R q (2 - 1)) (putV (2 - 1) (tabD T2)).1, [] ++ [((2, q.ipa / szK (2 - 1)), T2)]⟩) (by unfold lookT; simp) f2 q2 e2
 have hpc := piece_run (lv := 3) (path_two s1 s2) (layS_yes q3 e3)
 have hps : piecesS s z R [(3, q)] ⟨pB, zpgs pg R (2 * 4096), []⟩ = (⟨pD, bldG pg R T2 T3 (slotV R q (2 - 1)) (slotV T2 q (3 - 1)) (slotV T3 q 3) (putV (2 - 1) (tabD T2)).1 (putV (3 - 1) (tabD T3)).1 (putV 3 (leafD 3 q)).1, [((2, q.ipa / szK (2 - 1)), T2), ((3, q.ipa / szK (3 - 1)), T3)]⟩, 0) := by
  unfold piecesS
  rw [hpc]
  rfl
 refine ⟨[((2, q.ipa / szK (2 - 1)), T2), ((3, q.ipa / szK (3 - 1)), T3)], ?_⟩
 unfold buildS
 rw [if_neg (by rw [hn]; simp), f0, if_neg (by simp), hp]
 simp only
 rw [hps, if_neg (by simp)]
end
theorem bldG_bt {pg : PG} (hp : PgOk pg) {R T2 T3 a1 a2 a3 x1 x2 x3 : Int} (hR : R % 4096 = 0) (h2 : T2 % 4096 = 0) (h3 : T3 % 4096 = 0) {lo hi : Int} (h0 : 0 ≤ lo) (h1 : hi ≤ 1099511627776)
  (c0 : lo ≤ R ∧ R + 8192 ≤ hi) (c1 : lo ≤ T2 ∧ T2 + 4096 ≤ hi) (c2 : lo ≤ T3 ∧ T3 + 4096 ≤ hi) (b1 : lo ≤ a1 ∧ a1 + 8 ≤ hi) (b2 : lo ≤ a2 ∧ a2 + 8 ≤ hi) (b3 : lo ≤ a3 ∧ a3 + 8 ≤ hi) (b : Int) (hb : b < lo ∨ hi ≤ b) :
  bt (bldG pg R T2 T3 a1 a2 a3 x1 x2 x3) b = bt pg b := by
 have k1 := zpgs_ok hp R (2 * 4096)
 have k2 := zpgs_ok k1 T2 (1 * 4096)
 have k3 := wpg_ok k2 x1 (a := a1) (by omega) (by omega)
 have k4 := zpgs_ok k3 T3 (1 * 4096)
 have k5 := wpg_ok k4 x2 (a := a2) (by omega) (by omega)
 unfold bldG
 rw [bt_wpg k5 _ (by omega) (by omega), if_neg (by omega), bt_wpg k4 _ (by omega) (by omega), if_neg (by omega), bt_zpgs _ _ _ _ h3 (by omega), if_neg (by omega), bt_wpg k2 _ (by omega) (by omega), if_neg (by omega), bt_zpgs _ _ _ _ h2 (by omega), if_neg (by omega), bt_zpgs _ _ _ _ hR (by omega), if_neg (by omega)]
def plN (n : Nat) : Pl := ⟨1073741824, 32, if n = 0 then [] else [tw 1073741824 (4096 * n)], n⟩
theorem pool_new : newV (tw 1073741824 131072) = plN 0 := by kernel_rfl
theorem runs : runV (plN 0) 2 8192 = (plN 2, 1073741824, 0) ∧ runV (plN 2) 1 4096 = (plN 3, 1073750016, 0) ∧ runV (plN 3) 1 4096 = (plN 4, 1073754112, 0) ∧ runV (plN 4) 2 8192 = (plN 6, 1073758208, 0) ∧ runV (plN 6) 1 4096 = (plN 7, 1073766400, 0) ∧ runV (plN 7) 1 4096 = (plN 8, 1073770496, 0) := by
 simp only [runV_R]
 refine ⟨?_, ?_, ?_, ?_, ?_, ?_⟩ <;> kernel_rfl
def mapN (g perm : Int) (h : g = 0 ∨ g = 1) : M5 := ⟨65536 + 32768 * g, 1074266112, 4096, perm, 0, by unfold W64; omega, by unfold W64; omega, by unfold W64; omega⟩
def map0 (p : Int) : M5 := mapN 0 p (.inl rfl)
def map1 (q : Int) : M5 := mapN 1 q (.inr rfl)
theorem need_m (g perm : Int) (h : g = 0 ∨ g = 1) (hp : perm = 1 ∨ perm = 3) : (needV [mapN g perm h]).2 = 0 ∧ allP [mapN g perm h] = [(3, mapN g perm h)] := by
 have hlv : lvM (mapN g perm h) = 3 ∧ stepK (mapN g perm h) = 4096 := by
  rcases h with rfl | rfl <;> exact ⟨by kernel_rfl, by kernel_rfl⟩
 have hhd : headP (mapN g perm h) = mapN g perm h := by
  unfold headP
  simp only [hlv.2]
  rfl
 have hrs : (restP (mapN g perm h)).sz = 0 := by
  unfold restP
  simp only [hlv.2]
  rfl
 have hc : piecesL (mapN g perm h) = [(3, mapN g perm h)] := by
  rw [piecesL_cons (good_cut (good_one (by rcases h with rfl | rfl <;> rcases hp with rfl | rfl <;> kernel_rfl))) (by show (0 : Int) < 4096; omega), piecesL_nil (by rw [hrs]; omega), hlv.1, hhd]
 constructor
 ·have : needOk [mapN g perm h] := by
   constructor
   ·rcases h with rfl | rfl <;> rcases hp with rfl | rfl <;> kernel_rfl
   ·intro y hy
    obtain rfl : y = mapN g perm h := by simpa using hy
    rw [hc]; simp
  unfold needV
  rw [if_pos this]
 ·unfold allP
  simp [hc]
theorem Bd.turned {s z o root : Int} {E D : List (Int × M5)} {st : BS} (h : Bd s z o root E D st) {pg' : PG} (hok : PgOk pg') (hb : ∀ b, b < st.pl.from' + st.pl.count * 4096 → bt pg' b = bt st.pg b) : Bd s z o root E D { st with pg := pg' } :=
 { h with
  pgok := hok
  word := fun a k m hs => by
   rw [← h.word a k m hs]
   refine wordAt_congr fun i hi => hb _ ?_
   exact ((SlotAt.covers h hs).1 i (by omega) (by omega)).1.2 }
structure Tab2 (pg : PG) (p q : Int) : Prop where
 ok : PgOk pg
 t0 : ∃ tb, Bd 1073741824 1048576 2 1073741824 (allP [map0 p]) (allP [map0 p]) ⟨plN 4, pg, tb⟩
 t1 : ∃ tb, Bd 1073741824 1048576 6 1073758208 (allP [map1 q]) (allP [map1 q]) ⟨plN 8, pg, tb⟩
theorem Tab2.keep {pg pg' : PG} {p q : Int} (h : Tab2 pg p q) (hok : PgOk pg') (hb : ∀ b, b < 1073872896 → bt pg' b = bt pg b) : Tab2 pg' p q := by
 obtain ⟨tb0, h0⟩ := h.t0
 obtain ⟨tb1, h1⟩ := h.t1
 exact ⟨hok, ⟨tb0, h0.turned hok fun b hb' => hb b (by simp only [plN] at hb'; omega)⟩, ⟨tb1, h1.turned hok fun b hb' => hb b (by simp only [plN] at hb'; omega)⟩⟩
theorem two_builds {pg0 : PG} (hok : PgOk pg0) {p q : Int} (hp : p = 1 ∨ p = 3) (hq : q = 1 ∨ q = 3) :
  ∃ pgA pgB tb0 tb1, buildS 1073741824 1048576 [map0 p] (plN 0) pg0 = (⟨plN 4, pgA, tb0⟩, 1073741824, 0) ∧ buildS 1073741824 1048576 [map1 q] (plN 4) pgA = (⟨plN 8, pgB, tb1⟩, 1073758208, 0) ∧ PgOk pgA ∧ Tab2 pgB p q ∧ (∀ b, 1073872896 ≤ b → bt pgB b = bt pg0 b) ∧ PlOk (plN 4) ∧ PlInv (plN 4) := by
 obtain ⟨u0, u1, u2, u3, u4, u5⟩ := runs
 have n0 := need_m 0 p (.inl rfl) hp
 have n1 := need_m 1 q (.inr rfl) hq
 have s1 : slotV 1073741824 (mapN 0 p (.inl rfl)) (2 - 1) = 1073741824 := by kernel_rfl
 have s2 : slotV 1073750016 (mapN 0 p (.inl rfl)) (3 - 1) = 1073750016 := by kernel_rfl
 have s3 : slotV 1073754112 (mapN 0 p (.inl rfl)) 3 = 1073754240 := by kernel_rfl
 have s4 : slotV 1073758208 (mapN 1 q (.inr rfl)) (2 - 1) = 1073758208 := by kernel_rfl
 have s5 : slotV 1073766400 (mapN 1 q (.inr rfl)) (3 - 1) = 1073766400 := by kernel_rfl
 have s6 : slotV 1073770496 (mapN 1 q (.inr rfl)) 3 = 1073770688 := by kernel_rfl
 have hl : ∀ k, (1073741824 : Int) ≤ (plN k).from' ∧ (plN k).from' + (plN k).count * 4096 ≤ 1073741824 + 1048576 ∧ (0 : Int) ≤ 1073741824 ∧ (1073741824 : Int) + 1048576 ≤ 1099511627776 := fun k => by unfold plN; dsimp only; omega
 obtain ⟨tb0, e0⟩ := build_one (s := 1073741824) (z := 1048576) u0 u1 u2 n0.1 n0.2 (by kernel_rfl) (by kernel_rfl) (by kernel_rfl) (by kernel_rfl) (by kernel_rfl) (by kernel_rfl) (by kernel_rfl) (by kernel_rfl) (by rcases hp with rfl | rfl <;> kernel_rfl) pg0
 have k0 := build_k (s := 1073741824) (z := 1048576) (pg := pg0) n0.1 (pool_new ▸ (newV_ok _).1) (pool_new ▸ newV_inv _) (hl 0) hok
 rw [e0] at k0
 rcases k0 with ⟨_, st', k0⟩ | ⟨_, st', k0⟩ | ⟨st', root, k0, b0, _⟩
 ·simp at k0
 ·simp at k0
 ·simp only [Prod.mk.injEq] at k0
  obtain ⟨rfl, rfl, _⟩ := k0
  have hokA := b0.pgok
  obtain ⟨tb1, e1⟩ := build_one (s := 1073741824) (z := 1048576) u3 u4 u5 n1.1 n1.2 (by kernel_rfl) (by kernel_rfl) (by kernel_rfl) (by kernel_rfl) (by kernel_rfl) (by kernel_rfl) (by kernel_rfl) (by kernel_rfl) (by rcases hq with rfl | rfl <;> kernel_rfl) (bldG pg0 1073741824 1073750016 1073754112 (slotV 1073741824 (mapN 0 p (.inl rfl)) (2 - 1)) (slotV 1073750016 (mapN 0 p (.inl rfl)) (3 - 1)) (slotV 1073754112 (mapN 0 p (.inl rfl)) 3) (putV (2 - 1) (tabD 1073750016)).1 (putV (3 - 1) (tabD 1073754112)).1 (putV 3 (leafD 3 (mapN 0 p (.inl rfl)))).1)
  have k1 := build_k (s := 1073741824) (z := 1048576) n1.1 b0.plok b0.inv (hl 4) hokA
  have hbA := fun b => bldG_bt hok (R := 1073741824) (T2 := 1073750016) (T3 := 1073754112) (a1 := slotV 1073741824 (mapN 0 p (.inl rfl)) (2 - 1)) (a2 := slotV 1073750016 (mapN 0 p (.inl rfl)) (3 - 1)) (a3 := slotV 1073754112 (mapN 0 p (.inl rfl)) 3) (x1 := (putV (2 - 1) (tabD 1073750016)).1) (x2 := (putV (3 - 1) (tabD 1073754112)).1) (x3 := (putV 3 (leafD 3 (mapN 0 p (.inl rfl)))).1) (lo := 1073741824) (hi := 1073758208) (by decide) (by decide) (by decide) (by decide) (by decide) (by decide) (by decide) (by decide) (by have := s1; omega) (by have := s2; omega) (by have := s3; omega) b
  rw [e1] at k1
  rcases k1 with ⟨_, st', k1⟩ | ⟨_, st', k1⟩ | ⟨st', root, k1, b1, _⟩
  ·simp at k1
  ·simp at k1
  ·simp only [Prod.mk.injEq] at k1
   obtain ⟨rfl, rfl, _⟩ := k1
   have hbB := fun b => bldG_bt hokA (R := 1073758208) (T2 := 1073766400) (T3 := 1073770496) (a1 := slotV 1073758208 (mapN 1 q (.inr rfl)) (2 - 1)) (a2 := slotV 1073766400 (mapN 1 q (.inr rfl)) (3 - 1)) (a3 := slotV 1073770496 (mapN 1 q (.inr rfl)) 3) (x1 := (putV (2 - 1) (tabD 1073766400)).1) (x2 := (putV (3 - 1) (tabD 1073770496)).1) (x3 := (putV 3 (leafD 3 (mapN 1 q (.inr rfl)))).1) (lo := 1073758208) (hi := 1073872896) (by decide) (by decide) (by decide) (by decide) (by decide) (by decide) (by decide) (by decide) (by have := s4; omega) (by have := s5; omega) (by have := s6; omega) b
   refine ⟨_, _, tb0, tb1, e0, e1, hokA, ⟨b1.pgok, ⟨tb0, ?_⟩, ⟨tb1, b1⟩⟩, fun b hb => ?_, b0.plok, b0.inv⟩
   ·refine { b0 with pgok := b1.pgok, word := fun a k m hs => ?_ }
    refine Eq.trans ?_ (b0.word a k m hs)
    refine wordAt_congr fun i hi => hbB _ (.inl ?_)
    have hc := ((SlotAt.covers b0 hs).1 i (by omega) (by omega)).2
    obtain ⟨y, hy, c1⟩ := hc
    simp only [plN] at hy
    simp at hy
    subst hy
    have c1 := (hasB_iff.1 c1).2.2
    have e1 : (tw 1073741824 16384).a = 1073741824 := by kernel_rfl
    have e2 : (tw 1073741824 16384).b = 16384 := by kernel_rfl
    rw [e1, e2] at c1
    omega
   ·rw [hbB b (.inr hb), hbA b (.inr (by omega))]
def InG (g a : Int) : Prop := 65536 + 32768 * g ≤ a ∧ a < 65536 + 32768 * g + 4096
instance (g a : Int) : Decidable (InG g a) := by unfold InG; infer_instance
theorem map_at (g perm : Int) (h : g = 0 ∨ g = 1) (a : Int) : atM [mapN g perm h] a = if InG g a then some (mapN g perm h) else none := by
 have hel : (mapN g perm h).has a = decide (InG g a) := by
  rw [Bool.eq_iff_iff, hasM_iff, decide_eq_true_eq]
  unfold InG mapN
  simp only
  constructor
  ·rintro ⟨_, h1, h2⟩
   omega
  ·rintro ⟨h1, h2⟩
   exact ⟨by rcases h with rfl | rfl <;> kernel_rfl, h1, by omega⟩
 unfold atM
 rw [List.find?_cons, hel]
 by_cases hi : InG g a
 ·rw [if_pos hi, decide_eq_true hi]
 ·rw [if_neg hi, decide_eq_false hi]
  rfl
theorem Tab2.walk {pg : PG} {p q : Int} (h : Tab2 pg p q) (hp : p = 1 ∨ p = 3) (hq : q = 1 ∨ q = 3) {g a : Int} (hg : g = 0 ∨ g = 1) (h0 : 0 ≤ a) :
  (InG g a → ∃ k, walkV (wordV 1073741824 1048576 pg) (1073741824 + 16384 * g) a = (⟨P0 + (a - (65536 + 32768 * g)), if g = 0 then p else q, 0, k⟩, 0)) ∧
  (¬ InG g a → ∃ hit, walkV (wordV 1073741824 1048576 pg) (1073741824 + 16384 * g) a = (hit, if 1099511627776 ≤ a then 200 else 201)) := by
 have key : ∀ {o root perm : Int} {st : BS}, (perm = 1 ∨ perm = 3) → Bd 1073741824 1048576 o root (allP [mapN g perm hg]) (allP [mapN g perm hg]) st → st.pg = pg →
   (InG g a → ∃ k, walkV (wordV 1073741824 1048576 pg) root a = (⟨P0 + (a - (65536 + 32768 * g)), perm, 0, k⟩, 0)) ∧ (¬ InG g a → ∃ hit, walkV (wordV 1073741824 1048576 pg) root a = (hit, if 1099511627776 ≤ a then 200 else 201)) := by
  intro o root perm st hpm hb hpg
  by_cases h1 : 1099511627776 ≤ a
  ·refine ⟨fun hi => by unfold InG at hi; omega, fun _ => ⟨⟨0, 0, 0, 0⟩, ?_⟩⟩
   unfold walkV
   rw [if_pos h1, if_pos h1]
  ·have hg1 := (needV_ok (need_m g perm hg hpm).1).1
   have hat := map_at g perm hg a
   rcases built_at hg1 hb h0 (by omega) with ⟨y, k, e1, e2, _⟩ | ⟨e1, k, e2⟩
   ·rw [hat] at e1
    by_cases hi : InG g a
    ·rw [if_pos hi] at e1
     injection e1 with e1
     subst e1
     rw [hpg] at e2
     exact ⟨fun _ => ⟨k, e2⟩, fun h => absurd hi h⟩
    ·rw [if_neg hi] at e1; cases e1
   ·rw [hat] at e1
    by_cases hi : InG g a
    ·rw [if_pos hi] at e1; cases e1
    ·rw [hpg] at e2
     exact ⟨fun h => absurd h hi, fun _ => ⟨_, by rw [e2, if_neg h1]⟩⟩
 obtain ⟨tb0, b0⟩ := h.t0
 obtain ⟨tb1, b1⟩ := h.t1
 rcases hg with rfl | rfl
 ·exact key hp b0 rfl
 ·exact key hq b1 rfl
end Go.Proofs.YtgihknfoncljbaaGreatDoor
/- The walk of run.do: an access of a guest. -/
namespace Go.Proofs.YtgihknfoncljbaaGreatDoor
open Go Go.RowKit Go.Shelf Go.BigFrame Go.Maps
def seenN (e x pa : Int) : Value := .agg #[.int .i64 e, .int .u64 x, .int .u64 pa, .bool false, .int .i64 0, .int .i64 0]
theorem Wrote.set {w w' : World} {mb pb B : Nat} {s z : Int} {L L' : List Pg} {tgt : PG} (h : Wrote w w' mb pb s z L L' B tgt) (hB : B ≤ w.heap.size) {b : Nat} (hb : w.heap.size ≤ b) (hn : b ∉ memBlks mb pb L') (i : Nat) (u : Value) : Wrote w (w'.setCell ⟨b, i, none⟩ u) mb pb s z L L' B tgt :=
 have ho : ∀ k, k ≠ b → (w'.setCell ⟨b, i, none⟩ u).heap[k]? = w'.heap[k]? := fun k hk => Below.heap_setCell _ _ _ _ (by simpa using hk)
 ⟨h.mem.same fun k hk => ho k (fun e => hn (e ▸ hk)), h.ab, ⟨h.off.below.setCell (Nat.le_trans hB hb) _, fun k h1 h2 => (ho k (by omega)).trans (h.off.rest k h1 h2)⟩, h.blks⟩
theorem Wrote.late {w w' : World} {mb pb B : Nat} {s z : Int} {L L' : List Pg} {tgt : PG} (h : Wrote w w' mb pb s z L L' B tgt) {w2 : World} (hb : Below w'.heap.size w' w2) (hB : B ≤ w.heap.size) : Wrote w w2 mb pb s z L L' B tgt :=
 ⟨h.mem.below hb (Nat.le_refl _), h.ab, h.off.trans (OffL.of_below (Bs := []) hb (Nat.le_trans hB h.off.below.size)) (by simp), h.blks⟩
def SeenAt (W : World) (tb : Nat) (e x pa : Int) : Prop := W.heap[tb]? = some (.cells #[.int .i64 e, .int .u64 x, .int .u64 pa, .bool false, .int .i64 0, .int .i64 0] 45 (0, 0))
theorem SeenAt.cells {W : World} {tb : Nat} {e x pa : Int} (h : SeenAt W tb e x pa) : W.cell? ⟨tb, 0, none⟩ = some (.int .i64 e) ∧ W.cell? ⟨tb, 1, none⟩ = some (.int .u64 x) ∧ W.cell? ⟨tb, 2, none⟩ = some (.int .u64 pa) ∧ W.cell? ⟨tb, 3, none⟩ = some (.bool false) ∧ W.cell? ⟨tb, 4, none⟩ = some (.int .i64 0) ∧ W.cell? ⟨tb, 5, none⟩ = some (.int .i64 0) := by
 unfold SeenAt at h
 refine ⟨?_, ?_, ?_, ?_, ?_, ?_⟩ <;> simp [World.cell?, h]
theorem SeenAt.frozen {W : World} {tb : Nat} {e x pa : Int} (h : SeenAt W tb e x pa) (o : Nat) : W.frozen? ⟨tb, o, none⟩ = false := by unfold SeenAt at h; simp [World.frozen?, h]
theorem SeenAt.lt {W : World} {tb : Nat} {e x pa : Int} (h : SeenAt W tb e x pa) : tb < W.heap.size := (Array.getElem?_eq_some_iff.1 h).1
theorem SeenAt.later {W W' : World} {tb : Nat} {e x pa : Int} (h : SeenAt W tb e x pa) (hb : Below W.heap.size W W') : SeenAt W' tb e x pa := (hb.block _ h.lt).trans h
def AccAt (W : World) (ab : Nat) (k g line ipa size x root : Int) : Prop := W.heap[ab]? = some (.cells #[.int .i64 k, .int .i64 g, .int .i64 line, .int .u64 ipa, .int .i64 size, .int .u64 x, .int .u64 root, .int .i64 k, .bool (decide (k = 2))] 154 (0, 0))
theorem AccAt.cells {W : World} {ab : Nat} {k g line ipa size x root : Int} (h : AccAt W ab k g line ipa size x root) : W.cell? ⟨ab, 3, none⟩ = some (.int .u64 ipa) ∧ W.cell? ⟨ab, 4, none⟩ = some (.int .i64 size) ∧ W.cell? ⟨ab, 5, none⟩ = some (.int .u64 x) ∧ W.cell? ⟨ab, 6, none⟩ = some (.int .u64 root) ∧ W.cell? ⟨ab, 7, none⟩ = some (.int .i64 k) ∧ W.cell? ⟨ab, 8, none⟩ = some (.bool (decide (k = 2))) := by
 unfold AccAt at h
 refine ⟨?_, ?_, ?_, ?_, ?_, ?_⟩ <;> simp [World.cell?, h]
theorem AccAt.lt {W : World} {ab : Nat} {k g line ipa size x root : Int} (h : AccAt W ab k g line ipa size x root) : ab < W.heap.size := (Array.getElem?_eq_some_iff.1 h).1
theorem AccAt.later {W W' : World} {ab : Nat} {k g line ipa size x root : Int} (h : AccAt W ab k g line ipa size x root) (hb : Below W.heap.size W W') : AccAt W' ab k g line ipa size x root := (hb.block _ h.lt).trans h
def DPost (w0 : World) (mb pb : Nat) (L : List Pg) (B : Nat) (k e x : Int) (tgt : PG) (en : Ending) (w' : World) : Prop := ∃ L' pa, en = .returned (seenN e x pa) ∧ Wrote w0 w' mb pb 1073741824 1048576 L L' B tgt ∧ (k = 1 → Below w0.heap.size w0 w')
theorem below_six {w w' : World} {tb : Nat} (h : Below w.heap.size w w') (hb : w.heap.size ≤ tb) (v0 v1 v2 v3 v4 v5 : Value) : Below w.heap.size w ((((((w'.setCell ⟨tb, 0, none⟩ v0).setCell ⟨tb, 1, none⟩ v1).setCell ⟨tb, 2, none⟩ v2).setCell ⟨tb, 3, none⟩ v3).setCell ⟨tb, 4, none⟩ v4).setCell ⟨tb, 5, none⟩ v5) :=
 (((((h.setCell hb _).setCell hb _).setCell hb _).setCell hb _).setCell hb _).setCell hb _
structure DIn (w0 W : World) (mb pb rb ab tb hb : Nat) (L : List Pg) (B : Nat) (k g line ipa size x root : Int) (hit : HitV) : Prop where
 below : Below w0.heap.size w0 W
 mem : MemP w0 mb pb 1073741824 1048576 L
 lo : ∀ b ∈ memBlks mb pb L, B ≤ b
 hB : B ≤ w0.heap.size
 acc : AccAt W ab k g line ipa size x root
 seen : SeenAt W tb 0 0 0
 hit : W.heap[hb]? = some (.cells #[.int .u64 hit.pa, .int .i64 hit.perm, .int .i64 hit.mem, .int .i64 hit.level] 193 (0, 0))
 run : w0.cell? ⟨rb, 0, none⟩ = some (.pointer (some ⟨mb, 0, none⟩))
 rlt : rb < w0.heap.size
 rout : rb ∉ memBlks mb pb L
 la : w0.heap.size ≤ ab
 lt : w0.heap.size ≤ tb
 lh : w0.heap.size ≤ hb
 nt : tb ≠ ab ∧ tb ≠ hb
theorem DIn.stay {w0 W : World} {mb pb rb ab tb hb : Nat} {L : List Pg} {B : Nat} {k g line ipa size x root : Int} {hit : HitV} (h : DIn w0 W mb pb rb ab tb hb L B k g line ipa size x root hit) : Wrote w0 W mb pb 1073741824 1048576 L L B (L.map Pg.ab) := Wrote.stay h.mem h.below h.hB
theorem DIn.off {w0 W : World} {mb pb rb ab tb hb : Nat} {L : List Pg} {B : Nat} {k g line ipa size x root : Int} {hit : HitV} (h : DIn w0 W mb pb rb ab tb hb L B k g line ipa size x root hit) {b : Nat} (hb' : w0.heap.size ≤ b) : b ∉ memBlks mb pb L := fun e => by have := h.mem.lt b e; omega
theorem DIn.hits {w0 W : World} {mb pb rb ab tb hb : Nat} {L : List Pg} {B : Nat} {k g line ipa size x root : Int} {hit : HitV} (h : DIn w0 W mb pb rb ab tb hb L B k g line ipa size x root hit) : W.cell? ⟨hb, 0, none⟩ = some (.int .u64 hit.pa) ∧ W.cell? ⟨hb, 1, none⟩ = some (.int .i64 hit.perm) ∧ W.cell? ⟨hb, 2, none⟩ = some (.int .i64 hit.mem) := by
 have := h.hit
 refine ⟨?_, ?_, ?_⟩ <;> simp [World.cell?, this]
theorem Wrote.told {w0 W : World} {mb pb B : Nat} {s z : Int} {L L' : List Pg} {tgt : PG} (h : Wrote w0 W mb pb s z L L' B tgt) (hB : B ≤ w0.heap.size) {tb : Nat} (h1 : w0.heap.size ≤ tb) (h2 : tb ∉ memBlks mb pb L') (v0 v1 v2 v3 v4 v5 : Value) :
  Wrote w0 ((((((W.setCell ⟨tb, 0, none⟩ v0).setCell ⟨tb, 1, none⟩ v1).setCell ⟨tb, 2, none⟩ v2).setCell ⟨tb, 3, none⟩ v3).setCell ⟨tb, 4, none⟩ v4).setCell ⟨tb, 5, none⟩ v5) mb pb s z L L' B tgt :=
 (((((h.set hB h1 h2 0 v0).set hB h1 h2 1 v1).set hB h1 h2 2 v2).set hB h1 h2 3 v3).set hB h1 h2 4 v4).set hB h1 h2 5 v5
set_option maxRecDepth 100000 in
set_option maxHeartbeats 4000000 in
theorem do_e {w0 W : World} {mb pb rb ab tb hb : Nat} {L : List Pg} {B : Nat} {g line ipa size x root : Int} {k : Int} {hit : HitV} (h : DIn w0 W mb pb rb ab tb hb L B k g line ipa size x root hit) (e : Int) (he : e ≠ 0) (u1 u2 u7 u8 u9 u10 u11 u12 u13 u14 u15 u16 u17 u18 u19 u20 u21 u22 u23 u24 u25 u26 u27 u28 u29 u30 u31 u32 u33 u34 u35 u36 u37 u38 u39 u40 u41 u42 u43 u44 u45 u46 u47 u48 u49 u50 u51 u52 u53 u54 u55 u56 u57 u58 u59 u60 u61 u62 u63 u64 u65 u66 u67 u68 u69 u70 u71 u72 u73 u74 u75 u76 u77 u78 u79 u80 u81 u82 u83 u84 u85 u86 u87 u88 u89 u90 u91 u92 u93 u94 u95 u96 u97 u98 u99 u100 u101 u102 : Value) :
  (tailC 3 (Tryz.f58.body.getD .skip)).wp Tryz.prog (bodyPost Tryz.prog Tryz.f58 (DPost w0 mb pb L B k e 0 (L.map Pg.ab))) { tmps := List.toArray (.pointer (some ⟨rb, 0, none⟩) :: u1 :: u2 :: .pointer (some ⟨ab, 0, none⟩) :: .pointer (some ⟨tb, 0, none⟩) :: .pointer (some ⟨hb, 0, none⟩) :: .int .i64 e :: u7 :: u8 :: u9 :: u10 :: u11 :: u12 :: u13 :: u14 :: u15 :: u16 :: u17 :: u18 :: u19 :: u20 :: u21 :: u22 :: u23 :: u24 :: u25 :: u26 :: u27 :: u28 :: u29 :: u30 :: u31 :: u32 :: u33 :: u34 :: u35 :: u36 :: u37 :: u38 :: u39 :: u40 :: u41 :: u42 :: u43 :: u44 :: u45 :: u46 :: u47 :: u48 :: u49 :: u50 :: u51 :: u52 :: u53 :: u54 :: u55 :: u56 :: u57 :: u58 :: u59 :: u60 :: u61 :: u62 :: u63 :: u64 :: u65 :: u66 :: u67 :: u68 :: u69 :: u70 :: u71 :: u72 :: u73 :: u74 :: u75 :: u76 :: u77 :: u78 :: u79 :: u80 :: u81 :: u82 :: u83 :: u84 :: u85 :: u86 :: u87 :: u88 :: u89 :: u90 :: u91 :: u92 :: u93 :: u94 :: u95 :: u96 :: u97 :: u98 :: u99 :: u100 :: u101 :: u102 :: []), defers := [] } W := by
 have he0 : (e != 0) = true := by simpa using he
 have hst := h.stay
 conv => arg 2; whnf
 go_wp2_with fail
 refine (failed_any _ _).mono ?_; rintro e1 w1 ⟨rfl, hb1⟩
 have hs1 := h.seen.later hb1
 have hst1 := (hst.late hb1 h.hB).told h.hB h.lt (h.off h.lt) (.int .i64 e) (.int .u64 0) (.int .u64 0) (.bool false) (.int .i64 0) (.int .i64 0)
 obtain ⟨c0, c1, c2, c3, c4, c5⟩ := hs1.cells
 have hf := hs1.frozen
 have f0 := hf 0
 have f1 := hf 1
 have f2 := hf 2
 have f3 := hf 3
 have f4 := hf 4
 have f5 := hf 5
 clear hf
 go_wp2_with fail
 refine bodyPost_ret (v := seenN e 0 0) (by simp [results, Tryz.results58, go_sem, seenN, c0, c1, c2, c3, c4, c5]) rfl ?_
 exact ⟨L, 0, rfl, hst1, fun _ => below_six (bthen h.below hb1) h.lt _ _ _ _ _ _⟩
set_option maxRecDepth 100000 in
set_option maxHeartbeats 4000000 in
theorem do_no {w0 W : World} {mb pb rb ab tb hb : Nat} {L : List Pg} {B : Nat} {g line ipa size x root : Int} {pa lv : Int} (h : DIn w0 W mb pb rb ab tb hb L B 2 g line ipa size x root ⟨pa, 1, 0, lv⟩) (u1 u2 u7 u8 u9 u10 u11 u12 u13 u14 u15 u16 u17 u18 u19 u20 u21 u22 u23 u24 u25 u26 u27 u28 u29 u30 u31 u32 u33 u34 u35 u36 u37 u38 u39 u40 u41 u42 u43 u44 u45 u46 u47 u48 u49 u50 u51 u52 u53 u54 u55 u56 u57 u58 u59 u60 u61 u62 u63 u64 u65 u66 u67 u68 u69 u70 u71 u72 u73 u74 u75 u76 u77 u78 u79 u80 u81 u82 u83 u84 u85 u86 u87 u88 u89 u90 u91 u92 u93 u94 u95 u96 u97 u98 u99 u100 u101 u102 : Value) :
  (tailC 3 (Tryz.f58.body.getD .skip)).wp Tryz.prog (bodyPost Tryz.prog Tryz.f58 (DPost w0 mb pb L B 2 300 0 (L.map Pg.ab))) { tmps := List.toArray (.pointer (some ⟨rb, 0, none⟩) :: u1 :: u2 :: .pointer (some ⟨ab, 0, none⟩) :: .pointer (some ⟨tb, 0, none⟩) :: .pointer (some ⟨hb, 0, none⟩) :: .int .i64 0 :: u7 :: u8 :: u9 :: u10 :: u11 :: u12 :: u13 :: u14 :: u15 :: u16 :: u17 :: u18 :: u19 :: u20 :: u21 :: u22 :: u23 :: u24 :: u25 :: u26 :: u27 :: u28 :: u29 :: u30 :: u31 :: u32 :: u33 :: u34 :: u35 :: u36 :: u37 :: u38 :: u39 :: u40 :: u41 :: u42 :: u43 :: u44 :: u45 :: u46 :: u47 :: u48 :: u49 :: u50 :: u51 :: u52 :: u53 :: u54 :: u55 :: u56 :: u57 :: u58 :: u59 :: u60 :: u61 :: u62 :: u63 :: u64 :: u65 :: u66 :: u67 :: u68 :: u69 :: u70 :: u71 :: u72 :: u73 :: u74 :: u75 :: u76 :: u77 :: u78 :: u79 :: u80 :: u81 :: u82 :: u83 :: u84 :: u85 :: u86 :: u87 :: u88 :: u89 :: u90 :: u91 :: u92 :: u93 :: u94 :: u95 :: u96 :: u97 :: u98 :: u99 :: u100 :: u101 :: u102 :: []), defers := [] } W := by
 have hst := h.stay
 obtain ⟨h0, h1, h2⟩ := h.hits
 obtain ⟨a3, a4, a5, a6, a7, a8⟩ := h.acc.cells
 have hz : bits BinOp.and IntKind.i64 1 2 = 0 := by kernel_rfl
 conv => arg 2; whnf
 go_wp2_with fail
 refine (failed_any _ _).mono ?_; rintro e1 w1 ⟨rfl, hb1⟩
 have hs1 := h.seen.later hb1
 have hst1 := (hst.late hb1 h.hB).told h.hB h.lt (h.off h.lt) (.int .i64 300) (.int .u64 0) (.int .u64 0) (.bool false) (.int .i64 0) (.int .i64 0)
 obtain ⟨c0, c1, c2, c3, c4, c5⟩ := hs1.cells
 have hf := hs1.frozen
 have f0 := hf 0
 have f1 := hf 1
 have f2 := hf 2
 have f3 := hf 3
 have f4 := hf 4
 have f5 := hf 5
 clear hf
 go_wp2_with fail
 refine bodyPost_ret (v := seenN 300 0 0) (by simp [results, Tryz.results58, go_sem, seenN, c0, c1, c2, c3, c4, c5]) rfl ?_
 exact ⟨L, 0, rfl, hst1, fun e => absurd e (by decide)⟩
set_option maxRecDepth 100000 in
set_option maxHeartbeats 4000000 in
theorem do_r {w0 W : World} {mb pb rb ab tb hb : Nat} {L : List Pg} {B : Nat} {g line ipa size x root : Int} {pa lv perm : Int} (h : DIn w0 W mb pb rb ab tb hb L B 1 g line ipa size x root ⟨pa, perm, 0, lv⟩) (hp : perm = 1 ∨ perm = 3) (hsz : size = 1 ∨ size = 8) (hpa : W64 pa) (hpg : pa % 4096 + size ≤ 4096) (hq : askV 1073741824 1048576 pa size = 0) (u1 u2 u7 u8 u9 u10 u11 u12 u13 u14 u15 u16 u17 u18 u19 u20 u21 u22 u23 u24 u25 u26 u27 u28 u29 u30 u31 u32 u33 u34 u35 u36 u37 u38 u39 u40 u41 u42 u43 u44 u45 u46 u47 u48 u49 u50 u51 u52 u53 u54 u55 u56 u57 u58 u59 u60 u61 u62 u63 u64 u65 u66 u67 u68 u69 u70 u71 u72 u73 u74 u75 u76 u77 u78 u79 u80 u81 u82 u83 u84 u85 u86 u87 u88 u89 u90 u91 u92 u93 u94 u95 u96 u97 u98 u99 u100 u101 u102 : Value) :
  (tailC 3 (Tryz.f58.body.getD .skip)).wp Tryz.prog (bodyPost Tryz.prog Tryz.f58 (DPost w0 mb pb L B 1 0 (le (rdB (L.map Pg.ab) pa size.toNat)) (L.map Pg.ab))) { tmps := List.toArray (.pointer (some ⟨rb, 0, none⟩) :: u1 :: u2 :: .pointer (some ⟨ab, 0, none⟩) :: .pointer (some ⟨tb, 0, none⟩) :: .pointer (some ⟨hb, 0, none⟩) :: .int .i64 0 :: u7 :: u8 :: u9 :: u10 :: u11 :: u12 :: u13 :: u14 :: u15 :: u16 :: u17 :: u18 :: u19 :: u20 :: u21 :: u22 :: u23 :: u24 :: u25 :: u26 :: u27 :: u28 :: u29 :: u30 :: u31 :: u32 :: u33 :: u34 :: u35 :: u36 :: u37 :: u38 :: u39 :: u40 :: u41 :: u42 :: u43 :: u44 :: u45 :: u46 :: u47 :: u48 :: u49 :: u50 :: u51 :: u52 :: u53 :: u54 :: u55 :: u56 :: u57 :: u58 :: u59 :: u60 :: u61 :: u62 :: u63 :: u64 :: u65 :: u66 :: u67 :: u68 :: u69 :: u70 :: u71 :: u72 :: u73 :: u74 :: u75 :: u76 :: u77 :: u78 :: u79 :: u80 :: u81 :: u82 :: u83 :: u84 :: u85 :: u86 :: u87 :: u88 :: u89 :: u90 :: u91 :: u92 :: u93 :: u94 :: u95 :: u96 :: u97 :: u98 :: u99 :: u100 :: u101 :: u102 :: []), defers := [] } W := by
 have hst := h.stay
 obtain ⟨h0, h1, h2⟩ := h.hits
 obtain ⟨a3, a4, a5, a6, a7, a8⟩ := h.acc.cells
 have hz : bits BinOp.and IntKind.i64 perm 1 = 1 := by rcases hp with rfl | rfl <;> kernel_rfl
 have hz1 : (bits BinOp.and IntKind.i64 perm 1 == 0) = false := by rw [hz]; rfl
 clear hz
 obtain ⟨W7, hW7⟩ : ∃ W7, W7 = W.alloc (.cells #[.int .i64 0, .int .u64 0, .int .u64 pa, .bool false, .int .i64 0, .int .i64 0] 45) := ⟨_, rfl⟩
 have hb7 : Below W.heap.size W W7 := by rw [hW7]; exact bone _ _
 have hs7 : SeenAt W7 W.heap.size 0 0 pa := by rw [hW7]; exact World.alloc_heap_new _ _
 have hrb := (h.below.cell (p := ⟨rb, _, none⟩) h.rlt).trans h.run
 have r0 := cell_lt hb7 hrb (Nat.lt_of_lt_of_le h.rlt h.below.size)
 have q0 := cell_lt hb7 h0 (Array.getElem?_eq_some_iff.1 h.hit).1
 have q4 := cell_lt hb7 a4 h.acc.lt
 have q2 := cell_lt hb7 h2 (Array.getElem?_eq_some_iff.1 h.hit).1
 have q8 := cell_lt hb7 a8 h.acc.lt
 have hc8 : IntKind.u64.wrap size = ((size.toNat : Nat) : Int) := by rcases hsz with rfl | rfl <;> rfl
 have hread := fun W h => readIn_any mb pb 1073741824 1048576 pa size.toNat L W h hpa (by omega) (by omega) (by rw [show ((size.toNat : Nat) : Int) = size by omega]; exact hq)
 have hnum := fun v W hv => number_any v (rdB (L.map Pg.ab) pa size.toNat) W hv (rdB_byte h.mem.ok pa _) (by rw [rdB_len]; omega)
 have hrl := rdB_len (L.map Pg.ab) pa size.toNat
 generalize rdB (L.map Pg.ab) pa size.toNat = D at *
 have hn8 : size.toNat ≤ 8 := by rcases hsz with rfl | rfl <;> decide
 generalize size.toNat = n at *
 have hm7 := (hst.late hb7 h.hB).mem
 have hrz : rb < W7.heap.size := by have := h.rlt; have := h.below.size; have := hb7.size; omega
 have haz : ab < W7.heap.size := by have := h.acc.lt; have := hb7.size; omega
 have hhz : hb < W7.heap.size := by have := (Array.getElem?_eq_some_iff.1 h.hit).1; have := hb7.size; omega
 rw [hW7] at q2 q8
 conv => arg 2; whnf
 go_wp2_with fail
 rw [← hW7]
 clear q2 q8 hW7 h0 h1 h2 a3 a4 a5 a6 a7 a8
 refine region_ord (fun z => ∃ X : Later W7.heap.size W7, z = X.x) [([0, 1, 2, 3, 4, 5, 6, 7, 8, 9], 10)] [11, 12, 13, 14, 15] (by kernel_rfl) (by kernel_rfl) (by kernel_rfl) (by kernel_rfl) ⟨⟨_, (Below.refl _ _).drew⟩, rfl⟩ ?_
 simp only [List.map_cons, List.map_nil, List.filterMap_cons, List.filterMap_nil, List.getElem?_cons_succ, List.getElem?_cons_zero]
 have hb10 : Below W7.heap.size W7 W7.drew := (Below.refl _ _).drew
 have hm10 := hm7.below hb10 (Nat.le_refl _)
 have y0 := later_cell (B := W7.heap.size) r0 hrz
 have y1 := later_cell (B := W7.heap.size) q0 hhz
 have y2 := later_cell (B := W7.heap.size) q4 haz
 generalize W7.drew = w10 at *
 refine ord_step ?_
 repeat (change wpQuiet _ _ _ _ (List.cons _ _) _; go_big_quiet_step (fail))
 refine wpQuiet_nil ?_
 intro Q₁ hQ₁
 go_wp2_with fail
 refine (hread _ hm10).mono ?_; rintro e1 w11 ⟨b, rfl, hbb, hb11, hrow⟩
 have hB11 := bthen hb10 hb11
 have hrowB : ∀ W, Below w11.heap.size w11 W → RowB W (.slice (some ⟨b, 0, none⟩) n n) D := fun W hW => by
  have hbl := (Array.getElem?_eq_some_iff.1 hrow).1
  refine ⟨some ⟨b, 0, none⟩, n, by rw [hrl], by omega, by unfold maxLen; omega, fun _ => ⟨b, 0, rfl, Nat.lt_of_lt_of_le hbl hW.size, fun i hi => ?_⟩⟩
  rw [Nat.zero_add]
  exact bytes_cell ((hW.block b hbl).trans hrow) hi
 have hs11 := hs7.later hB11
 have ht11 := (h.seen.later hb7).later hB11
 clear hread hm10 hb10 hm7
 go_wp2_with fail
 refine hQ₁ _ _ ⟨⟨_, hB11⟩, rfl⟩ ?_
 clear hQ₁ Q₁
 refine ord_last ?_
 repeat (change wpQuiet _ _ _ _ (List.cons _ _) _; go_big_quiet_step (fail))
 refine wpQuiet_nil ?_
 clear y0 y1 y2
 go_wp2_with fail
 refine (hnum _ _ (hrowB _ (Below.refl _ _))).mono ?_; rintro e1 w12 ⟨rfl, rfl⟩
 obtain ⟨s0, s1, s2, s3, s4, s5⟩ := hs11.cells
 have hsf := hs11.frozen 1
 have hgz : W.heap.size < w11.heap.size := hs11.lt
 have hnx : tb ≠ W.heap.size := by have := h.seen.lt; omega
 obtain ⟨c0, c1, c2, c3, c4, c5⟩ := ht11.cells
 have hf := ht11.frozen
 have f0 := hf 0
 have f1 := hf 1
 have f2 := hf 2
 have f3 := hf 3
 have f4 := hf 4
 have f5 := hf 5
 clear hf hnum hrowB
 have hst11 := (((hst.late hb7 h.hB).late hB11 h.hB).set h.hB h.below.size (h.off h.below.size) 1 (.int .u64 (le D))).told h.hB h.lt (h.off h.lt) (.int .i64 0) (.int .u64 (le D)) (.int .u64 pa) (.bool false) (.int .i64 0) (.int .i64 0)
 go_wp2_with fail
 refine bodyPost_ret (v := seenN 0 (le D) pa) (by simp [results, Tryz.results58, go_sem, seenN, c0, c1, c2, c3, c4, c5]) rfl ?_
 exact ⟨L, pa, rfl, hst11, fun _ => below_six ((bthen (bthen h.below hb7) hB11).setCell h.below.size _) h.lt _ _ _ _ _ _⟩
set_option maxRecDepth 100000 in
set_option maxHeartbeats 4000000 in
theorem do_w {w0 W : World} {mb pb rb ab tb hb : Nat} {L : List Pg} {B : Nat} {g line ipa size x root : Int} {pa lv : Int} (h : DIn w0 W mb pb rb ab tb hb L B 2 g line ipa size x root ⟨pa, 3, 0, lv⟩) (hx : W64 x) (hsz : size = 1 ∨ size = 8) (hpa : W64 pa) (hq : askV 1073741824 1048576 pa size = 0) (u1 u2 u7 u8 u9 u10 u11 u12 u13 u14 u15 u16 u17 u18 u19 u20 u21 u22 u23 u24 u25 u26 u27 u28 u29 u30 u31 u32 u33 u34 u35 u36 u37 u38 u39 u40 u41 u42 u43 u44 u45 u46 u47 u48 u49 u50 u51 u52 u53 u54 u55 u56 u57 u58 u59 u60 u61 u62 u63 u64 u65 u66 u67 u68 u69 u70 u71 u72 u73 u74 u75 u76 u77 u78 u79 u80 u81 u82 u83 u84 u85 u86 u87 u88 u89 u90 u91 u92 u93 u94 u95 u96 u97 u98 u99 u100 u101 u102 : Value) :
  (tailC 3 (Tryz.f58.body.getD .skip)).wp Tryz.prog (bodyPost Tryz.prog Tryz.f58 (DPost w0 mb pb L B 2 0 0 (writeV (L.map Pg.ab) pa ((putB x).take size.toNat)))) { tmps := List.toArray (.pointer (some ⟨rb, 0, none⟩) :: u1 :: u2 :: .pointer (some ⟨ab, 0, none⟩) :: .pointer (some ⟨tb, 0, none⟩) :: .pointer (some ⟨hb, 0, none⟩) :: .int .i64 0 :: u7 :: u8 :: u9 :: u10 :: u11 :: u12 :: u13 :: u14 :: u15 :: u16 :: u17 :: u18 :: u19 :: u20 :: u21 :: u22 :: u23 :: u24 :: u25 :: u26 :: u27 :: u28 :: u29 :: u30 :: u31 :: u32 :: u33 :: u34 :: u35 :: u36 :: u37 :: u38 :: u39 :: u40 :: u41 :: u42 :: u43 :: u44 :: u45 :: u46 :: u47 :: u48 :: u49 :: u50 :: u51 :: u52 :: u53 :: u54 :: u55 :: u56 :: u57 :: u58 :: u59 :: u60 :: u61 :: u62 :: u63 :: u64 :: u65 :: u66 :: u67 :: u68 :: u69 :: u70 :: u71 :: u72 :: u73 :: u74 :: u75 :: u76 :: u77 :: u78 :: u79 :: u80 :: u81 :: u82 :: u83 :: u84 :: u85 :: u86 :: u87 :: u88 :: u89 :: u90 :: u91 :: u92 :: u93 :: u94 :: u95 :: u96 :: u97 :: u98 :: u99 :: u100 :: u101 :: u102 :: []), defers := [] } W := by
 have hst := h.stay
 obtain ⟨h0, h1, h2⟩ := h.hits
 obtain ⟨a3, a4, a5, a6, a7, a8⟩ := h.acc.cells
 have hz : bits BinOp.and IntKind.i64 3 2 = 2 := by kernel_rfl
 obtain ⟨W7, hW7⟩ : ∃ W7, W7 = W.alloc (.cells #[.int .i64 0, .int .u64 0, .int .u64 pa, .bool false, .int .i64 0, .int .i64 0] 45) := ⟨_, rfl⟩
 have hb7 : Below W.heap.size W W7 := by rw [hW7]; exact bone _ _
 have hs7 : SeenAt W7 W.heap.size 0 0 pa := by rw [hW7]; exact World.alloc_heap_new _ _
 have hrb := (h.below.cell (p := ⟨rb, _, none⟩) h.rlt).trans h.run
 have r0 := cell_lt hb7 hrb (Nat.lt_of_lt_of_le h.rlt h.below.size)
 have q0 := cell_lt hb7 h0 (Array.getElem?_eq_some_iff.1 h.hit).1
 have q4 := cell_lt hb7 a4 h.acc.lt
 have q5 := cell_lt hb7 a5 h.acc.lt
 have q2 := cell_lt hb7 h2 (Array.getElem?_eq_some_iff.1 h.hit).1
 have q8 := cell_lt hb7 a8 h.acc.lt
 have hn8 : size.toNat ≤ 8 := by rcases hsz with rfl | rfl <;> decide
 have hsn : size = (size.toNat : Int) := by rcases hsz with rfl | rfl <;> rfl
 have hby := fun W => bytesN_any x size.toNat W hx hn8
 rw [← hsn] at hby
 have hDl : ((putB x).take size.toNat).length = size.toNat := by rw [List.length_take, putB_len]; omega
 have hDb : ∀ c ∈ (putB x).take size.toNat, 0 ≤ c ∧ c < 256 := fun c hc => putB_byte x c (List.mem_of_mem_take hc)
 generalize (putB x).take size.toNat = D at *
 have hq' : askV 1073741824 1048576 pa D.length = 0 := by rw [hDl, ← hsn]; exact hq
 rw [← hDl] at hby
 have hwr := fun (b : Nat) (W : World) hm hx => write_any mb pb 1073741824 1048576 pa L B b 0 D.length (some ⟨b, 0, none⟩) D W hm hpa h.lo hx hDb (by omega) (by omega)
 rw [hq'] at hwr
 simp only [if_true] at hwr
 clear hsn hq'
 replace hDl := Lib.hid hDl
 have hm7 := (hst.late hb7 h.hB).mem
 have hrz : rb < W7.heap.size := by have := h.rlt; have := h.below.size; have := hb7.size; omega
 have haz : ab < W7.heap.size := by have := h.acc.lt; have := hb7.size; omega
 have hhz : hb < W7.heap.size := by have := (Array.getElem?_eq_some_iff.1 h.hit).1; have := hb7.size; omega
 have hst7 := hst.late hb7 h.hB
 have ht7 := h.seen.later hb7
 rw [hW7] at q2 q8
 conv => arg 2; whnf
 go_wp2_with fail
 rw [← hW7]
 clear q2 q8 hW7 h0 h1 h2 a3 a4 a5 a6 a7 a8
 refine region_ord (fun z => ∃ X : HeldF (fun b => b = rb ∨ b = ab ∨ b = hb) W7, z = X.x) [([0, 1, 2, 3, 4, 5, 6, 7, 8, 9, 10, 11], 12), ([], 13)] [14] (by kernel_rfl) (by kernel_rfl) (by kernel_rfl) (by kernel_rfl) ⟨⟨W7.drew, fun _ _ => rfl⟩, rfl⟩ ?_
 simp only [List.map_cons, List.map_nil, List.filterMap_cons, List.filterMap_nil, List.getElem?_cons_succ, List.getElem?_cons_zero]
 have hb10 : Below W7.heap.size W7 W7.drew := (Below.refl _ _).drew
 have hcc : ∀ {b o : Nat} {v : Value}, (b = rb ∨ b = ab ∨ b = hb) → W7.cell? ⟨b, o, none⟩ = some v → ∀ X : HeldF (fun b => b = rb ∨ b = ab ∨ b = hb) W7, X.x.cell? ⟨b, o, none⟩ = some v := fun hb' hc X => by rw [← hc]; simp only [World.cell?]; rw [X.h _ hb']
 have y0 := hcc (.inl rfl) r0
 have y1 := hcc (.inr (.inr rfl)) q0
 have y2 := hcc (.inr (.inl rfl)) q4
 have y3 := hcc (.inr (.inl rfl)) q5
 clear hcc
 generalize W7.drew = w10 at *
 refine ord_step ?_
 repeat (change wpQuiet _ _ _ _ (List.cons _ _) _; go_big_quiet_step (fail))
 refine wpQuiet_nil ?_
 intro Q₁ hQ₁
 go_wp2_with fail
 refine (hby w10).mono ?_; rintro e1 w11 ⟨rfl, hb11, hrow⟩
 have hB11 := bthen hb10 hb11
 have hz10 : W7.heap.size ≤ w10.heap.size := hb10.size
 have hz11 := (Array.getElem?_eq_some_iff.1 hrow).1
 have hm11 := hm7.below hB11 (Nat.le_refl _)
 have hoff := h.off (b := w10.heap.size) (by have := h.below.size; have := hb7.size; omega)
 have hw11 := hwr w10.heap.size w11 hm11 (fun _ => ⟨trivial, hz11, hoff, fun i hi => by rw [Nat.zero_add]; exact bytes_cell hrow hi⟩)
 clear hwr hby
 go_wp2_with fail
 refine hQ₁ _ _ ⟨⟨w11, fun b hb' => hB11.block b (by rcases hb' with rfl | rfl | rfl <;> assumption)⟩, rfl⟩ ?_
 clear hQ₁ Q₁
 refine ord_step ?_
 refine wpQuiet_nil ?_
 intro Q₁ hQ₁
 go_wp2_with fail
 refine hw11.mono ?_; rintro e1 w12 ⟨rfl, L', hwt⟩
 have hst12 := (hst7.late hB11 h.hB).trans hwt
 have hsz12 := hwt.off.below.size
 have hsz11 := hB11.size
 have hkeep : ∀ b, w0.heap.size ≤ b → b < W7.heap.size → w12.heap[b]? = W7.heap[b]? := fun b h1 h2 => (hwt.off.rest b (by omega) (h.off h1)).trans (hB11.block b h2)
 clear hw11
 go_wp2_with fail
 refine hQ₁ _ _ ⟨⟨w12, fun b hb' => ?_⟩, rfl⟩ ?_
 ·rcases hb' with rfl | rfl | rfl
  ·exact (hwt.off.rest _ (by omega) h.rout).trans (hB11.block _ hrz)
  ·exact hkeep _ h.la haz
  ·exact hkeep _ h.lh hhz
 clear hQ₁ Q₁
 refine ord_last ?_
 repeat (change wpQuiet _ _ _ _ (List.cons _ _) _; go_big_quiet_step (fail))
 refine wpQuiet_nil ?_
 clear y0 y1 y2 y3
 have hs12 : SeenAt w12 W.heap.size 0 0 pa := (hkeep _ h.below.size hs7.lt).trans hs7
 have ht12 : SeenAt w12 tb 0 0 0 := (hkeep _ h.lt (Nat.lt_of_lt_of_le h.seen.lt hb7.size)).trans ht7
 obtain ⟨s0, s1, s2, s3, s4, s5⟩ := hs12.cells
 obtain ⟨c0, c1, c2, c3, c4, c5⟩ := ht12.cells
 have hf := ht12.frozen
 have f0 := hf 0
 have f1 := hf 1
 have f2 := hf 2
 have f3 := hf 3
 have f4 := hf 4
 have f5 := hf 5
 clear hf
 have hnL : tb ∉ memBlks mb pb L' := fun e => (hwt.blks _ e).elim (h.off h.lt) fun e => by have := h.seen.lt; have := hb7.size; omega
 have hstE := hst12.told h.hB h.lt hnL (.int .i64 0) (.int .u64 0) (.int .u64 pa) (.bool false) (.int .i64 0) (.int .i64 0)
 go_wp2_with fail
 refine bodyPost_ret (v := seenN 0 0 pa) (by simp [results, Tryz.results58, go_sem, seenN, c0, c1, c2, c3, c4, c5]) rfl ?_
 exact ⟨L', pa, rfl, hstE, fun e => absurd e (by decide)⟩
end Go.Proofs.YtgihknfoncljbaaGreatDoor
/- The walk of run.do, whole; a guest's access. -/
namespace Go.Proofs.YtgihknfoncljbaaGreatDoor
open Go Go.RowKit Go.Shelf Go.BigFrame Go.Maps
def pmV (p q g : Int) : Int := if g = 0 then p else q
def dvV (p q : Int) (pg : PG) (g k ipa size x : Int) : PG × Int × Int :=
 if ipa % size ≠ 0 then (pg, 1, 0)
 else if InG g ipa then
  (if k = 1 then (pg, 0, le (rdB pg (P0 + (ipa - (65536 + 32768 * g))) size.toNat))
   else if pmV p q g = 3 then (writeV pg (P0 + (ipa - (65536 + 32768 * g))) ((putB x).take size.toNat), 0, 0) else (pg, 300, 0))
 else (pg, if 1099511627776 ≤ ipa then 200 else 201, 0)
structure Mch (W : World) (B mb pb : Nat) (L : List Pg) (p q : Int) : Prop where
 mem : MemP W mb pb 1073741824 1048576 L
 lo : ∀ b ∈ memBlks mb pb L, B ≤ b
 hB : B ≤ W.heap.size
 tab : Tab2 (L.map Pg.ab) p q
 t3 : Tab3 W
theorem Mch.later {W W' : World} {B mb pb : Nat} {L : List Pg} {p q : Int} (h : Mch W B mb pb L p q) (hg : 0 < B) (hb : Below W.heap.size W W') : Mch W' B mb pb L p q :=
 ⟨h.mem.below hb (Nat.le_refl _), h.lo, Nat.le_trans h.hB hb.size, h.tab, h.t3.belowB (hb.mono h.hB) hg⟩
theorem Mch.wrote {W W' : World} {B mb pb : Nat} {L L' : List Pg} {p q : Int} {tgt : PG} (h : Mch W B mb pb L p q) (hg : 0 < B) (hw : Wrote W W' mb pb 1073741824 1048576 L L' B tgt) (ht : Tab2 tgt p q) : Mch W' B mb pb L' p q :=
 ⟨hw.mem, fun b hb => (hw.blks b hb).elim (h.lo b) fun e => Nat.le_trans h.hB e, Nat.le_trans h.hB hw.off.below.size, hw.ab ▸ ht, h.t3.belowB hw.off.below hg⟩
theorem dv_tab {p q : Int} {pg : PG} (h : Tab2 pg p q) {g k ipa size x : Int} (hg : g = 0 ∨ g = 1) (hs : size = 1 ∨ size = 8) : Tab2 (dvV p q pg g k ipa size x).1 p q ∧ ∀ b, b < P0 ∨ P0 + 4096 ≤ b → bt (dvV p q pg g k ipa size x).1 b = bt pg b := by
 unfold dvV
 split
 ·exact ⟨h, fun _ _ => rfl⟩
 ·rename_i hal
  split
  ·rename_i hi
   split
   ·exact ⟨h, fun _ _ => rfl⟩
   ·split
    ·have hl : ((putB x).take size.toNat).length ≤ 8 := by rw [List.length_take, putB_len]; omega
     have hl2 : (((putB x).take size.toNat).length : Int) = size := by rw [List.length_take, putB_len]; rcases hs with rfl | rfl <;> rfl
     have hb : ∀ c ∈ (putB x).take size.toNat, 0 ≤ c ∧ c < 256 := fun c hc => putB_byte x c (List.mem_of_mem_take hc)
     unfold InG at hi
     have hsz : ipa + size ≤ 65536 + 32768 * g + 4096 := by rcases hs with rfl | rfl <;> rcases hg with rfl | rfl <;> omega
     have ha : 0 ≤ P0 + (ipa - (65536 + 32768 * g)) ∧ P0 + (ipa - (65536 + 32768 * g)) + size ≤ P0 + 4096 := by unfold P0; omega
     have hP : P0 + 4096 ≤ 18446744073709551616 := by unfold P0; omega
     have hbt := fun b => bt_write 8 h.ok hl hb ha.1 (by rw [hl2]; omega) b
     have hf : ∀ b, b < P0 ∨ P0 + 4096 ≤ b → bt (writeV pg (P0 + (ipa - (65536 + 32768 * g))) ((putB x).take size.toNat)) b = bt pg b := fun b hb' => by rw [hbt, if_neg (by rw [hl2]; omega)]
     exact ⟨h.keep (PgOk.write 8 h.ok hl hb ha.1 (by rw [hl2]; omega)) fun b hb' => hf b (.inl (by unfold P0; omega)), hf⟩
    ·exact ⟨h, fun _ _ => rfl⟩
  ·exact ⟨h, fun _ _ => rfl⟩
theorem contInt_any (b : Nat) (size : Int) (w : World) (hs : size = 1 ∨ size = 8) (hc : w.heap[b]? = some (.cells #[.int .i64 1, .int .i64 2, .int .i64 4, .int .i64 8] 3 (0, 0))) :
  Calls Tryz.prog 90 #[.slice (some ⟨b, 0, none⟩) 4 4, .int .i64 size] w fun e w' => e = .returned (.bool true) ∧ w' = w := by
 have h := AnyG.slices_Contains_int Tryz.contInt b 0 4 4 [1, 2, 4, 8] size w (by simp) (by omega) (fun j hj => by
  have : j = 0 ∨ j = 1 ∨ j = 2 ∨ j = 3 := by simp at hj; omega
  rcases this with rfl | rfl | rfl | rfl <;> simp [World.cell?, hc])
 rcases hs with rfl | rfl <;> exact h
set_option maxRecDepth 100000 in
set_option maxHeartbeats 4000000 in
theorem do_any (rb mb pb : Nat) (L : List Pg) (B : Nat) (p q g k line ipa size x : Int) (w : World) (hm : Mch w B mb pb L p q) (hgB : 0 < B) (hp : p = 1 ∨ p = 3) (hq : q = 1 ∨ q = 3) (hg : g = 0 ∨ g = 1) (hk : k = 1 ∨ k = 2) (hs : size = 1 ∨ size = 8) (hi : W64 ipa) (hx : W64 x)
  (hr : w.cell? ⟨rb, 0, none⟩ = some (.pointer (some ⟨mb, 0, none⟩))) (hrl : rb < w.heap.size) (hro : rb ∉ memBlks mb pb L) :
  Calls Tryz.prog 58 #[.pointer (some ⟨rb, 0, none⟩), .agg #[.int .i64 k, .int .i64 g, .int .i64 line, .int .u64 ipa, .int .i64 size, .int .u64 x, .int .u64 (rootN g), .int .i64 k, .bool (decide (k = 2))]] w
   (DPost w mb pb L B k (dvV p q (L.map Pg.ab) g k ipa size x).2.1 (dvV p q (L.map Pg.ab) g k ipa size x).2.2 (dvV p q (L.map Pg.ab) g k ipa size x).1) := by
 have hi0 := hi.1
 have hi1 := hi.2
 obtain ⟨W1, hW1⟩ : ∃ W1, W1 = w.alloc (.cells #[.int .i64 k, .int .i64 g, .int .i64 line, .int .u64 ipa, .int .i64 size, .int .u64 x, .int .u64 (rootN g), .int .i64 k, .bool (decide (k = 2))] 154) := ⟨_, rfl⟩
 obtain ⟨W2, hW2⟩ : ∃ W2, W2 = W1.alloc (.cells #[.int .i64 0, .int .u64 0, .int .u64 0, .bool false, .int .i64 0, .int .i64 0] 45) := ⟨_, rfl⟩
 obtain ⟨W3, hW3⟩ : ∃ W3, W3 = W2.alloc (.cells #[.int .i64 1, .int .i64 2, .int .i64 4, .int .i64 8] 3) := ⟨_, rfl⟩
 have hb1 : Below w.heap.size w W1 := by rw [hW1]; exact bone _ _
 have hb2 : Below W1.heap.size W1 W2 := by rw [hW2]; exact bone _ _
 have hb3 : Below W2.heap.size W2 W3 := by rw [hW3]; exact bone _ _
 have z1 : W1.heap.size = w.heap.size + 1 := by rw [hW1]; simp
 have z2 : W2.heap.size = w.heap.size + 2 := by rw [hW2]; simp [z1]
 have ac1 : AccAt W1 w.heap.size k g line ipa size x (rootN g) := by rw [hW1]; exact World.alloc_heap_new _ _
 have sn2 : SeenAt W2 (w.heap.size + 1) 0 0 0 := by rw [hW2, ← z1]; exact World.alloc_heap_new _ _
 have in3 : W3.heap[w.heap.size + 2]? = some (.cells #[.int .i64 1, .int .i64 2, .int .i64 4, .int .i64 8] 3 (0, 0)) := by rw [hW3, ← z2]; exact World.alloc_heap_new _ _
 have ac3 := (ac1.later hb2).later hb3
 have sn3 := sn2.later hb3
 have hb03 : Below w.heap.size w W3 := bthen (bthen hb1 hb2) hb3
 have hct := contInt_any (w.heap.size + 2) size W3 hs in3
 obtain ⟨a3, a4, a5, a6, a7, a8⟩ := ac3.cells
 have a4' := (ac1.later hb2).cells.2.1
 have e1 : W2 = ((w.alloc (.cells #[.int .i64 k, .int .i64 g, .int .i64 line, .int .u64 ipa, .int .i64 size, .int .u64 x, .int .u64 (rootN g), .int .i64 k, .bool (decide (k = 2))] 154)).alloc (.cells #[.int .i64 0, .int .u64 0, .int .u64 0, .bool false, .int .i64 0, .int .i64 0] 45)) := by rw [hW2, hW1]
 have hsz0 : (size == 0) = false := by rcases hs with rfl | rfl <;> rfl
 have hws : IntKind.u64.wrap size = size := by rcases hs with rfl | rfl <;> rfl
 generalize hroot : rootN g = root at *
 generalize hbo : decide (k = 2) = bo at *
 have hin4 := withinB_of (c := 1073741824) (m := 1048576) (a := P0 + (ipa - (65536 + 32768 * g))) (n := size) (by rcases hs with rfl | rfl <;> omega)
 by_cases hal : ipa % size = 0
 ·have hwk := hm.tab.walk hp hq hg hi0
  have hwa := fun W h hT => walk_any mb pb 1073741824 1048576 root ipa L W h hT (by rw [← hroot]; unfold rootN W64; rcases hg with rfl | rfl <;> omega) hi
  have hm3 := hm.later hgB hb03
  have hne2 : (ipa % size != 0) = false := by simpa using hal
  have hnext : ∃ hit e, walkV (wordV 1073741824 1048576 (L.map Pg.ab)) root ipa = (hit, e) ∧ ∀ (W : World) (tb hb : Nat), DIn w W mb pb rb w.heap.size tb hb L B k g line ipa size x root hit → ∀ (u1 u2 u7 u8 u9 u10 u11 u12 u13 u14 u15 u16 u17 u18 u19 u20 u21 u22 u23 u24 u25 u26 u27 u28 u29 u30 u31 u32 u33 u34 u35 u36 u37 u38 u39 u40 u41 u42 u43 u44 u45 u46 u47 u48 u49 u50 u51 u52 u53 u54 u55 u56 u57 u58 u59 u60 u61 u62 u63 u64 u65 u66 u67 u68 u69 u70 u71 u72 u73 u74 u75 u76 u77 u78 u79 u80 u81 u82 u83 u84 u85 u86 u87 u88 u89 u90 u91 u92 u93 u94 u95 u96 u97 u98 u99 u100 u101 u102 : Value),
    (tailC 3 (Tryz.f58.body.getD .skip)).wp Tryz.prog (bodyPost Tryz.prog Tryz.f58 (DPost w mb pb L B k (dvV p q (L.map Pg.ab) g k ipa size x).2.1 (dvV p q (L.map Pg.ab) g k ipa size x).2.2 (dvV p q (L.map Pg.ab) g k ipa size x).1)) { tmps := List.toArray (.pointer (some ⟨rb, 0, none⟩) :: u1 :: u2 :: .pointer (some ⟨w.heap.size, 0, none⟩) :: .pointer (some ⟨tb, 0, none⟩) :: .pointer (some ⟨hb, 0, none⟩) :: .int .i64 e :: u7 :: u8 :: u9 :: u10 :: u11 :: u12 :: u13 :: u14 :: u15 :: u16 :: u17 :: u18 :: u19 :: u20 :: u21 :: u22 :: u23 :: u24 :: u25 :: u26 :: u27 :: u28 :: u29 :: u30 :: u31 :: u32 :: u33 :: u34 :: u35 :: u36 :: u37 :: u38 :: u39 :: u40 :: u41 :: u42 :: u43 :: u44 :: u45 :: u46 :: u47 :: u48 :: u49 :: u50 :: u51 :: u52 :: u53 :: u54 :: u55 :: u56 :: u57 :: u58 :: u59 :: u60 :: u61 :: u62 :: u63 :: u64 :: u65 :: u66 :: u67 :: u68 :: u69 :: u70 :: u71 :: u72 :: u73 :: u74 :: u75 :: u76 :: u77 :: u78 :: u79 :: u80 :: u81 :: u82 :: u83 :: u84 :: u85 :: u86 :: u87 :: u88 :: u89 :: u90 :: u91 :: u92 :: u93 :: u94 :: u95 :: u96 :: u97 :: u98 :: u99 :: u100 :: u101 :: u102 :: []), defers := [] } W := by
   subst hroot
   by_cases hin : InG g ipa
   ·obtain ⟨lv, hw1⟩ := hwk.1 hin
    refine ⟨_, _, hw1, fun W tb hb hD => ?_⟩
    have hin' := hin
    unfold InG at hin'
    have hsz : ipa + size ≤ 65536 + 32768 * g + 4096 := by rcases hs with rfl | rfl <;> rcases hg with rfl | rfl <;> omega
    have hq : askV 1073741824 1048576 (P0 + (ipa - (65536 + 32768 * g))) size = 0 := by
     unfold askV
     rw [if_neg (by rcases hs with rfl | rfl <;> omega), if_neg (by rw [hin4 (by unfold P0; omega) (by unfold P0; omega) (by unfold P0; omega) (by unfold P0; omega) (by omega) (by omega)]; simp)]
    have hpa : W64 (P0 + (ipa - (65536 + 32768 * g))) := by unfold W64 P0; omega
    have hpg : (P0 + (ipa - (65536 + 32768 * g))) % 4096 + size ≤ 4096 := by unfold P0; rcases hs with rfl | rfl <;> rcases hg with rfl | rfl <;> omega
    have hdv : dvV p q (L.map Pg.ab) g k ipa size x = (if k = 1 then (L.map Pg.ab, 0, le (rdB (L.map Pg.ab) (P0 + (ipa - (65536 + 32768 * g))) size.toNat)) else if pmV p q g = 3 then (writeV (L.map Pg.ab) (P0 + (ipa - (65536 + 32768 * g))) ((putB x).take size.toNat), 0, 0) else (L.map Pg.ab, 300, 0)) := by unfold dvV; rw [if_neg (by omega), if_pos hin]
    rw [hdv]
    have hpm : (if g = 0 then p else q) = 1 ∨ (if g = 0 then p else q) = 3 := by split <;> assumption
    have hpe : (if g = 0 then p else q) = pmV p q g := rfl
    rw [hpe] at hpm hD
    generalize P0 + (ipa - (65536 + 32768 * g)) = pa at *
    generalize pmV p q g = pm at *
    rcases hk with rfl | rfl
    ·rw [if_pos rfl]
     exact do_r hD hpm hs hpa hpg hq
    ·rw [if_neg (by decide)]
     rcases hpm with rfl | rfl
     ·rw [if_neg (by decide)]
      exact do_no hD
     ·rw [if_pos rfl]
      exact do_w hD hx hs hpa hq
   ·obtain ⟨hit, hw1⟩ := hwk.2 hin
    refine ⟨_, _, hw1, fun W tb hb hD => ?_⟩
    have hdv : dvV p q (L.map Pg.ab) g k ipa size x = (L.map Pg.ab, if 1099511627776 ≤ ipa then 200 else 201, 0) := by unfold dvV; rw [if_neg (by omega), if_neg hin]
    rw [hdv]
    exact do_e hD _ (by dsimp only; split <;> decide)
  obtain ⟨hit, e, hR, hnext⟩ := hnext
  rw [hR] at hwa
  have hD : ∀ (W : World) (hb : Nat), Below W3.heap.size W3 W → W3.heap.size ≤ hb → W.heap[hb]? = some (.cells #[.int .u64 hit.pa, .int .i64 hit.perm, .int .i64 hit.mem, .int .i64 hit.level] 193 (0, 0)) → DIn w W mb pb rb w.heap.size (w.heap.size + 1) hb L B k g line ipa size x root hit := fun W hb hbW hlt hh =>
   ⟨bthen hb03 hbW, hm.mem, hm.lo, hm.hB, ac3.later hbW, sn3.later hbW, hh, hr, hrl, hro, Nat.le_refl _, by omega, by have := hb03.size; omega, by omega, by have := sn3.lt; omega⟩
  have r3 := cell_lt hb03 hr hrl
  have hrz : rb < W3.heap.size := by have := hb03.size; omega
  have haz := ac3.lt
  replace hD := Lib.hid hD
  replace hnext := Lib.hid hnext
  replace hwk := Lib.hid hwk
  replace hin4 := Lib.hid hin4
  replace hR := Lib.hid hR
  clear hal
  subst hW1 hW2
  go_enter Tryz.func58, Tryz.ntmps58
  go_wp2_with fail
  rw [← hW3]
  clear hW3
  refine hct.mono ?_; rintro e1 w' ⟨rfl, rfl⟩
  clear hct
  go_wp2_with fail
  refine region_tree (fun z => ∃ X : Later w'.heap.size w', z = X.x) (by kernel_rfl) ?_
  have hbD : Below w'.heap.size w' w'.drew := (Below.refl _ _).drew
  have y0 := later_cell (B := w'.heap.size) r3 hrz
  have y1 := later_cell (B := w'.heap.size) a3 haz
  have y2 := later_cell (B := w'.heap.size) a6 haz
  generalize w'.drew = X0 at *
  refine tree_step [0, 1, 2, 3, 4, 5, 6, 7, 8] [9, 13] 6 (by kernel_rfl) (fun _ _ d _ _ h => by cases d <;> exact h) (by kernel_rfl) (by simp) rfl ⟨⟨_, hbD⟩, rfl⟩ ?_
  simp only [List.filterMap_cons, List.filterMap_nil, List.getElem?_cons_succ, List.getElem?_cons_zero]
  repeat (change wpQuiet _ _ _ _ (List.cons _ _) _; go_big_quiet_step (fail))
  refine wpQuiet_nil ?_
  intro i hi Q₁ hQ₁ hQp
  obtain rfl | rfl := mem2 hi
  ·simp only [List.getElem?_cons_succ, List.getElem?_cons_zero, Option.toList]
   have hmD := hm3.later hgB hbD
   go_wp2_with fail
   refine (hwa _ hmD.mem hmD.t3).mono ?_; rintro e1 X1 ⟨rfl, hb1⟩
   have hbX := bthen hbD hb1
   unfold HitV.val
   go_wp2_with fail
   refine hQ₁ _ _ ⟨⟨_, hbX⟩, rfl⟩ ?_
   clear hQ₁ hQp Q₁
   refine tree_step [10, 11, 12] [13] 2 (by kernel_rfl) (fun _ _ d _ _ h => by cases d <;> exact h) (by kernel_rfl) (by simp) rfl ⟨⟨_, hbX⟩, rfl⟩ ?_
   simp only [List.filterMap_cons, List.filterMap_nil, List.getElem?_cons_succ, List.getElem?_cons_zero]
   repeat (change wpQuiet _ _ _ _ (List.cons _ _) _; go_big_quiet_step (fail))
   refine wpQuiet_nil ?_
   intro i hi Q₁ hQ₁ hQp
   obtain rfl := mem1 hi
   simp only [List.getElem?_cons_succ, List.getElem?_cons_zero, Option.toList]
   go_wp2_with fail
   have hbA := bthen hbX (bone X1 (.cells #[.int .u64 0, .int .i64 0, .int .i64 0, .int .i64 0] 193))
   refine hQ₁ _ _ ⟨⟨_, hbA⟩, rfl⟩ ?_
   clear hQ₁ hQp Q₁
   refine tree_step [] [14] 1 (by kernel_rfl) (fun _ _ d _ _ h => by cases d <;> exact h) (by kernel_rfl) (by simp) rfl ⟨⟨_, hbA⟩, rfl⟩ ?_
   simp only [List.filterMap_nil]
   repeat (change wpQuiet _ _ _ _ (List.cons _ _) _; go_big_quiet_step (fail))
   refine wpQuiet_nil ?_
   intro i hi Q₁ hQ₁ hQp
   obtain rfl := mem1 hi
   simp only [List.getElem?_cons_succ, List.getElem?_cons_zero, Option.toList]
   go_wp2_with fail
   have hbE := bthen hbX (bone X1 (.cells #[.int .u64 hit.pa, .int .i64 hit.perm, .int .i64 hit.mem, .int .i64 hit.level] 193))
   refine hQ₁ _ _ ⟨⟨_, hbE⟩, rfl⟩ ?_
   clear hQ₁ hQp Q₁
   refine tree_end [15] (by kernel_rfl) (fun _ _ d _ _ h => by cases d <;> exact h) (by kernel_rfl) rfl ⟨⟨_, hbE⟩, rfl⟩ ?_
   simp only [List.filterMap_cons, List.filterMap_nil, List.getElem?_cons_succ, List.getElem?_cons_zero]
   repeat (change wpQuiet _ _ _ _ (List.cons _ _) _; go_big_quiet_step (fail))
   refine wpQuiet_nil ?_
   have hDD := hD.out _ X1.heap.size hbE hbX.size (World.alloc_heap_new _ _)
   go_upto_region 999 with ((with_reducible show Code.wp _ _ (bodyPost _ _ _) _ _); exact hnext.out _ _ _ hDD _ _ _ _ _ _ _ _ _ _ _ _ _ _ _ _ _ _ _ _ _ _ _ _ _ _ _ _ _ _ _ _ _ _ _ _ _ _ _ _ _ _ _ _ _ _ _ _ _ _ _ _ _ _ _ _ _ _ _ _ _ _ _ _ _ _ _ _ _ _ _ _ _ _ _ _ _ _ _ _ _ _ _ _ _ _ _ _ _ _ _ _ _ _ _ _ _ _)
  ·simp only [List.getElem?_cons_succ, List.getElem?_cons_zero, Option.toList]
   go_wp2_with fail
   obtain ⟨X1, hX1⟩ : ∃ X1, X1 = X0.alloc (.cells #[.int .u64 0, .int .i64 0, .int .i64 0, .int .i64 0] 193) := ⟨_, rfl⟩
   have hbx := bone X0 (.cells #[.int .u64 0, .int .i64 0, .int .i64 0, .int .i64 0] 193)
   have hx1 : X1.heap[X0.heap.size]? = some (.cells #[.int .u64 0, .int .i64 0, .int .i64 0, .int .i64 0] 193 (0, 0)) := by rw [hX1]; exact World.alloc_heap_new _ _
   rw [← hX1] at hbx ⊢
   have hb1 := bthen hbD hbx
   refine hQ₁ _ _ ⟨⟨_, hb1⟩, rfl⟩ ?_
   clear hQ₁ hQp Q₁ hX1
   refine tree_step [] [9] 5 (by kernel_rfl) (fun _ _ d _ _ h => by cases d <;> exact h) (by kernel_rfl) (by simp) rfl ⟨⟨_, hb1⟩, rfl⟩ ?_
   simp only [List.filterMap_nil]
   repeat (change wpQuiet _ _ _ _ (List.cons _ _) _; go_big_quiet_step (fail))
   refine wpQuiet_nil ?_
   intro i hi Q₁ hQ₁ hQp
   obtain rfl := mem1 hi
   simp only [List.getElem?_cons_succ, List.getElem?_cons_zero, Option.toList]
   have hmD := hm3.later hgB hb1
   go_wp2_with fail
   refine (hwa _ hmD.mem hmD.t3).mono ?_; rintro e1 X2 ⟨rfl, hb2⟩
   have hbX := bthen hb1 hb2
   have hx2 := (hb2.block _ (Array.getElem?_eq_some_iff.1 hx1).1).trans hx1
   have k0 : X2.cell? ⟨X0.heap.size, 0, none⟩ = some (.int .u64 0) := by simp [World.cell?, hx2]
   have k1 : X2.cell? ⟨X0.heap.size, 1, none⟩ = some (.int .i64 0) := by simp [World.cell?, hx2]
   have k2 : X2.cell? ⟨X0.heap.size, 2, none⟩ = some (.int .i64 0) := by simp [World.cell?, hx2]
   have k3 : X2.cell? ⟨X0.heap.size, 3, none⟩ = some (.int .i64 0) := by simp [World.cell?, hx2]
   have kf : ∀ o, X2.frozen? ⟨X0.heap.size, o, none⟩ = false := fun o => by simp [World.frozen?, hx2]
   have kf0 := kf 0
   have kf1 := kf 1
   have kf2 := kf 2
   have kf3 := kf 3
   clear kf
   unfold HitV.val
   go_wp2_with fail
   refine hQ₁ _ _ ⟨⟨_, hbX⟩, rfl⟩ ?_
   clear hQ₁ hQp Q₁
   refine tree_step [10, 11, 12] [14] 1 (by kernel_rfl) (fun _ _ d _ _ h => by cases d <;> exact h) (by kernel_rfl) (by simp) rfl ⟨⟨_, hbX⟩, rfl⟩ ?_
   simp only [List.filterMap_cons, List.filterMap_nil, List.getElem?_cons_succ, List.getElem?_cons_zero]
   repeat (change wpQuiet _ _ _ _ (List.cons _ _) _; go_big_quiet_step (fail))
   refine wpQuiet_nil ?_
   intro i hi Q₁ hQ₁ hQp
   obtain rfl := mem1 hi
   simp only [List.getElem?_cons_succ, List.getElem?_cons_zero, Option.toList]
   have hbE := below_four hbX hbD.size (.int .u64 hit.pa) (.int .i64 hit.perm) (.int .i64 hit.mem) (.int .i64 hit.level)
   have hE := heapAt_put (heapAt_put (heapAt_put (heapAt_put hx2 0 (.int .u64 hit.pa)) 1 (.int .i64 hit.perm)) 2 (.int .i64 hit.mem)) 3 (.int .i64 hit.level)
   go_wp2_with fail
   refine hQ₁ _ _ ⟨⟨_, hbE⟩, rfl⟩ ?_
   clear hQ₁ hQp Q₁
   refine tree_end [15] (by kernel_rfl) (fun _ _ d _ _ h => by cases d <;> exact h) (by kernel_rfl) rfl ⟨⟨_, hbE⟩, rfl⟩ ?_
   simp only [List.filterMap_cons, List.filterMap_nil, List.getElem?_cons_succ, List.getElem?_cons_zero]
   repeat (change wpQuiet _ _ _ _ (List.cons _ _) _; go_big_quiet_step (fail))
   refine wpQuiet_nil ?_
   have hDD := hD.out _ X0.heap.size hbE hbD.size hE
   go_upto_region 999 with ((with_reducible show Code.wp _ _ (bodyPost _ _ _) _ _); exact hnext.out _ _ _ hDD _ _ _ _ _ _ _ _ _ _ _ _ _ _ _ _ _ _ _ _ _ _ _ _ _ _ _ _ _ _ _ _ _ _ _ _ _ _ _ _ _ _ _ _ _ _ _ _ _ _ _ _ _ _ _ _ _ _ _ _ _ _ _ _ _ _ _ _ _ _ _ _ _ _ _ _ _ _ _ _ _ _ _ _ _ _ _ _ _ _ _ _ _ _ _ _ _ _)
 ·have hdv : dvV p q (L.map Pg.ab) g k ipa size x = (L.map Pg.ab, 1, 0) := by unfold dvV; rw [if_pos hal]
  rw [hdv]
  have hal2 : (ipa % size != 0) = true := by simpa using hal
  clear hdv hal hin4
  subst hW1 hW2
  go_enter Tryz.func58, Tryz.ntmps58
  go_wp2_with fail
  rw [← hW3]
  clear hW3
  refine hct.mono ?_; rintro e1 w' ⟨rfl, rfl⟩
  clear hct
  go_wp2_with fail
  refine (failed_any _ _).mono ?_; rintro e1 w4 ⟨rfl, hb4⟩
  have hs4 := sn3.later hb4
  obtain ⟨c0, c1, c2, c3, c4, c5⟩ := hs4.cells
  have hf := hs4.frozen
  have f0 := hf 0
  have f1 := hf 1
  have f2 := hf 2
  have f3 := hf 3
  have f4 := hf 4
  have f5 := hf 5
  clear hf
  have hst := (Wrote.stay hm.mem (bthen hb03 hb4) hm.hB).told hm.hB (show w.heap.size ≤ w.heap.size + 1 by omega) (fun e => by have := hm.mem.lt _ e; omega) (.int .i64 1) (.int .u64 0) (.int .u64 0) (.bool false) (.int .i64 0) (.int .i64 0)
  go_wp2_with fail
  refine bodyPost_ret (v := seenN 1 0 0) (by simp [results, Tryz.results58, go_sem, seenN, c0, c1, c2, c3, c4, c5]) rfl ?_
  exact ⟨L, 0, rfl, hst, fun _ => below_six (bthen hb03 hb4) (by omega) _ _ _ _ _ _⟩
end Go.Proofs.YtgihknfoncljbaaGreatDoor
/- A guest's access; a deed of a guest's. -/
namespace Go.Proofs.YtgihknfoncljbaaGreatDoor
open Go Go.RowKit Go.Shelf Go.BigFrame Go.Maps
structure StV where
 g : Int
 v : Int
instance : Inhabited StV := ⟨⟨0, 0⟩⟩
def StV.enc (x : StV) : List Value := [.int .i64 x.g, .int .u32 0, .int .u64 x.v, .int .u64 0, .int .u64 0, .int .u32 0]
theorem StV.enc_len (x : StV) : x.enc.length = 6 := rfl
def sts : List StV := [⟨0, vttN 0⟩, ⟨1, vttN 1⟩]
structure RunAt (W : World) (rb mb gb cap pd : Nat) : Prop where
 mp : W.cell? ⟨rb, 0, none⟩ = some (.pointer (some ⟨mb, 0, none⟩))
 gs : W.cell? ⟨rb, 71, none⟩ = some (.slice (some ⟨gb, 0, none⟩) 2 cap)
 pn : W.cell? ⟨rb, 72, none⟩ = some (.map (some pd))
 row : ∀ j, j < 2 → ∀ i v, (StV.enc sts[j]!)[i]? = some v → W.cell? ⟨gb, 0 + j * 6 + i, none⟩ = some v
 rl : rb < W.heap.size
 gl : gb < W.heap.size
theorem RunAt.same {W W' : World} {rb mb gb cap pd : Nat} (h : RunAt W rb mb gb cap pd) (hr : W'.heap[rb]? = W.heap[rb]?) (hg : W'.heap[gb]? = W.heap[gb]?) : RunAt W' rb mb gb cap pd := by
 have e1 : ∀ o, W'.cell? ⟨rb, o, none⟩ = W.cell? ⟨rb, o, none⟩ := fun o => by simp only [World.cell?, hr]
 have e2 : ∀ o, W'.cell? ⟨gb, o, none⟩ = W.cell? ⟨gb, o, none⟩ := fun o => by simp only [World.cell?, hg]
 refine ⟨(e1 _).trans h.mp, (e1 _).trans h.gs, (e1 _).trans h.pn, fun j hj i v hv => (e2 _).trans (h.row j hj i v hv), ?_, ?_⟩
 ·exact (Array.getElem?_eq_some_iff.1 (hr.trans (Array.getElem?_eq_getElem h.rl))).1
 ·exact (Array.getElem?_eq_some_iff.1 (hg.trans (Array.getElem?_eq_getElem h.gl))).1
theorem RunAt.later {W W' : World} {rb mb gb cap pd : Nat} (h : RunAt W rb mb gb cap pd) (hb : Below W.heap.size W W') : RunAt W' rb mb gb cap pd := h.same (hb.block _ h.rl) (hb.block _ h.gl)
def idxSt (g : Int) : Int := if g = 0 then 0 else if g = 1 then 1 else -1
set_option maxHeartbeats 1000000 in
theorem guest1_any (x : StV) (B : Nat) (g : Int) (w : World) (hB : w.cell? ⟨B, 1, none⟩ = some (.int .i64 g)) :
  Calls Tryz.prog 57 #[.agg x.enc.toArray, .pointer (some ⟨B, 0, none⟩)] w fun e w' => e = .returned (.bool (x.g == g)) ∧ Below w.heap.size w w' := by
 unfold StV.enc
 have hBl := World.block_lt_of_cell? _ _ hB
 have hb := cell_lt (bone w (.cells #[.int .i64 x.g, .int .u32 0, .int .u64 x.v, .int .u64 0, .int .u64 0, .int .u32 0] 88)) hB hBl
 go_enter Tryz.func57, Tryz.ntmps57
 go_wp2_with fail
 go_ret
 exact ⟨rfl, bone _ _⟩
theorem idxSt_any (B : Nat) (g : Int) (gb cap : Nat) (w : World) (hB : w.cell? ⟨B, 1, none⟩ = some (.int .i64 g)) (hgl : gb < w.heap.size) (hrow : ∀ j, j < 2 → ∀ i v, (StV.enc sts[j]!)[i]? = some v → w.cell? ⟨gb, 0 + j * 6 + i, none⟩ = some v) :
  Calls Tryz.prog 56 #[.slice (some ⟨gb, 0, none⟩) 2 cap, .func (.func 57) #[] #[.pointer (some ⟨B, 0, none⟩)]] w fun e w' => e = .returned (.int .i64 (idxSt g)) ∧ Below w.heap.size w w' := by
 have hBl := World.block_lt_of_cell? _ _ hB
 have h := AnyQ.slices_IndexFunc Tryz.idxStarted 6 Tryz.isAgg88 Tryz.sizeOf88 StV.enc StV.enc_len (fun x => x.g == g) 57 #[.pointer (some ⟨B, 0, none⟩)] (enters_of Tryz.func57 (by kernel_rfl) rfl) gb 0 2 cap sts w
  (fun W x hW => (guest1_any x B g W (cell_lt hW hB hBl)).mono fun _ _ ⟨he, hb⟩ => ⟨he, bthen hW hb⟩) (Nat.le_refl _) (by omega) hgl hrow
 refine h.mono ?_
 rintro e w' ⟨rfl, hb⟩
 refine ⟨?_, hb⟩
 congr 2
 unfold idxSt sts Lib.idxBy
 by_cases h0 : g = 0
 ·subst h0; rfl
 ·by_cases h1 : g = 1
  ·subst h1; rfl
  ·rw [if_neg h0, if_neg h1]
   have e0 : ((0 : Int) == g) = false := by simpa using fun e => h0 e.symm
   have e1 : ((1 : Int) == g) = false := by simpa using fun e => h1 e.symm
   simp [Lib.idxByFrom, e0, e1]
def dvG (p q : Int) (pg : PG) (g k ipa size x : Int) : PG × Int × Int := if g = 0 ∨ g = 1 then dvV p q pg g k ipa size x else (pg, 3, 0)
theorem dvG_tab {p q : Int} {pg : PG} (h : Tab2 pg p q) {g k ipa size x : Int} (hs : size = 1 ∨ size = 8) : Tab2 (dvG p q pg g k ipa size x).1 p q ∧ ∀ b, b < P0 ∨ P0 + 4096 ≤ b → bt (dvG p q pg g k ipa size x).1 b = bt pg b := by
 unfold dvG
 split
 ·exact dv_tab h (by assumption) hs
 ·exact ⟨h, fun _ _ => rfl⟩
set_option maxRecDepth 100000 in
set_option maxHeartbeats 4000000 in
theorem guest_any (rb mb pb gb cap pd : Nat) (L : List Pg) (B : Nat) (p q g k line ipa size x : Int) (w : World) (hm : Mch w B mb pb L p q) (hgB : 0 < B) (hp : p = 1 ∨ p = 3) (hq : q = 1 ∨ q = 3) (hk : k = 1 ∨ k = 2) (hs : size = 1 ∨ size = 8) (hi : W64 ipa) (hx : W64 x)
  (hr : RunAt w rb mb gb cap pd) (hro : rb ∉ memBlks mb pb L) (hgo : gb ∉ memBlks mb pb L) :
  Calls Tryz.prog 31 #[.pointer (some ⟨rb, 0, none⟩), .agg #[.int .i64 k, .int .i64 g, .int .i64 line, .int .u64 ipa, .int .i64 size, .int .u64 x], .int .i64 k] w
   (DPost w mb pb L B k (dvG p q (L.map Pg.ab) g k ipa size x).2.1 (dvG p q (L.map Pg.ab) g k ipa size x).2.2 (dvG p q (L.map Pg.ab) g k ipa size x).1) := by
 obtain ⟨W1, hW1⟩ : ∃ W1, W1 = w.alloc (.cells #[.int .i64 k, .int .i64 g, .int .i64 line, .int .u64 ipa, .int .i64 size, .int .u64 x] 48) := ⟨_, rfl⟩
 obtain ⟨W2, hW2⟩ : ∃ W2, W2 = W1.alloc (.cells #[.int .i64 0, .int .u64 0, .int .u64 0, .bool false, .int .i64 0, .int .i64 0] 45) := ⟨_, rfl⟩
 have hb1 : Below w.heap.size w W1 := by rw [hW1]; exact bone _ _
 have hb2 : Below W1.heap.size W1 W2 := by rw [hW2]; exact bone _ _
 have z1 : W1.heap.size = w.heap.size + 1 := by rw [hW1]; simp
 have d1 : W1.heap[w.heap.size]? = some (.cells #[.int .i64 k, .int .i64 g, .int .i64 line, .int .u64 ipa, .int .i64 size, .int .u64 x] 48 (0, 0)) := by rw [hW1]; exact World.alloc_heap_new _ _
 have d2 := (hb2.block _ (by omega)).trans d1
 have sn2 : SeenAt W2 (w.heap.size + 1) 0 0 0 := by rw [hW2, ← z1]; exact World.alloc_heap_new _ _
 have hb02 : Below w.heap.size w W2 := bthen hb1 hb2
 have dc : ∀ W, Below W2.heap.size W2 W → ∀ o v, #[Value.int .i64 k, .int .i64 g, .int .i64 line, .int .u64 ipa, .int .i64 size, .int .u64 x][o]? = some v → W.cell? ⟨w.heap.size, o, none⟩ = some v := fun W hW o v h => by
  have := (hW.block _ (Array.getElem?_eq_some_iff.1 d2).1).trans d2
  simp only [World.cell?, this]
  exact h
 have hr2 := hr.later hb02
 have hix := idxSt_any w.heap.size g gb cap W2 (dc _ (Below.refl _ _) 1 _ rfl) hr2.gl hr2.row
 have k1 := hr2.gs
 rw [hW2, hW1] at k1
 have hbw2 := hb02.mono hm.hB
 have hgb2 := hr2.gl
 have hrb2 := hr2.rl
 by_cases hg : g = 0 ∨ g = 1
 ·have hdv : dvG p q (L.map Pg.ab) g k ipa size x = dvV p q (L.map Pg.ab) g k ipa size x := by unfold dvG; rw [if_pos hg]
  rw [hdv]
  clear hdv
  have hdo := fun W bo (hbo : bo = decide (k = 2)) hm hr hrl => hbo ▸ do_any rb mb pb L B p q g k line ipa size x W hm hgB hp hq hg hk hs hi hx hr hrl hro
  have hrt := fun W => root_any g W hg
  have hro' : ∀ W : World, (∀ b : Nat, b = gb → W.heap[b]? = W2.heap[b]?) → W.cell? ⟨gb, g.toNat * 6 + 2, none⟩ = some (.int .u64 (vttN g)) := fun W hW => by
   have := hr2.row g.toNat (by omega) 2 (.int .u64 (vttN g)) (by rcases hg with rfl | rfl <;> rfl)
   rw [Nat.zero_add] at this
   rw [← this]
   simp only [World.cell?, hW gb rfl]
  have hie : idxSt g = g := by rcases hg with rfl | rfl <;> rfl
  rw [hie] at hix
  clear hie
  have hdv' : ∀ W, Wrote W W mb pb 1073741824 1048576 L L B (L.map Pg.ab) → True := fun _ _ => trivial
  clear hdv'
  generalize dvV p q (L.map Pg.ab) g k ipa size x = dv at *
  obtain ⟨tgt, er, wv⟩ := dv
  simp only at hdo ⊢
  generalize rootN g = root at *
  generalize vttN g = vt at *
  have hgx : (g : Int) = 0 ∨ g = 1 := hg
  subst hW1
  go_enter Tryz.func31, Tryz.ntmps31
  go_wp2_with fail
  rw [← hW2]
  clear hW2
  refine hix.mono ?_; rintro e1 w3 ⟨rfl, hb3⟩
  clear hix
  have hr3 := hr2.later hb3
  have m3 := hr3.mp
  have g3 := hr3.gs
  have v3 := hro' w3 fun b hb => hb3.block b (by subst hb; exact hgb2)
  have dd := (hb3.block _ (Array.getElem?_eq_some_iff.1 d2).1).trans d2
  have sn3 := sn2.later hb3
  have hz3 := hb3.size
  have hbw3 := bthen hb02 hb3
  have hm3 := hm.later hgB hbw3
  have q0 := dc w3 hb3 0 _ rfl
  have q1 := dc w3 hb3 1 _ rfl
  have q2 := dc w3 hb3 2 _ rfl
  have q3 := dc w3 hb3 3 _ rfl
  have q4 := dc w3 hb3 4 _ rfl
  have q5 := dc w3 hb3 5 _ rfl
  clear hro' dc k1
  replace sn2 := Lib.hid sn2
  replace hgx := Lib.hid hgx
  have hgn : ¬ (g < 0) := by omega
  go_wp2_with fail
  refine region_ord (fun z => ∃ X : HeldF (fun b => b = rb ∨ b = gb ∨ b = w.heap.size) w3, z = X.x) [([0, 1, 2, 3, 4, 5, 6, 7, 8, 9, 10, 12, 13, 14], 11), ([15], 16), ([], 17)] [] (by kernel_rfl) (by kernel_rfl) (by kernel_rfl) (by kernel_rfl) ⟨⟨w3.drew, fun _ _ => rfl⟩, rfl⟩ ?_
  simp only [List.map_cons, List.map_nil, List.filterMap_cons, List.filterMap_nil, List.getElem?_cons_succ, List.getElem?_cons_zero]
  have hb10 : Below w3.heap.size w3 w3.drew := (Below.refl _ _).drew
  have hcc : ∀ {b o : Nat} {v : Value}, (b = rb ∨ b = gb ∨ b = w.heap.size) → w3.cell? ⟨b, o, none⟩ = some v → ∀ X : HeldF (fun b => b = rb ∨ b = gb ∨ b = w.heap.size) w3, X.x.cell? ⟨b, o, none⟩ = some v := fun hb' hc X => by rw [← hc]; simp only [World.cell?]; rw [X.h _ hb']
  have y0 := hcc (.inl rfl) g3
  have y1 := hcc (.inr (.inl rfl)) v3
  have y2 := hcc (.inr (.inr rfl)) q0
  have y3 := hcc (.inr (.inr rfl)) q1
  have y4 := hcc (.inr (.inr rfl)) q2
  have y5 := hcc (.inr (.inr rfl)) q3
  have y6 := hcc (.inr (.inr rfl)) q4
  have y7 := hcc (.inr (.inr rfl)) q5
  have hm10 := hm3.later hgB hb10
  have m10 := cell_lt hb10 m3 hr3.rl
  have hrz10 : rb < w3.drew.heap.size := hr3.rl
  have sn10 := sn3.later hb10
  clear hcc
  have hkeep : ∀ b, b < w3.heap.size → w3.drew.heap[b]? = w3.heap[b]? := fun _ _ => rfl
  generalize w3.drew = w10 at *
  refine ord_step ?_
  repeat (change wpQuiet _ _ _ _ (List.cons _ _) _; go_big_quiet_step (fail))
  refine wpQuiet_nil ?_
  intro Q₁ hQ₁
  go_wp2_with fail
  refine (hrt w10).mono ?_; rintro e1 w11 ⟨rfl, rfl⟩
  go_wp2_with fail
  refine hQ₁ _ _ ⟨⟨w10, fun b hb' => hkeep b (by rcases hb' with rfl | rfl | rfl; exact hr3.rl; exact hr3.gl; have := sn3.lt; omega)⟩, rfl⟩ ?_
  clear hQ₁ Q₁
  refine ord_step ?_
  repeat (change wpQuiet _ _ _ _ (List.cons _ _) _; go_big_quiet_step (fail))
  refine wpQuiet_nil ?_
  intro Q₁ hQ₁
  go_wp2_with fail
  refine (hdo w10 _ (by rcases hk with rfl | rfl <;> rfl) hm10 m10 hrz10).mono ?_; rintro e1 w12 ⟨L', pa, rfl, hwt, hbl⟩
  have hz10 := hb10.size
  have hwt0 := hwt.pre (bthen hbw3 hb10) hm.hB
  have hoff : ∀ b, w.heap.size ≤ b → b ∉ memBlks mb pb L := fun b hb' e => by have := hm.mem.lt _ e; omega
  have hk12 : ∀ b, b < w3.heap.size → b ∉ memBlks mb pb L → w12.heap[b]? = w3.heap[b]? := fun b h1 h2 => (hwt.off.rest b (by omega) h2).trans (hkeep b h1)
  have sn12 : SeenAt w12 (w.heap.size + 1) 0 0 0 := (hk12 _ sn3.lt (hoff _ (by omega))).trans sn3
  unfold seenN
  go_wp2_with fail
  refine hQ₁ _ _ ⟨⟨w12, fun b hb' => ?_⟩, rfl⟩ ?_
  ·rcases hb' with rfl | rfl | rfl
   ·exact hk12 _ hr3.rl hro
   ·exact hk12 _ hr3.gl hgo
   ·exact hk12 _ (by have := sn3.lt; omega) (hoff _ (Nat.le_refl _))
  clear hQ₁ Q₁
  refine ord_step ?_
  refine wpQuiet_nil ?_
  intro Q₁ hQ₁
  have hnL : w.heap.size + 1 ∉ memBlks mb pb L' := fun e => (hwt0.blks _ e).elim (hoff _ (by omega)) fun e => by
   rcases hwt.blks _ ‹_› with e2 | e2
   ·exact hoff _ (by omega) e2
   ·have := sn3.lt; omega
  have hstE := hwt0.told hm.hB (show w.heap.size ≤ w.heap.size + 1 by omega) hnL (.int .i64 er) (.int .u64 wv) (.int .u64 pa) (.bool false) (.int .i64 0) (.int .i64 0)
  obtain ⟨c0, c1, c2, c3, c4, c5⟩ := sn12.cells
  have hf := sn12.frozen
  have f0 := hf 0
  have f1 := hf 1
  have f2 := hf 2
  have f3 := hf 3
  have f4 := hf 4
  have f5 := hf 5
  clear hf
  go_wp2_with fail
  refine hQ₁ _ _ ⟨⟨_, fun b hb' => ?_⟩, rfl⟩ ?_
  rotate_left
  ·clear hQ₁ Q₁
   refine ord_last ?_
   refine wpQuiet_nil ?_
   go_wp2_with fail
   refine bodyPost_ret (v := seenN er wv pa) (by simp [results, Tryz.results31, go_sem, seenN, c0, c1, c2, c3, c4, c5]) rfl ?_
   exact ⟨L', pa, rfl, hstE, fun e => below_six (bthen (bthen hbw3 hb10) (hbl e)) (by omega) _ _ _ _ _ _⟩
  ·have hbn : b ≠ w.heap.size + 1 := by have := hr.rl; have := hr.gl; rcases hb' with rfl | rfl | rfl <;> omega
   have ho : ∀ (i : Nat) (u : Value) (W : World), (W.setCell ⟨w.heap.size + 1, i, none⟩ u).heap[b]? = W.heap[b]? := fun i u W => Below.heap_setCell _ _ _ _ (by simpa using hbn)
   have hall : ((((((w12.setCell ⟨w.heap.size + 1, 0, none⟩ (.int .i64 er)).setCell ⟨w.heap.size + 1, 1, none⟩ (.int .u64 wv)).setCell ⟨w.heap.size + 1, 2, none⟩ (.int .u64 pa)).setCell ⟨w.heap.size + 1, 3, none⟩ (.bool false)).setCell ⟨w.heap.size + 1, 4, none⟩ (.int .i64 0)).setCell ⟨w.heap.size + 1, 5, none⟩ (.int .i64 0)).heap[b]? = w12.heap[b]? := by rw [ho, ho, ho, ho, ho, ho]
   refine Eq.trans hall ?_
   rcases hb' with rfl | rfl | rfl
   ·exact hk12 _ hr3.rl hro
   ·exact hk12 _ hr3.gl hgo
   ·exact hk12 _ (by have := sn3.lt; omega) (hoff _ (Nat.le_refl _))
 ·have hdv : dvG p q (L.map Pg.ab) g k ipa size x = (L.map Pg.ab, 3, 0) := by unfold dvG; rw [if_neg hg]
  rw [hdv]
  have hie : idxSt g = -1 := by unfold idxSt; rw [if_neg (fun e => hg (.inl e)), if_neg (fun e => hg (.inr e))]
  rw [hie] at hix
  clear hdv hg hie dc
  subst hW1
  go_enter Tryz.func31, Tryz.ntmps31
  go_wp2_with fail
  rw [← hW2]
  clear hW2
  refine hix.mono ?_; rintro e1 w3 ⟨rfl, hb3⟩
  clear hix
  go_wp2_with fail
  refine (failed_any _ _).mono ?_; rintro e1 w4 ⟨rfl, hb4⟩
  have hs4 := (sn2.later hb3).later hb4
  obtain ⟨c0, c1, c2, c3, c4, c5⟩ := hs4.cells
  have hf := hs4.frozen
  have f0 := hf 0
  have f1 := hf 1
  have f2 := hf 2
  have f3 := hf 3
  have f4 := hf 4
  have f5 := hf 5
  clear hf
  have hst := (Wrote.stay hm.mem (bthen (bthen hb02 hb3) hb4) hm.hB).told hm.hB (show w.heap.size ≤ w.heap.size + 1 by omega) (fun e => by have := hm.mem.lt _ e; omega) (.int .i64 3) (.int .u64 0) (.int .u64 0) (.bool false) (.int .i64 0) (.int .i64 0)
  go_wp2_with fail
  refine bodyPost_ret (v := seenN 3 0 0) (by simp [results, Tryz.results31, go_sem, seenN, c0, c1, c2, c3, c4, c5]) rfl ?_
  exact ⟨L, 0, rfl, hst, fun _ => below_six (bthen (bthen hb02 hb3) hb4) (by omega) _ _ _ _ _ _⟩
end Go.Proofs.YtgihknfoncljbaaGreatDoor
/- run.Do for loads and stores; a ring's deed. -/
namespace Go.Proofs.YtgihknfoncljbaaGreatDoor
open Go Go.RowKit Go.Shelf Go.BigFrame Go.Maps
theorem mapLine : ∃ k e, Tryz.prog.underlying 102 = some (.map k e) := ⟨162, 3, by kernel_rfl⟩
set_option maxRecDepth 100000 in
set_option maxHeartbeats 4000000 in
theorem Do_any (rb mb pb gb cap pd : Nat) (L : List Pg) (B : Nat) (p q g k line ipa size x : Int) (w : World) (hm : Mch w B mb pb L p q) (hgB : 0 < B) (hp : p = 1 ∨ p = 3) (hq : q = 1 ∨ q = 3) (hk : k = 1 ∨ k = 2) (hs : size = 1 ∨ size = 8) (hi : W64 ipa) (hx : W64 x)
  (hr : RunAt w rb mb gb cap pd) (hro : rb ∉ memBlks mb pb L) (hgo : gb ∉ memBlks mb pb L) :
  Calls Tryz.prog 14 #[.pointer (some ⟨rb, 0, none⟩), .agg #[.int .i64 k, .int .i64 g, .int .i64 line, .int .u64 ipa, .int .i64 size, .int .u64 x]] w
   (DPost w mb pb L B k (dvG p q (L.map Pg.ab) g k ipa size x).2.1 (dvG p q (L.map Pg.ab) g k ipa size x).2.2 (dvG p q (L.map Pg.ab) g k ipa size x).1) := by
 have hgd := fun W hm hr => guest_any rb mb pb gb cap pd L B p q g k line ipa size x W hm hgB hp hq hk hs hi hx hr hro hgo
 generalize dvG p q (L.map Pg.ab) g k ipa size x = dv at *
 obtain ⟨tgt, er, wv⟩ := dv
 simp only at hgd ⊢
 obtain ⟨kt, et, hmt⟩ := mapLine
 have heq := fun (W : World) (r : Option Nat) => run_eql_map_nil (P := Tryz.prog) W _ kt et r hmt
 clear hmt
 obtain ⟨W1, hW1⟩ : ∃ W1, W1 = w.alloc (.cells #[.int .i64 k, .int .i64 g, .int .i64 line, .int .u64 ipa, .int .i64 size, .int .u64 x] 48) := ⟨_, rfl⟩
 obtain ⟨W2, hW2⟩ : ∃ W2, W2 = W1.alloc (.cells #[.int .i64 0, .int .u64 0, .int .u64 0, .bool false, .int .i64 0, .int .i64 0] 45) := ⟨_, rfl⟩
 have hb1 : Below w.heap.size w W1 := by rw [hW1]; exact bone _ _
 have hb2 : Below W1.heap.size W1 W2 := by rw [hW2]; exact bone _ _
 have z1 : W1.heap.size = w.heap.size + 1 := by rw [hW1]; simp
 have sn2 : SeenAt W2 (w.heap.size + 1) 0 0 0 := by rw [hW2, ← z1]; exact World.alloc_heap_new _ _
 have hb02 : Below w.heap.size w W2 := bthen hb1 hb2
 have hr2 := hr.later hb02
 have k1 := hr2.pn
 have hm2 := hm.later hgB hb02
 have hgd2 := hgd W2 hm2 hr2
 clear hgd
 have hoff : ∀ b, w.heap.size ≤ b → b ∉ memBlks mb pb L := fun b hb' e => by have := hm.mem.lt _ e; omega
 rw [hW2, hW1] at k1
 subst hW1
 rcases hk with rfl | rfl
 all_goals
  go_enter Tryz.func14, Tryz.ntmps14
  go_wp2_with fail
  rw [← hW2]
  clear hW2
  refine hgd2.mono ?_; rintro e1 w12 ⟨L', pa, rfl, hwt, hbl⟩
  replace hbl := Lib.hid hbl
  clear hgd2
  have hwt0 := hwt.pre hb02 hm.hB
  have sn12 : SeenAt w12 (w.heap.size + 1) 0 0 0 := (hwt.off.rest _ sn2.lt (hoff _ (by omega))).trans sn2
  have hnL : w.heap.size + 1 ∉ memBlks mb pb L' := fun e => by
   rcases hwt.blks _ e with e2 | e2
   ·exact hoff _ (by omega) e2
   ·have := sn2.lt; omega
  have hstE := hwt0.told hm.hB (show w.heap.size ≤ w.heap.size + 1 by omega) hnL (.int .i64 er) (.int .u64 wv) (.int .u64 pa) (.bool false) (.int .i64 0) (.int .i64 0)
  obtain ⟨c0, c1, c2, c3, c4, c5⟩ := sn12.cells
  have hf := sn12.frozen
  have f0 := hf 0
  have f1 := hf 1
  have f2 := hf 2
  have f3 := hf 3
  have f4 := hf 4
  have f5 := hf 5
  clear hf
  unfold seenN
  go_wp2_with fail
  refine bodyPost_ret (v := seenN er wv pa) (by simp [results, Tryz.results14, go_sem, seenN, c0, c1, c2, c3, c4, c5]) rfl ?_
  exact ⟨L', pa, rfl, hstE, fun e => by first | exact below_six (bthen hb02 (hbl.out trivial)) (by omega) _ _ _ _ _ _ | exact absurd e (by decide)⟩
structure RIn (W : World) (B mb pb rb gb cap pd qb : Nat) (L : List Pg) (p q g base n : Int) : Prop where
 m : Mch W B mb pb L p q
 r : RunAt W rb mb gb cap pd
 ro : rb ∉ memBlks mb pb L
 go : gb ∉ memBlks mb pb L
 qo : qb ∉ memBlks mb pb L
 qc : W.heap[qb]? = some (.cells #[.pointer (some ⟨rb, 0, none⟩), .int .i64 g, .int .u64 base, .int .i64 n] 94 (0, 0))
theorem RIn.later {W W' : World} {B mb pb rb gb cap pd qb : Nat} {L : List Pg} {p q g base n : Int} (h : RIn W B mb pb rb gb cap pd qb L p q g base n) (hg : 0 < B) (hb : Below W.heap.size W W') : RIn W' B mb pb rb gb cap pd qb L p q g base n :=
 ⟨h.m.later hg hb, h.r.later hb, h.ro, h.go, h.qo, (hb.block _ (Array.getElem?_eq_some_iff.1 h.qc).1).trans h.qc⟩
theorem RIn.wrote {W W' : World} {B mb pb rb gb cap pd qb : Nat} {L L' : List Pg} {p q g base n : Int} {tgt : PG} (h : RIn W B mb pb rb gb cap pd qb L p q g base n) (hg : 0 < B) (hw : Wrote W W' mb pb 1073741824 1048576 L L' B tgt) (ht : Tab2 tgt p q) : RIn W' B mb pb rb gb cap pd qb L' p q g base n := by
 have hq := (Array.getElem?_eq_some_iff.1 h.qc).1
 have hn : ∀ b, b < W.heap.size → b ∉ memBlks mb pb L → b ∉ memBlks mb pb L' := fun b h1 h2 h3 => (hw.blks b h3).elim h2 fun e => by omega
 exact ⟨h.m.wrote hg hw ht, h.r.same (hw.off.rest _ h.r.rl h.ro) (hw.off.rest _ h.r.gl h.go), hn _ h.r.rl h.ro, hn _ h.r.gl h.go, hn _ hq h.qo, (hw.off.rest _ hq h.qo).trans h.qc⟩
theorem RIn.cells {W : World} {B mb pb rb gb cap pd qb : Nat} {L : List Pg} {p q g base n : Int} (h : RIn W B mb pb rb gb cap pd qb L p q g base n) : W.cell? ⟨qb, 0, none⟩ = some (.pointer (some ⟨rb, 0, none⟩)) ∧ W.cell? ⟨qb, 1, none⟩ = some (.int .i64 g) ∧ W.cell? ⟨qb, 2, none⟩ = some (.int .u64 base) ∧ W.cell? ⟨qb, 3, none⟩ = some (.int .i64 n) := by
 have := h.qc
 refine ⟨?_, ?_, ?_, ?_⟩ <;> simp [World.cell?, this]
theorem RIn.ql {W : World} {B mb pb rb gb cap pd qb : Nat} {L : List Pg} {p q g base n : Int} (h : RIn W B mb pb rb gb cap pd qb L p q g base n) : qb < W.heap.size := (Array.getElem?_eq_some_iff.1 h.qc).1
def RPostK (w0 : World) (mb pb : Nat) (L : List Pg) (B : Nat) (k : Int) (v : Value) (tgt : PG) (en : Ending) (w' : World) : Prop := ∃ L', en = .returned v ∧ Wrote w0 w' mb pb 1073741824 1048576 L L' B tgt ∧ (k = 1 → Below w0.heap.size w0 w')
def RPost (w0 : World) (mb pb : Nat) (L : List Pg) (B : Nat) (v : Value) (tgt : PG) (en : Ending) (w' : World) : Prop := ∃ L', en = .returned v ∧ Wrote w0 w' mb pb 1073741824 1048576 L L' B tgt
set_option maxRecDepth 100000 in
set_option maxHeartbeats 2000000 in
theorem deed_tail {w0 W : World} {mb pb tb : Nat} {L L' : List Pg} {B : Nat} {er wv pa : Int} {tgt : PG} {k : Int} (hw : Wrote w0 W mb pb 1073741824 1048576 L L' B tgt) (hbl : k = 1 → Below w0.heap.size w0 W) (hs : SeenAt W tb er wv pa) (hz : er ≠ 0 → wv = 0) (hB : B ≤ w0.heap.size) (u0 u1 u2 u3 u4 u5 u6 u7 u8 u9 u10 u11 u13 u14 u15 u16 u17 u18 u19 u20 u21 u22 u23 u24 u25 u26 u27 u28 u29 u30 u31 u32 u33 u34 u35 u36 u37 : Value) :
  (tailC 2 (Tryz.f55.body.getD .skip)).wp Tryz.prog (bodyPost Tryz.prog Tryz.f55 (RPostK w0 mb pb L B k (.tuple #[.int .u64 wv, .int .i64 er]) tgt)) { tmps := List.toArray (u0 :: u1 :: u2 :: u3 :: u4 :: u5 :: u6 :: u7 :: u8 :: u9 :: u10 :: u11 :: .pointer (some ⟨tb, 0, none⟩) :: u13 :: u14 :: u15 :: u16 :: u17 :: u18 :: u19 :: u20 :: u21 :: u22 :: u23 :: u24 :: u25 :: u26 :: u27 :: u28 :: u29 :: u30 :: u31 :: u32 :: u33 :: u34 :: u35 :: u36 :: u37 :: []), defers := [] } W := by
 obtain ⟨c0, c1, c2, c3, c4, c5⟩ := hs.cells
 by_cases he : er = 0
 ·subst he
  conv => arg 2; whnf
  go_wp2_with fail
  go_ret2
  exact ⟨L', rfl, hw, hbl⟩
 ·have he0 : (er != 0) = true := by simpa using he
  obtain rfl := hz he
  have hlt := hs.lt
  conv => arg 2; whnf
  go_wp2_with fail
  refine region_later W.heap.size W (Below.refl _ _) (by kernel_rfl) (by kernel_rfl) ?_
  have y0 := later_cell (B := W.heap.size) c0 hlt
  repeat (quiet_step (fail))
  refine wpQuiet_nil ?_
  first | (rintro _ ⟨X, rfl⟩) | (intro X)
  have hX := X.h
  clear y0
  generalize X.x = w3 at *
  have hw3 := hw.late hX hB
  go_wp2_with fail
  go_ret2
  exact ⟨L', rfl, hw3, fun e => bthen (hbl e) hX⟩
theorem dvG_zero (p q : Int) (pg : PG) (g k ipa size x : Int) : (dvG p q pg g k ipa size x).2.1 ≠ 0 → (dvG p q pg g k ipa size x).2.2 = 0 := by
 unfold dvG dvV
 split
 ·split
  ·intro _; rfl
  ·split
   ·split
    ·intro h; exact absurd rfl h
    ·split <;> intro _ <;> rfl
   ·intro _; rfl
 ·intro _; rfl
set_option maxRecDepth 100000 in
set_option maxHeartbeats 4000000 in
theorem deed_any {w : World} {B mb pb rb gb cap pd qb : Nat} {L : List Pg} {p q g base n : Int} (h : RIn w B mb pb rb gb cap pd qb L p q g base n) (hgB : 0 < B) (hp : p = 1 ∨ p = 3) (hq : q = 1 ∨ q = 3) (k at' size x : Int) (hk : k = 1 ∨ k = 2) (hs : size = 1 ∨ size = 8) (hi : W64 at') (hx : W64 x) :
  Calls Tryz.prog 55 #[.pointer (some ⟨qb, 0, none⟩), .int .i64 k, .int .u64 at', .int .i64 size, .int .u64 x] w
   (RPostK w mb pb L B k (.tuple #[.int .u64 (dvG p q (L.map Pg.ab) g k at' size x).2.2, .int .i64 (dvG p q (L.map Pg.ab) g k at' size x).2.1]) (dvG p q (L.map Pg.ab) g k at' size x).1) := by
 have hdo := fun W (hm : RIn W B mb pb rb gb cap pd qb L p q g base n) => Do_any rb mb pb gb cap pd L B p q g k 0 at' size x W hm.m hgB hp hq hk hs hi hx hm.r h.ro h.go
 have hz := dvG_zero p q (L.map Pg.ab) g k at' size x
 generalize dvG p q (L.map Pg.ab) g k at' size x = dv at *
 obtain ⟨tgt, er, wv⟩ := dv
 simp only at hdo hz ⊢
 obtain ⟨a0, a1, a2, a3⟩ := h.cells
 have hnext : ∀ (W : World) (tb : Nat) (L' : List Pg) (pa : Int), Wrote w W mb pb 1073741824 1048576 L L' B tgt → (k = 1 → Below w.heap.size w W) → SeenAt W tb er wv pa → ∀ (u0 u1 u2 u3 u4 u5 u6 u7 u8 u9 u10 u11 u13 u14 u15 u16 u17 u18 u19 u20 u21 u22 u23 u24 u25 u26 u27 u28 u29 u30 u31 u32 u33 u34 u35 u36 u37 : Value),
   (tailC 2 (Tryz.f55.body.getD .skip)).wp Tryz.prog (bodyPost Tryz.prog Tryz.f55 (RPostK w mb pb L B k (.tuple #[.int .u64 wv, .int .i64 er]) tgt)) { tmps := List.toArray (u0 :: u1 :: u2 :: u3 :: u4 :: u5 :: u6 :: u7 :: u8 :: u9 :: u10 :: u11 :: .pointer (some ⟨tb, 0, none⟩) :: u13 :: u14 :: u15 :: u16 :: u17 :: u18 :: u19 :: u20 :: u21 :: u22 :: u23 :: u24 :: u25 :: u26 :: u27 :: u28 :: u29 :: u30 :: u31 :: u32 :: u33 :: u34 :: u35 :: u36 :: u37 :: []), defers := [] } W := fun W tb L' pa hw hbl hs => deed_tail hw hbl hs hz h.m.hB
 have hoff : ∀ b, w.heap.size ≤ b → b ∉ memBlks mb pb L := fun b hb' e => by have := h.m.mem.lt _ e; omega
 replace hnext := Lib.hid hnext
 replace hz := Lib.hid hz
 go_enter Tryz.func55, Tryz.ntmps55
 go_wp2_with fail
 refine region_tree (fun z => ∃ X : HeldF (fun b => b = qb) w, z = X.x) (by kernel_rfl) ?_
 have hbD : Below w.heap.size w w.drew := (Below.refl _ _).drew
 have hcc : ∀ {o : Nat} {v : Value}, w.cell? ⟨qb, o, none⟩ = some v → ∀ X : HeldF (fun b => b = qb) w, X.x.cell? ⟨qb, o, none⟩ = some v := fun hc X => by rw [← hc]; simp only [World.cell?]; rw [X.h _ rfl]
 have y0 := hcc a0
 have y1 := hcc a1
 have hD := h.later hgB hbD
 have hkq : ∀ b, b = qb → w.drew.heap[b]? = w.heap[b]? := fun _ _ => rfl
 clear hcc
 generalize w.drew = X0 at *
 refine tree_step [0, 1, 2, 3, 4, 5, 6, 7, 8, 9, 10, 11, 12] [13, 14] 2 (by kernel_rfl) (fun _ _ d _ _ h => by cases d <;> exact h) (by kernel_rfl) (by simp) rfl ⟨⟨X0, hkq⟩, rfl⟩ ?_
 simp only [List.filterMap_cons, List.filterMap_nil, List.getElem?_cons_succ, List.getElem?_cons_zero]
 repeat (change wpQuiet _ _ _ _ (List.cons _ _) _; go_big_quiet_step (fail))
 refine wpQuiet_nil ?_
 intro i hi Q₁ hQ₁ hQp
 obtain rfl | rfl := mem2 hi
 ·simp only [List.getElem?_cons_succ, List.getElem?_cons_zero, Option.toList]
  go_wp2_with fail
  refine (hdo X0 hD).mono ?_; rintro e1 X1 ⟨L', pa, rfl, hwt, hbl⟩
  have hq1 : ∀ b, b = qb → X1.heap[b]? = w.heap[b]? := fun b hb' => by subst hb'; exact (hwt.off.rest _ hD.ql h.qo).trans (hkq _ rfl)
  have hwt0 := hwt.pre hbD h.m.hB
  have hbx := bone X1 (.cells #[.int .i64 er, .int .u64 wv, .int .u64 pa, .bool false, .int .i64 0, .int .i64 0] 45)
  have hby := bone X1 (.cells #[.int .i64 0, .int .u64 0, .int .u64 0, .bool false, .int .i64 0, .int .i64 0] 45)
  have hqz : qb < X1.heap.size := Nat.lt_of_lt_of_le hD.ql hwt.off.below.size
  unfold seenN
  go_wp2_with fail
  refine hQ₁ _ _ ⟨⟨X1, hq1⟩, rfl⟩ ?_
  clear hQ₁ hQp Q₁
  refine tree_step [] [14] 1 (by kernel_rfl) (fun _ _ d _ _ h => by cases d <;> exact h) (by kernel_rfl) (by simp) rfl ⟨⟨X1, hq1⟩, rfl⟩ ?_
  simp only [List.filterMap_nil]
  repeat (change wpQuiet _ _ _ _ (List.cons _ _) _; go_big_quiet_step (fail))
  refine wpQuiet_nil ?_
  intro i hi Q₁ hQ₁ hQp
  obtain rfl := mem1 hi
  simp only [List.getElem?_cons_succ, List.getElem?_cons_zero, Option.toList]
  go_wp2_with fail
  have hq2 : ∀ b, b = qb → (X1.alloc (.cells #[.int .i64 0, .int .u64 0, .int .u64 0, .bool false, .int .i64 0, .int .i64 0] 45)).heap[b]? = w.heap[b]? := fun b hb' => (hby.block b (by subst hb'; exact hqz)).trans (hq1 b hb')
  refine hQ₁ _ _ ⟨⟨_, hq2⟩, rfl⟩ ?_
  clear hQ₁ hQp Q₁
  refine tree_step [] [15] 0 (by kernel_rfl) (fun _ _ d _ _ h => by cases d <;> exact h) (by kernel_rfl) (by simp) rfl ⟨⟨_, hq2⟩, rfl⟩ ?_
  simp only [List.filterMap_nil]
  repeat (change wpQuiet _ _ _ _ (List.cons _ _) _; go_big_quiet_step (fail))
  refine wpQuiet_nil ?_
  intro i hi Q₁ hQ₁ hQp
  obtain rfl := mem1 hi
  simp only [List.getElem?_cons_succ, List.getElem?_cons_zero, Option.toList]
  go_wp2_with fail
  have hq3 : ∀ b, b = qb → (X1.alloc (.cells #[.int .i64 er, .int .u64 wv, .int .u64 pa, .bool false, .int .i64 0, .int .i64 0] 45)).heap[b]? = w.heap[b]? := fun b hb' => (hbx.block b (by subst hb'; exact hqz)).trans (hq1 b hb')
  refine hQ₁ _ _ ⟨⟨_, hq3⟩, rfl⟩ ?_
  clear hQ₁ hQp Q₁
  refine tree_end [] (by kernel_rfl) (fun _ _ d _ _ h => by cases d <;> exact h) (by kernel_rfl) rfl ⟨⟨_, hq3⟩, rfl⟩ ?_
  simp only [List.filterMap_nil]
  refine wpQuiet_nil ?_
  have hwF := hwt0.late hbx h.m.hB
  go_upto_region 999 with ((with_reducible show Code.wp _ _ (bodyPost _ _ _) _ _); exact hnext.out _ _ _ _ hwF (fun e => bthen (bthen hbD (hbl e)) hbx) (World.alloc_heap_new _ _) _ _ _ _ _ _ _ _ _ _ _ _ _ _ _ _ _ _ _ _ _ _ _ _ _ _ _ _ _ _ _ _ _ _ _ _ _)
 ·simp only [List.getElem?_cons_succ, List.getElem?_cons_zero, Option.toList]
  go_wp2_with fail
  obtain ⟨X1, hX1⟩ : ∃ X1, X1 = X0.alloc (.cells #[.int .i64 0, .int .u64 0, .int .u64 0, .bool false, .int .i64 0, .int .i64 0] 45) := ⟨_, rfl⟩
  have hbx := bone X0 (.cells #[.int .i64 0, .int .u64 0, .int .u64 0, .bool false, .int .i64 0, .int .i64 0] 45)
  have sn1 : SeenAt X1 X0.heap.size 0 0 0 := by rw [hX1]; exact World.alloc_heap_new _ _
  rw [← hX1] at hbx ⊢
  have hq1 : ∀ b, b = qb → X1.heap[b]? = w.heap[b]? := fun b hb' => (hbx.block b (by subst hb'; exact hD.ql)).trans (hkq b hb')
  have hD1 := hD.later hgB hbx
  refine hQ₁ _ _ ⟨⟨X1, hq1⟩, rfl⟩ ?_
  clear hQ₁ hQp Q₁ hX1
  refine tree_step [] [13] 1 (by kernel_rfl) (fun _ _ d _ _ h => by cases d <;> exact h) (by kernel_rfl) (by simp) rfl ⟨⟨X1, hq1⟩, rfl⟩ ?_
  simp only [List.filterMap_nil]
  repeat (change wpQuiet _ _ _ _ (List.cons _ _) _; go_big_quiet_step (fail))
  refine wpQuiet_nil ?_
  intro i hi Q₁ hQ₁ hQp
  obtain rfl := mem1 hi
  simp only [List.getElem?_cons_succ, List.getElem?_cons_zero, Option.toList]
  go_wp2_with fail
  refine (hdo X1 hD1).mono ?_; rintro e1 X2 ⟨L', pa, rfl, hwt, hbl⟩
  have hz0 := hbD.size
  have hz1 := hbx.size
  have hq2 : ∀ b, b = qb → X2.heap[b]? = w.heap[b]? := fun b hb' => by subst hb'; exact (hwt.off.rest _ hD1.ql h.qo).trans (hq1 _ rfl)
  have hwt0 := hwt.pre (bthen hbD hbx) h.m.hB
  have sn2 : SeenAt X2 X0.heap.size 0 0 0 := (hwt.off.rest _ sn1.lt (hoff _ hz0)).trans sn1
  have hnL : X0.heap.size ∉ memBlks mb pb L' := fun e => by
   rcases hwt.blks _ e with e2 | e2
   ·exact hoff _ hz0 e2
   ·have := sn1.lt; omega
  have hstE := hwt0.told h.m.hB hz0 hnL (.int .i64 er) (.int .u64 wv) (.int .u64 pa) (.bool false) (.int .i64 0) (.int .i64 0)
  obtain ⟨c0, c1, c2, c3, c4, c5⟩ := sn2.cells
  have hf := sn2.frozen
  have f0 := hf 0
  have f1 := hf 1
  have f2 := hf 2
  have f3 := hf 3
  have f4 := hf 4
  have f5 := hf 5
  clear hf
  unfold seenN
  go_wp2_with fail
  refine hQ₁ _ _ ⟨⟨X2, hq2⟩, rfl⟩ ?_
  clear hQ₁ hQp Q₁
  refine tree_step [] [15] 0 (by kernel_rfl) (fun _ _ d _ _ h => by cases d <;> exact h) (by kernel_rfl) (by simp) rfl ⟨⟨X2, hq2⟩, rfl⟩ ?_
  simp only [List.filterMap_nil]
  repeat (change wpQuiet _ _ _ _ (List.cons _ _) _; go_big_quiet_step (fail))
  refine wpQuiet_nil ?_
  intro i hi Q₁ hQ₁ hQp
  obtain rfl := mem1 hi
  simp only [List.getElem?_cons_succ, List.getElem?_cons_zero, Option.toList]
  go_wp2_with fail
  have hqn : qb ≠ X0.heap.size := by have := hD.ql; omega
  have ho : ∀ (b i : Nat) (u : Value) (W : World), b = qb → (W.setCell ⟨X0.heap.size, i, none⟩ u).heap[b]? = W.heap[b]? := fun b i u W hb' => Below.heap_setCell _ _ _ _ (by subst hb'; simpa using hqn)
  obtain ⟨X3, hX3⟩ : ∃ X3, X3 = ((((((X2.setCell ⟨X0.heap.size, 0, none⟩ (.int .i64 er)).setCell ⟨X0.heap.size, 1, none⟩ (.int .u64 wv)).setCell ⟨X0.heap.size, 2, none⟩ (.int .u64 pa)).setCell ⟨X0.heap.size, 3, none⟩ (.bool false)).setCell ⟨X0.heap.size, 4, none⟩ (.int .i64 0)).setCell ⟨X0.heap.size, 5, none⟩ (.int .i64 0)) := ⟨_, rfl⟩
  have hq3 : ∀ b, b = qb → X3.heap[b]? = w.heap[b]? := fun b hb' => by rw [hX3, ho _ _ _ _ hb', ho _ _ _ _ hb', ho _ _ _ _ hb', ho _ _ _ _ hb', ho _ _ _ _ hb', ho _ _ _ _ hb']; exact hq2 b hb'
  have sn3 : SeenAt X3 X0.heap.size er wv pa := by
   rw [hX3]
   exact heapAt_put (heapAt_put (heapAt_put (heapAt_put (heapAt_put (heapAt_put sn2 0 (.int .i64 er)) 1 (.int .u64 wv)) 2 (.int .u64 pa)) 3 (.bool false)) 4 (.int .i64 0)) 5 (.int .i64 0)
  have hblE : k = 1 → Below w.heap.size w X3 := fun e => by rw [hX3]; exact below_six (bthen (bthen hbD hbx) (hbl e)) hz0 _ _ _ _ _ _
  rw [← hX3] at hstE ⊢
  refine hQ₁ _ _ ⟨⟨X3, hq3⟩, rfl⟩ ?_
  clear hQ₁ hQp Q₁ hX3
  refine tree_end [] (by kernel_rfl) (fun _ _ d _ _ h => by cases d <;> exact h) (by kernel_rfl) rfl ⟨⟨X3, hq3⟩, rfl⟩ ?_
  simp only [List.filterMap_nil]
  refine wpQuiet_nil ?_
  go_upto_region 999 with ((with_reducible show Code.wp _ _ (bodyPost _ _ _) _ _); exact hnext.out _ _ _ _ hstE hblE sn3 _ _ _ _ _ _ _ _ _ _ _ _ _ _ _ _ _ _ _ _ _ _ _ _ _ _ _ _ _ _ _ _ _ _ _ _ _)
end Go.Proofs.YtgihknfoncljbaaGreatDoor
/- A ring: its room, loads and stores, its counts, its places. -/
namespace Go.Proofs.YtgihknfoncljbaaGreatDoor
open Go Go.RowKit Go.Shelf Go.BigFrame Go.Maps
attribute [local go_sem] Oper.semAt_some
theorem dvG_load (p q : Int) (pg : PG) (g at' size x : Int) : (dvG p q pg g 1 at' size x).1 = pg := by
 unfold dvG dvV
 split
 ·split
  ·rfl
  ·split <;> simp
 ·rfl
theorem dvG_w64 {p q : Int} {pg : PG} (h : PgOk pg) (g k at' size x : Int) (hs : size = 1 ∨ size = 8) : W64 (dvG p q pg g k at' size x).2.2 := by
 have h0 : W64 0 := by unfold W64; omega
 unfold dvG dvV
 split
 ·split
  ·exact h0
  ·split
   ·split
    ·have := le_bd (rdB_byte h (P0 + (at' - (65536 + 32768 * g))) size.toNat)
     rw [rdB_len] at this
     show W64 (le _)
     unfold W64
     rcases hs with rfl | rfl
     ·have e : (256 : Int) ^ (1 : Int).toNat = 256 := by decide
      rw [e] at this
      exact ⟨this.1, by have := this.2; omega⟩
     ·have e : (256 : Int) ^ (8 : Int).toNat = 18446744073709551616 := by decide
      rw [e] at this
      exact ⟨this.1, by have := this.2; omega⟩
    ·split <;> exact h0
   ·exact h0
 ·exact h0
section
variable {w : World} {B mb pb rb gb cap pd qb : Nat} {L : List Pg} {p q g base n : Int}
set_option maxHeartbeats 1000000 in
theorem load_any (h : RIn w B mb pb rb gb cap pd qb L p q g base n) (hgB : 0 < B) (hp : p = 1 ∨ p = 3) (hq : q = 1 ∨ q = 3) (at' size : Int) (hs : size = 1 ∨ size = 8) (hi : W64 at') :
  Calls Tryz.prog 29 #[.pointer (some ⟨qb, 0, none⟩), .int .u64 at', .int .i64 size] w
   fun e w' => e = .returned (.tuple #[.int .u64 (dvG p q (L.map Pg.ab) g 1 at' size 0).2.2, .int .i64 (dvG p q (L.map Pg.ab) g 1 at' size 0).2.1]) ∧ Below w.heap.size w w' := by
 have hd := deed_any h hgB hp hq 1 at' size 0 (.inl rfl) hs hi (by unfold W64; omega)
 rw [dvG_load] at hd
 generalize (dvG p q (L.map Pg.ab) g 1 at' size 0).2 = r at *
 obtain ⟨er, wv⟩ := r
 simp only at hd ⊢
 go_enter Tryz.func29, Tryz.ntmps29
 go_wp2_with fail
 refine hd.mono ?_; rintro e w2 ⟨L', rfl, hw, hbl⟩
 go_wp2_with fail
 go_ret2
 exact ⟨rfl, by first | exact hbl rfl | exact hbl trivial | exact hbl⟩
set_option maxHeartbeats 1000000 in
theorem store_any (h : RIn w B mb pb rb gb cap pd qb L p q g base n) (hgB : 0 < B) (hp : p = 1 ∨ p = 3) (hq : q = 1 ∨ q = 3) (at' size x : Int) (hs : size = 1 ∨ size = 8) (hi : W64 at') (hx : W64 x) :
  Calls Tryz.prog 27 #[.pointer (some ⟨qb, 0, none⟩), .int .u64 at', .int .i64 size, .int .u64 x] w
   (RPost w mb pb L B (.int .i64 (dvG p q (L.map Pg.ab) g 2 at' size x).2.1) (dvG p q (L.map Pg.ab) g 2 at' size x).1) := by
 have hd := deed_any h hgB hp hq 2 at' size x (.inr rfl) hs hi hx
 generalize dvG p q (L.map Pg.ab) g 2 at' size x = r at *
 obtain ⟨tgt, er, wv⟩ := r
 simp only at hd ⊢
 go_enter Tryz.func27, Tryz.ntmps27
 go_wp2_with fail
 refine hd.mono ?_; rintro e w2 ⟨L', rfl, hw, _⟩
 go_wp2_with fail
 go_ret
 exact ⟨L', rfl, hw⟩
theorem room_any (n : Int) (qb : Nat) (w : World) (hc : w.cell? ⟨qb, 3, none⟩ = some (.int .i64 n)) (hn : 32 ≤ n ∧ n ≤ 65536) : Calls Tryz.prog 11 #[.pointer (some ⟨qb, 0, none⟩)] w fun e w' => e = .returned (.int .i64 (n - 16)) ∧ w = w' := by
 have h0 : (n == 0) = false := by simp; omega
 have hw : IntKind.i64.wrap (n - 16) = n - 16 := IntWalk.i64_in _ (by omega)
 go_enter Tryz.func11, Tryz.ntmps11
 go_wp2_with fail
 go_ret
 exact ⟨rfl, rfl⟩
theorem room_nil (w : World) : Calls Tryz.prog 11 #[.pointer none] w fun e w' => e = .returned (.int .i64 0) ∧ w = w' := by
 go_enter Tryz.func11, Tryz.ntmps11
 go_wp2_with fail
 go_ret
 exact ⟨rfl, rfl⟩
def cntV (D : Int → Int × Int) (base n : Int) : Int × Int × Int :=
 if (D base).1 ≠ 0 then (0, 0, (D base).1)
 else if (D (base + 8)).1 ≠ 0 then (0, 0, (D (base + 8)).1)
 else if n - 16 < IntKind.u64.wrap ((D base).2 - (D (base + 8)).2) then (0, 0, 360)
 else ((D base).2, (D (base + 8)).2, 0)
def ldV (p q : Int) (pg : PG) (g : Int) (a : Int) : Int × Int := (dvG p q pg g 1 a 8 0).2
theorem counts_nil (w : World) : Calls Tryz.prog 13 #[.pointer none] w fun e w' => e = .returned (.tuple #[.int .u64 0, .int .u64 0, .int .i64 1]) ∧ w = w' := by
 have hr := fun W => room_nil W
 go_enter Tryz.func13, Tryz.ntmps13
 go_wp2_with fail
 refine (hr _).mono ?_; rintro e w2 ⟨rfl, rfl⟩
 go_wp2_with fail
 refine bodyPost_ret (v := .tuple #[.int .u64 0, .int .u64 0, .int .i64 1]) (by simp [results, Tryz.results13, go_sem]) rfl ?_
 exact ⟨rfl, rfl⟩
set_option maxHeartbeats 2000000 in
theorem counts_low (h : RIn w B mb pb rb gb cap pd qb L p q g base n) (hgB : 0 < B) (hp : p = 1 ∨ p = 3) (hq : q = 1 ∨ q = 3) (hn : 32 ≤ n ∧ n ≤ 65536) (hb : 0 ≤ base ∧ base ≤ 1099511627776) :
  Calls Tryz.prog 13 #[.pointer (some ⟨qb, 0, none⟩)] w
   fun e w' => e = .returned (.tuple #[.int .u64 (cntV (ldV p q (L.map Pg.ab) g) base n).1, .int .u64 (cntV (ldV p q (L.map Pg.ab) g) base n).2.1, .int .i64 (cntV (ldV p q (L.map Pg.ab) g) base n).2.2]) ∧ Below w.heap.size w w' := by
 have hr := fun (W : World) (L' : List Pg) (hI : RIn W B mb pb rb gb cap pd qb L' p q g base n) => room_any n qb W hI.cells.2.2.2 hn
 have hl := fun (W : World) (L' : List Pg) (hI : RIn W B mb pb rb gb cap pd qb L' p q g base n) (a : Int) (ha : W64 a) => load_any hI hgB hp hq a 8 (.inr rfl) ha
 have ht := h.m.tab
 have b0 : W64 base := by unfold W64; omega
 have b8 : W64 (base + 8) := by unfold W64; omega
 have v0 : W64 (ldV p q (L.map Pg.ab) g base).2 := dvG_w64 ht.ok g 1 base 8 0 (.inr rfl)
 have v8 : W64 (ldV p q (L.map Pg.ab) g (base + 8)).2 := dvG_w64 ht.ok g 1 (base + 8) 8 0 (.inr rfl)
 have e0 : ∀ a, (dvG p q (L.map Pg.ab) g 1 a 8 0).2 = ldV p q (L.map Pg.ab) g a := fun _ => rfl
 have hcv : cntV (ldV p q (L.map Pg.ab) g) base n = (if (ldV p q (L.map Pg.ab) g base).1 ≠ 0 then (0, 0, (ldV p q (L.map Pg.ab) g base).1)
   else if (ldV p q (L.map Pg.ab) g (base + 8)).1 ≠ 0 then (0, 0, (ldV p q (L.map Pg.ab) g (base + 8)).1)
   else if n - 16 < IntKind.u64.wrap ((ldV p q (L.map Pg.ab) g base).2 - (ldV p q (L.map Pg.ab) g (base + 8)).2) then (0, 0, 360)
   else ((ldV p q (L.map Pg.ab) g base).2, (ldV p q (L.map Pg.ab) g (base + 8)).2, 0)) := rfl
 rw [hcv]
 clear hcv
 obtain ⟨c0, c1, c2, c3⟩ := h.cells
 have hr0 := hr w L h
 have hl0 := hl w L h base b0
 rw [e0] at hl0
 have hne : (n - 16 == 0) = false := by simp; omega
 have hw8 : IntKind.u64.wrap (base + 8) = base + 8 := by rw [IntKind.wrap_u64]; omega
 have hwn : IntKind.u64.wrap (n - 16) = n - 16 := by rw [IntKind.wrap_u64]; omega
 generalize hx0 : ldV p q (L.map Pg.ab) g base = r0 at *
 generalize hx8 : ldV p q (L.map Pg.ab) g (base + 8) = r8 at *
 obtain ⟨er0, h0⟩ := r0
 obtain ⟨er8, h8⟩ := r8
 simp only at hl0 v0 v8 ⊢
 have v00 := v0.1
 have v01 := v0.2
 have v80 := v8.1
 have v81 := v8.2
 replace hx0 := Lib.hid hx0
 replace hx8 := Lib.hid hx8
 by_cases z0 : er0 = 0
 ·subst z0
  rw [if_neg (by simp)]
  by_cases z8 : er8 = 0
  ·subst z8
   rw [if_neg (by simp)]
   by_cases hgt : n - 16 < IntKind.u64.wrap (h0 - h8)
   all_goals
    first | rw [if_pos hgt] | rw [if_neg hgt]
    go_enter Tryz.func13, Tryz.ntmps13
    go_wp2_with fail
    refine hr0.mono ?_; rintro e w2 ⟨rfl, rfl⟩
    clear hr0
    go_wp2_with fail
    refine hl0.mono ?_; rintro e w2 ⟨rfl, hw2⟩
    clear hl0
    have hI2 := h.later hgB hw2
    obtain ⟨d0, d1, d2, d3⟩ := hI2.cells
    have hl2 := hl w2 L hI2 (base + 8) b8
    rw [e0, hx8.out] at hl2
    simp only at hl2
    clear hl
    go_wp2_with fail
    refine hl2.mono ?_; rintro e w3 ⟨rfl, hw3⟩
    clear hl2
    have hI3 := hI2.later hgB hw3
    have hr3 := hr w3 L hI3
    have hwt := bthen hw2 hw3
    clear hr
    go_wp2_with fail
    refine hr3.mono ?_; rintro e w4 ⟨rfl, rfl⟩
    go_wp2_with fail
    first
     | (refine bodyPost_ret (v := .tuple #[.int .u64 0, .int .u64 0, .int .i64 360]) (by simp [results, Tryz.results13, go_sem]) rfl ?_
        exact ⟨rfl, hwt⟩)
     | (refine bodyPost_ret (v := .tuple #[.int .u64 h0, .int .u64 h8, .int .i64 0]) (by simp [results, Tryz.results13, go_sem]) rfl ?_
        exact ⟨rfl, hwt⟩)
  ·rw [if_pos z8]
   have z8' : (er8 != 0) = true := by simpa using z8
   go_enter Tryz.func13, Tryz.ntmps13
   go_wp2_with fail
   refine hr0.mono ?_; rintro e w2 ⟨rfl, rfl⟩
   clear hr0
   go_wp2_with fail
   refine hl0.mono ?_; rintro e w2 ⟨rfl, hw2⟩
   clear hl0
   have hI2 := h.later hgB hw2
   obtain ⟨d0, d1, d2, d3⟩ := hI2.cells
   have hl2 := hl w2 L hI2 (base + 8) b8
   rw [e0, hx8.out] at hl2
   simp only at hl2
   clear hl
   go_wp2_with fail
   refine hl2.mono ?_; rintro e w3 ⟨rfl, hw3⟩
   clear hl2
   have hwt := bthen hw2 hw3
   go_wp2_with fail
   refine bodyPost_ret (v := .tuple #[.int .u64 0, .int .u64 0, .int .i64 er8]) (by simp [results, Tryz.results13, go_sem]) rfl ?_
   exact ⟨rfl, hwt⟩
 ·rw [if_pos z0]
  have z0' : (er0 != 0) = true := by simpa using z0
  go_enter Tryz.func13, Tryz.ntmps13
  go_wp2_with fail
  refine hr0.mono ?_; rintro e w2 ⟨rfl, rfl⟩
  clear hr0
  go_wp2_with fail
  refine hl0.mono ?_; rintro e w2 ⟨rfl, hw2⟩
  clear hl0
  go_wp2_with fail
  refine bodyPost_ret (v := .tuple #[.int .u64 0, .int .u64 0, .int .i64 er0]) (by simp [results, Tryz.results13, go_sem]) rfl ?_
  exact ⟨rfl, hw2⟩
theorem counts_any (h : RIn w B mb pb rb gb cap pd qb L p q g base n) (hgB : 0 < B) (hp : p = 1 ∨ p = 3) (hq : q = 1 ∨ q = 3) (hn : 32 ≤ n ∧ n ≤ 65536) (hb : 0 ≤ base ∧ base ≤ 1099511627776) :
  Calls Tryz.prog 13 #[.pointer (some ⟨qb, 0, none⟩)] w
   (RPost w mb pb L B (.tuple #[.int .u64 (cntV (ldV p q (L.map Pg.ab) g) base n).1, .int .u64 (cntV (ldV p q (L.map Pg.ab) g) base n).2.1, .int .i64 (cntV (ldV p q (L.map Pg.ab) g) base n).2.2]) (L.map Pg.ab)) :=
 (counts_low h hgB hp hq hn hb).mono fun _ _ ⟨he, hl⟩ => ⟨L, he, Wrote.stay h.m.mem hl h.m.hB⟩
end
end Go.Proofs.YtgihknfoncljbaaGreatDoor
/- The places of a ring's room, one behind the other. -/
namespace Go.Proofs.YtgihknfoncljbaaGreatDoor
open Go Go.RowKit Go.Shelf Go.BigFrame Go.Maps
attribute [local go_sem] Oper.semAt_some
def plcN (base n fr : Int) (i : Nat) : Int := base + 16 + IntKind.u64.wrap (fr + i) % (n - 16)
theorem fin_succ {N k : Nat} (h : k < N) : (List.finRange N).take (k + 1) = (List.finRange N).take k ++ [⟨k, h⟩] := by
 rw [List.take_succ_eq_append_getElem (by rw [List.length_finRange]; exact h)]
 simp
theorem plcN_bd {base n fr : Int} (_hb : 0 ≤ base ∧ base ≤ 1099511627776) (hn : 32 ≤ n ∧ n ≤ 65536) (i : Nat) : base + 16 ≤ plcN base n fr i ∧ plcN base n fr i < base + n := by
 unfold plcN
 have := Int.emod_nonneg (IntKind.u64.wrap (fr + i)) (show n - 16 ≠ 0 by omega)
 have := Int.emod_lt_of_pos (IntKind.u64.wrap (fr + i)) (show 0 < n - 16 by omega)
 omega
structure KeepsL (bs : List Nat) (W W' : World) : Prop where
 size : W.heap.size ≤ W'.heap.size
 same : ∀ b ∈ bs, W'.heap[b]? = W.heap[b]?
theorem KeepsL.refl (bs : List Nat) (W : World) : KeepsL bs W W := ⟨Nat.le_refl _, fun _ _ => rfl⟩
theorem KeepsL.trans {bs : List Nat} {A B C : World} (h : KeepsL bs A B) (k : KeepsL bs B C) : KeepsL bs A C := ⟨Nat.le_trans h.size k.size, fun b hb => (k.same b hb).trans (h.same b hb)⟩
theorem KeepsL.of_below {bs : List Nat} {W W' : World} (h : Below W.heap.size W W') (hb : ∀ b ∈ bs, b < W.heap.size) : KeepsL bs W W' := ⟨h.size, fun b hm => h.block b (hb b hm)⟩
theorem KeepsL.put {bs : List Nat} {w : World} (hb : ∀ b ∈ bs, b < w.heap.size) (W : World) (l : Nat) (o o' : Obj) (hl : w.heap.size ≤ l) (_ : W.heap[l]? = some o) (_ : o.isCells = false) (_ : o.isWalk = false) : KeepsL bs W (W.putObj l o') := by
 have hg := grownBy_putObj' W l o'
 exact ⟨hg.size, fun b hm => by
  have := hb b hm
  rw [show (W.putObj l o').heap = W.heap.setIfInBounds l o' from rfl, Array.getElem?_setIfInBounds_ne (by omega)]⟩
set_option maxRecDepth 20000 in
set_option maxHeartbeats 1000000 in
theorem places_in (n : Nat) (qp : Value) (fr many : Int) (w : World) (hq : ∃ x, qp = .pointer x) :
  CallsIn Fence.wide n Tryz.prog 26 #[qp, .int .u64 fr, .int .i64 many] w fun e w' => e = .returned (.func (.func 54) #[] #[.pointer (some ⟨w.heap.size + 1 + 1, 0, none⟩), .pointer (some ⟨w.heap.size + 1, 0, none⟩), .pointer (some ⟨w.heap.size, 0, none⟩)]) ∧ w' = ((w.alloc (.cells #[qp] 29)).alloc (.cells #[.int .u64 fr] 31)).alloc (.cells #[.int .i64 many] 3) := by
 obtain ⟨x, rfl⟩ := hq
 refine callsIn_of_wp Tryz.func26 rfl trivial ?_ rfl
 simp only [Tryz.ntmps26, List.size_toArray, List.length_cons, List.length_nil, Nat.reduceAdd, Nat.reduceSub, Array.replicate_succ, Array.replicate_zero, List.push_toArray, List.append_toArray, List.nil_append, List.cons_append]
 gi_wp2
 go_ret
 exact ⟨rfl, rfl⟩
set_option maxRecDepth 100000 in
set_option maxHeartbeats 4000000 in
theorem places1_in (k0 l Bm Bf Bq qb : Nat) (hk0 : 1 ≤ k0) (base n fr : Int) (N : Nat) (hn : 32 ≤ n ∧ n ≤ 65536) (hb : 0 ≤ base ∧ base ≤ 1099511627776) (hfr : W64 fr) (hN : N ≤ 1000000) (J Jx : List (Fin N) → World → Prop)
  (hY : ∀ pre (x : Fin N) W, J pre W → pre.length < N → YieldAt Fence.wide (k0 - 1) Tryz.prog l #[.int .i64 (x.val : Nat), .int .u64 (plcN base n fr x.val)] W fun e W' =>
   (e = .returned (.bool true) ∧ J (pre ++ [x]) W' ∧ KeepsL [Bm, Bf, Bq, qb] W W') ∨ (e = .returned (.bool false) ∧ Jx (pre ++ [x]) W'))
  (W : World) (hJ : AbidesFrom W.heap.size J) (hm : W.cell? ⟨Bm, 0, none⟩ = some (.int .i64 N)) (hf : W.cell? ⟨Bf, 0, none⟩ = some (.int .u64 fr)) (hq : W.cell? ⟨Bq, 0, none⟩ = some (.pointer (some ⟨qb, 0, none⟩))) (hq2 : W.cell? ⟨qb, 2, none⟩ = some (.int .u64 base)) (hq3 : W.cell? ⟨qb, 3, none⟩ = some (.int .i64 n)) (h0 : J [] W) :
  CallsIn Fence.wide k0 Tryz.prog 54 #[.func (.yield l) #[] #[], .pointer (some ⟨Bm, 0, none⟩), .pointer (some ⟨Bf, 0, none⟩), .pointer (some ⟨Bq, 0, none⟩)] W fun e W' => (∃ v, e = .returned v) ∧
   ((∃ ys, ys = List.finRange N ∧ J ys W') ∨ (∃ pre, (∃ t, List.finRange N = pre ++ t) ∧ Jx pre W')) := by
 have hl1 := World.block_lt_of_cell? W _ hm
 have hl2 := World.block_lt_of_cell? W _ hf
 have hl3 := World.block_lt_of_cell? W _ hq
 have hl4 := World.block_lt_of_cell? W _ hq2
 have hfr0 := hfr.1
 have hfr1 := hfr.2
 have hroom := fun W h => room_any n qb W h hn
 have hwn : IntKind.u64.wrap (n - 16) = n - 16 := by rw [IntKind.wrap_u64]; omega
 have hn0 : (n - 16 == 0) = false := by simp; omega
 have hw16 : IntKind.u64.wrap (base + 16) = base + 16 := by rw [IntKind.wrap_u64]; omega
 have hpl0 : ∀ k : Nat, base + 16 + IntKind.u64.wrap (fr + k) % (n - 16) = plcN base n fr k := fun _ => rfl
 have hn1 : n - 16 ≠ 0 := by omega
 generalize hR : n - 16 = R at *
 replace hR := Lib.hid hR
 refine callsIn_of_wp Tryz.func54 rfl trivial ?_ rfl
 simp only [Tryz.ntmps54, List.size_toArray, List.length_cons, List.length_nil, Nat.reduceAdd, Nat.reduceSub, Array.replicate_succ, Array.replicate_zero, List.push_toArray, List.append_toArray, List.nil_append, List.cons_append]
 gi_wp2
 gi_loopw [8] (fun i wr => ∃ k : Nat, k ≤ N ∧ i = .int .i64 k ∧ J ((List.finRange N).take k) wr ∧ KeepsL [Bm, Bf, Bq, qb] W wr) (fun i _ => N - (intOf i).toNat)
 case atStart => exact ⟨0, Nat.zero_le _, rfl, by rw [List.take_zero]; exact h0, KeepsL.refl _ _⟩
 case round =>
  obtain ⟨k, hk, rfl, hJs, hK⟩ := hrel
  by_cases hlt : k < N
  ·have cm := (World.cell?_of_block (hK.same Bm (by simp))).trans hm
   have cf := (World.cell?_of_block (hK.same Bf (by simp))).trans hf
   have cq := (World.cell?_of_block (hK.same Bq (by simp))).trans hq
   have cq2 := (World.cell?_of_block (hK.same qb (by simp))).trans hq2
   have cq3 := (World.cell?_of_block (hK.same qb (by simp))).trans hq3
   have hsz := hK.size
   have hbd := plcN_bd (fr := fr) hb hn k
   have hpl := hpl0 k
   have htm : (IntKind.u64.wrap (fr + k)).tmod R = IntKind.u64.wrap (fr + k) % R := Int.tmod_eq_emod_of_nonneg (by rw [IntKind.wrap_u64]; omega)
   have hwk : IntKind.u64.wrap (k : Int) = k := by rw [IntKind.wrap_u64]; omega
   have hwp : IntKind.u64.wrap (plcN base n fr k) = plcN base n fr k := by rw [IntKind.wrap_u64]; omega
   have hsn := fin_succ hlt
   have ht : List.finRange N = (List.finRange N).take (k + 1) ++ (List.finRange N).drop (k + 1) := (List.take_append_drop _ _).symm
   have hlk : ((List.finRange N).take k).length < N := by rw [List.length_take, List.length_finRange]; omega
   replace ht := Lib.hid ht
   replace hsn := Lib.hid hsn
   clear hbd
   gi_wp2
   refine region_later_in wr.heap.size wr (Below.refl _ _) rfl (by kernel_rfl) (by kernel_rfl) ?_
   have y0 := later_cell (B := wr.heap.size) cf (by omega)
   have y1 := later_cell (B := wr.heap.size) cq (by omega)
   have y2 := later_cell (B := wr.heap.size) cq3 (by omega)
   repeat (refine wpQuietIn_step (fun _ _ _ _ => trivial) (fun K hK => ?_); go_simp; first | (refine hK _ ?_; clear hK K) | (apply Exists.intro; refine ⟨fun _ => ?_, hK _ ?_⟩; (first | (gi_at_call 11; exact quiet_later_in (Nat.le_refl _) (callsIn_wide.2 ((hroom _ (y2 _)).mono fun e w' h => ⟨h.1, h.2 ▸ Below.refl _ _⟩)))); clear hK K))
   refine wpQuietIn_nil ?_
   first | (rintro _ ⟨X, rfl⟩) | (intro X)
   have hX := X.h
   clear y0 y1 y2
   generalize X.x = w3 at *
   have hK3 := hK.trans (KeepsL.of_below (bs := [Bm, Bf, Bq, qb]) hX (by simp; omega))
   have hJ3 := hJ _ wr w3 none hJs (grown_of_below hX) (fun _ e => by cases e)
   have cq' := (World.cell?_of_block (hK3.same Bq (by simp))).trans hq
   have cq2' := (World.cell?_of_block (hK3.same qb (by simp))).trans hq2
   have hy0 := hY _ ⟨k, hlt⟩ w3 hJ3 hlk
   simp only at hy0
   obtain ⟨fn, tmps, assign, body, hy, hRd⟩ := hy0
   clear hlk
   gi_wp2
   refine hRd.mono ?_
   rintro e W3 (⟨rfl, hJ4, hk4⟩ | ⟨rfl, hJx4⟩)
   ·gi_wp2
    go_roundw
    case rel => exact ⟨k + 1, by omega, by go_num, by rw [hsn.out]; exact hJ4, hK3.trans hk4⟩
    case measure => simp [intOf]; omega
   ·gi_wp2
    refine bodyPost_ret (results_none rfl _ _ _) rfl ?_
    refine ⟨⟨_, rfl⟩, .inr ⟨_, ⟨(List.finRange N).drop (k + 1), ?_⟩, hJx4⟩⟩
    rw [← hsn.out]
    exact ht.out
  ·obtain rfl : k = N := by omega
   gi_wp2
   go_end0
   rw [List.take_of_length_le (by rw [List.length_finRange]; exact Nat.le_refl _)] at hJs
   exact ⟨⟨_, rfl⟩, .inl ⟨_, rfl, hJs⟩⟩
theorem places_stops (k0 Bm Bf Bq qb : Nat) (w : World) (hk0 : 1 ≤ k0) (base n fr : Int) (N : Nat) (hn : 32 ≤ n ∧ n ≤ 65536) (hb : 0 ≤ base ∧ base ≤ 1099511627776) (hfr : W64 fr) (hN : N ≤ 1000000)
  (hm : w.cell? ⟨Bm, 0, none⟩ = some (.int .i64 N)) (hf : w.cell? ⟨Bf, 0, none⟩ = some (.int .u64 fr)) (hq : w.cell? ⟨Bq, 0, none⟩ = some (.pointer (some ⟨qb, 0, none⟩))) (hq2 : w.cell? ⟨qb, 2, none⟩ = some (.int .u64 base)) (hq3 : w.cell? ⟨qb, 3, none⟩ = some (.int .i64 n)) :
  SeqStopsK Fence.wide k0 Tryz.prog 54 #[.pointer (some ⟨Bm, 0, none⟩), .pointer (some ⟨Bf, 0, none⟩), .pointer (some ⟨Bq, 0, none⟩)] (fun x : Fin N => #[.int .i64 (x.val : Nat), .int .u64 (plcN base n fr x.val)]) (KeepsL [Bm, Bf, Bq, qb]) (fun ys => ys = List.finRange N) (fun pre => ∃ t, List.finRange N = pre ++ t) N w :=
 fun l J Jx W hW1 hJ _ hY h00 => places1_in k0 l Bm Bf Bq qb hk0 base n fr N hn hb hfr hN J Jx hY W hJ (cell_lt hW1 hm (World.block_lt_of_cell? w _ hm)) (cell_lt hW1 hf (World.block_lt_of_cell? w _ hf)) (cell_lt hW1 hq (World.block_lt_of_cell? w _ hq)) (cell_lt hW1 hq2 (World.block_lt_of_cell? w _ hq2)) (cell_lt hW1 hq3 (World.block_lt_of_cell? w _ hq3)) h00
end Go.Proofs.YtgihknfoncljbaaGreatDoor
/- A message, framed; what a ring sends. -/
namespace Go.Proofs.YtgihknfoncljbaaGreatDoor
open Go Go.RowKit Go.Shelf Go.BigFrame Go.Maps
attribute [local go_sem] Oper.semAt_some
def GivB (w : World) (v : Value) (l : List Int) : Prop :=
 (v = .slice none 0 0 ∧ l = []) ∨ ∃ a cap, v = .slice (some a) l.length cap ∧ (l ≠ [] → ∃ b off, a = ⟨b, off, none⟩ ∧ b < w.heap.size ∧ ∀ i (h : i < l.length), w.cell? ⟨b, off + i, none⟩ = some (.int .u8 l[i]))
theorem GivB.later {w w' : World} {v : Value} {l : List Int} (h : GivB w v l) (hb : Below w.heap.size w w') : GivB w' v l := by
 rcases h with h | ⟨a, cap, h1, h4⟩
 ·exact .inl h
 ·refine .inr ⟨a, cap, h1, fun hne => ?_⟩
  obtain ⟨b, off, ha, h2, h3⟩ := h4 hne
  exact ⟨b, off, ha, Nat.lt_of_lt_of_le h2 hb.size, fun i hi => (hb.cell (p := ⟨b, _, none⟩) h2).trans (h3 i hi)⟩
theorem GivB.open {w : World} {v : Value} {l : List Int} (h : GivB w v l) : ∃ a cap, v = .slice a l.length cap := by
 rcases h with ⟨h, rfl⟩ | ⟨a, cap, h1, _⟩
 ·exact ⟨none, 0, h⟩
 ·exact ⟨_, cap, h1⟩
theorem len4_get (N k : Nat) (h : k < 4) : (len4 N)[k]? = some ((N : Int) / 256 ^ k % 256) := by
 have : k = 0 ∨ k = 1 ∨ k = 2 ∨ k = 3 := by omega
 rcases this with rfl | rfl | rfl | rfl <;> simp [len4]
theorem len4_len (N : Nat) : (len4 N).length = 4 := rfl
set_option maxRecDepth 20000 in
set_option maxHeartbeats 2000000 in
theorem framed_any (v : Value) (l : List Int) (w : World) (hv : GivB w v l) (hl : ∀ c ∈ l, 0 ≤ c ∧ c < 256) (hlen : l.length ≤ 65536) :
  Calls Tryz.prog 25 #[v] w fun e w' => ∃ v', e = .returned v' ∧ OwnB w' w.heap.size v' (encR l) ∧ Below w.heap.size w w' := by
 obtain ⟨i0, hi1, hi2⟩ := Option.map_eq_some_iff.1 infoByte
 rw [Prod.mk.injEq, Prod.mk.injEq] at hi2
 obtain ⟨hz1, hz2, hz3⟩ := hi2
 obtain ⟨a, cap, rfl⟩ := hv.open
 have hmk := make_bytes w 4 (4 + l.length) (by omega) (by omega) (by omega)
 have ht1 : (4 : Int).toNat = 4 := rfl
 have ht2 : (4 + (l.length : Int)).toNat = 4 + l.length := by omega
 rw [ht1, ht2] at hmk
 have hw4 : IntKind.i64.wrap (4 + (l.length : Int)) = 4 + l.length := IntWalk.i64_in _ (by omega)
 have hD := len4_get l.length
 have hDl := len4_len l.length
 have henc : encR l = len4 l.length ++ l := rfl
 rw [henc]
 generalize len4 l.length = D at *
 obtain ⟨w1, hw1⟩ : ∃ w1, w1 = w.alloc (.cells ((List.replicate (4 + l.length) (0 : Int)).map fun x => Value.int .u8 x).toArray 5) := ⟨_, rfl⟩
 have hb1 : Below w.heap.size w w1 := by rw [hw1]; exact bone _ _
 have hc1 : w1.heap[w.heap.size]? = some (.cells (bytesV (D.take 0 ++ List.replicate (4 + l.length - 0) 0)) 5 (0, 0)) := by rw [hw1, World.alloc_heap_new, List.take_zero, List.nil_append, Nat.sub_zero]; rfl
 rw [← hw1] at hmk
 clear hw1 ht1 ht2 henc
 generalize hN : l.length = N at *
 replace hN := Lib.hid hN
 go_enter Tryz.func25, Tryz.ntmps25
 go_wp2_with fail
 clear hmk
 go_loopw [11] (fun u W => ∃ k : Nat, k ≤ 4 ∧ u = .int .i64 k ∧ Below w.heap.size w W ∧ W.heap[w.heap.size]? = some (.cells (bytesV (D.take k ++ List.replicate (4 + N - k) 0)) 5 (0, 0))) (fun u _ => 4 - (intOf u).toNat)
 case atStart => exact ⟨0, Nat.zero_le _, rfl, hb1, hc1⟩
 case round =>
  obtain ⟨k, hk, rfl, hbw, hcw⟩ := hrel
  clear hb1 hc1
  by_cases hlt : k < 4
  ·have hll : (D.take k ++ List.replicate (4 + N - k) (0 : Int)).length = 4 + N := by simp; omega
   have hcell := bytes_cell hcw (k := k) (by omega)
   have hfz : wr.frozen? ⟨w.heap.size, k, none⟩ = false := by simp [World.frozen?, hcw]
   have hst := setRow_at ((N : Int) / 256 ^ k % 256) hcw (k := k) (by omega)
   have hsp : spl (D.take k ++ List.replicate (4 + N - k) (0 : Int)) k [(N : Int) / 256 ^ k % 256] = D.take (k + 1) ++ List.replicate (4 + N - (k + 1)) 0 := by
    have e : (D.take k).length = k := by rw [List.length_take]; omega
    unfold spl
    rw [List.take_append_of_le_length (by omega), List.take_of_length_le (by omega), List.drop_append, List.drop_of_length_le (by simp only [List.length_singleton]; omega), List.nil_append, List.take_add_one, hD k hlt, e, List.drop_replicate]
    simp only [List.length_singleton, Option.toList]
    congr 2
    omega
   rw [hsp] at hst
   have hrow := setRow_heap wr w.heap.size _ (bytesV (D.take (k + 1) ++ List.replicate (4 + N - (k + 1)) 0)) _ _ hcw
   rw [← hst] at hrow
   clear hsp hst
   generalize (D.take k ++ List.replicate (4 + N - k) (0 : Int))[k]'_ = old at *
   clear hll
   have h8k : IntKind.i64.wrap (8 * (k : Int)) = 8 * (k : Int) := IntWalk.i64_in _ (by omega)
   have h8n : (8 * (k : Int)).toNat = 8 * k := by omega
   replace hrow := Lib.hid hrow
   go_wp2_with fail
   rw [pow8]
   exact ⟨⟨k + 1, hlt, rfl, ⟨hbw.os, hbw.tape, hbw.output, by simpa using hbw.size, fun i hi => (Below.heap_setCell _ _ _ _ (by simp; omega)).trans (hbw.block i hi)⟩, hrow.out⟩, by simp [intOf]; omega⟩
  ·obtain rfl : k = 4 := by omega
   have hown : OwnB wr w.heap.size (.slice (some ⟨w.heap.size, 0, none⟩) 4 (4 + N)) D := by
    refine ⟨by simp [hDl], .inr ⟨w.heap.size, 4 + N, _, by rw [hDl], Nat.le_refl _, hcw, by omega, by unfold maxLen; omega, by simp [bytesV]; omega, ?_⟩⟩
    simp only [bytesV]
    rw [← List.map_take, List.take_append_of_le_length (by simp; omega)]
    congr 1
    rw [hDl, List.take_take, List.take_of_length_le (by omega)]
   unfold OwnB at hown
   rw [hDl] at hown
   have hzw := hbw.size
   have hvw := hv.later hbw
   rcases hvw with ⟨hvn, rfl⟩ | ⟨av, cap', hvs, hcells⟩
   ·have hN0 := hN.out
    simp only [List.length_nil] at hN0
    subst hN0
    injection hvn with h1 h2 h3
    subst h1
    subst h3
    go_wp2_with (at_builtin; refine wpList_append_own_none rfl _ _ 33 rfl w.heap.size 5 i0 1 Tryz.underlying33 hi1 (.slice (some ⟨w.heap.size, 0, none⟩) 4 (4 + 0)) 4 (D.map fun x => .int .u8 x) rfl hown rfl ?_)
    go_ret
    refine ⟨.slice (some ⟨w.heap.size, 0, none⟩) 4 4, rfl, ?_, hbw⟩
    unfold OwnB
    rw [hDl]
    exact hown
   ·have hN0 := hN.out
    injection hvs with h1 h2 h3
    subst h1
    subst h3
    have hnews : ∀ j u, (l.map fun x => Value.int .u8 x)[j]? = some u → wr.cell? (av.add j) = some u := by
     intro j u hj
     rw [List.getElem?_map] at hj
     by_cases hjl : j < l.length
     ·rw [List.getElem?_eq_getElem hjl] at hj
      simp only [Option.map_some, Option.some.injEq] at hj
      subst hj
      obtain ⟨b, off, rfl, _, hcells⟩ := hcells (by rintro rfl; simp at hjl)
      rw [Addr.add_lit]; exact hcells j hjl
     ·rw [List.getElem?_eq_none (by omega)] at hj; cases hj
    replace hN := Lib.hid hN0
    clear hN0 hcells h2
    replace hnews := Lib.hid hnews
    clear hD hl hcw hv
    go_wp2_with (at_builtin; go_loud (refine wpList_append_own_at _ rfl _ _ 33 rfl w.heap.size 5 i0 _ 1 1 Tryz.underlying33 hi1 hz1 hz2 hz3 rfl (by decide) (.slice (some ⟨w.heap.size, 0, none⟩) 4 (4 + N)) 4 _ rfl hown av _ _ (l.map fun x => Value.int .u8 x) rfl ?_ hnews.out (bytesV_one _) ?_ ?_ hzw ?_; (focus (have hNo := hN.out; simp only [List.length_map]; omega)); (focus (unfold maxLen; omega)); (focus omega); intro v' w6 hown6 hgrow6 _ _; obtain ⟨x6, c6, rfl⟩ := ownsRow_slice hown6))
    have hb6 : Below w.heap.size w w6 := hbw.grown hgrow6 hzw (by intro k hk; simp [Value.ownBlock] at hk; omega)
    go_ret
    refine ⟨_, rfl, ?_, hb6⟩
    unfold OwnB
    rw [List.map_append, List.length_append, hDl, hN.out]
    exact hown6
end Go.Proofs.YtgihknfoncljbaaGreatDoor
