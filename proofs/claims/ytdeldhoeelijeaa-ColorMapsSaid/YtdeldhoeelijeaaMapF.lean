/- The walk of the statement ColorMaps. -/
import Derived.Test.YtdeldhoeelijeaaMapE
import Derived.Test.YtdeldhoeelijeaaColorI
namespace Go.Proofs.Ytdeldhoeelijeaa
open Go Go.RowKit Go.BigFrame

theorem stM_get (ipa perm : Int) (l : List Two) : ∀ k, k ≤ l.length → ∀ j, j < k → ∃ (h : j < l.length) (h' : j < (stM ipa perm l k).2.length), (stM ipa perm l k).2[j] = mk5 (stM ipa perm l j).1 l[j] perm
  | 0, _, j, hj => by omega
  | k + 1, hk, j, hj => by
    have hs := stM_succ ipa perm l k (by omega)
    have hlen := stM_len ipa perm l k (by omega)
    have e : (stM ipa perm l (k + 1)).2 = (stM ipa perm l k).2 ++ [mk5 (stM ipa perm l k).1 l[k] perm] := by rw [hs]; rfl
    by_cases h : j < k
    · obtain ⟨h1, h2, h3⟩ := stM_get ipa perm l k (by omega) j h
      refine ⟨h1, by rw [e, List.length_append]; omega, ?_⟩
      simp only [e]
      rw [List.getElem_append_left h2]; exact h3
    · obtain rfl : j = k := by omega
      refine ⟨by omega, by rw [e, List.length_append, hlen]; simp, ?_⟩
      simp only [e]
      rw [List.getElem_append_right (by omega)]
      simp [hlen]
theorem maps_good {ipa perm : Int} {l : List Two} (hi : W64 ipa) (h : (mapsRes ipa l perm).2 = 0) : goodM (mapsRes ipa l perm).1 = true := by
  have hb : badMB ipa l perm = false := by
    rw [Bool.eq_false_iff]
    intro hb
    unfold mapsRes at h
    rw [if_pos hb] at h
    cases h
  have hres : mapsRes ipa l perm = ((stM ipa perm l l.length).2, 0) := by unfold mapsRes; rw [if_neg (by rw [hb]; simp)]
  rw [hres]
  unfold badMB at hb
  rw [Bool.or_eq_false_iff, Bool.or_eq_false_iff] at hb
  obtain ⟨hh, hp, hf⟩ := hb
  have hh' : ¬ (ipa % 4096 ≠ 0 ∨ 1099511627776 < ipa ∨ perm < 1 ∨ 7 < perm) := of_decide_eq_false hh
  have hfail : ∀ k (hk : k < l.length), lastV l[k].a l[k].b < 1099511627776 ∧ l[k].b ≤ 1099511627776 - (stM ipa perm l k).1 := fun k hk => by
    have := List.any_eq_false.1 hf k (by simpa using hk)
    rw [getElem!_pos l k hk, Bool.not_eq_true] at this
    unfold failM at this
    rw [Bool.or_eq_false_iff, decide_eq_false_iff_not, decide_eq_false_iff_not] at this
    omega
  have hpage : ∀ k (hk : k < l.length), goodB l[k].a l[k].b = true ∧ l[k].a % 4096 = 0 ∧ l[k].b % 4096 = 0 := fun k hk => by
    have := List.any_eq_false.1 hp l[k] (List.getElem_mem hk)
    have e := pageBad_not l[k]
    rw [Bool.not_eq_true] at this
    rw [this] at e
    have e2 := e.symm
    rw [Bool.not_false, Bool.and_eq_true, Bool.and_eq_true, decide_eq_true_iff, decide_eq_true_iff] at e2
    exact e2
  have hst : ∀ k, k ≤ l.length → (stM ipa perm l k).1 % 4096 = 0 ∧ 0 ≤ (stM ipa perm l k).1 ∧ (stM ipa perm l k).1 ≤ 1099511627776 := by
    intro k
    induction k with
    | zero => intro _; exact ⟨by show ipa % 4096 = 0; omega, hi.1, by show ipa ≤ _; omega⟩
    | succ k ih =>
      intro hk
      obtain ⟨i1, i2, i3⟩ := ih (by omega)
      have h1 := hfail k (by omega)
      have h2 := hpage k (by omega)
      have h3 := goodB_iff.1 h2.1
      rw [stM_succ ipa perm l k (by omega)]
      show ((stM ipa perm l k).1 + l[k].b) % 4096 = 0 ∧ 0 ≤ (stM ipa perm l k).1 + l[k].b ∧ (stM ipa perm l k).1 + l[k].b ≤ _
      omega
  have hlen := stM_len ipa perm l l.length (Nat.le_refl _)
  refine goodM_yes fun k hk => ?_
  have hkl : k < l.length := by rw [← hlen]; exact hk
  obtain ⟨_, hk', hget⟩ := stM_get ipa perm l l.length (Nat.le_refl _) k hkl
  obtain ⟨s1, s2, s3⟩ := hst k (by omega)
  have f1 := hfail k hkl
  have f2 := hpage k hkl
  have f3 := goodB_iff.1 f2.1
  rw [lastV_yes f2.1] at f1
  have hmod : (stM ipa perm l k).1 % 18446744073709551616 = (stM ipa perm l k).1 := Int.emod_eq_of_lt s2 (by omega)
  unfold okM
  rw [getElem!_pos _ k hk', hget, Bool.and_eq_true]
  constructor
  · unfold elemB
    rw [Bool.and_eq_true, Bool.and_eq_true, decide_eq_true_iff]
    refine ⟨pageM_iff.2 ?_, pageM_iff.2 ?_, ?_⟩
    · show 0 < l[k].b ∧ (stM ipa perm l k).1 % 18446744073709551616 + (l[k].b - 1) < _ ∧ (stM ipa perm l k).1 % 18446744073709551616 % 4096 = 0 ∧ l[k].b % 4096 = 0
      rw [hmod]; omega
    · show 0 < l[k].b ∧ l[k].a + (l[k].b - 1) < _ ∧ l[k].a % 4096 = 0 ∧ l[k].b % 4096 = 0
      omega
    · show 1 ≤ perm ∧ perm ≤ 7 ∧ (0 : Int) ≤ 0 ∧ (0 : Int) ≤ 1
      omega
  · unfold nextB
    rw [getElem!_pos _ k hk', hget]
    by_cases h0 : k = 0
    · rw [decide_eq_true h0]; rfl
    · obtain ⟨j, rfl⟩ : ∃ j, k = j + 1 := ⟨k - 1, by omega⟩
      obtain ⟨_, hj', hgetj⟩ := stM_get ipa perm l l.length (Nat.le_refl _) j (by omega)
      obtain ⟨t1, t2, t3⟩ := hst j (by omega)
      have g1 := hfail j (by omega)
      have hs := stM_succ ipa perm l j (by omega)
      have hs1 : (stM ipa perm l (j + 1)).1 = (stM ipa perm l j).1 + l[j].b := by rw [hs]; rfl
      have hmj : (stM ipa perm l j).1 % 18446744073709551616 = (stM ipa perm l j).1 := Int.emod_eq_of_lt t2 (by omega)
      have e : ((stM ipa perm l l.length).2)[j + 1 - 1]! = mk5 (stM ipa perm l j).1 l[j] perm := by
        rw [show j + 1 - 1 = j by omega, getElem!_pos _ j hj', hgetj]
      rw [e, decide_eq_false (show ¬ (mk5 (stM ipa perm l (j + 1)).1 l[j + 1] perm).ipa < endM (mk5 (stM ipa perm l j).1 l[j] perm) from ?_)]
      · simp
      · show ¬ (stM ipa perm l (j + 1)).1 % 18446744073709551616 < ((stM ipa perm l j).1 % 18446744073709551616 + l[j].b) % 18446744073709551616
        rw [hmod, hmj, hs1]
        omega
theorem mapsRes_len (ipa perm : Int) (l : List Two) : (mapsRes ipa l perm).1.length ≤ l.length := by
  unfold mapsRes
  split
  · simp
  · exact Nat.le_of_eq (stM_len ipa perm l l.length (Nat.le_refl _))

set_option maxRecDepth 20000 in
set_option maxHeartbeats 2000000 in
theorem colorMaps_walk (ipa perm : Int) (v : Value) (l : List Two) (w : World) (hi : W64 ipa) (hv : RowTwo w v l) : Calls Try.prog 6 #[.int .u64 ipa, v, .int .i64 perm] w fun e w' => e = .returned (.bool true) ∧ Below w.heap.size w w' := by
  by_cases hl : 40 < l.length
  · have hlI : (40 : Int) < (l.length : Int) := by omega
    obtain ⟨a1, cp1, rfl, hcp, _⟩ := id hv
    go_enter Try.func6, Try.ntmps6
    go_wp2_with fail
    refine (awake_any _).mono ?_; rintro e w1 ⟨rfl, hb1⟩
    go_wp2_with fail
    go_ret
    exact ⟨rfl, hb1⟩
  · have hm := fun W h => maps_any ipa perm v l W hi h (by omega)
    have hr := fun W h => refMaps_any ipa perm v l W hi h (by omega)
    have hlen := mapsRes_len ipa perm l
    have hg := @maps_good ipa perm l hi
    generalize mapsRes ipa l perm = R at *
    obtain ⟨o, er⟩ := R
    replace hg : er = 0 → goodM o = true := hg
    replace hlen : o.length ≤ l.length := hlen
    have hgd := fun v' W h => refGoodM_any v' o W h (by omega)
    have hsm := fun v' u' W h h' => sameMaps_any v' u' o W h h' (by omega)
    have hlI : ¬ (40 : Int) < (l.length : Int) := by omega
    replace hg := Lib.hid hg
    obtain ⟨a1, cp1, rfl, hcp, _⟩ := id hv
    go_enter Try.func6, Try.ntmps6
    go_wp2_with fail
    refine (awake_any _).mono ?_; rintro e w1 ⟨rfl, hb1⟩
    go_wp2_with fail
    refine (hm _ (hv.below hb1)).mono ?_; rintro e w2 ⟨r2, rfl, hr2, hb2⟩
    have hB2 := bthen hb1 hb2
    go_wp2_with fail
    refine (hr _ (hv.below hB2)).mono ?_; rintro e w3 ⟨r3, rfl, hr3, hb3⟩
    have hB3 := bthen hB2 hb3
    have row2 := (OwnM.row hr2).below hb3
    have row3 := OwnM.row hr3
    clear hr2 hr3 hb2 hb3 hB2 hb1 hm hr hv
    go_wp2_with fail
    refine (hsm _ _ _ row2 row3).mono ?_; rintro e w4 ⟨rfl, hb4⟩
    have row4 := row2.below hb4
    have hB4 := bthen hB3 hb4
    by_cases he : er = 0
    · have hgt := hg.out he
      subst he
      go_wp2_with fail
      refine (hgd _ _ row4).mono ?_; rintro e w5 ⟨rfl, hb5⟩
      rw [hgt]
      go_wp2_with fail
      go_ret
      exact ⟨rfl, bthen hB4 hb5⟩
    · have k1 : (er != 0) = true := by simpa using he
      go_wp2_with fail
      go_ret
      exact ⟨rfl, hB4⟩
end Go.Proofs.Ytdeldhoeelijeaa
