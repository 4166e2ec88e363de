/- What the reference takes of colored pages. -/
import Derived.Test.YtdeldhoeelijeaaColorG
import Derived.Test.YtdeldhoeelijeaaSpanH
namespace Go.Proofs.Ytdeldhoeelijeaa
open Go Go.RowKit Go.BigFrame

theorem take_any (s : Two) (n m many : Int) (w : World) (hm : W64 m) : Calls Try.prog 8 #[.agg #[.int .u64 s.a, .int .u64 s.b], .int .i64 n, .int .u64 m, .int .i64 many] w (TakeOut w (takeL s n m many) (takeErr s n m many)) := by
  unfold takeL
  by_cases he : takeErr s n m many = 0
  · rw [if_pos he, he]; exact take_go s n m many w hm he
  · rw [if_neg he]; exact take_bad s n m many w hm he

def refTakeL (s : Two) (n m many : Int) : List Two := if takeErr s n m many = 0 then refMergeV (takenV s n m many) else []
def sliceLen : Value → Nat
  | .slice _ n _ => n
  | _ => 0

set_option maxRecDepth 20000 in
set_option maxHeartbeats 2000000 in
theorem refTake_bad (s : Two) (n m many : Int) (w : World) (hm : W64 m) (he : takeErr s n m many ≠ 0) : Calls Try.prog 9 #[.agg #[.int .u64 s.a, .int .u64 s.b], .int .i64 n, .int .u64 m, .int .i64 many] w (TakeOut w [] (takeErr s n m many)) := by
  have hma := fun W => refColored_any n m W hm
  have hpg := fun W => refPages_any s W
  have hct := fun W => refCount_any s n m W hm
  have k1 := alloc_two w (.int .u64 s.a) (.int .u64 s.b) 24
  have hb0 := bone w (.cells #[.int .u64 s.a, .int .u64 s.b] 24)
  cases hM : maskedV n m
  · have e : takeErr s n m many = 340 := by unfold takeErr; rw [if_neg (by rw [hM]; simp)]
    rw [e]
    rw [hM] at hma
    clear he e
    go_enter Try.func9, Try.ntmps9
    go_wp2_with fail
    refine (hma _).mono ?_; rintro e w1 ⟨rfl, rfl⟩
    go_wp2_with fail
    go_ret2
    exact ⟨_, rfl, OwnTwo.nil _ _ _, hb0⟩
  · rw [hM] at hma
    by_cases hp : pageBad s = true ∨ many < 1 ∨ 4096 < many
    · have e : takeErr s n m many = 1 := by unfold takeErr; rw [if_pos hM, if_pos hp]
      rw [e]
      clear he e
      cases hpb : pageBad s
      · rw [hpb] at hpg
        have hp' : many < 1 ∨ (¬ many < 1 ∧ 4096 < many) := by rw [hpb] at hp; simp at hp; omega
        clear hp
        rcases hp' with h1 | ⟨h1, h2⟩
        all_goals
          go_enter Try.func9, Try.ntmps9
          go_wp2_with fail
          refine (hma _).mono ?_; rintro e w1 ⟨rfl, rfl⟩
          go_wp2_with fail
          refine (hpg _).mono ?_; rintro e w2 ⟨rfl, hb2⟩
          go_wp2_with fail
          go_ret2
          exact ⟨_, rfl, OwnTwo.nil _ _ _, bthen hb0 hb2⟩
      · rw [hpb] at hpg
        clear hp
        go_enter Try.func9, Try.ntmps9
        go_wp2_with fail
        refine (hma _).mono ?_; rintro e w1 ⟨rfl, rfl⟩
        go_wp2_with fail
        refine (hpg _).mono ?_; rintro e w2 ⟨rfl, hb2⟩
        go_wp2_with fail
        go_ret2
        exact ⟨_, rfl, OwnTwo.nil _ _ _, bthen hb0 hb2⟩
    · have hpb : pageBad s = false := by rw [Bool.eq_false_iff]; exact fun h => hp (.inl h)
      have h1 : ¬ many < 1 := fun h => hp (.inr (.inl h))
      have h2 : ¬ 4096 < many := fun h => hp (.inr (.inr h))
      have hcn : countV s n m < many := by
        rcases Int.lt_or_le (countV s n m) many with h | h
        · exact h
        · exact absurd (by unfold takeErr; rw [if_pos hM, if_neg hp, if_neg (by omega)]) he
      have e : takeErr s n m many = 110 := by unfold takeErr; rw [if_pos hM, if_neg hp, if_pos hcn]
      rw [e]
      rw [hpb] at hpg
      clear he e hp
      generalize countV s n m = C at *
      go_enter Try.func9, Try.ntmps9
      go_wp2_with fail
      refine (hma _).mono ?_; rintro e w1 ⟨rfl, rfl⟩
      go_wp2_with fail
      refine (hpg _).mono ?_; rintro e w2 ⟨rfl, hb2⟩
      have c0 := cell_lt hb2 k1.1 (by simp)
      have c1 := cell_lt hb2 k1.2 (by simp)
      have hz2 : w.heap.size + 1 ≤ w2.heap.size := by have := hb2.size; simpa using this
      have hB2 := bthen hb0 hb2
      clear hb2 hb0 k1
      go_wp2_with fail
      refine (hct _).mono ?_; rintro e w3 ⟨rfl, hb3⟩
      go_wp2_with fail
      go_ret2
      exact ⟨_, rfl, OwnTwo.nil _ _ _, bthen hB2 hb3⟩

set_option maxRecDepth 20000 in
set_option maxHeartbeats 2000000 in
theorem refTake_go (s : Two) (n m many : Int) (w : World) (hm : W64 m) (he : takeErr s n m many = 0) : Calls Try.prog 9 #[.agg #[.int .u64 s.a, .int .u64 s.b], .int .i64 n, .int .u64 m, .int .i64 many] w (TakeOut w (refMergeV (takenV s n m many)) 0) := by
  have hma := fun W => refColored_any n m W hm
  have hpg := fun W => refPages_any s W
  have hct := fun W => refCount_any s n m W hm
  have k1 := alloc_two w (.int .u64 s.a) (.int .u64 s.b) 24
  have hb0 := bone w (.cells #[.int .u64 s.a, .int .u64 s.b] 24)
  obtain ⟨hM, hpb, h1, h2, hcn⟩ : maskedV n m = true ∧ pageBad s = false ∧ ¬ many < 1 ∧ ¬ 4096 < many ∧ ¬ countV s n m < many := by
    unfold takeErr at he
    by_cases hM : maskedV n m = true
    · rw [if_pos hM] at he
      by_cases hp : pageBad s = true ∨ many < 1 ∨ 4096 < many
      · rw [if_pos hp] at he; cases he
      · rw [if_neg hp] at he
        by_cases hc : countV s n m < many
        · rw [if_pos hc] at he; cases he
        · exact ⟨hM, by rw [Bool.eq_false_iff]; exact fun h => hp (.inl h), fun h => hp (.inr (.inl h)), fun h => hp (.inr (.inr h)), hc⟩
    · rw [if_neg hM] at he; cases he
  obtain ⟨g1, g2, g3, g4, g5, g6⟩ := pageBad_parts hpb
  have hsm := (maskedV_iff.1 hM).1
  have hv := someV_iff.1 hsm
  have n0 : 1 ≤ n := by omega
  have n1 : n ≤ 64 := by omega
  have hsa := s.ha.1
  obtain ⟨N, hN⟩ := Int.eq_ofNat_of_zero_le (show 0 ≤ n by omega)
  obtain ⟨A, hA⟩ := Int.eq_ofNat_of_zero_le (show 0 ≤ s.a / 4096 by omega)
  obtain ⟨c, hc⟩ := Int.eq_ofNat_of_zero_le (show 0 ≤ s.b / 4096 by omega)
  obtain ⟨q, hq⟩ := Int.eq_ofNat_of_zero_le (show 0 ≤ many by omega)
  have hL : takenV s n m many = (pagesV m N A c).take q := by
    unfold takenV; rw [hA, hc, hN, hq]; rfl
  have hCl : countV s n m = ((pagesV m N A c).length : Int) := by
    unfold countV; rw [if_pos hM, g5, g6, hA, hc, hN, pagesV_len]; rfl
  have hql : q ≤ (pagesV m N A c).length := by omega
  have hc' : s.b = 4096 * (c : Int) := by omega
  have hofv : ∀ k : Nat, ofV (s.a + k * 4096) n = (s.a / 4096 + k) % n := fun k => by
    unfold ofV; rw [if_pos hsm, show (s.a + (k : Int) * 4096) / 4096 = s.a / 4096 + k by omega]
  have hst := fun (k : Nat) => @rot_step m n s.a N A k hm hN hA k rfl
  have hemod := fun (k : Int) => And.intro (Int.emod_nonneg (s.a / 4096 + k) (show n ≠ 0 by omega)) (Int.emod_lt_of_pos (s.a / 4096 + k) (show 0 < n by omega))
  have hcol := fun (k : Nat) (hk : k < c) (W : World) => refColor_any (s.a + k * 4096) n W (by unfold W64; omega)
  have hpgp : ∀ k : Nat, k < c → (pageAt A k).a = s.a + k * 4096 ∧ (pageAt A k).b = 4096 := fun k hk => by
    obtain ⟨e1, e2⟩ : (pageAt A k).a = 4096 * ((A : Int) + k) ∧ (pageAt A k).b = 4096 := tw_parts (by unfold W64; omega) (by unfold W64; omega)
    exact ⟨by rw [e1]; omega, e2⟩
  have hq4 : q ≤ 4096 := by omega
  have hm0 := hm.1
  have hm1 := hm.2
  rw [hL]
  rw [hM] at hma
  rw [hpb] at hpg
  clear he hv hCl hA hL g3 g4 g5 g6 hpb hsm
  replace hN := Lib.hid hN
  replace hc := Lib.hid hc
  replace hc' := Lib.hid hc'
  replace hq := Lib.hid hq
  replace hofv := Lib.hid hofv
  replace hst := Lib.hid hst
  replace hemod := Lib.hid hemod
  replace hpgp := Lib.hid hpgp
  generalize countV s n m = C at *
  go_enter Try.func9, Try.ntmps9
  go_wp2_with fail
  refine (hma _).mono ?_; rintro e w1 ⟨rfl, rfl⟩
  go_wp2_with fail
  refine (hpg _).mono ?_; rintro e w2 ⟨rfl, hb2⟩
  have c0 := cell_lt hb2 k1.1 (by simp)
  have c1 := cell_lt hb2 k1.2 (by simp)
  have hz2 : w.heap.size + 1 ≤ w2.heap.size := by have := hb2.size; simpa using this
  have hB2 := bthen hb0 hb2
  clear hb2 hb0 k1
  have hwm : IntKind.u64.wrap many = many := by rw [IntKind.wrap_u64]; omega
  go_wp2_with fail
  refine (hct _).mono ?_; rintro e w3 ⟨rfl, hb3⟩
  have c0' := cell_lt hb3 c0 (by omega)
  have hB3 := bthen hB2 hb3
  clear c0 c1 hb3 hB2 hct hpg hma
  go_wp2_with fail
  go_loopw [10, 11] (fun o i wr => ∃ k : Nat, k ≤ c ∧ i = .int .u64 (IntKind.u64.wrap (s.a + k * 4096)) ∧ (pagesV m N A k).length ≤ q ∧ OwnTwo 24 wr w3.heap.size o (pagesV m N A k) ∧ Below w3.heap.size w3 wr) (fun o i _ => (q - sliceLen o) * 18446744073709551617 + (18446744073709551616 - (intOf i).toNat))
  case atStart => exact ⟨0, Nat.zero_le _, by rw [IntKind.wrap_u64]; congr 1; omega, Nat.zero_le _, OwnTwo.nil _ _ _, Below.refl _ _⟩
  case round =>
    obtain ⟨k, hk, rfl, hlen, hown, hB⟩ := hrel
    obtain ⟨ao, co, rfl, _, _⟩ := OwnTwo.row hown
    have hpre := pagesV_pre m N A k (c - k)
    rw [show k + (c - k) = c by omega] at hpre
    have hz3 := hB.size
    by_cases hlt : (pagesV m N A k).length < q
    · have hkc : k < c := by
        rcases Nat.lt_or_ge k c with h | h
        · exact h
        · have : k = c := by omega
          subst this; omega
      have hw : IntKind.u64.wrap (s.a + (k : Int) * 4096) = s.a + k * 4096 := by have := hc'.out; rw [IntKind.wrap_u64]; omega
      have hkk : s.a + (k : Int) * 4096 + 4096 ≤ 18446744073709551616 := by have := hc'.out; omega
      rw [hw]
      have hcl := hcol k hkc
      rw [hofv.out k] at hcl
      have hem := hemod.out k
      have hs := hst.out k
      have hpk := hpgp.out k hkc
      have hsn : pagesV m N A (k + 1) = pagesV m N A k ++ if rotB m N A k = 1 then [pageAt A k] else [] := rfl
      have hlq : (((pagesV m N A k).length : Int) < many) := by have := hq.out; omega
      have hpre1 := pagesV_pre m N A (k + 1) (c - (k + 1))
      rw [show k + 1 + (c - (k + 1)) = c by omega] at hpre1
      rcases (show rotB m N A k = 0 ∨ rotB m N A k = 1 by have := rotB_bd m N A k; omega) with hb | hb
      · rw [if_neg (by rw [hb]; decide), List.append_nil] at hsn
        rw [hb] at hs
        have hk1 : k + 1 < c := by
          rcases Nat.lt_or_ge (k + 1) c with h | h
          · exact h
          · have : k + 1 = c := by omega
            rw [this] at hsn; rw [hsn] at hql; omega
        have hw1 : IntKind.u64.wrap (s.a + ((k + 1 : Nat) : Int) * 4096) = s.a + k * 4096 + 4096 := by have := hc'.out; rw [IntKind.wrap_u64]; omega
        have hkk1 : s.a + (k : Int) * 4096 + 4096 < 18446744073709551616 := by have := hc'.out; omega
        replace hw1 := Lib.hid hw1
        replace hsn := Lib.hid hsn
        clear hw hpre hpre1
        generalize pagesV m N A k = L at *
        go_wp2_with fail
        refine (hcl _).mono ?_; rintro e w4 ⟨rfl, rfl⟩
        go_wp2_with fail
        go_roundw
        case rel => exact ⟨k + 1, by omega, by rw [hw1.out], by rw [hsn.out]; exact hlen, by rw [hsn.out]; exact hown, hB⟩
        case measure => simp [intOf]; omega
      · rw [if_pos hb] at hsn
        rw [hb] at hs
        have hlen1 : (pagesV m N A (k + 1)).length ≤ q := by rw [hsn, List.length_append]; simp; omega
        replace hlen1 := Lib.hid hlen1
        replace hsn := Lib.hid hsn
        replace hpk := Lib.hid hpk
        clear hw hpre hpre1
        generalize pagesV m N A k = L at *
        generalize pageAt A k = x at *
        go_wp2_with fail
        refine (hcl _).mono ?_; rintro e w4 ⟨rfl, rfl⟩
        go_wp2_with (at_builtin; refine wpl_append_many rfl _ _ 26 rfl w3.heap.size 24 infoSpan Try.underlying26 (.slice ao L.length co) L [x] rfl rfl ?_ ?_ ?_ ?_ ?_ ?_ ?_; (focus (exact hown)); (focus rfl); (focus (first | rfl | (simp; done))); (focus (rw [← hpk.out.1, ← hpk.out.2]; rfl)); (focus (simp only [List.length_cons, List.length_nil]; omega)); (focus (first | omega | (simp; omega))); intro v' w5 hown' hbel hgrow; obtain ⟨a5, c5, rfl, _, _⟩ := OwnTwo.row hown')
        go_roundw
        case rel => exact ⟨k + 1, by omega, by rw [show s.a + ((k + 1 : Nat) : Int) * 4096 = s.a + k * 4096 + 4096 by omega], hlen1.out, by rw [hsn.out]; rw [List.length_append] at hown'; exact hown', hB.trans (hbel _ (Nat.le_refl _))⟩
        case measure =>
          simp only [sliceLen, intOf]
          generalize (IntKind.u64.wrap (s.a + (k : Int) * 4096 + 4096)).toNat = z1
          generalize (s.a + (k : Int) * 4096).toNat = z2
          omega
    · have hlen' : (pagesV m N A k).length = q := by omega
      have htk : (pagesV m N A c).take q = pagesV m N A k := by
        obtain ⟨t, ht⟩ := hpre
        rw [ht, ← hlen', List.take_left']; rfl
      have hlq : ¬ (((pagesV m N A k).length : Int) < many) := by have := hq.out; omega
      have hrow := OwnTwo.row hown
      have hmg := fun W h => refMerge_any (.slice ao (pagesV m N A k).length co) (pagesV m N A k) W h (by omega)
      replace htk := Lib.hid htk
      clear hlen' hlt hpre
      generalize pagesV m N A k = L at *
      go_wp2_with fail
      refine (hmg _ hrow).mono ?_; rintro e w5 ⟨rv, rfl, hr5, hb5⟩
      go_wp2_with fail
      go_ret2
      have hz4 : w.heap.size ≤ w3.heap.size := hB3.size
      exact ⟨rv, rfl, by rw [htk.out]; exact OwnTwo.mono hr5 (by omega), bthen (hB3.trans (hB.mono hz4)) hb5⟩

theorem refTake_any (s : Two) (n m many : Int) (w : World) (hm : W64 m) : Calls Try.prog 9 #[.agg #[.int .u64 s.a, .int .u64 s.b], .int .i64 n, .int .u64 m, .int .i64 many] w (TakeOut w (refTakeL s n m many) (takeErr s n m many)) := by
  unfold refTakeL
  by_cases he : takeErr s n m many = 0
  · rw [if_pos he, he]; exact refTake_go s n m many w hm he
  · rw [if_neg he]; exact refTake_bad s n m many w hm he
end Go.Proofs.Ytdeldhoeelijeaa
