/- The walk of the statement WalkBuilt. -/
import Derived.Test.YtnieomgopldlhaaTableNeedsP33
import Derived.Test.YtnieomgopldlhaaTableNeedsP36
import Derived.Test.YtnieomgopldlhaaTableNeedsP42
import Derived.Test.YtnieomgopldlhaaTableNeedsP45
import Derived.Test.YtnieomgopldlhaaTableNeedsP48
namespace Go.Proofs.Ytnieomgopldlhaa
open Go Go.RowKit Go.BigFrame Go.Maps

theorem newRam (W : World) : Calls Try.prog 8 #[.agg #[.int .u64 1073741824, .int .u64 16777216], .slice none 0 0] W fun e w' =>
      ∃ mb pb, e = .returned (.tuple #[.pointer (some ⟨mb, 0, none⟩), .int .i64 0]) ∧ MemP w' mb pb 1073741824 16777216 [] ∧ Below W.heap.size W w' ∧ W.heap.size ≤ mb ∧ W.heap.size ≤ pb := newMem_any ramT W ram_ok.1 ram_ok.2
theorem newLd (n : Int) (W : World) : Calls Try.prog 9 #[.agg #[.int .u64 1073741824, .int .u64 (ramV n)]] W fun e w' => ∃ B, e = .returned (.pointer (some ⟨B, 0, none⟩)) ∧ W.heap.size ≤ B ∧ PoolAt w' B (.slice none 0 0) (newV (ldT n)) ∧ Below W.heap.size W w' := new_any (ldT n) W
/-- Build, with the statements' memory and pool. -/
theorem buildN_any {W : World} {B mb pb fb : Nat} (n : Int) (v : Value) (l : List M5) (hm : MemP W mb pb 1073741824 16777216 []) (hp : PoolAt W fb (.slice none 0 0) (newV (ldT n))) (hv : RowM W v l) (hB : B ≤ mb ∧ B ≤ pb ∧ B ≤ fb) (hne : mb ≠ fb ∧ pb ≠ fb) (hvB : ∀ b o n c, v = .slice (some ⟨b, o, none⟩) n c → l ≠ [] → b < B) (hl : l.length ≤ 100000) :
    Calls Try.prog 11 #[.pointer (some ⟨mb, 0, none⟩), .pointer (some ⟨fb, 0, none⟩), v] W fun e w' => ∃ vu' L', e = .returned (.tuple #[.int .u64 (buildN l n).2.1, .int .i64 (buildN l n).2.2]) ∧ MPl w' B mb pb fb vu' 1073741824 16777216 L' (buildN l n).1.pl (buildN l n).1.pg ∧ Below B W w' := by
  obtain ⟨p1, p2, p3⟩ := pool_facts n
  have hM : MPl W B mb pb fb (.slice none 0 0) 1073741824 16777216 [] (newV (ldT n)) [] := by
    refine ⟨hm, rfl, hp, fun b hb => ?_, ⟨hB.2.2, fun b hb => ?_⟩, fun b hb => by simp [Value.ownBlock] at hb⟩
    · simp only [memBlks, List.map_nil, List.mem_cons, List.not_mem_nil, or_false] at hb
      rcases hb with rfl | rfl
      · exact ⟨hne.1, by simp [Value.ownBlock]⟩
      · exact ⟨hne.2, by simp [Value.ownBlock]⟩
    · simp only [memBlks, List.map_nil, List.mem_cons, List.not_mem_nil, or_false] at hb
      rcases hb with rfl | rfl
      · exact hB.1
      · exact hB.2.1
  refine (build_any hM p1 p2 p3 (fun _ h => (by cases h)) v l hv hvB hl fun h => ?_).mono fun e w' ⟨vu', L', h1, h2, h3⟩ => ⟨vu', L', h1, h2, h3.off.below⟩
  have := allP_bd h
  rw [ldT_pool]
  dsimp only
  simp only [List.length_nil]
  omega

end Go.Proofs.Ytnieomgopldlhaa
/- The walk of the statement TableNeeds. -/
namespace Go.Proofs.Ytnieomgopldlhaa
open Go Go.RowKit Go.BigFrame Go.Maps

set_option maxRecDepth 100000 in
set_option maxHeartbeats 4000000 in
theorem tableNeeds_walk (v : Value) (l : List M5) (pages : Int) (w : World) (hv : RowM w v l) (hl : l.length ≤ 9223372036854775807) :
    Calls Try.prog 3 #[v, .int .i64 pages] w fun e w' => e = .returned (.bool true) ∧ Below w.heap.size w w' := by
  have hbd := fun W h => bounded_any v l W h hl
  have hfl := fun W h => fewL_any v l W h
  have hv' := hv
  obtain ⟨a1, cp1, rfl, _, hc1⟩ := hv'
  have hvB : ∀ b o n c, Value.slice a1 l.length cp1 = .slice (some ⟨b, o, none⟩) n c → l ≠ [] → b < w.heap.size := fun b o n c e hl => by
    obtain ⟨b1, o1, e1, hb, _⟩ := hc1 hl
    rw [e1] at e
    cases e
    exact hb
  clear hc1
  go_enter Try.func3, Try.ntmps3
  go_wp2_with fail
  refine (awake_any _).mono ?_; rintro e w1 ⟨rfl, hb1⟩
  go_wp2_with fail
  refine (hbd _ (hv.below hb1)).mono ?_; rintro e w2 ⟨rfl, hb2⟩
  replace hb2 := bthen hb1 hb2
  clear hb1 hbd
  cases hq : (l.all (fun m => decide (m.sz ≤ 1099511627776)) && decide (l.length ≤ 12))
  · go_wp2_with fail
    go_ret
    exact ⟨rfl, hb2⟩
  · have h12 : l.length ≤ 12 := by rw [Bool.and_eq_true, decide_eq_true_iff] at hq; exact hq.2
    clear hq
    go_wp2_with fail
    refine (hfl _ (hv.below hb2)).mono ?_; rintro e w3 ⟨rfl, hb3⟩
    replace hb3 := bthen hb2 hb3
    clear hfl hb2
    cases hq : (decide (l.length ≤ 12) && decide (cntP l ≤ 600))
    · go_wp2_with fail
      go_ret
      exact ⟨rfl, hb3⟩
    · clear hq
      go_wp2_with fail
      refine (ram_any pages w3).mono ?_; rintro e w4 ⟨rfl, hb4⟩
      replace hb4 := bthen hb3 hb4
      clear hb3
      go_wp2_with fail
      obtain ⟨m0, m1⟩ := two_new (w4.alloc (.cells #[.int .u64 1073741824, .int .u64 16777216] 27)) (.int .u64 1073741824) (.int .u64 (ramV pages)) 27
      rw [World.size_alloc] at m0 m1
      have hb5 : Below w.heap.size w ((w4.alloc (.cells #[.int .u64 1073741824, .int .u64 16777216] 27)).alloc (.cells #[.int .u64 1073741824, .int .u64 (ramV pages)] 27)) := bthen (bthen hb4 (bone _ _)) (bone _ _)
      have l5 : w4.heap.size + 1 < ((w4.alloc (.cells #[.int .u64 1073741824, .int .u64 16777216] 27)).alloc (.cells #[.int .u64 1073741824, .int .u64 (ramV pages)] 27)).heap.size := by simp
      have hz4 := hb4.size
      clear hb4
      generalize (w4.alloc (.cells #[.int .u64 1073741824, .int .u64 16777216] 27)).alloc (.cells #[.int .u64 1073741824, .int .u64 (ramV pages)] 27) = w5 at *
      refine (newRam w5).mono ?_; rintro e w6 ⟨mb, pb, rfl, hm, hb6, hz1, hz2⟩
      replace m0 := cell_lt hb6 m0 l5
      replace m1 := cell_lt hb6 m1 l5
      have l6 := Nat.lt_of_lt_of_le l5 hb6.size
      have hz5 := hb5.size
      have hz56 := hb6.size
      replace hb6 := bthen hb5 hb6
      clear hb5
      generalize w4.heap.size + 1 = sb at *
      go_wp2_with fail
      refine (newLd pages w6).mono ?_; rintro e w7 ⟨fb, rfl, hz3, hp, hb7⟩
      have hm7 := hm.below hb7 (Nat.le_refl _)
      have hne1 : mb ≠ fb := by have := hm.lt mb (by simp [memBlks]); omega
      have hne2 : pb ≠ fb := by have := hm.lt pb (by simp [memBlks]); omega
      have hz6 := hb6.size
      replace m0 := cell_lt hb7 m0 l6
      replace m1 := cell_lt hb7 m1 l6
      have l7 := Nat.lt_of_lt_of_le l6 hb7.size
      replace hb7 := bthen hb6 hb7
      have hn1 := need_any _ l w7 (hv.below hb7) (by omega)
      clear hm hb6
      go_wp2_with fail
      refine hn1.mono ?_; rintro e w8 ⟨rfl, hb8⟩
      replace m0 := cell_lt hb8 m0 l7
      replace m1 := cell_lt hb8 m1 l7
      have l8 := Nat.lt_of_lt_of_le l7 hb8.size
      have hm8 := hm7.below hb8 (Nat.le_refl _)
      have hp8 := hp.below hb8
      replace hb8 := bthen hb7 hb8
      have hbd := buildN_any (B := w5.heap.size) pages (.slice a1 l.length cp1) l hm8 hp8 (hv.below hb8) ⟨by omega, by omega, by omega⟩ ⟨hne1, hne2⟩ (fun b o n c e h => Nat.lt_of_lt_of_le (hvB b o n c e h) (by omega)) (by omega)
      have hcell : ∀ w9, Below w5.heap.size w8 w9 → w9.cell? ⟨sb, 0, none⟩ = some (.int .u64 1073741824) ∧ w9.cell? ⟨sb, 1, none⟩ = some (.int .u64 (ramV pages)) := fun w9 h9 => ⟨cell_lt h9 m0 l5, cell_lt h9 m1 l5⟩
      have hfin : ∀ w9, Below w5.heap.size w8 w9 → Below w.heap.size w w9 := fun w9 h9 => hb8.trans (h9.mono hz5)
      have hd : (ramV pages).tdiv 4096 = pages % 1024 + 1 := by unfold ramV; rw [Int.tdiv_eq_ediv_of_nonneg (by omega)]; omega
      have hM0 : 0 ≤ pages % 1024 + 1 ∧ pages % 1024 + 1 ≤ 1024 := by omega
      have hrw : W64 (ramV pages) := (ldT pages).hb
      clear hn1 m0 m1 l6 l7 l8 hm7 hm8 hp hp8 hb7 hb8 hne1 hne2 hz1 hz2 hz3 hz4 hz6
      by_cases hn : (needV l).2 = 0
      · have hno := (needV_ok hn).2
        rcases buildN_k pages hn with ⟨hlt, st', e1⟩ | ⟨hle, st', root, e1, hbl, _, hout, r0, r1, r2⟩
        · have hklen := allKeys_len (l := l) (by
            unfold needV at hn
            split at hn
            · rename_i hc; exact hc.2
            · cases hn)
          rw [e1] at hbd
          simp only at hbd
          replace e1 := Lib.hid e1
          generalize hne : needV l = ne at *
          obtain ⟨n1, n2⟩ := ne
          simp only at hn hlt hno
          subst hn
          have hw1 : IntKind.u64.wrap n1 = n1 := by rw [IntKind.wrap_u64]; omega
          generalize pages % 1024 + 1 = M at *
          replace hno := Lib.hid hno
          replace hklen := Lib.hid hklen
          go_wp2_with fail
          refine hbd.mono ?_; rintro e w9 ⟨vu, L9, rfl, hM, hb9⟩
          obtain ⟨m0, m1⟩ := hcell _ hb9
          have hfb := hfin _ hb9
          clear hbd hM hb9 hcell hfin
          go_wp2_with fail
          go_ret
          exact ⟨rfl, hfb⟩
        · have hr4 : ramV pages ≤ 4194304 := by unfold ramV; omega
          have hrl : W64 root := by unfold W64; omega
          have hwi := fun W => refWithin_any root 8192 1073741824 (ramV pages) W hrl (by unfold W64; omega) (by unfold W64; omega) hrw
          have hwt : withinB root 8192 1073741824 (ramV pages) = true := by
            exact withinB_of (by decide) (by omega) (by omega) (by omega) (by omega) (by omega) (by omega)
          rw [hwt] at hwi
          have hmod : root.tmod 8192 = 0 := by rw [Int.tmod_eq_emod_of_nonneg (by omega)]; exact r2
          rw [e1] at hbd
          simp only at hbd
          replace e1 := Lib.hid e1
          generalize hne : needV l = ne at *
          obtain ⟨n1, n2⟩ := ne
          simp only at hn hle hno hout
          subst hn
          have hw1 : IntKind.u64.wrap n1 = n1 := by rw [IntKind.wrap_u64]; omega
          have hnl : ¬ pages % 1024 + 1 < n1 := by omega
          generalize pages % 1024 + 1 = M at *
          replace hno := Lib.hid hno
          replace hout := Lib.hid hout
          replace r0 := Lib.hid r0
          replace r1 := Lib.hid r1
          replace r2 := Lib.hid r2
          replace hwt := Lib.hid hwt
          go_wp2_with fail
          refine hbd.mono ?_; rintro e w9 ⟨vu, L9, rfl, hM, hb9⟩
          obtain ⟨m0, m1⟩ := hcell _ hb9
          have hfb := hfin _ hb9
          have hus := used_any fb vu st'.pl w9 hM.pool
          rw [hout.out] at hus
          clear hbd hM hb9 hcell hfin hbl
          go_wp2_with fail
          refine hus.mono ?_; rintro e w10 ⟨rfl, rfl⟩
          go_wp2_with fail
          refine (hwi _).mono ?_; rintro e w11 ⟨rfl, hb11⟩
          replace hfb := bthen hfb hb11
          go_wp2_with fail
          go_ret
          exact ⟨rfl, hfb⟩
      · have e1 := buildN_bad (n := pages) hn
        rw [e1] at hbd
        simp only at hbd
        have hn190 : (needV l).2 = 190 := by
          unfold needV at hn ⊢
          split
          · rename_i hc; rw [if_pos hc] at hn; exact absurd rfl hn
          · rfl
        replace e1 := Lib.hid e1
        generalize hne : needV l = ne at *
        obtain ⟨n1, n2⟩ := ne
        simp only at hn190
        subst hn190
        go_wp2_with fail
        refine hbd.mono ?_; rintro e w9 ⟨vu, L9, rfl, hM, hb9⟩
        have hfb := hfin _ hb9
        have hus := used_any fb vu (newV (ldT pages)) w9 hM.pool
        rw [(newV_ok _).2.2.2] at hus
        clear hbd hM hb9 hcell hfin
        go_wp2_with fail
        refine hus.mono ?_; rintro e w10 ⟨rfl, rfl⟩
        go_wp2_with fail
        go_ret
        exact ⟨rfl, hfb⟩
end Go.Proofs.Ytnieomgopldlhaa
