/- The walk of the statement WalkBuilt. -/
import Derived.Test.YtnieomgopldlhaaDoorWalkBuiltP37
import Derived.Test.YtnieomgopldlhaaDoorWalkBuiltP43
import Derived.Test.YtnieomgopldlhaaDoorWalkBuiltP46
import Derived.Test.YtnieomgopldlhaaDoorWalkBuiltP48
namespace Go.Proofs.YtnieomgopldlhaaDoor
open Go Go.RowKit Go.BigFrame Go.Maps

theorem newRam (W : World) : Calls Tryd.prog 7 #[.agg #[.int .u64 1073741824, .int .u64 16777216], .slice none 0 0] W fun e w' =>
      ∃ mb pb, e = .returned (.tuple #[.pointer (some ⟨mb, 0, none⟩), .int .i64 0]) ∧ MemP w' mb pb 1073741824 16777216 [] ∧ Below W.heap.size W w' ∧ W.heap.size ≤ mb ∧ W.heap.size ≤ pb := newMem_any ramT W ram_ok.1 ram_ok.2
theorem newLd (n : Int) (W : World) : Calls Tryd.prog 9 #[.agg #[.int .u64 1073741824, .int .u64 (ramV n)]] W fun e w' => ∃ B, e = .returned (.pointer (some ⟨B, 0, none⟩)) ∧ W.heap.size ≤ B ∧ PoolAt w' B (.slice none 0 0) (newV (ldT n)) ∧ Below W.heap.size W w' := new_any (ldT n) W
/-- Build, with the statements' memory and pool. -/
theorem buildN_any {W : World} {B mb pb fb : Nat} (n : Int) (v : Value) (l : List M5) (hm : MemP W mb pb 1073741824 16777216 []) (hp : PoolAt W fb (.slice none 0 0) (newV (ldT n))) (hv : RowM W v l) (hB : B ≤ mb ∧ B ≤ pb ∧ B ≤ fb) (hne : mb ≠ fb ∧ pb ≠ fb) (hvB : ∀ b o n c, v = .slice (some ⟨b, o, none⟩) n c → l ≠ [] → b < B) (hl : l.length ≤ 100000) :
    Calls Tryd.prog 8 #[.pointer (some ⟨mb, 0, none⟩), .pointer (some ⟨fb, 0, none⟩), v] W fun e w' => ∃ vu' L', e = .returned (.tuple #[.int .u64 (buildN l n).2.1, .int .i64 (buildN l n).2.2]) ∧ MPl w' B mb pb fb vu' 1073741824 16777216 L' (buildN l n).1.pl (buildN l n).1.pg ∧ Below B W w' := by
  obtain ⟨p1, p2, p3⟩ := pool_facts n
  have hM : MPl W B mb pb fb (.slice none 0 0) 1073741824 16777216 [] (newV (ldT n)) [] := by
    refine ⟨hm, rfl, hp, fun b hb => ?_, ⟨hB.2.2, fun b hb => ?_⟩, fun b hb => by simp [Value.ownBlock] at hb⟩
    · simp only [memBlks, List.map_nil, List.mem_cons, List.not_mem_nil, or_false] at hb
      rcases hb with rfl | rfl
      · exact ⟨hne.1, by simp [Value.ownBlock]⟩
      · exact ⟨hne.2, by simp [Value.ownBlock]⟩
    · simp only [memBlks, List.map_nil, List.mem_cons, List.not_mem_nil, or_false] at hb
      rcases hb with rfl | rfl
      · exact hB.1
      · exact hB.2.1
  refine (build_any hM p1 p2 p3 (fun _ h => (by cases h)) v l hv hvB hl fun h => ?_).mono fun e w' ⟨vu', L', h1, h2, h3⟩ => ⟨vu', L', h1, h2, h3.off.below⟩
  have := allP_bd h
  rw [ldT_pool]
  dsimp only
  simp only [List.length_nil]
  omega

set_option maxRecDepth 100000 in
set_option maxHeartbeats 4000000 in
theorem walkBuilt_walk (v : Value) (l : List M5) (pages ipa : Int) (w : World) (hT : Tab3 w) (hv : RowM w v l) (hl : l.length ≤ 9223372036854775807) (hi : W64 ipa) :
    Calls Tryd.prog 3 #[v, .int .i64 pages, .int .u64 ipa] w fun e w' => e = .returned (.bool true) ∧ Below w.heap.size w w' := by
  have hfl := fun W h => fewL_any v l W h
  have hv' := hv
  obtain ⟨a1, cp1, rfl, _, hc1⟩ := hv'
  have hvB : ∀ b o n c, Value.slice a1 l.length cp1 = .slice (some ⟨b, o, none⟩) n c → l ≠ [] → b < w.heap.size := fun b o n c e hl => by
    obtain ⟨b1, o1, e1, hb, _⟩ := hc1 hl
    rw [e1] at e
    cases e
    exact hb
  go_enter Tryd.func3, Tryd.ntmps3
  go_wp2_with fail
  refine (awake20_any _ hT).mono ?_; rintro e w1 ⟨rfl, hb1⟩
  by_cases h12 : l.length ≤ 12
  · have h12' : ¬ (12 : Int) < (l.length : Int) := by omega
    go_wp2_with fail
    go_loopw [27] (fun i wr => ∃ k : Nat, k ≤ l.length ∧ i = .int .i64 k ∧ Below w.heap.size w wr) (fun i _ => l.length - (intOf i).toNat)
    case atStart => exact ⟨0, Nat.zero_le _, rfl, hb1⟩
    case round =>
      clear hb1
      obtain ⟨k, hk, rfl, hB⟩ := hrel
      by_cases hlt : k < l.length
      · obtain ⟨b1, o1, rfl, hbl, hcell⟩ := hc1 (by rintro rfl; simp at hlt)
        obtain ⟨p0, p1, p2, p3, p4⟩ := hcell k hlt
        replace p0 := cell_lt hB p0 hbl
        replace p1 := cell_lt hB p1 hbl
        replace p2 := cell_lt hB p2 hbl
        replace p3 := cell_lt hB p3 hbl
        replace p4 := cell_lt hB p4 hbl
        have hz := hB.size
        clear hcell hc1 hfl
        by_cases hs : l[k].sz ≤ 1099511627776
        · generalize l[k] = x at *
          have hs' : ¬ 1099511627776 < x.sz := by omega
          go_wp2_with fail
          exact ⟨⟨k + 1, hlt, by go_num, hB.alloc hz _⟩, by simp [intOf]; omega⟩
        · generalize l[k] = x at *
          have hs' : 1099511627776 < x.sz := by omega
          go_wp2_with fail
          go_ret
          exact ⟨rfl, hB.alloc hz _⟩
      · obtain rfl : k = l.length := by omega
        clear hc1
        go_wp2_with fail
        refine (hfl _ (hv.below hB)).mono ?_; rintro e w2 ⟨rfl, hb2⟩
        replace hb2 := bthen hB hb2
        clear hfl hB
        by_cases hq : (decide (l.length ≤ 12) && decide (cntP l ≤ 600)) = true
        · rw [hq]
          go_wp2_with fail
          refine (ram_any pages w2).mono ?_; rintro e w3 ⟨rfl, hb3⟩
          replace hb3 := bthen hb2 hb3
          go_wp2_with fail
          obtain ⟨m0, m1⟩ := two_new (w3.alloc (.cells #[.int .u64 1073741824, .int .u64 16777216] 29)) (.int .u64 1073741824) (.int .u64 (ramV pages)) 29
          rw [World.size_alloc] at m0 m1
          have hb4 : Below w.heap.size w ((w3.alloc (.cells #[.int .u64 1073741824, .int .u64 16777216] 29)).alloc (.cells #[.int .u64 1073741824, .int .u64 (ramV pages)] 29)) := bthen (bthen hb3 (bone _ _)) (bone _ _)
          have l4 : w3.heap.size + 1 < ((w3.alloc (.cells #[.int .u64 1073741824, .int .u64 16777216] 29)).alloc (.cells #[.int .u64 1073741824, .int .u64 (ramV pages)] 29)).heap.size := by simp
          clear hb2
          generalize (w3.alloc (.cells #[.int .u64 1073741824, .int .u64 16777216] 29)).alloc (.cells #[.int .u64 1073741824, .int .u64 (ramV pages)] 29) = w4 at *
          refine (newRam w4).mono ?_; rintro e w5 ⟨mb, pb, rfl, hm, hb5, hz1, hz2⟩
          replace m0 := cell_lt hb5 m0 l4
          replace m1 := cell_lt hb5 m1 l4
          have l5 := Nat.lt_of_lt_of_le l4 hb5.size
          have hz4 := hb4.size
          replace hb5 := bthen hb4 hb5
          clear hb4 hb3
          generalize w3.heap.size + 1 = sb at *
          go_wp2_with fail
          refine (newLd pages w5).mono ?_; rintro e w6 ⟨fb, rfl, hz3, hp, hb6⟩
          have hm6 := hm.below hb6 (Nat.le_refl _)
          have hne1 : mb ≠ fb := by have := hm.lt mb (by simp [memBlks]); omega
          have hne2 : pb ≠ fb := by have := hm.lt pb (by simp [memBlks]); omega
          have hz5 := hb5.size
          replace hb6 := bthen hb5 hb6
          have hbd := buildN_any (B := w.heap.size) pages (.slice a1 l.length cp1) l hm6 hp (hv.below hb6) ⟨by omega, by omega, by omega⟩ ⟨hne1, hne2⟩ hvB (by omega)
          clear hm hb5 m0 m1 l5 hp hm6 hne1 hne2 hz1 hz2 hz3
          by_cases hn : (needV l).2 = 0
          · rcases buildN_k pages hn with ⟨_, st', e1⟩ | ⟨_, st', root, e1, hbl, _, _, r0, r1, _⟩
            · rw [e1] at hbd
              simp only at hbd
              replace e1 := Lib.hid e1
              go_wp2_with fail
              refine hbd.mono ?_; rintro e w7 ⟨vu, L7, rfl, hM, hb7⟩
              go_wp2_with fail
              go_ret
              exact ⟨rfl, hb6.trans hb7⟩
            · rw [e1] at hbd
              simp only at hbd
              have hrw : W64 root := by unfold W64; unfold ramV at r1; omega
              have hq0 : 0 ≤ ipa % 1099511627776 := by omega
              have hq1 : ipa % 1099511627776 < 1099511627776 := by omega
              have hq : W64 (ipa % 1099511627776) := by unfold W64; omega
              have hgd := (needV_ok hn).1
              have hat := built_at hgd hbl hq0 hq1
              replace e1 := Lib.hid e1
              replace hq0 := Lib.hid hq0
              replace hq1 := Lib.hid hq1
              replace hn := Lib.hid hn
              replace r0 := Lib.hid r0
              replace r1 := Lib.hid r1
              go_wp2_with fail
              refine hbd.mono ?_; rintro e w7 ⟨vu, L7, rfl, hM, hb7⟩
              replace hb7 := hb6.trans hb7
              have hwk := walk_any mb pb 1073741824 16777216 root (ipa % 1099511627776) L7 w7 hM.mem (hT.below' hb7) hrw hq
              rw [hM.ab] at hwk
              have hrow := hv.below hb7
              clear hbd hM hb6 hbl hgd
              generalize walkV (wordV 1073741824 16777216 st'.pg) root (ipa % 1099511627776) = R at *
              obtain ⟨⟨hpa, hpm, hmm, hlv⟩, er⟩ := R
              simp only [HitV.val] at hwk
              replace hat := Lib.hid hat
              have htm : ipa.tmod 1099511627776 = ipa % 1099511627776 := Int.tmod_eq_emod_of_nonneg hi.1
              replace htm := Lib.hid htm
              go_wp2_with fail
              rw [htm.out]
              clear htm
              generalize ipa % 1099511627776 = ia at *
              refine hwk.mono ?_; rintro e w8 ⟨rfl, hb8⟩
              clear hwk
              replace hrow := hrow.below hb8
              replace hb8 := bthen hb7 hb8
              clear hb7
              go_wp2_with fail
              have hbx := bone w8 (.cells #[.int .u64 hpa, .int .i64 hpm, .int .i64 hmm, .int .i64 hlv] 41)
              have hc : ∀ (i : Nat) (u : Value), (#[.int .u64 hpa, .int .i64 hpm, .int .i64 hmm, .int .i64 hlv] : Array Value)[i]? = some u → (w8.alloc (.cells #[.int .u64 hpa, .int .i64 hpm, .int .i64 hmm, .int .i64 hlv] 41)).cell? ⟨w8.heap.size, i, none⟩ = some u := fun i u h => by rw [World.cell?_alloc_new]; exact h
              have c0 := hc 0 _ rfl
              have c1 := hc 1 _ rfl
              have c2 := hc 2 _ rfl
              have l8 : w8.heap.size < (w8.alloc (.cells #[.int .u64 hpa, .int .i64 hpm, .int .i64 hmm, .int .i64 hlv] 41)).heap.size := by simp
              replace hrow := hrow.below hbx
              replace hb8 := bthen hb8 hbx
              clear hc hbx
              generalize w8.alloc (.cells #[.int .u64 hpa, .int .i64 hpm, .int .i64 hmm, .int .i64 hlv] 41) = w9 at *
              refine (refAt_any _ l ia w9 hrow hq (by omega)).mono ?_; rintro e w10 ⟨rfl, hb10⟩
              replace c0 := cell_lt hb10 c0 l8
              replace c1 := cell_lt hb10 c1 l8
              replace c2 := cell_lt hb10 c2 l8
              replace l8 := Nat.lt_of_lt_of_le l8 hb10.size
              replace hb10 := bthen hb8 hb10
              clear hrow hb8
              rcases hat.out with ⟨y, k, e2, e3, e4⟩ | ⟨e2, k, e3⟩
              · simp only [Prod.mk.injEq, HitV.mk.injEq] at e3
                obtain ⟨⟨rfl, rfl, rfl, rfl⟩, rfl⟩ := e3
                rw [e2]
                have hpae : atPA (some y) ia = y.pa + (ia - y.ipa) := Int.emod_eq_of_lt e4.1 e4.2
                rw [hpae, show ((some y).getD default).val = .agg #[.int .u64 y.ipa, .int .u64 y.pa, .int .u64 y.sz, .int .i64 y.perm, .int .i64 y.kind] from rfl]
                clear hpae hat e2
                generalize y.pa + (ia - y.ipa) = PA at *
                go_wp2_with fail
                go_ret
                exact ⟨by simp, hb10.alloc hb10.size _⟩
              · simp only [Prod.mk.injEq, HitV.mk.injEq] at e3
                obtain ⟨⟨rfl, rfl, rfl, rfl⟩, rfl⟩ := e3
                rw [e2]
                rw [show ((none : Option M5).getD default).val = .agg #[.int .u64 0, .int .u64 0, .int .u64 0, .int .i64 0, .int .i64 0] from rfl]
                clear hat e2
                go_wp2_with fail
                go_ret
                exact ⟨by simp, hb10.alloc hb10.size _⟩
          · have e1 := buildN_bad (n := pages) hn
            rw [e1] at hbd
            simp only at hbd
            replace e1 := Lib.hid e1
            go_wp2_with fail
            refine hbd.mono ?_; rintro e w7 ⟨vu, L7, rfl, hM, hb7⟩
            go_wp2_with fail
            go_ret
            exact ⟨rfl, hb6.trans hb7⟩
        · have hq' : (decide (l.length ≤ 12) && decide (cntP l ≤ 600)) = false := by simpa using hq
          rw [hq']
          go_wp2_with fail
          go_ret
          exact ⟨rfl, hb2⟩
  · have h12' : (12 : Int) < (l.length : Int) := by omega
    go_wp2_with fail
    go_ret
    exact ⟨rfl, hb1⟩
end Go.Proofs.YtnieomgopldlhaaDoor
