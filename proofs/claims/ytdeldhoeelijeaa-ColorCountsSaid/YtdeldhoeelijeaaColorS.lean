/- The walk of the statement ColorCounts. -/
import Derived.Test.YtdeldhoeelijeaaColorR
namespace Go.Proofs.Ytdeldhoeelijeaa
open Go Go.RowKit Go.BigFrame

theorem sumP_take (L : List Two) (k : Nat) (hk : k < L.length) : sumP (L.take (k + 1)) = sumP (L.take k) + L[k].b / 4096 := by
  rw [List.take_succ_eq_append_getElem hk, sumP_append]
  show _ = _
  have : sumP [L[k]] = L[k].b / 4096 := by show _ + 0 = _; omega
  rw [this]
theorem sumP_nonneg : ∀ L : List Two, 0 ≤ sumP L
  | [] => by show (0 : Int) ≤ 0; omega
  | y :: l => by
    have := sumP_nonneg l
    have := y.hb.1
    show 0 ≤ y.b / 4096 + sumP l
    omega
theorem sumP_pre (L : List Two) (k : Nat) : sumP (L.take k) ≤ sumP L := by
  have h := sumP_append (L.take k) (L.drop k)
  rw [List.take_append_drop] at h
  have := sumP_nonneg (L.drop k)
  omega

set_option maxRecDepth 20000 in
set_option maxHeartbeats 2000000 in
theorem colorCounts_walk (s : Two) (n m many : Int) (w : World) (hm : W64 m) : Calls Try.prog 5 #[.agg #[.int .u64 s.a, .int .u64 s.b], .int .i64 n, .int .u64 m, .int .i64 many] w fun e w' => e = .returned (.bool true) ∧ Below w.heap.size w w' := by
  have ht := fun W => take_any s n m many W hm
  have k1 := alloc_two w (.int .u64 s.a) (.int .u64 s.b) 24
  have hm0 := hm.1
  have hm1 := hm.2
  by_cases h1 : 300 < many
  · go_enter Try.func5, Try.ntmps5
    go_wp2_with fail
    refine (awake_any _).mono ?_; rintro e w1 ⟨rfl, hb1⟩
    go_wp2_with fail
    go_ret
    exact ⟨rfl, bnew hb1⟩
  · have hL := takeL_len s n m many h1
    by_cases he : takeErr s n m many = 0
    · obtain ⟨N, A, c, q, hN, hA, hc, hq, n0, n1, hsm, g1, g2, hT⟩ := takes_any he
      have hsa := s.ha.1
      have hst := fun (k : Nat) => @rot_step m n s.a N A k hm hN (by omega) k rfl
      have hemod := fun (k : Int) => And.intro (Int.emod_nonneg (s.a / 4096 + k) (show n ≠ 0 by omega)) (Int.emod_lt_of_pos (s.a / 4096 + k) (show 0 < n by omega))
      have hcol := fun (p : Int) (hp : W64 p) (W : World) => refColor_any p n W hp
      have hofv : ∀ (p : Int) (k : Nat), 4096 * ((A : Int) + k) ≤ p → p < 4096 * ((A : Int) + k) + 4096 → ofV p n = (s.a / 4096 + k) % n := fun p k h1 h2 => by
        unfold ofV; rw [if_pos hsm, show p / 4096 = s.a / 4096 + k by omega]
      have hsum := hT.sum
      have heach := hT.each
      have hcl := hT.col
      rw [he] at ht
      clear he hA hc hN hT
      generalize takeL s n m many = L at *
      replace hst := Lib.hid hst
      replace hemod := Lib.hid hemod
      replace hcol := Lib.hid hcol
      replace hofv := Lib.hid hofv
      replace hsum := Lib.hid hsum
      replace heach := Lib.hid heach
      replace hcl := Lib.hid hcl
      have hqw : many ≤ 300 := by omega
      have hmq : 0 ≤ many := by omega
      replace hq := Lib.hid hq
      go_enter Try.func5, Try.ntmps5
      go_wp2_with fail
      refine (awake_any _).mono ?_; rintro e w1 ⟨rfl, hb1⟩
      have c0 := cell_lt hb1 k1.1 (by simp)
      have c1 := cell_lt hb1 k1.2 (by simp)
      have hz1 : w.heap.size + 1 ≤ w1.heap.size := by have := hb1.size; simpa using this
      have hW1 := bnew hb1
      clear k1 hb1
      go_wp2_with fail
      refine (ht _).mono ?_; rintro e w2 ⟨r2, rfl, hr2, hb2⟩
      have hrow2 := OwnTwo.row hr2
      have hW2 := bthen hW1 hb2
      clear c0 c1 hb2 hW1 ht hr2
      obtain ⟨p2, cp2, rfl, _, hcells2⟩ := hrow2
      go_wp2_with fail
      go_loopw [11, 34] (fun t i wr => ∃ k : Nat, k ≤ L.length ∧ i = .int .i64 k ∧ t = .int .u64 (sumP (L.take k)) ∧ Below w2.heap.size w2 wr) (fun _ i _ => L.length - (intOf i).toNat)
      case atStart => exact ⟨0, Nat.zero_le _, rfl, rfl, Below.refl _ _⟩
      case round =>
        obtain ⟨k, hk, rfl, rfl, hB⟩ := hrel
        have hzr := hB.size
        by_cases hlt : k < L.length
        · obtain ⟨b2, off2, rfl, hbl2, hcell2⟩ := hcells2 (by rintro rfl; simp at hlt)
          have m0 := cell_lt hB (hcell2 k hlt).1 hbl2
          have m1 := cell_lt hB (hcell2 k hlt).2 hbl2
          obtain ⟨x1, x2, x3, x4, x5⟩ := heach.out L[k] (List.getElem_mem hlt)
          have hclx := hcl.out L[k] (List.getElem_mem hlt)
          have hsn := sumP_take L k hlt
          have hs0 := sumP_nonneg (L.take k)
          have hs1 := sumP_pre L (k + 1)
          have hs2 := hsum.out
          have hs3 := hq.out
          rw [hsn] at hs1
          have hs4 : sumP (L.take k) + L[k].b / 4096 ≤ 300 := by omega
          clear hcell2 hs2 hs3 hs1
          replace hsn := Lib.hid hsn
          replace hclx := Lib.hid hclx
          generalize L[k] = x at *
          generalize sumP (L.take k) = S at *
          have hxa := x.ha.1
          have q1 := alloc_two wr (.int .u64 x.a) (.int .u64 x.b) 24
          have q10 := q1.1
          have q11 := q1.2
          clear q1
          go_wp2_with fail
          obtain ⟨W1, hW1⟩ : ∃ W1, W1 = wr.alloc (.cells #[.int .u64 x.a, .int .u64 x.b] 24) := ⟨_, rfl⟩
          have hBw : Below w2.heap.size w2 W1 := by rw [hW1]; exact hB.trans ((bone _ _).mono hzr)
          have hlw : wr.heap.size + 1 ≤ W1.heap.size := by rw [hW1]; simp
          rw [← hW1] at q10 q11 ⊢
          clear hW1 m0 m1
          go_loop [14] (fun i => ∃ d : Int, 0 ≤ d ∧ d ≤ x.b ∧ d % 4096 = 0 ∧ i = .int .u64 d) (fun i => (x.b - intOf i).toNat)
          case atStart => exact ⟨0, by omega, by omega, by omega, rfl⟩
          case round =>
            obtain ⟨d, d0, d1, d2, rfl⟩ := hrel
            by_cases hd : d < x.b ∧ d < 1228800
            · obtain ⟨hd1, hd2⟩ := hd
              obtain ⟨l, l1, l2, l3⟩ := hclx.out (x.a + d) (by omega) (by omega)
              have hs := hst.out l
              rw [l1] at hs
              have hem := hemod.out l
              have hcx := hcol.out (x.a + d) (by unfold W64; omega)
              rw [hofv.out (x.a + d) l l2 l3] at hcx
              have hbb : x.a + d < 18446744073709551616 := by omega
              clear l2 l3
              go_wp2_with fail
              refine (hcx _).mono ?_; rintro e w5 ⟨rfl, rfl⟩
              go_wp2_with fail
              go_round
              case rel => exact ⟨d + 4096, by omega, by omega, by omega, rfl⟩
              case measure => simp [intOf]; omega
            · by_cases hd1 : d < x.b
              · have hd2 : ¬ d < 1228800 := fun h => hd ⟨hd1, h⟩
                clear hd d0 d1 d2 x1 x2 hclx
                go_wp2_with fail
                go_roundw
                case rel => exact ⟨k + 1, by omega, by go_num, by rw [hsn.out], hBw⟩
                case measure => simp [intOf]; omega
              · clear hd d0 d1 d2 x1 x2 hclx
                go_wp2_with fail
                go_roundw
                case rel => exact ⟨k + 1, by omega, by go_num, by rw [hsn.out], hBw⟩
                case measure => simp [intOf]; omega
        · obtain rfl : k = L.length := by omega
          rw [List.take_length, hsum.out]
          have hfin : ((q : Int) == many) = true := by have := hq.out; simp; omega
          have hwm : IntKind.u64.wrap many = many := by rw [IntKind.wrap_u64]; omega
          go_wp2_with fail
          go_ret
          exact ⟨rfl, hW2.trans (hB.mono hW2.size)⟩
    · have hn : takeL s n m many = [] := by unfold takeL; rw [if_neg he]
      have hne : (takeErr s n m many != 0) = true := by simpa using he
      rw [hn] at ht
      clear hL hn he
      generalize takeErr s n m many = er at *
      go_enter Try.func5, Try.ntmps5
      go_wp2_with fail
      refine (awake_any _).mono ?_; rintro e w1 ⟨rfl, hb1⟩
      have c0 := cell_lt hb1 k1.1 (by simp)
      have c1 := cell_lt hb1 k1.2 (by simp)
      have hW1 := bnew hb1
      clear k1 hb1
      go_wp2_with fail
      refine (ht _).mono ?_; rintro e w2 ⟨r2, rfl, hr2, hb2⟩
      obtain ⟨p2, cp2, rfl, _, _⟩ := OwnTwo.row hr2
      go_wp2_with fail
      go_ret
      exact ⟨rfl, bthen hW1 hb2⟩
end Go.Proofs.Ytdeldhoeelijeaa
