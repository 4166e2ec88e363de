/- The walk of the statement WalkBuilt. -/
import Derived.Test.YtnieomgopldlhaaGreatDoorWalkPartsP35
import Derived.Test.YtnieomgopldlhaaGreatDoorWalkPartsP42
import Derived.Test.YtnieomgopldlhaaGreatDoorWalkPartsP43
import Derived.Test.YtnieomgopldlhaaGreatDoorWalkPartsP46
import Derived.Test.YtnieomgopldlhaaGreatDoorWalkPartsP48
namespace Go.Proofs.YtnieomgopldlhaaGreatDoor
open Go Go.RowKit Go.BigFrame Go.Maps

theorem newRam (W : World) : Calls Tryz.prog 10 #[.agg #[.int .u64 1073741824, .int .u64 16777216], .slice none 0 0] W fun e w' =>
      ∃ mb pb, e = .returned (.tuple #[.pointer (some ⟨mb, 0, none⟩), .int .i64 0]) ∧ MemP w' mb pb 1073741824 16777216 [] ∧ Below W.heap.size W w' ∧ W.heap.size ≤ mb ∧ W.heap.size ≤ pb := newMem_any ramT W ram_ok.1 ram_ok.2
theorem newLd (n : Int) (W : World) : Calls Tryz.prog 12 #[.agg #[.int .u64 1073741824, .int .u64 (ramV n)]] W fun e w' => ∃ B, e = .returned (.pointer (some ⟨B, 0, none⟩)) ∧ W.heap.size ≤ B ∧ PoolAt w' B (.slice none 0 0) (newV (ldT n)) ∧ Below W.heap.size W w' := new_any (ldT n) W
/-- Build, with the statements' memory and pool. -/
theorem buildN_any {W : World} {B mb pb fb : Nat} (n : Int) (v : Value) (l : List M5) (hm : MemP W mb pb 1073741824 16777216 []) (hp : PoolAt W fb (.slice none 0 0) (newV (ldT n))) (hv : RowM W v l) (hB : B ≤ mb ∧ B ≤ pb ∧ B ≤ fb) (hne : mb ≠ fb ∧ pb ≠ fb) (hvB : ∀ b o n c, v = .slice (some ⟨b, o, none⟩) n c → l ≠ [] → b < B) (hl : l.length ≤ 100000) :
    Calls Tryz.prog 11 #[.pointer (some ⟨mb, 0, none⟩), .pointer (some ⟨fb, 0, none⟩), v] W fun e w' => ∃ vu' L', e = .returned (.tuple #[.int .u64 (buildN l n).2.1, .int .i64 (buildN l n).2.2]) ∧ MPl w' B mb pb fb vu' 1073741824 16777216 L' (buildN l n).1.pl (buildN l n).1.pg ∧ Below B W w' := by
  obtain ⟨p1, p2, p3⟩ := pool_facts n
  have hM : MPl W B mb pb fb (.slice none 0 0) 1073741824 16777216 [] (newV (ldT n)) [] := by
    refine ⟨hm, rfl, hp, fun b hb => ?_, ⟨hB.2.2, fun b hb => ?_⟩, fun b hb => by simp [Value.ownBlock] at hb⟩
    · simp only [memBlks, List.map_nil, List.mem_cons, List.not_mem_nil, or_false] at hb
      rcases hb with rfl | rfl
      · exact ⟨hne.1, by simp [Value.ownBlock]⟩
      · exact ⟨hne.2, by simp [Value.ownBlock]⟩
    · simp only [memBlks, List.map_nil, List.mem_cons, List.not_mem_nil, or_false] at hb
      rcases hb with rfl | rfl
      · exact hB.1
      · exact hB.2.1
  refine (build_any hM p1 p2 p3 v l hv hvB hl fun h => ?_).mono fun e w' ⟨vu', L', h1, h2, h3⟩ => ⟨vu', L', h1, h2, h3.off.below⟩
  have := allP_bd h
  rw [ldT_pool]
  dsimp only
  simp only [List.length_nil]
  omega

end Go.Proofs.YtnieomgopldlhaaGreatDoor
/- The walk of the statement WalkParts. -/
namespace Go.Proofs.YtnieomgopldlhaaGreatDoor
open Go Go.RowKit Go.Shelf Go.BigFrame Go.Maps

theorem foldM_len : ∀ (m : List M5), (m.foldl addM []).length ≤ m.length := by
  have key : ∀ (m l : List M5), (m.foldl addM l).length ≤ l.length + m.length := by
    intro m
    induction m with
    | nil => intro l; simp
    | cons x m ih => intro l; have h1 := ih (addM l x); have h2 := addM_len l x; rw [List.foldl_cons, List.length_cons]; omega
  intro m
  simpa using key m []
theorem keys_short {l : List M5} (hn : (needV l).2 = 0) (hc : cntP l ≤ 600) : (allKeys l).length ≤ 1200 := by
  have hk : ∀ y ∈ l, goodM [y] = true ∧ (piecesL y).length ≤ 10000 := by
    have hg := (needV_ok hn).1
    unfold needV at hn
    split at hn
    · rename_i hc; exact fun y hy => ⟨good_one (good_elem hg hy), hc.2 y hy⟩
    · cases hn
  have h1 : (allP l).length = cntP l := by
    unfold allP cntP
    rw [List.length_flatMap]
    congr 1
    apply List.map_congr_left
    intro y hy
    unfold piecesV
    rw [if_pos (hk y hy), List.length_map]
  have h2 := keysOf_len (allP l) []
  rw [allKeys_eq]
  simp at h2
  omega

set_option maxRecDepth 100000 in
set_option maxHeartbeats 40000000 in
theorem walkParts_walk (v : Value) (l : List M5) (pages : Int) (w : World) (hT : Tab3 w) (hv : RowM w v l) (hl : l.length ≤ 9223372036854775807) :
    Calls Tryz.prog 3 #[v, .int .i64 pages] w fun e w' => e = .returned (.bool true) ∧ Below w.heap.size w w' := by
  have hfl := fun W h => fewL_any v l W h
  have hv' := hv
  obtain ⟨a1, cp1, rfl, _, hc1⟩ := hv'
  have hvB : ∀ b o n c, Value.slice a1 l.length cp1 = .slice (some ⟨b, o, none⟩) n c → l ≠ [] → b < w.heap.size := fun b o n c e hl => by
    obtain ⟨b1, o1, e1, hb, _⟩ := hc1 hl
    rw [e1] at e
    cases e
    exact hb
  go_enter Tryz.func3, Tryz.ntmps3
  go_wp2_with fail
  refine (awake20_any _ hT).mono ?_; rintro e w1 ⟨rfl, hb1⟩
  by_cases h12 : l.length ≤ 12
  · have h12' : ¬ (12 : Int) < (l.length : Int) := by omega
    go_wp2_with fail
    go_loopw [27] (fun i wr => ∃ k : Nat, k ≤ l.length ∧ i = .int .i64 k ∧ Below w.heap.size w wr) (fun i _ => l.length - (intOf i).toNat)
    case atStart => exact ⟨0, Nat.zero_le _, rfl, hb1⟩
    case round =>
      clear hb1
      obtain ⟨k, hk, rfl, hB⟩ := hrel
      by_cases hlt : k < l.length
      · obtain ⟨b1, o1, rfl, hbl, hcell⟩ := hc1 (by rintro rfl; simp at hlt)
        obtain ⟨p0, p1, p2, p3, p4⟩ := hcell k hlt
        replace p0 := cell_lt hB p0 hbl
        replace p1 := cell_lt hB p1 hbl
        replace p2 := cell_lt hB p2 hbl
        replace p3 := cell_lt hB p3 hbl
        replace p4 := cell_lt hB p4 hbl
        have hz := hB.size
        clear hcell hc1 hfl
        by_cases hs : l[k].sz ≤ 1099511627776
        · generalize l[k] = x at *
          have hs' : ¬ 1099511627776 < x.sz := by omega
          go_wp2_with fail
          exact ⟨⟨k + 1, hlt, by go_num, hB.alloc hz _⟩, by simp [intOf]; omega⟩
        · generalize l[k] = x at *
          have hs' : 1099511627776 < x.sz := by omega
          go_wp2_with fail
          go_ret
          exact ⟨rfl, hB.alloc hz _⟩
      · obtain rfl : k = l.length := by omega
        clear hc1
        go_wp2_with fail
        refine (hfl _ (hv.below hB)).mono ?_; rintro e w2 ⟨rfl, hb2⟩
        replace hb2 := bthen hB hb2
        clear hfl hB
        by_cases hq : (decide (l.length ≤ 12) && decide (cntP l ≤ 600)) = true
        · have hq' := hq
          replace hq := hq'
          rw [hq]
          go_wp2_with fail
          refine (ram_any pages w2).mono ?_; rintro e w3 ⟨rfl, hb3⟩
          replace hb3 := bthen hb2 hb3
          go_wp2_with fail
          obtain ⟨m0, m1⟩ := two_new (w3.alloc (.cells #[.int .u64 1073741824, .int .u64 16777216] 29)) (.int .u64 1073741824) (.int .u64 (ramV pages)) 29
          rw [World.size_alloc] at m0 m1
          have hb4 : Below w.heap.size w ((w3.alloc (.cells #[.int .u64 1073741824, .int .u64 16777216] 29)).alloc (.cells #[.int .u64 1073741824, .int .u64 (ramV pages)] 29)) := bthen (bthen hb3 (bone _ _)) (bone _ _)
          have l4 : w3.heap.size + 1 < ((w3.alloc (.cells #[.int .u64 1073741824, .int .u64 16777216] 29)).alloc (.cells #[.int .u64 1073741824, .int .u64 (ramV pages)] 29)).heap.size := by simp
          clear hb2
          generalize (w3.alloc (.cells #[.int .u64 1073741824, .int .u64 16777216] 29)).alloc (.cells #[.int .u64 1073741824, .int .u64 (ramV pages)] 29) = w4 at *
          refine (newRam w4).mono ?_; rintro e w5 ⟨mb, pb, rfl, hm, hb5, hz1, hz2⟩
          replace m0 := cell_lt hb5 m0 l4
          replace m1 := cell_lt hb5 m1 l4
          have l5 := Nat.lt_of_lt_of_le l4 hb5.size
          have hz4 := hb4.size
          replace hb5 := bthen hb4 hb5
          clear hb4 hb3
          generalize w3.heap.size + 1 = sb at *
          go_wp2_with fail
          refine (newLd pages w5).mono ?_; rintro e w6 ⟨fb, rfl, hz3, hp, hb6⟩
          have hm6 := hm.below hb6 (Nat.le_refl _)
          have hne1 : mb ≠ fb := by have := hm.lt mb (by simp [memBlks]); omega
          have hne2 : pb ≠ fb := by have := hm.lt pb (by simp [memBlks]); omega
          have hz5 := hb5.size
          replace hb6 := bthen hb5 hb6
          have hbd := buildN_any (B := w.heap.size) pages (.slice a1 l.length cp1) l hm6 hp (hv.below hb6) ⟨by omega, by omega, by omega⟩ ⟨hne1, hne2⟩ hvB (by omega)
          clear hm hb5 m0 m1 l5 hp hm6 hne1 hne2 hz1 hz2 hz3
          by_cases hn : (needV l).2 = 0
          · rcases buildN_k pages hn with ⟨_, st', e1⟩ | ⟨_, st', root, e1, hbl, hkk, _, r0, r1, _⟩
            · rw [e1] at hbd
              simp only at hbd
              replace e1 := Lib.hid e1
              go_wp2_with fail
              refine hbd.mono ?_; rintro e w7 ⟨vu, L7, rfl, hM, hb7⟩
              go_wp2_with fail
              go_ret
              exact ⟨rfl, hb6.trans hb7⟩
            · rw [e1] at hbd
              simp only at hbd
              have hrw : W64 root := by unfold W64; unfold ramV at r1; omega
              have hgd := (needV_ok hn).1
              have htl : st'.tb.length ≤ 1999 := by
                have h1 : (st'.tb.map (·.1)).length = (allKeys l).length := by rw [hkk]
                rw [List.length_map] at h1
                have h2 := keys_short hn (by simpa using (by rw [Bool.and_eq_true, decide_eq_true_iff, decide_eq_true_iff] at hq; exact hq.2 : cntP l ≤ 600))
                omega
              obtain ⟨hlong, hswp⟩ := sweep_built hgd hbl htl
              replace e1 := Lib.hid e1
              replace hn := Lib.hid hn
              replace r0 := Lib.hid r0
              replace r1 := Lib.hid r1
              go_wp2_with fail
              refine hbd.mono ?_; rintro e w7 ⟨vu, L7, rfl, hM, hb7⟩
              replace hb7 := hb6.trans hb7
              have hrd := hM.mem.reads
              rw [hM.ab] at hrd
              have hall := all_any 3 rfl (some ⟨mb, 0, none⟩) (wordV 1073741824 16777216 st'.pg) w7 hrd (hT.below' hb7) root hrw
              rw [hlong, if_neg (by simp), if_neg (by simp), hswp] at hall
              have hrow := hv.below hb7
              clear hbd hM hb6 hbl hgd hlong hswp hrd htl
              go_wp2_with fail
              refine hall.mono ?_; rintro e w8 ⟨hb8, va, rfl, hown⟩
              obtain ⟨av, cv, rfl⟩ := rowSlice hown
              have hrA := hown.row
              replace hrow := hrow.below hb8
              replace hb8 := bthen hb7 hb8
              clear hall hown hb7
              go_wp2_with fail
              go_loopw [15, 66] (fun vw i wr => ∃ k : Nat, k ≤ l.length ∧ i = .int .i64 k ∧ OwnM 26 wr w8.heap.size vw ((l.take k).foldl addM []) ∧ Below w8.heap.size w8 wr) (fun _ i _ => l.length - (intOf i).toNat)
              case atStart => exact ⟨0, Nat.zero_le _, rfl, OwnM.nil _ _ _, Below.refl _ _⟩
              case round =>
                obtain ⟨k, hk, rfl, hown, hB⟩ := hrel
                have hzr := hB.size
                have hacl := foldM_len (l.take k)
                have htkl : (l.take k).length ≤ 12 := by rw [List.length_take]; omega
                by_cases hlt : k < l.length
                · obtain ⟨a2, cp2, he2, _, hc2⟩ := hrow
                  injection he2 with he2 e2l e2c
                  clear e2l
                  subst he2
                  subst e2c
                  obtain ⟨b1, o1, rfl, hbl, hcell⟩ := hc2 (by rintro rfl; simp at hlt)
                  obtain ⟨p0, p1, p2, p3, p4⟩ := hcell k hlt
                  replace p0 := cell_lt hB p0 hbl
                  replace p1 := cell_lt hB p1 hbl
                  replace p2 := cell_lt hB p2 hbl
                  replace p3 := cell_lt hB p3 hbl
                  replace p4 := cell_lt hB p4 hbl
                  have hfold : (l.take (k + 1)).foldl addM [] = addM ((l.take k).foldl addM []) l[k] := by rw [List.take_succ_eq_append_getElem hlt, List.foldl_append]; rfl
                  clear hcell hc2 hrA
                  generalize l[k] = x at *
                  generalize (l.take k).foldl addM [] = acc at *
                  replace hfold := Lib.hid hfold
                  obtain ⟨W1, hW1⟩ : ∃ W1, W1 = wr.alloc (.cells #[.int .u64 x.ipa, .int .u64 x.pa, .int .u64 x.sz, .int .i64 x.perm, .int .i64 x.kind] 26) := ⟨_, rfl⟩
                  have hb1 : Below wr.heap.size wr W1 := by rw [hW1]; exact bone _ _
                  have hnewx : W1.heap[wr.heap.size]? = some (.cells #[.int .u64 x.ipa, .int .u64 x.pa, .int .u64 x.sz, .int .i64 x.perm, .int .i64 x.kind] 26 (0, 0)) := by rw [hW1]; exact World.alloc_heap_new _ _
                  have x0 : W1.cell? ⟨wr.heap.size, 0, none⟩ = some (.int .u64 x.ipa) := by simp [World.cell?, hnewx]
                  have x1 : W1.cell? ⟨wr.heap.size, 1, none⟩ = some (.int .u64 x.pa) := by simp [World.cell?, hnewx]
                  have x2 : W1.cell? ⟨wr.heap.size, 2, none⟩ = some (.int .u64 x.sz) := by simp [World.cell?, hnewx]
                  have x3 : W1.cell? ⟨wr.heap.size, 3, none⟩ = some (.int .i64 x.perm) := by simp [World.cell?, hnewx]
                  have x4 : W1.cell? ⟨wr.heap.size, 4, none⟩ = some (.int .i64 x.kind) := by simp [World.cell?, hnewx]
                  have hx1 : wr.heap.size < W1.heap.size := (Array.getElem?_eq_some_iff.1 hnewx).1
                  have hr1 := hown.below hb1 (Nat.le_refl _)
                  have hB1 := hB.trans (hb1.mono hzr)
                  have hz81 : w8.heap.size ≤ W1.heap.size := by omega
                  rcases List.eq_nil_or_concat acc with rfl | ⟨acc, y, rfl⟩
                  · obtain ⟨av2, cv2, rfl⟩ := rowSlice hown
                    simp only [List.length_nil] at hr1 ⊢
                    subst hW1
                    clear hown hnewx
                    go_wp2_with (at_builtin; refine wpl_append_map rfl _ _ 22 rfl w8.heap.size 26 infoMapS Tryz.underlying22 (.slice av2 0 cv2) [] [x] rfl rfl ?_ ?_ ?_ ?_ ?_ ?_ ?_; (focus (exact hr1)); (focus rfl); (focus (first | rfl | (simp; done))); (focus rfl); (focus (first | (simp; done) | (simp; omega))); (focus (exact hz81)); intro v' w6 hown' hbel hgrow)
                    refine ⟨?_, by simp [intOf]; omega⟩
                    exact ⟨k + 1, hlt, (by first | rfl | go_num), by rw [hfold.out, addM_nil]; exact hown', hB1.trans (hbel _ (Nat.le_refl _))⟩
                  · rw [List.concat_eq_append] at *
                    have hll : (acc ++ [y]).length = acc.length + 1 := by simp
                    have hrow2 := hown.row
                    have hown5 := hown
                    unfold OwnM at hown5
                    rw [hll] at hown5
                    obtain ⟨g, c, rfl⟩ := ownsRow_succ hown5
                    have hgb : w8.heap.size ≤ g := by
                      obtain ⟨_, ⟨h1, _⟩ | ⟨g', cap', cur, hv, hb, _⟩⟩ := hown5
                      · cases h1
                      · cases hv; exact hb
                    obtain ⟨a0, c0, e0, hcap, hcell⟩ := hrow2
                    injection e0 with e0 e0l e0c
                    clear hcap e0l e0c
                    obtain ⟨g2, off, e1', hgl, hcell2⟩ := hcell (by simp)
                    clear hcell
                    rw [← e0] at e1'
                    injection e1' with e1'
                    injection e1' with e1' e2' e3'
                    subst e1'
                    subst e2'
                    clear e0 e3'
                    have hy := hcell2 acc.length (by simp)
                    simp only [List.getElem_append_right (Nat.le_refl _), Nat.sub_self, List.getElem_cons_zero, Nat.zero_add] at hy
                    obtain ⟨y0, y1, y2, y3, y4⟩ := hy
                    clear hcell2
                    replace hll := Lib.hid hll
                    replace y0 := cell_lt hb1 y0 hgl
                    replace y1 := cell_lt hb1 y1 hgl
                    replace y2 := cell_lt hb1 y2 hgl
                    replace y3 := cell_lt hb1 y3 hgl
                    replace y4 := cell_lt hb1 y4 hgl
                    have hg1 : g < W1.heap.size := by omega
                    have hadd := addM_snoc acc y x
                    have hal : acc.length + 1 ≤ 12 := by simp at hacl; omega
                    unfold goesOn at hadd
                    generalize k1e : (IntKind.u64.wrap (y.ipa + y.sz) == x.ipa) = k1 at *
                    generalize k2e : (IntKind.u64.wrap (y.pa + y.sz) == x.pa) = k2 at *
                    generalize k3e : (y.perm == x.perm) = k3 at *
                    generalize k4e : (y.kind == x.kind) = k4 at *
                    replace hadd := Lib.hid hadd
                    clear hown hnewx hacl
                    go_wp2_with fail
                    rw [← hW1]
                    clear hW1
                    rcases k1 with _ | _
                    · refine region_later W1.heap.size W1 (Below.refl _ _) (by kernel_rfl) (by kernel_rfl) ?_
                      have u0 := later_cell (B := W1.heap.size) y0 hg1
                      have u1 := later_cell (B := W1.heap.size) y1 hg1
                      have u2 := later_cell (B := W1.heap.size) y2 hg1
                      have u3 := later_cell (B := W1.heap.size) y3 hg1
                      have u4 := later_cell (B := W1.heap.size) y4 hg1
                      have v0 := later_cell (B := W1.heap.size) x0 hx1
                      have v1 := later_cell (B := W1.heap.size) x1 hx1
                      have v2 := later_cell (B := W1.heap.size) x2 hx1
                      have v3 := later_cell (B := W1.heap.size) x3 hx1
                      have v4 := later_cell (B := W1.heap.size) x4 hx1
                      repeat (change wpQuiet _ _ _ _ (List.cons _ _) _; go_big_quiet_step (fail))
                      refine wpQuiet_nil ?_
                      first | (rintro _ ⟨X, rfl⟩) | (intro X)
                      have hX := X.h
                      clear u0 u1 u2 u3 u4 v0 v1 v2 v3 v4
                      generalize X.x = W2 at *
                      clear X
                      replace x0 := cell_lt hX x0 hx1
                      replace x1 := cell_lt hX x1 hx1
                      replace x2 := cell_lt hX x2 hx1
                      replace x3 := cell_lt hX x3 hx1
                      replace x4 := cell_lt hX x4 hx1
                      have hr2 := hr1.below hX (Nat.le_refl _)
                      have hBB := hB1.trans (hX.mono hz81)
                      have hz2 : w8.heap.size ≤ W2.heap.size := by have := hX.size; omega
                      clear hX hr1
                      go_wp2_with (at_builtin; refine wpl_append_map rfl _ _ 22 rfl w8.heap.size 26 infoMapS Tryz.underlying22 (.slice (some ⟨g, 0, none⟩) (acc.length + 1) c) (acc ++ [y]) [x] rfl rfl ?_ ?_ ?_ ?_ ?_ ?_ ?_; (focus (exact hr2)); (focus rfl); (focus (first | rfl | (simp; done))); (focus rfl); (focus (first | (simp; done) | (simp; omega))); (focus (exact hz2)); intro v' w6 hown' hbel hgrow)
                      have e := hadd.out
                      refine ⟨?_, by simp [intOf]; omega⟩
                      exact ⟨k + 1, hlt, (by first | rfl | go_num), by rw [hfold.out, e]; exact hown', hBB.trans (hbel _ (Nat.le_refl _))⟩
                    · rcases k2 with _ | _
                      · refine region_later W1.heap.size W1 (Below.refl _ _) (by kernel_rfl) (by kernel_rfl) ?_
                        have u0 := later_cell (B := W1.heap.size) y0 hg1
                        have u1 := later_cell (B := W1.heap.size) y1 hg1
                        have u2 := later_cell (B := W1.heap.size) y2 hg1
                        have u3 := later_cell (B := W1.heap.size) y3 hg1
                        have u4 := later_cell (B := W1.heap.size) y4 hg1
                        have v0 := later_cell (B := W1.heap.size) x0 hx1
                        have v1 := later_cell (B := W1.heap.size) x1 hx1
                        have v2 := later_cell (B := W1.heap.size) x2 hx1
                        have v3 := later_cell (B := W1.heap.size) x3 hx1
                        have v4 := later_cell (B := W1.heap.size) x4 hx1
                        repeat (change wpQuiet _ _ _ _ (List.cons _ _) _; go_big_quiet_step (fail))
                        refine wpQuiet_nil ?_
                        first | (rintro _ ⟨X, rfl⟩) | (intro X)
                        have hX := X.h
                        clear u0 u1 u2 u3 u4 v0 v1 v2 v3 v4
                        generalize X.x = W2 at *
                        clear X
                        replace x0 := cell_lt hX x0 hx1
                        replace x1 := cell_lt hX x1 hx1
                        replace x2 := cell_lt hX x2 hx1
                        replace x3 := cell_lt hX x3 hx1
                        replace x4 := cell_lt hX x4 hx1
                        have hr2 := hr1.below hX (Nat.le_refl _)
                        have hBB := hB1.trans (hX.mono hz81)
                        have hz2 : w8.heap.size ≤ W2.heap.size := by have := hX.size; omega
                        clear hX hr1
                        go_wp2_with (at_builtin; refine wpl_append_map rfl _ _ 22 rfl w8.heap.size 26 infoMapS Tryz.underlying22 (.slice (some ⟨g, 0, none⟩) (acc.length + 1) c) (acc ++ [y]) [x] rfl rfl ?_ ?_ ?_ ?_ ?_ ?_ ?_; (focus (exact hr2)); (focus rfl); (focus (first | rfl | (simp; done))); (focus rfl); (focus (first | (simp; done) | (simp; omega))); (focus (exact hz2)); intro v' w6 hown' hbel hgrow)
                        have e := hadd.out
                        refine ⟨?_, by simp [intOf]; omega⟩
                        exact ⟨k + 1, hlt, (by first | rfl | go_num), by rw [hfold.out, e]; exact hown', hBB.trans (hbel _ (Nat.le_refl _))⟩
                      · rcases k3 with _ | _
                        · refine region_later W1.heap.size W1 (Below.refl _ _) (by kernel_rfl) (by kernel_rfl) ?_
                          have u0 := later_cell (B := W1.heap.size) y0 hg1
                          have u1 := later_cell (B := W1.heap.size) y1 hg1
                          have u2 := later_cell (B := W1.heap.size) y2 hg1
                          have u3 := later_cell (B := W1.heap.size) y3 hg1
                          have u4 := later_cell (B := W1.heap.size) y4 hg1
                          have v0 := later_cell (B := W1.heap.size) x0 hx1
                          have v1 := later_cell (B := W1.heap.size) x1 hx1
                          have v2 := later_cell (B := W1.heap.size) x2 hx1
                          have v3 := later_cell (B := W1.heap.size) x3 hx1
                          have v4 := later_cell (B := W1.heap.size) x4 hx1
                          repeat (change wpQuiet _ _ _ _ (List.cons _ _) _; go_big_quiet_step (fail))
                          refine wpQuiet_nil ?_
                          first | (rintro _ ⟨X, rfl⟩) | (intro X)
                          have hX := X.h
                          clear u0 u1 u2 u3 u4 v0 v1 v2 v3 v4
                          generalize X.x = W2 at *
                          clear X
                          replace x0 := cell_lt hX x0 hx1
                          replace x1 := cell_lt hX x1 hx1
                          replace x2 := cell_lt hX x2 hx1
                          replace x3 := cell_lt hX x3 hx1
                          replace x4 := cell_lt hX x4 hx1
                          have hr2 := hr1.below hX (Nat.le_refl _)
                          have hBB := hB1.trans (hX.mono hz81)
                          have hz2 : w8.heap.size ≤ W2.heap.size := by have := hX.size; omega
                          clear hX hr1
                          go_wp2_with (at_builtin; refine wpl_append_map rfl _ _ 22 rfl w8.heap.size 26 infoMapS Tryz.underlying22 (.slice (some ⟨g, 0, none⟩) (acc.length + 1) c) (acc ++ [y]) [x] rfl rfl ?_ ?_ ?_ ?_ ?_ ?_ ?_; (focus (exact hr2)); (focus rfl); (focus (first | rfl | (simp; done))); (focus rfl); (focus (first | (simp; done) | (simp; omega))); (focus (exact hz2)); intro v' w6 hown' hbel hgrow)
                          have e := hadd.out
                          refine ⟨?_, by simp [intOf]; omega⟩
                          exact ⟨k + 1, hlt, (by first | rfl | go_num), by rw [hfold.out, e]; exact hown', hBB.trans (hbel _ (Nat.le_refl _))⟩
                        · rcases k4 with _ | _
                          · refine region_later W1.heap.size W1 (Below.refl _ _) (by kernel_rfl) (by kernel_rfl) ?_
                            have u0 := later_cell (B := W1.heap.size) y0 hg1
                            have u1 := later_cell (B := W1.heap.size) y1 hg1
                            have u2 := later_cell (B := W1.heap.size) y2 hg1
                            have u3 := later_cell (B := W1.heap.size) y3 hg1
                            have u4 := later_cell (B := W1.heap.size) y4 hg1
                            have v0 := later_cell (B := W1.heap.size) x0 hx1
                            have v1 := later_cell (B := W1.heap.size) x1 hx1
                            have v2 := later_cell (B := W1.heap.size) x2 hx1
                            have v3 := later_cell (B := W1.heap.size) x3 hx1
                            have v4 := later_cell (B := W1.heap.size) x4 hx1
                            repeat (change wpQuiet _ _ _ _ (List.cons _ _) _; go_big_quiet_step (fail))
                            refine wpQuiet_nil ?_
                            first | (rintro _ ⟨X, rfl⟩) | (intro X)
                            have hX := X.h
                            clear u0 u1 u2 u3 u4 v0 v1 v2 v3 v4
                            generalize X.x = W2 at *
                            clear X
                            replace x0 := cell_lt hX x0 hx1
                            replace x1 := cell_lt hX x1 hx1
                            replace x2 := cell_lt hX x2 hx1
                            replace x3 := cell_lt hX x3 hx1
                            replace x4 := cell_lt hX x4 hx1
                            have hr2 := hr1.below hX (Nat.le_refl _)
                            have hBB := hB1.trans (hX.mono hz81)
                            have hz2 : w8.heap.size ≤ W2.heap.size := by have := hX.size; omega
                            clear hX hr1
                            go_wp2_with (at_builtin; refine wpl_append_map rfl _ _ 22 rfl w8.heap.size 26 infoMapS Tryz.underlying22 (.slice (some ⟨g, 0, none⟩) (acc.length + 1) c) (acc ++ [y]) [x] rfl rfl ?_ ?_ ?_ ?_ ?_ ?_ ?_; (focus (exact hr2)); (focus rfl); (focus (first | rfl | (simp; done))); (focus rfl); (focus (first | (simp; done) | (simp; omega))); (focus (exact hz2)); intro v' w6 hown' hbel hgrow)
                            have e := hadd.out
                            refine ⟨?_, by simp [intOf]; omega⟩
                            exact ⟨k + 1, hlt, (by first | rfl | go_num), by rw [hfold.out, e]; exact hown', hBB.trans (hbel _ (Nat.le_refl _))⟩
                          · refine region_later W1.heap.size W1 (Below.refl _ _) (by kernel_rfl) (by kernel_rfl) ?_
                            have u0 := later_cell (B := W1.heap.size) y0 hg1
                            have u1 := later_cell (B := W1.heap.size) y1 hg1
                            have u2 := later_cell (B := W1.heap.size) y2 hg1
                            have u3 := later_cell (B := W1.heap.size) y3 hg1
                            have u4 := later_cell (B := W1.heap.size) y4 hg1
                            have v0 := later_cell (B := W1.heap.size) x0 hx1
                            have v1 := later_cell (B := W1.heap.size) x1 hx1
                            have v2 := later_cell (B := W1.heap.size) x2 hx1
                            have v3 := later_cell (B := W1.heap.size) x3 hx1
                            have v4 := later_cell (B := W1.heap.size) x4 hx1
                            repeat (change wpQuiet _ _ _ _ (List.cons _ _) _; go_big_quiet_step (fail))
                            refine wpQuiet_nil ?_
                            first | (rintro _ ⟨X, rfl⟩) | (intro X)
                            have hX := X.h
                            clear u0 u1 u2 u3 u4 v0 v1 v2 v3 v4
                            generalize X.x = W2 at *
                            clear X
                            replace y0 := cell_lt hX y0 hg1
                            replace y1 := cell_lt hX y1 hg1
                            replace y2 := cell_lt hX y2 hg1
                            replace x2 := cell_lt hX x2 hx1
                            have hr2 := hr1.below hX (Nat.le_refl _)
                            have hBB := hB1.trans (hX.mono hz81)
                            have hg2 : g < W2.heap.size := Nat.lt_of_lt_of_le hg1 hX.size
                            have hx2 : wr.heap.size < W2.heap.size := Nat.lt_of_lt_of_le hx1 hX.size
                            have hz2 : w8.heap.size ≤ W2.heap.size := by have := hX.size; omega
                            clear hX hr1
                            go_wp2_with fail
                            refine region_later_tl W2.heap.size W2 9 (Below.refl _ _) (by kernel_rfl) (by kernel_rfl) ?_
                            simp only [List.take_succ_cons, List.take_zero, List.drop_succ_cons, List.drop_zero]
                            have u2 := later_cell (B := W2.heap.size) y2 hg2
                            have v2 := later_cell (B := W2.heap.size) x2 hx2
                            repeat (change wpQuiet _ _ _ _ (List.cons _ _) _; go_big_quiet_step (fail))
                            refine wpQuiet_nil ?_
                            first | (rintro _ ⟨X, rfl⟩) | (intro X)
                            have hX := X.h
                            clear u2 v2
                            generalize X.x = W4 at *
                            clear X
                            have hr4 := hr2.below hX (Nat.le_refl _)
                            have c2 := cell_lt hX y2 hg2
                            have hgo : (W4.heap[g]?).isSome := by rw [Array.getElem?_eq_getElem (Nat.lt_of_lt_of_le hg2 hX.size)]; rfl
                            have hfz : W4.frozen? ⟨g, acc.length * 5 + 2, none⟩ = false := by
                              have h5 : W4.ownsRow w8.heap.size 26 5 (.slice (some ⟨g, 0, none⟩) (acc.length + 1) c) (acc.length + 1) (encM (acc ++ [y])) := hll.out ▸ hr4
                              exact World.ownsRow.frozenAt h5 _
                            have h1 : OwnM 26 (W4.setCell ⟨g, acc.length * 5 + 2, none⟩ (.int .u64 (longer y x).sz)) w8.heap.size (.slice (some ⟨g, 0, none⟩) (acc.length + 1) c) (acc ++ [longer y x]) := by
                              have h5 : W4.ownsRow w8.heap.size 26 5 (.slice (some ⟨g, 0, none⟩) (acc.length + 1) c) (acc.length + 1) (encM (acc ++ [y])) := hll.out ▸ hr4
                              have h6 := ownsRow_put (.int .u64 (longer y x).sz) h5 (j := acc.length * 5 + 2) (by omega)
                              rw [encM_longer] at h6
                              unfold OwnM
                              rw [show (acc ++ [longer y x]).length = acc.length + 1 by simp]
                              exact h6
                            have hlg : (longer y x).sz = IntKind.u64.wrap (y.sz + x.sz) := rfl
                            have hBB4 := (hBB.trans (hX.mono hz2)).setCell (p := ⟨g, acc.length * 5 + 2, none⟩) hgb (.int .u64 (longer y x).sz)
                            go_wp2_with fail
                            have e := hadd.out
                            refine ⟨?_, by simp [intOf]; omega⟩
                            exact ⟨k + 1, hlt, (by first | rfl | go_num), by rw [hfold.out, e]; exact h1, hBB4⟩
                · obtain rfl : k = l.length := by omega
                  rw [List.take_length] at hown
                  obtain ⟨av2, cv2, rfl⟩ := rowSlice hown
                  have hrB := hown.row
                  have hsm := fun W h1 h2 => sameMaps_any (.slice av (l.foldl addM []).length cv) (.slice av2 (l.foldl addM []).length cv2) (l.foldl addM []) W h1 h2 (by have := foldM_len l; omega)
                  replace hrA := hrA.below (hB.mono (Nat.le_refl _))
                  clear hown hacl
                  go_wp2_with fail
                  refine (hsm _ hrA hrB).mono ?_; rintro e w9 ⟨rfl, hb9⟩
                  go_wp2_with fail
                  go_ret
                  exact ⟨rfl, bthen (hb8.trans (hB.mono hb8.size)) hb9⟩
          · have e1 := buildN_bad (n := pages) hn
            rw [e1] at hbd
            simp only at hbd
            replace e1 := Lib.hid e1
            go_wp2_with fail
            refine hbd.mono ?_; rintro e w7 ⟨vu, L7, rfl, hM, hb7⟩
            go_wp2_with fail
            go_ret
            exact ⟨rfl, hb6.trans hb7⟩
        · have hq' : (decide (l.length ≤ 12) && decide (cntP l ≤ 600)) = false := by simpa using hq
          rw [hq']
          go_wp2_with fail
          go_ret
          exact ⟨rfl, hb2⟩
  · have h12' : (12 : Int) < (l.length : Int) := by omega
    go_wp2_with fail
    go_ret
    exact ⟨rfl, hb1⟩
end Go.Proofs.YtnieomgopldlhaaGreatDoor
