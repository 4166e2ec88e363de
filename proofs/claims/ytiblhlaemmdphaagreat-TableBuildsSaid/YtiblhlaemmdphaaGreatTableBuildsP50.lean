/- The walk of the statement TableBuilds. -/
import Derived.Test.YtiblhlaemmdphaaGreatTableBuildsP10
import Derived.Test.YtiblhlaemmdphaaGreatTableBuildsP29
import Derived.Test.YtiblhlaemmdphaaGreatTableBuildsP46
import Derived.Test.YtiblhlaemmdphaaGreatTableBuildsP49
namespace Go.Proofs.YtiblhlaemmdphaaGreat
open Go Go.RowKit Go.Shelf Go.BigFrame Go.Maps
theorem mpl_new {W : World} {B mb pb fb : Nat} {L : List Pg} {s z : Int} {pl : Pl} (hm : MemP W mb pb s z L) (hp : PoolAt W fb (.slice none 0 0) pl) (hB : ∀ b ∈ memBlks mb pb L, B ≤ b) (hfb : B ≤ fb) (hne : ∀ b ∈ memBlks mb pb L, b ≠ fb) : MPl W B mb pb fb (.slice none 0 0) s z L pl (L.map Pg.ab) :=
 ⟨hm, rfl, hp, fun b hb => ⟨hne b hb, by simp [Value.ownBlock]⟩, ⟨hfb, hB⟩, fun b hb => by simp [Value.ownBlock] at hb⟩
theorem buildF_any {W : World} {B mb pb fb : Nat} {L : List Pg} {pg : PG} (n : Int) (v : Value) (l : List M5) (hM : MPl W B mb pb fb (.slice none 0 0) 1073741824 16777216 L (newV (ldT n)) pg) (hv : RowM W v l) (hvB : ∀ b o n c, v = .slice (some ⟨b, o, none⟩) n c → l ≠ [] → b < B) (hl : l.length ≤ 100000) :
  Calls Tryz.prog 10 #[.pointer (some ⟨mb, 0, none⟩), .pointer (some ⟨fb, 0, none⟩), v] W fun e w' => ∃ vu' L', e = .returned (.tuple #[.int .u64 (buildS 1073741824 16777216 l (newV (ldT n)) pg).2.1, .int .i64 (buildS 1073741824 16777216 l (newV (ldT n)) pg).2.2]) ∧ MPl w' B mb pb fb vu' 1073741824 16777216 L' (buildS 1073741824 16777216 l (newV (ldT n)) pg).1.pl (buildS 1073741824 16777216 l (newV (ldT n)) pg).1.pg ∧ MTurn B mb pb fb (.slice none 0 0) L vu' L' W w' := by
 obtain ⟨p1, p2, p3⟩ := pool_facts n
 refine build_any hM p1 p2 p3 v l hv hvB hl fun h => ?_
 have := allP_bd h
 rw [ldT_pool]
 dsimp only
 simp only [List.length_nil]
 omega
theorem mem2' {i a b : Nat} (h : i ∈ [a, b]) : i = a ∨ i = b := by simpa using h
theorem mem1' {i a : Nat} (h : i ∈ [a]) : i = a := by simpa using h
theorem rg_new {W : World} {B rb C : Nat} (n : Int) (hm : MemR W rb (.slice none 0 0) 1073741824 16777216 []) (hp : RPoolAt W C (.slice none 0 0) (ldT n) []) (hB : B ≤ rb ∧ B ≤ C) (hne : rb ≠ C) : RG W B rb C (.slice none 0 0) (.slice none 0 0) 1073741824 16777216 (ldT n) [] [] (newV (ldT n)) [] := by
 refine ⟨hm, hp, RefInv.new _, (pool_facts n).1, ⟨rfl, rfl⟩, fun b hb => ?_, fun b hb => ?_, by rw [ldT_pool]; show (0 : Int) ≤ 1000000; decide, fun b => rfl⟩
 ·rcases mem_refAll.1 hb with rfl | hb | hb
  ·exact hB.2
  ·simp [Value.ownBlock] at hb
  ·rcases mem_refBlks.1 hb with rfl | hb | hb
   ·exact hB.1
   ·simp [Value.ownBlock] at hb
   ·simp at hb
 ·rcases mem_refBlks.1 hb with rfl | hb | hb
  ·exact ⟨hne, by simp [Value.ownBlock]⟩
  ·simp [Value.ownBlock] at hb
  ·simp at hb
theorem cntP_all {l : List M5} (hn : (needV l).2 = 0) : (allP l).length = cntP l := by
 rw [allP_len]
 unfold cntP
 congr 1
 refine List.map_congr_left fun y hy => ?_
 rw [piecesV_ok hn hy, List.length_map]
set_option maxRecDepth 100000 in
set_option maxHeartbeats 4000000 in
theorem tableBuilds_walk (v : Value) (l : List M5) (pages : Int) (w : World) (hv : RowM w v l) (hl : l.length ≤ 9223372036854775807) :
  Calls Tryz.prog 4 #[v, .int .i64 pages] w fun e w' => e = .returned (.bool true) ∧ Below w.heap.size w w' := by
 have hbd := fun W h => bounded_any v l W h hl
 have hfl := fun W h => fewL_any v l W h
 have hv' := hv
 obtain ⟨a1, cp1, rfl, _, hc1⟩ := hv'
 have hvB : ∀ b o n c, Value.slice a1 l.length cp1 = .slice (some ⟨b, o, none⟩) n c → l ≠ [] → b < w.heap.size := fun b o n c e hl => by
  obtain ⟨b1, o1, e1, hb, _⟩ := hc1 hl
  rw [e1] at e
  cases e
  exact hb
 clear hc1
 replace hvB := Lib.hid hvB
 go_enter Tryz.func4, Tryz.ntmps4
 go_wp2_with fail
 refine (awake_any _).mono ?_; rintro e w1 ⟨rfl, hb1⟩
 go_wp2_with fail
 refine (hbd _ (hv.below hb1)).mono ?_; rintro e w2 ⟨rfl, hb2⟩
 replace hb2 := bthen hb1 hb2
 clear hb1 hbd
 cases hq : (l.all (fun m => decide (m.sz ≤ 1099511627776)) && decide (l.length ≤ 12))
 ·go_wp2_with fail
  go_ret
  exact ⟨rfl, hb2⟩
 ·have h12 : l.length ≤ 12 := by rw [Bool.and_eq_true, decide_eq_true_iff] at hq; exact hq.2
  clear hq
  go_wp2_with fail
  refine (hfl _ (hv.below hb2)).mono ?_; rintro e w3 ⟨rfl, hb3⟩
  replace hb3 := bthen hb2 hb3
  clear hfl hb2
  cases hq : (decide (l.length ≤ 12) && decide (cntP l ≤ 600))
  ·go_wp2_with fail
   go_ret
   exact ⟨rfl, hb3⟩
  ·have h600 : cntP l ≤ 600 := by rw [Bool.and_eq_true, decide_eq_true_iff, decide_eq_true_iff] at hq; exact hq.2
   clear hq
   go_wp2_with fail
   refine (ram_any pages w3).mono ?_; rintro e w4 ⟨rfl, hb4⟩
   replace hb4 := bthen hb3 hb4
   clear hb3
   go_wp2_with fail
   have hram : 4096 ≤ ramV pages ∧ ramV pages ≤ 4194304 := by unfold ramV; omega
   obtain ⟨r0, r1⟩ := two_new w4 (.int .u64 1073741824) (.int .u64 16777216) 28
   obtain ⟨m0, m1⟩ := two_new (w4.alloc (.cells #[.int .u64 1073741824, .int .u64 16777216] 28)) (.int .u64 1073741824) (.int .u64 (ramV pages)) 28
   rw [World.size_alloc] at m0 m1
   have hb45 := bone (w4.alloc (.cells #[.int .u64 1073741824, .int .u64 16777216] 28)) (.cells #[.int .u64 1073741824, .int .u64 (ramV pages)] 28)
   replace r0 := cell_lt hb45 r0 (by simp)
   replace r1 := cell_lt hb45 r1 (by simp)
   clear hb45
   have hb5 : Below w.heap.size w ((w4.alloc (.cells #[.int .u64 1073741824, .int .u64 16777216] 28)).alloc (.cells #[.int .u64 1073741824, .int .u64 (ramV pages)] 28)) := bthen (bthen hb4 (bone _ _)) (bone _ _)
   have l5 : w4.heap.size + 1 < ((w4.alloc (.cells #[.int .u64 1073741824, .int .u64 16777216] 28)).alloc (.cells #[.int .u64 1073741824, .int .u64 (ramV pages)] 28)).heap.size := by simp
   have l4 : w4.heap.size < ((w4.alloc (.cells #[.int .u64 1073741824, .int .u64 16777216] 28)).alloc (.cells #[.int .u64 1073741824, .int .u64 (ramV pages)] 28)).heap.size := by simp; omega
   clear hb4
   generalize (w4.alloc (.cells #[.int .u64 1073741824, .int .u64 16777216] 28)).alloc (.cells #[.int .u64 1073741824, .int .u64 (ramV pages)] 28) = w5 at *
   generalize w4.heap.size + 1 = sb at *
   generalize w4.heap.size = qb at *
   generalize hrv : ramV pages = R at *
   replace hrv := Lib.hid hrv
   replace hv := Lib.hid hv
   have hz5 := hb5.size
   refine (newRam w5).mono ?_; rintro e w6 ⟨mb, pb, rfl, hm1, hb6, hz1, hz2⟩
   have hB6 := hb6
   replace r0 := cell_lt hb6 r0 l4
   replace r1 := cell_lt hb6 r1 l4
   replace m0 := cell_lt hb6 m0 l5
   replace m1 := cell_lt hb6 m1 l5
   replace l5 := Nat.lt_of_lt_of_le l5 hb6.size
   have hz56 := hb6.size
   have hnr := refNewMem_any ramT w6 ram_ok.1 ram_ok.2
   change Calls _ _ #[.agg #[.int .u64 1073741824, .int .u64 16777216], .slice none 0 0] w6 _ at hnr
   go_wp2_with fail
   refine hnr.mono ?_; rintro e w7 ⟨rb, rfl, hr1, hb7, hz3⟩
   clear hnr
   replace hr1 : MemR w7 rb (.slice none 0 0) 1073741824 16777216 [] := hr1
   replace m0 := cell_lt hb7 m0 l5
   replace m1 := cell_lt hb7 m1 l5
   replace l5 := Nat.lt_of_lt_of_le l5 hb7.size
   have hz67 := hb7.size
   have hm7 := hm1.below hb7 (Nat.le_refl _)
   have hlm : ∀ b ∈ memBlks mb pb [], w5.heap.size ≤ b ∧ b < w6.heap.size := fun b hb => by
    refine ⟨?_, hm1.lt b hb⟩
    simp [memBlks] at hb
    rcases hb with rfl | rfl <;> assumption
   have hlr := hr1.lt rb (mem_refBlks.2 (.inl rfl))
   have hbw7 := bthen hb5 (bthen hb6 hb7)
   clear r0 r1 l4 hb6 hm1
   go_wp2_with fail
   have hld := newLd pages
   rw [hrv.out] at hld
   have hRw : W64 R := by unfold W64; omega
   have hTd : (ldT pages).b = R := hrv.out
   replace hTd := Lib.hid hTd
   refine region_tree (fun z => ∃ X : Later w7.heap.size w7, z = X.x) (by kernel_rfl) ?_
   have hbD : Below w7.heap.size w7 w7.drew := (Below.refl _ _).drew
   have y0 := later_cell (B := w7.heap.size) m0 l5
   have y1 := later_cell (B := w7.heap.size) m1 l5
   generalize w7.drew = X0 at *
   refine tree_step [0, 2, 3] [1, 4] 3 (by kernel_rfl) (fun _ _ d _ _ h => by cases d <;> exact h) (by kernel_rfl) (by simp) rfl ⟨⟨X0, hbD⟩, rfl⟩ ?_
   simp only [List.filterMap_cons, List.filterMap_nil, List.getElem?_cons_succ, List.getElem?_cons_zero]
   repeat (change wpQuiet _ _ _ _ (List.cons _ _) _; go_big_quiet_step (fail))
   refine wpQuiet_nil ?_
   intro i hi Q₁ hQ₁ hQp
   have hzD := hbD.size
   obtain rfl | rfl := mem2' hi
   simp only [List.getElem?_cons_succ, List.getElem?_cons_zero, Option.toList]
   go_wp2_with fail
   refine (hld X0).mono ?_; rintro e X1 ⟨fb, rfl, hz4, hp1, hb8⟩
   have hb71 := hbD.trans (hb8.mono hzD)
   go_wp2_with fail
   refine hQ₁ _ _ ⟨⟨X1, hb71⟩, rfl⟩ ?_
   clear hQ₁ hQp Q₁
   refine tree_step [5] [4] 1 (by kernel_rfl) (fun _ _ d _ _ h => by cases d <;> exact h) (by kernel_rfl) (by simp) rfl ⟨⟨X1, hb71⟩, rfl⟩ ?_
   simp only [List.filterMap_cons, List.filterMap_nil, List.getElem?_cons_succ, List.getElem?_cons_zero]
   repeat (change wpQuiet _ _ _ _ (List.cons _ _) _; go_big_quiet_step (fail))
   refine wpQuiet_nil ?_
   intro i hi Q₁ hQ₁ hQp
   obtain rfl := mem1' hi
   simp only [List.getElem?_cons_succ, List.getElem?_cons_zero, Option.toList]
   have hbo := fun o => hb71.trans ((bone X1 o).mono hb71.size)
   go_wp2_with fail
   have hC8 : (X1.alloc (.cells #[.int .u64 1073741824, .int .u64 R, .slice none 0 0] 52)).heap[X1.heap.size]? = some (.cells #[.int .u64 1073741824, .int .u64 R, .slice none 0 0] 52 (0, 0)) := World.alloc_heap_new _ _
   have hb78 := hbo (.cells #[.int .u64 1073741824, .int .u64 R, .slice none 0 0] 52)
   have hp := hp1.below (bone X1 (.cells #[.int .u64 1073741824, .int .u64 R, .slice none 0 0] 52))
   have hfl1 := hp1.lt
   have hne8 : fb ≠ X1.heap.size := by omega
   have hlow8 : w7.heap.size ≤ fb ∧ w7.heap.size ≤ X1.heap.size := by have := hb71.size; omega
   generalize X1.alloc (.cells #[.int .u64 1073741824, .int .u64 R, .slice none 0 0] 52) = w8 at *
   generalize X1.heap.size = C at *
   refine hQ₁ _ _ ⟨⟨w8, hb78⟩, rfl⟩ ?_
   clear hQ₁ hQp Q₁ hbo
   refine tree_end [6] (by kernel_rfl) (fun _ _ d _ _ h => by cases d <;> exact h) (by kernel_rfl) rfl ⟨⟨w8, hb78⟩, rfl⟩ ?_
   simp only [List.filterMap_cons, List.filterMap_nil, List.getElem?_cons_succ, List.getElem?_cons_zero]
   repeat (change wpQuiet _ _ _ _ (List.cons _ _) _; go_big_quiet_step (fail))
   refine wpQuiet_nil ?_
   clear hb8 hb71 hz4 hp1 hfl1
   rotate_left
   try simp only [List.getElem?_cons_succ, List.getElem?_cons_zero, Option.toList]
   have hbo := fun o => hbD.trans ((bone X0 o).mono hzD)
   go_wp2_with fail
   have hC1 : (X0.alloc (.cells #[.int .u64 1073741824, .int .u64 R, .slice none 0 0] 52)).heap[X0.heap.size]? = some (.cells #[.int .u64 1073741824, .int .u64 R, .slice none 0 0] 52 (0, 0)) := World.alloc_heap_new _ _
   have hb71 := hbo (.cells #[.int .u64 1073741824, .int .u64 R, .slice none 0 0] 52)
   have hzX1 : X0.heap.size < (X0.alloc (.cells #[.int .u64 1073741824, .int .u64 R, .slice none 0 0] 52)).heap.size := by simp
   generalize X0.alloc (.cells #[.int .u64 1073741824, .int .u64 R, .slice none 0 0] 52) = X1 at *
   generalize X0.heap.size = C at *
   refine hQ₁ _ _ ⟨⟨X1, hb71⟩, rfl⟩ ?_
   clear hQ₁ hQp Q₁ hbo
   refine tree_step [] [1] 2 (by kernel_rfl) (fun _ _ d _ _ h => by cases d <;> exact h) (by kernel_rfl) (by simp) rfl ⟨⟨X1, hb71⟩, rfl⟩ ?_
   simp only [List.filterMap_nil]
   refine wpQuiet_nil ?_
   intro i hi Q₁ hQ₁ hQp
   obtain rfl := mem1' hi
   try simp only [List.getElem?_cons_succ, List.getElem?_cons_zero, Option.toList]
   go_wp2_with fail
   refine (hld X1).mono ?_; rintro e w8 ⟨fb, rfl, hz4, hp, hb8⟩
   have hb78 := hb71.trans (hb8.mono hb71.size)
   have hC8 := (hb8.block C hzX1).trans hC1
   have hne8 : fb ≠ C := by omega
   have hlow8 : w7.heap.size ≤ fb ∧ w7.heap.size ≤ C := by omega
   go_wp2_with fail
   refine hQ₁ _ _ ⟨⟨w8, hb78⟩, rfl⟩ ?_
   clear hQ₁ hQp Q₁
   refine tree_end [5, 6] (by kernel_rfl) (fun _ _ d _ _ h => by cases d <;> exact h) (by kernel_rfl) rfl ⟨⟨w8, hb78⟩, rfl⟩ ?_
   simp only [List.filterMap_cons, List.filterMap_nil, List.getElem?_cons_succ, List.getElem?_cons_zero]
   repeat (change wpQuiet _ _ _ _ (List.cons _ _) _; go_big_quiet_step (fail))
   refine wpQuiet_nil ?_
   clear hb8 hC1 hzX1 hb71 hz4
   all_goals
    clear y0 y1 hbD hld m0 m1 l5
    have hz78 := hb78.size
    have hm8 := hm7.below hb78 (Nat.le_refl _)
    have hr8 := hr1.below hb78 (Nat.le_refl _)
    have hq8 : RPoolAt w8 C (.slice none 0 0) (ldT pages) [] := ⟨by rw [hTd.out]; exact hC8, World.ownsRow_nil _ _ _ _⟩
    have hbw8 := bthen hbw7 hb78
    have hM := mpl_new (B := w5.heap.size) hm8 hp (fun b hb => (hlm b hb).1) (by omega) (fun b hb => by have := hlm b hb; omega)
    have hG := rg_new (B := w5.heap.size) pages hr8 hq8 ⟨by omega, by omega⟩ (by omega)
    have hbd := buildF_any pages (.slice a1 l.length cp1) l hM (hv.out.below hbw8) (fun b o n c e h => Nat.lt_of_lt_of_le (hvB.out b o n c e h) hz5) (by omega)
    rw [show (List.map Pg.ab ([] : List Pg)) = [] from rfl] at hbd
    obtain ⟨p1, p2, p3⟩ := pool_facts pages
    have hrmo := build_ram (l := l) p1 p2 p3 (pg := []) ⟨PgOk.nil, fun b h => absurd rfl h, fun p hp => (by cases hp), by decide⟩
    have hrbd : ∀ W, RG W w5.heap.size rb C (.slice none 0 0) (.slice none 0 0) 1073741824 16777216 (ldT pages) [] [] (newV (ldT pages)) [] → Below w.heap.size w W → _ := fun W h hb => refBuild_any h p2 p3 PgOk.nil (.slice a1 l.length cp1) l (hv.out.below hb) (fun b o n c e h => Nat.lt_of_lt_of_le (hvB.out b o n c e h) hz5) (by omega) (by rw [ldT_pool]; show pages % 1024 + 1 ≤ 1000000; omega) (fun hn => by rw [cntP_all hn]; simp; omega)
    obtain ⟨SS, hS⟩ : ∃ SS, buildS 1073741824 16777216 l (newV (ldT pages)) [] = SS := ⟨_, rfl⟩
    rw [hS] at hbd hrmo
    simp only [hS] at hrbd
    obtain ⟨st, root, err⟩ := SS
    simp only at hbd hrmo hrbd
    replace hrbd := Lib.hid hrbd
    replace hrmo := Lib.hid hrmo
    replace hS := Lib.hid hS
    clear p1 p2 p3
    go_wp2_with fail
    refine hbd.mono ?_; rintro e w9 ⟨v9, L9, rfl, hM9, hT9⟩
    clear hbd
    have hl8 := hG.lt
    have hd8 : ∀ b ∈ refAll rb (.slice none 0 0) [] C (.slice none 0 0), b ∉ mplBlks mb pb fb (.slice none 0 0) [] := fun b hb hm => by
     have hbc : b = C ∨ b = rb := by
      rcases mem_refAll.1 hb with h | h | h
      ·exact .inl h
      ·simp [Value.ownBlock] at h
      ·rcases mem_refBlks.1 h with h | h | h
       ·exact .inr h
       ·simp [Value.ownBlock] at h
       ·simp at h
     rcases mem_mpl.1 hm with h | h | h
     ·omega
     ·simp [Value.ownBlock] at h
     ·have := hlm b h; omega
    have hG9 := hG.same fun b hb => hT9.off.rest b (hl8 b hb) (hd8 b hb)
    have hbw9 : Below w.heap.size w w9 := hbw8.trans (hT9.off.below.mono hz5)
    have hrb9 := hrbd.out w9 hG9 hbw9
    have hz89 := hT9.off.below.size
    have hd9 : ∀ b ∈ mplBlks mb pb fb v9 L9, b ∉ refAll rb (.slice none 0 0) [] C (.slice none 0 0) := fun b hb hr => by
     rcases hT9.blks b hb with h | h
     ·exact hd8 b hr h
     ·have := hl8 b hr; omega
    clear hG hd8
    go_wp2_with fail
    refine hrb9.mono ?_; rintro e w10 ⟨rfl, pv, vr, L2, U2, hG10, hT10, hl10⟩
    clear hrb9 hrbd
    have hM10 := hM9.same fun b hb => hT10.off.rest b (hM9.lt b hb).2 (hd9 b hb)
    have hbw10 : Below w.heap.size w w10 := hbw9.trans (hT10.off.below.mono hz5)
    have hab := hM10.ab
    have hbe : ∀ b, bt (L2.map Pg.ab) b = bt (L9.map Pg.ab) b := fun b => by rw [hab]; exact hG10.be b
    have hR9 : RamOk 1073741824 16777216 (L9.map Pg.ab) := by rw [hab]; exact hrmo.out
    have hc9 : L9.length ≤ 1099511627776 := by have := hR9.count; rw [List.length_map] at this; omega
    have hc2 : L2.length ≤ 1000000 := by simp at hl10; omega
    have hus : ∀ X : Later w10.heap.size w10, Calls Tryz.prog 16 #[.pointer (some ⟨fb, 0, none⟩)] X.x fun e w' => e = .returned (.int .u64 st.pl.out) ∧ Below X.x.heap.size X.x w' := fun X => (used_any fb v9 st.pl X.x (hM10.pool.below X.h)).mono fun e w' ⟨h1, h2⟩ => ⟨h1, h2 ▸ Below.refl _ _⟩
    have hsm : ∀ X : Later w10.heap.size w10, Calls Tryz.prog 17 #[.pointer (some ⟨mb, 0, none⟩), .pointer (some ⟨rb, 0, none⟩)] X.x fun e w' => e = .returned (.bool true) ∧ Below X.x.heap.size X.x w' := fun X => same_any mb pb rb pv L9 L2 X.x (hM10.mem.below X.h (Nat.le_refl _)) (hG10.mem.below X.h (Nat.le_refl _)) hbe hR9 hc9 hc2
    have hvo : ∃ x c, vr = .slice x U2.length c := by
     obtain ⟨hlen, ⟨rfl, h0⟩ | ⟨g, cap, cur, rfl, -⟩⟩ := hG10.pool.own
     ·exact ⟨none, 0, by rw [h0]⟩
     ·exact ⟨_, _, rfl⟩
    obtain ⟨x, c, rfl⟩ := hvo
    have hU := hG10.inv.out
    have hUo := hG10.out
    obtain ⟨_, _, cC⟩ := hG10.pool.cells
    have hCl := hG10.pool.lt
    have y0 := later_cell (B := w10.heap.size) cC hCl
    have hx1 : (root == root) = true := by simp
    have hx2 : (err == err) = true := by simp
    obtain ⟨n2, hn2⟩ : ∃ n2, U2.length = n2 := ⟨_, rfl⟩
    rw [hn2] at hU y0
    have hx3 : (st.pl.out == IntKind.u64.wrap (n2 : Int)) = true := by
     rw [hU, IntKind.wrap_u64, Int.emod_eq_of_lt (by omega) (by omega)]; simp
    replace hU := Lib.hid hU
    clear hbe hR9 hc9 hc2 hG10 hM10 hab hT10 hG9 hM9 hT9 hd9 hl8 hM hn2 cC
    go_wp2_with fail
    refine region_later w10.heap.size w10 (Below.refl _ _) (by kernel_rfl) (by kernel_rfl) ?_
    repeat (change wpQuiet _ _ _ _ (List.cons _ _) _; go_big_quiet_step (fail))
    change wpQuiet _ _ _ _ (List.cons _ _) _
    go_big_quiet_step ((go_at_call 16; exact quiet_later (Nat.le_refl _) (hus _)))
    repeat (change wpQuiet _ _ _ _ (List.cons _ _) _; go_big_quiet_step (fail))
    change wpQuiet _ _ _ _ (List.cons _ _) _
    go_big_quiet_step ((go_at_call 17; exact quiet_later (Nat.le_refl _) (hsm _)))
    repeat (change wpQuiet _ _ _ _ (List.cons _ _) _; go_big_quiet_step (fail))
    refine wpQuiet_nil ?_
    first | (rintro _ ⟨X, rfl⟩) | (intro X)
    have hX := X.h
    go_wp2_with fail
    go_ret
    exact ⟨rfl, bthen hbw10 hX⟩
end Go.Proofs.YtiblhlaemmdphaaGreat
