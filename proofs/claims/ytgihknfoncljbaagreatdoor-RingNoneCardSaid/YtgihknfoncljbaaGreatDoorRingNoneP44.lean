/- A new memory with junk, of both. -/
import Derived.Test.YtgihknfoncljbaaGreatDoorRingNoneP40
import Derived.Test.YtgihknfoncljbaaGreatDoorRingNoneP43
namespace Go.Proofs.YtgihknfoncljbaaGreatDoor
open Go Go.RowKit Go.Shelf Go.BigFrame Go.Maps

theorem GivB.row {w w0 : World} {v : Value} {l : List Int} (h : GivB w0 v l) (hb : Below w0.heap.size w0 w) {Bs : List Nat} (hB : ∀ b ∈ Bs, w0.heap.size ≤ b) :
    ∃ x b off cap, v = .slice x l.length cap ∧ l.length ≤ cap + l.length ∧ (l ≠ [] → x = some ⟨b, off, none⟩ ∧ b < w.heap.size ∧ b ∉ Bs ∧ ∀ i (h : i < l.length), w.cell? ⟨b, off + i, none⟩ = some (.int .u8 l[i])) := by
  rcases h with ⟨rfl, rfl⟩ | ⟨b, off, cap, rfl, h2, h3⟩
  · exact ⟨none, 0, 0, 0, rfl, by simp, fun h => absurd rfl h⟩
  · exact ⟨_, b, off, cap, rfl, by omega, fun _ => ⟨rfl, Nat.lt_of_lt_of_le h2 hb.size, fun hm => by have := hB b hm; omega, fun i hi => (hb.cell (p := ⟨b, _, none⟩) h2).trans (h3 i hi)⟩⟩
set_option maxRecDepth 20000 in
set_option maxHeartbeats 2000000 in
theorem newMemJ_any (x : Two) (jb cap : Nat) (v : Value) (l : List Int) (w : World) (h1 : pageBad x = false) (h2 : lastV x.a x.b < 1099511627776) (hj : jb < w.heap.size)
    (c0 : w.cell? ⟨jb, 0, none⟩ = some (.int .u64 1074266112)) (c1 : w.cell? ⟨jb, 1, none⟩ = some v) (hv : GivB w v l) (hcp : ∀ y c, v = .slice y l.length c → l.length ≤ c) (hl : ∀ c ∈ l, 0 ≤ c ∧ c < 256) (hlen : l.length ≤ 300) (hq : askV x.a x.b 1074266112 l.length = 0) :
    Calls Tryz.prog 16 #[.agg #[.int .u64 x.a, .int .u64 x.b], .slice (some ⟨jb, 0, none⟩) 1 cap] w fun e w' =>
      ∃ mb pb L', e = .returned (.tuple #[.pointer (some ⟨mb, 0, none⟩), .int .i64 0]) ∧ MemP w' mb pb x.a x.b L' ∧ L'.map Pg.ab = writeV [] 1074266112 l ∧ Below w.heap.size w w' ∧ ∀ b ∈ memBlks mb pb L', w.heap.size ≤ b := by
  have hp := fun (W : World) => pages_any (.slice (some ⟨W.heap.size, 0, none⟩) 1 1) [x] (W.alloc (.cells #[.int .u64 x.a, .int .u64 x.b] 54)) (rowOne W x) (by simp)
  have hlv := fun W => last_any x.a x.b W x.ha x.hb
  have e1 : ([x] : List Two).any pageBad = false := by simp [h1]
  rw [e1] at hp
  have hw : ∀ (W : World) mb pb, MemP W mb pb x.a x.b [] → Below w.heap.size w W → w.heap.size ≤ mb → w.heap.size ≤ pb → Calls Tryz.prog 38 #[.pointer (some ⟨mb, 0, none⟩), .int .u64 1074266112, v] W fun e W' => e = .returned (.int .i64 0) ∧ ∃ L', Wrote W W' mb pb x.a x.b [] L' w.heap.size (writeV [] 1074266112 l) := by
    intro W mb pb hm hb hmb hpb
    have hB : ∀ k ∈ memBlks mb pb [], w.heap.size ≤ k := by intro k hk; simp [memBlks] at hk; omega
    obtain ⟨y, b, off, cp, rfl, -, hx⟩ := hv.row hb hB
    have h := write_any mb pb x.a x.b 1074266112 [] w.heap.size b off cp y l W hm (by unfold W64; omega) hB hx hl (by omega) (hcp _ _ rfl)
    rw [hq] at h
    exact h
  obtain ⟨y, cp, rfl⟩ := hv.open
  clear hcp hv hq e1 h1 hl hlen
  generalize hN : l.length = N at *
  obtain ⟨lv, hlv'⟩ : ∃ lv, lastV x.a x.b = lv := ⟨_, rfl⟩
  rw [hlv'] at hlv h2
  clear hlv'
  have hmm := @run_makeMap Tryz.prog
  obtain ⟨m0, m1⟩ := two_new w (.int .u64 x.a) (.int .u64 x.b) 54
  have hb0 := bone w (.cells #[.int .u64 x.a, .int .u64 x.b] 54)
  have hz0 : w.heap.size < (w.alloc (.cells #[.int .u64 x.a, .int .u64 x.b] 54)).heap.size := by simp
  replace hw := Lib.hid hw
  go_enter Tryz.func16, Tryz.ntmps16
  have hzz : (w.alloc (.cells #[.int .u64 x.a, .int .u64 x.b] 54)).heap.size = w.heap.size + 1 := by simp
  go_wp2_with fail
  generalize w.alloc (.cells #[.int .u64 x.a, .int .u64 x.b] 54) = w0 at *
  have hp0 := hp w0
  simp only [hzz] at hp0
  refine hp0.mono ?_; rintro e w1 ⟨rfl, hb1⟩
  clear hp0
  rw [World.size_alloc, hzz] at hb1
  replace hb1 : Below w0.heap.size w0 w1 := (bone _ _).trans (hb1.mono (by omega))
  clear hzz
  replace m0 := cell_lt hb1 m0 hz0
  replace m1 := cell_lt hb1 m1 hz0
  replace hz0 := Nat.lt_of_lt_of_le hz0 hb1.size
  replace hb1 := bthen hb0 hb1
  clear hb0 hp
  go_wp2_with fail
  refine (hlv w1).mono ?_; rintro e w2 ⟨rfl, hb2⟩
  replace m0 := cell_lt hb2 m0 hz0
  replace m1 := cell_lt hb2 m1 hz0
  replace hz0 := Nat.lt_of_lt_of_le hz0 hb2.size
  replace hb1 := bthen hb1 hb2
  clear hb2 hlv
  replace c0 := cell_lt hb1 c0 hj
  replace c1 := cell_lt hb1 c1 hj
  replace hj := Nat.lt_of_lt_of_le hj hb1.size
  go_wp2_with fail
  have hlo : ∀ (o1 o2 : Obj), ((w2.alloc o1).alloc o2).heap[w2.heap.size]? = some o1 := fun o1 o2 => ((bone _ _).block _ (by simp)).trans (World.alloc_heap_new w2 o1)
  have hhi : ∀ (o1 o2 : Obj), ((w2.alloc o1).alloc o2).heap[w2.heap.size + 1]? = some o2 := fun o1 o2 => by
    have := World.alloc_heap_new (w2.alloc o1) o2
    rwa [World.size_alloc] at this
  have hm3 : MemP ((w2.alloc (.map #[] 0)).alloc (.cells #[.int .u64 x.a, .int .u64 x.b, .map (some w2.heap.size)] 111)) (w2.heap.size + 1) w2.heap.size x.a x.b [] := ⟨hhi _ _, ⟨#[], 0, hlo _ _, rfl, Go.MapKept.stamped_empty 0⟩, by simp, by simp, PgOk.nil, x.ha, x.hb⟩
  have hb3 : Below w.heap.size w ((w2.alloc (.map #[] 0)).alloc (.cells #[.int .u64 x.a, .int .u64 x.b, .map (some w2.heap.size)] 111)) := (hb1.alloc (by omega) _).alloc (by simp; omega) _
  have hb4 : Below w2.heap.size w2 ((w2.alloc (.map #[] 0)).alloc (.cells #[.int .u64 x.a, .int .u64 x.b, .map (some w2.heap.size)] 111)) := (bone _ _).trans ((bone _ _).mono (by simp))
  have c30 := cell_lt hb4 c0 hj
  have c31 := cell_lt hb4 c1 hj
  generalize hW3 : (w2.alloc (.map #[] 0)).alloc (.cells #[.int .u64 x.a, .int .u64 x.b, .map (some w2.heap.size)] 111) = W3 at *
  have hw3 := fun (o : Obj) => hw.out (W3.alloc o) _ _ (hm3.below (bone _ _) (Nat.le_refl _)) (hb3.trans ((bone _ _).mono hb3.size)) (by omega) (by omega)
  have hb5 := fun (o : Obj) => hb3.trans ((bone W3 o).mono hb3.size)
  have hs3 : w2.heap.size + 2 = W3.heap.size := by rw [← hW3]; simp
  clear hlo hhi hW3 c0 c1 hb4 m0 m1 hz0 h2 hmm
  replace hs3 := Lib.hid hs3
  replace hw := Lib.hid hw3
  clear hw3
  refine wp_loop_rounds 2 ?_
  rw [rounds_succ]
  go_wp2_with fail
  refine (hw.out _).mono ?_; rintro e w4 ⟨rfl, L', hw4⟩
  go_wp2_with fail
  rw [rounds_succ]
  go_wp2_with fail
  go_ret2
  have hm5 : ∀ k ∈ memBlks (w2.heap.size + 1) w2.heap.size L', w.heap.size ≤ k := by
    intro k hk
    have h0 := hb5 (.cells #[Value.int IntKind.u64 1074266112, Value.slice y N cp] 56)
    rcases hw4.blks k hk with h | h
    · have := hb1.size
      simp [memBlks] at h; omega
    · exact Nat.le_trans h0.size h
  exact ⟨_, _, L', rfl, hw4.mem, hw4.ab, (hb5 _).trans hw4.off.below, hm5⟩
set_option maxRecDepth 20000 in
set_option maxHeartbeats 2000000 in
theorem refNewMemJ_any (x : Two) (jb cap : Nat) (v : Value) (l : List Int) (w : World) (h1 : pageBad x = false) (h2 : lastV x.a x.b < 1099511627776) (hj : jb < w.heap.size)
    (c0 : w.cell? ⟨jb, 0, none⟩ = some (.int .u64 1074266112)) (c1 : w.cell? ⟨jb, 1, none⟩ = some v) (hv : GivB w v l) (hcp : ∀ y c, v = .slice y l.length c → l.length ≤ c) (hl : ∀ c ∈ l, 0 ≤ c ∧ c < 256) (hlen : l.length ≤ 300) (hq : askV x.a x.b 1074266112 l.length = 0) :
    Calls Tryz.prog 17 #[.agg #[.int .u64 x.a, .int .u64 x.b], .slice (some ⟨jb, 0, none⟩) 1 cap] w fun e w' =>
      ∃ rb pv L', e = .returned (.tuple #[.pointer (some ⟨rb, 0, none⟩), .int .i64 0]) ∧ MemR w' rb pv x.a x.b L' ∧ L'.map Pg.ab = writeV [] 1074266112 l ∧ Below w.heap.size w w' ∧ ∀ b ∈ refBlks rb pv L', w.heap.size ≤ b := by
  have hp := fun (W : World) => refPages_any x W
  have hlv := fun W => refLast_any x.a x.b W x.ha x.hb
  rw [h1] at hp
  have hw : ∀ (W : World) rb, MemR W rb (.slice none 0 0) x.a x.b [] → Below w.heap.size w W → w.heap.size ≤ rb → Calls Tryz.prog 41 #[.pointer (some ⟨rb, 0, none⟩), .int .u64 1074266112, v] W fun e W' => e = .returned (.int .i64 0) ∧ ∃ pv' L', WroteR W W' rb (.slice none 0 0) pv' x.a x.b [] L' w.heap.size (writeV [] 1074266112 l) := by
    intro W rb hm hb hrb
    have hB : ∀ k ∈ refBlks rb (.slice none 0 0) [], w.heap.size ≤ k := by intro k hk; rcases mem_refBlks.1 hk with h | h | h <;> first | omega | exact (nomatch h) | simp at h
    obtain ⟨y, b, off, cp, rfl, -, hx⟩ := hv.row hb hB
    have h := refWrite_any rb (.slice none 0 0) x.a x.b 1074266112 [] w.heap.size b off cp y l W hm (by unfold W64; omega) hB hx hl (by simp; omega) (hcp _ _ rfl)
    rw [hq] at h
    exact h
  obtain ⟨y, cp, rfl⟩ := hv.open
  clear hcp hv hq h1 hl hlen
  generalize hN : l.length = N at *
  obtain ⟨lv, hlv'⟩ : ∃ lv, lastV x.a x.b = lv := ⟨_, rfl⟩
  rw [hlv'] at hlv h2
  clear hlv'
  obtain ⟨m0, m1⟩ := two_new w (.int .u64 x.a) (.int .u64 x.b) 54
  have hb0 := bone w (.cells #[.int .u64 x.a, .int .u64 x.b] 54)
  have hz0 : w.heap.size < (w.alloc (.cells #[.int .u64 x.a, .int .u64 x.b] 54)).heap.size := by simp
  replace hw := Lib.hid hw
  go_enter Tryz.func17, Tryz.ntmps17
  go_wp2_with fail
  generalize w.alloc (.cells #[.int .u64 x.a, .int .u64 x.b] 54) = w0 at *
  refine (hp w0).mono ?_; rintro e w1 ⟨rfl, hb1⟩
  replace m0 := cell_lt hb1 m0 hz0
  replace m1 := cell_lt hb1 m1 hz0
  replace hz0 := Nat.lt_of_lt_of_le hz0 hb1.size
  replace hb1 := bthen hb0 hb1
  clear hb0 hp
  go_wp2_with fail
  refine (hlv w1).mono ?_; rintro e w2 ⟨rfl, hb2⟩
  replace m0 := cell_lt hb2 m0 hz0
  replace m1 := cell_lt hb2 m1 hz0
  replace hz0 := Nat.lt_of_lt_of_le hz0 hb2.size
  replace hb1 := bthen hb1 hb2
  clear hb2 hlv
  replace c0 := cell_lt hb1 c0 hj
  replace c1 := cell_lt hb1 c1 hj
  replace hj := Nat.lt_of_lt_of_le hj hb1.size
  go_wp2_with fail
  have hm3 : MemR (w2.alloc (.cells #[.int .u64 x.a, .int .u64 x.b, .slice none 0 0] 116)) w2.heap.size (.slice none 0 0) x.a x.b [] := ⟨World.alloc_heap_new w2 _, World.ownsRow_nil _ _ _ _, by simp, by simp, PgOk.nil, x.ha, x.hb⟩
  have hb3 : Below w.heap.size w (w2.alloc (.cells #[.int .u64 x.a, .int .u64 x.b, .slice none 0 0] 116)) := hb1.alloc (by omega) _
  have hb4 : Below w2.heap.size w2 (w2.alloc (.cells #[.int .u64 x.a, .int .u64 x.b, .slice none 0 0] 116)) := bone _ _
  have c30 := cell_lt hb4 c0 hj
  have c31 := cell_lt hb4 c1 hj
  generalize hW3 : (w2.alloc (.cells #[.int .u64 x.a, .int .u64 x.b, .slice none 0 0] 116)) = W3 at *
  have hw3 := fun (o : Obj) => hw.out (W3.alloc o) _ (hm3.below (bone _ _) (Nat.le_refl _)) (hb3.trans ((bone _ _).mono hb3.size)) (by omega)
  have hb5 := fun (o : Obj) => hb3.trans ((bone W3 o).mono hb3.size)
  have hs3 : w2.heap.size + 1 = W3.heap.size := by rw [← hW3]; simp
  clear hW3 c0 c1 hb4 m0 m1 hz0 h2
  replace hs3 := Lib.hid hs3
  replace hw := Lib.hid hw3
  clear hw3
  refine wp_loop_rounds 2 ?_
  rw [rounds_succ]
  go_wp2_with fail
  refine (hw.out _).mono ?_; rintro e w4 ⟨rfl, pv', L', hw4⟩
  go_wp2_with fail
  rw [rounds_succ]
  go_wp2_with fail
  go_ret2
  have hm5 : ∀ k ∈ refBlks w2.heap.size pv' L', w.heap.size ≤ k := by
    intro k hk
    have h0 := hb5 (.cells #[Value.int IntKind.u64 1074266112, Value.slice y N cp] 56)
    rcases hw4.blks k hk with h | h
    · have := hb1.size
      rcases mem_refBlks.1 h with h | h | h <;> first | omega | exact (nomatch h) | simp at h
    · exact Nat.le_trans h0.size h
  exact ⟨_, _, L', rfl, hw4.mem, hw4.ab, (hb5 _).trans hw4.off.below, hm5⟩
end Go.Proofs.YtgihknfoncljbaaGreatDoor
