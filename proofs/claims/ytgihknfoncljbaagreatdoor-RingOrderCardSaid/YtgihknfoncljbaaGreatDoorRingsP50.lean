/- Acts that are given, opened; the walk of 'few'. -/
import Derived.Test.YtgihknfoncljbaaGreatDoorRingsP48
import Derived.Test.YtgihknfoncljbaaGreatDoorRingsP49
namespace Go.Proofs.YtgihknfoncljbaaGreatDoor
open Go Go.Joins Go.ChangeShapes Go.WideShapes Go.Deep Go.RowKit Go.Shelf Go.BigFrame Go.Maps
structure ActV where
 k : Int
 b : List Int
 a : Int
instance : Inhabited ActV := ⟨⟨0, [], 0⟩⟩
def ActR (w : World) (cs : List Value) (x : ActV) : Prop :=
 I64 x.k ∧ (∀ c ∈ x.b, 0 ≤ c ∧ c < 256) ∧ ∃ v, cs = [.int .i64 x.k, v, .int .i64 x.a] ∧ GivB w v x.b
theorem lasts_act : Lasts ActR := fun _ _ _ _ hb ⟨h1, h2, v, h3, h4⟩ => ⟨h1, h2, v, h3, h4.later hb⟩
section
variable {H : Type} {enc : TypeId × Value → H} {w : World} {base : Nat} {spare : Nat → Bool} {held : Bool}
theorem open_givB {fuel : Nat} {c : Value} {y : DataW H × List MemPlace} (h : DataW.trod enc Tryz.prog w base spare held fuel 33 [c] = some y) :
  ∃ l, GivB w c l ∧ (∀ b ∈ l, 0 ≤ b ∧ b < 256) ∧ (∀ x cp, c = .slice x l.length cp → l.length ≤ cp) := by
 rcases open_slice Tryz.underlying33 h with ⟨hcs, _⟩ | ⟨a, len, cap, m, n, D, Pl, hcs, _, hl, hm, hmm, _, hx⟩
 ·simp at hcs
  exact ⟨[], .inl ⟨hcs, rfl⟩, by simp, by simp⟩
 ·simp at hcs
  subst hcs
  have hlm : len ≤ m := by rw [hmm]; split <;> omega
  have hC : Tryz.prog.cellsOf 5 = 1 := by kernel_rfl
  obtain ⟨f, hF⟩ := choose_lt (n := len) (p := fun i (x : Int) => (0 ≤ x ∧ x < 256) ∧ w.cell? (a.add i) = some (.int .u8 x)) (by
   intro i hi
   obtain ⟨cs', h1, h2⟩ := hx i (by omega)
   rw [hC] at h1
   obtain ⟨_, hlen, hcell⟩ := World.cells?_some h1
   obtain ⟨n0, e0, _, w0⟩ := DataW.trod_int Tryz.underlying5 h2
   have e1 := hcell 0 (by decide)
   rw [add_add] at e1
   refine ⟨n0, u8_of w0, ?_⟩
   simp only [e0, Nat.mul_one, Nat.add_zero] at e1
   simpa using e1)
  refine ⟨(List.range len).map f, .inr ⟨a, cap, by simp, fun hne => ?_⟩, ?_, ?_⟩
  ·have hpos : 0 < len := by
    rcases Nat.eq_zero_or_pos len with rfl | h
    ·simp at hne
    ·exact h
   obtain ⟨b, off, spot⟩ := a
   have hs : spot = none := by simpa [Addr.add] using World.cell?_spot (hF 0 hpos).2
   subst hs
   have hb := World.block_lt_of_cell? w _ (hF 0 hpos).2
   refine ⟨b, off, rfl, by simpa [Addr.add] using hb, fun i hi => ?_⟩
   have h2 := (hF i (by simpa using hi)).2
   rw [Go.WideShapes.add_plain] at h2
   simpa using h2
  ·intro x hx
   obtain ⟨i, hi, rfl⟩ := List.mem_map.1 hx
   exact (hF i (List.mem_range.1 hi)).1
  ·intro x cp he
   injection he with _ _ e
   subst e
   simpa using hl
theorem open_act (n : Nat) (cs : List Value) (y : DataW H × List MemPlace) (hl : cs.length = 3) (h : DataW.trod enc Tryz.prog w base spare held n 35 cs = some y) : ∃ x, ActR w cs x := by
 obtain ⟨xs, m, _, _, _, hxl, hg⟩ := DataW.trod_struct Tryz.underlying35 h
 obtain ⟨c0, c1, c2, rfl⟩ := list3 hl
 have hsz : xs.length = 3 := hxl
 have g0 : DataW.trod enc Tryz.prog w base spare held m 3 ([c0, c1, c2].drop 0 |>.take (Tryz.prog.cellsOf 3)) = xs[0]? := hg 0 _ rfl
 have g1 : DataW.trod enc Tryz.prog w base spare held m 33 ([c0, c1, c2].drop 1 |>.take (Tryz.prog.cellsOf 33)) = xs[1]? := hg 1 _ rfl
 have g2 : DataW.trod enc Tryz.prog w base spare held m 3 ([c0, c1, c2].drop 2 |>.take (Tryz.prog.cellsOf 3)) = xs[2]? := hg 2 _ rfl
 have k1 : Tryz.prog.cellsOf 3 = 1 := by kernel_rfl
 have k2 : Tryz.prog.cellsOf 33 = 1 := by kernel_rfl
 rw [List.getElem?_eq_getElem (by omega)] at g0 g1 g2
 rw [k1] at g0 g2
 rw [k2] at g1
 obtain ⟨n0, h0, _, w0⟩ := DataW.trod_int Tryz.underlying3 g0
 obtain ⟨n2, h2, _, w2⟩ := DataW.trod_int Tryz.underlying3 g2
 obtain ⟨l, h1, hb, _⟩ := open_givB g1
 simp at h0 h2
 subst h0 h2
 exact ⟨⟨n0, l, n2⟩, i64_of w0, hb, c1, rfl, h1⟩
def RowA (w : World) (v : Value) (l : List ActV) : Prop := RowX 3 ActR w v l
set_option maxRecDepth 20000 in
theorem open_acts {r : Reach} {b0 : Nat} {v : Value} {d : DataW H} {p : List MemPlace} (hv : Value.okWide Tryz.prog w r b0 22 v) (h : DataW.Trod enc Tryz.prog w base spare held 22 v d p) : ∃ l, RowA w v l := by
 obtain ⟨a0, len, cap, rfl⟩ := okWide_slice Tryz.underlying22 hv
 obtain ⟨fuel, hf⟩ := h
 exact open_rowX (R := ActR) Tryz.underlying22 (by kernel_rfl) (by decide) open_act hf
set_option maxRecDepth 20000 in
theorem open_bytes36 {r : Reach} {b0 : Nat} {v : Value} {d : DataW H} {p : List MemPlace} (hv : Value.okWide Tryz.prog w r b0 33 v) (h : DataW.Trod enc Tryz.prog w base spare held 33 v d p) :
  ∃ l, GivB w v l ∧ (∀ b ∈ l, 0 ≤ b ∧ b < 256) ∧ (∀ x cp, v = .slice x l.length cp → l.length ≤ cp) := by
 obtain ⟨a0, len, cap, rfl⟩ := okWide_slice Tryz.underlying33 hv
 obtain ⟨fuel, hf⟩ := h
 exact open_givB hf
end
theorem GivB.low {w : World} {v : Value} {l : List Int} (h : GivB w v l) (hne : l ≠ []) : ∀ b, v.ownBlock = some b → b < w.heap.size := by
 rcases h with ⟨_, h⟩ | ⟨a, cap, rfl, h⟩
 ·exact absurd h hne
 ·obtain ⟨b', off, rfl, hlt, _⟩ := h hne
  intro b hb
  cases hb
  exact hlt
theorem RowA.act {w : World} {a : Option Addr} {cap : Nat} {l : List ActV} {u : Value} (h : RowA w u l) (hu : u = .slice a l.length cap) {k : Nat} (hk : k < l.length) :
  ∃ b off v, a = some ⟨b, off, none⟩ ∧ b < w.heap.size ∧ w.cell? ⟨b, off + k * 3, none⟩ = some (.int .i64 l[k].k) ∧ w.cell? ⟨b, off + k * 3 + 1, none⟩ = some v ∧ w.cell? ⟨b, off + k * 3 + 2, none⟩ = some (.int .i64 l[k].a) ∧ GivB w v l[k].b ∧ I64 l[k].k ∧ ∀ c ∈ l[k].b, 0 ≤ c ∧ c < 256 := by
 obtain ⟨a', cap', rfl, _, _, hr⟩ := h
 injection hu with e1 e2 e3
 subst e1 e3
 obtain ⟨b, off, ha, hlt, hc⟩ := hr (by rintro rfl; simp at hk)
 obtain ⟨cs, ⟨r1, r2, v, rfl, r3⟩, _, hcell⟩ := hc k hk
 exact ⟨b, off, v, ha, hlt, hcell 0 _ rfl, hcell 1 _ rfl, hcell 2 _ rfl, r3, r1, r2⟩
def fewV36 (l : List ActV) : Bool := (l.all fun x => decide (x.b.length ≤ 200)) && decide (l.length ≤ 30)
set_option maxHeartbeats 2000000 in
theorem few_any36 (v : Value) (l : List ActV) (w : World) (hv : RowA w v l) : Calls Tryz.prog 7 #[v] w fun e w' => e = .returned (.bool (fewV36 l)) ∧ Below w.heap.size w w' := by
 have hact := fun a cap (hu : v = .slice a l.length cap) k hk => hv.act hu (k := k) hk
 obtain ⟨a, cap, rfl, hcap, hmx, _⟩ := hv
 have hact := fun k hk => hact a cap rfl k hk
 unfold maxLen at hmx
 go_enter Tryz.func7, Tryz.ntmps7
 go_wp2
 go_loopw [7] (fun i wr => ∃ k : Nat, k ≤ l.length ∧ i = .int .i64 k ∧ (∀ j (h : j < l.length), j < k → l[j].b.length ≤ 200) ∧ Below w.heap.size w wr) (fun i _ => l.length - (intOf i).toNat)
 case atStart => exact ⟨0, Nat.zero_le _, rfl, fun j _ h => by omega, Below.refl _ _⟩
 case round =>
  obtain ⟨k, hk, rfl, hall, hB⟩ := hrel
  have hz := hB.size
  by_cases hlt : k < l.length
  ·obtain ⟨b, off, v, rfl, hbl, h1, h2, h3, hg, _, _⟩ := hact k hlt
   rw [← hB.cell (p := ⟨b, _, none⟩) hbl] at h1 h2 h3
   obtain ⟨y, c, rfl⟩ := hg.open
   have hone : l[k].b.length ≤ 200 ∨ ¬ l[k].b.length ≤ 200 := Decidable.em _
   have hbad : ¬ l[k].b.length ≤ 200 → fewV36 l = false := fun h => by
    unfold fewV36
    rw [Bool.and_eq_false_iff]
    refine .inl (List.all_eq_false.2 ⟨l[k], List.getElem_mem hlt, by simpa using h⟩)
   have hgood : l[k].b.length ≤ 200 → ∀ j (h : j < l.length), j < k + 1 → l[j].b.length ≤ 200 := fun h j hj hj2 => by
    by_cases e : j = k
    ·subst e; exact h
    ·exact hall j hj (by omega)
   have hlen : l[k].b.length ≤ 200 ∨ 200 < l[k].b.length := by omega
   clear hact hg hall
   generalize l[k].b.length = N at *
   generalize l[k].k = kk at *
   generalize l[k].a = aa at *
   by_cases q : N ≤ 200
   ·have q3 : ¬ (200 : Int) < (N : Int) := by omega
    replace hgood := Lib.hid (hgood q)
    clear hbad hone hlen
    go_wp2
    go_roundw
    case rel => exact ⟨k + 1, by omega, by go_num, hgood.out, hB.trans ((bone wr _).mono hz)⟩
    case measure => simp [intOf]; omega
   ·have q3 : (200 : Int) < (N : Int) := by omega
    replace hbad := Lib.hid (hbad q)
    clear hgood hone hlen
    go_wp2
    go_ret
    exact ⟨ret_bool hbad.out.symm, hB.trans ((bone wr _).mono hz)⟩
  ·obtain rfl : k = l.length := by omega
   have hf : fewV36 l = decide ((l.length : Int) ≤ 30) := by
    unfold fewV36
    rw [show (l.all fun x => decide (x.b.length ≤ 200)) = true from List.all_eq_true.2 fun x hx => by
     obtain ⟨i, hi, rfl⟩ := List.mem_iff_getElem.1 hx
     exact decide_eq_true (hall i hi hi), Bool.true_and, Bool.eq_iff_iff, decide_eq_true_eq, decide_eq_true_eq]
    omega
   replace hf := Lib.hid hf
   clear hall
   go_wp2
   go_ret
   exact ⟨ret_bool hf.out.symm, hB⟩
end Go.Proofs.YtgihknfoncljbaaGreatDoor
/- The walk of RingReads. -/
namespace Go.Proofs.YtgihknfoncljbaaGreatDoor
open Go Go.RowKit Go.Shelf Go.BigFrame Go.Maps
section
variable {W : World} {B mb pb rb gb cap pd qb : Nat} {L : List Pg} {n : Int} {pg : PG}
theorem reads_cnt (h : RIn W B mb pb rb gb cap pd qb L 3 1 1 98304 n) (hgB : 0 < B) (hn : 32 ≤ n ∧ n ≤ 65536) (he : L.map Pg.ab = pg) {c : Int × Int × Int} (hc : cntV (ldV 3 1 pg 1) 98304 n = c) :
  Calls Tryz.prog 13 #[.pointer (some ⟨qb, 0, none⟩)] W fun e w' => e = .returned (.tuple #[.int .u64 c.1, .int .u64 c.2.1, .int .i64 c.2.2]) ∧ Below W.heap.size W w' := by
 have := counts_low h hgB (.inr rfl) (.inl rfl) hn (by omega)
 rw [he, hc] at this
 exact this
theorem reads_send (h : RIn W B mb pb rb gb cap pd qb L 3 1 1 98304 n) (hgB : 0 < B) (hn : 32 ≤ n ∧ n ≤ 65536) (he : L.map Pg.ab = pg) (ht : Tab2 pg 3 1) (v : Value) (l : List Int) (hv : GivB W v l) (hvo : l ≠ [] → ∀ b, v.ownBlock = some b → b ∉ memBlks mb pb L) (hl : ∀ c ∈ l, 0 ≤ c ∧ c < 256) :
  Calls Tryz.prog 10 #[.pointer (some ⟨qb, 0, none⟩), v] W fun e w' => ∃ L' x, e = .returned (.int .i64 x) ∧ (x == 0) = false ∧ RIn w' B mb pb rb gb cap pd qb L' 3 1 1 98304 n ∧ L'.map Pg.ab = pg ∧ Below B W w' := by
 have hs := send_any h hgB (.inr rfl) (.inl rfl) hn (by omega) v l hv hvo hl
 rw [he] at hs
 obtain ⟨s1, s2⟩ := send_ro 3 1 1 98304 n pg l (by unfold pmV; decide)
 refine hs.mono ?_; rintro e w' ⟨L', rfl, hw⟩
 rw [s1] at hw
 exact ⟨L', _, rfl, by simpa using s2, h.wrote hgB hw ht, hw.ab, hw.off.below⟩
theorem reads_recv (h : RIn W B mb pb rb gb cap pd qb L 3 1 1 98304 n) (hgB : 0 < B) (hn : 32 ≤ n ∧ n ≤ 65536) (he : L.map Pg.ab = pg) (ht : Tab2 pg 3 1) :
  Calls Tryz.prog 12 #[.pointer (some ⟨qb, 0, none⟩)] W fun e w' => ∃ L' x a m c, e = .returned (.tuple #[.slice a m c, .int .i64 x]) ∧ (x == 0) = false ∧ RIn w' B mb pb rb gb cap pd qb L' 3 1 1 98304 n ∧ L'.map Pg.ab = pg ∧ Below B W w' := by
 have hs := recv_any h hgB (.inr rfl) (.inl rfl) hn (by omega)
 refine hs.mono ?_; rintro e w' ⟨L', x, v, bs, pg', rfl, hw, hR, hv, _⟩
 obtain ⟨s1, rfl⟩ := recv_ro (by unfold pmV; decide) hR
 obtain ⟨a, c, rfl, _⟩ := hv
 rw [he] at hw
 exact ⟨L', _, a, _, c, rfl, by simpa using s1, h.wrote hgB hw ht, hw.ab, hw.off.below⟩
theorem reads_load (h : RIn W B mb pb rb gb cap pd qb L 3 1 1 98304 n) (hgB : 0 < B) (he : L.map Pg.ab = pg) {b : List Int} (hb : ∀ c ∈ b, 0 ≤ c ∧ c < 256) (hl : b.length ≤ 300) (hfar : ∀ a, 1073872896 ≤ a → bt pg a = bt (writeV [] 1074266112 b) a) (i : Nat) (hi : i < b.length) :
  Calls Tryz.prog 14 #[.pointer (some ⟨rb, 0, none⟩), .agg #[.int .i64 1, .int .i64 1, .int .i64 0, .int .u64 (98304 + (i : Int)), .int .i64 1, .int .u64 0]] W fun e w' => ∃ pa, e = .returned (.agg #[.int .i64 0, .int .u64 b[i], .int .u64 pa, .bool false, .int .i64 0, .int .i64 0]) ∧ Below W.heap.size W w' := by
 have hd := Do_any rb mb pb gb cap pd L B 3 1 1 1 0 (98304 + (i : Int)) 1 0 W h.m hgB (.inr rfl) (.inl rfl) (.inl rfl) (.inl rfl) (by unfold W64; omega) (by unfold W64; omega) h.r h.ro h.go
 have hv := load_in 3 1 (L.map Pg.ab) 1 (i : Int) 1 0 (.inr rfl) (by omega) (by omega) (by omega)
 rw [show bsG 1 = 98304 from rfl] at hv
 have hx : le (rdB (L.map Pg.ab) (P0 + (i : Int)) (1 : Int).toNat) = b[i] := by
  have e4 : rdB (L.map Pg.ab) (P0 + (i : Int)) (1 : Int).toNat = [bt (L.map Pg.ab) (P0 + (i : Int))] := by
   unfold rdB
   simp
  rw [e4, he, hfar _ (by unfold P0; omega), bt_write b.length PgOk.nil (Nat.le_refl _) hb (by decide) (by omega), if_pos (by unfold P0; omega)]
  have e5 : (P0 + (i : Int) - 1074266112).toNat = i := by unfold P0; omega
  rw [e5]
  simp [le, List.getD, hi]
 rw [hv, hx] at hd
 refine hd.mono ?_; rintro e w' ⟨L', pa, rfl, _, hbl⟩
 exact ⟨pa, rfl, hbl rfl⟩
end
set_option maxRecDepth 20000 in
set_option maxHeartbeats 4000000 in
theorem ringReads_walk (v : Value) (b : List Int) (n : Int) (u : Value) (l : List ActV) (w : World) (hT : Tab3 w) (hgw : 0 < w.heap.size) (hv : GivB w v b) (hcp : ∀ y c, v = .slice y b.length c → b.length ≤ c) (hb : ∀ c ∈ b, 0 ≤ c ∧ c < 256) (hn : -9223372036854775808 ≤ n ∧ n ≤ 9223372036854775807) (hu : RowA w u l) :
  Calls Tryz.prog 4 #[v, .int .i64 n, u] w fun e w' => e = .returned (.bool true) ∧ Below w.heap.size w w' := by
 have hmc := fun (h : b.length ≤ 300) W hW => machine_any 3 1 (.inr rfl) (.inl rfl) v b W (hv.later hW) hcp hb h
 have haw := awake36_any w hT hgw
 have hfw := fun W (hW : Below w.heap.size w W) => few_any36 u l W (hu.below hW lasts_act)
 have hact := fun a cap (h : u = .slice a l.length cap) k hk => hu.act h (k := k) hk
 obtain ⟨yv, cv, rfl⟩ := hv.open
 obtain ⟨ya, ca, rfl, hcap, hmx, _⟩ := hu
 have hact := fun k hk => hact ya ca rfl k hk
 unfold maxLen at hmx
 have hnew := fun rb W => new_any36 0 1 98304 n (.pointer (some rb)) W (by unfold W64; omega) ⟨_, rfl⟩
 replace hv := Lib.hid hv
 replace hcp := Lib.hid hcp
 replace hact := Lib.hid hact
 go_enter Tryz.func4, Tryz.ntmps4
 go_wp2_with fail
 refine haw.mono ?_; rintro e w0 ⟨rfl, hb0⟩
 clear haw
 have hz0 := hb0.size
 have hT0 := hT.belowB hb0 hgw
 go_wp2_with fail
 refine (hfw w0 hb0).mono ?_; rintro e w1 ⟨rfl, hb1⟩
 clear hfw
 have hz1 := hb1.size
 have hT1 := hT0.belowB hb1 (by omega)
 have hbw1 := hb0.trans (hb1.mono hz0)
 clear hb0 hb1 hT hT0
 by_cases hf : fewV36 l = true
 ·by_cases hl : b.length ≤ 300
  ·have q1 : ¬ (300 : Int) < (b.length : Int) := by omega
   rw [hf]
   replace hf := Lib.hid hf
   replace hmc := hmc hl
   go_wp2_with fail
   refine (hmc w1 hbw1).mono ?_; rintro e w2 ⟨mb, pb, rb, gb, cap, pd, y, L, B, rfl, hB, hmem, hlo, htab, hfar, hrun, hro, hgo, hr1, hr2, hb2⟩
   clear hmc
   have hz2 := hb2.size
   have hBl : B ≤ w2.heap.size := by have := hlo mb (by simp [memBlks]); have := hmem.lt mb (by simp [memBlks]); omega
   have hgB : 0 < B := by omega
   have hT2 := hT1.belowB hb2 (by omega)
   have hbw2 := hbw1.trans (hb2.mono (by omega))
   clear hT1 hbw1 hb2
   replace hmem := Lib.hid hmem
   replace hlo := Lib.hid hlo
   replace htab := Lib.hid htab
   replace hfar := Lib.hid hfar
   replace hrun := Lib.hid hrun
   replace hro := Lib.hid hro
   replace hgo := Lib.hid hgo
   go_wp2_with fail
   refine (hnew _ w2).mono ?_
   rintro e w3 (⟨hi, rfl, rfl⟩ | ⟨hi, rfl, hw3⟩)
   ·go_wp2_with fail
    go_ret
    exact ⟨rfl, hbw2⟩
   ·have hin : 32 ≤ n ∧ n ≤ 65536 := by
     unfold isR at hi
     simp only [decide_eq_true_eq] at hi
     omega
    have hI := RIn.made hmem.out hlo.out hBl htab.out hT2 (by omega) hrun.out hro.out hgo.out 1 98304 n
    rw [← hw3] at hI
    have hb3 : Below w2.heap.size w2 w3 := by rw [hw3]; exact bone _ _
    have hbw3 := hbw2.trans (hb3.mono (by omega))
    obtain ⟨qb, hqb⟩ : ∃ q, q = w2.heap.size := ⟨_, rfl⟩
    rw [← hqb] at hI ⊢
    have hz3 := hb3.size
    have hBw : w.heap.size ≤ B := by omega
    obtain ⟨pg, hpg⟩ : ∃ pg, pg = L.map Pg.ab := ⟨_, rfl⟩
    have htab := htab.out
    have hfar := hfar.out
    rw [← hpg] at htab hfar
    obtain ⟨c, hc⟩ : ∃ c, cntV (ldV 3 1 pg 1) 98304 n = c := ⟨_, rfl⟩
    obtain ⟨c1, c2, c3⟩ := c
    clear hw3 hqb hmem hlo hrun hro hgo hi hnew hb3 hT2 hbw2
    have hcn := reads_cnt hI hgB hin hpg.symm hc
    have hcnE := fun W L' (h : RIn W B mb pb rb gb cap pd qb L' 3 1 1 98304 n) (he : L'.map Pg.ab = pg) => reads_cnt h hgB hin he hc
    have hsd := fun W L' (h : RIn W B mb pb rb gb cap pd qb L' 3 1 1 98304 n) (he : L'.map Pg.ab = pg) => reads_send h hgB hin he htab
    have hrd := fun W L' (h : RIn W B mb pb rb gb cap pd qb L' 3 1 1 98304 n) (he : L'.map Pg.ab = pg) => reads_recv h hgB hin he htab
    have hld := fun W L' (h : RIn W B mb pb rb gb cap pd qb L' 3 1 1 98304 n) (he : L'.map Pg.ab = pg) => reads_load h hgB he hb hl hfar
    clear hc htab hfar
    replace hI := Lib.hid hI
    replace hpg := Lib.hid hpg
    go_wp2_with fail
    refine hcn.mono ?_; rintro e w4 ⟨rfl, hb4⟩
    clear hcn
    have hI4 := hI.out.later hgB hb4
    have hz4 := hb4.size
    have hbw4 := hbw3.trans (hb4.mono (by omega))
    clear hI hb4 hbw3
    replace hI4 := Lib.hid hI4
    have hin' := Lib.hid hin
    clear hin
    go_wp2_with fail
    go_loopw [57] (fun i wr => ∃ k : Nat, k ≤ l.length ∧ i = .int .i64 k ∧ Below w.heap.size w wr ∧ ∃ L', RIn wr B mb pb rb gb cap pd qb L' 3 1 1 98304 n ∧ L'.map Pg.ab = pg) (fun i _ => l.length - (intOf i).toNat)
    case atStart => exact ⟨0, Nat.zero_le _, rfl, hbw4, L, hI4.out, hpg.out.symm⟩
    case round =>
     obtain ⟨k, hk, rfl, hB0, L', hI, he⟩ := hrel
     have hzr := hB0.size
     by_cases hlt : k < l.length
     ·obtain ⟨bb, off, va, rfl, hbl, h1, h2, h3, hg, _, hcb⟩ := hact.out k hlt
      rw [← hB0.cell (p := ⟨bb, _, none⟩) hbl] at h1 h2 h3
      obtain ⟨y', c', rfl⟩ := hg.open
      have hvo : l[k].b ≠ [] → ∀ b, (Value.slice y' l[k].b.length c').ownBlock = some b → b ∉ memBlks mb pb L' := fun hne b hbo hm => by
       have := hg.low hne b hbo
       have := hI.m.lo b hm
       omega
      have hs := hsd (wr.alloc (.cells #[.int .i64 l[k].k, .slice y' l[k].b.length c', .int .i64 l[k].a] 35)) L' (hI.later hgB (bone _ _)) he _ _ ((hg.later hB0).later (bone _ _)) hvo hcb
      clear hg hvo hcb hI he
      generalize l[k].b.length = N at *
      generalize l[k].k = kk at *
      generalize l[k].a = aa at *
      replace hs := Lib.hid hs
      go_wp2_with fail
      refine hs.out.mono ?_; rintro e w5 ⟨L5, x5, rfl, q5, hI5, he5, hb5⟩
      have hbw5 := (hB0.trans ((bone wr _).mono hzr)).trans (hb5.mono hBw)
      have hr := Lib.hid (hrd w5 L5 hI5 he5)
      clear hs h1 h2 h3 hb5 hI5 he5
      go_wp2_with fail
      refine hr.out.mono ?_; rintro e w6 ⟨L6, x6, a6, m6, c6, rfl, q6, hI6, he6, hb6⟩
      have hbw6 := hbw5.trans (hb6.mono hBw)
      replace hI6 := Lib.hid hI6
      replace he6 := Lib.hid he6
      clear hr hbw5 hb6
      go_wp2_with fail
      exact ⟨⟨k + 1, hlt, rfl, hbw6, L6, hI6.out, he6.out⟩, by simp [intOf]; omega⟩
     ·have hcn := Lib.hid (hcnE wr L' hI he)
      replace hI := Lib.hid hI
      replace he := Lib.hid he
      clear hsd hrd
      go_wp2_with fail
      refine hcn.out.mono ?_; rintro e w7 ⟨rfl, hb7⟩
      have hI7 := Lib.hid (hI.out.later hgB hb7)
      have hbw7 := hB0.trans (hb7.mono hzr)
      clear hcn hI hB0 hb7
      go_wp2_with fail
      go_loopw [82] (fun i wr => ∃ j : Nat, j ≤ b.length ∧ i = .int .i64 j ∧ Below w.heap.size w wr ∧ RIn wr B mb pb rb gb cap pd qb L' 3 1 1 98304 n) (fun i _ => b.length - (intOf i).toNat)
      case atStart => exact ⟨0, Nat.zero_le _, rfl, hbw7, hI7.out⟩
      case round =>
       obtain ⟨j, hj, rfl, hB0, hI⟩ := hrel
       have hzr := hB0.size
       by_cases hlt : j < b.length
       ·have hd := hld wr L' hI he.out j hlt
        have hvw := hv.out
        rcases hvw with ⟨_, h0⟩ | ⟨av, cp, hh, hx⟩
        ·rw [h0] at hlt; simp at hlt
        ·injection hh with e1 _ e3
         subst e1 e3
         obtain ⟨bb, off, rfl, hbl, hcell⟩ := hx (by rintro rfl; simp at hlt)
         have h1 := hcell j hlt
         rw [← hB0.cell (p := ⟨bb, _, none⟩) hbl] at h1
         have hbx := hb b[j] (List.getElem_mem hlt)
         have hw1 : IntKind.u64.wrap (j : Int) = j := IntWalk.u64_in _ (by omega)
         have hw2 : IntKind.u64.wrap (98304 + (j : Int)) = 98304 + (j : Int) := IntWalk.u64_in _ (by omega)
         generalize b[j] = x at *
         have hw3 : IntKind.u64.wrap x = x := IntWalk.u64_in _ (by omega)
         clear hcell hx hld hcnE
         replace hI := Lib.hid hI
         replace hd := Lib.hid hd
         go_wp2_with fail
         refine hd.out.mono ?_; rintro e w8 ⟨pa, rfl, hb8⟩
         have hI8 := Lib.hid (hI.out.later hgB hb8)
         have hbw8 := hB0.trans (hb8.mono hzr)
         have h18 := (hb8.cell (p := ⟨bb, off + j, none⟩) (by simp; omega)).trans h1
         have hz8 := hbw8.size
         clear hd hI hb8 hB0 h1
         go_wp2_with fail
         obtain ⟨w9, hw9⟩ : ∃ w9, w9 = w8.alloc (.cells #[.int .i64 0, .int .u64 x, .int .u64 pa, .bool false, .int .i64 0, .int .i64 0] 45) := ⟨_, rfl⟩
         have d0 : w9.cell? ⟨w8.heap.size, 0, none⟩ = some (.int .i64 0) := by rw [hw9]; simp [World.cell?_alloc_new]
         have d1 : w9.cell? ⟨w8.heap.size, 1, none⟩ = some (.int .u64 x) := by rw [hw9]; simp [World.cell?_alloc_new]
         have hz9 : w9.heap.size = w8.heap.size + 1 := by rw [hw9]; simp
         have hA9 : Below w8.heap.size w8 w9 := by rw [hw9]; exact bone _ _
         have d2 := (hA9.cell (p := ⟨bb, off + j, none⟩) (by simp; omega)).trans h18
         rw [← hw9]
         have hI9 := Lib.hid (hI8.out.later hgB hA9)
         have hbw9 := hbw8.trans (hA9.mono hz8)
         clear hw9 h18 hI8 hbw8 hA9
         refine region_later w9.heap.size w9 (Below.refl _ _) (by kernel_rfl) (by kernel_rfl) ?_
         have y0 := later_cell (B := w9.heap.size) d0 (by omega)
         have y1 := later_cell (B := w9.heap.size) d1 (by omega)
         have y2 := later_cell (B := w9.heap.size) d2 (by omega)
         repeat (go_big_quiet_step (fail))
         refine wpQuiet_nil ?_
         first | (rintro _ ⟨X, rfl⟩) | (intro X)
         have hX := X.h
         clear y0 y1 y2
         generalize X.x = w10 at *
         have hI10 := Lib.hid (hI9.out.later hgB hX)
         have hbw10 := hbw9.trans (hX.mono hbw9.size)
         go_wp2_with fail
         exact ⟨⟨j + 1, hlt, rfl, hbw10, hI10.out⟩, by simp [intOf]; omega⟩
       ·clear hI hld
        go_wp2_with fail
        go_ret
        exact ⟨rfl, hB0⟩
  ·have q1 : (300 : Int) < (b.length : Int) := by omega
   rw [hf]
   go_wp2_with fail
   go_ret
   exact ⟨rfl, hbw1⟩
 ·have hf : fewV36 l = false := by simpa using hf
  rw [hf]
  go_wp2_with fail
  go_ret
  exact ⟨rfl, hbw1⟩
end Go.Proofs.YtgihknfoncljbaaGreatDoor
