/- The walk of valid's channel: rules 11 and 12. -/
import Derived.Defers
import Derived.Recover
import Derived.Test.YtffdfeekpfmbeaaGreatValidChecksP31
import Derived.Test.YtffdfeekpfmbeaaGreatValidChecksP40
namespace Go.Proofs.YtffdfeekpfmbeaaGreat
open Go Go.RowKit Go.BigFrame Go.Maps Go.MapKept Go.Shelf
open Go.ChangeMaps (setBlock)

theorem OwnTwo.off {E : TypeId} {W W' : World} {base B : Nat} {Bs : List Nat} {v : Value} {l : List Two} (h : OwnTwo E W base v l) (ho : OffV B Bs W W') (hd : ∀ k, v.ownBlock = some k → k ∉ Bs) : OwnTwo E W' base v l := by
  obtain ⟨hl, hc⟩ := h
  refine ⟨hl, ?_⟩
  rcases hc with hc | ⟨g, cap, cur, rfl, hb, hg, hr⟩
  · exact .inl hc
  · exact .inr ⟨g, cap, cur, rfl, hb, (ho.rest g (Array.getElem?_eq_some_iff.1 hg).1 (hd g rfl)).trans hg, hr⟩
def takenB (s o : Two) : Bool := overlapB s.a s.b o.a o.b
set_option maxHeartbeats 1000000 in
theorem taken_any (s o : Two) (sb : Nat) (w : World) (h0 : w.cell? ⟨sb, 0, none⟩ = some (.int .u64 s.a)) (h1 : w.cell? ⟨sb, 1, none⟩ = some (.int .u64 s.b)) (hlt : sb < w.heap.size) :
    Calls Tryz.prog 65 #[.agg #[.int .u64 o.a, .int .u64 o.b], .pointer (some ⟨sb, 0, none⟩)] w fun e w' => e = .returned (.bool (takenB s o)) ∧ Below w.heap.size w w' := by
  have hov := fun W => overlap_any s.a s.b o.a o.b W s.ha s.hb o.ha o.hb
  have n1 : ¬ sb = w.heap.size := by omega
  unfold takenB
  go_enter Tryz.func65, Tryz.ntmps65
  go_wp2_with fail
  refine (hov _).mono ?_; rintro e w1 ⟨rfl, hb1⟩
  go_wp2_with fail
  go_ret
  exact ⟨rfl, bnew hb1⟩
def chanP (b : BrdV) (n : Nat) (O Sh : List Two) (c : ChV) (k : Int) : List Rl :=
  [(insB b (chS c) && (!(O.any (takenB (chS c))) && !(Sh.any (takenB (chS c)))), 11, k), (!(decide (c.e0.g = c.e1.g)) && (endOk n c c.e0 && endOk n c c.e1), 12, k)]
theorem chan11 {b : BrdV} {n : Nat} {O Sh : List Two} {c : ChV} {k : Int} (h : (insB b (chS c) && (!(O.any (takenB (chS c))) && !(Sh.any (takenB (chS c))))) = false) : fb (chanP b n O Sh c k) = some (11, k) := by unfold chanP; rw [fb_cons, h]; rfl
theorem chan12 {b : BrdV} {n : Nat} {O Sh : List Two} {c : ChV} {k : Int} (h : (insB b (chS c) && (!(O.any (takenB (chS c))) && !(Sh.any (takenB (chS c))))) = true) : fb (chanP b n O Sh c k) = if (!(decide (c.e0.g = c.e1.g)) && (endOk n c c.e0 && endOk n c c.e1)) = true then none else some (12, k) := by unfold chanP; rw [fb_cons, h, if_pos rfl, fb_cons]; rfl
theorem eight_new (W : World) (a b c d e f g h : Value) (t : TypeId) : ∃ V, V = W.alloc (.cells #[a, b, c, d, e, f, g, h] t) ∧ V.heap.size = W.heap.size + 1 ∧ Below W.heap.size W V ∧ ∀ (j : Nat) (u : Value), #[a, b, c, d, e, f, g, h][j]? = some u → V.cell? ⟨W.heap.size, j, none⟩ = some u :=
  ⟨_, rfl, by simp, bone _ _, fun j u hu => by simp only [World.cell?_alloc_new]; exact hu⟩
theorem two_new (W : World) (a b : Value) (t : TypeId) : ∃ V, V = W.alloc (.cells #[a, b] t) ∧ V.heap.size = W.heap.size + 1 ∧ Below W.heap.size W V ∧ V.cell? ⟨W.heap.size, 0, none⟩ = some a ∧ V.cell? ⟨W.heap.size, 1, none⟩ = some b :=
  ⟨_, rfl, by simp, bone _ _, by simp [World.cell?_alloc_new], by simp [World.cell?_alloc_new]⟩

/-- Worlds in which two blocks lie as they lay. -/
structure Held2 (b c : Nat) (w0 : World) where
  x : World
  h : x.heap[b]? = w0.heap[b]?
  h' : x.heap[c]? = w0.heap[c]?
instance held2Nonempty (b c : Nat) (w0 : World) : Nonempty (Held2 b c w0) := ⟨⟨w0, rfl, rfl⟩⟩
theorem held2_cell {b c o : Nat} {w0 : World} {v : Value} (h : w0.cell? ⟨b, o, none⟩ = some v) : ∀ X : Held2 b c w0, X.x.cell? ⟨b, o, none⟩ = some v := fun X => heapc X.h h
theorem held2_cell' {b c o : Nat} {w0 : World} {v : Value} (h : w0.cell? ⟨c, o, none⟩ = some v) : ∀ X : Held2 b c w0, X.x.cell? ⟨c, o, none⟩ = some v := fun X => heapc X.h' h
set_option maxRecDepth 100000 in
set_option maxHeartbeats 8000000 in
theorem channel_any (xb : Nat) (b : BrdV) (ver : Int) (ag : Option Addr) (n kg : Nat) (vc : Value) (acc : Int) (mi ms : Nat) (vo vs : Value) (k : Int) (c : ChV) (O Sh : List Two) (w : World) (hc : ChkAt w xb b ver (.slice ag n kg) vc acc mi ms vo vs) (B Bs : Nat)
    (hO : OwnTwo 24 w B vo O) (hSh : OwnTwo 24 w Bs vs Sh) (hlo : ∀ q, vo.ownBlock = some q → q < Bs) (hBs : Bs ≤ w.heap.size) (hBB : B ≤ Bs) (hBx : B ≤ xb) (hlen : O.length ≤ 100000000 ∧ Sh.length ≤ 100000000) :
    Calls Tryz.prog 28 #[.pointer (some ⟨xb, 0, none⟩), .int .i64 k, .agg #[.int .u64 c.pa, .int .u64 c.sz, .int .i64 c.e0.g, .int .i64 c.e0.perm, .int .u64 c.e0.ipa, .int .i64 c.e1.g, .int .i64 c.e1.perm, .int .u64 c.e1.ipa]] w fun e w' => e = endE (fb (chanP b n O Sh c k)) ∧ OffV B (xb :: vs.ownBlock.toList) w w' ∧
      (e = .returned (.tuple #[]) → ∃ vs', ChkAt w' xb b ver (.slice ag n kg) vc acc mi ms vo vs' ∧ OwnTwo 24 w' Bs vs' (Sh ++ [chS c])) := by
  obtain ⟨W1, hW1, hz1, hb1, hcell⟩ := eight_new w (.int .u64 c.pa) (.int .u64 c.sz) (.int .i64 c.e0.g) (.int .i64 c.e0.perm) (.int .u64 c.e0.ipa) (.int .i64 c.e1.g) (.int .i64 c.e1.perm) (.int .u64 c.e1.ipa) 76
  obtain ⟨W2, hW2, hz2, hb2, s0, s1⟩ := two_new W1 (.int .u64 c.pa) (.int .u64 c.sz) 24
  rw [hz1] at s0 s1
  have hB2 := bthen hb1 hb2
  have hc2 := hc.below hB2
  have hO2 := hO.below hB2 (Nat.le_refl _)
  have hS2 := hSh.below hB2 (Nat.le_refl _)
  have hx := hc.lt
  have k0 := cell_lt hb2 (hcell 0 _ rfl) (by omega)
  have k1 := cell_lt hb2 (hcell 1 _ rfl) (by omega)
  have k2 := cell_lt hb2 (hcell 2 _ rfl) (by omega)
  have k3 := cell_lt hb2 (hcell 3 _ rfl) (by omega)
  have k4 := cell_lt hb2 (hcell 4 _ rfl) (by omega)
  have k5 := cell_lt hb2 (hcell 5 _ rfl) (by omega)
  have k6 := cell_lt hb2 (hcell 6 _ rfl) (by omega)
  have k7 := cell_lt hb2 (hcell 7 _ rfl) (by omega)
  simp only [List.getElem_toArray, List.getElem_cons_succ, List.getElem_cons_zero] at k0 k1 k2 k3 k4 k5 k6 k7
  have hr11 := @chan11 b n O Sh c k
  have hr12 := @chan12 b n O Sh c k
  generalize fb (chanP b n O Sh c k) = R at *
  have hmf : ∀ (fn : Fn) (first cap : Array Value) (w : World), (Instr.makeFunc fn first cap).run Tryz.prog w = .ok (.func fn first cap) w := fun _ _ _ _ => rfl
  have hins := inside_any xb b ver (.slice ag n kg) vc acc mi ms vo vs (chS c) W2 hc2
  have hpa : (chS c).a = c.pa := rfl
  have hpb : (chS c).b = c.sz := rfl
  rw [hpa, hpb] at hins
  generalize insB b (chS c) = q1 at *
  obtain ⟨ao, ko, hvo⟩ := ownsRow_slice hO
  subst hvo
  obtain ⟨asl, ks, hvs⟩ := ownsRow_slice hSh
  subst hvs
  have hrO := hO2.row
  have hrS := hS2.row
  have x13 := hc2.cell (j := 13) rfl
  have x14 := hc2.cell (j := 14) rfl
  simp only [List.getElem_toArray, List.getElem_cons_succ, List.getElem_cons_zero] at x13 x14
  have hcO := fun W h1 h2 h3 h4 => contS_any (takenB (chS c)) 65 #[.pointer (some ⟨w.heap.size + 1, 0, none⟩)] (.slice ao O.length ko) O W (enters_of Tryz.func65 (by kernel_rfl) rfl) h1 (predOf fun W' x hb => taken_any (chS c) x (w.heap.size + 1) W' (cell_lt hb h2 h4) (cell_lt hb h3 h4) (by have := hb.size; omega)) (by omega)
  have hcS := fun W h1 h2 h3 h4 => contS_any (takenB (chS c)) 65 #[.pointer (some ⟨w.heap.size + 1, 0, none⟩)] (.slice asl Sh.length ks) Sh W (enters_of Tryz.func65 (by kernel_rfl) rfl) h1 (predOf fun W' x hb => taken_any (chS c) x (w.heap.size + 1) W' (cell_lt hb h2 h4) (cell_lt hb h3 h4) (by have := hb.size; omega)) (by omega)
  generalize O.any (takenB (chS c)) = q2 at *
  generalize Sh.any (takenB (chS c)) = q3 at *
  replace hr11 := Lib.hid hr11
  replace hr12 := Lib.hid hr12
  replace hc2 := Lib.hid hc2
  go_enter Tryz.func28, Tryz.ntmps28
  go_wp2_with fail
  rw [← hW1, ← hW2]
  clear hW1 hW2
  refine hins.mono ?_; rintro e w3 ⟨rfl, hb3⟩
  have hB3 := bthen hB2 hb3
  have t0 := cell_lt hb3 s0 (by omega)
  have t1 := cell_lt hb3 s1 (by omega)
  have hz3 := hb3.size
  have y13 := cell_lt hb3 x13 (by omega)
  have y14 := cell_lt hb3 x14 (by omega)
  have hcO3 := hcO w3 (hrO.below hb3) t0 t1 (by omega)
  clear hins x13 x14 hcO
  cases q1
  case false =>
    go_wp2_with fail
    refine (must_any _ _ _ _).mono ?_; rintro e w4 ⟨rfl, rfl⟩
    exact ⟨rfl, by rw [hr11.out rfl]; rfl, OffV.of_below hB3 (by omega), fun h => by simp at h⟩
  go_wp2_with fail
  refine hcO3.mono ?_; rintro e w4 ⟨rfl, hb4⟩
  have hB4 := bthen hB3 hb4
  have hz4 := hb4.size
  have z14 := cell_lt hb4 y14 (by omega)
  have hcS4 := hcS w4 ((hrS.below hb3).below hb4) (cell_lt hb4 t0 (by omega)) (cell_lt hb4 t1 (by omega)) (by omega)
  clear hcO3 hcS y13 y14
  cases q2
  case true =>
    go_wp2_with fail
    refine (must_any _ _ _ _).mono ?_; rintro e w5 ⟨rfl, rfl⟩
    exact ⟨rfl, by rw [hr11.out rfl]; rfl, OffV.of_below hB4 (by omega), fun h => by simp at h⟩
  go_wp2_with fail
  refine hcS4.mono ?_; rintro e w5 ⟨rfl, hb5⟩
  have hB5 := bthen hB4 hb5
  have hz5 := hb5.size
  clear hcS4 z14
  cases q3
  case true =>
    go_wp2_with fail
    refine (must_any _ _ _ _).mono ?_; rintro e w6 ⟨rfl, rfl⟩
    exact ⟨rfl, by rw [hr11.out rfl]; rfl, OffV.of_below hB5 (by omega), fun h => by simp at h⟩
  have h12 := hr12.out rfl
  clear hr11 hr12
  replace h12 := Lib.hid h12
  go_wp2_with fail
  refine (must_any _ _ _ _).mono ?_; rintro e w6 ⟨rfl, rfl⟩
  simp only [mustE]
  have hb25 := bthen (bthen hb3 hb4) hb5
  have hc5 := hc2.out.below hb25
  have u0 := cell_lt hb25 s0 (by omega)
  have u1 := cell_lt hb25 s1 (by omega)
  have m0 := cell_lt hb25 k0 (by omega)
  have m1 := cell_lt hb25 k1 (by omega)
  have m2 := cell_lt hb25 k2 (by omega)
  have m3 := cell_lt hb25 k3 (by omega)
  have m4 := cell_lt hb25 k4 (by omega)
  have m5 := cell_lt hb25 k5 (by omega)
  have m6 := cell_lt hb25 k6 (by omega)
  have m7 := cell_lt hb25 k7 (by omega)
  have hS5 := hS2.below hb25 (Nat.le_refl _)
  have c14 := hc5.cell (j := 14) rfl
  simp only [List.getElem_toArray, List.getElem_cons_succ, List.getElem_cons_zero] at c14
  clear s0 s1 k0 k1 k2 k3 k4 k5 k6 k7 hS2 hO2 hrO hrS t0 t1
  go_wp2_with fail
  have hzz : w.heap.size + 1 < w5.heap.size := by omega
  have hx5 : xb < w5.heap.size := by omega
  refine region_ordS (fun z => ∃ X : Held2 xb (w.heap.size + 1) w5, z = X.x) [([0, 1, 2, 3, 4, 5], 6), ([], 7)] [8, 9] 10 (by kernel_rfl) (by kernel_rfl) (by kernel_rfl) (by kernel_rfl) ⟨⟨w5.drew, rfl, rfl⟩, rfl⟩ ?_
  simp only [List.map_cons, List.map_nil, List.filterMap_cons, List.filterMap_nil, List.getElem?_cons_succ, List.getElem?_cons_zero]
  have v14 := held2_cell (c := w.heap.size + 1) c14
  have v0 := held2_cell' (b := xb) u0
  have v1 := held2_cell' (b := xb) u1
  have hd5 : Below w5.heap.size w5 w5.drew := (Below.refl _ _).drew
  have hS6 := hS5.below hd5 (Nat.le_refl _)
  generalize w5.drew = w6 at *
  have hz6 := hd5.size
  clear c14 u0 u1
  refine ordS_step ?_
  repeat (change wpQuiet _ _ _ _ (List.cons _ _) _; go_big_quiet_step (fail))
  refine wpQuiet_nil ?_
  intro Q₁ hQ₁
  simp only [Option.toList]
  go_wp2_with fail
  have hb7 := bthen hd5 (bone w6 (.cells #[.int .u64 c.pa, .int .u64 c.sz] 24))
  have hrow1 := rowOne w6 (chS c)
  refine hQ₁ _ _ ⟨⟨_, hb7.block xb hx5, hb7.block _ hzz⟩, rfl⟩ ?_
  clear hQ₁ Q₁
  have hS7 := hS6.alloc (.cells #[.int .u64 c.pa, .int .u64 c.sz] 24)
  obtain ⟨w7, hw7⟩ : ∃ w7, w7 = w6.alloc (.cells #[.int .u64 c.pa, .int .u64 c.sz] 24) := ⟨_, rfl⟩
  change RowTwo (w6.alloc (.cells #[.int .u64 c.pa, .int .u64 c.sz] 24)) _ _ at hrow1
  rw [← hw7] at hb7 hrow1 hS7 ⊢
  have hz7 : w7.heap.size = w6.heap.size + 1 := by rw [hw7]; simp
  clear hw7
  refine ordS_step ?_
  refine wpQuiet_nil ?_
  intro Q₁ hQ₁
  simp only [Option.toList]
  have hne := own_ne (T := 59) (hc5.below hb7).blk check_span hS7
  have hne2 : (Value.slice asl Sh.length ks).ownBlock ≠ some (w.heap.size + 1) := fun e => by
    have := (hSh.lt _ e).2; omega
  go_wp2_with (at_builtin; refine OwnTwo.app rfl _ _ rfl Bs infoS16 Tryz.underlying57 (.slice asl Sh.length ks) (.slice (some ⟨w6.heap.size, 0, none⟩) 1 1) Sh [chS c] rfl rfl hS7 hrow1 (by simp) (by simp; omega) (by omega) ?_; intro v' w8 hO8 hgr)
  have hk8 : w8.heap[xb]? = w5.heap[xb]? := (hgr.block xb (by omega) (fun e => hne e.symm)).trans (hb7.block xb hx5)
  have hs8 : w8.heap[w.heap.size + 1]? = w5.heap[w.heap.size + 1]? := (hgr.block _ (by omega) (fun e => hne2 e.symm)).trans (hb7.block _ hzz)
  refine hQ₁ _ _ ⟨⟨w8, hk8, hs8⟩, rfl⟩ ?_
  clear hQ₁ Q₁
  refine ordS_last ?_
  repeat (change wpQuiet _ _ _ _ (List.cons _ _) _; go_big_quiet_step (fail))
  refine wpQuiet_nil ?_
  intro Q₁ hQ₁
  simp only [Option.toList]
  have hC8 : ChkAt w8 xb b ver (.slice ag n kg) vc acc mi ms (.slice ao O.length ko) (.slice asl Sh.length ks) := ⟨hk8.trans hc5.blk⟩
  have hz8 := hgr.size
  have hfz : w8.frozen? ⟨xb, 14, none⟩ = false := by simp [World.frozen?, hC8.blk]
  have hcx' := hC8.cell (j := 14) rfl
  simp only [List.getElem_toArray, List.getElem_cons_succ, List.getElem_cons_zero] at hcx'
  obtain ⟨a3, c3, hv3⟩ := ownsRow_slice hO8
  rw [List.length_append, List.length_singleton] at hv3
  subst hv3
  have hO9 := hO8.set_other (o := 14) (u := .slice a3 (Sh.length + 1) c3) (own_ne hC8.blk check_span hO8)
  have hoff : OffV B (xb :: (Value.slice asl Sh.length ks).ownBlock.toList) w (w8.setCell ⟨xb, 14, none⟩ (.slice a3 (Sh.length + 1) c3)) := by
    have hb57 := hB5.trans (hb7.mono hB5.size)
    refine OffV.set ?_ (.inl (by simp)) hBx
    refine ⟨((hb57.mono (by omega)).grown hgr (by omega) fun q hq => by have := (hSh.lt q hq).1; omega), fun q hq hn => ?_⟩
    refine (hgr.block q (by have := hb57.size; omega) fun e => hn ?_).trans (hb57.block q hq)
    rw [List.mem_cons]; right; rw [← e]; simp
  have hC9 : ChkAt (w8.setCell ⟨xb, 14, none⟩ (.slice a3 (Sh.length + 1) c3)) xb b ver (.slice ag n kg) vc acc mi ms (.slice ao O.length ko) (.slice a3 (Sh.length + 1) c3) := ⟨(setCell_at hC8.blk 14 _).trans rfl⟩
  have hcb : ∀ o v, w5.cell? ⟨w.heap.size, o, none⟩ = some v → (w8.setCell ⟨xb, 14, none⟩ (.slice a3 (Sh.length + 1) c3)).cell? ⟨w.heap.size, o, none⟩ = some v := fun o v h =>
    heapc ((setCell_other (by omega)).trans ((hgr.block _ (by omega) (fun e => by have := (hSh.lt _ e.symm).2; omega)).trans (hb7.block _ (by omega)))) h
  replace m0 := hcb _ _ m0
  replace m1 := hcb _ _ m1
  replace m2 := hcb _ _ m2
  replace m3 := hcb _ _ m3
  replace m4 := hcb _ _ m4
  replace m5 := hcb _ _ m5
  replace m6 := hcb _ _ m6
  replace m7 := hcb _ _ m7
  by_cases h0 : c.e0.g = c.e1.g
  case pos =>
    have h0' : (c.e0.g != c.e1.g) = false := by simpa using h0
    go_wp2_with fail
    refine (must_any _ _ _ _).mono ?_; rintro e w10 ⟨rfl, rfl⟩
    exact ⟨rfl, by rw [h12.out]; simp [h0, endE], hoff, fun h => by simp at h⟩
  have h0' : (c.e0.g != c.e1.g) = true := by simpa using h0
  go_wp2_with fail
  refine (must_any _ _ _ _).mono ?_; rintro e w10 ⟨rfl, rfl⟩
  simp only [mustE]
  obtain ⟨w9, hw9⟩ : ∃ w9, w9 = w8.setCell ⟨xb, 14, none⟩ (.slice a3 (Sh.length + 1) c3) := ⟨_, rfl⟩
  rw [← hw9] at hO9 hoff hC9 m0 m1 m2 m3 m4 m5 m6 m7 ⊢
  have hz9 : w9.heap.size = w8.heap.size := by rw [hw9]; simp [World.setCell]
  clear hw9 hcb hcx' hfz v14 v0 v1
  go_wp2_with fail
  go_loopw [62] (fun i wr => ∃ j : Nat, j ≤ 2 ∧ i = .int .i64 j ∧ (j = 0 ∨ (j = 1 ∧ endOk n c c.e0 = true) ∨ (j = 2 ∧ endOk n c c.e0 = true ∧ endOk n c c.e1 = true)) ∧ Below w9.heap.size w9 wr) (fun i _ => 2 - (intOf i).toNat)
  case atStart => exact ⟨0, by omega, rfl, .inl rfl, Below.refl _ _⟩
  case round =>
    obtain ⟨j, hj, rfl, hor, hB⟩ := hrel
    have hzr := hB.size
    rcases hor with rfl | ⟨rfl, he⟩ | ⟨rfl, he, he1⟩
    · have i0 : ∀ w : World, (Instr.index 74 (.agg #[.int .i64 c.e0.g, .int .i64 c.e0.perm, .int .u64 c.e0.ipa, .int .i64 c.e1.g, .int .i64 c.e1.perm, .int .u64 c.e1.ipa]) (.int .i64 0)).run Tryz.prog w = .ok (.agg #[.int .i64 c.e0.g, .int .i64 c.e0.perm, .int .u64 c.e0.ipa]) w := fun _ => by kernel_rfl
      obtain ⟨V, hV, hVz, hVb, v0, v1, v2⟩ := three_new wr (.int .i64 c.e0.g) (.int .i64 c.e0.perm) (.int .u64 c.e0.ipa) 73
      have hVb9 := hB.trans (hVb.mono hB.size)
      have hVlt : wr.heap.size < V.heap.size := by omega
      have hCV := hC9.below hVb9
      have x8 := hCV.cell (j := 8) rfl
      simp only [List.getElem_toArray, List.getElem_cons_succ, List.getElem_cons_zero] at x8
      have n1 := cell_lt hVb9 m1 (by omega)
      have hlo := fun W => low_any ⟨c.e0.ipa, c.sz, c.e0.hi, c.hs⟩ W
      simp only at hlo
      go_wp2_with fail
      rw [← hV]
      clear hV hCV
      replace v0 := later_cell (B := V.heap.size) v0 hVlt
      replace v1 := later_cell (B := V.heap.size) v1 hVlt
      replace v2 := later_cell (B := V.heap.size) v2 hVlt
      replace x8 := later_cell (B := V.heap.size) x8 (by have := hVb9.size; omega)
      replace n1 := later_cell (B := V.heap.size) n1 (by have := hVb9.size; omega)
      refine region_later_tl V.heap.size V 27 (Below.refl _ _) (by kernel_rfl) (by kernel_rfl) ?_
      simp only [List.take_succ_cons, List.take_zero, List.drop_succ_cons, List.drop_zero]
      by_cases a1 : c.e0.g < n
      case neg =>
        repeat (change wpQuiet _ _ _ _ (List.cons _ _) _; go_big_quiet_step (fail))
        refine wpQuiet_nil ?_
        rintro w10 ⟨X, rfl⟩
        have hX := hVb9.trans (X.h.mono hVb9.size)
        generalize X.x = w10 at *
        clear X
        go_wp2_with fail
        refine (must_any _ _ _ _).mono ?_; rintro e w11 ⟨rfl, rfl⟩
        have hend : endOk n c c.e0 = false := by unfold endOk; rw [decide_eq_false (Int.not_lt.2 a1)]; simp
        refine ⟨rfl, ?_, hoff.then hX (by omega), fun h => by simp at h⟩
        rw [h12.out, hend]; simp [h0, endE]
      by_cases a2 : 1 ≤ c.e0.perm
      case neg =>
        repeat (change wpQuiet _ _ _ _ (List.cons _ _) _; go_big_quiet_step (fail))
        refine wpQuiet_nil ?_
        rintro w10 ⟨X, rfl⟩
        have hX := hVb9.trans (X.h.mono hVb9.size)
        generalize X.x = w10 at *
        clear X
        go_wp2_with fail
        refine (must_any _ _ _ _).mono ?_; rintro e w11 ⟨rfl, rfl⟩
        have hend : endOk n c c.e0 = false := by unfold endOk; rw [decide_eq_false (show ¬ (1 ≤ c.e0.perm ∧ c.e0.perm ≤ 3) by omega)]; simp
        refine ⟨rfl, ?_, hoff.then hX (by omega), fun h => by simp at h⟩
        rw [h12.out, hend]; simp [h0, endE]
      by_cases a3 : c.e0.perm ≤ 3
      case neg =>
        repeat (change wpQuiet _ _ _ _ (List.cons _ _) _; go_big_quiet_step (fail))
        refine wpQuiet_nil ?_
        rintro w10 ⟨X, rfl⟩
        have hX := hVb9.trans (X.h.mono hVb9.size)
        generalize X.x = w10 at *
        clear X
        go_wp2_with fail
        refine (must_any _ _ _ _).mono ?_; rintro e w11 ⟨rfl, rfl⟩
        have hend : endOk n c c.e0 = false := by unfold endOk; rw [decide_eq_false (show ¬ (1 ≤ c.e0.perm ∧ c.e0.perm ≤ 3) by omega)]; simp
        refine ⟨rfl, ?_, hoff.then hX (by omega), fun h => by simp at h⟩
        rw [h12.out, hend]; simp [h0, endE]
      have hend : endOk n c c.e0 = pageM c.e0.ipa c.sz := by unfold endOk; simp [a1, a2, a3]
      generalize pageM c.e0.ipa c.sz = q at *
      repeat (change wpQuiet _ _ _ _ (List.cons _ _) _; go_big_quiet_step (fail))
      go_big_quiet_step ((go_at_call 57; exact quiet_later (Nat.le_refl _) (hlo _)))
      repeat (change wpQuiet _ _ _ _ (List.cons _ _) _; go_big_quiet_step (fail))
      refine wpQuiet_nil ?_
      rintro w10 ⟨X, rfl⟩
      have hX := hVb9.trans (X.h.mono hVb9.size)
      generalize X.x = w10 at *
      clear X
      go_wp2_with fail
      refine (must_any _ _ _ _).mono ?_; rintro e w11 ⟨rfl, rfl⟩
      cases q
      · refine ⟨rfl, ?_, hoff.then hX (by omega), fun h => by simp at h⟩
        rw [h12.out, hend]; simp [h0, endE]
      simp only [mustE]
      go_wp2_with fail
      exact ⟨⟨1, by omega, by go_num, by simp [hend], hX⟩, by simp [intOf]⟩
    · have i0 : ∀ w : World, (Instr.index 74 (.agg #[.int .i64 c.e0.g, .int .i64 c.e0.perm, .int .u64 c.e0.ipa, .int .i64 c.e1.g, .int .i64 c.e1.perm, .int .u64 c.e1.ipa]) (.int .i64 1)).run Tryz.prog w = .ok (.agg #[.int .i64 c.e1.g, .int .i64 c.e1.perm, .int .u64 c.e1.ipa]) w := fun _ => by kernel_rfl
      obtain ⟨V, hV, hVz, hVb, v0, v1, v2⟩ := three_new wr (.int .i64 c.e1.g) (.int .i64 c.e1.perm) (.int .u64 c.e1.ipa) 73
      have hVb9 := hB.trans (hVb.mono hB.size)
      have hVlt : wr.heap.size < V.heap.size := by omega
      have hCV := hC9.below hVb9
      have x8 := hCV.cell (j := 8) rfl
      simp only [List.getElem_toArray, List.getElem_cons_succ, List.getElem_cons_zero] at x8
      have n1 := cell_lt hVb9 m1 (by omega)
      have hlo := fun W => low_any ⟨c.e1.ipa, c.sz, c.e1.hi, c.hs⟩ W
      simp only at hlo
      go_wp2_with fail
      rw [← hV]
      clear hV hCV
      replace v0 := later_cell (B := V.heap.size) v0 hVlt
      replace v1 := later_cell (B := V.heap.size) v1 hVlt
      replace v2 := later_cell (B := V.heap.size) v2 hVlt
      replace x8 := later_cell (B := V.heap.size) x8 (by have := hVb9.size; omega)
      replace n1 := later_cell (B := V.heap.size) n1 (by have := hVb9.size; omega)
      refine region_later_tl V.heap.size V 27 (Below.refl _ _) (by kernel_rfl) (by kernel_rfl) ?_
      simp only [List.take_succ_cons, List.take_zero, List.drop_succ_cons, List.drop_zero]
      by_cases a1 : c.e1.g < n
      case neg =>
        repeat (change wpQuiet _ _ _ _ (List.cons _ _) _; go_big_quiet_step (fail))
        refine wpQuiet_nil ?_
        rintro w10 ⟨X, rfl⟩
        have hX := hVb9.trans (X.h.mono hVb9.size)
        generalize X.x = w10 at *
        clear X
        go_wp2_with fail
        refine (must_any _ _ _ _).mono ?_; rintro e w11 ⟨rfl, rfl⟩
        have hend : endOk n c c.e1 = false := by unfold endOk; rw [decide_eq_false (Int.not_lt.2 a1)]; simp
        refine ⟨rfl, ?_, hoff.then hX (by omega), fun h => by simp at h⟩
        rw [h12.out, hend]; simp [h0, he, endE]
      by_cases a2 : 1 ≤ c.e1.perm
      case neg =>
        repeat (change wpQuiet _ _ _ _ (List.cons _ _) _; go_big_quiet_step (fail))
        refine wpQuiet_nil ?_
        rintro w10 ⟨X, rfl⟩
        have hX := hVb9.trans (X.h.mono hVb9.size)
        generalize X.x = w10 at *
        clear X
        go_wp2_with fail
        refine (must_any _ _ _ _).mono ?_; rintro e w11 ⟨rfl, rfl⟩
        have hend : endOk n c c.e1 = false := by unfold endOk; rw [decide_eq_false (show ¬ (1 ≤ c.e1.perm ∧ c.e1.perm ≤ 3) by omega)]; simp
        refine ⟨rfl, ?_, hoff.then hX (by omega), fun h => by simp at h⟩
        rw [h12.out, hend]; simp [h0, he, endE]
      by_cases a3 : c.e1.perm ≤ 3
      case neg =>
        repeat (change wpQuiet _ _ _ _ (List.cons _ _) _; go_big_quiet_step (fail))
        refine wpQuiet_nil ?_
        rintro w10 ⟨X, rfl⟩
        have hX := hVb9.trans (X.h.mono hVb9.size)
        generalize X.x = w10 at *
        clear X
        go_wp2_with fail
        refine (must_any _ _ _ _).mono ?_; rintro e w11 ⟨rfl, rfl⟩
        have hend : endOk n c c.e1 = false := by unfold endOk; rw [decide_eq_false (show ¬ (1 ≤ c.e1.perm ∧ c.e1.perm ≤ 3) by omega)]; simp
        refine ⟨rfl, ?_, hoff.then hX (by omega), fun h => by simp at h⟩
        rw [h12.out, hend]; simp [h0, he, endE]
      have hend : endOk n c c.e1 = pageM c.e1.ipa c.sz := by unfold endOk; simp [a1, a2, a3]
      generalize pageM c.e1.ipa c.sz = q at *
      repeat (change wpQuiet _ _ _ _ (List.cons _ _) _; go_big_quiet_step (fail))
      go_big_quiet_step ((go_at_call 57; exact quiet_later (Nat.le_refl _) (hlo _)))
      repeat (change wpQuiet _ _ _ _ (List.cons _ _) _; go_big_quiet_step (fail))
      refine wpQuiet_nil ?_
      rintro w10 ⟨X, rfl⟩
      have hX := hVb9.trans (X.h.mono hVb9.size)
      generalize X.x = w10 at *
      clear X
      go_wp2_with fail
      refine (must_any _ _ _ _).mono ?_; rintro e w11 ⟨rfl, rfl⟩
      cases q
      · refine ⟨rfl, ?_, hoff.then hX (by omega), fun h => by simp at h⟩
        rw [h12.out, hend]; simp [h0, he, endE]
      simp only [mustE]
      go_wp2_with fail
      exact ⟨⟨2, by omega, by go_num, by simp [he, hend], hX⟩, by simp [intOf]⟩
    · go_wp2_with fail
      go_end0
      refine ⟨?_, hoff.then hB (by omega), fun _ => ⟨_, hC9.below hB, hO9.below hB (Nat.le_refl _)⟩⟩
      rw [h12.out]; simp [h0, he, he1, endE]
end Go.Proofs.YtffdfeekpfmbeaaGreat
/- The walk of valid.Check around its rules: what is thrown is caught. -/
namespace Go.Proofs.YtffdfeekpfmbeaaGreat
open Go Go.RowKit Go.BigFrame

theorem check1_idle (a1 b1 e1 : Nat) (w : World) :
    CallsD Tryz.prog 9 #[.pointer (some ⟨a1, 0, none⟩), .pointer (some ⟨b1, 0, none⟩), .pointer (some ⟨e1, 0, none⟩)] .returning w fun e u' w' => e = .returned (.tuple #[]) ∧ u' = .returning ∧ w' = w := by
  refine callsD_of_wpS Tryz.func9 rfl fun c₀ cs hu => ?_
  apply wpS_seq
  apply wpS_region
  simp [wpOpsS, go_sem, recoverD, hu, Tryz.ntmps9, Exit.thenS]
  refine wpS_of_wp ?_
  simp only [Array.replicate, List.replicate, List.setIfInBounds_toArray, List.set_cons_succ, List.set_cons_zero, List.append_toArray, List.cons_append, List.nil_append]
  go_wp2_with fail
  cases c₀
  simp_all [bodyPostS, results, Tryz.results9]
def vpan (p n : Int) (r : Bool) : PanicEntry := { v := .iface 52 (.agg #[.int .i64 p, .int .i64 n]), recovered := r }
set_option maxRecDepth 100000 in
theorem check1_panic (p n : Int) (a1 b1 e1 : Nat) (w : World) (hne : a1 ≠ b1) (hne2 : a1 ≠ e1) (hne3 : b1 ≠ e1) (h1 : w.heap[a1]? = some (.cells #[.int .i64 0] 3 (0, 0))) (h2 : w.heap[b1]? = some (.cells #[.int .i64 0] 3 (0, 0))) (h3 : w.heap[e1]? = some (.cells #[.int .i64 0] 34 (0, 0))) :
    CallsD Tryz.prog 9 #[.pointer (some ⟨a1, 0, none⟩), .pointer (some ⟨b1, 0, none⟩), .pointer (some ⟨e1, 0, none⟩)] (.panicking [vpan p n false]) w fun e u' w' => e = .returned (.tuple #[]) ∧ u' = .panicking [vpan p n true] ∧
      w'.heap[a1]? = some (.cells #[.int .i64 p] 3 (0, 0)) ∧ w'.heap[b1]? = some (.cells #[.int .i64 n] 3 (0, 0)) ∧ w'.heap[e1]? = some (.cells #[.int .i64 170] 34 (0, 0)) ∧ OffV (min a1 (min b1 e1)) [a1, b1, e1] w w' := by
  refine callsD_of_wpS Tryz.func9 rfl fun c₀ cs hu => ?_
  unfold vpan at hu
  apply wpS_seq
  apply wpS_region
  simp [wpOpsS, go_sem, recoverD, hu, Tryz.ntmps9, Exit.thenS]
  refine wpS_of_wp ?_
  simp only [Array.replicate, List.replicate, List.setIfInBounds_toArray, List.set_cons_succ, List.set_cons_zero, List.append_toArray, List.cons_append, List.nil_append]
  have hta : ∀ (I : TypeId) (w : World), (Instr.typeAssert (.iface 52 (.agg #[.int .i64 p, .int .i64 n])) I 52 true).run Tryz.prog w = .ok (.tuple #[.agg #[.int .i64 p, .int .i64 n], .bool true]) w := fun _ _ => by kernel_rfl
  go_wp2_with fail
  obtain ⟨W1, hW1⟩ : ∃ W1, W1 = w.alloc (.cells #[.int .i64 p, .int .i64 n] 52) := ⟨_, rfl⟩
  have hb1 : Below w.heap.size w W1 := by rw [hW1]; exact bone _ _
  have f0 : W1.cell? ⟨w.heap.size, 0, none⟩ = some (.int .i64 p) := by rw [hW1]; simp [World.cell?_alloc_new]
  have f1 : W1.cell? ⟨w.heap.size, 1, none⟩ = some (.int .i64 n) := by rw [hW1]; simp [World.cell?_alloc_new]
  have l1 : a1 < w.heap.size := (Array.getElem?_eq_some_iff.1 h1).1
  have l2 : b1 < w.heap.size := (Array.getElem?_eq_some_iff.1 h2).1
  have l3 : e1 < w.heap.size := (Array.getElem?_eq_some_iff.1 h3).1
  have k1 := (hb1.block a1 l1).trans h1
  have k2 := (hb1.block b1 l2).trans h2
  have m2 := (hb1.block e1 l3).trans h3
  rw [← hW1]
  clear hW1
  refine region_ord (fun z => ∃ X : HeldB w.heap.size W1, z = X.x) [([0, 1, 2, 3], 4), ([], 5), ([], 6)] [] (by kernel_rfl) (by kernel_rfl) (by kernel_rfl) (by kernel_rfl) ⟨⟨W1.drew, rfl⟩, rfl⟩ ?_
  simp only [List.map_cons, List.map_nil, List.filterMap_cons, List.filterMap_nil, List.getElem?_cons_succ, List.getElem?_cons_zero]
  have y0 := held_cell (w0 := W1) f0
  have y1 := held_cell (w0 := W1) f1
  have hbd : Below w.heap.size w W1.drew := hb1.drew
  have hh : W1.drew.heap[w.heap.size]? = W1.heap[w.heap.size]? := rfl
  have k1' : W1.drew.heap[a1]? = some (.cells #[.int .i64 0] 3 (0, 0)) := k1
  have k2' : W1.drew.heap[b1]? = some (.cells #[.int .i64 0] 3 (0, 0)) := k2
  have m2' : W1.drew.heap[e1]? = some (.cells #[.int .i64 0] 34 (0, 0)) := m2
  generalize W1.drew = W2 at *
  have z1 : W2.frozen? ⟨a1, 0, none⟩ = false := by simp [World.frozen?, k1']
  have c1 : W2.cell? ⟨a1, 0, none⟩ = some (.int .i64 0) := by simp [World.cell?, k1']
  refine ord_step ?_
  repeat (change wpQuiet _ _ _ _ (List.cons _ _) _; go_big_quiet_step (fail))
  refine wpQuiet_nil ?_
  intro Q₁ hQ₁
  simp only [Option.toList]
  go_wp2_with fail
  have k3 := setCell_at k1' 0 (.int .i64 p)
  have k4 : (W2.setCell ⟨a1, 0, none⟩ (.int .i64 p)).heap[b1]? = some (.cells #[.int .i64 0] 3 (0, 0)) := (setCell_other (Ne.symm hne)).trans k2'
  have m4 : (W2.setCell ⟨a1, 0, none⟩ (.int .i64 p)).heap[e1]? = some (.cells #[.int .i64 0] 34 (0, 0)) := (setCell_other (Ne.symm hne2)).trans m2'
  have hh3 : (W2.setCell ⟨a1, 0, none⟩ (.int .i64 p)).heap[w.heap.size]? = W1.heap[w.heap.size]? := (setCell_other (by omega)).trans hh
  have hoff : OffV (min a1 (min b1 e1)) [a1, b1, e1] w (W2.setCell ⟨a1, 0, none⟩ (.int .i64 p)) := (OffV.of_below hbd (by omega)).set (.inl (by simp)) (by omega)
  refine hQ₁ _ _ ⟨⟨_, hh3⟩, rfl⟩ ?_
  clear hQ₁ Q₁
  generalize W2.setCell ⟨a1, 0, none⟩ (.int .i64 p) = W3 at *
  have z3 : W3.frozen? ⟨b1, 0, none⟩ = false := by simp [World.frozen?, k4]
  have c3 : W3.cell? ⟨b1, 0, none⟩ = some (.int .i64 0) := by simp [World.cell?, k4]
  refine ord_step ?_
  refine wpQuiet_nil ?_
  intro Q₁ hQ₁
  simp only [Option.toList]
  go_wp2_with fail
  have k5 := setCell_at k4 0 (.int .i64 n)
  have k6 : (W3.setCell ⟨b1, 0, none⟩ (.int .i64 n)).heap[a1]? = some (.cells #[.int .i64 p] 3 (0, 0)) := (setCell_other hne).trans (k3.trans rfl)
  have m6 : (W3.setCell ⟨b1, 0, none⟩ (.int .i64 n)).heap[e1]? = some (.cells #[.int .i64 0] 34 (0, 0)) := (setCell_other (Ne.symm hne3)).trans m4
  have hh4 : (W3.setCell ⟨b1, 0, none⟩ (.int .i64 n)).heap[w.heap.size]? = W1.heap[w.heap.size]? := (setCell_other (by omega)).trans hh3
  have hoff2 : OffV (min a1 (min b1 e1)) [a1, b1, e1] w (W3.setCell ⟨b1, 0, none⟩ (.int .i64 n)) := hoff.set (.inl (by simp)) (by omega)
  refine hQ₁ _ _ ⟨⟨_, hh4⟩, rfl⟩ ?_
  clear hQ₁ Q₁
  generalize W3.setCell ⟨b1, 0, none⟩ (.int .i64 n) = W4 at *
  have z4 : W4.frozen? ⟨e1, 0, none⟩ = false := by simp [World.frozen?, m6]
  have c4 : W4.cell? ⟨e1, 0, none⟩ = some (.int .i64 0) := by simp [World.cell?, m6]
  refine ord_step ?_
  refine wpQuiet_nil ?_
  intro Q₁ hQ₁
  simp only [Option.toList]
  go_wp2_with fail
  have k7 : (W4.setCell ⟨e1, 0, none⟩ (.int .i64 170)).heap[a1]? = some (.cells #[.int .i64 p] 3 (0, 0)) := (setCell_other hne2).trans k6
  have k8 : (W4.setCell ⟨e1, 0, none⟩ (.int .i64 170)).heap[b1]? = some (.cells #[.int .i64 n] 3 (0, 0)) := (setCell_other hne3).trans (k5.trans rfl)
  have m8 := setCell_at m6 0 (.int .i64 170)
  have hoff3 : OffV (min a1 (min b1 e1)) [a1, b1, e1] w (W4.setCell ⟨e1, 0, none⟩ (.int .i64 170)) := hoff2.set (.inl (by simp)) (by omega)
  refine hQ₁ _ _ ⟨⟨_, (setCell_other (by omega)).trans hh4⟩, rfl⟩ ?_
  clear hQ₁ Q₁
  refine ord_last ?_
  refine wpQuiet_nil ?_
  exact ⟨rfl, _, rfl, _, results_none rfl _ _ _, rfl, rfl, k7, k8, m8.trans rfl, hoff3⟩
theorem results3_cells {W : World} {a1 b1 e1 : Nat} {x y z : Int} {tmps : Array Value} (h0 : tmps.getD 4 undef = .pointer (some ⟨a1, 0, none⟩)) (h1 : tmps.getD 5 undef = .pointer (some ⟨b1, 0, none⟩)) (h2 : tmps.getD 6 undef = .pointer (some ⟨e1, 0, none⟩))
    (c0 : W.cell? ⟨a1, 0, none⟩ = some (.int .i64 x)) (c1 : W.cell? ⟨b1, 0, none⟩ = some (.int .i64 y)) (c2 : W.cell? ⟨e1, 0, none⟩ = some (.int .i64 z)) : (results Tryz.f6 tmps).run Tryz.prog W = .ok (.tuple #[.int .i64 x, .int .i64 y, .int .i64 z]) W := by
  simp only [Array.getD_eq_getD_getElem?] at h0 h1 h2
  simp [results, Tryz.results6, go_sem, h0, h1, h2, c0, c1, c2]
set_option maxRecDepth 100000 in
set_option maxHeartbeats 2000000 in
theorem check_of (b : BrdV) (ver : Int) (vg vc : Value) (hvg : ∃ a n c, vg = .slice a n c) (hvc : ∃ a n c, vc = .slice a n c) (o : Option (Int × Int)) (w : World)
    (hAll : ∀ (W : World) (xb mi ms : Nat), Below w.heap.size w W → ChkAt W xb b ver vg vc 0 mi ms (.slice none 0 0) (.slice none 0 0) → IrqM W mi [] → StrM W ms [] → w.heap.size ≤ xb → w.heap.size ≤ mi → w.heap.size ≤ ms → mi ≠ ms → xb ≠ mi ∧ xb ≠ ms →
      Calls Tryz.prog 10 #[.pointer (some ⟨xb, 0, none⟩)] W fun e W' => e = endE o ∧ OffV w.heap.size [xb, mi, ms] W W') :
    Calls Tryz.prog 6 #[.agg #[.int .u64 b.ram.a, .int .u64 b.ram.b, .int .u64 b.ldr.a, .int .u64 b.ldr.b, .int .i64 b.irqs, .int .i64 b.strs, .int .i64 b.cpus], .agg #[.int .u32 ver, vg, vc]] w fun e w' =>
      e = .returned (.tuple #[.int .i64 (ruleV o), .int .i64 (placeW o), .int .i64 (errV o)]) ∧ Below w.heap.size w w' := by
  obtain ⟨ag, ng, cg, rfl⟩ := hvg
  obtain ⟨ac, nc, cc, rfl⟩ := hvc
  have hmf : ∀ (fn : Fn) (first cap : Array Value) (w : World), (Instr.makeFunc fn first cap).run Tryz.prog w = .ok (.func fn first cap) w := fun _ _ _ _ => rfl
  obtain ⟨A1, hA1⟩ : ∃ A1, A1 = w.alloc (.cells #[.int .u64 b.ram.a, .int .u64 b.ram.b, .int .u64 b.ldr.a, .int .u64 b.ldr.b, .int .i64 b.irqs, .int .i64 b.strs, .int .i64 b.cpus] 26) := ⟨_, rfl⟩
  obtain ⟨A2, hA2⟩ : ∃ A2, A2 = A1.alloc (.cells #[.int .u32 ver, .slice ag ng cg, .slice ac nc cc] 31) := ⟨_, rfl⟩
  obtain ⟨A3, hA3⟩ : ∃ A3, A3 = A2.alloc (.cells #[.int .i64 0] 3) := ⟨_, rfl⟩
  obtain ⟨A4, hA4⟩ : ∃ A4, A4 = A3.alloc (.cells #[.int .i64 0] 3) := ⟨_, rfl⟩
  obtain ⟨A5, hA5⟩ : ∃ A5, A5 = A4.alloc (.cells #[.int .i64 0] 34) := ⟨_, rfl⟩
  obtain ⟨A6, hA6⟩ : ∃ A6, A6 = A5.alloc (.map #[] 0) := ⟨_, rfl⟩
  obtain ⟨A7, hA7⟩ : ∃ A7, A7 = A6.alloc (.map #[] 0) := ⟨_, rfl⟩
  obtain ⟨A8, hA8⟩ : ∃ A8, A8 = A7.alloc (.cells #[.int .u64 b.ram.a, .int .u64 b.ram.b, .int .u64 b.ldr.a, .int .u64 b.ldr.b, .int .i64 b.irqs, .int .i64 b.strs, .int .i64 b.cpus, .int .u32 ver, .slice ag ng cg, .slice ac nc cc, .int .u32 0, .map (some (w.heap.size + 1 + 1 + 1 + 1 + 1)), .map (some (w.heap.size + 1 + 1 + 1 + 1 + 1 + 1)), .slice none 0 0, .slice none 0 0] 59) := ⟨_, rfl⟩
  have z1 : A1.heap.size = w.heap.size + 1 := by rw [hA1]; simp
  have z2 : A2.heap.size = w.heap.size + 2 := by rw [hA2]; simp [z1]
  have z3 : A3.heap.size = w.heap.size + 3 := by rw [hA3]; simp [z2]
  have z4 : A4.heap.size = w.heap.size + 4 := by rw [hA4]; simp [z3]
  have z5 : A5.heap.size = w.heap.size + 5 := by rw [hA5]; simp [z4]
  have z6 : A6.heap.size = w.heap.size + 6 := by rw [hA6]; simp [z5]
  have z7 : A7.heap.size = w.heap.size + 7 := by rw [hA7]; simp [z6]
  have n3 : A3.heap[w.heap.size + 2]? = some (.cells #[.int .i64 0] 3 (0, 0)) := by rw [← z2, hA3]; exact World.alloc_heap_new _ _
  have n4 : A4.heap[w.heap.size + 3]? = some (.cells #[.int .i64 0] 3 (0, 0)) := by rw [← z3, hA4]; exact World.alloc_heap_new _ _
  have n5 : A5.heap[w.heap.size + 4]? = some (.cells #[.int .i64 0] 34 (0, 0)) := by rw [← z4, hA5]; exact World.alloc_heap_new _ _
  have n6 : IrqM A6 (w.heap.size + 5) [] := by rw [← z5, hA6]; exact ⟨CntKV.new _, by simp⟩
  have n7 : StrM A7 (w.heap.size + 6) [] := by rw [← z6, hA7]; exact ⟨CntKV.new _, by simp⟩
  have n8 : ChkAt A8 (w.heap.size + 7) b ver (.slice ag ng cg) (.slice ac nc cc) 0 (w.heap.size + 5) (w.heap.size + 6) (.slice none 0 0) (.slice none 0 0) := ⟨by rw [← z7, hA8]; exact World.alloc_heap_new _ _⟩
  have b8 : Below A7.heap.size A7 A8 := by rw [hA8]; exact bone _ _
  have b7 : Below A6.heap.size A6 A8 := bthen (by rw [hA7]; exact bone _ _) b8
  have b6 : Below A5.heap.size A5 A8 := bthen (by rw [hA6]; exact bone _ _) b7
  have b5 : Below A4.heap.size A4 A8 := bthen (by rw [hA5]; exact bone _ _) b6
  have b4 : Below A3.heap.size A3 A8 := bthen (by rw [hA4]; exact bone _ _) b5
  have b3 : Below A2.heap.size A2 A8 := bthen (by rw [hA3]; exact bone _ _) b4
  have b2 : Below A1.heap.size A1 A8 := bthen (by rw [hA2]; exact bone _ _) b3
  have b1 : Below w.heap.size w A8 := bthen (by rw [hA1]; exact bone _ _) b2
  replace n3 := (b4.block (w.heap.size + 2) (by omega)).trans n3
  replace n4 := (b5.block (w.heap.size + 3) (by omega)).trans n4
  replace n5 := (b6.block (w.heap.size + 4) (by omega)).trans n5
  replace n6 := n6.same (b7.block (w.heap.size + 5) (by omega))
  replace n7 := n7.same (b8.block (w.heap.size + 6) (by omega))
  have hcall := hAll A8 (w.heap.size + 7) (w.heap.size + 5) (w.heap.size + 6) b1 n8 n6 n7 (by omega) (by omega) (by omega) (by omega) ⟨by omega, by omega⟩
  have z8 : A8.heap.size = w.heap.size + 8 := by rw [hA8]; simp [z7]
  clear b2 b3 b4 b5 b6 b7 b8 z1 z2 z3 z4 z5 z6 z7 n6 n7 n8 hAll
  replace hA1 := Lib.hid hA1
  replace hA2 := Lib.hid hA2
  replace hA3 := Lib.hid hA3
  replace hA4 := Lib.hid hA4
  replace hA5 := Lib.hid hA5
  replace hA6 := Lib.hid hA6
  replace hA7 := Lib.hid hA7
  replace hA8 := Lib.hid hA8
  replace n3 := Lib.hid n3
  replace n4 := Lib.hid n4
  replace n5 := Lib.hid n5
  go_enter_defers Tryz.func6, Tryz.ntmps6
  have hmi : ∀ W : World, (Instr.makeMap 55 none).run Tryz.prog W = .ok (.map (some W.heap.size)) (W.alloc (.map #[] 0)) := fun _ => rfl
  have hms : ∀ W : World, (Instr.makeMap 56 none).run Tryz.prog W = .ok (.map (some W.heap.size)) (W.alloc (.map #[] 0)) := fun _ => rfl
  go_wp2_with fail
  rw [← hA1.out, ← hA2.out, ← hA3.out, ← hA4.out, ← hA5.out, ← hA6.out, ← hA7.out, ← hA8.out]
  clear hA1 hA2 hA3 hA4 hA5 hA6 hA7 hA8
  refine hcall.mono ?_; rintro e W' ⟨rfl, hoff⟩
  have q3 := (hoff.rest (w.heap.size + 2) (by omega) (by simp)).trans n3.out
  have q4 := (hoff.rest (w.heap.size + 3) (by omega) (by simp)).trans n4.out
  have q5 := (hoff.rest (w.heap.size + 4) (by omega) (by simp)).trans n5.out
  have hbw : Below w.heap.size w W' := b1.trans hoff.below
  clear hoff hcall n3 n4 n5 z8
  cases o with
  | none =>
    simp only [endE]
    have z3 : W'.frozen? ⟨w.heap.size + 1 + 1, 0, none⟩ = false := by simp only [World.frozen?]; rw [show W'.heap[w.heap.size + 1 + 1]? = _ from q3]; simp
    have z4 : W'.frozen? ⟨w.heap.size + 1 + 1 + 1, 0, none⟩ = false := by simp only [World.frozen?]; rw [show W'.heap[w.heap.size + 1 + 1 + 1]? = _ from q4]; simp
    have z5 : W'.frozen? ⟨w.heap.size + 1 + 1 + 1 + 1, 0, none⟩ = false := by simp only [World.frozen?]; rw [show W'.heap[w.heap.size + 1 + 1 + 1 + 1]? = _ from q5]; simp
    have c3 : W'.cell? ⟨w.heap.size + 1 + 1, 0, none⟩ = some (.int .i64 0) := by simp only [World.cell?]; rw [show W'.heap[w.heap.size + 1 + 1]? = _ from q3]; simp
    have c4 : W'.cell? ⟨w.heap.size + 1 + 1 + 1, 0, none⟩ = some (.int .i64 0) := by simp only [World.cell?]; rw [show W'.heap[w.heap.size + 1 + 1 + 1]? = _ from q4]; simp
    have c5 : W'.cell? ⟨w.heap.size + 1 + 1 + 1 + 1, 0, none⟩ = some (.int .i64 0) := by simp only [World.cell?]; rw [show W'.heap[w.heap.size + 1 + 1 + 1 + 1]? = _ from q5]; simp
    replace q3 := Lib.hid q3
    replace q4 := Lib.hid q4
    replace q5 := Lib.hid q5
    go_wp2_with fail
    have r3 : (((W'.setCell ⟨w.heap.size + 1 + 1, 0, none⟩ (.int .i64 0)).setCell ⟨w.heap.size + 1 + 1 + 1, 0, none⟩ (.int .i64 0)).setCell ⟨w.heap.size + 1 + 1 + 1 + 1, 0, none⟩ (.int .i64 0)).heap[w.heap.size + 1 + 1]? = some (.cells #[.int .i64 0] 3 (0, 0)) := (setCell_other (by omega)).trans ((setCell_other (by omega)).trans ((setCell_at q3.out 0 _).trans rfl))
    have r4 : (((W'.setCell ⟨w.heap.size + 1 + 1, 0, none⟩ (.int .i64 0)).setCell ⟨w.heap.size + 1 + 1 + 1, 0, none⟩ (.int .i64 0)).setCell ⟨w.heap.size + 1 + 1 + 1 + 1, 0, none⟩ (.int .i64 0)).heap[w.heap.size + 1 + 1 + 1]? = some (.cells #[.int .i64 0] 3 (0, 0)) := (setCell_other (by omega)).trans ((setCell_at ((setCell_other (by omega)).trans q4.out) 0 _).trans rfl)
    have r5 : (((W'.setCell ⟨w.heap.size + 1 + 1, 0, none⟩ (.int .i64 0)).setCell ⟨w.heap.size + 1 + 1 + 1, 0, none⟩ (.int .i64 0)).setCell ⟨w.heap.size + 1 + 1 + 1 + 1, 0, none⟩ (.int .i64 0)).heap[w.heap.size + 1 + 1 + 1 + 1]? = some (.cells #[.int .i64 0] 34 (0, 0)) := (setCell_at ((setCell_other (by omega)).trans ((setCell_other (by omega)).trans q5.out)) 0 _).trans rfl
    have hbe : Below w.heap.size w (((W'.setCell ⟨w.heap.size + 1 + 1, 0, none⟩ (.int .i64 0)).setCell ⟨w.heap.size + 1 + 1 + 1, 0, none⟩ (.int .i64 0)).setCell ⟨w.heap.size + 1 + 1 + 1 + 1, 0, none⟩ (.int .i64 0)) := ((hbw.setCell (p := ⟨w.heap.size + 1 + 1, 0, none⟩) (by show w.heap.size ≤ w.heap.size + 1 + 1; omega) _).setCell (p := ⟨w.heap.size + 1 + 1 + 1, 0, none⟩) (by show w.heap.size ≤ w.heap.size + 1 + 1 + 1; omega) _).setCell (p := ⟨w.heap.size + 1 + 1 + 1 + 1, 0, none⟩) (by show w.heap.size ≤ w.heap.size + 1 + 1 + 1 + 1; omega) _
    generalize (((W'.setCell ⟨w.heap.size + 1 + 1, 0, none⟩ (.int .i64 0)).setCell ⟨w.heap.size + 1 + 1 + 1, 0, none⟩ (.int .i64 0)).setCell ⟨w.heap.size + 1 + 1 + 1 + 1, 0, none⟩ (.int .i64 0)) = W2 at *
    refine leaves_cons (f := 9) (args := #[.pointer (some ⟨w.heap.size + 1 + 1, 0, none⟩), .pointer (some ⟨w.heap.size + 1 + 1 + 1, 0, none⟩), .pointer (some ⟨w.heap.size + 1 + 1 + 1 + 1, 0, none⟩)]) (by simp) (by simp [go_sem]) ?_
    refine (check1_idle (w.heap.size + 1 + 1) (w.heap.size + 1 + 1 + 1) (w.heap.size + 1 + 1 + 1 + 1) _).mono ?_
    rintro e u' w'' ⟨rfl, rfl, rfl⟩
    have d0 : w''.cell? ⟨w.heap.size + 1 + 1, 0, none⟩ = some (.int .i64 0) := by simp only [World.cell?, r3]; simp
    have d1 : w''.cell? ⟨w.heap.size + 1 + 1 + 1, 0, none⟩ = some (.int .i64 0) := by simp only [World.cell?, r4]; simp
    have d2 : w''.cell? ⟨w.heap.size + 1 + 1 + 1 + 1, 0, none⟩ = some (.int .i64 0) := by simp only [World.cell?, r5]; simp
    exact ⟨.tuple #[.int .i64 0, .int .i64 0, .int .i64 0], results3_cells rfl rfl rfl d0 d1 d2, rfl, hbe⟩
  | some x =>
    simp only [endE]
    obtain ⟨r, pl⟩ := x
    refine leaves_cons (f := 9) (args := #[.pointer (some ⟨w.heap.size + 1 + 1, 0, none⟩), .pointer (some ⟨w.heap.size + 1 + 1 + 1, 0, none⟩), .pointer (some ⟨w.heap.size + 1 + 1 + 1 + 1, 0, none⟩)]) (by simp) (by simp [go_sem]) ?_
    refine (check1_panic r pl (w.heap.size + 1 + 1) (w.heap.size + 1 + 1 + 1) (w.heap.size + 1 + 1 + 1 + 1) _ (by omega) (by omega) (by omega) q3 q4 q5).mono ?_
    rintro e u' w'' ⟨rfl, rfl, r0, r1, r2, hoff⟩
    have d0 : w''.cell? ⟨w.heap.size + 1 + 1, 0, none⟩ = some (.int .i64 r) := by simp only [World.cell?, r0]; simp
    have d1 : w''.cell? ⟨w.heap.size + 1 + 1 + 1, 0, none⟩ = some (.int .i64 pl) := by simp only [World.cell?, r1]; simp
    have d2 : w''.cell? ⟨w.heap.size + 1 + 1 + 1 + 1, 0, none⟩ = some (.int .i64 170) := by simp only [World.cell?, r2]; simp
    have hbe : Below w.heap.size w w'' := hbw.trans (hoff.below.mono (by omega))
    exact ⟨.tuple #[.int .i64 r, .int .i64 pl, .int .i64 170], results3_cells rfl rfl rfl d0 d1 d2, rfl, hbe⟩
end Go.Proofs.YtffdfeekpfmbeaaGreat
