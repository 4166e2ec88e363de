/- The walk of valid's channel: rules 11 and 12. -/
import Derived.Test.YtffdfeekpfmbeaaVGP33
import Derived.Test.YtffdfeekpfmbeaaVGP42
namespace Go.Proofs.Ytffdfeekpfmbeaa
open Go Go.RowKit Go.BigFrame Go.Maps Go.MapKept Go.Shelf
open Go.ChangeMaps (setBlock)

theorem OwnTwo.off {E : TypeId} {W W' : World} {base B : Nat} {Bs : List Nat} {v : Value} {l : List Two} (h : OwnTwo E W base v l) (ho : OffV B Bs W W') (hd : ∀ k, v.ownBlock = some k → k ∉ Bs) : OwnTwo E W' base v l := by
  obtain ⟨hl, hc⟩ := h
  refine ⟨hl, ?_⟩
  rcases hc with hc | ⟨g, cap, cur, rfl, hb, hg, hr⟩
  · exact .inl hc
  · exact .inr ⟨g, cap, cur, rfl, hb, (ho.rest g (Array.getElem?_eq_some_iff.1 hg).1 (hd g rfl)).trans hg, hr⟩
def takenB (s o : Two) : Bool := overlapB s.a s.b o.a o.b
set_option maxHeartbeats 1000000 in
theorem taken_any (s o : Two) (sb : Nat) (w : World) (h0 : w.cell? ⟨sb, 0, none⟩ = some (.int .u64 s.a)) (h1 : w.cell? ⟨sb, 1, none⟩ = some (.int .u64 s.b)) (hlt : sb < w.heap.size) :
    Calls Try.prog 53 #[.agg #[.int .u64 o.a, .int .u64 o.b], .pointer (some ⟨sb, 0, none⟩)] w fun e w' => e = .returned (.bool (takenB s o)) ∧ Below w.heap.size w w' := by
  have hov := fun W => overlap_any s.a s.b o.a o.b W s.ha s.hb o.ha o.hb
  have n1 : ¬ sb = w.heap.size := by omega
  unfold takenB
  go_enter Try.func53, Try.ntmps53
  go_wp2_with fail
  refine (hov _).mono ?_; rintro e w1 ⟨rfl, hb1⟩
  go_wp2_with fail
  go_ret
  exact ⟨rfl, bnew hb1⟩
def chanP (b : BrdV) (n : Nat) (O Sh : List Two) (c : ChV) (k : Int) : List Rl :=
  [(insB b (chS c) && (!(O.any (takenB (chS c))) && !(Sh.any (takenB (chS c)))), 11, k), (!(decide (c.e0.g = c.e1.g)) && (endOk n c c.e0 && endOk n c c.e1), 12, k)]
theorem chan11 {b : BrdV} {n : Nat} {O Sh : List Two} {c : ChV} {k : Int} (h : (insB b (chS c) && (!(O.any (takenB (chS c))) && !(Sh.any (takenB (chS c))))) = false) : fb (chanP b n O Sh c k) = some (11, k) := by unfold chanP; rw [fb_cons, h]; rfl
theorem chan12 {b : BrdV} {n : Nat} {O Sh : List Two} {c : ChV} {k : Int} (h : (insB b (chS c) && (!(O.any (takenB (chS c))) && !(Sh.any (takenB (chS c))))) = true) : fb (chanP b n O Sh c k) = if (!(decide (c.e0.g = c.e1.g)) && (endOk n c c.e0 && endOk n c c.e1)) = true then none else some (12, k) := by unfold chanP; rw [fb_cons, h, if_pos rfl, fb_cons]; rfl
theorem eight_new (W : World) (a b c d e f g h : Value) (t : TypeId) : ∃ V, V = W.alloc (.cells #[a, b, c, d, e, f, g, h] t) ∧ V.heap.size = W.heap.size + 1 ∧ Below W.heap.size W V ∧ ∀ (j : Nat) (u : Value), #[a, b, c, d, e, f, g, h][j]? = some u → V.cell? ⟨W.heap.size, j, none⟩ = some u :=
  ⟨_, rfl, by simp, bone _ _, fun j u hu => by simp only [World.cell?_alloc_new]; exact hu⟩
theorem two_new (W : World) (a b : Value) (t : TypeId) : ∃ V, V = W.alloc (.cells #[a, b] t) ∧ V.heap.size = W.heap.size + 1 ∧ Below W.heap.size W V ∧ V.cell? ⟨W.heap.size, 0, none⟩ = some a ∧ V.cell? ⟨W.heap.size, 1, none⟩ = some b :=
  ⟨_, rfl, by simp, bone _ _, by simp [World.cell?_alloc_new], by simp [World.cell?_alloc_new]⟩

/-- Worlds in which two blocks lie as they lay. -/
structure Held2 (b c : Nat) (w0 : World) where
  x : World
  h : x.heap[b]? = w0.heap[b]?
  h' : x.heap[c]? = w0.heap[c]?
instance held2Nonempty (b c : Nat) (w0 : World) : Nonempty (Held2 b c w0) := ⟨⟨w0, rfl, rfl⟩⟩
theorem held2_cell {b c o : Nat} {w0 : World} {v : Value} (h : w0.cell? ⟨b, o, none⟩ = some v) : ∀ X : Held2 b c w0, X.x.cell? ⟨b, o, none⟩ = some v := fun X => heapc X.h h
theorem held2_cell' {b c o : Nat} {w0 : World} {v : Value} (h : w0.cell? ⟨c, o, none⟩ = some v) : ∀ X : Held2 b c w0, X.x.cell? ⟨c, o, none⟩ = some v := fun X => heapc X.h' h
set_option maxRecDepth 100000 in
set_option maxHeartbeats 8000000 in
theorem channel_any (xb : Nat) (b : BrdV) (ver : Int) (ag : Option Addr) (n kg : Nat) (vc : Value) (acc : Int) (mi ms : Nat) (vo vs : Value) (k : Int) (c : ChV) (O Sh : List Two) (w : World) (hc : ChkAt w xb b ver (.slice ag n kg) vc acc mi ms vo vs) (B Bs : Nat)
    (hO : OwnTwo 24 w B vo O) (hSh : OwnTwo 24 w Bs vs Sh) (hlo : ∀ q, vo.ownBlock = some q → q < Bs) (hBs : Bs ≤ w.heap.size) (hBB : B ≤ Bs) (hBx : B ≤ xb) (hlen : O.length ≤ 100000000 ∧ Sh.length ≤ 100000000) :
    Calls Try.prog 29 #[.pointer (some ⟨xb, 0, none⟩), .int .i64 k, .agg #[.int .u64 c.pa, .int .u64 c.sz, .int .i64 c.e0.g, .int .i64 c.e0.perm, .int .u64 c.e0.ipa, .int .i64 c.e1.g, .int .i64 c.e1.perm, .int .u64 c.e1.ipa]] w fun e w' => e = endE (fb (chanP b n O Sh c k)) ∧ OffV B (xb :: vs.ownBlock.toList) w w' ∧
      (e = .returned (.tuple #[]) → ∃ vs', ChkAt w' xb b ver (.slice ag n kg) vc acc mi ms vo vs' ∧ OwnTwo 24 w' Bs vs' (Sh ++ [chS c])) := by
  obtain ⟨W1, hW1, hz1, hb1, hcell⟩ := eight_new w (.int .u64 c.pa) (.int .u64 c.sz) (.int .i64 c.e0.g) (.int .i64 c.e0.perm) (.int .u64 c.e0.ipa) (.int .i64 c.e1.g) (.int .i64 c.e1.perm) (.int .u64 c.e1.ipa) 44
  obtain ⟨W2, hW2, hz2, hb2, s0, s1⟩ := two_new W1 (.int .u64 c.pa) (.int .u64 c.sz) 24
  rw [hz1] at s0 s1
  have hB2 := bthen hb1 hb2
  have hc2 := hc.below hB2
  have hO2 := hO.below hB2 (Nat.le_refl _)
  have hS2 := hSh.below hB2 (Nat.le_refl _)
  have hx := hc.lt
  have k0 := cell_lt hb2 (hcell 0 _ rfl) (by omega)
  have k1 := cell_lt hb2 (hcell 1 _ rfl) (by omega)
  have k2 := cell_lt hb2 (hcell 2 _ rfl) (by omega)
  have k3 := cell_lt hb2 (hcell 3 _ rfl) (by omega)
  have k4 := cell_lt hb2 (hcell 4 _ rfl) (by omega)
  have k5 := cell_lt hb2 (hcell 5 _ rfl) (by omega)
  have k6 := cell_lt hb2 (hcell 6 _ rfl) (by omega)
  have k7 := cell_lt hb2 (hcell 7 _ rfl) (by omega)
  simp only [List.getElem_toArray, List.getElem_cons_succ, List.getElem_cons_zero] at k0 k1 k2 k3 k4 k5 k6 k7
  have hr11 := @chan11 b n O Sh c k
  have hr12 := @chan12 b n O Sh c k
  generalize fb (chanP b n O Sh c k) = R at *
  have hmf : ∀ (fn : Fn) (first cap : Array Value) (w : World), (Instr.makeFunc fn first cap).run Try.prog w = .ok (.func fn first cap) w := fun _ _ _ _ => rfl
  have hins := inside_any xb b ver (.slice ag n kg) vc acc mi ms vo vs (chS c) W2 hc2
  have hpa : (chS c).a = c.pa := rfl
  have hpb : (chS c).b = c.sz := rfl
  rw [hpa, hpb] at hins
  generalize insB b (chS c) = q1 at *
  obtain ⟨ao, ko, hvo⟩ := ownsRow_slice hO
  subst hvo
  obtain ⟨asl, ks, hvs⟩ := ownsRow_slice hSh
  subst hvs
  have hrO := hO2.row
  have hrS := hS2.row
  have x13 := hc2.cell (j := 13) rfl
  have x14 := hc2.cell (j := 14) rfl
  simp only [List.getElem_toArray, List.getElem_cons_succ, List.getElem_cons_zero] at x13 x14
  have hcO := fun W h1 h2 h3 h4 => contS_any (takenB (chS c)) 53 #[.pointer (some ⟨w.heap.size + 1, 0, none⟩)] (.slice ao O.length ko) O W (enters_of Try.func53 (by kernel_rfl) rfl) h1 (predOf fun W' x hb => taken_any (chS c) x (w.heap.size + 1) W' (cell_lt hb h2 h4) (cell_lt hb h3 h4) (by have := hb.size; omega)) (by omega)
  have hcS := fun W h1 h2 h3 h4 => contS_any (takenB (chS c)) 53 #[.pointer (some ⟨w.heap.size + 1, 0, none⟩)] (.slice asl Sh.length ks) Sh W (enters_of Try.func53 (by kernel_rfl) rfl) h1 (predOf fun W' x hb => taken_any (chS c) x (w.heap.size + 1) W' (cell_lt hb h2 h4) (cell_lt hb h3 h4) (by have := hb.size; omega)) (by omega)
  generalize O.any (takenB (chS c)) = q2 at *
  generalize Sh.any (takenB (chS c)) = q3 at *
  replace hr11 := Lib.hid hr11
  replace hr12 := Lib.hid hr12
  replace hc2 := Lib.hid hc2
  go_enter Try.func29, Try.ntmps29
  go_wp2_with fail
  rw [← hW1, ← hW2]
  clear hW1 hW2
  refine hins.mono ?_; rintro e w3 ⟨rfl, hb3⟩
  have hB3 := bthen hB2 hb3
  have t0 := cell_lt hb3 s0 (by omega)
  have t1 := cell_lt hb3 s1 (by omega)
  have hz3 := hb3.size
  have y13 := cell_lt hb3 x13 (by omega)
  have y14 := cell_lt hb3 x14 (by omega)
  have hcO3 := hcO w3 (hrO.below hb3) t0 t1 (by omega)
  clear hins x13 x14 hcO
  cases q1
  case false =>
    go_wp2_with fail
    refine (must_any _ _ _ _).mono ?_; rintro e w4 ⟨rfl, rfl⟩
    exact ⟨rfl, by rw [hr11.out rfl]; rfl, OffV.of_below hB3 (by omega), fun h => by simp at h⟩
  go_wp2_with fail
  refine hcO3.mono ?_; rintro e w4 ⟨rfl, hb4⟩
  have hB4 := bthen hB3 hb4
  have hz4 := hb4.size
  have z14 := cell_lt hb4 y14 (by omega)
  have hcS4 := hcS w4 ((hrS.below hb3).below hb4) (cell_lt hb4 t0 (by omega)) (cell_lt hb4 t1 (by omega)) (by omega)
  clear hcO3 hcS y13 y14
  cases q2
  case true =>
    go_wp2_with fail
    refine (must_any _ _ _ _).mono ?_; rintro e w5 ⟨rfl, rfl⟩
    exact ⟨rfl, by rw [hr11.out rfl]; rfl, OffV.of_below hB4 (by omega), fun h => by simp at h⟩
  go_wp2_with fail
  refine hcS4.mono ?_; rintro e w5 ⟨rfl, hb5⟩
  have hB5 := bthen hB4 hb5
  have hz5 := hb5.size
  clear hcS4 z14
  cases q3
  case true =>
    go_wp2_with fail
    refine (must_any _ _ _ _).mono ?_; rintro e w6 ⟨rfl, rfl⟩
    exact ⟨rfl, by rw [hr11.out rfl]; rfl, OffV.of_below hB5 (by omega), fun h => by simp at h⟩
  have h12 := hr12.out rfl
  clear hr11 hr12
  replace h12 := Lib.hid h12
  go_wp2_with fail
  refine (must_any _ _ _ _).mono ?_; rintro e w6 ⟨rfl, rfl⟩
  simp only [mustE]
  have hb25 := bthen (bthen hb3 hb4) hb5
  have hc5 := hc2.out.below hb25
  have u0 := cell_lt hb25 s0 (by omega)
  have u1 := cell_lt hb25 s1 (by omega)
  have m0 := cell_lt hb25 k0 (by omega)
  have m1 := cell_lt hb25 k1 (by omega)
  have m2 := cell_lt hb25 k2 (by omega)
  have m3 := cell_lt hb25 k3 (by omega)
  have m4 := cell_lt hb25 k4 (by omega)
  have m5 := cell_lt hb25 k5 (by omega)
  have m6 := cell_lt hb25 k6 (by omega)
  have m7 := cell_lt hb25 k7 (by omega)
  have hS5 := hS2.below hb25 (Nat.le_refl _)
  have c14 := hc5.cell (j := 14) rfl
  simp only [List.getElem_toArray, List.getElem_cons_succ, List.getElem_cons_zero] at c14
  clear s0 s1 k0 k1 k2 k3 k4 k5 k6 k7 hS2 hO2 hrO hrS t0 t1
  go_wp2_with fail
  have hzz : w.heap.size + 1 < w5.heap.size := by omega
  have hx5 : xb < w5.heap.size := by omega
  refine region_ordS (fun z => ∃ X : Held2 xb (w.heap.size + 1) w5, z = X.x) [([0, 1, 2, 3, 4, 5], 6), ([], 7)] [8, 9] 10 (by kernel_rfl) (by kernel_rfl) (by kernel_rfl) (by kernel_rfl) ⟨⟨w5.drew, rfl, rfl⟩, rfl⟩ ?_
  simp only [List.map_cons, List.map_nil, List.filterMap_cons, List.filterMap_nil, List.getElem?_cons_succ, List.getElem?_cons_zero]
  have v14 := held2_cell (c := w.heap.size + 1) c14
  have v0 := held2_cell' (b := xb) u0
  have v1 := held2_cell' (b := xb) u1
  have hd5 : Below w5.heap.size w5 w5.drew := (Below.refl _ _).drew
  have hS6 := hS5.below hd5 (Nat.le_refl _)
  generalize w5.drew = w6 at *
  have hz6 := hd5.size
  clear c14 u0 u1
  refine ordS_step ?_
  repeat (change wpQuiet _ _ _ _ (List.cons _ _) _; go_big_quiet_step (fail))
  refine wpQuiet_nil ?_
  intro Q₁ hQ₁
  simp only [Option.toList]
  go_wp2_with fail
  have hb7 := bthen hd5 (bone w6 (.cells #[.int .u64 c.pa, .int .u64 c.sz] 24))
  have hrow1 := rowOne w6 (chS c)
  refine hQ₁ _ _ ⟨⟨_, hb7.block xb hx5, hb7.block _ hzz⟩, rfl⟩ ?_
  clear hQ₁ Q₁
  have hS7 := hS6.alloc (.cells #[.int .u64 c.pa, .int .u64 c.sz] 24)
  obtain ⟨w7, hw7⟩ : ∃ w7, w7 = w6.alloc (.cells #[.int .u64 c.pa, .int .u64 c.sz] 24) := ⟨_, rfl⟩
  change RowTwo (w6.alloc (.cells #[.int .u64 c.pa, .int .u64 c.sz] 24)) _ _ at hrow1
  rw [← hw7] at hb7 hrow1 hS7 ⊢
  have hz7 : w7.heap.size = w6.heap.size + 1 := by rw [hw7]; simp
  clear hw7
  refine ordS_step ?_
  refine wpQuiet_nil ?_
  intro Q₁ hQ₁
  simp only [Option.toList]
  have hne := own_ne (T := 71) (hc5.below hb7).blk check_span hS7
  have hne2 : (Value.slice asl Sh.length ks).ownBlock ≠ some (w.heap.size + 1) := fun e => by
    have := (hSh.lt _ e).2; omega
  go_wp2_with (at_builtin; refine OwnTwo.app rfl _ _ rfl Bs infoS16 Try.underlying37 (.slice asl Sh.length ks) (.slice (some ⟨w6.heap.size, 0, none⟩) 1 1) Sh [chS c] rfl rfl hS7 hrow1 (by simp) (by simp; omega) (by omega) ?_; intro v' w8 hO8 hgr)
  have hk8 : w8.heap[xb]? = w5.heap[xb]? := (hgr.block xb (by omega) (fun e => hne e.symm)).trans (hb7.block xb hx5)
  have hs8 : w8.heap[w.heap.size + 1]? = w5.heap[w.heap.size + 1]? := (hgr.block _ (by omega) (fun e => hne2 e.symm)).trans (hb7.block _ hzz)
  refine hQ₁ _ _ ⟨⟨w8, hk8, hs8⟩, rfl⟩ ?_
  clear hQ₁ Q₁
  refine ordS_last ?_
  repeat (change wpQuiet _ _ _ _ (List.cons _ _) _; go_big_quiet_step (fail))
  refine wpQuiet_nil ?_
  intro Q₁ hQ₁
  simp only [Option.toList]
  have hC8 : ChkAt w8 xb b ver (.slice ag n kg) vc acc mi ms (.slice ao O.length ko) (.slice asl Sh.length ks) := ⟨hk8.trans hc5.blk⟩
  have hz8 := hgr.size
  have hfz : w8.frozen? ⟨xb, 14, none⟩ = false := by simp [World.frozen?, hC8.blk]
  have hcx' := hC8.cell (j := 14) rfl
  simp only [List.getElem_toArray, List.getElem_cons_succ, List.getElem_cons_zero] at hcx'
  obtain ⟨a3, c3, hv3⟩ := ownsRow_slice hO8
  rw [List.length_append, List.length_singleton] at hv3
  subst hv3
  have hO9 := hO8.set_other (o := 14) (u := .slice a3 (Sh.length + 1) c3) (own_ne hC8.blk check_span hO8)
  have hoff : OffV B (xb :: (Value.slice asl Sh.length ks).ownBlock.toList) w (w8.setCell ⟨xb, 14, none⟩ (.slice a3 (Sh.length + 1) c3)) := by
    have hb57 := hB5.trans (hb7.mono hB5.size)
    refine OffV.set ?_ (.inl (by simp)) hBx
    refine ⟨((hb57.mono (by omega)).grown hgr (by omega) fun q hq => by have := (hSh.lt q hq).1; omega), fun q hq hn => ?_⟩
    refine (hgr.block q (by have := hb57.size; omega) fun e => hn ?_).trans (hb57.block q hq)
    rw [List.mem_cons]; right; rw [← e]; simp
  have hC9 : ChkAt (w8.setCell ⟨xb, 14, none⟩ (.slice a3 (Sh.length + 1) c3)) xb b ver (.slice ag n kg) vc acc mi ms (.slice ao O.length ko) (.slice a3 (Sh.length + 1) c3) := ⟨(setCell_at hC8.blk 14 _).trans rfl⟩
  have hcb : ∀ o v, w5.cell? ⟨w.heap.size, o, none⟩ = some v → (w8.setCell ⟨xb, 14, none⟩ (.slice a3 (Sh.length + 1) c3)).cell? ⟨w.heap.size, o, none⟩ = some v := fun o v h =>
    heapc ((setCell_other (by omega)).trans ((hgr.block _ (by omega) (fun e => by have := (hSh.lt _ e.symm).2; omega)).trans (hb7.block _ (by omega)))) h
  replace m0 := hcb _ _ m0
  replace m1 := hcb _ _ m1
  replace m2 := hcb _ _ m2
  replace m3 := hcb _ _ m3
  replace m4 := hcb _ _ m4
  replace m5 := hcb _ _ m5
  replace m6 := hcb _ _ m6
  replace m7 := hcb _ _ m7
  by_cases h0 : c.e0.g = c.e1.g
  case pos =>
    have h0' : (c.e0.g != c.e1.g) = false := by simpa using h0
    go_wp2_with fail
    refine (must_any _ _ _ _).mono ?_; rintro e w10 ⟨rfl, rfl⟩
    exact ⟨rfl, by rw [h12.out]; simp [h0, endE], hoff, fun h => by simp at h⟩
  have h0' : (c.e0.g != c.e1.g) = true := by simpa using h0
  go_wp2_with fail
  refine (must_any _ _ _ _).mono ?_; rintro e w10 ⟨rfl, rfl⟩
  simp only [mustE]
  obtain ⟨w9, hw9⟩ : ∃ w9, w9 = w8.setCell ⟨xb, 14, none⟩ (.slice a3 (Sh.length + 1) c3) := ⟨_, rfl⟩
  rw [← hw9] at hO9 hoff hC9 m0 m1 m2 m3 m4 m5 m6 m7 ⊢
  have hz9 : w9.heap.size = w8.heap.size := by rw [hw9]; simp [World.setCell]
  clear hw9 hcb hcx' hfz v14 v0 v1
  go_wp2_with fail
  go_loopw [62] (fun i wr => ∃ j : Nat, j ≤ 2 ∧ i = .int .i64 j ∧ (j = 0 ∨ (j = 1 ∧ endOk n c c.e0 = true) ∨ (j = 2 ∧ endOk n c c.e0 = true ∧ endOk n c c.e1 = true)) ∧ Below w9.heap.size w9 wr) (fun i _ => 2 - (intOf i).toNat)
  case atStart => exact ⟨0, by omega, rfl, .inl rfl, Below.refl _ _⟩
  case round =>
    obtain ⟨j, hj, rfl, hor, hB⟩ := hrel
    have hzr := hB.size
    rcases hor with rfl | ⟨rfl, he⟩ | ⟨rfl, he, he1⟩
    · have i0 : ∀ w : World, (Instr.index 42 (.agg #[.int .i64 c.e0.g, .int .i64 c.e0.perm, .int .u64 c.e0.ipa, .int .i64 c.e1.g, .int .i64 c.e1.perm, .int .u64 c.e1.ipa]) (.int .i64 0)).run Try.prog w = .ok (.agg #[.int .i64 c.e0.g, .int .i64 c.e0.perm, .int .u64 c.e0.ipa]) w := fun _ => by kernel_rfl
      obtain ⟨V, hV, hVz, hVb, v0, v1, v2⟩ := three_new wr (.int .i64 c.e0.g) (.int .i64 c.e0.perm) (.int .u64 c.e0.ipa) 41
      have hVb9 := hB.trans (hVb.mono hB.size)
      have hVlt : wr.heap.size < V.heap.size := by omega
      have hCV := hC9.below hVb9
      have x8 := hCV.cell (j := 8) rfl
      simp only [List.getElem_toArray, List.getElem_cons_succ, List.getElem_cons_zero] at x8
      have n1 := cell_lt hVb9 m1 (by omega)
      have hlo := fun W => low_any ⟨c.e0.ipa, c.sz, c.e0.hi, c.hs⟩ W
      simp only at hlo
      go_wp2_with fail
      rw [← hV]
      clear hV hCV
      replace v0 := later_cell (B := V.heap.size) v0 hVlt
      replace v1 := later_cell (B := V.heap.size) v1 hVlt
      replace v2 := later_cell (B := V.heap.size) v2 hVlt
      replace x8 := later_cell (B := V.heap.size) x8 (by have := hVb9.size; omega)
      replace n1 := later_cell (B := V.heap.size) n1 (by have := hVb9.size; omega)
      refine region_later_tl V.heap.size V 27 (Below.refl _ _) (by kernel_rfl) (by kernel_rfl) ?_
      simp only [List.take_succ_cons, List.take_zero, List.drop_succ_cons, List.drop_zero]
      by_cases a1 : c.e0.g < n
      case neg =>
        repeat (change wpQuiet _ _ _ _ (List.cons _ _) _; go_big_quiet_step (fail))
        refine wpQuiet_nil ?_
        rintro w10 ⟨X, rfl⟩
        have hX := hVb9.trans (X.h.mono hVb9.size)
        generalize X.x = w10 at *
        clear X
        go_wp2_with fail
        refine (must_any _ _ _ _).mono ?_; rintro e w11 ⟨rfl, rfl⟩
        have hend : endOk n c c.e0 = false := by unfold endOk; rw [decide_eq_false (Int.not_lt.2 a1)]; simp
        refine ⟨rfl, ?_, hoff.then hX (by omega), fun h => by simp at h⟩
        rw [h12.out, hend]; simp [h0, endE]
      by_cases a2 : 1 ≤ c.e0.perm
      case neg =>
        repeat (change wpQuiet _ _ _ _ (List.cons _ _) _; go_big_quiet_step (fail))
        refine wpQuiet_nil ?_
        rintro w10 ⟨X, rfl⟩
        have hX := hVb9.trans (X.h.mono hVb9.size)
        generalize X.x = w10 at *
        clear X
        go_wp2_with fail
        refine (must_any _ _ _ _).mono ?_; rintro e w11 ⟨rfl, rfl⟩
        have hend : endOk n c c.e0 = false := by unfold endOk; rw [decide_eq_false (show ¬ (1 ≤ c.e0.perm ∧ c.e0.perm ≤ 3) by omega)]; simp
        refine ⟨rfl, ?_, hoff.then hX (by omega), fun h => by simp at h⟩
        rw [h12.out, hend]; simp [h0, endE]
      by_cases a3 : c.e0.perm ≤ 3
      case neg =>
        repeat (change wpQuiet _ _ _ _ (List.cons _ _) _; go_big_quiet_step (fail))
        refine wpQuiet_nil ?_
        rintro w10 ⟨X, rfl⟩
        have hX := hVb9.trans (X.h.mono hVb9.size)
        generalize X.x = w10 at *
        clear X
        go_wp2_with fail
        refine (must_any _ _ _ _).mono ?_; rintro e w11 ⟨rfl, rfl⟩
        have hend : endOk n c c.e0 = false := by unfold endOk; rw [decide_eq_false (show ¬ (1 ≤ c.e0.perm ∧ c.e0.perm ≤ 3) by omega)]; simp
        refine ⟨rfl, ?_, hoff.then hX (by omega), fun h => by simp at h⟩
        rw [h12.out, hend]; simp [h0, endE]
      have hend : endOk n c c.e0 = pageM c.e0.ipa c.sz := by unfold endOk; simp [a1, a2, a3]
      generalize pageM c.e0.ipa c.sz = q at *
      repeat (change wpQuiet _ _ _ _ (List.cons _ _) _; go_big_quiet_step (fail))
      go_big_quiet_step ((go_at_call 45; exact quiet_later (Nat.le_refl _) (hlo _)))
      repeat (change wpQuiet _ _ _ _ (List.cons _ _) _; go_big_quiet_step (fail))
      refine wpQuiet_nil ?_
      rintro w10 ⟨X, rfl⟩
      have hX := hVb9.trans (X.h.mono hVb9.size)
      generalize X.x = w10 at *
      clear X
      go_wp2_with fail
      refine (must_any _ _ _ _).mono ?_; rintro e w11 ⟨rfl, rfl⟩
      cases q
      · refine ⟨rfl, ?_, hoff.then hX (by omega), fun h => by simp at h⟩
        rw [h12.out, hend]; simp [h0, endE]
      simp only [mustE]
      go_wp2_with fail
      exact ⟨⟨1, by omega, by go_num, by simp [hend], hX⟩, by simp [intOf]⟩
    · have i0 : ∀ w : World, (Instr.index 42 (.agg #[.int .i64 c.e0.g, .int .i64 c.e0.perm, .int .u64 c.e0.ipa, .int .i64 c.e1.g, .int .i64 c.e1.perm, .int .u64 c.e1.ipa]) (.int .i64 1)).run Try.prog w = .ok (.agg #[.int .i64 c.e1.g, .int .i64 c.e1.perm, .int .u64 c.e1.ipa]) w := fun _ => by kernel_rfl
      obtain ⟨V, hV, hVz, hVb, v0, v1, v2⟩ := three_new wr (.int .i64 c.e1.g) (.int .i64 c.e1.perm) (.int .u64 c.e1.ipa) 41
      have hVb9 := hB.trans (hVb.mono hB.size)
      have hVlt : wr.heap.size < V.heap.size := by omega
      have hCV := hC9.below hVb9
      have x8 := hCV.cell (j := 8) rfl
      simp only [List.getElem_toArray, List.getElem_cons_succ, List.getElem_cons_zero] at x8
      have n1 := cell_lt hVb9 m1 (by omega)
      have hlo := fun W => low_any ⟨c.e1.ipa, c.sz, c.e1.hi, c.hs⟩ W
      simp only at hlo
      go_wp2_with fail
      rw [← hV]
      clear hV hCV
      replace v0 := later_cell (B := V.heap.size) v0 hVlt
      replace v1 := later_cell (B := V.heap.size) v1 hVlt
      replace v2 := later_cell (B := V.heap.size) v2 hVlt
      replace x8 := later_cell (B := V.heap.size) x8 (by have := hVb9.size; omega)
      replace n1 := later_cell (B := V.heap.size) n1 (by have := hVb9.size; omega)
      refine region_later_tl V.heap.size V 27 (Below.refl _ _) (by kernel_rfl) (by kernel_rfl) ?_
      simp only [List.take_succ_cons, List.take_zero, List.drop_succ_cons, List.drop_zero]
      by_cases a1 : c.e1.g < n
      case neg =>
        repeat (change wpQuiet _ _ _ _ (List.cons _ _) _; go_big_quiet_step (fail))
        refine wpQuiet_nil ?_
        rintro w10 ⟨X, rfl⟩
        have hX := hVb9.trans (X.h.mono hVb9.size)
        generalize X.x = w10 at *
        clear X
        go_wp2_with fail
        refine (must_any _ _ _ _).mono ?_; rintro e w11 ⟨rfl, rfl⟩
        have hend : endOk n c c.e1 = false := by unfold endOk; rw [decide_eq_false (Int.not_lt.2 a1)]; simp
        refine ⟨rfl, ?_, hoff.then hX (by omega), fun h => by simp at h⟩
        rw [h12.out, hend]; simp [h0, he, endE]
      by_cases a2 : 1 ≤ c.e1.perm
      case neg =>
        repeat (change wpQuiet _ _ _ _ (List.cons _ _) _; go_big_quiet_step (fail))
        refine wpQuiet_nil ?_
        rintro w10 ⟨X, rfl⟩
        have hX := hVb9.trans (X.h.mono hVb9.size)
        generalize X.x = w10 at *
        clear X
        go_wp2_with fail
        refine (must_any _ _ _ _).mono ?_; rintro e w11 ⟨rfl, rfl⟩
        have hend : endOk n c c.e1 = false := by unfold endOk; rw [decide_eq_false (show ¬ (1 ≤ c.e1.perm ∧ c.e1.perm ≤ 3) by omega)]; simp
        refine ⟨rfl, ?_, hoff.then hX (by omega), fun h => by simp at h⟩
        rw [h12.out, hend]; simp [h0, he, endE]
      by_cases a3 : c.e1.perm ≤ 3
      case neg =>
        repeat (change wpQuiet _ _ _ _ (List.cons _ _) _; go_big_quiet_step (fail))
        refine wpQuiet_nil ?_
        rintro w10 ⟨X, rfl⟩
        have hX := hVb9.trans (X.h.mono hVb9.size)
        generalize X.x = w10 at *
        clear X
        go_wp2_with fail
        refine (must_any _ _ _ _).mono ?_; rintro e w11 ⟨rfl, rfl⟩
        have hend : endOk n c c.e1 = false := by unfold endOk; rw [decide_eq_false (show ¬ (1 ≤ c.e1.perm ∧ c.e1.perm ≤ 3) by omega)]; simp
        refine ⟨rfl, ?_, hoff.then hX (by omega), fun h => by simp at h⟩
        rw [h12.out, hend]; simp [h0, he, endE]
      have hend : endOk n c c.e1 = pageM c.e1.ipa c.sz := by unfold endOk; simp [a1, a2, a3]
      generalize pageM c.e1.ipa c.sz = q at *
      repeat (change wpQuiet _ _ _ _ (List.cons _ _) _; go_big_quiet_step (fail))
      go_big_quiet_step ((go_at_call 45; exact quiet_later (Nat.le_refl _) (hlo _)))
      repeat (change wpQuiet _ _ _ _ (List.cons _ _) _; go_big_quiet_step (fail))
      refine wpQuiet_nil ?_
      rintro w10 ⟨X, rfl⟩
      have hX := hVb9.trans (X.h.mono hVb9.size)
      generalize X.x = w10 at *
      clear X
      go_wp2_with fail
      refine (must_any _ _ _ _).mono ?_; rintro e w11 ⟨rfl, rfl⟩
      cases q
      · refine ⟨rfl, ?_, hoff.then hX (by omega), fun h => by simp at h⟩
        rw [h12.out, hend]; simp [h0, he, endE]
      simp only [mustE]
      go_wp2_with fail
      exact ⟨⟨2, by omega, by go_num, by simp [he, hend], hX⟩, by simp [intOf]⟩
    · go_wp2_with fail
      go_end0
      refine ⟨?_, hoff.then hB (by omega), fun _ => ⟨_, hC9.below hB, hO9.below hB (Nat.le_refl _)⟩⟩
      rw [h12.out]; simp [h0, he, he1, endE]
end Go.Proofs.Ytffdfeekpfmbeaa
