/- The walk of the program's Good: whether parts may be mapped. -/
import Derived.Test.YtiblhlaemmdphaaGreatTableBuildsP10
import Derived.Test.YtiblhlaemmdphaaGreatTableBuildsP15
namespace Go.Proofs.YtiblhlaemmdphaaGreat
open Go Go.RowKit Go.BigFrame
set_option maxHeartbeats 1000000 in
theorem virtual_any (y : M5) (w : World) : Calls Tryz.prog 75 #[.agg #[.int .u64 y.ipa, .int .u64 y.pa, .int .u64 y.sz, .int .i64 y.perm, .int .i64 y.kind]] w fun e w' => e = .returned (.agg #[.int .u64 y.ipa, .int .u64 y.sz]) ∧ Below w.heap.size w w' := by
 go_enter Tryz.func75, Tryz.ntmps75
 go_wp2_with fail
 refine bodyPost_ret (v := .agg #[.int .u64 y.ipa, .int .u64 y.sz]) (by simp [results, Tryz.results75, go_sem]) rfl ?_
 exact ⟨rfl, ((Below.refl _ w).alloc (Nat.le_refl _) _).alloc (by simp) _⟩
set_option maxHeartbeats 1000000 in
theorem physical_any (y : M5) (w : World) : Calls Tryz.prog 76 #[.agg #[.int .u64 y.ipa, .int .u64 y.pa, .int .u64 y.sz, .int .i64 y.perm, .int .i64 y.kind]] w fun e w' => e = .returned (.agg #[.int .u64 y.pa, .int .u64 y.sz]) ∧ Below w.heap.size w w' := by
 go_enter Tryz.func76, Tryz.ntmps76
 go_wp2_with fail
 refine bodyPost_ret (v := .agg #[.int .u64 y.pa, .int .u64 y.sz]) (by simp [results, Tryz.results76, go_sem]) rfl ?_
 exact ⟨rfl, ((Below.refl _ w).alloc (Nat.le_refl _) _).alloc (by simp) _⟩
theorem heapAt_set' {w : World} {B : Nat} {cs : Array Value} {T : TypeId} {fz : Nat × Nat} (h : w.heap[B]? = some (.cells cs T fz)) (i : Nat) (u : Value) : (w.setCell ⟨B, i, none⟩ u).heap[B]? = some (.cells (cs.setIfInBounds i u) T fz) := by
 rw [Go.Sort.setCell_eq]
 simp [Go.Sort.mapBlock, Array.getElem?_modify, h, Go.Sort.onCells]
def BoxTwo (W : World) (b : Nat) (x y : Int) : Prop := W.heap[b]? = some (.cells #[.int .u64 x, .int .u64 y] 28 (0, 0))
theorem BoxTwo.lt {W : World} {b : Nat} {x y : Int} (h : BoxTwo W b x y) : b < W.heap.size := (Array.getElem?_eq_some_iff.1 h).1
theorem BoxTwo.facts {W : World} {b : Nat} {x y : Int} (h : BoxTwo W b x y) : W.cell? ⟨b, 0, none⟩ = some (.int .u64 x) ∧ W.cell? ⟨b, 1, none⟩ = some (.int .u64 y) ∧ W.frozen? ⟨b, 0, none⟩ = false ∧ W.frozen? ⟨b, 1, none⟩ = false := by
 refine ⟨?_, ?_, ?_, ?_⟩ <;> simp [World.cell?, World.frozen?, show W.heap[b]? = _ from h]
theorem BoxTwo.new (W : World) (x y : Int) : BoxTwo (W.alloc (.cells #[.int .u64 x, .int .u64 y] 28)) W.heap.size x y := World.alloc_heap_new W _
theorem BoxTwo.alloc {W : World} {b : Nat} {x y : Int} (h : BoxTwo W b x y) (o : Obj) : BoxTwo (W.alloc o) b x y := ((bone W o).block b h.lt).trans h
theorem BoxTwo.below {W W' : World} {b : Nat} {x y : Int} (h : BoxTwo W b x y) (hb : Below W.heap.size W W') : BoxTwo W' b x y := (hb.block b h.lt).trans h
theorem keepA {W : World} {b o : Nat} {v : Value} {x : Obj} (h : W.cell? ⟨b, o, none⟩ = some v) : (W.alloc x).cell? ⟨b, o, none⟩ = some v := cell_lt (bone W x) h (World.block_lt_of_cell? W _ h)
theorem BoxTwo.set {W : World} {b : Nat} {x y : Int} (h : BoxTwo W b x y) (x' y' : Int) : BoxTwo ((W.setCell ⟨b, 0, none⟩ (.int .u64 x')).setCell ⟨b, 1, none⟩ (.int .u64 y')) b x' y' := heapAt_set' (heapAt_set' h 0 _) 1 _
theorem BoxTwo.off {W : World} {b c o : Nat} {x y : Int} (h : BoxTwo W b x y) (hne : b ≠ c) (u : Value) : BoxTwo (W.setCell ⟨c, o, none⟩ u) b x y := (Below.heap_setCell W _ u b (by simpa using hne)).trans h
def Pair2 (B : Nat) (w0 : World) (M V U : Value) (x y x' y' : Int) (a0 : Act) (f0 f1 f2 f3 f4 f5 f6 f7 : Bool) (a : Act) (w : World) : Prop :=
 ∃ (s6 s7 s14 s15 s16 s17 : Value) (b6 b7 : Nat), a = (((((a0.put (some 6) s6).put (some 7) s7).put (some 14) s14).put (some 15) s15).put (some 16) s16).put (some 17) s17 ∧ Below B w0 w ∧
  (f0 = true → s14 = M) ∧ (f1 = true → s15 = V) ∧ (f2 = true → s16 = M) ∧ (f3 = true → s17 = U) ∧
  (f4 = true → s6 = .pointer (some ⟨b6, 0, none⟩) ∧ B ≤ b6 ∧ BoxTwo w b6 (if f6 then x else 0) (if f6 then y else 0)) ∧
  (f5 = true → s7 = .pointer (some ⟨b7, 0, none⟩) ∧ B ≤ b7 ∧ BoxTwo w b7 (if f7 then x' else 0) (if f7 then y' else 0)) ∧
  (f4 = true → f5 = true → b6 ≠ b7) ∧ (f6 = true → f4 = true) ∧ (f7 = true → f5 = true)
def ahead (l : List M5) (k : Nat) : Int := if k = 0 then 0 else endM l[k - 1]!
theorem nextB_ahead (l : List M5) (k : Nat) : nextB l k = !decide (l[k]!.ipa < ahead l k) := by
 unfold nextB ahead
 by_cases h : k = 0
 ·subst h
  rw [if_pos rfl, decide_eq_true rfl, Bool.true_or, decide_eq_false (by have := (l[0]!).hi.1; omega)]; rfl
 ·rw [if_neg h, decide_eq_false h, Bool.false_or]
theorem pageM_parts (x : Two) : pageM x.a x.b = (!(pageBad x) && decide (lastV x.a x.b < 1099511627776)) := by
 unfold pageM; rw [pageBad_not]
theorem rowPair (W : World) (x y : Two) : RowTwo (W.alloc (.cells #[.int .u64 x.a, .int .u64 x.b, .int .u64 y.a, .int .u64 y.b] 28)) (.slice (some ⟨W.heap.size, 0, none⟩) 2 2) [x, y] := by
 refine ⟨_, _, rfl, Nat.le_refl _, fun _ => ⟨_, _, rfl, by simp, fun i hi => ?_⟩⟩
 rcases i with _ | _ | i
 ·simp [World.cell?_alloc_new]
 ·simp [World.cell?_alloc_new]
 ·simp at hi; omega
set_option maxRecDepth 20000 in
set_option maxHeartbeats 4000000 in
theorem goodM_any (v : Value) (l : List M5) (w : World) (hv : RowM w v l) (hl : l.length ≤ 1099511627776) :
  Calls Tryz.prog 43 #[v] w fun e w' => e = .returned (.bool (goodM l)) ∧ Below w.heap.size w w' := by
 obtain ⟨a1, cp1, rfl, _, hc1⟩ := hv
 go_enter Tryz.func43, Tryz.ntmps43
 go_wp2_with fail
 go_loopw [3, 10] (fun c i wr => ∃ k : Nat, k ≤ l.length ∧ i = .int .i64 k ∧ c = .int .u64 (ahead l k) ∧ (∀ j, j < k → okM l j = true) ∧ Below w.heap.size w wr) (fun _ i _ => l.length - (intOf i).toNat)
 case atStart => exact ⟨0, Nat.zero_le _, rfl, rfl, fun j hj => by omega, Below.refl _ _⟩
 case round =>
  obtain ⟨k, hk, rfl, rfl, hall, hB⟩ := hrel
  have hz := hB.size
  by_cases hlt : k < l.length
  ·obtain ⟨b1, o1, rfl, hb1, hcell1⟩ := hc1 (by rintro rfl; simp at hlt)
   obtain ⟨p0, p1, p2, p3, p4⟩ := hcell1 k hlt
   replace p0 := cell_lt hB p0 hb1
   replace p1 := cell_lt hB p1 hb1
   replace p2 := cell_lt hB p2 hb1
   replace p3 := cell_lt hB p3 hb1
   replace p4 := cell_lt hB p4 hb1
   have hok : okM l k = (elemB l[k] && !decide (l[k].ipa < ahead l k)) := by unfold okM; rw [nextB_ahead, getElem!_pos l k hlt]
   have hno := @goodM_no l k hlt
   have hall' : okM l k = true → ∀ j, j < k + 1 → okM l j = true := fun h j hj => by
    by_cases e : j = k
    ·subst e; exact h
    ·exact hall j (by omega)
   have hah : ahead l (k + 1) = (l[k].ipa + l[k].sz) % 18446744073709551616 := by
    unfold ahead; rw [if_neg (by omega), Nat.add_sub_cancel, getElem!_pos l k hlt]; rfl
   clear hcell1 hall
   generalize l[k] = x at *
   generalize hA : ahead l k = A at *
   clear hA
   have hvi := fun W => virtual_any x W
   have hph := fun W => physical_any x W
   have hpg := fun W => pages_any _ [⟨x.ipa, x.sz, x.hi, x.hs⟩, ⟨x.pa, x.sz, x.hp, x.hs⟩] _ (rowPair W ⟨x.ipa, x.sz, x.hi, x.hs⟩ ⟨x.pa, x.sz, x.hp, x.hs⟩) (by simp)
   have hl1 := fun W => last_any x.ipa x.sz W x.hi x.hs
   have hl2 := fun W => last_any x.pa x.sz W x.hp x.hs
   have hel : elemB x = ((!(pageBad ⟨x.ipa, x.sz, x.hi, x.hs⟩) && decide (lastV x.ipa x.sz < 1099511627776)) && ((!(pageBad ⟨x.pa, x.sz, x.hp, x.hs⟩) && decide (lastV x.pa x.sz < 1099511627776)) && decide (1 ≤ x.perm ∧ x.perm ≤ 7 ∧ 0 ≤ x.kind ∧ x.kind ≤ 1))) := by
    rw [← pageM_parts, ← pageM_parts]; rfl
   have hany : ([⟨x.ipa, x.sz, x.hi, x.hs⟩, ⟨x.pa, x.sz, x.hp, x.hs⟩] : List Two).any pageBad = (pageBad ⟨x.ipa, x.sz, x.hi, x.hs⟩ || pageBad ⟨x.pa, x.sz, x.hp, x.hs⟩) := by simp
   rw [hany] at hpg
   clear hany
   generalize pageBad ⟨x.ipa, x.sz, x.hi, x.hs⟩ = q1 at *
   generalize pageBad ⟨x.pa, x.sz, x.hp, x.hs⟩ = q2 at *
   generalize lastV x.ipa x.sz = L1 at *
   generalize lastV x.pa x.sz = L2 at *
   replace hel := Lib.hid hel
   replace hok := Lib.hid hok
   replace hah := Lib.hid hah
   replace hall' := Lib.hid hall'
   replace hno := Lib.hid hno
   obtain ⟨m0, m1, m2, m3, m4⟩ := five_new wr (.int .u64 x.ipa) (.int .u64 x.pa) (.int .u64 x.sz) (.int .i64 x.perm) (.int .i64 x.kind) 59
   go_wp2_with fail
   obtain ⟨w0, hw0⟩ : ∃ w0, w0 = wr.alloc (.cells #[.int .u64 x.ipa, .int .u64 x.pa, .int .u64 x.sz, .int .i64 x.perm, .int .i64 x.kind] 59) := ⟨_, rfl⟩
   have hb0 : Below wr.heap.size wr w0 := by rw [hw0]; exact bone _ _
   have hz0 : w0.heap.size = wr.heap.size + 1 := by rw [hw0]; simp
   rw [← hw0] at m0 m1 m2 m3 m4 ⊢
   clear hw0
   replace hz0 := Lib.hid hz0
   refine region_inv (fun a0 f a' w' => Pair2 w0.heap.size w0 (.agg #[.int .u64 x.ipa, .int .u64 x.pa, .int .u64 x.sz, .int .i64 x.perm, .int .i64 x.kind]) (.agg #[.int .u64 x.ipa, .int .u64 x.sz]) (.agg #[.int .u64 x.pa, .int .u64 x.sz]) x.ipa x.sz x.pa x.sz a0 (f 0) (f 1) (f 2) (f 3) (f 4) (f 5) (f 6) (f 7) a' w') (by kernel_rfl) (by kernel_rfl) ?h0 ?hstep ?hend
   case h0 => exact ⟨_, _, _, _, _, _, 0, 0, rfl, (Below.refl _ _).drew, by simp, by simp, by simp, by simp, by simp, by simp, by simp, by simp, by simp⟩
   case hstep =>
    clear hpg hl1 hl2 hel hok hah hno hall' p0 p1 p2 p3 p4 hc1 hz hB hl hk hlt hb1
    intro i o hi
    rw [← Nat.zero_add i]
    revert i o
    refine steps_cons ?_ (steps_cons ?_ (steps_cons ?_ (steps_cons ?_ (steps_cons ?_ (steps_cons ?_ (steps_cons ?_ (steps_cons ?_ steps_nil)))))))
    all_goals
     rintro f a w' ⟨s6, s7, s14, s15, s16, s17, b6, b7, rfl, hb, k0, k1, k2, k3, k4, k5, k45, k64, k75⟩ hf hd Q₁ hQ
     simp only [Act.put, List.setIfInBounds_toArray, List.set_cons_succ, List.set_cons_zero] at hQ ⊢
    ·have c0 := cell_lt hb m0 (by have := hz0.out; omega)
     have c1 := cell_lt hb m1 (by have := hz0.out; omega)
     have c2 := cell_lt hb m2 (by have := hz0.out; omega)
     have c3 := cell_lt hb m3 (by have := hz0.out; omega)
     have c4 := cell_lt hb m4 (by have := hz0.out; omega)
     go_wp2_with fail
     exact ⟨s6, s7, _, s15, s16, s17, b6, b7, rfl, hb, fun _ => rfl, k1, k2, k3, k4, k5, k45, k64, k75⟩
    ·obtain rfl := k0 (hd ⟨0, .data⟩ (by simp) rfl)
     go_wp2_with (go_at_call 75; refine (hvi _).mono ?_; rintro e w1 ⟨rfl, hb1⟩)
     exact ⟨s6, s7, _, _, s16, s17, b6, b7, rfl, bthen hb hb1, fun _ => rfl, fun _ => rfl, k2, k3, fun h => ⟨(k4 h).1, (k4 h).2.1, (k4 h).2.2.below hb1⟩, fun h => ⟨(k5 h).1, (k5 h).2.1, (k5 h).2.2.below hb1⟩, k45, k64, k75⟩
    ·have c0 := cell_lt hb m0 (by have := hz0.out; omega)
     have c1 := cell_lt hb m1 (by have := hz0.out; omega)
     have c2 := cell_lt hb m2 (by have := hz0.out; omega)
     have c3 := cell_lt hb m3 (by have := hz0.out; omega)
     have c4 := cell_lt hb m4 (by have := hz0.out; omega)
     go_wp2_with fail
     exact ⟨s6, s7, s14, s15, _, s17, b6, b7, rfl, hb, k0, k1, fun _ => rfl, k3, k4, k5, k45, k64, k75⟩
    ·obtain rfl := k2 (hd ⟨2, .data⟩ (by simp) rfl)
     go_wp2_with (go_at_call 76; refine (hph _).mono ?_; rintro e w1 ⟨rfl, hb1⟩)
     exact ⟨s6, s7, s14, s15, _, _, b6, b7, rfl, bthen hb hb1, k0, k1, fun _ => rfl, fun _ => rfl, fun h => ⟨(k4 h).1, (k4 h).2.1, (k4 h).2.2.below hb1⟩, fun h => ⟨(k5 h).1, (k5 h).2.1, (k5 h).2.2.below hb1⟩, k45, k64, k75⟩
    ·have f6 : f 6 = false := by
      cases h : f 6
      ·rfl
      ·rw [k64 h] at hf; cases hf
     have hs := hb.size
     go_wp2_with fail
     refine ⟨_, s7, s14, s15, s16, s17, w'.heap.size, b7, rfl, hb.alloc hs _, k0, k1, k2, k3, fun _ => ⟨rfl, hs, ?_⟩, fun h => ⟨(k5 h).1, (k5 h).2.1, (k5 h).2.2.alloc _⟩, fun _ h => Nat.ne_of_gt (k5 h).2.2.lt, fun _ => rfl, k75⟩
     show BoxTwo _ _ (if f 6 = true then _ else _) (if f 6 = true then _ else _)
     rw [f6]
     exact BoxTwo.new _ _ _
    ·have f7 : f 7 = false := by
      cases h : f 7
      ·rfl
      ·rw [k75 h] at hf; cases hf
     have hs := hb.size
     go_wp2_with fail
     refine ⟨s6, _, s14, s15, s16, s17, b6, w'.heap.size, rfl, hb.alloc hs _, k0, k1, k2, k3, fun h => ⟨(k4 h).1, (k4 h).2.1, (k4 h).2.2.alloc _⟩, fun _ => ⟨rfl, hs, ?_⟩, fun h _ => Nat.ne_of_lt (k4 h).2.2.lt, k64, fun _ => rfl⟩
     show BoxTwo _ _ (if f 7 = true then _ else _) (if f 7 = true then _ else _)
     rw [f7]
     exact BoxTwo.new _ _ _
    ·have h4 := hd ⟨4, .data⟩ (by simp) rfl
     obtain rfl := k1 (hd ⟨1, .data⟩ (by simp) rfl)
     obtain ⟨rfl, hB6, q6⟩ := k4 h4
     rw [hf] at q6
     obtain ⟨r0, r1, r2, r3⟩ := BoxTwo.facts q6
     go_wp2_with fail
     exact ⟨_, s7, s14, _, s16, s17, b6, b7, rfl, (hb.setCell (by simpa using hB6) _).setCell (by simpa using hB6) _, k0, fun _ => rfl, k2, k3, fun _ => ⟨rfl, hB6, BoxTwo.set q6 _ _⟩, fun h => ⟨(k5 h).1, (k5 h).2.1, ((k5 h).2.2.off (k45 h4 h).symm _).off (k45 h4 h).symm _⟩, k45, fun _ => h4, k75⟩
    ·have h5 := hd ⟨5, .data⟩ (by simp) rfl
     obtain rfl := k3 (hd ⟨3, .data⟩ (by simp) rfl)
     obtain ⟨rfl, hB7, q7⟩ := k5 h5
     rw [hf] at q7
     obtain ⟨r0, r1, r2, r3⟩ := BoxTwo.facts q7
     go_wp2_with fail
     exact ⟨s6, _, s14, s15, s16, _, b6, b7, rfl, (hb.setCell (by simpa using hB7) _).setCell (by simpa using hB7) _, k0, k1, k2, fun _ => rfl, fun h => ⟨(k4 h).1, (k4 h).2.1, ((k4 h).2.2.off (k45 h h5) _).off (k45 h h5) _⟩, fun _ => ⟨rfl, hB7, BoxTwo.set q7 _ _⟩, k45, k64, fun _ => h5⟩
   case hend =>
    rintro f a w' ⟨s6, s7, s14, s15, s16, s17, b6, b7, rfl, hb, k0, k1, k2, k3, k4, k5, k45, _, _⟩ hall1
    simp only [Act.put, List.setIfInBounds_toArray, List.set_cons_succ, List.set_cons_zero]
    obtain rfl := k0 (hall1 0 (by simp))
    obtain rfl := k1 (hall1 1 (by simp))
    obtain rfl := k2 (hall1 2 (by simp))
    obtain rfl := k3 (hall1 3 (by simp))
    obtain ⟨rfl, hB6, q6⟩ := k4 (hall1 4 (by simp))
    obtain ⟨rfl, hB7, q7⟩ := k5 (hall1 5 (by simp))
    rw [if_pos (hall1 6 (by simp)), if_pos (hall1 6 (by simp))] at q6
    rw [if_pos (hall1 7 (by simp)), if_pos (hall1 7 (by simp))] at q7
    clear k0 k1 k2 k3 k4 k5 k45 hall1
    have l6 := q6.lt
    have l7 := q7.lt
    obtain ⟨r0, r1, _, _⟩ := q6.facts
    obtain ⟨r2, r3, _, _⟩ := q7.facts
    have n0 := cell_lt hb m0 (by have := hz0.out; omega)
    have n1 := cell_lt hb m1 (by have := hz0.out; omega)
    have n2 := cell_lt hb m2 (by have := hz0.out; omega)
    have n3 := cell_lt hb m3 (by have := hz0.out; omega)
    have n4 := cell_lt hb m4 (by have := hz0.out; omega)
    have hB1 : Below wr.heap.size wr w' := bthen hb0 hb
    have hz1 : wr.heap.size + 1 ≤ w'.heap.size := by have := hb.size; have := hz0.out; omega
    clear q6 q7 hb hB6 hB7 m0 m1 m2 m3 m4 hb0 hz0 hvi hph p0 p1 p2 p3 p4
    cases hq : (q1 || q2)
    ·obtain ⟨rfl, rfl⟩ : q1 = false ∧ q2 = false := by cases q1 <;> cases q2 <;> simp at hq ⊢
     rw [hq] at hpg
     have hel2 : elemB x = (decide (L1 < 1099511627776) && (decide (L2 < 1099511627776) && decide (1 ≤ x.perm ∧ x.perm ≤ 7 ∧ 0 ≤ x.kind ∧ x.kind ≤ 1))) := by rw [hel.out]; rfl
     clear hel
     replace hel2 := Lib.hid hel2
     clear hq
     go_wp2_with fail
     refine (hpg _).mono ?_; rintro e w2 ⟨rfl, hb2⟩
     have hs2 : w'.heap.size + 1 ≤ w2.heap.size := by have := hb2.size; simpa using this
     replace r0 := cell_lt hb2 (keepA r0) (by simp; omega)
     replace r1 := cell_lt hb2 (keepA r1) (by simp; omega)
     replace r2 := cell_lt hb2 (keepA r2) (by simp; omega)
     replace r3 := cell_lt hb2 (keepA r3) (by simp; omega)
     replace n0 := cell_lt hb2 (keepA n0) (by simp; omega)
     replace n1 := cell_lt hb2 (keepA n1) (by simp; omega)
     replace n2 := cell_lt hb2 (keepA n2) (by simp; omega)
     replace n3 := cell_lt hb2 (keepA n3) (by simp; omega)
     replace n4 := cell_lt hb2 (keepA n4) (by simp; omega)
     have hB2 : Below wr.heap.size wr w2 := bthen (bthen hB1 (bone _ _)) hb2
     clear hb2 hpg
     by_cases hL1 : L1 < 1099511627776
     ·have t1 : ¬ (1099511627776 ≤ L1) := by omega
      go_wp2_with fail
      refine (hl1 _).mono ?_; rintro e w3 ⟨rfl, hb3⟩
      have hs3 := hb3.size
      replace r2 := cell_lt hb3 r2 (by omega)
      replace r3 := cell_lt hb3 r3 (by omega)
      replace n0 := cell_lt hb3 n0 (by omega)
      replace n1 := cell_lt hb3 n1 (by omega)
      replace n2 := cell_lt hb3 n2 (by omega)
      replace n3 := cell_lt hb3 n3 (by omega)
      replace n4 := cell_lt hb3 n4 (by omega)
      have hB3 : Below wr.heap.size wr w3 := bthen hB2 hb3
      clear hb3 hl1 r0 r1
      by_cases hL2 : L2 < 1099511627776
      ·have t2 : ¬ (1099511627776 ≤ L2) := by omega
       go_wp2_with fail
       refine (hl2 _).mono ?_; rintro e w4 ⟨rfl, hb4⟩
       have hs4 := hb4.size
       replace n0 := cell_lt hb4 n0 (by omega)
       replace n1 := cell_lt hb4 n1 (by omega)
       replace n2 := cell_lt hb4 n2 (by omega)
       replace n3 := cell_lt hb4 n3 (by omega)
       replace n4 := cell_lt hb4 n4 (by omega)
       have hB4 : Below wr.heap.size wr w4 := bthen hB3 hb4
       clear hb4 hl2 r2 r3
       have hel3 : elemB x = decide (1 ≤ x.perm ∧ x.perm ≤ 7 ∧ 0 ≤ x.kind ∧ x.kind ≤ 1) := by rw [hel2.out, decide_eq_true hL1, decide_eq_true hL2]; rfl
       by_cases hA : x.ipa < A
       ·have hg := hno.out (by rw [hok.out, decide_eq_true hA]; simp)
        replace hg := Lib.hid hg
        clear hel3
        go_wp2_with fail
        go_ret
        exact ⟨ret_bool hg.out.symm, hB.trans (hB4.mono hz)⟩
       ·by_cases hD : 1 ≤ x.perm ∧ x.perm ≤ 7 ∧ 0 ≤ x.kind ∧ x.kind ≤ 1
        ·have hnew := hall'.out (by rw [hok.out, hel3, decide_eq_true hD, decide_eq_false hA]; rfl)
         replace hnew := Lib.hid hnew
         obtain ⟨g1, g2, g3, g4⟩ := hD
         have v1 : ¬ x.perm < 1 := by omega
         have v2 : ¬ 7 < x.perm := by omega
         have hw : IntKind.u64.wrap (x.ipa + x.sz) = (x.ipa + x.sz) % 18446744073709551616 := IntKind.wrap_u64 _
         clear hel3 g1 g2 hno
         have hkk : x.kind = 0 ∨ x.kind = 1 := by omega
         have hrel : ∀ w5, Below wr.heap.size wr w5 → ∃ k' : Nat, k' ≤ l.length ∧ (Value.int .i64 ((k : Int) + 1)) = .int .i64 k' ∧ (Value.int .u64 ((x.ipa + x.sz) % 18446744073709551616)) = .int .u64 (ahead l k') ∧ (∀ j, j < k' → okM l j = true) ∧ Below w.heap.size w w5 := fun w5 h5 => ⟨k + 1, hlt, by simp, by rw [hah.out], hnew.out, hB.trans (h5.mono hz)⟩
         replace hrel := Lib.hid hrel
         rcases hkk with hkk | hkk
         all_goals
          first | (have e1 : (x.kind != 0) = true := by simp [hkk]; done) | (have e1 : (x.kind != 0) = false := by simp [hkk])
          first | (have e2 : (x.kind != 1) = true := by simp [hkk]; done) | (have e2 : (x.kind != 1) = false := by simp [hkk])
          clear hkk g3 g4
          go_wp2_with fail
          exact ⟨hrel.out _ hB4, by simp [intOf]; omega⟩
        ·have hg := hno.out (by rw [hok.out, hel3, decide_eq_false hD]; rfl)
         replace hg := Lib.hid hg
         clear hel3
         rcases (show x.perm < 1 ∨ (¬ x.perm < 1 ∧ 7 < x.perm) ∨ (¬ x.perm < 1 ∧ ¬ 7 < x.perm ∧ (x.kind != 0) = true ∧ (x.kind != 1) = true) by simp only [bne_iff_ne, ne_eq]; omega) with r1 | ⟨r1, r2⟩ | ⟨r1, r2, r3, r4⟩
         all_goals
          clear hD
          go_wp2_with fail
          go_ret
          exact ⟨ret_bool hg.out.symm, hB.trans (hB4.mono hz)⟩
      ·have t2 : 1099511627776 ≤ L2 := by omega
       have hg := hno.out (by rw [hok.out, hel2.out, decide_eq_false hL2]; simp)
       replace hg := Lib.hid hg
       go_wp2_with fail
       refine (hl2 _).mono ?_; rintro e w4 ⟨rfl, hb4⟩
       go_wp2_with fail
       go_ret
       exact ⟨ret_bool hg.out.symm, hB.trans ((bthen hB3 hb4).mono hz)⟩
     ·have t1 : 1099511627776 ≤ L1 := by omega
      have hg := hno.out (by rw [hok.out, hel2.out, decide_eq_false hL1]; simp)
      replace hg := Lib.hid hg
      go_wp2_with fail
      refine (hl1 _).mono ?_; rintro e w3 ⟨rfl, hb3⟩
      go_wp2_with fail
      go_ret
      exact ⟨ret_bool hg.out.symm, hB.trans ((bthen hB2 hb3).mono hz)⟩
    ·have hg := hno.out (by rw [hok.out, hel.out]; cases q1 <;> cases q2 <;> simp at hq ⊢)
     replace hg := Lib.hid hg
     rw [hq] at hpg
     clear hel hq
     go_wp2_with fail
     refine (hpg _).mono ?_; rintro e w2 ⟨rfl, hb2⟩
     go_wp2_with fail
     go_ret
     exact ⟨ret_bool hg.out.symm, hB.trans ((bthen (bthen hB1 (bone _ _)) hb2).mono hz)⟩
  ·obtain rfl : k = l.length := by omega
   have hg := Lib.hid (goodM_yes hall)
   clear hall
   go_wp2_with fail
   go_ret
   exact ⟨ret_bool hg.out.symm, hB⟩
end Go.Proofs.YtiblhlaemmdphaaGreat
