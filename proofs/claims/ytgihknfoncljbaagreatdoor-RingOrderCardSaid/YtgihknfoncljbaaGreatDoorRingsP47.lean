/- What a ring sends: the walk of Send. -/
import Derived.Test.YtgihknfoncljbaaGreatDoorRingsP39
import Derived.Test.YtgihknfoncljbaaGreatDoorRingsP45
namespace Go.Proofs.YtgihknfoncljbaaGreatDoor
open Go Go.RowKit Go.Shelf Go.BigFrame Go.Maps
attribute [local go_sem] Oper.semAt_some
def stsP (p q g : Int) : PG → List (Int × Int) → PG × Int
 | pg, [] => (pg, 0)
 | pg, c :: m => if (dvG p q pg g 2 c.1 1 c.2).2.1 ≠ 0 then ((dvG p q pg g 2 c.1 1 c.2).1, (dvG p q pg g 2 c.1 1 c.2).2.1) else stsP p q g (dvG p q pg g 2 c.1 1 c.2).1 m
theorem stsP_app (p q g : Int) : ∀ (m m' : List (Int × Int)) (pg : PG), (stsP p q g pg m).2 = 0 → stsP p q g pg (m ++ m') = stsP p q g (stsP p q g pg m).1 m'
 | [], _, _, _ => rfl
 | c :: m, m', pg, h => by
  simp only [List.cons_append, stsP] at h ⊢
  split
  ·rename_i hc
   rw [if_pos hc] at h
   exact absurd h hc
  ·rename_i hc
   rw [if_neg hc] at h
   exact stsP_app p q g m m' _ h
theorem stsP_bad (p q g : Int) : ∀ (m m' : List (Int × Int)) (pg : PG), (stsP p q g pg m).2 ≠ 0 → stsP p q g pg (m ++ m') = stsP p q g pg m
 | [], _, _, h => absurd rfl h
 | c :: m, m', pg, h => by
  simp only [List.cons_append, stsP] at h ⊢
  split
  ·rfl
  ·rename_i hc
   rw [if_neg hc] at h
   exact stsP_bad p q g m m' _ h
theorem stsP_one (p q g : Int) (pg : PG) (c : Int × Int) : stsP p q g pg [c] = ((dvG p q pg g 2 c.1 1 c.2).1, (dvG p q pg g 2 c.1 1 c.2).2.1) := by
 simp only [stsP]
 split
 ·rfl
 ·rename_i h
  rw [Classical.not_not.1 h]
theorem stsP_tab {p q g : Int} : ∀ (m : List (Int × Int)) (pg : PG), Tab2 pg p q → Tab2 (stsP p q g pg m).1 p q
 | [], _, h => h
 | c :: m, pg, h => by
  simp only [stsP]
  split
  ·exact (dvG_tab h (.inl rfl)).1
  ·exact stsP_tab m _ (dvG_tab h (.inl rfl)).1
def plB (base n fr : Int) (M : List Int) (x : Fin M.length) : Int × Int := (plcN base n fr x.val, M[x.val])
def sendZ (base n fr : Int) (M : List Int) : List (Int × Int) := (List.finRange M.length).map (plB base n fr M)
def sendV (p q g base n : Int) (pg : PG) (l : List Int) : PG × Int :=
 if n - 16 - 4 < (l.length : Int) then (pg, 2)
 else if (cntV (ldV p q pg g) base n).2.2 ≠ 0 then (pg, (cntV (ldV p q pg g) base n).2.2)
 else if n - 16 - IntKind.u64.wrap ((cntV (ldV p q pg g) base n).1 - (cntV (ldV p q pg g) base n).2.1) < (l.length : Int) + 4 then (pg, 131)
 else if (stsP p q g pg (sendZ base n (cntV (ldV p q pg g) base n).1 (encR l))).2 ≠ 0 then stsP p q g pg (sendZ base n (cntV (ldV p q pg g) base n).1 (encR l))
 else ((dvG p q (stsP p q g pg (sendZ base n (cntV (ldV p q pg g) base n).1 (encR l))).1 g 2 base 8 (IntKind.u64.wrap ((cntV (ldV p q pg g) base n).1 + ((l.length : Int) + 4)))).1, (dvG p q (stsP p q g pg (sendZ base n (cntV (ldV p q pg g) base n).1 (encR l))).1 g 2 base 8 (IntKind.u64.wrap ((cntV (ldV p q pg g) base n).1 + ((l.length : Int) + 4)))).2.1)
theorem send_nil (v : Value) (w : World) (hv : ∃ a n c, v = .slice a n c) : Calls Tryz.prog 10 #[.pointer none, v] w fun e w' => e = .returned (.int .i64 1) ∧ Below w.heap.size w w' := by
 obtain ⟨a, n, c, rfl⟩ := hv
 have hr := fun W => room_nil W
 go_enter Tryz.func10, Tryz.ntmps10
 go_wp2_with fail
 refine (hr _).mono ?_; rintro e w2 ⟨rfl, rfl⟩
 go_wp2_with fail
 refine bodyPost_ret (v := .int .i64 1) (by simp [results, Tryz.results10, go_sem]) rfl ?_
 exact ⟨rfl, bthen (bone _ _) (bone _ _)⟩
theorem MemP.grown {W W' : World} {mb pb : Nat} {s z : Int} {L : List Pg} {row : Option Nat} {N : Nat} (h : MemP W mb pb s z L) (hN : mb < N ∧ pb < N) (hg : W.grownBy W' row) (hr : ∀ r, row = some r → N ≤ r ∧ ∃ o : Obj, W.heap[r]? = some o ∧ o.isCells = false) : MemP W' mb pb s z L := by
 have hl : ∀ b, b < N → b < W.heap.size → W'.heap[b]? = W.heap[b]? := fun b h1 h2 => hg.block b h2 fun e => by have := (hr b e.symm).1; omega
 refine h.same fun b hb => ?_
 unfold memBlks at hb
 simp only [List.mem_cons] at hb
 rcases hb with rfl | rfl | hb
 ·exact hl _ hN.1 (h.lt _ (by simp [memBlks]))
 ·exact hl _ hN.2 (h.lt _ (by simp [memBlks]))
 ·obtain ⟨p, hp, rfl⟩ := List.mem_map.1 hb
  exact grownBy_keeps_cells hg (fun r e => (hr r e).2) (h.page p hp) rfl
theorem Wrote.grown {w W W' : World} {mb pb B : Nat} {s z : Int} {L L' : List Pg} {tgt : PG} {row : Option Nat} {N : Nat} (h : Wrote w W mb pb s z L L' B tgt) (hB : B ≤ w.heap.size) (hN : mb < N ∧ pb < N ∧ w.heap.size ≤ N) (hg : W.grownBy W' row) (hr : ∀ r, row = some r → N ≤ r ∧ ∃ o : Obj, W.heap[r]? = some o ∧ o.isCells = false) : Wrote w W' mb pb s z L L' B tgt :=
 ⟨h.mem.grown ⟨hN.1, hN.2.1⟩ hg hr, h.ab, ⟨ownFrom_below (β := Unit) (n₀ := B) (B := N) (by omega) (by omega) () W W' row h.off.below hg hr, fun k hk hn => (hg.block k (by have := h.off.below.size; omega) (fun e => by have := (hr k e.symm).1; omega)).trans (h.off.rest k hk hn)⟩, h.blks⟩
theorem Wrote.putObj {w W : World} {mb pb B : Nat} {s z : Int} {L L' : List Pg} {tgt : PG} (h : Wrote w W mb pb s z L L' B tgt) (hB : B ≤ w.heap.size) {N D : Nat} (hN : mb < N ∧ pb < N ∧ w.heap.size ≤ N) (hD : N ≤ D) {o : Obj} (hd : W.heap[D]? = some o) (ho : o.isCells = false) (o' : Obj) : Wrote w (W.putObj D o') mb pb s z L L' B tgt :=
 h.grown hB hN (grownBy_putObj' W D o') fun r e => by cases e; exact ⟨hD, o, hd, ho⟩
theorem GivB.wrote {w w' : World} {mb pb B : Nat} {s z : Int} {L L' : List Pg} {tgt : PG} {v : Value} {l : List Int} (h : GivB w v l) (hw : Wrote w w' mb pb s z L L' B tgt) (ho : l ≠ [] → ∀ b, v.ownBlock = some b → b ∉ memBlks mb pb L) : GivB w' v l := by
 rcases h with h | ⟨a, cap, h1, h4⟩
 ·exact .inl h
 ·refine .inr ⟨a, cap, h1, fun hne => ?_⟩
  obtain ⟨b, off, rfl, h2, h3⟩ := h4 hne
  have hb := hw.off.rest b h2 (ho hne b (by rw [h1]; rfl))
  exact ⟨b, off, rfl, Nat.lt_of_lt_of_le h2 hw.off.below.size, fun i hi => by rw [← h3 i hi]; simp only [World.cell?, hb]⟩
theorem three_boxes (u v x : Value) (tu tv tx : TypeId) (w W : World) (h : W = ((w.alloc (.cells #[u] tu)).alloc (.cells #[v] tv)).alloc (.cells #[x] tx)) :
  W.cell? ⟨w.heap.size, 0, none⟩ = some u ∧ W.cell? ⟨w.heap.size + 1, 0, none⟩ = some v ∧ W.cell? ⟨w.heap.size + 1 + 1, 0, none⟩ = some x ∧ W.heap.size = w.heap.size + 3 ∧ Below w.heap.size w W := by
 obtain ⟨x1, h1⟩ : ∃ x1, x1 = w.alloc (.cells #[u] tu) := ⟨_, rfl⟩
 obtain ⟨x2, h2⟩ : ∃ x2, x2 = x1.alloc (.cells #[v] tv) := ⟨_, rfl⟩
 rw [← h1, ← h2] at h
 have z1 : x1.heap.size = w.heap.size + 1 := by rw [h1]; simp
 have z2 : x2.heap.size = w.heap.size + 1 + 1 := by rw [h2]; simp [z1]
 have d1 : x1.cell? ⟨w.heap.size, 0, none⟩ = some u := by rw [h1]; simp [World.cell?_alloc_new]
 have d2 : x2.cell? ⟨x1.heap.size, 0, none⟩ = some v := by rw [h2]; simp [World.cell?_alloc_new]
 have d3 : W.cell? ⟨x2.heap.size, 0, none⟩ = some x := by rw [h]; simp [World.cell?_alloc_new]
 have e1 := bone w (.cells #[u] tu)
 have e2 := bone x1 (.cells #[v] tv)
 have e3 := bone x2 (.cells #[x] tx)
 rw [← h1] at e1
 rw [← h2] at e2
 rw [← h] at e3
 rw [z1] at d2
 rw [z2] at d3
 exact ⟨cell_lt e3 (cell_lt e2 d1 (by omega)) (by omega), cell_lt e3 d2 (by omega), d3, by rw [h]; simp [z2], bthen (bthen e1 e2) e3⟩
section
variable {w : World} {B mb pb rb gb cap pd qb : Nat} {L : List Pg} {p q g base n : Int}
set_option maxRecDepth 100000 in
set_option maxHeartbeats 4000000 in
theorem send_any (h : RIn w B mb pb rb gb cap pd qb L p q g base n) (hgB : 0 < B) (hp : p = 1 ∨ p = 3) (hq : q = 1 ∨ q = 3) (hn : 32 ≤ n ∧ n ≤ 65536) (hb : 0 ≤ base ∧ base ≤ 1099511627776) (v : Value) (l : List Int) (hv : GivB w v l) (hvo : l ≠ [] → ∀ b, v.ownBlock = some b → b ∉ memBlks mb pb L) (hl : ∀ c ∈ l, 0 ≤ c ∧ c < 256) :
  Calls Tryz.prog 10 #[.pointer (some ⟨qb, 0, none⟩), v] w (RPost w mb pb L B (.int .i64 (sendV p q g base n (L.map Pg.ab) l).2) (sendV p q g base n (L.map Pg.ab) l).1) := by
 have hroom := fun W h => room_any n qb W h hn
 obtain ⟨a, cp, rfl⟩ := hv.open
 have hwn : IntKind.u64.wrap (n - 16) = n - 16 := by rw [IntKind.wrap_u64]; omega
 have hn0 : (n - 16 == 0) = false := by simp; omega
 have hi4 : IntKind.i64.wrap (n - 16 - 4) = n - 16 - 4 := IntWalk.i64_in _ (by omega)
 obtain ⟨W1, hW1⟩ : ∃ W1, W1 = w.alloc (.cells #[.pointer (some ⟨qb, 0, none⟩)] 29) := ⟨_, rfl⟩
 obtain ⟨W2, hW2⟩ : ∃ W2, W2 = W1.alloc (.cells #[.int .i64 0] 36) := ⟨_, rfl⟩
 have hb1 : Below w.heap.size w W1 := by rw [hW1]; exact bone _ _
 have hb2 : Below W1.heap.size W1 W2 := by rw [hW2]; exact bone _ _
 have hb02 : Below w.heap.size w W2 := bthen hb1 hb2
 have z1 : W1.heap.size = w.heap.size + 1 := by rw [hW1]; simp
 have x2 : Boxed W2 w.heap.size 29 (.pointer (some ⟨qb, 0, none⟩)) := by rw [hW2, hW1]; exact (Boxed.new w _ _).alloc _
 have x4 : Boxed W2 (w.heap.size + 1) 36 (.int .i64 0) := by rw [hW2, ← z1]; exact Boxed.new _ _ _
 have h2 := h.later hgB hb02
 have hr2 := hroom W2 h2.cells.2.2.2
 have c2 := Boxed.cell x2
 rw [hW2, hW1] at c2
 by_cases hlong : n - 16 - 4 < (l.length : Int)
 ·have hsv : sendV p q g base n (L.map Pg.ab) l = (L.map Pg.ab, 2) := by unfold sendV; rw [if_pos hlong]
  rw [hsv]
  have c4 := Boxed.cell x4
  have f4 := Boxed.frozen x4
  have hst := (Wrote.stay h.m.mem hb02 h.m.hB).set h.m.hB (show w.heap.size ≤ w.heap.size + 1 by omega) (fun e => by have := h.m.mem.lt _ e; omega) 0 (.int .i64 2)
  clear hsv
  subst hW1
  go_enter Tryz.func10, Tryz.ntmps10
  go_wp2_with fail
  rw [← hW2]
  clear hW2
  refine hr2.mono ?_; rintro e w3 ⟨rfl, rfl⟩
  clear hr2
  go_wp2_with fail
  refine bodyPost_ret (v := .int .i64 2) (by simp [results, Tryz.results10, go_sem, c4]) rfl ?_
  exact ⟨L, rfl, hst⟩
 ·have hct := counts_any h2 hgB hp hq hn hb
  have hcb : (cntV (ldV p q (L.map Pg.ab) g) base n).2.2 = 0 → W64 (cntV (ldV p q (L.map Pg.ab) g) base n).1 ∧ W64 (cntV (ldV p q (L.map Pg.ab) g) base n).2.1 ∧ IntKind.u64.wrap ((cntV (ldV p q (L.map Pg.ab) g) base n).1 - (cntV (ldV p q (L.map Pg.ab) g) base n).2.1) ≤ n - 16 := by
   unfold cntV
   split
   ·intro e; contradiction
   ·split
    ·intro e; contradiction
    ·split
     ·intro e; cases e
     ·rename_i _ _ h3
      intro _
      exact ⟨dvG_w64 h.m.tab.ok g 1 base 8 0 (.inr rfl), dvG_w64 h.m.tab.ok g 1 (base + 8) 8 0 (.inr rfl), Int.not_lt.1 h3⟩
  have hsv : sendV p q g base n (L.map Pg.ab) l = (if (cntV (ldV p q (L.map Pg.ab) g) base n).2.2 ≠ 0 then (L.map Pg.ab, (cntV (ldV p q (L.map Pg.ab) g) base n).2.2)
    else if n - 16 - IntKind.u64.wrap ((cntV (ldV p q (L.map Pg.ab) g) base n).1 - (cntV (ldV p q (L.map Pg.ab) g) base n).2.1) < (l.length : Int) + 4 then (L.map Pg.ab, 131)
    else if (stsP p q g (L.map Pg.ab) (sendZ base n (cntV (ldV p q (L.map Pg.ab) g) base n).1 (encR l))).2 ≠ 0 then stsP p q g (L.map Pg.ab) (sendZ base n (cntV (ldV p q (L.map Pg.ab) g) base n).1 (encR l))
    else ((dvG p q (stsP p q g (L.map Pg.ab) (sendZ base n (cntV (ldV p q (L.map Pg.ab) g) base n).1 (encR l))).1 g 2 base 8 (IntKind.u64.wrap ((cntV (ldV p q (L.map Pg.ab) g) base n).1 + ((l.length : Int) + 4)))).1, (dvG p q (stsP p q g (L.map Pg.ab) (sendZ base n (cntV (ldV p q (L.map Pg.ab) g) base n).1 (encR l))).1 g 2 base 8 (IntKind.u64.wrap ((cntV (ldV p q (L.map Pg.ab) g) base n).1 + ((l.length : Int) + 4)))).2.1)) := by
   unfold sendV; rw [if_neg hlong]
  rw [hsv]
  clear hsv
  generalize cntV (ldV p q (L.map Pg.ab) g) base n = C at *
  obtain ⟨ch, ct, ce⟩ := C
  simp only at hct hcb ⊢
  by_cases he : ce = 0
  ·subst he
   rw [if_neg (by simp)]
   obtain ⟨hch, hcT, hcd⟩ := hcb rfl
   clear hcb
   have hfr := fun W h => framed_any (.slice a l.length cp) l W h hl (by omega)
   by_cases hfull : n - 16 - IntKind.u64.wrap (ch - ct) < (l.length : Int) + 4
   ·rw [if_pos hfull]
    have hlen : (((encR l).length : Nat) : Int) = (l.length : Int) + 4 := by rw [encR_len]; omega
    have hwl : IntKind.u64.wrap (((encR l).length : Nat) : Int) = (l.length : Int) + 4 := by rw [hlen, IntKind.wrap_u64]; omega
    have hcd0 : 0 ≤ IntKind.u64.wrap (ch - ct) := by rw [IntKind.wrap_u64]; omega
    have hwd : IntKind.u64.wrap (n - 16 - IntKind.u64.wrap (ch - ct)) = n - 16 - IntKind.u64.wrap (ch - ct) := by generalize IntKind.u64.wrap (ch - ct) = d at *; rw [IntKind.wrap_u64]; omega
    subst hW1
    go_enter Tryz.func10, Tryz.ntmps10
    go_wp2_with fail
    rw [← hW2]
    clear hW2
    refine hr2.mono ?_; rintro e w3 ⟨rfl, rfl⟩
    clear hr2
    have c2' := Boxed.cell x2
    go_wp2_with fail
    refine hct.mono ?_; rintro e w4 ⟨L4, rfl, hw4⟩
    clear hct
    have hoff : ∀ b, w.heap.size ≤ b → b ∉ memBlks mb pb L := fun b hb' e => by have := h.m.mem.lt _ e; omega
    have x44 : Boxed w4 (w.heap.size + 1) 36 (.int .i64 0) := (hw4.off.rest _ (Boxed.lt x4) (hoff _ (by omega))).trans x4
    have hnL : w.heap.size + 1 ∉ memBlks mb pb L4 := fun e => (hw4.blks _ e).elim (hoff _ (by omega)) fun e => by have := Boxed.lt x4; omega
    have hgw := (hv.later hb02).wrote hw4 hvo
    have hfr4 := hfr w4 hgw
    clear hfr
    go_wp2_with fail
    refine hfr4.mono ?_; rintro e w5 ⟨v5, rfl, hown5, hb5⟩
    obtain ⟨y5, c5, g5, rfl, hcap5, hrow5⟩ := hown5.open
    have x45 := Boxed.below x44 hb5 (Boxed.lt x44)
    have x46 := x45.alloc (.cells #[.slice y5 (encR l).length c5] 33)
    have c4 := Boxed.cell x46
    have f4 := Boxed.frozen x46
    have hst := (((hw4.pre hb02 h.m.hB).late hb5 h.m.hB).late (bone w5 (.cells #[.slice y5 (encR l).length c5] 33)) h.m.hB).set h.m.hB (show w.heap.size ≤ w.heap.size + 1 by omega) hnL 0 (.int .i64 131)
    clear hrow5
    go_wp2_with fail
    refine bodyPost_ret (v := .int .i64 131) (by simp [results, Tryz.results10, go_sem, c4]) rfl ?_
    exact ⟨L4, rfl, hst⟩
   ·rw [if_neg hfull]
    generalize hR : (if (stsP p q g (L.map Pg.ab) (sendZ base n ch (encR l))).2 ≠ 0 then stsP p q g (L.map Pg.ab) (sendZ base n ch (encR l)) else ((dvG p q (stsP p q g (L.map Pg.ab) (sendZ base n ch (encR l))).1 g 2 base 8 (IntKind.u64.wrap (ch + ((l.length : Int) + 4)))).1, (dvG p q (stsP p q g (L.map Pg.ab) (sendZ base n ch (encR l))).1 g 2 base 8 (IntKind.u64.wrap (ch + ((l.length : Int) + 4)))).2.1)) = R
    obtain ⟨tg, er⟩ := R
    replace hR := Lib.hid hR
    simp only
    have hlen : (((encR l).length : Nat) : Int) = (l.length : Int) + 4 := by rw [encR_len]; omega
    have hwl : IntKind.u64.wrap (((encR l).length : Nat) : Int) = (l.length : Int) + 4 := by rw [hlen, IntKind.wrap_u64]; omega
    have hcd0 : 0 ≤ IntKind.u64.wrap (ch - ct) := by rw [IntKind.wrap_u64]; omega
    have hwd : IntKind.u64.wrap (n - 16 - IntKind.u64.wrap (ch - ct)) = n - 16 - IntKind.u64.wrap (ch - ct) := by generalize IntKind.u64.wrap (ch - ct) = d at *; rw [IntKind.wrap_u64]; omega
    have hmb : ∀ c ∈ encR l, 0 ≤ c ∧ c < 256 := fun c hc => by
     unfold encR at hc
     rcases List.mem_append.1 hc with hc | hc
     ·exact len4_byte _ c hc
     ·exact hl c hc
    subst hW1
    refine (callsIn_wide (n := 9)).1 ?_
    refine callsIn_of_wp_marks Tryz.func10 rfl trivial ?_ rfl
    simp only [Tryz.ntmps10, List.size_toArray, List.length_cons, List.length_nil, Nat.reduceAdd, Nat.reduceSub, Array.replicate_succ, Array.replicate_zero, List.push_toArray, List.append_toArray, List.nil_append, List.cons_append]
    gi_wp2
    rw [← hW2]
    clear hW2
    refine ⟨trivial, ?_⟩
    refine (callsIn_wide.2 hr2).mono ?_; rintro e w3 ⟨rfl, rfl⟩
    clear hr2
    have c2' := Boxed.cell x2
    gi_wp2
    refine ⟨trivial, ?_⟩
    refine (callsIn_wide.2 hct).mono ?_; rintro e w4 ⟨L4, rfl, hw4⟩
    clear hct
    have hoff : ∀ b, w.heap.size ≤ b → b ∉ memBlks mb pb L := fun b hb' e => by have := h.m.mem.lt _ e; omega
    have h4 := h2.wrote hgB hw4 h.m.tab
    have x44 : Boxed w4 (w.heap.size + 1) 36 (.int .i64 0) := (hw4.off.rest _ (Boxed.lt x4) (hoff _ (by omega))).trans x4
    have x24 : Boxed w4 w.heap.size 29 (.pointer (some ⟨qb, 0, none⟩)) := (hw4.off.rest _ (Boxed.lt x2) (hoff _ (Nat.le_refl _))).trans x2
    have hnL : ∀ b, w.heap.size ≤ b → b < W2.heap.size → b ∉ memBlks mb pb L4 := fun b h1 h2 e => (hw4.blks _ e).elim (hoff _ h1) fun e => by omega
    have hgw := (hv.later hb02).wrote hw4 hvo
    have hfr4 := hfr w4 hgw
    clear hfr
    gi_wp2
    refine ⟨trivial, ?_⟩
    refine (callsIn_wide.2 hfr4).mono ?_; rintro e w5 ⟨v5, rfl, hown5, hb5⟩
    clear hfr4
    obtain ⟨y5, c5, g5, rfl, hcap5, hrow5⟩ := hown5.open
    obtain ⟨W6, hW6⟩ : ∃ W6, W6 = w5.alloc (.cells #[.slice y5 (encR l).length c5] 33) := ⟨_, rfl⟩
    have hb6 : Below w5.heap.size w5 W6 := by rw [hW6]; exact bone _ _
    have x9 : Boxed W6 w5.heap.size 33 (.slice y5 (encR l).length c5) := by rw [hW6]; exact Boxed.new _ _ _
    have x26 := Boxed.below (Boxed.below x24 hb5 (Boxed.lt x24)) hb6 (Boxed.lt (Boxed.below x24 hb5 (Boxed.lt x24)))
    have k2 := Boxed.cell x26
    have k9 := Boxed.cell x9
    replace hW6 := Lib.hid hW6
    have hpi := fun N => places_in 8 (.pointer (some ⟨qb, 0, none⟩)) ch N W6 ⟨_, rfl⟩
    rw [hW6.out] at k2 k9
    clear c2 c2'
    gi_wp2
    rw [← hW6.out]
    refine ⟨trivial, ?_⟩
    rw [← hlen]
    refine (hpi _).mono ?_; rintro e W7 ⟨rfl, hW7⟩
    clear hpi
    rw [← hlen] at hwl
    generalize hM : encR l = M at *
    replace hM := Lib.hid hM
    have hMne : M ≠ [] := by rintro rfl; simp at hlen; omega
    obtain ⟨rfl, hg5a, hg5b, hrowM⟩ := hrow5 hMne
    clear hrow5 hMne
    have hz2 := hb02.size
    have hz4 := hw4.off.below.size
    have hz5 := hb5.size
    have hz6 : W6.heap.size = w5.heap.size + 1 := by rw [hW6.out]; simp
    obtain ⟨q7, f7, m7, hz7, hb7⟩ : W7.cell? ⟨W6.heap.size, 0, none⟩ = some (.pointer (some ⟨qb, 0, none⟩)) ∧ W7.cell? ⟨W6.heap.size + 1, 0, none⟩ = some (.int .u64 ch) ∧ W7.cell? ⟨W6.heap.size + 1 + 1, 0, none⟩ = some (.int .i64 M.length) ∧ W7.heap.size = W6.heap.size + 3 ∧ Below W6.heap.size W6 W7 := three_boxes _ _ _ _ _ _ W6 W7 hW7
    clear hW7
    have hb47 : Below w4.heap.size w4 W7 := bthen (bthen hb5 hb6) hb7
    have hw7 : Wrote w W7 mb pb 1073741824 1048576 L L4 B (L.map Pg.ab) := (hw4.pre hb02 h.m.hB).late hb47 h.m.hB
    have h7 := h4.later hgB hb47
    have hz47 := hb47.size
    have x27 := Boxed.below x26 hb7 (Boxed.lt x26)
    have x97 := Boxed.below x9 hb7 (Boxed.lt x9)
    have x47 := Boxed.below (Boxed.below (Boxed.below x44 hb5 (Boxed.lt x44)) hb6 (Boxed.lt (Boxed.below x44 hb5 (Boxed.lt x44)))) hb7 (Boxed.lt (Boxed.below (Boxed.below x44 hb5 (Boxed.lt x44)) hb6 (Boxed.lt (Boxed.below x44 hb5 (Boxed.lt x44)))))
    have hl4 := h4.m.mem.lt
    have hn2 := hnL w.heap.size (Nat.le_refl _) (Boxed.lt x2)
    have hn4 := hnL (w.heap.size + 1) (by omega) (Boxed.lt x4)
    have hrow7 : ∀ i (hi : i < M.length), W7.cell? ⟨g5, 0 + i, none⟩ = some (.int .u8 M[i]) := fun i hi => cell_lt (bthen hb6 hb7) (hrowM i hi) hg5b
    have hmbz := h.m.mem.lt mb (by simp [memBlks])
    have hpbz := h.m.mem.lt pb (by simp [memBlks])
    have hN7 : mb < W7.heap.size ∧ pb < W7.heap.size ∧ W7.heap.size ≤ W7.heap.size := ⟨by omega, by omega, by omega⟩
    have hz57 : w5.heap.size < W7.heap.size := by omega
    have hz67 : W6.heap.size + 2 < W7.heap.size := by omega
    have hzw7 : w.heap.size ≤ W7.heap.size := by omega
    have hqz4 := h4.ql
    have hqo4 := h4.qo
    clear hz7
    replace hz6 := Lib.hid hz6
    gi_wp2
    refine wpIn_rangeFunc_ownH rfl (by decide) (gf := 54) (lb := #[.pointer (some ⟨W6.heap.size + 1 + 1, 0, none⟩), .pointer (some ⟨W6.heap.size + 1, 0, none⟩), .pointer (some ⟨W6.heap.size, 0, none⟩)]) rfl trivial (enters_of Tryz.func54 (by kernel_rfl) rfl)
     (places_stops _ (W6.heap.size + 1 + 1) (W6.heap.size + 1) W6.heap.size qb W7 (by decide) base n ch M.length hn hb hch (by omega) m7 f7 q7 h7.cells.2.2.1 h7.cells.2.2.2) KeepsL.trans (KeepsL.put (by simp; have := h7.ql; omega)) (Below.refl _ _) (fun _ => rfl)
     (fun pre W => (∃ L', Wrote W7 W mb pb 1073741824 1048576 L4 L' B (stsP p q g (L.map Pg.ab) (pre.map (plB base n ch M))).1) ∧ (stsP p q g (L.map Pg.ab) (pre.map (plB base n ch M))).2 = 0)
     (fun c pre W => c = .ret ∧ (stsP p q g (L.map Pg.ab) (pre.map (plB base n ch M))).2 ≠ 0 ∧ (∃ L', Wrote w W mb pb 1073741824 1048576 L L' B (stsP p q g (L.map Pg.ab) (pre.map (plB base n ch M))).1) ∧ Boxed W (w.heap.size + 1) 36 (.int .i64 (stsP p q g (L.map Pg.ab) (pre.map (plB base n ch M))).2))
     (fun pre W W' row hs hg hr => ⟨hs.1.imp fun L' hw => hw.grown h7.m.hB hN7 hg hr, hs.2⟩)
     (fun c pre W W' row hs hg hr => ⟨hs.1, hs.2.1, hs.2.2.1.imp fun L' hw => hw.grown h.m.hB ⟨hN7.1, hN7.2.1, hzw7⟩ hg hr, Boxed.keptOff hs.2.2.2 hg fun r e => (hr r e).2⟩)
     ⟨⟨L4, hw4.ab ▸ Wrote.stay h7.m.mem (Below.refl _ _) h7.m.hB⟩, rfl⟩
     (fun x a' W => ∃ (u1 u3 u5 u7 u8 u12 u13 u14 u15 u16 u17 u18 u19 u20 u21 u22 u23 u24 u25 u26 u27 u28 u29 u30 u31 u32 u33 u34 u35 u36 u37 u38 u39 u40 u41 u42 u43 u44 u45 u46 u47 u48 u49 u50 u51 u52 u53 u54 u55 u56 u57 u58 u59 u60 u61 u62 u63 u64 u65 u66 u67 u68 u69 u70 u71 : Value), a' = { tmps := List.toArray (.pointer (some ⟨qb, 0, none⟩) :: u1 :: .pointer (some ⟨w.heap.size, 0, none⟩) :: u3 :: .pointer (some ⟨w.heap.size + 1, 0, none⟩) :: u5 :: .int .u64 ch :: u7 :: u8 :: .pointer (some ⟨w5.heap.size, 0, none⟩) :: .int .i64 (x.val : Nat) :: .int .u64 (plcN base n ch x.val) :: u12 :: u13 :: u14 :: u15 :: u16 :: u17 :: u18 :: u19 :: u20 :: u21 :: u22 :: u23 :: u24 :: u25 :: u26 :: u27 :: u28 :: u29 :: u30 :: u31 :: u32 :: u33 :: u34 :: u35 :: u36 :: u37 :: u38 :: u39 :: u40 :: u41 :: u42 :: u43 :: u44 :: u45 :: u46 :: u47 :: u48 :: u49 :: u50 :: u51 :: u52 :: u53 :: u54 :: u55 :: u56 :: u57 :: u58 :: u59 :: u60 :: u61 :: u62 :: u63 :: u64 :: u65 :: u66 :: u67 :: u68 :: u69 :: u70 :: u71 :: []), defers := [] })
     (fun x a' _ X Y row hs hg hr => hs)
     ?assign ?body ?done ?stop
    case assign =>
     rintro l1 pre x W K hI hK
     gi_wp2
     exact hK _ _ ((KeepsOthers.refl _).from _) (KeepsL.refl _ _) hI ⟨_, _, _, _, _, _, _, _, _, _, _, _, _, _, _, _, _, _, _, _, _, _, _, _, _, _, _, _, _, _, _, _, _, _, _, _, _, _, _, _, _, _, _, _, _, _, _, _, _, _, _, _, _, _, _, _, _, _, _, _, _, _, _, _, _, rfl⟩
    case body =>
     rintro l1 pre x a' W hl1 ⟨r, hr⟩ ⟨⟨L', hW⟩, h0⟩ ⟨u1, u3, u5, u7, u8, u12, u13, u14, u15, u16, u17, u18, u19, u20, u21, u22, u23, u24, u25, u26, u27, u28, u29, u30, u31, u32, u33, u34, u35, u36, u37, u38, u39, u40, u41, u42, u43, u44, u45, u46, u47, u48, u49, u50, u51, u52, u53, u54, u55, u56, u57, u58, u59, u60, u61, u62, u63, u64, u65, u66, u67, u68, u69, u70, u71, rfl⟩ hlt
     have htb := stsP_tab (p := p) (q := q) (g := g) (pre.map (plB base n ch M)) (L.map Pg.ab) h.m.tab
     have hI := h7.wrote hgB hW htb
     have hap := stsP_app p q g (pre.map (plB base n ch M)) [plB base n ch M x] (L.map Pg.ab) h0
     rw [stsP_one] at hap
     have hmp : (pre ++ [x]).map (plB base n ch M) = pre.map (plB base n ch M) ++ [plB base n ch M x] := by simp
     rw [← hmp] at hap
     have hpb := plcN_bd (fr := ch) hb hn x.val
     have hcb := hmb _ (List.getElem_mem x.isLt)
     have hsto := fun (X : World) (hX : RIn X B mb pb rb gb cap pd qb L' p q g base n) => store_any hX hgB hp hq (plcN base n ch x.val) 1 M[x.val] (.inl rfl) (by unfold W64; omega) (by unfold W64; omega)
     rw [hW.ab] at hsto
     have hd := dvG_tab (p := p) (q := q) htb (g := g) (k := 2) (ipa := plcN base n ch x.val) (size := 1) (x := M[x.val]) (.inl rfl)
     change stsP p q g (L.map Pg.ab) ((pre ++ [x]).map (plB base n ch M)) = ((dvG p q (stsP p q g (L.map Pg.ab) (pre.map (plB base n ch M))).1 g 2 (plcN base n ch x.val) 1 M[x.val]).1, (dvG p q (stsP p q g (L.map Pg.ab) (pre.map (plB base n ch M))).1 g 2 (plcN base n ch x.val) 1 M[x.val]).2.1) at hap
     generalize dvG p q (stsP p q g (L.map Pg.ab) (pre.map (plB base n ch M))).1 g 2 (plcN base n ch x.val) 1 M[x.val] = dv at *
     obtain ⟨tgt, ev, wv⟩ := dv
     simp only at hsto hap hd
     have hz7W := hW.off.below.size
     have hkp : ∀ b, b < W7.heap.size → b ∉ memBlks mb pb L4 → W.heap[b]? = W7.heap[b]? := hW.off.rest
     have hge4 : ∀ b, w4.heap.size ≤ b → b ∉ memBlks mb pb L4 := fun b h1 e => by have := hl4 b e; omega
     have k2W : W.cell? ⟨w.heap.size, 0, none⟩ = some (.pointer (some ⟨qb, 0, none⟩)) := Boxed.cell ((hkp _ (Boxed.lt x27) hn2).trans x27)
     have k9W : W.cell? ⟨w5.heap.size, 0, none⟩ = some (.slice (some ⟨g5, 0, none⟩) M.length c5) := Boxed.cell ((hkp _ (Boxed.lt x97) (hge4 _ (by omega))).trans x97)
     have mW : W.cell? ⟨g5, x.val, none⟩ = some (.int .u8 M[x.val]) := by
      have := hrow7 x.val x.isLt
      rw [Nat.zero_add] at this
      rw [← this]
      simp only [World.cell?, hkp g5 (by omega) (hge4 _ hg5a)]
     have x4W : Boxed W (w.heap.size + 1) 36 (.int .i64 0) := (hkp _ (Boxed.lt x47) hn4).trans x47
     have hwm : IntKind.u64.wrap M[x.val] = M[x.val] := by rw [IntKind.wrap_u64]; omega
     have hxl : ((x.val : Nat) : Int) < (M.length : Int) := by have := x.isLt; omega
     have hxn : ((x.val : Nat) : Int).toNat = x.val := by omega
     generalize M[x.val] = c at *
     generalize plcN base n ch x.val = pl at *
     generalize x.val = xi at *
     have hcond : ev = 0 ∨ ev ≠ 0 := Classical.em _
     replace hap := Lib.hid hap
     have hcells : ∀ k, W7.heap.size ≤ k → ∀ o : Obj, W.heap[k]? = some o → o.isCells = false → k ∉ memBlks mb pb L' := fun k h1 o h2 h3 e => by
      unfold memBlks at e
      simp only [List.mem_cons] at e
      rcases e with rfl | rfl | e
      ·omega
      ·omega
      ·obtain ⟨pp, hpp, rfl⟩ := List.mem_map.1 e
       rw [hW.mem.page pp hpp] at h2
       cases h2
       cases h3
     have hnew : ∀ b, b < W7.heap.size → b ∉ memBlks mb pb L4 → b ∉ memBlks mb pb L' := fun b h1 h2 e => (hW.blks b e).elim h2 fun e => by omega
     replace hcells := Lib.hid hcells
     replace hnew := Lib.hid hnew
     gi_wp2
     refine region_ord_in (fun z => ∃ X : HeldF (fun b => b = w.heap.size ∨ b = w5.heap.size ∨ b = g5) W, z = X.x) [([0, 1, 2, 3, 4, 5, 6], 7)] [8] (fun _ => trivial) (by kernel_rfl) (by kernel_rfl) (by kernel_rfl) (by kernel_rfl) (by kernel_rfl) ⟨⟨W.drew, fun _ _ => rfl⟩, rfl⟩ ?_
     simp only [List.map_cons, List.map_nil, List.filterMap_cons, List.filterMap_nil, List.getElem?_cons_succ, List.getElem?_cons_zero]
     have hcc : ∀ {b o : Nat} {v : Value}, (b = w.heap.size ∨ b = w5.heap.size ∨ b = g5) → W.cell? ⟨b, o, none⟩ = some v → ∀ X : HeldF (fun b => b = w.heap.size ∨ b = w5.heap.size ∨ b = g5) W, X.x.cell? ⟨b, o, none⟩ = some v := fun hb' hc X => by rw [← hc]; simp only [World.cell?]; rw [X.h _ hb']
     have y0 := hcc (.inl rfl) k2W
     have y1 := hcc (.inr (.inl rfl)) k9W
     have y2 := hcc (.inr (.inr rfl)) mW
     have hbD : Below W.heap.size W W.drew := (Below.refl _ _).drew
     have hD := hI.later hgB hbD
     have hkD : ∀ b : Nat, W.drew.heap[b]? = W.heap[b]? := fun _ => rfl
     have hzD : W.drew.heap.size = W.heap.size := rfl
     clear hcc
     generalize W.drew = X0 at *
     refine ord_step_in ?_
     repeat (change wpQuiet _ _ _ _ (List.cons _ _) _; go_big_quiet_step (fail))
     refine wpQuiet_nil ?_
     intro Q₁ hQ₁
     simp only [Option.toList]
     gi_wp2
     refine ⟨trivial, ?_⟩
     refine (CallsIn.inRound l1 (callsIn_wide.2 (hsto X0 hD))).mono ?_; rintro e X1 ⟨L2, rfl, hw⟩
     clear hsto
     have hrest : ∀ k : Nat, k < W.heap.size → k ∉ memBlks mb pb L' → X1.heap[k]? = W.heap[k]? := fun k h1 h2 => (hw.off.rest k (by omega) h2).trans (hkD k)
     have hnw : ∀ k, k < W7.heap.size → k ∉ memBlks mb pb L4 → X1.heap[k]? = W.heap[k]? := fun k h1 h2 => hrest k (by omega) (hnew.out k h1 h2)
     have hW1 := hW.trans ((hw.pre hbD hI.m.hB))
     have hsz1 := hw.off.below.size
     gi_wp2
     refine hQ₁ _ _ ⟨⟨X1, fun b hb' => ?_⟩, rfl⟩ ?_
     ·rcases hb' with rfl | rfl | rfl
      ·exact hnw _ (Boxed.lt x27) hn2
      ·exact hnw _ (Boxed.lt x97) (hge4 _ (by omega))
      ·exact hnw _ (by omega) (hge4 _ hg5a)
     clear hQ₁ Q₁
     refine ord_last_in ?_
     repeat (change wpQuiet _ _ _ _ (List.cons _ _) _; go_big_quiet_step (fail))
     refine wpQuiet_nil ?_
     clear y0 y1 y2
     have hkf : KeepsFrom W7.heap.size W X1 := ⟨by omega, fun k o h1 h2 h3 => (hrest k (Array.getElem?_eq_some_iff.1 h2).1 (hcells.out k h1 o h2 h3)).trans h2⟩
     rcases hcond with rfl | hev
     ·gi_wp2
      refine ⟨hkf, ⟨by omega, fun b hb' => hnw b ?_ ?_⟩, ⟨L2, by rw [hap.out]; exact hW1⟩, by rw [hap.out]⟩
      ·simp only [List.mem_cons, List.mem_nil_iff, or_false] at hb'
       rcases hb' with rfl | rfl | rfl | rfl <;> omega
      ·simp only [List.mem_cons, List.mem_nil_iff, or_false] at hb'
       have hz6o := hz6.out
       rcases hb' with rfl | rfl | rfl | rfl
       ·exact hge4 _ (by omega)
       ·exact hge4 _ (by omega)
       ·exact hge4 _ (by omega)
       ·exact hqo4
     ·have he1 : (ev != 0) = true := by simpa using hev
      have x4X : Boxed X1 (w.heap.size + 1) 36 (.int .i64 0) := (hnw _ (Boxed.lt x47) hn4).trans x4W
      have c4 := Boxed.cell x4X
      have f4 := Boxed.frozen x4X
      have hnL2 : w.heap.size + 1 ∉ memBlks mb pb L2 := fun e => (hW1.blks _ e).elim hn4 fun e => by have := Boxed.lt x47; omega
      have hWE := (hw7.trans hW1).set h.m.hB (show w.heap.size ≤ w.heap.size + 1 by omega) hnL2 0 (.int .i64 ev)
      replace hev := Lib.hid hev
      gi_wp2
      exact ⟨hkf.trans ((KeepsOthers.setCell _ _ _).from _), rfl, by rw [hap.out]; exact hev.out, ⟨L2, by rw [hap.out]; exact hWE⟩, by rw [hap.out]; exact Boxed.set _ x4X⟩
    case done =>
     rintro D ys W hD rfl ⟨⟨L', hW⟩, h0⟩ hK
     have htb := stsP_tab (p := p) (q := q) (g := g) ((List.finRange M.length).map (plB base n ch M)) (L.map Pg.ab) h.m.tab
     have hI := h7.wrote hgB hW htb
     have hz7W := hW.off.below.size
     have hkp : ∀ b, b < W7.heap.size → b ∉ memBlks mb pb L4 → W.heap[b]? = W7.heap[b]? := hW.off.rest
     have hge4 : ∀ b, w4.heap.size ≤ b → b ∉ memBlks mb pb L4 := fun b h1 e => by have := hl4 b e; omega
     have k2W : W.cell? ⟨w.heap.size, 0, none⟩ = some (.pointer (some ⟨qb, 0, none⟩)) := Boxed.cell ((hkp _ (Boxed.lt x27) hn2).trans x27)
     have k9W : W.cell? ⟨w5.heap.size, 0, none⟩ = some (.slice (some ⟨g5, 0, none⟩) M.length c5) := Boxed.cell ((hkp _ (Boxed.lt x97) (hge4 _ (by omega))).trans x97)
     have kqW := hI.cells.2.2.1
     have x4W : Boxed W (w.heap.size + 1) 36 (.int .i64 0) := (hkp _ (Boxed.lt x47) hn4).trans x47
     have hnew : ∀ b, b < W7.heap.size → b ∉ memBlks mb pb L4 → b ∉ memBlks mb pb L' := fun b h1 h2 e => (hW.blks b e).elim h2 fun e => by omega
     have hwh : W64 (IntKind.u64.wrap (ch + ((l.length : Int) + 4))) := by unfold W64; rw [IntKind.wrap_u64]; omega
     have hsto := fun (X : World) (hX : RIn X B mb pb rb gb cap pd qb L' p q g base n) => store_any hX hgB hp hq base 8 (IntKind.u64.wrap (ch + ((l.length : Int) + 4))) (.inr rfl) (by unfold W64; omega) hwh
     rw [hW.ab] at hsto
     have hRo := hR.out
     rw [show sendZ base n ch M = (List.finRange M.length).map (plB base n ch M) from rfl] at hRo
     rw [if_neg (by rw [h0]; simp)] at hRo
     generalize dvG p q (stsP p q g (L.map Pg.ab) ((List.finRange M.length).map (plB base n ch M))).1 g 2 base 8 (IntKind.u64.wrap (ch + ((l.length : Int) + 4))) = dv at *
     obtain ⟨t2, e2, v2⟩ := dv
     simp only [Prod.mk.injEq] at hRo
     obtain ⟨rfl, rfl⟩ := hRo
     simp only at hsto
     replace hnew := Lib.hid hnew
     gi_wp2
     refine region_ord_in (fun z => ∃ X : HeldF (fun b => b = w.heap.size ∨ b = w5.heap.size ∨ b = qb) W, z = X.x) [([0, 1, 2, 3, 4, 5, 6, 7, 8, 9], 10), ([], 11)] [] (fun _ => trivial) (by kernel_rfl) (by kernel_rfl) (by kernel_rfl) (by kernel_rfl) (by kernel_rfl) ⟨⟨W.drew, fun _ _ => rfl⟩, rfl⟩ ?_
     simp only [List.map_cons, List.map_nil, List.filterMap_cons, List.filterMap_nil, List.getElem?_cons_succ, List.getElem?_cons_zero]
     have hcc : ∀ {b o : Nat} {v : Value}, (b = w.heap.size ∨ b = w5.heap.size ∨ b = qb) → W.cell? ⟨b, o, none⟩ = some v → ∀ X : HeldF (fun b => b = w.heap.size ∨ b = w5.heap.size ∨ b = qb) W, X.x.cell? ⟨b, o, none⟩ = some v := fun hb' hc X => by rw [← hc]; simp only [World.cell?]; rw [X.h _ hb']
     have y0 := hcc (.inl rfl) k2W
     have y1 := hcc (.inr (.inl rfl)) k9W
     have y2 := hcc (.inr (.inr rfl)) kqW
     have hbD : Below W.heap.size W W.drew := (Below.refl _ _).drew
     have hD' := hI.later hgB hbD
     have hkD : ∀ b : Nat, W.drew.heap[b]? = W.heap[b]? := fun _ => rfl
     have hzD : W.drew.heap.size = W.heap.size := rfl
     clear hcc
     generalize W.drew = X0 at *
     refine ord_step_in ?_
     repeat (change wpQuiet _ _ _ _ (List.cons _ _) _; go_big_quiet_step (fail))
     refine wpQuiet_nil ?_
     intro Q₁ hQ₁
     simp only [Option.toList]
     gi_wp2
     refine ⟨trivial, ?_⟩
     refine (callsIn_wide.2 (hsto X0 hD')).mono ?_; rintro e X1 ⟨L2, rfl, hw⟩
     clear hsto
     have hrest : ∀ k : Nat, k < W.heap.size → k ∉ memBlks mb pb L' → X1.heap[k]? = W.heap[k]? := fun k h1 h2 => (hw.off.rest k (by omega) h2).trans (hkD k)
     have hnw : ∀ k, k < W7.heap.size → k ∉ memBlks mb pb L4 → X1.heap[k]? = W.heap[k]? := fun k h1 h2 => hrest k (by omega) (hnew.out k h1 h2)
     have hW1 := hW.trans ((hw.pre hbD hI.m.hB))
     have hsz1 := hw.off.below.size
     gi_wp2
     refine hQ₁ _ _ ⟨⟨X1, fun b hb' => ?_⟩, rfl⟩ ?_
     ·rcases hb' with rfl | rfl | rfl
      ·exact hnw _ (Boxed.lt x27) hn2
      ·exact hnw _ (Boxed.lt x97) (hge4 _ (by omega))
      ·exact hnw _ (by omega) hqo4
     clear hQ₁ Q₁
     refine ord_step_in ?_
     refine wpQuiet_nil ?_
     intro Q₁ hQ₁
     simp only [Option.toList]
     have x4X : Boxed X1 (w.heap.size + 1) 36 (.int .i64 0) := (hnw _ (Boxed.lt x47) hn4).trans x4W
     have c4 := Boxed.cell x4X
     have f4 := Boxed.frozen x4X
     have hnL2 : w.heap.size + 1 ∉ memBlks mb pb L2 := fun e => (hW1.blks _ e).elim hn4 fun e => by have := Boxed.lt x47; omega
     have hWE := (hw7.trans hW1).set h.m.hB (show w.heap.size ≤ w.heap.size + 1 by omega) hnL2 0 (.int .i64 e2)
     have hDe : ∀ o : Obj, W.heap[D]? = some o → o.isCells = false → X1.heap[D]? = some o := fun o h1 h2 => by
      refine (hrest D (Array.getElem?_eq_some_iff.1 h1).1 fun e => ?_).trans h1
      unfold memBlks at e
      simp only [List.mem_cons] at e
      rcases e with rfl | rfl | e
      ·omega
      ·omega
      ·obtain ⟨pp, hpp, rfl⟩ := List.mem_map.1 e
       rw [hW.mem.page pp hpp] at h1
       cases h1
       cases h2
     have hK1 := hDe _ hK rfl
     clear hDe
     have hnq : ∀ b, b = w.heap.size ∨ b = w5.heap.size ∨ b = qb → b ≠ w.heap.size + 1 := fun b hb' => by have := h.ql; have := Boxed.lt x4; rcases hb' with rfl | rfl | rfl <;> omega
     have hSx : ∀ b, b = w.heap.size ∨ b = w5.heap.size ∨ b = qb → (X1.setCell ⟨w.heap.size + 1, 0, none⟩ (.int .i64 e2)).heap[b]? = W.heap[b]? := fun b hb' => by
      rw [Below.heap_setCell _ _ _ _ (by simpa using hnq b hb')]
      rcases hb' with rfl | rfl | rfl
      ·exact hnw _ (Boxed.lt x27) hn2
      ·exact hnw _ (Boxed.lt x97) (hge4 _ (by omega))
      ·exact hnw _ (by omega) hqo4
     gi_wp2
     refine hQ₁ _ _ ⟨⟨_, hSx⟩, rfl⟩ ?_
     clear hQ₁ Q₁
     refine ord_last_in ?_
     refine wpQuiet_nil ?_
     gi_wp2
     exact leaves_marksJ (N := W7.heap.size) (J := fun W => Boxed W (w.heap.size + 1) 36 (.int .i64 e2) ∧ ∃ L', Wrote w W mb pb 1073741824 1048576 L L' B t2) (fun W D o' hD hd hJ => ⟨Boxed.keptOff hJ.1 (grownBy_putObj' W D o') fun r e => by cases e; exact ⟨_, hd, rfl⟩, hJ.2.imp fun L' hw => hw.putObj h.m.hB ⟨hN7.1, hN7.2.1, hzw7⟩ hD hd rfl o'⟩) (fun W' hW => by
       obtain ⟨q6, L', q7⟩ := hW
       have r6 := Boxed.cell q6
       exact ⟨.int .i64 e2, by simp [results, Tryz.results10, go_sem, r6], L', rfl, q7⟩) _ (X1.setCell ⟨w.heap.size + 1, 0, none⟩ (.int .i64 e2)).heap.size _ ⟨D, rfl, by omega, by rw [World.size_setCell]; exact (Array.getElem?_eq_some_iff.1 hK1).1, (Below.heap_setCell _ _ _ _ (by simp; omega)).trans hK1, trivial⟩ ⟨Boxed.set _ x4X, L2, hWE⟩
    case stop =>
     rintro D c pre W hD ⟨t, ht⟩ ⟨rfl, hne, ⟨L', hW⟩, hbx⟩ hf
     have hbad := stsP_bad p q g (pre.map (plB base n ch M)) (t.map (plB base n ch M)) (L.map Pg.ab) hne
     rw [← List.map_append, ← ht] at hbad
     have hRo := hR.out
     rw [show sendZ base n ch M = (List.finRange M.length).map (plB base n ch M) from rfl, hbad, if_pos hne] at hRo
     rw [hRo] at hW hbx
     simp only at hW hbx
     gi_wp2
     exact leaves_marksJ (N := W7.heap.size) (J := fun W => Boxed W (w.heap.size + 1) 36 (.int .i64 er) ∧ ∃ L', Wrote w W mb pb 1073741824 1048576 L L' B tg) (fun W D o' hD hd hJ => ⟨Boxed.keptOff hJ.1 (grownBy_putObj' W D o') fun r e => by cases e; exact ⟨_, hd, rfl⟩, hJ.2.imp fun L' hw => hw.putObj h.m.hB ⟨hN7.1, hN7.2.1, hzw7⟩ hD hd rfl o'⟩) (fun W' hW => by
      obtain ⟨q6, L', q7⟩ := hW
      have r6 := Boxed.cell q6
      exact ⟨.int .i64 er, by simp [results, Tryz.results10, go_sem, r6], L', rfl, q7⟩) _ W.heap.size _ ⟨D, rfl, by omega, (Array.getElem?_eq_some_iff.1 hf).1, hf, trivial⟩ ⟨hbx, L', hW⟩
  ·rw [if_pos he]
   have he0 : (ce != 0) = true := by simpa using he
   clear hcb
   subst hW1
   go_enter Tryz.func10, Tryz.ntmps10
   go_wp2_with fail
   rw [← hW2]
   clear hW2
   refine hr2.mono ?_; rintro e w3 ⟨rfl, rfl⟩
   clear hr2
   have c2' := Boxed.cell x2
   go_wp2_with fail
   refine hct.mono ?_; rintro e w4 ⟨L4, rfl, hw4⟩
   clear hct
   have hoff : ∀ b, w.heap.size ≤ b → b ∉ memBlks mb pb L := fun b hb' e => by have := h.m.mem.lt _ e; omega
   have x44 : Boxed w4 (w.heap.size + 1) 36 (.int .i64 0) := (hw4.off.rest _ (Boxed.lt x4) (hoff _ (by omega))).trans x4
   have c4 := Boxed.cell x44
   have f4 := Boxed.frozen x44
   have hnL : w.heap.size + 1 ∉ memBlks mb pb L4 := fun e => (hw4.blks _ e).elim (hoff _ (by omega)) fun e => by have := Boxed.lt x4; omega
   have hst := (hw4.pre hb02 h.m.hB).set h.m.hB (show w.heap.size ≤ w.heap.size + 1 by omega) hnL 0 (.int .i64 ce)
   go_wp2_with fail
   refine bodyPost_ret (v := .int .i64 ce) (by simp [results, Tryz.results10, go_sem, c4]) rfl ?_
   exact ⟨L4, rfl, hst⟩
end
end Go.Proofs.YtgihknfoncljbaaGreatDoor
/- The bytes of a room that are read. -/
namespace Go.Proofs.YtgihknfoncljbaaGreatDoor
open Go Go.RowKit Go.Shelf Go.BigFrame Go.Maps
attribute [local go_sem] Oper.semAt_some
def outV (D : Nat → Int × Int) (N : Nat) (pre : List (Fin N)) : List Int := pre.foldl (fun o x => spl o x.val [(D x.val).2]) (List.replicate N 0)
theorem outV_snoc (D : Nat → Int × Int) (N : Nat) (pre : List (Fin N)) (x : Fin N) : outV D N (pre ++ [x]) = spl (outV D N pre) x.val [(D x.val).2] := by unfold outV; rw [List.foldl_append]; rfl
theorem outV_len (D : Nat → Int × Int) (N : Nat) (pre : List (Fin N)) : (outV D N pre).length = N := by
 unfold outV
 have : ∀ (pre : List (Fin N)) (o : List Int), o.length = N → (pre.foldl (fun o x => spl o x.val [(D x.val).2]) o).length = N := by
  intro pre
  induction pre with
  | nil => intro o h; exact h
  | cons x t ih => intro o h; exact ih _ (by rw [spl_length (by simp; have := x.isLt; omega)]; exact h)
 exact this pre _ (by simp)
theorem outV_take (D : Nat → Int × Int) (N : Nat) : ∀ k, k ≤ N → outV D N ((List.finRange N).take k) = ((List.range k).map fun i => (D i).2) ++ List.replicate (N - k) 0
 | 0, _ => by simp [outV]
 | k + 1, h => by
  rw [fin_succ h, outV_snoc, outV_take D N k (by omega)]
  have hl : ((List.range k).map fun i => (D i).2).length = k := by simp
  unfold spl
  simp only
  rw [List.take_append_of_le_length (by omega), List.take_of_length_le (by omega), List.drop_append, List.drop_of_length_le (by simp only [List.length_singleton]; omega), List.nil_append, List.range_succ, List.map_append, hl, List.drop_replicate]
  simp only [List.length_singleton, List.map_cons, List.map_nil]
  congr 2
  omega
theorem outV_all (D : Nat → Int × Int) (N : Nat) : outV D N (List.finRange N) = (List.range N).map fun i => (D i).2 := by
 have := outV_take D N N (Nat.le_refl _)
 rw [List.take_of_length_le (by rw [List.length_finRange]; exact Nat.le_refl _), Nat.sub_self, List.replicate_zero, List.append_nil] at this
 exact this
def BPost (w : World) (D : Nat → Int × Int) (N : Nat) (en : Ending) (w' : World) : Prop :=
 Below w.heap.size w w' ∧ ((∃ ob, en = .returned (.tuple #[.slice (some ⟨ob, 0, none⟩) N N, .int .i64 0]) ∧ (∀ x, x < N → (D x).1 = 0) ∧ w.heap.size ≤ ob ∧ w'.heap[ob]? = some (.cells (bytesV ((List.range N).map fun i => (D i).2)) 5 (0, 0))) ∨
  (∃ e x, en = .returned (.tuple #[.slice none 0 0, .int .i64 e]) ∧ e ≠ 0 ∧ x < N ∧ (D x).1 = e))
theorem dvG_byte {p q : Int} {pg : PG} (h : PgOk pg) (g at' : Int) : 0 ≤ (dvG p q pg g 1 at' 1 0).2.2 ∧ (dvG p q pg g 1 at' 1 0).2.2 < 256 := by
 unfold dvG dvV
 split
 ·split
  ·exact ⟨Int.le_refl 0, by show (0 : Int) < 256; decide⟩
  ·split
   ·rw [if_pos rfl]
    have := le_bd (rdB_byte h (P0 + (at' - (65536 + 32768 * g))) (1 : Int).toNat)
    rw [rdB_len] at this
    exact this
   ·exact ⟨Int.le_refl 0, by show (0 : Int) < 256; decide⟩
 ·exact ⟨Int.le_refl 0, by show (0 : Int) < 256; decide⟩
section
variable {w : World} {B mb pb rb gb cap pd qb : Nat} {L : List Pg} {p q g base n : Int}
set_option maxRecDepth 100000 in
set_option maxHeartbeats 4000000 in
theorem bytes_any (h : RIn w B mb pb rb gb cap pd qb L p q g base n) (hgB : 0 < B) (hp : p = 1 ∨ p = 3) (hq : q = 1 ∨ q = 3) (hn : 32 ≤ n ∧ n ≤ 65536) (hb : 0 ≤ base ∧ base ≤ 1099511627776) (fr : Int) (N : Nat) (hfr : W64 fr) (hN : N ≤ 65536) :
  Calls Tryz.prog 28 #[.pointer (some ⟨qb, 0, none⟩), .int .u64 fr, .int .i64 N] w (BPost w (fun x => (dvG p q (L.map Pg.ab) g 1 (plcN base n fr x) 1 0).2) N) := by
 obtain ⟨D, hDd⟩ : ∃ D : Nat → Int × Int, D = fun x => (dvG p q (L.map Pg.ab) g 1 (plcN base n fr x) 1 0).2 := ⟨_, rfl⟩
 rw [← hDd]
 have hDx : ∀ x : Nat, (dvG p q (L.map Pg.ab) g 1 (plcN base n fr x) 1 0).2 = D x := fun x => by rw [hDd]
 have hDb : ∀ x : Nat, 0 ≤ (D x).2 ∧ (D x).2 < 256 := fun x => by rw [← hDx]; exact dvG_byte h.m.tab.ok g _
 clear hDd
 replace hDx := Lib.hid hDx
 obtain ⟨W1, hW1⟩ : ∃ W1, W1 = w.alloc (.cells #[.pointer (some ⟨qb, 0, none⟩)] 29) := ⟨_, rfl⟩
 obtain ⟨W2, hW2⟩ : ∃ W2, W2 = W1.alloc (.cells #[.slice none 0 0] 33) := ⟨_, rfl⟩
 obtain ⟨W3, hW3⟩ : ∃ W3, W3 = W2.alloc (.cells #[.int .i64 0] 36) := ⟨_, rfl⟩
 obtain ⟨c3, c6, c7, z3, hb3⟩ := three_boxes _ _ _ _ _ _ w W3 (by rw [hW3, hW2, hW1])
 have x3 : Boxed W3 w.heap.size 29 (.pointer (some ⟨qb, 0, none⟩)) := by rw [hW3, hW2, hW1]; exact ((Boxed.new w _ _).alloc _).alloc _
 have x6 : Boxed W3 (w.heap.size + 1) 33 (.slice none 0 0) := by
  have := (Boxed.new W1 33 (.slice none 0 0)).alloc (.cells #[.int .i64 0] 36)
  rw [hW3, hW2]
  rw [show W1.heap.size = w.heap.size + 1 by rw [hW1]; simp] at this
  exact this
 have x7 : Boxed W3 (w.heap.size + 1 + 1) 36 (.int .i64 0) := by
  have := Boxed.new W2 36 (.int .i64 0)
  rw [hW3]
  rw [show W2.heap.size = w.heap.size + 1 + 1 by rw [hW2, hW1]; simp] at this
  exact this
 have e3 : W3.heap.size = w.heap.size + 1 + 1 + 1 := by omega
 have hmk := make_bytes W3 N N (by omega) (by omega) (by omega)
 have hN1 : ((N : Nat) : Int).toNat = N := by omega
 rw [hN1] at hmk
 obtain ⟨W4, hW4⟩ : ∃ W4, W4 = W3.alloc (.cells ((List.replicate N (0 : Int)).map fun x => Value.int .u8 x).toArray 5) := ⟨_, rfl⟩
 have hb4 : Below W3.heap.size W3 W4 := by rw [hW4]; exact bone _ _
 have hob4 : W4.heap[W3.heap.size]? = some (.cells (bytesV (List.replicate N 0)) 5 (0, 0)) := by rw [hW4, World.alloc_heap_new]; rfl
 have z4 : W4.heap.size = W3.heap.size + 1 := by rw [hW4]; simp
 rw [← hW4, e3] at hmk
 rw [e3] at hob4
 clear hW4
 obtain ⟨W5, hW5⟩ : ∃ W5, W5 = W4.alloc (.cells #[.slice (some ⟨w.heap.size + 1 + 1 + 1, 0, none⟩) N N] 33) := ⟨_, rfl⟩
 have hb5 : Below W4.heap.size W4 W5 := by rw [hW5]; exact bone _ _
 have x8 : Boxed W5 W4.heap.size 33 (.slice (some ⟨w.heap.size + 1 + 1 + 1, 0, none⟩) N N) := by rw [hW5]; exact Boxed.new _ _ _
 have z5 : W5.heap.size = W4.heap.size + 1 := by rw [hW5]; simp
 have hb35 := bthen hb4 hb5
 have k3 := Boxed.cell (Boxed.below x3 hb35 (Boxed.lt x3))
 rw [hW5] at k3
 have hpi := fun N => places_in 8 (.pointer (some ⟨qb, 0, none⟩)) fr N W5 ⟨_, rfl⟩
 rw [hW3] at hmk
 replace hW5 := Lib.hid hW5
 replace e3 := Lib.hid e3
 replace z3 := Lib.hid z3
 replace z4 := Lib.hid z4
 replace z5 := Lib.hid z5
 subst hW1 hW2
 refine (callsIn_wide (n := 9)).1 ?_
 refine callsIn_of_wp_marks Tryz.func28 rfl trivial ?_ rfl
 simp only [Tryz.ntmps28, List.size_toArray, List.length_cons, List.length_nil, Nat.reduceAdd, Nat.reduceSub, Array.replicate_succ, Array.replicate_zero, List.push_toArray, List.append_toArray, List.nil_append, List.cons_append]
 gi_wp2
 rw [← hW5.out]
 refine ⟨trivial, ?_⟩
 refine (hpi _).mono ?_; rintro e W7 ⟨rfl, hW7⟩
 clear hpi
 obtain ⟨q7, f7, m7, z7, hb7⟩ := three_boxes _ _ _ _ _ _ W5 W7 hW7
 clear hW7
 have hz3 := z3.out
 have hz4 := z4.out
 have hz5 := z5.out
 have he3 := e3.out
 have hbw7 : Below w.heap.size w W7 := bthen (bthen hb3 hb35) hb7
 have h7 := h.later hgB hbw7
 have hb37 := bthen hb35 hb7
 have x37 := Boxed.below x3 hb37 (Boxed.lt x3)
 have x67 := Boxed.below x6 hb37 (Boxed.lt x6)
 have x77 := Boxed.below x7 hb37 (Boxed.lt x7)
 have x87 := Boxed.below x8 hb7 (Boxed.lt x8)
 have ho7 := ((bthen hb5 hb7).block _ (Array.getElem?_eq_some_iff.1 hob4).1).trans hob4
 have hzw7 : w.heap.size + 1 + 1 + 1 < W5.heap.size ∧ W5.heap.size + 2 < W7.heap.size ∧ W4.heap.size < W5.heap.size := ⟨by omega, by omega, by omega⟩
 have hz48 : w.heap.size + 1 + 1 + 1 < W4.heap.size := by omega
 have hqz := h.ql
 clear hz3 hz4 hz5 he3 z7
 gi_wp2
 refine wpIn_rangeFunc_ownH rfl (by decide) (gf := 54) (lb := #[.pointer (some ⟨W5.heap.size + 1 + 1, 0, none⟩), .pointer (some ⟨W5.heap.size + 1, 0, none⟩), .pointer (some ⟨W5.heap.size, 0, none⟩)]) rfl trivial (enters_of Tryz.func54 (by kernel_rfl) rfl)
  (places_stops _ (W5.heap.size + 1 + 1) (W5.heap.size + 1) W5.heap.size qb W7 (by decide) base n fr N hn hb hfr (by omega) m7 f7 q7 h7.cells.2.2.1 h7.cells.2.2.2) KeepsL.trans (KeepsL.put (by simp; omega)) (Below.refl _ _) (fun _ => rfl)
  (fun pre W => Below w.heap.size w W ∧ W7.heap.size ≤ W.heap.size ∧ (∀ b, b < W7.heap.size → b ≠ w.heap.size + 1 + 1 + 1 → W.heap[b]? = W7.heap[b]?) ∧ W.heap[w.heap.size + 1 + 1 + 1]? = some (.cells (bytesV (outV D N pre)) 5 (0, 0)) ∧ ∀ x ∈ pre, (D x.val).1 = 0)
  (fun c pre W => c = .ret ∧ Below w.heap.size w W ∧ W7.heap.size ≤ W.heap.size ∧ ∃ e, e ≠ 0 ∧ (∃ x, x < N ∧ (D x).1 = e) ∧ Boxed W (w.heap.size + 1) 33 (.slice none 0 0) ∧ Boxed W (w.heap.size + 1 + 1) 36 (.int .i64 e))
  (fun pre W W' row hs hg hr => ⟨ownFrom_below (β := Unit) (n₀ := w.heap.size) (B := W7.heap.size) (by omega) (by omega) () W W' row hs.1 hg hr, Nat.le_trans hs.2.1 hg.size, fun b h1 h2 => (hg.block b (by have := hs.2.1; omega) (fun e => by have := (hr b e.symm).1; omega)).trans (hs.2.2.1 b h1 h2), grownBy_keeps_cells hg (fun r e => (hr r e).2) hs.2.2.2.1 rfl |>.trans hs.2.2.2.1, hs.2.2.2.2⟩)
  (fun c pre W W' row hs hg hr => ⟨hs.1, ownFrom_below (β := Unit) (n₀ := w.heap.size) (B := W7.heap.size) (by omega) (by omega) () W W' row hs.2.1 hg hr, Nat.le_trans hs.2.2.1 hg.size, hs.2.2.2.imp fun e he => ⟨he.1, he.2.1, Boxed.keptOff he.2.2.1 hg fun r e => (hr r e).2, Boxed.keptOff he.2.2.2 hg fun r e => (hr r e).2⟩⟩)
  ⟨hbw7, Nat.le_refl _, fun _ _ _ => rfl, ho7, by simp⟩
  (fun x a' W => ∃ (u1 u2 u4 u5 u11 u12 u13 u14 u15 u16 u17 u18 u19 u20 u21 u22 u23 u24 u25 u26 u27 u28 u29 u30 u31 u32 u33 u34 u35 : Value), a' = { tmps := List.toArray (.pointer (some ⟨qb, 0, none⟩) :: u1 :: u2 :: .pointer (some ⟨w.heap.size, 0, none⟩) :: u4 :: u5 :: .pointer (some ⟨w.heap.size + 1, 0, none⟩) :: .pointer (some ⟨w.heap.size + 1 + 1, 0, none⟩) :: .pointer (some ⟨W4.heap.size, 0, none⟩) :: .int .i64 (x.val : Nat) :: .int .u64 (plcN base n fr x.val) :: u11 :: u12 :: u13 :: u14 :: u15 :: u16 :: u17 :: u18 :: u19 :: u20 :: u21 :: u22 :: u23 :: u24 :: u25 :: u26 :: u27 :: u28 :: u29 :: u30 :: u31 :: u32 :: u33 :: u34 :: u35 :: []), defers := [] })
  (fun x a' _ X Y row hs hg hr => hs)
  ?assign ?body ?done ?stop
 case assign =>
  rintro l1 pre x W K hI hK
  gi_wp2
  exact hK _ _ ((KeepsOthers.refl _).from _) (KeepsL.refl _ _) hI ⟨_, _, _, _, _, _, _, _, _, _, _, _, _, _, _, _, _, _, _, _, _, _, _, _, _, _, _, _, _, rfl⟩
 case body =>
  rintro l1 pre x a' W hl1 ⟨r, hr⟩ ⟨hbW, hzW, hkp, ho, hall⟩ ⟨u1, u2, u4, u5, u11, u12, u13, u14, u15, u16, u17, u18, u19, u20, u21, u22, u23, u24, u25, u26, u27, u28, u29, u30, u31, u32, u33, u34, u35, rfl⟩ hlt
  have hI := h.later hgB hbW
  have hpb := plcN_bd (fr := fr) hb hn x.val
  have hld := load_any hI hgB hp hq (plcN base n fr x.val) 1 (.inl rfl) (by unfold W64; omega)
  rw [hDx.out] at hld
  have hxb := hDb x.val
  have k3W : W.cell? ⟨w.heap.size, 0, none⟩ = some (.pointer (some ⟨qb, 0, none⟩)) := Boxed.cell ((hkp _ (Boxed.lt x37) (by omega)).trans x37)
  have ok := hkp W4.heap.size (by omega) (by omega)
  have k8W : W.cell? ⟨W4.heap.size, 0, none⟩ = some (.slice (some ⟨w.heap.size + 1 + 1 + 1, 0, none⟩) N N) := Boxed.cell (ok.trans x87)
  have x6W : Boxed W (w.heap.size + 1) 33 (.slice none 0 0) := (hkp _ (Boxed.lt x67) (by omega)).trans x67
  have x7W : Boxed W (w.heap.size + 1 + 1) 36 (.int .i64 0) := (hkp _ (Boxed.lt x77) (by omega)).trans x77
  have hxl := x.isLt
  have hxlt : ((x.val : Nat) : Int) < (N : Int) := by omega
  have hxn : ((x.val : Nat) : Int).toNat = x.val := by omega
  have hout := outV_snoc D N pre x
  have hol := outV_len D N pre
  have hDz : ∀ e, e ≠ 0 → (D x.val).1 = e → ∃ k, k < N ∧ (D k).1 = e := fun e _ h2 => ⟨x.val, hxl, h2⟩
  have hD0 : ∀ y ∈ pre ++ [x], (D x.val).1 = 0 → (D y.val).1 = 0 := fun y hy h0 => by
   rcases List.mem_append.1 hy with hy | hy
   ·exact hall y hy
   ·rw [List.mem_singleton.1 hy]; exact h0
  generalize plcN base n fr x.val = pl at *
  have hcond : (D x.val).1 = 0 ∨ (D x.val).1 ≠ 0 := Classical.em _
  generalize hdx : D x.val = dx at *
  obtain ⟨ev, c⟩ := dx
  simp only at hld hxb hout hDz hD0 hcond
  replace hdx := Lib.hid hdx
  replace hDz := Lib.hid hDz
  replace hD0 := Lib.hid hD0
  gi_wp2
  refine ⟨trivial, ?_⟩
  refine (CallsIn.inRound l1 (callsIn_wide.2 hld)).mono ?_; rintro e X1 ⟨rfl, hb1⟩
  clear hld
  have hsz1 := hb1.size
  have hbX := bthen hbW hb1
  have hkp1 : ∀ b, b < W7.heap.size → b ≠ w.heap.size + 1 + 1 + 1 → X1.heap[b]? = W7.heap[b]? := fun b h1 h2 => (hb1.block b (by omega)).trans (hkp b h1 h2)
  have ho1 := (hb1.block _ (Array.getElem?_eq_some_iff.1 ho).1).trans ho
  have x61 := Boxed.below x6W hb1 (Boxed.lt x6W)
  have x71 := Boxed.below x7W hb1 (Boxed.lt x7W)
  have hkf : KeepsFrom W7.heap.size W X1 := ⟨hb1.size, fun k o h1 h2 h3 => (hb1.block k (Array.getElem?_eq_some_iff.1 h2).1).trans h2⟩
  rcases hcond with rfl | hev
  ·have k81 : X1.cell? ⟨W4.heap.size, 0, none⟩ = some (.slice (some ⟨w.heap.size + 1 + 1 + 1, 0, none⟩) N N) := cell_lt hb1 k8W (by omega)
   have hcell := bytes_cell ho1 (k := x.val) (by omega)
   have hfz : X1.frozen? ⟨w.heap.size + 1 + 1 + 1, x.val, none⟩ = false := by simp [World.frozen?, ho1]
   have hst := setRow_at c ho1 (k := x.val) (by omega)
   have hrow := setRow_heap X1 (w.heap.size + 1 + 1 + 1) _ (bytesV (spl (outV D N pre) x.val [c])) _ _ ho1
   rw [← hst, ← hout] at hrow
   have hwc : IntKind.u8.wrap c = c := by rw [IntKind.wrap_u8]; omega
   clear hst hout
   generalize (outV D N pre)[x.val]'_ = old at *
   have hb2 := hbX.setCell (p := ⟨w.heap.size + 1 + 1 + 1, x.val, none⟩) (by simp; omega) (.int .u8 c)
   have hne : ∀ b, b ≠ w.heap.size + 1 + 1 + 1 → (X1.setCell ⟨w.heap.size + 1 + 1 + 1, x.val, none⟩ (.int .u8 c)).heap[b]? = X1.heap[b]? := fun b hb' => Below.heap_setCell _ _ _ _ (by simpa using hb')
   replace hrow := Lib.hid hrow
   gi_wp2
   refine ⟨hkf.trans ((KeepsOthers.setCell _ _ _).from _), ⟨by simp; omega, fun b hb' => ?_⟩, hb2, by simp; omega, fun b h1 h2 => (hne b h2).trans (hkp1 b h1 h2), hrow.out, fun y hy => hD0.out y hy trivial⟩
   simp only [List.mem_cons, List.mem_nil_iff, or_false] at hb'
   have hbn : b ≠ w.heap.size + 1 + 1 + 1 := by rcases hb' with rfl | rfl | rfl | rfl <;> omega
   exact (hne b hbn).trans (hb1.block b (by rcases hb' with rfl | rfl | rfl | rfl <;> omega))
  ·have he1 : (ev != 0) = true := by simpa using hev
   have c6 := Boxed.cell x61
   have f6 := Boxed.frozen x61
   have c7 := Boxed.cell x71
   have f7 := Boxed.frozen x71
   have hdz := hDz.out ev hev rfl
   replace hev := Lib.hid hev
   replace hdz := Lib.hid hdz
   gi_wp2
   exact ⟨(hkf.trans ((KeepsOthers.setCell _ _ _).from _)).trans ((KeepsOthers.setCell _ _ _).from _), rfl, (hbX.setCell (by simp) _).setCell (by simp; omega) _, by simp; omega, ev, hev.out, hdz.out, boxed_off (Boxed.set _ x61) (by omega) _, Boxed.set _ (boxed_off x71 (by omega) _)⟩
 case done =>
  rintro D0 ys W hD rfl ⟨hbW, hzW, hkp, ho, hall⟩ hK
  rw [outV_all] at ho
  have ok := hkp W4.heap.size (by omega) (by omega)
  have k8W : W.cell? ⟨W4.heap.size, 0, none⟩ = some (.slice (some ⟨w.heap.size + 1 + 1 + 1, 0, none⟩) N N) := Boxed.cell (ok.trans x87)
  have x6W : Boxed W (w.heap.size + 1) 33 (.slice none 0 0) := (hkp _ (Boxed.lt x67) (by omega)).trans x67
  have x7W : Boxed W (w.heap.size + 1 + 1) 36 (.int .i64 0) := (hkp _ (Boxed.lt x77) (by omega)).trans x77
  have c6 := Boxed.cell x6W
  have f6 := Boxed.frozen x6W
  have c7 := Boxed.cell x7W
  have f7 := Boxed.frozen x7W
  have hall' : ∀ x, x < N → (D x).1 = 0 := fun x hx => hall ⟨x, hx⟩ (List.mem_finRange _)
  clear hall hkp
  replace hall' := Lib.hid hall'
  have hr1 := boxed_off (o := 0) (Boxed.set (.slice (some ⟨w.heap.size + 1 + 1 + 1, 0, none⟩) N N) x6W) (show w.heap.size + 1 ≠ w.heap.size + 1 + 1 by omega) (.int .i64 0)
  have hr2 := Boxed.set (.int .i64 0) (boxed_off (o := 0) x7W (show w.heap.size + 1 + 1 ≠ w.heap.size + 1 by omega) (.slice (some ⟨w.heap.size + 1 + 1 + 1, 0, none⟩) N N))
  have hbE := (hbW.setCell (p := ⟨w.heap.size + 1, 0, none⟩) (by show w.heap.size ≤ w.heap.size + 1; omega) (.slice (some ⟨w.heap.size + 1 + 1 + 1, 0, none⟩) N N)).setCell (p := ⟨w.heap.size + 1 + 1, 0, none⟩) (by show w.heap.size ≤ w.heap.size + 1 + 1; omega) (.int .i64 0)
  have hoE : ((W.setCell ⟨w.heap.size + 1, 0, none⟩ (.slice (some ⟨w.heap.size + 1 + 1 + 1, 0, none⟩) N N)).setCell ⟨w.heap.size + 1 + 1, 0, none⟩ (.int .i64 0)).heap[w.heap.size + 1 + 1 + 1]? = some (.cells (bytesV ((List.range N).map fun i => (D i).2)) 5 (0, 0)) := by
   rw [Below.heap_setCell _ _ _ _ (by show w.heap.size + 1 + 1 + 1 ≠ w.heap.size + 1 + 1; omega), Below.heap_setCell _ _ _ _ (by show w.heap.size + 1 + 1 + 1 ≠ w.heap.size + 1; omega)]; exact ho
  have hKE : ((W.setCell ⟨w.heap.size + 1, 0, none⟩ (.slice (some ⟨w.heap.size + 1 + 1 + 1, 0, none⟩) N N)).setCell ⟨w.heap.size + 1 + 1, 0, none⟩ (.int .i64 0)).heap[D0]? = some (.deferred (some [])) := by
   rw [Below.heap_setCell _ _ _ _ (by show D0 ≠ w.heap.size + 1 + 1; omega), Below.heap_setCell _ _ _ _ (by show D0 ≠ w.heap.size + 1; omega)]; exact hK
  gi_wp2
  generalize (W.setCell ⟨w.heap.size + 1, 0, none⟩ (.slice (some ⟨w.heap.size + 1 + 1 + 1, 0, none⟩) N N)).setCell ⟨w.heap.size + 1 + 1, 0, none⟩ (.int .i64 0) = WE at *
  exact leaves_marksJ (N := W7.heap.size) (J := fun W => Boxed W (w.heap.size + 1) 33 (.slice (some ⟨w.heap.size + 1 + 1 + 1, 0, none⟩) N N) ∧ Boxed W (w.heap.size + 1 + 1) 36 (.int .i64 0) ∧ Below w.heap.size w W ∧ W.heap[w.heap.size + 1 + 1 + 1]? = some (.cells (bytesV ((List.range N).map fun i => (D i).2)) 5 (0, 0))) (fun W D o' hD hd hJ => ⟨Boxed.keptOff hJ.1 (grownBy_putObj' W D o') fun r e => by cases e; exact ⟨_, hd, rfl⟩, Boxed.keptOff hJ.2.1 (grownBy_putObj' W D o') fun r e => by cases e; exact ⟨_, hd, rfl⟩, ownFrom_below (β := Unit) (n₀ := w.heap.size) (B := W7.heap.size) (by omega) (by omega) () W _ (some D) hJ.2.2.1 (grownBy_putObj' W D o') (fun r e => by cases e; exact ⟨hD, _, hd, rfl⟩), (grownBy_keeps_cells (grownBy_putObj' W D o') (fun r e => by cases e; exact ⟨_, hd, rfl⟩) hJ.2.2.2 rfl).trans hJ.2.2.2⟩) (fun W' hW => by
   obtain ⟨q6, q7, q8, q9⟩ := hW
   have r6 := Boxed.cell q6
   have r7 := Boxed.cell q7
   exact ⟨.tuple #[.slice (some ⟨w.heap.size + 1 + 1 + 1, 0, none⟩) N N, .int .i64 0], by simp [results, Tryz.results28, go_sem, r6, r7], q8, .inl ⟨_, rfl, hall'.out, by omega, q9⟩⟩) _ WE.heap.size _ ⟨D0, rfl, by omega, (Array.getElem?_eq_some_iff.1 hKE).1, hKE, trivial⟩ ⟨hr1, hr2, hbE, hoE⟩
 case stop =>
  rintro D0 c pre W hD ⟨t, ht⟩ ⟨rfl, hbW, hzW, e, he, hex, hx6, hx7⟩ hf
  replace hex := Lib.hid hex
  replace he := Lib.hid he
  gi_wp2
  exact leaves_marksJ (N := W7.heap.size) (J := fun W => Boxed W (w.heap.size + 1) 33 (.slice none 0 0) ∧ Boxed W (w.heap.size + 1 + 1) 36 (.int .i64 e) ∧ Below w.heap.size w W) (fun W D o' hD hd hJ => ⟨Boxed.keptOff hJ.1 (grownBy_putObj' W D o') fun r e => by cases e; exact ⟨_, hd, rfl⟩, Boxed.keptOff hJ.2.1 (grownBy_putObj' W D o') fun r e => by cases e; exact ⟨_, hd, rfl⟩, ownFrom_below (β := Unit) (n₀ := w.heap.size) (B := W7.heap.size) (by omega) (by omega) () W _ (some D) hJ.2.2 (grownBy_putObj' W D o') (fun r e => by cases e; exact ⟨hD, _, hd, rfl⟩)⟩) (fun W' hW => by
   obtain ⟨q6, q7, q8⟩ := hW
   have r6 := Boxed.cell q6
   have r7 := Boxed.cell q7
   exact ⟨.tuple #[.slice none 0 0, .int .i64 e], by simp [results, Tryz.results28, go_sem, r6, r7], q8, .inr ⟨e, _, rfl, he.out, hex.out.choose_spec.1, hex.out.choose_spec.2⟩⟩) _ W.heap.size _ ⟨D0, rfl, by omega, (Array.getElem?_eq_some_iff.1 hf).1, hf, trivial⟩ ⟨hx6, hx7, hbW⟩
end
end Go.Proofs.YtgihknfoncljbaaGreatDoor
/- What a ring receives: the walk of Receive. -/
namespace Go.Proofs.YtgihknfoncljbaaGreatDoor
open Go Go.RowKit Go.Shelf Go.BigFrame Go.Maps
def ldB (p q : Int) (pg : PG) (g base n fr : Int) (x : Nat) : Int × Int := (dvG p q pg g 1 (plcN base n fr x) 1 0).2
def lenR (p q : Int) (pg : PG) (g base n fr : Int) : Int := le ((List.range 4).map fun i => (ldB p q pg g base n fr i).2)
def RecvC (p q g base n : Int) (pg : PG) (ch ct ce : Int) (e : Int) (bs : List Int) (pg' : PG) : Prop :=
 (e ≠ 0 ∧ bs = [] ∧ pg' = pg ∧
  ((ce ≠ 0 ∧ e = ce) ∨
   (ce = 0 ∧ ch = ct ∧ e = 3) ∨
   (ce = 0 ∧ ch ≠ ct ∧ (IntKind.u64.wrap (ch - ct) < 4 ∨
    (∃ x, x < 4 ∧ (ldB p q pg g base n ct x).1 ≠ 0) ∨
    IntKind.u64.wrap (ch - ct) - 4 < lenR p q pg g base n ct ∨
    (∃ x, x < (lenR p q pg g base n ct).toNat ∧ (ldB p q pg g base n (IntKind.u64.wrap (ct + 4)) x).1 ≠ 0) ∨
    (dvG p q pg g 2 (base + 8) 8 (IntKind.u64.wrap (IntKind.u64.wrap (ct + 4) + lenR p q pg g base n ct))).2.1 ≠ 0)))) ∨
 (e = 0 ∧ bs = ((List.range (lenR p q pg g base n ct).toNat).map fun i => (ldB p q pg g base n (IntKind.u64.wrap (ct + 4)) i).2) ∧
  pg' = (dvG p q pg g 2 (base + 8) 8 (IntKind.u64.wrap (IntKind.u64.wrap (ct + 4) + lenR p q pg g base n ct))).1 ∧
  ch ≠ ct ∧
  (dvG p q pg g 2 (base + 8) 8 (IntKind.u64.wrap (IntKind.u64.wrap (ct + 4) + lenR p q pg g base n ct))).2.1 = 0)
def RecvOut (p q g base n : Int) (pg : PG) (e : Int) (bs : List Int) (pg' : PG) : Prop := RecvC p q g base n pg (cntV (ldV p q pg g) base n).1 (cntV (ldV p q pg g) base n).2.1 (cntV (ldV p q pg g) base n).2.2 e bs pg'
theorem dvG_err (p q : Int) (pg : PG) (g k ipa size x : Int) : (dvG p q pg g k ipa size x).2.1 ≠ 0 → (dvG p q pg g k ipa size x).1 = pg := by
 unfold dvG dvV
 split
 ·split
  ·intro _; rfl
  ·split
   ·split
    ·intro _; rfl
    ·split
     ·intro h; exact absurd rfl h
     ·intro _; rfl
   ·intro _; rfl
 ·intro _; rfl
theorem recv_nil (w : World) : Calls Tryz.prog 12 #[.pointer none] w fun e w' => e = .returned (.tuple #[.slice none 0 0, .int .i64 1]) ∧ w = w' := by
 have hc := fun W => counts_nil W
 go_enter Tryz.func12, Tryz.ntmps12
 go_wp2_with fail
 refine (hc _).mono ?_; rintro e w2 ⟨rfl, rfl⟩
 go_wp2_with fail
 go_ret2
 exact ⟨rfl, rfl⟩
section
variable {w : World} {B mb pb rb gb cap pd qb : Nat} {L : List Pg} {p q g base n : Int}
def RcPostC (w0 : World) (mb pb : Nat) (L : List Pg) (B : Nat) (p q g base n ch ct ce : Int) (en : Ending) (w' : World) : Prop :=
 ∃ L' e v bs pg', en = .returned (.tuple #[v, .int .i64 e]) ∧ Wrote w0 w' mb pb 1073741824 1048576 L L' B pg' ∧ RecvC p q g base n (L.map Pg.ab) ch ct ce e bs pg' ∧ RowB w' v bs ∧ (∀ b, v.ownBlock = some b → w0.heap.size ≤ b)
def RcPost (w0 : World) (mb pb : Nat) (L : List Pg) (B : Nat) (p q g base n : Int) : Ending → World → Prop :=
 RcPostC w0 mb pb L B p q g base n (cntV (ldV p q (L.map Pg.ab) g) base n).1 (cntV (ldV p q (L.map Pg.ab) g) base n).2.1 (cntV (ldV p q (L.map Pg.ab) g) base n).2.2
theorem rowB_nil (w : World) : RowB w (.slice none 0 0) [] := ⟨none, 0, rfl, Nat.le_refl _, by unfold maxLen; simp, fun h => absurd rfl h⟩
theorem cnt_ok (h : RIn w B mb pb rb gb cap pd qb L p q g base n) : (cntV (ldV p q (L.map Pg.ab) g) base n).2.2 = 0 → W64 (cntV (ldV p q (L.map Pg.ab) g) base n).1 ∧ W64 (cntV (ldV p q (L.map Pg.ab) g) base n).2.1 ∧ IntKind.u64.wrap ((cntV (ldV p q (L.map Pg.ab) g) base n).1 - (cntV (ldV p q (L.map Pg.ab) g) base n).2.1) ≤ n - 16 := by
 unfold cntV
 split
 ·intro e; contradiction
 ·split
  ·intro e; contradiction
  ·split
   ·intro e; cases e
   ·rename_i _ _ h3
    intro _
    exact ⟨dvG_w64 h.m.tab.ok g 1 base 8 0 (.inr rfl), dvG_w64 h.m.tab.ok g 1 (base + 8) 8 0 (.inr rfl), Int.not_lt.1 h3⟩
set_option maxRecDepth 100000 in
set_option maxHeartbeats 4000000 in
theorem recv_any (h : RIn w B mb pb rb gb cap pd qb L p q g base n) (hgB : 0 < B) (hp : p = 1 ∨ p = 3) (hq : q = 1 ∨ q = 3) (hn : 32 ≤ n ∧ n ≤ 65536) (hb : 0 ≤ base ∧ base ≤ 1099511627776) :
  Calls Tryz.prog 12 #[.pointer (some ⟨qb, 0, none⟩)] w (RcPost w mb pb L B p q g base n) := by
 have hct := counts_low h hgB hp hq hn hb
 have hcb := cnt_ok h
 have hoff : ∀ b, w.heap.size ≤ b → b ∉ memBlks mb pb L := fun b hb' e => by have := h.m.mem.lt _ e; omega
 have hst := fun W (hW : Below w.heap.size w W) => Wrote.stay h.m.mem hW h.m.hB
 unfold RcPost
 have hby := fun W (hW : RIn W B mb pb rb gb cap pd qb L p q g base n) fr N hfr hN => bytes_any hW hgB hp hq hn hb fr N hfr hN
 have hlb : ∀ fr x, 0 ≤ (ldB p q (L.map Pg.ab) g base n fr x).2 ∧ (ldB p q (L.map Pg.ab) g base n fr x).2 < 256 := fun fr x => dvG_byte h.m.tab.ok g _
 change ∀ W, _ → ∀ fr N, _ → _ → Calls _ _ _ _ (BPost W (ldB p q (L.map Pg.ab) g base n fr) N) at hby
 generalize cntV (ldV p q (L.map Pg.ab) g) base n = C at *
 obtain ⟨ch, ct, ce⟩ := C
 simp only at hct hcb ⊢
 have hout1 : ∀ e W, Below w.heap.size w W → e ≠ 0 → RecvC p q g base n (L.map Pg.ab) ch ct ce e [] (L.map Pg.ab) → RcPostC w mb pb L B p q g base n ch ct ce (.returned (.tuple #[.slice none 0 0, .int .i64 e])) W := fun e W hW he hR => ⟨L, e, _, [], _, rfl, hst W hW, hR, rowB_nil W, fun b hb' => (by cases hb')⟩
 by_cases he : ce = 0
 ·subst he
  obtain ⟨hch, hcT, hcd⟩ := hcb rfl
  have hch0 := hch.1
  have hch1 := hch.2
  have hct0 := hcT.1
  have hct1 := hcT.2
  clear hcb
  by_cases heq : ch = ct
  ·subst heq
   have hRR : RecvC p q g base n (L.map Pg.ab) ch ch 0 3 [] (L.map Pg.ab) := .inl ⟨by decide, rfl, rfl, .inr (.inl ⟨rfl, rfl, rfl⟩)⟩
   replace hout1 := Lib.hid hout1
   go_enter Tryz.func12, Tryz.ntmps12
   go_wp2_with fail
   refine hct.mono ?_; rintro e w2 ⟨rfl, hb2⟩
   clear hct
   go_wp2_with fail
   go_ret2
   exact hout1.out 3 _ hb2 (by decide) hRR
  ·have hne : (ch == ct) = false := by simpa using heq
   have hd0 : 0 ≤ IntKind.u64.wrap (ch - ct) := by rw [IntKind.wrap_u64]; omega
   have hfmt : ∀ e, e ≠ 0 → (IntKind.u64.wrap (ch - ct) < 4 ∨ (∃ x, x < 4 ∧ (ldB p q (L.map Pg.ab) g base n ct x).1 ≠ 0) ∨ IntKind.u64.wrap (ch - ct) - 4 < lenR p q (L.map Pg.ab) g base n ct ∨ (∃ x, x < (lenR p q (L.map Pg.ab) g base n ct).toNat ∧ (ldB p q (L.map Pg.ab) g base n (IntKind.u64.wrap (ct + 4)) x).1 ≠ 0) ∨ (dvG p q (L.map Pg.ab) g 2 (base + 8) 8 (IntKind.u64.wrap (IntKind.u64.wrap (ct + 4) + lenR p q (L.map Pg.ab) g base n ct))).2.1 ≠ 0) → RecvC p q g base n (L.map Pg.ab) ch ct 0 e [] (L.map Pg.ab) := fun e he hh => .inl ⟨he, rfl, rfl, .inr (.inr ⟨rfl, heq, hh⟩)⟩
   have hok : ∀ bs, (dvG p q (L.map Pg.ab) g 2 (base + 8) 8 (IntKind.u64.wrap (IntKind.u64.wrap (ct + 4) + lenR p q (L.map Pg.ab) g base n ct))).2.1 = 0 → bs = ((List.range (lenR p q (L.map Pg.ab) g base n ct).toNat).map fun i => (ldB p q (L.map Pg.ab) g base n (IntKind.u64.wrap (ct + 4)) i).2) → RecvC p q g base n (L.map Pg.ab) ch ct 0 0 bs (dvG p q (L.map Pg.ab) g 2 (base + 8) 8 (IntKind.u64.wrap (IntKind.u64.wrap (ct + 4) + lenR p q (L.map Pg.ab) g base n ct))).1 := fun bs h1 h2 => .inr ⟨rfl, h2, rfl, heq, h1⟩
   generalize hdd : IntKind.u64.wrap (ch - ct) = d at *
   replace hdd := Lib.hid hdd
   by_cases hd4 : d < 4
   ·have hRR := hfmt 360 (by decide) (.inl hd4)
    replace hout1 := Lib.hid hout1
    replace hfmt := Lib.hid hfmt
    have hdo := hdd.out
    go_enter Tryz.func12, Tryz.ntmps12
    go_wp2_with fail
    refine hct.mono ?_; rintro e w2 ⟨rfl, hb2⟩
    clear hct
    go_wp2_with fail
    go_ret2
    exact hout1.out 360 _ hb2 (by decide) hRR
   ·have hw4 : W64 (IntKind.u64.wrap (ct + 4)) := by unfold W64; rw [IntKind.wrap_u64]; omega
    have hlen : lenR p q (L.map Pg.ab) g base n ct = le ((List.range 4).map fun i => (ldB p q (L.map Pg.ab) g base n ct i).2) := rfl
    have hFb : ∀ c ∈ ((List.range 4).map fun i => (ldB p q (L.map Pg.ab) g base n ct i).2), 0 ≤ c ∧ c < 256 := fun c hc => by
     obtain ⟨i, _, rfl⟩ := List.mem_map.1 hc
     exact hlb ct i
    have hFl : ((List.range 4).map fun i => (ldB p q (L.map Pg.ab) g base n ct i).2).length = 4 := by simp
    have hld : ∀ x, x < 4 → (ldB p q (L.map Pg.ab) g base n ct x).1 = 0 ∨ (ldB p q (L.map Pg.ab) g base n ct x).1 ≠ 0 := fun x _ => Classical.em _
    have hby4 : ∀ W, RIn W B mb pb rb gb cap pd qb L p q g base n → Calls Tryz.prog 28 #[.pointer (some ⟨qb, 0, none⟩), .int .u64 ct, .int .i64 4] W (BPost W (ldB p q (L.map Pg.ab) g base n ct) 4) := fun W hW => hby W hW ct 4 hcT (by omega)
    have hdo := hdd.out
    replace hout1 := Lib.hid hout1
    replace hfmt := Lib.hid hfmt
    replace hok := Lib.hid hok
    obtain ⟨F, hF⟩ : ∃ F, F = ((List.range 4).map fun i => (ldB p q (L.map Pg.ab) g base n ct i).2) := ⟨_, rfl⟩
    rw [← hF] at hFb hFl hlen
    replace hF := Lib.hid hF
    obtain ⟨ln, hln⟩ : ∃ ln, ln = lenR p q (L.map Pg.ab) g base n ct := ⟨_, rfl⟩
    rw [← hln] at hlen hfmt hok
    replace hln := Lib.hid hln
    have hlb0 := le_bd hFb
    rw [hFl] at hlb0
    have hlb1 := hlb0.1
    have hlb2 : le F < 4294967296 := hlb0.2
    clear hlb0
    go_enter Tryz.func12, Tryz.ntmps12
    go_wp2_with fail
    refine hct.mono ?_; rintro e w2 ⟨rfl, hb2⟩
    clear hct
    have hI2 := h.later hgB hb2
    have hb4 := hby4 w2 hI2
    go_wp2_with fail
    refine hb4.mono ?_; rintro e w3 ⟨hb3, ⟨ob, rfl, hall, hob, hrow⟩ | ⟨e1, x, rfl, he1, hx, hxe⟩⟩
    ·clear hb4 hby4
     have hrow' : w3.heap[ob]? = some (.cells (bytesV F) 5 (0, 0)) := by rw [hF.out]; exact hrow
     clear hrow
     have hbw3 := bthen hb2 hb3
     have hI3 := h.later hgB hbw3
     go_wp2_with fail
     go_loop [8, 43] (fun x i => ∃ k : Nat, k ≤ 4 ∧ i = .int .i64 k ∧ x = .int .u64 (le (F.take k))) (fun _ i => 4 - (intOf i).toNat)
     case atStart => exact ⟨0, by omega, rfl, rfl⟩
     case round =>
      obtain ⟨k, hk, rfl, rfl⟩ := hrel
      by_cases hlt : k < 4
      ·have hc0 := bytes_cell hrow' (k := k) (by omega)
       have hcb := hFb _ (List.getElem_mem (show k < F.length by omega))
       have htk : le (F.take (k + 1)) = le (F.take k) + F[k] * 256 ^ k := by
        rw [List.take_succ_eq_append_getElem (by omega), le_snoc, List.length_take, Nat.min_eq_left (by omega)]
       have hxb := le_bd (l := F.take k) (fun c hc => hFb c (List.mem_of_mem_take hc))
       rw [List.length_take, Nat.min_eq_left (by omega)] at hxb
       have h7 : (256 : Int) ^ k * 256 ≤ 18446744073709551616 := by
        have : k = 0 ∨ k = 1 ∨ k = 2 ∨ k = 3 := by omega
        rcases this with rfl | rfl | rfl | rfl <;> decide
       have hp0 : (0 : Int) < 256 ^ k := Int.pow_pos (by decide)
       generalize F[k]'_ = c at *
       have hc01 := hcb.1
       have hc02 := hcb.2
       have hcm : c * 256 ^ k ≤ 255 * 256 ^ k := Int.mul_le_mul_of_nonneg_right (by omega) (Int.le_of_lt hp0)
       have hcm0 : 0 ≤ c * 256 ^ k := Int.mul_nonneg hc01 (Int.le_of_lt hp0)
       have hj := join_step (le (F.take k)) c (8 * k) 8 hxb.1 (by rw [pow8]; omega) (by rw [pow8, Int.ediv_eq_zero_of_lt hxb.1 hxb.2]; rfl) hc01 hc02
       replace hj := hj.trans (show le (F.take k) + c * 2 ^ (8 * k) = le (F.take (k + 1)) by rw [pow8, htk])
       have h8k : IntKind.i64.wrap (8 * (k : Int)) = 8 * (k : Int) := IntWalk.i64_in _ (by omega)
       have h8n : (8 * (k : Int)).toNat = 8 * k := by omega
       replace htk := Lib.hid htk
       generalize le (F.take k) = x at *
       clear hxb hcm hcm0 hp0 h7 hcb
       go_wp2_with fail
       exact ⟨⟨k + 1, hlt, rfl, rfl⟩, by simp [intOf]; omega⟩
      ·obtain rfl : k = 4 := by omega
       have hFt : F.take 4 = F := List.take_of_length_le (by omega)
       rw [hFt, ← hlen]
       rw [← hlen] at hlb1 hlb2
       have hwd4 : IntKind.u64.wrap (d - 4) = d - 4 := by rw [IntKind.wrap_u64]; omega
       clear hFt hrow' hFb hFl hlen
       by_cases hbig : d - 4 < ln
       ·have hRR := hfmt.out 360 (by decide) (.inr (.inr (.inl hbig)))
        go_wp2_with fail
        go_ret2
        exact hout1.out 360 _ hbw3 (by decide) hRR
       ·obtain ⟨N, rfl⟩ := Int.eq_ofNat_of_zero_le hlb1
        have hwN : IntKind.i64.wrap (N : Int) = N := IntWalk.i64_in _ (by omega)
        have hbN := hby w3 hI3 (IntKind.u64.wrap (ct + 4)) N hw4 (by omega)
        have hw8 : IntKind.u64.wrap (base + 8) = base + 8 := by rw [IntKind.wrap_u64]; omega
        have hwx : W64 (IntKind.u64.wrap (IntKind.u64.wrap (ct + 4) + (N : Int))) := by unfold W64; rw [IntKind.wrap_u64]; omega
        have hsto := fun W (hW : RIn W B mb pb rb gb cap pd qb L p q g base n) => store_any hW hgB hp hq (base + 8) 8 (IntKind.u64.wrap (IntKind.u64.wrap (ct + 4) + (N : Int))) (.inr rfl) (by unfold W64; omega) hwx
        have hdt := dvG_tab (p := p) (q := q) h.m.tab (g := g) (k := 2) (ipa := base + 8) (size := 8) (x := IntKind.u64.wrap (IntKind.u64.wrap (ct + 4) + (N : Int))) (.inr rfl)
        have hde := dvG_err p q (L.map Pg.ab) g 2 (base + 8) 8 (IntKind.u64.wrap (IntKind.u64.wrap (ct + 4) + (N : Int)))
        generalize dvG p q (L.map Pg.ab) g 2 (base + 8) 8 (IntKind.u64.wrap (IntKind.u64.wrap (ct + 4) + (N : Int))) = dv at *
        obtain ⟨tgt, ev, wv⟩ := dv
        simp only at hsto hdt hde
        have hfo := hfmt.out
        have hoo := hok.out
        simp only [Int.toNat_natCast] at hfo hoo
        replace hfo := Lib.hid hfo
        replace hoo := Lib.hid hoo
        clear hfmt hok
        go_wp2_with fail
        refine hbN.mono ?_; rintro e w4 ⟨hb4, ⟨ob2, rfl, hall2, hob2, hrow2⟩ | ⟨e1, x, rfl, he1, hx, hxe⟩⟩
        ·have hbw4 := bthen hbw3 hb4
         have hI4 := h.later hgB hbw4
         obtain ⟨k0, k1, k2, k3⟩ := hI4.cells
         have hs4 := hsto w4 hI4
         clear hbN hsto hall2
         go_wp2_with fail
         refine hs4.mono ?_; rintro e w5 ⟨L5, rfl, hw5⟩
         clear hs4
         have hwt := hw5.pre hbw4 h.m.hB
         by_cases hev : ev = 0
         ·subst hev
          have hRR := hoo.out _ rfl rfl
          have hz4 := hb4.size
          have hob2n : ob2 ∉ memBlks mb pb L := hoff _ (by have := hbw3.size; omega)
          have hrow5 := (hw5.off.rest _ (Array.getElem?_eq_some_iff.1 hrow2).1 hob2n).trans hrow2
          have hrB : RowB w5 (.slice (some ⟨ob2, 0, none⟩) N N) ((List.range N).map fun i => (ldB p q (L.map Pg.ab) g base n (IntKind.u64.wrap (ct + 4)) i).2) := by
           refine ⟨_, N, by simp, by simp, by unfold maxLen; simp; omega, fun _ => ⟨ob2, 0, rfl, (Array.getElem?_eq_some_iff.1 hrow5).1, fun i hi => ?_⟩⟩
           rw [Nat.zero_add]
           exact bytes_cell hrow5 hi
          have hobw : w.heap.size ≤ ob2 := by have := hbw3.size; omega
          replace hrB := Lib.hid hrB
          replace hRR := Lib.hid hRR
          clear hrow2 hrow5
          go_wp2_with fail
          go_ret2
          exact ⟨L5, 0, _, _, _, rfl, hwt, hRR.out, hrB.out, fun b hb' => by cases hb'; exact hobw⟩
         ·have he0 : (ev != 0) = true := by simpa using hev
          have hRR := hfo.out ev hev (.inr (.inr (.inr (.inr hev))))
          obtain rfl := hde hev
          replace hev := Lib.hid hev
          go_wp2_with fail
          go_ret2
          exact ⟨L5, ev, _, [], _, rfl, hwt, hRR, rowB_nil _, fun b hb' => (by cases hb')⟩
        ·have he0 : (e1 != 0) = true := by simpa using he1
         have hRR := hfo.out e1 he1 (.inr (.inr (.inr (.inl ⟨x, hx, by rw [hxe]; exact he1⟩))))
         replace he1 := Lib.hid he1
         go_wp2_with fail
         go_ret2
         exact hout1.out e1 _ (bthen hbw3 hb4) he1.out hRR
    ·have he0 : (e1 != 0) = true := by simpa using he1
     have hRR := hfmt.out e1 he1 (.inr (.inl ⟨x, hx, by rw [hxe]; exact he1⟩))
     replace he1 := Lib.hid he1
     go_wp2_with fail
     go_ret2
     exact hout1.out e1 _ (bthen hb2 hb3) he1.out hRR
 ·have he0 : (ce != 0) = true := by simpa using he
  clear hcb
  replace hout1 := Lib.hid hout1
  go_enter Tryz.func12, Tryz.ntmps12
  go_wp2_with fail
  refine hct.mono ?_; rintro e w2 ⟨rfl, hb2⟩
  clear hct
  go_wp2_with fail
  go_ret2
  exact hout1.out ce _ hb2 he (.inl ⟨he, rfl, rfl, .inl ⟨he, rfl⟩⟩)
end
end Go.Proofs.YtgihknfoncljbaaGreatDoor
/- The plain laws of the ring: what is sent. -/
namespace Go.Proofs.YtgihknfoncljbaaGreatDoor
open Go
def bsG (g : Int) : Int := 65536 + 32768 * g
theorem in_page (g o : Int) (h0 : 0 ≤ o) (h1 : o < 4096) : InG g (bsG g + o) := by unfold InG bsG; omega
theorem at_off (g o : Int) : bsG g + o - (65536 + 32768 * g) = o := by unfold bsG; omega
theorem load_in (p q : Int) (pg : PG) (g o size x : Int) (hg : g = 0 ∨ g = 1) (h0 : 0 ≤ o) (h1 : o < 4096) (hs : (bsG g + o) % size = 0) : dvG p q pg g 1 (bsG g + o) size x = (pg, 0, le (rdB pg (P0 + o) size.toNat)) := by
 unfold dvG dvV
 rw [if_pos hg, if_neg (by simp [hs]), if_pos (in_page g o h0 h1), if_pos rfl, at_off]
theorem store_in (p q : Int) (pg : PG) (g o size x : Int) (hg : g = 0 ∨ g = 1) (hp : pmV p q g = 3) (h0 : 0 ≤ o) (h1 : o < 4096) (hs : (bsG g + o) % size = 0) : dvG p q pg g 2 (bsG g + o) size x = (writeV pg (P0 + o) ((putB x).take size.toNat), 0, 0) := by
 unfold dvG dvV
 rw [if_pos hg, if_neg (by simp [hs]), if_pos (in_page g o h0 h1), if_neg (by decide), if_pos hp, at_off]
theorem store_out (p q : Int) (pg : PG) (g a size x : Int) (hp : pmV p q g ≠ 3) : (dvG p q pg g 2 a size x).1 = pg ∧ (dvG p q pg g 2 a size x).2.1 ≠ 0 := by
 unfold dvG dvV
 split
 ·split
  ·exact ⟨rfl, by simp⟩
  ·split
   ·rw [if_neg (by decide)]
    first | (rw [if_neg hp]; exact ⟨rfl, by simp⟩) | exact ⟨rfl, by simp⟩
   ·refine ⟨rfl, ?_⟩
    simp only
    split <;> decide
 ·exact ⟨rfl, by simp⟩
theorem pm3 (g : Int) : pmV 3 3 g = 3 := by unfold pmV; split <;> rfl
theorem cnt_q {pg : PG} {room h t : Nat} {on : List (List Int)} (q : RQ pg room h t on) (p1 p2 g : Int) (hg : g = 0 ∨ g = 1) (hh : h < 18446744073709551616) : cntV (ldV p1 p2 pg g) (bsG g) ((room : Int) + 16) = ((h : Int), (t : Int), 0) := by
 have e0 : ldV p1 p2 pg g (bsG g) = (0, (h : Int)) := by
  have := load_in p1 p2 pg g 0 8 0 hg (by omega) (by omega) (by unfold bsG; omega)
  rw [Int.add_zero, Int.add_zero] at this
  unfold ldV
  rw [this]
  exact congrArg (Prod.mk 0) q.hd
 have e1 : ldV p1 p2 pg g (bsG g + 8) = (0, (t : Int)) := by
  have := load_in p1 p2 pg g 8 8 0 hg (by omega) (by omega) (by unfold bsG; omega)
  unfold ldV
  rw [this]
  exact congrArg (Prod.mk 0) q.tl
 have hu := q.used
 have hf := q.fits
 have hw : IntKind.u64.wrap ((h : Int) - (t : Int)) = (h : Int) - (t : Int) := IntWalk.u64_in _ (by omega)
 unfold cntV
 rw [e0, e1]
 simp only [hw]
 rw [if_neg (by simp), if_neg (by simp), if_neg (by omega)]
theorem plcN_plc (g : Int) (room h i : Nat) (_hr : 0 < room) (hh : h + i < 18446744073709551616) : plcN (bsG g) ((room : Int) + 16) (h : Int) i = bsG g + (16 + (((h + i) % room : Nat) : Int)) := by
 have hw : IntKind.u64.wrap ((h : Int) + (i : Int)) = ((h + i : Nat) : Int) := by rw [← Int.natCast_add]; exact IntWalk.u64_in _ (by omega)
 unfold plcN
 rw [hw, show (room : Int) + 16 - 16 = (room : Int) by omega, Int.natCast_emod]
 omega
theorem putB_one (c : Int) (hc : 0 ≤ c ∧ c < 256) : (putB c).take (1 : Int).toNat = [c] := by
 have h : (putB c).take (1 : Int).toNat = [c % 256] := by
  unfold putB
  simp [List.range_succ]
 rw [h, Int.emod_eq_of_lt hc.1 hc.2]
theorem sendZ_cons (base n fr : Int) (c : Int) (M : List Int) (hs : ∀ i : Nat, i < M.length → plcN base n fr (i + 1) = plcN base n (fr + 1) i) : sendZ base n fr (c :: M) = (plcN base n fr 0, c) :: sendZ base n (fr + 1) M := by
 unfold sendZ
 have hf : List.finRange (c :: M).length = (0 : Fin (M.length + 1)) :: (List.finRange M.length).map Fin.succ := List.finRange_succ
 refine (congrArg (List.map (plB base n fr (c :: M))) hf).trans ?_
 rw [List.map_cons, List.map_map]
 refine List.cons_eq_cons.2 ⟨rfl, ?_⟩
 refine List.map_congr_left fun i _ => ?_
 simp only [Function.comp, plB, Fin.val_succ, List.getElem_cons_succ]
 rw [hs i.val i.isLt]
theorem sts_q (p1 p2 g : Int) (hg : g = 0 ∨ g = 1) (hp : pmV p1 p2 g = 3) (room : Nat) (hr : 0 < room) (h4 : room + 16 ≤ 4096) : ∀ (M : List Int) (pg : PG) (h : Nat), (∀ c ∈ M, 0 ≤ c ∧ c < 256) → h + M.length < 18446744073709551616 →
  stsP p1 p2 g pg (sendZ (bsG g) ((room : Int) + 16) (h : Int) M) = (stsV room pg h M, 0)
 | [], pg, h, _, _ => rfl
 | c :: M, pg, h, hc, hl => by
  rw [List.length_cons] at hl
  have hs : ∀ i : Nat, i < M.length → plcN (bsG g) ((room : Int) + 16) (h : Int) (i + 1) = plcN (bsG g) ((room : Int) + 16) ((h : Int) + 1) i := fun i hi => by
   have e : (h : Int) + 1 = ((h + 1 : Nat) : Int) := by omega
   rw [e, plcN_plc g room h (i + 1) hr (by omega), plcN_plc g room (h + 1) i hr (by omega)]
   rw [show h + (i + 1) = h + 1 + i by omega]
  rw [sendZ_cons _ _ _ _ _ hs]
  have hb := hc c (by simp)
  have hm := Nat.mod_lt (h + 0) hr
  have e1 := plcN_plc g room h 0 hr (by omega)
  have hst := store_in p1 p2 pg g (16 + (((h + 0) % room : Nat) : Int)) 1 c hg hp (by omega) (by omega) (by omega)
  unfold stsP
  simp only [e1, hst, putB_one c hb]
  rw [if_neg (by simp)]
  have e2 : (h : Int) + 1 = ((h + 1 : Nat) : Int) := by omega
  rw [e2, sts_q p1 p2 g hg hp room hr h4 M _ (h + 1) (fun x hx => hc x (by simp [hx])) (by omega)]
  have e3 : P0 + (16 + (((h + 0) % room : Nat) : Int)) = plc room h := by unfold plc; rw [Nat.add_zero]; omega
  rw [e3]
  rfl
theorem send_q {pg : PG} {room h t : Nat} {on : List (List Int)} (q : RQ pg room h t on) (p1 p2 g : Int) (hg : g = 0 ∨ g = 1) (hp : pmV p1 p2 g = 3) (l : List Int) (hc : ∀ c ∈ l, 0 ≤ c ∧ c < 256) (hl : l.length ≤ 200) (hh : h ≤ 1000000) :
  ((encQ on).length + (l.length + 4) ≤ room → (sendV p1 p2 g (bsG g) ((room : Int) + 16) pg l).2 = 0 ∧ RQ (sendV p1 p2 g (bsG g) ((room : Int) + 16) pg l).1 room (h + (l.length + 4)) t (on ++ [l])) ∧
  (¬ (encQ on).length + (l.length + 4) ≤ room → (sendV p1 p2 g (bsG g) ((room : Int) + 16) pg l).2 = (if room < l.length + 4 then 2 else 131) ∧ (sendV p1 p2 g (bsG g) ((room : Int) + 16) pg l).1 = pg) := by
 have hu := q.used
 have hct := cnt_q q p1 p2 g hg (by omega)
 have hw : IntKind.u64.wrap ((h : Int) - (t : Int)) = (h : Int) - (t : Int) := IntWalk.u64_in _ (by omega)
 have hm : ∀ c ∈ encR l, 0 ≤ c ∧ c < 256 := fun c hx => by
  unfold encR at hx
  rcases List.mem_append.1 hx with hx | hx
  ·exact len4_byte _ c hx
  ·exact hc c hx
 have hz := sts_q p1 p2 g hg hp room (by have := q.r0; omega) q.r1 (encR l) pg h hm (by rw [encR_len]; omega)
 have hw2 : IntKind.u64.wrap ((h : Int) + ((l.length : Int) + 4)) = ((h + (l.length + 4) : Nat) : Int) := by
  rw [show (h : Int) + ((l.length : Int) + 4) = ((h + (l.length + 4) : Nat) : Int) by omega]
  exact IntWalk.u64_in _ (by omega)
 have hst := store_in p1 p2 (stsV room pg h (encR l)) g 0 8 ((h + (l.length + 4) : Nat) : Int) hg hp (by omega) (by omega) (by unfold bsG; omega)
 rw [Int.add_zero, Int.add_zero, List.take_of_length_le (by rw [putB_len]; decide)] at hst
 unfold sendV
 simp only [hct, hw, hz, hw2, hst]
 refine ⟨fun hf => ?_, fun hf => ?_⟩
 ·rw [if_neg (by omega), if_neg (by simp), if_neg (by omega), if_neg (by simp)]
  exact ⟨rfl, q.send hc (by omega) hf (by omega)⟩
 ·by_cases h1 : (room : Int) + 16 - 16 - 4 < (l.length : Int)
  ·rw [if_pos h1, if_pos (by omega)]; exact ⟨rfl, rfl⟩
  ·rw [if_neg h1, if_neg (by simp), if_pos (by omega), if_neg (by omega)]; exact ⟨rfl, rfl⟩
theorem ldB_q {pg : PG} (_hok : PgOk pg) (p1 p2 g : Int) (hg : g = 0 ∨ g = 1) (room fr x : Nat) (hr : 0 < room) (h4 : room + 16 ≤ 4096) (hx : fr + x < 18446744073709551616) : ldB p1 p2 pg g (bsG g) ((room : Int) + 16) (fr : Int) x = (0, bt pg (plc room (fr + x))) := by
 have hm := Nat.mod_lt (fr + x) hr
 unfold ldB
 rw [plcN_plc g room fr x hr hx, load_in p1 p2 pg g _ 1 0 hg (by omega) (by omega) (by omega)]
 have e3 : P0 + (16 + (((fr + x) % room : Nat) : Int)) = plc room (fr + x) := by unfold plc; omega
 have e4 : rdB pg (plc room (fr + x)) (1 : Int).toNat = [bt pg (plc room (fr + x))] := by
  unfold rdB
  simp
 rw [e3, e4]
 simp [le]
theorem recv_q {pg pg' : PG} {room h t : Nat} {on : List (List Int)} (q : RQ pg room h t on) (p1 p2 g : Int) (hg : g = 0 ∨ g = 1) (hp : pmV p1 p2 g = 3) (hh : h ≤ 1000000) {e : Int} {bs : List Int} (hR : RecvOut p1 p2 g (bsG g) ((room : Int) + 16) pg e bs pg') :
  (on = [] → e = 3 ∧ pg' = pg) ∧ (∀ b on', on = b :: on' → e = 0 ∧ bs = b ∧ RQ pg' room h (t + 4 + b.length) on') := by
 have hu := q.used
 have hct := cnt_q q p1 p2 g hg (by omega)
 have hw : IntKind.u64.wrap ((h : Int) - (t : Int)) = (h : Int) - (t : Int) := IntWalk.u64_in _ (by omega)
 have hw4 : IntKind.u64.wrap ((t : Int) + 4) = ((t + 4 : Nat) : Int) := by
  rw [show (t : Int) + 4 = ((t + 4 : Nat) : Int) by omega]
  exact IntWalk.u64_in _ (by omega)
 have hr : 0 < room := by have := q.r0; omega
 unfold RecvOut RecvC at hR
 simp only [hct, hw, hw4] at hR
 refine ⟨?_, ?_⟩
 ·rintro rfl
  have h0 : (encQ []).length = 0 := rfl
  have ht : h = t := by omega
  subst ht
  rcases hR with ⟨_, _, h2, h3 | h3 | h3⟩ | ⟨_, _, _, h3, _⟩
  ·exact absurd rfl h3.1
  ·exact ⟨h3.2.2, h2⟩
  ·exact absurd rfl h3.2.1
  ·exact absurd rfl h3
 ·rintro b on' rfl
  obtain ⟨r1, r2, r3⟩ := q.read
  have hbl := (q.msg b (by simp)).2
  have hlb : ∀ (fr x : Nat), fr + x < 18446744073709551616 → ldB p1 p2 pg g (bsG g) ((room : Int) + 16) (fr : Int) x = (0, bt pg (plc room (fr + x))) := fun fr x hx => ldB_q q.ok p1 p2 g hg room fr x hr q.r1 hx
  have hlen : lenR p1 p2 pg g (bsG g) ((room : Int) + 16) (t : Int) = (b.length : Int) := by
   unfold lenR
   rw [← le_len4 b.length (by omega), ← r1]
   congr 1
   unfold rdP
   refine List.map_congr_left fun i hi => ?_
   have := List.mem_range.1 hi
   rw [hlb t i (by omega)]
  have hw5 : IntKind.u64.wrap (((t + 4 : Nat) : Int) + (b.length : Int)) = ((t + 4 + b.length : Nat) : Int) := by
   rw [← Int.natCast_add]
   exact IntWalk.u64_in _ (by omega)
  have hst := store_in p1 p2 pg g 8 8 ((t + 4 + b.length : Nat) : Int) hg hp (by omega) (by omega) (by unfold bsG; omega)
  rw [List.take_of_length_le (by rw [putB_len]; decide)] at hst
  have hql : (encQ (b :: on')).length = b.length + 4 + (encQ on').length := by rw [encQ_cons, List.length_append, encR_len]
  simp only [hlen, hw5, hst, Int.toNat_natCast] at hR
  rcases hR with ⟨_, _, _, h3 | h3 | ⟨_, _, h3 | ⟨x, hx, h3⟩ | h3 | ⟨x, hx, h3⟩ | h3⟩⟩ | ⟨h1, h2, h3, _, _⟩
  ·exact absurd rfl h3.1
  ·have := h3.2.1; omega
  ·omega
  ·rw [hlb t x (by omega)] at h3; exact absurd rfl h3
  ·omega
  ·rw [hlb (t + 4) x (by omega)] at h3; exact absurd rfl h3
  ·exact absurd rfl h3
  ·refine ⟨h1, ?_, h3 ▸ q.recv (by omega)⟩
   refine h2.trans (Eq.trans ?_ r2)
   unfold rdP
   refine List.map_congr_left fun i hi => ?_
   have := List.mem_range.1 hi
   rw [hlb (t + 4) i (by omega)]
theorem send_ro (p1 p2 g base n : Int) (pg : PG) (l : List Int) (hp : pmV p1 p2 g ≠ 3) : (sendV p1 p2 g base n pg l).1 = pg ∧ (sendV p1 p2 g base n pg l).2 ≠ 0 := by
 have hs : ∀ fr, (stsP p1 p2 g pg (sendZ base n fr (encR l))).1 = pg ∧ (stsP p1 p2 g pg (sendZ base n fr (encR l))).2 ≠ 0 := fun fr => by
  have hne : ∃ c M, sendZ base n fr (encR l) = c :: M := by
   have h1 : (sendZ base n fr (encR l)).length = l.length + 4 := by unfold sendZ; rw [List.length_map, List.length_finRange, encR_len]
   cases h : sendZ base n fr (encR l) with
   | nil => rw [h] at h1; simp at h1
   | cons c M => exact ⟨c, M, rfl⟩
  obtain ⟨c, M, h⟩ := hne
  rw [h]
  obtain ⟨h1, h2⟩ := store_out p1 p2 pg g c.1 1 c.2 hp
  unfold stsP
  rw [if_pos h2]
  exact ⟨h1, h2⟩
 unfold sendV
 split
 ·exact ⟨rfl, by simp⟩
 ·split
  ·rename_i h; exact ⟨rfl, h⟩
  ·split
   ·exact ⟨rfl, by simp⟩
   ·rw [if_pos (hs _).2]; exact hs _
theorem recv_ro {p1 p2 g base n : Int} {pg pg' : PG} {e : Int} {bs : List Int} (hp : pmV p1 p2 g ≠ 3) (hR : RecvOut p1 p2 g base n pg e bs pg') : e ≠ 0 ∧ pg' = pg := by
 unfold RecvOut RecvC at hR
 rcases hR with ⟨h1, _, h2, _⟩ | ⟨_, _, _, _, h3⟩
 ·exact ⟨h1, h2⟩
 ·exact absurd h3 (store_out p1 p2 pg g _ 8 _ hp).2
end Go.Proofs.YtgihknfoncljbaaGreatDoor
