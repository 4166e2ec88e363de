/- A sweep: what is laid ahead of it; the iterator as its loop sees it. -/
import Derived.Test.YtdlpgonpikflfaaDoorSwpA
import Derived.Test.YtdlpgonpikflfaaDoorOrdL
namespace Go.Proofs.YtdlpgonpikflfaaDoor
open Go Go.RowKit Go.Shelf Go.BigFrame

attribute [local go_sem] Oper.semAt_some

/-- Four boxes, one behind the other. -/
theorem box_four (w W1 : World) (a b c d : Value) (ta tb tc td : TypeId) (h : W1 = (((w.alloc (.cells #[a] ta)).alloc (.cells #[b] tb)).alloc (.cells #[c] tc)).alloc (.cells #[d] td)) :
    W1.cell? ⟨w.heap.size, 0, none⟩ = some a ∧ W1.cell? ⟨w.heap.size + 1, 0, none⟩ = some b ∧ W1.cell? ⟨w.heap.size + 1 + 1, 0, none⟩ = some c ∧ W1.cell? ⟨w.heap.size + 1 + 1 + 1, 0, none⟩ = some d ∧ W1.heap.size = w.heap.size + 4 ∧ Below w.heap.size w W1 := by
  obtain ⟨x1, h1⟩ : ∃ x, x = w.alloc (.cells #[a] ta) := ⟨_, rfl⟩
  obtain ⟨x2, h2⟩ : ∃ x, x = x1.alloc (.cells #[b] tb) := ⟨_, rfl⟩
  obtain ⟨x3, h3⟩ : ∃ x, x = x2.alloc (.cells #[c] tc) := ⟨_, rfl⟩
  rw [← h1, ← h2, ← h3] at h
  have z1 : x1.heap.size = w.heap.size + 1 := by rw [h1]; simp
  have z2 : x2.heap.size = w.heap.size + 1 + 1 := by rw [h2]; simp [z1]
  have z3 : x3.heap.size = w.heap.size + 1 + 1 + 1 := by rw [h3]; simp [z2]
  have z4 : W1.heap.size = w.heap.size + 1 + 1 + 1 + 1 := by rw [h]; simp [z3]
  have f1 := bone w (.cells #[a] ta)
  rw [← h1] at f1
  have f2 := bone x1 (.cells #[b] tb)
  rw [← h2] at f2
  have f3 := bone x2 (.cells #[c] tc)
  rw [← h3] at f3
  have f4 := bone x3 (.cells #[d] td)
  rw [← h] at f4
  have c1 : x1.cell? ⟨w.heap.size, 0, none⟩ = some a := by rw [h1]; simp [World.cell?_alloc_new]
  have c2 : x2.cell? ⟨x1.heap.size, 0, none⟩ = some b := by rw [h2]; simp [World.cell?_alloc_new]
  have c3 : x3.cell? ⟨x2.heap.size, 0, none⟩ = some c := by rw [h3]; simp [World.cell?_alloc_new]
  have c4 : W1.cell? ⟨x3.heap.size, 0, none⟩ = some d := by rw [h]; simp [World.cell?_alloc_new]
  rw [z1] at c2
  rw [z2] at c3
  rw [z3] at c4
  exact ⟨cell_lt f4 (cell_lt f3 (cell_lt f2 c1 (by omega)) (by omega)) (by omega), cell_lt f4 (cell_lt f3 c2 (by omega)) (by omega), cell_lt f4 c3 (by omega), c4, by omega, bthen (bthen (bthen f1 f2) f3) f4⟩

set_option maxRecDepth 20000 in
set_option maxHeartbeats 1000000 in
theorem descs_in (n wb : Nat) (t k : Int) (c : Int) (w : World) :
    CallsIn Fence.wide n Tryd.prog 51 #[.pointer (some ⟨wb, 0, none⟩), .int .u64 t, .int .i64 c, .int .i64 k] w fun e w' => e = .returned (.func (.func 62) #[] #[.pointer (some ⟨w.heap.size + 1 + 1, 0, none⟩), .pointer (some ⟨w.heap.size, 0, none⟩), .pointer (some ⟨w.heap.size + 1, 0, none⟩), .pointer (some ⟨w.heap.size + 1 + 1 + 1, 0, none⟩)]) ∧ w' = (((w.alloc (.cells #[.pointer (some ⟨wb, 0, none⟩)] 110)).alloc (.cells #[.int .u64 t] 23)).alloc (.cells #[.int .i64 c] 3)).alloc (.cells #[.int .i64 k] 3) := by
  refine callsIn_of_wp Tryd.func51 rfl trivial ?_ rfl
  simp only [Tryd.ntmps51, List.size_toArray, List.length_cons, List.length_nil, Nat.reduceAdd, Nat.reduceSub, Array.replicate_succ, Array.replicate_zero, List.push_toArray, List.append_toArray, List.nil_append, List.cons_append]
  gi_wp2
  go_ret
  exact ⟨rfl, rfl⟩

theorem DBoxes.lt {Bn Bw Ba Bl wb n0 : Nat} {mp : Value} {t k : Int} {n : Nat} {W : World} (h : DBoxes Bn Bw Ba Bl wb n0 mp t k n W) : Bn < W.heap.size ∧ Bw < W.heap.size ∧ Ba < W.heap.size ∧ Bl < W.heap.size ∧ wb < W.heap.size :=
  ⟨World.block_lt_of_cell? W _ h.n, World.block_lt_of_cell? W _ h.w, World.block_lt_of_cell? W _ h.a, World.block_lt_of_cell? W _ h.l, World.block_lt_of_cell? W _ h.m⟩
/-- A descriptor of a table. -/
structure PDIn (rd : Int → Int × Int) (k t : Int) (c : Nat) where
  x : PD
  mem : x ∈ descsV rd k t c
theorem descs_stops (n Bn Bw Ba Bl wb n0 : Nat) (hn : 1 ≤ n) (p : Option Addr) (rd : Int → Int × Int) (w0 w : World) (hrd : Reads (.pointer p) rd n0 w0) (hT : Tab3 w0) (hT0 : 0 < n0) (t k : Int) (c : Nat) (hc : c ≤ 1024) (ht : W64 t)
    (hD : DBoxes Bn Bw Ba Bl wb n0 (.pointer p) t k c w) (hW0 : Below n0 w0 w) :
    SeqStopsK Fence.wide n Tryd.prog 62 #[.pointer (some ⟨Bn, 0, none⟩), .pointer (some ⟨Bw, 0, none⟩), .pointer (some ⟨Ba, 0, none⟩), .pointer (some ⟨Bl, 0, none⟩)] (fun x : PDIn rd k t c => x.1.args) (KeepsD Bn Bw Ba Bl wb n0) (fun ys => ys.map (·.1) = descsV rd k t c) (fun pre => ∃ r, descsV rd k t c = pre.map (·.1) ++ r) (descsV rd k t c).length w := by
  intro l J Jx W hW1 hJ hJx hY h00
  refine (descs1_in n l Bn Bw Ba Bl wb n0 hn p rd w0 hrd hT hT0 t k c hc ht (fun l W => ∃ l' : List (PDIn rd k t c), l'.map (·.1) = l ∧ J l' W) (fun l W => ∃ l' : List (PDIn rd k t c), l'.map (·.1) = l ∧ Jx l' W) ?_ W ?_ (hD.kept (hD.keeps hW1)) (hW0.trans (hW1.mono hD.base)) ⟨[], rfl, h00⟩).mono ?_
  · rintro _ x W' hx ⟨l', rfl, hj⟩ hl
    refine YieldAt.mono (hY l' ⟨x, hx⟩ W' hj (by simpa using hl)) ?_
    rintro e W'' (⟨h1, h2, h3⟩ | ⟨h1, h2⟩)
    · exact .inl ⟨h1, ⟨_, by rw [List.map_append]; rfl, h2⟩, h3⟩
    · exact .inr ⟨h1, _, by rw [List.map_append]; rfl, h2⟩
  · rintro s X Y row ⟨l', h1, h2⟩ hg hr
    exact ⟨l', h1, hJ _ X Y row h2 hg hr⟩
  · rintro e W' ⟨h1, ⟨ys, rfl, l', h2, h3⟩ | ⟨pre, ⟨r, hr⟩, l', rfl, h3⟩⟩
    · exact ⟨h1, .inl ⟨l', h2, h3⟩⟩
    · exact ⟨h1, .inr ⟨l', ⟨r, hr⟩, h3⟩⟩
theorem keepsD_put {Bn Bw Ba Bl wb n0 : Nat} {mp : Value} {t k : Int} {n : Nat} {w : World} (hD : DBoxes Bn Bw Ba Bl wb n0 mp t k n w) (W : World) (l : Nat) (o o' : Obj) (hl : w.heap.size ≤ l) (hlo : W.heap[l]? = some o) (_ : o.isCells = false) (_ : o.isWalk = false) : KeepsD Bn Bw Ba Bl wb n0 W (W.putObj l o') := by
  obtain ⟨h1, h2, h3, h4, h5⟩ := hD.lt
  have hb : ∀ b, b < w.heap.size → (W.putObj l o').heap[b]? = W.heap[b]? := fun b hb => by
    rw [show (W.putObj l o').heap = W.heap.setIfInBounds l o' from rfl, Array.getElem?_setIfInBounds_ne (by omega)]
  exact ⟨(Below.refl n0 W).grown (grownBy_putObj' W l o') (by have := (Array.getElem?_eq_some_iff.1 hlo).1; have := hD.base; omega) (fun k e => by cases e; have := hD.base; omega), hb _ h1, hb _ h2, hb _ h3, hb _ h4, World.cell?_of_block (hb _ h5)⟩
/-- A sweep's step keeps what the iterator wants, where its boxes are nobody's. -/
theorem KeepsD.of_fr {σ : Type} {len : σ → Nat} {step : σ → M5 → σ} {n0 : Nat} {Z : PutsP n0 σ len step} {wb : Nat} {mp : Value} {E T : TypeId} {s s' : Sw σ} {W W' : World} {Bn Bw Ba Bl : Nat} {t k : Int} {n : Nat}
    (hs : SwP Z wb mp E T s W) (hf : Fr (Both2 (OwnW wb) Z.O) W W') (hs' : SwP Z wb mp E T s' W') (hD : DBoxes Bn Bw Ba Bl wb n0 mp t k n W)
    (h1 : ¬ Both2 (OwnW wb) Z.O W Bn) (h2 : ¬ Both2 (OwnW wb) Z.O W Bw) (h3 : ¬ Both2 (OwnW wb) Z.O W Ba) (h4 : ¬ Both2 (OwnW wb) Z.O W Bl) : KeepsD Bn Bw Ba Bl wb n0 W W' := by
  obtain ⟨l1, l2, l3, l4, l5⟩ := hD.lt
  refine ⟨hf.below hs.base (fun k h => (hs.own h).1), (hf.block _ l1 h1).1, (hf.block _ l2 h2).1, (hf.block _ l3 h3).1, (hf.block _ l4 h4).1, ?_⟩
  obtain ⟨v, hv, _⟩ := hs'.wk.row
  rw [hD.m]
  simp [World.cell?, hv]
end Go.Proofs.YtdlpgonpikflfaaDoor
