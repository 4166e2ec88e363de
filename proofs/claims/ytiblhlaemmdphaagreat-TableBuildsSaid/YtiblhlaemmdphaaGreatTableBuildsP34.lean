/- The reference's descriptors of any table and of any piece. -/
import Derived.Test.YtiblhlaemmdphaaGreatTableBuildsP17
import Derived.Test.YtiblhlaemmdphaaGreatTableBuildsP31
import Derived.Test.YtiblhlaemmdphaaGreatTableBuildsP33
namespace Go.Proofs.YtiblhlaemmdphaaGreat
open Go Go.RowKit Go.BigFrame Go.Maps
theorem tab_word {k a : Int} (hk : k = 1 ∨ k = 2) (h0 : 0 ≤ a) (h1 : a < 1099511627776) (h2 : a % 4096 = 0) : (putV k (tabD a)).1 = a + 3 := by
 obtain ⟨q, rfl⟩ : ∃ q, a = 4096 * q := ⟨a / 4096, by omega⟩
 have hm := (tab_put hk h0 h1 h2).2
 unfold putV
 rw [hm, if_neg (by simp)]
 show (if (1 : Int) = 0 then _ else if (1 : Int) = 1 then (joinV [(0, 4096 * q), (0, 1), (1, 1)], (0 : Int)) else _).1 = _
 rw [if_neg (by decide), if_pos rfl]
 exact table_sum q (by omega) (by omega)
theorem leaf_word {lv : Int} {q : M5} (hp : PcOk (lv, q)) : (putV lv (leafD lv q)).1 = q.pa + 1 + oneV (lv == 3) * 2 + (if q.kind = 1 then 1 else 15) * 4 + (if q.kind = 1 then 2 else 3) * 256 + oneV (bits BinOp.and IntKind.i64 q.perm 1 != 0) * 64 + oneV (bits BinOp.and IntKind.i64 q.perm 2 != 0) * 128 + 1 * 1024 + oneV (bits BinOp.and IntKind.i64 q.perm 4 == 0) * 18014398509481984 := by
 have h1 := hp.p0; have h2 := hp.p1; have h3 := hp.pa; have h6 := hp.lv
 simp only at h1 h2 h3 h6
 have hm := (leaf_put hp).2
 have h4096 : q.pa % 4096 = 0 := by
  rcases szK_of h6 with ⟨rfl, e⟩ | ⟨rfl, e⟩ | ⟨rfl, e⟩ <;> rw [e] at h3 <;> omega
 obtain ⟨p, hq⟩ : ∃ p, q.pa = 4096 * p := ⟨q.pa / 4096, by omega⟩
 have hsum := leaf_sum p (oneV (lv == 3)) (if q.kind = 1 then 1 else 15) (if q.kind = 1 then 2 else 3) (oneV (bits BinOp.and IntKind.i64 q.perm 1 != 0)) (oneV (bits BinOp.and IntKind.i64 q.perm 2 != 0)) (oneV true) (oneV (bits BinOp.and IntKind.i64 q.perm 4 == 0))
  (by omega) (by omega) (oneV_bd' _) (by split <;> omega) (by split <;> omega) (oneV_bd' _) (oneV_bd' _) (oneV_bd' _) (oneV_bd' _)
 have hk : (leafD lv q).kind ≠ 0 ∧ (leafD lv q).kind ≠ 1 := by unfold leafD; dsimp only; split <;> omega
 unfold putV
 rw [hm, if_neg (by simp), if_neg hk.1, if_neg hk.2]
 show joinV (leafFields lv (leafD lv q)) = _
 have hj : joinV (leafFields lv (leafD lv q)) = _ := (by rw [leafFields, leafD, hq] : joinV (leafFields lv (leafD lv q)) = _).trans hsum
 rw [hj, hq]
 rfl
set_option maxRecDepth 20000 in
set_option maxHeartbeats 8000000 in
theorem refPutPc {lv : Int} {q : M5} (hp : PcOk (lv, q)) (w : World) :
  Calls Tryz.prog 71 #[.int .i64 lv, .agg #[.int .i64 (if lv = 3 then 3 else 2), .int .u64 q.pa, .int .i64 q.perm, .int .i64 q.kind, .bool true]] w fun e w' => e = .returned (.tuple #[.int .u64 (putV lv (leafD lv q)).1, .int .i64 0]) ∧ Below w.heap.size w w' := by
 have h1 := hp.p0; have h2 := hp.p1; have h3 := hp.pa; have h4 := hp.pm; have h5 := hp.kd; have h6 := hp.lv
 simp only at h1 h2 h3 h4 h5 h6
 have hW := leaf_word hp
 clear hp
 generalize (putV lv (leafD lv q)).1 = wd at *
 generalize q.pa = pa at *
 generalize q.perm = perm at *
 generalize q.kind = kind at *
 have hsz : ∀ W, Calls Tryz.prog 47 #[.int .i64 lv] W fun e w' => e = .returned (.int .u64 (szK lv)) ∧ Below W.heap.size W w' := fun W => refSize_b lv W (by omega)
 obtain ⟨kd, hkd⟩ : ∃ kd : Int, (if lv = 3 then 3 else 2) = kd := ⟨_, rfl⟩
 rw [hkd]
 obtain ⟨W1, hW1⟩ : ∃ W1, W1 = w.alloc (.cells #[.int .i64 kd, .int .u64 pa, .int .i64 perm, .int .i64 kind, .bool true] 117) := ⟨_, rfl⟩
 have hb1 : Below w.heap.size w W1 := by rw [hW1]; exact bone _ _
 have hc : W1.heap[w.heap.size]? = some (.cells #[.int .i64 kd, .int .u64 pa, .int .i64 perm, .int .i64 kind, .bool true] 117 (0, 0)) := by rw [hW1]; exact World.alloc_heap_new _ _
 have hz1 := (Array.getElem?_eq_some_iff.1 hc).1
 have c0 : W1.cell? ⟨w.heap.size, 0, none⟩ = some (.int .i64 kd) := by simp [World.cell?, hc]
 have c1 : W1.cell? ⟨w.heap.size, 1, none⟩ = some (.int .u64 pa) := by simp [World.cell?, hc]
 have c2 : W1.cell? ⟨w.heap.size, 2, none⟩ = some (.int .i64 perm) := by simp [World.cell?, hc]
 have c3 : W1.cell? ⟨w.heap.size, 3, none⟩ = some (.int .i64 kind) := by simp [World.cell?, hc]
 have c4 : W1.cell? ⟨w.heap.size, 4, none⟩ = some (.bool true) := by simp [World.cell?, hc]
 have hpa1 : ¬ (1099511627776 ≤ pa) := by omega
 have hpm0 : ¬ (perm < 0) := by omega
 have hpm1 : ¬ (7 < perm) := by omega
 have hkn0 : ¬ (kind < 0) := by omega
 have hkn1 : ¬ (1 < kind) := by omega
 have hm : pa.tmod (szK lv) = 0 := by rw [Int.tmod_eq_emod_of_nonneg h1, h3]
 have hnz1 : ¬ (1073741824 : Int) = 0 := by decide
 have hnz2 : ¬ (2097152 : Int) = 0 := by decide
 have hnz3 : ¬ (4096 : Int) = 0 := by decide
 clear h3
 have hp8 : perm = 0 ∨ perm = 1 ∨ perm = 2 ∨ perm = 3 ∨ perm = 4 ∨ perm = 5 ∨ perm = 6 ∨ perm = 7 := by omega
 have b1 : oneV (bits BinOp.and IntKind.i64 perm 1 != 0) = perm % 2 := by rcases hp8 with rfl | rfl | rfl | rfl | rfl | rfl | rfl | rfl <;> decide +kernel
 have b2 : oneV (bits BinOp.and IntKind.i64 perm 2 != 0) = perm / 2 % 2 := by rcases hp8 with rfl | rfl | rfl | rfl | rfl | rfl | rfl | rfl <;> decide +kernel
 have b4 : oneV (bits BinOp.and IntKind.i64 perm 4 == 0) = 1 - perm / 4 % 2 := by rcases hp8 with rfl | rfl | rfl | rfl | rfl | rfl | rfl | rfl <;> decide +kernel
 rw [b1, b2, b4] at hW
 clear b1 b2 b4
 replace hp8 := Lib.hid hp8
 replace hW := Lib.hid hW
 rcases h6 with rfl | rfl | rfl
 all_goals
  simp at hkd
  subst hkd
  simp only [show szK 1 = 1073741824 from rfl, show szK 2 = 2097152 from rfl, show szK 3 = 4096 from rfl] at hm hsz
  clear hc
  go_enter Tryz.func71, Tryz.ntmps71
  go_wp2_with fail
  rw [← hW1]
  clear hW1
  refine region_later W1.heap.size W1 (Below.refl _ _) (by kernel_rfl) (by kernel_rfl) ?_
  have y0 := later_cell (B := W1.heap.size) c0 hz1
  have y1 := later_cell (B := W1.heap.size) c1 hz1
  have y2 := later_cell (B := W1.heap.size) c2 hz1
  have y3 := later_cell (B := W1.heap.size) c3 hz1
  repeat (quiet_step ((go_at_call 47; exact quiet_later (Nat.le_refl _) (hsz _))))
  refine wpQuiet_nil ?_
  first | (rintro _ ⟨X, rfl⟩) | (intro X)
  have hX := X.h
  clear y0 y1 y2 y3
  generalize X.x = w2 at *
  have d0 := cell_lt hX c0 hz1
  have d1 := cell_lt hX c1 hz1
  have d2 := cell_lt hX c2 hz1
  have d3 := cell_lt hX c3 hz1
  have d4 := cell_lt hX c4 hz1
  clear c0 c1 c2 c3 c4 hpm0 hpm1 hkn0 hkn1 h4
  rcases h5 with rfl | rfl <;> rcases hp8.out with rfl | rfl | rfl | rfl | rfl | rfl | rfl | rfl
  all_goals
   go_wp2_with fail
   go_ret2
   refine ⟨congrArg (fun x : Int => Ending.returned (Value.tuple #[.int .u64 x, .int .i64 0])) (?_ : _ = wd), bthen hb1 hX⟩
   rw [hW.out]
   simp [oneV]
   try omega
end Go.Proofs.YtiblhlaemmdphaaGreat
/- Plain: the pool of the statements' loader, and what is built with it. -/
namespace Go.Proofs.YtiblhlaemmdphaaGreat
open Go Go.RowKit
def ldT (n : Int) : Two := ⟨1073741824, ramV n, by unfold W64; omega, by unfold W64 ramV; omega⟩
theorem ldT_pool (n : Int) : newV (ldT n) = ⟨1073741824, n % 1024 + 1, [], 0⟩ := by
 have h0 : 0 ≤ n % 1024 := by omega
 have h1 : n % 1024 < 1024 := by omega
 have hg : goodB 1073741824 ((n % 1024 + 1) * 4096) = true := goodB_iff.2 ⟨by omega, by omega⟩
 have hu : upV 1073741824 4096 = (1073741824, true) := by kernel_rfl
 have hl : lastV 1073741824 ((n % 1024 + 1) * 4096) = 1073741824 + ((n % 1024 + 1) * 4096 - 1) := lastV_yes hg
 have e1 : (ldT n).a = 1073741824 := rfl
 have e2 : (ldT n).b = (n % 1024 + 1) * 4096 := rfl
 unfold newV
 rw [e1, e2, hu, hl, if_pos ⟨hg, rfl, by omega⟩]
 congr 1
 omega
theorem pool_facts (n : Int) : PlOk (newV (ldT n)) ∧ PlInv (newV (ldT n)) ∧ ((1073741824 : Int) ≤ (newV (ldT n)).from' ∧ (newV (ldT n)).from' + (newV (ldT n)).count * 4096 ≤ 1073741824 + 16777216 ∧ (0 : Int) ≤ 1073741824 ∧ (1073741824 : Int) + 16777216 ≤ 1099511627776) := by
 refine ⟨(newV_ok _).1, newV_inv _, ?_⟩
 rw [ldT_pool]
 dsimp only
 omega
theorem allP_bd {l : List M5} (h : (needV l).2 = 0) : (allP l).length ≤ 10000 * l.length := by
 have hk : ∀ y ∈ l, (piecesL y).length ≤ 10000 := by
  unfold needV at h
  split at h
  ·rename_i hc; exact hc.2
  ·cases h
 unfold allP
 induction l with
 | nil => simp
 | cons y l ih =>
  have hy := hk y (by simp)
  have ih' : (l.flatMap piecesL).length ≤ 10000 * l.length := by
   clear ih h
   induction l with
   | nil => simp
   | cons z l ih2 =>
    have hz := hk z (by simp)
    have := ih2 fun q hq => hk q (by rcases List.mem_cons.1 hq with rfl | hq <;> simp [*])
    rw [List.flatMap_cons, List.length_append, List.length_cons]
    omega
  rw [List.flatMap_cons, List.length_append, List.length_cons]
  omega
theorem allP_len {l : List M5} : (allP l).length = (l.map fun y => (piecesL y).length).sum := by
 unfold allP
 rw [List.length_flatMap]
end Go.Proofs.YtiblhlaemmdphaaGreat
