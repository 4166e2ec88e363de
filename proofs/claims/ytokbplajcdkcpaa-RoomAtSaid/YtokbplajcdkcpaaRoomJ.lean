/- The walk of the program's At. -/
import Derived.Test.YtokbplajcdkcpaaRoomH
import Derived.Test.YtokbplajcdkcpaaAtA
namespace Go.Proofs.Ytokbplajcdkcpaa
open Go Go.RowKit Go.Shelf Go.BigFrame

theorem hasB_holds (b n a : Int) : hasB b n a = holdsB b n a := by
  cases h : hasB b n a
  · symm
    rw [Bool.eq_false_iff] at h ⊢
    intro h2
    apply h
    unfold holdsB at h2
    simp only [Bool.and_eq_true, decide_eq_true_eq] at h2
    exact hasB_iff.2 ⟨h2.1, h2.2.1, by omega⟩
  · obtain ⟨h1, h2, h3⟩ := hasB_iff.1 h
    unfold holdsB
    rw [h1]; simp; omega
theorem M5.enc_len (x : M5) : x.enc.length = 5 := rfl
theorem cells_encM {w : World} {b off : Nat} {l : List M5} (hcell : ∀ i (h : i < l.length), w.cell? ⟨b, off + i * 5, none⟩ = some (.int .u64 l[i].ipa) ∧ w.cell? ⟨b, off + i * 5 + 1, none⟩ = some (.int .u64 l[i].pa) ∧ w.cell? ⟨b, off + i * 5 + 2, none⟩ = some (.int .u64 l[i].sz) ∧ w.cell? ⟨b, off + i * 5 + 3, none⟩ = some (.int .i64 l[i].perm) ∧ w.cell? ⟨b, off + i * 5 + 4, none⟩ = some (.int .i64 l[i].kind)) :
    ∀ j, j < l.length → ∀ i v, (M5.enc l[j]!)[i]? = some v → w.cell? ⟨b, off + j * 5 + i, none⟩ = some v := by
  intro j hj i v hv
  rw [getElem!_pos l j hj] at hv
  obtain ⟨c0, c1, c2, c3, c4⟩ := hcell j hj
  rcases i with _ | _ | _ | _ | _ | i
  · simp [M5.enc] at hv; rw [← hv]; exact c0
  · simp [M5.enc] at hv; rw [← hv]; exact c1
  · simp [M5.enc] at hv; rw [← hv]; exact c2
  · simp [M5.enc] at hv; rw [← hv]; exact c3
  · simp [M5.enc] at hv; rw [← hv]; exact c4
  · simp [M5.enc] at hv
theorem idxM_none (a : Option Addr) (cap : Nat) (f : Value) (w : World) :
    Calls Try.prog 42 #[.slice a 0 cap, f] w fun e w' => e = .returned (.int .i64 (-1)) ∧ w = w' := by
  go_enter Try.func42, Try.ntmps42
  go_wp2
  go_loop [5, 8] (fun _ i => i = .int .i64 0) (fun _ _ => 0)
  case atStart => rfl
  case round =>
    subst hrel
    go_wp2
    go_ret
    exact ⟨rfl, rfl⟩
def idxM (p : M5 → Bool) (l : List M5) : Int := Lib.idxBy (fun _ y => p y) l default
theorem idxM_any (p : M5 → Bool) (g : Nat) (lb : Array Value) (v : Value) (l : List M5) (w : World) (eg : ∀ args w, (callFunc g args).run Try.prog w = .ok (.enter g args) w) (hv : RowM w v l)
    (hp : PredBelow Try.prog g lb (fun x : M5 => .agg (M5.enc x).toArray) p w) (hl : l.length ≤ 1099511627776) :
    Calls Try.prog 42 #[v, .func (.func g) #[] lb] w fun e w' => e = .returned (.int .i64 (idxM p l)) ∧ Below w.heap.size w w' := by
  obtain ⟨a, cap, rfl, hcap, hrow⟩ := hv
  by_cases h0 : l = []
  · subst h0
    refine (idxM_none a cap _ w).mono ?_
    rintro e w' ⟨rfl, rfl⟩
    exact ⟨rfl, Below.refl _ _⟩
  · obtain ⟨b, off, rfl, hlt, hcell⟩ := hrow h0
    have h := AnyQ.slices_IndexFunc Try.idxMap 5 Try.isAgg39 Try.sizeOf39 M5.enc M5.enc_len p g lb eg b off l.length cap l w hp (Nat.le_refl _) (by omega) hlt (cells_encM hcell)
    rw [List.take_length] at h
    exact h
theorem idxM_of (l : List M5) (at' : Int) (hl : l.length ≤ 1099511627776) : (atM l at' = none ∧ idxM (fun x => hasB x.ipa x.sz at') l = -1) ∨ ∃ k, ∃ h : k < l.length, atM l at' = some l[k] ∧ idxM (fun x => hasB x.ipa x.sz at') l = k := by
  have hf : (fun x : M5 => hasB x.ipa x.sz at') = fun x => x.has at' := by funext x; exact hasB_holds _ _ _
  rw [hf]
  cases h : atM l at' with
  | none =>
    left
    refine ⟨rfl, ?_⟩
    unfold atM at h
    rw [List.find?_eq_none] at h
    have := Lib.idxBy_miss (fun (_ : M5) y => y.has at') l l.length default (fun j hj => by
      have := h l[j]! (by rw [getElem!_pos l j hj]; exact List.getElem_mem hj)
      simpa using this)
    rw [List.take_length] at this
    exact this
  | some x =>
    right
    unfold atM at h
    obtain ⟨h1, k, hk, rfl, h2⟩ := List.find?_eq_some_iff_getElem.1 h
    refine ⟨k, hk, rfl, ?_⟩
    have := Lib.idxBy_hit (fun (_ : M5) y => y.has at') l l.length k default hk (Nat.le_refl _) (by rw [getElem!_pos l k hk]; exact h1) (fun j hj => by
      have := h2 j hj
      rw [getElem!_pos l j (by omega)]; simpa using this)
    rw [List.take_length] at this
    exact this
set_option maxHeartbeats 1000000 in
theorem at1_any (x : M5) (at' : Int) (B : Nat) (w : World) (hB : w.cell? ⟨B, 0, none⟩ = some (.int .u64 at')) :
    Calls Try.prog 43 #[.agg #[.int .u64 x.ipa, .int .u64 x.pa, .int .u64 x.sz, .int .i64 x.perm, .int .i64 x.kind], .pointer (some ⟨B, 0, none⟩)] w fun e w' => e = .returned (.bool (hasB x.ipa x.sz at')) ∧ Below w.heap.size w w' := by
  obtain ⟨n0, n1, n2, n3, n4⟩ := five_new w (.int .u64 x.ipa) (.int .u64 x.pa) (.int .u64 x.sz) (.int .i64 x.perm) (.int .i64 x.kind) 39
  have hb := keepA (x := .cells #[.int .u64 x.ipa, .int .u64 x.pa, .int .u64 x.sz, .int .i64 x.perm, .int .i64 x.kind] 39) hB
  have hbX := bone w (.cells #[.int .u64 x.ipa, .int .u64 x.pa, .int .u64 x.sz, .int .i64 x.perm, .int .i64 x.kind] 39)
  have hlt : w.heap.size < (w.alloc (.cells #[.int .u64 x.ipa, .int .u64 x.pa, .int .u64 x.sz, .int .i64 x.perm, .int .i64 x.kind] 39)).heap.size := by simp
  have hBl := World.block_lt_of_cell? _ _ hb
  go_enter Try.func43, Try.ntmps43
  go_wp2_with fail
  generalize w.alloc (.cells #[.int .u64 x.ipa, .int .u64 x.pa, .int .u64 x.sz, .int .i64 x.perm, .int .i64 x.kind] 39) = W1 at *
  have y0 := later_cell n0 hlt
  have y1 := later_cell n1 hlt
  have y2 := later_cell n2 hlt
  have y3 := later_cell n3 hlt
  have y4 := later_cell n4 hlt
  have y5 := later_cell hb hBl
  refine region_ord (fun z => ∃ X : Later W1.heap.size W1, z = X.x) [([0, 2], 1), ([], 3)] [4] (by kernel_rfl) (by kernel_rfl) (by kernel_rfl) (by kernel_rfl) ⟨⟨_, (Below.refl _ _).drew⟩, rfl⟩ ?_
  simp only [List.map_cons, List.map_nil, List.filterMap_cons, List.filterMap_nil, List.getElem?_cons_succ, List.getElem?_cons_zero]
  have hB10 : Below W1.heap.size W1 W1.drew := (Below.refl _ _).drew
  generalize W1.drew = w10 at *
  refine ord_step ?_
  repeat (change wpQuiet _ _ _ _ (List.cons _ _) _; go_big_quiet_step (fail))
  refine wpQuiet_nil ?_
  intro Q₁ hQ₁
  simp only [Option.toList]
  go_wp2_with fail
  refine (virtual_any x w10).mono ?_; rintro e w11 ⟨rfl, hb11⟩
  have hB11 : Below W1.heap.size W1 w11 := bthen hB10 hb11
  go_wp2_with fail
  refine hQ₁ _ _ ⟨⟨_, hB11⟩, rfl⟩ ?_
  clear hQ₁ Q₁
  refine ord_step ?_
  refine wpQuiet_nil ?_
  intro Q₁ hQ₁
  simp only [Option.toList]
  go_wp2_with fail
  refine (has_any x.ipa x.sz at' w11 x.hi x.hs).mono ?_; rintro e w12 ⟨rfl, hb12⟩
  have hB12 : Below W1.heap.size W1 w12 := bthen hB11 hb12
  go_wp2_with fail
  refine hQ₁ _ _ ⟨⟨_, hB12⟩, rfl⟩ ?_
  clear hQ₁ Q₁
  refine ord_last ?_
  repeat (change wpQuiet _ _ _ _ (List.cons _ _) _; go_big_quiet_step (fail))
  refine wpQuiet_nil ?_
  go_wp2_with fail
  go_ret
  exact ⟨rfl, bthen hbX hB12⟩
structure AtW (b o B : Nat) (at' : Int) (p : M5) where
  x : World
  h0 : x.cell? ⟨b, o, none⟩ = some (.int .u64 p.ipa)
  h1 : x.cell? ⟨b, o + 1, none⟩ = some (.int .u64 p.pa)
  h2 : x.cell? ⟨b, o + 2, none⟩ = some (.int .u64 p.sz)
  h3 : x.cell? ⟨b, o + 3, none⟩ = some (.int .i64 p.perm)
  h4 : x.cell? ⟨b, o + 4, none⟩ = some (.int .i64 p.kind)
  h5 : x.cell? ⟨B, 0, none⟩ = some (.int .u64 at')
set_option maxRecDepth 20000 in
set_option maxHeartbeats 4000000 in
theorem at16_any (v : Value) (l : List M5) (at' : Int) (w : World) (hv : RowM w v l) (ht : W64 at') (hl : l.length ≤ 1099511627776) :
    Calls Try.prog 22 #[v, .int .u64 at'] w fun e w' => e = .returned (.tuple #[((atM l at').getD default).val, .int .u64 (atPA (atM l at') at'), .bool (atM l at').isSome]) ∧ Below w.heap.size w w' := by
  obtain ⟨W0, hW0⟩ : ∃ W0, W0 = (w.alloc (.cells #[.int .u64 at'] 37)).alloc (.cells #[.int .u64 0, .int .u64 0, .int .u64 0, .int .i64 0, .int .i64 0] 39) := ⟨_, rfl⟩
  have hb0 : Below w.heap.size w W0 := by rw [hW0]; exact (bone w _).trans ((bone _ _).mono (by simp))
  have hz0 : W0.heap.size = w.heap.size + 2 := by rw [hW0]; simp
  have ca : W0.cell? ⟨w.heap.size, 0, none⟩ = some (.int .u64 at') := by
    rw [hW0]; exact keepA (by simp [World.cell?_alloc_new])
  have hb4 : W0.heap[w.heap.size + 1]? = some (.cells #[.int .u64 0, .int .u64 0, .int .u64 0, .int .i64 0, .int .i64 0] 39 (0, 0)) := by
    rw [hW0]
    have := World.alloc_heap_new (w.alloc (.cells #[.int .u64 at'] 37)) (.cells #[.int .u64 0, .int .u64 0, .int .u64 0, .int .i64 0, .int .i64 0] 39)
    simpa using this
  have hidx := idxM_any (fun x => hasB x.ipa x.sz at') 43 #[.pointer (some ⟨w.heap.size, 0, none⟩)] v l W0 (enters_of Try.func43 (by kernel_rfl) rfl) (hv.below hb0) (fun W x hb => (at1_any x at' w.heap.size W (cell_lt hb ca (by omega))).mono fun _ _ ⟨he, hb'⟩ => ⟨he, bthen hb hb'⟩) hl
  obtain ⟨a1, cp1, rfl, _, hc1⟩ := hv
  have hio := idxM_of l at' hl
  generalize idxM (fun x => hasB x.ipa x.sz at') l = ix at *
  go_enter Try.func22, Try.ntmps22
  go_wp2_with fail
  rw [← hW0]
  refine hidx.mono ?_; rintro e w1 ⟨rfl, hb1⟩
  have hB1 : Below w.heap.size w w1 := bthen hb0 hb1
  replace ca := cell_lt hb1 ca (by omega)
  replace hb4 := (hb1.block (w.heap.size + 1) (by omega)).trans hb4
  have hz1 : w.heap.size + 2 ≤ w1.heap.size := by have := hb1.size; omega
  have d0 : w1.cell? ⟨w.heap.size + 1, 0, none⟩ = some (.int .u64 0) := by simp [World.cell?, hb4]
  have d1 : w1.cell? ⟨w.heap.size + 1, 1, none⟩ = some (.int .u64 0) := by simp [World.cell?, hb4]
  have d2 : w1.cell? ⟨w.heap.size + 1, 2, none⟩ = some (.int .u64 0) := by simp [World.cell?, hb4]
  have d3 : w1.cell? ⟨w.heap.size + 1, 3, none⟩ = some (.int .i64 0) := by simp [World.cell?, hb4]
  have d4 : w1.cell? ⟨w.heap.size + 1, 4, none⟩ = some (.int .i64 0) := by simp [World.cell?, hb4]
  have f0 : w1.frozen? ⟨w.heap.size + 1, 0, none⟩ = false := by simp [World.frozen?, hb4]
  have f1 : w1.frozen? ⟨w.heap.size + 1, 1, none⟩ = false := by simp [World.frozen?, hb4]
  have f2 : w1.frozen? ⟨w.heap.size + 1, 2, none⟩ = false := by simp [World.frozen?, hb4]
  have f3 : w1.frozen? ⟨w.heap.size + 1, 3, none⟩ = false := by simp [World.frozen?, hb4]
  have f4 : w1.frozen? ⟨w.heap.size + 1, 4, none⟩ = false := by simp [World.frozen?, hb4]
  clear hidx hb1 hb0 hW0 hb4
  rcases hio with ⟨ho, rfl⟩ | ⟨k, hk, ho, rfl⟩
  · go_wp2_with fail
    refine bodyPost_ret (v := .tuple #[.agg #[.int .u64 0, .int .u64 0, .int .u64 0, .int .i64 0, .int .i64 0], .int .u64 0, .bool false]) (by simp [results, Try.results22, go_sem, M5.val, d0, d1, d2, d3, d4]) rfl ?_
    rw [ho]
    exact ⟨rfl, below_five hB1 (by omega) _ _ _ _ _⟩
  · obtain ⟨b, off, rfl, hb, hcell⟩ := hc1 (by rintro rfl; simp at hk)
    obtain ⟨p0, p1, p2, p3, p4⟩ := hcell k hk
    replace p0 := cell_lt hB1 p0 hb
    replace p1 := cell_lt hB1 p1 hb
    replace p2 := cell_lt hB1 p2 hb
    replace p3 := cell_lt hB1 p3 hb
    replace p4 := cell_lt hB1 p4 hb
    clear hcell hc1
    generalize l[k] = x at *
    go_wp2_with fail
    haveI : Nonempty (AtW b (off + k * 5) w.heap.size at' x) := ⟨⟨w1, p0, p1, p2, p3, p4, ca⟩⟩
    refine region_ord (fun z => ∃ X : AtW b (off + k * 5) w.heap.size at' x, z = X.x) [([0, 1, 2, 3, 4, 5, 6, 7, 8, 9, 10, 11, 12, 13, 14, 15, 16], 17)] [18, 19] (by kernel_rfl) (by kernel_rfl) (by kernel_rfl) (by kernel_rfl) ⟨⟨w1.drew, p0, p1, p2, p3, p4, ca⟩, rfl⟩ ?_
    simp only [List.map_cons, List.map_nil, List.filterMap_cons, List.filterMap_nil, List.getElem?_cons_succ, List.getElem?_cons_zero]
    have u0 := fun X : AtW b (off + k * 5) w.heap.size at' x => X.h0
    have u1 := fun X : AtW b (off + k * 5) w.heap.size at' x => X.h1
    have u2 := fun X : AtW b (off + k * 5) w.heap.size at' x => X.h2
    have u3 := fun X : AtW b (off + k * 5) w.heap.size at' x => X.h3
    have u4 := fun X : AtW b (off + k * 5) w.heap.size at' x => X.h4
    have u5 := fun X : AtW b (off + k * 5) w.heap.size at' x => X.h5
    have hBd : Below w.heap.size w w1.drew := hB1.drew
    have hf0 : ∀ o, w1.drew.frozen? ⟨w.heap.size + 1, o, none⟩ = w1.frozen? ⟨w.heap.size + 1, o, none⟩ := fun _ => rfl
    replace d0 : w1.drew.cell? ⟨w.heap.size + 1, 0, none⟩ = some (.int .u64 0) := d0
    replace d1 : w1.drew.cell? ⟨w.heap.size + 1, 1, none⟩ = some (.int .u64 0) := d1
    replace d2 : w1.drew.cell? ⟨w.heap.size + 1, 2, none⟩ = some (.int .u64 0) := d2
    replace d3 : w1.drew.cell? ⟨w.heap.size + 1, 3, none⟩ = some (.int .i64 0) := d3
    replace d4 : w1.drew.cell? ⟨w.heap.size + 1, 4, none⟩ = some (.int .i64 0) := d4
    replace f0 : w1.drew.frozen? ⟨w.heap.size + 1, 0, none⟩ = false := f0
    replace f1 : w1.drew.frozen? ⟨w.heap.size + 1, 1, none⟩ = false := f1
    replace f2 : w1.drew.frozen? ⟨w.heap.size + 1, 2, none⟩ = false := f2
    replace f3 : w1.drew.frozen? ⟨w.heap.size + 1, 3, none⟩ = false := f3
    replace f4 : w1.drew.frozen? ⟨w.heap.size + 1, 4, none⟩ = false := f4
    replace p0 : w1.drew.cell? ⟨b, off + k * 5, none⟩ = _ := p0
    replace p1 : w1.drew.cell? ⟨b, off + k * 5 + 1, none⟩ = _ := p1
    replace p2 : w1.drew.cell? ⟨b, off + k * 5 + 2, none⟩ = _ := p2
    replace p3 : w1.drew.cell? ⟨b, off + k * 5 + 3, none⟩ = _ := p3
    replace p4 : w1.drew.cell? ⟨b, off + k * 5 + 4, none⟩ = _ := p4
    replace ca : w1.drew.cell? ⟨w.heap.size, 0, none⟩ = _ := ca
    clear hB1 hz1 hf0
    generalize w1.drew = wd at *
    refine ord_step ?_
    repeat (change wpQuiet _ _ _ _ (List.cons _ _) _; go_big_quiet_step (fail))
    refine wpQuiet_nil ?_
    intro Q₁ hQ₁
    simp only [Option.toList]
    go_wp2_with fail
    have hoth : ∀ (q o : Nat) (u x0 x1 x2 x3 x4 : Value), q < w.heap.size + 1 → wd.cell? ⟨q, o, none⟩ = some u → (((((wd.setCell ⟨w.heap.size + 1, 0, none⟩ x0).setCell ⟨w.heap.size + 1, 1, none⟩ x1).setCell ⟨w.heap.size + 1, 2, none⟩ x2).setCell ⟨w.heap.size + 1, 3, none⟩ x3).setCell ⟨w.heap.size + 1, 4, none⟩ x4).cell? ⟨q, o, none⟩ = some u := fun q o u x0 x1 x2 x3 x4 hq hc => by
      have hb5 := below_five (Below.refl (w.heap.size + 1) wd) (Nat.le_refl _) x0 x1 x2 x3 x4
      exact (World.cell?_of_block (hb5.block q hq)).trans hc
    refine hQ₁ _ _ ⟨⟨_, hoth _ _ _ _ _ _ _ _ (by omega) p0, hoth _ _ _ _ _ _ _ _ (by omega) p1, hoth _ _ _ _ _ _ _ _ (by omega) p2, hoth _ _ _ _ _ _ _ _ (by omega) p3, hoth _ _ _ _ _ _ _ _ (by omega) p4, hoth _ _ _ _ _ _ _ _ (by omega) ca⟩, rfl⟩ ?_
    clear hQ₁ Q₁ hoth
    refine ord_last ?_
    repeat (change wpQuiet _ _ _ _ (List.cons _ _) _; go_big_quiet_step (fail))
    refine wpQuiet_nil ?_
    go_wp2_with fail
    refine bodyPost_ret (v := .tuple #[x.val, .int .u64 (IntKind.u64.wrap (x.pa + IntKind.u64.wrap (at' - x.ipa))), .bool true]) (by simp [results, Try.results22, go_sem, M5.val, d0, d1, d2, d3, d4]) rfl ?_
    rw [ho]
    refine ⟨?_, below_five hBd (by omega) _ _ _ _ _⟩
    rw [show IntKind.u64.wrap (x.pa + IntKind.u64.wrap (at' - x.ipa)) = atPA (some x) at' from by
      show _ = (x.pa + (at' - x.ipa)) % 18446744073709551616
      rw [IntKind.wrap_u64, IntKind.wrap_u64]; omega]
    rfl
end Go.Proofs.Ytokbplajcdkcpaa
