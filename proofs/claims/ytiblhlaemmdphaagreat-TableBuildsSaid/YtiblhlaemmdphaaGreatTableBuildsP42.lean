/- Sorted keys: AppendSeq, Collect, Keys, Sorted. -/
import Derived.Test.YtiblhlaemmdphaaGreatTableBuildsP19
import Derived.Test.YtiblhlaemmdphaaGreatTableBuildsP41
namespace Go.Proofs.YtiblhlaemmdphaaGreat
open Go Go.RowKit Go.Shelf Go.BigFrame Go.Maps Go.MapKept
attribute [local go_sem] Oper.semAt_some
theorem info64 : ∃ i, Tryz.prog.info? 26 = some i ∧ i.zero = some (.int .u64 0) ∧ i.size = 1 ∧ i.bytes = 8 := by
 have h : (Tryz.prog.info? 26).map (fun i => (i.zero, i.size, i.bytes)) = some (some (.int .u64 0), 1, 8) := by kernel_rfl
 obtain ⟨i, h1, h2⟩ := Option.map_eq_some_iff.1 h
 rw [Prod.mk.injEq, Prod.mk.injEq] at h2
 exact ⟨i, h1, h2.1, h2.2.1, h2.2.2⟩
theorem KeepsWalks.put {W : World} {l : Nat} {o o' : Obj} (hl : W.heap[l]? = some o) (ho : o.isWalk = false) : KeepsWalks W (W.putObj l o') :=
 ⟨by simp [World.putObj], fun k p hk hp => by
  by_cases e : k = l
  ·subst e; rw [hl] at hk; injection hk with hk; subst hk; rw [ho] at hp; cases hp
  ·rw [World.putObj_heap_other e]; exact hk⟩
theorem cell_one_new (W : World) (u : Value) (T : TypeId) : ∀ j y, [u][j]? = some y → (W.alloc (.cells #[u] T)).cell? ((⟨W.heap.size, 0, none⟩ : Addr).add j) = some y := by
 intro j y hy
 rcases j with _ | j
 ·simp at hy; subst hy; simp [Addr.add, World.cell?_alloc_new]
 ·simp at hy
theorem row_past {W : World} {base D : Nat} {e : TypeId} {size : Nat} {v : Value} {k : Nat} {xs : List Value} {o : Obj} (h : W.ownsRow base e size v k xs) (hD : W.heap[D]? = some (.deferred (some []))) : (W.putObj D o).ownsRow base e size v k xs := by
 refine h.kept (grownBy_putObj' W D o) ?_
 rcases h.2 with ⟨rfl, _⟩ | ⟨g, cap, cur, rfl, _, hgb, _⟩
 ·exact .inl rfl
 ·refine .inr fun e' => ?_
  have : g = D := by simpa [Value.ownBlock] using e'
  subst this; rw [hD] at hgb; cases hgb
set_option maxRecDepth 100000 in
set_option maxHeartbeats 4000000 in
theorem appKeys_any (Bm pb : Nat) (es : Array MapEntry) (clock : Nat) (hst : Stamped es clock) (ks : List Int) (hks : es.toList.map (·.key) = ks.map (Value.int .u64)) (hnd : ks.Nodup) (w : World) (hm : w.cell? ⟨Bm, 0, none⟩ = some (.map (some pb))) (hes : w.heap[pb]? = some (.map es clock)) (hsz : es.size ≤ 1099511627776) :
  CallsIn Fence.wide 9 Tryz.prog 84 #[.slice none 0 0, .func (.func 62) #[] #[.pointer (some ⟨Bm, 0, none⟩)]] w fun e W' => ∃ (v : Value) (xs : List Int), e = .returned v ∧ xs.Perm ks ∧ W'.ownsRow w.heap.size 26 1 v xs.length (xs.map (Value.int .u64)) ∧ Below w.heap.size w W' := by
 obtain ⟨i0, hi, hz0, hz1, hz2⟩ := info64
 refine callsIn_of_wp_marks Tryz.func84 rfl trivial ?_ rfl
 simp only [Tryz.ntmps84, List.size_toArray, List.length_cons, List.length_nil, Nat.reduceAdd, Nat.reduceSub, Array.replicate_succ, Array.replicate_zero, List.push_toArray, List.append_toArray, List.nil_append, List.cons_append]
 gi_wp2
 have bO := Boxed.new w 42 (.slice none 0 0)
 have hB0 := bone w (.cells #[.slice none 0 0] 42)
 have hszw : (w.alloc (.cells #[.slice none 0 0] 42)).heap.size = w.heap.size + 1 := by simp
 obtain ⟨W0, hW0⟩ : ∃ W0, w.alloc (.cells #[.slice none 0 0] 42) = W0 := ⟨_, rfl⟩
 rw [hW0] at bO hB0 hszw ⊢
 clear hW0
 have hm0 := cell_lt hB0 hm (World.block_lt_of_cell? w _ hm)
 have hes0 := (hB0.block pb (Array.getElem?_eq_some_iff.1 hes).1).trans hes
 refine wpIn_rangeFunc_ownH rfl (by decide) (gf := 62) (lb := #[.pointer (some ⟨Bm, 0, none⟩)]) rfl trivial (enters_of Tryz.func62 (by kernel_rfl) rfl)
  (keys_stops _ Bm pb (by decide) es clock hst ks hks hnd W0 hm0 hes0) KeepsWalks.trans (fun W l o o' _ h1 _ h2 => KeepsWalks.put h1 h2) (Below.refl _ _) (fun _ => rfl)
  (fun pre W => (∃ v, Boxed W w.heap.size 42 v ∧ W.ownsRow w.heap.size 26 1 v pre.length (pre.map (Value.int .u64)) ∧ True) ∧ Below w.heap.size w W)
  (fun _ _ _ => False)
  (OwnFrom.and (Own.from (holdsRow_own w.heap.size w.heap.size 42 26 1 (fun pre : List Int => pre.length) (fun pre => pre.map (Value.int .u64)) (fun pre v => True)) _) (ownFrom_below (Nat.le_refl _) (by omega)))
  (fun _ _ _ _ _ hs _ _ => hs)
  ⟨⟨_, bO, World.ownsRow_nil _ _ _ _, trivial⟩, hB0⟩
  (fun x a' W => a' = { tmps := #[.slice none 0 0, .func (.func 62) #[] #[.pointer (some ⟨Bm, 0, none⟩)], .pointer (some ⟨w.heap.size, 0, none⟩), undef, .slice none 0 0, .int .u64 x, .func (.func 62) #[] #[.pointer (some ⟨Bm, 0, none⟩)], .int .u64 x, undef, undef, undef, undef, undef], defers := [] })
  (fun x a' _ X Y row hs hg hr => hs)
  ?assign ?body ?done ?stop
 case assign =>
  rintro l1 pre x W K hI hK
  gi_wp2
  exact hK _ _ ((KeepsOthers.refl _).from _) (KeepsWalks.refl _) hI rfl
 case body =>
  rintro l1 pre x a' W hl1 ⟨r, hr⟩ ⟨⟨v, hv, hown, _⟩, hB⟩ rfl hlt
  have hc := hv.cell
  gi_wp2_with (gi_at_builtin; refine wpListIn_append_own _ rfl _ _ 42 rfl w.heap.size 26 i0 _ 1 8 Tryz.underlying42 hi hz0 hz1 hz2 rfl (by decide) _ _ _ rfl (hown.alloc _) ⟨W.heap.size, 0, none⟩ 1 1 [.int .u64 x] rfl rfl (cell_one_new _ _ _) (by intro u hu; simp at hu; subst hu; rfl) (by unfold maxLen; omega) (by omega) (by have := hB.size; simp; omega) ?_; intro v' w1 hown' hgrow _; obtain ⟨g', cap', rfl⟩ := ownsRow_succ hown'; obtain ⟨hv1, hv2, hr2, hk2, hb2⟩ := hv.appended (by decide) hown hB.size (Nat.le_refl _) hown' hgrow; have hc1 := hv1.cell; have hf1 := hv1.frozen)
  exact ⟨hk2.from _, hk2.walks, ⟨_, hv2, by rw [List.map_append, List.length_append]; exact hr2, trivial⟩, hB.trans hb2⟩
 case done =>
  rintro D ys W hD hp ⟨⟨v, hv, hown, _⟩, hB⟩ hK
  have hc := hv.cell
  have hown2 := row_past (o := .deferred none) hown hK
  have hB2 : Below w.heap.size w (W.putObj D (.deferred none)) := hB.grown (grownBy_putObj' W D _) hB.size (fun k e => by cases e; omega)
  gi_wp2
  refine ⟨by simp, .inl ⟨_, _, rfl, run_takeDeferred hK, ?_⟩⟩
  exact ⟨_, results_tmp rfl _ _ _, v, ys, rfl, hp, hown2, hB2⟩
 case stop =>
  rintro D c pre W hD _ hF hK
  exact hF.elim
theorem merge_same {xs ks : List Int} (h : xs.Perm ks) : xs.mergeSort (fun x y => decide (x ≤ y)) = ks.mergeSort (fun x y => decide (x ≤ y)) := by
 have ht : ∀ a b c : Int, decide (a ≤ b) = true → decide (b ≤ c) = true → decide (a ≤ c) = true := fun a b c h1 h2 => by simp at h1 h2 ⊢; omega
 have hto : ∀ a b : Int, (decide (a ≤ b) || decide (b ≤ a)) = true := fun a b => by simp; omega
 have h1 := List.pairwise_mergeSort ht hto xs
 have h2 := List.pairwise_mergeSort ht hto ks
 have hp : (xs.mergeSort (fun x y => decide (x ≤ y))).Perm (ks.mergeSort (fun x y => decide (x ≤ y))) := (List.mergeSort_perm _ _).trans (h.trans (List.mergeSort_perm _ _).symm)
 exact hp.eq_of_pairwise (fun a b _ _ h1 h2 => by simp at h1 h2; omega) h1 h2
theorem keys_any (v : Value) (w : World) (hv : ∃ m, v = .map m) : Calls Tryz.prog 30 #[v] w fun e w' => e = .returned (.func (.func 62) #[] #[.pointer (some ⟨w.heap.size, 0, none⟩)]) ∧ w' = w.alloc (.cells #[v] 65) := by
 obtain ⟨m, rfl⟩ := hv
 go_enter Tryz.func30, Tryz.ntmps30
 go_wp2_with fail
 go_ret
 exact ⟨rfl, rfl⟩
set_option maxRecDepth 20000 in
set_option maxHeartbeats 2000000 in
theorem sortKeys_any (Bm pb : Nat) (es : Array MapEntry) (clock : Nat) (hst : Stamped es clock) (ks : List Int) (hks : es.toList.map (·.key) = ks.map (Value.int .u64)) (hnd : ks.Nodup) (w : World) (hm : w.cell? ⟨Bm, 0, none⟩ = some (.map (some pb))) (hes : w.heap[pb]? = some (.map es clock)) (hsz : es.size ≤ 1099511627776) :
  Calls Tryz.prog 29 #[.func (.func 62) #[] #[.pointer (some ⟨Bm, 0, none⟩)]] w fun e W' => ∃ (v : Value) (xs : List Int), e = .returned v ∧ xs = ks.mergeSort (fun x y => decide (x ≤ y)) ∧ ((v = .slice none 0 0 ∧ xs = []) ∨ ∃ g cap, v = .slice (some ⟨g, 0, none⟩) xs.length cap ∧ w.heap.size ≤ g ∧ HU W' g xs.toArray) ∧ Below w.heap.size w W' := by
 have ha := callsIn_wide.1 (appKeys_any Bm pb es clock hst ks hks hnd w hm hes hsz)
 have hcol : Calls Tryz.prog 60 #[.func (.func 62) #[] #[.pointer (some ⟨Bm, 0, none⟩)]] w fun e W' => ∃ (v : Value) (xs : List Int), e = .returned v ∧ xs.Perm ks ∧ W'.ownsRow w.heap.size 26 1 v xs.length (xs.map (Value.int .u64)) ∧ Below w.heap.size w W' := by
  go_enter Tryz.func60, Tryz.ntmps60
  go_wp2_with fail
  refine ha.mono ?_; rintro e w1 ⟨v, xs, rfl, h1, h2, h3⟩
  go_wp2_with fail
  go_ret
  exact ⟨v, xs, rfl, h1, h2, h3⟩
 clear ha
 go_enter Tryz.func29, Tryz.ntmps29
 go_wp2_with fail
 refine hcol.mono ?_; rintro e w1 ⟨v, xs, rfl, hp, hown, hb⟩
 clear hcol
 have hxl : xs.length ≤ 1099511627776 := by
  have h1 := hp.length_eq
  have h2 : ks.length = es.size := by have := congrArg List.length hks; simpa using this.symm
  omega
 have hsort := Sort.sortInt xs
 have hms : xs.mergeSort (fun x y => decide (x ≤ y)) = ks.mergeSort (fun x y => decide (x ≤ y)) := by
  exact merge_same hp
 rw [hms] at hsort
 rcases hown.2 with ⟨rfl, h0⟩ | ⟨g, cap, cur, rfl, hg, hgb, hcap, hmx, hcs, htk⟩
 ·have hx0 : xs = [] := List.eq_nil_of_length_eq_zero (by omega)
  have hk0 : ks = [] := by rw [hx0] at hp; exact hp.nil_eq.symm
  subst hk0
  replace hown := Lib.hid hown
  clear hsort hms
  go_wp2_with fail
  refine (sort64_nil w1).mono ?_; rintro e w2 ⟨rfl, rfl⟩
  go_wp2_with fail
  go_ret
  exact ⟨.slice none 0 0, [], rfl, by simp, .inl ⟨rfl, rfl⟩, hb⟩
 ·have hgl := (Array.getElem?_eq_some_iff.1 hgb).1
  have hH : HU w1 g xs.toArray := ⟨hgl, fun j hj => by
   have hj' : j < xs.length := by simpa using hj
   have e1 : cur[j]? = some (.int .u64 xs[j]) := by
    have e2 : (xs.map (Value.int .u64))[j]? = some (.int .u64 xs[j]) := by rw [List.getElem?_map, List.getElem?_eq_getElem hj']; rfl
    rw [← htk, List.getElem?_take, if_pos (by omega)] at e2
    simpa using e2
   exact ⟨by simp only [World.cell?, hgb]; rw [e1]; simp [hj'], by simp [World.frozen?, hgb]⟩⟩
  have hs := sort64_any g cap xs.length xs.toArray (by simp) w1 hH (by omega)
  clear hH
  replace hown := Lib.hid hown
  replace hs := Lib.hid hs
  replace hsort := Lib.hid hsort
  replace hp := Lib.hid hp
  go_wp2_with fail
  refine hs.out.mono ?_; rintro e w2 ⟨rfl, hR⟩
  clear hs
  go_wp2_with fail
  go_ret
  have hsz2 := hR.sz
  refine ⟨.slice (some ⟨g, 0, none⟩) xs.length cap, (Sort.sort Sort.ltInt xs.toArray).toList, rfl, hsort.out, .inr ⟨g, cap, congrArg (fun n => Value.slice (some ⟨g, 0, none⟩) n cap) (by rw [Array.length_toList]; exact hsz2.symm), hg, hR.hu⟩, ?_⟩
  exact ⟨hR.off.below.os.trans hb.os, hR.off.below.tape.trans hb.tape, hR.off.below.output.trans hb.output, Nat.le_trans hb.size hR.off.below.size, fun i hi => (hR.off.rest i (Nat.lt_of_lt_of_le hi hb.size) (by simp; omega)).trans (hb.block i hi)⟩
end Go.Proofs.YtiblhlaemmdphaaGreat
/- Whether a page has a byte that is not zero. -/
namespace Go.Proofs.YtiblhlaemmdphaaGreat
open Go Go.RowKit Go.Shelf Go.BigFrame Go.Maps Go.MapKept
theorem nz_any (c : Int) (w : World) : Calls Tryz.prog 32 #[.int .u8 c] w fun e w' => e = .returned (.bool (decide (c ≠ 0))) ∧ w' = w := by
 go_enter Tryz.func32, Tryz.ntmps32
 go_wp2_with fail
 go_ret
 refine ⟨?_, rfl⟩
 by_cases h : c = 0 <;> simp [h]
set_option maxRecDepth 20000 in
set_option maxHeartbeats 2000000 in
theorem idxNz_any (a : Option Addr) (cap : Nat) (l : List Int) (w : World) (hx : ∀ i (h : i < l.length), ∃ b, a = some ⟨b, 0, none⟩ ∧ w.cell? ⟨b, i, none⟩ = some (.int .u8 l[i])) (hl : l.length ≤ 4611686018427387904) :
  Calls Tryz.prog 63 #[.slice a l.length cap, .func (.func 32) #[] #[]] w fun e w' => ∃ i : Int, e = .returned (.int .i64 i) ∧ (i < 0 ↔ ∀ c ∈ l, c = 0) ∧ w' = w := by
 have hnz := fun c => nz_any c w
 obtain ⟨N, hN⟩ : ∃ N, l.length = N := ⟨_, rfl⟩
 rw [hN]
 go_enter Tryz.func63, Tryz.ntmps63
 go_wp2_with fail
 go_loopw [8] (fun s wr => ∃ k : Nat, k ≤ N ∧ s = .int .i64 k ∧ wr = w ∧ ∀ i (h : i < l.length), i < k → l[i] = 0) (fun s _ => (N - intOf s).toNat)
 case atStart => exact ⟨0, Nat.zero_le _, rfl, rfl, fun i h h1 => by omega⟩
 case round =>
  obtain ⟨k, hk, rfl, rfl, hz⟩ := hrel
  by_cases hlt : (k : Int) < (N : Int)
  ·have hkl : k < l.length := by omega
   obtain ⟨b, rfl, hc⟩ := hx k hkl
   have hb : (0 : Int) ≤ (k : Int) ∧ (k : Int) < (N : Int) := ⟨by omega, hlt⟩
   have hw1 : IntKind.i64.wrap ((k : Int) + 1) = ((k + 1 : Nat) : Int) := by rw [show (k : Int) + 1 = ((k + 1 : Nat) : Int) by omega]; exact IntWalk.i64_in _ (by omega)
   obtain ⟨c, hce⟩ : ∃ c, l[k] = c := ⟨_, rfl⟩
   rw [hce] at hc
   replace hz := Lib.hid hz
   replace hx := Lib.hid hx
   replace hce := Lib.hid hce
   replace hN := Lib.hid hN
   go_wp2_with fail
   refine (hnz c).mono ?_; rintro e w1 ⟨rfl, rfl⟩
   by_cases h0 : c = 0
   ·subst h0
    go_wp2_with fail
    refine ⟨⟨k + 1, by omega, congrArg (Value.int .i64) (by omega), trivial, fun i h h1 => ?_⟩, by simp [intOf]; omega⟩
    by_cases e : i < k
    ·exact hz.out i h e
    ·have : i = k := by omega
     subst this; exact hce.out
   ·go_wp2_with fail
    go_ret
    have hko := hce.out
    refine ⟨_, rfl, ⟨fun h => by omega, fun h => absurd ((hko.symm.trans (h _ (List.getElem_mem hkl)))) h0⟩, rfl⟩
  ·replace hz := Lib.hid hz
   replace hx := Lib.hid hx
   replace hN := Lib.hid hN
   go_wp2_with fail
   go_ret
   have hNo := hN.out
   refine ⟨_, rfl, ⟨fun _ c hc => ?_, fun _ => by decide⟩, rfl⟩
   obtain ⟨i, h, rfl⟩ := List.getElem_of_mem hc
   exact hz.out i h (by omega)
theorem contNz_any (a : Option Addr) (cap : Nat) (l : List Int) (w : World) (hx : ∀ i (h : i < l.length), ∃ b, a = some ⟨b, 0, none⟩ ∧ w.cell? ⟨b, i, none⟩ = some (.int .u8 l[i])) (hl : l.length ≤ 4611686018427387904) :
  Calls Tryz.prog 31 #[.slice a l.length cap, .func (.func 32) #[] #[]] w fun e w' => e = .returned (.bool (l.any (fun c => decide (c ≠ 0)))) ∧ w' = w := by
 have hi := idxNz_any a cap l w hx hl
 generalize l.length = N at hi ⊢
 go_enter Tryz.func31, Tryz.ntmps31
 go_wp2_with fail
 refine hi.mono ?_; rintro e w1 ⟨i, rfl, h, rfl⟩
 clear hi
 have hq : decide (0 ≤ i) = l.any (fun c => decide (c ≠ 0)) := by
  rw [Bool.eq_iff_iff]
  simp only [decide_eq_true_eq, List.any_eq_true]
  constructor
  ·intro h1
   by_cases h2 : ∀ c ∈ l, c = 0
   ·have := h.2 h2; omega
   ·simp only [Classical.not_forall] at h2
    obtain ⟨c, hc, h3⟩ := h2
    exact ⟨c, hc, h3⟩
  ·rintro ⟨c, hc, h3⟩
   by_cases h1 : i < 0
   ·exact absurd (h.1 h1 c hc) h3
   ·omega
 clear h
 replace hq := Lib.hid hq
 go_wp2_with fail
 go_ret
 exact ⟨by rw [← hq.out]; rfl, rfl⟩
end Go.Proofs.YtiblhlaemmdphaaGreat
/- Touched: the pages with a byte that is not zero. -/
namespace Go.Proofs.YtiblhlaemmdphaaGreat
open Go Go.RowKit Go.Shelf Go.BigFrame Go.Maps Go.MapKept
def leB (x y : Int) : Bool := decide (x ≤ y)
def litP (pg : PG) (n : Int) : Bool := ((pgFind pg n).getD []).any (fun c => decide (c ≠ 0))
def touchV (pg : PG) : List Int := (((pg.map (·.1)).mergeSort leB).filter (litP pg)).map (· * 4096)
def OwnU (w : World) (base : Nat) (v : Value) (l : List Int) : Prop := w.ownsRow base 26 1 v l.length (l.map fun x => .int .u64 x)
theorem OwnU.nil (w : World) (base : Nat) : OwnU w base (.slice none 0 0) [] := World.ownsRow_nil _ _ _ _
def RowU (w : World) (v : Value) (l : List Int) : Prop := ∃ a cap, v = .slice a l.length cap ∧ ∀ i (h : i < l.length), ∃ g, a = some ⟨g, 0, none⟩ ∧ g < w.heap.size ∧ w.cell? ⟨g, i, none⟩ = some (.int .u64 l[i])
theorem OwnU.row {w : World} {base : Nat} {v : Value} {l : List Int} (h : OwnU w base v l) : RowU w v l := by
 obtain ⟨hlen, ⟨rfl, h0⟩ | ⟨g, cap, cur, rfl, hb, hg, hn, hm, hs, hx⟩⟩ := h
 ·obtain rfl : l = [] := List.length_eq_zero_iff.1 h0
  exact ⟨none, 0, rfl, fun i h => by simp at h⟩
 ·refine ⟨some ⟨g, 0, none⟩, cap, rfl, fun i hi => ⟨g, rfl, (Array.getElem?_eq_some_iff.1 hg).1, ?_⟩⟩
  have h1 : (cur.toList.take (l.length * 1))[i]? = some (.int .u64 l[i]) := by rw [hx, List.getElem?_map, List.getElem?_eq_getElem hi]; rfl
  rw [List.getElem?_take, if_pos (by omega)] at h1
  simp only [World.cell?, hg]
  simpa using h1
theorem OwnU.low {w : World} {base base' : Nat} {v : Value} {l : List Int} (h : OwnU w base v l) (hb : base' ≤ base) : OwnU w base' v l := by
 obtain ⟨hlen, h | ⟨g, cap, cur, rfl, hg, hr⟩⟩ := h
 ·exact ⟨hlen, .inl h⟩
 ·exact ⟨hlen, .inr ⟨g, cap, cur, rfl, Nat.le_trans hb hg, hr⟩⟩
theorem RowU.below {w w' : World} {v : Value} {l : List Int} (h : RowU w v l) (hb : Below w.heap.size w w') : RowU w' v l := by
 obtain ⟨a, cap, e, h⟩ := h
 refine ⟨a, cap, e, fun i hi => ?_⟩
 obtain ⟨g, h1, h2, h3⟩ := h i hi
 exact ⟨g, h1, Nat.lt_of_lt_of_le h2 hb.size, (hb.cell (p := ⟨g, i, none⟩) h2).trans h3⟩
theorem infoU64 : (Tryz.prog.info? 26).map (fun i => (i.zero, i.size, i.bytes)) = some (some (.int .u64 0), 1, 8) := by kernel_rfl
theorem page_cells {W : World} {mb pb : Nat} {s z : Int} {L : List Pg} (h : MemP W mb pb s z L) {p : Pg} (hp : p ∈ L) : p.bs.length = 4096 ∧ ∀ i (hi : i < p.bs.length), W.cell? ⟨p.blk, i, none⟩ = some (.int .u8 p.bs[i]) := by
 have hg := h.page p hp
 refine ⟨h.ok.len p.ab (List.mem_map.2 ⟨p, hp, rfl⟩), fun i hi => ?_⟩
 simp only [World.cell?, hg, bytesV]
 simp [hi]
set_option maxRecDepth 20000 in
set_option maxHeartbeats 2000000 in
theorem touched_any (mb pb : Nat) (s z : Int) (L : List Pg) (w : World) (hm : MemP w mb pb s z L) (hL : L.length ≤ 1099511627776) :
  Calls Tryz.prog 12 #[.pointer (some ⟨mb, 0, none⟩)] w fun e w' => ∃ v, e = .returned v ∧ OwnU w' w.heap.size v (touchV (L.map Pg.ab)) ∧ Below w.heap.size w w' := by
 obtain ⟨c0, c1, c2⟩ := hm.cells
 have hmb := hm.lt mb (by simp [memBlks])
 have hpb := hm.lt pb (by simp [memBlks])
 obtain ⟨es, clock, hes, hkv, hst⟩ := hm.mp
 have hks : es.toList.map (·.key) = (L.map Pg.n).map (Value.int .u64) := by
  have h := congrArg (List.map Prod.fst) hkv
  rw [List.map_map, List.map_map] at h
  rw [List.map_map]
  exact h
 have hnd : (L.map Pg.n).Nodup := by
  have h := hm.ok.nodup
  rwa [List.map_map] at h
 have hsz : es.size ≤ 1099511627776 := by
  have := congrArg List.length hks
  simp at this
  omega
 have hky := keys_any (.map (some pb)) w ⟨_, rfl⟩
 have hb0 := bone w (.cells #[.map (some pb)] 65)
 have hc0 : (w.alloc (.cells #[.map (some pb)] 65)).cell? ⟨w.heap.size, 0, none⟩ = some (.map (some pb)) := by simp [World.cell?_alloc_new]
 have hso := sortKeys_any w.heap.size pb es clock hst (L.map Pg.n) hks hnd _ hc0 ((hb0.block pb hpb).trans hes) hsz
 have hnn : L.map Pg.n = (L.map Pg.ab).map (·.1) := by rw [List.map_map]; rfl
 rw [hnn] at hso
 obtain ⟨XS, hXS⟩ : ∃ XS, XS = ((L.map Pg.ab).map (·.1)).mergeSort leB := ⟨_, rfl⟩
 have hmem : ∀ n ∈ XS, 0 ≤ n ∧ n < 4503599627370496 := fun n hn => by
  rw [hXS, List.mem_mergeSort] at hn
  obtain ⟨q, hq, rfl⟩ := List.mem_map.1 hn
  exact hm.ok.num q hq
 have hXl : XS.length ≤ 1099511627776 := by rw [hXS, List.length_mergeSort]; simpa using hL
 clear hkv hks hst hnd hsz hes hnn hpb
 have htv : touchV (L.map Pg.ab) = (XS.filter (litP (L.map Pg.ab))).map (· * 4096) := by rw [hXS]; rfl
 rw [htv]
 clear htv
 replace hXS := Lib.hid hXS
 go_enter Tryz.func12, Tryz.ntmps12
 go_wp2_with fail
 refine hky.mono ?_; rintro e w1 ⟨rfl, rfl⟩
 clear hky
 go_wp2_with fail
 refine hso.mono ?_; rintro e w2 ⟨v, xs, rfl, hx, hvx, hb2⟩
 clear hso
 obtain rfl : xs = XS := hx.trans hXS.out.symm
 clear hx
 have hbw := hb0.trans (hb2.mono (by simp))
 replace hm := hm.below hbw (Nat.le_refl _)
 have hv : RowU w2 v xs := by
  rcases hvx with ⟨rfl, rfl⟩ | ⟨g, cap, rfl, hg, hu⟩
  ·exact ⟨none, 0, rfl, fun i h => by simp at h⟩
  ·exact ⟨_, cap, rfl, fun i h => ⟨g, rfl, hu.1, by simpa [h] using (hu.2 i (by simpa using h)).1⟩⟩
 replace hbw : Below w.heap.size w w2 := hbw
 clear hvx hb2 hb0 hc0 c0 c1 c2
 obtain ⟨va, vc, rfl, hva⟩ := hv
 obtain ⟨N, hN⟩ : ∃ N, xs.length = N := ⟨_, rfl⟩
 rw [hN] at hXl ⊢
 replace hmem := Lib.hid hmem
 replace hva := Lib.hid hva
 replace hN := Lib.hid hN
 go_wp2_with fail
 go_loopw [3, 15] (fun o i wr => ∃ k : Nat, k ≤ N ∧ i = .int .i64 k ∧ OwnU wr w2.heap.size o (((xs.take k).filter (litP (L.map Pg.ab))).map (· * 4096)) ∧ Below w2.heap.size w2 wr) (fun _ i _ => (N - intOf i).toNat)
 case atStart => exact ⟨0, Nat.zero_le _, rfl, OwnU.nil _ _, Below.refl _ _⟩
 case round =>
  obtain ⟨k, hk, rfl, hown, hB⟩ := hrel
  by_cases hlt : (k : Int) < (N : Int)
  ·have hkl : k < xs.length := by have := hN.out; omega
   have hmk := hm.below hB (Nat.le_refl _)
   obtain ⟨c0, c1, c2⟩ := hmk.cells
   obtain ⟨g, rfl, hg, hcg⟩ := hva.out k hkl
   replace hcg := cell_lt hB hcg hg
   have hbd := hmem.out xs[k] (List.getElem_mem hkl)
   have htk : xs.take (k + 1) = xs.take k ++ [xs[k]] := by rw [List.take_succ_eq_append_getElem hkl]
   obtain ⟨n, hn⟩ : ∃ n, xs[k] = n := ⟨_, rfl⟩
   rw [hn] at hcg hbd htk
   have hw1 : IntKind.i64.wrap ((k : Int) + 1) = ((k + 1 : Nat) : Int) := by rw [show (k : Int) + 1 = ((k + 1 : Nat) : Int) by omega]; exact IntWalk.i64_in _ (by omega)
   have hw2 : IntKind.u64.wrap (n * 4096) = n * 4096 := by rw [IntKind.wrap_u64]; omega
   have hb : (0 : Int) ≤ (k : Int) ∧ (k : Int) < (N : Int) := ⟨by omega, hlt⟩
   have hout : ((xs.take (k + 1)).filter (litP (L.map Pg.ab))).map (· * 4096) = ((xs.take k).filter (litP (L.map Pg.ab))).map (· * 4096) ++ (if litP (L.map Pg.ab) n = true then [n * 4096] else []) := by
    rw [htk, List.filter_append, List.map_append]
    congr 1
    by_cases e : litP (L.map Pg.ab) n = true <;> simp [e]
   have hol : (((xs.take k).filter (litP (L.map Pg.ab))).map (· * 4096)).length ≤ 1099511627776 := by
    have h1 := List.length_filter_le (litP (L.map Pg.ab)) (xs.take k)
    rw [List.length_map]
    rw [List.length_take] at h1
    have := hN.out
    omega
   replace hout := Lib.hid hout
   generalize ((xs.take k).filter (litP (L.map Pg.ab))).map (· * 4096) = U at *
   have hzz := hB.size
   have holt := fun r => World.ownsRow.lt hown r
   obtain ⟨ua, uc, rfl, -⟩ := hown.row
   rcases pg_lookup hmk n (by unfold W64; omega) with ⟨hno, hrun⟩ | ⟨p, hp, hpn, hrun⟩
   ·have hl0 : litP (L.map Pg.ab) n = false := by unfold litP; rw [pg_find_none hno]; rfl
    have hcn := contNz_any none 0 [] wr (fun i hi => by simp at hi) (by simp)
    clear hva hmem htk
    replace hmk := Lib.hid hmk
    replace hm := Lib.hid hm
    simp only [List.length_nil, List.any_nil] at hcn
    replace hl0 := Lib.hid hl0
    go_wp2_with fail
    refine hcn.mono ?_; rintro e w5 ⟨rfl, rfl⟩
    clear hcn
    go_wp2_with fail
    exact ⟨⟨k + 1, by omega, congrArg (Value.int .i64) (by omega), by rw [hout.out, hl0.out]; simpa using hown, hB⟩, by simp [intOf]; omega⟩
   ·obtain ⟨hpl, hpc⟩ := page_cells hmk hp
    have hcn := contNz_any (some ⟨p.blk, 0, none⟩) 4096 p.bs wr (fun i hi => ⟨_, rfl, hpc i hi⟩) (by omega)
    have hl1 : litP (L.map Pg.ab) n = p.bs.any (fun c => decide (c ≠ 0)) := by unfold litP; rw [← hpn, pg_find_some hm.ok hp]; rfl
    rw [hpl, ← hl1] at hcn
    generalize litP (L.map Pg.ab) n = q at *
    clear hva hmem hl1 hpc htk
    replace hmk := Lib.hid hmk
    replace hm := Lib.hid hm
    go_wp2_with fail
    refine hcn.mono ?_; rintro e w5 ⟨rfl, rfl⟩
    clear hcn
    cases q
    ·go_wp2_with fail
     exact ⟨⟨k + 1, by omega, congrArg (Value.int .i64) (by omega), by rw [hout.out]; simpa using hown, hB⟩, by simp [intOf]; omega⟩
    ·go_wp2_with (at_builtin; refine wpl_append_int rfl _ _ 42 rfl w2.heap.size 26 infoU64 (by omega) Tryz.underlying42 (.slice ua U.length uc) U (n * 4096) rfl rfl ?_ ?_ ?_ ?_ ?_ ?_; (focus (exact hown)); (focus rfl); (focus (first | rfl | exact hw2)); (focus omega); (focus (exact hzz)); intro v' w6 hown6 hgrow hat)
     exact ⟨⟨k + 1, by omega, congrArg (Value.int .i64) (by omega), by rw [hout.out]; exact hown6, Below.grown (hB.alloc hzz _) hgrow (by simp; omega) (fun r hr => (holt r hr).1)⟩, by simp [intOf]; omega⟩
  ·replace hXS := Lib.hid hXS
   go_wp2_with fail
   go_ret
   have hNo := hN.out
   rw [List.take_of_length_le (by omega)] at hown
   exact ⟨_, rfl, hown.low hbw.size, hbw.trans (hB.mono hbw.size)⟩
end Go.Proofs.YtiblhlaemmdphaaGreat
