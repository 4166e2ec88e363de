/- The parts of a guest: the iterator. -/
import Derived.RangeFuncBox
import Derived.RangeFuncNested
import Derived.RangeFuncBound
import Derived.RangeFuncCalls
import Derived.RangeFuncLeaves
import Derived.Shelf.Abstract
import Derived.Shelf.RegionOpen
import Derived.WalkKit
import Derived.OwnWalkIn
import Derived.TacticsInMore
import Derived.LoopNIn
import Derived.LoopIn
import Derived.ControlIn
import Derived.Sort.QuietTacIn
import Derived.Test.YtffdfeekpfmbeaaGreatValidChecksP5
import Derived.Test.YtffdfeekpfmbeaaGreatValidChecksP8
import Derived.Test.YtffdfeekpfmbeaaGreatValidChecksP10
namespace Go.Proofs.YtffdfeekpfmbeaaGreat
open Go Go.RowKit Go.Shelf Go.BigFrame

attribute [local go_sem] Oper.semAt_some

def winM (x : WinV) : M5 := ⟨x.ipa, x.pa, x.sz, x.perm, 0, x.hi, x.hp, x.hs⟩
def devM (x : DevV) : M5 := ⟨x.ipa, x.pa, x.sz, 3, 1, x.hi, x.hp, x.hs⟩
def endPart (c : ChV) (e : EndV) : M5 := ⟨e.ipa, c.pa, c.sz, e.perm, 0, e.hi, c.hp, c.hs⟩
def endL (gi : Int) (c : ChV) (e : EndV) : List M5 := if e.g = gi then [endPart c e] else []
def chM (gi : Int) (c : ChV) : List M5 := endL gi c c.e0 ++ endL gi c c.e1
/-- What a guest has, in the order of ranks. -/
def partsV (g : GuestV) (chs : List ChV) (gi : Int) : List M5 := g.win.map winM ++ (g.dev.map devM ++ chs.flatMap (chM gi))

/-- What the holder of a slice in a variable of its own may change. -/
def OT (tb : Nat) (W : World) (k : Nat) : Prop := k = tb ∨ ∃ v, W.cell? ⟨tb, 0, none⟩ = some v ∧ v.ownBlock = some k
structure KpT (tb : Nat) (W W' : World) : Prop where
  os : W'.os = W.os
  tape : W'.tape = W.tape
  output : W'.output = W.output
  size : W.heap.size ≤ W'.heap.size
  keep : ∀ (k : Nat) (o : Obj), W.heap[k]? = some o → o.isCells = true → ¬ OT tb W k → W'.heap[k]? = some o ∧ ¬ OT tb W' k
  lows : (∀ k, OT tb W k → k < W.heap.size) → ∀ k, OT tb W' k → k < W'.heap.size
theorem KpT.refl (tb : Nat) (W : World) : KpT tb W W := ⟨rfl, rfl, rfl, Nat.le_refl _, fun _ _ h _ n => ⟨h, n⟩, fun h => h⟩
theorem KpT.trans {tb : Nat} {A B C : World} (h : KpT tb A B) (k : KpT tb B C) : KpT tb A C :=
  ⟨k.os.trans h.os, k.tape.trans h.tape, k.output.trans h.output, Nat.le_trans h.size k.size, fun b o h1 h2 h3 => by
    obtain ⟨a1, a2⟩ := h.keep b o h1 h2 h3
    exact k.keep b o a1 h2 a2, fun hl => k.lows (h.lows hl)⟩
theorem ot_same {tb : Nat} {A B : World} (h : B.heap[tb]? = A.heap[tb]?) (k : Nat) : OT tb B k ↔ OT tb A k := by
  unfold OT
  rw [show B.cell? ⟨tb, 0, none⟩ = A.cell? ⟨tb, 0, none⟩ from World.cell?_of_block h]
theorem KpT.of_below {tb : Nat} {A B : World} (ht : tb < A.heap.size) (h : Below A.heap.size A B) : KpT tb A B :=
  ⟨h.os, h.tape, h.output, h.size, fun k _o h1 _ h3 => ⟨(h.block k (Array.getElem?_eq_some_iff.1 h1).1).trans h1, fun e => h3 ((ot_same (h.block tb ht) k).1 e)⟩,
    fun hl k e => Nat.lt_of_lt_of_le (hl k ((ot_same (h.block tb ht) k).1 e)) h.size⟩
theorem cells_of_cell {W : World} {b o : Nat} {v : Value} (h : W.cell? ⟨b, o, none⟩ = some v) : ∃ ob : Obj, W.heap[b]? = some ob ∧ ob.isCells = true := by
  unfold World.cell? at h
  simp only at h
  split at h
  · rename_i hh; exact ⟨_, hh, rfl⟩
  · cases h
theorem KpT.cell {tb b o : Nat} {A B : World} {v : Value} (h : KpT tb A B) (hn : ¬ OT tb A b) (hc : A.cell? ⟨b, o, none⟩ = some v) : B.cell? ⟨b, o, none⟩ = some v ∧ ¬ OT tb B b := by
  obtain ⟨ob, h1, h2⟩ := cells_of_cell hc
  obtain ⟨h3, h4⟩ := h.keep b ob h1 h2 hn
  exact ⟨(World.cell?_of_block (h3.trans h1.symm)).trans hc, h4⟩
theorem kpT_put {tb n : Nat} (hn : tb < n) (W : World) (l : Nat) (o o' : Obj) (hl : n ≤ l) (hlo : W.heap[l]? = some o) (hco : o.isCells = false) (_ : o.isWalk = false) : KpT tb W (W.putObj l o') := by
  have hb : ∀ k, k ≠ l → (W.putObj l o').heap[k]? = W.heap[k]? := fun k hk => by
    have : l ≠ k := fun e => hk e.symm
    simp [World.putObj, this]
  have hs : (W.putObj l o').heap.size = W.heap.size := by simp [World.putObj]
  refine ⟨rfl, rfl, rfl, by omega, fun k ob h1 h2 h3 => ?_, fun hl k e => ?_⟩
  · have hk : k ≠ l := fun e => by subst e; rw [hlo] at h1; cases h1; rw [hco] at h2; cases h2
    exact ⟨(hb k hk).trans h1, fun e => h3 ((ot_same (hb tb (by omega)) k).1 e)⟩
  · rw [hs]; exact hl k ((ot_same (hb tb (by omega)) k).1 e)
theorem abides_on {β : Type} {B : Nat} {J : β → World → Prop} (hJ : AbidesFrom B J) {s : β} {w w' : World} (h : J s w) (hb : Below w.heap.size w w') : J s w' :=
  hJ s w w' none h ⟨hb.os, hb.tape, hb.output, hb.size, fun k hk _ => hb.block k hk⟩ (fun _ e => by cases e)
theorem pre_lt_map {α : Type} {f : α → M5} {l : List α} {k : Nat} (hk : k < l.length) {a r P : List M5} (h : P = a ++ (l.map f ++ r)) : (a ++ (l.take k).map f).length < P.length := by
  rw [h]
  simp only [List.length_append, List.length_map, List.length_take]
  omega
theorem eight_newX (W : World) (a b c d e f g h : Value) (t : TypeId) : ∃ V, V = W.alloc (.cells #[a, b, c, d, e, f, g, h] t) ∧ V.heap.size = W.heap.size + 1 ∧ Below W.heap.size W V ∧ V.cell? ⟨W.heap.size, 0, none⟩ = some a ∧ V.cell? ⟨W.heap.size, 1, none⟩ = some b ∧ ∀ i u, (#[a, b, c, d, e, f, g, h] : Array Value)[i]? = some u → V.cell? ⟨W.heap.size, i, none⟩ = some u :=
  ⟨_, rfl, by simp, bone _ _, by simp [World.cell?_alloc_new], by simp [World.cell?_alloc_new], fun i u hu => by rw [World.cell?_alloc_new]; exact hu⟩
theorem three_newX (W : World) (a b c : Value) (t : TypeId) : ∃ V, V = W.alloc (.cells #[a, b, c] t) ∧ V.heap.size = W.heap.size + 1 ∧ Below W.heap.size W V ∧ V.cell? ⟨W.heap.size, 0, none⟩ = some a ∧ V.cell? ⟨W.heap.size, 1, none⟩ = some b ∧ V.cell? ⟨W.heap.size, 2, none⟩ = some c :=
  ⟨_, rfl, by simp, bone _ _, by simp [World.cell?_alloc_new], by simp [World.cell?_alloc_new], by simp [World.cell?_alloc_new]⟩
def endsTo (gi : Int) (c : ChV) : Nat → List M5
  | 0 => []
  | 1 => endL gi c c.e0
  | _ => chM gi c
set_option maxRecDepth 100000 in
set_option maxHeartbeats 4000000 in
theorem parts1_in (n l Bc Bg tb : Nat) (hn : 1 ≤ n) (vg vc : Value) (gs : List GuestV) (chs : List ChV) (gi : Nat) (w : World) (hG : RowG w vg gs) (hC : RowC w vc chs) (hgi : gi < gs.length) (hwt : w.heap.size ≤ tb)
    (J Jx : List M5 → World → Prop)
    (hY : ∀ pre (x : M5) W, J pre W → pre.length < (partsV gs[gi] chs gi).length → YieldAt Fence.wide (n - 1) Tryz.prog l #[.agg #[.int .u64 x.ipa, .int .u64 x.pa, .int .u64 x.sz, .int .i64 x.perm, .int .i64 x.kind]] W fun e W' =>
      (e = .returned (.bool true) ∧ J (pre ++ [x]) W' ∧ KpT tb W W') ∨ (e = .returned (.bool false) ∧ Jx (pre ++ [x]) W'))
    (W : World) (hJ : AbidesFrom W.heap.size J) (hW : Below w.heap.size w W) (htW : tb < W.heap.size) (hOW : ∀ k, OT tb W k → k = tb) (hct : Bc ≠ tb) (hgt : Bg ≠ tb) (c1 : W.cell? ⟨Bc, 1, none⟩ = some vg) (c2 : W.cell? ⟨Bc, 2, none⟩ = some vc) (cg : W.cell? ⟨Bg, 0, none⟩ = some (.int .i64 gi)) (h0 : J [] W) :
    CallsIn Fence.wide n Tryz.prog 89 #[.func (.yield l) #[] #[], .pointer (some ⟨Bc, 0, none⟩), .pointer (some ⟨Bg, 0, none⟩)] W fun e W' => (∃ v, e = .returned v) ∧
      ((∃ ys, ys = partsV gs[gi] chs gi ∧ J ys W') ∨ (∃ pre, True ∧ Jx pre W')) := by
  have hne : ∀ b, b ≠ tb → ¬ OT tb W b := fun b hb e => hb (hOW b e)
  have hrow : ∀ b o u, b < w.heap.size → w.cell? ⟨b, o, none⟩ = some u → ∀ V, KpT tb W V → V.cell? ⟨b, o, none⟩ = some u := fun b o u hb hc V hK => (hK.cell (hne b (by omega)) (cell_lt hW hc hb)).1
  have hlow : ∀ V, KpT tb W V → ∀ k, OT tb V k → k < V.heap.size := fun V hK => hK.lows fun k e => by rw [hOW k e]; exact htW
  have htV : ∀ V, KpT tb W V → tb < V.heap.size := fun V hK => Nat.lt_of_lt_of_le htW hK.size
  obtain ⟨ag, kg, rfl, hgl, hgm, hgc⟩ := hG
  obtain ⟨bg, og, rfl, hbg, hgc⟩ := hgc (by rintro rfl; simp at hgi)
  obtain ⟨cs, hR, hcl, hce⟩ := hgc gi hgi
  clear hgc
  generalize gs[gi] = g at *
  obtain ⟨v8, e8, r8⟩ := hR.win
  obtain ⟨v9, e9, r9⟩ := hR.dev
  have q8 := hce _ _ e8
  have q9 := hce _ _ e9
  obtain ⟨a8, k8, rfl, hl8, hm8, h8⟩ := r8
  obtain ⟨a9, k9, rfl, hl9, hm9, h9⟩ := r9
  obtain ⟨ac, kc, rfl, hlc, hmc, hc⟩ := hC
  have hx8 : g.win.length ≤ 9223372036854775807 := by unfold maxLen at hm8; omega
  have hx9 : g.dev.length ≤ 9223372036854775807 := by unfold maxLen at hm9; omega
  have hxc : chs.length ≤ 9223372036854775807 := by unfold maxLen at hmc; omega
  have hP : partsV g chs gi = g.win.map winM ++ (g.dev.map devM ++ chs.flatMap (chM gi)) := rfl
  clear hR e8 e9 hce hcl
  generalize partsV g chs gi = P at *
  replace hP := Lib.hid hP
  refine callsIn_of_wp Tryz.func89 rfl trivial ?_ rfl
  simp only [Tryz.ntmps89, List.size_toArray, List.length_cons, List.length_nil, Nat.reduceAdd, Nat.reduceSub, Array.replicate_succ, Array.replicate_zero, List.push_toArray, List.append_toArray, List.nil_append, List.cons_append]
  have q8W := hrow _ _ _ hbg q8 W (KpT.refl _ _)
  gi_wp2
  gi_loopw [19] (fun i wr => ∃ k : Nat, k ≤ g.win.length ∧ i = .int .i64 k ∧ J ((g.win.take k).map winM) wr ∧ KpT tb W wr) (fun i _ => g.win.length - (intOf i).toNat)
  case atStart => exact ⟨0, Nat.zero_le _, rfl, h0, KpT.refl _ _⟩
  case round =>
    obtain ⟨k, hk, rfl, hJs, hK⟩ := hrel
    by_cases hlt : k < g.win.length
    · obtain ⟨b, off, rfl, hb, hcell⟩ := h8 (by intro e; simp [e] at hlt)
      obtain ⟨cs, ⟨rfl, _⟩, hcl, hce⟩ := hcell k hlt
      have p0 : wr.cell? ⟨b, off + k * 4, none⟩ = some (.int .u64 g.win[k].ipa) := hrow _ _ _ hb (hce 0 _ rfl) _ hK
      have p1 : wr.cell? ⟨b, off + k * 4 + 1, none⟩ = some (.int .u64 g.win[k].pa) := hrow _ _ _ hb (hce 1 _ rfl) _ hK
      have p2 : wr.cell? ⟨b, off + k * 4 + 2, none⟩ = some (.int .u64 g.win[k].sz) := hrow _ _ _ hb (hce 2 _ rfl) _ hK
      have p3 : wr.cell? ⟨b, off + k * 4 + 3, none⟩ = some (.int .i64 g.win[k].perm) := hrow _ _ _ hb (hce 3 _ rfl) _ hK
      have hsn : (g.win.take (k + 1)).map winM = (g.win.take k).map winM ++ [winM g.win[k]] := by rw [List.take_succ_eq_append_getElem hlt, List.map_append]; rfl
      have hlen : ((g.win.take k).map winM).length < P.length := pre_lt_map hlt (a := []) hP.out
      clear hce hcell hcl
      generalize g.win[k] = x at *
      obtain ⟨fn, tmps, assign, body, hy, hR⟩ := hY _ (winM x) (wr.alloc (.cells #[.int .u64 x.ipa, .int .u64 x.pa, .int .u64 x.sz, .int .i64 x.perm] 44)) (abides_on hJ hJs (bone _ _)) hlen
      rw [← hsn] at hR
      replace hsn := Lib.hid hsn
      simp only [winM] at hy
      have hK1 := hK.trans (KpT.of_below (htV _ hK) (bone wr (.cells #[.int .u64 x.ipa, .int .u64 x.pa, .int .u64 x.sz, .int .i64 x.perm] 44)))
      gi_wp2
      refine hR.mono ?_
      rintro e W3 (⟨rfl, hJ3, hk3⟩ | ⟨rfl, hJx3⟩)
      · gi_wp2
        go_roundw
        case rel => exact ⟨k + 1, by omega, by go_num, hJ3, hK1.trans hk3⟩
        case measure => simp [intOf]; omega
      · gi_wp2
        refine bodyPost_ret (results_none rfl _ _ _) rfl ?_
        exact ⟨⟨_, rfl⟩, .inr ⟨_, trivial, hJx3⟩⟩
    · obtain rfl : k = g.win.length := by omega
      rw [List.take_length] at hJs
      have q9W := hrow _ _ _ hbg q9 _ hK
      have d1 := (hK.cell (hne _ hct) c1).1
      have dg := (hK.cell (hne _ hgt) cg).1
      clear q8W h8
      gi_wp2
      have hsn0 : J (g.win.map winM ++ (g.dev.take 0).map devM) wr := by simpa using hJs
      gi_loopw [43] (fun i wr => ∃ k : Nat, k ≤ g.dev.length ∧ i = .int .i64 k ∧ J (g.win.map winM ++ (g.dev.take k).map devM) wr ∧ KpT tb W wr) (fun i _ => g.dev.length - (intOf i).toNat)
      case atStart => exact ⟨0, Nat.zero_le _, rfl, hsn0, hK⟩
      case round =>
        clear hsn0 d1 dg q9W hK hJs
        obtain ⟨k, hk, rfl, hJs, hK⟩ := hrel
        by_cases hlt : k < g.dev.length
        · obtain ⟨b, off, rfl, hb, hcell⟩ := h9 (by intro e; simp [e] at hlt)
          obtain ⟨cs, rfl, hcl, hce⟩ := hcell k hlt
          have p0 : wr.cell? ⟨b, off + k * 3, none⟩ = some (.int .u64 g.dev[k].ipa) := hrow _ _ _ hb (hce 0 _ rfl) _ hK
          have p1 : wr.cell? ⟨b, off + k * 3 + 1, none⟩ = some (.int .u64 g.dev[k].pa) := hrow _ _ _ hb (hce 1 _ rfl) _ hK
          have p2 : wr.cell? ⟨b, off + k * 3 + 2, none⟩ = some (.int .u64 g.dev[k].sz) := hrow _ _ _ hb (hce 2 _ rfl) _ hK
          have hsn : g.win.map winM ++ (g.dev.take (k + 1)).map devM = g.win.map winM ++ (g.dev.take k).map devM ++ [devM g.dev[k]] := by rw [List.take_succ_eq_append_getElem hlt, List.map_append, List.append_assoc]; rfl
          have hlen : (g.win.map winM ++ (g.dev.take k).map devM).length < P.length := pre_lt_map hlt hP.out
          clear hce hcell hcl
          generalize g.dev[k] = x at *
          obtain ⟨fn, tmps, assign, body, hy, hR⟩ := hY _ (devM x) (wr.alloc (.cells #[.int .u64 x.ipa, .int .u64 x.pa, .int .u64 x.sz] 98)) (abides_on hJ hJs (bone _ _)) hlen
          rw [← hsn] at hR
          replace hsn := Lib.hid hsn
          simp only [devM] at hy
          have hK1 := hK.trans (KpT.of_below (htV _ hK) (bone wr (.cells #[.int .u64 x.ipa, .int .u64 x.pa, .int .u64 x.sz] 98)))
          gi_wp2
          refine hR.mono ?_
          rintro e W3 (⟨rfl, hJ3, hk3⟩ | ⟨rfl, hJx3⟩)
          · gi_wp2
            go_roundw
            case rel => exact ⟨k + 1, by omega, by go_num, hJ3, hK1.trans hk3⟩
            case measure => simp [intOf]; omega
          · gi_wp2
            refine bodyPost_ret (results_none rfl _ _ _) rfl ?_
            exact ⟨⟨_, rfl⟩, .inr ⟨_, trivial, hJx3⟩⟩
        · obtain rfl : k = g.dev.length := by omega
          rw [List.take_length] at hJs
          have d2 := (hK.cell (hne _ hct) c2).1
          clear h9
          gi_wp2
          have hsn0 : J (g.win.map winM ++ (g.dev.map devM ++ (chs.take 0).flatMap (chM gi))) wr := by simpa using hJs
          gi_loopw [61] (fun i wr => ∃ k : Nat, k ≤ chs.length ∧ i = .int .i64 k ∧ J (g.win.map winM ++ (g.dev.map devM ++ (chs.take k).flatMap (chM gi))) wr ∧ KpT tb W wr) (fun i _ => chs.length - (intOf i).toNat)
          case atStart => exact ⟨0, Nat.zero_le _, rfl, hsn0, hK⟩
          case round =>
            clear hsn0 d2 hK hJs
            obtain ⟨k, hk, rfl, hJs, hK⟩ := hrel
            by_cases hlt : k < chs.length
            · obtain ⟨b, off, rfl, hb, hcell⟩ := hc (by intro e; simp [e] at hlt)
              obtain ⟨cs, ⟨rfl, _⟩, hcl, hce⟩ := hcell k hlt
              have p0 : wr.cell? ⟨b, off + k * 8, none⟩ = some (.int .u64 chs[k].pa) := hrow _ _ _ hb (hce 0 _ rfl) _ hK
              have p1 : wr.cell? ⟨b, off + k * 8 + 1, none⟩ = some (.int .u64 chs[k].sz) := hrow _ _ _ hb (hce 1 _ rfl) _ hK
              have p2 : wr.cell? ⟨b, off + k * 8 + 2, none⟩ = some (.int .i64 chs[k].e0.g) := hrow _ _ _ hb (hce 2 _ rfl) _ hK
              have p3 : wr.cell? ⟨b, off + k * 8 + 3, none⟩ = some (.int .i64 chs[k].e0.perm) := hrow _ _ _ hb (hce 3 _ rfl) _ hK
              have p4 : wr.cell? ⟨b, off + k * 8 + 4, none⟩ = some (.int .u64 chs[k].e0.ipa) := hrow _ _ _ hb (hce 4 _ rfl) _ hK
              have p5 : wr.cell? ⟨b, off + k * 8 + 5, none⟩ = some (.int .i64 chs[k].e1.g) := hrow _ _ _ hb (hce 5 _ rfl) _ hK
              have p6 : wr.cell? ⟨b, off + k * 8 + 6, none⟩ = some (.int .i64 chs[k].e1.perm) := hrow _ _ _ hb (hce 6 _ rfl) _ hK
              have p7 : wr.cell? ⟨b, off + k * 8 + 7, none⟩ = some (.int .u64 chs[k].e1.ipa) := hrow _ _ _ hb (hce 7 _ rfl) _ hK
              have hsn : g.win.map winM ++ (g.dev.map devM ++ (chs.take (k + 1)).flatMap (chM gi)) = g.win.map winM ++ (g.dev.map devM ++ (chs.take k).flatMap (chM gi)) ++ chM gi chs[k] := by rw [List.take_succ_eq_append_getElem hlt, List.flatMap_append]; simp
              have hlenA : (g.win.map winM ++ (g.dev.map devM ++ (chs.take k).flatMap (chM gi))).length + (chM gi chs[k]).length ≤ P.length := by
                have e : chs = chs.take k ++ chs[k] :: chs.drop (k + 1) := by rw [← List.drop_eq_getElem_cons hlt, List.take_append_drop]
                have e2 : (chs.flatMap (chM gi)).length = ((chs.take k).flatMap (chM gi)).length + (chM gi chs[k]).length + ((chs.drop (k + 1)).flatMap (chM gi)).length := by
                  conv => lhs; rw [e]
                  rw [List.flatMap_append, List.flatMap_cons, List.length_append, List.length_append]; omega
                rw [hP.out]
                simp only [List.length_append] at e2 ⊢
                omega
              clear hce hcell hcl
              generalize g.win.map winM ++ (g.dev.map devM ++ (chs.take k).flatMap (chM gi)) = A at *
              generalize chs[k] = c at *
              obtain ⟨wo, rfl⟩ : ∃ wo, wo = wr := ⟨_, rfl⟩
              obtain ⟨V, hV, hVz, hVb, x0, x1, hVc⟩ := eight_newX wo (.int .u64 c.pa) (.int .u64 c.sz) (.int .i64 c.e0.g) (.int .i64 c.e0.perm) (.int .u64 c.e0.ipa) (.int .i64 c.e1.g) (.int .i64 c.e1.perm) (.int .u64 c.e1.ipa) 76
              have x2 := hVc 2 _ rfl
              have x3 := hVc 3 _ rfl
              have x4 := hVc 4 _ rfl
              have x5 := hVc 5 _ rfl
              have x6 := hVc 6 _ rfl
              have x7 := hVc 7 _ rfl
              have hKV : KpT tb wo V := KpT.of_below (htV _ hK) hVb
              have hnX : ¬ OT tb V wo.heap.size := fun e => by have := hlow _ hK _ ((ot_same (hVb.block tb (htV _ hK)) _).1 e); omega
              replace hnX := Lib.hid hnX
              have hJV : J (A ++ endsTo gi c 0) V := by simpa [endsTo] using abides_on hJ hJs hVb
              gi_wp2
              try rw [← hV]
              clear hVc
              gi_loopw [67] (fun i wr => ∃ j : Nat, j ≤ 2 ∧ i = .int .i64 j ∧ J (A ++ endsTo gi c j) wr ∧ KpT tb V wr) (fun i _ => 2 - (intOf i).toNat)
              case atStart => exact ⟨0, by omega, rfl, hJV, KpT.refl _ _⟩
              case round =>
                clear hJV
                obtain ⟨j, hj, rfl, hJj, hKj⟩ := hrel
                have hK1 := hK.trans hKV
                have hK2 := hK1.trans hKj
                have dg := (hK2.cell (hne _ hgt) cg).1
                have y0 := (hKj.cell hnX.out x0).1
                have y1 := (hKj.cell hnX.out x1).1
                have hXlt : wo.heap.size < wr.heap.size := by have := hKj.size; omega
                by_cases hj2 : j < 2
                · clear x0 x1 x2 x3 x4 x5 x6 x7 p0 p1 p2 p3 p4 p5 p6 p7
                  rcases (show j = 0 ∨ j = 1 by omega) with rfl | rfl
                  · have i0 : ∀ w : World, (Instr.index 74 (.agg #[.int .i64 c.e0.g, .int .i64 c.e0.perm, .int .u64 c.e0.ipa, .int .i64 c.e1.g, .int .i64 c.e1.perm, .int .u64 c.e1.ipa]) (.int .i64 0)).run Tryz.prog w = .ok (.agg #[.int .i64 c.e0.g, .int .i64 c.e0.perm, .int .u64 c.e0.ipa]) w := fun _ => by kernel_rfl
                    have hst : endsTo gi c (0 + 1) = endsTo gi c 0 ++ endL gi c c.e0 := by simp [endsTo]
                    have hlE : (endsTo gi c 0).length + (endL gi c c.e0).length ≤ (chM gi c).length := by simp [endsTo, chM]
                    obtain ⟨Vq, rfl, hVqz, hVqb, z0, z1, z2⟩ := three_newX wr (.int .i64 c.e0.g) (.int .i64 c.e0.perm) (.int .u64 c.e0.ipa) 73
                    have hKq : KpT tb wr _ := KpT.of_below (htV _ hK2) hVqb
                    have dgq := (hKq.cell (fun e => (hK2.cell (hne _ hgt) cg).2 e) dg).1
                    have y0q := cell_lt hVqb y0 hXlt
                    have y1q := cell_lt hVqb y1 hXlt
                    by_cases hg : c.e0.g = gi
                    · have hsn : A ++ endsTo gi c (0 + 1) = A ++ endsTo gi c 0 ++ [endPart c c.e0] := by rw [hst, ← List.append_assoc]; unfold endL; rw [if_pos hg]
                      have hq : (c.e0.g == (gi : Int)) = true := by simpa using hg
                      have hlen : (A ++ endsTo gi c 0).length < P.length := by
                        unfold endL at hlE; rw [if_pos hg] at hlE
                        rw [List.length_append]; simp at hlE; omega
                      obtain ⟨fn, tmps, assign, body, hy, hR⟩ := hY _ (endPart c c.e0) _ (abides_on hJ hJj hVqb) hlen
                      rw [← hsn] at hR
                      simp only [endPart] at hy
                      clear hst hlE hsn hg hlen
                      gi_wp2
                      refine hR.mono ?_
                      rintro e W3 (⟨rfl, hJ3, hk3⟩ | ⟨rfl, hJx3⟩)
                      · gi_wp2
                        go_roundw
                        case rel => exact ⟨0 + 1, by omega, by go_num, hJ3, hKj.trans (hKq.trans hk3)⟩
                        case measure => simp [intOf]
                      · gi_wp2
                        refine bodyPost_ret (results_none rfl _ _ _) rfl ?_
                        exact ⟨⟨_, rfl⟩, .inr ⟨_, trivial, hJx3⟩⟩
                    · have hsn : A ++ endsTo gi c (0 + 1) = A ++ endsTo gi c 0 := by rw [hst]; unfold endL; rw [if_neg hg, List.append_nil]
                      have hq : (c.e0.g == (gi : Int)) = false := by simpa using hg
                      have hJq := abides_on hJ hJj hVqb
                      rw [← hsn] at hJq
                      clear hst hlE hsn hg
                      gi_wp2
                      try (refine ⟨(fun f h => (by cases h)), ?_⟩)
                      gi_wp2
                      go_roundw
                      case rel => exact ⟨0 + 1, by omega, by go_num, hJq, hKj.trans hKq⟩
                      case measure => simp [intOf]
                  · have i0 : ∀ w : World, (Instr.index 74 (.agg #[.int .i64 c.e0.g, .int .i64 c.e0.perm, .int .u64 c.e0.ipa, .int .i64 c.e1.g, .int .i64 c.e1.perm, .int .u64 c.e1.ipa]) (.int .i64 1)).run Tryz.prog w = .ok (.agg #[.int .i64 c.e1.g, .int .i64 c.e1.perm, .int .u64 c.e1.ipa]) w := fun _ => by kernel_rfl
                    have hst : endsTo gi c (1 + 1) = endsTo gi c 1 ++ endL gi c c.e1 := by simp [endsTo, chM]
                    have hlE : (endsTo gi c 1).length + (endL gi c c.e1).length ≤ (chM gi c).length := by simp [endsTo, chM]
                    obtain ⟨Vq, rfl, hVqz, hVqb, z0, z1, z2⟩ := three_newX wr (.int .i64 c.e1.g) (.int .i64 c.e1.perm) (.int .u64 c.e1.ipa) 73
                    have hKq : KpT tb wr _ := KpT.of_below (htV _ hK2) hVqb
                    have dgq := (hKq.cell (fun e => (hK2.cell (hne _ hgt) cg).2 e) dg).1
                    have y0q := cell_lt hVqb y0 hXlt
                    have y1q := cell_lt hVqb y1 hXlt
                    by_cases hg : c.e1.g = gi
                    · have hsn : A ++ endsTo gi c (1 + 1) = A ++ endsTo gi c 1 ++ [endPart c c.e1] := by rw [hst, ← List.append_assoc]; unfold endL; rw [if_pos hg]
                      have hq : (c.e1.g == (gi : Int)) = true := by simpa using hg
                      have hlen : (A ++ endsTo gi c 1).length < P.length := by
                        unfold endL at hlE; rw [if_pos hg] at hlE
                        rw [List.length_append]; simp at hlE; omega
                      obtain ⟨fn, tmps, assign, body, hy, hR⟩ := hY _ (endPart c c.e1) _ (abides_on hJ hJj hVqb) hlen
                      rw [← hsn] at hR
                      simp only [endPart] at hy
                      clear hst hlE hsn hg hlen
                      gi_wp2
                      refine hR.mono ?_
                      rintro e W3 (⟨rfl, hJ3, hk3⟩ | ⟨rfl, hJx3⟩)
                      · gi_wp2
                        go_roundw
                        case rel => exact ⟨1 + 1, by omega, by go_num, hJ3, hKj.trans (hKq.trans hk3)⟩
                        case measure => simp [intOf]
                      · gi_wp2
                        refine bodyPost_ret (results_none rfl _ _ _) rfl ?_
                        exact ⟨⟨_, rfl⟩, .inr ⟨_, trivial, hJx3⟩⟩
                    · have hsn : A ++ endsTo gi c (1 + 1) = A ++ endsTo gi c 1 := by rw [hst]; unfold endL; rw [if_neg hg, List.append_nil]
                      have hq : (c.e1.g == (gi : Int)) = false := by simpa using hg
                      have hJq := abides_on hJ hJj hVqb
                      rw [← hsn] at hJq
                      clear hst hlE hsn hg
                      gi_wp2
                      try (refine ⟨(fun f h => (by cases h)), ?_⟩)
                      gi_wp2
                      go_roundw
                      case rel => exact ⟨1 + 1, by omega, by go_num, hJq, hKj.trans hKq⟩
                      case measure => simp [intOf]
                · obtain rfl : j = 2 := by omega
                  have hJ2 : J (g.win.map winM ++ (g.dev.map devM ++ (chs.take (k + 1)).flatMap (chM gi))) wr := by rw [hsn]; exact hJj
                  clear x0 x1 x2 x3 x4 x5 x6 x7 p0 p1 p2 p3 p4 p5 p6 p7
                  gi_wp2
                  go_roundw
                  case rel => exact ⟨k + 1, by omega, by go_num, hJ2, hK2⟩
                  case measure => simp [intOf]; omega
            · obtain rfl : k = chs.length := by omega
              rw [List.take_length, ← hP.out] at hJs
              gi_wp2
              go_end0
              exact ⟨⟨_, rfl⟩, .inl ⟨_, rfl, hJs⟩⟩
end Go.Proofs.YtffdfeekpfmbeaaGreat
