/- The program's Maps: what a guest finds at its addresses. -/
import Derived.Laws.EntriesVeiled
import Derived.OrdersIn
import Derived.TacticsIn
import Derived.Test.YtffdfeekpfmbeaaGreatValidChecksP9
import Derived.Test.YtffdfeekpfmbeaaGreatValidChecksP15
import Derived.Test.YtffdfeekpfmbeaaGreatValidChecksP25
import Derived.Test.YtffdfeekpfmbeaaGreatValidChecksP26
namespace Go.Proofs.YtffdfeekpfmbeaaGreat
open Go Go.RowKit Go.Shelf Go.BigFrame

attribute [local go_sem] Oper.semAt_some

def spanM (x : M5) : Two := ⟨x.ipa, x.sz, x.hi, x.hs⟩
def fineM (x : M5) : Bool := goodB x.ipa x.sz && goodB x.pa x.sz
def sortedM (ps : List M5) : List M5 := (sortR ps (ranks ps.length)).map (rkM ps)
def checkM (L : List M5) : List M5 × Int := if L.all fineM = true ∧ (firstV (L.map spanM)).2.2 = false then (L, 0) else ([], 160)
def mapsP (gs : List GuestV) (chs : List ChV) (g : Int) : List M5 × Int := if 0 ≤ g ∧ g < gs.length then checkM (sortedM (partsV gs[g.toNat]! chs g)) else ([], 1)

theorem guest_any (ver : Int) (vg vc : Value) (gs : List GuestV) (g : Int) (w : World) (hg : RowG w vg gs) :
    Calls Tryz.prog 67 #[.agg #[.int .u32 ver, vg, vc], .int .i64 g] w fun e w' => e = .returned (.bool (decide (0 ≤ g ∧ g < gs.length))) ∧ Below w.heap.size w w' := by
  obtain ⟨a, c, rfl, _⟩ := hg
  by_cases h1 : 0 ≤ g
  · have q : decide (0 ≤ g ∧ g < gs.length) = decide (g < gs.length) := by simp [h1]
    rw [q]
    go_enter Tryz.func67, Tryz.ntmps67
    go_wp2_with fail
    go_ret
    exact ⟨rfl, bone _ _⟩
  · have q : decide (0 ≤ g ∧ g < gs.length) = false := by simp [h1]
    rw [q]
    go_enter Tryz.func67, Tryz.ntmps67
    go_wp2_with fail
    go_ret
    exact ⟨rfl, bone _ _⟩
theorem parts_in (n : Nat) (ver : Int) (vg vc : Value) (g : Int) (w : World) :
    CallsIn Fence.wide n Tryz.prog 69 #[.agg #[.int .u32 ver, vg, vc], .int .i64 g] w fun e w' => e = .returned (.func (.func 89) #[] #[.pointer (some ⟨w.heap.size, 0, none⟩), .pointer (some ⟨w.heap.size + 1, 0, none⟩)]) ∧ w' = (w.alloc (.cells #[.int .u32 ver, vg, vc] 31)).alloc (.cells #[.int .i64 g] 3) := by
  refine callsIn_of_wp Tryz.func69 rfl trivial ?_ rfl
  simp only [Tryz.ntmps69, List.size_toArray, List.length_cons, List.length_nil, Nat.reduceAdd, Nat.reduceSub, Array.replicate_succ, Array.replicate_zero, List.push_toArray, List.append_toArray, List.nil_append, List.cons_append]
  gi_wp2
  go_ret
  exact ⟨rfl, rfl⟩
theorem ownFrom_kpT {β : Type} {B tb : Nat} {W0 : World} (hB : tb < B) (ht : tb < W0.heap.size) : OwnFrom B (fun (_ : β) W => KpT tb W0 W) := by
  intro s W W' row hK hg hr
  have hne : row ≠ some tb := fun e => by have := (hr tb e).1; omega
  have htW : tb < W.heap.size := Nat.lt_of_lt_of_le ht hK.size
  have hbt : W'.heap[tb]? = W.heap[tb]? := hg.block tb htW (fun e => hne e.symm)
  refine hK.trans ⟨hg.os, hg.tape, hg.output, hg.size, fun k o h1 h2 h3 => ?_, fun hl k e => Nat.lt_of_lt_of_le (hl k ((ot_same hbt k).1 e)) hg.size⟩
  refine ⟨(hg.block k (Array.getElem?_eq_some_iff.1 h1).1 (fun e => ?_)).trans h1, fun e => h3 ((ot_same hbt k).1 e)⟩
  obtain ⟨o', ho, hc⟩ := (hr k e.symm).2
  rw [h1] at ho; cases ho; rw [hc] at h2; cases h2
/-- The four boxes that are laid ahead of the range. -/
theorem boxes16 (ver g : Int) (vg vc : Value) (w W0 : World) (h : W0 = (((w.alloc (.cells #[.slice none 0 0] 126)).alloc (.cells #[.func (.func 68) #[] #[.pointer (some ⟨w.heap.size, 0, none⟩)]] 129)).alloc (.cells #[.int .u32 ver, vg, vc] 31)).alloc (.cells #[.int .i64 g] 3)) :
    Boxed W0 w.heap.size 126 (.slice none 0 0) ∧ W0.cell? ⟨w.heap.size + 1, 0, none⟩ = some (.func (.func 68) #[] #[.pointer (some ⟨w.heap.size, 0, none⟩)]) ∧ W0.cell? ⟨w.heap.size + 2, 1, none⟩ = some vg ∧ W0.cell? ⟨w.heap.size + 2, 2, none⟩ = some vc ∧ W0.cell? ⟨w.heap.size + 3, 0, none⟩ = some (.int .i64 g) ∧ W0.heap.size = w.heap.size + 4 ∧ Below w.heap.size w W0 := by
  obtain ⟨x1, h1⟩ : ∃ x, x = w.alloc (.cells #[.slice none 0 0] 126) := ⟨_, rfl⟩
  obtain ⟨x2, h2⟩ : ∃ x, x = x1.alloc (.cells #[.func (.func 68) #[] #[.pointer (some ⟨w.heap.size, 0, none⟩)]] 129) := ⟨_, rfl⟩
  obtain ⟨x3, h3⟩ : ∃ x, x = x2.alloc (.cells #[.int .u32 ver, vg, vc] 31) := ⟨_, rfl⟩
  rw [← h1, ← h2, ← h3] at h
  have z1 : x1.heap.size = w.heap.size + 1 := by rw [h1]; simp
  have z2 : x2.heap.size = w.heap.size + 2 := by rw [h2]; simp [z1]
  have z3 : x3.heap.size = w.heap.size + 3 := by rw [h3]; simp [z2]
  have z4 : W0.heap.size = w.heap.size + 4 := by rw [h]; simp [z3]
  have b1 : Boxed x1 w.heap.size 126 (.slice none 0 0) := by rw [h1]; exact Boxed.new _ _ _
  have b2 : Boxed x2 w.heap.size 126 (.slice none 0 0) := by rw [h2]; exact b1.alloc _
  have b3 : Boxed x3 w.heap.size 126 (.slice none 0 0) := by rw [h3]; exact b2.alloc _
  have c2 : x2.cell? ⟨x1.heap.size, 0, none⟩ = some (.func (.func 68) #[] #[.pointer (some ⟨w.heap.size, 0, none⟩)]) := by rw [h2]; simp [World.cell?_alloc_new]
  rw [z1] at c2
  have d1 : x3.cell? ⟨x2.heap.size, 1, none⟩ = some vg := by rw [h3]; simp [World.cell?_alloc_new]
  have d2 : x3.cell? ⟨x2.heap.size, 2, none⟩ = some vc := by rw [h3]; simp [World.cell?_alloc_new]
  rw [z2] at d1 d2
  have d4 : W0.cell? ⟨x3.heap.size, 0, none⟩ = some (.int .i64 g) := by rw [h]; simp [World.cell?_alloc_new]
  rw [z3] at d4
  have e1 := bone w (.cells #[.slice none 0 0] 126)
  have e2 := bone x1 (.cells #[.func (.func 68) #[] #[.pointer (some ⟨w.heap.size, 0, none⟩)]] 129)
  have e3 := bone x2 (.cells #[.int .u32 ver, vg, vc] 31)
  have e4 := bone x3 (.cells #[.int .i64 g] 3)
  rw [← h1] at e1
  rw [← h2] at e2
  rw [← h3] at e3
  rw [← h] at e4
  exact ⟨by rw [h]; exact b3.alloc _, cell_lt e4 (cell_lt e3 c2 (by omega)) (by omega), cell_lt e4 d1 (by omega), cell_lt e4 d2 (by omega), d4, z4, bthen (bthen (bthen e1 e2) e3) e4⟩
theorem parts_stops (n Bc Bg tb : Nat) (hn : 1 ≤ n) (vg vc : Value) (gs : List GuestV) (chs : List ChV) (gi : Nat) (w W0 : World) (hG : RowG w vg gs) (hC : RowC w vc chs) (hgi : gi < gs.length) (hwt : w.heap.size ≤ tb) (hW : Below w.heap.size w W0)
    (htW : tb < W0.heap.size) (hb : Boxed W0 tb 126 (.slice none 0 0)) (hct : Bc ≠ tb) (hgt : Bg ≠ tb) (c1 : W0.cell? ⟨Bc, 1, none⟩ = some vg) (c2 : W0.cell? ⟨Bc, 2, none⟩ = some vc) (cg : W0.cell? ⟨Bg, 0, none⟩ = some (.int .i64 gi)) :
    SeqStopsK Fence.wide n Tryz.prog 89 #[.pointer (some ⟨Bc, 0, none⟩), .pointer (some ⟨Bg, 0, none⟩)] (fun x : M5 => #[.agg #[.int .u64 x.ipa, .int .u64 x.pa, .int .u64 x.sz, .int .i64 x.perm, .int .i64 x.kind]]) (KpT tb) (fun ys => ys = partsV gs[gi] chs gi) (fun _ => True) (partsV gs[gi] chs gi).length W0 :=
  fun l J Jx W hW1 hJ _ hY h00 => parts1_in n l Bc Bg tb hn vg vc gs chs gi w hG hC hgi hwt J Jx hY W hJ (bthen hW hW1) (Nat.lt_of_lt_of_le htW hW1.size)
    (fun k e => by
      rcases e with rfl | ⟨v, hv, e⟩
      · rfl
      · rw [cell_lt hW1 hb.cell htW] at hv; cases hv; cases e) hct hgt
    (cell_lt hW1 c1 (World.block_lt_of_cell? W0 _ c1)) (cell_lt hW1 c2 (World.block_lt_of_cell? W0 _ c2)) (cell_lt hW1 cg (World.block_lt_of_cell? W0 _ cg)) h00
theorem own_not_obj {W : World} {base : Nat} {e : TypeId} {size k D : Nat} {v : Value} {xs : List Value} {d : Option (List Deferred)} (h : W.ownsRow base e size v k xs) (hD : W.heap[D]? = some (.deferred d)) : some D ≠ v.ownBlock := by
  intro he
  rcases h.2 with ⟨rfl, _⟩ | ⟨g, cap, cur, rfl, _, hgb, _⟩
  · cases he
  · cases he; rw [hD] at hgb; cases hgb
theorem row6 (ps : List M5) {W : World} {base : Nat} {e : TypeId} {v : Value} (SR : List Rk) (h : W.ownsRow base e 6 v SR.length (SR.flatMap (encR ps))) : ∃ a cap, v = .slice a SR.length cap ∧ SR.length ≤ cap ∧
    (SR ≠ [] → ∃ b off, a = some ⟨b, off, none⟩ ∧ b < W.heap.size ∧ ∀ k (hk : k < SR.length) j u, (encR ps SR[k])[j]? = some u → W.cell? ⟨b, off + k * 6 + j, none⟩ = some u) := by
  rcases h.2 with ⟨rfl, h0⟩ | ⟨g, cap, cur, rfl, _, hg, hn, hm, hs, hx⟩
  · obtain rfl : SR = [] := List.length_eq_zero_iff.1 h0
    exact ⟨_, _, rfl, Nat.le_refl _, fun h => absurd rfl h⟩
  · refine ⟨_, cap, rfl, hn, fun _ => ⟨g, 0, rfl, (Array.getElem?_eq_some_iff.1 hg).1, fun k hk j u hu => ?_⟩⟩
    have hj : j < 6 := (List.getElem?_eq_some_iff.1 hu).1
    have e := flatMap_get (encR ps) 6 (encR_len ps) (by decide) SR (k * 6 + j) (by omega)
    rw [show (k * 6 + j) / 6 = k by omega, show (k * 6 + j) % 6 = j by omega, getElem!_pos SR k hk, getElem!_pos (encR ps SR[k]) j (by rw [encR_len]; exact hj)] at e
    rw [List.getElem?_eq_getElem (by rw [encR_len]; exact hj)] at hu
    injection hu with hu
    rw [hu, ← hx, List.getElem?_take, if_pos (by omega)] at e
    simp only [World.cell?, hg]
    rw [Nat.zero_add]
    simpa using e
theorem six_new (W : World) (a b c d e f : Value) (t : TypeId) : (W.alloc (.cells #[a, b, c, d, e, f] t)).cell? ⟨W.heap.size, 0, none⟩ = some a ∧ (W.alloc (.cells #[a, b, c, d, e, f] t)).cell? ⟨W.heap.size, 1, none⟩ = some b ∧ (W.alloc (.cells #[a, b, c, d, e, f] t)).cell? ⟨W.heap.size, 2, none⟩ = some c ∧ (W.alloc (.cells #[a, b, c, d, e, f] t)).cell? ⟨W.heap.size, 3, none⟩ = some d ∧ (W.alloc (.cells #[a, b, c, d, e, f] t)).cell? ⟨W.heap.size, 4, none⟩ = some e := by
  refine ⟨?_, ?_, ?_, ?_, ?_⟩ <;> simp [World.cell?_alloc_new]
theorem infoM16 : InfoM Tryz.prog 108 := by unfold InfoM; kernel_rfl
theorem infoS16 : InfoTwo Tryz.prog 24 := by unfold InfoTwo; kernel_rfl
theorem grown_cell16 {w0 w1 : World} {row : Option Nat} {b o : Nat} {v : Value} (hg : w0.grownBy w1 row) (hlt : b < w0.heap.size) (hne : row ≠ some b) (hc : w0.cell? ⟨b, o, none⟩ = some v) : w1.cell? ⟨b, o, none⟩ = some v :=
  (World.cell?_of_block (hg.block b hlt (fun e => hne e.symm))).trans hc
/-- Rows of two types lie apart. -/
theorem own_types {W : World} {base base' size size' k k' : Nat} {e e' : TypeId} {v v' : Value} {xs xs' : List Value} (h : W.ownsRow base e size v k xs) (h' : W.ownsRow base' e' size' v' k' xs') (hne : e ≠ e') : v'.ownBlock = none ∨ v'.ownBlock ≠ v.ownBlock := by
  rcases h'.2 with ⟨rfl, _⟩ | ⟨g', _, _, rfl, _, hg', _⟩
  · exact .inl rfl
  · refine .inr fun he => ?_
    rcases h.2 with ⟨rfl, _⟩ | ⟨g, _, _, rfl, _, hg, _⟩
    · cases he
    · have : g' = g := by simpa [Value.ownBlock] using he
      subst this
      rw [hg] at hg'
      cases hg'
      exact hne rfl
structure Box5 (bx : Nat) (p : M5) where
  x : World
  h0 : x.cell? ⟨bx, 0, none⟩ = some (.int .u64 p.ipa)
  h1 : x.cell? ⟨bx, 1, none⟩ = some (.int .u64 p.pa)
  h2 : x.cell? ⟨bx, 2, none⟩ = some (.int .u64 p.sz)
  h3 : x.cell? ⟨bx, 3, none⟩ = some (.int .i64 p.perm)
  h4 : x.cell? ⟨bx, 4, none⟩ = some (.int .i64 p.kind)
set_option maxRecDepth 100000 in
set_option maxHeartbeats 4000000 in
theorem maps16_go (ver : Int) (vg vc : Value) (gs : List GuestV) (chs : List ChV) (gi : Nat) (w : World) (hG : RowG w vg gs) (hC : RowC w vc chs) (hgi : gi < gs.length) (hlen : (partsV gs[gi] chs gi).length ≤ 1000000) :
    Calls Tryz.prog 29 #[.agg #[.int .u32 ver, vg, vc], .int .i64 gi] w fun e w' => (∃ v, e = .returned (.tuple #[v, .int .i64 (checkM (sortedM (partsV gs[gi] chs gi))).2]) ∧ OwnM 108 w' w.heap.size v (checkM (sortedM (partsV gs[gi] chs gi))).1) ∧ Below w.heap.size w w' := by
  have hgst := fun W h => guest_any ver vg vc gs (gi : Int) W h
  have hgt : decide (0 ≤ (gi : Int) ∧ (gi : Int) < gs.length) = true := by simp; omega
  rw [hgt] at hgst
  have hG' := hG.below (bone w (.cells #[.int .u32 ver, vg, vc] 31)) lasts_guest
  obtain ⟨ag, kg, rfl, _⟩ := id hG
  obtain ⟨ac, kc, rfl, _⟩ := id hC
  clear hgt
  refine (callsIn_wide (n := 9)).1 ?_
  refine callsIn_of_wp_marks Tryz.func29 rfl trivial ?_ rfl
  simp only [Tryz.ntmps29, List.size_toArray, List.length_cons, List.length_nil, Nat.reduceAdd, Nat.reduceSub, Array.replicate_succ, Array.replicate_zero, List.push_toArray, List.append_toArray, List.nil_append, List.cons_append]
  gi_wp2_with (refine ⟨trivial, ?_⟩; gi_at_call 67; refine (callsIn_wide.2 (hgst _ hG')).mono ?_; rintro e w1 ⟨rfl, hb1⟩; have c0 : w1.cell? ⟨w.heap.size, 0, none⟩ = some (.int .u32 ver) := cell_lt hb1 (by simp [World.cell?_alloc_new]) (by simp); have e0 := keepA (x := (.cells #[.func (.func 68) #[] #[.pointer (some ⟨w1.heap.size, 0, none⟩)]] 129)) (keepA (x := (.cells #[.slice none 0 0] 126)) c0); have c1 : w1.cell? ⟨w.heap.size, 1, none⟩ = some (.slice ag gs.length kg) := cell_lt hb1 (by simp [World.cell?_alloc_new]) (by simp); have e1 := keepA (x := (.cells #[.func (.func 68) #[] #[.pointer (some ⟨w1.heap.size, 0, none⟩)]] 129)) (keepA (x := (.cells #[.slice none 0 0] 126)) c1); have c2 : w1.cell? ⟨w.heap.size, 2, none⟩ = some (.slice ac chs.length kc) := cell_lt hb1 (by simp [World.cell?_alloc_new]) (by simp); have e2 := keepA (x := (.cells #[.func (.func 68) #[] #[.pointer (some ⟨w1.heap.size, 0, none⟩)]] 129)) (keepA (x := (.cells #[.slice none 0 0] 126)) c2); clear c0 c1 c2)
  have hB1 : Below w.heap.size w w1 := bnew hb1
  have hz1 : w.heap.size < w1.heap.size := by have := hb1.size; simp at this; omega
  clear hb1 hG' hgst
  have hpi1 := parts_in 8 ver (.slice ag gs.length kg) (.slice ac chs.length kc) (gi : Int) ((w1.alloc (.cells #[.slice none 0 0] 126)).alloc (.cells #[.func (.func 68) #[] #[.pointer (some ⟨w1.heap.size, 0, none⟩)]] 129))
  have hs2 : ((w1.alloc (.cells #[.slice none 0 0] 126)).alloc (.cells #[.func (.func 68) #[] #[.pointer (some ⟨w1.heap.size, 0, none⟩)]] 129)).heap.size = w1.heap.size + 2 := by simp
  rw [hs2] at hpi1
  clear hs2
  gi_wp2_with (refine ⟨trivial, ?_⟩; gi_at_call 69; refine hpi1.mono ?_; rintro e w' ⟨rfl, rfl⟩)
  clear hpi1 e0 e1 e2
  obtain ⟨W0, hW0⟩ : ∃ W0, W0 = (((w1.alloc (.cells #[.slice none 0 0] 126)).alloc (.cells #[.func (.func 68) #[] #[.pointer (some ⟨w1.heap.size, 0, none⟩)]] 129)).alloc (.cells #[.int .u32 ver, .slice ag gs.length kg, .slice ac chs.length kc] 31)).alloc (.cells #[.int .i64 (gi : Int)] 3) := ⟨_, rfl⟩
  rw [← hW0]
  obtain ⟨bL, f0, f1, f2, f3, hz0, hB0⟩ := boxes16 _ _ _ _ w1 W0 hW0
  clear hW0
  have hps := parts_stops 8 (w1.heap.size + 2) (w1.heap.size + 3) w1.heap.size (by decide) _ _ gs chs gi w W0 hG hC hgi (by omega) (hB1.trans (hB0.mono (by omega))) (by omega) bL (by omega) (by omega) f1 f2 f3
  clear hG hC f1 f2 f3
  generalize hPe : partsV gs[gi] chs gi = P at *
  replace hPe := Lib.hid hPe
  generalize htb : w1.heap.size = tb at *
  refine wpIn_rangeFunc_ownH rfl (by decide) (gf := 89) (lb := #[.pointer (some ⟨tb + 2, 0, none⟩), .pointer (some ⟨tb + 3, 0, none⟩)]) rfl trivial (enters_of Tryz.func89 (by kernel_rfl) rfl)
    hps (fun h k => h.trans k) (kpT_put (by omega)) (Below.refl _ _) (fun _ => rfl)
    (fun pre W => (∃ v, Boxed W tb 126 v ∧ W.ownsRow tb 128 6 v pre.length (encA pre) ∧ True) ∧ (KpT tb W0 W ∧ Below tb W0 W))
    (fun c pre W => False)
    (OwnFrom.and (Own.from (holdsRow_own tb tb 126 128 6 (fun pre => pre.length) (fun pre => encA pre) (fun _ _ => True)) _) (OwnFrom.and (ownFrom_kpT (by omega) (by omega)) (ownFrom_below (by omega) (by omega))))
    (fun c s W W' row hs hg hr => hs)
    ⟨⟨_, bL, World.ownsRow_nil _ _ _ _, trivial⟩, KpT.refl _ _, Below.refl _ _⟩
    (fun x a' W => ∃ Bx, W0.heap.size ≤ Bx ∧ (∀ j u, x.enc[j]? = some u → W.cell? ⟨Bx, j, none⟩ = some u) ∧ a' = { tmps := #[.agg #[.int .u32 ver, .slice ag gs.length kg, .slice ac chs.length kc], .int .i64 gi, .pointer (some ⟨w.heap.size, 0, none⟩), undef, .slice none 0 0, .int .i64 0, .pointer (some ⟨tb, 0, none⟩), .pointer (some ⟨tb + 1, 0, none⟩), .pointer (some ⟨Bx, 0, none⟩), undef, undef, undef, undef, undef, undef, undef, .agg #[.int .u32 ver, .slice ag gs.length kg, .slice ac chs.length kc], .int .i64 gi, .bool true, .bool false, .func (.func 68) #[] #[.pointer (some ⟨tb, 0, none⟩)], .agg #[.int .u32 ver, .slice ag gs.length kg, .slice ac chs.length kc], .int .i64 gi, .func (.func 89) #[] #[.pointer (some ⟨tb + 2, 0, none⟩), .pointer (some ⟨tb + 3, 0, none⟩)], .agg #[.int .u64 x.ipa, .int .u64 x.pa, .int .u64 x.sz, .int .i64 x.perm, .int .i64 x.kind], undef, undef, undef, undef, undef, undef, undef, undef, undef, undef, undef, undef, undef, undef, undef, undef, undef, undef, undef, undef, undef, undef, undef, undef, undef, undef, undef, undef, undef, undef, undef, undef, undef, undef, undef, undef, undef, undef, undef, undef, undef, undef, undef], defers := [] })
    (fun x a' _ X Y row hs hg hr => by obtain ⟨Bx, h1, h2, h4⟩ := hs; exact ⟨Bx, h1, fun j u hu => cell_kept (h2 j u hu) hg (fun r e => (hr r e).2), h4⟩)
    ?assign ?body ?done ?stop
  case assign =>
    rintro l1 pre x W K ⟨⟨v, hv, hown, hG⟩, hkp, hB⟩ hK
    gi_wp2
    have hz := hB.size
    exact hK _ _ ((KeepsOthers.alloc _ _).from _) (KpT.of_below (by omega) (bone _ _)) ⟨⟨v, hv.alloc _, hown.alloc _, trivial⟩, hkp.trans (KpT.of_below (by omega) (bone _ _)), hB.alloc (by omega) _⟩ ⟨W.heap.size, hz, fun j u hu => by rw [World.cell?_alloc_new]; simpa [M5.enc] using hu, rfl⟩
  case body =>
    rintro l1 pre x a' W hl1 ⟨r, hr⟩ ⟨⟨v, hv, hown, _⟩, hkp, hB⟩ ⟨Bx, hBx, hx, rfl⟩ hlt
    have x0 := hx 0 _ rfl
    have x1 := hx 1 _ rfl
    have x2 := hx 2 _ rfl
    have x3 := hx 3 _ rfl
    have x4 := hx 4 _ rfl
    have cf := (hkp.cell (fun e => by
      rcases e with e | ⟨u, hu, e⟩
      · omega
      · rw [bL.cell] at hu; cases hu; cases e) f0).1
    have hput := put1_any tb pre x v W hv hown (by omega)
    clear hx
    gi_wp2_with (refine ⟨trivial, ?_⟩; gi_at_call 68; refine (CallsIn.inRound l1 (callsIn_wide.2 hput)).mono ?_; rintro e w2 ⟨⟨u, rfl⟩, ⟨v', hv2, hown2⟩, hk2, hb2, hkp2⟩)
    exact ⟨hk2.from _, hkp2, ⟨v', hv2, hown2, trivial⟩, hkp.trans hkp2, hB.trans hb2⟩
  case done =>
    rintro D ys W hD rfl ⟨⟨v, hv, hown, _⟩, hkp, hB⟩ hK
    have hz := hB.size
    have hown' : W.ownsRow tb 128 6 v (ranks ys.length).length ((ranks ys.length).flatMap (encR ys)) := by rw [ranks_len]; exact hown
    have hsort := sortParts_any ys tb v (ranks ys.length) W hown' (by rw [ranks_len]; omega)
    have hc := hv.cell
    obtain ⟨av, cv, rfl⟩ := ownsRow_slice hown
    have hBW : Below w.heap.size w W := hB1.trans ((hB0.mono (by omega)).trans (hB.mono (by omega)))
    obtain ⟨SR, hSR⟩ : ∃ SR, SR = sortR ys (ranks ys.length) := ⟨_, rfl⟩
    have hSL : SR.length = ys.length := by rw [hSR, sortR_len, ranks_len]
    have hL : sortedM ys = SR.map (rkM ys) := by rw [hSR]; rfl
    rw [← hSR, ranks_len, ← hSL] at hsort
    have hDlt := (Array.getElem?_eq_some_iff.1 hK).1
    replace hSR := Lib.hid hSR
    replace hL := Lib.hid hL
    replace hlen := Lib.hid hlen
    clear hown' hps f0
    rw [← hSL] at hown hlen hc hv
    replace hSL := Lib.hid hSL
    gi_wp2_with (refine ⟨trivial, ?_⟩; gi_at_call 70; refine (callsIn_wide.2 hsort).mono ?_; rintro e w5 ⟨rfl, hown5, hgrow⟩; have hv5 := hv.kept hgrow (hv.not_row (by decide) hown); have hc5 := hv5.cell)
    have hz5 := hgrow.size
    have hK5 : w5.heap[D]? = some (.deferred (some [])) := (hgrow.block D hDlt (own_not_obj hown hK)).trans hK
    have hB5 : Below w.heap.size w w5 := hBW.grown hgrow (by omega) (fun r e => by have := (World.ownsRow.lt hown r e).1; omega)
    obtain ⟨a6, c6, he6, hcap6, hrow6⟩ := row6 ys SR hown5
    cases he6
    clear hv hc hown hgrow hown5 hsort hkp hB hBW hK
    gi_wp2
    gi_loopw [9, 10, 32] (fun v9 v10 i wr => ∃ k : Nat, k ≤ SR.length ∧ i = .int .i64 k ∧ (∀ j (h : j < SR.length), j < k → fineM (rkM ys SR[j]) = true) ∧ OwnM 108 wr w5.heap.size v9 ((SR.map (rkM ys)).take k) ∧ OwnTwo 24 wr w5.heap.size v10 (((SR.map (rkM ys)).take k).map spanM) ∧ Below w5.heap.size w5 wr) (fun _ _ i _ => SR.length - (intOf i).toNat)
    case atStart => exact ⟨0, Nat.zero_le _, rfl, fun j _ h => absurd h (Nat.not_lt_zero j), OwnM.nil _ _ _, OwnTwo.nil _ _ _, Below.refl _ _⟩
    case round =>
      obtain ⟨k, hk, rfl, hall, ho9, ho10, hBr⟩ := hrel
      have hzr := hBr.size
      have hKr : wr.heap[D]? = some (.deferred (some [])) := (hBr.block D (by omega)).trans hK5
      have hBwr : Below w.heap.size w wr := bthen hB5 hBr
      by_cases hlt : k < SR.length
      · obtain ⟨b6, o6, rfl, hb6, hcell⟩ := hrow6 (by rintro rfl; simp at hlt)
        have hce := hcell k hlt
        have hx6 : encR ys SR[k] = (rkM ys SR[k]).enc ++ [.int .i64 SR[k].i] := rfl
        have hsn : (SR.map (rkM ys)).take (k + 1) = (SR.map (rkM ys)).take k ++ [rkM ys SR[k]] := by rw [List.take_succ_eq_append_getElem (by simpa using hlt), List.getElem_map]
        have hfine : fineM (rkM ys SR[k]) = true → ∀ j (h : j < SR.length), j < k + 1 → fineM (rkM ys SR[j]) = true := fun h j hj hjk => by
          by_cases e : j = k
          · subst e; exact h
          · exact hall j hj (by omega)
        have hbad : fineM (rkM ys SR[k]) = false → checkM (SR.map (rkM ys)) = ([], 160) := fun h => by
          unfold checkM
          rw [if_neg]
          rintro ⟨h1, _⟩
          rw [List.all_eq_true] at h1
          have := h1 (rkM ys SR[k]) (List.mem_map.2 ⟨_, List.getElem_mem hlt, rfl⟩)
          rw [h] at this; cases this
        rw [hx6] at hce
        have hfd : fineM (rkM ys SR[k]) = (goodB (rkM ys SR[k]).ipa (rkM ys SR[k]).sz && goodB (rkM ys SR[k]).pa (rkM ys SR[k]).sz) := rfl
        rw [hfd] at hfine hbad
        generalize rkM ys SR[k] = x at *
        generalize SR[k].i = ri at *
        have p0 : wr.cell? ⟨b6, o6 + k * 6, none⟩ = some (.int .u64 x.ipa) := cell_lt hBr (hce 0 _ rfl) hb6
        have p1 : wr.cell? ⟨b6, o6 + k * 6 + 1, none⟩ = some (.int .u64 x.pa) := cell_lt hBr (hce 1 _ rfl) hb6
        have p2 : wr.cell? ⟨b6, o6 + k * 6 + 2, none⟩ = some (.int .u64 x.sz) := cell_lt hBr (hce 2 _ rfl) hb6
        have p3 : wr.cell? ⟨b6, o6 + k * 6 + 3, none⟩ = some (.int .i64 x.perm) := cell_lt hBr (hce 3 _ rfl) hb6
        have p4 : wr.cell? ⟨b6, o6 + k * 6 + 4, none⟩ = some (.int .i64 x.kind) := cell_lt hBr (hce 4 _ rfl) hb6
        have p5 : wr.cell? ⟨b6, o6 + k * 6 + 5, none⟩ = some (.int .i64 ri) := cell_lt hBr (hce 5 _ rfl) hb6
        clear hce hcell hx6 hfd hall hrow6
        obtain ⟨n0, n1, n2, n3, n4⟩ := six_new wr (.int .u64 x.ipa) (.int .u64 x.pa) (.int .u64 x.sz) (.int .i64 x.perm) (.int .i64 x.kind) (.int .i64 ri) 128
        have hTlt : wr.heap.size < (wr.alloc (.cells #[.int .u64 x.ipa, .int .u64 x.pa, .int .u64 x.sz, .int .i64 x.perm, .int .i64 x.kind, .int .i64 ri] 128)).heap.size := by simp
        have hba := bone wr (.cells #[.int .u64 x.ipa, .int .u64 x.pa, .int .u64 x.sz, .int .i64 x.perm, .int .i64 x.kind, .int .i64 ri] 128)
        replace hsn := Lib.hid hsn
        replace hfine := Lib.hid hfine
        replace hbad := Lib.hid hbad
        gi_wp2_with (refine ⟨trivial, ?_⟩; gi_at_call 73; refine (callsIn_wide.2 (virtual_any x _)).mono ?_; rintro e w6 ⟨rfl, hb6'⟩)
        have hlow9 := World.ownsRow.lt ho9
        have hlow10 := World.ownsRow.lt ho10
        have hl9 : ((SR.map (rkM ys)).take k).length = k := by simp; omega
        have hl10 : (((SR.map (rkM ys)).take k).map spanM).length = k := by simp; omega
        obtain ⟨a9, c9, e9⟩ := ownsRow_slice ho9
        obtain ⟨a10, c10, e10⟩ := ownsRow_slice ho10
        rw [hl9] at e9
        rw [hl10] at e10
        subst e9 e10
        replace hl9 := Lib.hid hl9
        replace hl10 := Lib.hid hl10
        refine ⟨trivial, ?_⟩
        refine (callsIn_wide.2 (good_any _ _ _ x.hi x.hs)).mono ?_; rintro e w7 ⟨rfl, hb7⟩
        have hba7 := bthen hb6' hb7
        have hTl7 := Nat.lt_of_lt_of_le hTlt hba7.size
        have hB7 : Below wr.heap.size wr w7 := bthen hba hba7
        have q0 := cell_lt hba7 n0 hTlt
        have q1 := cell_lt hba7 n1 hTlt
        have q2 := cell_lt hba7 n2 hTlt
        have q3 := cell_lt hba7 n3 hTlt
        have q4 := cell_lt hba7 n4 hTlt
        clear n0 n1 n2 n3 n4 hb6' hb7 hba7 hba hTlt p0 p1 p2 p3 p4 p5
        cases hg : goodB x.ipa x.sz
        · have hC : checkM (sortedM (partsV gs[gi] chs gi)) = ([], 160) := by rw [hPe.out, hL.out]; exact hbad.out (by rw [hg]; rfl)
          replace hC := Lib.hid hC
          clear hbad hfine q0 q1 q2 q3 q4
          gi_wp2
          refine ⟨trivial, ?_⟩
          gi_wp2
          refine ⟨trivial, ?_⟩
          gi_wp2
          replace hC := hC.out
          have hDf : w7.heap[D]? = some (.deferred (some [])) := (hB7.block D (by omega)).trans hKr
          refine ⟨by simp, .inl ⟨_, _, rfl, run_takeDeferred hDf, ?_⟩⟩
          refine ⟨.tuple #[.slice none 0 0, .int .i64 160], by simp [results, Tryz.results29, go_sem], ⟨.slice none 0 0, by rw [hC], by rw [hC]; exact OwnM.nil _ _ _⟩, (bthen hBwr hB7).trans (belowK_b (w := w) (Nat.le_refl _) w7 D _ _ (by omega) hDf rfl rfl)⟩
        · gi_wp2_with (refine ⟨trivial, ?_⟩; gi_at_call 74; refine (callsIn_wide.2 (physical_any x _)).mono ?_; rintro e w8 ⟨rfl, hb8⟩)
          refine ⟨trivial, ?_⟩
          refine (callsIn_wide.2 (good_any _ _ _ x.hp x.hs)).mono ?_; rintro e w9 ⟨rfl, hb9⟩
          have hb79 := bthen hb8 hb9
          have hTl9 := Nat.lt_of_lt_of_le hTl7 hb79.size
          have hB9 : Below wr.heap.size wr w9 := bthen hB7 hb79
          replace q0 := cell_lt hb79 q0 hTl7
          replace q1 := cell_lt hb79 q1 hTl7
          replace q2 := cell_lt hb79 q2 hTl7
          replace q3 := cell_lt hb79 q3 hTl7
          replace q4 := cell_lt hb79 q4 hTl7
          clear hb8 hb9 hb79 hTl7 hB7
          cases hg2 : goodB x.pa x.sz
          · have hC : checkM (sortedM (partsV gs[gi] chs gi)) = ([], 160) := by rw [hPe.out, hL.out]; exact hbad.out (by rw [hg, hg2]; rfl)
            replace hC := Lib.hid hC
            clear hbad hfine q0 q1 q2 q3 q4
            gi_wp2
            replace hC := hC.out
            have hDf : w9.heap[D]? = some (.deferred (some [])) := (hB9.block D (by omega)).trans hKr
            refine ⟨by simp, .inl ⟨_, _, rfl, run_takeDeferred hDf, ?_⟩⟩
            refine ⟨.tuple #[.slice none 0 0, .int .i64 160], by simp [results, Tryz.results29, go_sem], ⟨.slice none 0 0, by rw [hC], by rw [hC]; exact OwnM.nil _ _ _⟩, (bthen hBwr hB9).trans (belowK_b (w := w) (Nat.le_refl _) w9 D _ _ (by omega) hDf rfl rfl)⟩
          · have hfn := hfine.out (by rw [hg, hg2]; rfl)
            clear hbad hfine
            have hT9 : wr.heap.size < w9.heap.size := hTl9
            replace ho9 := ho9.below hB9 (Nat.le_refl _)
            replace ho10 := ho10.below hB9 (Nat.le_refl _)
            have hB59 : Below w5.heap.size w5 w9 := bthen hBr hB9
            have hz9 := hB59.size
            clear hBr hB9 hBwr hKr hzr hTl9
            gi_wp2
            refine wpIn_wide.2 ?_
            haveI : Nonempty (Box5 wr.heap.size x) := ⟨⟨w9, q0, q1, q2, q3, q4⟩⟩
            refine region_ord (fun q => ∃ X : Box5 wr.heap.size x, q = X.x) [([0, 1, 2, 5, 6, 7], 3), ([], 4), ([], 8), ([], 9), ([], 10)] [11, 12] (by kernel_rfl) (by kernel_rfl) (by kernel_rfl) (by kernel_rfl) ⟨⟨w9.drew, q0, q1, q2, q3, q4⟩, rfl⟩ ?_
            simp only [List.map_cons, List.map_nil, List.filterMap_cons, List.filterMap_nil, List.getElem?_cons_succ, List.getElem?_cons_zero]
            have u0 := fun X : Box5 wr.heap.size x => X.h0
            have u1 := fun X : Box5 wr.heap.size x => X.h1
            have u2 := fun X : Box5 wr.heap.size x => X.h2
            have u3 := fun X : Box5 wr.heap.size x => X.h3
            have u4 := fun X : Box5 wr.heap.size x => X.h4
            have hd : Below w9.heap.size w9 w9.drew := (Below.refl _ _).drew
            replace ho9 := ho9.below hd (Nat.le_refl _)
            replace ho10 := ho10.below hd (Nat.le_refl _)
            replace hB59 := bthen hB59 hd
            replace q0 := cell_lt hd q0 hT9
            replace q1 := cell_lt hd q1 hT9
            replace q2 := cell_lt hd q2 hT9
            replace q3 := cell_lt hd q3 hT9
            replace q4 := cell_lt hd q4 hT9
            replace hT9 := Nat.lt_of_lt_of_le hT9 hd.size
            replace hz9 := Nat.le_trans hz9 hd.size
            generalize w9.drew = wd at *
            clear hd
            refine ord_step ?_
            repeat (change wpQuiet _ _ _ _ (List.cons _ _) _; go_big_quiet_step (fail))
            refine wpQuiet_nil ?_
            intro Q₁ hQ₁
            go_wp2_with fail
            have hb1 := bone wd (.cells #[.int .u64 x.ipa, .int .u64 x.pa, .int .u64 x.sz, .int .i64 x.perm, .int .i64 x.kind] 108)
            have e0 := cell_lt hb1 q0 hT9
            have e1 := cell_lt hb1 q1 hT9
            have e2 := cell_lt hb1 q2 hT9
            have e3 := cell_lt hb1 q3 hT9
            have e4 := cell_lt hb1 q4 hT9
            refine hQ₁ _ _ ⟨⟨_, e0, e1, e2, e3, e4⟩, rfl⟩ ?_
            clear hQ₁ Q₁
            refine ord_step ?_
            refine wpQuiet_nil ?_
            intro Q₁ hQ₁
            simp only [Option.toList]
            go_wp2_with (at_builtin; go_must (refine wpl_append_map rfl _ _ 69 rfl w5.heap.size 108 infoM16 Tryz.underlying69 (.slice a9 k c9) ((SR.map (rkM ys)).take k) [x] rfl rfl ?_ rfl rfl ?_ ?_ ?_ ?_); go_must (focus (exact ho9)); go_must (focus (simp [encM, M5.enc])); go_must (focus (have := hlen.out; simp; omega)); go_must (focus omega); intro v' w6 hown9 hbel hgrow; obtain ⟨a9', c9', e9⟩ := ownsRow_slice hown9; rw [List.length_append, hl9.out, List.length_singleton] at e9; subst e9)
            have hlb : wr.heap.size < (wd.alloc (.cells #[.int .u64 x.ipa, .int .u64 x.pa, .int .u64 x.sz, .int .i64 x.perm, .int .i64 x.kind] 108)).heap.size := Nat.lt_of_lt_of_le hT9 hb1.size
            have hne9 : (.slice a9 k c9 : Value).ownBlock ≠ some wr.heap.size := fun e => by have := (hlow9 _ e).2; omega
            replace e0 := grown_cell16 hgrow hlb hne9 e0
            replace e1 := grown_cell16 hgrow hlb hne9 e1
            replace e2 := grown_cell16 hgrow hlb hne9 e2
            replace e3 := grown_cell16 hgrow hlb hne9 e3
            replace e4 := grown_cell16 hgrow hlb hne9 e4
            replace ho10 := (World.ownsRow.alloc ho10 (.cells #[.int .u64 x.ipa, .int .u64 x.pa, .int .u64 x.sz, .int .i64 x.perm, .int .i64 x.kind] 108)).kept hgrow (own_types ho9 ho10 (by decide))
            replace hB59 := hB59.trans (hbel _ (Nat.le_refl _))
            have hlb6 : wr.heap.size < w6.heap.size := Nat.lt_of_lt_of_le hlb hgrow.size
            clear ho9 hgrow hbel hlb q0 q1 q2 q3 q4 hb1
            refine hQ₁ _ _ ⟨⟨w6, e0, e1, e2, e3, e4⟩, rfl⟩ ?_
            clear hQ₁ Q₁
            refine ord_step ?_
            refine wpQuiet_nil ?_
            intro Q₁ hQ₁
            simp only [Option.toList]
            go_wp2_with fail
            refine (virtual_any x w6).mono ?_; rintro e w7' ⟨rfl, hb7'⟩
            replace e0 := cell_lt hb7' e0 hlb6
            replace e1 := cell_lt hb7' e1 hlb6
            replace e2 := cell_lt hb7' e2 hlb6
            replace e3 := cell_lt hb7' e3 hlb6
            replace e4 := cell_lt hb7' e4 hlb6
            replace ho10 := OwnTwo.below ho10 hb7' (Nat.le_refl _)
            replace hown9 := hown9.below hb7' (Nat.le_refl _)
            replace hB59 := bthen hB59 hb7'
            replace hlb6 := Nat.lt_of_lt_of_le hlb6 hb7'.size
            clear hb7'
            go_wp2_with fail
            refine hQ₁ _ _ ⟨⟨w7', e0, e1, e2, e3, e4⟩, rfl⟩ ?_
            clear hQ₁ Q₁
            refine ord_step ?_
            refine wpQuiet_nil ?_
            intro Q₁ hQ₁
            simp only [Option.toList]
            go_wp2_with fail
            have hb2 := bone w7' (.cells #[.int .u64 x.ipa, .int .u64 x.sz] 24)
            replace e0 := cell_lt hb2 e0 hlb6
            replace e1 := cell_lt hb2 e1 hlb6
            replace e2 := cell_lt hb2 e2 hlb6
            replace e3 := cell_lt hb2 e3 hlb6
            replace e4 := cell_lt hb2 e4 hlb6
            refine hQ₁ _ _ ⟨⟨_, e0, e1, e2, e3, e4⟩, rfl⟩ ?_
            clear hQ₁ Q₁
            refine ord_step ?_
            refine wpQuiet_nil ?_
            intro Q₁ hQ₁
            simp only [Option.toList]
            have hz7 := hB59.size
            go_wp2_with (at_builtin; go_must (refine wpl_append_two rfl _ _ 57 rfl w5.heap.size 24 infoS16 Tryz.underlying57 (.slice a10 k c10) (((SR.map (rkM ys)).take k).map spanM) (spanM x) rfl rfl ?_ rfl ⟨rfl, rfl⟩ ?_ ?_ ?_); go_must (focus (exact ho10)); go_must (focus (have := hlen.out; simp; omega)); go_must (focus omega); intro v' w8 hown10 hbel hgrow; obtain ⟨a10', c10', e10⟩ := ownsRow_slice hown10; rw [List.length_append, hl10.out, List.length_singleton] at e10; subst e10)
            have hlb8 : wr.heap.size < (w7'.alloc (.cells #[.int .u64 x.ipa, .int .u64 x.sz] 24)).heap.size := Nat.lt_of_lt_of_le hlb6 hb2.size
            have hne10 : (.slice a10 k c10 : Value).ownBlock ≠ some wr.heap.size := fun e => by have := (hlow10 _ e).2; omega
            replace e0 := grown_cell16 hgrow hlb8 hne10 e0
            replace e1 := grown_cell16 hgrow hlb8 hne10 e1
            replace e2 := grown_cell16 hgrow hlb8 hne10 e2
            replace e3 := grown_cell16 hgrow hlb8 hne10 e3
            replace e4 := grown_cell16 hgrow hlb8 hne10 e4
            replace hown9 := (World.ownsRow.alloc hown9 (.cells #[.int .u64 x.ipa, .int .u64 x.sz] 24)).kept hgrow (own_types ho10 hown9 (by decide))
            replace hB59 := hB59.trans (hbel _ (Nat.le_refl _))
            clear ho10 hgrow hbel hlb8 hlb6 hb2 u0 u1 u2 u3 u4
            refine hQ₁ _ _ ⟨⟨w8, e0, e1, e2, e3, e4⟩, rfl⟩ ?_
            clear hQ₁ Q₁ e0 e1 e2 e3 e4
            refine ord_last ?_
            repeat (change wpQuiet _ _ _ _ (List.cons _ _) _; go_big_quiet_step (fail))
            refine wpQuiet_nil ?_
            have hlen' := hlen.out
            gi_wp2
            go_roundw
            case rel => exact ⟨k + 1, by omega, by go_num, hfn, by rw [hsn.out]; exact hown9, by rw [hsn.out, List.map_append]; exact hown10, hB59⟩
            case measure => simp [intOf]; omega
      · obtain rfl : k = SR.length := by omega
        have htk : (SR.map (rkM ys)).take SR.length = SR.map (rkM ys) := by rw [List.take_of_length_le (by simp)]
        rw [htk] at ho9 ho10
        have hall' : (SR.map (rkM ys)).all fineM = true := by
          rw [List.all_eq_true]
          intro y hy
          obtain ⟨r, hr, rfl⟩ := List.mem_map.1 hy
          obtain ⟨j, hj, rfl⟩ := List.mem_iff_getElem.1 hr
          exact hall j hj hj
        have hck : checkM (sortedM (partsV gs[gi] chs gi)) = if (firstV ((SR.map (rkM ys)).map spanM)).2.2 = false then (SR.map (rkM ys), 0) else ([], 160) := by
          rw [hPe.out, hL.out]; unfold checkM
          by_cases h : (firstV ((SR.map (rkM ys)).map spanM)).2.2 = false
          · rw [if_pos ⟨hall', h⟩, if_pos h]
          · rw [if_neg (fun e => h e.2), if_neg h]
        have hl10 : ((SR.map (rkM ys)).map spanM).length = SR.length := by simp
        have hl9 : (SR.map (rkM ys)).length = SR.length := by simp
        obtain ⟨a9, c9, e9⟩ := ownsRow_slice ho9
        obtain ⟨a10, c10, e10⟩ := ownsRow_slice ho10
        rw [hl9] at e9
        rw [hl10] at e10
        subst e9 e10
        have hfst := first_any (.slice a10 SR.length c10) _ wr (OwnTwo.row ho10) (by rw [hl10]; have := hlen.out; omega)
        replace hck := Lib.hid hck
        generalize firstV ((SR.map (rkM ys)).map spanM) = F at *
        clear hall hall' htk hl9 hl10 ho10 hrow6
        gi_wp2
        refine ⟨trivial, ?_⟩
        refine (callsIn_wide.2 hfst).mono ?_; rintro e w6 ⟨rfl, hb6⟩
        obtain ⟨f1, f2, f3⟩ := F
        cases f3
        · have hC : checkM (sortedM (partsV gs[gi] chs gi)) = (SR.map (rkM ys), 0) := by rw [hck.out]; rfl
          replace hC := Lib.hid hC
          replace ho9 := ho9.below hb6 (Nat.le_refl _)
          clear hck
          gi_wp2
          replace hC := hC.out
          have hDf : w6.heap[D]? = some (.deferred (some [])) := (hb6.block D (by omega)).trans hKr
          refine ⟨by simp, .inl ⟨_, _, rfl, run_takeDeferred hDf, ?_⟩⟩
          refine ⟨.tuple #[.slice a9 SR.length c9, .int .i64 0], by simp [results, Tryz.results29, go_sem], ⟨.slice a9 SR.length c9, by rw [hC], by rw [hC]; exact ownsRow_putObj (ho9.mono (by have := hB5.size; omega)) _ hDf rfl⟩, (bthen hBwr hb6).trans (belowK_b (w := w) (Nat.le_refl _) w6 D _ _ (by omega) hDf rfl rfl)⟩
        · have hC : checkM (sortedM (partsV gs[gi] chs gi)) = ([], 160) := by rw [hck.out]; rfl
          replace hC := Lib.hid hC
          clear hck ho9
          gi_wp2
          replace hC := hC.out
          have hDf : w6.heap[D]? = some (.deferred (some [])) := (hb6.block D (by omega)).trans hKr
          refine ⟨by simp, .inl ⟨_, _, rfl, run_takeDeferred hDf, ?_⟩⟩
          refine ⟨.tuple #[.slice none 0 0, .int .i64 160], by simp [results, Tryz.results29, go_sem], ⟨.slice none 0 0, by rw [hC], by rw [hC]; exact OwnM.nil _ _ _⟩, (bthen hBwr hb6).trans (belowK_b (w := w) (Nat.le_refl _) w6 D _ _ (by omega) hDf rfl rfl)⟩
  case stop =>
    rintro D cc pre W hD _ h
    exact absurd h (fun h => h)
end Go.Proofs.YtffdfeekpfmbeaaGreat
