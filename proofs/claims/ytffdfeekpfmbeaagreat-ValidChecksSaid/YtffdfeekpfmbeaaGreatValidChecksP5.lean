/- A configuration, opened: guests, windows, devices, interrupts, streams, channels. -/
import Derived.OpenShut
import Derived.ChangeArms
import Derived.Test.YtffdfeekpfmbeaaGreatChecked
import Derived.Test.YtffdfeekpfmbeaaGreatValidChecksP1
import Derived.Test.YtffdfeekpfmbeaaGreatValidChecksP4
namespace Go.Proofs.YtffdfeekpfmbeaaGreat
open Go Go.Joins Go.ChangeShapes Go.WideShapes Go.RowKit Go.Deep

/-- A row of structs of 'C' cells. -/
def RowX {α : Type} (C : Nat) (R : World → List Value → α → Prop) (w : World) (v : Value) (l : List α) : Prop :=
  ∃ (a : Option Addr) (cap : Nat), v = .slice a l.length cap ∧ l.length ≤ cap ∧ cap ≤ maxLen ∧ (l ≠ [] → ∃ b off, a = some ⟨b, off, none⟩ ∧ b < w.heap.size ∧
    ∀ i (h : i < l.length), ∃ cs, R w cs l[i] ∧ cs.length = C ∧ ∀ j u, cs[j]? = some u → w.cell? ⟨b, off + i * C + j, none⟩ = some u)
def Lasts {α : Type} (R : World → List Value → α → Prop) : Prop := ∀ w w' cs x, Below w.heap.size w w' → R w cs x → R w' cs x
theorem RowX.below {α : Type} {C : Nat} {R : World → List Value → α → Prop} {w w' : World} {v : Value} {l : List α} (h : RowX C R w v l) (hb : Below w.heap.size w w') (hR : Lasts R) : RowX C R w' v l := by
  obtain ⟨a, cap, h1, h2, h3, h4⟩ := h
  refine ⟨a, cap, h1, h2, h3, fun hne => ?_⟩
  obtain ⟨b, off, ha, hlt, hc⟩ := h4 hne
  refine ⟨b, off, ha, Nat.lt_of_lt_of_le hlt hb.size, fun i hi => ?_⟩
  obtain ⟨cs, r, hl, hcell⟩ := hc i hi
  exact ⟨cs, hR _ _ _ _ hb r, hl, fun j u hu => (hb.cell (p := ⟨b, _, none⟩) hlt).trans (hcell j u hu)⟩

section
variable {H : Type} {enc : TypeId × Value → H} {P : Program} {w : World} {base : Nat} {spare : Nat → Bool} {held : Bool}
theorem open_rowX {α : Type} [Inhabited α] {C : Nat} {R : World → List Value → α → Prop} {t e : TypeId} {fuel : Nat} {c : Value} {y : DataW H × List MemPlace} (ht : P.underlying t = some (.slice e)) (hC : P.cellsOf e = C) (h0 : 0 < C)
    (hR : ∀ n cs y, cs.length = C → DataW.trod enc P w base spare held n e cs = some y → ∃ x, R w cs x) (h : DataW.trod enc P w base spare held fuel t [c] = some y) : ∃ l : List α, RowX C R w c l := by
  rcases open_slice ht h with ⟨hcs, _⟩ | ⟨a, len, cap, m, n, D, Pl, hcs, _, hl, hm, hmm, _, hx⟩
  · simp at hcs
    subst hcs
    exact ⟨[], none, 0, rfl, Nat.le_refl _, by unfold maxLen; omega, fun h => absurd rfl h⟩
  · simp at hcs
    subst hcs
    have hlm : len ≤ m := by rw [hmm]; split <;> omega
    rcases Nat.eq_zero_or_pos len with rfl | hpos
    · exact ⟨[], some a, cap, rfl, Nat.zero_le _, hm, fun h => absurd rfl h⟩
    · obtain ⟨f, hF⟩ := choose_lt (n := len) (p := fun i (q : α × List Value) => R w q.2 q.1 ∧ q.2.length = C ∧ ∀ j u, q.2[j]? = some u → w.cell? (a.add (i * C + j)) = some u) (by
        intro i hi
        obtain ⟨cs', h1, h2⟩ := hx i (by omega)
        rw [hC] at h1
        obtain ⟨_, hlen, hcell⟩ := World.cells?_some h1
        obtain ⟨x, hr⟩ := hR _ _ _ hlen h2
        refine ⟨(x, cs'), hr, hlen, fun j u hu => ?_⟩
        have hj : j < C := by rw [← hlen]; exact (List.getElem?_eq_some_iff.1 hu).1
        have e0 := hcell j hj
        rw [add_add] at e0
        rw [e0]; exact hu)
      obtain ⟨b, off, spot⟩ := a
      obtain ⟨_, hl0, hc0⟩ := hF 0 hpos
      have h00 := hc0 0 (((f 0).2)[0]'(by omega)) (List.getElem?_eq_getElem (by omega))
      have hs : spot = none := by simpa [Addr.add] using World.cell?_spot h00
      subst hs
      have hb := World.block_lt_of_cell? w _ h00
      refine ⟨(List.range len).map fun i => (f i).1, some ⟨b, off, none⟩, cap, by simp, by simpa using hl, hm, fun _ => ⟨b, off, rfl, by simpa [Addr.add] using hb, fun i hi => ?_⟩⟩
      have hi' : i < len := by simpa using hi
      obtain ⟨r1, r2, r3⟩ := hF i hi'
      refine ⟨(f i).2, ?_, r2, fun j u hu => ?_⟩
      · have hg : ((List.range len).map fun i => (f i).1)[i] = (f i).1 := by simp
        rw [hg]; exact r1
      · have := r3 j u hu
        rw [Go.WideShapes.add_plain] at this
        rw [Nat.add_assoc]; exact this
end

structure WinV where
  ipa : Int
  pa : Int
  sz : Int
  perm : Int
  hi : W64 ipa
  hp : W64 pa
  hs : W64 sz
structure DevV where
  ipa : Int
  pa : Int
  sz : Int
  hi : W64 ipa
  hp : W64 pa
  hs : W64 sz
structure IrqV where
  num : Int
  cpu : Int
  edge : Bool
def I64 (n : Int) : Prop := -9223372036854775808 ≤ n ∧ n ≤ 9223372036854775807
def U32 (n : Int) : Prop := 0 ≤ n ∧ n < 4294967296
structure EndV where
  g : Int
  perm : Int
  ipa : Int
  hi : W64 ipa
structure ChV where
  pa : Int
  sz : Int
  e0 : EndV
  e1 : EndV
  hp : W64 pa
  hs : W64 sz
structure GuestV where
  name : ByteArray
  mand : Bool
  off : Int
  len : Int
  cpus : Int
  entry : Int
  dtb : Int
  key : List Int
  win : List WinV
  dev : List DevV
  irq : List IrqV
  str : List Int
theorem w64_0 : W64 0 := ⟨by decide, by decide⟩
instance : Inhabited WinV := ⟨⟨0, 0, 0, 0, w64_0, w64_0, w64_0⟩⟩
instance : Inhabited DevV := ⟨⟨0, 0, 0, w64_0, w64_0, w64_0⟩⟩
instance : Inhabited IrqV := ⟨⟨0, 0, false⟩⟩
instance : Inhabited EndV := ⟨⟨0, 0, 0, w64_0⟩⟩
instance : Inhabited ChV := ⟨⟨0, 0, default, default, w64_0, w64_0⟩⟩
instance : Inhabited GuestV := ⟨⟨ByteArray.empty, false, 0, 0, 0, 0, 0, [], [], [], [], []⟩⟩
def WinV.enc (x : WinV) : List Value := [.int .u64 x.ipa, .int .u64 x.pa, .int .u64 x.sz, .int .i64 x.perm]
def DevV.enc (x : DevV) : List Value := [.int .u64 x.ipa, .int .u64 x.pa, .int .u64 x.sz]
def IrqV.enc (x : IrqV) : List Value := [.int .i64 x.num, .int .i64 x.cpu, .bool x.edge]
def EndV.enc (x : EndV) : List Value := [.int .i64 x.g, .int .i64 x.perm, .int .u64 x.ipa]
def ChV.enc (x : ChV) : List Value := [.int .u64 x.pa, .int .u64 x.sz, .int .i64 x.e0.g, .int .i64 x.e0.perm, .int .u64 x.e0.ipa, .int .i64 x.e1.g, .int .i64 x.e1.perm, .int .u64 x.e1.ipa]
def WinR (_ : World) (cs : List Value) (x : WinV) : Prop := cs = x.enc ∧ I64 x.perm
def DevR (_ : World) (cs : List Value) (x : DevV) : Prop := cs = x.enc
def IrqR (_ : World) (cs : List Value) (x : IrqV) : Prop := cs = x.enc ∧ I64 x.num ∧ I64 x.cpu
def StrR (_ : World) (cs : List Value) (x : Int) : Prop := cs = [.int .u32 x] ∧ U32 x
def ChR (_ : World) (cs : List Value) (x : ChV) : Prop := cs = x.enc ∧ I64 x.e0.g ∧ I64 x.e0.perm ∧ I64 x.e1.g ∧ I64 x.e1.perm
theorem lasts_win : Lasts WinR := fun _ _ _ _ _ h => h
theorem lasts_dev : Lasts DevR := fun _ _ _ _ _ h => h
theorem lasts_irq : Lasts IrqR := fun _ _ _ _ _ h => h
theorem lasts_str : Lasts StrR := fun _ _ _ _ _ h => h
theorem lasts_ch : Lasts ChR := fun _ _ _ _ _ h => h
/-- The 79 cells of a guest. -/
structure GuestR (w : World) (cs : List Value) (x : GuestV) : Prop where
  name : cs[0]? = some (.string x.name)
  mand : cs[1]? = some (.bool x.mand)
  off : cs[2]? = some (.int .u32 x.off) ∧ U32 x.off
  len : cs[3]? = some (.int .u32 x.len) ∧ U32 x.len
  cpus : cs[4]? = some (.int .u32 x.cpus) ∧ U32 x.cpus
  entry : cs[5]? = some (.int .u64 x.entry) ∧ W64 x.entry
  dtb : cs[6]? = some (.int .u64 x.dtb) ∧ W64 x.dtb
  key : (cs.drop 7).take 68 = x.key.map (Value.int .u8) ∧ x.key.length = 68 ∧ ∀ b ∈ x.key, 0 ≤ b ∧ b < 256
  win : ∃ v, cs[75]? = some v ∧ RowX 4 WinR w v x.win
  dev : ∃ v, cs[76]? = some v ∧ RowX 3 DevR w v x.dev
  irq : ∃ v, cs[77]? = some v ∧ RowX 3 IrqR w v x.irq
  str : ∃ v, cs[78]? = some v ∧ RowX 1 StrR w v x.str
theorem lasts_guest : Lasts GuestR := fun _ _ _ _ hb h =>
  ⟨h.name, h.mand, h.off, h.len, h.cpus, h.entry, h.dtb, h.key,
    let ⟨v, a, b⟩ := h.win; ⟨v, a, b.below hb lasts_win⟩, let ⟨v, a, b⟩ := h.dev; ⟨v, a, b.below hb lasts_dev⟩,
    let ⟨v, a, b⟩ := h.irq; ⟨v, a, b.below hb lasts_irq⟩, let ⟨v, a, b⟩ := h.str; ⟨v, a, b.below hb lasts_str⟩⟩
theorem i64_of {n : Int} (h : (Lit.int .i64 n).wf = true) : I64 n := by
  simp [Lit.wf, IntKind.min, IntKind.max, IntKind.signed, IntKind.bits] at h
  unfold I64; omega
theorem u32_of {n : Int} (h : (Lit.int .u32 n).wf = true) : U32 n := by
  simp [Lit.wf, IntKind.min, IntKind.max, IntKind.signed, IntKind.bits] at h
  unfold U32; omega
theorem u8_of {n : Int} (h : (Lit.int .u8 n).wf = true) : 0 ≤ n ∧ n < 256 := by
  simp [Lit.wf, IntKind.min, IntKind.max, IntKind.signed, IntKind.bits] at h
  omega
theorem take_get {α : Type} {l m : List α} {o k : Nat} (h : (l.drop o).take k = m) {j : Nat} (hj : j < k) : l[o + j]? = m[j]? := by
  rw [← h, List.getElem?_take, if_pos hj, List.getElem?_drop]
section
variable {H : Type} {enc : TypeId × Value → H} {w : World} {base : Nat} {spare : Nat → Bool} {held : Bool}
theorem open_win (n : Nat) (cs : List Value) (y : DataW H × List MemPlace) (hl : cs.length = 4) (h : DataW.trod enc Tryz.prog w base spare held n 44 cs = some y) : ∃ x, WinR w cs x := by
  obtain ⟨xs, m, _, _, _, hxl, hg⟩ := DataW.trod_struct Tryz.underlying44 h
  obtain ⟨c0, c1, c2, c3, rfl⟩ := list4 hl
  have g0 := hg 0 _ rfl
  have g1 := hg 1 _ rfl
  have g2 := hg 2 _ rfl
  have g3 := hg 3 _ rfl
  have hsz : xs.length = 4 := hxl
  rw [List.getElem?_eq_getElem (by omega)] at g0 g1 g2 g3
  obtain ⟨n0, e0, _, w0⟩ := DataW.trod_int Tryz.underlying22 g0
  obtain ⟨n1, e1, _, w1⟩ := DataW.trod_int Tryz.underlying22 g1
  obtain ⟨n2, e2, _, w2⟩ := DataW.trod_int Tryz.underlying22 g2
  obtain ⟨n3, e3, _, w3⟩ := DataW.trod_int Tryz.underlying3 g3
  have k1 : Tryz.prog.cellsOf 22 = 1 := by kernel_rfl
  have k2 : Tryz.prog.cellsOf 3 = 1 := by kernel_rfl
  simp [k1, k2] at e0 e1 e2 e3
  subst e0 e1 e2 e3
  exact ⟨⟨n0, n1, n2, n3, u64_bd w0, u64_bd w1, u64_bd w2⟩, rfl, i64_of w3⟩
theorem open_dev (n : Nat) (cs : List Value) (y : DataW H × List MemPlace) (hl : cs.length = 3) (h : DataW.trod enc Tryz.prog w base spare held n 98 cs = some y) : ∃ x, DevR w cs x := by
  obtain ⟨xs, m, _, _, _, hxl, hg⟩ := DataW.trod_struct Tryz.underlying98 h
  obtain ⟨c0, c1, c2, rfl⟩ := list3 hl
  have g0 := hg 0 _ rfl
  have g1 := hg 1 _ rfl
  have g2 := hg 2 _ rfl
  have hsz : xs.length = 3 := hxl
  rw [List.getElem?_eq_getElem (by omega)] at g0 g1 g2
  obtain ⟨n0, e0, _, w0⟩ := DataW.trod_int Tryz.underlying22 g0
  obtain ⟨n1, e1, _, w1⟩ := DataW.trod_int Tryz.underlying22 g1
  obtain ⟨n2, e2, _, w2⟩ := DataW.trod_int Tryz.underlying22 g2
  have k1 : Tryz.prog.cellsOf 22 = 1 := by kernel_rfl
  simp [k1] at e0 e1 e2
  subst e0 e1 e2
  exact ⟨⟨n0, n1, n2, u64_bd w0, u64_bd w1, u64_bd w2⟩, rfl⟩
theorem open_irq (n : Nat) (cs : List Value) (y : DataW H × List MemPlace) (hl : cs.length = 3) (h : DataW.trod enc Tryz.prog w base spare held n 101 cs = some y) : ∃ x, IrqR w cs x := by
  obtain ⟨xs, m, _, _, _, hxl, hg⟩ := DataW.trod_struct Tryz.underlying101 h
  obtain ⟨c0, c1, c2, rfl⟩ := list3 hl
  have g0 := hg 0 _ rfl
  have g1 := hg 1 _ rfl
  have g2 := hg 2 _ rfl
  have hsz : xs.length = 3 := hxl
  rw [List.getElem?_eq_getElem (by omega)] at g0 g1 g2
  obtain ⟨n0, e0, _, w0⟩ := DataW.trod_int Tryz.underlying3 g0
  obtain ⟨n1, e1, _, w1⟩ := DataW.trod_int Tryz.underlying3 g1
  obtain ⟨n2, e2, _⟩ := DataW.trod_bool Tryz.underlying4 g2
  have k1 : Tryz.prog.cellsOf 4 = 1 := by kernel_rfl
  have k2 : Tryz.prog.cellsOf 3 = 1 := by kernel_rfl
  simp [k1, k2] at e0 e1 e2
  subst e0 e1 e2
  exact ⟨⟨n0, n1, n2⟩, rfl, i64_of w0, i64_of w1⟩
theorem open_str (n : Nat) (cs : List Value) (y : DataW H × List MemPlace) (_ : cs.length = 1) (h : DataW.trod enc Tryz.prog w base spare held n 27 cs = some y) : ∃ x, StrR w cs x := by
  obtain ⟨n0, e0, _, w0⟩ := DataW.trod_int Tryz.underlying27 h
  exact ⟨n0, e0, u32_of w0⟩
theorem open_end (n : Nat) (cs : List Value) (y : DataW H × List MemPlace) (hl : cs.length = 3) (h : DataW.trod enc Tryz.prog w base spare held n 73 cs = some y) : ∃ x : EndV, cs = x.enc ∧ I64 x.g ∧ I64 x.perm := by
  obtain ⟨xs, m, _, _, _, hxl, hg⟩ := DataW.trod_struct Tryz.underlying73 h
  obtain ⟨c0, c1, c2, rfl⟩ := list3 hl
  have g0 := hg 0 _ rfl
  have g1 := hg 1 _ rfl
  have g2 := hg 2 _ rfl
  have hsz : xs.length = 3 := hxl
  rw [List.getElem?_eq_getElem (by omega)] at g0 g1 g2
  obtain ⟨n0, e0, _, w0⟩ := DataW.trod_int Tryz.underlying3 g0
  obtain ⟨n1, e1, _, w1⟩ := DataW.trod_int Tryz.underlying3 g1
  obtain ⟨n2, e2, _, w2⟩ := DataW.trod_int Tryz.underlying22 g2
  have k1 : Tryz.prog.cellsOf 22 = 1 := by kernel_rfl
  have k2 : Tryz.prog.cellsOf 3 = 1 := by kernel_rfl
  simp [k1, k2] at e0 e1 e2
  subst e0 e1 e2
  exact ⟨⟨n0, n1, n2, u64_bd w2⟩, rfl, i64_of w0, i64_of w1⟩
theorem list8 {α : Type} {l : List α} (h : l.length = 8) : ∃ a b c d e f g i, l = [a, b, c, d, e, f, g, i] := by
  match l, h with
  | [a, b, c, d, e, f, g, i], _ => exact ⟨a, b, c, d, e, f, g, i, rfl⟩
set_option maxRecDepth 20000 in
theorem open_ch (n : Nat) (cs : List Value) (y : DataW H × List MemPlace) (hl : cs.length = 8) (h : DataW.trod enc Tryz.prog w base spare held n 76 cs = some y) : ∃ x, ChR w cs x := by
  obtain ⟨xs, m, _, _, _, hxl, hg⟩ := DataW.trod_struct Tryz.underlying76 h
  obtain ⟨c0, c1, c2, c3, c4, c5, c6, c7, rfl⟩ := list8 hl
  have g0 := hg 0 _ rfl
  have g1 := hg 1 _ rfl
  have g2 : DataW.trod enc Tryz.prog w base spare held m 74 (([c0, c1, c2, c3, c4, c5, c6, c7].drop 2).take (Tryz.prog.cellsOf 74)) = xs[2]? := hg 2 _ rfl
  have hsz : xs.length = 3 := hxl
  rw [List.getElem?_eq_getElem (by omega)] at g0 g1 g2
  obtain ⟨n0, e0, _, w0⟩ := DataW.trod_int Tryz.underlying22 g0
  obtain ⟨n1, e1, _, w1⟩ := DataW.trod_int Tryz.underlying22 g1
  have k1 : Tryz.prog.cellsOf 22 = 1 := by kernel_rfl
  have k2 : Tryz.prog.cellsOf 74 = 6 := by kernel_rfl
  have k3 : Tryz.prog.cellsOf 73 = 3 := by kernel_rfl
  rw [k2, show ([c0, c1, c2, c3, c4, c5, c6, c7].drop 2).take 6 = [c2, c3, c4, c5, c6, c7] from rfl] at g2
  obtain ⟨ys, m', _, _, _, hyl, hh⟩ := DataW.trod_array Tryz.underlying74 g2
  have q0 := hh 0 (by omega)
  have q1 := hh 1 (by omega)
  rw [List.getElem?_eq_getElem (by omega)] at q0 q1
  rw [k3] at q0 q1
  obtain ⟨x0, a0, b0, b1⟩ := open_end _ _ _ (by simp) q0
  obtain ⟨x1, a1, b2, b3⟩ := open_end _ _ _ (by simp) q1
  simp [k1] at e0 e1
  simp [EndV.enc] at a0 a1
  obtain ⟨rfl, rfl, rfl⟩ := a0
  obtain ⟨rfl, rfl, rfl⟩ := a1
  subst e0 e1
  exact ⟨⟨n0, n1, x0, x1, u64_bd w0, u64_bd w1⟩, rfl, b0, b1, b2, b3⟩
theorem open_key (n : Nat) (cs : List Value) (y : DataW H × List MemPlace) (h : DataW.trod enc Tryz.prog w base spare held n 40 cs = some y) : ∃ l : List Int, cs = l.map (Value.int .u8) ∧ l.length = 68 ∧ ∀ b ∈ l, 0 ≤ b ∧ b < 256 := by
  obtain ⟨ys, m, _, _, hl, hyl, hh⟩ := DataW.trod_array Tryz.underlying40 h
  have k1 : Tryz.prog.cellsOf 5 = 1 := by kernel_rfl
  have k2 : Tryz.prog.cellsOf 40 = 68 := by kernel_rfl
  rw [k2] at hl
  obtain ⟨f, hf⟩ := choose_lt (n := 68) (p := fun i (x : Int) => cs[i]? = some (.int .u8 x) ∧ 0 ≤ x ∧ x < 256) (by
    intro i hi
    have q := hh i hi
    rw [List.getElem?_eq_getElem (by omega), k1, Nat.mul_one, one_of_drop (List.getElem?_eq_getElem (by omega))] at q
    obtain ⟨n0, e0, _, w0⟩ := DataW.trod_int Tryz.underlying5 q
    simp only [List.cons.injEq, and_true] at e0
    exact ⟨n0, by rw [List.getElem?_eq_getElem (by omega), e0], u8_of w0⟩)
  refine ⟨(List.range 68).map f, ?_, by simp, fun b hb => ?_⟩
  · apply List.ext_getElem?
    intro i
    by_cases hi : i < 68
    · rw [(hf i hi).1, List.getElem?_map, List.getElem?_map, List.getElem?_range hi]; rfl
    · rw [List.getElem?_eq_none (by omega), List.getElem?_eq_none (by simp; omega)]
  · obtain ⟨i, hi, rfl⟩ := List.mem_map.1 hb
    exact (hf i (by simpa using hi)).2
set_option maxRecDepth 20000 in
theorem open_guest (n : Nat) (cs : List Value) (y : DataW H × List MemPlace) (hl : cs.length = 79) (h : DataW.trod enc Tryz.prog w base spare held n 50 cs = some y) : ∃ x, GuestR w cs x := by
  obtain ⟨xs, m, _, _, _, hxl, hg⟩ := DataW.trod_struct Tryz.underlying50 h
  have hsz : xs.length = 12 := hxl
  have g0 : DataW.trod enc Tryz.prog w base spare held m 9 ((cs.drop 0).take (Tryz.prog.cellsOf 9)) = xs[0]? := hg 0 _ rfl
  have g1 : DataW.trod enc Tryz.prog w base spare held m 4 ((cs.drop 1).take (Tryz.prog.cellsOf 4)) = xs[1]? := hg 1 _ rfl
  have g2 : DataW.trod enc Tryz.prog w base spare held m 27 ((cs.drop 2).take (Tryz.prog.cellsOf 27)) = xs[2]? := hg 2 _ rfl
  have g3 : DataW.trod enc Tryz.prog w base spare held m 27 ((cs.drop 3).take (Tryz.prog.cellsOf 27)) = xs[3]? := hg 3 _ rfl
  have g4 : DataW.trod enc Tryz.prog w base spare held m 27 ((cs.drop 4).take (Tryz.prog.cellsOf 27)) = xs[4]? := hg 4 _ rfl
  have g5 : DataW.trod enc Tryz.prog w base spare held m 22 ((cs.drop 5).take (Tryz.prog.cellsOf 22)) = xs[5]? := hg 5 _ rfl
  have g6 : DataW.trod enc Tryz.prog w base spare held m 22 ((cs.drop 6).take (Tryz.prog.cellsOf 22)) = xs[6]? := hg 6 _ rfl
  have g7 : DataW.trod enc Tryz.prog w base spare held m 40 ((cs.drop 7).take (Tryz.prog.cellsOf 40)) = xs[7]? := hg 7 _ rfl
  have g8 : DataW.trod enc Tryz.prog w base spare held m 45 ((cs.drop 75).take (Tryz.prog.cellsOf 45)) = xs[8]? := hg 8 _ rfl
  have g9 : DataW.trod enc Tryz.prog w base spare held m 46 ((cs.drop 76).take (Tryz.prog.cellsOf 46)) = xs[9]? := hg 9 _ rfl
  have g10 : DataW.trod enc Tryz.prog w base spare held m 47 ((cs.drop 77).take (Tryz.prog.cellsOf 47)) = xs[10]? := hg 10 _ rfl
  have g11 : DataW.trod enc Tryz.prog w base spare held m 48 ((cs.drop 78).take (Tryz.prog.cellsOf 48)) = xs[11]? := hg 11 _ rfl
  have k1 : Tryz.prog.cellsOf 9 = 1 := by kernel_rfl
  have k2 : Tryz.prog.cellsOf 4 = 1 := by kernel_rfl
  have k3 : Tryz.prog.cellsOf 27 = 1 := by kernel_rfl
  have k4 : Tryz.prog.cellsOf 22 = 1 := by kernel_rfl
  have k5 : Tryz.prog.cellsOf 40 = 68 := by kernel_rfl
  have k6 : Tryz.prog.cellsOf 45 = 1 := by kernel_rfl
  have k7 : Tryz.prog.cellsOf 46 = 1 := by kernel_rfl
  have k8 : Tryz.prog.cellsOf 47 = 1 := by kernel_rfl
  have k9 : Tryz.prog.cellsOf 48 = 1 := by kernel_rfl
  have d : ∀ j, j < 79 → ∃ c, cs[j]? = some c := fun j hj => ⟨_, List.getElem?_eq_getElem (by omega)⟩
  obtain ⟨d0, e0⟩ := d 0 (by decide)
  obtain ⟨d1, e1⟩ := d 1 (by decide)
  obtain ⟨d2, e2⟩ := d 2 (by decide)
  obtain ⟨d3, e3⟩ := d 3 (by decide)
  obtain ⟨d4, e4⟩ := d 4 (by decide)
  obtain ⟨d5, e5⟩ := d 5 (by decide)
  obtain ⟨d6, e6⟩ := d 6 (by decide)
  obtain ⟨d8, e8⟩ := d 75 (by decide)
  obtain ⟨d9, e9⟩ := d 76 (by decide)
  obtain ⟨d10, e10⟩ := d 77 (by decide)
  obtain ⟨d11, e11⟩ := d 78 (by decide)
  rw [List.getElem?_eq_getElem (by omega)] at g0 g1 g2 g3 g4 g5 g6 g7 g8 g9 g10 g11
  rw [k1, one_of_drop e0] at g0
  rw [k2, one_of_drop e1] at g1
  rw [k3, one_of_drop e2] at g2
  rw [k3, one_of_drop e3] at g3
  rw [k3, one_of_drop e4] at g4
  rw [k4, one_of_drop e5] at g5
  rw [k4, one_of_drop e6] at g6
  rw [k6, one_of_drop e8] at g8
  rw [k7, one_of_drop e9] at g9
  rw [k8, one_of_drop e10] at g10
  rw [k9, one_of_drop e11] at g11
  obtain ⟨n0, h0, _⟩ := DataW.trod_string Tryz.underlying9 g0
  obtain ⟨n1, h1, _⟩ := DataW.trod_bool Tryz.underlying4 g1
  obtain ⟨n2, h2, _, w2⟩ := DataW.trod_int Tryz.underlying27 g2
  obtain ⟨n3, h3, _, w3⟩ := DataW.trod_int Tryz.underlying27 g3
  obtain ⟨n4, h4, _, w4⟩ := DataW.trod_int Tryz.underlying27 g4
  obtain ⟨n5, h5, _, w5⟩ := DataW.trod_int Tryz.underlying22 g5
  obtain ⟨n6, h6, _, w6⟩ := DataW.trod_int Tryz.underlying22 g6
  rw [k5] at g7
  obtain ⟨n7, h7, q7, b7⟩ := open_key _ _ _ g7
  obtain ⟨n8, h8⟩ := open_rowX (R := WinR) Tryz.underlying45 (by kernel_rfl) (by decide) open_win g8
  obtain ⟨n9, h9⟩ := open_rowX (R := DevR) Tryz.underlying46 (by kernel_rfl) (by decide) open_dev g9
  obtain ⟨n10, h10⟩ := open_rowX (R := IrqR) Tryz.underlying47 (by kernel_rfl) (by decide) open_irq g10
  obtain ⟨n11, h11⟩ := open_rowX (R := StrR) Tryz.underlying48 (by kernel_rfl) (by decide) open_str g11
  simp only [List.cons.injEq, and_true] at h0 h1 h2 h3 h4 h5 h6
  subst h0 h1 h2 h3 h4 h5 h6
  exact ⟨⟨n0, n1, n2, n3, n4, n5, n6, n7, n8, n9, n10, n11⟩, e0, e1, ⟨e2, u32_of w2⟩, ⟨e3, u32_of w3⟩, ⟨e4, u32_of w4⟩, ⟨e5, u64_bd w5⟩, ⟨e6, u64_bd w6⟩, ⟨h7, q7, b7⟩, ⟨_, e8, h8⟩, ⟨_, e9, h9⟩, ⟨_, e10, h10⟩, ⟨_, e11, h11⟩⟩
/-- A configuration by value. -/
def RowG (w : World) (v : Value) (l : List GuestV) : Prop := RowX 79 GuestR w v l
def RowC (w : World) (v : Value) (l : List ChV) : Prop := RowX 8 ChR w v l
set_option maxRecDepth 20000 in
theorem open_cfg {r : Reach} {b0 : Nat} {v : Value} {d : DataW H} {p : List MemPlace} (hv : Value.okWide Tryz.prog w r b0 31 v) (h : DataW.Trod enc Tryz.prog w base spare held 31 v d p) :
    ∃ (ver : Int) (vg vc : Value) (gs : List GuestV) (chs : List ChV), v = .agg #[.int .u32 ver, vg, vc] ∧ U32 ver ∧ RowG w vg gs ∧ RowC w vc chs := by
  obtain ⟨cs, ys, n, rfl, hlen, _, _, _, hx⟩ := open_struct Tryz.underlying31 (by kernel_rfl) (by kernel_rfl) hv h
  obtain ⟨a0, a1, a2, rfl⟩ := list3 hlen
  obtain ⟨c0, y0, e0, _, g0⟩ := hx 0 _ rfl
  obtain ⟨c1, y1, e1, _, g1⟩ := hx 1 _ rfl
  obtain ⟨c2, y2, e2, _, g2⟩ := hx 2 _ rfl
  simp at e0 e1 e2
  subst e0 e1 e2
  obtain ⟨n0, h0, _, w0⟩ := DataW.trod_int Tryz.underlying27 g0
  obtain ⟨gs, h1⟩ := open_rowX (R := GuestR) Tryz.underlying28 (by kernel_rfl) (by decide) open_guest g1
  obtain ⟨chs, h2⟩ := open_rowX (R := ChR) Tryz.underlying29 (by kernel_rfl) (by decide) open_ch g2
  simp only [List.cons.injEq, and_true] at h0
  subst h0
  exact ⟨n0, a1, a2, gs, chs, rfl, u32_of w0, h1, h2⟩
end
end Go.Proofs.YtffdfeekpfmbeaaGreat
