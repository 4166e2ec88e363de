/- A configuration, opened: guests, windows, devices, interrupts, streams, channels. -/
import Derived.OpenShut
import Derived.ChangeArms
import Derived.Test.YtffdfeekpfmbeaaChecked
import Derived.Test.YtffdfeekpfmbeaaValidSmallP1
import Derived.Test.YtffdfeekpfmbeaaValidSmallP4
namespace Go.Proofs.Ytffdfeekpfmbeaa
open Go Go.Joins Go.ChangeShapes Go.WideShapes Go.RowKit Go.Deep

/-- A row of structs of 'C' cells. -/
def RowX {α : Type} (C : Nat) (R : World → List Value → α → Prop) (w : World) (v : Value) (l : List α) : Prop :=
  ∃ (a : Option Addr) (cap : Nat), v = .slice a l.length cap ∧ l.length ≤ cap ∧ cap ≤ maxLen ∧ (l ≠ [] → ∃ b off, a = some ⟨b, off, none⟩ ∧ b < w.heap.size ∧
    ∀ i (h : i < l.length), ∃ cs, R w cs l[i] ∧ cs.length = C ∧ ∀ j u, cs[j]? = some u → w.cell? ⟨b, off + i * C + j, none⟩ = some u)
def Lasts {α : Type} (R : World → List Value → α → Prop) : Prop := ∀ w w' cs x, Below w.heap.size w w' → R w cs x → R w' cs x
theorem RowX.below {α : Type} {C : Nat} {R : World → List Value → α → Prop} {w w' : World} {v : Value} {l : List α} (h : RowX C R w v l) (hb : Below w.heap.size w w') (hR : Lasts R) : RowX C R w' v l := by
  obtain ⟨a, cap, h1, h2, h3, h4⟩ := h
  refine ⟨a, cap, h1, h2, h3, fun hne => ?_⟩
  obtain ⟨b, off, ha, hlt, hc⟩ := h4 hne
  refine ⟨b, off, ha, Nat.lt_of_lt_of_le hlt hb.size, fun i hi => ?_⟩
  obtain ⟨cs, r, hl, hcell⟩ := hc i hi
  exact ⟨cs, hR _ _ _ _ hb r, hl, fun j u hu => (hb.cell (p := ⟨b, _, none⟩) hlt).trans (hcell j u hu)⟩

section
variable {H : Type} {enc : TypeId × Value → H} {P : Program} {w : World} {base : Nat} {spare : Nat → Bool} {held : Bool}
end

structure WinV where
  ipa : Int
  pa : Int
  sz : Int
  perm : Int
  hi : W64 ipa
  hp : W64 pa
  hs : W64 sz
structure DevV where
  ipa : Int
  pa : Int
  sz : Int
  hi : W64 ipa
  hp : W64 pa
  hs : W64 sz
structure IrqV where
  num : Int
  cpu : Int
  edge : Bool
def I64 (n : Int) : Prop := -9223372036854775808 ≤ n ∧ n ≤ 9223372036854775807
def U32 (n : Int) : Prop := 0 ≤ n ∧ n < 4294967296
structure EndV where
  g : Int
  perm : Int
  ipa : Int
  hi : W64 ipa
structure ChV where
  pa : Int
  sz : Int
  e0 : EndV
  e1 : EndV
  hp : W64 pa
  hs : W64 sz
structure GuestV where
  name : ByteArray
  mand : Bool
  off : Int
  len : Int
  cpus : Int
  entry : Int
  dtb : Int
  key : List Int
  win : List WinV
  dev : List DevV
  irq : List IrqV
  str : List Int
theorem w64_0 : W64 0 := ⟨by decide, by decide⟩
instance : Inhabited WinV := ⟨⟨0, 0, 0, 0, w64_0, w64_0, w64_0⟩⟩
instance : Inhabited DevV := ⟨⟨0, 0, 0, w64_0, w64_0, w64_0⟩⟩
instance : Inhabited IrqV := ⟨⟨0, 0, false⟩⟩
instance : Inhabited EndV := ⟨⟨0, 0, 0, w64_0⟩⟩
instance : Inhabited ChV := ⟨⟨0, 0, default, default, w64_0, w64_0⟩⟩
instance : Inhabited GuestV := ⟨⟨ByteArray.empty, false, 0, 0, 0, 0, 0, [], [], [], [], []⟩⟩
def WinV.enc (x : WinV) : List Value := [.int .u64 x.ipa, .int .u64 x.pa, .int .u64 x.sz, .int .i64 x.perm]
def DevV.enc (x : DevV) : List Value := [.int .u64 x.ipa, .int .u64 x.pa, .int .u64 x.sz]
def IrqV.enc (x : IrqV) : List Value := [.int .i64 x.num, .int .i64 x.cpu, .bool x.edge]
def EndV.enc (x : EndV) : List Value := [.int .i64 x.g, .int .i64 x.perm, .int .u64 x.ipa]
def ChV.enc (x : ChV) : List Value := [.int .u64 x.pa, .int .u64 x.sz, .int .i64 x.e0.g, .int .i64 x.e0.perm, .int .u64 x.e0.ipa, .int .i64 x.e1.g, .int .i64 x.e1.perm, .int .u64 x.e1.ipa]
def WinR (_ : World) (cs : List Value) (x : WinV) : Prop := cs = x.enc ∧ I64 x.perm
def DevR (_ : World) (cs : List Value) (x : DevV) : Prop := cs = x.enc
def IrqR (_ : World) (cs : List Value) (x : IrqV) : Prop := cs = x.enc ∧ I64 x.num ∧ I64 x.cpu
def StrR (_ : World) (cs : List Value) (x : Int) : Prop := cs = [.int .u32 x] ∧ U32 x
def ChR (_ : World) (cs : List Value) (x : ChV) : Prop := cs = x.enc ∧ I64 x.e0.g ∧ I64 x.e0.perm ∧ I64 x.e1.g ∧ I64 x.e1.perm
theorem lasts_win : Lasts WinR := fun _ _ _ _ _ h => h
theorem lasts_dev : Lasts DevR := fun _ _ _ _ _ h => h
theorem lasts_irq : Lasts IrqR := fun _ _ _ _ _ h => h
theorem lasts_str : Lasts StrR := fun _ _ _ _ _ h => h
theorem lasts_ch : Lasts ChR := fun _ _ _ _ _ h => h
/-- The 79 cells of a guest. -/
structure GuestR (w : World) (cs : List Value) (x : GuestV) : Prop where
  name : cs[0]? = some (.string x.name)
  mand : cs[1]? = some (.bool x.mand)
  off : cs[2]? = some (.int .u32 x.off) ∧ U32 x.off
  len : cs[3]? = some (.int .u32 x.len) ∧ U32 x.len
  cpus : cs[4]? = some (.int .u32 x.cpus) ∧ U32 x.cpus
  entry : cs[5]? = some (.int .u64 x.entry) ∧ W64 x.entry
  dtb : cs[6]? = some (.int .u64 x.dtb) ∧ W64 x.dtb
  key : (cs.drop 7).take 68 = x.key.map (Value.int .u8) ∧ x.key.length = 68 ∧ ∀ b ∈ x.key, 0 ≤ b ∧ b < 256
  win : ∃ v, cs[75]? = some v ∧ RowX 4 WinR w v x.win
  dev : ∃ v, cs[76]? = some v ∧ RowX 3 DevR w v x.dev
  irq : ∃ v, cs[77]? = some v ∧ RowX 3 IrqR w v x.irq
  str : ∃ v, cs[78]? = some v ∧ RowX 1 StrR w v x.str
theorem lasts_guest : Lasts GuestR := fun _ _ _ _ hb h =>
  ⟨h.name, h.mand, h.off, h.len, h.cpus, h.entry, h.dtb, h.key,
    let ⟨v, a, b⟩ := h.win; ⟨v, a, b.below hb lasts_win⟩, let ⟨v, a, b⟩ := h.dev; ⟨v, a, b.below hb lasts_dev⟩,
    let ⟨v, a, b⟩ := h.irq; ⟨v, a, b.below hb lasts_irq⟩, let ⟨v, a, b⟩ := h.str; ⟨v, a, b.below hb lasts_str⟩⟩
theorem u8_of {n : Int} (h : (Lit.int .u8 n).wf = true) : 0 ≤ n ∧ n < 256 := by
  simp [Lit.wf, IntKind.min, IntKind.max, IntKind.signed, IntKind.bits] at h
  omega
theorem take_get {α : Type} {l m : List α} {o k : Nat} (h : (l.drop o).take k = m) {j : Nat} (hj : j < k) : l[o + j]? = m[j]? := by
  rw [← h, List.getElem?_take, if_pos hj, List.getElem?_drop]
section
variable {H : Type} {enc : TypeId × Value → H} {w : World} {base : Nat} {spare : Nat → Bool} {held : Bool}
theorem open_key (n : Nat) (cs : List Value) (y : DataW H × List MemPlace) (h : DataW.trod enc Try.prog w base spare held n 50 cs = some y) : ∃ l : List Int, cs = l.map (Value.int .u8) ∧ l.length = 68 ∧ ∀ b ∈ l, 0 ≤ b ∧ b < 256 := by
  obtain ⟨ys, m, _, _, hl, hyl, hh⟩ := DataW.trod_array Try.underlying50 h
  have k1 : Try.prog.cellsOf 5 = 1 := by kernel_rfl
  have k2 : Try.prog.cellsOf 50 = 68 := by kernel_rfl
  rw [k2] at hl
  obtain ⟨f, hf⟩ := choose_lt (n := 68) (p := fun i (x : Int) => cs[i]? = some (.int .u8 x) ∧ 0 ≤ x ∧ x < 256) (by
    intro i hi
    have q := hh i hi
    rw [List.getElem?_eq_getElem (by omega), k1, Nat.mul_one, one_of_drop (List.getElem?_eq_getElem (by omega))] at q
    obtain ⟨n0, e0, _, w0⟩ := DataW.trod_int Try.underlying5 q
    simp only [List.cons.injEq, and_true] at e0
    exact ⟨n0, by rw [List.getElem?_eq_getElem (by omega), e0], u8_of w0⟩)
  refine ⟨(List.range 68).map f, ?_, by simp, fun b hb => ?_⟩
  · apply List.ext_getElem?
    intro i
    by_cases hi : i < 68
    · rw [(hf i hi).1, List.getElem?_map, List.getElem?_map, List.getElem?_range hi]; rfl
    · rw [List.getElem?_eq_none (by omega), List.getElem?_eq_none (by simp; omega)]
  · obtain ⟨i, hi, rfl⟩ := List.mem_map.1 hb
    exact (hf i (by simpa using hi)).2
/-- A configuration by value. -/
def RowG (w : World) (v : Value) (l : List GuestV) : Prop := RowX 79 GuestR w v l
def RowC (w : World) (v : Value) (l : List ChV) : Prop := RowX 8 ChR w v l
end
end Go.Proofs.Ytffdfeekpfmbeaa
