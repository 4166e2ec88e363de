/- A configuration, opened: guests, windows, devices, interrupts, streams, channels. -/
import Derived.OpenShut
import Derived.ChangeArms
import Derived.Test.YtiblhlaemmdphaaGreatChecked
import Derived.Test.YtiblhlaemmdphaaGreatTableFreshP2
import Derived.Test.YtiblhlaemmdphaaGreatTableFreshP13
namespace Go.Proofs.YtiblhlaemmdphaaGreat
open Go Go.Joins Go.ChangeShapes Go.WideShapes Go.RowKit Go.Deep
def RowX {α : Type} (C : Nat) (R : World → List Value → α → Prop) (w : World) (v : Value) (l : List α) : Prop :=
 ∃ (a : Option Addr) (cap : Nat), v = .slice a l.length cap ∧ l.length ≤ cap ∧ cap ≤ maxLen ∧ (l ≠ [] → ∃ b off, a = some ⟨b, off, none⟩ ∧ b < w.heap.size ∧
  ∀ i (h : i < l.length), ∃ cs, R w cs l[i] ∧ cs.length = C ∧ ∀ j u, cs[j]? = some u → w.cell? ⟨b, off + i * C + j, none⟩ = some u)
section
variable {H : Type} {enc : TypeId × Value → H} {P : Program} {w : World} {base : Nat} {spare : Nat → Bool} {held : Bool}
theorem open_rowX {α : Type} [Inhabited α] {C : Nat} {R : World → List Value → α → Prop} {t e : TypeId} {fuel : Nat} {c : Value} {y : DataW H × List MemPlace} (ht : P.underlying t = some (.slice e)) (hC : P.cellsOf e = C) (h0 : 0 < C)
  (hR : ∀ n cs y, cs.length = C → DataW.trod enc P w base spare held n e cs = some y → ∃ x, R w cs x) (h : DataW.trod enc P w base spare held fuel t [c] = some y) : ∃ l : List α, RowX C R w c l := by
 rcases open_slice ht h with ⟨hcs, _⟩ | ⟨a, len, cap, m, n, D, Pl, hcs, _, hl, hm, hmm, _, hx⟩
 ·simp at hcs
  subst hcs
  exact ⟨[], none, 0, rfl, Nat.le_refl _, by unfold maxLen; omega, fun h => absurd rfl h⟩
 ·simp at hcs
  subst hcs
  have hlm : len ≤ m := by rw [hmm]; split <;> omega
  rcases Nat.eq_zero_or_pos len with rfl | hpos
  ·exact ⟨[], some a, cap, rfl, Nat.zero_le _, hm, fun h => absurd rfl h⟩
  ·obtain ⟨f, hF⟩ := choose_lt (n := len) (p := fun i (q : α × List Value) => R w q.2 q.1 ∧ q.2.length = C ∧ ∀ j u, q.2[j]? = some u → w.cell? (a.add (i * C + j)) = some u) (by
    intro i hi
    obtain ⟨cs', h1, h2⟩ := hx i (by omega)
    rw [hC] at h1
    obtain ⟨_, hlen, hcell⟩ := World.cells?_some h1
    obtain ⟨x, hr⟩ := hR _ _ _ hlen h2
    refine ⟨(x, cs'), hr, hlen, fun j u hu => ?_⟩
    have hj : j < C := by rw [← hlen]; exact (List.getElem?_eq_some_iff.1 hu).1
    have e0 := hcell j hj
    rw [add_add] at e0
    rw [e0]; exact hu)
   obtain ⟨b, off, spot⟩ := a
   obtain ⟨_, hl0, hc0⟩ := hF 0 hpos
   have h00 := hc0 0 (((f 0).2)[0]'(by omega)) (List.getElem?_eq_getElem (by omega))
   have hs : spot = none := by simpa [Addr.add] using World.cell?_spot h00
   subst hs
   have hb := World.block_lt_of_cell? w _ h00
   refine ⟨(List.range len).map fun i => (f i).1, some ⟨b, off, none⟩, cap, by simp, by simpa using hl, hm, fun _ => ⟨b, off, rfl, by simpa [Addr.add] using hb, fun i hi => ?_⟩⟩
   have hi' : i < len := by simpa using hi
   obtain ⟨r1, r2, r3⟩ := hF i hi'
   refine ⟨(f i).2, ?_, r2, fun j u hu => ?_⟩
   ·have hg : ((List.range len).map fun i => (f i).1)[i] = (f i).1 := by simp
    rw [hg]; exact r1
   ·have := r3 j u hu
    rw [Go.WideShapes.add_plain] at this
    rw [Nat.add_assoc]; exact this
end
structure WinV where
 ipa : Int
 pa : Int
 sz : Int
 perm : Int
 hi : W64 ipa
 hp : W64 pa
 hs : W64 sz
structure DevV where
 ipa : Int
 pa : Int
 sz : Int
 hi : W64 ipa
 hp : W64 pa
 hs : W64 sz
structure IrqV where
 num : Int
 cpu : Int
 edge : Bool
structure EndV where
 g : Int
 perm : Int
 ipa : Int
 hi : W64 ipa
structure ChV where
 pa : Int
 sz : Int
 e0 : EndV
 e1 : EndV
 hp : W64 pa
 hs : W64 sz
structure GuestV where
 name : ByteArray
 mand : Bool
 off : Int
 len : Int
 cpus : Int
 entry : Int
 dtb : Int
 key : List Int
 win : List WinV
 dev : List DevV
 irq : List IrqV
 str : List Int
theorem w64_0 : W64 0 := ⟨by decide, by decide⟩
instance : Inhabited WinV := ⟨⟨0, 0, 0, 0, w64_0, w64_0, w64_0⟩⟩
instance : Inhabited DevV := ⟨⟨0, 0, 0, w64_0, w64_0, w64_0⟩⟩
instance : Inhabited IrqV := ⟨⟨0, 0, false⟩⟩
instance : Inhabited EndV := ⟨⟨0, 0, 0, w64_0⟩⟩
instance : Inhabited ChV := ⟨⟨0, 0, default, default, w64_0, w64_0⟩⟩
instance : Inhabited GuestV := ⟨⟨ByteArray.empty, false, 0, 0, 0, 0, 0, [], [], [], [], []⟩⟩
theorem u8_of {n : Int} (h : (Lit.int .u8 n).wf = true) : 0 ≤ n ∧ n < 256 := by
 simp [Lit.wf, IntKind.min, IntKind.max, IntKind.signed, IntKind.bits] at h
 omega
section
variable {H : Type} {enc : TypeId × Value → H} {w : World} {base : Nat} {spare : Nat → Bool} {held : Bool}
end
end Go.Proofs.YtiblhlaemmdphaaGreat
