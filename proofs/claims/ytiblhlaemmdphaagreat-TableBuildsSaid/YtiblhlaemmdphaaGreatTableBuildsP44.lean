/- Arguments opened: a struct of one-cell fields by value, whatever the number of its fields. -/
import Derived.Lib.SmallJoins
import Derived.Deep.Slices
import Derived.Deep.Fields
import Derived.ChangeSame
import Derived.OpenShut
import Derived.ChangeArms
import Derived.Test.YtiblhlaemmdphaaGreatChecked
import Derived.Test.YtiblhlaemmdphaaGreatTableBuildsP2
namespace Go.Proofs.YtiblhlaemmdphaaGreat
open Go Go.Joins Go.ChangeShapes Go.WideShapes Go.RowKit Go.Deep
section
variable {H : Type} {enc : TypeId × Value → H} {P : Program} {w : World} {base : Nat} {spare : Nat → Bool} {held : Bool}
theorem one_of_drop {α : Type} {l : List α} {j : Nat} {a : α} (h : l[j]? = some a) : (l.drop j).take 1 = [a] := by
 obtain ⟨hj, rfl⟩ := List.getElem?_eq_some_iff.1 h
 rw [List.drop_eq_getElem_cons hj]; rfl
end
end Go.Proofs.YtiblhlaemmdphaaGreat
/- A configuration, opened: guests, windows, devices, interrupts, streams, channels. -/
namespace Go.Proofs.YtiblhlaemmdphaaGreat
open Go Go.Joins Go.ChangeShapes Go.WideShapes Go.RowKit Go.Deep
section
variable {H : Type} {enc : TypeId × Value → H} {P : Program} {w : World} {base : Nat} {spare : Nat → Bool} {held : Bool}
end
structure WinV where
 ipa : Int
 pa : Int
 sz : Int
 perm : Int
 hi : W64 ipa
 hp : W64 pa
 hs : W64 sz
structure DevV where
 ipa : Int
 pa : Int
 sz : Int
 hi : W64 ipa
 hp : W64 pa
 hs : W64 sz
structure IrqV where
 num : Int
 cpu : Int
 edge : Bool
structure EndV where
 g : Int
 perm : Int
 ipa : Int
 hi : W64 ipa
structure ChV where
 pa : Int
 sz : Int
 e0 : EndV
 e1 : EndV
 hp : W64 pa
 hs : W64 sz
structure GuestV where
 name : ByteArray
 mand : Bool
 off : Int
 len : Int
 cpus : Int
 entry : Int
 dtb : Int
 key : List Int
 win : List WinV
 dev : List DevV
 irq : List IrqV
 str : List Int
theorem w64_0 : W64 0 := ⟨by decide, by decide⟩
instance : Inhabited WinV := ⟨⟨0, 0, 0, 0, w64_0, w64_0, w64_0⟩⟩
instance : Inhabited DevV := ⟨⟨0, 0, 0, w64_0, w64_0, w64_0⟩⟩
instance : Inhabited IrqV := ⟨⟨0, 0, false⟩⟩
instance : Inhabited EndV := ⟨⟨0, 0, 0, w64_0⟩⟩
instance : Inhabited ChV := ⟨⟨0, 0, default, default, w64_0, w64_0⟩⟩
instance : Inhabited GuestV := ⟨⟨ByteArray.empty, false, 0, 0, 0, 0, 0, [], [], [], [], []⟩⟩
section
variable {H : Type} {enc : TypeId × Value → H} {w : World} {base : Nat} {spare : Nat → Bool} {held : Bool}
end
end Go.Proofs.YtiblhlaemmdphaaGreat
