/- Plain: which configurations may be on a board: the rules in their order, and the first that does not hold. -/
import Derived.Test.YtffdfeekpfmbeaaVGP12
import Derived.Test.YtffdfeekpfmbeaaVGP30
import Derived.Test.YtffdfeekpfmbeaaVGP32
import Derived.Test.YtffdfeekpfmbeaaVGP41
namespace Go.Proofs.Ytffdfeekpfmbeaa
open Go Go.RowKit

def apartB (a b : List Two) : Bool := a.all fun s => b.all fun x => !(overlapB s.a s.b x.a x.b)
def c10 (prev : List GuestV) (t : GuestV) : Bool := !((firstV (physG t)).2.2) && prev.all fun o => apartB (physG t) (physG o)
def c11 (b : BrdV) (gs : List GuestV) (prev : List ChV) (c : ChV) : Bool := insB b (chS c) && (gs.all (fun g => apartB [chS c] (g.win.map winS)) && apartB [chS c] (prev.map chS))
def endOk (n : Nat) (c : ChV) (e : EndV) : Bool := decide (e.g < n) && (decide (1 ≤ e.perm ∧ e.perm ≤ 3) && pageM e.ipa c.sz)
def c13 (gs : List GuestV) (chs : List ChV) (g : Nat) : Bool := decide ((mapsP gs chs g).2 = 0)
def headR (b : BrdV) (gs : List GuestV) (chs : List ChV) : List Rl := [(fitV b, 1, 0), (putOk gs chs, 2, 0)]
/-- The two numbers of an answer. -/
def ruleV (o : Option (Int × Int)) : Int := match o with | none => 0 | some x => x.1
def placeW (o : Option (Int × Int)) : Int := match o with | none => 0 | some x => x.2
def errV (o : Option (Int × Int)) : Int := match o with | none => 0 | some _ => 170
end Go.Proofs.Ytffdfeekpfmbeaa
