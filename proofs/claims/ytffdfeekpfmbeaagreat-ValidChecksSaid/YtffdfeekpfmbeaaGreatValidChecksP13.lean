/- Plain: the rules of a board and of a configuration, one by one. -/
import Derived.Test.YtffdfeekpfmbeaaGreatValidChecksP5
import Derived.Test.YtffdfeekpfmbeaaGreatValidChecksP9
import Derived.Test.YtffdfeekpfmbeaaGreatValidChecksP12
namespace Go.Proofs.YtffdfeekpfmbeaaGreat
open Go Go.RowKit

/-- A board. -/
structure BrdV where
  ram : Two
  ldr : Two
  irqs : Int
  strs : Int
  cpus : Int
def BrdV.enc (b : BrdV) : List Value := [.int .u64 b.ram.a, .int .u64 b.ram.b, .int .u64 b.ldr.a, .int .u64 b.ldr.b, .int .i64 b.irqs, .int .i64 b.strs, .int .i64 b.cpus]
def fitV (b : BrdV) : Bool := (!(pageBad b.ram) && (!(pageBad b.ldr) && (decide (lastV b.ram.a b.ram.b < 1099511627776) && withinB b.ldr.a b.ldr.b b.ram.a b.ram.b))) && (decide (0 ≤ b.irqs ∧ b.irqs ≤ 1020) && (decide (0 ≤ b.strs ∧ b.strs ≤ 256) && decide (1 ≤ b.cpus ∧ b.cpus ≤ 32)))
/-- Rules with their numbers and places; the first that does not hold. -/
abbrev Rl := Bool × Int × Int
def fb (l : List Rl) : Option (Int × Int) := l.findSome? fun x => if x.1 = true then none else some x.2
theorem fb_append (a b : List Rl) : fb (a ++ b) = (fb a).or (fb b) := List.findSome?_append
theorem fb_cons (t : Bool) (r w : Int) (l : List Rl) : fb ((t, r, w) :: l) = if t = true then fb l else some (r, w) := by
  unfold fb; rw [List.findSome?_cons]; cases t <;> simp
theorem fb_nil : fb [] = none := rfl
theorem fb_none {l : List Rl} : fb l = none ↔ ∀ x ∈ l, x.1 = true := by
  unfold fb; rw [List.findSome?_eq_none_iff]
  constructor
  · intro h x hx
    have := h x hx
    by_cases c : x.1 = true
    · exact c
    · rw [if_neg c] at this; cases this
  · intro h x hx; rw [if_pos (h x hx)]
/-- What a configuration must be to be written. -/
def chOk (c : UInt8) : Bool := (decide (97 ≤ c.toNat) && decide (c.toNat ≤ 122)) || ((decide (48 ≤ c.toNat) && decide (c.toNat ≤ 57)) || decide (c.toNat = 45))
def nameOk (s : ByteArray) : Bool := s.data.toList.all chOk && decide (1 ≤ s.size ∧ s.size ≤ 16)
def oidV (k : List Int) : Int := ((k.getD 0 0 * 256 + k.getD 1 0) * 256 + k.getD 2 0) * 256 + k.getD 3 0
def keyOk (k : List Int) : Bool := decide (1 ≤ oidV k ∧ oidV k ≤ 3)
def cntOk (g : GuestV) : Bool := decide (1 ≤ g.win.length ∧ g.win.length ≤ 16) && (decide (g.dev.length ≤ 16) && (decide (g.irq.length ≤ 64) && decide (g.str.length ≤ 32)))
def gOk (g : GuestV) : Bool := nameOk g.name && (keyOk g.key && (cntOk g && (g.win.all (fun x => decide (0 ≤ x.perm ∧ x.perm ≤ 7)) && g.irq.all fun x => decide (0 ≤ x.num ∧ x.num ≤ 65535) && decide (0 ≤ x.cpu ∧ x.cpu ≤ 65535))))
def eOk (e : EndV) : Bool := decide (0 ≤ e.g ∧ e.g ≤ 65535) && decide (0 ≤ e.perm ∧ e.perm ≤ 7)
def putOk (gs : List GuestV) (chs : List ChV) : Bool := (decide (1 ≤ gs.length ∧ gs.length ≤ 16) && decide (chs.length ≤ 32)) && (gs.all gOk && chs.all fun c => eOk c.e0 && eOk c.e1)
/-- The rules. -/
def insB (b : BrdV) (s : Two) : Bool := !(pageBad s) && (withinB s.a s.b b.ram.a b.ram.b && !(overlapB s.a s.b b.ldr.a b.ldr.b))
def c2n (prev : List GuestV) (t : GuestV) : Bool := prev.all fun o => !(decide (o.name = t.name))
def c3 (b : BrdV) (prev : List GuestV) (t : GuestV) : Bool := !(decide (t.cpus = 0)) && (decide (t.cpus / 2 ^ b.cpus.toNat = 0) && prev.all fun o => decide (bits .and .u32 t.cpus o.cpus = 0))
def c4w (b : BrdV) (w : WinV) : Bool := pageM w.ipa w.sz && (!(decide (w.perm = 0)) && insB b ⟨w.pa, w.sz, w.hp, w.hs⟩)
def c4 (b : BrdV) (t : GuestV) : Bool := t.win.all (c4w b)
def c5d (b : BrdV) (d : DevV) : Bool := pageM d.ipa d.sz && (pageM d.pa d.sz && !(overlapB d.pa d.sz b.ram.a b.ram.b))
def c5 (b : BrdV) (t : GuestV) : Bool := t.dev.all (c5d b)
def c6 (t : GuestV) : Bool := decide (t.entry % 4 = 0) && (hasB t.win[0]!.ipa t.win[0]!.sz t.entry && decide (bits .and .i64 t.win[0]!.perm 5 = 5))
def c7w (dtb : Int) (w : WinV) : Bool := withinB dtb 16384 w.ipa w.sz && !(decide (bits .and .i64 w.perm 1 = 0))
def c7 (t : GuestV) : Bool := decide (t.dtb = 0) || (decide (t.dtb % 4096 = 0) && (t.win.drop 1).any (c7w t.dtb))
def c8q (b : BrdV) (t : GuestV) (q : IrqV) : Bool := decide (32 ≤ q.num ∧ q.num < b.irqs) && (decide (0 ≤ q.cpu ∧ q.cpu < 32) && decide (bits .and .u32 (t.cpus / 2 ^ q.cpu.toNat) 1 = 1))
def numsV (l : List GuestV) : List Int := l.flatMap fun o => o.irq.map IrqV.num
def c8i (b : BrdV) (prev : List GuestV) (t : GuestV) (i : Nat) : Bool := c8q b t t.irq[i]! && !((numsV prev ++ (t.irq.map IrqV.num).take i).contains t.irq[i]!.num)
def c8 (b : BrdV) (prev : List GuestV) (t : GuestV) : Bool := (List.range t.irq.length).all (c8i b prev t)
def strsV (l : List GuestV) : List Int := l.flatMap fun o => o.str
def c9i (b : BrdV) (prev : List GuestV) (t : GuestV) (i : Nat) : Bool := decide (t.str[i]! < b.strs) && !((strsV prev ++ t.str.take i).contains t.str[i]!)
def c9 (b : BrdV) (prev : List GuestV) (t : GuestV) : Bool := (List.range t.str.length).all (c9i b prev t)
end Go.Proofs.YtffdfeekpfmbeaaGreat
