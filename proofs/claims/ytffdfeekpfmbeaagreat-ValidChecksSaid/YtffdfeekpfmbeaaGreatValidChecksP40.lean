/- Plain: which configurations may be on a board: the rules in their order, and the first that does not hold. -/
import Derived.Test.YtffdfeekpfmbeaaGreatValidChecksP13
import Derived.Test.YtffdfeekpfmbeaaGreatValidChecksP28
import Derived.Test.YtffdfeekpfmbeaaGreatValidChecksP30
import Derived.Test.YtffdfeekpfmbeaaGreatValidChecksP39
namespace Go.Proofs.YtffdfeekpfmbeaaGreat
open Go Go.RowKit

def apartB (a b : List Two) : Bool := a.all fun s => b.all fun x => !(overlapB s.a s.b x.a x.b)
def c10 (prev : List GuestV) (t : GuestV) : Bool := !((firstV (physG t)).2.2) && prev.all fun o => apartB (physG t) (physG o)
def c11 (b : BrdV) (gs : List GuestV) (prev : List ChV) (c : ChV) : Bool := insB b (chS c) && (gs.all (fun g => apartB [chS c] (g.win.map winS)) && apartB [chS c] (prev.map chS))
def endOk (n : Nat) (c : ChV) (e : EndV) : Bool := decide (e.g < n) && (decide (1 ≤ e.perm ∧ e.perm ≤ 3) && pageM e.ipa c.sz)
def c12 (gs : List GuestV) (c : ChV) : Bool := !(decide (c.e0.g = c.e1.g)) && (endOk gs.length c c.e0 && endOk gs.length c c.e1)
def c13 (gs : List GuestV) (chs : List ChV) (g : Nat) : Bool := decide ((mapsP gs chs g).2 = 0)
def guestR (b : BrdV) (prev : List GuestV) (t : GuestV) (g : Int) : List Rl :=
  [(c3 b prev t, 3, g), (c4 b t, 4, g), (c5 b t, 5, g), (c6 t, 6, g), (c7 t, 7, g), (c8 b prev t, 8, g), (c9 b prev t, 9, g), (c10 prev t, 10, g)]
def chanR (b : BrdV) (gs : List GuestV) (prev : List ChV) (c : ChV) (k : Int) : List Rl := [(c11 b gs prev c, 11, k), (c12 gs c, 12, k)]
def headR (b : BrdV) (gs : List GuestV) (chs : List ChV) : List Rl := [(fitV b, 1, 0), (putOk gs chs, 2, 0)]
def namesR (gs : List GuestV) (n : Nat) : List Rl := (List.range n).map fun g => (c2n (gs.take g) gs[g]!, 2, (g : Int))
def guestsR (b : BrdV) (gs : List GuestV) (n : Nat) : List Rl := (List.range n).flatMap fun g => guestR b (gs.take g) gs[g]! g
def chansR (b : BrdV) (gs : List GuestV) (chs : List ChV) (n : Nat) : List Rl := (List.range n).flatMap fun k => chanR b gs (chs.take k) chs[k]! k
def mapsR (gs : List GuestV) (chs : List ChV) (n : Nat) : List Rl := (List.range n).map fun g => (c13 gs chs g, 13, (g : Int))
def tailR (b : BrdV) (gs : List GuestV) (chs : List ChV) : List Rl := namesR gs gs.length ++ (guestsR b gs gs.length ++ (chansR b gs chs chs.length ++ mapsR gs chs gs.length))
def checkV (b : BrdV) (gs : List GuestV) (chs : List ChV) : Option (Int × Int) := (fb (headR b gs chs)).or (fb (tailR b gs chs))
theorem namesR_succ (gs : List GuestV) (n : Nat) : namesR gs (n + 1) = namesR gs n ++ [(c2n (gs.take n) gs[n]!, 2, (n : Int))] := by unfold namesR; rw [List.range_succ, List.map_append]; rfl
theorem guestsR_succ (b : BrdV) (gs : List GuestV) (n : Nat) : guestsR b gs (n + 1) = guestsR b gs n ++ guestR b (gs.take n) gs[n]! n := by unfold guestsR; rw [List.range_succ, List.flatMap_append]; simp
theorem chansR_succ (b : BrdV) (gs : List GuestV) (chs : List ChV) (n : Nat) : chansR b gs chs (n + 1) = chansR b gs chs n ++ chanR b gs (chs.take n) chs[n]! n := by unfold chansR; rw [List.range_succ, List.flatMap_append]; simp
theorem mapsR_succ (gs : List GuestV) (chs : List ChV) (n : Nat) : mapsR gs chs (n + 1) = mapsR gs chs n ++ [(c13 gs chs n, 13, (n : Int))] := by unfold mapsR; rw [List.range_succ, List.map_append]; rfl
/-- The two numbers of an answer. -/
def ruleV (o : Option (Int × Int)) : Int := match o with | none => 0 | some x => x.1
def placeW (o : Option (Int × Int)) : Int := match o with | none => 0 | some x => x.2
def errV (o : Option (Int × Int)) : Int := match o with | none => 0 | some _ => 170
end Go.Proofs.YtffdfeekpfmbeaaGreat
/- Plain: what is asked row by row of numbers, and what stands in no row. -/
namespace Go.Proofs.YtffdfeekpfmbeaaGreat
open Go Go.RowKit

/-- A row holds no such number (the row itself: ahead of a place). -/
def rowOk (L : List (List Int)) (g i : Nat) (x : Int) (k : Nat) : Bool := (List.range (L[k]!).length).all fun j => (decide (k = g) && decide (i ≤ j)) || !(decide ((L[k]!)[j]! = x))
theorem rowOk_lt {L : List (List Int)} {g i k : Nat} {x : Int} (h : k ≠ g) : rowOk L g i x k = !((L[k]!).contains x) := by
  unfold rowOk
  generalize L[k]! = l
  rw [Bool.eq_iff_iff, List.all_eq_true]
  simp only [decide_eq_false h, Bool.false_and, Bool.false_or, Bool.not_eq_true', decide_eq_false_iff_not, List.mem_range, List.contains_eq_mem]
  constructor
  · intro H hm
    obtain ⟨j, hj, e⟩ := List.mem_iff_getElem.1 hm
    exact H j hj (by rw [getElem!_pos l j hj]; exact e)
  · intro H j hj e
    exact H (e ▸ (by rw [getElem!_pos l j hj]; exact List.getElem_mem hj))
theorem rowOk_eq {L : List (List Int)} {g i : Nat} {x : Int} : rowOk L g i x g = !(((L[g]!).take i).contains x) := by
  unfold rowOk
  generalize L[g]! = l
  rw [Bool.eq_iff_iff, List.all_eq_true]
  simp only [decide_true, Bool.true_and, Bool.or_eq_true, decide_eq_true_eq, Bool.not_eq_true', decide_eq_false_iff_not, List.mem_range, List.contains_eq_mem]
  constructor
  · intro H hm
    obtain ⟨j, hj, e⟩ := List.mem_iff_getElem.1 hm
    rw [List.length_take] at hj
    rw [List.getElem_take] at e
    rcases H j (by omega) with h | h
    · omega
    · exact h (by rw [getElem!_pos l j (by omega)]; exact e)
  · intro H j hj
    by_cases hi : i ≤ j
    · exact .inl hi
    · refine .inr fun e => H ?_
      rw [getElem!_pos l j hj] at e
      rw [← e]
      exact List.mem_take_iff_getElem.2 ⟨j, by omega, rfl⟩
theorem rows_all {L : List (List Int)} {g i : Nat} {x : Int} (hg : g < L.length) : (List.range (g + 1)).all (rowOk L g i x) = !(((L.take g).flatten ++ (L[g]!).take i).contains x) := by
  rw [List.range_succ, List.all_append, Bool.eq_iff_iff]
  simp only [List.all_cons, List.all_nil, Bool.and_true, rowOk_eq, Bool.and_eq_true, List.all_eq_true, List.mem_range, Bool.not_eq_true', List.contains_eq_mem, decide_eq_false_iff_not, List.mem_append, List.mem_flatten, not_or, not_exists, not_and]
  constructor
  · rintro ⟨h1, h2⟩
    refine ⟨fun l hl hx => ?_, h2⟩
    obtain ⟨k, hk, rfl⟩ := List.mem_iff_getElem.1 hl
    rw [List.length_take] at hk
    have := h1 k (by omega)
    rw [rowOk_lt (by omega)] at this
    simp only [Bool.not_eq_true', List.contains_eq_mem, decide_eq_false_iff_not] at this
    rw [List.getElem_take] at hx
    exact this (by rw [getElem!_pos L k (by omega)]; exact hx)
  · rintro ⟨h1, h2⟩
    refine ⟨fun k hk => ?_, h2⟩
    rw [rowOk_lt (by omega)]
    simp only [Bool.not_eq_true', List.contains_eq_mem, decide_eq_false_iff_not]
    intro hx
    refine h1 (L[k]!) ?_ hx
    rw [getElem!_pos L k (by omega)]
    exact List.mem_take_iff_getElem.2 ⟨k, by omega, rfl⟩
def irqL (gs : List GuestV) : List (List Int) := gs.map fun o => o.irq.map IrqV.num
def strL (gs : List GuestV) : List (List Int) := gs.map fun o => o.str
theorem irqL_at {gs : List GuestV} {k : Nat} (h : k < gs.length) : (irqL gs)[k]! = gs[k]!.irq.map IrqV.num := by
  unfold irqL
  rw [getElem!_pos _ k (by simpa using h), getElem!_pos gs k h, List.getElem_map]
theorem strL_at {gs : List GuestV} {k : Nat} (h : k < gs.length) : (strL gs)[k]! = gs[k]!.str := by
  unfold strL
  rw [getElem!_pos _ k (by simpa using h), getElem!_pos gs k h, List.getElem_map]
theorem irqL_take (gs : List GuestV) (g : Nat) : ((irqL gs).take g).flatten = numsV (gs.take g) := by
  unfold irqL numsV; rw [← List.map_take, ← List.flatMap_def]
theorem strL_take (gs : List GuestV) (g : Nat) : ((strL gs).take g).flatten = strsV (gs.take g) := by
  unfold strL strsV; rw [← List.map_take, ← List.flatMap_def]
theorem c8i_eq {b : BrdV} {gs : List GuestV} {g i : Nat} (hg : g < gs.length) : (c8q b gs[g]! (gs[g]!).irq[i]! && (List.range (g + 1)).all (rowOk (irqL gs) g i ((gs[g]!).irq[i]!).num)) = c8i b (gs.take g) gs[g]! i := by
  rw [rows_all (by unfold irqL; simpa using hg), irqL_at hg, irqL_take]; rfl
theorem c9i_eq {b : BrdV} {gs : List GuestV} {g i : Nat} (hg : g < gs.length) : (decide ((gs[g]!).str[i]! < b.strs) && (List.range (g + 1)).all (rowOk (strL gs) g i (gs[g]!).str[i]!)) = c9i b (gs.take g) gs[g]! i := by
  rw [rows_all (by unfold strL; simpa using hg), strL_at hg, strL_take]; rfl
theorem range_all_succ {n : Nat} (f : Nat → Bool) : ((List.range n).all f && f n) = (List.range (n + 1)).all f := by
  rw [List.range_succ, List.all_append]; simp
end Go.Proofs.YtffdfeekpfmbeaaGreat
