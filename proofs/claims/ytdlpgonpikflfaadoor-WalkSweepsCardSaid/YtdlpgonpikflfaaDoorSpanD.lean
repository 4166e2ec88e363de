/- The walks of span.Pages and span.First with their closures, and of the reference's First. Conditions: words of 64 bits; slices below 2^40. -/
import Derived.Test.YtdlpgonpikflfaaDoorSpanC
import Derived.Test.YtdlpgonpikflfaaDoorTwo
import Derived.Test.YtdlpgonpikflfaaDoorShelf
namespace Go.Proofs.YtdlpgonpikflfaaDoor
open Go.RowKit Go.Shelf

def pageBad (x : Two) : Bool := !goodB x.a x.b || bits BinOp.or IntKind.u64 x.a x.b % 4096 != 0

set_option maxHeartbeats 400000 in
theorem pages1_any (x : Two) (w : World) :
    Calls Tryd.prog 55 #[.agg #[.int .u64 x.a, .int .u64 x.b]] w fun e w' => e = .returned (.bool (pageBad x)) ∧ Below w.heap.size w w' := by
  obtain ⟨b, n, hb, hn⟩ := x
  dsimp only
  have hp : 0 ≤ bits BinOp.or IntKind.u64 b n := by unfold bits; exact wrap_u64_nonneg _
  cases h : goodB b n
  · have e : pageBad ⟨b, n, hb, hn⟩ = true := by simp [pageBad, h]
    rw [e]; clear e
    go_enter Tryd.func55, Tryd.ntmps55
    go_wp2_with (go_at_call 56; refine (good_any _ _ _ hb hn).mono ?_; rintro e w1 ⟨rfl, hb1⟩; obtain ⟨hc1, hf1⟩ := bcell hb1)
    go_ret
    exact ⟨rfl, bnew hb1⟩
  · have e : pageBad ⟨b, n, hb, hn⟩ = (bits BinOp.or IntKind.u64 b n % 4096 != 0) := by simp [pageBad, h]
    rw [e]; clear e
    go_enter Tryd.func55, Tryd.ntmps55
    go_wp2_with (go_at_call 56; refine (good_any _ _ _ hb hn).mono ?_; rintro e w1 ⟨rfl, hb1⟩; obtain ⟨hc1, hf1⟩ := bcell hb1)
    go_ret
    exact ⟨rfl, bnew hb1⟩

/-- Over a slice of no elements nothing is asked. -/
theorem idx_none (a : Option Addr) (cap : Nat) (f : Value) (w : World) :
    Calls Tryd.prog 63 #[.slice a 0 cap, f] w fun e w' => e = .returned (.int .i64 (-1)) ∧ w = w' := by
  go_enter Tryd.func63, Tryd.ntmps63
  go_wp2
  go_loop [5, 8] (fun _ i => i = .int .i64 0) (fun _ _ => 0)
  case atStart => rfl
  case round =>
    subst hrel
    go_wp2
    go_ret
    exact ⟨rfl, rfl⟩

def idxV (p : Two → Bool) (l : List Two) : Int := Lib.idxBy (fun _ y => p y) l default

theorem idx_any (p : Two → Bool) (g : Nat) (lb : Array Value) (v : Value) (l : List Two) (w : World) (eg : ∀ args w, (callFunc g args).run Tryd.prog w = .ok (.enter g args) w) (hv : RowTwo w v l)
    (hp : PredBelow Tryd.prog g lb (fun x => .agg (Two.enc x).toArray) p w) (hl : l.length ≤ 1099511627776) :
    Calls Tryd.prog 63 #[v, .func (.func g) #[] lb] w fun e w' => e = .returned (.int .i64 (idxV p l)) ∧ Below w.heap.size w w' := by
  rcases hv.parts with ⟨rfl, a, cap, rfl⟩ | ⟨_, b, off, cap, rfl, _, hlt, hcell⟩
  · refine (idx_none a cap _ w).mono ?_
    rintro e w' ⟨rfl, rfl⟩
    exact ⟨rfl, Below.refl _ _⟩
  · have h := AnyQ.slices_IndexFunc Tryd.idxSpan 2 Tryd.isAgg54 Tryd.sizeOf54 Two.enc (fun _ => rfl) p g lb eg b off l.length cap l w hp (Nat.le_refl _) (by omega) hlt (cells_enc hcell)
    rw [List.take_length] at h
    exact h

theorem predOf {P : Program} {g : Nat} {lb : Array Value} {p : Two → Bool} {w : World} (h : ∀ (W : World) (x : Two), Below w.heap.size w W → Calls P g (#[.agg #[.int .u64 x.a, .int .u64 x.b]] ++ lb) W fun e w' => e = .returned (.bool (p x)) ∧ Below W.heap.size W w') :
    PredBelow P g lb (fun x => .agg (Two.enc x).toArray) p w :=
  fun W x hb => (h W x hb).mono fun _ _ ⟨he, hb'⟩ => ⟨he, bthen hb hb'⟩

theorem cont_none (a : Option Addr) (cap : Nat) (f : Value) (w : World) :
    Calls Tryd.prog 54 #[.slice a 0 cap, f] w fun e w' => e = .returned (.bool false) ∧ w = w' := by
  go_enter Tryd.func54, Tryd.ntmps54
  go_wp2_with (go_at_call 63; refine (idx_none _ _ _ _).mono ?_; rintro e w1 ⟨rfl, rfl⟩)
  go_ret
  exact ⟨rfl, rfl⟩

theorem pages_any (v : Value) (l : List Two) (w : World) (hv : RowTwo w v l) (hl : l.length ≤ 1099511627776) :
    Calls Tryd.prog 33 #[v] w fun e w' => e = .returned (.bool (!l.any pageBad)) ∧ Below w.heap.size w w' := by
  rcases hv.parts with ⟨rfl, a, cap, rfl⟩ | ⟨_, b, off, cap, rfl, _, hlt, hcell⟩
  · go_enter Tryd.func33, Tryd.ntmps33
    go_wp2_with (go_at_call 54; refine (cont_none _ _ _ _).mono ?_; rintro e w1 ⟨rfl, rfl⟩)
    go_ret
    exact ⟨rfl, Below.refl _ _⟩
  · have h := AnyQ.slices_ContainsFunc Tryd.contSpan 2 Tryd.isAgg54 Tryd.sizeOf54 Two.enc (fun _ => rfl) pageBad 55 #[] (enters_of Tryd.func55 (by kernel_rfl) rfl) b off l.length cap l w (predOf fun W x _ => pages1_any x W) (Nat.le_refl _) (by omega) hlt (cells_enc hcell)
    rw [List.take_length] at h
    generalize l.any pageBad = r at *
    change Calls Tryd.prog 54 _ _ _ at h
    clear hcell
    go_enter Tryd.func33, Tryd.ntmps33
    go_wp2_with (go_at_call 54; refine h.mono ?_; rintro e w1 ⟨rfl, hb1⟩)
    go_ret
    exact ⟨rfl, hb1⟩


def ovl (l : List Two) (j : Nat) (x : Two) : Bool := overlapB x.a x.b l[j]!.a l[j]!.b
def firstFrom (l : List Two) : Nat → Nat → Int × Int × Bool
  | 0, _ => (0, 0, false)
  | k + 1, j => if 0 ≤ idxV (ovl l j) (l.take j) then (idxV (ovl l j) (l.take j), j, true) else firstFrom l k (j + 1)
/-- The first pair that overlaps. -/
def firstV (l : List Two) : Int × Int × Bool := firstFrom l l.length 0
theorem firstV_hit {l : List Two} {k : Nat} (hk : k < l.length) (h : firstV l = firstFrom l (l.length - k) k) (hi : 0 ≤ idxV (ovl l k) (l.take k)) : firstV l = (idxV (ovl l k) (l.take k), (k : Int), true) := by
  rw [h, show l.length - k = (l.length - k - 1) + 1 by omega]
  simp only [firstFrom]
  rw [if_pos hi]
theorem firstV_miss {l : List Two} {k : Nat} (hk : k < l.length) (h : firstV l = firstFrom l (l.length - k) k) (hi : idxV (ovl l k) (l.take k) < 0) : firstV l = firstFrom l (l.length - (k + 1)) (k + 1) := by
  rw [h, show l.length - k = (l.length - (k + 1)) + 1 by omega]
  simp only [firstFrom]
  rw [if_neg (by omega)]

end Go.Proofs.YtdlpgonpikflfaaDoor
