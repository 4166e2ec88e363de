/- The walk of the program's Put: a word is written into memory. -/
import Derived.Test.YtdlpgonpikflfaaDoorMemE
namespace Go.Proofs.YtdlpgonpikflfaaDoor
open Go Go.RowKit Go.BigFrame Go.Maps

theorem Wrote.pre {w w1 w' : World} {mb pb : Nat} {s z : Int} {L L' : List Pg} {B : Nat} {tgt : PG} (h : Wrote w1 w' mb pb s z L L' B tgt) (hb : Below w.heap.size w w1) (hB : B ≤ w.heap.size) : Wrote w w' mb pb s z L L' B tgt :=
  ⟨h.mem, h.ab, ⟨(hb.mono hB).trans h.off.below, fun k h1 h2 => (h.off.rest k (Nat.lt_of_lt_of_le h1 hb.size) h2).trans (hb.block k h1)⟩, fun b hk => (h.blks b hk).imp id fun e => Nat.le_trans hb.size e⟩
theorem Wrote.stay {w w' : World} {mb pb : Nat} {s z : Int} {L : List Pg} {B : Nat} (h : MemP w mb pb s z L) (hb : Below w.heap.size w w') (hB : B ≤ w.heap.size) : Wrote w w' mb pb s z L L B (L.map Pg.ab) :=
  ⟨h.below hb (Nat.le_refl _), rfl, OffL.of_below hb hB, fun _ h => .inl h⟩
theorem Wrote.trans {w w1 w2 : World} {mb pb : Nat} {s z : Int} {L L1 L2 : List Pg} {B : Nat} {t1 t2 : PG} (h : Wrote w w1 mb pb s z L L1 B t1) (k : Wrote w1 w2 mb pb s z L1 L2 B t2) : Wrote w w2 mb pb s z L L2 B t2 :=
  ⟨k.mem, k.ab, h.off.trans k.off h.blks, fun b hb => by
    rcases k.blks b hb with e | e
    · exact h.blks b e
    · exact .inr (Nat.le_trans h.off.below.size e)⟩
/-- A row of its own, opened. -/
theorem OwnB.open {w : World} {base : Nat} {v : Value} {l : List Int} (h : OwnB w base v l) : ∃ (x : Option Addr) (cap g : Nat), v = .slice x l.length cap ∧ l.length ≤ cap ∧ (l ≠ [] → x = some ⟨g, 0, none⟩ ∧ base ≤ g ∧ g < w.heap.size ∧ ∀ i (hi : i < l.length), w.cell? ⟨g, 0 + i, none⟩ = some (.int .u8 l[i])) := by
  have hr := h.row
  obtain ⟨hlen, ⟨rfl, h0⟩ | ⟨g, cap, cur, rfl, hb, hg, hn, hm, hs, hx⟩⟩ := h
  · obtain rfl : l = [] := List.length_eq_zero_iff.1 h0
    exact ⟨none, 0, 0, rfl, Nat.le_refl _, fun h => absurd rfl h⟩
  · refine ⟨some ⟨g, 0, none⟩, cap, g, rfl, hn, fun hne => ⟨rfl, hb, (Array.getElem?_eq_some_iff.1 hg).1, fun i hi => ?_⟩⟩
    obtain ⟨a2, c2, e1, _, _, hc⟩ := hr
    obtain ⟨b2, o2, e2, _, hc⟩ := hc hne
    simp only [Value.slice.injEq, true_and] at e1
    rw [e2] at e1
    simp only [Option.some.injEq, Addr.mk.injEq, and_true] at e1
    obtain ⟨⟨rfl, rfl⟩, _⟩ := e1
    exact hc i hi
def putE (s z a : Int) : Int := if a % 8 = 0 then askV s z a 8 else 90

set_option maxRecDepth 20000 in
set_option maxHeartbeats 2000000 in
theorem putM_any (mb pb : Nat) (s z a x : Int) (L : List Pg) (B : Nat) (w : World) (hm : MemP w mb pb s z L) (ha : W64 a) (hx : W64 x) (hB : ∀ k ∈ memBlks mb pb L, B ≤ k) :
    Calls Tryd.prog 20 #[.pointer (some ⟨mb, 0, none⟩), .int .u64 a, .int .u64 x] w fun e w' => e = .returned (.int .i64 (putE s z a)) ∧ ∃ L', Wrote w w' mb pb s z L L' B (if putE s z a = 0 then writeV (L.map Pg.ab) a (putB x) else L.map Pg.ab) := by
  have hBw : B ≤ w.heap.size := by have := hm.lt mb (by simp [memBlks]); have := hB mb (by simp [memBlks]); omega
  have ha0 := ha.1
  have ha1 := ha.2
  by_cases h8 : a % 8 = 0
  · have hpe : putE s z a = askV s z a 8 := by unfold putE; rw [if_pos h8]
    rw [hpe]
    clear hpe
    generalize hT : (if askV s z a 8 = 0 then writeV (L.map Pg.ab) a (putB x) else L.map Pg.ab) = T
    replace hT := Lib.hid hT
    have hc0 : (w.alloc (.cells #[.int .u64 x] 23)).cell? ⟨w.heap.size, 0, none⟩ = some (.int .u64 x) := by simp [World.cell?_alloc_new]
    have hb0 := bone w (.cells #[.int .u64 x] 23)
    have hp := putLe64_any x w.heap.size 0 1 _ hx hc0
    go_enter Tryd.func20, Tryd.ntmps20
    go_wp2_with fail
    refine hp.mono ?_; rintro e w1 ⟨r, rfl, hown, hb1⟩
    replace hb1 := bthen hb0 hb1
    clear hp hb0 hc0
    obtain ⟨y, cap, g, rfl, hcap, hg⟩ := hown.open
    have hg' : putB x ≠ [] := by intro e; have := putB_len x; rw [e] at this; simp at this
    obtain ⟨rfl, hgb, hglt, hgc⟩ := hg hg'
    have hm1 := hm.below hb1 (Nat.le_refl _)
    have hgn : g ∉ memBlks mb pb L := fun e => by have := hm.lt g e; simp at hgb; omega
    have hw := write_any mb pb s z a L B g 0 cap (some ⟨g, 0, none⟩) (putB x) w1 hm1 ha hB (fun _ => ⟨rfl, hglt, hgn, hgc⟩) (putB_byte x) (by rw [putB_len]; omega) hcap
    have hlen : (((putB x).length : Nat) : Int) = 8 := by rw [putB_len]; rfl
    rw [hlen, hT.out] at hw
    clear hgc hown
    replace hlen := Lib.hid hlen
    go_wp2_with fail
    refine hw.mono ?_; rintro e w2 ⟨rfl, L', hwr⟩
    go_wp2_with fail
    go_ret
    exact ⟨rfl, L', hwr.pre hb1 hBw⟩
  · have hpe : putE s z a = 90 := by unfold putE; rw [if_neg h8]
    rw [hpe, if_neg (by decide)]
    clear hpe
    go_enter Tryd.func20, Tryd.ntmps20
    go_wp2_with fail
    go_ret
    exact ⟨rfl, L, Wrote.stay hm (Below.refl _ _) hBw⟩
end Go.Proofs.YtdlpgonpikflfaaDoor
