/- Asks in memory; the walk of 'few'; the walk of the statement FrameLasts. -/
import Derived.Test.YtehijlgopmbglaaFrameD
import Derived.Test.YtehijlgopmbglaaOpenTwo
namespace Go.Proofs.Ytehijlgopmbglaa
open Go Go.Joins Go.ChangeShapes Go.WideShapes Go.Deep Go.RowKit Go.BigFrame

/-- An ask: how many frames, how aligned. -/
structure AskV where
  n : Int
  al : Int
  hn : -9223372036854775808 ≤ n ∧ n ≤ 9223372036854775807
  ha : W64 al
instance : Inhabited AskV := ⟨⟨0, 0, by omega, by unfold W64; omega⟩⟩
def RowAsk (w : World) (v : Value) (l : List AskV) : Prop :=
  ∃ (a : Option Addr) (cap : Nat), v = .slice a l.length cap ∧ l.length ≤ cap ∧ cap ≤ maxLen ∧ (l ≠ [] → ∃ b off, a = some ⟨b, off, none⟩ ∧ b < w.heap.size ∧
    ∀ i (h : i < l.length), w.cell? ⟨b, off + i * 2, none⟩ = some (.int .i64 l[i].n) ∧ w.cell? ⟨b, off + i * 2 + 1, none⟩ = some (.int .u64 l[i].al))
theorem RowAsk.below {w w' : World} {v : Value} {l : List AskV} (h : RowAsk w v l) (hb : Below w.heap.size w w') : RowAsk w' v l := by
  obtain ⟨a, cap, h1, hc, hm, h2⟩ := h
  refine ⟨a, cap, h1, hc, hm, fun hl => ?_⟩
  obtain ⟨b, off, ha, hlt, hcell⟩ := h2 hl
  refine ⟨b, off, ha, Nat.lt_of_lt_of_le hlt hb.size, fun i hi => ?_⟩
  rw [hb.cell (p := ⟨b, _, none⟩) hlt, hb.cell (p := ⟨b, _, none⟩) hlt]; exact hcell i hi
theorem i64_bd {a : Int} (h : (Lit.int .i64 a).wf = true) : -9223372036854775808 ≤ a ∧ a ≤ 9223372036854775807 := by
  have h1 : IntKind.i64.min = -9223372036854775808 := rfl
  have h2 : IntKind.i64.max = 9223372036854775807 := rfl
  simp [Lit.wf, h1, h2] at h
  omega
theorem open_rowAsk {H : Type} {enc : TypeId × Value → H} {P : Program} {w : World} {base : Nat} {spare : Nat → Bool} {held : Bool} {r : Reach} {b0 : Nat} {t e : TypeId} {f0 f1 : Field} {v : Value} {d : DataW H} {p : List MemPlace} (ht : P.underlying t = some (.slice e)) (he : P.underlying e = some (.struct #[f0, f1]))
    (ce : P.cellsOf e = 2) (o0 : f0.offset = 0) (o1 : f1.offset = 1) (c0 : P.cellsOf f0.type = 1) (c1 : P.cellsOf f1.type = 1) (k0 : P.underlying f0.type = some (.int .i64)) (k1 : P.underlying f1.type = some (.int .u64))
    (hv : Value.okWide P w r b0 t v) (h : DataW.Trod enc P w base spare held t v d p) : ∃ l : List AskV, RowAsk w v l := by
  obtain ⟨a0, len, cap, rfl⟩ := okWide_slice ht hv
  obtain ⟨fuel, hf⟩ := h
  rcases open_slice_pairs ht he ce o0 o1 c0 c1 hf with ⟨hcs, _⟩ | ⟨a, len', cap', m, n, V0, V1, D0, D1, P0, P1, hcs, _, hl, hm, hmm, _, hx⟩
  · simp [Value.cells] at hcs
    obtain ⟨rfl, rfl, rfl⟩ := hcs
    exact ⟨[], none, 0, rfl, Nat.le_refl _, by unfold maxLen; omega, fun h => absurd rfl h⟩
  · simp [Value.cells] at hcs
    obtain ⟨rfl, rfl, rfl⟩ := hcs
    have hlm : len ≤ m := by rw [hmm]; split <;> omega
    obtain ⟨f, hF⟩ := choose_lt (n := len) (p := fun i (x : AskV) => V0 i = .int .i64 x.n ∧ V1 i = .int .u64 x.al) (by
      intro i hi
      obtain ⟨_, _, g0, g1⟩ := hx i (by omega)
      obtain ⟨n0, e0, _, w0⟩ := DataW.trod_int k0 g0
      obtain ⟨n1, e1, _, w1⟩ := DataW.trod_int k1 g1
      refine ⟨⟨n0, n1, i64_bd w0, u64_bd w1⟩, ?_, ?_⟩
      · simpa using e0
      · simpa using e1)
    refine ⟨(List.range len).map f, some a, cap, by simp, by simpa using hl, hm, fun hne => ?_⟩
    have hlen : 0 < len := by
      rcases Nat.eq_zero_or_pos len with rfl | h
      · simp at hne
      · exact h
    obtain ⟨b, off, spot⟩ := a
    have hs : spot = none := by simpa [Addr.add] using World.cell?_spot (hx 0 (by omega)).1
    subst hs
    have hb := World.block_lt_of_cell? w _ (hx 0 (by omega)).1
    refine ⟨b, off, rfl, by simpa [Addr.add] using hb, fun i hi => ?_⟩
    have hi' : i < len := by simpa using hi
    obtain ⟨h0, h1, _, _⟩ := hx i (by omega)
    obtain ⟨e0, e1⟩ := hF i hi'
    rw [Go.WideShapes.add_plain] at h0 h1
    have hg : ((List.range len).map f)[i] = f i := by simp
    rw [hg, ← e0, ← e1]
    exact ⟨h0, h1⟩

def one' (a : AskV) : Int := if 0 < a.n ∧ a.n ≤ 4096 then a.n else 0
def tot : List AskV → Int
  | [] => 0
  | a :: l => one' a + tot l
theorem one_bd (a : AskV) : 0 ≤ one' a ∧ one' a ≤ 4096 := by unfold one'; split <;> omega
theorem tot_nonneg : ∀ l : List AskV, 0 ≤ tot l
  | [] => by simp [tot]
  | a :: l => by have := one_bd a; have := tot_nonneg l; simp only [tot]; omega
theorem tot_append : ∀ l m : List AskV, tot (l ++ m) = tot l + tot m
  | [], m => by simp [tot]
  | a :: l, m => by have := tot_append l m; simp only [List.cons_append, tot]; omega
theorem tot_take (l : List AskV) (k : Nat) : tot (l.take k) ≤ tot l := by
  have h := tot_append (l.take k) (l.drop k)
  rw [List.take_append_drop] at h
  have := tot_nonneg (l.drop k); omega
theorem tot_succ (l : List AskV) (k : Nat) (hk : k < l.length) : tot (l.take (k + 1)) = tot (l.take k) + one' l[k] := by
  rw [List.take_succ_eq_append_getElem hk, tot_append]; simp [tot]
def fewV (l : List AskV) : Bool := decide (tot l ≤ 200) && decide (l.length ≤ 40)

set_option maxHeartbeats 2000000 in
theorem few_any (v : Value) (l : List AskV) (w : World) (hv : RowAsk w v l) : Calls Try.prog 8 #[v] w fun e w' => e = .returned (.bool (fewV l)) ∧ Below w.heap.size w w' := by
  obtain ⟨a, cap, rfl, hcap, hmx, hrow⟩ := hv
  unfold maxLen at hmx
  go_enter Try.func8, Try.ntmps8
  go_wp2
  go_loopw [3, 8] (fun s i wr => ∃ k : Nat, k ≤ l.length ∧ i = .int .i64 k ∧ s = .int .i64 (tot (l.take k)) ∧ tot (l.take k) ≤ 200 ∧ Below w.heap.size w wr) (fun _ i _ => l.length - (intOf i).toNat)
  case atStart => exact ⟨0, Nat.zero_le _, rfl, rfl, by simp [tot], Below.refl _ _⟩
  case round =>
    obtain ⟨k, hk, rfl, rfl, hle, hB⟩ := hrel
    by_cases hlt : k < l.length
    · obtain ⟨b, off, rfl, hbl, hcell⟩ := hrow (by rintro rfl; simp at hlt)
      have h1 := (hcell k hlt).1
      have h2 := (hcell k hlt).2
      rw [← hB.cell (p := ⟨b, _, none⟩) hbl] at h1 h2
      have hsn := tot_succ l k hlt
      have hbig := tot_take l (k + 1)
      have h0 := tot_nonneg (l.take k)
      have hB1 : w.heap.size ≤ wr.heap.size := hB.size
      have hone : one' l[k] = if 0 < l[k].n ∧ l[k].n ≤ 4096 then l[k].n else 0 := rfl
      clear hcell hrow
      have hxn := l[k].hn
      generalize l[k] = x at *
      generalize hTk : tot (l.take k) = T at *
      clear hTk
      by_cases q1 : 0 < x.n
      · by_cases q2 : x.n ≤ 4096
        · rw [if_pos ⟨q1, q2⟩] at hone
          rw [hone] at hsn
          rw [hsn] at hbig
          have hS := Lib.hid hsn
          by_cases q3 : 200 < T + x.n
          · have hf : fewV l = false := by unfold fewV; rw [decide_eq_false (by omega)]; rfl
            replace hf := Lib.hid hf
            clear hsn hone
            go_wp2
            go_ret
            exact ⟨ret_bool hf.out.symm, hB.trans ((bone wr _).mono hB1)⟩
          · clear hsn hone
            go_wp2
            go_roundw
            case rel => exact ⟨k + 1, by omega, by go_num, by rw [hS.out], by rw [hS.out]; omega, hB.trans ((bone wr _).mono hB1)⟩
            case measure => simp [intOf]; omega
        · rw [if_neg (fun h => q2 h.2)] at hone
          rw [hone, Int.add_zero] at hsn
          have hS := Lib.hid hsn
          have q3 : ¬ 200 < T := by omega
          clear hsn hone
          go_wp2
          go_roundw
          case rel => exact ⟨k + 1, by omega, by go_num, by rw [hS.out], by rw [hS.out]; omega, hB.trans ((bone wr _).mono hB1)⟩
          case measure => simp [intOf]; omega
      · rw [if_neg (fun h => q1 h.1)] at hone
        rw [hone, Int.add_zero] at hsn
        have hS := Lib.hid hsn
        have q3 : ¬ 200 < T := by omega
        clear hsn hone
        go_wp2
        go_roundw
        case rel => exact ⟨k + 1, by omega, by go_num, by rw [hS.out], by rw [hS.out]; omega, hB.trans ((bone wr _).mono hB1)⟩
        case measure => simp [intOf]; omega
    · obtain rfl : k = l.length := by omega
      rw [List.take_length] at hle ⊢
      have hf : fewV l = decide ((l.length : Int) ≤ 40) := by
        unfold fewV; rw [decide_eq_true hle, Bool.true_and, Bool.eq_iff_iff, decide_eq_true_eq, decide_eq_true_eq]; omega
      replace hf := Lib.hid hf
      go_wp2
      go_ret
      exact ⟨ret_bool hf.out.symm, hB⟩
end Go.Proofs.Ytehijlgopmbglaa
