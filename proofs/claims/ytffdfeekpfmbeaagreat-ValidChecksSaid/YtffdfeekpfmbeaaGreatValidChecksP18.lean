/- The walks of cfg's small functions: must, small, truth, Name. -/
import Derived.Laws.IdiomStrings
import Derived.Test.YtffdfeekpfmbeaaGreatValidChecksP17
namespace Go.Proofs.YtffdfeekpfmbeaaGreat
open Go Go.RowKit Go.BigFrame

/-- What cfg throws. -/
def cwrongV (p e : Int) : PanicEntry := { v := .iface 147 (.agg #[.int .i64 p, .int .i64 e]), recovered := false }
/-- An end: as it should be, or something was thrown that is an error. -/
def PutE (t : Bool) (v : Value) (e : Ending) : Prop := match t with | true => e = .returned v | false => ∃ p n, n ≠ 0 ∧ e = .panicked [cwrongV p n]
theorem putE_bad {t : Bool} {v : Value} {p n : Int} (h : t = false) (hn : n ≠ 0) : PutE t v (.panicked [cwrongV p n]) := by subst h; exact ⟨p, n, hn, rfl⟩
theorem putE_ok {t : Bool} {v : Value} (h : t = true) : PutE t v (.returned v) := by subst h; rfl
theorem cmust_any (t : Bool) (p n : Int) (w : World) : Calls Tryz.prog 51 #[.bool t, .int .i64 p, .int .i64 n] w fun e w' => e = (match t with | true => .returned (.tuple #[]) | false => .panicked [cwrongV p n]) ∧ w = w' := by
  cases t
  · go_enter Tryz.func51, Tryz.ntmps51
    go_wp2
    exact ⟨rfl, rfl, rfl⟩
  · go_enter Tryz.func51, Tryz.ntmps51
    go_wp2
    go_end0
    exact ⟨rfl, rfl⟩
theorem small_any (n m : Int) (w : World) : Calls Tryz.prog 56 #[.int .i64 n, .int .i64 m] w fun e w' => PutE (decide (0 ≤ n ∧ n ≤ m)) (.int .i64 n) e ∧ w = w' := by
  by_cases h1 : 0 ≤ n
  · by_cases h2 : n ≤ m
    · go_enter Tryz.func56, Tryz.ntmps56
      go_wp2_with fail
      refine (cmust_any _ _ _ _).mono ?_; rintro e w1 ⟨rfl, rfl⟩
      go_wp2_with fail
      go_ret
      exact ⟨putE_ok (decide_eq_true (by omega)), rfl⟩
    · go_enter Tryz.func56, Tryz.ntmps56
      go_wp2_with fail
      refine (cmust_any _ _ _ _).mono ?_; rintro e w1 ⟨rfl, rfl⟩
      exact ⟨rfl, putE_bad (decide_eq_false (by omega)) (by decide), rfl⟩
  · go_enter Tryz.func56, Tryz.ntmps56
    go_wp2_with fail
    refine (cmust_any _ _ _ _).mono ?_; rintro e w1 ⟨rfl, rfl⟩
    exact ⟨rfl, putE_bad (decide_eq_false (by omega)) (by decide), rfl⟩
theorem truth_any (t : Bool) (w : World) : Calls Tryz.prog 83 #[.bool t] w fun e w' => e = .returned (.int .u32 (if t = true then 1 else 0)) ∧ w = w' := by
  cases t
  all_goals
    go_enter Tryz.func83, Tryz.ntmps83
    go_wp2
    go_ret
    exact ⟨rfl, rfl⟩
/-- A text's bytes in a block of their own. -/
theorem bytes_of (s : ByteArray) (w : World) : ∃ W1 c, (convert 9 65 (.string s)).run Tryz.prog w = .ok (.slice (some ⟨w.heap.size, 0, none⟩) s.size c) W1 ∧ Below w.heap.size w W1 ∧ w.heap.size < W1.heap.size ∧
    ∀ (j : Nat) (hj : j < s.data.toList.length), W1.cell? ⟨w.heap.size, j, none⟩ = some (.int .u8 (s.data.toList[j].toNat : Int)) := by
  have h := run_bytes_of_string (P := Tryz.prog) w 9 65 5 s Tryz.underlying9 Tryz.underlying65 Tryz.underlying5
  refine ⟨_, _, h, ((Below.refl _ w).drew).alloc (Nat.le_refl _) _, (Array.getElem?_eq_some_iff.1 (World.alloc_heap_new w.drew _)).1, fun j hj => ?_⟩
  have e : w.heap.size = w.drew.heap.size := rfl
  rw [e]
  simp only [World.cell?, World.alloc_heap_new]
  have hj' : j < s.data.size := by simpa using hj
  have := bytesRow_at s (grownCap w s.size 0 5) j hj'
  simpa using this
theorem emp_of (s : ByteArray) : s.toList.isEmpty = decide (s.size = 0) := by
  rw [ByteArray.toList_eq]
  have h : s.data.toList.length = s.size := by rw [Array.length_toList]; rfl
  cases hl : s.data.toList with
  | nil => rw [hl] at h; simp at h; simp [← h]
  | cons x l => rw [hl] at h; simp at h; rw [← h]; simp
theorem name_no {l : List UInt8} {k : Nat} (hk : k < l.length) (h : chOk l[k] = false) : l.all chOk = false := by
  rw [List.all_eq_false]
  exact ⟨l[k], List.getElem_mem hk, by simp [h]⟩
set_option maxRecDepth 100000 in
set_option maxHeartbeats 2000000 in
theorem name_any (s : ByteArray) (w : World) (hs : s.size ≤ 1000000) : Calls Tryz.prog 82 #[.string s] w fun e w' => e = .returned (.bool (nameOk s)) ∧ Below w.heap.size w w' := by
  obtain ⟨W1, cp, hrun, hb1, hz1, hcell⟩ := bytes_of s w
  have hsz : s.data.toList.length = s.size := by rw [Array.length_toList]; rfl
  have hno : ∀ (k : Nat) (hk : k < s.data.toList.length), chOk s.data.toList[k] = false → nameOk s = false := fun k hk h => by unfold nameOk; rw [name_no hk h]; rfl
  have hyes : (∀ (k : Nat) (hk : k < s.data.toList.length), chOk s.data.toList[k] = true) → nameOk s = decide (1 ≤ s.size ∧ s.size ≤ 16) := fun h => by
    unfold nameOk
    rw [List.all_eq_true.2 (fun x hx => by obtain ⟨j, hj, rfl⟩ := List.mem_iff_getElem.1 hx; exact h j hj)]; rfl
  have hne : (ByteArray.mk #[] = s) = (s.size = 0) := by
    apply propext
    constructor
    · rintro rfl; rfl
    · intro h
      cases s with
      | mk d =>
        have : d.size = 0 := h
        rw [Array.eq_empty_of_size_eq_zero this]
  generalize s.data.toList = l at *
  rw [← hsz] at hrun
  have hlb : l.length ≤ 1000000 := by omega
  replace hsz := Lib.hid hsz
  replace hne := Lib.hid hne
  go_enter Tryz.func82, Tryz.ntmps82
  go_wp2_with fail
  go_loopw [8] (fun i wr => ∃ k : Nat, k ≤ l.length ∧ i = .int .i64 k ∧ (∀ j (hj : j < l.length), j < k → chOk l[j] = true) ∧ wr = W1) (fun i _ => l.length - (intOf i).toNat)
  case atStart => exact ⟨0, Nat.zero_le _, rfl, fun j _ hj => by omega, rfl⟩
  case round =>
    obtain ⟨k, hk, rfl, hall, rfl⟩ := hrel
    by_cases hlt : k < l.length
    · have c0 := hcell k hlt
      have hnk := hno k hlt
      have hch : chOk l[k] = ((decide (97 ≤ l[k].toNat) && decide (l[k].toNat ≤ 122)) || ((decide (48 ≤ l[k].toNat) && decide (l[k].toNat ≤ 57)) || decide (l[k].toNat = 45))) := rfl
      have hyk : chOk l[k] = true → ∀ j (hj : j < l.length), j < k + 1 → chOk l[j] = true := fun h j hj h2 => by
        by_cases e : j = k
        · subst e; exact h
        · exact hall j hj (by omega)
      clear hall hcell hno hyes
      generalize chOk l[k] = q at *
      generalize l[k].toNat = c at *
      replace hyk := Lib.hid hyk
      replace hnk := Lib.hid hnk
      replace hch := Lib.hid hch
      by_cases a1 : c < 97 <;> by_cases a2 : 122 < c <;> by_cases b1 : c < 48 <;> by_cases b2 : 57 < c <;> by_cases d : c = 45
      all_goals first | (exfalso; omega) | skip
      all_goals
        have i1 : ((c : Int) < 97) = (c < 97) := by apply propext; omega
        have i2 : ((122 : Int) < c) = (122 < c) := by apply propext; omega
        have i3 : ((c : Int) < 48) = (c < 48) := by apply propext; omega
        have i4 : ((57 : Int) < c) = (57 < c) := by apply propext; omega
        have i5 : ((c : Int) != 45) = !(decide (c = 45)) := by rw [Bool.eq_iff_iff]; simp; omega
        go_wp2_with fail
      all_goals first
        | (go_ret
           exact ⟨ret_bool (by rw [hnk.out (hch.out.trans (by simp <;> omega))]), hb1⟩)
        | skip
      all_goals
        have hq : q = true := hch.out.trans (by simp <;> omega)
        exact ⟨⟨k + 1, hlt, by go_num, hyk.out hq, trivial⟩, by simp [intOf]; omega⟩
    · obtain rfl : k = l.length := by omega
      have hN := hyes (fun j hj => hall j hj hj)
      clear hall hcell hno hyes
      clear hs
      have hemp : s.toList.isEmpty = decide (s.size = 0) := emp_of s
      by_cases h0 : s.size = 0
      · have hq : decide (1 ≤ s.size ∧ s.size ≤ 16) = false := decide_eq_false (by omega)
        rw [hq] at hN
        rw [decide_eq_true h0] at hemp
        clear h0 hq
        replace hN := Lib.hid hN
        go_wp2_with fail
        all_goals go_ret
        all_goals exact ⟨ret_bool (by rw [hN.out]), hb1⟩
      · have hq : decide (1 ≤ s.size ∧ s.size ≤ 16) = decide ((s.size : Int) ≤ 16) := by rw [decide_eq_decide]; omega
        rw [hq] at hN
        rw [decide_eq_false h0] at hemp
        clear h0 hq
        replace hN := Lib.hid hN
        go_wp2_with fail
        all_goals go_ret
        all_goals exact ⟨ret_bool (by rw [hN.out]), hb1⟩
end Go.Proofs.YtffdfeekpfmbeaaGreat
