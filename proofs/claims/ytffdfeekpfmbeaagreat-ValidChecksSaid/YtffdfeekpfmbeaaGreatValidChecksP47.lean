/- The reference's writer: Put of a number, put, must, small, truth. -/
import Derived.Test.YtffdfeekpfmbeaaGreatValidChecksP22
import Derived.Test.YtffdfeekpfmbeaaGreatValidChecksP32
import Derived.Test.YtffdfeekpfmbeaaGreatValidChecksP33
import Derived.Test.YtffdfeekpfmbeaaGreatValidChecksP46
namespace Go.Proofs.YtffdfeekpfmbeaaGreat
open Go Go.RowKit Go.BigFrame

def OPost (w : World) (n : Nat) (e : Ending) (w' : World) : Prop := ∃ r, e = .returned r ∧ OwnN w' w.heap.size r n ∧ Below w.heap.size w w'
set_option maxRecDepth 20000 in
set_option maxHeartbeats 4000000 in
theorem rPut2 (u0 u4 u5 u6 u7 u8 u10 u11 u12 u13 u14 u15 u16 u17 u18 u19 u20 u21 u22 u23 u24 u25 u26 u27 u28 u29 u30 u31 u32 u33 u34 : Value) {w W : World} {vo : Value} {n size : Nat} {x : Int} (hown : OwnN W w.heap.size vo n) (hb : Below w.heap.size w W) (hn : n ≤ 10000000) (hs : size ≤ 8) (hx : W64 x) :
    (tailC 2 (Tryz.f75.body.getD .skip)).wp Tryz.prog (bodyPost Tryz.prog Tryz.f75 (OPost w (n + size))) ⟨List.toArray (u0 :: .int .u64 x :: .int .i64 size :: .bool false :: u4 :: u5 :: u6 :: u7 :: u8 :: vo :: u10 :: u11 :: u12 :: u13 :: u14 :: u15 :: u16 :: u17 :: u18 :: u19 :: u20 :: u21 :: u22 :: u23 :: u24 :: u25 :: u26 :: u27 :: u28 :: u29 :: u30 :: u31 :: u32 :: u33 :: u34 :: []), []⟩ W := by
  have hx0 := hx.1
  have hx1 := hx.2
  conv => arg 2; whnf
  go_wp2_with fail
  go_loopw [9, 10] (fun v i wr => ∃ k : Nat, k ≤ size ∧ i = .int .i64 k ∧ OwnN wr w.heap.size v (n + k) ∧ Below w.heap.size w wr) (fun _ i _ => size - (intOf i).toNat)
  case atStart => exact ⟨0, by omega, rfl, hown, hb⟩
  case round =>
    obtain ⟨k, hk, rfl, hown, hB⟩ := hrel
    by_cases hlt : k < size
    · have hz := hB.size
      have hol := hown.lt
      obtain ⟨a0, c0, rfl⟩ := hown.slice
      have e1 : ((size : Int) - 1 - (k : Int)) = ((size - 1 - k : Nat) : Int) := by omega
      have h8k : IntKind.i64.wrap (8 * ((size - 1 - k : Nat) : Int)) = 8 * ((size - 1 - k : Nat) : Int) := by rw [IntKind.wrap_i64]; omega
      have w1 : IntKind.i64.wrap ((size : Int) - 1) = (size : Int) - 1 := by rw [IntKind.wrap_i64]; omega
      have w2 : IntKind.i64.wrap ((size - 1 - k : Nat) : Int) = ((size - 1 - k : Nat) : Int) := by rw [IntKind.wrap_i64]; omega
      go_wp2_with (at_builtin; refine OwnN.app rfl _ _ rfl w.heap.size _ _ (n + k) _ rfl rfl (hown.below (bone _ _)) (RowV.lit _ _ _) (by simp) (by intro y hy; simp at hy; subst hy; rfl) (by simp; omega) (by simp; omega) ?_; intro v' w6 hown6 hgrow hat)
      refine ⟨⟨k + 1, by omega, by go_num, ?_, ?_⟩, by simp [intOf]; omega⟩
      · simpa [Nat.add_assoc] using hown6
      · exact Below.grown (hB.alloc hz _) hgrow (by simp; omega) (fun k hk => (hol k hk).1)
    · obtain rfl : k = size := by omega
      go_wp2_with fail
      go_ret
      exact ⟨_, rfl, hown, hB⟩
set_option maxRecDepth 20000 in
set_option maxHeartbeats 4000000 in
/-- So many bytes behind those that are there, in a row of its own. -/
theorem rPut_len (v : Value) (ys : List Value) (x : Int) (size : Nat) (w : World) (hv : RowV w v ys) (hnil : ys = [] → v = .slice none 0 0) (hone : ∀ y ∈ ys, y.oneCell' = true) (hn : ys.length ≤ 10000000) (hs : size ≤ 8) (hx : W64 x) :
    Calls Tryz.prog 75 #[v, .int .u64 x, .int .i64 size, .bool false] w (OPost w (ys.length + size)) := by
  obtain ⟨i0, hi0, _, _, _⟩ : ∃ i, Tryz.prog.info? 5 = some i ∧ i.zero = some (.int .u8 0) ∧ i.size = 1 ∧ i.bytes = 1 := by
    obtain ⟨i0, hi1, hi2⟩ := Option.map_eq_some_iff.1 infoU8
    rw [Prod.mk.injEq, Prod.mk.injEq] at hi2
    exact ⟨i0, hi1, hi2.1, hi2.2.1, hi2.2.2⟩
  have hon : OwnN w w.heap.size (.slice none 0 0) 0 := ⟨[], World.ownsRow_nil _ _ _ _, by simp⟩
  by_cases hy : ys = []
  · rw [hnil hy, hy, List.length_nil]
    clear hnil hv hone
    go_enter Tryz.func75, Tryz.ntmps75
    go_upto_region 999 with (first | (at_builtin; refine wpList_append_own_none rfl _ _ 65 rfl w.heap.size 5 i0 1 Tryz.underlying65 hi0 (.slice none 0 0) 0 [] rfl (World.ownsRow_nil _ _ _ _) rfl ?_) | ((with_reducible show Code.wp _ _ (bodyPost _ _ _) ⟨List.toArray (_ :: _ :: _ :: _ :: _ :: _ :: _ :: _ :: _ :: Value.slice _ _ _ :: _), _⟩ _); exact rPut2 _ _ _ _ _ _ _ _ _ _ _ _ _ _ _ _ _ _ _ _ _ _ _ _ _ _ _ _ _ _ _ hon (Below.refl _ _) (by omega) hs hx))
  · obtain ⟨av, cv, rfl, hc⟩ := id hv
    clear hnil
    go_enter Tryz.func75, Tryz.ntmps75
    go_upto_region 999 with (first | (at_builtin; refine OwnN.app rfl _ _ rfl w.heap.size (.slice none 0 0) _ 0 ys rfl rfl hon hv hy hone (by omega) (Nat.le_refl _) ?_; intro v' w' hown' hgr hat) | ((with_reducible show Code.wp _ _ (bodyPost _ _ _) ⟨List.toArray (_ :: _ :: _ :: _ :: _ :: _ :: _ :: _ :: _ :: _ :: _), _⟩ _); exact rPut2 _ _ _ _ _ _ _ _ _ _ _ _ _ _ _ _ _ _ _ _ _ _ _ _ _ _ _ _ _ _ _ (by rw [Nat.zero_add] at hown'; exact hown') (Below.grown (Below.refl _ _) hgr (Nat.le_refl _) (fun k hk => by simp [Value.ownBlock] at hk)) hn hs hx))
/-- The reference's writer: its variable, so many bytes of its own, the first error. -/
structure Wq (W : World) (wb B n : Nat) (v : Value) (e : Int) : Prop where
  blk : W.heap[wb]? = some (.cells #[v, .int .i64 e] 91 (0, 0))
  own : OwnN W B v n
  nil : n = 0 → v = .slice none 0 0
section
variable {W W' : World} {wb B n m : Nat} {v v' : Value} {e : Int}
theorem Wq.lt (h : Wq W wb B n v e) : wb < W.heap.size := (Array.getElem?_eq_some_iff.1 h.blk).1
theorem Wq.c0 (h : Wq W wb B n v e) : W.cell? ⟨wb, 0, none⟩ = some v := by simp [World.cell?, h.blk]
theorem Wq.c1 (h : Wq W wb B n v e) : W.cell? ⟨wb, 1, none⟩ = some (.int .i64 e) := by simp [World.cell?, h.blk]
theorem Wq.f0 (h : Wq W wb B n v e) : W.frozen? ⟨wb, 0, none⟩ = false := by simp [World.frozen?, h.blk]
theorem Wq.f1 (h : Wq W wb B n v e) : W.frozen? ⟨wb, 1, none⟩ = false := by simp [World.frozen?, h.blk]
theorem Wq.below (h : Wq W wb B n v e) (hb : Below W.heap.size W W') : Wq W' wb B n v e := ⟨(hb.block wb h.lt).trans h.blk, h.own.below hb, h.nil⟩
theorem wq_u8 : 91 ≠ 5 := by decide
end
/-- What a method of the writer leaves: so many bytes, and no error just if there was none and something is so. -/
def QPost (B wb m : Nat) (v : Value) (e : Int) (q : Bool) (w : World) (en : Ending) (w' : World) : Prop := en = .returned (.tuple #[]) ∧ ∃ v' e', Wq w' wb B m v' e' ∧ (e' = 0 ↔ e = 0 ∧ q = true) ∧ WT B wb v v' w w'
set_option maxHeartbeats 1000000 in
theorem qmust_any (wb B n : Nat) (v : Value) (e : Int) (w : World) (hw : Wq w wb B n v e) (q : Bool) (r : Int) (hr : r ≠ 0) (_hB : B ≤ w.heap.size) (hBx : B ≤ wb) :
    Calls Tryz.prog 36 #[.pointer (some ⟨wb, 0, none⟩), .bool q, .int .i64 r] w (QPost B wb n v e q w) := by
  have c1 := hw.c1
  have f1 := hw.f1
  cases q
  case true =>
    go_enter Tryz.func36, Tryz.ntmps36
    go_wp2_with fail
    go_end0
    exact ⟨rfl, v, e, hw, by simp, WT.refl _ _ _ _⟩
  by_cases he : e = 0
  · have he' : (e == 0) = true := by simpa using he
    go_enter Tryz.func36, Tryz.ntmps36
    go_wp2_with fail
    go_end0
    refine ⟨rfl, v, r, ⟨(setCell_at hw.blk 1 _).trans rfl, hw.own.set_other (hw.own.ne hw.blk wq_u8), hw.nil⟩, by simp [hr], (OffV.refl _ _ _).set (.inl (by simp)) hBx, fun _ h => .inl h⟩
  · have he' : (e == 0) = false := by simpa using he
    go_enter Tryz.func36, Tryz.ntmps36
    go_wp2_with fail
    go_end0
    exact ⟨rfl, v, e, hw, by simp [he], WT.refl _ _ _ _⟩
set_option maxHeartbeats 1000000 in
theorem qput_any (wb B n : Nat) (v : Value) (e : Int) (w : World) (hw : Wq w wb B n v e) (x : Int) (size : Nat) (hx : W64 x) (hn : n ≤ 10000000) (hs : 1 ≤ size ∧ size ≤ 8) (hB : B ≤ w.heap.size) (hBx : B ≤ wb) :
    Calls Tryz.prog 33 #[.pointer (some ⟨wb, 0, none⟩), .int .u64 x, .int .i64 size] w (QPost B wb (n + size) v e true w) := by
  obtain ⟨ys, hyl, hrow, hone⟩ := hw.own.row
  subst hyl
  have h := rPut_len v ys x size w hrow (fun hy => hw.nil (by rw [hy]; rfl)) hone hn hs.2 hx
  have hc := hw.c0
  have hwl := hw.lt
  obtain ⟨a, cap, rfl⟩ := hw.own.slice
  go_enter Tryz.func33, Tryz.ntmps33
  go_wp2_with fail
  refine h.mono ?_; rintro e' w1 ⟨r, rfl, hown, hb1⟩
  have hw1 := hw.below hb1
  have hf := hw1.f0
  have hc1 := hw1.c0
  obtain ⟨a2, c2, rfl⟩ := hown.slice
  go_wp2_with fail
  go_end0
  refine ⟨rfl, _, e, ⟨(setCell_at hw1.blk 0 _).trans rfl, (hown.base hB).set_other (hown.ne hw1.blk wq_u8), fun h0 => by omega⟩, by simp, (OffV.of_below hb1 hB).set (.inl (by simp)) hBx, fun q hq => .inr (hown.lt q hq).1⟩
theorem QPost.then {B wb m2 : Nat} {v : Value} {e : Int} {q q2 : Bool} {w w1 : World} {v' : Value} {e' : Int} (h1 : e' = 0 ↔ e = 0 ∧ q = true) (ht : WT B wb v v' w w1) {en : Ending} {w2 : World} (h : QPost B wb m2 v' e' q2 w1 en w2) : QPost B wb m2 v e (q && q2) w en w2 := by
  obtain ⟨rfl, v2, e2, hw2, h2, ht2⟩ := h
  exact ⟨rfl, v2, e2, hw2, by rw [h2, h1, Bool.and_eq_true]; exact and_assoc, ht.trans ht2⟩
set_option maxHeartbeats 1000000 in
theorem qtruth_any (wb B n : Nat) (v : Value) (e : Int) (w : World) (hw : Wq w wb B n v e) (q : Bool) (hn : n ≤ 10000000) (hB : B ≤ w.heap.size) (hBx : B ≤ wb) :
    Calls Tryz.prog 77 #[.pointer (some ⟨wb, 0, none⟩), .bool q] w (QPost B wb (n + 4) v e true w) := by
  have h0 := qput_any wb B n v e w hw 0 4 ⟨by decide, by decide⟩ hn ⟨by decide, by decide⟩ hB hBx
  have h1 := qput_any wb B n v e w hw 1 4 ⟨by decide, by decide⟩ hn ⟨by decide, by decide⟩ hB hBx
  cases q
  · go_enter Tryz.func77, Tryz.ntmps77
    go_wp2_with fail
    refine h0.mono ?_; rintro e' w1 ⟨rfl, h⟩
    go_wp2_with fail
    go_end0
    exact ⟨rfl, by simpa using h⟩
  · go_enter Tryz.func77, Tryz.ntmps77
    go_wp2_with fail
    refine h1.mono ?_; rintro e' w1 ⟨rfl, h⟩
    go_wp2_with fail
    go_end0
    exact ⟨rfl, by simpa using h⟩
set_option maxHeartbeats 1000000 in
theorem qsmall_any (wb B n : Nat) (v : Value) (e : Int) (w : World) (hw : Wq w wb B n v e) (x most : Int) (size : Nat) (hx : I64 x) (hn : n ≤ 10000000) (hs : 1 ≤ size ∧ size ≤ 8) (hB : B ≤ w.heap.size) (hBx : B ≤ wb) :
    Calls Tryz.prog 35 #[.pointer (some ⟨wb, 0, none⟩), .int .i64 x, .int .i64 most, .int .i64 size] w (QPost B wb (n + size) v e (decide (0 ≤ x ∧ x ≤ most)) w) := by
  have hW : W64 (IntKind.u64.wrap x) := ⟨by rw [IntKind.wrap_u64]; omega, by rw [IntKind.wrap_u64]; omega⟩
  have hm := fun q => qmust_any wb B n v e w hw q 144 (by decide) hB hBx
  have hfin : ∀ (q : Bool) (v1 : Value) (e1 : Int) (w1 : World), q = decide (0 ≤ x ∧ x ≤ most) → (e1 = 0 ↔ e = 0 ∧ q = true) → Wq w1 wb B n v1 e1 → WT B wb v v1 w w1 →
      Calls Tryz.prog 33 #[.pointer (some ⟨wb, 0, none⟩), .int .u64 (IntKind.u64.wrap x), .int .i64 size] w1 (fun en w2 => en = .returned (.tuple #[]) ∧ QPost B wb (n + size) v e (decide (0 ≤ x ∧ x ≤ most)) w (.returned (.tuple #[])) w2) := fun q v1 e1 w1 hq h1 hw1 ht => by
    refine (qput_any wb B n v1 e1 w1 hw1 _ size hW hn hs (Nat.le_trans hB ht.off.below.size) hBx).mono ?_
    rintro en w2 h
    have h' := QPost.then h1 ht h
    rw [Bool.and_true, hq] at h'
    obtain ⟨rfl, h''⟩ := h'
    exact ⟨rfl, rfl, h''⟩
  replace hfin := Lib.hid hfin
  by_cases a1 : 0 ≤ x
  · by_cases a2 : x ≤ most
    · have hq : true = decide (0 ≤ x ∧ x ≤ most) := (decide_eq_true ⟨a1, a2⟩).symm
      replace hq := Lib.hid hq
      go_enter Tryz.func35, Tryz.ntmps35
      go_wp2_with fail
      refine (hm _).mono ?_; rintro e' w1 ⟨rfl, v1, e1, hw1, h1, ht1⟩
      go_wp2_with fail
      refine (hfin.out true _ _ _ hq.out (by simpa using h1) hw1 ht1).mono ?_; rintro e' w2 ⟨rfl, h2⟩
      go_wp2_with fail
      go_end0
      exact h2
    · have hq : false = decide (0 ≤ x ∧ x ≤ most) := (decide_eq_false (by omega)).symm
      replace hq := Lib.hid hq
      go_enter Tryz.func35, Tryz.ntmps35
      go_wp2_with fail
      refine (hm _).mono ?_; rintro e' w1 ⟨rfl, v1, e1, hw1, h1, ht1⟩
      go_wp2_with fail
      refine (hfin.out false _ _ _ hq.out (by simpa using h1) hw1 ht1).mono ?_; rintro e' w2 ⟨rfl, h2⟩
      go_wp2_with fail
      go_end0
      exact h2
  · have hq : false = decide (0 ≤ x ∧ x ≤ most) := (decide_eq_false (by omega)).symm
    replace hq := Lib.hid hq
    go_enter Tryz.func35, Tryz.ntmps35
    go_wp2_with fail
    refine (hm _).mono ?_; rintro e' w1 ⟨rfl, v1, e1, hw1, h1, ht1⟩
    go_wp2_with fail
    refine (hfin.out false _ _ _ hq.out (by simpa using h1) hw1 ht1).mono ?_; rintro e' w2 ⟨rfl, h2⟩
    go_wp2_with fail
    go_end0
    exact h2
end Go.Proofs.YtffdfeekpfmbeaaGreat
/- The reference's names and keys. -/
namespace Go.Proofs.YtffdfeekpfmbeaaGreat
open Go Go.RowKit Go.BigFrame

set_option maxRecDepth 100000 in
set_option maxHeartbeats 2000000 in
theorem rname_any (s : ByteArray) (w : World) (hs : s.size ≤ 1000000) : Calls Tryz.prog 92 #[.string s] w fun e w' => e = .returned (.bool (nameOk s)) ∧ w = w' := by
  have hsz : s.data.toList.length = s.size := by rw [Array.length_toList]; rfl
  have hno : ∀ (k : Nat) (hk : k < s.data.toList.length), chOk s.data.toList[k] = false → nameOk s = false := fun k hk h => by unfold nameOk; rw [name_no hk h]; rfl
  have hyes : (∀ (k : Nat) (hk : k < s.data.toList.length), chOk s.data.toList[k] = true) → nameOk s = decide (1 ≤ s.size ∧ s.size ≤ 16) := fun h => by
    unfold nameOk
    rw [List.all_eq_true.2 (fun x hx => by obtain ⟨j, hj, rfl⟩ := List.mem_iff_getElem.1 hx; exact h j hj)]; rfl
  go_enter Tryz.func92, Tryz.ntmps92
  go_wp2_with fail
  go_loopw [3] (fun i wr => ∃ k : Nat, k ≤ s.size ∧ i = .int .i64 k ∧ (∀ j (hj : j < s.data.toList.length), j < k → chOk s.data.toList[j] = true) ∧ wr = w) (fun i _ => s.size - (intOf i).toNat)
  case atStart => exact ⟨0, Nat.zero_le _, rfl, fun j _ hj => by omega, rfl⟩
  case round =>
    obtain ⟨k, hk, rfl, hall, rfl⟩ := hrel
    by_cases hlt : k < s.size
    · have hkl : k < s.data.toList.length := by omega
      have hsk : s[k] = s.data.toList[k] := rfl
      have hnk := hno k hkl
      have hch : chOk s.data.toList[k] = ((decide (97 ≤ s.data.toList[k].toNat) && decide (s.data.toList[k].toNat ≤ 122)) || ((decide (48 ≤ s.data.toList[k].toNat) && decide (s.data.toList[k].toNat ≤ 57)) || decide (s.data.toList[k].toNat = 45))) := rfl
      have hyk : chOk s.data.toList[k] = true → ∀ j (hj : j < s.data.toList.length), j < k + 1 → chOk s.data.toList[j] = true := fun h j hj h2 => by
        by_cases e : j = k
        · subst e; exact h
        · exact hall j hj (by omega)
      rw [← hsk] at hnk hch hyk
      clear hall hno hyes hsk
      have hlt' : (k : Int) < (s.size : Int) := by omega
      go_upto_region 5 with fail
      generalize chOk s[k] = q at *
      generalize s[k].toNat = c at *
      replace hyk := Lib.hid hyk
      replace hnk := Lib.hid hnk
      replace hch := Lib.hid hch
      have key : (97 ≤ c ∧ c ≤ 122 ∧ q = true) ∨ (97 ≤ c ∧ ¬ c ≤ 122 ∧ q = false) ∨ (c < 97 ∧ 48 ≤ c ∧ c ≤ 57 ∧ q = true) ∨ (c < 97 ∧ 48 ≤ c ∧ ¬ c ≤ 57 ∧ q = false) ∨ (c < 48 ∧ c = 45 ∧ q = true) ∨ (c < 48 ∧ ¬ c = 45 ∧ q = false) := by
        rw [hch.out]
        simp only [Bool.or_eq_true, Bool.and_eq_true, Bool.or_eq_false_iff, Bool.and_eq_false_iff, decide_eq_true_eq, decide_eq_false_iff_not]
        omega
      rcases key with ⟨a1, a2, hq⟩ | ⟨a1, a2, hq⟩ | ⟨a1, a2, a3, hq⟩ | ⟨a1, a2, a3, hq⟩ | ⟨a1, a2, hq⟩ | ⟨a1, a2, hq⟩
      · have p97 : (97 : Int) ≤ (c : Int) := by omega
        have p122 : (c : Int) ≤ 122 := by omega
        replace hq := Lib.hid hq
        go_wp2_with fail
        exact ⟨⟨k + 1, hlt, by go_num, hyk.out hq.out, by first | rfl | trivial⟩, by simp [intOf]; omega⟩
      · have p97 : (97 : Int) ≤ (c : Int) := by omega
        have n122 : ¬ (c : Int) ≤ 122 := by omega
        have p48 : (48 : Int) ≤ (c : Int) := by omega
        have n57 : ¬ (c : Int) ≤ 57 := by omega
        have n45 : ((c : Int) == 45) = false := by simp; omega
        replace hq := Lib.hid hq
        go_wp2_with fail
        go_ret
        exact ⟨ret_bool (by rw [hnk.out hq.out]), rfl⟩
      · have n97 : ¬ (97 : Int) ≤ (c : Int) := by omega
        have p48 : (48 : Int) ≤ (c : Int) := by omega
        have p57 : (c : Int) ≤ 57 := by omega
        replace hq := Lib.hid hq
        go_wp2_with fail
        exact ⟨⟨k + 1, hlt, by go_num, hyk.out hq.out, by first | rfl | trivial⟩, by simp [intOf]; omega⟩
      · have n97 : ¬ (97 : Int) ≤ (c : Int) := by omega
        have p48 : (48 : Int) ≤ (c : Int) := by omega
        have n57 : ¬ (c : Int) ≤ 57 := by omega
        have n45 : ((c : Int) == 45) = false := by simp; omega
        replace hq := Lib.hid hq
        go_wp2_with fail
        go_ret
        exact ⟨ret_bool (by rw [hnk.out hq.out]), rfl⟩
      · have n97 : ¬ (97 : Int) ≤ (c : Int) := by omega
        have n48 : ¬ (48 : Int) ≤ (c : Int) := by omega
        have p45 : ((c : Int) == 45) = true := by simp; omega
        replace hq := Lib.hid hq
        go_wp2_with fail
        exact ⟨⟨k + 1, hlt, by go_num, hyk.out hq.out, by first | rfl | trivial⟩, by simp [intOf]; omega⟩
      · have n97 : ¬ (97 : Int) ≤ (c : Int) := by omega
        have n48 : ¬ (48 : Int) ≤ (c : Int) := by omega
        have n45 : ((c : Int) == 45) = false := by simp; omega
        replace hq := Lib.hid hq
        go_wp2_with fail
        go_ret
        exact ⟨ret_bool (by rw [hnk.out hq.out]), rfl⟩
    · obtain rfl : k = s.size := by omega
      have hz := hyes fun j hj => hall j hj (by omega)
      clear hno hyes hall
      by_cases h1 : 1 ≤ s.size
      · by_cases h2 : s.size ≤ 16
        · have e2 : ((s.size : Int) ≤ 16) := by omega
          have e1 : (1 : Int) ≤ (s.size : Int) := by omega
          have hz' : nameOk s = true := by rw [hz]; exact decide_eq_true ⟨h1, h2⟩
          clear hz
          replace hz' := Lib.hid hz'
          go_wp2_with fail
          go_ret
          exact ⟨by rw [hz'.out]; rfl, rfl⟩
        · have e2 : ¬ ((s.size : Int) ≤ 16) := by omega
          have e1 : (1 : Int) ≤ (s.size : Int) := by omega
          have hz' : nameOk s = false := by rw [hz]; exact decide_eq_false (by omega)
          clear hz
          replace hz' := Lib.hid hz'
          go_wp2_with fail
          go_ret
          exact ⟨by rw [hz'.out]; rfl, rfl⟩
      · have e1 : ¬ (1 : Int) ≤ (s.size : Int) := by omega
        have hz' : nameOk s = false := by rw [hz]; exact decide_eq_false (by omega)
        clear hz
        replace hz' := Lib.hid hz'
        go_wp2_with fail
        go_ret
        exact ⟨by rw [hz'.out]; rfl, rfl⟩
theorem Wq.stored {W X Y : World} {wb B m m2 : Nat} {v v2 : Value} {e : Int} (h : Wq W wb B m v e) (hb : Below W.heap.size W X) (hgr : X.grownBy Y v.ownBlock) (hown : OwnN Y B v2 m2) (hat : v2.ownBlock = v.ownBlock ∨ v2.ownBlock = some X.heap.size) (hm : m2 ≠ 0) (hB : B ≤ W.heap.size) (hBx : B ≤ wb) :
    Wq (Y.setCell ⟨wb, 0, none⟩ v2) wb B m2 v2 e ∧ WT B wb v v2 W (Y.setCell ⟨wb, 0, none⟩ v2) := by
  have hwl := h.lt
  have hne := h.own.ne h.blk wq_u8
  have hk : Y.heap[wb]? = some (.cells #[v, .int .i64 e] 91 (0, 0)) := (hgr.block wb (by have := hb.size; omega) (fun e => hne e.symm)).trans ((hb.block wb hwl).trans h.blk)
  refine ⟨⟨(setCell_at hk 0 _).trans rfl, hown.set_other (hown.ne hk wq_u8), fun h0 => absurd h0 hm⟩, OffV.set ?_ (.inl (by simp)) hBx, fun q hq => ?_⟩
  · refine ⟨(hb.mono hB).grown hgr (by have := hb.size; omega) (fun q hq => (h.own.lt q hq).1), fun q hq hn => ?_⟩
    refine (hgr.block q (by have := hb.size; omega) fun e => hn ?_).trans (hb.block q hq)
    rw [List.mem_cons]; right; rw [← e]; simp
  · rcases hat with e | e
    · exact .inl (by rw [← e]; exact hq)
    · rw [e] at hq
      injection hq with hq
      exact .inr (by rw [← hq]; exact hb.size)
set_option maxRecDepth 100000 in
set_option maxHeartbeats 4000000 in
theorem qname_any (wb B n : Nat) (v : Value) (e : Int) (w : World) (hw : Wq w wb B n v e) (s : ByteArray) (hs : s.size ≤ 1000000) (hn : n ≤ 10000000) (hB : B ≤ w.heap.size) (hBx : B ≤ wb) :
    Calls Tryz.prog 76 #[.pointer (some ⟨wb, 0, none⟩), .string s] w (QPost B wb (n + 16) v e (nameOk s) w) := by
  have hnm := rname_any s w hs
  have hm := fun q => qmust_any wb B n v e w hw q 143 (by decide) hB hBx
  generalize nameOk s = q at *
  replace hm := Lib.hid hm
  go_enter Tryz.func76, Tryz.ntmps76
  go_wp2_with fail
  refine hnm.mono ?_; rintro en w1 ⟨rfl, rfl⟩
  go_wp2_with fail
  refine (hm.out q).mono ?_; rintro en w2 ⟨rfl, v1, e1, hw1, h1, ht1⟩
  have hB1 := Nat.le_trans hB ht1.off.below.size
  clear hm hnm
  go_wp2_with fail
  go_loopw [4] (fun i wr => ∃ (k : Nat) (v2 : Value), k ≤ 16 ∧ i = .int .i64 k ∧ Wq wr wb B (n + k) v2 e1 ∧ WT B wb v v2 w wr) (fun i _ => 16 - (intOf i).toNat)
  case atStart => exact ⟨0, v1, Nat.zero_le _, rfl, hw1, ht1⟩
  case round =>
    obtain ⟨k, v2, hk, rfl, hW, hT⟩ := hrel
    by_cases hlt : k < 16
    · have hlt' : (k : Int) < 16 := by omega
      have hBr := Nat.le_trans hB hT.off.below.size
      have c0 := hW.c0
      obtain ⟨a2, cap2, rfl⟩ := hW.own.slice
      have hnk : n + k ≤ 10000016 := by omega
      have fin : ∀ (c : Int) (v3 : Value) (w4 : World), OwnN w4 B v3 (n + k + 1) → (wr.alloc (.cells #[.int .u8 c] 5)).grownBy w4 (Value.slice a2 (n + k) cap2).ownBlock → (v3.ownBlock = (Value.slice a2 (n + k) cap2).ownBlock ∨ v3.ownBlock = some (wr.alloc (.cells #[.int .u8 c] 5)).heap.size) →
          Wq (w4.setCell ⟨wb, 0, none⟩ v3) wb B (n + (k + 1)) v3 e1 ∧ WT B wb v v3 w (w4.setCell ⟨wb, 0, none⟩ v3) ∧ w4.frozen? ⟨wb, 0, none⟩ = false ∧ w4.cell? ⟨wb, 0, none⟩ = some (.slice a2 (n + k) cap2) := fun c v3 w4 ho hg ha => by
        have hbn := bone wr (.cells #[.int .u8 c] 5)
        obtain ⟨x1, x2⟩ := hW.stored hbn hg ho ha (by omega) hBr hBx
        have hne := hW.own.ne hW.blk wq_u8
        have hwl := hW.lt
        have hk4 : w4.heap[wb]? = some (.cells #[.slice a2 (n + k) cap2, .int .i64 e1] 91 (0, 0)) := (hg.block wb (by simp; omega) (fun e => hne e.symm)).trans ((hbn.block wb hwl).trans hW.blk)
        exact ⟨x1, hT.trans x2, by simp [World.frozen?, hk4], by simp [World.cell?, hk4]⟩
      replace fin := Lib.hid fin
      have sorry_ : True := trivial
      by_cases hks : k < s.size
      · have hks' : (k : Int) < (s.size : Int) := by omega
        go_wp2_with (at_builtin; refine OwnN.app rfl _ _ rfl B _ _ (n + k) _ rfl rfl (hW.own.below (bone _ _)) (RowV.lit _ _ _) (by simp) (by intro y hy; simp at hy; subst hy; rfl) (by simp; omega) (by simp; omega) ?_; intro v3 w4 hown4 hgr hat; obtain ⟨x1, x2, x3, x4⟩ := fin.out _ v3 w4 (by simpa using hown4) hgr hat; obtain ⟨a3, c3, hv3⟩ := hown4.slice; subst hv3)
        exact ⟨⟨k + 1, _, by omega, by go_num, x1, x2⟩, by simp [intOf]; omega⟩
      · have hks' : ¬ (k : Int) < (s.size : Int) := by omega
        go_wp2_with (at_builtin; refine OwnN.app rfl _ _ rfl B _ _ (n + k) _ rfl rfl (hW.own.below (bone _ _)) (RowV.lit _ _ _) (by simp) (by intro y hy; simp at hy; subst hy; rfl) (by simp; omega) (by simp; omega) ?_; intro v3 w4 hown4 hgr hat; obtain ⟨x1, x2, x3, x4⟩ := fin.out _ v3 w4 (by simpa using hown4) hgr hat; obtain ⟨a3, c3, hv3⟩ := hown4.slice; subst hv3)
        exact ⟨⟨k + 1, _, by omega, by go_num, x1, x2⟩, by simp [intOf]; omega⟩
    · obtain rfl : k = 16 := by omega
      go_wp2_with fail
      go_end0
      exact ⟨rfl, v2, e1, hW, by simpa using h1, hT⟩
end Go.Proofs.YtffdfeekpfmbeaaGreat
/- The reference's keys: Number, Height, KeyOf. -/
namespace Go.Proofs.YtffdfeekpfmbeaaGreat
open Go Go.RowKit Go.BigFrame

theorem refHeight_any (o : Int) (w : World) : Calls Tryz.prog 94 #[.int .u32 o] w fun e w' => e = .returned (.tuple #[.int .i64 (heightV o), .bool (decide (1 ≤ o ∧ o ≤ 3))]) ∧ w = w' := by
  unfold heightV
  by_cases h1 : o = 1
  · subst h1
    go_enter Tryz.func94, Tryz.ntmps94
    go_wp2
    go_ret2
    exact ⟨rfl, rfl⟩
  by_cases h2 : o = 2
  · subst h2
    go_enter Tryz.func94, Tryz.ntmps94
    go_wp2
    go_ret2
    exact ⟨rfl, rfl⟩
  by_cases h3 : o = 3
  · subst h3
    go_enter Tryz.func94, Tryz.ntmps94
    go_wp2
    go_ret2
    exact ⟨rfl, rfl⟩
  · have e : decide (1 ≤ o ∧ o ≤ 3) = false := decide_eq_false (by omega)
    rw [e, if_neg h1, if_neg h2, if_neg h3]
    have e1 : (o == 1) = false := by simpa using h1
    have e2 : (o == 2) = false := by simpa using h2
    have e3 : (o == 3) = false := by simpa using h3
    clear e h1 h2 h3
    go_enter Tryz.func94, Tryz.ntmps94
    go_wp2
    go_ret2
    exact ⟨rfl, rfl⟩
theorem or_byteR (x c : Int) (hx : 0 ≤ x) (hx' : x < 72057594037927936) (hc : 0 ≤ c) (hc' : c < 256) : bits BinOp.or IntKind.u64 (x * 256) c = c + 256 * x := by
  obtain ⟨a, rfl⟩ := Int.eq_ofNat_of_zero_le hx
  obtain ⟨b, rfl⟩ := Int.eq_ofNat_of_zero_le hc
  have e : ((a : Int) * 256) = ((a * 256 : Nat) : Int) := by omega
  have e1 := (bits_nat .u64 64 (by decide) (fun m h0 h1 => by rw [IntKind.wrap_u64]; omega) (a * 256) b (by omega) (by omega)).2
  rw [e, e1]
  have h := Nat.shiftLeft_add_eq_or_of_lt (i := 8) (b := b) (by omega) a
  rw [Nat.shiftLeft_eq] at h
  rw [← h]
  omega
theorem beV_hi : ∀ (l : List Int), (∀ c ∈ l, 0 ≤ c ∧ c < 256) → 0 ≤ beV l ∧ beV l < 256 ^ l.length := by
  intro l
  induction l using snoc_ind with
  | h0 => intro _; exact ⟨by decide, by decide⟩
  | h1 l c ih =>
    intro h
    obtain ⟨a, b⟩ := ih fun x hx => h x (by simp [hx])
    have hc := h c (by simp)
    rw [beV_snoc, List.length_append, List.length_singleton, Int.pow_succ]
    omega
set_option maxRecDepth 20000 in
set_option maxHeartbeats 2000000 in
theorem refNum4_any (b off cap : Nat) (l : List Int) (w : World) (hl : ∀ c ∈ l, 0 ≤ c ∧ c < 256) (h4 : 4 ≤ l.length) (hm : l.length ≤ 1000000) (hc : RowI w b off l) :
    Calls Tryz.prog 93 #[.slice (some ⟨b, off, none⟩) l.length cap, .int .i64 0, .int .i64 4, .bool false] w fun e w' => e = .returned (.tuple #[.int .u64 (oidV l), .bool true]) ∧ w = w' := by
  rw [← oid_be h4]
  have e1 : ¬ (4 : Int) > (l.length : Int) := by omega
  have e2 : ¬ (0 : Int) > (l.length : Int) - 4 := by omega
  go_enter Tryz.func93, Tryz.ntmps93
  go_wp2_with fail
  go_loopw [10, 11] (fun x i wr => ∃ k : Nat, k ≤ 4 ∧ i = .int .i64 k ∧ x = .int .u64 (beV (l.take k)) ∧ wr = w) (fun _ i _ => 4 - (intOf i).toNat)
  case atStart => exact ⟨0, by omega, rfl, rfl, rfl⟩
  case round =>
    obtain ⟨k, hk, rfl, rfl, rfl⟩ := hrel
    by_cases hlt : k < 4
    · have hkl : k < l.length := by omega
      have hc0 := hc k hkl
      have hcb := hl _ (List.getElem_mem hkl)
      have hsn : beV (l.take (k + 1)) = beV (l.take k) * 256 + l[k] := by rw [List.take_succ_eq_append_getElem hkl, beV_snoc]
      have hxb := beV_hi (l.take k) (fun c hc => hl c (List.mem_of_mem_take hc))
      rw [List.length_take, Nat.min_eq_left (by omega)] at hxb
      have h7 : (256 : Int) ^ k ≤ 16777216 := by
        have : k = 0 ∨ k = 1 ∨ k = 2 ∨ k = 3 := by omega
        rcases this with rfl | rfl | rfl | rfl <;> decide
      have hx0 := hxb.1
      have hx1 : beV (l.take k) < 16777216 := by omega
      have ho := or_byteR _ _ hx0 (by omega) hcb.1 hcb.2
      have hw : IntKind.u64.wrap (beV (l.take k) * 256) = beV (l.take k) * 256 := by rw [IntKind.wrap_u64]; omega
      generalize l[k] = c at *
      generalize hE : beV (l.take k) = x at *
      replace hsn := Lib.hid hsn
      replace hE := Lib.hid hE
      have hc1 := hcb.1
      have hc2 := hcb.2
      have hwc : IntKind.u64.wrap c = c := by rw [IntKind.wrap_u64]; omega
      clear hcb hxb h7
      have hkc : (k : Int) < (l.length : Int) := by omega
      go_wp2_with fail
      refine ⟨⟨k + 1, by omega, by go_num, by rw [hsn.out, Int.add_comm, Int.mul_comm], by first | rfl | trivial⟩, by simp [intOf]; omega⟩
    · obtain rfl : k = 4 := by omega
      go_wp2_with fail
      go_ret2
      exact ⟨rfl, rfl⟩
theorem rkey_res {W : World} {kb : Nat} {C : Array Value} {e : Int} {tmps : Array Value} (h : (loadVar 142 ⟨kb, 0, none⟩).run Tryz.prog W = .ok (.agg C) W) (h2 : tmps.getD 2 undef = .pointer (some ⟨kb, 0, none⟩)) (h3 : tmps.getD 3 undef = .int .i64 e) : (results Tryz.f78 tmps).run Tryz.prog W = .ok (.tuple #[.agg C, .int .i64 e]) W := by
  rw [results_cell_tmp (p := 2) (u := 3) (ty := 142) (by kernel_rfl), h2, h3]
  simp only [asAddr, Sem.run_pure, Result.andThen_ok, h]
set_option maxRecDepth 100000 in
set_option maxHeartbeats 4000000 in
theorem refKeyOf_any (b off : Nat) (l : List Int) (w : World) (hl : ∀ c ∈ l, 0 ≤ c ∧ c < 256) (h68 : l.length = 68) (hc : RowI w b off l) (hbl : b < w.heap.size) :
    Calls Tryz.prog 78 #[.slice (some ⟨b, off, none⟩) 68 68] w fun e w' => (∃ K : Array Value, K.size = 65 ∧ Ones K ∧ e = .returned (.tuple #[.agg K, .int .i64 (if keyOk l = true then 0 else 80)])) ∧ Below w.heap.size w w' := by
  have hbe := fun W h => refNum4_any b off 68 l W hl (by omega) (by omega) h
  rw [h68] at hbe
  have hhe := fun W => refHeight_any (oidV l) W
  have ho4 := beV_hi (l.take 4) (fun c hc => hl c (List.mem_of_mem_take hc))
  rw [oid_be (by omega), List.length_take, Nat.min_eq_left (by omega)] at ho4
  unfold keyOk
  generalize decide (1 ≤ oidV l ∧ oidV l ≤ 3) = q at *
  generalize heightV (oidV l) = hv at *
  generalize oidV l = o at *
  have hwo : IntKind.u32.wrap o = o := by rw [IntKind.wrap_u32]; omega
  clear ho4
  go_enter Tryz.func78, Tryz.ntmps78
  go_wp2_with (with_reducible refine wpl_alloc_x rfl _ rfl zKey_info ?_)
  have hb0 := bone w (.cells zKey 142)
  have hc0 : RowI (w.alloc (.cells zKey 142)) b off l := fun i hi => cell_lt hb0 (hc i hi) hbl
  refine (hbe _ hc0).mono ?_; rintro e w1 ⟨rfl, rfl⟩
  go_wp2_with fail
  refine (hhe _).mono ?_; rintro e w1 ⟨rfl, rfl⟩
  cases q
  case false =>
    go_wp2_with (refine wpl_store_x rfl 142 _ _ rfl (c := zKey) (c' := Tryz.zeroCells142) (by kernel_rfl) (by kernel_rfl) (by kernel_rfl) rfl rfl ?_)
    have hld := key_load (World.alloc_heap_new w (.cells Tryz.zeroCells142 142)) (by kernel_rfl)
    all_goals refine bodyPost_ret (v := .tuple #[.agg Tryz.zeroCells142, .int .i64 80]) (rkey_res hld rfl rfl) rfl ?_
    all_goals exact ⟨⟨_, by kernel_rfl, show Array.all _ _ = true by kernel_rfl, rfl⟩, bone _ _⟩
  case true =>
    obtain ⟨w4, hw4⟩ : ∃ w4, w4 = w.alloc (.cells zKey 142) := ⟨_, rfl⟩
    have hk4 : w4.heap[w.heap.size]? = some (.cells zKey 142 (0, 0)) := by rw [hw4]; exact World.alloc_heap_new w _
    rw [← hw4] at hb0 hc0 ⊢
    have hbne : w.heap.size ≠ b := by omega
    clear hw4
    obtain ⟨A1, hA1, hA1s, hA1o⟩ : ∃ A1 : Array Value, (∀ X : HeldB b w4, Sem.run Tryz.prog (loadCellsFrom ⟨b, off + 4, none⟩ 0 32 #[]) X.x = .ok A1 X.x) ∧ A1.size = 32 ∧ A1.all (·.oneCell') = true := by
      have hr := (hc0.drop 4).take 32
      have hlen : ((l.drop 4).take 32).length = 32 := by simp; omega
      refine ⟨(((l.drop 4).take 32).map (Value.int .u8)).toArray, fun X => loadX (by rw [List.length_map]; exact hlen) (fun j u hu => heapc X.h (hr.cells j u hu)), by simp; omega, all_u8 _⟩
    obtain ⟨A2, hA2, hA2s, hA2o⟩ : ∃ A2 : Array Value, (∀ X : HeldB b w4, Sem.run Tryz.prog (loadCellsFrom ⟨b, off + 36, none⟩ 0 32 #[]) X.x = .ok A2 X.x) ∧ A2.size = 32 ∧ A2.all (·.oneCell') = true := by
      have hr := (hc0.drop 36).take 32
      have hlen : ((l.drop 36).take 32).length = 32 := by simp; omega
      refine ⟨(((l.drop 36).take 32).map (Value.int .u8)).toArray, fun X => loadX (by rw [List.length_map]; exact hlen) (fun j u hu => heapc X.h (hr.cells j u hu)), by simp; omega, all_u8 _⟩
    have hsa : ∀ (a : Option Addr) (c : Nat) (w : World), (Instr.arrayAt 140 (.slice a 32 c)).run Tryz.prog w = .ok (.pointer a) w := fun a c w => run_arrayAt _ _ _ 32 a 32 c Tryz.underlying140 (Nat.le_refl _)
    go_wp2_with fail
    refine region_ord (fun z => ∃ X : HeldB b w4, z = X.x) [([0, 1, 2, 3, 4, 5, 6, 7, 8, 9, 10], 11)] [12] (by kernel_rfl) (by kernel_rfl) (by kernel_rfl) (by kernel_rfl) ⟨⟨w4.drew, rfl⟩, rfl⟩ ?_
    simp only [List.map_cons, List.map_nil, List.filterMap_cons, List.filterMap_nil, List.getElem?_cons_succ, List.getElem?_cons_zero]
    refine ord_step ?_
    repeat (change wpQuiet _ _ _ _ (List.cons _ _) _; go_big_quiet_step (fail))
    have hnode : (Tryz.prog.info? 140).map (·.size) = some 32 := by kernel_rfl
    have hld : ∀ (o' : Nat) (A : Array Value) (X : World), Sem.run Tryz.prog (loadCellsFrom ⟨b, o', none⟩ 0 32 #[]) X = .ok A X → (Instr.loadAt 140 (.pointer (some ⟨b, o', none⟩))).run Tryz.prog X = .ok (.agg A) X := fun o' A X h => by
      cases hq : Tryz.prog.info? 140 with
      | none => simp [hq] at hnode
      | some i =>
        have hs : i.size = 32 := by simpa [hq] using hnode
        have hagg : (isAgg 140).run Tryz.prog X = .ok true X := by
          unfold isAgg
          rw [Sem.run_bind, run_underlying Tryz.underlying140 X]
          simp
        have hv : (loadVar 140 ⟨b, o', none⟩).run Tryz.prog X = .ok (.agg A) X := by simp [loadVar, Sem.run_bind, hagg, sizeOf, typeInfo, hq, hs, loadCells, h]
        simp only [Instr.loadAt, Instr.sureAddr, Sem.run_bind, Sem.run_pure, Result.andThen_ok, hv]
    obtain ⟨K, hK, hKs, hKo⟩ := key_built o A1 A2 hA1s hA2s hA1o hA2o
    refine wpQuiet_load rfl _ _ rfl _ (.agg A1) rfl (fun X hX => by obtain ⟨Y, rfl⟩ := hX; exact hld _ _ _ (hA1 Y)) ?_
    simp only [Act.put, List.setIfInBounds_toArray, List.set_cons_succ, List.set_cons_zero]
    repeat (change wpQuiet _ _ _ _ (List.cons _ _) _; go_big_quiet_step (fail))
    refine wpQuiet_load rfl _ _ rfl _ (.agg A2) rfl (fun X hX => by obtain ⟨Y, rfl⟩ := hX; exact hld _ _ _ (hA2 Y)) ?_
    simp only [Act.put, List.setIfInBounds_toArray, List.set_cons_succ, List.set_cons_zero]
    refine wpQuiet_build rfl _ _ rfl #[(0, .int .u32 o), (1, .agg A1), (2, .agg A2)] (by simp [Act.eval]) (.agg K) (fun X => run_build X _ _ K hK) ?_
    simp only [Act.put, List.setIfInBounds_toArray, List.set_cons_succ, List.set_cons_zero]
    refine wpQuiet_nil ?_
    intro Q₁ hQ₁
    simp only [Option.toList]
    have hkd : w4.drew.heap[w.heap.size]? = some (.cells zKey 142 (0, 0)) := hk4
    refine wpl_store_row rfl 142 _ _ rfl hkd (by rw [hKs]; kernel_rfl) (by rw [hKs]; kernel_rfl) hKo rfl rfl ?_
    refine hQ₁ _ _ ⟨⟨_, setRow_other w4.drew w.heap.size b K (by omega)⟩, rfl⟩ ?_
    clear hQ₁ Q₁
    refine ord_last ?_
    simp only [Act.put]
    repeat (change wpQuiet _ _ _ _ (List.cons _ _) _; go_big_quiet_step (fail))
    refine wpQuiet_nil ?_
    go_wp2_with fail
    have hld := key_load (setRow_heap w4.drew w.heap.size _ K _ _ hkd) hKs
    refine bodyPost_ret (v := .tuple #[.agg K, .int .i64 0]) (rkey_res hld rfl rfl) rfl ?_
    exact ⟨⟨K, hKs, hKo, rfl⟩, below_setRow hb0.drew (Nat.le_refl _) _⟩
end Go.Proofs.YtffdfeekpfmbeaaGreat
/- The reference's writer: a guest. -/
namespace Go.Proofs.YtffdfeekpfmbeaaGreat
open Go Go.RowKit Go.BigFrame

/-- Where the writing of a guest stands. -/
structure GQ (w0 W : World) (wb gb n : Nat) (C : Array Value) (v : Value) (e : Int) : Prop where
  wq : Wq W wb w0.heap.size n v e
  bl : Below w0.heap.size w0 W
  box : W.heap[gb]? = some (.cells C 50 (0, 0))
  own : v.ownBlock ≠ some gb
  ne : gb ≠ wb
section
variable {w0 W W' : World} {wb gb n m : Nat} {C : Array Value} {v v' : Value} {e : Int} {q : Bool}
theorem GQ.then (h : GQ w0 W wb gb n C v e) (hb : Below W.heap.size W W') : GQ w0 W' wb gb n C v e :=
  ⟨h.wq.below hb, h.bl.trans (hb.mono h.bl.size), (hb.block _ (Array.getElem?_eq_some_iff.1 h.box).1).trans h.box, h.own, h.ne⟩
theorem GQ.next (h : GQ w0 W wb gb n C v e) {en : Ending} (hq : QPost w0.heap.size wb m v e q W en W') : en = .returned (.tuple #[]) ∧ ∃ v' e', GQ w0 W' wb gb m C v' e' ∧ (e' = 0 ↔ e = 0 ∧ q = true) ∧ WT w0.heap.size wb v v' W W' := by
  obtain ⟨h0, v', e', hw, hi, ht⟩ := hq
  have hk := ht.keep (Array.getElem?_eq_some_iff.1 h.box).1 h.ne h.own
  exact ⟨h0, v', e', ⟨hw, h.bl.trans ht.off.below, hk.1.trans h.box, hk.2, h.ne⟩, hi, ht⟩
theorem GQ.cell (h : GQ w0 W wb gb n C v e) {j : Nat} {u : Value} (hu : C[j]? = some u) : W.cell? ⟨gb, j, none⟩ = some u := by
  simp only [World.cell?]
  rw [show W.heap[gb]? = _ from h.box]
  simpa using hu
theorem GQ.lt (h : GQ w0 W wb gb n C v e) : gb < W.heap.size := (Array.getElem?_eq_some_iff.1 h.box).1
theorem GQ.le (h : GQ w0 W wb gb n C v e) : w0.heap.size ≤ W.heap.size := h.bl.size
end
def GPq (w0 w : World) (wb n0 : Nat) (v0 : Value) (e0 : Int) (t : GuestV) (en : Ending) (w' : World) : Prop :=
  en = .returned (.tuple #[]) ∧ ∃ v' e' m, m ≤ n0 + 1600 ∧ Wq w' wb w0.heap.size m v' e' ∧ (e' = 0 ↔ e0 = 0 ∧ gOk t = true) ∧ WT w0.heap.size wb v0 v' w w'
theorem gpq {w0 w W : World} {wb n0 m gb : Nat} {C : Array Value} {v0 v : Value} {e0 e : Int} {t : GuestV} (h : GQ w0 W wb gb m C v e) (hT : WT w0.heap.size wb v0 v w W) (hm : m ≤ n0 + 1600) (hi : e = 0 ↔ e0 = 0 ∧ gOk t = true) : GPq w0 w wb n0 v0 e0 t (.returned (.tuple #[])) W := ⟨rfl, v, e, m, hm, h.wq, hi, hT⟩
theorem all_exit {α : Type} {l : List α} {f : α → Bool} {k : Nat} {e e' : Int} (hi : e' = 0 ↔ e = 0 ∧ (l.take k).all f = true) (h : e' ≠ 0 ∨ k = l.length) : e' = 0 ↔ e = 0 ∧ l.all f = true := by
  rcases h with h | rfl
  · refine ⟨fun h0 => absurd h0 h, fun ⟨h0, ha⟩ => absurd (hi.2 ⟨h0, ?_⟩) h⟩
    rw [List.all_eq_true] at ha ⊢
    exact fun x hx => ha x (List.mem_of_mem_take hx)
  · rwa [List.take_length] at hi
theorem all_next {α : Type} [Inhabited α] {l : List α} {f : α → Bool} {k : Nat} {e e' e'' : Int} {q : Bool} (hk : k < l.length) (hi : e' = 0 ↔ e = 0 ∧ (l.take k).all f = true) (hj : e'' = 0 ↔ e' = 0 ∧ q = true) (hq : q = f l[k]) : e'' = 0 ↔ e = 0 ∧ (l.take (k + 1)).all f = true := by
  rw [hj, hi, ← all_take' hk f, Bool.and_eq_true, hq, and_assoc]
def okW (x : WinV) : Bool := decide (0 ≤ x.perm ∧ x.perm ≤ 7)
def okI (x : IrqV) : Bool := decide (0 ≤ x.num ∧ x.num ≤ 65535) && decide (0 ≤ x.cpu ∧ x.cpu ≤ 65535)
theorem gOk_parts (t : GuestV) : gOk t = (nameOk t.name && (keyOk t.key && (cntOk t && (t.win.all okW && t.irq.all okI)))) := rfl
theorem cnt_bd {t : GuestV} (h : cntOk t = true) : t.win.length ≤ 16 ∧ t.dev.length ≤ 16 ∧ t.irq.length ≤ 64 ∧ t.str.length ≤ 32 := by
  simp only [cntOk, Bool.and_eq_true, decide_eq_true_eq] at h
  omega
set_option maxRecDepth 100000 in
set_option maxHeartbeats 8000000 in
theorem rg16 (u1 u2 u4 u5 u6 u7 u8 u9 u10 u11 u12 u13 u14 u15 u16 u17 u18 u19 u20 u21 u22 u23 u24 u25 u26 u27 u28 u29 u30 u31 u32 u33 u34 u35 u36 u37 u38 u39 u40 u41 u42 u43 u44 u45 u46 u47 u48 u49 u50 u51 u52 u53 u54 u55 u56 u57 u58 u59 u60 u61 u62 u63 u64 u65 u66 u67 u68 u69 u70 u71 u72 u73 u74 u75 u76 u77 u78 u79 u80 u81 u82 u83 u84 u85 u86 u87 u88 u89 u90 u91 u92 u93 u94 u95 u96 u97 u98 u99 u100 u101 u102 u103 u104 u105 u106 u107 u108 u109 u110 u111 u112 u113 u114 u115 u116 u117 u118 u119 u120 u121 u122 u123 u124 u125 u126 u127 u128 u129 u130 u131 u132 u133 u134 u135 u136 u137 u138 u139 u140 u141 u142 u143 u144 u145 u146 u147 u148 u149 u150 u151 u152 u153 u154 u155 u156 u157 u158 u159 u160 u161 u162 u163 u164 u165 u166 u167 u168 u169 u170 u171 u172 u173 u174 u175 u176 u177 u178 u179 u180 u181 u182 u183 u184 u185 u186 u187 u188 u189 u190 u191 u192 u193 u194 u195 u196 u197 u198 u199 u200 u201 u202 u203 u204 u205 u206 u207 u208 u209 u210 u211 u212 u213 u214 u215 u216 u217 u218 u219 u220 u221 u222 u223 u224 u225 u226 u227 u228 u229 u230 u231 u232 u233 u234 u235 u236 u237 u238 u239 u240 u241 u242 u243 u244 u245 u246 u247 u248 u249 : Value) {w0 w W : World} {wb gb n n0 : Nat} {C : Array Value} {v v0 : Value} {e e0 : Int} {t : GuestV} {cs : List Value}
    (h : GQ w0 W wb gb n C v e) (hT : WT w0.heap.size wb v0 v w W) (hn : n ≤ n0 + 1468) (hn0 : n0 ≤ 1000000) (hg : GuestR w0 cs t) (hC : C = cs.toArray) (hl : cs.length = 79) (hBx : w0.heap.size ≤ wb) (hne : gb ≠ wb) (hcn : e = 0 → cntOk t = true) (hst : t.str.length ≤ 100000)
    (hq : e = 0 ↔ e0 = 0 ∧ gOk t = true) :
    (tailC 16 (Tryz.f34.body.getD .skip)).wp Tryz.prog (bodyPost Tryz.prog Tryz.f34 (GPq w0 w wb n0 v0 e0 t)) ⟨List.toArray (.pointer (some ⟨wb, 0, none⟩) :: u1 :: u2 :: .pointer (some ⟨gb, 0, none⟩) :: u4 :: u5 :: u6 :: u7 :: u8 :: u9 :: u10 :: u11 :: u12 :: u13 :: u14 :: u15 :: u16 :: u17 :: u18 :: u19 :: u20 :: u21 :: u22 :: u23 :: u24 :: u25 :: u26 :: u27 :: u28 :: u29 :: u30 :: u31 :: u32 :: u33 :: u34 :: u35 :: u36 :: u37 :: u38 :: u39 :: u40 :: u41 :: u42 :: u43 :: u44 :: u45 :: u46 :: u47 :: u48 :: u49 :: u50 :: u51 :: u52 :: u53 :: u54 :: u55 :: u56 :: u57 :: u58 :: u59 :: u60 :: u61 :: u62 :: u63 :: u64 :: u65 :: u66 :: u67 :: u68 :: u69 :: u70 :: u71 :: u72 :: u73 :: u74 :: u75 :: u76 :: u77 :: u78 :: u79 :: u80 :: u81 :: u82 :: u83 :: u84 :: u85 :: u86 :: u87 :: u88 :: u89 :: u90 :: u91 :: u92 :: u93 :: u94 :: u95 :: u96 :: u97 :: u98 :: u99 :: u100 :: u101 :: u102 :: u103 :: u104 :: u105 :: u106 :: u107 :: u108 :: u109 :: u110 :: u111 :: u112 :: u113 :: u114 :: u115 :: u116 :: u117 :: u118 :: u119 :: u120 :: u121 :: u122 :: u123 :: u124 :: u125 :: u126 :: u127 :: u128 :: u129 :: u130 :: u131 :: u132 :: u133 :: u134 :: u135 :: u136 :: u137 :: u138 :: u139 :: u140 :: u141 :: u142 :: u143 :: u144 :: u145 :: u146 :: u147 :: u148 :: u149 :: u150 :: u151 :: u152 :: u153 :: u154 :: u155 :: u156 :: u157 :: u158 :: u159 :: u160 :: u161 :: u162 :: u163 :: u164 :: u165 :: u166 :: u167 :: u168 :: u169 :: u170 :: u171 :: u172 :: u173 :: u174 :: u175 :: u176 :: u177 :: u178 :: u179 :: u180 :: u181 :: u182 :: u183 :: u184 :: u185 :: u186 :: u187 :: u188 :: u189 :: u190 :: u191 :: u192 :: u193 :: u194 :: u195 :: u196 :: u197 :: u198 :: u199 :: u200 :: u201 :: u202 :: u203 :: u204 :: u205 :: u206 :: u207 :: u208 :: u209 :: u210 :: u211 :: u212 :: u213 :: u214 :: u215 :: u216 :: u217 :: u218 :: u219 :: u220 :: u221 :: u222 :: u223 :: u224 :: u225 :: u226 :: u227 :: u228 :: u229 :: u230 :: u231 :: u232 :: u233 :: u234 :: u235 :: u236 :: u237 :: u238 :: u239 :: u240 :: u241 :: u242 :: u243 :: u244 :: u245 :: u246 :: u247 :: u248 :: u249 :: []), []⟩ W := by
  obtain ⟨av, cap, ec, hcd⟩ := str_cell hg
  have d := h.cell (j := 78) (by rw [hC]; simpa using ec)
  have hB := h.le
  replace hq := Lib.hid hq
  replace hcn := Lib.hid hcn
  replace hC := Lib.hid hC
  conv => arg 2; whnf
  go_wp2_with fail
  go_loopw [12] (fun i wr => ∃ (k : Nat) (v1 : Value) (e1 : Int) (m : Nat), k ≤ t.str.length ∧ i = .int .i64 k ∧ m ≤ n + 4 * k ∧ (k = 0 ∨ k ≤ 32) ∧ GQ w0 wr wb gb m C v1 e1 ∧ (e1 = 0 ↔ e = 0 ∧ true = true) ∧ WT w0.heap.size wb v0 v1 w wr) (fun i _ => t.str.length - (intOf i).toNat)
  case atStart => exact ⟨0, v, e, n, Nat.zero_le _, rfl, by omega, .inl rfl, h, by simp, hT⟩
  case round =>
    obtain ⟨k, v1, e1, m, hk, rfl, hm, hk32, hI, hie, hT1⟩ := hrel
    have d := hI.cell (j := 78) (by rw [hC.out]; simpa using ec)
    have c1 := hI.wq.c1
    have fin : (e1 ≠ 0 ∨ k = t.str.length) → (e1 = 0 ↔ e0 = 0 ∧ gOk t = true) := fun _ => by rw [hie, hq.out]; simp
    by_cases hlt : k < t.str.length
    · have hlt' : (k : Int) < (t.str.length : Int) := by omega
      by_cases he : e1 = 0
      · have he' : (e1 == 0) = true := by simpa using he
        have he0 : e = 0 := (hie.1 he).1
        have hcb := cnt_bd (hcn.out he0)
        obtain ⟨b2, o2, rfl, hb2, hcell⟩ := hcd (by rintro e; simp [e] at hlt)
        obtain ⟨hce, hux⟩ := hcell k hlt
        have p0 := cell_lt hI.bl hce hb2
        have hx : W64 t.str[k] := ⟨hux.1, by have := hux.2; omega⟩
        have hwx : IntKind.u64.wrap t.str[k] = t.str[k] := by have := hux.1; have := hux.2; rw [IntKind.wrap_u64]; omega
        generalize t.str[k] = x at *
        have hput := qput_any wb w0.heap.size m v1 e1 wr hI.wq x 4 hx (by omega) ⟨by decide, by decide⟩ hI.le hBx
        replace hie := Lib.hid hie
        replace he := Lib.hid he
        replace he0 := Lib.hid he0
        clear fin hux hx
        go_wp2_with fail
        refine hput.mono ?_; rintro en w3 hqq
        obtain ⟨rfl, v2, e2, h2, i2, t2⟩ := hI.next hqq
        clear hput hqq
        replace i2 := Lib.hid i2
        go_wp2_with fail
        go_roundw
        case rel => exact ⟨k + 1, v2, e2, m + 4, hlt, by go_num, by omega, .inr (by omega), h2, by have := i2.out; have := hie.out; simp_all, hT1.trans t2⟩
        case measure => simp [intOf]; omega
      · have he' : (e1 == 0) = false := by simpa using he
        have hf := fin (.inl he)
        replace hf := Lib.hid hf
        clear fin
        replace hie := Lib.hid hie
        go_wp2_with fail
        go_end0
        exact gpq hI hT1 (by omega) hf.out
    · obtain rfl : k = t.str.length := by omega
      have hf := fin (.inr rfl)
      replace hf := Lib.hid hf
      clear fin
      replace hie := Lib.hid hie
      go_wp2_with fail
      go_end0
      exact gpq hI hT1 (by omega) hf.out
theorem irq_i64 {w0 : World} {cs : List Value} {t : GuestV} (h : GuestR w0 cs t) : ∀ i (hi : i < t.irq.length), I64 t.irq[i].num ∧ I64 t.irq[i].cpu := by
  obtain ⟨v, e, a, c, rfl, _, _, h3⟩ := h.irq
  intro i hi
  obtain ⟨b, off, _, _, hc⟩ := h3 (by rintro e; simp [e] at hi)
  obtain ⟨cs', ⟨_, hu⟩, _, _⟩ := hc i hi
  exact hu
set_option maxRecDepth 100000 in
set_option maxHeartbeats 8000000 in
theorem rg15 (u1 u2 u4 u5 u6 u7 u8 u9 u10 u11 u12 u13 u14 u15 u16 u17 u18 u19 u20 u21 u22 u23 u24 u25 u26 u27 u28 u29 u30 u31 u32 u33 u34 u35 u36 u37 u38 u39 u40 u41 u42 u43 u44 u45 u46 u47 u48 u49 u50 u51 u52 u53 u54 u55 u56 u57 u58 u59 u60 u61 u62 u63 u64 u65 u66 u67 u68 u69 u70 u71 u72 u73 u74 u75 u76 u77 u78 u79 u80 u81 u82 u83 u84 u85 u86 u87 u88 u89 u90 u91 u92 u93 u94 u95 u96 u97 u98 u99 u100 u101 u102 u103 u104 u105 u106 u107 u108 u109 u110 u111 u112 u113 u114 u115 u116 u117 u118 u119 u120 u121 u122 u123 u124 u125 u126 u127 u128 u129 u130 u131 u132 u133 u134 u135 u136 u137 u138 u139 u140 u141 u142 u143 u144 u145 u146 u147 u148 u149 u150 u151 u152 u153 u154 u155 u156 u157 u158 u159 u160 u161 u162 u163 u164 u165 u166 u167 u168 u169 u170 u171 u172 u173 u174 u175 u176 u177 u178 u179 u180 u181 u182 u183 u184 u185 u186 u187 u188 u189 u190 u191 u192 u193 u194 u195 u196 u197 u198 u199 u200 u201 u202 u203 u204 u205 u206 u207 u208 u209 u210 u211 u212 u213 u214 u215 u216 u217 u218 u219 u220 u221 u222 u223 u224 u225 u226 u227 u228 u229 u230 u231 u232 u233 u234 u235 u236 u237 u238 u239 u240 u241 u242 u243 u244 u245 u246 u247 u248 u249 : Value) {w0 w W : World} {wb gb n n0 : Nat} {C : Array Value} {v v0 : Value} {e e0 : Int} {t : GuestV} {cs : List Value}
    (h : GQ w0 W wb gb n C v e) (hT : WT w0.heap.size wb v0 v w W) (hn : n ≤ n0 + 956) (hn0 : n0 ≤ 1000000) (hg : GuestR w0 cs t) (hC : C = cs.toArray) (hl : cs.length = 79) (hBx : w0.heap.size ≤ wb) (hne : gb ≠ wb) (hcn : e = 0 → cntOk t = true) (hst : t.str.length ≤ 100000 ∧ t.irq.length ≤ 100000 ∧ t.dev.length ≤ 100000 ∧ t.win.length ≤ 100000)
    (hq : (e = 0 ∧ t.irq.all okI = true) ↔ (e0 = 0 ∧ gOk t = true)) :
    (tailC 15 (Tryz.f34.body.getD .skip)).wp Tryz.prog (bodyPost Tryz.prog Tryz.f34 (GPq w0 w wb n0 v0 e0 t)) ⟨List.toArray (.pointer (some ⟨wb, 0, none⟩) :: u1 :: u2 :: .pointer (some ⟨gb, 0, none⟩) :: u4 :: u5 :: u6 :: u7 :: u8 :: u9 :: u10 :: u11 :: u12 :: u13 :: u14 :: u15 :: u16 :: u17 :: u18 :: u19 :: u20 :: u21 :: u22 :: u23 :: u24 :: u25 :: u26 :: u27 :: u28 :: u29 :: u30 :: u31 :: u32 :: u33 :: u34 :: u35 :: u36 :: u37 :: u38 :: u39 :: u40 :: u41 :: u42 :: u43 :: u44 :: u45 :: u46 :: u47 :: u48 :: u49 :: u50 :: u51 :: u52 :: u53 :: u54 :: u55 :: u56 :: u57 :: u58 :: u59 :: u60 :: u61 :: u62 :: u63 :: u64 :: u65 :: u66 :: u67 :: u68 :: u69 :: u70 :: u71 :: u72 :: u73 :: u74 :: u75 :: u76 :: u77 :: u78 :: u79 :: u80 :: u81 :: u82 :: u83 :: u84 :: u85 :: u86 :: u87 :: u88 :: u89 :: u90 :: u91 :: u92 :: u93 :: u94 :: u95 :: u96 :: u97 :: u98 :: u99 :: u100 :: u101 :: u102 :: u103 :: u104 :: u105 :: u106 :: u107 :: u108 :: u109 :: u110 :: u111 :: u112 :: u113 :: u114 :: u115 :: u116 :: u117 :: u118 :: u119 :: u120 :: u121 :: u122 :: u123 :: u124 :: u125 :: u126 :: u127 :: u128 :: u129 :: u130 :: u131 :: u132 :: u133 :: u134 :: u135 :: u136 :: u137 :: u138 :: u139 :: u140 :: u141 :: u142 :: u143 :: u144 :: u145 :: u146 :: u147 :: u148 :: u149 :: u150 :: u151 :: u152 :: u153 :: u154 :: u155 :: u156 :: u157 :: u158 :: u159 :: u160 :: u161 :: u162 :: u163 :: u164 :: u165 :: u166 :: u167 :: u168 :: u169 :: u170 :: u171 :: u172 :: u173 :: u174 :: u175 :: u176 :: u177 :: u178 :: u179 :: u180 :: u181 :: u182 :: u183 :: u184 :: u185 :: u186 :: u187 :: u188 :: u189 :: u190 :: u191 :: u192 :: u193 :: u194 :: u195 :: u196 :: u197 :: u198 :: u199 :: u200 :: u201 :: u202 :: u203 :: u204 :: u205 :: u206 :: u207 :: u208 :: u209 :: u210 :: u211 :: u212 :: u213 :: u214 :: u215 :: u216 :: u217 :: u218 :: u219 :: u220 :: u221 :: u222 :: u223 :: u224 :: u225 :: u226 :: u227 :: u228 :: u229 :: u230 :: u231 :: u232 :: u233 :: u234 :: u235 :: u236 :: u237 :: u238 :: u239 :: u240 :: u241 :: u242 :: u243 :: u244 :: u245 :: u246 :: u247 :: u248 :: u249 :: []), []⟩ W := by
  obtain ⟨av, cap, ec, hcd⟩ := irq_cell hg
  have hI64 := irq_i64 hg
  have d := h.cell (j := 77) (by rw [hC]; simpa using ec)
  have hB := h.le
  have hq0 := hq
  have hC0 := hC
  replace hq := Lib.hid hq
  replace hcn := Lib.hid hcn
  replace hC := Lib.hid hC
  conv => arg 2; whnf
  go_wp2_with fail
  go_loopw [11] (fun i wr => ∃ (k : Nat) (v1 : Value) (e1 : Int) (m : Nat), k ≤ t.irq.length ∧ i = .int .i64 k ∧ m ≤ n + 8 * k ∧ (k = 0 ∨ k ≤ 64) ∧ GQ w0 wr wb gb m C v1 e1 ∧ (e1 = 0 ↔ e = 0 ∧ (t.irq.take k).all okI = true) ∧ WT w0.heap.size wb v0 v1 w wr) (fun i _ => t.irq.length - (intOf i).toNat)
  case atStart => exact ⟨0, v, e, n, Nat.zero_le _, rfl, by omega, .inl rfl, h, by simp, hT⟩
  case round =>
    obtain ⟨k, v1, e1, m, hk, rfl, hm, hk32, hI, hie, hT1⟩ := hrel
    have d := hI.cell (j := 77) (by rw [hC.out]; simpa using ec)
    have c1 := hI.wq.c1
    have fin : (e1 ≠ 0 ∨ k = t.irq.length) → (e1 = 0 ↔ e0 = 0 ∧ gOk t = true) := fun hx => by
      have := all_exit hie hx
      rw [this]; exact hq.out
    have fcn : e1 = 0 → cntOk t = true := fun hx => hcn.out (hie.1 hx).1
    by_cases hlt : k < t.irq.length
    · have hlt' : (k : Int) < (t.irq.length : Int) := by omega
      by_cases he : e1 = 0
      · have he' : (e1 == 0) = true := by simpa using he
        have hcb := cnt_bd (fcn he)
        obtain ⟨b2, o2, rfl, hb2, hcell⟩ := hcd (by rintro e; simp [e] at hlt)
        obtain ⟨hce0, hce1, hce2⟩ := hcell k hlt
        have hxi := hI64 k hlt
        have hnx := fun (e'' : Int) (q : Bool) (hj : e'' = 0 ↔ e1 = 0 ∧ q = true) (hq : q = okI t.irq[k]) => all_next hlt hie hj hq
        have hok : okI t.irq[k] = (decide (0 ≤ t.irq[k].num ∧ t.irq[k].num ≤ 65535) && decide (0 ≤ t.irq[k].cpu ∧ t.irq[k].cpu ≤ 65535)) := rfl
        clear hcell fin hcd
        generalize okI t.irq[k] = qk at *
        generalize t.irq[k] = x at *
        have p0 := cell_lt hI.bl hce0 hb2
        have s1 := qsmall_any wb w0.heap.size m v1 e1 wr hI.wq x.num 65535 2 hxi.1 (by omega) ⟨by decide, by decide⟩ hI.le hBx
        replace hie := Lib.hid hie
        replace hnx := Lib.hid hnx
        replace hok := Lib.hid hok
        go_wp2_with fail
        refine (s1).mono ?_; rintro en w2 hqq
        obtain ⟨rfl, v2, e2, h2, i2, t2⟩ := hI.next hqq
        clear hqq
        replace i2 := Lib.hid i2
        have d2 := h2.cell (j := 77) (by rw [hC.out]; simpa using ec)
        have p1 := cell_lt h2.bl hce1 hb2
        have s2 := qsmall_any wb w0.heap.size _ v2 e2 w2 h2.wq x.cpu 65535 2 hxi.2 (by omega) ⟨by decide, by decide⟩ h2.le hBx
        clear s1 p0 d
        go_wp2_with fail
        refine (s2).mono ?_; rintro en w3 hqq
        obtain ⟨rfl, v3, e3, h3, i3, t3⟩ := h2.next hqq
        clear hqq
        replace i3 := Lib.hid i3
        have d3 := h3.cell (j := 77) (by rw [hC.out]; simpa using ec)
        have p2 := cell_lt h3.bl hce2 hb2
        have s3 := qtruth_any wb w0.heap.size _ v3 e3 w3 h3.wq x.edge (by omega) h3.le hBx
        clear s2 p1 d2
        go_wp2_with fail
        refine (s3).mono ?_; rintro en w4 hqq
        obtain ⟨rfl, v4, e4, h4, i4, t4⟩ := h3.next hqq
        clear hqq
        replace i4 := Lib.hid i4
        have hE : e4 = 0 ↔ e1 = 0 ∧ qk = true := by
          rw [i4.out, i3.out, i2.out, hok.out, Bool.and_eq_true]
          simp only [and_true, and_assoc]
        have hE2 := hnx.out e4 qk hE rfl
        replace hE2 := Lib.hid hE2
        clear hE s3 p2 d3
        go_wp2_with fail
        go_roundw
        case rel => exact ⟨k + 1, v4, e4, m + 2 + 2 + 4, hlt, by go_num, by omega, .inr (by omega), h4, hE2.out, hT1.trans (t2.trans (t3.trans t4))⟩
        case measure => simp [intOf]; omega
      · have he' : (e1 == 0) = false := by simpa using he
        have hf := fin (.inl he)
        clear fin
        replace hf := Lib.hid hf
        replace hie := Lib.hid hie
        replace fcn := Lib.hid fcn
        go_upto_region 999 with ((with_reducible show Code.wp _ _ (bodyPost _ _ _) _ _); exact rg16 _ _ _ _ _ _ _ _ _ _ _ _ _ _ _ _ _ _ _ _ _ _ _ _ _ _ _ _ _ _ _ _ _ _ _ _ _ _ _ _ _ _ _ _ _ _ _ _ _ _ _ _ _ _ _ _ _ _ _ _ _ _ _ _ _ _ _ _ _ _ _ _ _ _ _ _ _ _ _ _ _ _ _ _ _ _ _ _ _ _ _ _ _ _ _ _ _ _ _ _ _ _ _ _ _ _ _ _ _ _ _ _ _ _ _ _ _ _ _ _ _ _ _ _ _ _ _ _ _ _ _ _ _ _ _ _ _ _ _ _ _ _ _ _ _ _ _ _ _ _ _ _ _ _ _ _ _ _ _ _ _ _ _ _ _ _ _ _ _ _ _ _ _ _ _ _ _ _ _ _ _ _ _ _ _ _ _ _ _ _ _ _ _ _ _ _ _ _ _ _ _ _ _ _ _ _ _ _ _ _ _ _ _ _ _ _ _ _ _ _ _ _ _ _ _ _ _ _ _ _ _ _ _ _ _ _ _ _ _ _ _ _ _ _ _ _ _ _ hI hT1 (by omega) hn0 hg hC0 hl hBx hne fcn.out hst.1 hf.out)
    · obtain rfl : k = t.irq.length := by omega
      have hf := fin (.inr rfl)
      clear fin
      replace hf := Lib.hid hf
      replace hie := Lib.hid hie
      replace fcn := Lib.hid fcn
      go_upto_region 999 with ((with_reducible show Code.wp _ _ (bodyPost _ _ _) _ _); exact rg16 _ _ _ _ _ _ _ _ _ _ _ _ _ _ _ _ _ _ _ _ _ _ _ _ _ _ _ _ _ _ _ _ _ _ _ _ _ _ _ _ _ _ _ _ _ _ _ _ _ _ _ _ _ _ _ _ _ _ _ _ _ _ _ _ _ _ _ _ _ _ _ _ _ _ _ _ _ _ _ _ _ _ _ _ _ _ _ _ _ _ _ _ _ _ _ _ _ _ _ _ _ _ _ _ _ _ _ _ _ _ _ _ _ _ _ _ _ _ _ _ _ _ _ _ _ _ _ _ _ _ _ _ _ _ _ _ _ _ _ _ _ _ _ _ _ _ _ _ _ _ _ _ _ _ _ _ _ _ _ _ _ _ _ _ _ _ _ _ _ _ _ _ _ _ _ _ _ _ _ _ _ _ _ _ _ _ _ _ _ _ _ _ _ _ _ _ _ _ _ _ _ _ _ _ _ _ _ _ _ _ _ _ _ _ _ _ _ _ _ _ _ _ _ _ _ _ _ _ _ _ _ _ _ _ _ _ _ _ _ _ _ _ _ _ _ _ _ _ hI hT1 (by omega) hn0 hg hC0 hl hBx hne fcn.out hst.1 hf.out)
set_option maxRecDepth 100000 in
set_option maxHeartbeats 8000000 in
theorem rg14 (u1 u2 u4 u5 u6 u7 u8 u9 u10 u11 u12 u13 u14 u15 u16 u17 u18 u19 u20 u21 u22 u23 u24 u25 u26 u27 u28 u29 u30 u31 u32 u33 u34 u35 u36 u37 u38 u39 u40 u41 u42 u43 u44 u45 u46 u47 u48 u49 u50 u51 u52 u53 u54 u55 u56 u57 u58 u59 u60 u61 u62 u63 u64 u65 u66 u67 u68 u69 u70 u71 u72 u73 u74 u75 u76 u77 u78 u79 u80 u81 u82 u83 u84 u85 u86 u87 u88 u89 u90 u91 u92 u93 u94 u95 u96 u97 u98 u99 u100 u101 u102 u103 u104 u105 u106 u107 u108 u109 u110 u111 u112 u113 u114 u115 u116 u117 u118 u119 u120 u121 u122 u123 u124 u125 u126 u127 u128 u129 u130 u131 u132 u133 u134 u135 u136 u137 u138 u139 u140 u141 u142 u143 u144 u145 u146 u147 u148 u149 u150 u151 u152 u153 u154 u155 u156 u157 u158 u159 u160 u161 u162 u163 u164 u165 u166 u167 u168 u169 u170 u171 u172 u173 u174 u175 u176 u177 u178 u179 u180 u181 u182 u183 u184 u185 u186 u187 u188 u189 u190 u191 u192 u193 u194 u195 u196 u197 u198 u199 u200 u201 u202 u203 u204 u205 u206 u207 u208 u209 u210 u211 u212 u213 u214 u215 u216 u217 u218 u219 u220 u221 u222 u223 u224 u225 u226 u227 u228 u229 u230 u231 u232 u233 u234 u235 u236 u237 u238 u239 u240 u241 u242 u243 u244 u245 u246 u247 u248 u249 : Value) {w0 w W : World} {wb gb n n0 : Nat} {C : Array Value} {v v0 : Value} {e e0 : Int} {t : GuestV} {cs : List Value}
    (h : GQ w0 W wb gb n C v e) (hT : WT w0.heap.size wb v0 v w W) (hn : n ≤ n0 + 572) (hn0 : n0 ≤ 1000000) (hg : GuestR w0 cs t) (hC : C = cs.toArray) (hl : cs.length = 79) (hBx : w0.heap.size ≤ wb) (hne : gb ≠ wb) (hcn : e = 0 → cntOk t = true) (hst : t.str.length ≤ 100000 ∧ t.irq.length ≤ 100000 ∧ t.dev.length ≤ 100000 ∧ t.win.length ≤ 100000)
    (hq : (e = 0 ∧ t.irq.all okI = true) ↔ (e0 = 0 ∧ gOk t = true)) :
    (tailC 14 (Tryz.f34.body.getD .skip)).wp Tryz.prog (bodyPost Tryz.prog Tryz.f34 (GPq w0 w wb n0 v0 e0 t)) ⟨List.toArray (.pointer (some ⟨wb, 0, none⟩) :: u1 :: u2 :: .pointer (some ⟨gb, 0, none⟩) :: u4 :: u5 :: u6 :: u7 :: u8 :: u9 :: u10 :: u11 :: u12 :: u13 :: u14 :: u15 :: u16 :: u17 :: u18 :: u19 :: u20 :: u21 :: u22 :: u23 :: u24 :: u25 :: u26 :: u27 :: u28 :: u29 :: u30 :: u31 :: u32 :: u33 :: u34 :: u35 :: u36 :: u37 :: u38 :: u39 :: u40 :: u41 :: u42 :: u43 :: u44 :: u45 :: u46 :: u47 :: u48 :: u49 :: u50 :: u51 :: u52 :: u53 :: u54 :: u55 :: u56 :: u57 :: u58 :: u59 :: u60 :: u61 :: u62 :: u63 :: u64 :: u65 :: u66 :: u67 :: u68 :: u69 :: u70 :: u71 :: u72 :: u73 :: u74 :: u75 :: u76 :: u77 :: u78 :: u79 :: u80 :: u81 :: u82 :: u83 :: u84 :: u85 :: u86 :: u87 :: u88 :: u89 :: u90 :: u91 :: u92 :: u93 :: u94 :: u95 :: u96 :: u97 :: u98 :: u99 :: u100 :: u101 :: u102 :: u103 :: u104 :: u105 :: u106 :: u107 :: u108 :: u109 :: u110 :: u111 :: u112 :: u113 :: u114 :: u115 :: u116 :: u117 :: u118 :: u119 :: u120 :: u121 :: u122 :: u123 :: u124 :: u125 :: u126 :: u127 :: u128 :: u129 :: u130 :: u131 :: u132 :: u133 :: u134 :: u135 :: u136 :: u137 :: u138 :: u139 :: u140 :: u141 :: u142 :: u143 :: u144 :: u145 :: u146 :: u147 :: u148 :: u149 :: u150 :: u151 :: u152 :: u153 :: u154 :: u155 :: u156 :: u157 :: u158 :: u159 :: u160 :: u161 :: u162 :: u163 :: u164 :: u165 :: u166 :: u167 :: u168 :: u169 :: u170 :: u171 :: u172 :: u173 :: u174 :: u175 :: u176 :: u177 :: u178 :: u179 :: u180 :: u181 :: u182 :: u183 :: u184 :: u185 :: u186 :: u187 :: u188 :: u189 :: u190 :: u191 :: u192 :: u193 :: u194 :: u195 :: u196 :: u197 :: u198 :: u199 :: u200 :: u201 :: u202 :: u203 :: u204 :: u205 :: u206 :: u207 :: u208 :: u209 :: u210 :: u211 :: u212 :: u213 :: u214 :: u215 :: u216 :: u217 :: u218 :: u219 :: u220 :: u221 :: u222 :: u223 :: u224 :: u225 :: u226 :: u227 :: u228 :: u229 :: u230 :: u231 :: u232 :: u233 :: u234 :: u235 :: u236 :: u237 :: u238 :: u239 :: u240 :: u241 :: u242 :: u243 :: u244 :: u245 :: u246 :: u247 :: u248 :: u249 :: []), []⟩ W := by
  obtain ⟨vdd, ec, ad, cap, rfl, hd3, hd4, hcd⟩ := hg.dev
  have d := h.cell (j := 76) (by rw [hC]; simpa using ec)
  have hB := h.le
  have hq0 := hq
  have hC0 := hC
  replace hq := Lib.hid hq
  replace hcn := Lib.hid hcn
  replace hC := Lib.hid hC
  conv => arg 2; whnf
  go_wp2_with fail
  go_loopw [10] (fun i wr => ∃ (k : Nat) (v1 : Value) (e1 : Int) (m : Nat), k ≤ t.dev.length ∧ i = .int .i64 k ∧ m ≤ n + 24 * k ∧ (k = 0 ∨ k ≤ 16) ∧ GQ w0 wr wb gb m C v1 e1 ∧ (e1 = 0 ↔ e = 0 ∧ (t.dev.take k).all (fun _ => true) = true) ∧ WT w0.heap.size wb v0 v1 w wr) (fun i _ => t.dev.length - (intOf i).toNat)
  case atStart => exact ⟨0, v, e, n, Nat.zero_le _, rfl, by omega, .inl rfl, h, by simp, hT⟩
  case round =>
    obtain ⟨k, v1, e1, m, hk, rfl, hm, hk32, hI, hie, hT1⟩ := hrel
    have d := hI.cell (j := 76) (by rw [hC.out]; simpa using ec)
    have c1 := hI.wq.c1
    have fin : (e1 ≠ 0 ∨ k = t.dev.length) → (e1 = 0 ↔ e = 0) := fun hx => by
      have := all_exit hie hx
      rw [this]; simp
    have fcn : e1 = 0 → cntOk t = true := fun hx => hcn.out (hie.1 hx).1
    by_cases hlt : k < t.dev.length
    · have hlt' : (k : Int) < (t.dev.length : Int) := by omega
      by_cases he : e1 = 0
      · have he' : (e1 == 0) = true := by simpa using he
        have hcb := cnt_bd (fcn he)
        obtain ⟨b2, o2, rfl, hb2, hcell⟩ := hcd (by rintro e; simp [e] at hlt)
        obtain ⟨ds, rfl, _, hce⟩ := hcell k hlt
        have hce0 := hce 0 _ rfl
        have hce1 := hce 1 _ rfl
        have hce2 := hce 2 _ rfl
        have hnx := fun (e'' : Int) (q : Bool) (hj : e'' = 0 ↔ e1 = 0 ∧ q = true) (hq : q = true) => all_next (f := fun _ => true) hlt hie hj hq
        clear hce hcell fin hcd
        generalize t.dev[k] = x at *
        simp only [Nat.add_zero] at hce0
        have p0 := cell_lt hI.bl hce0 hb2
        have s1 := qput_any wb w0.heap.size m v1 e1 wr hI.wq x.ipa 8 x.hi (by omega) ⟨by decide, by decide⟩ hI.le hBx
        replace hie := Lib.hid hie
        replace hnx := Lib.hid hnx
        go_wp2_with fail
        refine (s1).mono ?_; rintro en w2 hqq
        obtain ⟨rfl, v2, e2, h2, i2, t2⟩ := hI.next hqq
        clear hqq
        replace i2 := Lib.hid i2
        have d2 := h2.cell (j := 76) (by rw [hC.out]; simpa using ec)
        have p1 := cell_lt h2.bl hce1 hb2
        have s2 := qput_any wb w0.heap.size _ v2 e2 w2 h2.wq x.pa 8 x.hp (by omega) ⟨by decide, by decide⟩ h2.le hBx
        clear s1 p0 d
        go_wp2_with fail
        refine (s2).mono ?_; rintro en w3 hqq
        obtain ⟨rfl, v3, e3, h3, i3, t3⟩ := h2.next hqq
        clear hqq
        replace i3 := Lib.hid i3
        have d3 := h3.cell (j := 76) (by rw [hC.out]; simpa using ec)
        have p2 := cell_lt h3.bl hce2 hb2
        have s3 := qput_any wb w0.heap.size _ v3 e3 w3 h3.wq x.sz 8 x.hs (by omega) ⟨by decide, by decide⟩ h3.le hBx
        clear s2 p1 d2
        go_wp2_with fail
        refine (s3).mono ?_; rintro en w4 hqq
        obtain ⟨rfl, v4, e4, h4, i4, t4⟩ := h3.next hqq
        clear hqq
        replace i4 := Lib.hid i4
        have hE : e4 = 0 ↔ e1 = 0 ∧ true = true := by
          rw [i4.out, i3.out, i2.out]
          simp only [and_true]
        have hE2 := hnx.out e4 true hE rfl
        replace hE2 := Lib.hid hE2
        clear hE s3 p2 d3
        go_wp2_with fail
        go_roundw
        case rel => exact ⟨k + 1, v4, e4, m + 8 + 8 + 8, hlt, by go_num, by omega, .inr (by omega), h4, hE2.out, hT1.trans (t2.trans (t3.trans t4))⟩
        case measure => simp [intOf]; omega
      · have he' : (e1 == 0) = false := by simpa using he
        have hf := fin (.inl he)
        clear fin
        replace hf := Lib.hid hf
        replace hie := Lib.hid hie
        replace fcn := Lib.hid fcn
        go_upto_region 999 with ((with_reducible show Code.wp _ _ (bodyPost _ _ _) _ _); exact rg15 _ _ _ _ _ _ _ _ _ _ _ _ _ _ _ _ _ _ _ _ _ _ _ _ _ _ _ _ _ _ _ _ _ _ _ _ _ _ _ _ _ _ _ _ _ _ _ _ _ _ _ _ _ _ _ _ _ _ _ _ _ _ _ _ _ _ _ _ _ _ _ _ _ _ _ _ _ _ _ _ _ _ _ _ _ _ _ _ _ _ _ _ _ _ _ _ _ _ _ _ _ _ _ _ _ _ _ _ _ _ _ _ _ _ _ _ _ _ _ _ _ _ _ _ _ _ _ _ _ _ _ _ _ _ _ _ _ _ _ _ _ _ _ _ _ _ _ _ _ _ _ _ _ _ _ _ _ _ _ _ _ _ _ _ _ _ _ _ _ _ _ _ _ _ _ _ _ _ _ _ _ _ _ _ _ _ _ _ _ _ _ _ _ _ _ _ _ _ _ _ _ _ _ _ _ _ _ _ _ _ _ _ _ _ _ _ _ _ _ _ _ _ _ _ _ _ _ _ _ _ _ _ _ _ _ _ _ _ _ _ _ _ _ _ _ _ _ _ hI hT1 (by omega) hn0 hg hC0 hl hBx hne fcn.out hst (by rw [hf.out]; exact hq.out))
    · obtain rfl : k = t.dev.length := by omega
      have hf := fin (.inr rfl)
      clear fin
      replace hf := Lib.hid hf
      replace hie := Lib.hid hie
      replace fcn := Lib.hid fcn
      go_upto_region 999 with ((with_reducible show Code.wp _ _ (bodyPost _ _ _) _ _); exact rg15 _ _ _ _ _ _ _ _ _ _ _ _ _ _ _ _ _ _ _ _ _ _ _ _ _ _ _ _ _ _ _ _ _ _ _ _ _ _ _ _ _ _ _ _ _ _ _ _ _ _ _ _ _ _ _ _ _ _ _ _ _ _ _ _ _ _ _ _ _ _ _ _ _ _ _ _ _ _ _ _ _ _ _ _ _ _ _ _ _ _ _ _ _ _ _ _ _ _ _ _ _ _ _ _ _ _ _ _ _ _ _ _ _ _ _ _ _ _ _ _ _ _ _ _ _ _ _ _ _ _ _ _ _ _ _ _ _ _ _ _ _ _ _ _ _ _ _ _ _ _ _ _ _ _ _ _ _ _ _ _ _ _ _ _ _ _ _ _ _ _ _ _ _ _ _ _ _ _ _ _ _ _ _ _ _ _ _ _ _ _ _ _ _ _ _ _ _ _ _ _ _ _ _ _ _ _ _ _ _ _ _ _ _ _ _ _ _ _ _ _ _ _ _ _ _ _ _ _ _ _ _ _ _ _ _ _ _ _ _ _ _ _ _ _ _ _ _ _ hI hT1 (by omega) hn0 hg hC0 hl hBx hne fcn.out hst (by rw [hf.out]; exact hq.out))
theorem WT.cell {B wb b i : Nat} {v v' u : Value} {X Y : World} (h : WT B wb v v' X Y) (hc : X.cell? ⟨b, i, none⟩ = some u) (h1 : b ≠ wb) (h2 : v.ownBlock ≠ some b) : Y.cell? ⟨b, i, none⟩ = some u := heapc (h.keep (X.block_lt_of_cell? _ hc) h1 h2).1 hc
set_option maxRecDepth 100000 in
set_option maxHeartbeats 8000000 in
theorem rg13 (u1 u2 u4 u5 u6 u7 u8 u9 u10 u11 u12 u13 u14 u15 u16 u17 u18 u19 u20 u21 u22 u23 u24 u25 u26 u27 u28 u29 u30 u31 u32 u33 u34 u35 u36 u37 u38 u39 u40 u41 u42 u43 u44 u45 u46 u47 u48 u49 u50 u51 u52 u53 u54 u55 u56 u57 u58 u59 u60 u61 u62 u63 u64 u65 u66 u67 u68 u69 u70 u71 u72 u73 u74 u75 u76 u77 u78 u79 u80 u81 u82 u83 u84 u85 u86 u87 u88 u89 u90 u91 u92 u93 u94 u95 u96 u97 u98 u99 u100 u101 u102 u103 u104 u105 u106 u107 u108 u109 u110 u111 u112 u113 u114 u115 u116 u117 u118 u119 u120 u121 u122 u123 u124 u125 u126 u127 u128 u129 u130 u131 u132 u133 u134 u135 u136 u137 u138 u139 u140 u141 u142 u143 u144 u145 u146 u147 u148 u149 u150 u151 u152 u153 u154 u155 u156 u157 u158 u159 u160 u161 u162 u163 u164 u165 u166 u167 u168 u169 u170 u171 u172 u173 u174 u175 u176 u177 u178 u179 u180 u181 u182 u183 u184 u185 u186 u187 u188 u189 u190 u191 u192 u193 u194 u195 u196 u197 u198 u199 u200 u201 u202 u203 u204 u205 u206 u207 u208 u209 u210 u211 u212 u213 u214 u215 u216 u217 u218 u219 u220 u221 u222 u223 u224 u225 u226 u227 u228 u229 u230 u231 u232 u233 u234 u235 u236 u237 u238 u239 u240 u241 u242 u243 u244 u245 u246 u247 u248 u249 : Value) {w0 w W : World} {wb gb n n0 : Nat} {C : Array Value} {v v0 : Value} {e e0 : Int} {t : GuestV} {cs : List Value}
    (h : GQ w0 W wb gb n C v e) (hT : WT w0.heap.size wb v0 v w W) (hn : n ≤ n0 + 124) (hn0 : n0 ≤ 1000000) (hg : GuestR w0 cs t) (hC : C = cs.toArray) (hl : cs.length = 79) (hBx : w0.heap.size ≤ wb) (hne : gb ≠ wb) (hcn : e = 0 → cntOk t = true) (hst : t.str.length ≤ 100000 ∧ t.irq.length ≤ 100000 ∧ t.dev.length ≤ 100000 ∧ t.win.length ≤ 100000)
    (hq : (e = 0 ∧ (t.win.all okW && t.irq.all okI) = true) ↔ (e0 = 0 ∧ gOk t = true)) :
    (tailC 13 (Tryz.f34.body.getD .skip)).wp Tryz.prog (bodyPost Tryz.prog Tryz.f34 (GPq w0 w wb n0 v0 e0 t)) ⟨List.toArray (.pointer (some ⟨wb, 0, none⟩) :: u1 :: u2 :: .pointer (some ⟨gb, 0, none⟩) :: u4 :: u5 :: u6 :: u7 :: u8 :: u9 :: u10 :: u11 :: u12 :: u13 :: u14 :: u15 :: u16 :: u17 :: u18 :: u19 :: u20 :: u21 :: u22 :: u23 :: u24 :: u25 :: u26 :: u27 :: u28 :: u29 :: u30 :: u31 :: u32 :: u33 :: u34 :: u35 :: u36 :: u37 :: u38 :: u39 :: u40 :: u41 :: u42 :: u43 :: u44 :: u45 :: u46 :: u47 :: u48 :: u49 :: u50 :: u51 :: u52 :: u53 :: u54 :: u55 :: u56 :: u57 :: u58 :: u59 :: u60 :: u61 :: u62 :: u63 :: u64 :: u65 :: u66 :: u67 :: u68 :: u69 :: u70 :: u71 :: u72 :: u73 :: u74 :: u75 :: u76 :: u77 :: u78 :: u79 :: u80 :: u81 :: u82 :: u83 :: u84 :: u85 :: u86 :: u87 :: u88 :: u89 :: u90 :: u91 :: u92 :: u93 :: u94 :: u95 :: u96 :: u97 :: u98 :: u99 :: u100 :: u101 :: u102 :: u103 :: u104 :: u105 :: u106 :: u107 :: u108 :: u109 :: u110 :: u111 :: u112 :: u113 :: u114 :: u115 :: u116 :: u117 :: u118 :: u119 :: u120 :: u121 :: u122 :: u123 :: u124 :: u125 :: u126 :: u127 :: u128 :: u129 :: u130 :: u131 :: u132 :: u133 :: u134 :: u135 :: u136 :: u137 :: u138 :: u139 :: u140 :: u141 :: u142 :: u143 :: u144 :: u145 :: u146 :: u147 :: u148 :: u149 :: u150 :: u151 :: u152 :: u153 :: u154 :: u155 :: u156 :: u157 :: u158 :: u159 :: u160 :: u161 :: u162 :: u163 :: u164 :: u165 :: u166 :: u167 :: u168 :: u169 :: u170 :: u171 :: u172 :: u173 :: u174 :: u175 :: u176 :: u177 :: u178 :: u179 :: u180 :: u181 :: u182 :: u183 :: u184 :: u185 :: u186 :: u187 :: u188 :: u189 :: u190 :: u191 :: u192 :: u193 :: u194 :: u195 :: u196 :: u197 :: u198 :: u199 :: u200 :: u201 :: u202 :: u203 :: u204 :: u205 :: u206 :: u207 :: u208 :: u209 :: u210 :: u211 :: u212 :: u213 :: u214 :: u215 :: u216 :: u217 :: u218 :: u219 :: u220 :: u221 :: u222 :: u223 :: u224 :: u225 :: u226 :: u227 :: u228 :: u229 :: u230 :: u231 :: u232 :: u233 :: u234 :: u235 :: u236 :: u237 :: u238 :: u239 :: u240 :: u241 :: u242 :: u243 :: u244 :: u245 :: u246 :: u247 :: u248 :: u249 :: []), []⟩ W := by
  obtain ⟨vdd, ec, ad, cap, rfl, hd3, hd4, hcd⟩ := hg.win
  have d := h.cell (j := 75) (by rw [hC]; simpa using ec)
  have hB := h.le
  have hq0 := hq
  have hC0 := hC
  replace hq := Lib.hid hq
  replace hcn := Lib.hid hcn
  replace hC := Lib.hid hC
  conv => arg 2; whnf
  go_wp2_with fail
  go_loopw [8] (fun i wr => ∃ (k : Nat) (v1 : Value) (e1 : Int) (m : Nat), k ≤ t.win.length ∧ i = .int .i64 k ∧ m ≤ n + 28 * k ∧ (k = 0 ∨ k ≤ 16) ∧ GQ w0 wr wb gb m C v1 e1 ∧ (e1 = 0 ↔ e = 0 ∧ (t.win.take k).all okW = true) ∧ WT w0.heap.size wb v0 v1 w wr) (fun i _ => t.win.length - (intOf i).toNat)
  case atStart => exact ⟨0, v, e, n, Nat.zero_le _, rfl, by omega, .inl rfl, h, by simp, hT⟩
  case round =>
    obtain ⟨k, v1, e1, m, hk, rfl, hm, hk32, hI, hie, hT1⟩ := hrel
    have d := hI.cell (j := 75) (by rw [hC.out]; simpa using ec)
    have c1 := hI.wq.c1
    have fin : (e1 ≠ 0 ∨ k = t.win.length) → (e1 = 0 ↔ e = 0 ∧ t.win.all okW = true) := fun hx => by
      have := all_exit hie hx
      exact this
    have fcn : e1 = 0 → cntOk t = true := fun hx => hcn.out (hie.1 hx).1
    by_cases hlt : k < t.win.length
    · have hlt' : (k : Int) < (t.win.length : Int) := by omega
      by_cases he : e1 = 0
      · have he' : (e1 == 0) = true := by simpa using he
        have hcb := cnt_bd (fcn he)
        obtain ⟨b2, o2, rfl, hb2, hcell⟩ := hcd (by rintro e; simp [e] at hlt)
        obtain ⟨ds, ⟨rfl, hpi⟩, _, hce⟩ := hcell k hlt
        have hce0 := hce 0 _ rfl
        have hce1 := hce 1 _ rfl
        have hce2 := hce 2 _ rfl
        have hce3 := hce 3 _ rfl
        have hnx := fun (e'' : Int) (q : Bool) (hj : e'' = 0 ↔ e1 = 0 ∧ q = true) (hq : q = okW t.win[k]) => all_next hlt hie hj hq
        have hok : okW t.win[k] = decide (0 ≤ t.win[k].perm ∧ t.win[k].perm ≤ 7) := rfl
        clear hce hcell fin hcd
        generalize okW t.win[k] = qk at *
        generalize t.win[k] = x at *
        simp only [Nat.add_zero] at hce0
        have p0 := cell_lt hI.bl hce0 hb2
        have p1 := cell_lt hI.bl hce1 hb2
        have p2 := cell_lt hI.bl hce2 hb2
        have p3 := cell_lt hI.bl hce3 hb2
        obtain ⟨V, hV, hVz, hVb, x0, x1, x2, x3⟩ := four_new wr (.int .u64 x.ipa) (.int .u64 x.pa) (.int .u64 x.sz) (.int .i64 x.perm) 44
        have hIV := hI.then hVb
        have nw : wr.heap.size ≠ wb := by have := hI.wq.lt; omega
        have n1 : v1.ownBlock ≠ some wr.heap.size := fun e => by have := (hI.wq.own.lt _ e).2; omega
        have s1 := qput_any wb w0.heap.size m v1 e1 V hIV.wq x.ipa 8 x.hi (by omega) ⟨by decide, by decide⟩ hIV.le hBx
        replace hie := Lib.hid hie
        replace hnx := Lib.hid hnx
        replace hok := Lib.hid hok
        replace hVz := Lib.hid hVz
        subst hV
        go_wp2_with fail
        refine (s1).mono ?_; rintro en w2 hqq
        obtain ⟨rfl, v2, e2, h2, i2, t2⟩ := hIV.next hqq
        clear hqq
        replace i2 := Lib.hid i2
        have y1 := t2.cell x1 nw n1
        have y2 := t2.cell x2 nw n1
        have y3 := t2.cell x3 nw n1
        have n2 := (t2.keep (World.block_lt_of_cell? _ _ x1) nw n1).2
        have s2 := qput_any wb w0.heap.size _ v2 e2 w2 h2.wq x.pa 8 x.hp (by omega) ⟨by decide, by decide⟩ h2.le hBx
        clear s1 p0 p1 p2 p3 x0 x1 x2 x3 d
        go_wp2_with fail
        refine (s2).mono ?_; rintro en w3 hqq
        obtain ⟨rfl, v3, e3, h3, i3, t3⟩ := h2.next hqq
        clear hqq
        replace i3 := Lib.hid i3
        have z2 := t3.cell y2 nw n2
        have z3 := t3.cell y3 nw n2
        have n3 := (t3.keep (World.block_lt_of_cell? _ _ y1) nw n2).2
        have s3 := qput_any wb w0.heap.size _ v3 e3 w3 h3.wq x.sz 8 x.hs (by omega) ⟨by decide, by decide⟩ h3.le hBx
        clear s2 y1 y2 y3
        go_wp2_with fail
        refine (s3).mono ?_; rintro en w4 hqq
        obtain ⟨rfl, v4, e4, h4, i4, t4⟩ := h3.next hqq
        clear hqq
        replace i4 := Lib.hid i4
        have u3 := t4.cell z3 nw n3
        have s4 := qsmall_any wb w0.heap.size _ v4 e4 w4 h4.wq x.perm 7 4 hpi (by omega) ⟨by decide, by decide⟩ h4.le hBx
        clear s3 z2 z3
        go_wp2_with fail
        refine (s4).mono ?_; rintro en w5 hqq
        obtain ⟨rfl, v5, e5, h5, i5, t5⟩ := h4.next hqq
        clear hqq
        replace i5 := Lib.hid i5
        have hE : e5 = 0 ↔ e1 = 0 ∧ qk = true := by
          rw [i5.out, i4.out, i3.out, i2.out, hok.out]
          simp only [and_true]
        have hE2 := hnx.out e5 qk hE rfl
        replace hE2 := Lib.hid hE2
        have hTT := hT1.trans ((WT.of_below hVb hI.le).trans (t2.trans (t3.trans (t4.trans t5))))
        clear hE s4 u3
        go_wp2_with fail
        go_roundw
        case rel => exact ⟨k + 1, v5, e5, m + 8 + 8 + 8 + 4, hlt, by go_num, by omega, .inr (by omega), h5, hE2.out, hTT⟩
        case measure => simp [intOf]; omega
      · have he' : (e1 == 0) = false := by simpa using he
        have hf := fin (.inl he)
        clear fin
        replace hf := Lib.hid hf
        replace hie := Lib.hid hie
        replace fcn := Lib.hid fcn
        go_upto_region 999 with ((with_reducible show Code.wp _ _ (bodyPost _ _ _) _ _); exact rg14 _ _ _ _ _ _ _ _ _ _ _ _ _ _ _ _ _ _ _ _ _ _ _ _ _ _ _ _ _ _ _ _ _ _ _ _ _ _ _ _ _ _ _ _ _ _ _ _ _ _ _ _ _ _ _ _ _ _ _ _ _ _ _ _ _ _ _ _ _ _ _ _ _ _ _ _ _ _ _ _ _ _ _ _ _ _ _ _ _ _ _ _ _ _ _ _ _ _ _ _ _ _ _ _ _ _ _ _ _ _ _ _ _ _ _ _ _ _ _ _ _ _ _ _ _ _ _ _ _ _ _ _ _ _ _ _ _ _ _ _ _ _ _ _ _ _ _ _ _ _ _ _ _ _ _ _ _ _ _ _ _ _ _ _ _ _ _ _ _ _ _ _ _ _ _ _ _ _ _ _ _ _ _ _ _ _ _ _ _ _ _ _ _ _ _ _ _ _ _ _ _ _ _ _ _ _ _ _ _ _ _ _ _ _ _ _ _ _ _ _ _ _ _ _ _ _ _ _ _ _ _ _ _ _ _ _ _ _ _ _ _ _ _ _ _ _ _ _ hI hT1 (by omega) hn0 hg hC0 hl hBx hne fcn.out hst (by rw [hf.out, and_assoc, ← Bool.and_eq_true]; exact hq.out))
    · obtain rfl : k = t.win.length := by omega
      have hf := fin (.inr rfl)
      clear fin
      replace hf := Lib.hid hf
      replace hie := Lib.hid hie
      replace fcn := Lib.hid fcn
      go_upto_region 999 with ((with_reducible show Code.wp _ _ (bodyPost _ _ _) _ _); exact rg14 _ _ _ _ _ _ _ _ _ _ _ _ _ _ _ _ _ _ _ _ _ _ _ _ _ _ _ _ _ _ _ _ _ _ _ _ _ _ _ _ _ _ _ _ _ _ _ _ _ _ _ _ _ _ _ _ _ _ _ _ _ _ _ _ _ _ _ _ _ _ _ _ _ _ _ _ _ _ _ _ _ _ _ _ _ _ _ _ _ _ _ _ _ _ _ _ _ _ _ _ _ _ _ _ _ _ _ _ _ _ _ _ _ _ _ _ _ _ _ _ _ _ _ _ _ _ _ _ _ _ _ _ _ _ _ _ _ _ _ _ _ _ _ _ _ _ _ _ _ _ _ _ _ _ _ _ _ _ _ _ _ _ _ _ _ _ _ _ _ _ _ _ _ _ _ _ _ _ _ _ _ _ _ _ _ _ _ _ _ _ _ _ _ _ _ _ _ _ _ _ _ _ _ _ _ _ _ _ _ _ _ _ _ _ _ _ _ _ _ _ _ _ _ _ _ _ _ _ _ _ _ _ _ _ _ _ _ _ _ _ _ _ _ _ _ _ _ _ hI hT1 (by omega) hn0 hg hC0 hl hBx hne fcn.out hst (by rw [hf.out, and_assoc, ← Bool.and_eq_true]; exact hq.out))
set_option maxRecDepth 100000 in
set_option maxHeartbeats 8000000 in
theorem rg12 (u1 u2 u4 u5 u6 u7 u8 u9 u10 u11 u12 u13 u14 u15 u16 u17 u18 u19 u20 u21 u22 u23 u24 u25 u26 u27 u28 u29 u30 u31 u32 u33 u34 u35 u36 u37 u38 u39 u40 u41 u42 u43 u44 u45 u46 u47 u48 u49 u50 u51 u52 u53 u54 u55 u56 u57 u58 u59 u60 u61 u62 u63 u64 u65 u66 u67 u68 u69 u70 u71 u72 u73 u74 u75 u76 u77 u78 u79 u80 u81 u82 u83 u84 u85 u86 u87 u88 u89 u90 u91 u92 u93 u94 u95 u96 u97 u98 u99 u100 u101 u102 u103 u104 u105 u106 u107 u108 u109 u110 u111 u112 u113 u114 u115 u116 u117 u118 u119 u120 u121 u122 u123 u124 u125 u126 u127 u128 u129 u130 u131 u132 u133 u134 u135 u136 u137 u138 u139 u140 u141 u142 u143 u144 u145 u146 u147 u148 u149 u150 u151 u152 u153 u154 u155 u156 u157 u158 u159 u160 u161 u162 u163 u164 u165 u166 u167 u168 u169 u170 u171 u172 u173 u174 u175 u176 u177 u178 u179 u180 u181 u182 u183 u184 u185 u186 u187 u188 u189 u190 u191 u192 u193 u194 u195 u196 u197 u198 u199 u200 u201 u202 u203 u204 u205 u206 u207 u208 u209 u210 u211 u212 u213 u214 u215 u216 u217 u218 u219 u220 u221 u222 u223 u224 u225 u226 u227 u228 u229 u230 u231 u232 u233 u234 u235 u236 u237 u238 u239 u240 u241 u242 u243 u244 u245 u246 u247 u248 u249 : Value) {w0 w W : World} {wb gb n n0 : Nat} {C : Array Value} {v v0 : Value} {e e0 : Int} {t : GuestV} {cs : List Value}
    (h : GQ w0 W wb gb n C v e) (hT : WT w0.heap.size wb v0 v w W) (hn : n ≤ n0 + 116) (hn0 : n0 ≤ 1000000) (hg : GuestR w0 cs t) (hC : C = cs.toArray) (hl : cs.length = 79) (hBx : w0.heap.size ≤ wb) (hne : gb ≠ wb) (hcn : e = 0 → cntOk t = true) (hst : t.str.length ≤ 100000 ∧ t.irq.length ≤ 100000 ∧ t.dev.length ≤ 100000 ∧ t.win.length ≤ 100000)
    (hq : (e = 0 ∧ (t.win.all okW && t.irq.all okI) = true) ↔ (e0 = 0 ∧ gOk t = true)) :
    (tailC 12 (Tryz.f34.body.getD .skip)).wp Tryz.prog (bodyPost Tryz.prog Tryz.f34 (GPq w0 w wb n0 v0 e0 t)) ⟨List.toArray (.pointer (some ⟨wb, 0, none⟩) :: u1 :: u2 :: .pointer (some ⟨gb, 0, none⟩) :: u4 :: u5 :: u6 :: u7 :: u8 :: u9 :: u10 :: u11 :: u12 :: u13 :: u14 :: u15 :: u16 :: u17 :: u18 :: u19 :: u20 :: u21 :: u22 :: u23 :: u24 :: u25 :: u26 :: u27 :: u28 :: u29 :: u30 :: u31 :: u32 :: u33 :: u34 :: u35 :: u36 :: u37 :: u38 :: u39 :: u40 :: u41 :: u42 :: u43 :: u44 :: u45 :: u46 :: u47 :: u48 :: u49 :: u50 :: u51 :: u52 :: u53 :: u54 :: u55 :: u56 :: u57 :: u58 :: u59 :: u60 :: u61 :: u62 :: u63 :: u64 :: u65 :: u66 :: u67 :: u68 :: u69 :: u70 :: u71 :: u72 :: u73 :: u74 :: u75 :: u76 :: u77 :: u78 :: u79 :: u80 :: u81 :: u82 :: u83 :: u84 :: u85 :: u86 :: u87 :: u88 :: u89 :: u90 :: u91 :: u92 :: u93 :: u94 :: u95 :: u96 :: u97 :: u98 :: u99 :: u100 :: u101 :: u102 :: u103 :: u104 :: u105 :: u106 :: u107 :: u108 :: u109 :: u110 :: u111 :: u112 :: u113 :: u114 :: u115 :: u116 :: u117 :: u118 :: u119 :: u120 :: u121 :: u122 :: u123 :: u124 :: u125 :: u126 :: u127 :: u128 :: u129 :: u130 :: u131 :: u132 :: u133 :: u134 :: u135 :: u136 :: u137 :: u138 :: u139 :: u140 :: u141 :: u142 :: u143 :: u144 :: u145 :: u146 :: u147 :: u148 :: u149 :: u150 :: u151 :: u152 :: u153 :: u154 :: u155 :: u156 :: u157 :: u158 :: u159 :: u160 :: u161 :: u162 :: u163 :: u164 :: u165 :: u166 :: u167 :: u168 :: u169 :: u170 :: u171 :: u172 :: u173 :: u174 :: u175 :: u176 :: u177 :: u178 :: u179 :: u180 :: u181 :: u182 :: u183 :: u184 :: u185 :: u186 :: u187 :: u188 :: u189 :: u190 :: u191 :: u192 :: u193 :: u194 :: u195 :: u196 :: u197 :: u198 :: u199 :: u200 :: u201 :: u202 :: u203 :: u204 :: u205 :: u206 :: u207 :: u208 :: u209 :: u210 :: u211 :: u212 :: u213 :: u214 :: u215 :: u216 :: u217 :: u218 :: u219 :: u220 :: u221 :: u222 :: u223 :: u224 :: u225 :: u226 :: u227 :: u228 :: u229 :: u230 :: u231 :: u232 :: u233 :: u234 :: u235 :: u236 :: u237 :: u238 :: u239 :: u240 :: u241 :: u242 :: u243 :: u244 :: u245 :: u246 :: u247 :: u248 :: u249 :: []), []⟩ W := by
  obtain ⟨vw, ew, aw, kw, rfl, _, _, _⟩ := hg.win
  obtain ⟨vd, ed, ad, kd, rfl, _, _, _⟩ := hg.dev
  obtain ⟨vi, ei, ai, ki, rfl, _, _, _⟩ := hg.irq
  obtain ⟨vs, es, a_s, ks, rfl, _, _, _⟩ := hg.str
  have d5 := h.cell (j := 75) (by rw [hC]; simpa using ew)
  have d6 := h.cell (j := 76) (by rw [hC]; simpa using ed)
  have d7 := h.cell (j := 77) (by rw [hC]; simpa using ei)
  have d8 := h.cell (j := 78) (by rw [hC]; simpa using es)
  have hB := h.le
  have hLb : ∀ x ∈ [(t.win.length : Int), (t.dev.length : Int), (t.irq.length : Int), (t.str.length : Int)], 0 ≤ x ∧ x ≤ 100000 := by
    intro x hx
    simp only [List.mem_cons, List.not_mem_nil, or_false] at hx
    rcases hx with rfl | rfl | rfl | rfl <;> omega
  obtain ⟨V, hV, hVz, hVb, x0, x1, x2, x3⟩ := four_new W (.int .i64 t.win.length) (.int .i64 t.dev.length) (.int .i64 t.irq.length) (.int .i64 t.str.length) 3
  have hcell : ∀ (k : Nat) (x : Int), [(t.win.length : Int), (t.dev.length : Int), (t.irq.length : Int), (t.str.length : Int)][k]? = some x → V.cell? ⟨W.heap.size, k, none⟩ = some (.int .i64 x) := fun k x hx => by
    have hk : k < 4 := (List.getElem?_eq_some_iff.1 hx).1
    have : k = 0 ∨ k = 1 ∨ k = 2 ∨ k = 3 := by omega
    rcases this with rfl | rfl | rfl | rfl
    · injection hx with hx; subst hx; exact x0
    · injection hx with hx; subst hx; exact x1
    · injection hx with hx; subst hx; exact x2
    · injection hx with hx; subst hx; exact x3
  have hIV := h.then hVb
  have nw : W.heap.size ≠ wb := by have := h.wq.lt; omega
  have n1 : v.ownBlock ≠ some W.heap.size := fun e => by have := (h.wq.own.lt _ e).2; omega
  have hTV := hT.trans (WT.of_below hVb h.le)
  clear x0 x1 x2 x3
  generalize hLe : [(t.win.length : Int), (t.dev.length : Int), (t.irq.length : Int), (t.str.length : Int)] = L at *
  have hL4 : L.length = 4 := by rw [← hLe]; rfl
  replace hLe := Lib.hid hLe
  replace hcell : ∀ k (hk : k < L.length), V.cell? ⟨W.heap.size, k, none⟩ = some (.int .i64 L[k]) := fun k hk => hcell k _ (List.getElem?_eq_getElem hk)
  have hq0 := hq
  have hC0 := hC
  replace hq := Lib.hid hq
  replace hcn := Lib.hid hcn
  replace hC := Lib.hid hC
  replace hL4 := Lib.hid hL4
  replace hVz := Lib.hid hVz
  conv => arg 2; whnf
  go_wp2_with fail
  rw [← hV]
  clear hV
  go_wp2_with fail
  go_loopw [108] (fun i wr => ∃ (k : Nat) (v1 : Value) (e1 : Int), k ≤ 4 ∧ i = .int .i64 k ∧ GQ w0 wr wb gb (n + 2 * k) C v1 e1 ∧ (e1 = 0 ↔ e = 0) ∧ WT w0.heap.size wb v0 v1 w wr ∧ v1.ownBlock ≠ some W.heap.size ∧ ∀ k (hk : k < L.length), wr.cell? ⟨W.heap.size, k, none⟩ = some (.int .i64 L[k])) (fun i _ => 4 - (intOf i).toNat)
  case atStart => exact ⟨0, v, e, Nat.zero_le _, rfl, hIV, Iff.rfl, hTV, n1, hcell⟩
  case round =>
    clear hcell
    obtain ⟨k, v1, e1, hk, rfl, hI, hie, hT1, hn1, hcell⟩ := hrel
    by_cases hlt : k < 4
    · have hlt' : (k : Int) < 4 := by omega
      have p0 := hcell k (by have := hL4.out; omega)
      have hxb := hLb _ (List.getElem_mem (show k < L.length by have := hL4.out; omega))
      generalize L[k]'(by have := hL4.out; omega) = x at *
      have hx0 := hxb.1
      have hx1 := hxb.2
      have hw : IntKind.u64.wrap x = x := by rw [IntKind.wrap_u64]; omega
      have s1 := qput_any wb w0.heap.size _ v1 e1 wr hI.wq x 2 ⟨hx0, by omega⟩ (by omega) ⟨by decide, by decide⟩ hI.le hBx
      replace hie := Lib.hid hie
      replace hLb := Lib.hid hLb
      replace hcell := Lib.hid hcell
      go_wp2_with fail
      refine (s1).mono ?_; rintro en w2 hqq
      obtain ⟨rfl, v2, e2, h2, i2, t2⟩ := hI.next hqq
      clear hqq
      replace i2 := Lib.hid i2
      have hcell2 : ∀ k (hk : k < L.length), w2.cell? ⟨W.heap.size, k, none⟩ = some (.int .i64 L[k]) := fun k hk => t2.cell (hcell.out k hk) nw hn1
      have hn2 := (t2.keep (World.block_lt_of_cell? _ _ p0) nw hn1).2
      replace hcell2 := Lib.hid hcell2
      clear s1 p0
      go_wp2_with fail
      go_roundw
      case rel => exact ⟨k + 1, v2, e2, hlt, by go_num, h2, by have := i2.out; have := hie.out; simp_all, hT1.trans t2, hn2, hcell2.out⟩
      case measure => simp [intOf]; omega
    · obtain rfl : k = 4 := by omega
      have fcn : e1 = 0 → cntOk t = true := fun hx => hcn.out (hie.1 hx)
      replace fcn := Lib.hid fcn
      replace hie := Lib.hid hie
      replace hLb := Lib.hid hLb
      go_upto_region 999 with ((with_reducible show Code.wp _ _ (bodyPost _ _ _) _ _); exact rg13 _ _ _ _ _ _ _ _ _ _ _ _ _ _ _ _ _ _ _ _ _ _ _ _ _ _ _ _ _ _ _ _ _ _ _ _ _ _ _ _ _ _ _ _ _ _ _ _ _ _ _ _ _ _ _ _ _ _ _ _ _ _ _ _ _ _ _ _ _ _ _ _ _ _ _ _ _ _ _ _ _ _ _ _ _ _ _ _ _ _ _ _ _ _ _ _ _ _ _ _ _ _ _ _ _ _ _ _ _ _ _ _ _ _ _ _ _ _ _ _ _ _ _ _ _ _ _ _ _ _ _ _ _ _ _ _ _ _ _ _ _ _ _ _ _ _ _ _ _ _ _ _ _ _ _ _ _ _ _ _ _ _ _ _ _ _ _ _ _ _ _ _ _ _ _ _ _ _ _ _ _ _ _ _ _ _ _ _ _ _ _ _ _ _ _ _ _ _ _ _ _ _ _ _ _ _ _ _ _ _ _ _ _ _ _ _ _ _ _ _ _ _ _ _ _ _ _ _ _ _ _ _ _ _ _ _ _ _ _ _ _ _ _ _ _ _ _ _ hI hT1 (by omega) hn0 hg hC0 hl hBx hne fcn.out hst (by rw [hie.out]; exact hq.out))
theorem qmustE (wb B n : Nat) (v : Value) (e : Int) (w : World) (hw : Wq w wb B n v e) {q q' : Bool} (hq : q' = q) (r : Int) (hr : r ≠ 0) (hB : B ≤ w.heap.size) (hBx : B ≤ wb) :
    Calls Tryz.prog 36 #[.pointer (some ⟨wb, 0, none⟩), .bool q, .int .i64 r] w (QPost B wb n v e q' w) := by
  subst hq; exact qmust_any wb B n v e w hw _ r hr hB hBx
theorem cnt_cases (t : GuestV) :
    (¬ (1 : Int) ≤ (t.win.length : Int) ∧ cntOk t = false) ∨ ((1 : Int) ≤ (t.win.length : Int) ∧ ¬ (t.win.length : Int) ≤ 16 ∧ cntOk t = false) ∨ ((1 : Int) ≤ (t.win.length : Int) ∧ (t.win.length : Int) ≤ 16 ∧ ¬ (t.dev.length : Int) ≤ 16 ∧ cntOk t = false) ∨
    ((1 : Int) ≤ (t.win.length : Int) ∧ (t.win.length : Int) ≤ 16 ∧ (t.dev.length : Int) ≤ 16 ∧ ¬ (t.irq.length : Int) ≤ 64 ∧ cntOk t = false) ∨ ((1 : Int) ≤ (t.win.length : Int) ∧ (t.win.length : Int) ≤ 16 ∧ (t.dev.length : Int) ≤ 16 ∧ (t.irq.length : Int) ≤ 64 ∧ ¬ (t.str.length : Int) ≤ 32 ∧ cntOk t = false) ∨
    ((1 : Int) ≤ (t.win.length : Int) ∧ (t.win.length : Int) ≤ 16 ∧ (t.dev.length : Int) ≤ 16 ∧ (t.irq.length : Int) ≤ 64 ∧ (t.str.length : Int) ≤ 32 ∧ cntOk t = true) := by
  by_cases h : cntOk t = true
  · rw [h]
    simp only [cntOk, Bool.and_eq_true, decide_eq_true_eq] at h
    simp
    omega
  · rw [Bool.not_eq_true] at h
    rw [h]
    simp only [cntOk, Bool.and_eq_false_iff, decide_eq_false_iff_not] at h
    simp
    omega
set_option maxRecDepth 100000 in
set_option maxHeartbeats 8000000 in
theorem rg11 (u1 u2 u4 u5 u6 u7 u8 u9 u10 u11 u12 u13 u14 u15 u16 u17 u18 u19 u20 u21 u22 u23 u24 u25 u26 u27 u28 u29 u30 u31 u32 u33 u34 u35 u36 u37 u38 u39 u40 u41 u42 u43 u44 u45 u46 u47 u48 u49 u50 u51 u52 u53 u54 u55 u56 u57 u58 u59 u60 u61 u62 u63 u64 u65 u66 u67 u68 u69 u70 u71 u72 u73 u74 u75 u76 u77 u78 u79 u80 u81 u82 u83 u84 u85 u86 u87 u88 u89 u90 u91 u92 u93 u94 u95 u96 u97 u98 u99 u100 u101 u102 u103 u104 u105 u106 u107 u108 u109 u110 u111 u112 u113 u114 u115 u116 u117 u118 u119 u120 u121 u122 u123 u124 u125 u126 u127 u128 u129 u130 u131 u132 u133 u134 u135 u136 u137 u138 u139 u140 u141 u142 u143 u144 u145 u146 u147 u148 u149 u150 u151 u152 u153 u154 u155 u156 u157 u158 u159 u160 u161 u162 u163 u164 u165 u166 u167 u168 u169 u170 u171 u172 u173 u174 u175 u176 u177 u178 u179 u180 u181 u182 u183 u184 u185 u186 u187 u188 u189 u190 u191 u192 u193 u194 u195 u196 u197 u198 u199 u200 u201 u202 u203 u204 u205 u206 u207 u208 u209 u210 u211 u212 u213 u214 u215 u216 u217 u218 u219 u220 u221 u222 u223 u224 u225 u226 u227 u228 u229 u230 u231 u232 u233 u234 u235 u236 u237 u238 u239 u240 u241 u242 u243 u244 u245 u246 u247 u248 u249 : Value) {w0 w W : World} {wb gb n n0 : Nat} {C : Array Value} {v v0 : Value} {e e0 : Int} {t : GuestV} {cs : List Value}
    (h : GQ w0 W wb gb n C v e) (hT : WT w0.heap.size wb v0 v w W) (hn : n ≤ n0 + 116) (hn0 : n0 ≤ 1000000) (hg : GuestR w0 cs t) (hC : C = cs.toArray) (hl : cs.length = 79) (hBx : w0.heap.size ≤ wb) (hne : gb ≠ wb) (hst : t.str.length ≤ 100000 ∧ t.irq.length ≤ 100000 ∧ t.dev.length ≤ 100000 ∧ t.win.length ≤ 100000)
    (hq : (e = 0 ∧ (cntOk t && (t.win.all okW && t.irq.all okI)) = true) ↔ (e0 = 0 ∧ gOk t = true)) :
    (tailC 11 (Tryz.f34.body.getD .skip)).wp Tryz.prog (bodyPost Tryz.prog Tryz.f34 (GPq w0 w wb n0 v0 e0 t)) ⟨List.toArray (.pointer (some ⟨wb, 0, none⟩) :: u1 :: u2 :: .pointer (some ⟨gb, 0, none⟩) :: u4 :: u5 :: u6 :: u7 :: u8 :: u9 :: u10 :: u11 :: u12 :: u13 :: u14 :: u15 :: u16 :: u17 :: u18 :: u19 :: u20 :: u21 :: u22 :: u23 :: u24 :: u25 :: u26 :: u27 :: u28 :: u29 :: u30 :: u31 :: u32 :: u33 :: u34 :: u35 :: u36 :: u37 :: u38 :: u39 :: u40 :: u41 :: u42 :: u43 :: u44 :: u45 :: u46 :: u47 :: u48 :: u49 :: u50 :: u51 :: u52 :: u53 :: u54 :: u55 :: u56 :: u57 :: u58 :: u59 :: u60 :: u61 :: u62 :: u63 :: u64 :: u65 :: u66 :: u67 :: u68 :: u69 :: u70 :: u71 :: u72 :: u73 :: u74 :: u75 :: u76 :: u77 :: u78 :: u79 :: u80 :: u81 :: u82 :: u83 :: u84 :: u85 :: u86 :: u87 :: u88 :: u89 :: u90 :: u91 :: u92 :: u93 :: u94 :: u95 :: u96 :: u97 :: u98 :: u99 :: u100 :: u101 :: u102 :: u103 :: u104 :: u105 :: u106 :: u107 :: u108 :: u109 :: u110 :: u111 :: u112 :: u113 :: u114 :: u115 :: u116 :: u117 :: u118 :: u119 :: u120 :: u121 :: u122 :: u123 :: u124 :: u125 :: u126 :: u127 :: u128 :: u129 :: u130 :: u131 :: u132 :: u133 :: u134 :: u135 :: u136 :: u137 :: u138 :: u139 :: u140 :: u141 :: u142 :: u143 :: u144 :: u145 :: u146 :: u147 :: u148 :: u149 :: u150 :: u151 :: u152 :: u153 :: u154 :: u155 :: u156 :: u157 :: u158 :: u159 :: u160 :: u161 :: u162 :: u163 :: u164 :: u165 :: u166 :: u167 :: u168 :: u169 :: u170 :: u171 :: u172 :: u173 :: u174 :: u175 :: u176 :: u177 :: u178 :: u179 :: u180 :: u181 :: u182 :: u183 :: u184 :: u185 :: u186 :: u187 :: u188 :: u189 :: u190 :: u191 :: u192 :: u193 :: u194 :: u195 :: u196 :: u197 :: u198 :: u199 :: u200 :: u201 :: u202 :: u203 :: u204 :: u205 :: u206 :: u207 :: u208 :: u209 :: u210 :: u211 :: u212 :: u213 :: u214 :: u215 :: u216 :: u217 :: u218 :: u219 :: u220 :: u221 :: u222 :: u223 :: u224 :: u225 :: u226 :: u227 :: u228 :: u229 :: u230 :: u231 :: u232 :: u233 :: u234 :: u235 :: u236 :: u237 :: u238 :: u239 :: u240 :: u241 :: u242 :: u243 :: u244 :: u245 :: u246 :: u247 :: u248 :: u249 :: []), []⟩ W := by
  obtain ⟨vw, ew, aw, kw, rfl, _, _, _⟩ := hg.win
  obtain ⟨vd, ed, ad, kd, rfl, _, _, _⟩ := hg.dev
  obtain ⟨vi, ei, ai, ki, rfl, _, _, _⟩ := hg.irq
  obtain ⟨vs, es, a_s, ks, rfl, _, _, _⟩ := hg.str
  have d5 := h.cell (j := 75) (by rw [hC]; simpa using ew)
  have d6 := h.cell (j := 76) (by rw [hC]; simpa using ed)
  have d7 := h.cell (j := 77) (by rw [hC]; simpa using ei)
  have d8 := h.cell (j := 78) (by rw [hC]; simpa using es)
  have hB := h.le
  have hD := cnt_cases t
  have hC0 := hC
  have hm := fun (q : Bool) (hqq : cntOk t = q) => qmustE wb w0.heap.size n v e W h.wq hqq 142 (by decide) h.le hBx
  generalize hct : cntOk t = ct at *
  replace hq := Lib.hid hq
  replace hC := Lib.hid hC
  replace hm := Lib.hid hm
  replace hct := Lib.hid hct
  rcases hD with ⟨a1, HC⟩ | ⟨a1, a2, HC⟩ | ⟨a1, a2, a3, HC⟩ | ⟨a1, a2, a3, a4, HC⟩ | ⟨a1, a2, a3, a4, a5, HC⟩ | ⟨a1, a2, a3, a4, a5, HC⟩
  all_goals
    (
      have hmm := hm.out _ HC
      replace HC := Lib.hid HC
      conv => arg 2; whnf
      go_wp2_with fail
      refine hmm.mono ?_; rintro en w2 hqq
      obtain ⟨rfl, v2, e2, h2, i2, t2⟩ := h.next hqq
      clear hqq hmm
      have fcn : e2 = 0 → cntOk t = true := fun hx => hct.out.trans ((i2.1 hx).2)
      have hqn : (e2 = 0 ∧ (t.win.all okW && t.irq.all okI) = true) ↔ (e0 = 0 ∧ gOk t = true) := by rw [i2, and_assoc, ← Bool.and_eq_true]; exact hq.out
      replace fcn := Lib.hid fcn
      replace hqn := Lib.hid hqn
      replace i2 := Lib.hid i2
      go_upto_region 999 with ((with_reducible show Code.wp _ _ (bodyPost _ _ _) _ _); exact rg12 _ _ _ _ _ _ _ _ _ _ _ _ _ _ _ _ _ _ _ _ _ _ _ _ _ _ _ _ _ _ _ _ _ _ _ _ _ _ _ _ _ _ _ _ _ _ _ _ _ _ _ _ _ _ _ _ _ _ _ _ _ _ _ _ _ _ _ _ _ _ _ _ _ _ _ _ _ _ _ _ _ _ _ _ _ _ _ _ _ _ _ _ _ _ _ _ _ _ _ _ _ _ _ _ _ _ _ _ _ _ _ _ _ _ _ _ _ _ _ _ _ _ _ _ _ _ _ _ _ _ _ _ _ _ _ _ _ _ _ _ _ _ _ _ _ _ _ _ _ _ _ _ _ _ _ _ _ _ _ _ _ _ _ _ _ _ _ _ _ _ _ _ _ _ _ _ _ _ _ _ _ _ _ _ _ _ _ _ _ _ _ _ _ _ _ _ _ _ _ _ _ _ _ _ _ _ _ _ _ _ _ _ _ _ _ _ _ _ _ _ _ _ _ _ _ _ _ _ _ _ _ _ _ _ _ _ _ _ _ _ _ _ _ _ _ _ _ _ h2 (hT.trans t2) hn hn0 hg hC0 hl hBx hne fcn.out hst hqn.out))
end Go.Proofs.YtffdfeekpfmbeaaGreat
/- The reference's writer: the whole guest. -/
namespace Go.Proofs.YtffdfeekpfmbeaaGreat
open Go Go.RowKit Go.BigFrame

theorem GQ.of {w0 W W' : World} {wb gb n m : Nat} {C : Array Value} {v v' : Value} {e e' : Int} (h : GQ w0 W wb gb n C v e) (hw : Wq W' wb w0.heap.size m v' e') (ht : WT w0.heap.size wb v v' W W') : GQ w0 W' wb gb m C v' e' := by
  have hk := ht.keep (Array.getElem?_eq_some_iff.1 h.box).1 h.ne h.own
  exact ⟨hw, h.bl.trans ht.off.below, hk.1.trans h.box, hk.2, h.ne⟩
set_option maxRecDepth 100000 in
set_option maxHeartbeats 8000000 in
theorem rg10 (u1 u2 u4 u5 u6 u7 u8 u9 u10 u11 u12 u13 u14 u15 u16 u17 u18 u19 u20 u21 u22 u23 u24 u25 u26 u27 u28 u29 u30 u31 u32 u33 u34 u35 u36 u37 u38 u39 u40 u41 u42 u43 u44 u45 u46 u47 u48 u49 u50 u51 u52 u53 u54 u55 u56 u57 u58 u59 u60 u61 u62 u63 u64 u65 u66 u67 u68 u69 u70 u71 u72 u73 u74 u75 u76 u77 u78 u79 u80 u81 u82 u83 u84 u85 u86 u87 u88 u89 u90 u91 u92 u93 u94 u95 u96 u97 u98 u99 u100 u101 u102 u103 u104 u105 u106 u107 u108 u109 u110 u111 u112 u113 u114 u115 u116 u117 u118 u119 u120 u121 u122 u123 u124 u125 u126 u127 u128 u129 u130 u131 u132 u133 u134 u135 u136 u137 u138 u139 u140 u141 u142 u143 u144 u145 u146 u147 u148 u149 u150 u151 u152 u153 u154 u155 u156 u157 u158 u159 u160 u161 u162 u163 u164 u165 u166 u167 u168 u169 u170 u171 u172 u173 u174 u175 u176 u177 u178 u179 u180 u181 u182 u183 u184 u185 u186 u187 u188 u189 u190 u191 u192 u193 u194 u195 u196 u197 u198 u199 u200 u201 u202 u203 u204 u205 u206 u207 u208 u209 u210 u211 u212 u213 u214 u215 u216 u217 u218 u219 u220 u221 u222 u223 u224 u225 u226 u227 u228 u229 u230 u231 u232 u233 u234 u235 u236 u237 u238 u239 u240 u241 u242 u243 u244 u245 u246 u247 u248 u249 : Value) {w0 w W : World} {wb gb n n0 : Nat} {C : Array Value} {v v0 : Value} {e e0 : Int} {t : GuestV} {cs : List Value}
    (h : GQ w0 W wb gb n C v e) (hT : WT w0.heap.size wb v0 v w W) (hn : n ≤ n0 + 48) (hn0 : n0 ≤ 1000000) (hg : GuestR w0 cs t) (hC : C = cs.toArray) (hl : cs.length = 79) (hBx : w0.heap.size ≤ wb) (hne : gb ≠ wb) (hst : t.str.length ≤ 100000 ∧ t.irq.length ≤ 100000 ∧ t.dev.length ≤ 100000 ∧ t.win.length ≤ 100000)
    (hq : (e = 0 ∧ (cntOk t && (t.win.all okW && t.irq.all okI)) = true) ↔ (e0 = 0 ∧ gOk t = true)) :
    (tailC 10 (Tryz.f34.body.getD .skip)).wp Tryz.prog (bodyPost Tryz.prog Tryz.f34 (GPq w0 w wb n0 v0 e0 t)) ⟨List.toArray (.pointer (some ⟨wb, 0, none⟩) :: u1 :: u2 :: .pointer (some ⟨gb, 0, none⟩) :: u4 :: u5 :: u6 :: u7 :: u8 :: u9 :: u10 :: u11 :: u12 :: u13 :: u14 :: u15 :: u16 :: u17 :: u18 :: u19 :: u20 :: u21 :: u22 :: u23 :: u24 :: u25 :: u26 :: u27 :: u28 :: u29 :: u30 :: u31 :: u32 :: u33 :: u34 :: u35 :: u36 :: u37 :: u38 :: u39 :: u40 :: u41 :: u42 :: u43 :: u44 :: u45 :: u46 :: u47 :: u48 :: u49 :: u50 :: u51 :: u52 :: u53 :: u54 :: u55 :: u56 :: u57 :: u58 :: u59 :: u60 :: u61 :: u62 :: u63 :: u64 :: u65 :: u66 :: u67 :: u68 :: u69 :: u70 :: u71 :: u72 :: u73 :: u74 :: u75 :: u76 :: u77 :: u78 :: u79 :: u80 :: u81 :: u82 :: u83 :: u84 :: u85 :: u86 :: u87 :: u88 :: u89 :: u90 :: u91 :: u92 :: u93 :: u94 :: u95 :: u96 :: u97 :: u98 :: u99 :: u100 :: u101 :: u102 :: u103 :: u104 :: u105 :: u106 :: u107 :: u108 :: u109 :: u110 :: u111 :: u112 :: u113 :: u114 :: u115 :: u116 :: u117 :: u118 :: u119 :: u120 :: u121 :: u122 :: u123 :: u124 :: u125 :: u126 :: u127 :: u128 :: u129 :: u130 :: u131 :: u132 :: u133 :: u134 :: u135 :: u136 :: u137 :: u138 :: u139 :: u140 :: u141 :: u142 :: u143 :: u144 :: u145 :: u146 :: u147 :: u148 :: u149 :: u150 :: u151 :: u152 :: u153 :: u154 :: u155 :: u156 :: u157 :: u158 :: u159 :: u160 :: u161 :: u162 :: u163 :: u164 :: u165 :: u166 :: u167 :: u168 :: u169 :: u170 :: u171 :: u172 :: u173 :: u174 :: u175 :: u176 :: u177 :: u178 :: u179 :: u180 :: u181 :: u182 :: u183 :: u184 :: u185 :: u186 :: u187 :: u188 :: u189 :: u190 :: u191 :: u192 :: u193 :: u194 :: u195 :: u196 :: u197 :: u198 :: u199 :: u200 :: u201 :: u202 :: u203 :: u204 :: u205 :: u206 :: u207 :: u208 :: u209 :: u210 :: u211 :: u212 :: u213 :: u214 :: u215 :: u216 :: u217 :: u218 :: u219 :: u220 :: u221 :: u222 :: u223 :: u224 :: u225 :: u226 :: u227 :: u228 :: u229 :: u230 :: u231 :: u232 :: u233 :: u234 :: u235 :: u236 :: u237 :: u238 :: u239 :: u240 :: u241 :: u242 :: u243 :: u244 :: u245 :: u246 :: u247 :: u248 :: u249 :: []), []⟩ W := by
  have hkc := hg.key.1
  have hkl := hg.key.2.1
  have hB := h.le
  have hwl := h.wq.lt
  have c0 := h.wq.c0
  have hnil := h.wq.own.ne h.wq.blk wq_u8
  obtain ⟨av, cv, hvv⟩ := h.wq.own.slice
  have hkcell : ∀ (j : Nat) (y : Value), (t.key.map (Value.int .u8))[j]? = some y → C[7 + j]? = some y := fun j y hy => by
    have hj : j < 68 := by have := (List.getElem?_eq_some_iff.1 hy).1; simpa [hkl] using this
    rw [← hkc, List.getElem?_take, if_pos hj, List.getElem?_drop] at hy
    rw [hC]; simpa using hy
  have hlenk : (t.key.map (Value.int .u8)).length = 68 := by simpa using hkl
  have hone : ∀ y ∈ t.key.map (Value.int .u8), y.oneCell' = true := fun y hy => by obtain ⟨x, _, rfl⟩ := List.mem_map.1 hy; rfl
  generalize t.key.map (Value.int .u8) = ys at *
  subst hvv
  replace hq := Lib.hid hq
  replace hC := Lib.hid hC
  conv => arg 2; whnf
  go_wp2_with fail
  refine region_ordS (fun z => ∃ X : HeldB wb W, z = X.x) [([0, 1, 2, 3, 4, 5, 6], 7)] [8, 9] 10 (by kernel_rfl) (by kernel_rfl) (by kernel_rfl) (by kernel_rfl) ⟨⟨W.drew, rfl⟩, rfl⟩ ?_
  simp only [List.map_cons, List.map_nil, List.filterMap_cons, List.filterMap_nil, List.getElem?_cons_succ, List.getElem?_cons_zero]
  have y0 := held_cell (w0 := W) c0
  have hB0 : Below W.heap.size W W.drew := (Below.refl _ _).drew
  have hI := h.then hB0
  generalize W.drew = w1 at *
  have hrow : RowV w1 (.slice (some ⟨gb, 7, none⟩) 68 68) ys := ⟨_, _, by rw [hlenk], fun _ => ⟨gb, 7, rfl, hI.lt, fun j y hy => hI.cell (hkcell j y hy)⟩⟩
  refine ordS_step ?_
  repeat (change wpQuiet _ _ _ _ (List.cons _ _) _; go_big_quiet_step (fail))
  refine wpQuiet_nil ?_
  intro Q₁ hQ₁
  simp only [Option.toList]
  go_wp2_with (at_builtin; refine OwnN.app rfl _ _ rfl w0.heap.size _ _ n ys rfl rfl hI.wq.own hrow (by intro e; rw [e] at hlenk; simp at hlenk) hone (by omega) hI.le ?_; intro v' w3 hO3 hgr hat)
  have hx1 : wb < w1.heap.size := hI.wq.lt
  have hk3 : w3.heap[wb]? = w1.heap[wb]? := hgr.block wb hx1 (fun e => hnil e.symm)
  refine hQ₁ _ _ ⟨⟨w3, hk3.trans (hB0.block wb hwl)⟩, rfl⟩ ?_
  clear hQ₁ Q₁
  rw [hlenk] at hO3
  obtain ⟨x1, x2⟩ := hI.wq.stored (Below.refl _ _) hgr hO3 hat (by omega) hI.le hBx
  have hG := hI.of x1 x2
  have hTT := hT.trans ((WT.of_below hB0 hB).trans x2)
  have hkk := hk3.trans hI.wq.blk
  have hf3 : w3.frozen? ⟨wb, 0, none⟩ = false := by simp [World.frozen?, hkk]
  have hc3 : w3.cell? ⟨wb, 0, none⟩ = some (.slice av n cv) := by simp [World.cell?, hkk]
  obtain ⟨a3, c3, rfl⟩ := hO3.slice
  refine ordS_last ?_
  repeat (change wpQuiet _ _ _ _ (List.cons _ _) _; go_big_quiet_step (fail))
  refine wpQuiet_nil ?_
  intro Q₁ hQ₁
  simp only [Option.toList]
  go_upto_region 999 with ((with_reducible show Code.wp _ _ (bodyPost _ _ _) _ _); exact rg11 _ _ _ _ _ _ _ _ _ _ _ _ _ _ _ _ _ _ _ _ _ _ _ _ _ _ _ _ _ _ _ _ _ _ _ _ _ _ _ _ _ _ _ _ _ _ _ _ _ _ _ _ _ _ _ _ _ _ _ _ _ _ _ _ _ _ _ _ _ _ _ _ _ _ _ _ _ _ _ _ _ _ _ _ _ _ _ _ _ _ _ _ _ _ _ _ _ _ _ _ _ _ _ _ _ _ _ _ _ _ _ _ _ _ _ _ _ _ _ _ _ _ _ _ _ _ _ _ _ _ _ _ _ _ _ _ _ _ _ _ _ _ _ _ _ _ _ _ _ _ _ _ _ _ _ _ _ _ _ _ _ _ _ _ _ _ _ _ _ _ _ _ _ _ _ _ _ _ _ _ _ _ _ _ _ _ _ _ _ _ _ _ _ _ _ _ _ _ _ _ _ _ _ _ _ _ _ _ _ _ _ _ _ _ _ _ _ _ _ _ _ _ _ _ _ _ _ _ _ _ _ _ _ _ _ _ _ _ _ _ _ _ _ _ _ _ _ _ hG hTT (by omega) hn0 hg hC.out hl hBx hne hst hq.out)
set_option maxRecDepth 100000 in
set_option maxHeartbeats 8000000 in
theorem rg8 (u1 u2 u4 u5 u6 u7 u8 u9 u10 u11 u12 u13 u14 u15 u16 u17 u18 u19 u20 u21 u22 u23 u24 u25 u26 u27 u28 u29 u30 u31 u32 u33 u34 u35 u36 u37 u38 u39 u40 u41 u42 u43 u44 u45 u46 u47 u48 u49 u50 u51 u52 u53 u54 u55 u56 u57 u58 u59 u60 u61 u62 u63 u64 u65 u66 u67 u68 u69 u70 u71 u72 u73 u74 u75 u76 u77 u78 u79 u80 u81 u82 u83 u84 u85 u86 u87 u88 u89 u90 u91 u92 u93 u94 u95 u96 u97 u98 u99 u100 u101 u102 u103 u104 u105 u106 u107 u108 u109 u110 u111 u112 u113 u114 u115 u116 u117 u118 u119 u120 u121 u122 u123 u124 u125 u126 u127 u128 u129 u130 u131 u132 u133 u134 u135 u136 u137 u138 u139 u140 u141 u142 u143 u144 u145 u146 u147 u148 u149 u150 u151 u152 u153 u154 u155 u156 u157 u158 u159 u160 u161 u162 u163 u164 u165 u166 u167 u168 u169 u170 u171 u172 u173 u174 u175 u176 u177 u178 u179 u180 u181 u182 u183 u184 u185 u186 u187 u188 u189 u190 u191 u192 u193 u194 u195 u196 u197 u198 u199 u200 u201 u202 u203 u204 u205 u206 u207 u208 u209 u210 u211 u212 u213 u214 u215 u216 u217 u218 u219 u220 u221 u222 u223 u224 u225 u226 u227 u228 u229 u230 u231 u232 u233 u234 u235 u236 u237 u238 u239 u240 u241 u242 u243 u244 u245 u246 u247 u248 u249 : Value) {w0 w W : World} {wb gb n n0 : Nat} {C : Array Value} {v v0 : Value} {e e0 : Int} {t : GuestV} {cs : List Value}
    (h : GQ w0 W wb gb n C v e) (hT : WT w0.heap.size wb v0 v w W) (hn : n ≤ n0 + 48) (hn0 : n0 ≤ 1000000) (hg : GuestR w0 cs t) (hC : C = cs.toArray) (hl : cs.length = 79) (hBx : w0.heap.size ≤ wb) (hne : gb ≠ wb) (hst : t.str.length ≤ 100000 ∧ t.irq.length ≤ 100000 ∧ t.dev.length ≤ 100000 ∧ t.win.length ≤ 100000)
    (hq : (e = 0 ∧ (keyOk t.key && (cntOk t && (t.win.all okW && t.irq.all okI))) = true) ↔ (e0 = 0 ∧ gOk t = true)) :
    (tailC 8 (Tryz.f34.body.getD .skip)).wp Tryz.prog (bodyPost Tryz.prog Tryz.f34 (GPq w0 w wb n0 v0 e0 t)) ⟨List.toArray (.pointer (some ⟨wb, 0, none⟩) :: u1 :: u2 :: .pointer (some ⟨gb, 0, none⟩) :: u4 :: u5 :: u6 :: u7 :: u8 :: u9 :: u10 :: u11 :: u12 :: u13 :: u14 :: u15 :: u16 :: u17 :: u18 :: u19 :: u20 :: u21 :: u22 :: u23 :: u24 :: u25 :: u26 :: u27 :: u28 :: u29 :: u30 :: u31 :: u32 :: u33 :: u34 :: u35 :: u36 :: u37 :: u38 :: u39 :: u40 :: u41 :: u42 :: u43 :: u44 :: u45 :: u46 :: u47 :: u48 :: u49 :: u50 :: u51 :: u52 :: u53 :: u54 :: u55 :: u56 :: u57 :: u58 :: u59 :: u60 :: u61 :: u62 :: u63 :: u64 :: u65 :: u66 :: u67 :: u68 :: u69 :: u70 :: u71 :: u72 :: u73 :: u74 :: u75 :: u76 :: u77 :: u78 :: u79 :: u80 :: u81 :: u82 :: u83 :: u84 :: u85 :: u86 :: u87 :: u88 :: u89 :: u90 :: u91 :: u92 :: u93 :: u94 :: u95 :: u96 :: u97 :: u98 :: u99 :: u100 :: u101 :: u102 :: u103 :: u104 :: u105 :: u106 :: u107 :: u108 :: u109 :: u110 :: u111 :: u112 :: u113 :: u114 :: u115 :: u116 :: u117 :: u118 :: u119 :: u120 :: u121 :: u122 :: u123 :: u124 :: u125 :: u126 :: u127 :: u128 :: u129 :: u130 :: u131 :: u132 :: u133 :: u134 :: u135 :: u136 :: u137 :: u138 :: u139 :: u140 :: u141 :: u142 :: u143 :: u144 :: u145 :: u146 :: u147 :: u148 :: u149 :: u150 :: u151 :: u152 :: u153 :: u154 :: u155 :: u156 :: u157 :: u158 :: u159 :: u160 :: u161 :: u162 :: u163 :: u164 :: u165 :: u166 :: u167 :: u168 :: u169 :: u170 :: u171 :: u172 :: u173 :: u174 :: u175 :: u176 :: u177 :: u178 :: u179 :: u180 :: u181 :: u182 :: u183 :: u184 :: u185 :: u186 :: u187 :: u188 :: u189 :: u190 :: u191 :: u192 :: u193 :: u194 :: u195 :: u196 :: u197 :: u198 :: u199 :: u200 :: u201 :: u202 :: u203 :: u204 :: u205 :: u206 :: u207 :: u208 :: u209 :: u210 :: u211 :: u212 :: u213 :: u214 :: u215 :: u216 :: u217 :: u218 :: u219 :: u220 :: u221 :: u222 :: u223 :: u224 :: u225 :: u226 :: u227 :: u228 :: u229 :: u230 :: u231 :: u232 :: u233 :: u234 :: u235 :: u236 :: u237 :: u238 :: u239 :: u240 :: u241 :: u242 :: u243 :: u244 :: u245 :: u246 :: u247 :: u248 :: u249 :: []), []⟩ W := by
  have hkc := hg.key.1
  have hkl := hg.key.2.1
  have hkb := hg.key.2.2
  have hrow : RowI W gb 7 t.key := fun i hi => h.cell (by
    rw [hC]
    have : ((cs.drop 7).take 68)[i]? = some (.int .u8 t.key[i]) := by rw [hkc, List.getElem?_map, List.getElem?_eq_getElem hi]; rfl
    rw [List.getElem?_take, if_pos (by omega), List.getElem?_drop] at this
    simpa using this)
  have hkey := refKeyOf_any gb 7 t.key W hkb hkl hrow h.lt
  have hB := h.le
  have hwl := h.wq.lt
  generalize keyOk t.key = kq at *
  replace hq := Lib.hid hq
  replace hC := Lib.hid hC
  cases kq
  all_goals
    (
      conv => arg 2; whnf
      go_wp2_with fail
      refine hkey.mono ?_; rintro en w1 ⟨⟨K, hKs, hKo, rfl⟩, hb1⟩
      have h1 := h.then hb1
      have hbn := bone w1 (.cells K 142)
      have h2 := h1.then hbn
      have hTT := hT.trans ((WT.of_below hb1 hB).trans (WT.of_below hbn h1.le))
      go_wp2_with (first | (with_reducible refine wpl_alloc_x rfl _ rfl zKey_info ?_) | (refine wpl_store_x rfl 142 _ _ rfl (c := zKey) (c' := K) (by rw [hKs]; kernel_rfl) (by rw [hKs]; kernel_rfl) hKo rfl rfl ?_))
      refine (qmust_any wb w0.heap.size n v e _ h2.wq _ 144 (by decide) h2.le hBx).mono ?_; rintro en w3 hqq
      obtain ⟨rfl, v3, e3, h3, i3, t3⟩ := h2.next hqq
      clear hqq
      have hqn : (e3 = 0 ∧ (cntOk t && (t.win.all okW && t.irq.all okI)) = true) ↔ (e0 = 0 ∧ gOk t = true) := by rw [i3, and_assoc, ← Bool.and_eq_true]; simpa using hq.out
      replace hqn := Lib.hid hqn
      replace i3 := Lib.hid i3
      go_upto_region 999 with ((with_reducible show Code.wp _ _ (bodyPost _ _ _) _ _); exact rg10 _ _ _ _ _ _ _ _ _ _ _ _ _ _ _ _ _ _ _ _ _ _ _ _ _ _ _ _ _ _ _ _ _ _ _ _ _ _ _ _ _ _ _ _ _ _ _ _ _ _ _ _ _ _ _ _ _ _ _ _ _ _ _ _ _ _ _ _ _ _ _ _ _ _ _ _ _ _ _ _ _ _ _ _ _ _ _ _ _ _ _ _ _ _ _ _ _ _ _ _ _ _ _ _ _ _ _ _ _ _ _ _ _ _ _ _ _ _ _ _ _ _ _ _ _ _ _ _ _ _ _ _ _ _ _ _ _ _ _ _ _ _ _ _ _ _ _ _ _ _ _ _ _ _ _ _ _ _ _ _ _ _ _ _ _ _ _ _ _ _ _ _ _ _ _ _ _ _ _ _ _ _ _ _ _ _ _ _ _ _ _ _ _ _ _ _ _ _ _ _ _ _ _ _ _ _ _ _ _ _ _ _ _ _ _ _ _ _ _ _ _ _ _ _ _ _ _ _ _ _ _ _ _ _ _ _ _ _ _ _ _ _ _ _ _ _ _ _ h3 (hTT.trans t3) hn hn0 hg hC.out hl hBx hne hst hqn.out))
set_option maxRecDepth 100000 in
set_option maxHeartbeats 8000000 in
theorem rg1 (u1 u2 u4 u5 u6 u7 u8 u9 u10 u11 u12 u13 u14 u15 u16 u17 u18 u19 u20 u21 u22 u23 u24 u25 u26 u27 u28 u29 u30 u31 u32 u33 u34 u35 u36 u37 u38 u39 u40 u41 u42 u43 u44 u45 u46 u47 u48 u49 u50 u51 u52 u53 u54 u55 u56 u57 u58 u59 u60 u61 u62 u63 u64 u65 u66 u67 u68 u69 u70 u71 u72 u73 u74 u75 u76 u77 u78 u79 u80 u81 u82 u83 u84 u85 u86 u87 u88 u89 u90 u91 u92 u93 u94 u95 u96 u97 u98 u99 u100 u101 u102 u103 u104 u105 u106 u107 u108 u109 u110 u111 u112 u113 u114 u115 u116 u117 u118 u119 u120 u121 u122 u123 u124 u125 u126 u127 u128 u129 u130 u131 u132 u133 u134 u135 u136 u137 u138 u139 u140 u141 u142 u143 u144 u145 u146 u147 u148 u149 u150 u151 u152 u153 u154 u155 u156 u157 u158 u159 u160 u161 u162 u163 u164 u165 u166 u167 u168 u169 u170 u171 u172 u173 u174 u175 u176 u177 u178 u179 u180 u181 u182 u183 u184 u185 u186 u187 u188 u189 u190 u191 u192 u193 u194 u195 u196 u197 u198 u199 u200 u201 u202 u203 u204 u205 u206 u207 u208 u209 u210 u211 u212 u213 u214 u215 u216 u217 u218 u219 u220 u221 u222 u223 u224 u225 u226 u227 u228 u229 u230 u231 u232 u233 u234 u235 u236 u237 u238 u239 u240 u241 u242 u243 u244 u245 u246 u247 u248 u249 : Value) {w0 w W : World} {wb gb n n0 : Nat} {C : Array Value} {v v0 : Value} {e e0 : Int} {t : GuestV} {cs : List Value}
    (h : GQ w0 W wb gb n C v e) (hT : WT w0.heap.size wb v0 v w W) (hn : n ≤ n0 + 0) (hn0 : n0 ≤ 1000000) (hg : GuestR w0 cs t) (hC : C = cs.toArray) (hl : cs.length = 79) (hBx : w0.heap.size ≤ wb) (hne : gb ≠ wb) (hst : t.str.length ≤ 100000 ∧ t.irq.length ≤ 100000 ∧ t.dev.length ≤ 100000 ∧ t.win.length ≤ 100000) (hns : t.name.size ≤ 1000000)
    (hq : (e = 0 ∧ (nameOk t.name && (keyOk t.key && (cntOk t && (t.win.all okW && t.irq.all okI)))) = true) ↔ (e0 = 0 ∧ gOk t = true)) :
    (tailC 1 (Tryz.f34.body.getD .skip)).wp Tryz.prog (bodyPost Tryz.prog Tryz.f34 (GPq w0 w wb n0 v0 e0 t)) ⟨List.toArray (.pointer (some ⟨wb, 0, none⟩) :: u1 :: u2 :: .pointer (some ⟨gb, 0, none⟩) :: u4 :: u5 :: u6 :: u7 :: u8 :: u9 :: u10 :: u11 :: u12 :: u13 :: u14 :: u15 :: u16 :: u17 :: u18 :: u19 :: u20 :: u21 :: u22 :: u23 :: u24 :: u25 :: u26 :: u27 :: u28 :: u29 :: u30 :: u31 :: u32 :: u33 :: u34 :: u35 :: u36 :: u37 :: u38 :: u39 :: u40 :: u41 :: u42 :: u43 :: u44 :: u45 :: u46 :: u47 :: u48 :: u49 :: u50 :: u51 :: u52 :: u53 :: u54 :: u55 :: u56 :: u57 :: u58 :: u59 :: u60 :: u61 :: u62 :: u63 :: u64 :: u65 :: u66 :: u67 :: u68 :: u69 :: u70 :: u71 :: u72 :: u73 :: u74 :: u75 :: u76 :: u77 :: u78 :: u79 :: u80 :: u81 :: u82 :: u83 :: u84 :: u85 :: u86 :: u87 :: u88 :: u89 :: u90 :: u91 :: u92 :: u93 :: u94 :: u95 :: u96 :: u97 :: u98 :: u99 :: u100 :: u101 :: u102 :: u103 :: u104 :: u105 :: u106 :: u107 :: u108 :: u109 :: u110 :: u111 :: u112 :: u113 :: u114 :: u115 :: u116 :: u117 :: u118 :: u119 :: u120 :: u121 :: u122 :: u123 :: u124 :: u125 :: u126 :: u127 :: u128 :: u129 :: u130 :: u131 :: u132 :: u133 :: u134 :: u135 :: u136 :: u137 :: u138 :: u139 :: u140 :: u141 :: u142 :: u143 :: u144 :: u145 :: u146 :: u147 :: u148 :: u149 :: u150 :: u151 :: u152 :: u153 :: u154 :: u155 :: u156 :: u157 :: u158 :: u159 :: u160 :: u161 :: u162 :: u163 :: u164 :: u165 :: u166 :: u167 :: u168 :: u169 :: u170 :: u171 :: u172 :: u173 :: u174 :: u175 :: u176 :: u177 :: u178 :: u179 :: u180 :: u181 :: u182 :: u183 :: u184 :: u185 :: u186 :: u187 :: u188 :: u189 :: u190 :: u191 :: u192 :: u193 :: u194 :: u195 :: u196 :: u197 :: u198 :: u199 :: u200 :: u201 :: u202 :: u203 :: u204 :: u205 :: u206 :: u207 :: u208 :: u209 :: u210 :: u211 :: u212 :: u213 :: u214 :: u215 :: u216 :: u217 :: u218 :: u219 :: u220 :: u221 :: u222 :: u223 :: u224 :: u225 :: u226 :: u227 :: u228 :: u229 :: u230 :: u231 :: u232 :: u233 :: u234 :: u235 :: u236 :: u237 :: u238 :: u239 :: u240 :: u241 :: u242 :: u243 :: u244 :: u245 :: u246 :: u247 :: u248 :: u249 :: []), []⟩ W := by
  have C0 : C[0]? = some (.string t.name) := by rw [hC]; simpa using hg.name
  have C1 : C[1]? = some (.bool t.mand) := by rw [hC]; simpa using hg.mand
  have C2 : C[2]? = some (.int .u32 t.off) := by rw [hC]; simpa using hg.off.1
  have C3 : C[3]? = some (.int .u32 t.len) := by rw [hC]; simpa using hg.len.1
  have C4 : C[4]? = some (.int .u32 t.cpus) := by rw [hC]; simpa using hg.cpus.1
  have C5 : C[5]? = some (.int .u64 t.entry) := by rw [hC]; simpa using hg.entry.1
  have C6 : C[6]? = some (.int .u64 t.dtb) := by rw [hC]; simpa using hg.dtb.1
  have u2 := hg.off.2
  have u3 := hg.len.2
  have u4 := hg.cpus.2
  have u5 := hg.entry.2
  have u6 := hg.dtb.2
  have w2 : IntKind.u64.wrap t.off = t.off := by have := u2.1; have := u2.2; rw [IntKind.wrap_u64]; omega
  have w3 : IntKind.u64.wrap t.len = t.len := by have := u3.1; have := u3.2; rw [IntKind.wrap_u64]; omega
  have w4 : IntKind.u64.wrap t.cpus = t.cpus := by have := u4.1; have := u4.2; rw [IntKind.wrap_u64]; omega
  have W2 : W64 t.off := ⟨u2.1, by have := u2.2; omega⟩
  have W3 : W64 t.len := ⟨u3.1, by have := u3.2; omega⟩
  have W4 : W64 t.cpus := ⟨u4.1, by have := u4.2; omega⟩
  have d := h.cell C0
  replace hq := Lib.hid hq
  replace C0 := Lib.hid C0
  replace C1 := Lib.hid C1
  replace C2 := Lib.hid C2
  replace C3 := Lib.hid C3
  replace C4 := Lib.hid C4
  replace C5 := Lib.hid C5
  replace C6 := Lib.hid C6
  have hC0 := hC
  replace hC := Lib.hid hC
  have hst0 := hst
  replace hst := Lib.hid hst
  clear u2 u3 u4
  replace hC0 := Lib.hid hC0
  replace hst0 := Lib.hid hst0
  conv => arg 2; whnf
  go_wp2_with fail
  refine (qname_any wb w0.heap.size n v e _ h.wq t.name hns (by omega) h.le hBx).mono ?_; rintro en w5 hqq
  obtain ⟨rfl, v1, e1, h1, i1, t1⟩ := h.next hqq
  clear hqq
  replace i1 := Lib.hid i1
  generalize hnm : nameOk t.name = q at *
  replace hnm := Lib.hid hnm
  have d1 := h1.cell C1.out
  clear d
  go_wp2_with fail
  refine (qtruth_any wb w0.heap.size _ v1 e1 _ h1.wq t.mand (by omega) h1.le hBx).mono ?_; rintro en w6 hqq
  obtain ⟨rfl, v2, e2, h2, i2, t2⟩ := h1.next hqq
  clear hqq
  replace i2 := Lib.hid i2
  have d2 := h2.cell C2.out
  clear d1
  go_wp2_with fail
  refine (qput_any wb w0.heap.size _ v2 e2 _ h2.wq t.off 4 W2 (by omega) ⟨by decide, by decide⟩ h2.le hBx).mono ?_; rintro en w7 hqq
  obtain ⟨rfl, v3, e3, h3, i3, t3⟩ := h2.next hqq
  clear hqq
  replace i3 := Lib.hid i3
  have d3 := h3.cell C3.out
  clear d2
  go_wp2_with fail
  refine (qput_any wb w0.heap.size _ v3 e3 _ h3.wq t.len 4 W3 (by omega) ⟨by decide, by decide⟩ h3.le hBx).mono ?_; rintro en w8 hqq
  obtain ⟨rfl, v4, e4, h4, i4, t4⟩ := h3.next hqq
  clear hqq
  replace i4 := Lib.hid i4
  have d4 := h4.cell C4.out
  clear d3
  go_wp2_with fail
  refine (qput_any wb w0.heap.size _ v4 e4 _ h4.wq t.cpus 4 W4 (by omega) ⟨by decide, by decide⟩ h4.le hBx).mono ?_; rintro en w9 hqq
  obtain ⟨rfl, v5, e5, h5, i5, t5⟩ := h4.next hqq
  clear hqq
  replace i5 := Lib.hid i5
  have d5 := h5.cell C5.out
  clear d4
  go_wp2_with fail
  refine (qput_any wb w0.heap.size _ v5 e5 _ h5.wq t.entry 8 u5 (by omega) ⟨by decide, by decide⟩ h5.le hBx).mono ?_; rintro en w10 hqq
  obtain ⟨rfl, v6, e6, h6, i6, t6⟩ := h5.next hqq
  clear hqq
  replace i6 := Lib.hid i6
  have d6 := h6.cell C6.out
  clear d5
  go_wp2_with fail
  refine (qput_any wb w0.heap.size _ v6 e6 _ h6.wq t.dtb 8 u6 (by omega) ⟨by decide, by decide⟩ h6.le hBx).mono ?_; rintro en w11 hqq
  obtain ⟨rfl, v7, e7, h7, i7, t7⟩ := h6.next hqq
  clear hqq
  have hqn : (e7 = 0 ∧ (keyOk t.key && (cntOk t && (t.win.all okW && t.irq.all okI))) = true) ↔ (e0 = 0 ∧ gOk t = true) := by
    have a := hq.out
    rw [i7, i6.out, i5.out, i4.out, i3.out, i2.out, i1.out]
    simp only [and_true]
    rw [and_assoc, ← Bool.and_eq_true]
    simpa using a
  replace i7 := Lib.hid i7
  replace hqn := Lib.hid hqn
  go_upto_region 999 with ((with_reducible show Code.wp _ _ (bodyPost _ _ _) _ _); exact rg8 _ _ _ _ _ _ _ _ _ _ _ _ _ _ _ _ _ _ _ _ _ _ _ _ _ _ _ _ _ _ _ _ _ _ _ _ _ _ _ _ _ _ _ _ _ _ _ _ _ _ _ _ _ _ _ _ _ _ _ _ _ _ _ _ _ _ _ _ _ _ _ _ _ _ _ _ _ _ _ _ _ _ _ _ _ _ _ _ _ _ _ _ _ _ _ _ _ _ _ _ _ _ _ _ _ _ _ _ _ _ _ _ _ _ _ _ _ _ _ _ _ _ _ _ _ _ _ _ _ _ _ _ _ _ _ _ _ _ _ _ _ _ _ _ _ _ _ _ _ _ _ _ _ _ _ _ _ _ _ _ _ _ _ _ _ _ _ _ _ _ _ _ _ _ _ _ _ _ _ _ _ _ _ _ _ _ _ _ _ _ _ _ _ _ _ _ _ _ _ _ _ _ _ _ _ _ _ _ _ _ _ _ _ _ _ _ _ _ _ _ _ _ _ _ _ _ _ _ _ _ _ _ _ _ _ _ _ _ _ _ _ _ _ _ _ _ _ _ h7 (hT.trans (t1.trans (t2.trans (t3.trans (t4.trans (t5.trans (t6.trans t7))))))) (by omega) hn0 hg hC.out hl hBx hne hst.out hqn.out)
set_option maxRecDepth 100000 in
set_option maxHeartbeats 8000000 in
theorem rguest_any (w0 : World) (wb n : Nat) (v : Value) (e : Int) (t : GuestV) (cs : List Value) (w : World) (hg : GuestR w0 cs t) (hl : cs.length = 79) (hw : Wq w wb w0.heap.size n v e) (hbw : Below w0.heap.size w0 w) (hBx : w0.heap.size ≤ wb) (hn : n ≤ 1000000) (hns : t.name.size ≤ 1000000)
    (hst : t.str.length ≤ 100000 ∧ t.irq.length ≤ 100000 ∧ t.dev.length ≤ 100000 ∧ t.win.length ≤ 100000) :
    Calls Tryz.prog 34 #[.pointer (some ⟨wb, 0, none⟩), .agg cs.toArray] w fun en w' => GPq w0 w wb n v e t en w' := by
  have hB := hbw.size
  obtain ⟨W1, hW1⟩ : ∃ W1, W1 = w.alloc (.cells cs.toArray 50) := ⟨_, rfl⟩
  have hb1 : Below w.heap.size w W1 := by rw [hW1]; exact bone _ _
  have hwlt := hw.lt
  have s1 : GQ w0 W1 wb w.heap.size n cs.toArray v e := by
    refine ⟨hw.below hb1, hbw.trans (hb1.mono hB), by rw [hW1]; exact World.alloc_heap_new w _, fun h => ?_, by omega⟩
    have := (hw.own.lt _ h).2
    omega
  have ht1 : WT w0.heap.size wb v v w W1 := WT.of_below hb1 hB
  have hne : w.heap.size ≠ wb := by omega
  generalize hC : cs.toArray = C at *
  have hgq : (e = 0 ∧ (nameOk t.name && (keyOk t.key && (cntOk t && (t.win.all okW && t.irq.all okI)))) = true) ↔ (e = 0 ∧ gOk t = true) := by rw [gOk_parts]
  replace hC := Lib.hid hC
  replace hW1 := Lib.hid hW1
  replace hg := Lib.hid hg
  replace hl := Lib.hid hl
  replace hw := Lib.hid hw
  replace hst := Lib.hid hst
  replace hgq := Lib.hid hgq
  go_enter Tryz.func34, Tryz.ntmps34
  go_upto_region 999 with ((with_reducible show Code.wp _ _ (bodyPost _ _ _) _ (World.alloc _ _)); rw [← hW1.out]; exact rg1 _ _ _ _ _ _ _ _ _ _ _ _ _ _ _ _ _ _ _ _ _ _ _ _ _ _ _ _ _ _ _ _ _ _ _ _ _ _ _ _ _ _ _ _ _ _ _ _ _ _ _ _ _ _ _ _ _ _ _ _ _ _ _ _ _ _ _ _ _ _ _ _ _ _ _ _ _ _ _ _ _ _ _ _ _ _ _ _ _ _ _ _ _ _ _ _ _ _ _ _ _ _ _ _ _ _ _ _ _ _ _ _ _ _ _ _ _ _ _ _ _ _ _ _ _ _ _ _ _ _ _ _ _ _ _ _ _ _ _ _ _ _ _ _ _ _ _ _ _ _ _ _ _ _ _ _ _ _ _ _ _ _ _ _ _ _ _ _ _ _ _ _ _ _ _ _ _ _ _ _ _ _ _ _ _ _ _ _ _ _ _ _ _ _ _ _ _ _ _ _ _ _ _ _ _ _ _ _ _ _ _ _ _ _ _ _ _ _ _ _ _ _ _ _ _ _ _ _ _ _ _ _ _ _ _ _ _ _ _ _ _ _ _ _ _ _ _ _ s1 ht1 (by omega) hn hg.out hC.out.symm hl.out hBx hne hst.out hns hgq.out)
end Go.Proofs.YtffdfeekpfmbeaaGreat
/- The reference's writer: a configuration. -/
namespace Go.Proofs.YtffdfeekpfmbeaaGreat
open Go Go.RowKit Go.BigFrame

/-- Where the writing of a configuration stands. -/
structure PQ (w0 W : World) (cb wb n : Nat) (ver : Int) (vg vc v : Value) (e : Int) : Prop where
  wq : Wq W wb w0.heap.size n v e
  bl : Below w0.heap.size w0 W
  cc : ∀ (j : Nat) u, [.int .u32 ver, vg, vc][j]? = some u → W.cell? ⟨cb, j, none⟩ = some u
  cl : cb < W.heap.size
  own : v.ownBlock ≠ some cb
  ne : cb ≠ wb
section
variable {w0 W W' : World} {cb wb n m : Nat} {ver : Int} {vg vc v v' : Value} {e e' : Int} {q : Bool}
theorem PQ.le (h : PQ w0 W cb wb n ver vg vc v e) : w0.heap.size ≤ W.heap.size := h.bl.size
theorem PQ.then (h : PQ w0 W cb wb n ver vg vc v e) (hb : Below W.heap.size W W') : PQ w0 W' cb wb n ver vg vc v e :=
  ⟨h.wq.below hb, h.bl.trans (hb.mono h.bl.size), fun j u hu => cell_lt hb (h.cc j u hu) h.cl, Nat.lt_of_lt_of_le h.cl hb.size, h.own, h.ne⟩
theorem PQ.of (h : PQ w0 W cb wb n ver vg vc v e) (hw : Wq W' wb w0.heap.size m v' e') (ht : WT w0.heap.size wb v v' W W') : PQ w0 W' cb wb m ver vg vc v' e' := by
  have hk := ht.keep h.cl h.ne h.own
  exact ⟨hw, h.bl.trans ht.off.below, fun j u hu => heapc hk.1 (h.cc j u hu), Nat.lt_of_lt_of_le h.cl ht.off.below.size, hk.2, h.ne⟩
theorem PQ.next (h : PQ w0 W cb wb n ver vg vc v e) {en : Ending} (hq : QPost w0.heap.size wb m v e q W en W') : en = .returned (.tuple #[]) ∧ ∃ v' e', PQ w0 W' cb wb m ver vg vc v' e' ∧ (e' = 0 ↔ e = 0 ∧ q = true) ∧ WT w0.heap.size wb v v' W W' := by
  obtain ⟨h0, v', e', hw, hi, ht⟩ := hq
  exact ⟨h0, v', e', h.of hw ht, hi, ht⟩
end
def PPq (w0 : World) (gs : List GuestV) (chs : List ChV) (en : Ending) (w' : World) : Prop := (∃ v n', en = .returned (.tuple #[v, .int .i64 n']) ∧ (n' = 0 ↔ putOk gs chs = true)) ∧ Below w0.heap.size w0 w'
def okC (c : ChV) : Bool := eOk c.e0 && eOk c.e1
set_option maxRecDepth 100000 in
set_option maxHeartbeats 8000000 in
theorem rpt12 (u0 u2 u3 u5 u6 u7 u8 u9 u10 u11 u12 u13 u14 u15 u16 u17 u18 u19 u20 u21 u22 u23 u24 u25 u26 u27 u28 u29 u30 u31 u32 u33 u34 u35 u36 u37 u38 u39 u40 u41 u42 u43 u44 u45 u46 u47 u48 u49 u50 u51 u52 u53 u54 u55 u56 u57 u58 u59 u60 u61 u62 u63 u64 u65 u66 u67 u68 u69 u70 u71 u72 u73 u74 u75 u76 u77 u78 u79 u80 u81 u82 u83 u84 u85 u86 u87 u88 u89 u90 u91 u92 u93 u94 u95 u96 u97 u98 u99 u100 u101 u102 u103 u104 u105 u106 u107 u108 u109 u110 u111 u112 u113 u114 u115 u116 u117 u118 u119 u120 u121 u122 u123 u124 u125 u126 : Value) {w0 W : World} {cb wb n : Nat} {ver : Int} {vg vc v : Value} {e : Int} {gs : List GuestV} {chs : List ChV}
    (h : PQ w0 W cb wb n ver vg vc v e) (hBx : w0.heap.size ≤ wb) 
    (hq : e = 0 ↔ putOk gs chs = true) :
    (tailC 12 (Tryz.f13.body.getD .skip)).wp Tryz.prog (bodyPost Tryz.prog Tryz.f13 (PPq w0 gs chs)) ⟨List.toArray (u0 :: .pointer (some ⟨cb, 0, none⟩) :: u2 :: u3 :: .pointer (some ⟨wb, 0, none⟩) :: u5 :: u6 :: u7 :: u8 :: u9 :: u10 :: u11 :: u12 :: u13 :: u14 :: u15 :: u16 :: u17 :: u18 :: u19 :: u20 :: u21 :: u22 :: u23 :: u24 :: u25 :: u26 :: u27 :: u28 :: u29 :: u30 :: u31 :: u32 :: u33 :: u34 :: u35 :: u36 :: u37 :: u38 :: u39 :: u40 :: u41 :: u42 :: u43 :: u44 :: u45 :: u46 :: u47 :: u48 :: u49 :: u50 :: u51 :: u52 :: u53 :: u54 :: u55 :: u56 :: u57 :: u58 :: u59 :: u60 :: u61 :: u62 :: u63 :: u64 :: u65 :: u66 :: u67 :: u68 :: u69 :: u70 :: u71 :: u72 :: u73 :: u74 :: u75 :: u76 :: u77 :: u78 :: u79 :: u80 :: u81 :: u82 :: u83 :: u84 :: u85 :: u86 :: u87 :: u88 :: u89 :: u90 :: u91 :: u92 :: u93 :: u94 :: u95 :: u96 :: u97 :: u98 :: u99 :: u100 :: u101 :: u102 :: u103 :: u104 :: u105 :: u106 :: u107 :: u108 :: u109 :: u110 :: u111 :: u112 :: u113 :: u114 :: u115 :: u116 :: u117 :: u118 :: u119 :: u120 :: u121 :: u122 :: u123 :: u124 :: u125 :: u126 :: []), []⟩ W := by
  have c1 := h.wq.c1
  have c0 := h.wq.c0
  have hwl := h.wq.lt
  have hbl := h.bl
  replace hq := Lib.hid hq
  obtain ⟨av, cv, rfl⟩ := h.wq.own.slice
  by_cases he : e = 0
  · have he' : (e != 0) = false := by simpa using he
    have hp := hq.out.1 he
    replace he := Lib.hid he
    replace hp := Lib.hid hp
    conv => arg 2; whnf
    go_wp2_with fail
    go_ret2
    exact ⟨⟨_, _, rfl, by rw [hp.out]; simp⟩, hbl⟩
  · have he' : (e != 0) = true := by simpa using he
    replace he := Lib.hid he
    have y1 := later_cell (B := W.heap.size) c1 hwl
    conv => arg 2; whnf
    go_wp2_with fail
    refine region_later W.heap.size W (Below.refl _ _) (by kernel_rfl) (by kernel_rfl) ?_
    repeat (change wpQuiet _ _ _ _ (List.cons _ _) _; go_big_quiet_step (fail))
    refine wpQuiet_nil ?_
    rintro w3 ⟨X, rfl⟩
    have hX := X.h
    go_wp2_with fail
    go_ret2
    exact ⟨⟨_, _, rfl, hq.out⟩, hbl.trans (hX.mono hbl.size)⟩
set_option maxRecDepth 100000 in
set_option maxHeartbeats 8000000 in
theorem rpt11 (u0 u2 u3 u5 u6 u7 u8 u9 u10 u11 u12 u13 u14 u15 u16 u17 u18 u19 u20 u21 u22 u23 u24 u25 u26 u27 u28 u29 u30 u31 u32 u33 u34 u35 u36 u37 u38 u39 u40 u41 u42 u43 u44 u45 u46 u47 u48 u49 u50 u51 u52 u53 u54 u55 u56 u57 u58 u59 u60 u61 u62 u63 u64 u65 u66 u67 u68 u69 u70 u71 u72 u73 u74 u75 u76 u77 u78 u79 u80 u81 u82 u83 u84 u85 u86 u87 u88 u89 u90 u91 u92 u93 u94 u95 u96 u97 u98 u99 u100 u101 u102 u103 u104 u105 u106 u107 u108 u109 u110 u111 u112 u113 u114 u115 u116 u117 u118 u119 u120 u121 u122 u123 u124 u125 u126 : Value) {w0 W : World} {cb wb n : Nat} {ver : Int} {vg vc v : Value} {e : Int} {gs : List GuestV} {chs : List ChV}
    (h : PQ w0 W cb wb n ver vg vc v e) (hBx : w0.heap.size ≤ wb) (hn : n ≤ 65536)
    (hq : e = 0 ↔ putOk gs chs = true) :
    (tailC 11 (Tryz.f13.body.getD .skip)).wp Tryz.prog (bodyPost Tryz.prog Tryz.f13 (PPq w0 gs chs)) ⟨List.toArray (u0 :: .pointer (some ⟨cb, 0, none⟩) :: u2 :: u3 :: .pointer (some ⟨wb, 0, none⟩) :: u5 :: u6 :: u7 :: u8 :: u9 :: u10 :: u11 :: u12 :: u13 :: u14 :: u15 :: u16 :: u17 :: u18 :: u19 :: u20 :: u21 :: u22 :: u23 :: u24 :: u25 :: u26 :: u27 :: u28 :: u29 :: u30 :: u31 :: u32 :: u33 :: u34 :: u35 :: u36 :: u37 :: u38 :: u39 :: u40 :: u41 :: u42 :: u43 :: u44 :: u45 :: u46 :: u47 :: u48 :: u49 :: u50 :: u51 :: u52 :: u53 :: u54 :: u55 :: u56 :: u57 :: u58 :: u59 :: u60 :: u61 :: u62 :: u63 :: u64 :: u65 :: u66 :: u67 :: u68 :: u69 :: u70 :: u71 :: u72 :: u73 :: u74 :: u75 :: u76 :: u77 :: u78 :: u79 :: u80 :: u81 :: u82 :: u83 :: u84 :: u85 :: u86 :: u87 :: u88 :: u89 :: u90 :: u91 :: u92 :: u93 :: u94 :: u95 :: u96 :: u97 :: u98 :: u99 :: u100 :: u101 :: u102 :: u103 :: u104 :: u105 :: u106 :: u107 :: u108 :: u109 :: u110 :: u111 :: u112 :: u113 :: u114 :: u115 :: u116 :: u117 :: u118 :: u119 :: u120 :: u121 :: u122 :: u123 :: u124 :: u125 :: u126 :: []), []⟩ W := by
  have c0 := h.wq.c0
  replace hq := Lib.hid hq
  obtain ⟨av, cv, rfl⟩ := h.wq.own.slice
  have hn' : (n : Int) ≤ 65536 := by omega
  conv => arg 2; whnf
  go_wp2_with fail
  refine (qmust_any wb w0.heap.size n _ e _ h.wq true 2 (by decide) h.le hBx).mono ?_; rintro en w5 hqq
  obtain ⟨rfl, v1, e1, h1, i1, t1⟩ := h.next hqq
  clear hqq
  have hqn : e1 = 0 ↔ putOk gs chs = true := by rw [i1, ← hq.out]; simp
  replace hqn := Lib.hid hqn
  replace i1 := Lib.hid i1
  go_upto_region 999 with ((with_reducible show Code.wp _ _ (bodyPost _ _ _) _ _); exact rpt12 _ _ _ _ _ _ _ _ _ _ _ _ _ _ _ _ _ _ _ _ _ _ _ _ _ _ _ _ _ _ _ _ _ _ _ _ _ _ _ _ _ _ _ _ _ _ _ _ _ _ _ _ _ _ _ _ _ _ _ _ _ _ _ _ _ _ _ _ _ _ _ _ _ _ _ _ _ _ _ _ _ _ _ _ _ _ _ _ _ _ _ _ _ _ _ _ _ _ _ _ _ _ _ _ _ _ _ _ _ _ _ _ _ _ _ _ _ _ _ _ _ _ _ _ _ h1 hBx hqn.out)
set_option maxRecDepth 100000 in
set_option maxHeartbeats 8000000 in
theorem rpt10 (u0 u2 u3 u5 u6 u7 u8 u9 u10 u11 u12 u13 u14 u15 u16 u17 u18 u19 u20 u21 u22 u23 u24 u25 u26 u27 u28 u29 u30 u31 u32 u33 u34 u35 u36 u37 u38 u39 u40 u41 u42 u43 u44 u45 u46 u47 u48 u49 u50 u51 u52 u53 u54 u55 u56 u57 u58 u59 u60 u61 u62 u63 u64 u65 u66 u67 u68 u69 u70 u71 u72 u73 u74 u75 u76 u77 u78 u79 u80 u81 u82 u83 u84 u85 u86 u87 u88 u89 u90 u91 u92 u93 u94 u95 u96 u97 u98 u99 u100 u101 u102 u103 u104 u105 u106 u107 u108 u109 u110 u111 u112 u113 u114 u115 u116 u117 u118 u119 u120 u121 u122 u123 u124 u125 u126 : Value) {w0 W : World} {cb wb n : Nat} {ver : Int} {vg vc v : Value} {e : Int} {gs : List GuestV} {chs : List ChV}
    (h : PQ w0 W cb wb n ver vg vc v e) (hBx : w0.heap.size ≤ wb) (hn : n ≤ 30000) (hC : RowC w0 vc chs) (hcl : chs.length ≤ 32)
    (hq : (e = 0 ∧ chs.all okC = true) ↔ putOk gs chs = true) :
    (tailC 10 (Tryz.f13.body.getD .skip)).wp Tryz.prog (bodyPost Tryz.prog Tryz.f13 (PPq w0 gs chs)) ⟨List.toArray (u0 :: .pointer (some ⟨cb, 0, none⟩) :: u2 :: u3 :: .pointer (some ⟨wb, 0, none⟩) :: u5 :: u6 :: u7 :: u8 :: u9 :: u10 :: u11 :: u12 :: u13 :: u14 :: u15 :: u16 :: u17 :: u18 :: u19 :: u20 :: u21 :: u22 :: u23 :: u24 :: u25 :: u26 :: u27 :: u28 :: u29 :: u30 :: u31 :: u32 :: u33 :: u34 :: u35 :: u36 :: u37 :: u38 :: u39 :: u40 :: u41 :: u42 :: u43 :: u44 :: u45 :: u46 :: u47 :: u48 :: u49 :: u50 :: u51 :: u52 :: u53 :: u54 :: u55 :: u56 :: u57 :: u58 :: u59 :: u60 :: u61 :: u62 :: u63 :: u64 :: u65 :: u66 :: u67 :: u68 :: u69 :: u70 :: u71 :: u72 :: u73 :: u74 :: u75 :: u76 :: u77 :: u78 :: u79 :: u80 :: u81 :: u82 :: u83 :: u84 :: u85 :: u86 :: u87 :: u88 :: u89 :: u90 :: u91 :: u92 :: u93 :: u94 :: u95 :: u96 :: u97 :: u98 :: u99 :: u100 :: u101 :: u102 :: u103 :: u104 :: u105 :: u106 :: u107 :: u108 :: u109 :: u110 :: u111 :: u112 :: u113 :: u114 :: u115 :: u116 :: u117 :: u118 :: u119 :: u120 :: u121 :: u122 :: u123 :: u124 :: u125 :: u126 :: []), []⟩ W := by
  obtain ⟨ac, kc, rfl, hc3, hc4, hc5⟩ := hC
  have d2 := h.cc 2 _ rfl
  replace hq := Lib.hid hq
  conv => arg 2; whnf
  go_wp2_with fail
  go_loopw [75] (fun i wr => ∃ (k : Nat) (v1 : Value) (e1 : Int), k ≤ chs.length ∧ i = .int .i64 k ∧ PQ w0 wr cb wb (n + 40 * k) ver vg (.slice ac chs.length kc) v1 e1 ∧ (e1 = 0 ↔ e = 0 ∧ (chs.take k).all okC = true)) (fun i _ => chs.length - (intOf i).toNat)
  case atStart => exact ⟨0, v, e, Nat.zero_le _, rfl, h, by simp⟩
  case round =>
    obtain ⟨k, v1, e1, hk, rfl, hI, hie⟩ := hrel
    by_cases hlt : k < chs.length
    · obtain ⟨bw, ow, rfl, hbw, hcell⟩ := hc5 (by rintro e; simp [e] at hlt)
      obtain ⟨ds, ⟨rfl, j0, j1, j2, j3⟩, _, hce⟩ := hcell k hlt
      have hnx := fun (e'' : Int) (q : Bool) (hj : e'' = 0 ↔ e1 = 0 ∧ q = true) (hq : q = okC chs[k]) => all_next hlt hie hj hq
      have p0 := cell_lt hI.bl (hce 0 _ rfl) hbw
      have p1 := cell_lt hI.bl (hce 1 _ rfl) hbw
      have p2 := cell_lt hI.bl (hce 2 _ rfl) hbw
      have p3 := cell_lt hI.bl (hce 3 _ rfl) hbw
      have p4 := cell_lt hI.bl (hce 4 _ rfl) hbw
      have p5 := cell_lt hI.bl (hce 5 _ rfl) hbw
      have p6 := cell_lt hI.bl (hce 6 _ rfl) hbw
      have p7 := cell_lt hI.bl (hce 7 _ rfl) hbw
      simp only [Nat.add_zero] at p0
      have hok : okC chs[k] = (eOk chs[k].e0 && eOk chs[k].e1) := rfl
      clear hce hcell hc5
      generalize okC chs[k] = qk at *
      generalize chs[k] = c at *
      have hk0 : eOk c.e0 = (decide (0 ≤ c.e0.g ∧ c.e0.g ≤ 65535) && decide (0 ≤ c.e0.perm ∧ c.e0.perm ≤ 7)) := rfl
      have hk1 : eOk c.e1 = (decide (0 ≤ c.e1.g ∧ c.e1.g ≤ 65535) && decide (0 ≤ c.e1.perm ∧ c.e1.perm ≤ 7)) := rfl
      generalize eOk c.e0 = q0 at *
      generalize eOk c.e1 = q1 at *
      obtain ⟨V, hV⟩ : ∃ V, V = wr.alloc (.cells #[.int .u64 c.pa, .int .u64 c.sz, .int .i64 c.e0.g, .int .i64 c.e0.perm, .int .u64 c.e0.ipa, .int .i64 c.e1.g, .int .i64 c.e1.perm, .int .u64 c.e1.ipa] 76) := ⟨_, rfl⟩
      have hVb : Below wr.heap.size wr V := by rw [hV]; exact bone _ _
      have hcc : ∀ (j : Nat) u, c.enc[j]? = some u → V.cell? ⟨wr.heap.size, j, none⟩ = some u := fun j u hu => by
        rw [hV, World.cell?_alloc_new]
        simpa [ChV.enc] using hu
      have hIV := hI.then hVb
      have nw : wr.heap.size ≠ wb := by have := hI.wq.lt; omega
      have n1 : v1.ownBlock ≠ some wr.heap.size := fun e => by have := (hI.wq.own.lt _ e).2; omega
      have m0 := hcc 0 _ rfl
      have m1 := hcc 1 _ rfl
      have s1 := qput_any wb w0.heap.size _ v1 e1 V hIV.wq c.pa 8 c.hp (by omega) ⟨by decide, by decide⟩ hIV.le hBx
      replace hie := Lib.hid hie
      replace hnx := Lib.hid hnx
      replace hok := Lib.hid hok
      replace hk0 := Lib.hid hk0
      replace hk1 := Lib.hid hk1
      replace hcc := Lib.hid hcc
      subst hV
      go_wp2_with fail
      refine (s1).mono ?_; rintro en w2 hqq
      obtain ⟨rfl, v2, e2, h2, i2, t2⟩ := hIV.next hqq
      clear hqq
      replace i2 := Lib.hid i2
      have hcc2 : ∀ (j : Nat) u, c.enc[j]? = some u → w2.cell? ⟨wr.heap.size, j, none⟩ = some u := fun j u hu => t2.cell (hcc.out j u hu) nw n1
      have n2 := (t2.keep (World.block_lt_of_cell? _ _ m0) nw n1).2
      have m1' := hcc2 1 _ rfl
      replace hcc2 := Lib.hid hcc2
      have s2 := qput_any wb w0.heap.size _ v2 e2 w2 h2.wq c.sz 8 c.hs (by omega) ⟨by decide, by decide⟩ h2.le hBx
      clear s1 m0 m1 p0 p1 p2 p3 p4 p5 p6 p7
      go_wp2_with fail
      refine (s2).mono ?_; rintro en w3 hqq
      obtain ⟨rfl, v3, e3, h3, i3, t3⟩ := h2.next hqq
      clear hqq
      replace i3 := Lib.hid i3
      have hcc3 : ∀ (j : Nat) u, c.enc[j]? = some u → w3.cell? ⟨wr.heap.size, j, none⟩ = some u := fun j u hu => t3.cell (hcc2.out j u hu) nw n2
      have m2 := hcc3 2 _ rfl
      have m3 := hcc3 3 _ rfl
      have m4 := hcc3 4 _ rfl
      have m5 := hcc3 5 _ rfl
      have m6 := hcc3 6 _ rfl
      have m7 := hcc3 7 _ rfl
      have he3 : e3 = 0 ↔ e1 = 0 := by rw [i3.out, i2.out]; simp
      replace he3 := Lib.hid he3
      clear s2 m1' hcc3 hcc hcc2
      obtain ⟨wo, rfl⟩ : ∃ wo, wo = wr := ⟨_, rfl⟩
      go_wp2_with fail
      go_loopw [89] (fun i wr => ∃ (j : Nat) (v4 : Value) (e4 : Int), j ≤ 2 ∧ i = .int .i64 j ∧ PQ w0 wr cb wb (n + 40 * k + 8 + 8 + 12 * j) ver vg (.slice (some ⟨bw, ow, none⟩) chs.length kc) v4 e4 ∧ (e4 = 0 ↔ e1 = 0 ∧ ([q0, q1].take j).all id = true)) (fun i _ => 2 - (intOf i).toNat)
      case atStart => exact ⟨0, v3, e3, by omega, rfl, h3, by rw [he3.out]; simp⟩
      case round =>
        clear m2 m3 m4 m5 m6 m7
        obtain ⟨j, v4, e4, hj, rfl, hJ, hje⟩ := hrel
        have hj3 : j = 0 ∨ j = 1 ∨ j = 2 := by omega
        rcases hj3 with rfl | rfl | rfl
        · have i0 : ∀ w : World, (Instr.index 74 (.agg #[.int .i64 c.e0.g, .int .i64 c.e0.perm, .int .u64 c.e0.ipa, .int .i64 c.e1.g, .int .i64 c.e1.perm, .int .u64 c.e1.ipa]) (.int .i64 0)).run Tryz.prog w = .ok (.agg #[.int .i64 c.e0.g, .int .i64 c.e0.perm, .int .u64 c.e0.ipa]) w := fun _ => by kernel_rfl
          obtain ⟨U, hU, hUz, hUb, x0, x1, x2⟩ := three_new wr (.int .i64 c.e0.g) (.int .i64 c.e0.perm) (.int .u64 c.e0.ipa) 73
          have hJU := hJ.then hUb
          have nu : wr.heap.size ≠ wb := by have := hJ.wq.lt; omega
          have n4 : v4.ownBlock ≠ some wr.heap.size := fun e => by have := (hJ.wq.own.lt _ e).2; omega
          have s4 := qsmall_any wb w0.heap.size _ v4 e4 U hJU.wq c.e0.g 65535 2 j0 (by omega) ⟨by decide, by decide⟩ hJU.le hBx
          replace hje := Lib.hid hje
          replace hUz := Lib.hid hUz
          subst hU
          go_wp2_with fail
          refine (s4).mono ?_; rintro en w5 hqq
          obtain ⟨rfl, v5, e5, h5, i5, t5⟩ := hJU.next hqq
          clear hqq
          replace i5 := Lib.hid i5
          have y1 := t5.cell x1 nu n4
          have y2 := t5.cell x2 nu n4
          have n5 := (t5.keep (World.block_lt_of_cell? _ _ x1) nu n4).2
          have s5 := qsmall_any wb w0.heap.size _ v5 e5 w5 h5.wq c.e0.perm 7 2 j1 (by omega) ⟨by decide, by decide⟩ h5.le hBx
          clear s4 x0 x1 x2
          go_wp2_with fail
          refine (s5).mono ?_; rintro en w6 hqq
          obtain ⟨rfl, v6, e6, h6, i6, t6⟩ := h5.next hqq
          clear hqq
          replace i6 := Lib.hid i6
          have z2 := t6.cell y2 nu n5
          have s6 := qput_any wb w0.heap.size _ v6 e6 w6 h6.wq c.e0.ipa 8 c.e0.hi (by omega) ⟨by decide, by decide⟩ h6.le hBx
          clear s5 y1 y2
          go_wp2_with fail
          refine (s6).mono ?_; rintro en w7 hqq
          obtain ⟨rfl, v7, e7, h7, i7, t7⟩ := h6.next hqq
          clear hqq
          replace i7 := Lib.hid i7
          have hE : e7 = 0 ↔ e1 = 0 ∧ ([q0, q1].take (0 + 1)).all id = true := by
            have a := hje.out
            rw [i7.out, i6.out, i5.out, a]
            have b0 := hk0.out
            have b1 := hk1.out
            rw [b0, b1]
            simp [and_assoc]
          replace hE := Lib.hid hE
          clear s6 z2
          go_wp2_with fail
          go_roundw
          case rel => exact ⟨0 + 1, v7, e7, by omega, by go_num, by simpa [Nat.add_assoc] using h7, hE.out⟩
          case measure => simp [intOf]
        · have i0 : ∀ w : World, (Instr.index 74 (.agg #[.int .i64 c.e0.g, .int .i64 c.e0.perm, .int .u64 c.e0.ipa, .int .i64 c.e1.g, .int .i64 c.e1.perm, .int .u64 c.e1.ipa]) (.int .i64 1)).run Tryz.prog w = .ok (.agg #[.int .i64 c.e1.g, .int .i64 c.e1.perm, .int .u64 c.e1.ipa]) w := fun _ => by kernel_rfl
          obtain ⟨U, hU, hUz, hUb, x0, x1, x2⟩ := three_new wr (.int .i64 c.e1.g) (.int .i64 c.e1.perm) (.int .u64 c.e1.ipa) 73
          have hJU := hJ.then hUb
          have nu : wr.heap.size ≠ wb := by have := hJ.wq.lt; omega
          have n4 : v4.ownBlock ≠ some wr.heap.size := fun e => by have := (hJ.wq.own.lt _ e).2; omega
          have s4 := qsmall_any wb w0.heap.size _ v4 e4 U hJU.wq c.e1.g 65535 2 j2 (by omega) ⟨by decide, by decide⟩ hJU.le hBx
          replace hje := Lib.hid hje
          replace hUz := Lib.hid hUz
          subst hU
          go_wp2_with fail
          refine (s4).mono ?_; rintro en w5 hqq
          obtain ⟨rfl, v5, e5, h5, i5, t5⟩ := hJU.next hqq
          clear hqq
          replace i5 := Lib.hid i5
          have y1 := t5.cell x1 nu n4
          have y2 := t5.cell x2 nu n4
          have n5 := (t5.keep (World.block_lt_of_cell? _ _ x1) nu n4).2
          have s5 := qsmall_any wb w0.heap.size _ v5 e5 w5 h5.wq c.e1.perm 7 2 j3 (by omega) ⟨by decide, by decide⟩ h5.le hBx
          clear s4 x0 x1 x2
          go_wp2_with fail
          refine (s5).mono ?_; rintro en w6 hqq
          obtain ⟨rfl, v6, e6, h6, i6, t6⟩ := h5.next hqq
          clear hqq
          replace i6 := Lib.hid i6
          have z2 := t6.cell y2 nu n5
          have s6 := qput_any wb w0.heap.size _ v6 e6 w6 h6.wq c.e1.ipa 8 c.e1.hi (by omega) ⟨by decide, by decide⟩ h6.le hBx
          clear s5 y1 y2
          go_wp2_with fail
          refine (s6).mono ?_; rintro en w7 hqq
          obtain ⟨rfl, v7, e7, h7, i7, t7⟩ := h6.next hqq
          clear hqq
          replace i7 := Lib.hid i7
          have hE : e7 = 0 ↔ e1 = 0 ∧ ([q0, q1].take (1 + 1)).all id = true := by
            have a := hje.out
            rw [i7.out, i6.out, i5.out, a]
            have b0 := hk0.out
            have b1 := hk1.out
            rw [b0, b1]
            simp [and_assoc]
          replace hE := Lib.hid hE
          clear s6 z2
          go_wp2_with fail
          go_roundw
          case rel => exact ⟨1 + 1, v7, e7, by omega, by go_num, by simpa [Nat.add_assoc] using h7, hE.out⟩
          case measure => simp [intOf]
        · have hE : e4 = 0 ↔ e1 = 0 ∧ qk = true := by rw [hje, hok.out]; simp
          have hE2 := hnx.out e4 qk hE rfl
          replace hE2 := Lib.hid hE2
          replace hje := Lib.hid hje
          clear hE
          go_wp2_with fail
          go_roundw
          case rel => exact ⟨k + 1, v4, e4, hlt, by go_num, by rw [show n + 40 * (k + 1) = n + 40 * k + 8 + 8 + 12 * 2 by omega]; exact hJ, hE2.out⟩
          case measure => simp [intOf]; omega
    · obtain rfl : k = chs.length := by omega
      rw [List.take_length] at hie
      have hqn : e1 = 0 ↔ putOk gs chs = true := by rw [hie]; exact hq.out
      replace hqn := Lib.hid hqn
      replace hie := Lib.hid hie
      go_upto_region 999 with ((with_reducible show Code.wp _ _ (bodyPost _ _ _) _ _); exact rpt11 _ _ _ _ _ _ _ _ _ _ _ _ _ _ _ _ _ _ _ _ _ _ _ _ _ _ _ _ _ _ _ _ _ _ _ _ _ _ _ _ _ _ _ _ _ _ _ _ _ _ _ _ _ _ _ _ _ _ _ _ _ _ _ _ _ _ _ _ _ _ _ _ _ _ _ _ _ _ _ _ _ _ _ _ _ _ _ _ _ _ _ _ _ _ _ _ _ _ _ _ _ _ _ _ _ _ _ _ _ _ _ _ _ _ _ _ _ _ _ _ _ _ _ _ _ hI hBx (by omega) hqn.out)
set_option maxRecDepth 100000 in
set_option maxHeartbeats 8000000 in
theorem rpt9 (u0 u2 u3 u5 u6 u7 u8 u9 u10 u11 u12 u13 u14 u15 u16 u17 u18 u19 u20 u21 u22 u23 u24 u25 u26 u27 u28 u29 u30 u31 u32 u33 u34 u35 u36 u37 u38 u39 u40 u41 u42 u43 u44 u45 u46 u47 u48 u49 u50 u51 u52 u53 u54 u55 u56 u57 u58 u59 u60 u61 u62 u63 u64 u65 u66 u67 u68 u69 u70 u71 u72 u73 u74 u75 u76 u77 u78 u79 u80 u81 u82 u83 u84 u85 u86 u87 u88 u89 u90 u91 u92 u93 u94 u95 u96 u97 u98 u99 u100 u101 u102 u103 u104 u105 u106 u107 u108 u109 u110 u111 u112 u113 u114 u115 u116 u117 u118 u119 u120 u121 u122 u123 u124 u125 u126 : Value) {w0 W : World} {cb wb n : Nat} {ver : Int} {vg vc v : Value} {e : Int} {gs : List GuestV} {chs : List ChV}
    (h : PQ w0 W cb wb n ver vg vc v e) (hBx : w0.heap.size ≤ wb) (hn : n ≤ 100) (hG : RowG w0 vg gs) (hC : RowC w0 vc chs) (hcl : chs.length ≤ 32) (hgl : gs.length ≤ 16) (hns : ∀ g ∈ gs, g.name.size ≤ 1000000) (hst : ∀ t ∈ gs, t.str.length ≤ 100000 ∧ t.irq.length ≤ 100000 ∧ t.dev.length ≤ 100000 ∧ t.win.length ≤ 100000)
    (hq : (e = 0 ∧ (gs.all gOk && chs.all okC) = true) ↔ putOk gs chs = true) :
    (tailC 9 (Tryz.f13.body.getD .skip)).wp Tryz.prog (bodyPost Tryz.prog Tryz.f13 (PPq w0 gs chs)) ⟨List.toArray (u0 :: .pointer (some ⟨cb, 0, none⟩) :: u2 :: u3 :: .pointer (some ⟨wb, 0, none⟩) :: u5 :: u6 :: u7 :: u8 :: u9 :: u10 :: u11 :: u12 :: u13 :: u14 :: u15 :: u16 :: u17 :: u18 :: u19 :: u20 :: u21 :: u22 :: u23 :: u24 :: u25 :: u26 :: u27 :: u28 :: u29 :: u30 :: u31 :: u32 :: u33 :: u34 :: u35 :: u36 :: u37 :: u38 :: u39 :: u40 :: u41 :: u42 :: u43 :: u44 :: u45 :: u46 :: u47 :: u48 :: u49 :: u50 :: u51 :: u52 :: u53 :: u54 :: u55 :: u56 :: u57 :: u58 :: u59 :: u60 :: u61 :: u62 :: u63 :: u64 :: u65 :: u66 :: u67 :: u68 :: u69 :: u70 :: u71 :: u72 :: u73 :: u74 :: u75 :: u76 :: u77 :: u78 :: u79 :: u80 :: u81 :: u82 :: u83 :: u84 :: u85 :: u86 :: u87 :: u88 :: u89 :: u90 :: u91 :: u92 :: u93 :: u94 :: u95 :: u96 :: u97 :: u98 :: u99 :: u100 :: u101 :: u102 :: u103 :: u104 :: u105 :: u106 :: u107 :: u108 :: u109 :: u110 :: u111 :: u112 :: u113 :: u114 :: u115 :: u116 :: u117 :: u118 :: u119 :: u120 :: u121 :: u122 :: u123 :: u124 :: u125 :: u126 :: []), []⟩ W := by
  obtain ⟨ag, kg, rfl, hg3, hg4, hg5⟩ := hG
  have d1 := h.cc 1 _ rfl
  replace hq := Lib.hid hq
  replace hns := Lib.hid hns
  replace hst := Lib.hid hst
  conv => arg 2; whnf
  go_wp2_with fail
  go_loopw [55] (fun i wr => ∃ (k : Nat) (v1 : Value) (e1 : Int) (m : Nat), k ≤ gs.length ∧ i = .int .i64 k ∧ m ≤ n + 1600 * k ∧ PQ w0 wr cb wb m ver (.slice ag gs.length kg) vc v1 e1 ∧ (e1 = 0 ↔ e = 0 ∧ (gs.take k).all gOk = true)) (fun i _ => gs.length - (intOf i).toNat)
  case atStart => exact ⟨0, v, e, n, Nat.zero_le _, rfl, by omega, h, by simp⟩
  case round =>
    obtain ⟨k, v1, e1, m, hk, rfl, hm, hI, hie⟩ := hrel
    by_cases hlt : k < gs.length
    · obtain ⟨q, off, rfl, hbl, hcl2⟩ := hg5 (by intro e; rw [e] at hlt; simp at hlt)
      obtain ⟨cs, hR, hcsl, hcell⟩ := hcl2 k hlt
      have hce : ∀ i u, cs[i]? = some u → wr.cell? ⟨q, off + k * 79 + i, none⟩ = some u := fun i u hu => cell_lt hI.bl (hcell i u hu) hbl
      have hsl : cs.toArray.size = 79 := by simpa using hcsl
      have hone := hR.one hcsl
      have hnx := fun (e'' : Int) (q : Bool) (hj : e'' = 0 ↔ e1 = 0 ∧ q = true) (hq : q = gOk gs[k]) => all_next hlt hie hj hq
      have hmem := List.getElem_mem hlt
      have hnk := hns.out _ hmem
      have hsk := hst.out _ hmem
      have hno : gOk gs[k] = false → gs.all gOk = false := fun h => all_false hlt h
      obtain ⟨V, hV⟩ : ∃ V, V = wr.alloc (.cells cs.toArray 50) := ⟨_, rfl⟩
      have hVb : Below wr.heap.size wr V := by rw [hV]; exact bone _ _
      have hVz : V.heap.size = wr.heap.size + 1 := by rw [hV]; simp
      have hnew : ∀ i u, cs[i]? = some u → V.cell? ⟨wr.heap.size, 0 + i, none⟩ = some u := fun i u hu => by rw [hV, Nat.zero_add, World.cell?_alloc_new]; simpa using hu
      have hIV := hI.then hVb
      have hgu := rguest_any w0 wb m v1 e1 gs[k] cs V hR hcsl hIV.wq hIV.bl hBx (by omega) hnk hsk
      clear hcl2 hcell hmem hns hst hR
      generalize gs[k] = t at *
      replace hV := Lib.hid hV
      replace hVz := Lib.hid hVz
      replace hcsl := Lib.hid hcsl
      replace hsl := Lib.hid hsl
      replace hce := Lib.hid hce
      replace hone := Lib.hid hone
      replace hnew := Lib.hid hnew
      replace hgu := Lib.hid hgu
      replace hie := Lib.hid hie
      replace hnx := Lib.hid hnx
      replace hno := Lib.hid hno
      replace hsk := Lib.hid hsk
      go_upto_region 13 with (first | (refine wpl_load_x rfl 50 _ rfl q (off + k * 79) 79 cs Tryz.underlying50 rfl guest_size rfl hcsl.out hce.out ?_) | (refine wpl_alloc_x rfl 50 rfl zGuest_info ?_) | (refine wpl_store_x rfl 50 _ _ rfl (by rw [hsl.out]; exact guest_size) (by rw [hsl.out]; rfl) hone.out rfl rfl ?_))
      rw [← hV.out]
      clear hV hce
      go_wp2_with (refine wpl_load_x rfl 50 _ rfl wr.heap.size 0 79 cs Tryz.underlying50 rfl guest_size rfl hcsl.out hnew.out ?_)
      refine hgu.out.mono ?_; rintro en w2 ⟨rfl, v2, e2, m2, hm2, hw2, i2, t2⟩
      have h2 := hIV.of hw2 t2
      have c1 := h2.wq.c1
      clear hgu hnew
      by_cases he : e2 = 0
      · have he' : (e2 != 0) = false := by simpa using he
        have hE := hnx.out e2 (gOk t) i2 rfl
        replace hE := Lib.hid hE
        replace i2 := Lib.hid i2
        replace he := Lib.hid he
        go_wp2_with fail
        go_roundw
        case rel => exact ⟨k + 1, v2, e2, m2, hlt, by go_num, by omega, h2, hE.out⟩
        case measure => simp [intOf]; omega
      · have he' : (e2 != 0) = true := by simpa using he
        have hE := hnx.out e2 (gOk t) i2 rfl
        have hf : e2 = 0 ↔ putOk gs chs = true := by
          rw [← hq.out, Bool.and_eq_true, ← and_assoc]
          exact ⟨fun h => absurd h he, fun h => absurd (hE.2 ⟨h.1.1, by
            have := h.1.2
            rw [List.all_eq_true] at this ⊢
            exact fun x hx => this x (List.mem_of_mem_take hx)⟩) he⟩
        replace hf := Lib.hid hf
        clear hE
        replace i2 := Lib.hid i2
        replace he := Lib.hid he
        have hwl := h2.wq.lt
        have hbl2 := h2.bl
        have y1 := later_cell (B := w2.heap.size) c1 hwl
        go_wp2_with fail
        refine region_later w2.heap.size w2 (Below.refl _ _) (by kernel_rfl) (by kernel_rfl) ?_
        repeat (change wpQuiet _ _ _ _ (List.cons _ _) _; go_big_quiet_step (fail))
        refine wpQuiet_nil ?_
        rintro w3 ⟨X, rfl⟩
        have hX := X.h
        go_wp2_with fail
        go_ret2
        exact ⟨⟨_, _, rfl, hf.out⟩, hbl2.trans (hX.mono hbl2.size)⟩
    · obtain rfl : k = gs.length := by omega
      rw [List.take_length] at hie
      have hqn : (e1 = 0 ∧ chs.all okC = true) ↔ putOk gs chs = true := by rw [hie, and_assoc, ← Bool.and_eq_true]; exact hq.out
      replace hqn := Lib.hid hqn
      replace hie := Lib.hid hie
      go_upto_region 999 with ((with_reducible show Code.wp _ _ (bodyPost _ _ _) _ _); exact rpt10 _ _ _ _ _ _ _ _ _ _ _ _ _ _ _ _ _ _ _ _ _ _ _ _ _ _ _ _ _ _ _ _ _ _ _ _ _ _ _ _ _ _ _ _ _ _ _ _ _ _ _ _ _ _ _ _ _ _ _ _ _ _ _ _ _ _ _ _ _ _ _ _ _ _ _ _ _ _ _ _ _ _ _ _ _ _ _ _ _ _ _ _ _ _ _ _ _ _ _ _ _ _ _ _ _ _ _ _ _ _ _ _ _ _ _ _ _ _ _ _ _ _ _ _ _ hI hBx (by omega) hC hcl hqn.out)
theorem putOk_parts (gs : List GuestV) (chs : List ChV) : putOk gs chs = ((decide (1 ≤ gs.length ∧ gs.length ≤ 16) && decide (chs.length ≤ 32)) && (gs.all gOk && chs.all okC)) := rfl
set_option maxRecDepth 100000 in
set_option maxHeartbeats 8000000 in
theorem refPut14_any (ver : Int) (vg vc : Value) (gs : List GuestV) (chs : List ChV) (w : World) (hv : U32 ver) (hG : RowG w vg gs) (hC : RowC w vc chs) (hns : ∀ g ∈ gs, g.name.size ≤ 1000000) (hst : ∀ t ∈ gs, t.str.length ≤ 100000 ∧ t.irq.length ≤ 100000 ∧ t.dev.length ≤ 100000 ∧ t.win.length ≤ 100000) :
    Calls Tryz.prog 13 #[.agg #[.int .u32 ver, vg, vc]] w fun e w' => (∃ v n', e = .returned (.tuple #[v, .int .i64 n']) ∧ (n' = 0 ↔ putOk gs chs = true)) ∧ Below w.heap.size w w' := by
  change Calls _ _ _ _ (PPq w gs chs)
  have hG0 := hG
  have hC0 := hC
  obtain ⟨ag, kg, rfl⟩ := hG.slice
  obtain ⟨ac, kc, rfl⟩ := hC.slice
  obtain ⟨W1, hW1⟩ : ∃ W1, W1 = w.alloc (.cells #[.int .u32 ver, .slice ag gs.length kg, .slice ac chs.length kc] 31) := ⟨_, rfl⟩
  have hb1 : Below w.heap.size w W1 := by rw [hW1]; exact bone _ _
  have hz1 : W1.heap.size = w.heap.size + 1 := by rw [hW1]; simp
  have hcc : ∀ (j : Nat) u, [.int .u32 ver, .slice ag gs.length kg, .slice ac chs.length kc][j]? = some u → W1.cell? ⟨w.heap.size, j, none⟩ = some u := fun j u hu => by
    rw [hW1, World.cell?_alloc_new]; simpa using hu
  have hoc : putOk gs chs = ((decide (1 ≤ gs.length ∧ gs.length ≤ 16) && decide (chs.length ≤ 32)) && (gs.all gOk && chs.all okC)) := putOk_parts gs chs
  have hno : ¬ (1 ≤ gs.length ∧ gs.length ≤ 16 ∧ chs.length ≤ 32) → putOk gs chs = false := fun h => by
    rw [hoc]
    by_cases a : 1 ≤ gs.length ∧ gs.length ≤ 16
    · rw [decide_eq_false (show ¬ chs.length ≤ 32 by omega)]; simp
    · rw [decide_eq_false a]; simp
  have d1 := hcc 1 _ rfl
  have d2 := hcc 2 _ rfl
  rw [hW1] at d1 d2
  have hbn : Below w.heap.size w (w.alloc (.cells #[.int .u32 ver, .slice ag gs.length kg, .slice ac chs.length kc] 31)) := bone _ _
  by_cases hok : 1 ≤ gs.length ∧ gs.length ≤ 16 ∧ chs.length ≤ 32
  case neg =>
    have hf := hno hok
    clear hno hoc
    replace hf := Lib.hid hf
    have main : (gs.length < 1) ∨ (¬ gs.length < 1 ∧ gs.length > 16) ∨ (¬ gs.length < 1 ∧ ¬ gs.length > 16 ∧ chs.length > 32) := by omega
    clear hok hW1 hz1 hcc
    rcases main with a1 | ⟨a1, a2⟩ | ⟨a1, a2, a3⟩
    · have b1 : (gs.length : Int) < 1 := by omega
      clear a1
      go_enter Tryz.func13, Tryz.ntmps13
      go_wp2_with fail
      go_ret2
      exact ⟨⟨_, _, rfl, by rw [hf.out]; simp⟩, hbn⟩
    · have b1 : ¬ (gs.length : Int) < 1 := by omega
      have b2 : (gs.length : Int) > 16 := by omega
      clear a1 a2
      go_enter Tryz.func13, Tryz.ntmps13
      go_wp2_with fail
      go_ret2
      exact ⟨⟨_, _, rfl, by rw [hf.out]; simp⟩, hbn⟩
    · have b1 : ¬ (gs.length : Int) < 1 := by omega
      have b2 : ¬ (gs.length : Int) > 16 := by omega
      have b3 : (chs.length : Int) > 32 := by omega
      clear a1 a2 a3
      go_enter Tryz.func13, Tryz.ntmps13
      go_wp2_with fail
      go_ret2
      exact ⟨⟨_, _, rfl, by rw [hf.out]; simp⟩, hbn⟩
  obtain ⟨k1, k2, k3⟩ := hok
  rw [decide_eq_true (⟨k1, k2⟩ : 1 ≤ gs.length ∧ gs.length ≤ 16), decide_eq_true k3, Bool.true_and, Bool.true_and] at hoc
  have b1 : ¬ (gs.length : Int) < 1 := by omega
  have b2 : ¬ (gs.length : Int) > 16 := by omega
  have b3 : ¬ (chs.length : Int) > 32 := by omega
  obtain ⟨W2, hW2⟩ : ∃ W2, W2 = W1.alloc (.cells #[.slice none 0 0, .int .i64 0] 91) := ⟨_, rfl⟩
  have hb2 : Below W1.heap.size W1 W2 := by rw [hW2]; exact bone _ _
  have hz2 : W2.heap.size = w.heap.size + 2 := by rw [hW2]; simp; omega
  have hP : PQ w W2 w.heap.size (w.heap.size + 1) 0 ver (.slice ag gs.length kg) (.slice ac chs.length kc) (.slice none 0 0) 0 :=
    ⟨⟨by rw [hW2, ← hz1]; exact World.alloc_heap_new W1 _, ⟨[], World.ownsRow_nil _ _ _ _, by simp⟩, fun _ => rfl⟩, hb1.trans (hb2.mono hb1.size), fun j u hu => cell_lt hb2 (hcc j u hu) (by omega), by omega, by simp [Value.ownBlock], by omega⟩
  rw [hW1] at hW2
  have D0 : ∀ (X : World) (n : Nat) (v : Value) (e : Int), PQ w X w.heap.size (w.heap.size + 1) n ver (.slice ag gs.length kg) (.slice ac chs.length kc) v e → X.cell? ⟨w.heap.size, 0, none⟩ = some (.int .u32 ver) ∧ X.cell? ⟨w.heap.size, 1, none⟩ = some (.slice ag gs.length kg) ∧ X.cell? ⟨w.heap.size, 2, none⟩ = some (.slice ac chs.length kc) := fun X n v e h => ⟨h.cc 0 _ rfl, h.cc 1 _ rfl, h.cc 2 _ rfl⟩
  have hBx : w.heap.size ≤ w.heap.size + 1 := by omega
  have g1 : W64 (gs.length : Int) := ⟨by omega, by omega⟩
  have g2 : W64 (chs.length : Int) := ⟨by omega, by omega⟩
  have g3 : W64 ver := ⟨hv.1, by have := hv.2; omega⟩
  have f1 : IntKind.u64.wrap (gs.length : Int) = gs.length := by rw [IntKind.wrap_u64]; omega
  have f2 : IntKind.u64.wrap (chs.length : Int) = chs.length := by rw [IntKind.wrap_u64]; omega
  have f3 : IntKind.u64.wrap ver = ver := by have := hv.1; have := hv.2; rw [IntKind.wrap_u64]; omega
  clear hW1 hb1 hb2 hcc hno hbn hz1 k1
  replace hoc := Lib.hid hoc
  replace hW2 := Lib.hid hW2
  replace hz2 := Lib.hid hz2
  replace D0 := Lib.hid D0
  replace hns := Lib.hid hns
  replace hst := Lib.hid hst
  go_enter Tryz.func13, Tryz.ntmps13
  go_wp2_with fail
  rw [← hW2.out]
  clear d1 d2
  refine (qput_any (w.heap.size + 1) w.heap.size 0 _ 0 W2 hP.wq 1111705159 4 ⟨by decide, by decide⟩ (by omega) ⟨by decide, by decide⟩ hP.le hBx).mono ?_; rintro en w1 hqq
  obtain ⟨rfl, v1, e1, h1, i1, t1⟩ := hP.next hqq
  clear hqq
  replace i1 := Lib.hid i1
  go_wp2_with fail
  refine (qput_any (w.heap.size + 1) w.heap.size _ _ _ w1 h1.wq 1 2 ⟨by decide, by decide⟩ (by omega) ⟨by decide, by decide⟩ h1.le hBx).mono ?_; rintro en w2 hqq
  obtain ⟨rfl, v2, e2, h2, i2, t2⟩ := h1.next hqq
  clear hqq
  replace i2 := Lib.hid i2
  obtain ⟨c20, c21, c22⟩ := D0.out _ _ _ _ h2
  go_wp2_with fail
  refine (qput_any (w.heap.size + 1) w.heap.size _ _ _ w2 h2.wq gs.length 2 g1 (by omega) ⟨by decide, by decide⟩ h2.le hBx).mono ?_; rintro en w3 hqq
  obtain ⟨rfl, v3, e3, h3, i3, t3⟩ := h2.next hqq
  clear hqq c20 c21 c22
  replace i3 := Lib.hid i3
  obtain ⟨c30, c31, c32⟩ := D0.out _ _ _ _ h3
  go_wp2_with fail
  refine (qput_any (w.heap.size + 1) w.heap.size _ _ _ w3 h3.wq chs.length 2 g2 (by omega) ⟨by decide, by decide⟩ h3.le hBx).mono ?_; rintro en w4 hqq
  obtain ⟨rfl, v4, e4, h4, i4, t4⟩ := h3.next hqq
  clear hqq c30 c31 c32
  replace i4 := Lib.hid i4
  go_wp2_with fail
  refine (qput_any (w.heap.size + 1) w.heap.size _ _ _ w4 h4.wq 0 2 ⟨by decide, by decide⟩ (by omega) ⟨by decide, by decide⟩ h4.le hBx).mono ?_; rintro en w5 hqq
  obtain ⟨rfl, v5, e5, h5, i5, t5⟩ := h4.next hqq
  clear hqq
  replace i5 := Lib.hid i5
  obtain ⟨c50, c51, c52⟩ := D0.out _ _ _ _ h5
  go_wp2_with fail
  refine (qput_any (w.heap.size + 1) w.heap.size _ _ _ w5 h5.wq ver 4 g3 (by omega) ⟨by decide, by decide⟩ h5.le hBx).mono ?_; rintro en w6 hqq
  obtain ⟨rfl, v6, e6, h6, i6, t6⟩ := h5.next hqq
  clear hqq c50 c51 c52
  have hqn : (e6 = 0 ∧ (gs.all gOk && chs.all okC) = true) ↔ putOk gs chs = true := by
    rw [hoc.out, i6, i5.out, i4.out, i3.out, i2.out, i1.out]; simp
  replace hqn := Lib.hid hqn
  replace i6 := Lib.hid i6
  go_upto_region 999 with ((with_reducible show Code.wp _ _ (bodyPost _ _ _) _ _); exact rpt9 _ _ _ _ _ _ _ _ _ _ _ _ _ _ _ _ _ _ _ _ _ _ _ _ _ _ _ _ _ _ _ _ _ _ _ _ _ _ _ _ _ _ _ _ _ _ _ _ _ _ _ _ _ _ _ _ _ _ _ _ _ _ _ _ _ _ _ _ _ _ _ _ _ _ _ _ _ _ _ _ _ _ _ _ _ _ _ _ _ _ _ _ _ _ _ _ _ _ _ _ _ _ _ _ _ _ _ _ _ _ _ _ _ _ _ _ _ _ _ _ _ _ _ _ _ h6 hBx (by omega) hG0 hC0 k3 k2 hns.out hst.out hqn.out)
end Go.Proofs.YtffdfeekpfmbeaaGreat
/- The reference's Fit. -/
namespace Go.Proofs.YtffdfeekpfmbeaaGreat
open Go Go.RowKit Go.BigFrame

def fitN (b : BrdV) : Bool := decide (0 ≤ b.irqs ∧ b.irqs ≤ 1020) && (decide (0 ≤ b.strs ∧ b.strs ≤ 256) && decide (1 ≤ b.cpus ∧ b.cpus ≤ 32))
theorem num_cases (b : BrdV) :
    ((b.irqs < 0) ∧ fitN b = false) ∨ (¬ b.irqs < 0 ∧ b.irqs > 1020 ∧ fitN b = false) ∨ (¬ b.irqs < 0 ∧ ¬ b.irqs > 1020 ∧ b.strs < 0 ∧ fitN b = false) ∨ (¬ b.irqs < 0 ∧ ¬ b.irqs > 1020 ∧ ¬ b.strs < 0 ∧ b.strs > 256 ∧ fitN b = false) ∨
    (¬ b.irqs < 0 ∧ ¬ b.irqs > 1020 ∧ ¬ b.strs < 0 ∧ ¬ b.strs > 256 ∧ b.cpus < 1 ∧ fitN b = false) ∨ (¬ b.irqs < 0 ∧ ¬ b.irqs > 1020 ∧ ¬ b.strs < 0 ∧ ¬ b.strs > 256 ∧ ¬ b.cpus < 1 ∧ b.cpus > 32 ∧ fitN b = false) ∨
    (¬ b.irqs < 0 ∧ ¬ b.irqs > 1020 ∧ ¬ b.strs < 0 ∧ ¬ b.strs > 256 ∧ ¬ b.cpus < 1 ∧ ¬ b.cpus > 32 ∧ fitN b = true) := by
  by_cases h : fitN b = true
  · rw [h]
    unfold fitN at h
    simp only [Bool.and_eq_true, decide_eq_true_eq] at h
    simp
    omega
  · rw [Bool.not_eq_true] at h
    rw [h]
    unfold fitN at h
    simp only [Bool.and_eq_false_iff, decide_eq_false_iff_not] at h
    simp
    omega
set_option maxRecDepth 100000 in
set_option maxHeartbeats 4000000 in
theorem refFit_any (b : BrdV) (w : World) : Calls Tryz.prog 12 #[.agg b.enc.toArray] w fun e w' => e = .returned (.int .i64 (if fitV b = true then 0 else 282)) ∧ Below w.heap.size w w' := by
  have hp := fun W => refPages_any b.ram W
  have hp2 := fun W => refPages_any b.ldr W
  have hl := fun W => refLast_any b.ram.a b.ram.b W b.ram.ha b.ram.hb
  have hwi := fun W => refWithin_any b.ldr.a b.ldr.b b.ram.a b.ram.b W b.ldr.ha b.ldr.hb b.ram.ha b.ram.hb
  have hN := num_cases b
  have hfe : fitV b = ((!(pageBad b.ram) && (!(pageBad b.ldr) && (decide (lastV b.ram.a b.ram.b < 1099511627776) && withinB b.ldr.a b.ldr.b b.ram.a b.ram.b))) && fitN b) := rfl
  unfold BrdV.enc
  obtain ⟨r, hr⟩ : ∃ r : Int, (if fitV b = true then (0 : Int) else 282) = r := ⟨_, rfl⟩
  rw [hr]
  have hr0 : fitV b = false → r = 282 := fun h => by rw [← hr, h]; rfl
  have hr1 : fitV b = true → r = 0 := fun h => by rw [← hr, h]; rfl
  clear hr
  generalize (!(pageBad b.ram)) = q1 at *
  generalize (!(pageBad b.ldr)) = q2 at *
  generalize lastV b.ram.a b.ram.b = L at *
  generalize withinB b.ldr.a b.ldr.b b.ram.a b.ram.b = q3 at *
  generalize fitN b = q4 at *
  generalize fitV b = z at *
  obtain ⟨W1, hW1⟩ : ∃ W1, W1 = w.alloc (.cells #[.int .u64 b.ram.a, .int .u64 b.ram.b, .int .u64 b.ldr.a, .int .u64 b.ldr.b, .int .i64 b.irqs, .int .i64 b.strs, .int .i64 b.cpus] 26) := ⟨_, rfl⟩
  have hb1 : Below w.heap.size w W1 := by rw [hW1]; exact bone _ _
  have hz1 : w.heap.size < W1.heap.size := by rw [hW1]; simp
  have key : ∀ (j : Nat) (u : Value), #[.int .u64 b.ram.a, .int .u64 b.ram.b, .int .u64 b.ldr.a, .int .u64 b.ldr.b, .int .i64 b.irqs, .int .i64 b.strs, .int .i64 b.cpus][j]? = some u → ∀ W2, Below W1.heap.size W1 W2 → W2.cell? ⟨w.heap.size, j, none⟩ = some u := fun j u h W2 h2 => cell_lt h2 (by rw [hW1]; simp only [World.cell?_alloc_new]; exact h) hz1
  replace key := Lib.hid key
  replace hr0 := Lib.hid hr0
  replace hr1 := Lib.hid hr1
  replace hW1 := Lib.hid hW1
  replace hN := Lib.hid hN
  replace hfe := Lib.hid hfe
  have c0 := key.out 0 _ rfl _ (Below.refl _ _)
  have c1 := key.out 1 _ rfl _ (Below.refl _ _)
  rw [hW1.out] at c0 c1
  go_enter Tryz.func12, Tryz.ntmps12
  go_wp2_with fail
  rw [← hW1.out]
  refine (hp _).mono ?_; rintro e w2 ⟨rfl, hb2⟩
  clear c0 c1
  cases q1
  case false =>
    have hz : z = false := by rw [hfe.out]; rfl
    have hrr := hr0.out hz
    clear hr0 hr1 hfe
    subst hz
    subst hrr
    go_wp2_with fail
    all_goals go_ret
    all_goals exact ⟨rfl, bthen hb1 hb2⟩
  have c2 := key.out 2 _ rfl _ hb2
  have c3 := key.out 3 _ rfl _ hb2
  go_wp2_with fail
  refine (hp2 _).mono ?_; rintro e w3 ⟨rfl, hb3⟩
  replace hb2 := bthen hb2 hb3
  clear hb3 c2 c3
  cases q2
  case false =>
    have hz : z = false := by rw [hfe.out]; rfl
    have hrr := hr0.out hz
    clear hr0 hr1 hfe
    subst hz
    subst hrr
    go_wp2_with fail
    all_goals go_ret
    all_goals exact ⟨rfl, bthen hb1 hb2⟩
  have c0 := key.out 0 _ rfl _ hb2
  have c1 := key.out 1 _ rfl _ hb2
  go_wp2_with fail
  refine (hl _).mono ?_; rintro e w4 ⟨rfl, hb3⟩
  replace hb2 := bthen hb2 hb3
  clear hb3 c0 c1
  by_cases hL : L < 1099511627776
  case neg =>
    have hL' : L ≥ 1099511627776 := by omega
    have hz : z = false := by rw [hfe.out, decide_eq_false hL]; rfl
    have hrr := hr0.out hz
    clear hr0 hr1 hfe
    subst hz
    subst hrr
    go_wp2_with fail
    all_goals go_ret
    all_goals exact ⟨rfl, bthen hb1 hb2⟩
  have hL' : ¬ L ≥ 1099511627776 := by omega
  have hfe2 : z = (q3 && q4) := by rw [hfe.out, decide_eq_true hL]; rfl
  replace hfe2 := Lib.hid hfe2
  have c0 := key.out 0 _ rfl _ hb2
  have c1 := key.out 1 _ rfl _ hb2
  have c2 := key.out 2 _ rfl _ hb2
  have c3 := key.out 3 _ rfl _ hb2
  go_wp2_with fail
  refine (hwi _).mono ?_; rintro e w5 ⟨rfl, hb3⟩
  replace hb2 := bthen hb2 hb3
  clear hb3 c0 c1 c2 c3
  cases q3
  case false =>
    have hz : z = false := by rw [hfe2.out]; rfl
    have hrr := hr0.out hz
    clear hr0 hr1 hfe
    subst hz
    subst hrr
    go_wp2_with fail
    all_goals go_ret
    all_goals exact ⟨rfl, bthen hb1 hb2⟩
  have c4 := key.out 4 _ rfl _ hb2
  have c5 := key.out 5 _ rfl _ hb2
  have c6 := key.out 6 _ rfl _ hb2
  rcases hN.out with ⟨a1, hq⟩ | ⟨a1, a2, hq⟩ | ⟨a1, a2, a3, hq⟩ | ⟨a1, a2, a3, a4, hq⟩ | ⟨a1, a2, a3, a4, a5, hq⟩ | ⟨a1, a2, a3, a4, a5, a6, hq⟩ | ⟨a1, a2, a3, a4, a5, a6, hq⟩
  all_goals
    (
      have hz := hfe2.out
      rw [hq] at hz
      have hz' : z = false ∨ z = true := by cases z <;> simp
      have hrr : r = if z = true then 0 else 282 := by
        rcases hz' with e | e
        · rw [hr0.out e, e]; rfl
        · rw [hr1.out e, e]; rfl
      rw [hz] at hrr
      clear hfe hfe2 hN hq hr0 hr1 hz' hz
      simp at hrr
      subst hrr
      go_wp2_with fail
      all_goals first
        | (exfalso; omega)
        | (go_ret
           exact ⟨rfl, bthen hb1 hb2⟩))
end Go.Proofs.YtffdfeekpfmbeaaGreat
