/- The walk of desc.Of. Conditions: words are of 64 bits; the library's table for trailing zeros is as its initialiser lays it. -/
import Derived.Test.YtdlpgonpikflfaaDoorDescC
namespace Go.Proofs.YtdlpgonpikflfaaDoor
open Go.RowKit

def perm1 (a : Int) : Int := if bitV a 6 = true then bits BinOp.or IntKind.i64 0 1 else 0
def perm2 (a : Int) : Int := if bitV a 7 = true then bits BinOp.or IntKind.i64 (perm1 a) 2 else perm1 a
def perm3 (a : Int) : Int := if bitV a 54 = true then perm2 a else bits BinOp.or IntKind.i64 (perm2 a) 4
def memV (a : Int) : Int := if fldV a 5 4 = 0 then 1 else 0
theorem memV_yes {a : Int} (h : (fldV a 5 4 == 0) = true) : memV a = 1 := by unfold memV; rw [if_pos (by simpa using h)]
theorem memV_no {a : Int} (h : (fldV a 5 4 == 0) = false) : memV a = 0 := by unfold memV; rw [if_neg (by simpa using h)]
/-- What a leaf says. -/
def leafV (l a : Int) : DescV := ⟨if l = 3 then 3 else 2, fromV a (39 - 9 * l), perm3 a, memV a, bitV a 10⟩
def zeroV : DescV := ⟨0, 0, 0, 0, false⟩
def ofV (l a : Int) : DescV :=
  if szV l = 0 ∨ bitV a 0 = false ∨ (l = 3 ∧ bitV a 1 = false) then zeroV
  else if l < 3 ∧ bitV a 1 = true then ⟨1, fromV a 12, 0, 0, false⟩ else leafV l a

theorem szV_ne {l : Int} (h : l = 1 ∨ l = 2 ∨ l = 3) : (szV l == 0) = false ∧ szV l ≠ 0 := by
  rcases h with rfl | rfl | rfl <;> decide
theorem szV_no {l : Int} (h : ¬ (l = 1 ∨ l = 2 ∨ l = 3)) : szV l = 0 := by
  unfold szV; rw [if_neg (fun e => h (.inl e)), if_neg (fun e => h (.inr (.inl e))), if_neg (fun e => h (.inr (.inr e)))]


theorem Tab3.alloc {w : World} (h : Tab3 w) (o : Obj) : Tab3 (w.alloc o) := by
  obtain ⟨h1, h2, h3, h4⟩ := h
  have hb : Below w.heap.size w (w.alloc o) := (Below.refl _ _).alloc (Nat.le_refl _) o
  exact ⟨(hb.cell (p := ⟨_, _, none⟩) (by omega)).trans h1, (hb.cell (p := ⟨_, _, none⟩) (by omega)).trans h2, (hb.cell (p := ⟨_, _, none⟩) (by omega)).trans h3, Nat.lt_of_lt_of_le h4 hb.size⟩

set_option maxHeartbeats 400000 in
theorem of_none (l a : Int) (w : World) (h0 : 0 ≤ a) (h0' : a < 18446744073709551616)
    (hl : (szV l == 0) = true ∨ ((szV l == 0) = false ∧ bitV a 0 = false) ∨ ((szV l == 0) = false ∧ bitV a 0 = true ∧ l = 3 ∧ bitV a 1 = false)) :
    Calls Tryd.prog 24 #[.int .i64 l, .int .u64 a] w fun e w' => e = .returned zeroV.val ∧ Below w.heap.size w w' := by
  rcases hl with hz | ⟨hz, hb⟩ | ⟨hz, hb, rfl, hc⟩
  all_goals
    go_enter Tryd.func24, Tryd.ntmps24
    go_wp2_with (first | (go_at_call 22; refine (size_any _ _).mono ?_; rintro e w' ⟨rfl, rfl⟩) | (go_at_call 43; refine (bit_any _ _ _ h0 h0').mono ?_; rintro e w' ⟨rfl, rfl⟩) | (go_at_call 44; refine (from_any _ _ _ h0 h0' (by omega) (by omega)).mono ?_; rintro e w' ⟨rfl, rfl⟩) | (go_at_call 46; refine (field_any _ _ _ _ h0 h0').mono ?_; rintro e w' ⟨rfl, rfl⟩) | (go_at_call 45; refine (ctz_any _ _ (by exact hT.alloc _) (by omega)).mono ?_; rintro e w' ⟨rfl, rfl⟩))
    exact bodyPost_ret (v := zeroV.val) (by simp [results, Tryd.results24, go_sem, zeroV, DescV.val]) rfl ⟨rfl, (Below.refl _ _).alloc (Nat.le_refl _) _⟩

set_option maxHeartbeats 400000 in
theorem of_table (l a : Int) (w : World) (h0 : 0 ≤ a) (h0' : a < 18446744073709551616)
    (hz : (szV l == 0) = false) (hb : bitV a 0 = true) (hl : l = 1 ∨ l = 2) (hc : bitV a 1 = true) :
    Calls Tryd.prog 24 #[.int .i64 l, .int .u64 a] w fun e w' => e = .returned (DescV.mk 1 (fromV a 12) 0 0 false).val ∧ Below w.heap.size w w' := by
  rcases hl with rfl | rfl
  all_goals
    go_enter Tryd.func24, Tryd.ntmps24
    go_wp2_with (first | (go_at_call 22; refine (size_any _ _).mono ?_; rintro e w' ⟨rfl, rfl⟩) | (go_at_call 43; refine (bit_any _ _ _ h0 h0').mono ?_; rintro e w' ⟨rfl, rfl⟩) | (go_at_call 44; refine (from_any _ _ _ h0 h0' (by omega) (by omega)).mono ?_; rintro e w' ⟨rfl, rfl⟩) | (go_at_call 46; refine (field_any _ _ _ _ h0 h0').mono ?_; rintro e w' ⟨rfl, rfl⟩) | (go_at_call 45; refine (ctz_any _ _ (by exact hT.alloc _) (by omega)).mono ?_; rintro e w' ⟨rfl, rfl⟩))
    exact bodyPost_ret (v := (DescV.mk 1 (fromV a 12) 0 0 false).val) (by simp [results, Tryd.results24, go_sem, DescV.val]) rfl ⟨rfl, (Below.refl _ _).alloc (Nat.le_refl _) _⟩

set_option maxHeartbeats 1000000 in
theorem of_leaf (l a : Int) (w : World) (hT : Tab3 w) (h0 : 0 ≤ a) (h0' : a < 18446744073709551616)
    (hz : (szV l == 0) = false) (hb : bitV a 0 = true) (hl : (l = 1 ∧ bitV a 1 = false) ∨ (l = 2 ∧ bitV a 1 = false) ∨ (l = 3 ∧ bitV a 1 = true)) :
    Calls Tryd.prog 24 #[.int .i64 l, .int .u64 a] w fun e w' => e = .returned (leafV l a).val ∧ Below w.heap.size w w' := by
  rcases hl with ⟨rfl, hc⟩ | ⟨rfl, hc⟩ | ⟨rfl, hc⟩
  · go_enter Tryd.func24, Tryd.ntmps24
    go_upto_if 47 with (first | (go_at_call 22; refine (size_any _ _).mono ?_; rintro e w' ⟨rfl, rfl⟩) | (go_at_call 43; refine (bit_any _ _ _ h0 h0').mono ?_; rintro e w' ⟨rfl, rfl⟩) | (go_at_call 44; refine (from_any _ _ _ h0 h0' (by omega) (by omega)).mono ?_; rintro e w' ⟨rfl, rfl⟩) | (go_at_call 46; refine (field_any _ _ _ _ h0 h0').mono ?_; rintro e w' ⟨rfl, rfl⟩) | (go_at_call 45; refine (ctz_any _ _ (by exact hT.alloc _) (by omega)).mono ?_; rintro e w' ⟨rfl, rfl⟩))
    go_cut [] (fun wx => wx = (w.alloc (.cells #[.int .i64 0, .int .u64 0, .int .i64 0, .int .i64 0, .bool false] 71)).alloc (.cells #[.int .i64 2, .int .u64 (fromV a 30), .int .i64 0, .int .i64 (memV a), .bool (bitV a 10)] 71))
    case first =>
      by_cases hm : (fldV a 5 4 == 0) = true
      · have e := Lib.hid (memV_yes hm)
        go_wp2
        go_meet
        case rel => rw [e.out]
      · have hm : (fldV a 5 4 == 0) = false := by simpa using hm
        have e := Lib.hid (memV_no hm)
        go_wp2
        go_meet
        case rel => rw [e.out]
    case rest =>
      subst hcut
      go_upto_if 50 with (first | (go_at_call 22; refine (size_any _ _).mono ?_; rintro e w' ⟨rfl, rfl⟩) | (go_at_call 43; refine (bit_any _ _ _ h0 h0').mono ?_; rintro e w' ⟨rfl, rfl⟩) | (go_at_call 44; refine (from_any _ _ _ h0 h0' (by omega) (by omega)).mono ?_; rintro e w' ⟨rfl, rfl⟩) | (go_at_call 46; refine (field_any _ _ _ _ h0 h0').mono ?_; rintro e w' ⟨rfl, rfl⟩) | (go_at_call 45; refine (ctz_any _ _ (by exact hT.alloc _) (by omega)).mono ?_; rintro e w' ⟨rfl, rfl⟩))
      go_cut [] (fun wx => wx = (w.alloc (.cells #[.int .i64 0, .int .u64 0, .int .i64 0, .int .i64 0, .bool false] 71)).alloc (.cells #[.int .i64 2, .int .u64 (fromV a 30), .int .i64 (perm1 a), .int .i64 (memV a), .bool (bitV a 10)] 71))
      case first =>
        cases hm : bitV a 6
        all_goals
          have e := Lib.hid hm
          go_wp2
          go_meet
          case rel => simp [perm1, e.out]
      case rest =>
        subst hcut
        go_upto_if 56 with (first | (go_at_call 22; refine (size_any _ _).mono ?_; rintro e w' ⟨rfl, rfl⟩) | (go_at_call 43; refine (bit_any _ _ _ h0 h0').mono ?_; rintro e w' ⟨rfl, rfl⟩) | (go_at_call 44; refine (from_any _ _ _ h0 h0' (by omega) (by omega)).mono ?_; rintro e w' ⟨rfl, rfl⟩) | (go_at_call 46; refine (field_any _ _ _ _ h0 h0').mono ?_; rintro e w' ⟨rfl, rfl⟩) | (go_at_call 45; refine (ctz_any _ _ (by exact hT.alloc _) (by omega)).mono ?_; rintro e w' ⟨rfl, rfl⟩))
        go_cut [] (fun wx => wx = (w.alloc (.cells #[.int .i64 0, .int .u64 0, .int .i64 0, .int .i64 0, .bool false] 71)).alloc (.cells #[.int .i64 2, .int .u64 (fromV a 30), .int .i64 (perm2 a), .int .i64 (memV a), .bool (bitV a 10)] 71))
        case first =>
          cases hm : bitV a 7
          all_goals
            have e := Lib.hid hm
            go_wp2
            go_meet
            case rel => simp [perm2, e.out]
        case rest =>
          subst hcut
          go_upto_if 63 with (first | (go_at_call 22; refine (size_any _ _).mono ?_; rintro e w' ⟨rfl, rfl⟩) | (go_at_call 43; refine (bit_any _ _ _ h0 h0').mono ?_; rintro e w' ⟨rfl, rfl⟩) | (go_at_call 44; refine (from_any _ _ _ h0 h0' (by omega) (by omega)).mono ?_; rintro e w' ⟨rfl, rfl⟩) | (go_at_call 46; refine (field_any _ _ _ _ h0 h0').mono ?_; rintro e w' ⟨rfl, rfl⟩) | (go_at_call 45; refine (ctz_any _ _ (by exact hT.alloc _) (by omega)).mono ?_; rintro e w' ⟨rfl, rfl⟩))
          go_cut [] (fun wx => wx = (w.alloc (.cells #[.int .i64 0, .int .u64 0, .int .i64 0, .int .i64 0, .bool false] 71)).alloc (.cells #[.int .i64 2, .int .u64 (fromV a 30), .int .i64 (perm3 a), .int .i64 (memV a), .bool (bitV a 10)] 71))
          case first =>
            cases hm : bitV a 54
            all_goals
              have e := Lib.hid hm
              go_wp2
              go_meet
              case rel => simp [perm3, e.out]
          case rest =>
            subst hcut
            go_wp2
            exact bodyPost_ret (v := (leafV 1 a).val) (by simp [results, Tryd.results24, go_sem, DescV.val, leafV, memV]) rfl ⟨rfl, ((((Below.refl _ _).alloc (Nat.le_refl _) _).alloc (by simp) _))⟩
  · go_enter Tryd.func24, Tryd.ntmps24
    go_upto_if 47 with (first | (go_at_call 22; refine (size_any _ _).mono ?_; rintro e w' ⟨rfl, rfl⟩) | (go_at_call 43; refine (bit_any _ _ _ h0 h0').mono ?_; rintro e w' ⟨rfl, rfl⟩) | (go_at_call 44; refine (from_any _ _ _ h0 h0' (by omega) (by omega)).mono ?_; rintro e w' ⟨rfl, rfl⟩) | (go_at_call 46; refine (field_any _ _ _ _ h0 h0').mono ?_; rintro e w' ⟨rfl, rfl⟩) | (go_at_call 45; refine (ctz_any _ _ (by exact hT.alloc _) (by omega)).mono ?_; rintro e w' ⟨rfl, rfl⟩))
    go_cut [] (fun wx => wx = (w.alloc (.cells #[.int .i64 0, .int .u64 0, .int .i64 0, .int .i64 0, .bool false] 71)).alloc (.cells #[.int .i64 2, .int .u64 (fromV a 21), .int .i64 0, .int .i64 (memV a), .bool (bitV a 10)] 71))
    case first =>
      by_cases hm : (fldV a 5 4 == 0) = true
      · have e := Lib.hid (memV_yes hm)
        go_wp2
        go_meet
        case rel => rw [e.out]
      · have hm : (fldV a 5 4 == 0) = false := by simpa using hm
        have e := Lib.hid (memV_no hm)
        go_wp2
        go_meet
        case rel => rw [e.out]
    case rest =>
      subst hcut
      go_upto_if 50 with (first | (go_at_call 22; refine (size_any _ _).mono ?_; rintro e w' ⟨rfl, rfl⟩) | (go_at_call 43; refine (bit_any _ _ _ h0 h0').mono ?_; rintro e w' ⟨rfl, rfl⟩) | (go_at_call 44; refine (from_any _ _ _ h0 h0' (by omega) (by omega)).mono ?_; rintro e w' ⟨rfl, rfl⟩) | (go_at_call 46; refine (field_any _ _ _ _ h0 h0').mono ?_; rintro e w' ⟨rfl, rfl⟩) | (go_at_call 45; refine (ctz_any _ _ (by exact hT.alloc _) (by omega)).mono ?_; rintro e w' ⟨rfl, rfl⟩))
      go_cut [] (fun wx => wx = (w.alloc (.cells #[.int .i64 0, .int .u64 0, .int .i64 0, .int .i64 0, .bool false] 71)).alloc (.cells #[.int .i64 2, .int .u64 (fromV a 21), .int .i64 (perm1 a), .int .i64 (memV a), .bool (bitV a 10)] 71))
      case first =>
        cases hm : bitV a 6
        all_goals
          have e := Lib.hid hm
          go_wp2
          go_meet
          case rel => simp [perm1, e.out]
      case rest =>
        subst hcut
        go_upto_if 56 with (first | (go_at_call 22; refine (size_any _ _).mono ?_; rintro e w' ⟨rfl, rfl⟩) | (go_at_call 43; refine (bit_any _ _ _ h0 h0').mono ?_; rintro e w' ⟨rfl, rfl⟩) | (go_at_call 44; refine (from_any _ _ _ h0 h0' (by omega) (by omega)).mono ?_; rintro e w' ⟨rfl, rfl⟩) | (go_at_call 46; refine (field_any _ _ _ _ h0 h0').mono ?_; rintro e w' ⟨rfl, rfl⟩) | (go_at_call 45; refine (ctz_any _ _ (by exact hT.alloc _) (by omega)).mono ?_; rintro e w' ⟨rfl, rfl⟩))
        go_cut [] (fun wx => wx = (w.alloc (.cells #[.int .i64 0, .int .u64 0, .int .i64 0, .int .i64 0, .bool false] 71)).alloc (.cells #[.int .i64 2, .int .u64 (fromV a 21), .int .i64 (perm2 a), .int .i64 (memV a), .bool (bitV a 10)] 71))
        case first =>
          cases hm : bitV a 7
          all_goals
            have e := Lib.hid hm
            go_wp2
            go_meet
            case rel => simp [perm2, e.out]
        case rest =>
          subst hcut
          go_upto_if 63 with (first | (go_at_call 22; refine (size_any _ _).mono ?_; rintro e w' ⟨rfl, rfl⟩) | (go_at_call 43; refine (bit_any _ _ _ h0 h0').mono ?_; rintro e w' ⟨rfl, rfl⟩) | (go_at_call 44; refine (from_any _ _ _ h0 h0' (by omega) (by omega)).mono ?_; rintro e w' ⟨rfl, rfl⟩) | (go_at_call 46; refine (field_any _ _ _ _ h0 h0').mono ?_; rintro e w' ⟨rfl, rfl⟩) | (go_at_call 45; refine (ctz_any _ _ (by exact hT.alloc _) (by omega)).mono ?_; rintro e w' ⟨rfl, rfl⟩))
          go_cut [] (fun wx => wx = (w.alloc (.cells #[.int .i64 0, .int .u64 0, .int .i64 0, .int .i64 0, .bool false] 71)).alloc (.cells #[.int .i64 2, .int .u64 (fromV a 21), .int .i64 (perm3 a), .int .i64 (memV a), .bool (bitV a 10)] 71))
          case first =>
            cases hm : bitV a 54
            all_goals
              have e := Lib.hid hm
              go_wp2
              go_meet
              case rel => simp [perm3, e.out]
          case rest =>
            subst hcut
            go_wp2
            exact bodyPost_ret (v := (leafV 2 a).val) (by simp [results, Tryd.results24, go_sem, DescV.val, leafV, memV]) rfl ⟨rfl, ((((Below.refl _ _).alloc (Nat.le_refl _) _).alloc (by simp) _))⟩
  · go_enter Tryd.func24, Tryd.ntmps24
    go_upto_if 47 with (first | (go_at_call 22; refine (size_any _ _).mono ?_; rintro e w' ⟨rfl, rfl⟩) | (go_at_call 43; refine (bit_any _ _ _ h0 h0').mono ?_; rintro e w' ⟨rfl, rfl⟩) | (go_at_call 44; refine (from_any _ _ _ h0 h0' (by omega) (by omega)).mono ?_; rintro e w' ⟨rfl, rfl⟩) | (go_at_call 46; refine (field_any _ _ _ _ h0 h0').mono ?_; rintro e w' ⟨rfl, rfl⟩) | (go_at_call 45; refine (ctz_any _ _ (by exact hT.alloc _) (by omega)).mono ?_; rintro e w' ⟨rfl, rfl⟩))
    go_cut [] (fun wx => wx = (w.alloc (.cells #[.int .i64 0, .int .u64 0, .int .i64 0, .int .i64 0, .bool false] 71)).alloc (.cells #[.int .i64 3, .int .u64 (fromV a 12), .int .i64 0, .int .i64 (memV a), .bool (bitV a 10)] 71))
    case first =>
      by_cases hm : (fldV a 5 4 == 0) = true
      · have e := Lib.hid (memV_yes hm)
        go_wp2
        go_meet
        case rel => rw [e.out]
      · have hm : (fldV a 5 4 == 0) = false := by simpa using hm
        have e := Lib.hid (memV_no hm)
        go_wp2
        go_meet
        case rel => rw [e.out]
    case rest =>
      subst hcut
      go_upto_if 50 with (first | (go_at_call 22; refine (size_any _ _).mono ?_; rintro e w' ⟨rfl, rfl⟩) | (go_at_call 43; refine (bit_any _ _ _ h0 h0').mono ?_; rintro e w' ⟨rfl, rfl⟩) | (go_at_call 44; refine (from_any _ _ _ h0 h0' (by omega) (by omega)).mono ?_; rintro e w' ⟨rfl, rfl⟩) | (go_at_call 46; refine (field_any _ _ _ _ h0 h0').mono ?_; rintro e w' ⟨rfl, rfl⟩) | (go_at_call 45; refine (ctz_any _ _ (by exact hT.alloc _) (by omega)).mono ?_; rintro e w' ⟨rfl, rfl⟩))
      go_cut [] (fun wx => wx = (w.alloc (.cells #[.int .i64 0, .int .u64 0, .int .i64 0, .int .i64 0, .bool false] 71)).alloc (.cells #[.int .i64 3, .int .u64 (fromV a 12), .int .i64 (perm1 a), .int .i64 (memV a), .bool (bitV a 10)] 71))
      case first =>
        cases hm : bitV a 6
        all_goals
          have e := Lib.hid hm
          go_wp2
          go_meet
          case rel => simp [perm1, e.out]
      case rest =>
        subst hcut
        go_upto_if 56 with (first | (go_at_call 22; refine (size_any _ _).mono ?_; rintro e w' ⟨rfl, rfl⟩) | (go_at_call 43; refine (bit_any _ _ _ h0 h0').mono ?_; rintro e w' ⟨rfl, rfl⟩) | (go_at_call 44; refine (from_any _ _ _ h0 h0' (by omega) (by omega)).mono ?_; rintro e w' ⟨rfl, rfl⟩) | (go_at_call 46; refine (field_any _ _ _ _ h0 h0').mono ?_; rintro e w' ⟨rfl, rfl⟩) | (go_at_call 45; refine (ctz_any _ _ (by exact hT.alloc _) (by omega)).mono ?_; rintro e w' ⟨rfl, rfl⟩))
        go_cut [] (fun wx => wx = (w.alloc (.cells #[.int .i64 0, .int .u64 0, .int .i64 0, .int .i64 0, .bool false] 71)).alloc (.cells #[.int .i64 3, .int .u64 (fromV a 12), .int .i64 (perm2 a), .int .i64 (memV a), .bool (bitV a 10)] 71))
        case first =>
          cases hm : bitV a 7
          all_goals
            have e := Lib.hid hm
            go_wp2
            go_meet
            case rel => simp [perm2, e.out]
        case rest =>
          subst hcut
          go_upto_if 63 with (first | (go_at_call 22; refine (size_any _ _).mono ?_; rintro e w' ⟨rfl, rfl⟩) | (go_at_call 43; refine (bit_any _ _ _ h0 h0').mono ?_; rintro e w' ⟨rfl, rfl⟩) | (go_at_call 44; refine (from_any _ _ _ h0 h0' (by omega) (by omega)).mono ?_; rintro e w' ⟨rfl, rfl⟩) | (go_at_call 46; refine (field_any _ _ _ _ h0 h0').mono ?_; rintro e w' ⟨rfl, rfl⟩) | (go_at_call 45; refine (ctz_any _ _ (by exact hT.alloc _) (by omega)).mono ?_; rintro e w' ⟨rfl, rfl⟩))
          go_cut [] (fun wx => wx = (w.alloc (.cells #[.int .i64 0, .int .u64 0, .int .i64 0, .int .i64 0, .bool false] 71)).alloc (.cells #[.int .i64 3, .int .u64 (fromV a 12), .int .i64 (perm3 a), .int .i64 (memV a), .bool (bitV a 10)] 71))
          case first =>
            cases hm : bitV a 54
            all_goals
              have e := Lib.hid hm
              go_wp2
              go_meet
              case rel => simp [perm3, e.out]
          case rest =>
            subst hcut
            go_wp2
            exact bodyPost_ret (v := (leafV 3 a).val) (by simp [results, Tryd.results24, go_sem, DescV.val, leafV, memV]) rfl ⟨rfl, ((((Below.refl _ _).alloc (Nat.le_refl _) _).alloc (by simp) _))⟩
end Go.Proofs.YtdlpgonpikflfaaDoor
