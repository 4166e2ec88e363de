/- The reference's Of at a leaf, and at every word: it gives what desc.Of gives. Conditions: words are of 64 bits. -/
import Derived.Test.YtdlpgonpikflfaaDoorDescE
namespace Go.Proofs.YtdlpgonpikflfaaDoor
open Go.RowKit

theorem fld76_bd (a : Int) (_h0 : 0 ≤ a) : 0 ≤ fldV a 7 6 ∧ fldV a 7 6 ≤ 3 := by
  have e76 : fldV a 7 6 = a / 64 % 4 := by unfold fldV; rw [if_neg (by omega)]; rfl
  rw [e76]; omega

set_option maxHeartbeats 1000000 in
theorem refOf_leaf (l a : Int) (w : World) (h0 : 0 ≤ a) (h0' : a < 18446744073709551616) (hb : (bits BinOp.and IntKind.u64 a 1 == 0) = false)
    (hl : (l = 1 ∧ (bits BinOp.and IntKind.u64 a 2 != 0) = false) ∨ (l = 2 ∧ (bits BinOp.and IntKind.u64 a 2 != 0) = false) ∨ (l = 3 ∧ (bits BinOp.and IntKind.u64 a 2 == 0) = false ∧ (bits BinOp.and IntKind.u64 a 2 != 0) = true)) :
    Calls Tryd.prog 26 #[.int .i64 l, .int .u64 a] w fun e w' => e = .returned (leafV l a).val ∧ Below w.heap.size w w' := by
  have p1 := fld76_bd a h0
  have p2 : 0 ≤ fldV a 54 54 ∧ fldV a 54 54 ≤ 1 := by rcases bit_le a 54 h0 (by omega) (by omega) with ⟨_, h⟩ | ⟨_, h⟩ <;> omega
  have hp := Lib.hid (perm3_eq a h0)
  have h10 : Hid ((fldV a 10 10 == 1) = bitV a 10) := by
    rcases bit_le a 10 h0 (by omega) (by omega) with ⟨h1, h2⟩ | ⟨h1, h2⟩ <;> (show _ = _; rw [h1, h2]; rfl)
  rcases hl with ⟨rfl, hc⟩ | ⟨rfl, hc⟩ | ⟨rfl, hc, hd⟩
  all_goals
    go_enter Tryd.func26, Tryd.ntmps26
    by_cases hm : (fldV a 5 4 == 0) = true
    · have e := Lib.hid (memV_yes hm)
      go_wp2_with (go_at_call 50; refine (refField_any _ _ _ _ h0 h0').mono ?_; rintro e w' ⟨rfl, rfl⟩)
      refine bodyPost_ret (v := (leafV _ a).val) ?_ rfl ⟨rfl, ((((Below.refl _ _).alloc (Nat.le_refl _) _).alloc (by simp) _))⟩
      simp [results, Tryd.results26, go_sem, DescV.val, leafV, hp.out, h10.out, e.out, fromV]
    · have hm : (fldV a 5 4 == 0) = false := by simpa using hm
      have e := Lib.hid (memV_no hm)
      go_wp2_with (go_at_call 50; refine (refField_any _ _ _ _ h0 h0').mono ?_; rintro e w' ⟨rfl, rfl⟩)
      refine bodyPost_ret (v := (leafV _ a).val) ?_ rfl ⟨rfl, ((((Below.refl _ _).alloc (Nat.le_refl _) _).alloc (by simp) _))⟩
      simp [results, Tryd.results26, go_sem, DescV.val, leafV, hp.out, h10.out, e.out, fromV]

theorem refOf_any (l a : Int) (w : World) (h0 : 0 ≤ a) (h0' : a < 18446744073709551616) :
    Calls Tryd.prog 26 #[.int .i64 l, .int .u64 a] w fun e w' => e = .returned (ofV l a).val ∧ Below w.heap.size w w' := by
  have e0 : (bits BinOp.and IntKind.u64 a 1 == 0) = !bitV a 0 := by
    rw [and1_u64 a h0 h0']
    rcases bit_le a 0 h0 (by omega) (by omega) with ⟨h1, h2⟩ | ⟨h1, h2⟩ <;> rw [h1, h2] <;> rfl
  have e1 : (bits BinOp.and IntKind.u64 a 2 == 0) = !bitV a 1 := by
    rw [and2_u64 a h0 h0']
    rcases bit_le a 1 h0 (by omega) (by omega) with ⟨h1, h2⟩ | ⟨h1, h2⟩ <;> rw [h1, h2] <;> rfl
  have e2 : (bits BinOp.and IntKind.u64 a 2 != 0) = bitV a 1 := by show (!(_ == _)) = _; rw [e1, Bool.not_not]
  unfold ofV
  cases hb : bitV a 0
  · rw [hb] at e0
    rw [if_pos (.inr (.inl rfl))]; exact refOf_none l a w h0 h0' (.inl e0)
  · rw [hb] at e0
    rcases szV_b l with ⟨h1, h2, h3⟩ | ⟨h1, h2, h3⟩
    · rw [if_pos (.inl h2)]
      by_cases h4 : l < 1
      · exact refOf_none l a w h0 h0' (.inr (.inl ⟨e0, h4⟩))
      · exact refOf_none l a w h0 h0' (.inr (.inr (.inl ⟨e0, by omega, by omega⟩)))
    · cases hc : bitV a 1
      · rw [hc] at e1 e2
        by_cases h4 : l = 3
        · rw [if_pos (.inr (.inr ⟨h4, rfl⟩))]; exact refOf_none l a w h0 h0' (.inr (.inr (.inr ⟨e0, h4, e1⟩)))
        · rw [if_neg (by simp [h2, h4]), if_neg (by simp)]; exact refOf_leaf l a w h0 h0' e0 (h3.elim (fun h => .inl ⟨h, e2⟩) fun h => h.elim (fun h => .inr (.inl ⟨h, e2⟩)) fun h => absurd h h4)
      · rw [hc] at e1 e2
        by_cases h4 : l = 3
        · rw [if_neg (by simp [h2]), if_neg (by simp [h4])]; exact refOf_leaf l a w h0 h0' e0 (.inr (.inr ⟨h4, e1, e2⟩))
        · rw [if_neg (by simp [h2]), if_pos ⟨by omega, rfl⟩]; exact refOf_table l a w h0 h0' e0 e2 (by omega)
end Go.Proofs.YtdlpgonpikflfaaDoor
