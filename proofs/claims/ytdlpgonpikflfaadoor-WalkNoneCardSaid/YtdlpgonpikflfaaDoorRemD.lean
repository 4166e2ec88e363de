/- The reference's memory: a word. -/
import Derived.Test.YtdlpgonpikflfaaDoorRemC
namespace Go.Proofs.YtdlpgonpikflfaaDoor
open Go Go.RowKit Go.BigFrame Go.Maps

set_option maxRecDepth 20000 in
set_option maxHeartbeats 2000000 in
theorem refWord_any (rb : Nat) (pv : Value) (s z a : Int) (L : List Pg) (w : World) (hm : MemR w rb pv s z L) (ha : W64 a) :
    Calls Tryd.prog 25 #[.pointer (some ⟨rb, 0, none⟩), .int .u64 a] w fun e w' => e = .returned (.tuple #[.int .u64 (wordV s z (L.map Pg.ab) a).1, .int .i64 (wordV s z (L.map Pg.ab) a).2]) ∧ Below w.heap.size w w' := by
  have hk := fun W h => refAsk_any rb pv s z a 8 L W h ha (by unfold W64; omega)
  have ha0 := ha.1
  have ha1 := ha.2
  by_cases h8 : a % 8 = 0
  · by_cases hq : askV s z a 8 = 0
    · have hbad : wordBad s z a = false := by unfold wordBad; simp [h8, hq]
      have hrd := fun W h => refRead_any rb pv s z a 8 L W h ha hq (by omega)
      rw [hq] at hk
      have hr : wordV s z (L.map Pg.ab) a = (wordAt (L.map Pg.ab) a, 0) := by unfold wordV; rw [hbad]; rfl
      have hwd : wordAt (L.map Pg.ab) a = le (((rdB (L.map Pg.ab) a 8).drop 0).take 8) := by
        rw [List.drop_zero, List.take_of_length_le (by rw [rdB_len]; omega)]; rfl
      rw [hr, hwd]
      clear hr hbad hwd
      replace hq := Lib.hid hq
      have hby := rdB_byte hm.ok a 8
      have hbl := rdB_len (L.map Pg.ab) a 8
      generalize rdB (L.map Pg.ab) a 8 = R at *
      replace hbl := Lib.hid hbl
      go_enter Tryd.func25, Tryd.ntmps25
      go_wp2_with fail
      refine (hk _ hm).mono ?_; rintro e w1 ⟨rfl, hb1⟩
      go_wp2_with fail
      refine (hrd _ (hm.below hb1 (Nat.le_refl _))).mono ?_; rintro e w2 ⟨r, rfl, hown, hb2⟩
      have hrow := hown.row
      obtain ⟨x, c, rfl⟩ := ownsRow_slice hown
      have hnum := refNumber_any _ R 0 w2 hrow hby (by rw [hbl.out]; omega)
      clear hown hk hrd
      go_wp2_with fail
      refine hnum.mono ?_; rintro e w3 ⟨rfl, rfl⟩
      clear hnum
      go_wp2_with fail
      go_ret2
      exact ⟨rfl, bthen hb1 hb2⟩
    · have hbad : wordBad s z a = true := by unfold wordBad; simp [hq]
      have hr : wordV s z (L.map Pg.ab) a = (0, 90) := by unfold wordV; rw [hbad]; rfl
      rw [hr]
      clear hr hbad
      go_enter Tryd.func25, Tryd.ntmps25
      go_wp2_with fail
      refine (hk _ hm).mono ?_; rintro e w1 ⟨rfl, hb1⟩
      generalize askV s z a 8 = q at *
      go_wp2_with fail
      go_ret2
      exact ⟨rfl, hb1⟩
  · have hbad : wordBad s z a = true := by unfold wordBad; simp [h8]
    have hr : wordV s z (L.map Pg.ab) a = (0, 90) := by unfold wordV; rw [hbad]; rfl
    rw [hr]
    clear hr hbad
    go_enter Tryd.func25, Tryd.ntmps25
    go_wp2_with fail
    go_ret2
    exact ⟨rfl, Below.refl _ _⟩
end Go.Proofs.YtdlpgonpikflfaaDoor
