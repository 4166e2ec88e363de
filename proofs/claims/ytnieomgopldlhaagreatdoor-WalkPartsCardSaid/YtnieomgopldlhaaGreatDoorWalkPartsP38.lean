/- The walk of the builder's frames. -/
import Derived.Test.YtnieomgopldlhaaGreatDoorWalkPartsP29
import Derived.Test.YtnieomgopldlhaaGreatDoorWalkPartsP34
import Derived.Test.YtnieomgopldlhaaGreatDoorWalkPartsP37
namespace Go.Proofs.YtnieomgopldlhaaGreatDoor
open Go Go.RowKit Go.BigFrame Go.Maps

theorem MemP.keptBy {w w' : World} {mb pb fb : Nat} {vu : Value} {s z : Int} {L : List Pg} (h : MemP w mb pb s z L) (hk : Kept fb vu w w') (h1 : ∀ b ∈ memBlks mb pb L, b ≠ fb ∧ vu.ownBlock ≠ some b) : MemP w' mb pb s z L :=
  h.same fun b hb => hk.block b (h.lt b hb) (h1 b hb).1 (h1 b hb).2
theorem BdrBlk.keptBy {w w' : World} {bb mb fb mp : Nat} {root : Int} {vu : Value} (h : BdrBlk w bb mb fb mp root) (hk : Kept fb vu w w') (h1 : bb ≠ fb ∧ vu.ownBlock ≠ some bb) : BdrBlk w' bb mb fb mp root := by
  have := hk.block bb h.lt h1.1 h1.2
  unfold BdrBlk at *
  rw [this]; exact h

theorem Kept'.more {w w1 w2 : World} {B : Nat} {v v' : Value} (h : Kept' B v v' w w1) (hb : Below w1.heap.size w1 w2) : Kept' B v v' w w2 :=
  ⟨⟨hb.os.trans h.kept.os, hb.tape.trans h.kept.tape, hb.output.trans h.kept.output, Nat.le_trans h.kept.size hb.size, fun k hk h1 h2 => (hb.block k (Nat.lt_of_lt_of_le hk h.kept.size)).trans (h.kept.block k hk h1 h2)⟩, h.fresh⟩
set_option maxHeartbeats 1000000 in
theorem frames_gen (bb mb pb fb mp B : Nat) (vu : Value) (s z root n al : Int) (pl : Pl) (L : List Pg) (w : World) (hbb : BdrBlk w bb mb fb mp root) (hm : MemP w mb pb s z L) (hp : PoolAt w fb vu pl) (hok : PlOk pl) (hlen : pl.used.length ≤ 137438953472) (ho : W64 pl.out)
    (hal : W64 al) (hn : 0 ≤ n ∧ n ≤ 4096) (h1 : bb ≠ fb ∧ vu.ownBlock ≠ some bb) (h2 : ∀ b ∈ memBlks mb pb L, b ≠ fb ∧ vu.ownBlock ≠ some b) (hB : B ≤ pb)
    (hz : (runV pl n al).2.2 = 0 → W64 (runV pl n al).2.1 ∧ withinB (runV pl n al).2.1 (n * 4096) s z = true ∧ (runV pl n al).2.1 + n * 4096 ≤ 1099511627776 ∧ lastV (runV pl n al).2.1 (n * 4096) = (runV pl n al).2.1 + n * 4096 - 1 ∧ (runV pl n al).2.1 % 4096 = 0) :
    Calls Tryz.prog 31 #[.pointer (some ⟨bb, 0, none⟩), .int .i64 n, .int .u64 al] w fun e w' => ∃ w1 v', e = .returned (.tuple #[.int .u64 (if (runV pl n al).2.2 = 0 then (runV pl n al).2.1 else 0), .int .i64 (runV pl n al).2.2]) ∧ PoolAt w1 fb v' (runV pl n al).1 ∧ Kept' fb vu v' w w1 ∧ OffL B [pb] w1 w' ∧
      MemP w' mb pb s z (if (runV pl n al).2.2 = 0 then L.filter (fun p => !(inPages (runV pl n al).2.1 (n * 4096) p.ab)) else L) := by
  obtain ⟨n0, n1⟩ := hn
  have hpb := hm.lt pb (by simp [memBlks])
  have hr := run_any fb vu pl n al w hok hlen hp ho hal
  obtain ⟨c0, c1, c2, c3⟩ := hbb.cells
  generalize runV pl n al = R at *
  obtain ⟨q, a, e⟩ := R
  simp only at *
  have g0 : IntKind.u64.wrap n = n := by rw [IntKind.wrap_u64]; omega
  have g1 : IntKind.u64.wrap (n * 4096) = n * 4096 := by rw [IntKind.wrap_u64]; omega
  by_cases he : e = 0
  · subst he
    obtain ⟨z0, z1, z2, z3, z4⟩ := hz rfl
    rw [if_pos rfl, if_pos rfl]
    have hze := fun W (hm : MemP W mb pb s z L) (hW : B ≤ W.heap.size) => zero_any mb pb s z a (n * 4096) L B W hm hB hW z0 ⟨by omega, by omega⟩ z1 z2 z3 ⟨z4, by omega⟩
    clear hz z1 z2 z3 z4
    go_enter Tryz.func31, Tryz.ntmps31
    go_wp2_with fail
    refine hr.mono ?_; rintro e w1 ⟨v', rfl, hp1, hk1⟩
    have hm1 := hm.keptBy hk1.kept h2
    obtain ⟨d0, d1, d2, d3⟩ := (hbb.keptBy hk1.kept h1).cells
    have hz1 := hk1.kept.size
    go_wp2_with fail
    refine (hze _ hm1 (by omega)).mono ?_; rintro e w2 ⟨rfl, hm2, hb2⟩
    go_wp2_with fail
    go_ret2
    exact ⟨w1, v', rfl, hp1, hk1, hb2, hm2⟩
  · rw [if_neg he, if_neg he]
    go_enter Tryz.func31, Tryz.ntmps31
    go_wp2_with fail
    refine hr.mono ?_; rintro e' w1 ⟨v', rfl, hp1, hk1⟩
    have hm1 := hm.keptBy hk1.kept h2
    go_wp2_with fail
    go_ret2
    exact ⟨w1, v', rfl, hp1, hk1, OffL.refl _ _ _, hm1⟩
end Go.Proofs.YtnieomgopldlhaaGreatDoor
