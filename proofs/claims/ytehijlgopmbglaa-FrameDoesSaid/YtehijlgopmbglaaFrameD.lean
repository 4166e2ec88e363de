/- The walks of a pool's Run and Alloc, of the chapter's examples, and of the statement FrameNone. -/
import Derived.Test.YtehijlgopmbglaaFrameC
namespace Go.Proofs.Ytehijlgopmbglaa
open Go Go.RowKit Go.BigFrame

theorem run_any (B : Nat) (v : Value) (p : Pl) (n align : Int) (w : World) (hok : PlOk p) (hlen : p.used.length ≤ 137438953472) (hp : PoolAt w B v p) (ho : W64 p.out) (hal : W64 align) :
    Calls Try.prog 10 #[.pointer (some ⟨B, 0, none⟩), .int .i64 n, .int .u64 align] w fun e w' => ∃ v', e = .returned (.tuple #[.int .u64 (runV p n align).2.1, .int .i64 (runV p n align).2.2]) ∧ PoolAt w' B v' (runV p n align).1 ∧ Kept' B v v' w w' := by
  cases ha : askB n align
  · have e : runV p n align = (p, 0, 1) := by unfold runV; rw [ha]; rfl
    rw [e]
    exact (run_nil_bad n align _ w ha hal).mono fun e w' ⟨he, hb⟩ => ⟨v, he, hp.below hb, ⟨Kept.of_below hb, fun k e => .inl e⟩⟩
  · exact run_go B v p n align w hok hlen hp ho hal ha

theorem Kept.below {base B : Nat} {v : Value} {p : Pl} {w w' : World} (h : Kept B v w w') (hp : PoolAt w B v p) (hB : base ≤ B) : Below base w w' :=
  ⟨h.os, h.tape, h.output, h.size, fun k hk => by
    have hBl := hp.lt
    refine h.block k (by omega) (by omega) (fun e => ?_)
    have := hp.own.lt k e; omega⟩

theorem Kept'.below {base B : Nat} {v v' : Value} {p : Pl} {w w' : World} (h : Kept' B v v' w w') (hp : PoolAt w B v p) (hB : base ≤ B) : Below base w w' := h.kept.below hp hB

set_option maxHeartbeats 1000000 in
theorem alloc_any (B : Nat) (v : Value) (p : Pl) (w : World) (hok : PlOk p) (hlen : p.used.length ≤ 137438953472) (hp : PoolAt w B v p) (ho : W64 p.out) :
    Calls Try.prog 15 #[.pointer (some ⟨B, 0, none⟩)] w fun e w' => ∃ v', e = .returned (.tuple #[.int .u64 (runV p 1 4096).2.1, .int .i64 (runV p 1 4096).2.2]) ∧ PoolAt w' B v' (runV p 1 4096).1 ∧ Kept' B v v' w w' := by
  have hr := run_any B v p 1 4096 w hok hlen hp ho (by unfold W64; omega)
  generalize runV p 1 4096 = R at *
  obtain ⟨q, x, y⟩ := R
  go_enter Try.func15, Try.ntmps15
  go_wp2_with fail
  refine hr.mono ?_
  rintro e w1 ⟨v', rfl, hp', hk'⟩
  go_wp2_with fail
  go_ret2
  exact ⟨v', rfl, hp', hk'⟩

/-- The same as 'runV', reckoned by the reference's lists. -/
def Pl.freeR (p : Pl) : List Two := if p.count = 0 then [] else refCutV p.whole p.used
def takeR (p : Pl) (n : Int) (x : Two) : Pl := { p with used := refMergeV (p.used ++ [x]), out := (p.out + n) % 18446744073709551616 }
def runR (p : Pl) (n align : Int) : Pl × Int × Int :=
  if askB n align = true then
    match p.freeR.find? (fitsV n align) with
    | some s => (takeR p n (wantV n align s), (upV s.a align).1, 0)
    | none => (p, 0, 110)
  else (p, 0, 1)
theorem runV_R (p : Pl) (n align : Int) : runV p n align = runR p n align := by
  have e1 : p.free = p.freeR := by unfold Pl.free Pl.freeR; rw [cut_eq']
  have e2 : takeV = takeR := by funext p n x; unfold takeV takeR; rw [merge_eq]
  unfold runV runR
  rw [e1, e2]
  rfl

def exP0 : Pl := ⟨4096, 4, [], 0⟩
def exP1 : Pl := ⟨4096, 4, [tw 4096 4096], 1⟩
def exP2 : Pl := ⟨4096, 4, [tw 4096 12288], 3⟩
def exP3 : Pl := ⟨4096, 4, [tw 4096 16384], 4⟩
theorem ex_new : newV (tw 4096 16384) = exP0 := by kernel_rfl
theorem ex_run0 : runV exP0 1 4096 = (exP1, 4096, 0) := by rw [runV_R]; kernel_rfl
theorem ex_run1 : runV exP1 2 8192 = (exP2, 8192, 0) := by rw [runV_R]; kernel_rfl
theorem ex_run2 : runV exP2 1 4096 = (exP3, 16384, 0) := by rw [runV_R]; kernel_rfl
theorem ex_run3 : runV exP3 1 4096 = (exP3, 0, 110) := by rw [runV_R]; kernel_rfl

set_option maxHeartbeats 2000000 in
theorem awake_any (w : World) : Calls Try.prog 7 #[] w fun e w' => e = .returned (.bool true) ∧ Below w.heap.size w w' := by
  have h0 : PlOk exP0 := by rw [← ex_new]; exact (newV_ok _).1
  have h1 : PlOk exP1 := by have := runV_ok h0 1 4096; rw [ex_run0] at this; exact this
  have h2 : PlOk exP2 := by have := runV_ok h1 2 8192; rw [ex_run1] at this; exact this
  have h3 : PlOk exP3 := by have := runV_ok h2 1 4096; rw [ex_run2] at this; exact this
  have hn := new_any (tw 4096 16384) w
  rw [ex_new] at hn
  have W : ∀ a : Int, 0 ≤ a → a < 18446744073709551616 → W64 a := fun a h1 h2 => ⟨h1, h2⟩
  have r0 := fun B v w hp => alloc_any B v exP0 w h0 (by decide) hp (W _ (by decide) (by decide))
  have r1 := fun B v w hp => run_any B v exP1 2 8192 w h1 (by decide) hp (W _ (by decide) (by decide)) (W _ (by decide) (by decide))
  have r2 := fun B v w hp => alloc_any B v exP2 w h2 (by decide) hp (W _ (by decide) (by decide))
  have r3 := fun B v w hp => alloc_any B v exP3 w h3 (by decide) hp (W _ (by decide) (by decide))
  rw [ex_run0] at r0
  rw [ex_run1] at r1
  rw [ex_run2] at r2
  rw [ex_run3] at r3
  clear W h0 h1 h2 h3
  go_enter Try.func7, Try.ntmps7
  go_wp2_with fail
  refine hn.mono ?_
  rintro e w1 ⟨B, rfl, hB, hp1, hb1⟩
  clear hn
  go_wp2_with fail
  refine (r0 B _ w1 hp1).mono ?_
  rintro e w2 ⟨v2, rfl, hp2, hk2⟩
  have hb2 := hb1.trans (hk2.below hp1 hB)
  clear r0 hk2 hp1 hb1
  go_wp2_with fail
  refine (r1 B _ w2 hp2).mono ?_
  rintro e w3 ⟨v3, rfl, hp3, hk3⟩
  have hb3 := hb2.trans (hk3.below hp2 hB)
  clear r1 hk3 hp2 hb2
  go_wp2_with fail
  refine (r2 B _ w3 hp3).mono ?_
  rintro e w4 ⟨v4, rfl, hp4, hk4⟩
  have hb4 := hb3.trans (hk4.below hp3 hB)
  clear r2 hk4 hp3 hb3
  go_wp2_with fail
  refine (r3 B _ w4 hp4).mono ?_
  rintro e w5 ⟨v5, rfl, hp5, hk5⟩
  have hb5 := hb4.trans (hk5.below hp4 hB)
  clear r3 hk5 hp4 hp5 hb4
  go_wp2_with fail
  go_ret
  exact ⟨rfl, hb5⟩

set_option maxHeartbeats 2000000 in
theorem frameNone_walk (n align x : Int) (w : World) (hal : W64 align) : Calls Try.prog 6 #[.int .i64 n, .int .u64 align, .int .u64 x] w fun e w' => e = .returned (.bool true) ∧ Below w.heap.size w w' := by
  have a0 := hal.1
  cases ha : askB n align
  · have hcase : n < 1 ∨ (1 ≤ n ∧ 4096 < n) ∨ (1 ≤ n ∧ n ≤ 4096 ∧ align = 0) ∨ (1 ≤ n ∧ n ≤ 4096 ∧ align ≠ 0 ∧ align % 4096 ≠ 0) := by
      have : ¬ _ := fun hh => by rw [askB_iff.2 hh] at ha; cases ha
      omega
    have hr := fun w => run_nil_bad n align none w ha hal
    clear ha
    have main : ∀ (q : n < 1 ∨ (¬ n < 1 ∧ 4096 < n) ∨ (¬ n < 1 ∧ ¬ 4096 < n ∧ (align != 0) = false) ∨ (¬ n < 1 ∧ ¬ 4096 < n ∧ (align != 0) = true ∧ (align % 4096 == 0) = false)), Calls Try.prog 6 #[.int .i64 n, .int .u64 align, .int .u64 x] w fun e w' => e = .returned (.bool true) ∧ Below w.heap.size w w' := by
      intro q
      clear hcase
      rcases q with h1 | ⟨h1, h2⟩ | ⟨h1, h2, h3⟩ | ⟨h1, h2, h3, h4⟩
      all_goals
        go_enter Try.func6, Try.ntmps6
        go_wp2_with fail
        refine (awake_any _).mono ?_; rintro e w1 ⟨rfl, hb1⟩
        go_wp2_with fail
        refine (hr _).mono ?_; rintro e w2 ⟨rfl, hb2⟩
        go_wp2_with fail
        refine (left_nil _).mono ?_; rintro e w3 ⟨rfl, rfl⟩
        go_wp2_with fail
        refine (used_nil _).mono ?_; rintro e w3 ⟨rfl, rfl⟩
        go_wp2_with fail
        refine (has_nil _ _).mono ?_; rintro e w3 ⟨rfl, rfl⟩
        go_wp2_with fail
        go_ret
        exact ⟨rfl, bthen hb1 hb2⟩
    refine main ?_
    rcases hcase with h | ⟨h1, h2⟩ | ⟨h1, h2, h3⟩ | ⟨h1, h2, h3, h4⟩
    · exact .inl h
    · exact .inr (.inl ⟨by omega, h2⟩)
    · exact .inr (.inr (.inl ⟨by omega, by omega, by simp [h3]⟩))
    · exact .inr (.inr (.inr ⟨by omega, by omega, by simpa using h3, by simpa using h4⟩))
  · obtain ⟨h1, h2, h3, h4⟩ := askB_iff.1 ha
    have hr := fun w => run_nil n align w ha hal
    have k1 : ¬ n < 1 := by omega
    have k2 : ¬ 4096 < n := by omega
    have k3 : (align != 0) = true := by simpa using h3
    have k4 : (align % 4096 == 0) = true := by simpa using h4
    replace h3 := Lib.hid h3
    replace h4 := Lib.hid h4
    clear ha
    go_enter Try.func6, Try.ntmps6
    go_wp2_with fail
    refine (awake_any _).mono ?_; rintro e w1 ⟨rfl, hb1⟩
    go_wp2_with fail
    refine (hr _).mono ?_; rintro e w2 ⟨rfl, hb2⟩
    go_wp2_with fail
    refine (left_nil _).mono ?_; rintro e w3 ⟨rfl, rfl⟩
    go_wp2_with fail
    refine (used_nil _).mono ?_; rintro e w3 ⟨rfl, rfl⟩
    go_wp2_with fail
    refine (has_nil _ _).mono ?_; rintro e w3 ⟨rfl, rfl⟩
    go_wp2_with fail
    go_ret
    exact ⟨rfl, bthen hb1 hb2⟩
end Go.Proofs.Ytehijlgopmbglaa
