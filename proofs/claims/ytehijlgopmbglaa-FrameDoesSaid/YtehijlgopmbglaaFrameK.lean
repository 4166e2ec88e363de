/- The reference pool's Run, whatever is asked; what each pool's Run leaves of the other. -/
import Derived.Test.YtehijlgopmbglaaFrameJ
namespace Go.Proofs.Ytehijlgopmbglaa
open Go Go.RowKit Go.BigFrame

set_option maxHeartbeats 1000000 in
theorem refRun_bad (B : Nat) (n align : Int) (w : World) (ha : W64 align) (h : askB n align = false) :
    Calls Try.prog 17 #[.pointer (some ⟨B, 0, none⟩), .int .i64 n, .int .u64 align] w fun e w' => e = .returned (.tuple #[.int .u64 0, .int .i64 1]) ∧ w = w' := by
  have a0 := ha.1
  have hn : ¬ (1 ≤ n ∧ n ≤ 4096 ∧ align ≠ 0 ∧ align % 4096 = 0) := fun hh => by rw [askB_iff.2 hh] at h; cases h
  by_cases k1 : n < 1
  · go_enter Try.func17, Try.ntmps17
    go_wp2_with fail
    go_ret2
    exact ⟨rfl, rfl⟩
  · by_cases k2 : 4096 < n
    · go_enter Try.func17, Try.ntmps17
      go_wp2_with fail
      go_ret2
      exact ⟨rfl, rfl⟩
    · by_cases h3 : align = 0
      · subst h3
        clear hn h
        go_enter Try.func17, Try.ntmps17
        go_wp2_with fail
        go_ret2
        exact ⟨rfl, rfl⟩
      · have k3 : (align == 0) = false := by simpa using h3
        have k4 : (align % 4096 != 0) = true := by
          simp only [bne_iff_ne, ne_eq]
          exact fun h4 => hn ⟨by omega, by omega, h3, h4⟩
        clear hn h
        go_enter Try.func17, Try.ntmps17
        go_wp2_with fail
        go_ret2
        exact ⟨rfl, rfl⟩

theorem refRun_any (B : Nat) (v : Value) (s : Two) (U : List Int) (p : Pl) (n align : Int) (w : World) (hok : PlOk p) (hsame : p.from' = (newV s).from' ∧ p.count = (newV s).count) (hR : RefInv p U) (h : RPoolAt w B v s U) (hal : W64 align) (hl : U.length ≤ 1000000) (ho : p.out + 4096 < 18446744073709551616) :
    Calls Try.prog 17 #[.pointer (some ⟨B, 0, none⟩), .int .i64 n, .int .u64 align] w fun e w' => ∃ v' U', e = .returned (.tuple #[.int .u64 (runV p n align).2.1, .int .i64 (runV p n align).2.2]) ∧ RPoolAt w' B v' s U' ∧ RefInv (runV p n align).1 U' ∧ Kept' B v v' w w' := by
  cases ha : askB n align
  · have e : runV p n align = (p, 0, 1) := by unfold runV; rw [ha]; rfl
    rw [e]
    exact (refRun_bad B n align w hal ha).mono fun e w' ⟨he, hw⟩ => by subst hw; exact ⟨v, U, he, h, hR, ⟨Kept.of_below (Below.refl _ _), fun k e => .inl e⟩⟩
  · exact refRun_go B v s U p n align w hok hsame hR h hal hl (by have := (askB_iff.1 ha).2.1; omega) ha

/-- A pool is left as it was by what keeps all but another block and its row. -/
theorem PoolAt.keptBy {w w' : World} {B C : Nat} {v u : Value} {p : Pl} (h : PoolAt w B v p) (hk : Kept C u w w') (h1 : B ≠ C) (h2 : ∀ k, v.ownBlock = some k → k ≠ C) (h3 : ∀ k, u.ownBlock = some k → k ≠ B ∧ v.ownBlock ≠ some k) : PoolAt w' B v p := by
  refine ⟨(hk.block B h.lt h1 (fun e => (h3 B e).1 rfl)).trans h.blk, h.own.1, ?_⟩
  rcases h.own.2 with hc | ⟨g, cap, cur, hv, hb, hgk, hr⟩
  · exact .inl hc
  · have e : v.ownBlock = some g := by rw [hv]; rfl
    exact .inr ⟨g, cap, cur, hv, hb, (hk.block g (Array.getElem?_eq_some_iff.1 hgk).1 (h2 g e) (fun e2 => (h3 g e2).2 e)).trans hgk, hr⟩
theorem RPoolAt.keptBy {w w' : World} {B C : Nat} {v u : Value} {s : Two} {U : List Int} (h : RPoolAt w B v s U) (hk : Kept C u w w') (h1 : B ≠ C) (h2 : ∀ k, v.ownBlock = some k → k ≠ C) (h3 : ∀ k, u.ownBlock = some k → k ≠ B ∧ v.ownBlock ≠ some k) : RPoolAt w' B v s U := by
  refine ⟨(hk.block B h.lt h1 (fun e => (h3 B e).1 rfl)).trans h.blk, h.own.1, ?_⟩
  rcases h.own.2 with hc | ⟨g, cap, cur, hv, hb, hgk, hr⟩
  · exact .inl hc
  · have e : v.ownBlock = some g := by rw [hv]; rfl
    exact .inr ⟨g, cap, cur, hv, hb, (hk.block g (Array.getElem?_eq_some_iff.1 hgk).1 (h2 g e) (fun e2 => (h3 g e2).2 e)).trans hgk, hr⟩
end Go.Proofs.Ytehijlgopmbglaa
