/- The walks of the reference's page, SameMaps (at lists alike) and Good. -/
import Derived.Test.YtffdfeekpfmbeaaGreatValidChecksP8
import Derived.Test.YtffdfeekpfmbeaaGreatValidChecksP9
import Derived.Test.YtffdfeekpfmbeaaGreatValidChecksP11
namespace Go.Proofs.YtffdfeekpfmbeaaGreat
open Go Go.RowKit Go.BigFrame

/-- Whole pages below 2^40. -/
def pageM (b n : Int) : Bool := (goodB b n && (decide (b % 4096 = 0) && decide (n % 4096 = 0))) && decide (lastV b n < 1099511627776)
theorem pageM_iff {b n : Int} : pageM b n = true ↔ 0 < n ∧ b + (n - 1) < 1099511627776 ∧ b % 4096 = 0 ∧ n % 4096 = 0 := by
  unfold pageM
  rw [Bool.and_eq_true, Bool.and_eq_true, Bool.and_eq_true, decide_eq_true_iff, decide_eq_true_iff, decide_eq_true_iff, goodB_iff]
  constructor
  · rintro ⟨⟨h1, h2, h3⟩, h4⟩
    rw [lastV_yes (goodB_iff.2 h1)] at h4
    exact ⟨h1.1, h4, h2, h3⟩
  · rintro ⟨h1, h2, h3, h4⟩
    have hg : goodB b n = true := goodB_iff.2 ⟨h1, by omega⟩
    exact ⟨⟨⟨h1, by omega⟩, h3, h4⟩, by rw [lastV_yes hg]; exact h2⟩

set_option maxHeartbeats 1000000 in
theorem page_any (x : Two) (w : World) : Calls Tryz.prog 37 #[.int .u64 x.a, .int .u64 x.b] w fun e w' => e = .returned (.bool (pageM x.a x.b)) ∧ Below w.heap.size w w' := by
  have hp := fun W => refPages_any x W
  have hl := fun W => refLast_any x.a x.b W x.ha x.hb
  rw [pageBad_not] at hp
  unfold pageM
  have k1 := alloc_two w (.int .u64 x.a) (.int .u64 x.b) 24
  generalize (goodB x.a x.b && (decide (x.a % 4096 = 0) && decide (x.b % 4096 = 0))) = b at *
  generalize lastV x.a x.b = L at *
  cases b
  · go_enter Tryz.func37, Tryz.ntmps37
    go_wp2_with fail
    refine (hp _).mono ?_; rintro e w1 ⟨rfl, hb1⟩
    go_wp2_with fail
    go_ret
    exact ⟨rfl, bnew hb1⟩
  · go_enter Tryz.func37, Tryz.ntmps37
    go_wp2_with fail
    refine (hp _).mono ?_; rintro e w1 ⟨rfl, hb1⟩
    have c0 := cell_lt hb1 k1.1 (by simp)
    have c1 := cell_lt hb1 k1.2 (by simp)
    go_wp2_with fail
    refine (hl _).mono ?_; rintro e w2 ⟨rfl, hb2⟩
    go_wp2_with fail
    go_ret
    exact ⟨ret_bool (by simp), bthen (bnew hb1) hb2⟩

end Go.Proofs.YtffdfeekpfmbeaaGreat
/- The walk of the reference's Good: whether parts may be mapped. -/
namespace Go.Proofs.YtffdfeekpfmbeaaGreat
open Go Go.RowKit Go.BigFrame

def elemB (x : M5) : Bool := pageM x.ipa x.sz && (pageM x.pa x.sz && decide (1 ≤ x.perm ∧ x.perm ≤ 7 ∧ 0 ≤ x.kind ∧ x.kind ≤ 1))
def endM (x : M5) : Int := (x.ipa + x.sz) % 18446744073709551616
theorem five_new (W : World) (a b c d e : Value) (t : TypeId) : (W.alloc (.cells #[a, b, c, d, e] t)).cell? ⟨W.heap.size, 0, none⟩ = some a ∧ (W.alloc (.cells #[a, b, c, d, e] t)).cell? ⟨W.heap.size, 1, none⟩ = some b ∧ (W.alloc (.cells #[a, b, c, d, e] t)).cell? ⟨W.heap.size, 2, none⟩ = some c ∧ (W.alloc (.cells #[a, b, c, d, e] t)).cell? ⟨W.heap.size, 3, none⟩ = some d ∧ (W.alloc (.cells #[a, b, c, d, e] t)).cell? ⟨W.heap.size, 4, none⟩ = some e := by
  refine ⟨?_, ?_, ?_, ?_, ?_⟩ <;> simp [World.cell?_alloc_new]

end Go.Proofs.YtffdfeekpfmbeaaGreat
