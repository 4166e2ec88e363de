/- The walks of the reference's page, SameMaps (at lists alike) and Good. -/
import Derived.WalkSpells
import Derived.WalkLawsBesides
import Derived.BigQuiet
import Derived.Test.YtffdfeekpfmbeaaProg
import Derived.Test.YtffdfeekpfmbeaaVGP4
import Derived.Test.YtffdfeekpfmbeaaVGP8
import Derived.Test.YtffdfeekpfmbeaaVGP9
import Derived.Test.YtffdfeekpfmbeaaVGP10
namespace Go.Proofs.Ytffdfeekpfmbeaa
open Go Go.RowKit Go.BigFrame

/-- Whole pages below 2^40. -/
def pageM (b n : Int) : Bool := (goodB b n && (decide (b % 4096 = 0) && decide (n % 4096 = 0))) && decide (lastV b n < 1099511627776)
theorem pageM_iff {b n : Int} : pageM b n = true ↔ 0 < n ∧ b + (n - 1) < 1099511627776 ∧ b % 4096 = 0 ∧ n % 4096 = 0 := by
  unfold pageM
  rw [Bool.and_eq_true, Bool.and_eq_true, Bool.and_eq_true, decide_eq_true_iff, decide_eq_true_iff, decide_eq_true_iff, goodB_iff]
  constructor
  · rintro ⟨⟨h1, h2, h3⟩, h4⟩
    rw [lastV_yes (goodB_iff.2 h1)] at h4
    exact ⟨h1.1, h4, h2, h3⟩
  · rintro ⟨h1, h2, h3, h4⟩
    have hg : goodB b n = true := goodB_iff.2 ⟨h1, by omega⟩
    exact ⟨⟨⟨h1, by omega⟩, h3, h4⟩, by rw [lastV_yes hg]; exact h2⟩

end Go.Proofs.Ytffdfeekpfmbeaa
