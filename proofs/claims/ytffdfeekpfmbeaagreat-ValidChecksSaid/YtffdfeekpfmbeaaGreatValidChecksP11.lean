/- The closure by which span.merged sorts: by the first address, then by the last. -/
import Derived.WalkSpells
import Derived.WalkLawsBesides
import Derived.BigQuiet
import Derived.Test.YtffdfeekpfmbeaaGreatProg
import Derived.Test.YtffdfeekpfmbeaaGreatValidChecksP4
import Derived.Test.YtffdfeekpfmbeaaGreatValidChecksP10
namespace Go.Proofs.YtffdfeekpfmbeaaGreat
open Go Go.RowKit

theorem alloc_two (W : World) (p q : Value) (t : TypeId) : (W.alloc (.cells #[p, q] t)).cell? ⟨W.heap.size, 0, none⟩ = some p ∧ (W.alloc (.cells #[p, q] t)).cell? ⟨W.heap.size, 1, none⟩ = some q := ⟨by simp [World.cell?_alloc_new], by simp [World.cell?_alloc_new]⟩

end Go.Proofs.YtffdfeekpfmbeaaGreat
