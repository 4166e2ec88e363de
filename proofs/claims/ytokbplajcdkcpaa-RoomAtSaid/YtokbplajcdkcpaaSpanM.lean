/- The closure by which span.merged sorts: by the first address, then by the last. -/
import Derived.Test.YtokbplajcdkcpaaQuietT
import Derived.Test.YtokbplajcdkcpaaTwo
import Derived.Test.YtokbplajcdkcpaaProg
import Derived.WalkSpells
import Derived.WalkLawsBesides
import Derived.BigQuiet
namespace Go.Proofs.Ytokbplajcdkcpaa
open Go Go.RowKit

def cmpI (x y : Int) : Int := if x < y then -1 else if y < x then 1 else 0
def cmpTwo (x y : Two) : Int := if cmpI x.a y.a = 0 then cmpI x.b y.b else cmpI x.a y.a




theorem alloc_two (W : World) (p q : Value) (t : TypeId) : (W.alloc (.cells #[p, q] t)).cell? ⟨W.heap.size, 0, none⟩ = some p ∧ (W.alloc (.cells #[p, q] t)).cell? ⟨W.heap.size, 1, none⟩ = some q := ⟨by simp [World.cell?_alloc_new], by simp [World.cell?_alloc_new]⟩

end Go.Proofs.Ytokbplajcdkcpaa
