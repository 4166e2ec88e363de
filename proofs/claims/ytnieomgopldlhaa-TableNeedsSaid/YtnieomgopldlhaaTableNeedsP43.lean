/- RemX: RemA, RemB, RemC, RemD, as one text. -/
import Derived.Lib.AppendZerosOnto
import Derived.Laws.CopyRow
import Derived.Test.YtnieomgopldlhaaTableNeedsP14
import Derived.Test.YtnieomgopldlhaaTableNeedsP25
import Derived.Test.YtnieomgopldlhaaTableNeedsP27
import Derived.Test.YtnieomgopldlhaaTableNeedsP34
/-! Memory as the reference keeps it: a list of pages; a new memory; what an access asks. -/
namespace Go.Proofs.Ytnieomgopldlhaa
open Go Go.RowKit Go.BigFrame Go.Maps

def Pg.enc (p : Pg) : List Value := [.int .u64 (p.n * 4096), .slice (some ⟨p.blk, 0, none⟩) 4096 4096]
end Go.Proofs.Ytnieomgopldlhaa
/-! The reference's memory: writing bytes. -/
namespace Go.Proofs.Ytnieomgopldlhaa
open Go Go.RowKit Go.BigFrame Go.Maps

end Go.Proofs.Ytnieomgopldlhaa
/-! The reference's memory: putting a word; reading bytes; a word. -/
namespace Go.Proofs.Ytnieomgopldlhaa
open Go Go.RowKit Go.BigFrame Go.Maps

end Go.Proofs.Ytnieomgopldlhaa
/-! The reference's memory: a word. -/
namespace Go.Proofs.Ytnieomgopldlhaa
open Go Go.RowKit Go.BigFrame Go.Maps

end Go.Proofs.Ytnieomgopldlhaa
