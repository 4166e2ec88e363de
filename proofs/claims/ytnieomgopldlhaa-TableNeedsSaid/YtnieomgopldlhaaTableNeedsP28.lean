/- A walk through tables: what it comes to; the program's walk. -/
import Derived.Test.YtnieomgopldlhaaTableNeedsP6
import Derived.Test.YtnieomgopldlhaaTableNeedsP23
import Derived.Test.YtnieomgopldlhaaTableNeedsP27
namespace Go.Proofs.Ytnieomgopldlhaa
open Go Go.RowKit Go.BigFrame Go.Maps

structure HitV where
  pa : Int
  perm : Int
  mem : Int
  level : Int
def HitV.val (h : HitV) : Value := .agg #[.int .u64 h.pa, .int .i64 h.perm, .int .i64 h.mem, .int .i64 h.level]
def tabIdx (k ipa : Int) : Int := if 1 < k then ipa / szV k % 512 else ipa / szV k
end Go.Proofs.Ytnieomgopldlhaa
