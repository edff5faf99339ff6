
/-
  The program's visit in depth computes 'dfs'.
-/
import Derived.Test.YtonlidgmfmgcmaaDepth
import Derived.Deep.LoopGhost
namespace Go.Proofs.Ytonlidgmfmgcmaa
open Go.RowKit

end Go.Proofs.Ytonlidgmfmgcmaa
