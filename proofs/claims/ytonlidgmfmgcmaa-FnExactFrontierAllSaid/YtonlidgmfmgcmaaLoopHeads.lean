
/-
  The program's answer of LoopHeads.
-/
import Derived.Test.YtonlidgmfmgcmaaHeads2
namespace Go.Proofs.Ytonlidgmfmgcmaa
open Go.RowKit

end Go.Proofs.Ytonlidgmfmgcmaa
