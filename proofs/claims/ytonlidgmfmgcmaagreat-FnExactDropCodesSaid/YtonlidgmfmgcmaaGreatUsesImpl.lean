
/-
  How often registers are used: the program's walk.
-/
import Derived.Test.YtonlidgmfmgcmaaGreatUsesSpec
import Derived.Test.YtonlidgmfmgcmaaGreatCore
namespace Go.Proofs.YtonlidgmfmgcmaaGreat
open Go.RowKit

end Go.Proofs.YtonlidgmfmgcmaaGreat
