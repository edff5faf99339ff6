
/-
  OrderIn, the reference's and the program's.
-/
import Derived.Test.YtonlidgmfmgcmaaOrderIn2
namespace Go.Proofs.Ytonlidgmfmgcmaa
open Go.RowKit

end Go.Proofs.Ytonlidgmfmgcmaa
