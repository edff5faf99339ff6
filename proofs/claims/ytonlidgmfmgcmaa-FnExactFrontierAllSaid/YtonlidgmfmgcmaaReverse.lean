
/-
  The library's slices.Reverse over ints that a call has made.
-/
import Derived.Test.YtonlidgmfmgcmaaOrderIn
namespace Go.Proofs.Ytonlidgmfmgcmaa
open Go.RowKit

end Go.Proofs.Ytonlidgmfmgcmaa
