/-
  The names of an expression's variables (VarsOf).
-/
import Derived.Test.YtccdmgncjlpebaaDoorEp
import Derived.Test.YtccdmgncjlpebaaDoorPe1
import Derived.Test.YtccdmgncjlpebaaDoorEs3
import Derived.Deep.LoopGhost

namespace Go.Proofs.YtccdmgncjlpebaaDoor
open Go.RowKit
set_option linter.unusedVariables false

theorem info_strN : (Tryd.prog.info? 9).map (fun i => (i.zero, i.size, i.bytes)) = some (some (.string ByteArray.empty), 1, 16) := by kernel_rfl
theorem und_strsN : Tryd.prog.underlying 29 = some (.slice 9) := by kernel_rfl
end Go.Proofs.YtccdmgncjlpebaaDoor
