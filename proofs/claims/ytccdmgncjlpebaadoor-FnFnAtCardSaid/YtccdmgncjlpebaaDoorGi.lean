/-
  The reference draws the arguments of EvalExpr. (printed by mkdr5.py)
-/
import Derived.Test.YtccdmgncjlpebaaDoorDr4
import Derived.Test.YtccdmgncjlpebaaDoorLaw
import Derived.Test.YtccdmgncjlpebaaDoorGs
import Derived.StillTailTactics
import Derived.Deep.QuietTactic
import Derived.BigQuiet
import Derived.Deep.RegionHeld3

namespace Go.Proofs.YtccdmgncjlpebaaDoor
open Go.RowKit
set_option linter.unusedVariables false

theorem BytesRd.later {w w' : World} {a : Option Addr} {len : Nat} {bs : List Int} (h : BytesRd w a len bs) (hb : Below w.heap.size w w') : BytesRd w' a len bs := ⟨h.length, h.row.later hb, h.byte⟩
section
variable {W0 wr w' : World} {br : Nat} {a : Option Addr} {len cap : Nat} {bs : List Int} {nb p q : Nat} {ia : Option Addr} {k ic : Nat} {is : List Int}
variable {rb eb : Nat} {cs : List Value} {x : ExprD}
end

end Go.Proofs.YtccdmgncjlpebaaDoor

/-
  The reference draws programs and statements for the laws (DrawStmtCount, DrawStmtValid), from what l3Bent gives.
-/
namespace Go.Proofs.YtccdmgncjlpebaaDoor
open Go.RowKit
set_option linter.unusedVariables false

theorem setCells5v (w : World) (g : Nat) (v0 v1 v2 v3 v4 : Value) : w.setCells g 0 [v0, v1, v2, v3, v4] = ((((w.setCell ⟨g, 0, none⟩ v0).setCell ⟨g, 1, none⟩ v1).setCell ⟨g, 2, none⟩ v2).setCell ⟨g, 3, none⟩ v3).setCell ⟨g, 4, none⟩ v4 := rfl
end Go.Proofs.YtccdmgncjlpebaaDoor
