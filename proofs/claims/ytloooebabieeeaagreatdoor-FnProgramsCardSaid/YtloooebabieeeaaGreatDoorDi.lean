/-
  FnDoIns: what an instruction makes of values, both.
-/
import Derived.Test.YtloooebabieeeaaGreatDoorCp
import Derived.Test.YtloooebabieeeaaGreatDoorEx3
import Derived.Deep.LoopGhost
set_option maxRecDepth 100000
set_option maxHeartbeats 16000000
set_option linter.unusedVariables false
namespace Go.Proofs.YtloooebabieeeaaGreatDoor
open Go.RowKit
theorem Z9L (x lo hi:Int) (w:World):Calls Tryz.prog 50 #[.int .i64 x,.int .i64 lo,.int .i64 hi] w fun e w'=>e=.returned (.bool (inE lo x hi))∧w'=w:=by
 unfold inE
 by_cases h1:lo≤x
 ·have d1:decide (lo≤x)=true:=decide_eq_true h1
  by_cases h2:x≤hi
  ·have d2:decide (x≤hi)=true:=decide_eq_true h2
   rw [d1,d2]
   go_enter Tryz.func50,Tryz.ntmps50
   go_wp2
   go_ret
   exact⟨rfl,rfl⟩
  ·have d2:decide (x≤hi)=false:=decide_eq_false h2
   rw [d1,d2]
   go_enter Tryz.func50,Tryz.ntmps50
   go_wp2
   go_ret
   exact⟨rfl,rfl⟩
 ·have d1:decide (lo≤x)=false:=decide_eq_false h1
  rw [d1]
  go_enter Tryz.func50,Tryz.ntmps50
  go_wp2
  go_ret
  exact⟨rfl,rfl⟩
theorem Z0m {x lo hi:Int} {b:Bool} (h:inE lo x hi=b) (w:World):Calls Tryz.prog 50 #[.int .i64 x,.int .i64 lo,.int .i64 hi] w fun e w'=>e=.returned (.bool b)∧w'=w:=by rw [← h];exact Z9L x lo hi w
end Go.Proofs.YtloooebabieeeaaGreatDoor
