/-
  Contracts of the library's functions over this program: the numbers under which its bodies stand here, and that they are the same bodies. (no filter)
-/
import Derived.Test.YtloooebabieeeaaGreatDoorCp
import Derived.Test.YtloooebabieeeaaGreatDoorCore
import Derived.Shelf.GgClosure.StringsIndexFunc
set_option maxRecDepth 100000
set_option maxHeartbeats 16000000
set_option linter.unusedVariables false
namespace Go.Proofs.YtloooebabieeeaaGreatDoor
open Go.RowKit Go.Shelf
def Z7v:Go.Shelf.Ren:=⟨fun|315=>91|n=>n,fun|9=>9|40=>102|4=>4|3=>3|0=>0|21=>21|n=>n,fun|n=>n⟩
theorem Zbp:Go.Proofs.Lays.n315 Tryz.prog Z7v:={
 mixed:=by kernel_rfl,
 f315:=Tryz.func91.trans (congrArg some (by kernel_rfl)),
 t0:=Tryz.underlying0,
 a0:=Tryz.isAgg0,
 z0:=Tryz.sizeOf0,
 v0:=Tryz.zeroValue0,
 t3:=Tryz.underlying3,
 a3:=Tryz.isAgg3,
 z3:=Tryz.sizeOf3,
 v3:=Tryz.zeroValue3,
 t4:=Tryz.underlying4,
 a4:=Tryz.isAgg4,
 z4:=Tryz.sizeOf4,
 v4:=Tryz.zeroValue4,
 t9:=Tryz.underlying9,
 a9:=Tryz.isAgg9,
 z9:=Tryz.sizeOf9,
 v9:=Tryz.zeroValue9,
 t21:=Tryz.underlying21,
 a21:=Tryz.isAgg21,
 z21:=Tryz.sizeOf21,
 v21:=Tryz.zeroValue21,
 t40:=Tryz.underlying102,
 a40:=Tryz.isAgg102,
 z40:=Tryz.sizeOf102,
 v40:=Tryz.zeroValue102 }
end Go.Proofs.YtloooebabieeeaaGreatDoor
