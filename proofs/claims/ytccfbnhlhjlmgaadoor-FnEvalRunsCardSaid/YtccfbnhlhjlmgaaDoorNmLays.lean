/-
  Contracts of the library's functions over this program: the numbers under which its bodies stand here, and that they are the same bodies. (no filter)
-/
import Derived.Test.YtccfbnhlhjlmgaaDoorCore
import Derived.Shelf.GgClosure.StringsIndexFunc
namespace Go.Proofs.YtccfbnhlhjlmgaaDoor
open Go.RowKit Go.Shelf

def laysIdxF_ren : Go.Shelf.Ren := ⟨fun | 315 => 146 | n => n, fun | 9 => 9 | 40 => 137 | 4 => 4 | 3 => 3 | 0 => 0 | 21 => 21 | n => n, fun | n => n⟩
theorem laysIdxF : Go.Proofs.Lays.n315 Tryd.prog laysIdxF_ren := {
  mixed := by kernel_rfl,
  f315 := Tryd.func146.trans (congrArg some (by kernel_rfl)),
  t0 := Tryd.underlying0,
  a0 := Tryd.isAgg0,
  z0 := Tryd.sizeOf0,
  v0 := Tryd.zeroValue0,
  t3 := Tryd.underlying3,
  a3 := Tryd.isAgg3,
  z3 := Tryd.sizeOf3,
  v3 := Tryd.zeroValue3,
  t4 := Tryd.underlying4,
  a4 := Tryd.isAgg4,
  z4 := Tryd.sizeOf4,
  v4 := Tryd.zeroValue4,
  t9 := Tryd.underlying9,
  a9 := Tryd.isAgg9,
  z9 := Tryd.sizeOf9,
  v9 := Tryd.zeroValue9,
  t21 := Tryd.underlying21,
  a21 := Tryd.isAgg21,
  z21 := Tryd.sizeOf21,
  v21 := Tryd.zeroValue21,
  t40 := Tryd.underlying137,
  a40 := Tryd.isAgg137,
  z40 := Tryd.sizeOf137,
  v40 := Tryd.zeroValue137 }

end Go.Proofs.YtccfbnhlhjlmgaaDoor
