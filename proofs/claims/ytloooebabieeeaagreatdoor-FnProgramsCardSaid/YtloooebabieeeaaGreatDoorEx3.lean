/-
  Expressions: the program's exprSize: the walk.
-/
import Derived.Test.YtloooebabieeeaaGreatDoorCp
import Derived.Test.YtloooebabieeeaaGreatDoorEx2
set_option maxRecDepth 100000
set_option maxHeartbeats 16000000
set_option linter.unusedVariables false
namespace Go.Proofs.YtloooebabieeeaaGreatDoor
open Go.RowKit
def Z6e (nameB:ByteArray→Bool) (m:Nat) (x:Z6) (e:Ending):Prop:=
 ∃p d:Int,e=.returned (.tuple #[.int .i64 p,.int .i64 d,.bool (Z0M nameB m x).isSome])∧∀q,Z0M nameB m x=some q→p=q.1∧d=q.2
theorem Z0w {nameB:ByteArray→Bool} {m:Nat} {x:Z6} (h:Z0M nameB m x=none):Z6e nameB m x (.returned (.tuple #[.int .i64 0,.int .i64 0,.bool false])):=
 ⟨0,0,by rw [h];rfl,fun q hq=>by rw [h] at hq;cases hq⟩
theorem Za6 {a b:Int} (h:a=b):Value.int .i64 a=.int .i64 b:=by rw [h]
def Z8P (nameB:ByteArray→Bool) (op n:Int) (name:ByteArray) (k l h:Nat):Prop:=
 Z0v nameB op n name k=((if ZL op<6 then n==0&&name.toList.isEmpty else true)&&inE l k h)
end Go.Proofs.YtloooebabieeeaaGreatDoor
