/-
  Expressions: the program's exprSize.
-/
import Derived.Test.YtloooebabieeeaaGreatDoorCp
import Derived.Test.YtloooebabieeeaaGreatDoorEx
import Derived.Deep.DeepCutAuto
import Derived.Deep.CutBlock
import Derived.Deep.RegionLaw
set_option maxRecDepth 100000
set_option maxHeartbeats 16000000
set_option linter.unusedVariables false
namespace Go.Proofs.YtloooebabieeeaaGreatDoor
open Go.RowKit
theorem Z4F (x lo hi:Int) (w:World):Calls Tryz.prog 41 #[.int .i64 x,.int .i64 lo,.int .i64 hi] w fun e w'=>e=.returned (.bool (inE lo x hi))∧w'=w:=by
 unfold inE
 by_cases h1:lo≤x
 ·have d1:decide (lo≤x)=true:=decide_eq_true h1
  by_cases h2:x≤hi
  ·have d2:decide (x≤hi)=true:=decide_eq_true h2
   rw [d1,d2]
   go_enter Tryz.func41,Tryz.ntmps41
   go_wp2
   go_ret
   exact⟨rfl,rfl⟩
  ·have d2:decide (x≤hi)=false:=decide_eq_false h2
   rw [d1,d2]
   go_enter Tryz.func41,Tryz.ntmps41
   go_wp2
   go_ret
   exact⟨rfl,rfl⟩
 ·have d1:decide (lo≤x)=false:=decide_eq_false h1
  rw [d1]
  go_enter Tryz.func41,Tryz.ntmps41
  go_wp2
  go_ret
  exact⟨rfl,rfl⟩
theorem Z8e (x:Int) (w:World):Calls Tryz.prog 125 #[.int .i64 x] w fun e w'=>e=.returned (.bool (inE 0 x 255))∧w'=w:=by
 go_enter Tryz.func125,Tryz.ntmps125
 go_wp2_with fail
 refine(Z4F x 0 255 w).mono ?_
 rintro e w1 ⟨rfl,rfl⟩
 go_wp2
 go_ret
 exact⟨rfl,rfl⟩
theorem Z0S {x lo hi:Int} {b:Bool} (h:inE lo x hi=b) (w:World):Calls Tryz.prog 41 #[.int .i64 x,.int .i64 lo,.int .i64 hi] w fun e w'=>e=.returned (.bool b)∧w'=w:=by rw [← h];exact Z4F x lo hi w
theorem Z4a {x:Int} {b:Bool} (h:inE 0 x 255=b) (w:World):Calls Tryz.prog 125 #[.int .i64 x] w fun e w'=>e=.returned (.bool b)∧w'=w:=by rw [← h];exact Z8e x w
theorem Z7e (s:ByteArray) (v:Int) (w:World):(Instr.field 136 (.agg #[.string s,.int .i64 v]) 1).run Tryz.prog w=.ok (.int .i64 v) w:=by kernel_rfl
theorem Z4H (op:Int):0≤lvl op∧lvl op≤4:=by
 unfold lvl
 repeat' split
 all_goals omega
theorem Z08 (op:Int) (w:World) (hop:-9223372036854775808≤op∧op≤9223372036854775807) (hO:Z3P w) :
  Calls Tryz.prog 96 #[.int .i64 op] w fun e w'=>e=.returned (.int .i64 (ZL op))∧w'=w:=by
 obtain⟨bm,o,c1,hbm,hl⟩:=hO
 obtain⟨s,hlk⟩:=hl w hbm op hop
 have HO:=hdd hbm
 clear hbm hl
 have hr:=Z4H op
 have hfl:=Z7e s (lvl op) w
 go_enter Tryz.func96,Tryz.ntmps96
 by_cases h0:0<lvl op
 ·have HL:=hdd (show ZL op=lvl op by rw [ZL,if_pos h0])
  generalize lvl op=v at h0 hr hlk hfl HL
  go_wp2
  go_ret
  exact⟨Z2m HL.out.symm,rfl⟩
 ·by_cases h1:op=11
  ·have HL:=hdd (show ZL op=5 by rw [ZL,if_neg h0,if_pos (.inl h1)])
   generalize lvl op=v at h0 hr hlk hfl
   subst h1
   go_wp2
   go_ret
   exact⟨Z2m HL.out.symm,rfl⟩
  ·by_cases h2:op=12
   ·have HL:=hdd (show ZL op=5 by rw [ZL,if_neg h0,if_pos (.inr h2)])
    generalize lvl op=v at h0 hr hlk hfl
    subst h2
    go_wp2
    go_ret
    exact⟨Z2m HL.out.symm,rfl⟩
   ·have HL:=hdd (show ZL op=6 by rw [ZL,if_neg h0,if_neg (by omega)])
    have e1:(op==11)=false:=by simpa using h1
    have e2:(op==12)=false:=by simpa using h2
    generalize lvl op=v at h0 hr hlk hfl
    clear h1 h2
    go_wp2
    go_ret
    exact⟨Z2m HL.out.symm,rfl⟩
end Go.Proofs.YtloooebabieeeaaGreatDoor
