/-
  Expressions with names: what they evaluate to; where a name's value lies.
-/
import Derived.Test.YtloooebabieeeaaGreatDoorCp
import Derived.Test.YtloooebabieeeaaGreatDoorEx3
import Derived.Deep.LoopGhost
import Derived.Test.YtloooebabieeeaaGreatDoorEy4
import Derived.Test.YtloooebabieeeaaGreatDoorNm
import Derived.Maps.OwnSet
import Derived.Maps.OwnOps
import Derived.Maps.Views
import Derived.Test.YtloooebabieeeaaGreatDoorEp
import Derived.Deep.QuietTactic
import Derived.BigQuiet
import Derived.Defers
import Derived.Recover
import Derived.Tactics2
import Derived.Laws.Pointers
import Derived.Test.YtloooebabieeeaaGreatDoorBase
import Derived.Test.YtloooebabieeeaaGreatDoorEx2
import Derived.Carry
import Derived.Deep.DeepCutAuto
import Derived.StillTailTactics
import Derived.Test.YtloooebabieeeaaGreatDoorDi
set_option maxRecDepth 100000
set_option maxHeartbeats 16000000
set_option linter.unusedVariables false
namespace Go.Proofs.YtloooebabieeeaaGreatDoor
open Go.RowKit
theorem Z4h {p:Z6→Bool} {d:Nat} {x:Z6} (h:Z1z p (d+1) x=false):p x=false∧∀k∈x.kids,Z1z p d k=false:=by
 rw [Z1z,Bool.or_eq_false_iff] at h
 exact⟨h.1,fun k hk=>by simpa using List.any_eq_false.1 h.2 k hk⟩
theorem ZcI {R:World→List Value→Z6→Prop} {w:World} {kb:Nat} {c1 c2:List Value} {x1 x2:Z6} {t:TypeId} (h:w.heap[kb]? = some (.cells (c1++c2).toArray t (0,0))) (l1:c1.length=4) (l2:c2.length=4) (h1:R w c1 x1) (h2:R w c2 x2) :
  Z03 4 R w (some ⟨kb,0,none⟩) 2 [x1,x2]:=by
 refine⟨rfl,[c1,c2],.inr ⟨kb,0,rfl,fun i v hv=>?_⟩,rfl,by intro c hc;simp at hc;rcases hc with rfl|rfl<;>assumption,?_⟩
 ·rw [coR _ _ (0+i) _ _ _ h]
  simpa using hv
 ·intro i c x hc hx
  match i with
  | 0=>cases hc;cases hx;exact h1
  | 1=>cases hc;cases hx;exact h2
  | i+2=>cases hc
theorem ZcS {R:World→List Value→Z6→Prop} {w:World} {kb:Nat} {c1:List Value} {x1:Z6} {t:TypeId} (h:w.heap[kb]? = some (.cells c1.toArray t (0,0))) (l1:c1.length=4) (h1:R w c1 x1) :
  Z03 4 R w (some ⟨kb,0,none⟩) 1 [x1]:=by
 refine⟨rfl,[c1],.inr ⟨kb,0,rfl,fun i v hv=>?_⟩,rfl,by intro c hc;simp at hc;rcases hc with rfl;assumption,?_⟩
 ·rw [coR _ _ (0+i) _ _ _ h]
  simpa using hv
 ·intro i c x hc hx
  match i with
  | 0=>cases hc;cases hx;exact h1
  | i+1=>cases hc
theorem Z8W {op:Int} (h:0≤op∧op≤13):-9223372036854775808≤op∧op≤9223372036854775807:=by omega
theorem Z8v {d:Nat} {w:World} {cs:List Value} {x:Z6} (h:ZX d w cs x):∃a c,cs=[.int .i64 x.op,.int .i64 x.n,.string x.name,.slice a x.kids.length c]:=by
 cases d with
 | zero=>exact h.elim
 | succ d=>obtain⟨a,c,h1,_⟩:=h;exact⟨a,c,h1⟩
end Go.Proofs.YtloooebabieeeaaGreatDoor
