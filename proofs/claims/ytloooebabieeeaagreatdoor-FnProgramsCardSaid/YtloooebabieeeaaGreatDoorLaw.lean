/-
  What the laws' rows hand over of an argument that is a slice of ints, in the words of the walks.
-/
import Derived.Test.YtloooebabieeeaaGreatDoorCp
import Derived.Test.YtloooebabieeeaaGreatDoorBase
import Derived.ProofKit
import Derived.OpenShut
import Derived.ShutString
import Derived.ChangeOld
import Derived.Below
set_option maxRecDepth 100000
set_option maxHeartbeats 16000000
set_option linter.unusedVariables false
namespace Go.Proofs.YtloooebabieeeaaGreatDoor
open Go.RowKit
theorem Zbj:ownKnob Tryz.prog.godebug=none:=by kernel_rfl
theorem Z8J:laidOutB Tryz.prog=true:=by kernel_rfl
def ZbG (k:IntKind) (w:World) (a:Option Addr) (len cap:Nat) (zs:List Int):Prop:=
 (a=none∧len=0∧cap=0∧zs=[])∨
 ∃x,a=some x∧len≤cap∧cap≤maxLen∧zs.length=cap∧(∀i,i<zs.length→w.cell? (x.add i)=some (.int k (zs.getD i 0)))∧∀n∈zs,(Lit.int k n).wf=true
theorem Z6J {k:IntKind} {w:World} {a:Option Addr} {len cap:Nat} {zs:List Int} (h:ZbG k w a len cap zs):Z0g w a ((zs.take len).map (Value.int k))∧(zs.take len).length=len∧∀n∈zs.take len,(Lit.int k n).wf=true:=by
 rcases h with⟨rfl,rfl,rfl,rfl⟩|⟨x,rfl,hl,hm,hz,hc,hw⟩
 ·exact⟨.inl (by simp),by simp,by simp⟩
 ·refine⟨?_,by simp;omega,fun n hn=>hw n (List.mem_of_mem_take hn)⟩
  by_cases h0:len=0
  ·subst h0;exact .inl (by simp)
  ·obtain⟨b,off,spot⟩:=x
   have h1:=hc 0 (by omega)
   have hspot:spot=none:=by simpa [Addr.add] using World.cell?_spot h1
   subst hspot
   refine .inr ⟨b,off,rfl,fun i v hv=>?_⟩
   rw [List.getElem?_map,List.getElem?_take] at hv
   split at hv
   ·rename_i hi
    have h2:=hc i (by omega)
    have hadd:(⟨b,off,none⟩:Addr).add i=⟨b,off+i,none⟩:=by unfold Addr.add;split<;>simp_all
    rw [hadd] at h2
    rw [h2,← hv,List.getD_eq_getElem?_getD,List.getElem?_eq_getElem (by omega)]
    simp
   ·simp at hv
end Go.Proofs.YtloooebabieeeaaGreatDoor
