/-
  A region that draws its order, walked with loads held: what they read need not stand behind the very last operation (a store into what was read).
-/
import Derived.Test.YtloooebabieeeaaGreatDoorCp
import Derived.Deep.RegionHeld
import Derived.Test.YtloooebabieeeaaGreatDoorCore
set_option maxRecDepth 100000
set_option maxHeartbeats 16000000
set_option linter.unusedVariables false
namespace Go.Proofs.YtloooebabieeeaaGreatDoor
open Go Go.RowKit
section
variable {P:Program} {ops:Array Oper} {Q:Exit→Act→World→Prop} {md:Region.Mode} {S:World→Prop}
def Z8l (n:Nat) (l:Array Bool):Bool:=(List.range n).any (fun k=>!(l.getD k true))
theorem ZaX {n k:Nat} {l:Array Bool} (hk:k<n) (h:l.getD k true=false):Z8l n l=true:=
 List.any_eq_true.2 ⟨k,List.mem_range.2 hk,by simp only [h];rfl⟩
def Z1i (P:Program) (md:Region.Mode) (ops:Array Oper) (Q:Exit→Act→World→Prop) (S:World→Prop):Nat→Array Bool→Act→World→Prop
 | 0,listed,a,w=>Region.ready md ops listed=[]∧Q .normal a w
 | fuel+1,listed,a,w=>
  (Region.ready md ops listed=[]→Q .normal a w)∧
  ∀i∈Region.ready md ops listed,wpOp P ops Q i (fun a' w'=>(Z8l ops.size (listed.setIfInBounds i true)=true→S w')∧Z1i P md ops Q S fuel (listed.setIfInBounds i true) a' w') a w
theorem Z5C:∀(fuel:Nat) (listed:Array Bool) (a:Act) (w:World),Z1i P md ops Q S fuel listed a w→wpAny P md ops Q fuel listed a w
 | 0,_,_,_,h=>h
 | fuel+1,_,_,_,h=>⟨h.1,fun i hi=>wpOp_mono (fun a' w' h'=>Z5C fuel _ a' w' h'.2) (h.2 i hi)⟩
theorem Z7G {i k:Nat} {oi ok:Oper} {v:Value} (hi:ops[i]? = some oi) (hk:ops[k]? = some ok) (hki:k≠i) (hwait:∃e∈ok.after,Region.binds md e=true∧e.on=i) (hsel:∀(j:Nat) (o:Oper) cs b,ops[j]? = some o→o.op≠.select cs b)
  (hQ:∀c a w,Q (.panic c) (a.put oi.dst v) w→Q (.panic c) a w) :
  ∀(fuel:Nat) (listed:Array Bool) (a:Act) (w:World),
   (∀j oj,ops[j]? = some oj→j≠i→listed.getD j true=false→(∀e∈oj.after,Region.binds md e=true→e.on≠i)→oi.apart ops oj=true)→
   i∈Region.ready md ops listed→listed.getD k true=false→YieldsIf P ops S oi v a→S w→
   Z1i P md ops Q S fuel (listed.setIfInBounds i true) (a.put oi.dst v) w→Z1i P md ops Q S (fuel+1) listed a w:=by
 intro fuel
 have hkn:k<ops.size:=by
  rcases Nat.lt_or_ge k ops.size with h|h
  ·exact h
  ·rw [Array.getElem?_eq_none h] at hk;cases hk
 induction fuel with
 | zero=>
  intro listed a w _ hr hkl hy hS H
  refine⟨fun h=>(by rw [h] at hr;cases hr),fun j hj=>?_⟩
  by_cases hji:j=i
  ·subst hji;exact hy.wpOp hi hS ⟨fun _=>hS,H⟩
  ·have:=ready_mono hj hji
   rw [H.1] at this
   cases this
 | succ fuel ih=>
  intro listed a w hfree hr hkl hy hS H
  refine⟨fun h=>(by rw [h] at hr;cases hr),fun j hj=>?_⟩
  by_cases hji:j=i
  ·subst hji;exact hy.wpOp hi hS ⟨fun _=>hS,H⟩
  ·have h1:=H.2 j (ready_mono hj hji)
   obtain⟨hjun,oj,hoj,hall⟩:=mem_ready.1 hj
   have hnot:∀e∈oj.after,Region.binds md e=true→e.on≠i:=fun e he hb heq=>by
    have h1:=hall e he hb
    have h0:=(mem_ready.1 hr).1
    rw [heq] at h1
    rcases Nat.lt_or_ge i listed.size with h'|h'
    ·simp [h'] at h0 h1;rw [h0] at h1;cases h1
    ·simp [Array.getElem?_eq_none h'] at h1
   have hjk:j≠k:=fun e=>by
    subst e
    rw [hk] at hoj
    cases hoj
    obtain⟨e,he,hb,heq⟩:=hwait
    exact hnot e he hb heq
   have hkj:(listed.setIfInBounds j true).getD k true=false:=by rw [getD_set_ne true hjk];exact hkl
   have hkij:((listed.setIfInBounds i true).setIfInBounds j true).getD k true=false:=by rw [getD_set_ne true hjk,getD_set_ne true (Ne.symm hki)];exact hkl
   have h2:=wpOp_putIf hoj (hfree j oj hoj hji hjun hnot) (fun cs b=>hsel i oi cs b hi) (fun cs b=>hsel j oj cs b hoj) hQ hy h1
   have hfree':∀k ok,ops[k]? = some ok→k≠i→(listed.setIfInBounds j true).getD k true=false→
     (∀e∈ok.after,Region.binds md e=true→e.on≠i)→oi.apart ops ok=true:=fun k ok hk hki hun hno=>by
    refine hfree k ok hk hki ?_ hno
    by_cases hjk:j=k
    ·subst hjk;exact hjun
    ·rw [getD_set_ne true hjk] at hun;exact hun
   refine wpOp_mono (fun a' w' h3=>?_) h2
   have hSw:=h3.2.1 (ZaX hkn hkij)
   refine⟨fun _=>hSw,ih (listed.setIfInBounds j true) a' w' hfree' (ready_mono hr (Ne.symm hji)) hkj h3.1 hSw ?_⟩
   rw [Array.setIfInBounds_comm _ _ hji]
   exact h3.2.2
theorem Z50 {i:Nat} (k:Nat) {oi:Oper} {v:Value} {fuel:Nat} {listed:Array Bool} {a:Act} {w:World} (hi:ops[i]? = some oi)
  (hs:Region.noSelect ops=true) (hf:Region.free md ops listed i=true) (hr:(Region.ready md ops listed).contains i=true)
  (hw:((ops[k]?.map fun o=>o.after.any (fun e=>Region.binds md e&&e.on==i))==some true&&!(listed.getD k true)&&k != i)=true)
  (hQ:∀c a w,Q (.panic c) (a.put oi.dst v) w→Q (.panic c) a w) (hy:YieldsIf P ops S oi v a) (hS:S w)
  (h:Z1i P md ops Q S fuel (listed.setIfInBounds i true) (a.put oi.dst v) w):Z1i P md ops Q S (fuel+1) listed a w:=by
 simp only [Bool.and_eq_true,beq_iff_eq,bne_iff_ne,Bool.not_eq_true',Option.map_eq_some_iff] at hw
 obtain⟨⟨⟨ok,hk,hany⟩,hkl⟩,hki⟩:=hw
 obtain⟨e,he,hb⟩:=Array.any_eq_true'.1 hany
 simp only [Bool.and_eq_true,beq_iff_eq] at hb
 exact Z7G hi hk hki ⟨e,he,hb⟩ (Region.noSelect_spec hs) hQ fuel listed a w (Region.free_spec hi hf) (by simpa using hr) hkl hy hS h
theorem Zq {listed:Array Bool} {a:Act} {w:World} (hr:Region.ready md ops listed=[]) (h:Q .normal a w) :
  ∀fuel,Z1i P md ops Q S fuel listed a w
 | 0=>⟨hr,h⟩
 | _+1=>⟨fun _=>h,by rw [hr];simp⟩
def ZD (P:Program) (md:Region.Mode) (ops:Array Oper) (Q:Exit→Act→World→Prop) (S:World→Prop) (fuel:Nat) (listed:Array Bool) (a:Act) (w:World) (rs:List Nat):Prop:=
 ∀i∈rs,wpOp P ops Q i (fun a' w'=>(Z8l ops.size (listed.setIfInBounds i true)=true→S w')∧Z1i P md ops Q S fuel (listed.setIfInBounds i true) a' w') a w
theorem ZD.nil {fuel:Nat} {listed:Array Bool} {a:Act} {w:World}:ZD P md ops Q S fuel listed a w []:=fun _ h=>by cases h
theorem ZD.cons {fuel:Nat} {listed:Array Bool} {a:Act} {w:World} {i:Nat} {o:Oper} {rs:List Nat} (ho:ops[i]? = some o)
  (h:∀K':Act→World→Prop,Shut (∀a w,(Z8l ops.size (listed.setIfInBounds i true)=true→S w)→Z1i P md ops Q S fuel (listed.setIfInBounds i true) a w→K' a w)→if Region.wanted o (yielded ops a.tmps)=true then Oper.wp P o a w K' Q else K' (a.put o.dst undef) w)
  (hs:ZD P md ops Q S fuel listed a w rs):ZD P md ops Q S fuel listed a w (i::rs):=fun j hj=>by
 rcases List.mem_cons.1 hj with rfl|hj
 ·exact wpOp_step ho (fun K' hK=>h K' (fun a w hS hW=>hK a w ⟨hS,hW⟩))
 ·exact hs j hj
theorem Z0y {rs:List Nat} {fuel:Nat} {listed:Array Bool} {a:Act} {w:World} (hr:Region.ready md ops listed=rs) (hne:rs≠[])
  (h:ZD P md ops Q S fuel listed a w rs):Z1i P md ops Q S (fuel+1) listed a w:=⟨fun h0=>absurd (hr▸h0) hne,hr▸h⟩
theorem Z15 {n:Nat} {l:Array Bool} {X:Prop} (h:Z8l n l=false):Z8l n l=true→X:=fun e=>by rw [h] at e;cases e
theorem Zw {id:Nat} {a:Act} {w:World} (hm:P.follows .mixedOrders=true)
  (h:Z1i P .any ops Q S ops.size (Array.replicate ops.size false) a w.drew):(Code.region id ops true).wp P Q a w:=
 wp_region_any hm (Z5C _ _ _ _ h)
end
end Go.Proofs.YtloooebabieeeaaGreatDoor
