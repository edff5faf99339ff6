/-
  Statements, functions and programs as data; how they read in memory.
-/
import Derived.Test.YtloooebabieeeaaGreatDoorCp
import Derived.Test.YtloooebabieeeaaGreatDoorGk
import Derived.Test.YtloooebabieeeaaGreatDoorPe1
import Derived.Test.YtloooebabieeeaaGreatDoorEs3
import Derived.Test.YtloooebabieeeaaGreatDoorDr2
set_option maxRecDepth 100000
set_option maxHeartbeats 16000000
set_option linter.unusedVariables false
namespace Go.Proofs.YtloooebabieeeaaGreatDoor
open Go.RowKit
inductive Zb where
 | mk (op:Int) (name:ByteArray) (args:List Z6) (body els:List Zb)
namespace Zb
def op:Zb→Int|.mk o _ _ _ _=>o
def name:Zb→ByteArray|.mk _ n _ _ _=>n
def args:Zb→List Z6|.mk _ _ a _ _=>a
def body:Zb→List Zb|.mk _ _ _ b _=>b
def els:Zb→List Zb|.mk _ _ _ _ e=>e
end Zb
structure FnD where
 name:ByteArray
 params:List ByteArray
 body:List Zb
def Z1V:Z2u ByteArray:=fun _ _ c x=>c=[.string x]∧x.size≤maxLen
theorem Z3:Z1g 1 Z1V:=⟨fun _ h=>h,fun _ _ h=>h,fun h=>by rw [h.1];rfl⟩
def ZG (d:Nat):Z2u Z6:=fun S w c x=>ZJ d S w c x∧Z1z Z0k d x=false
theorem Z1 (d:Nat):Z1g 4 (ZG d):=⟨fun hS h=>⟨Zh hS h.1,h.2⟩,fun ht hS h=>⟨ZA ht hS h.1,h.2⟩,fun h=>Z0L h.1⟩
theorem Z0j {d d':Nat} (hd:d≤d') {S:Nat→Prop} {w:World} {c:List Value} {x:Z6} (h:ZG d S w c x):ZG d' S w c x:=⟨Z0x hd h.1,by rw [Z0N h.1 hd];exact h.2⟩
def Zv:Nat→Z2u Zb
 | 0=>fun _ _ _ _=>False
 | d+1=>fun S w c x=>∃aa ac ba bc ea ec,c=[.int .i64 x.op,.string x.name,.slice aa x.args.length ac,.slice ba x.body.length bc,.slice ea x.els.length ec]∧
   (x.name.size≤maxLen∧-9223372036854775808≤x.op∧x.op≤9223372036854775807∧x.args.length≤100∧x.body.length≤100∧x.els.length≤100)∧
   Za 4 (ZG 12) S w aa x.args∧Za 5 (Zv d) S w ba x.body∧Za 5 (Zv d) S w ea x.els
theorem Z4X:∀{d:Nat} {S:Nat→Prop} {w:World} {c:List Value} {x:Zb},Zv d S w c x→c.length=5
 | 0,_,_,_,_,h=>h.elim
 | d+1,_,_,_,_,⟨_,_,_,_,_,_,rfl,_⟩=>rfl
theorem Z0:∀d,Z1g 5 (Zv d)
 | 0=>⟨fun _ h=>h.elim,fun _ _ h=>h.elim,fun h=>h.elim⟩
 | d+1=>⟨fun hS ⟨aa,ac,ba,bc,ea,ec,h1,h2,h3,h4,h5⟩=>⟨aa,ac,ba,bc,ea,ec,h1,h2,h3.mono (Z1 12) hS,h4.mono (Z0 d) hS,h5.mono (Z0 d) hS⟩,
   fun ht hS ⟨aa,ac,ba,bc,ea,ec,h1,h2,h3,h4,h5⟩=>⟨aa,ac,ba,bc,ea,ec,h1,h2,h3.turned (Z1 12) ht hS,h4.turned (Z0 d) ht hS,h5.turned (Z0 d) ht hS⟩,
   Z4X⟩
theorem Za.rel {α : Type} {s:Nat} {R R':Z2u α} {S:Nat→Prop} {w:World} {a:Option Addr} {xs:List α} (h:Za s R S w a xs) (hR:∀c x,x∈xs→R S w c x→R' S w c x):Za s R' S w a xs:=⟨Z22 h.rd hR,h.blk⟩
theorem Z4b:∀{d:Nat} {S:Nat→Prop} {w:World} {c:List Value} {x:Zb},Zv d S w c x→Zv (d+1) S w c x
 | 0,_,_,_,_,h=>h.elim
 | d+1,S,w,c,x,⟨aa,ac,ba,bc,ea,ec,h1,h2,h3,h4,h5⟩=>⟨aa,ac,ba,bc,ea,ec,h1,h2,h3,h4.rel (fun _ _ _ h=>Z4b h),h5.rel (fun _ _ _ h=>Z4b h)⟩
theorem Z1O {d d':Nat} (hd:d≤d') {S:Nat→Prop} {w:World} {c:List Value} {x:Zb} (h:Zv d S w c x):Zv d' S w c x:=by
 induction d' with
 | zero=>
   obtain rfl:d=0:=by omega
   exact h
 | succ n ih=>
  by_cases he:d=n+1
  ·subst he;exact h
  ·exact Z4b (ih (by omega))
def FnP (d:Nat):Z2u FnD:=fun S w c x=>∃pa pc ba bc,c=[.string x.name,.slice pa x.params.length pc,.slice ba x.body.length bc]∧(x.name.size≤maxLen∧x.params.length≤100∧x.body.length≤100)∧
   Za 1 Z1V S w pa x.params∧Za 5 (Zv d) S w ba x.body
theorem Z2 (d:Nat):Z1g 3 (FnP d):=
 ⟨fun hS ⟨pa,pc,ba,bc,h1,h2,h3,h4⟩=>⟨pa,pc,ba,bc,h1,h2,h3.mono Z3 hS,h4.mono (Z0 d) hS⟩,
   fun ht hS ⟨pa,pc,ba,bc,h1,h2,h3,h4⟩=>⟨pa,pc,ba,bc,h1,h2,h3.turned Z3 ht hS,h4.turned (Z0 d) ht hS⟩,
   fun ⟨_,_,_,_,h1,_⟩=>by rw [h1];rfl⟩
theorem ZaD {d d':Nat} (hd:d≤d') {S:Nat→Prop} {w:World} {c:List Value} {x:FnD} (h:FnP d S w c x):FnP d' S w c x:=by
 obtain⟨pa,pc,ba,bc,h1,h2,h3,h4⟩:=h
 exact⟨pa,pc,ba,bc,h1,h2,h3,h4.rel (fun _ _ _ h=>Z1O hd h)⟩
def Z1v (x:Z6):Bool:=(Z0M Zk 6 x).isSome
def Zct (op:Int) (name:ByteArray) (na nb ne:Nat):Bool:=
 inE 1 op 8&&(na==(if op=4 then 2 else 1))&&(if op=1∨op=2 then Zk name else name.toList.isEmpty)&&(op==5||ne==0)&&(op==5||op==6||nb==0)
def ZbY (s:Zb):Bool:=Zct s.op s.name s.args.length s.body.length s.els.length&&s.args.all Z1v&&(!(s.op==8)||(s.args.getD 0 default).op==13)
def ZH:Nat→Zb→Bool
 | 0,_=>false
 | d+1,s=>ZbY s&&s.body.all (ZH d)&&s.els.all (ZH d)
def fnB (f:FnD):Bool:=Zk f.name&&decide (f.params.length≤3)&&f.params.all Zk&&f.body.all (ZH 4)
def ZY {α : Type} (f:α→Nat):List α→Nat
 | []=>0
 | x::xs=>f x+ZY f xs
def Z24 {α : Type} (f:α→Nat):List α→Nat
 | []=>0
 | x::xs=>max (f x) (Z24 f xs)
def Z07:Nat→Zb→Nat
 | 0,_=>0
 | d+1,s=>1+ZY (Z07 d) s.body+ZY (Z07 d) s.els
def Z1I:Nat→Zb→Nat
 | 0,_=>0
 | d+1,s=>1+max (Z24 (Z1I d) s.body) (Z24 (Z1I d) s.els)
def Z7M (p:List FnD):Nat:=ZY (fun f=>ZY (Z07 4) f.body) p
def Z8A (p:List FnD):Nat:=Z24 (fun f=>Z24 (Z1I 4) f.body) p
def Z3Z (p:List FnD):Bool:=decide (1≤p.length∧p.length≤4)&&p.all fnB
def Z0C (p:List FnD):Bool:=Z3Z p&&decide (Z7M p≤40)
theorem ZR {d:Nat} {s:Zb} (h:ZH (d+1) s=true):ZbY s=true∧(∀k∈s.body,ZH d k=true)∧(∀k∈s.els,ZH d k=true):=by
 simp only [ZH,Bool.and_eq_true,List.all_eq_true] at h
 exact⟨h.1.1,h.1.2,h.2⟩
theorem Z39 {α : Type} {f:α→Nat} {n:Nat}:∀{xs:List α},Z24 f xs≤n↔∀x∈xs,f x≤n
 | []=>by simp [Z24]
 | x::xs=>by
  rw [Z24,Nat.max_le,Z39]
  simp
theorem Z5b:∀(d:Nat) (s:Zb),Z1I d s≤d
 | 0,_=>Nat.le_refl _
 | d+1,s=>by
  have e1:Z24 (Z1I d) s.body≤d:=Z39.2 fun k _=>Z5b d k
  have e2:Z24 (Z1I d) s.els≤d:=Z39.2 fun k _=>Z5b d k
  rw [Z1I];omega
theorem Z2d {α : Type} {f:α→Nat}:∀(xs ys:List α),ZY f (xs++ys)=ZY f xs+ZY f ys
 | [],ys=>by simp [ZY]
 | x::xs,ys=>by rw [List.cons_append,ZY,ZY,Z2d xs ys];omega
theorem Z54 {α : Type} {f:α→Nat}:∀(xs ys:List α),Z24 f (xs++ys)=max (Z24 f xs) (Z24 f ys)
 | [],ys=>by simp [Z24]
 | x::xs,ys=>by rw [List.cons_append,Z24,Z24,Z54 xs ys];omega
theorem Z6a {α : Type} {f:α→Nat}:∀{xs:List α} {x:α},x∈xs→f x≤ZY f xs
 | y::ys,x,h=>by
  rw [ZY]
  rcases List.mem_cons.1 h with rfl|h
  ·omega
  ·have:=Z6a (f:=f) h;omega
theorem Z3U {α : Type} {f:α→Nat} {xs:List α} {k:Nat} {x:α} (h:xs[k]? = some x):ZY f (xs.take (k+1))=ZY f (xs.take k)+f x:=by
 rw [Z0n h,Z2d];simp [ZY]
theorem Z7y {α : Type} {f:α→Nat} {xs:List α} {k:Nat} {x:α} (h:xs[k]? = some x):Z24 f (xs.take (k+1))=max (Z24 f (xs.take k)) (f x):=by
 rw [Z0n h,Z54];simp [Z24]
theorem Z8z {p:List FnD} (h:Z0C p=true):Z7M p≤40∧Z8A p≤4∧(Z7M p=0↔Z8A p=0)∧1≤p.length∧p.length≤4:=by
 simp only [Z0C,Z3Z,Bool.and_eq_true,decide_eq_true_eq,List.all_eq_true] at h
 have hz:∀xs:List Zb,ZY (Z07 4) xs=0↔Z24 (Z1I 4) xs=0:=by
  intro xs
  cases xs with
  | nil=>simp [ZY,Z24]
  | cons x xs=>
   rw [ZY,Z24]
   have h1:1≤Z07 4 x:=by rw [Z07];omega
   have h2:1≤Z1I 4 x:=by rw [Z1I];omega
   omega
 refine⟨h.2,Z39.2 fun f _=>Z39.2 fun s _=>Z5b 4 s,?_,h.1.1.1,h.1.1.2⟩
 have:∀q:List FnD,Z7M q=0↔Z8A q=0:=by
  intro q
  induction q with
  | nil=>simp [Z7M,Z8A,ZY,Z24]
  | cons f q ih=>
   have:=hz f.body
   simp only [Z7M,Z8A,ZY,Z24] at ih this ⊢
   omega
 exact this p
end Go.Proofs.YtloooebabieeeaaGreatDoor
