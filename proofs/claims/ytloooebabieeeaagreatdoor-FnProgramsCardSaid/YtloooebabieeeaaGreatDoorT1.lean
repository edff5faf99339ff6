/-
  Reading words (plain): what a reader of expressions makes of words, and that it gives back each expression that was written.
-/
import Derived.Test.YtloooebabieeeaaGreatDoorCp
import Derived.Test.YtloooebabieeeaaGreatDoorWd
import Derived.Test.YtloooebabieeeaaGreatDoorEs3
import Derived.Test.YtloooebabieeeaaGreatDoorDi
import Derived.Test.YtloooebabieeeaaGreatDoorEs1
import Derived.Deep.LoopGhost
import Derived.StillTailTactics
set_option maxRecDepth 100000
set_option maxHeartbeats 16000000
set_option linter.unusedVariables false
namespace Go.Proofs.YtloooebabieeeaaGreatDoor
open Go.RowKit
def Z1U (w:Z7) (s:ByteArray):Bool:=w.text.data.toList==s.data.toList
def Zp:List Z7→ByteArray→Bool
 | [],_=>false
 | w::_,s=>Z1U w s
def sgB (c:UInt8):ByteArray:=⟨#[c]⟩
theorem Z1P (w:Z7) (s:ByteArray):Z1U w s=true↔w.text=s:=by
 rw [Z1U,beq_iff_eq]
 exact⟨fun h=>ByteArray.ext (by simpa using h),fun h=>by rw [h]⟩
def Z1s (n:Nat) (ws:List Z7):Int:=
 (([3,4,5,6,7,8,9,10]:List Int).find? fun op=>lvl op==(n:Int)&&Zp ws (sgB (opC op))).getD 0
def ZaS (s:ByteArray):Int:=s.data.toList.foldl (fun n c=>n*10+((c.toNat:Int)-48)) 0
mutual
def rdE:Nat→Nat→List Z7→Option (Z6×List Z7)
 | 0,_,_=>none
 | f+1,n,ws=>if 4<n then rdT f ws else (rdE f (n+1) ws).bind fun r=>rdL f n r.1 r.2
def rdL:Nat→Nat→Z6→List Z7→Option (Z6×List Z7)
 | 0,_,_,_=>none
 | f+1,n,x,ws=>if Z1s n ws=0 then some (x,ws) else (rdE f (n+1) ws.tail).bind fun r=>rdL f n (.mk (Z1s n ws) 0 ⟨#[]⟩ [x,r.1]) r.2
def rdT:Nat→List Z7→Option (Z6×List Z7)
 | 0,_=>none
 | f+1,ws=>
  if Zp ws (sgB 33) then (rdT f ws.tail).bind fun r=>some (.mk 11 0 ⟨#[]⟩ [r.1],r.2)
  else if Zp ws (sgB 64) then (rdT f ws.tail).bind fun r=>some (.mk 12 0 ⟨#[]⟩ [r.1],r.2)
  else if Zp ws (sgB 40) then (rdE f 1 ws.tail).bind fun r=>if Zp r.2 (sgB 41) then some (r.1,r.2.tail) else none
  else match ws with
   | []=>none
   | w::r=>
    if w.kind=2 then some (.mk 1 (ZaS w.text) ⟨#[]⟩ [],r)
    else if w.kind=1 then (if Zp r (sgB 40) then (rdK f r.tail).bind fun q=>some (.mk 13 0 w.text q.1,q.2) else some (.mk 2 0 w.text [],r))
    else none
def rdK:Nat→List Z7→Option (List Z6×List Z7)
 | 0,_=>none
 | f+1,ws=>if Zp ws (sgB 41) then some ([],ws.tail) else rdC f [] ws
def rdC:Nat→List Z6→List Z7→Option (List Z6×List Z7)
 | 0,_,_=>none
 | f+1,out,ws=>(rdE f 1 ws).bind fun r=>if Zp r.2 (sgB 41) then some (out++[r.1],r.2.tail) else if Zp r.2 (sgB 44) then rdC f (out++[r.1]) r.2.tail else none
end
theorem Z14 (c c':UInt8):Z1U (sgW c) (sgB c')=(c==c'):=by
 cases h:c==c' with
 | true=>
  rw [Z1P]
  rw [beq_iff_eq] at h
  rw [h];rfl
 | false=>
  cases h2:Z1U (sgW c) (sgB c') with
  | false=>rfl
  | true=>
   rw [Z1P] at h2
   have h3:([c]:List UInt8)=[c']:=congrArg (fun s:ByteArray=>s.data.toList) h2
   simp at h3
   rw [h3] at h
   simp at h
theorem Z04 (c c':UInt8) (r:List Z7):Zp (sgW c::r) (sgB c')=(c==c'):=Z14 c c'
theorem Z0t {s:ByteArray} (h:Zk s=true):1≤s.size∧s.size≤4∧Z68 (Z0U s 0)=true∧Z6A ZU s=false:=by
 simp only [Zk,Bool.and_eq_true,decide_eq_true_eq,Bool.not_eq_true'] at h
 exact⟨h.1,h.2.1,Z3u h.2.2.1 h.1,h.2.2.2⟩
theorem Z1Z {s:ByteArray} (h:Zk s=true) (c:UInt8) (hc:c.toNat<97):Z1U (nmW s) (sgB c)=false:=by
 cases h2:Z1U (nmW s) (sgB c) with
 | false=>rfl
 | true=>
  rw [Z1P] at h2
  have h3:s=sgB c:=h2
  have h4:=(Z0t h).2.2.1
  rw [h3] at h4
  have h5:Z0U (sgB c) 0=(c.toNat:Int):=rfl
  rw [h5] at h4
  simp only [Z68,Bool.and_eq_true,decide_eq_true_eq] at h4
  omega
theorem Z6D {n:Nat} (hn:n≤255) (c:UInt8) (hc:c.toNat<48∨57<c.toNat):Z1U (nbW n) (sgB c)=false:=by
 cases h2:Z1U (nbW n) (sgB c) with
 | false=>rfl
 | true=>
  rw [Z1P] at h2
  have h3:Zbd n=[c]:=by
   have:=congrArg (fun s:ByteArray=>s.data.toList) h2
   simpa [nbW,Z1f,sgB] using this
  unfold Zbd at h3
  split at h3
  ·rename_i hlt
   simp at h3
   have h4:=congrArg UInt8.toNat h3
   simp at h4
   omega
  ·split at h3<;>simp at h3
theorem Z3A (i:Nat) (hi:i<9) (c:UInt8):Z1U (kyW i) (sgB c)=false:=by
 have h:∀j:Fin 9,(kyW j.val).text.data.toList.length≠1:=by decide
 have h1:=h ⟨i,hi⟩
 cases h2:Z1U (kyW i) (sgB c) with
 | false=>rfl
 | true=>
  rw [Z1P] at h2
  rw [h2] at h1
  exact absurd rfl h1
theorem Za3 {m:Nat} {r:List Z7} (h:∀op∈([3,4,5,6,7,8,9,10]:List Int),Zp r (sgB (opC op))=false):Z1s m r=0:=by
 have:([3,4,5,6,7,8,9,10]:List Int).find? (fun op=>lvl op==(m:Int)&&Zp r (sgB (opC op)))=none:=by
  rw [List.find?_eq_none]
  intro op hop
  rw [h op hop]
  simp
 rw [Z1s,this];rfl
theorem Zbi (m:Nat):Z1s m []=0:=Za3 fun _ _=>rfl
theorem Z9E {c:UInt8} (hc:c=40∨c=41∨c=44∨c=59∨c=123∨c=125) (m:Nat) (r:List Z7):Z1s m (sgW c::r)=0:=Za3 fun op hop=>by
 rw [Z04]
 simp only [List.mem_cons,List.not_mem_nil,or_false] at hop
 rcases hc with rfl|rfl|rfl|rfl|rfl|rfl<;>rcases hop with rfl|rfl|rfl|rfl|rfl|rfl|rfl|rfl<;>rfl
theorem Z6Y {op:Int} (hop:3≤op∧op≤10) (m:Nat) (r:List Z7):Z1s m (sgW (opC op)::r)=if lvl op=(m:Int) then op else 0:=by
 have h:op=3∨op=4∨op=5∨op=6∨op=7∨op=8∨op=9∨op=10:=by omega
 by_cases he:lvl op=(m:Int)
 ·rw [if_pos he,Z1s]
  rcases h with rfl|rfl|rfl|rfl|rfl|rfl|rfl|rfl<;>(rw [← he];rfl)
 ·rw [if_neg he,Z1s]
  have:([3,4,5,6,7,8,9,10]:List Int).find? (fun o=>lvl o==(m:Int)&&Zp (sgW (opC op)::r) (sgB (opC o)))=none:=by
   rw [List.find?_eq_none]
   intro o ho
   simp only [List.mem_cons,List.not_mem_nil,or_false] at ho
   rw [Z04]
   by_cases h2:o=op
   ·subst h2
    simp [he]
   ·have h3:(opC op==opC o)=false:=by
     rcases h with rfl|rfl|rfl|rfl|rfl|rfl|rfl|rfl<;>rcases ho with rfl|rfl|rfl|rfl|rfl|rfl|rfl|rfl<;>first|rfl|exact absurd rfl h2
    rw [h3];simp
  rw [this];rfl
def Ev (P:Nat→Prop):Prop:=∃f0,∀f,f0≤f→P f
theorem Ev.step {P Q:Nat→Prop} (h:Ev P) (hs:∀f,1≤f→P f→Q (f+1)):Ev Q:=by
 obtain⟨f0,h⟩:=h
 refine⟨f0+2,fun f hf=>?_⟩
 obtain⟨g,rfl⟩:∃g,f=g+1:=⟨f-1,by omega⟩
 exact hs g (by omega) (h g (by omega))
theorem Ev.mono {P Q:Nat→Prop} (h:Ev P) (hs:∀f,P f→Q f):Ev Q:=by
 obtain⟨f0,h⟩:=h
 exact⟨f0,fun f hf=>hs f (h f hf)⟩
theorem Ev.and {P Q:Nat→Prop} (h:Ev P) (k:Ev Q):Ev fun f=>P f∧Q f:=by
 obtain⟨f0,h⟩:=h
 obtain⟨f1,k⟩:=k
 exact⟨max f0 f1,fun f hf=>⟨h f (by omega),k f (by omega)⟩⟩
theorem Ev.shift {P:Nat→Prop} (h:Ev P) (c:Nat):Ev fun f=>P (f+c):=by
 obtain⟨f0,h⟩:=h
 exact⟨f0,fun f hf=>h _ (by omega)⟩
theorem Ev.pos:Ev fun f=>1≤f:=⟨1,fun _ h=>h⟩
theorem Ev.some {P:Nat→Prop} (h:Ev P):∃f,P f:=by
 obtain⟨f0,h⟩:=h
 exact⟨f0,h _ (Nat.le_refl _)⟩
def Z3q (n:Nat) (rest:List Z7):Prop:=Zp rest (sgB 40)=false∧∀m:Nat,n≤m→Z1s m rest=0
theorem Z3q.up {n m:Nat} {rest:List Z7} (h:Z3q n rest) (hm:n≤m):Z3q m rest:=⟨h.1,fun k hk=>h.2 k (by omega)⟩
theorem Z3H {c:UInt8} (hc:c=41∨c=44∨c=59∨c=123∨c=125) (n:Nat) (r:List Z7):Z3q n (sgW c::r):=
 ⟨by rw [Z04];rcases hc with rfl|rfl|rfl|rfl|rfl<;>rfl,fun m _=>Z9E (by rcases hc with h|h|h|h|h<;>simp [h]) m r⟩
theorem Zcm {op:Int} (hop:3≤op∧op≤10) {n:Nat} (hn:lvl op<(n:Int)) (r:List Z7):Z3q n (sgW (opC op)::r):=by
 refine⟨?_,fun m hm=>by rw [Z6Y hop,if_neg (by omega)]⟩
 have h:op=3∨op=4∨op=5∨op=6∨op=7∨op=8∨op=9∨op=10:=by omega
 rw [Z04]
 rcases h with rfl|rfl|rfl|rfl|rfl|rfl|rfl|rfl<;>rfl
theorem Zbg {m:Nat} (hm:5≤m) (r:List Z7):Z1s m r=0:=by
 have:([3,4,5,6,7,8,9,10]:List Int).find? (fun op=>lvl op==(m:Int)&&Zp r (sgB (opC op)))=none:=by
  rw [List.find?_eq_none]
  intro o ho
  simp only [List.mem_cons,List.not_mem_nil,or_false] at ho
  have h3:(lvl o==(m:Int))=false:=by
   rw [beq_eq_false_iff_ne]
   rcases ho with rfl|rfl|rfl|rfl|rfl|rfl|rfl|rfl<;>simp [lvl]<;>omega
  rw [h3];simp
 rw [Z1s,this];rfl
theorem Zco {n:Nat} (hn:n≤4) {ws rest:List Z7} {e:Z6} (hs:Z1s n rest=0) (h:Ev fun f=>rdE f (n+1) ws=some (e,rest)):Ev fun f=>rdE f n ws=some (e,rest):=
 h.step fun f hf hr=>by
  obtain⟨g,rfl⟩:∃g,f=g+1:=⟨f-1,by omega⟩
  rw [rdE,if_neg (by omega),hr]
  show rdL (g+1) n e rest=_
  rw [rdL,if_pos hs]
theorem Z69 {ws rest:List Z7} {e:Z6} {n:Nat} (hs:∀k,n≤k→Z1s k rest=0):∀(j:Nat),n+j≤5→(Ev fun f=>rdE f (n+j) ws=some (e,rest))→Ev fun f=>rdE f n ws=some (e,rest)
 | 0,_,h=>h
 | j+1,hj,h=>Z69 hs j (by omega) (Zco (by omega) (hs _ (by omega)) h)
theorem Z8V {ws rest:List Z7} {e:Z6} {n:Nat} (hn:n≤5) (hs:∀k,n≤k→Z1s k rest=0) (h:Ev fun f=>rdT f ws=some (e,rest)):Ev fun f=>rdE f n ws=some (e,rest):=by
 refine Z69 hs (5-n) (by omega) ?_
 rw [show n+(5-n)=5 by omega]
 exact h.step fun f _ hr=>by rw [rdE,if_pos (by omega),hr]
theorem Zbs {ws rest:List Z7} {e:Z6} (h:Ev fun f=>rdE f 5 ws=some (e,rest)):Ev fun f=>rdT f ws=some (e,rest):=
 (h.shift 1).mono fun f hr=>by rw [rdE,if_pos (by omega)] at hr;exact hr
theorem Z8Y (n:Nat) (hn:n≤255):ZaS (Z1f n)=(n:Int):=by
 have h:∀j:Fin 256,ZaS (Z1f j.val)=(j.val:Int):=by decide +kernel
 exact h ⟨n,by omega⟩
theorem Z2y (w:Z7) (r:List Z7) (s:ByteArray):Zp (w::r) s=Z1U w s:=rfl
theorem Zc3 {s t:ByteArray} (h:s.toList=t.toList):s=t:=by
 rw [ByteArray.toList_eq,ByteArray.toList_eq] at h
 cases s with
 | mk a=>cases t with
  | mk b=>rw [show a=b from Array.toList_inj.1 h]
theorem ZcF:(⟨#[]⟩:ByteArray).toList.isEmpty=true:=by
 rw [ByteArray.toList_eq];rfl
theorem Z3K {s:ByteArray} (h:s.toList.isEmpty=true):s=⟨#[]⟩:=by
 apply Zc3
 rw [List.isEmpty_iff] at h
 rw [h,List.isEmpty_iff.1 ZcF]
theorem Z1M {op n:Int} {s:ByteArray} {ks:List Z6} (h:Z0v Zk op n s ks.length=true) :
  (op=1∧0≤n∧n≤255∧s=⟨#[]⟩∧ks=[])∨(op=2∧n=0∧Zk s=true∧ks=[])∨(op=13∧n=0∧Zk s=true)∨
  ((op=11∨op=12)∧n=0∧s=⟨#[]⟩∧∃x,ks=[x])∨((3≤op∧op≤10)∧n=0∧s=⟨#[]⟩∧∃x y,ks=[x,y]):=by
 unfold Z0v at h
 by_cases h1:op=1
 ·rw [if_pos h1] at h
  simp only [Bool.and_eq_true,inE,decide_eq_true_eq,beq_iff_eq,List.length_eq_zero_iff] at h
  exact .inl ⟨h1,h.1.1,h.1.2,Z3K h.2.1,h.2.2⟩
 rw [if_neg h1] at h
 by_cases h2:op=2
 ·rw [if_pos h2] at h
  simp only [Bool.and_eq_true,beq_iff_eq,List.length_eq_zero_iff] at h
  exact .inr (.inl ⟨h2,h.2.1,h.1,h.2.2⟩)
 rw [if_neg h2] at h
 by_cases h3:op=13
 ·rw [if_pos h3] at h
  simp only [Bool.and_eq_true,beq_iff_eq] at h
  exact .inr (.inr (.inl ⟨h3,h.2.1,h.1⟩))
 rw [if_neg h3] at h
 by_cases h4:0<lvl op
 ·rw [if_pos h4] at h
  simp only [Bool.and_eq_true,beq_iff_eq] at h
  have hop:3≤op∧op≤10:=by
   unfold lvl at h4
   repeat' split at h4
   all_goals omega
  refine .inr (.inr (.inr (.inr ⟨hop,h.1,Z3K h.2.1,?_⟩)))
  match ks,h.2.2 with
  | [x,y],_=>exact⟨x,y,rfl⟩
 rw [if_neg h4] at h
 by_cases h5:op=11∨op=12
 ·rw [if_pos h5] at h
  simp only [Bool.and_eq_true,beq_iff_eq] at h
  refine .inr (.inr (.inr (.inl ⟨h5,h.1,Z3K h.2.1,?_⟩)))
  match ks,h.2.2 with
  | [x],_=>exact⟨x,rfl⟩
 rw [if_neg h5] at h
 cases h
theorem Z0Z (d:Nat) (op n:Int) (s:ByteArray) (ks:List Z6) (need:Int):Z9 (d+1) (.mk op n s ks) need=Z3h (decide (ZL op<need)) (
   if op=1 then [nbW n.toNat]
   else if op=2 then [nmW s]
   else if op=13 then nmW s::sgW 40::Zr 0 (ks.map fun k=>Z9 d k 1)++[sgW 41]
   else if op=11∨op=12 then sgW (opC op)::Z9 d (ks.getD 0 default) 5
   else Z9 d (ks.getD 0 default) (lvl op)++sgW (opC op)::Z9 d (ks.getD 1 default) (lvl op+1)):=rfl
def Z90 (ws:List Z7):Prop:=∃w r,ws=w::r∧Z1U w (sgB 41)=false
theorem Z90.append {a:List Z7} (h:Z90 a) (b:List Z7):Z90 (a++b):=by
 obtain⟨w,r,rfl,h2⟩:=h
 exact⟨w,r++b,rfl,h2⟩
theorem Z46:∀(d:Nat) (e:Z6) (need:Int),Z05 d e=true→Z90 (Z9 d e need)
 | 0,e,_,h=>by cases h
 | d+1,.mk op n s ks,need,h=>by
  obtain⟨h1,h2⟩:=Z0Q h
  have h1:Z0v Zk op n s ks.length=true:=h1
  rw [Z0Z,Z3h]
  split
  ·exact⟨_,_,rfl,by rw [Z14];rfl⟩
  rcases Z1M (ks:=ks) h1 with⟨rfl,h3,h4,_,_⟩|⟨rfl,_,h3,_⟩|⟨rfl,_,h3⟩|⟨h3,_,_,x,rfl⟩|⟨h3,_,_,x,y,rfl⟩
  ·exact⟨_,_,rfl,Z6D (n:=n.toNat) (by have h4:n≤255:=h4;omega) 41 (by decide)⟩
  ·exact⟨_,_,rfl,Z1Z h3 41 (by decide)⟩
  ·exact⟨_,_,rfl,Z1Z h3 41 (by decide)⟩
  ·have h3:op=11∨op=12:=h3
   rw [if_neg (by omega),if_neg (by omega),if_neg (by omega),if_pos h3]
   refine⟨_,_,rfl,?_⟩
   rw [Z14]
   rcases h3 with rfl|rfl<;>rfl
  ·have h3:3≤op∧op≤10:=h3
   rw [if_neg (by omega),if_neg (by omega),if_neg (by omega),if_neg (by omega)]
   exact(Z46 d x _ (h2 x (by show x∈[x,y];simp))).append _
def Zcp (d:Nat):Prop:=∀e,Z05 d e=true→
 (∀(n:Nat) (rest:List Z7),1≤n→n≤5→Z3q n rest→Ev fun f=>rdE f n (Z9 d e n++rest)=some (e,rest))∧
 (∀(n:Nat) (rest:List Z7),1≤n→n≤4→Z3q (n+1) rest→∃c,Ev fun f=>rdE (f+c) n (Z9 d e n++rest)=rdL f n e rest)
theorem Z1K:∀(i:Nat) (xs:List (List Z7)),Zr (i+1) xs=xs.flatMap fun x=>sgW 44::x
 | _,[]=>rfl
 | i,x::xs=>by
  rw [Zr,Z1K (i+1) xs]
  simp
theorem Z97 {d:Nat} (hd:Zcp d):∀(ks:List Z6) (k:Z6) (out:List Z6) (rest:List Z7),(∀x∈k::ks,Z05 d x=true)→
  Ev fun f=>rdC f out (Z9 d k 1++(ks.flatMap (fun x=>sgW 44::Z9 d x 1)++sgW 41::rest))=some (out++k::ks,rest)
 | [],k,out,rest,h=>((hd k (h k (by simp))).1 1 (sgW 41::rest) (by omega) (by omega) (Z3H (by simp) 1 rest)).step fun f _ hr=>by
   have hr:rdE f 1 (Z9 d k 1++([]++sgW 41::rest))=some (k,sgW 41::rest):=hr
   rw [List.flatMap_nil,rdC,hr,Option.bind_some]
   dsimp only
   rw [Z04,if_pos (by decide)];rfl
 | k2::ks,k,out,rest,h=>by
  have h1:=(hd k (h k (by simp))).1 1 (sgW 44::(Z9 d k2 1++(ks.flatMap (fun x=>sgW 44::Z9 d x 1)++sgW 41::rest))) (by omega) (by omega) (Z3H (by simp) 1 _)
  have h2:=Z97 hd ks k2 (out++[k]) rest (fun x hx=>h x (List.mem_cons_of_mem _ hx))
  refine(h1.and h2).step fun f _ ⟨hr,hs⟩=>?_
  have he:((k2::ks).flatMap (fun x=>sgW 44::Z9 d x 1)++sgW 41::rest)=sgW 44::(Z9 d k2 1++(ks.flatMap (fun x=>sgW 44::Z9 d x 1)++sgW 41::rest)):=by simp
  have hr:rdE f 1 (Z9 d k 1++sgW 44::(Z9 d k2 1++(ks.flatMap (fun x=>sgW 44::Z9 d x 1)++sgW 41::rest)))=_:=hr
  rw [he,rdC,hr,Option.bind_some]
  dsimp only
  rw [Z04,if_neg (by decide),Z04,if_pos (by decide),List.tail_cons,hs]
  simp
theorem Zbu {d:Nat} (hd:Zcp d) (ks:List Z6) (rest:List Z7) (h:∀x∈ks,Z05 d x=true) :
  Ev fun f=>rdK f (Zr 0 (ks.map fun k=>Z9 d k 1)++sgW 41::rest)=some (ks,rest):=by
 cases ks with
 | nil=>
  refine Ev.pos.step fun f _ _=>?_
  show rdK (f+1) (sgW 41::rest)=_
  rw [rdK,Z04,if_pos (by decide)];rfl
 | cons k ks=>
  refine(Z97 hd ks k [] rest h).step fun f _ hr=>?_
  have he:Zr 0 ((k::ks).map fun k=>Z9 d k 1)++sgW 41::rest=Z9 d k 1++(ks.flatMap (fun x=>sgW 44::Z9 d x 1)++sgW 41::rest):=by
   rw [List.map_cons,Zr,Z1K,if_pos rfl,List.flatMap_map];simp
  obtain⟨w,r,ho,hw⟩:=Z46 d k 1 (h k (by simp))
  rw [he,rdK]
  have hh:Zp (Z9 d k 1++(ks.flatMap (fun x=>sgW 44::Z9 d x 1)++sgW 41::rest)) (sgB 41)=false:=by rw [ho];exact hw
  rw [if_neg (by rw [hh];decide),hr];rfl
theorem Z4Q {d:Nat} {e:Z6} {L:Nat} (body:List Z7) (hL:1≤L) (hl:ZL e.op=(L:Int)) (hw:∀need:Int,Z9 d e need=Z3h (decide (ZL e.op<need)) body)
  (hown:∀(n:Nat) (rest:List Z7),1≤n→n≤5→n≤L→Z3q n rest→Ev fun f=>rdE f n (body++rest)=some (e,rest))
  (hq:∀rest:List Z7,L≤4→Z3q (L+1) rest→∃c,Ev fun f=>rdE (f+c) L (body++rest)=rdL f L e rest) :
  (∀(n:Nat) (rest:List Z7),1≤n→n≤5→Z3q n rest→Ev fun f=>rdE f n (Z9 d e n++rest)=some (e,rest))∧
  (∀(n:Nat) (rest:List Z7),1≤n→n≤4→Z3q (n+1) rest→∃c,Ev fun f=>rdE (f+c) n (Z9 d e n++rest)=rdL f n e rest):=by
 have hbar:∀(n:Nat) (rest:List Z7),n≤5→Z3q n rest→Ev fun f=>rdE f n (Z3h true body++rest)=some (e,rest):=fun n rest hn hs=>by
  refine Z8V hn hs.2 ?_
  refine(hown 1 (sgW 41::rest) (by omega) (by omega) (by omega) (Z3H (by simp) 1 rest)).step fun f _ hr=>?_
  have he:Z3h true body++rest=sgW 40::(body++sgW 41::rest):=by simp [Z3h]
  rw [he,rdT,Z04,Z04,Z04,if_neg (by decide),if_neg (by decide),if_pos (by decide),List.tail_cons,hr,Option.bind_some]
  dsimp only
  rw [Z04,if_pos (by decide)];rfl
 have hE:∀(n:Nat) (rest:List Z7),1≤n→n≤5→Z3q n rest→Ev fun f=>rdE f n (Z9 d e n++rest)=some (e,rest):=fun n rest h1 h5 hs=>by
  rw [hw]
  by_cases hlt:ZL e.op<(n:Int)
  ·rw [decide_eq_true hlt];exact hbar n rest h5 hs
  ·rw [decide_eq_false hlt];exact hown n rest h1 h5 (by omega) hs
 refine⟨hE,fun n rest h1 h4 hs=>?_⟩
 by_cases he:n=L
 ·subst he
  rw [hw,decide_eq_false (by omega)]
  exact hq rest h4 hs
 ·refine⟨1,?_⟩
  have hsame:Z9 d e (n:Int)=Z9 d e ((n+1:Nat):Int):=by
   rw [hw,hw]
   congr 1
   by_cases hlt:ZL e.op<(n:Int)
   ·rw [decide_eq_true hlt,decide_eq_true (by omega)]
   ·rw [decide_eq_false hlt,decide_eq_false (by omega)]
  refine(hE (n+1) rest (by omega) (by omega) hs).mono fun f hr=>?_
  rw [rdE,if_neg (by omega),hsame,hr];rfl
theorem ZcQ:∀d,Zcp d
 | 0=>fun e h=>by cases h
 | d+1=>by
  intro e h
  have ih:=ZcQ d
  obtain⟨op,n,s,ks⟩:=e
  obtain⟨h1,h2⟩:=Z0Q h
  replace h2:∀k∈ks,Z05 d k=true:=h2
  replace h1:Z0v Zk op n s ks.length=true:=h1
  have hw0:∀need:Int,Z9 (d+1) (.mk op n s ks) need=Z3h (decide (ZL op<need)) (
   if op=1 then [nbW n.toNat]
   else if op=2 then [nmW s]
   else if op=13 then nmW s::sgW 40::Zr 0 (ks.map fun k=>Z9 d k 1)++[sgW 41]
   else if op=11∨op=12 then sgW (opC op)::Z9 d (ks.getD 0 default) 5
   else Z9 d (ks.getD 0 default) (lvl op)++sgW (opC op)::Z9 d (ks.getD 1 default) (lvl op+1)):=fun need=>rfl
  have tight:∀(L:Nat) (body:List Z7),5≤L→(∀rest:List Z7,Zp rest (sgB 40)=false→Ev fun f=>rdT f (body++rest)=some (Z6.mk op n s ks,rest))→
    ∀(m:Nat) (rest:List Z7),1≤m→m≤5→m≤L→Z3q m rest→Ev fun f=>rdE f m (body++rest)=some (Z6.mk op n s ks,rest):=
   fun L body hL ht m rest _ h5 _ hs=>Z8V h5 hs.2 (ht rest hs.1)
  rcases Z1M (ks:=ks) h1 with⟨rfl,h3,h4,rfl,rfl⟩|⟨rfl,rfl,h3,rfl⟩|⟨rfl,rfl,h3⟩|⟨h3,rfl,rfl,x,rfl⟩|⟨h3,rfl,rfl,x,y,rfl⟩
  ·refine Z4Q (L:=6) [nbW n.toNat] (by omega) rfl hw0 (tight 6 _ (by omega) fun rest hr=>Ev.pos.step fun f _ _=>?_) (fun _ h=>by omega)
   have hn:n.toNat≤255:=by omega
   show rdT (f+1) (nbW n.toNat::rest)=_
   rw [rdT]
   simp only [Z2y,Z6D hn 33 (by decide),Z6D hn 64 (by decide),Z6D hn 40 (by decide),Bool.false_eq_true,if_false]
   rw [if_pos (show(nbW n.toNat).kind=2 from rfl)]
   show some (Z6.mk 1 (ZaS (Z1f n.toNat)) ⟨#[]⟩ [],rest)=_
   rw [Z8Y _ hn,Int.toNat_of_nonneg h3]
  ·refine Z4Q (L:=6) [nmW s] (by omega) rfl hw0 (tight 6 _ (by omega) fun rest hr=>Ev.pos.step fun f _ _=>?_) (fun _ h=>by omega)
   show rdT (f+1) (nmW s::rest)=_
   rw [rdT]
   simp only [Z2y,Z1Z h3 33 (by decide),Z1Z h3 64 (by decide),Z1Z h3 40 (by decide),Bool.false_eq_true,if_false]
   rw [if_neg (show ¬(nmW s).kind=2 from(show ¬(1:Int)=2 by decide)),if_pos (show(nmW s).kind=1 from rfl),if_neg (by rw [hr];decide)]
   rfl
  ·refine Z4Q (L:=6) (nmW s::sgW 40::Zr 0 (ks.map fun k=>Z9 d k 1)++[sgW 41]) (by omega) rfl hw0 (tight 6 _ (by omega) fun rest hr=>(Zbu ih ks rest h2).step fun f _ hk=>?_) (fun _ h=>by omega)
   have he:(nmW s::sgW 40::Zr 0 (ks.map fun k=>Z9 d k 1)++[sgW 41])++rest=nmW s::sgW 40::(Zr 0 (ks.map fun k=>Z9 d k 1)++sgW 41::rest):=by simp
   rw [he,rdT,if_neg (by rw [Z2y,Z1Z h3 33 (by decide)];decide),if_neg (by rw [Z2y,Z1Z h3 64 (by decide)];decide),if_neg (by rw [Z2y,Z1Z h3 40 (by decide)];decide)]
   rw [if_neg (show ¬(nmW s).kind=2 from(show ¬(1:Int)=2 by decide)),if_pos (show(nmW s).kind=1 from rfl),if_pos (by rw [Z04];rfl),List.tail_cons,hk]
   rfl
  ·have hl:ZL op=((5:Nat):Int):=by rcases h3 with rfl|rfl<;>rfl
   refine Z4Q (L:=5) (sgW (opC op)::Z9 d x 5) (by omega) hl (fun need=>?_) (tight 5 _ (by omega) fun rest hr=>?_) (fun _ h=>by omega)
   ·rw [hw0,if_neg (by omega),if_neg (by omega),if_neg (by omega),if_pos h3];rfl
   ·have hx:=Zbs ((ih x (h2 x (by simp))).1 5 rest (by omega) (by omega) ⟨hr,fun m hm=>Zbg hm rest⟩)
    refine hx.step fun f _ hk=>?_
    show rdT (f+1) (sgW (opC op)::(Z9 d x 5++rest))=_
    rw [rdT,Z04,Z04]
    have hk:rdT f (Z9 d x 5++rest)=some (x,rest):=hk
    rcases h3 with rfl|rfl
    ·rw [if_pos (by decide),List.tail_cons,hk];rfl
    ·rw [if_neg (by decide),if_pos (by decide),List.tail_cons,hk];rfl
  ·obtain⟨L,hL1,hL4,hl⟩:∃L:Nat,1≤L∧L≤4∧lvl op=(L:Int):=by
    have h:op=3∨op=4∨op=5∨op=6∨op=7∨op=8∨op=9∨op=10:=by omega
    rcases h with rfl|rfl|rfl|rfl|rfl|rfl|rfl|rfl
    ·exact⟨3,by omega,by omega,rfl⟩
    ·exact⟨3,by omega,by omega,rfl⟩
    ·exact⟨4,by omega,by omega,rfl⟩
    ·exact⟨4,by omega,by omega,rfl⟩
    ·exact⟨4,by omega,by omega,rfl⟩
    ·exact⟨2,by omega,by omega,rfl⟩
    ·exact⟨2,by omega,by omega,rfl⟩
    ·exact⟨1,by omega,by omega,rfl⟩
   have hlI:ZL op=(L:Int):=by rw [ZL,if_pos (by omega),hl]
   have hq:∀rest:List Z7,L≤4→Z3q (L+1) rest→∃c,Ev fun f=>rdE (f+c) L ((Z9 d x (L:Int)++sgW (opC op)::Z9 d y ((L+1:Nat):Int))++rest)=rdL f L (Z6.mk op 0 ⟨#[]⟩ [x,y]) rest:=fun rest _ hs=>by
    obtain⟨c,hc⟩:=(ih x (h2 x (by simp))).2 L (sgW (opC op)::(Z9 d y ((L+1:Nat):Int)++rest)) hL1 hL4 (Zcm h3 (by omega) _)
    have hy:=(ih y (h2 y (by simp))).1 (L+1) rest (by omega) (by omega) hs
    refine⟨c+1,?_⟩
    refine((hc.shift 1).and hy).mono fun f ⟨hc,hy⟩=>?_
    have he:(Z9 d x (L:Int)++sgW (opC op)::Z9 d y ((L+1:Nat):Int))++rest=Z9 d x (L:Int)++sgW (opC op)::(Z9 d y ((L+1:Nat):Int)++rest):=by simp
    rw [he,show f+(c+1)=f+1+c by omega,hc,rdL,Z6Y h3,if_pos hl,if_neg (by omega),List.tail_cons,hy]
    rfl
   refine Z4Q (L:=L) (Z9 d x (L:Int)++sgW (opC op)::Z9 d y ((L+1:Nat):Int)) hL1 hlI (fun need=>?_) (fun m rest hm1 hm5 hmL hs=>?_) hq
   ·rw [hw0,if_neg (by omega),if_neg (by omega),if_neg (by omega),if_neg (by omega),hl];rfl
   ·have hown:Ev fun f=>rdE f L ((Z9 d x (L:Int)++sgW (opC op)::Z9 d y ((L+1:Nat):Int))++rest)=some (Z6.mk op 0 ⟨#[]⟩ [x,y],rest):=by
     obtain⟨c,f0,hc⟩:=hq rest hL4 (hs.up (by omega))
     refine⟨f0+1+c,fun f hf=>?_⟩
     obtain⟨g,rfl⟩:∃g,f=(g+1)+c:=⟨f-1-c,by omega⟩
     rw [hc (g+1) (by omega),rdL,if_pos (hs.2 L hmL)]
    have:=Z69 (n:=m) hs.2 (L-m) (by omega) (by rw [show m+(L-m)=L by omega];exact hown)
    exact this
def ZZ (s:ByteArray):Int:=
 if s=ZU.getD 1 ⟨#[]⟩ then 1 else if s=ZU.getD 2 ⟨#[]⟩ then 3 else if s=ZU.getD 3 ⟨#[]⟩ then 4 else if s=ZU.getD 4 ⟨#[]⟩ then 5
 else if s=ZU.getD 6 ⟨#[]⟩ then 6 else if s=ZU.getD 7 ⟨#[]⟩ then 7 else if s=ZU.getD 8 ⟨#[]⟩ then 8 else 2
def Z2t (ws:List Z7) (s:ByteArray):Option (List Z7):=if Zp ws s then some ws.tail else none
def Z3N:List Z7→Option (ByteArray×List Z7)
 | []=>none
 | w::r=>if w.kind=1 then some (w.text,r) else none
def Z2P (op:Int) (ws:List Z7):Option (ByteArray×List Z7):=
 if op=1∨op=2 then (Z3N ws).bind fun r=>(Z2t r.2 (sgB 61)).map fun q=>(r.1,q) else some (⟨#[]⟩,ws)
mutual
def rdS:Nat→List Z7→Option (Zb×List Z7)
 | 0,_=>none
 | f+1,ws=>match ws with
  | []=>none
  | w::r=>
   (Z2P (ZZ w.text) (if ZZ w.text=2 then ws else r)).bind fun a=>
   (rdE f 1 a.2).bind fun x=>
   if ZZ w.text=5 then (rdB f x.2).bind fun b=>
    if Zp b.2 (ZU.getD 5 ⟨#[]⟩) then (rdB f b.2.tail).bind fun c=>some (.mk 5 a.1 [x.1] b.1 c.1,c.2) else some (.mk 5 a.1 [x.1] b.1 [],b.2)
   else if ZZ w.text=6 then (rdB f x.2).bind fun b=>some (.mk 6 a.1 [x.1] b.1 [],b.2)
   else if ZZ w.text=4 then (Z2t x.2 (sgB 44)).bind fun q=>(rdE f 1 q).bind fun y=>(Z2t y.2 (sgB 59)).map fun z=>(.mk 4 a.1 [x.1,y.1] [] [],z)
   else (Z2t x.2 (sgB 59)).map fun z=>(.mk (ZZ w.text) a.1 [x.1] [] [],z)
def rdB:Nat→List Z7→Option (List Zb×List Z7)
 | 0,_=>none
 | f+1,ws=>(Z2t ws (sgB 123)).bind fun r=>Z8h f [] r
def Z8h:Nat→List Zb→List Z7→Option (List Zb×List Z7)
 | 0,_,_=>none
 | f+1,out,ws=>if Zp ws (sgB 125) then some (out,ws.tail) else (rdS f ws).bind fun r=>Z8h f (out++[r.1]) r.2
end
def Z6q:Nat→List ByteArray→List Z7→Option (List ByteArray×List Z7)
 | 0,_,_=>none
 | f+1,out,ws=>if Zp ws (sgB 41) then some (out,ws.tail) else
  (if 0<out.length then Z2t ws (sgB 44) else some ws).bind fun q=>(Z3N q).bind fun r=>Z6q f (out++[r.1]) r.2
def rdF (f:Nat) (ws:List Z7):Option (FnD×List Z7):=
 (Z2t ws (ZU.getD 0 ⟨#[]⟩)).bind fun q=>(Z3N q).bind fun a=>(Z2t a.2 (sgB 40)).bind fun q2=>(Z6q f [] q2).bind fun b=>(rdB f b.2).bind fun c=>some (⟨a.1,b.1,c.1⟩,c.2)
def rdP:Nat→List FnD→List Z7→Option (List FnD)
 | 0,_,_=>none
 | f+1,out,ws=>if ws.length=0 then some out else (rdF f ws).bind fun r=>rdP f (out++[r.1]) r.2
theorem Z20 (i j:Nat) (hi:i<9) (hj:j<9):Z1U (kyW i) (ZU.getD j ⟨#[]⟩)=(i==j):=by
 have h:∀a b:Fin 9,Z1U (kyW a.val) (ZU.getD b.val ⟨#[]⟩)=(a.val==b.val):=by decide
 exact h ⟨i,hi⟩ ⟨j,hj⟩
theorem Z2j {s:ByteArray} (h:Zk s=true) {j:Nat} (hj:j<9):s≠ZU.getD j ⟨#[]⟩:=by
 intro e
 have h1:=(Z0t h).2.2.2
 have h2:ZU.getD j ⟨#[]⟩∈ZU:=by
  have hl:j<ZU.length:=hj
  rw [List.getD_eq_getElem?_getD,List.getElem?_eq_getElem hl]
  exact List.getElem_mem hl
 have h3:Z6A ZU s=true:=List.any_eq_true.2 ⟨_,h2,by rw [e];simp⟩
 rw [h3] at h1;cases h1
theorem Z7m {s:ByteArray} (h:Zk s=true) {j:Nat} (hj:j<9):Z1U (nmW s) (ZU.getD j ⟨#[]⟩)=false:=by
 cases h2:Z1U (nmW s) (ZU.getD j ⟨#[]⟩) with
 | false=>rfl
 | true=>rw [Z1P] at h2;exact absurd h2 (Z2j h hj)
theorem Z6E (c:UInt8) {j:Nat} (hj:j<9):Z1U (sgW c) (ZU.getD j ⟨#[]⟩)=false:=by
 have h:∀a:Fin 9,(ZU.getD a.val ⟨#[]⟩).data.toList.length≠1:=by decide
 have h1:=h ⟨j,hj⟩
 cases h2:Z1U (sgW c) (ZU.getD j ⟨#[]⟩) with
 | false=>rfl
 | true=>
  rw [Z1P] at h2
  have h2:sgB c=ZU.getD j ⟨#[]⟩:=h2
  dsimp only at h1
  rw [← h2] at h1
  exact absurd rfl h1
theorem Z7N {s:ByteArray} (h:Zk s=true) (c:UInt8) (hc:122<c.toNat):Z1U (nmW s) (sgB c)=false:=by
 cases h2:Z1U (nmW s) (sgB c) with
 | false=>rfl
 | true=>
  rw [Z1P] at h2
  have h3:s=sgB c:=h2
  have h4:=(Z0t h).2.2.1
  rw [h3] at h4
  have h5:Z0U (sgB c) 0=(c.toNat:Int):=rfl
  rw [h5] at h4
  simp only [Z68,Bool.and_eq_true,decide_eq_true_eq] at h4
  omega
theorem Z3S (s:ByteArray) (r:List Z7):Z3N (nmW s::r)=some (s,r):=rfl
theorem Z9k {s:ByteArray} (h:Zk s=true):ZZ s=2:=by
 unfold ZZ
 rw [if_neg (Z2j h (by omega)),if_neg (Z2j h (by omega)),if_neg (Z2j h (by omega)),if_neg (Z2j h (by omega)),if_neg (Z2j h (by omega)),if_neg (Z2j h (by omega)),if_neg (Z2j h (by omega))]
theorem Z0p {op:Int} {name:ByteArray} {args:List Z6} {body els:List Zb} (h:ZbY (.mk op name args body els)=true) :
  1≤op∧op≤8∧(if op=4 then ∃x y,args=[x,y] else ∃x,args=[x])∧((op=1∨op=2)∧Zk name=true∨¬(op=1∨op=2)∧name=⟨#[]⟩)∧
   (∀x∈args,Z05 6 x=true)∧(op≠5→els=[])∧(op≠5→op≠6→body=[]):=by
 have h:((inE 1 op 8&&(args.length==(if op=4 then 2 else 1))&&(if op=1∨op=2 then Zk name else name.toList.isEmpty)&&(op==5||els.length==0)&&(op==5||op==6||body.length==0))&&args.all Z1v&&(!(op==8)||(args.getD 0 default).op==13))=true:=h
 simp only [Bool.and_eq_true] at h
 obtain⟨⟨⟨⟨⟨⟨h1,h2⟩,h3⟩,h4⟩,h5⟩,h6⟩,h7⟩:=h
 simp only [inE,Bool.and_eq_true,decide_eq_true_eq] at h1
 rw [beq_iff_eq] at h2
 simp only [Bool.or_eq_true,beq_iff_eq] at h4 h5
 rw [List.all_eq_true] at h6
 refine⟨h1.1,h1.2,?_,?_,fun x hx=>?_,fun hn=>?_,fun hn hm=>?_⟩
 ·split
  ·rename_i h4
   rw [if_pos h4] at h2
   match args,h2 with
   | [x,y],_=>exact⟨x,y,rfl⟩
  ·rename_i h4
   rw [if_neg h4] at h2
   match args,h2 with
   | [x],_=>exact⟨x,rfl⟩
 ·by_cases hop:op=1∨op=2
  ·rw [if_pos hop] at h3
   exact .inl ⟨hop,h3⟩
  ·rw [if_neg hop] at h3
   exact .inr ⟨hop,Z3K h3⟩
 ·have hv:Z1v x=true:=h6 x hx
  have h8:(Z05 6 x&&decide (Z0X 6 x≤30))=true:=by rw [Z5H];exact hv
  rw [Bool.and_eq_true] at h8
  exact h8.1
 ·rcases h4 with h4|h4
  ·exact absurd h4 hn
  ·exact List.length_eq_zero_iff.1 h4
 ·rcases h5 with(h5|h5)|h5
  ·exact absurd h5 hn
  ·exact absurd h5 hm
  ·exact List.length_eq_zero_iff.1 h5
theorem Z0E {ws:List Z7} {w:Z7} {s:ByteArray} (h:Z1U w s=true):Z2t (w::ws) s=some ws:=by
 rw [Z2t,Zp,if_pos h];rfl
def ZcC (ws:List Z7):Prop:=∃w r,ws=w::r∧Z1U w (sgB 125)=false∧Z1U w (ZU.getD 5 ⟨#[]⟩)=false
theorem Z0z (d:Nat) (op:Int) (name:ByteArray) (args:List Z6) (body els:List Zb):Zm (d+1) (.mk op name args body els)=Z1X op name++Zr 0 (args.map fun e=>Z9 6 e 1)++
   (if op=5∨op=6 then Zx (body.flatMap (Zm d))++(if els.length=0 then [] else kyW 5::Zx (els.flatMap (Zm d))) else [sgW 59]):=rfl
theorem Z4V {d:Nat} {s:Zb} (h:ZH d s=true):ZcC (Zm d s):=by
 cases d with
 | zero=>cases h
 | succ d=>
  obtain⟨op,name,args,body,els⟩:=s
  obtain⟨h1,h2,_,h3,_⟩:=Z0p (ZR h).1
  rw [Z0z]
  have h8:op=1∨op=2∨op=3∨op=4∨op=5∨op=6∨op=7∨op=8:=by omega
  rcases h8 with rfl|rfl|rfl|rfl|rfl|rfl|rfl|rfl
  ·exact⟨kyW 1,_,rfl,Z3A 1 (by omega) 125,Z20 1 5 (by omega) (by omega)⟩
  ·rcases h3 with⟨_,h3⟩|⟨h3,_⟩
   ·exact⟨nmW name,_,rfl,Z7N h3 125 (by decide),Z7m h3 (by omega)⟩
   ·exact absurd (.inr rfl) h3
  ·exact⟨kyW 2,_,rfl,Z3A 2 (by omega) 125,Z20 2 5 (by omega) (by omega)⟩
  ·exact⟨kyW 3,_,rfl,Z3A 3 (by omega) 125,Z20 3 5 (by omega) (by omega)⟩
  ·exact⟨kyW 4,_,rfl,Z3A 4 (by omega) 125,Z20 4 5 (by omega) (by omega)⟩
  ·exact⟨kyW 6,_,rfl,Z3A 6 (by omega) 125,Z20 6 5 (by omega) (by omega)⟩
  ·exact⟨kyW 7,_,rfl,Z3A 7 (by omega) 125,Z20 7 5 (by omega) (by omega)⟩
  ·exact⟨kyW 8,_,rfl,Z3A 8 (by omega) 125,Z20 8 5 (by omega) (by omega)⟩
def Zci (d:Nat):Prop:=∀s,ZH d s=true→∀rest:List Z7,Zp rest (ZU.getD 5 ⟨#[]⟩)=false→Ev fun f=>rdS f (Zm d s++rest)=some (s,rest)
theorem Z78 {d:Nat} (hd:Zci d) (rest:List Z7):∀(ss out:List Zb),(∀s∈ss,ZH d s=true)→Ev fun f=>Z8h f out (ss.flatMap (Zm d)++sgW 125::rest)=some (out++ss,rest)
 | [],out,_=>Ev.pos.step fun f _ _=>by
   show Z8h (f+1) out (sgW 125::rest)=_
   rw [Z8h,Z04,if_pos (by decide),List.append_nil];rfl
 | s::ss,out,h=>by
  have hrest:Zp (ss.flatMap (Zm d)++sgW 125::rest) (ZU.getD 5 ⟨#[]⟩)=false:=by
   cases ss with
   | nil=>exact Z6E 125 (by omega)
   | cons t ts=>
    obtain⟨w,r,he,h1,h2⟩:=Z4V (h t (by simp))
    rw [List.flatMap_cons,he]
    exact h2
  have h1:=hd s (h s (by simp)) _ hrest
  have h2:=Z78 hd rest ss (out++[s]) (fun x hx=>h x (List.mem_cons_of_mem _ hx))
  refine(h1.and h2).step fun f _ ⟨hr,hs⟩=>?_
  have he:(s::ss).flatMap (Zm d)++sgW 125::rest=Zm d s++(ss.flatMap (Zm d)++sgW 125::rest):=by simp
  have hh:Zp (Zm d s++(ss.flatMap (Zm d)++sgW 125::rest)) (sgB 125)=false:=by
   obtain⟨w,r,he,h1,h2⟩:=Z4V (h s (by simp))
   rw [he];exact h1
  rw [he,Z8h,if_neg (by rw [hh];decide),hr,Option.bind_some]
  try dsimp only
  rw [hs];simp
theorem Z3Q {d:Nat} (hd:Zci d) (ss:List Zb) (rest:List Z7) (h:∀s∈ss,ZH d s=true):Ev fun f=>rdB f (Zx (ss.flatMap (Zm d))++rest)=some (ss,rest):=
 (Z78 hd rest ss [] h).step fun f _ hr=>by
  have he:Zx (ss.flatMap (Zm d))++rest=sgW 123::(ss.flatMap (Zm d)++sgW 125::rest):=by simp [Zx]
  rw [he,rdB,Z0E (by rw [Z14];rfl),Option.bind_some,hr];rfl
theorem Z2Z {x:Z6} (h:Z05 6 x=true) {c:UInt8} (hc:c=41∨c=44∨c=59∨c=123∨c=125) (rest:List Z7):Ev fun f=>rdE f 1 (Z9 6 x 1++sgW c::rest)=some (x,sgW c::rest):=
 (ZcQ 6 x h).1 1 (sgW c::rest) (by omega) (by omega) (Z3H hc 1 rest)
theorem ZcK:∀d,Zci d
 | 0=>fun s h=>by cases h
 | d+1=>by
  intro s h rest hrest
  have ih:=ZcK d
  obtain⟨op,name,args,body,els⟩:=s
  obtain⟨h0,hb,he⟩:=ZR h
  have hb:∀k∈body,ZH d k=true:=hb
  have he:∀k∈els,ZH d k=true:=he
  obtain⟨h1,h2,ha,hn,hx,hel,hbo⟩:=Z0p h0
  rw [Z0z]
  have plain:∀(o:Int) (i:Nat) (x:Z6),i<9→ZZ (kyW i).text=o→o≠1→o≠2→o≠4→o≠5→o≠6→Z05 6 x=true→Ev fun f=>rdS f (kyW i::(Z9 6 x 1++sgW 59::rest))=some (.mk o ⟨#[]⟩ [x] [] [],rest):=by
   intro o i x hi ho h1 h2 h4 h5 h6 hx
   refine(Z2Z hx (c:=59) (by simp) rest).step fun f _ hr=>?_
   rw [rdS]
   try dsimp only
   rw [ho,if_neg h2,Z2P,if_neg (by omega),Option.bind_some]
   try dsimp only
   rw [hr,Option.bind_some,if_neg h5,if_neg h6,if_neg h4]
   try dsimp only
   rw [Z0E (by rw [Z14];rfl)];rfl
  have h8:op=1∨op=2∨op=3∨op=4∨op=5∨op=6∨op=7∨op=8:=by omega
  rcases h8 with rfl|rfl|rfl|rfl|rfl|rfl|rfl|rfl
  ·obtain⟨x,rfl⟩:∃x,args=[x]:=ha
   obtain rfl:=hel (by decide)
   obtain rfl:=hbo (by decide) (by decide)
   have hn:Zk name=true:=by rcases hn with h|h;exact h.2;exact absurd (.inl rfl) h.1
   refine(Z2Z (hx x (by simp)) (c:=59) (by simp) rest).step fun f _ hr=>?_
   have e1:(Z1X 1 name++Zr 0 ([x].map fun e=>Z9 6 e 1)++(if (1:Int)=5∨(1:Int)=6 then Zx (([]:List Zb).flatMap (Zm d))++(if ([]:List Zb).length=0 then [] else kyW 5::Zx (([]:List Zb).flatMap (Zm d))) else [sgW 59]))++rest=kyW 1::nmW name::sgW 61::(Z9 6 x 1++sgW 59::rest):=by
    rw [if_neg (by decide)];simp [Z1X,Zr]
   have ho:ZZ (kyW 1).text=1:=by decide
   rw [e1,rdS]
   try dsimp only
   rw [ho,if_neg (by decide),Z2P,if_pos (by decide),Z3S,Option.bind_some]
   try dsimp only
   rw [Z0E (by rw [Z14];rfl),Option.map_some,Option.bind_some]
   try dsimp only
   rw [hr,Option.bind_some,if_neg (by decide),if_neg (by decide),if_neg (by decide)]
   try dsimp only
   rw [Z0E (by rw [Z14];rfl)];rfl
  ·obtain⟨x,rfl⟩:∃x,args=[x]:=ha
   obtain rfl:=hel (by decide)
   obtain rfl:=hbo (by decide) (by decide)
   have hn:Zk name=true:=by rcases hn with h|h;exact h.2;exact absurd (.inr rfl) h.1
   refine(Z2Z (hx x (by simp)) (c:=59) (by simp) rest).step fun f _ hr=>?_
   have e1:(Z1X 2 name++Zr 0 ([x].map fun e=>Z9 6 e 1)++(if (2:Int)=5∨(2:Int)=6 then Zx (([]:List Zb).flatMap (Zm d))++(if ([]:List Zb).length=0 then [] else kyW 5::Zx (([]:List Zb).flatMap (Zm d))) else [sgW 59]))++rest=nmW name::sgW 61::(Z9 6 x 1++sgW 59::rest):=by
    rw [if_neg (by decide)];simp [Z1X,Zr]
   have ho:ZZ (nmW name).text=2:=Z9k hn
   rw [e1,rdS]
   try dsimp only
   rw [ho,if_pos rfl,Z2P,if_pos (by decide),Z3S,Option.bind_some]
   try dsimp only
   rw [Z0E (by rw [Z14];rfl),Option.map_some,Option.bind_some]
   try dsimp only
   rw [hr,Option.bind_some,if_neg (by decide),if_neg (by decide),if_neg (by decide)]
   try dsimp only
   rw [Z0E (by rw [Z14];rfl)];rfl
  ·obtain⟨x,rfl⟩:∃x,args=[x]:=ha
   obtain rfl:=hel (by decide)
   obtain rfl:=hbo (by decide) (by decide)
   obtain rfl:name=⟨#[]⟩:=by rcases hn with h|h;exact absurd h.1 (by decide);exact h.2
   have:=plain 3 2 x (by omega) (by decide) (by decide) (by decide) (by decide) (by decide) (by decide) (hx x (by simp))
   simpa [Z1X,Zr] using this
  ·obtain⟨x,y,rfl⟩:∃x y,args=[x,y]:=ha
   obtain rfl:=hel (by decide)
   obtain rfl:=hbo (by decide) (by decide)
   obtain rfl:name=⟨#[]⟩:=by rcases hn with h|h;exact absurd h.1 (by decide);exact h.2
   refine((Z2Z (hx x (by simp)) (c:=44) (by simp) (Z9 6 y 1++sgW 59::rest)).and (Z2Z (hx y (by simp)) (c:=59) (by simp) rest)).step fun f _ ⟨hr,hr2⟩=>?_
   have e1:(Z1X 4 ⟨#[]⟩++Zr 0 ([x,y].map fun e=>Z9 6 e 1)++(if (4:Int)=5∨(4:Int)=6 then Zx (([]:List Zb).flatMap (Zm d))++(if ([]:List Zb).length=0 then [] else kyW 5::Zx (([]:List Zb).flatMap (Zm d))) else [sgW 59]))++rest=kyW 3::(Z9 6 x 1++sgW 44::(Z9 6 y 1++sgW 59::rest)):=by
    rw [if_neg (by decide)];simp [Z1X,Zr]
   have ho:ZZ (kyW 3).text=4:=by decide
   rw [e1,rdS]
   try dsimp only
   rw [ho,if_neg (by decide),Z2P,if_neg (by decide),Option.bind_some]
   try dsimp only
   rw [hr,Option.bind_some,if_neg (by decide),if_neg (by decide),if_pos rfl]
   try dsimp only
   rw [Z0E (by rw [Z14];rfl),Option.bind_some,hr2,Option.bind_some]
   try dsimp only
   rw [Z0E (by rw [Z14];rfl)];rfl
  ·obtain⟨x,rfl⟩:∃x,args=[x]:=ha
   obtain rfl:name=⟨#[]⟩:=by rcases hn with h|h;exact absurd h.1 (by decide);exact h.2
   have ho:ZZ (kyW 4).text=5:=by decide
   by_cases hl:els.length=0
   ·obtain rfl:=List.length_eq_zero_iff.1 hl
    have hbr:=Z3Q ih body rest hb
    refine((Z2Z (hx x (by simp)) (c:=123) (by simp) (body.flatMap (Zm d)++sgW 125::rest)).and hbr).step fun f _ ⟨hr,hr2⟩=>?_
    have e1:(Z1X 5 ⟨#[]⟩++Zr 0 ([x].map fun e=>Z9 6 e 1)++(if (5:Int)=5∨(5:Int)=6 then Zx (body.flatMap (Zm d))++(if ([]:List Zb).length=0 then [] else kyW 5::Zx (([]:List Zb).flatMap (Zm d))) else [sgW 59]))++rest=kyW 4::(Z9 6 x 1++sgW 123::(body.flatMap (Zm d)++sgW 125::rest)):=by
     rw [if_pos (by decide),if_pos (show([]:List Zb).length=0 from rfl)];simp [Z1X,Zr,Zx]
    have e2:Zx (body.flatMap (Zm d))++rest=sgW 123::(body.flatMap (Zm d)++sgW 125::rest):=by simp [Zx]
    rw [e2] at hr2
    rw [e1,rdS]
    try dsimp only
    rw [ho,if_neg (by decide),Z2P,if_neg (by decide),Option.bind_some]
    try dsimp only
    rw [hr,Option.bind_some,if_pos rfl]
    rw [hr2,Option.bind_some,if_neg (by rw [hrest];decide)]
   ·have her:=Z3Q ih els rest he
    have hbr:=Z3Q ih body (kyW 5::(Zx (els.flatMap (Zm d))++rest)) hb
    refine((Z2Z (hx x (by simp)) (c:=123) (by simp) (body.flatMap (Zm d)++sgW 125::kyW 5::(Zx (els.flatMap (Zm d))++rest))).and (hbr.and her)).step fun f _ ⟨hr,hr2,hr3⟩=>?_
    have e1:(Z1X 5 ⟨#[]⟩++Zr 0 ([x].map fun e=>Z9 6 e 1)++(if (5:Int)=5∨(5:Int)=6 then Zx (body.flatMap (Zm d))++(if els.length=0 then [] else kyW 5::Zx (els.flatMap (Zm d))) else [sgW 59]))++rest=kyW 4::(Z9 6 x 1++sgW 123::(body.flatMap (Zm d)++sgW 125::kyW 5::(Zx (els.flatMap (Zm d))++rest))):=by
     rw [if_pos (by decide),if_neg hl];simp [Z1X,Zr,Zx]
    have e2:Zx (body.flatMap (Zm d))++kyW 5::(Zx (els.flatMap (Zm d))++rest)=sgW 123::(body.flatMap (Zm d)++sgW 125::kyW 5::(Zx (els.flatMap (Zm d))++rest)):=by simp [Zx]
    rw [e2] at hr2
    rw [e1,rdS]
    try dsimp only
    rw [ho,if_neg (by decide),Z2P,if_neg (by decide),Option.bind_some]
    try dsimp only
    rw [hr,Option.bind_some,if_pos rfl]
    rw [hr2,Option.bind_some]
    dsimp only
    rw [if_pos (show Zp (kyW 5::_) (ZU.getD 5 ⟨#[]⟩)=true from Z20 5 5 (by omega) (by omega)),List.tail_cons,hr3,Option.bind_some]
  ·obtain⟨x,rfl⟩:∃x,args=[x]:=ha
   obtain rfl:=hel (by decide)
   obtain rfl:name=⟨#[]⟩:=by rcases hn with h|h;exact absurd h.1 (by decide);exact h.2
   have ho:ZZ (kyW 6).text=6:=by decide
   have hbr:=Z3Q ih body rest hb
   refine((Z2Z (hx x (by simp)) (c:=123) (by simp) (body.flatMap (Zm d)++sgW 125::rest)).and hbr).step fun f _ ⟨hr,hr2⟩=>?_
   have e1:(Z1X 6 ⟨#[]⟩++Zr 0 ([x].map fun e=>Z9 6 e 1)++(if (6:Int)=5∨(6:Int)=6 then Zx (body.flatMap (Zm d))++(if ([]:List Zb).length=0 then [] else kyW 5::Zx (([]:List Zb).flatMap (Zm d))) else [sgW 59]))++rest=kyW 6::(Z9 6 x 1++sgW 123::(body.flatMap (Zm d)++sgW 125::rest)):=by
    rw [if_pos (by decide),if_pos (show([]:List Zb).length=0 from rfl)];simp [Z1X,Zr,Zx]
   have e2:Zx (body.flatMap (Zm d))++rest=sgW 123::(body.flatMap (Zm d)++sgW 125::rest):=by simp [Zx]
   rw [e2] at hr2
   rw [e1,rdS]
   try dsimp only
   rw [ho,if_neg (by decide),Z2P,if_neg (by decide),Option.bind_some]
   try dsimp only
   rw [hr,Option.bind_some,if_neg (by decide),if_pos rfl]
   rw [hr2,Option.bind_some]
  ·obtain⟨x,rfl⟩:∃x,args=[x]:=ha
   obtain rfl:=hel (by decide)
   obtain rfl:=hbo (by decide) (by decide)
   obtain rfl:name=⟨#[]⟩:=by rcases hn with h|h;exact absurd h.1 (by decide);exact h.2
   have:=plain 7 7 x (by omega) (by decide) (by decide) (by decide) (by decide) (by decide) (by decide) (hx x (by simp))
   simpa [Z1X,Zr] using this
  ·obtain⟨x,rfl⟩:∃x,args=[x]:=ha
   obtain rfl:=hel (by decide)
   obtain rfl:=hbo (by decide) (by decide)
   obtain rfl:name=⟨#[]⟩:=by rcases hn with h|h;exact absurd h.1 (by decide);exact h.2
   have:=plain 8 8 x (by omega) (by decide) (by decide) (by decide) (by decide) (by decide) (by decide) (hx x (by simp))
   simpa [Z1X,Zr] using this
theorem Z6M (rest:List Z7):∀(ps out:List ByteArray),(∀s∈ps,Zk s=true)→Ev fun f=>Z6q f out (Zr out.length (ps.map fun s=>[nmW s])++sgW 41::rest)=some (out++ps,rest)
 | [],out,_=>Ev.pos.step fun f _ _=>by
   show Z6q (f+1) out (sgW 41::rest)=_
   rw [Z6q,Z04,if_pos (by decide),List.append_nil];rfl
 | s::ps,out,h=>by
  have h2:=Z6M rest ps (out++[s]) (fun x hx=>h x (List.mem_cons_of_mem _ hx))
  refine h2.step fun f _ hr=>?_
  have hs:=h s (by simp)
  by_cases hl:0<out.length
  ·have he:Zr out.length ((s::ps).map fun s=>[nmW s])++sgW 41::rest=sgW 44::nmW s::(Zr (out++[s]).length (ps.map fun s=>[nmW s])++sgW 41::rest):=by
    rw [List.map_cons,Zr,if_neg (by omega)];simp
   rw [he,Z6q,Z04,if_neg (by decide),if_pos hl,Z0E (by rw [Z14];rfl),Option.bind_some,Z3S,Option.bind_some]
   show Z6q f (out++[s]) _=_
   rw [hr];simp
  ·have hl0:out.length=0:=by omega
   have he:Zr out.length ((s::ps).map fun s=>[nmW s])++sgW 41::rest=nmW s::(Zr (out++[s]).length (ps.map fun s=>[nmW s])++sgW 41::rest):=by
    rw [List.map_cons,Zr,if_pos hl0];simp
   rw [he,Z6q,Zp,Z1Z hs 41 (by decide),if_neg (by decide),if_neg hl,Option.bind_some,Z3S,Option.bind_some]
   show Z6q f (out++[s]) _=_
   rw [hr];simp
theorem ZbU {g:FnD} (h:fnB g=true) (rest:List Z7):Ev fun f=>rdF f (Z0H g++rest)=some (g,rest):=by
 obtain⟨name,params,body⟩:=g
 simp only [fnB,Bool.and_eq_true,decide_eq_true_eq,List.all_eq_true] at h
 refine((Z6M (Zx (body.flatMap (Zm 4))++rest) params [] h.1.2).and (Z3Q (ZcK 4) body rest h.2)).mono fun f ⟨h1,h2⟩=>?_
 have he:Z0H ⟨name,params,body⟩++rest=kyW 0::nmW name::sgW 40::(Zr ([]:List ByteArray).length (params.map fun s=>[nmW s])++sgW 41::(Zx (body.flatMap (Zm 4))++rest)):=by
  simp [Z0H]
 rw [he,rdF,Z0E (Z20 0 0 (by omega) (by omega)),Option.bind_some,Z3S,Option.bind_some]
 try dsimp only
 rw [Z0E (by rw [Z14];rfl),Option.bind_some,h1,Option.bind_some]
 try dsimp only
 rw [h2];rfl
theorem Z4B:∀(ps out:List FnD),(∀g∈ps,fnB g=true)→Ev fun f=>rdP f out (ZT ps)=some (out++ps)
 | [],out,_=>Ev.pos.step fun f _ _=>by
   show rdP (f+1) out []=_
   rw [rdP,if_pos (show([]:List Z7).length=0 from rfl),List.append_nil]
 | g::ps,out,h=>by
  have h1:=ZbU (h g (by simp)) (ZT ps)
  have h2:=Z4B ps (out++[g]) (fun x hx=>h x (List.mem_cons_of_mem _ hx))
  refine(h1.and h2).step fun f _ ⟨hr,hs⟩=>?_
  have he:ZT (g::ps)=Z0H g++ZT ps:=rfl
  rw [rdP,he,if_neg (by simp [Z0H]),hr,Option.bind_some]
  try dsimp only
  rw [hs];simp
theorem Zao {p q:List FnD} (hp:Z0C p=true) (hq:Z0C q=true) (h:ZT p=ZT q):p=q:=by
 simp only [Z0C,Z3Z,Bool.and_eq_true,decide_eq_true_eq,List.all_eq_true] at hp hq
 obtain⟨f,h1,h2⟩:=((Z4B p [] hp.1.2).and (Z4B q [] hq.1.2)).some
 rw [h] at h1
 rw [h1] at h2
 simpa using h2
theorem Z23:∀(d:Nat) (e:Z6) (need:Int),Z05 d e=true→∀w∈Z9 d e need,ZV w
 | 0,e,_,h=>by cases h
 | d+1,.mk op n s ks,need,h=>by
  obtain⟨h1,h2⟩:=Z0Q h
  replace h1:Z0v Zk op n s ks.length=true:=h1
  replace h2:∀k∈ks,Z05 d k=true:=h2
  have hbar:∀(b:Bool) (ws:List Z7),(∀w∈ws,ZV w)→∀w∈Z3h b ws,ZV w:=by
   intro b ws hw w hm
   cases b with
   | false=>exact hw w hm
   | true=>
    have hm:w∈sgW 40::ws++[sgW 41]:=hm
    simp only [List.mem_append,List.mem_cons,List.not_mem_nil,or_false] at hm
    rcases hm with(rfl|hm)|rfl
    ·exact .sign 40 (by decide)
    ·exact hw w hm
    ·exact .sign 41 (by decide)
  rw [Z0Z]
  apply hbar
  rcases Z1M (ks:=ks) h1 with⟨rfl,h3,h4,_,_⟩|⟨rfl,_,h3,_⟩|⟨rfl,_,h3⟩|⟨h3,_,_,x,rfl⟩|⟨h3,_,_,x,y,rfl⟩
  ·rw [if_pos rfl]
   intro w hw
   simp only [List.mem_cons,List.not_mem_nil,or_false] at hw
   subst hw
   exact .num _ (by omega)
  ·rw [if_neg (by decide),if_pos rfl]
   intro w hw
   simp only [List.mem_cons,List.not_mem_nil,or_false] at hw
   subst hw
   exact .name s h3
  ·rw [if_neg (by decide),if_neg (by decide),if_pos rfl]
   intro w hw
   simp only [List.mem_append,List.mem_cons,List.not_mem_nil,or_false] at hw
   rcases hw with(rfl|rfl|hw)|rfl
   ·exact .name s h3
   ·exact .sign 40 (by decide)
   ·cases ks with
    | nil=>cases hw
    | cons k ks=>
     rw [List.map_cons,Zr,Z1K,if_pos rfl] at hw
     simp only [List.nil_append,List.mem_append,List.mem_flatMap,List.mem_map,List.mem_cons] at hw
     rcases hw with hw|⟨l,⟨k2,hk2,rfl⟩,rfl|hw⟩
     ·exact Z23 d k 1 (h2 k (by simp)) w hw
     ·exact .sign 44 (by decide)
     ·exact Z23 d k2 1 (h2 k2 (by simp [hk2])) w hw
   ·exact .sign 41 (by decide)
  ·rw [if_neg (by omega),if_neg (by omega),if_neg (by omega),if_pos h3]
   intro w hw
   rcases List.mem_cons.1 hw with rfl|hw
   ·rcases h3 with rfl|rfl
    ·exact .sign _ (by decide)
    ·exact .sign _ (by decide)
   ·exact Z23 d x _ (h2 x (by simp)) w hw
  ·rw [if_neg (by omega),if_neg (by omega),if_neg (by omega),if_neg (by omega)]
   intro w hw
   rcases List.mem_append.1 hw with hw|hw
   ·exact Z23 d x _ (h2 x (by simp)) w hw
   rcases List.mem_cons.1 hw with rfl|hw
   ·have h8:op=3∨op=4∨op=5∨op=6∨op=7∨op=8∨op=9∨op=10:=by omega
    rcases h8 with rfl|rfl|rfl|rfl|rfl|rfl|rfl|rfl<;>exact .sign _ (by decide)
   ·exact Z23 d y _ (h2 y (by simp)) w hw
theorem Z8Z {ws:List Z7} (h:∀w∈ws,ZV w):∀w∈Zx ws,ZV w:=by
 intro w hw
 have hw:w∈sgW 123::ws++[sgW 125]:=hw
 simp only [List.mem_append,List.mem_cons,List.not_mem_nil,or_false] at hw
 rcases hw with(rfl|hw)|rfl
 ·exact .sign 123 (by decide)
 ·exact h w hw
 ·exact .sign 125 (by decide)
theorem Z6m:∀(d:Nat) (s:Zb),ZH d s=true→∀w∈Zm d s,ZV w
 | 0,s,h=>by cases h
 | d+1,.mk op name args body els,h=>by
  obtain⟨h0,hb,he⟩:=ZR h
  replace hb:∀k∈body,ZH d k=true:=hb
  replace he:∀k∈els,ZH d k=true:=he
  obtain⟨h1,h2,ha,hn,hx,hel,hbo⟩:=Z0p h0
  intro w hw
  rw [Z0z] at hw
  rcases List.mem_append.1 hw with hw|hw
  ·rcases List.mem_append.1 hw with hw|hw
   ·have h8:op=1∨op=2∨op=3∨op=4∨op=5∨op=6∨op=7∨op=8:=by omega
    rcases h8 with rfl|rfl|rfl|rfl|rfl|rfl|rfl|rfl
    ·have hn:Zk name=true:=by rcases hn with h|h;exact h.2;exact absurd (.inl rfl) h.1
     have hw:w∈[kyW 1,nmW name,sgW 61]:=hw
     simp only [List.mem_cons,List.not_mem_nil,or_false] at hw
     rcases hw with rfl|rfl|rfl
     ·exact .key 1 (by omega)
     ·exact .name name hn
     ·exact .sign 61 (by decide)
    ·have hn:Zk name=true:=by rcases hn with h|h;exact h.2;exact absurd (.inr rfl) h.1
     have hw:w∈[nmW name,sgW 61]:=hw
     simp only [List.mem_cons,List.not_mem_nil,or_false] at hw
     rcases hw with rfl|rfl
     ·exact .name name hn
     ·exact .sign 61 (by decide)
    all_goals
     have hw:=List.mem_singleton.1 hw
     subst hw
     exact .key _ (by omega)
   ·have hall:∀x∈args,∀w∈Z9 6 x 1,ZV w:=fun x hm=>Z23 6 x 1 (hx x hm)
    cases args with
    | nil=>cases hw
    | cons k ks=>
     rw [List.map_cons,Zr,Z1K,if_pos rfl] at hw
     simp only [List.nil_append,List.mem_append,List.mem_flatMap,List.mem_map,List.mem_cons] at hw
     rcases hw with hw|⟨l,⟨k2,hk2,rfl⟩,rfl|hw⟩
     ·exact hall k (by simp) w hw
     ·exact .sign 44 (by decide)
     ·exact hall k2 (by simp [hk2]) w hw
  ·have hflat:∀ss:List Zb,(∀k∈ss,ZH d k=true)→∀w∈Zx (ss.flatMap (Zm d)),ZV w:=fun ss hss=>Z8Z fun w hm=>by
    obtain⟨k,hk,hm⟩:=List.mem_flatMap.1 hm
    exact Z6m d k (hss k hk) w hm
   split at hw
   ·rcases List.mem_append.1 hw with hw|hw
    ·exact hflat body hb w hw
    ·split at hw
     ·cases hw
     ·rcases List.mem_cons.1 hw with rfl|hw
      ·exact .key 5 (by omega)
      ·exact hflat els he w hw
   ·have hw:=List.mem_singleton.1 hw
    subst hw
    exact .sign 59 (by decide)
theorem Zd3 {g:FnD} (h:fnB g=true):∀w∈Z0H g,ZV w:=by
 obtain⟨name,params,body⟩:=g
 simp only [fnB,Bool.and_eq_true,decide_eq_true_eq,List.all_eq_true] at h
 intro w hw
 have hw:w∈kyW 0::nmW name::sgW 40::Zr 0 (params.map fun s=>[nmW s])++sgW 41::Zx (body.flatMap (Zm 4)):=hw
 simp only [List.mem_append,List.mem_cons] at hw
 rcases hw with(rfl|rfl|rfl|hw)|rfl|hw
 ·exact .key 0 (by omega)
 ·exact .name name h.1.1.1
 ·exact .sign 40 (by decide)
 ·cases params with
  | nil=>cases hw
  | cons k ks=>
   rw [List.map_cons,Zr,Z1K,if_pos rfl] at hw
   simp only [List.nil_append,List.mem_append,List.mem_flatMap,List.mem_map,List.mem_cons,List.not_mem_nil,or_false] at hw
   rcases hw with rfl|⟨l,⟨k2,hk2,rfl⟩,hw⟩
   ·exact .name _ (h.1.2 _ (by simp))
   ·simp only [List.mem_cons,List.not_mem_nil,or_false] at hw
    rcases hw with rfl|rfl
    ·exact .sign 44 (by decide)
    ·exact .name _ (h.1.2 _ (by simp [hk2]))
 ·exact .sign 41 (by decide)
 ·exact Z8Z (fun w hm=>by
   obtain⟨k,hk,hm⟩:=List.mem_flatMap.1 hm
   exact Z6m 4 k (h.2 k hk) w hm) w hw
theorem Z3x {p:List FnD} (h:∀g∈p,fnB g=true):∀w∈ZT p,ZV w:=by
 intro w hw
 obtain⟨g,hg,hw⟩:=List.mem_flatMap.1 hw
 exact Zd3 (h g hg) w hw
def Z0O (c:Int):Int:=if Z68 c then 1 else if 48≤c∧c≤57 then 2 else if Z7z.any (fun s=>(s.toNat:Int)==c) then 3 else if c=32∨c=10 then 4 else 0
def Z8G (w:Z7):Int:=if w.kind=4 then 1 else w.kind
theorem Z3G (s:ByteArray) (j:Nat):Z0U s j=((s.data.toList[j]?).map (fun b=>(b.toNat:Int))).getD 0:=by
 rw [Z0U]
 congr 1
 congr 1
 rw [Array.getElem?_toList]
 rfl
theorem Z0J {w:Z7} (h:ZV w):1≤w.text.size∧w.text.size≤4∧(Z8G w=3→w.text.size=1)∧(Z8G w=1∨Z8G w=2∨Z8G w=3)∧∀j,j<w.text.size→Z0O (Z0U w.text j)=Z8G w:=by
 cases h with
 | name s h=>
  obtain⟨h1,h2,h3,h4⟩:=Z0t h
  refine⟨h1,h2,fun h=>absurd h (by show ¬(1:Int)=3;decide),.inl rfl,fun j hj=>?_⟩
  have h5:Z0e s s.size=true:=by
   simp only [Zk,Bool.and_eq_true] at h
   exact h.2.2.1
  show Z0O (Z0U s j)=1
  rw [Z0O,if_pos (Z3u h5 hj)]
 | num n h=>
  have h0:∀j:Fin 256,1≤(Z1f j.val).size∧(Z1f j.val).size≤3∧∀k:Fin 3,k.val<(Z1f j.val).size→Z0O (Z0U (Z1f j.val) k.val)=2:=by decide +kernel
  obtain⟨h1,h2,h3⟩:=h0 ⟨n,by omega⟩
  refine⟨h1,Nat.le_trans h2 (by omega),fun h=>absurd h (by show ¬(2:Int)=3;decide),.inr (.inl rfl),fun j hj=>?_⟩
  have hj:j<(Z1f n).size:=hj
  have h2:(Z1f n).size≤3:=h2
  exact h3 ⟨j,by omega⟩ hj
 | sign c h=>
  have h0:∀c∈Z7z,Z0O (Z0U (sgB c) 0)=3:=by decide
  refine⟨Nat.le_refl _,by show 1≤4;omega,fun _=>rfl,.inr (.inr rfl),fun j hj=>?_⟩
  have hj:j<1:=hj
  obtain rfl:j=0:=by omega
  exact h0 c h
 | key i h=>
  have h0:∀j:Fin 9,1≤(kyW j.val).text.size∧(kyW j.val).text.size≤4∧∀k:Fin 4,k.val<(kyW j.val).text.size→Z0O (Z0U (kyW j.val).text k.val)=1:=by decide
  obtain⟨h1,h2,h3⟩:=h0 ⟨i,h⟩
  refine⟨h1,h2,fun h=>absurd h (by show ¬(1:Int)=3;decide),.inl rfl,fun j hj=>?_⟩
  have h2:(kyW i).text.size≤4:=h2
  exact h3 ⟨j,by omega⟩ hj
def Z8p (s:ByteArray):Int:=if Z6A ZU s then 4 else Z0O (Z0U s 0)
theorem Z74 {s:ByteArray} (h:Z6A ZU s=true):Z0O (Z0U s 0)=1:=by
 obtain⟨k,hk,he⟩:=List.any_eq_true.1 h
 rw [beq_iff_eq] at he
 rw [Zc3 he]
 have h0:∀k∈ZU,Z0O (Z0U k 0)=1:=by decide
 exact h0 k hk
theorem Z7S {w:Z7} (h:ZV w):w.kind=Z8p w.text:=by
 have hc:=Z0J h
 have h0:=hc.2.2.2.2 0 hc.1
 unfold Z8p
 cases h with
 | name s h=>rw [if_neg (by rw [show Z6A ZU (nmW s).text=false from(Z0t h).2.2.2];decide),h0];rfl
 | num n h=>
  rw [if_neg,h0];rfl
  intro hk
  rw [Z74 hk] at h0
  exact absurd h0 (by show ¬(1:Int)=2;decide)
 | sign c h=>
  rw [if_neg,h0];rfl
  intro hk
  rw [Z74 hk] at h0
  exact absurd h0 (by show ¬(1:Int)=3;decide)
 | key i h=>
  rw [if_pos];rfl
  have hl:i<ZU.length:=h
  refine List.any_eq_true.2 ⟨_,List.getElem_mem hl,?_⟩
  show((ZU.getD i ⟨#[]⟩).toList==(ZU[i]).toList)=true
  rw [List.getD_eq_getElem?_getD,List.getElem?_eq_getElem hl];simp
theorem ZcT {w v:Z7} (h:ZV w) (k:ZV v) (e:w.text=v.text):w=v:=by
 have h1:=Z7S h
 have h2:=Z7S k
 rw [e,← h2] at h1
 cases w;cases v
 simp only at h1 e
 rw [h1,e]
theorem Z7Q:Z0O 32=4:=by decide
theorem Zas {w:Z7} (h:ZV w):∀c∈w.text.data.toList,c≠32:=by
 intro c hc he
 subst he
 obtain⟨j,hj⟩:=List.getElem?_of_mem hc
 have hl:j<w.text.size:=by
  have:=(List.getElem?_eq_some_iff.1 hj).1
  simpa using this
 have h1:=Z0J h
 have h2:=h1.2.2.2.2 j hl
 rw [Z3G,hj] at h2
 have h3:Z0O 32=Z8G w:=h2
 rw [Z7Q] at h3
 rcases h1.2.2.2.1 with h|h|h<;>omega
theorem Z6V (ws:List Z7):Z1h ws=[]∨∃r,Z1h ws=32::r:=by
 cases ws with
 | nil=>exact .inl rfl
 | cons w ws=>exact .inr ⟨w.text.data.toList++Z1h ws,by simp [Z1h]⟩
theorem ZaH:∀{a b x y:List UInt8},(∀c∈a,c≠32)→(∀c∈b,c≠32)→(x=[]∨∃r,x=32::r)→(y=[]∨∃r,y=32::r)→a++x=b++y→a=b∧x=y
 | [],[],_,_,_,_,_,_,h=>⟨rfl,h⟩
 | [],c::b,x,y,_,hb,hx,_,h=>by
  rcases hx with rfl|⟨r,rfl⟩
  ·cases h
  ·simp only [List.nil_append,List.cons_append,List.cons.injEq] at h
   exact absurd h.1.symm (hb c (by simp))
 | c::a,[],x,y,ha,_,_,hy,h=>by
  rcases hy with rfl|⟨r,rfl⟩
  ·cases h
  ·simp only [List.nil_append,List.cons_append,List.cons.injEq] at h
   exact absurd h.1 (ha c (by simp))
 | c::a,d::b,x,y,ha,hb,hx,hy,h=>by
  simp only [List.cons_append,List.cons.injEq] at h
  obtain⟨h1,h2⟩:=ZaH (fun e he=>ha e (by simp [he])) (fun e he=>hb e (by simp [he])) hx hy h.2
  exact⟨by rw [h.1,h1],h2⟩
theorem Z8E:∀{ws vs:List Z7},(∀w∈ws,ZV w)→(∀w∈vs,ZV w)→Z1h ws=Z1h vs→ws=vs
 | [],[],_,_,_=>rfl
 | [],v::vs,_,_,h=>by simp [Z1h] at h
 | w::ws,[],_,_,h=>by simp [Z1h] at h
 | w::ws,v::vs,hw,hv,h=>by
  have h:w.text.data.toList++Z1h ws=v.text.data.toList++Z1h vs:=by simpa [Z1h] using h
  obtain⟨h1,h2⟩:=ZaH (Zas (hw w (by simp))) (Zas (hv v (by simp))) (Z6V ws) (Z6V vs) h
  have h3:w.text=v.text:=ByteArray.ext (by simpa using h1)
  rw [ZcT (hw w (by simp)) (hv v (by simp)) h3,Z8E (fun x hx=>hw x (by simp [hx])) (fun x hx=>hv x (by simp [hx])) h2]
theorem Zbv {ws vs:List Z7} (h1:ws≠[]) (h2:vs≠[]) (hw:∀w∈ws,ZV w) (hv:∀w∈vs,ZV w) (h:Zl ws=Zl vs):ws=vs:=by
 have h3:=Zcs h
 apply Z8E hw hv
 rw [Z1J h1,Z1J h2,h3]
theorem Z7i {p:List FnD} (h:Z0C p=true):ZT p≠[]:=by
 simp only [Z0C,Z3Z,Bool.and_eq_true,decide_eq_true_eq] at h
 have h1:=h.1.1.1
 cases p with
 | nil=>simp at h1
 | cons g p=>simp [ZT,Z0H]
theorem Z6z {p q:List FnD} (hp:Z0C p=true) (hq:Z0C q=true) (h:Zl (ZT p)=Zl (ZT q)):p=q:=by
 have hp':∀g∈p,fnB g=true:=by
  simp only [Z0C,Z3Z,Bool.and_eq_true,decide_eq_true_eq,List.all_eq_true] at hp
  exact hp.1.2
 have hq':∀g∈q,fnB g=true:=by
  simp only [Z0C,Z3Z,Bool.and_eq_true,decide_eq_true_eq,List.all_eq_true] at hq
  exact hq.1.2
 exact Zao hp hq (Zbv (Z7i hp) (Z7i hq) (Z3x hp') (Z3x hq') h)
def stK:List Z7→Nat→Nat
 | _,0=>0
 | [],_=>0
 | w::ws,k+1=>w.text.size+1+stK ws k
theorem Z0F (s:ByteArray):s.data.toList.length=s.size:=by rw [Array.length_toList];rfl
theorem Z4i (w:Z7) (ws:List Z7):Z2T (w::ws)=w.text.data.toList++Z1h ws:=by simp [Z2T,Z1h]
theorem Z9K:∀(ws:List Z7) (k:Nat) (w:Z7),ws[k]? = some w→(Z2T ws).drop (stK ws k)=w.text.data.toList++Z1h (ws.drop (k+1))
 | [],k,w,h=>by simp at h
 | v::vs,0,w,h=>by
  cases h
  rw [stK,List.drop_zero,Z4i];rfl
 | v::vs,k+1,w,h=>by
  have h:vs[k]? = some w:=h
  have hne:vs≠[]:=by
   rintro rfl
   simp at h
  have ih:=Z9K vs k w h
  rw [stK,Z4i,Z1J hne,show v.text.size+1+stK vs k=v.text.data.toList.length+(1+stK vs k) by rw [Z0F];omega,← List.drop_drop,List.drop_left,Nat.add_comm 1,List.drop_succ_cons,ih]
  rfl
theorem Z8y:∀(ws:List Z7) (k:Nat) (w:Z7),ws[k]? = some w→stK ws (k+1)=stK ws k+w.text.size+1
 | [],k,w,h=>by simp at h
 | v::vs,0,w,h=>by
  cases h
  rw [stK,stK]
  cases vs<;>simp [stK]
 | v::vs,k+1,w,h=>by
  have h:vs[k]? = some w:=h
  have ih:=Z8y vs k w h
  rw [stK,ih,stK]
  omega
theorem Z43 (ws:List Z7):(Zl ws).data.toList=Z2T ws:=by simp [Zl,ofL]
theorem Z65 (ws:List Z7):(Zl ws).size=(Z2T ws).length:=by rw [← Z0F,Z43]
theorem Z79 (s:ByteArray) (a n:Nat):(s.extract a (a+n)).data.toList=(s.data.toList.drop a).take n:=by
 simp [ByteArray.data_extract,Array.toList_extract,List.extract_eq_take_drop]
theorem Z42 {ws:List Z7} {k:Nat} {w:Z7} (h:ws[k]? = some w) :
  stK ws k+w.text.size≤(Zl ws).size∧(∀j,j<w.text.size→Z0U (Zl ws) (stK ws k+j)=Z0U w.text j)∧(Zl ws).extract (stK ws k) (stK ws k+w.text.size)=w.text∧
  (k+1<ws.length→stK ws k+w.text.size<(Zl ws).size∧Z0U (Zl ws) (stK ws k+w.text.size)=32)∧(ws.length=k+1→stK ws k+w.text.size=(Zl ws).size):=by
 have hd:=Z9K ws k w h
 have hlen:=congrArg List.length hd
 rw [List.length_drop,List.length_append,Z0F] at hlen
 have hk:=(List.getElem?_eq_some_iff.1 h).1
 have hle:stK ws k≤(Z2T ws).length:=by
  have:∀(ws:List Z7) (k:Nat),k<ws.length→stK ws k≤(Z2T ws).length:=by
   intro ws
   induction ws with
   | nil=>intro k hk;simp at hk
   | cons v vs ih=>
    intro k hk
    cases k with
    | zero=>rw [stK];omega
    | succ k=>
     have hk:k<vs.length:=by simpa using hk
     have hne:vs≠[]:=by
      rintro rfl
      simp at hk
     have:=ih k hk
     rw [stK,Z4i,Z1J hne,List.length_append,Z0F,List.length_cons]
     omega
  exact this ws k hk
 rw [Z65]
 have hchr:∀j,Z0U (Zl ws) (stK ws k+j)=(((w.text.data.toList++Z1h (ws.drop (k+1)))[j]?).map (fun b=>(b.toNat:Int))).getD 0:=by
  intro j
  rw [Z3G,Z43,← hd,List.getElem?_drop]
 refine⟨by omega,fun j hj=>?_,?_,fun hlt=>?_,fun he=>?_⟩
 ·rw [hchr,List.getElem?_append_left (by rw [Z0F];exact hj),← Z3G]
 ·apply ByteArray.ext
  have h1:=Z79 (Zl ws) (stK ws k) w.text.size
  rw [Z43,hd,← Z0F,List.take_left] at h1
  rw [← Z0F]
  exact Array.toList_inj.1 h1
 ·have hne:ws.drop (k+1)≠[]:=by
   intro h0
   have:=congrArg List.length h0
   rw [List.length_drop] at this
   simp at this
   omega
  rw [hchr,List.getElem?_append_right (by rw [Z0F];exact Nat.le_refl _),Z0F,Nat.sub_self,Z1J hne]
  rw [Z1J hne,List.length_cons] at hlen
  exact⟨by omega,rfl⟩
 ·rw [List.drop_of_length_le (by omega)] at hlen
  simp only [Z1h,List.length_nil] at hlen
  omega
theorem ZaC {ws:List Z7} {k:Nat} {w:Z7} (h:ws[k]? = some w):Zl (ws.take (k+1))=if k=0 then w.text else Zl (ws.take k)++⟨#[32]⟩++w.text:=by
 rw [Z0n h]
 split
 ·rename_i h0
  subst h0
  rw [List.take_zero,List.nil_append,Z0G]
 ·rename_i h0
  have hne:ws.take k≠[]:=by
   intro h1
   have:=congrArg List.length h1
   have hk:=(List.getElem?_eq_some_iff.1 h).1
   rw [List.length_take,Nat.min_eq_left (by omega)] at this
   exact h0 this
  rw [Z1S hne,Z5Z (by simp),Z0G,ByteArray.append_assoc]
  rfl
theorem Zcv:∀ws:List Z7,(∀w∈ws,ZV w)→(Z2T ws).length≤5*ws.length:=by
 have h1:∀ws:List Z7,(∀w∈ws,ZV w)→(Z1h ws).length≤5*ws.length:=by
  intro ws
  induction ws with
  | nil=>intro _;simp [Z1h]
  | cons w ws ih=>
   intro h
   have h2:=ih (fun v hv=>h v (by simp [hv]))
   have h3:=(Z0J (h w (by simp))).2.1
   simp only [Z1h,List.length_append,List.length_cons,Z0F]
   omega
 intro ws h
 have:=h1 ws h
 rw [Z2T,List.length_drop]
 omega
theorem Zcc (b:Bool) (ws:List Z7):(Z3h b ws).length≤ws.length+2:=by
 cases b with
 | false=>exact Nat.le_add_right _ _
 | true=>show(sgW 40::ws++[sgW 41]).length≤_;simp
theorem Z2D {α : Type} {f:α→List Z7} {B:Nat}:∀(xs:List α) (i:Nat),(∀x∈xs,(f x).length≤B)→(Zr i (xs.map f)).length≤xs.length*(B+1)
 | [],i,_=>by simp [Zr]
 | x::xs,i,h=>by
  have h1:=Z2D xs (i+1) (fun y hy=>h y (by simp [hy]))
  have h2:=h x (by simp)
  rw [List.map_cons,Zr,List.length_append,List.length_append,List.length_cons,Nat.succ_mul]
  have h3:(if i=0 then ([]:List Z7) else [sgW 44]).length≤1:=by split<;>simp
  omega
theorem Z29:∀(d:Nat) (e:Z6) (need:Int),Z05 d e=true→(Z9 d e need).length≤8*4 ^ d
 | 0,e,_,h=>by cases h
 | d+1,.mk op n s ks,need,h=>by
  obtain⟨h1,h2⟩:=Z0Q h
  replace h1:Z0v Zk op n s ks.length=true:=h1
  replace h2:∀k∈ks,Z05 d k=true:=h2
  have hp:1≤4 ^ d:=Nat.one_le_pow _ _ (by omega)
  rw [Z0Z,Nat.pow_succ]
  refine Nat.le_trans (Zcc _ _) ?_
  have hk3:=Z2X h1
  rcases Z1M (ks:=ks) h1 with⟨rfl,_⟩|⟨rfl,_⟩|⟨rfl,_,_⟩|⟨h3,_,_,x,rfl⟩|⟨h3,_,_,x,y,rfl⟩
  ·rw [if_pos rfl];simp;omega
  ·rw [if_neg (by decide),if_pos rfl];simp;omega
  ·rw [if_neg (by decide),if_neg (by decide),if_pos rfl]
   have h4:=Z2D (f:=fun k=>Z9 d k 1) (B:=8*4 ^ d) ks 0 (fun x hx=>Z29 d x 1 (h2 x hx))
   have h5:ks.length*(8*4 ^ d+1)≤3*(8*4 ^ d+1):=Nat.mul_le_mul_right _ hk3
   simp only [List.length_append,List.length_cons,List.length_nil]
   omega
  ·rw [if_neg (by omega),if_neg (by omega),if_neg (by omega),if_pos h3]
   have h4:=Z29 d x 5 (h2 x (by simp))
   have h4:(Z9 d ([x].getD 0 default) 5).length≤8*4 ^ d:=h4
   rw [List.length_cons]
   omega
  ·rw [if_neg (by omega),if_neg (by omega),if_neg (by omega),if_neg (by omega)]
   have h4:(Z9 d ([x,y].getD 0 default) (lvl op)).length≤8*4 ^ d:=Z29 d x _ (h2 x (by simp))
   have h5:(Z9 d ([x,y].getD 1 default) (lvl op+1)).length≤8*4 ^ d:=Z29 d y _ (h2 y (by simp))
   rw [List.length_append,List.length_cons]
   omega
theorem Z2z {α : Type} {f:α→List Z7} {g:α→Nat} {B:Nat}:∀xs:List α,(∀x∈xs,(f x).length≤B*g x)→(xs.flatMap f).length≤B*ZY g xs
 | [],_=>by simp
 | x::xs,h=>by
  have h1:=Z2z xs (fun y hy=>h y (by simp [hy]))
  have h2:=h x (by simp)
  rw [List.flatMap_cons,List.length_append,ZY,Nat.mul_add]
  omega
theorem Z3L:∀(d:Nat) (s:Zb),ZH d s=true→(Zm d s).length≤70000*Z07 d s
 | 0,s,h=>by cases h
 | d+1,.mk op name args body els,h=>by
  obtain⟨h0,hb,he⟩:=ZR h
  replace hb:∀k∈body,ZH d k=true:=hb
  replace he:∀k∈els,ZH d k=true:=he
  obtain⟨h1,h2,ha,hn,hx,hel,hbo⟩:=Z0p h0
  have hc:Z07 (d+1) (.mk op name args body els)=1+ZY (Z07 d) body+ZY (Z07 d) els:=rfl
  have hB:=Z2z (f:=Zm d) (g:=Z07 d) (B:=70000) body (fun k hk=>Z3L d k (hb k hk))
  have hE:=Z2z (f:=Zm d) (g:=Z07 d) (B:=70000) els (fun k hk=>Z3L d k (he k hk))
  have hal:args.length≤2:=by
   split at ha
   ·obtain⟨x,y,rfl⟩:=ha;simp
   ·obtain⟨x,rfl⟩:=ha;simp
  have hA:=Z2D (f:=fun e=>Z9 6 e 1) (B:=32768) args 0 (fun x hm=>Z29 6 x 1 (hx x hm))
  have hA2:args.length*(32768+1)≤2*(32768+1):=Nat.mul_le_mul_right _ hal
  have hH:(Z1X op name).length≤3:=by
   unfold Z1X
   repeat' split
   all_goals simp
  rw [Z0z,hc]
  simp only [List.length_append]
  have hT:(if op=5∨op=6 then Zx (body.flatMap (Zm d))++(if els.length=0 then [] else kyW 5::Zx (els.flatMap (Zm d))) else [sgW 59]).length≤(body.flatMap (Zm d)).length+(els.flatMap (Zm d)).length+5:=by
   split
   ·split<;>simp [Zx]<;>omega
   ·simp
  omega
theorem ZcW {g:FnD} (h:fnB g=true):(Z0H g).length≤70000*(1+ZY (Z07 4) g.body):=by
 obtain⟨name,params,body⟩:=g
 simp only [fnB,Bool.and_eq_true,decide_eq_true_eq,List.all_eq_true] at h
 have hB:=Z2z (f:=Zm 4) (g:=Z07 4) (B:=70000) body (fun k hk=>Z3L 4 k (h.2 k hk))
 have hA:=Z2D (f:=fun s=>[nmW s]) (B:=1) params 0 (fun x _=>Nat.le_refl _)
 have hl:=h.1.1.2
 have he:(Z0H ⟨name,params,body⟩).length=(Zr 0 (params.map fun s=>[nmW s])).length+(body.flatMap (Zm 4)).length+6:=by
  simp [Z0H,Zx];omega
 rw [he]
 show _≤70000*(1+ZY (Z07 4) body)
 omega
theorem Z4y {p:List FnD} (h:Z0C p=true):(ZT p).length≤3080000:=by
 simp only [Z0C,Z3Z,Bool.and_eq_true,decide_eq_true_eq,List.all_eq_true] at h
 obtain⟨⟨⟨h1,h2⟩,h3⟩,h4⟩:=h
 have hB:=Z2z (f:=Z0H) (g:=fun g=>1+ZY (Z07 4) g.body) (B:=70000) p (fun k hk=>ZcW (h3 k hk))
 have hs:∀q:List FnD,ZY (fun g=>1+ZY (Z07 4) g.body) q=q.length+ZY (fun g=>ZY (Z07 4) g.body) q:=by
  intro q
  induction q with
  | nil=>rfl
  | cons g q ih=>rw [ZY,ZY,ih,List.length_cons];omega
 rw [hs] at hB
 have h4:ZY (fun g=>ZY (Z07 4) g.body) p≤40:=h4
 have hw:(ZT p).length=(p.flatMap Z0H).length:=rfl
 rw [hw]
 omega
theorem Z1k {ws:List Z7} (h:∀w∈ws,ZV w):(Zl ws).size≤5*ws.length:=by rw [Z65];exact Zcv ws h
theorem Z4o (op:Int) (w:World):Calls Tryz.prog 111 #[.int .i64 op] w fun e w'=>e=.returned (.int .i64 (ZL op))∧w'=w:=by
 by_cases h:3≤op∧op≤12
 ·have h10:op=3∨op=4∨op=5∨op=6∨op=7∨op=8∨op=9∨op=10∨op=11∨op=12:=by omega
  clear h
  rcases h10 with rfl|rfl|rfl|rfl|rfl|rfl|rfl|rfl|rfl|rfl
  all_goals
   go_enter Tryz.func111,Tryz.ntmps111
   go_wp2
   go_ret
   exact⟨rfl,rfl⟩
 ·have HL:=hdd (show ZL op=6 by
   rw [ZL,lvl]
   repeat' split
   all_goals omega)
  have o3:(op==3)=false:=beq_eq_false_iff_ne.2 (by omega)
  have o4:(op==4)=false:=beq_eq_false_iff_ne.2 (by omega)
  have o5:(op==5)=false:=beq_eq_false_iff_ne.2 (by omega)
  have o6:(op==6)=false:=beq_eq_false_iff_ne.2 (by omega)
  have o7:(op==7)=false:=beq_eq_false_iff_ne.2 (by omega)
  have o8:(op==8)=false:=beq_eq_false_iff_ne.2 (by omega)
  have o9:(op==9)=false:=beq_eq_false_iff_ne.2 (by omega)
  have o10:(op==10)=false:=beq_eq_false_iff_ne.2 (by omega)
  have o11:(op==11)=false:=beq_eq_false_iff_ne.2 (by omega)
  have o12:(op==12)=false:=beq_eq_false_iff_ne.2 (by omega)
  clear h
  go_enter Tryz.func111,Tryz.ntmps111
  go_wp2
  go_ret
  exact⟨by rw [HL.out];rfl,rfl⟩
theorem Z00 (op:Int) (h:3≤op∧op≤12) (w:World):Calls Tryz.prog 113 #[.int .i64 op] w fun e w'=>e=.returned (.string (sgB (opC op)))∧w'=w:=by
 have h10:op=3∨op=4∨op=5∨op=6∨op=7∨op=8∨op=9∨op=10∨op=11∨op=12:=by omega
 clear h
 rcases h10 with rfl|rfl|rfl|rfl|rfl|rfl|rfl|rfl|rfl|rfl
 all_goals
  go_enter Tryz.func113,Tryz.ntmps113
  go_wp2_with fail
  refine(Z0m (b:=true) (by decide) w).mono ?_
  rintro e w1 ⟨rfl,rfl⟩
  go_wp2
  go_ret
  exact⟨rfl,rfl⟩
def Z5o (n:Nat):ByteArray:=⟨#[UInt8.ofNat (48+n)]⟩
theorem Zaz {n:Nat} (h:n<10):Z1f n=Z5o n:=by rw [Z1f,Zbd,if_pos h];rfl
theorem Zcl {n:Nat} (h:10≤n) (h2:n<100):Z1f n=Z5o (n / 10)++Z5o (n % 10):=by rw [Z1f,Zbd,if_neg (by omega),if_pos h2];rfl
theorem ZaL {n:Nat} (h:100≤n):Z1f n=Z5o (n / 100)++(Z5o (n / 10 % 10)++Z5o (n % 10)):=by rw [Z1f,Zbd,if_neg (by omega),if_neg (by omega)];rfl
theorem Z61 (w:World) (c:Int) (m:Nat) (hm:m<10) (hc:c=48+(m:Int)):(convert 22 9 (Value.slice (some ⟨w.heap.size,0,none⟩) 1 1)).run Tryz.prog (w.alloc (.cells #[Value.int IntKind.u8 c] 5))=.ok (.string (Z5o m)) (w.alloc (.cells #[Value.int IntKind.u8 c] 5)):=by
 refine run_convert_bytes_back (P:=Tryz.prog) (w.alloc (.cells #[Value.int IntKind.u8 c] 5)) 22 9 5 ⟨w.heap.size,0,none⟩ 1 [UInt8.ofNat (48+m)] (by kernel_rfl) (by kernel_rfl) (by kernel_rfl) (fun j hj=>?_)
 have hj0:j=0:=by simpa using hj
 subst hj0
 show(w.alloc (.cells #[Value.int IntKind.u8 c] 5)).cell? ⟨w.heap.size,0,none⟩=_
 rw [coR _ _ 0 _ _ _ (hAn w (.cells #[Value.int IntKind.u8 c] 5)),hc]
 show some (Value.int IntKind.u8 (48+(m:Int)))=some (Value.int IntKind.u8 ((UInt8.ofNat (48+m)).toNat:Int))
 have:(UInt8.ofNat (48+m)).toNat=48+m:=by
  rw [UInt8.toNat_ofNat']
  omega
 rw [this]
 rfl
theorem Z86 (n:Nat) (h:n≤255) (w:World):Calls Tryz.prog 112 #[.int .i64 (n:Int)] w fun e w'=>e=.returned (.string (Z1f n))∧Below w.heap.size w w':=by
 have hn1:(-9223372036854775807:Int)≤(n:Int):=by omega
 have hn2:(0:Int)≤(n:Int):=by omega
 go_enter Tryz.func112,Tryz.ntmps112
 go_wp2_with fail
 clear hn1 hn2
 go_loopg [0,3] n (fun F i o wr=>∃(m:Nat) (s:ByteArray),F=m∧i=.int .i64 (m:Int)∧o=.string s∧Hid (((m=n∧s=⟨#[]⟩)∨(m=n / 10∧10≤n∧s=Z5o (n % 10))∨(m=n / 100∧100≤n∧s=Z5o (n / 10 % 10)++Z5o (n % 10)))∧Below w.heap.size w wr))
 case atStart=>exact⟨n,⟨#[]⟩,rfl,rfl,rfl,hdd ⟨.inl ⟨rfl,rfl⟩,bRf _ _⟩⟩
 case round=>
  obtain⟨m,s,rfl,rfl,rfl,HR⟩:=hrel
  by_cases h9:gk≤9
  ·have h9i:¬(9:Int)<(gk:Int):=by omega
   have hcv:=Z61 wr (48+(gk:Int)) gk (by omega) rfl
   have hsz:(Z5o gk).size+s.size≤9223372036854775807:=by
    have h1:(Z5o gk).size=1:=rfl
    rcases HR.out.1 with⟨_,rfl⟩|⟨_,_,rfl⟩|⟨_,_,rfl⟩
    ·rw [h1];decide
    ·rw [h1];show 1+1≤_;omega
    ·rw [h1,ByteArray.size_append];show 1+(1+1)≤_;omega
   have HE:=hdd (show Z5o gk++s=Z1f n∧Below w.heap.size w (wr.alloc (.cells #[Value.int IntKind.u8 (48+(gk:Int))] 5)) from⟨by
    rcases HR.out.1 with⟨h1,h2⟩|⟨h1,h3,h2⟩|⟨h1,h3,h2⟩
    ·rw [h2,← h1,Zaz (by omega)]
     exact ByteArray.append_empty
    ·rw [h2,h1,Zcl h3 (by omega)]
    ·rw [h2,h1,ZaL h3],HR.out.2.alloc HR.out.2.size _⟩)
   go_wp2
   go_ret
   exact⟨by rw [← HE.out.1];rfl,HE.out.2⟩
  ·have h9i:(9:Int)<(gk:Int):=by omega
   have hcv:=Z61 wr (48+(gk:Int) % 10) (gk % 10) (by omega) (by omega)
   have hsz:(Z5o (gk % 10)).size+s.size≤9223372036854775807:=by
    have h1:(Z5o (gk % 10)).size=1:=rfl
    rcases HR.out.1 with⟨_,rfl⟩|⟨_,_,rfl⟩|⟨_,_,rfl⟩
    ·rw [h1];decide
    ·rw [h1];show 1+1≤_;omega
    ·rw [h1,ByteArray.size_append];show 1+(1+1)≤_;omega
   have HN:=hdd (show((gk / 10=n∧Z5o (gk % 10)++s=⟨#[]⟩)∨(gk / 10=n / 10∧10≤n∧Z5o (gk % 10)++s=Z5o (n % 10))∨(gk / 10=n / 100∧100≤n∧Z5o (gk % 10)++s=Z5o (n / 10 % 10)++Z5o (n % 10)))∧Below w.heap.size w (wr.alloc (.cells #[Value.int IntKind.u8 (48+(gk:Int) % 10)] 5)) from⟨by
    rcases HR.out.1 with⟨h1,h2⟩|⟨h1,h3,h2⟩|⟨h1,h3,h2⟩
    ·rw [h2,h1]
     exact .inr (.inl ⟨rfl,by omega,ByteArray.append_empty⟩)
    ·rw [h2,h1]
     exact .inr (.inr ⟨by omega,by omega,rfl⟩)
    ·omega,HR.out.2.alloc HR.out.2.size _⟩)
   have hgn:gk≤255:=by rcases HR.out.1 with⟨h1,_⟩|⟨h1,_⟩|⟨h1,_⟩<;>omega
   go_wp2
   go_roundg (gk / 10)
   case measure=>omega
   case rel=>exact⟨gk / 10,_,rfl,by go_num,rfl,HN⟩
end Go.Proofs.YtloooebabieeeaaGreatDoor
