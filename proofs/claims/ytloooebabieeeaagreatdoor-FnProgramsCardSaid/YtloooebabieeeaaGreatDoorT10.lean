/-
  The reference's reader of expressions: what a word is, which op stands at a place, the number of a word.
-/
import Derived.Test.YtloooebabieeeaaGreatDoorCp
import Derived.Test.YtloooebabieeeaaGreatDoorT6
import Derived.Test.YtloooebabieeeaaGreatDoorGk
set_option maxRecDepth 100000
set_option maxHeartbeats 16000000
set_option linter.unusedVariables false
namespace Go.Proofs.YtloooebabieeeaaGreatDoor
open Go.RowKit
theorem Z9o (v:Z7) (s:ByteArray):Z1U v s=(v.text.toList==s.toList):=by
 rw [Z1U,ByteArray.toList_eq,ByteArray.toList_eq]
structure Z2s (w:World) (la:Option Addr) (ws:List Z7):Prop where
 list:Za 2 Z3p (fun _=>True) w la ws
 ok:∀v∈ws,ZV v
 short:ws.length≤4000000
theorem Z2s.later {w w':World} {la:Option Addr} {ws:List Z7} (h:Z2s w la ws) (hb:Below w.heap.size w w'):Z2s w' la ws:=⟨h.list.below ZC hb,h.ok,h.short⟩
theorem Zcu {ws:List Z7} {k:Nat} {v:Z7} (h:ws[k]? = some v):ws.drop k=v::ws.drop (k+1):=by
 obtain⟨hk,rfl⟩:=List.getElem?_eq_some_iff.1 h
 exact List.drop_eq_getElem_cons hk
theorem Z8H (la:Option Addr) (lc:Nat) (ws:List Z7) (at_:Nat) (s:ByteArray) (w:World) (hW:Z2s w la ws) :
  Calls Tryz.prog 88 #[.slice la ws.length lc,.int .i64 (at_:Int),.string s] w fun e w'=>e=.returned (.bool (Zp (ws.drop at_) s))∧w'=w:=by
 obtain⟨R,hR⟩:∃R,R=Zp (ws.drop at_) s:=⟨_,rfl⟩
 rw [← hR]
 by_cases hlt:at_<ws.length
 ·obtain⟨b,off,v,rfl,hv,c0,c1⟩:=Z1w hW.list hlt
  have hji:(at_:Int)<(ws.length:Int):=by omega
  have HE:=hdd (show(v.text.toList==s.toList)=R by rw [hR,Zcu hv,Z2y,Z9o])
  clear hR hv hW
  go_enter Tryz.func88,Tryz.ntmps88
  go_wp2
  go_ret
  exact⟨congrArg (fun b=>Ending.returned (Value.bool b)) HE.out,rfl⟩
 ·have hji:¬(at_:Int)<(ws.length:Int):=by omega
  have HE:=hdd (show R=false by rw [hR,List.drop_of_length_le (by omega)];rfl)
  clear hR hW
  go_enter Tryz.func88,Tryz.ntmps88
  go_wp2
  go_ret
  exact⟨by rw [HE.out];rfl,rfl⟩
theorem Z0l {la:Option Addr} {lc:Nat} {ws:List Z7} {at_:Nat} {s:ByteArray} {w:World} (hW:Z2s w la ws) {b:Bool} (h:Zp (ws.drop at_) s=b) :
  Calls Tryz.prog 88 #[.slice la ws.length lc,.int .i64 (at_:Int),.string s] w fun e w'=>e=.returned (.bool b)∧w'=w:=by rw [← h];exact Z8H la lc ws at_ s w hW
def ZaP:List Int:=[3,4,5,6,7,8,9,10]
def Z2G (n:Nat) (r:List Z7) (op:Int):Bool:=lvl op==(n:Int)&&Zp r (sgB (opC op))
theorem Z9f {n:Nat} {r:List Z7} {j:Nat} (hj:j<8) (h0:∀i:Nat,i<j→Z2G n r (3+(i:Int))=false) (h1:Z2G n r (3+(j:Int))=true):Z1s n r=3+(j:Int):=by
 have h:∀k:Nat,k<8→ZaP[k]? = some (3+(k:Int)):=by
  intro k hk
  have:∀q:Fin 8,ZaP[q.val]? = some (3+(q.val:Int)):=by decide
  exact this ⟨k,hk⟩
 have hf:ZaP.find? (Z2G n r)=some (3+(j:Int)):=by
  rw [List.find?_eq_some_iff_getElem]
  have hlt:j<ZaP.length:=hj
  refine⟨h1,j,hlt,?_,fun i hi=>?_⟩
  ·have:=h j hj
   rw [List.getElem?_eq_getElem hlt] at this
   exact Option.some.inj this
  ·have hi8:i<ZaP.length:=by omega
   have:=h i (by omega)
   rw [List.getElem?_eq_getElem hi8] at this
   rw [Option.some.inj this,h0 i hi]
   rfl
 have:Z1s n r=(ZaP.find? (Z2G n r)).getD 0:=rfl
 rw [this,hf];rfl
theorem Zay {n:Nat} {r:List Z7} (h0:∀i:Nat,i<8→Z2G n r (3+(i:Int))=false):Z1s n r=0:=by
 have hf:ZaP.find? (Z2G n r)=none:=by
  rw [List.find?_eq_none]
  intro op hop
  obtain⟨i,hi⟩:=List.getElem?_of_mem hop
  have hlt:=(List.getElem?_eq_some_iff.1 hi).1
  have hlt:i<8:=hlt
  have:∀q:Fin 8,ZaP[q.val]? = some (3+(q.val:Int)):=by decide
  have h2:ZaP[i]? = some (3+(i:Int)):=this ⟨i,hlt⟩
  rw [hi] at h2
  rw [Option.some.inj h2,h0 i hlt]
  decide
 have:Z1s n r=(ZaP.find? (Z2G n r)).getD 0:=rfl
 rw [this,hf];rfl
theorem Zcn {op:Int} (h3:3≤op∧op≤10):∃L:Nat,1≤L∧L≤4∧lvl op=(L:Int):=by
 have h:op=3∨op=4∨op=5∨op=6∨op=7∨op=8∨op=9∨op=10:=by omega
 rcases h with rfl|rfl|rfl|rfl|rfl|rfl|rfl|rfl
 ·exact⟨3,by omega,by omega,rfl⟩
 ·exact⟨3,by omega,by omega,rfl⟩
 ·exact⟨4,by omega,by omega,rfl⟩
 ·exact⟨4,by omega,by omega,rfl⟩
 ·exact⟨4,by omega,by omega,rfl⟩
 ·exact⟨2,by omega,by omega,rfl⟩
 ·exact⟨2,by omega,by omega,rfl⟩
 ·exact⟨1,by omega,by omega,rfl⟩
theorem Za7 {op:Int} (h:3≤op∧op≤10):ZL op=lvl op:=by
 obtain⟨L,h1,_,h2⟩:=Zcn h
 rw [ZL,if_pos (by omega)]
theorem ZbL (la:Option Addr) (lc:Nat) (ws:List Z7) (at_ n:Nat) (w:World) (hW:Z2s w la ws) :
  Calls Tryz.prog 139 #[.slice la ws.length lc,.int .i64 (at_:Int),.int .i64 (n:Int)] w fun e w'=>e=.returned (.int .i64 (Z1s n (ws.drop at_)))∧w'=w:=by
 obtain⟨R,hR⟩:∃R,R=Z1s n (ws.drop at_):=⟨_,rfl⟩
 rw [← hR]
 have HR:=hdd hR
 have HW:=hdd hW
 clear hR hW
 go_enter Tryz.func139,Tryz.ntmps139
 go_wp2_with fail
 go_loopg [7] 8 (fun G i wr=>∃j:Nat,j+G=8∧i=.int .i64 (3+(j:Int))∧Hid (∀k:Nat,k<j→Z2G n (ws.drop at_) (3+(k:Int))=false)∧wr=w)
 case atStart=>exact⟨0,by omega,by go_num,hdd (fun k hk=>by omega),rfl⟩
 case round=>
  obtain⟨j,hj,rfl,HJ,rfl⟩:=hrel
  by_cases hlt:j<8
  ·have hle:(3:Int)+(j:Int)≤10:=by omega
   have hL:=Z4o (3+(j:Int)) wr
   rw [Za7 (by omega)] at hL
   have HLV:=hdd hL
   have HSG:=hdd (Z00 (3+(j:Int)) (by omega) wr)
   have HIS:=hdd (Z8H la lc ws at_ (sgB (opC (3+(j:Int)))) wr HW.out)
   have HT:=hdd (show Z2G n (ws.drop at_) (3+(j:Int))=(lvl (3+(j:Int))==(n:Int)&&Zp (ws.drop at_) (sgB (opC (3+(j:Int))))) from rfl)
   have HNX:=hdd (show Z2G n (ws.drop at_) (3+(j:Int))=false→∀k:Nat,k<j+1→Z2G n (ws.drop at_) (3+(k:Int))=false from fun h k hk=>by
    by_cases hkj:k=j
    ·subst hkj;exact h
    ·exact HJ.out k (by omega))
   have HYS:=hdd (show Z2G n (ws.drop at_) (3+(j:Int))=true→R=3+(j:Int) from fun h=>by rw [HR.out];exact Z9f hlt HJ.out h)
   clear hL
   generalize Z2G n (ws.drop at_) (3+(j:Int))=t at HT HNX HYS
   generalize lvl (3+(j:Int))=L at HLV HT
   generalize sgB (opC (3+(j:Int)))=sg at HSG HIS HT
   generalize Zp (ws.drop at_) sg=hb at HIS HT
   go_wp2_with fail
   refine HLV.out.mono ?_
   rintro e w1 ⟨rfl,rfl⟩
   cases hL:L==(n:Int) with
   | false=>
    have HN:=hdd (HNX.out (by rw [HT.out,hL];rfl))
    go_wp2
    go_roundg (gk-1)
    case measure=>omega
    case rel=>exact⟨j+1,by omega,by go_num,HN,rfl⟩
   | true=>
    go_wp2_with fail
    refine HSG.out.mono ?_
    rintro e w2 ⟨rfl,rfl⟩
    go_wp2_with fail
    refine HIS.out.mono ?_
    cases hb with
    | true=>
     rintro e w3 ⟨rfl,rfl⟩
     have HY:=hdd (HYS.out (by rw [HT.out,hL];rfl))
     go_wp2
     go_ret
     exact⟨by rw [HY.out];rfl,rfl⟩
    | false=>
     rintro e w3 ⟨rfl,rfl⟩
     have HN:=hdd (HNX.out (by rw [HT.out,hL];rfl))
     go_wp2
     go_roundg (gk-1)
     case measure=>omega
     case rel=>exact⟨j+1,by omega,by go_num,HN,rfl⟩
  ·obtain rfl:j=8:=by omega
   have HN:=hdd (show R=0 by rw [HR.out];exact Zay HJ.out)
   go_wp2
   go_ret
   exact⟨by rw [HN.out];rfl,rfl⟩
theorem ZcP {v:Z7} (h:ZV v) (hk:v.kind=2):∃n,n≤255∧v=nbW n:=by
 cases h with
 | name s h=>exact absurd hk (by show ¬(1:Int)=2;decide)
 | num n h=>exact⟨n,h,rfl⟩
 | sign c h=>exact absurd hk (by show ¬(3:Int)=2;decide)
 | key i h=>exact absurd hk (by show ¬(4:Int)=2;decide)
theorem Z6t {v:Z7} (hv:ZV v) (hk:v.kind=2) (w:World):Calls Tryz.prog 150 #[.agg (List.toArray [.int .i64 v.kind,.string v.text])] w fun e w'=>e=.returned (.int .i64 (ZaS v.text))∧Below w.heap.size w w':=by
 obtain⟨n,hn,rfl⟩:=ZcP hv hk
 have hb0:Below w.heap.size w (w.alloc (.cells #[.int .i64 2,.string (Z1f n)] 55)):=(bRf _ _).alloc (Nat.le_refl _) _
 have hrow:=hAn w (.cells #[.int .i64 2,.string (Z1f n)] 55)
 have p0:=coR _ _ 0 _ _ _ hrow
 have p1:=coR _ _ 1 _ _ _ hrow
 simp only [ga0,ga1,ga2] at p0 p1
 have HB:=hdd hb0
 have HV:=hdd (fun W=>Z2r hv W)
 have HN:=hdd (fun W=>Z55 n hn W)
 have HD:=hdd (Z8Y n hn)
 clear hb0 hrow hv hk
 show Calls _ _ #[.agg #[.int .i64 2,.string (Z1f n)]] w fun e w'=>e=.returned (.int .i64 (ZaS (Z1f n)))∧_
 simp only [nbW] at HV
 rw [HD.out]
 generalize Z1f n=s at p0 p1 HB HV HN ⊢
 go_enter Tryz.func150,Tryz.ntmps150
 go_upto_region 1 with fail
 generalize w.alloc (.cells #[.int .i64 2,.string s] 55)=W1 at HB p0 p1 ⊢
 obtain⟨rb,hrb⟩:∃n,n=w.heap.size:=⟨_,rfl⟩
 rw [← hrb] at p0 p1 ⊢
 clear hrb
 go_wp2_with fail
 refine(HV.out W1).mono ?_
 rintro e w2 ⟨rfl,hb2⟩
 have q1:=clT hb2 p1
 have HB2:=hdd (HB.out.trans (hb2.mono HB.out.size))
 clear hb2 p0 p1
 go_wp2_with fail
 refine(HN.out w2).mono ?_
 rintro e w3 ⟨rfl,rfl⟩
 go_wp2
 go_ret
 exact⟨rfl,HB2.out⟩
theorem Z09 {P:Program} {fn:Func} {p u:Tmp} {ty:TypeId} (h:fn.results=#[.cell p ty,.tmp u]) (tmps:Array Value) (w:World) (g:Nat) (t:TypeId) (cs:Array Value) (fr:Nat×Nat) (d:TypeDesc)
  (hp:tmps.getD p undef=.pointer (some ⟨g,0,none⟩)) (hg:w.heap[g]? = some (.cells cs t fr))
  (hu:P.underlying ty=some d) (hd:(match d with|.struct _|.array _ _=>true|_=>false)=true) (hi:(P.info? ty).map (·.size)=some cs.size) :
  (results fn tmps).run P w=.ok (.tuple #[.agg cs,tmps.getD u undef]) w:=by
 have hp':tmps[p]?.getD undef=.pointer (some ⟨g,0,none⟩):=by simpa using hp
 simp only [results,h]
 simp [hp',asAddr,run_loadVar_row w g t ty cs fr d hg hu hd hi]
def Zcf (w:World) (ws:List Z7) (at_:Nat) (x:Z6) (rest:List Z7) (e:Ending) (w':World):Prop:=
 ∃(cs:List Value) (d at':Nat),e=.returned (.tuple #[.agg cs.toArray,.int .i64 (at':Int)])∧ZJ d (fun k=>w.heap.size≤k) w' cs x∧at_<at'∧at'≤ws.length∧ws.drop at'=rest∧Below w.heap.size w w'
def ZcU (w:World) (ws:List Z7) (at_:Nat) (ks:List Z6) (rest:List Z7) (e:Ending) (w':World):Prop:=
 ∃(a:Option Addr) (c d at':Nat),e=.returned (.tuple #[.slice a ks.length c,.int .i64 (at':Int)])∧Z5u (ZJ d (fun k=>w.heap.size≤k)) (fun k=>w.heap.size≤k) w' a ks∧ks.length≤maxLen∧at_<at'∧at'≤ws.length∧ws.drop at'=rest∧Below w.heap.size w w'
def Z9x (f:Nat):Prop:=∀(la:Option Addr) (lc:Nat) (ws:List Z7) (at_ n:Nat) (x:Z6) (rest:List Z7) (w:World),n≤5→at_≤ws.length→Z2s w la ws→rdE f n (ws.drop at_)=some (x,rest)→
 Calls Tryz.prog 124 #[.slice la ws.length lc,.int .i64 (at_:Int),.int .i64 (n:Int)] w (Zcf w ws at_ x rest)
def Z8R (f:Nat):Prop:=∀(la:Option Addr) (lc:Nat) (ws:List Z7) (at_:Nat) (x:Z6) (rest:List Z7) (w:World),at_≤ws.length→Z2s w la ws→rdT f (ws.drop at_)=some (x,rest)→
 Calls Tryz.prog 138 #[.slice la ws.length lc,.int .i64 (at_:Int)] w (Zcf w ws at_ x rest)
def Zca (f:Nat):Prop:=∀(la:Option Addr) (lc:Nat) (ws:List Z7) (at_:Nat) (ks:List Z6) (rest:List Z7) (w:World),at_≤ws.length→Z2s w la ws→rdK f (ws.drop at_)=some (ks,rest)→
 Calls Tryz.prog 151 #[.slice la ws.length lc,.int .i64 (at_:Int)] w (ZcU w ws at_ ks rest)
theorem Zcz {w W:World} {rb d:Nat} {v0 v1 v2 v3 z0 z1 z2 z3:Value} {x:Z6} (hrb:rb=w.heap.size) (hr:W.heap[rb]? = some (.cells #[z0,z1,z2,z3] 64 (0,0))) (hb:Below w.heap.size w W)
  (hx:ZJ d (fun k=>w.heap.size<k) W [v0,v1,v2,v3] x) :
  ((((W.setCell ⟨rb,0,none⟩ v0).setCell ⟨rb,1,none⟩ v1).setCell ⟨rb,2,none⟩ v2).setCell ⟨rb,3,none⟩ v3).heap[rb]? = some (.cells (List.toArray [v0,v1,v2,v3]) 64 (0,0))∧
   ZJ d (fun k=>w.heap.size≤k) ((((W.setCell ⟨rb,0,none⟩ v0).setCell ⟨rb,1,none⟩ v1).setCell ⟨rb,2,none⟩ v2).setCell ⟨rb,3,none⟩ v3) [v0,v1,v2,v3] x∧
   Below w.heap.size w ((((W.setCell ⟨rb,0,none⟩ v0).setCell ⟨rb,1,none⟩ v1).setCell ⟨rb,2,none⟩ v2).setCell ⟨rb,3,none⟩ v3):=by
 have h1:=Z4 W rb 0 v0
 have h2:=Z4 (W.setCell ⟨rb,0,none⟩ v0) rb 1 v1
 have h3:=Z4 ((W.setCell ⟨rb,0,none⟩ v0).setCell ⟨rb,1,none⟩ v1) rb 2 v2
 have h4:=Z4 (((W.setCell ⟨rb,0,none⟩ v0).setCell ⟨rb,1,none⟩ v1).setCell ⟨rb,2,none⟩ v2) rb 3 v3
 have ht:=((h1.trans h2).trans h3).trans h4
 refine⟨?_,?_,?_⟩
 ·exact(hSs _ rb 3 _ _ _ ((hSs _ rb 2 _ _ _ ((hSs _ rb 1 _ _ _ ((hSs W rb 0 _ _ _ hr).trans rfl)).trans rfl)).trans rfl)).trans rfl
 ·exact Zh (fun k _ h=>Nat.le_of_lt h) (ZA ht (fun k _ h1 h2=>by have h1:w.heap.size<k:=h1;have h2:k=rb:=h2;omega) hx)
 ·exact hb.trans (ht.below (B:=w.heap.size) hb.size (fun k hk=>by have hk:k=rb:=hk;omega))
theorem Z8M {R:World→List Value→Z6→Prop} {S:Nat→Prop} {w:World} {b:Nat} {cells:List (List Value)} {xs:List Z6} (hb:w.heap[b]? = some (.cells cells.flatten.toArray 64 (0,0))) (hS:S b) (hl:xs.length=cells.length) (hc:∀c∈cells,c.length=4)
  (hx:∀(i:Nat) cl x,cells[i]? = some cl→xs[i]? = some x→R w cl x):Z5u R S w (some ⟨b,0,none⟩) xs:=by
 refine⟨⟨rfl,cells,.inr ⟨b,0,rfl,fun i v hv=>?_⟩,hl.symm,hc,hx⟩,fun _=>⟨b,0,rfl,hS,(gsI hb).1⟩⟩
 rw [coR _ _ (0+i) _ _ _ hb]
 simpa using hv
theorem Zbz {d:Nat} {S:Nat→Prop} {w:World} {c1:List Value} {x1:Z6} {op:Int} (hS:S w.heap.size) (hop:1≤op∧op≤13) (h1:ZJ d S w c1 x1) :
  ZJ (d+1) S (w.alloc (.cells c1.toArray 64)) [.int .i64 op,.int .i64 0,.string ⟨#[]⟩,.slice (some ⟨w.heap.size,0,none⟩) 1 1] (.mk op 0 ⟨#[]⟩ [x1]):=
 ⟨_,1,rfl,⟨by show 1≤maxLen;decide,by show -9223372036854775808≤op∧op≤9223372036854775807;omega⟩,Z8M (cells:=[c1]) (xs:=[x1]) (by rw [show [c1].flatten=c1 by simp];exact hAn w _) hS rfl (by intro c hc;simp at hc;subst hc;exact Z0L h1) (fun i cl x g1 g2=>by
  match i with
  | 0=>cases g1;cases g2;exact Zz ((bRf _ _).alloc (Nat.le_refl _) _) h1
  | i+1=>cases g1)⟩
theorem ZbC {d:Nat} {S:Nat→Prop} {w:World} {c1 c2:List Value} {x1 x2:Z6} {op:Int} (hS:S w.heap.size) (hop:1≤op∧op≤13) (h1:ZJ d S w c1 x1) (h2:ZJ d S w c2 x2) :
  ZJ (d+1) S (w.alloc (.cells (c1++c2).toArray 64)) [.int .i64 op,.int .i64 0,.string ⟨#[]⟩,.slice (some ⟨w.heap.size,0,none⟩) 2 2] (.mk op 0 ⟨#[]⟩ [x1,x2]):=
 ⟨_,2,rfl,⟨by show 2≤maxLen;decide,by show -9223372036854775808≤op∧op≤9223372036854775807;omega⟩,Z8M (cells:=[c1,c2]) (xs:=[x1,x2]) (by rw [show [c1,c2].flatten=c1++c2 by simp];exact hAn w _) hS rfl (by intro c hc;simp at hc;rcases hc with rfl|rfl<;>first|exact Z0L h1|exact Z0L h2) (fun i cl x g1 g2=>by
  match i with
  | 0=>cases g1;cases g2;exact Zz ((bRf _ _).alloc (Nat.le_refl _) _) h1
  | 1=>cases g1;cases g2;exact Zz ((bRf _ _).alloc (Nat.le_refl _) _) h2
  | i+2=>cases g1)⟩
theorem Zb7 (f:Nat) (ws:List Z7):rdT (f+1) ws =
  if Zp ws (sgB 33) then (rdT f ws.tail).bind fun r=>some (.mk 11 0 ⟨#[]⟩ [r.1],r.2)
  else if Zp ws (sgB 64) then (rdT f ws.tail).bind fun r=>some (.mk 12 0 ⟨#[]⟩ [r.1],r.2)
  else if Zp ws (sgB 40) then (rdE f 1 ws.tail).bind fun r=>if Zp r.2 (sgB 41) then some (r.1,r.2.tail) else none
  else match ws with
   | []=>none
   | w::r=>
    if w.kind=2 then some (.mk 1 (ZaS w.text) ⟨#[]⟩ [],r)
    else if w.kind=1 then (if Zp r (sgB 40) then (rdK f r.tail).bind fun q=>some (.mk 13 0 w.text q.1,q.2) else some (.mk 2 0 w.text [],r))
    else none:=by
 cases ws with
 | nil=>rw [rdT]
 | cons w r=>rw [rdT]
theorem Z9U {f:Nat} {ws:List Z7} {x:Z6} {rest:List Z7} (h:rdT (f+1) ws=some (x,rest)) :
  (Zp ws (sgB 33)=true∧∃y,rdT f ws.tail=some (y,rest)∧x=.mk 11 0 ⟨#[]⟩ [y])∨
  (Zp ws (sgB 33)=false∧Zp ws (sgB 64)=true∧∃y,rdT f ws.tail=some (y,rest)∧x=.mk 12 0 ⟨#[]⟩ [y])∨
  (Zp ws (sgB 33)=false∧Zp ws (sgB 64)=false∧Zp ws (sgB 40)=true∧∃r,rdE f 1 ws.tail=some (x,r)∧Zp r (sgB 41)=true∧rest=r.tail)∨
  (Zp ws (sgB 33)=false∧Zp ws (sgB 64)=false∧Zp ws (sgB 40)=false∧∃v,ws=v::ws.tail∧
   ((v.kind=2∧x=.mk 1 (ZaS v.text) ⟨#[]⟩ []∧rest=ws.tail)∨(v.kind=1∧Zp ws.tail (sgB 40)=true∧∃ks,rdK f ws.tail.tail=some (ks,rest)∧x=.mk 13 0 v.text ks)∨
    (v.kind=1∧Zp ws.tail (sgB 40)=false∧x=.mk 2 0 v.text []∧rest=ws.tail))):=by
 rw [Zb7] at h
 cases h33:Zp ws (sgB 33) with
 | true=>
  rw [h33,if_pos rfl] at h
  cases hr:rdT f ws.tail with
  | none=>rw [hr] at h;cases h
  | some r=>
   rw [hr] at h
   obtain⟨y,q⟩:=r
   cases h
   exact .inl ⟨rfl,y,rfl,rfl⟩
 | false=>
 rw [h33,if_neg (by decide)] at h
 cases h64:Zp ws (sgB 64) with
 | true=>
  rw [h64,if_pos rfl] at h
  cases hr:rdT f ws.tail with
  | none=>rw [hr] at h;cases h
  | some r=>
   rw [hr] at h
   obtain⟨y,q⟩:=r
   cases h
   exact .inr (.inl ⟨rfl,rfl,y,rfl,rfl⟩)
 | false=>
 rw [h64,if_neg (by decide)] at h
 cases h40:Zp ws (sgB 40) with
 | true=>
  rw [h40,if_pos rfl] at h
  cases hr:rdE f 1 ws.tail with
  | none=>rw [hr] at h;cases h
  | some r=>
   rw [hr] at h
   obtain⟨y,q⟩:=r
   rw [Option.bind_some] at h
   dsimp only at h
   cases h41:Zp q (sgB 41) with
   | true=>rw [h41,if_pos rfl] at h;cases h;exact .inr (.inr (.inl ⟨rfl,rfl,rfl,q,rfl,h41,rfl⟩))
   | false=>rw [h41,if_neg (by decide)] at h;cases h
 | false=>
 rw [h40,if_neg (by decide)] at h
 refine .inr (.inr (.inr ⟨rfl,rfl,rfl,?_⟩))
 cases ws with
 | nil=>cases h
 | cons v r=>
  refine⟨v,rfl,?_⟩
  dsimp only at h
  by_cases h2:v.kind=2
  ·rw [if_pos h2] at h;cases h;exact .inl ⟨h2,rfl,rfl⟩
  rw [if_neg h2] at h
  by_cases h1:v.kind=1
  ·rw [if_pos h1] at h
   cases hp:Zp r (sgB 40) with
   | true=>
    rw [hp,if_pos rfl] at h
    cases hr:rdK f r.tail with
    | none=>rw [hr] at h;cases h
    | some q=>
     rw [hr] at h
     obtain⟨ks,q⟩:=q
     cases h
     exact .inr (.inl ⟨h1,hp,ks,hr,rfl⟩)
   | false=>
    rw [hp,if_neg (by decide)] at h
    cases h
    exact .inr (.inr ⟨h1,hp,rfl,rfl⟩)
  ·rw [if_neg h1] at h;cases h
theorem Z2O {ws:List Z7} {k:Nat} {s:ByteArray} (h:Zp (ws.drop k) s=true):k<ws.length:=by
 rcases Nat.lt_or_ge k ws.length with h1|h1
 ·exact h1
 ·rw [List.drop_of_length_le h1] at h;cases h
theorem Z5F (W:World) (rb:Nat) (v0 v1 v2 v3:Value) {z0 z1 z2 z3:Value} (hr:W.heap[rb]? = some (.cells #[z0,z1,z2,z3] 64 (0,0))) :
  ((((W.setCell ⟨rb,0,none⟩ v0).setCell ⟨rb,1,none⟩ v1).setCell ⟨rb,2,none⟩ v2).setCell ⟨rb,3,none⟩ v3).heap.size=W.heap.size∧
  ((((W.setCell ⟨rb,0,none⟩ v0).setCell ⟨rb,1,none⟩ v1).setCell ⟨rb,2,none⟩ v2).setCell ⟨rb,3,none⟩ v3).heap[rb]? = some (.cells (List.toArray [v0,v1,v2,v3]) 64 (0,0))∧
  Ze (fun k=>k=rb) W ((((W.setCell ⟨rb,0,none⟩ v0).setCell ⟨rb,1,none⟩ v1).setCell ⟨rb,2,none⟩ v2).setCell ⟨rb,3,none⟩ v3):=by
 have h1:=Z4 W rb 0 v0
 have h2:=Z4 (W.setCell ⟨rb,0,none⟩ v0) rb 1 v1
 have h3:=Z4 ((W.setCell ⟨rb,0,none⟩ v0).setCell ⟨rb,1,none⟩ v1) rb 2 v2
 have h4:=Z4 (((W.setCell ⟨rb,0,none⟩ v0).setCell ⟨rb,1,none⟩ v1).setCell ⟨rb,2,none⟩ v2) rb 3 v3
 refine⟨by simp only [World.size_setCell],?_,((h1.trans h2).trans h3).trans h4⟩
 exact(hSs _ rb 3 _ _ _ ((hSs _ rb 2 _ _ _ ((hSs _ rb 1 _ _ _ ((hSs W rb 0 _ _ _ hr).trans rfl)).trans rfl)).trans rfl)).trans rfl
theorem ZbX {w w5:World} {rb d:Nat} {op:Int} {c1:List Value} {z0 z1 z2 z3:Value} {y:Z6} (hop:1≤op∧op≤13) (hrb:rb=w.heap.size) (hr:w5.heap[rb]? = some (.cells #[z0,z1,z2,z3] 64 (0,0))) (hb:Below w.heap.size w w5) (hs:rb<w5.heap.size)
  (hx:ZJ d (fun k=>w.heap.size<k) w5 c1 y) :
  ((((((w5.setCell ⟨rb,0,none⟩ (.int .i64 op)).setCell ⟨rb,1,none⟩ (.int .i64 0)).setCell ⟨rb,2,none⟩ (.string ⟨#[]⟩)).setCell ⟨rb,3,none⟩ (.slice (some ⟨w5.heap.size+1,0,none⟩) 1 1)).alloc (.cells c1.toArray 64)).alloc (.cells c1.toArray 64)).heap[rb]? = some (.cells (List.toArray [.int .i64 op,.int .i64 0,.string ⟨#[]⟩,.slice (some ⟨w5.heap.size+1,0,none⟩) 1 1]) 64 (0,0))∧
  ZJ (d+1) (fun k=>w.heap.size≤k) ((((((w5.setCell ⟨rb,0,none⟩ (.int .i64 op)).setCell ⟨rb,1,none⟩ (.int .i64 0)).setCell ⟨rb,2,none⟩ (.string ⟨#[]⟩)).setCell ⟨rb,3,none⟩ (.slice (some ⟨w5.heap.size+1,0,none⟩) 1 1)).alloc (.cells c1.toArray 64)).alloc (.cells c1.toArray 64)) [.int .i64 op,.int .i64 0,.string ⟨#[]⟩,.slice (some ⟨w5.heap.size+1,0,none⟩) 1 1] (.mk op 0 ⟨#[]⟩ [y])∧
  Below w.heap.size w ((((((w5.setCell ⟨rb,0,none⟩ (.int .i64 op)).setCell ⟨rb,1,none⟩ (.int .i64 0)).setCell ⟨rb,2,none⟩ (.string ⟨#[]⟩)).setCell ⟨rb,3,none⟩ (.slice (some ⟨w5.heap.size+1,0,none⟩) 1 1)).alloc (.cells c1.toArray 64)).alloc (.cells c1.toArray 64)):=by
 have hc:=Z5F w5 rb (.int .i64 op) (.int .i64 0) (.string ⟨#[]⟩) (.slice (some ⟨w5.heap.size+1,0,none⟩) 1 1) hr
 generalize (((w5.setCell ⟨rb,0,none⟩ (.int .i64 op)).setCell ⟨rb,1,none⟩ (.int .i64 0)).setCell ⟨rb,2,none⟩ (.string ⟨#[]⟩)).setCell ⟨rb,3,none⟩ (.slice (some ⟨w5.heap.size+1,0,none⟩) 1 1)=wc at hc ⊢
 obtain⟨h1,h2,h3⟩:=hc
 have hy:=ZA h3 (fun k _ h1 h2=>by have h1:w.heap.size<k:=h1;have h2:k=rb:=h2;omega) hx
 have ha1:Below wc.heap.size wc (wc.alloc (.cells c1.toArray 64)):=(bRf _ _).alloc (Nat.le_refl _) _
 have hs1:(wc.alloc (.cells c1.toArray 64)).heap.size=w5.heap.size+1:=by rw [World.size_alloc,h1]
 have hm:=Zbz (w:=wc.alloc (.cells c1.toArray 64)) (S:=fun k=>w.heap.size<k) (op:=op) (by rw [hs1];omega) hop (Zz ha1 hy)
 rw [hs1] at hm
 have ha2:Below wc.heap.size wc ((wc.alloc (.cells c1.toArray 64)).alloc (.cells c1.toArray 64)):=ha1.alloc ha1.size _
 have hbc:Below w.heap.size w wc:=hb.trans (h3.below (B:=w.heap.size) hb.size (fun k hk=>by have hk:k=rb:=hk;omega))
 exact⟨(ha2.block rb (by omega)).trans h2,Zh (fun k _ h=>Nat.le_of_lt h) hm,hbc.trans (ha2.mono hbc.size)⟩
theorem Z7q (f:Nat) (hT:Z8R f) (hR:Z9x f) (hL:Zca f):Z8R (f+1):=by
 intro la lc ws at_ x rest w hat hW hr
 have hwl:ws.length≤4000000:=hW.short
 have hba:Below w.heap.size w (w.alloc (.cells #[.int .i64 0,.int .i64 0,.string ⟨#[]⟩,.slice none 0 0] 64)):=(bRf _ _).alloc (Nat.le_refl _) _
 have HW:=hdd (hW.later hba)
 have HB:=hdd (aI hba (hAn w (.cells #[.int .i64 0,.int .i64 0,.string ⟨#[]⟩,.slice none 0 0] 64)))
 have HT:=hdd hT
 have HR:=hdd hR
 have HL:=hdd hL
 have hcase:=Z9U hr
 have hdt:(ws.drop at_).tail=ws.drop (at_+1):=List.tail_drop
 have HSZ:=hdd (World.size_alloc w (.cells #[.int .i64 0,.int .i64 0,.string ⟨#[]⟩,.slice none 0 0] 64))
 rw [hdt] at hcase
 clear hba hT hR hL hW hr
 rcases hcase with⟨h33,y,hy,rfl⟩|⟨h33,h64,y,hy,rfl⟩|⟨h33,h64,h40,r,hy,h41,rfl⟩|⟨h33,h64,h40,v,hv,hk⟩
 ·have HB33:=hdd h33
  have hlt:=Z2O h33
  have HY:=hdd hy
  clear h33 hy
  go_enter Tryz.func138,Tryz.ntmps138
  go_upto_region 1 with fail
  obtain⟨rb,hrb⟩:∃n,n=w.heap.size:=⟨_,rfl⟩
  generalize w.alloc (.cells #[.int .i64 0,.int .i64 0,.string ⟨#[]⟩,.slice none 0 0] 64)=W1 at HW HB HSZ ⊢
  have HRB:=hdd hrb
  have HB0:=hdd HB.out.1
  rw [← hrb] at HB HSZ ⊢
  clear hrb
  go_wp2_with fail
  go_loopg [6] 3 (fun G i wr=>∃j:Nat,j+G=3∧i=.int .i64 (11+(j:Int))∧(j=0)∧wr=W1)
  case atStart=>exact⟨0,by omega,by go_num,by omega,rfl⟩
  case round=>
   obtain⟨j,hjG,rfl,hjc,rfl⟩:=hrel
   subst hjc
   ·have HSG:=hdd (Z00 11 (by omega) wr)
    have HIS:=hdd (Z0l (lc:=lc) HW.out (s:=sgB 33) HB33.out)
    have hle:(11:Int)+((0:Nat):Int)≤12:=by omega
    go_wp2_with fail
    refine HSG.out.mono ?_
    rintro e w1 ⟨rfl,rfl⟩
    go_wp2_with fail
    refine HIS.out.mono ?_
    rintro e w2 ⟨rfl,rfl⟩
    have HCT:=hdd (HT.out la lc ws (at_+1) y rest w2 (by omega) HW.out HY.out)
    rw [show((at_+1:Nat):Int)=(at_:Int)+1 by omega] at HCT
    go_wp2_with fail
    refine HCT.out.mono ?_
    rintro e w5 ⟨cs,d,at2,rfl,hx,h1,h2,h3,hb5⟩
    obtain⟨ka,kc,rfl⟩:=Zj hx
    have hrow:=(hb5.block rb (gsI HB.out.2).1).trans HB.out.2
    have k0:=coR _ _ 0 _ _ _ hrow
    have k1:=coR _ _ 1 _ _ _ hrow
    have k2:=coR _ _ 2 _ _ _ hrow
    have k3:=coR _ _ 3 _ _ _ hrow
    have z0:=frR _ _ 0 _ _ hrow
    have z1:=frR _ _ 1 _ _ hrow
    have z2:=frR _ _ 2 _ _ hrow
    have z3:=frR _ _ 3 _ _ hrow
    simp only [ga0,ga1,ga2] at k0 k1 k2 k3
    have hrb5:=(gsI hrow).1
    have HX:=hdd (aI hx (aI h1 (aI h2 (aI h3 (aI hb5 hrow)))))
    clear hx h1 h2 h3 hb5 hrow
    have HF:=hdd (ZbX (op:=11) (by omega) HRB.out HX.out.2.2.2.2.2 (HB0.out.trans (HX.out.2.2.2.2.1.mono (by have:=HRB.out;have:=HSZ.out;omega))) hrb5 (Zh (fun k _ h=>by have h:w2.heap.size≤k:=h;have:=HRB.out;have:=HSZ.out;show w.heap.size<k;omega) HX.out.1))
    go_wp2
    refine bodyPost_ret (Z09 rfl _ _ rb 64 (List.toArray [.int .i64 11,.int .i64 0,.string ⟨#[]⟩,.slice (some ⟨w5.heap.size+1,0,none⟩) 1 1]) (0,0) _ rfl ?_ Tryz.underlying64 rfl (by kernel_rfl)) rfl ?_
    ·exact HF.out.1
    ·exact⟨_,d+1,at2,rfl,HF.out.2.1,by have:=HX.out.2.1;omega,HX.out.2.2.1,HX.out.2.2.2.1,HF.out.2.2⟩
 ·have HB33:=hdd h33
  have HB64:=hdd h64
  have hlt:=Z2O h64
  have HY:=hdd hy
  clear h33 h64 hy
  go_enter Tryz.func138,Tryz.ntmps138
  go_upto_region 1 with fail
  obtain⟨rb,hrb⟩:∃n,n=w.heap.size:=⟨_,rfl⟩
  generalize w.alloc (.cells #[.int .i64 0,.int .i64 0,.string ⟨#[]⟩,.slice none 0 0] 64)=W1 at HW HB HSZ ⊢
  have HRB:=hdd hrb
  have HB0:=hdd HB.out.1
  rw [← hrb] at HB HSZ ⊢
  clear hrb
  go_wp2_with fail
  go_loopg [6] 3 (fun G i wr=>∃j:Nat,j+G=3∧i=.int .i64 (11+(j:Int))∧(j=0∨j=1)∧wr=W1)
  case atStart=>exact⟨0,by omega,by go_num,by omega,rfl⟩
  case round=>
   obtain⟨j,hjG,rfl,hjc,rfl⟩:=hrel
   rcases hjc with rfl|rfl
   ·have HSG:=hdd (Z00 11 (by omega) wr)
    have HIS:=hdd (Z0l (lc:=lc) HW.out (s:=sgB 33) HB33.out)
    have hle:(11:Int)+((0:Nat):Int)≤12:=by omega
    go_wp2_with fail
    refine HSG.out.mono ?_
    rintro e w1 ⟨rfl,rfl⟩
    go_wp2_with fail
    refine HIS.out.mono ?_
    rintro e w2 ⟨rfl,rfl⟩
    go_wp2
    go_roundg (gk-1)
    case measure=>omega
    case rel=>exact⟨1,by omega,by go_num,by omega,rfl⟩
   ·have HSG:=hdd (Z00 12 (by omega) wr)
    have HIS:=hdd (Z0l (lc:=lc) HW.out (s:=sgB 64) HB64.out)
    have hle:(11:Int)+((1:Nat):Int)≤12:=by omega
    go_wp2_with fail
    refine HSG.out.mono ?_
    rintro e w1 ⟨rfl,rfl⟩
    go_wp2_with fail
    refine HIS.out.mono ?_
    rintro e w2 ⟨rfl,rfl⟩
    have HCT:=hdd (HT.out la lc ws (at_+1) y rest w2 (by omega) HW.out HY.out)
    rw [show((at_+1:Nat):Int)=(at_:Int)+1 by omega] at HCT
    go_wp2_with fail
    refine HCT.out.mono ?_
    rintro e w5 ⟨cs,d,at2,rfl,hx,h1,h2,h3,hb5⟩
    obtain⟨ka,kc,rfl⟩:=Zj hx
    have hrow:=(hb5.block rb (gsI HB.out.2).1).trans HB.out.2
    have k0:=coR _ _ 0 _ _ _ hrow
    have k1:=coR _ _ 1 _ _ _ hrow
    have k2:=coR _ _ 2 _ _ _ hrow
    have k3:=coR _ _ 3 _ _ _ hrow
    have z0:=frR _ _ 0 _ _ hrow
    have z1:=frR _ _ 1 _ _ hrow
    have z2:=frR _ _ 2 _ _ hrow
    have z3:=frR _ _ 3 _ _ hrow
    simp only [ga0,ga1,ga2] at k0 k1 k2 k3
    have hrb5:=(gsI hrow).1
    have HX:=hdd (aI hx (aI h1 (aI h2 (aI h3 (aI hb5 hrow)))))
    clear hx h1 h2 h3 hb5 hrow
    have HF:=hdd (ZbX (op:=12) (by omega) HRB.out HX.out.2.2.2.2.2 (HB0.out.trans (HX.out.2.2.2.2.1.mono (by have:=HRB.out;have:=HSZ.out;omega))) hrb5 (Zh (fun k _ h=>by have h:w2.heap.size≤k:=h;have:=HRB.out;have:=HSZ.out;show w.heap.size<k;omega) HX.out.1))
    go_wp2
    refine bodyPost_ret (Z09 rfl _ _ rb 64 (List.toArray [.int .i64 12,.int .i64 0,.string ⟨#[]⟩,.slice (some ⟨w5.heap.size+1,0,none⟩) 1 1]) (0,0) _ rfl ?_ Tryz.underlying64 rfl (by kernel_rfl)) rfl ?_
    ·exact HF.out.1
    ·exact⟨_,d+1,at2,rfl,HF.out.2.1,by have:=HX.out.2.1;omega,HX.out.2.2.1,HX.out.2.2.2.1,HF.out.2.2⟩
 ·have HB33:=hdd h33
  have HB64:=hdd h64
  have HB40:=hdd h40
  have H41:=hdd h41
  have hlt:=Z2O h40
  have HY:=hdd hy
  clear h33 h64 h40 h41 hy
  go_enter Tryz.func138,Tryz.ntmps138
  go_upto_region 1 with fail
  obtain⟨rb,hrb⟩:∃n,n=w.heap.size:=⟨_,rfl⟩
  generalize w.alloc (.cells #[.int .i64 0,.int .i64 0,.string ⟨#[]⟩,.slice none 0 0] 64)=W1 at HW HB HSZ ⊢
  have HRB:=hdd hrb
  have HB0:=hdd HB.out.1
  rw [← hrb] at HB HSZ ⊢
  clear hrb
  go_wp2_with fail
  go_loopg [6] 3 (fun G i wr=>∃j:Nat,j+G=3∧i=.int .i64 (11+(j:Int))∧(j=0∨j=1∨j=2)∧wr=W1)
  case atStart=>exact⟨0,by omega,by go_num,by omega,rfl⟩
  case round=>
   obtain⟨j,hjG,rfl,hjc,rfl⟩:=hrel
   rcases hjc with rfl|rfl|rfl
   ·have HSG:=hdd (Z00 11 (by omega) wr)
    have HIS:=hdd (Z0l (lc:=lc) HW.out (s:=sgB 33) HB33.out)
    have hle:(11:Int)+((0:Nat):Int)≤12:=by omega
    go_wp2_with fail
    refine HSG.out.mono ?_
    rintro e w1 ⟨rfl,rfl⟩
    go_wp2_with fail
    refine HIS.out.mono ?_
    rintro e w2 ⟨rfl,rfl⟩
    go_wp2
    go_roundg (gk-1)
    case measure=>omega
    case rel=>exact⟨1,by omega,by go_num,by omega,rfl⟩
   ·have HSG:=hdd (Z00 12 (by omega) wr)
    have HIS:=hdd (Z0l (lc:=lc) HW.out (s:=sgB 64) HB64.out)
    have hle:(11:Int)+((1:Nat):Int)≤12:=by omega
    go_wp2_with fail
    refine HSG.out.mono ?_
    rintro e w1 ⟨rfl,rfl⟩
    go_wp2_with fail
    refine HIS.out.mono ?_
    rintro e w2 ⟨rfl,rfl⟩
    go_wp2
    go_roundg (gk-1)
    case measure=>omega
    case rel=>exact⟨2,by omega,by go_num,by omega,rfl⟩
   ·have hle:¬(11:Int)+((2:Nat):Int)≤12:=by omega
    have HIS:=hdd (Z0l (lc:=lc) HW.out (s:=sgB 40) HB40.out)
    have HCR:=hdd (HR.out la lc ws (at_+1) 1 x r wr (by omega) (by omega) HW.out HY.out)
    rw [show((at_+1:Nat):Int)=(at_:Int)+1 by omega] at HCR
    go_wp2_with fail
    refine HIS.out.mono ?_
    rintro e w1 ⟨rfl,rfl⟩
    go_wp2_with fail
    refine HCR.out.mono ?_
    rintro e w5 ⟨cs,d,at2,rfl,hx,h1,h2,h3,hb5⟩
    obtain⟨ka,kc,rfl⟩:=Zj hx
    have hba:Below w5.heap.size w5 (w5.alloc (.cells #[.int .i64 x.op,.int .i64 x.n,.string x.name,.slice ka x.kids.length kc] 64)):=(bRf _ _).alloc (Nat.le_refl _) _
    have HX:=hdd (aI (Zz hba hx) (aI h1 (aI h2 (aI h3 (hb5.trans (hba.mono hb5.size))))))
    have hrx:=hAn w5 (.cells #[.int .i64 x.op,.int .i64 x.n,.string x.name,.slice ka x.kids.length kc] 64)
    have HHD:=hdd (show Zp (ws.drop at2) (sgB 41)=true from by rw [h3];exact H41.out)
    have hat2:at2<ws.length:=Z2O HHD.out
    have x0:=coR _ _ 0 _ _ _ hrx
    have x1:=coR _ _ 1 _ _ _ hrx
    have x2:=coR _ _ 2 _ _ _ hrx
    have x3:=coR _ _ 3 _ _ _ hrx
    simp only [ga0,ga1,ga2] at x0 x1 x2 x3
    clear hx h1 h2 h3 hb5 hba hrx
    go_upto_region 9 with fail
    obtain⟨xb,hxb⟩:∃n,n=w5.heap.size:=⟨_,rfl⟩
    generalize w5.alloc (.cells #[.int .i64 x.op,.int .i64 x.n,.string x.name,.slice ka x.kids.length kc] 64)=w6 at HX x0 x1 x2 x3 ⊢
    rw [← hxb] at x0 x1 x2 x3 ⊢
    clear hxb
    have HI2:=hdd (Z0l (lc:=lc) (HW.out.later HX.out.2.2.2.2) HHD.out)
    have hrow:=(HX.out.2.2.2.2.block rb (gsI HB.out.2).1).trans HB.out.2
    have k0:=coR _ _ 0 _ _ _ hrow
    have k1:=coR _ _ 1 _ _ _ hrow
    have k2:=coR _ _ 2 _ _ _ hrow
    have k3:=coR _ _ 3 _ _ _ hrow
    have z0:=frR _ _ 0 _ _ hrow
    have z1:=frR _ _ 1 _ _ hrow
    have z2:=frR _ _ 2 _ _ hrow
    have z3:=frR _ _ 3 _ _ hrow
    simp only [ga0,ga1,ga2] at k0 k1 k2 k3
    have HROW:=hdd hrow
    clear hrow
    have hn2:¬(at2:Int)<0:=by omega
    have HF:=hdd (Zcz HRB.out HROW.out (HB0.out.trans (HX.out.2.2.2.2.mono HB0.out.size)) (Zh (fun k _ h=>by have h:w1.heap.size≤k:=h;have:=HRB.out;have:=HSZ.out;show w.heap.size<k;omega) HX.out.1))
    go_wp2_with fail
    refine HI2.out.mono ?_
    rintro e w7 ⟨rfl,rfl⟩
    go_wp2
    refine bodyPost_ret (Z09 rfl _ _ rb 64 (List.toArray [.int .i64 x.op,.int .i64 x.n,.string x.name,.slice ka x.kids.length kc]) (0,0) _ rfl ?_ Tryz.underlying64 rfl (by kernel_rfl)) rfl ?_
    ·exact HF.out.1
    ·exact⟨_,d,at2+1,rfl,HF.out.2.1,by have:=HX.out.2.1;omega,by omega,by rw [← HX.out.2.2.2.1,List.tail_drop],HF.out.2.2⟩
 ·have HB33:=hdd h33
  have HB64:=hdd h64
  have HB40:=hdd h40
  have hlt:at_<ws.length:=by
   rcases Nat.lt_or_ge at_ ws.length with h|h
   ·exact h
   ·rw [List.drop_of_length_le h] at hv;cases hv
  have hva:ws[at_]? = some v:=by
   rw [List.getElem?_eq_getElem hlt]
   have:=List.drop_eq_getElem_cons hlt
   rw [this] at hv
   rw [(List.cons.inj hv).1]
  have HV:=hdd hva
  have HOK:=hdd (HW.out.ok v (List.mem_of_getElem? hva))
  clear h33 h64 h40 hv hva
  rcases hk with⟨hk2,rfl,rfl⟩|⟨hk1,hp40,ks,hks,rfl⟩|⟨hk1,hp40,rfl,rfl⟩
  ·have HK2:=hdd hk2
   clear hk2
   go_enter Tryz.func138,Tryz.ntmps138
   go_upto_region 1 with fail
   obtain⟨rb,hrb⟩:∃n,n=w.heap.size:=⟨_,rfl⟩
   generalize w.alloc (.cells #[.int .i64 0,.int .i64 0,.string ⟨#[]⟩,.slice none 0 0] 64)=W1 at HW HB HSZ ⊢
   have HRB:=hdd hrb
   have HB0:=hdd HB.out.1
   rw [← hrb] at HB HSZ ⊢
   clear hrb
   go_wp2_with fail
   go_loopg [6] 3 (fun G i wr=>∃j:Nat,j+G=3∧i=.int .i64 (11+(j:Int))∧(j=0∨j=1∨j=2)∧wr=W1)
   case atStart=>exact⟨0,by omega,by go_num,by omega,rfl⟩
   case round=>
    obtain⟨j,hjG,rfl,hjc,rfl⟩:=hrel
    rcases hjc with rfl|rfl|rfl
    ·have HSG:=hdd (Z00 11 (by omega) wr)
     have HIS:=hdd (Z0l (lc:=lc) HW.out (s:=sgB 33) HB33.out)
     have hle:(11:Int)+((0:Nat):Int)≤12:=by omega
     go_wp2_with fail
     refine HSG.out.mono ?_
     rintro e w1 ⟨rfl,rfl⟩
     go_wp2_with fail
     refine HIS.out.mono ?_
     rintro e w2 ⟨rfl,rfl⟩
     go_wp2
     go_roundg (gk-1)
     case measure=>omega
     case rel=>exact⟨1,by omega,by go_num,by omega,rfl⟩
    ·have HSG:=hdd (Z00 12 (by omega) wr)
     have HIS:=hdd (Z0l (lc:=lc) HW.out (s:=sgB 64) HB64.out)
     have hle:(11:Int)+((1:Nat):Int)≤12:=by omega
     go_wp2_with fail
     refine HSG.out.mono ?_
     rintro e w1 ⟨rfl,rfl⟩
     go_wp2_with fail
     refine HIS.out.mono ?_
     rintro e w2 ⟨rfl,rfl⟩
     go_wp2
     go_roundg (gk-1)
     case measure=>omega
     case rel=>exact⟨2,by omega,by go_num,by omega,rfl⟩
    ·have hle:¬(11:Int)+((2:Nat):Int)≤12:=by omega
     have HIS:=hdd (Z0l (lc:=lc) HW.out (s:=sgB 40) HB40.out)
     obtain⟨wb,wo,v',rfl,hv',c0,c1⟩:=Z1w HW.out.list hlt
     obtain rfl:v=v':=Option.some.inj (HV.out.symm.trans hv')
     clear hv'
     have hat:(at_:Int)<(ws.length:Int):=by omega
     have hat':¬(ws.length:Int)≤(at_:Int):=by omega
     go_wp2_with fail
     refine HIS.out.mono ?_
     rintro e w1 ⟨rfl,rfl⟩
     have HNO:=hdd (Z6t HOK.out HK2.out w1)
     have hk2:(v.kind==2)=true:=by rw [HK2.out];rfl
     go_wp2_with fail
     refine HNO.out.mono ?_
     rintro e w5 ⟨rfl,hb5⟩
     have hrow:=(hb5.block rb (gsI HB.out.2).1).trans HB.out.2
     have k0:=coR _ _ 0 _ _ _ hrow
     have k1:=coR _ _ 1 _ _ _ hrow
     have k2:=coR _ _ 2 _ _ _ hrow
     have k3:=coR _ _ 3 _ _ _ hrow
     have z0:=frR _ _ 0 _ _ hrow
     have z1:=frR _ _ 1 _ _ hrow
     have z2:=frR _ _ 2 _ _ hrow
     have z3:=frR _ _ 3 _ _ hrow
     simp only [ga0,ga1,ga2] at k0 k1 k2 k3
     have HF:=hdd (Zcz (d:=1) HRB.out hrow (HB0.out.trans (hb5.mono HB0.out.size)) (Z88 1 (ZaS v.text) ⟨#[]⟩ (by omega) 0))
     clear hb5 hrow c0 c1
     go_wp2
     refine bodyPost_ret (Z09 rfl _ _ rb 64 (List.toArray [.int .i64 1,.int .i64 (ZaS v.text),.string ⟨#[]⟩,.slice none 0 0]) (0,0) _ rfl ?_ Tryz.underlying64 rfl (by kernel_rfl)) rfl ?_
     ·exact HF.out.1
     ·exact⟨_,1,at_+1,rfl,HF.out.2.1,by omega,by omega,rfl,HF.out.2.2⟩
  ·rw [List.tail_drop] at hks
   have HK1:=hdd hk1
   have HP40:=hdd hp40
   have HY:=hdd hks
   clear hk1 hp40 hks
   go_enter Tryz.func138,Tryz.ntmps138
   go_upto_region 1 with fail
   obtain⟨rb,hrb⟩:∃n,n=w.heap.size:=⟨_,rfl⟩
   generalize w.alloc (.cells #[.int .i64 0,.int .i64 0,.string ⟨#[]⟩,.slice none 0 0] 64)=W1 at HW HB HSZ ⊢
   have HRB:=hdd hrb
   have HB0:=hdd HB.out.1
   rw [← hrb] at HB HSZ ⊢
   clear hrb
   go_wp2_with fail
   go_loopg [6] 3 (fun G i wr=>∃j:Nat,j+G=3∧i=.int .i64 (11+(j:Int))∧(j=0∨j=1∨j=2)∧wr=W1)
   case atStart=>exact⟨0,by omega,by go_num,by omega,rfl⟩
   case round=>
    obtain⟨j,hjG,rfl,hjc,rfl⟩:=hrel
    rcases hjc with rfl|rfl|rfl
    ·have HSG:=hdd (Z00 11 (by omega) wr)
     have HIS:=hdd (Z0l (lc:=lc) HW.out (s:=sgB 33) HB33.out)
     have hle:(11:Int)+((0:Nat):Int)≤12:=by omega
     go_wp2_with fail
     refine HSG.out.mono ?_
     rintro e w1 ⟨rfl,rfl⟩
     go_wp2_with fail
     refine HIS.out.mono ?_
     rintro e w2 ⟨rfl,rfl⟩
     go_wp2
     go_roundg (gk-1)
     case measure=>omega
     case rel=>exact⟨1,by omega,by go_num,by omega,rfl⟩
    ·have HSG:=hdd (Z00 12 (by omega) wr)
     have HIS:=hdd (Z0l (lc:=lc) HW.out (s:=sgB 64) HB64.out)
     have hle:(11:Int)+((1:Nat):Int)≤12:=by omega
     go_wp2_with fail
     refine HSG.out.mono ?_
     rintro e w1 ⟨rfl,rfl⟩
     go_wp2_with fail
     refine HIS.out.mono ?_
     rintro e w2 ⟨rfl,rfl⟩
     go_wp2
     go_roundg (gk-1)
     case measure=>omega
     case rel=>exact⟨2,by omega,by go_num,by omega,rfl⟩
    ·have hle:¬(11:Int)+((2:Nat):Int)≤12:=by omega
     have HIS:=hdd (Z0l (lc:=lc) HW.out (s:=sgB 40) HB40.out)
     obtain⟨wb,wo,v',rfl,hv',c0,c1⟩:=Z1w HW.out.list hlt
     obtain rfl:v=v':=Option.some.inj (HV.out.symm.trans hv')
     clear hv'
     have hat:(at_:Int)<(ws.length:Int):=by omega
     have hat':¬(ws.length:Int)≤(at_:Int):=by omega
     go_wp2_with fail
     refine HIS.out.mono ?_
     rintro e w1 ⟨rfl,rfl⟩
     have hk2:(v.kind==2)=false:=by rw [HK1.out];rfl
     have hk1:(v.kind==1)=true:=by rw [HK1.out];rfl
     have hk1':(v.kind != 1)=false:=by rw [HK1.out];rfl
     have HI2:=Z0l (lc:=lc) (at_:=at_+1) HW.out (s:=sgB 40) HP40.out
     rw [show((at_+1:Nat):Int)=(at_:Int)+1 by omega] at HI2
     have HI2:=hdd HI2
     go_wp2_with fail
     refine HI2.out.mono ?_
     rintro e w2 ⟨rfl,rfl⟩
     have HCL:=HL.out (some ⟨wb,wo,none⟩) lc ws (at_+2) ks rest w2 (by have:=Z2O HP40.out;omega) HW.out HY.out
     rw [show((at_+2:Nat):Int)=(at_:Int)+2 by omega] at HCL
     have HCL:=hdd HCL
     go_wp2_with fail
     refine HCL.out.mono ?_
     rintro e w5 ⟨ka,kc,d,at2,rfl,hx,hkm,h1,h2,h3,hb5⟩
     have d0:=clT hb5 c0
     have d1:=clT hb5 c1
     have hrow:=(hb5.block rb (gsI HB.out.2).1).trans HB.out.2
     have k0:=coR _ _ 0 _ _ _ hrow
     have k1:=coR _ _ 1 _ _ _ hrow
     have k2:=coR _ _ 2 _ _ _ hrow
     have k3:=coR _ _ 3 _ _ _ hrow
     have z0:=frR _ _ 0 _ _ hrow
     have z1:=frR _ _ 1 _ _ hrow
     have z2:=frR _ _ 2 _ _ hrow
     have z3:=frR _ _ 3 _ _ hrow
     simp only [ga0,ga1,ga2] at k0 k1 k2 k3
     have HX:=hdd (aI h1 (aI h2 h3))
     have HF:=hdd (Zcz (d:=d+1) (x:=.mk 13 0 v.text ks) HRB.out hrow (HB0.out.trans (hb5.mono HB0.out.size)) ⟨ka,kc,rfl,⟨hkm,by show(-9223372036854775808:Int)≤13∧(13:Int)≤9223372036854775807;omega⟩,hx.mono (fun _ _ _ h=>Zh (fun k _ h=>by have h:w2.heap.size≤k:=h;have:=HRB.out;have:=HSZ.out;show w.heap.size<k;omega) h) (fun k _ h=>by have h:w2.heap.size≤k:=h;have:=HRB.out;have:=HSZ.out;show w.heap.size<k;omega)⟩)
     clear hb5 hrow c0 c1 hx hkm h1 h2 h3
     go_wp2
     refine bodyPost_ret (Z09 rfl _ _ rb 64 (List.toArray [.int .i64 13,.int .i64 0,.string v.text,.slice ka ks.length kc]) (0,0) _ rfl ?_ Tryz.underlying64 rfl (by kernel_rfl)) rfl ?_
     ·exact HF.out.1
     ·exact⟨_,d+1,at2,rfl,HF.out.2.1,by have:=HX.out.1;omega,HX.out.2.1,HX.out.2.2,HF.out.2.2⟩
  ·have HK1:=hdd hk1
   have HP40:=hdd hp40
   clear hk1 hp40
   go_enter Tryz.func138,Tryz.ntmps138
   go_upto_region 1 with fail
   obtain⟨rb,hrb⟩:∃n,n=w.heap.size:=⟨_,rfl⟩
   generalize w.alloc (.cells #[.int .i64 0,.int .i64 0,.string ⟨#[]⟩,.slice none 0 0] 64)=W1 at HW HB HSZ ⊢
   have HRB:=hdd hrb
   have HB0:=hdd HB.out.1
   rw [← hrb] at HB HSZ ⊢
   clear hrb
   go_wp2_with fail
   go_loopg [6] 3 (fun G i wr=>∃j:Nat,j+G=3∧i=.int .i64 (11+(j:Int))∧(j=0∨j=1∨j=2)∧wr=W1)
   case atStart=>exact⟨0,by omega,by go_num,by omega,rfl⟩
   case round=>
    obtain⟨j,hjG,rfl,hjc,rfl⟩:=hrel
    rcases hjc with rfl|rfl|rfl
    ·have HSG:=hdd (Z00 11 (by omega) wr)
     have HIS:=hdd (Z0l (lc:=lc) HW.out (s:=sgB 33) HB33.out)
     have hle:(11:Int)+((0:Nat):Int)≤12:=by omega
     go_wp2_with fail
     refine HSG.out.mono ?_
     rintro e w1 ⟨rfl,rfl⟩
     go_wp2_with fail
     refine HIS.out.mono ?_
     rintro e w2 ⟨rfl,rfl⟩
     go_wp2
     go_roundg (gk-1)
     case measure=>omega
     case rel=>exact⟨1,by omega,by go_num,by omega,rfl⟩
    ·have HSG:=hdd (Z00 12 (by omega) wr)
     have HIS:=hdd (Z0l (lc:=lc) HW.out (s:=sgB 64) HB64.out)
     have hle:(11:Int)+((1:Nat):Int)≤12:=by omega
     go_wp2_with fail
     refine HSG.out.mono ?_
     rintro e w1 ⟨rfl,rfl⟩
     go_wp2_with fail
     refine HIS.out.mono ?_
     rintro e w2 ⟨rfl,rfl⟩
     go_wp2
     go_roundg (gk-1)
     case measure=>omega
     case rel=>exact⟨2,by omega,by go_num,by omega,rfl⟩
    ·have hle:¬(11:Int)+((2:Nat):Int)≤12:=by omega
     have HIS:=hdd (Z0l (lc:=lc) HW.out (s:=sgB 40) HB40.out)
     obtain⟨wb,wo,v',rfl,hv',c0,c1⟩:=Z1w HW.out.list hlt
     obtain rfl:v=v':=Option.some.inj (HV.out.symm.trans hv')
     clear hv'
     have hat:(at_:Int)<(ws.length:Int):=by omega
     have hat':¬(ws.length:Int)≤(at_:Int):=by omega
     go_wp2_with fail
     refine HIS.out.mono ?_
     rintro e w1 ⟨rfl,rfl⟩
     have hk2:(v.kind==2)=false:=by rw [HK1.out];rfl
     have hk1:(v.kind==1)=true:=by rw [HK1.out];rfl
     have hk1':(v.kind != 1)=false:=by rw [HK1.out];rfl
     have HI2:=Z0l (lc:=lc) (at_:=at_+1) HW.out (s:=sgB 40) HP40.out
     rw [show((at_+1:Nat):Int)=(at_:Int)+1 by omega] at HI2
     have HI2:=hdd HI2
     go_wp2_with fail
     refine HI2.out.mono ?_
     rintro e w2 ⟨rfl,rfl⟩
     have hrow:=HB.out.2
     have k0:=coR _ _ 0 _ _ _ hrow
     have k1:=coR _ _ 1 _ _ _ hrow
     have k2:=coR _ _ 2 _ _ _ hrow
     have k3:=coR _ _ 3 _ _ _ hrow
     have z0:=frR _ _ 0 _ _ hrow
     have z1:=frR _ _ 1 _ _ hrow
     have z2:=frR _ _ 2 _ _ hrow
     have z3:=frR _ _ 3 _ _ hrow
     simp only [ga0,ga1,ga2] at k0 k1 k2 k3
     have HF:=hdd (Zcz (d:=1) HRB.out hrow HB0.out (Z88 2 0 v.text (by omega) 0))
     clear hrow
     go_wp2
     refine bodyPost_ret (Z09 rfl _ _ rb 64 (List.toArray [.int .i64 2,.int .i64 0,.string v.text,.slice none 0 0]) (0,0) _ rfl ?_ Tryz.underlying64 rfl (by kernel_rfl)) rfl ?_
     ·exact HF.out.1
     ·exact⟨_,1,at_+1,rfl,HF.out.2.1,by omega,by omega,rfl,HF.out.2.2⟩
end Go.Proofs.YtloooebabieeeaaGreatDoor
