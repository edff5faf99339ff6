/-
  The reference draws programs: a program (l3Prog).
-/
import Derived.Test.YtloooebabieeeaaGreatDoorCp
import Derived.Test.YtloooebabieeeaaGreatDoorCq
import Derived.Test.YtloooebabieeeaaGreatDoorGf
import Derived.Test.YtloooebabieeeaaGreatDoorDr5
set_option maxRecDepth 100000
set_option maxHeartbeats 16000000
set_option linter.unusedVariables false
namespace Go.Proofs.YtloooebabieeeaaGreatDoor
open Go.RowKit
def Z9B (m:Nat):ByteArray:=([⟨#[102]⟩,⟨#[103]⟩,⟨#[104]⟩]:List ByteArray).getD m ⟨#[]⟩
def Zby (bs:List Int):Nat→List FnD→Nat→Int→List FnD×Nat×Int
 | 0,fns,p,left=>(fns,p,left)
 | k+1,fns,p,left=>Zby bs k (fns++[(fnF bs fns (Z9B fns.length) (ZP bs 3 p).toNat (p+1) left).1]) (fnF bs fns (Z9B fns.length) (ZP bs 3 p).toNat (p+1) left).2.p (fnF bs fns (Z9B fns.length) (ZP bs 3 p).toNat (p+1) left).2.left
theorem Zal {bs:List Int} {k n p:Nat} {fns:List FnD} {nm:ByteArray} {left:Int} {f:FnD} {s:GS} (hk:0<k) (hnm:nm=Z9B fns.length) (hp:ZP bs 3 p=(n:Int)) (hf:fnF bs fns nm n (p+1) left=(f,s)):Zby bs k fns p left=Zby bs (k-1) (fns++[f]) s.p s.left:=by
 obtain⟨j,rfl⟩:∃j,k=j+1:=⟨k-1,by omega⟩
 subst hnm
 simp only [Zby,hp,Int.toNat_natCast,hf,Nat.add_sub_cancel]
def Zd0:List FnD:=[⟨⟨#[109]⟩,[],[.mk 3 ⟨#[]⟩ [.mk 1 1 ⟨#[]⟩ []] [] []]⟩]
def Z2M (bs:List Int) (p:Nat):List FnD×Nat:=
 let s:=Zby bs (Z2Y bs [0,1,1,2] (p+1)).toNat [] (p+2) (Z2Y bs [14,20,8,26] p)
 let m:=fnF bs s.1 ⟨#[109]⟩ (Z2Y bs [0,1,2,1] s.2.1).toNat (s.2.1+1) s.2.2
 (if Z0C (s.1++[m.1])=true then s.1++[m.1] else Zd0,m.2.p)
theorem ZbI {bs:List Int} {p k0 P n5:Nat} {v left:Int} {fns:List FnD} {f:FnD} {s:GS} (hv:Z2Y bs [14,20,8,26] p=v) (hk:Z2Y bs [0,1,1,2] (p+1)=(k0:Int)) (hs:Zby bs k0 [] (p+2) v=(fns,P,left)) (hn:Z2Y bs [0,1,2,1] P=(n5:Int)) (hf:fnF bs fns ⟨#[109]⟩ n5 (P+1) left=(f,s)) :
  Z2M bs p=(if Z0C (fns++[f])=true then fns++[f] else Zd0,s.p):=by
 simp only [Z2M,hv,hk,Int.toNat_natCast,hs,hn,hf]
theorem ZbF:(Tryz.prog.info? 42).map (fun i=>(i.zero,i.size,i.bytes))=some (some (.agg #[.string ⟨#[]⟩,.slice none 0 0,.slice none 0 0]),3,64):=by kernel_rfl
theorem ZbT:Tryz.prog.underlying 23=some (.slice 42):=by kernel_rfl
section
variable {w:World} {ops:Array Oper} {o:Oper} {a:Act} {K:Act→World→Prop} {E:Prop} {Q:Exit→Act→World→Prop}
theorem Z11 (hgd:o.guard=none) (s x:Operand) (ho:o.op=.call { callee:=.builtin .append,args:=#[s,x],argTypes:=#[23,23] })
  (base:Nat) (v:Value) (n:Nat) (xs:List Value) (hs:a.eval s=v) (hown:w.ownsRow base 42 3 v n xs)
  (ao:Option Addr) (m c:Nat) (cells:List (List Value)) (hx:a.eval x=.slice ao m c) (hrow:Z0g w ao cells.flatten) (hm:cells.length=m) (hl:∀cl∈cells,cl.length=3) (hnil:ao=none→c=0) (hone:∀cl∈cells,∀u∈cl,u.oneCell'=true)
  (hb:n+m≤1099511627776) (hbase:base≤w.heap.size)
  (h:∀a' c' w',w'.ownsRow base 42 3 (.slice a' (n+m) c') (n+m) (xs++cells.flatten)→w.grownBy w' v.ownBlock→
   ((Value.slice a' (n+m) c').ownBlock=v.ownBlock∨(Value.slice a' (n+m) c').ownBlock=some w.heap.size)→K (a.put o.dst (.slice a' (n+m) c')) w') :
  if Region.wanted o (yielded ops a.tmps)=true then Oper.wp Tryz.prog o a w K Q else E:=by
 obtain⟨i0,hi,hz0,hz1,hz2⟩:=info_parts ZbF
 exact Z2e hgd s x 23 ho base 42 i0 (.agg #[.string ⟨#[]⟩,.slice none 0 0,.slice none 0 0]) 3 64 ZbT hi hz0 hz1 hz2 rfl (by decide) v n xs hs hown ao m c _ hx (by rw [Z1A hl,hm]) hrow hnil (by
  intro u hu
  obtain⟨cl,h1,h2⟩:=List.mem_flatten.1 hu
  exact hone cl h1 u h2) (by unfold maxLen;omega) (by omega) hbase h
end
theorem Z28 {d:Nat} {S:Nat→Prop} {w:World} {cl:List Value} {x:FnD} (h:FnP d S w cl x):∀u∈cl,u.oneCell'=true:=by
 obtain⟨pa,pc,ba,bc,rfl,-⟩:=h
 intro u hu
 simp only [List.mem_cons,List.not_mem_nil,or_false] at hu
 rcases hu with rfl|rfl|rfl<;>rfl
def Z5f (lo:Nat) (W:World) (b:Nat) (o:Obj):Prop:=W.heap[b]? = some o∧lo≤b
section
variable {lo b br bg:Nat} {W W' wA:World} {o:Obj}
theorem Z5f.new (h:Zf br bg wA W):Z5f wA.heap.size (W.alloc o) W.heap.size o:=⟨hAn W o,h.size⟩
theorem Z5f.alloc (o':Obj) (h:Z5f lo W b o):Z5f lo (W.alloc o') b o:=⟨(((bRf W.heap.size W).alloc (Nat.le_refl _) o').block b (gsI h.1).1).trans h.1,h.2⟩
theorem Z5f.turn2 (ht:Zf br bg W W') (hl:br<lo∧bg<lo) (h:Z5f lo W b o):Z5f lo W' b o:=⟨(ht.block (gsI h.1).1 (by have:=h.2;omega) (by have:=h.2;omega)).trans h.1,h.2⟩
theorem Zf.thenAlloc (o:Obj) (h:Zf br bg wA W):Zf br bg wA (W.alloc o):=h.trans (Zf.alloc W o)
end
structure FnB (w0 wA:World) (br bg:Nat) (a:Option Addr) (len cap:Nat) (bs:List Int) (fa:Option Addr) (fc:Nat) (fns:List FnD) (u tb:Nat) (pa ba:Option Addr) (pc bc:Nat) (f:FnD) (Fv:FnD×GS) (wx:World):Prop where
 row:Z5f wA.heap.size wx tb (.cells #[.string ⟨#[]⟩,.slice none 0 0,.slice none 0 0] 42)
 lt:br<wA.heap.size∧bg<wA.heap.size
 p:FnP 3 (fun k=>wA.heap.size≤k∧k≠tb) wx [.string f.name,.slice pa f.params.length pc,.slice ba f.body.length bc] f
 three:f.params.length≤3
 g:∃(va':Option Addr) (vc':Nat) (vars':List ByteArray) (next' left':Int),GSt w0 br bg a len cap bs fa fc fns u va' vc' vars' next' left' wx∧Za 1 Z1V (fun k=>wA.heap.size≤k∧k≠tb) wx va' vars'∧Fv=(f,⟨Z5 wx br,vars',next',left'⟩)
 t:Zf br bg wA wx
structure FnT (w0 wA:World) (br bg:Nat) (a:Option Addr) (len cap:Nat) (bs:List Int) (fa:Option Addr) (fc:Nat) (fns:List FnD) (u tb:Nat) (pa ba:Option Addr) (pc bc:Nat) (f:FnD) (Fv:FnD×GS) (wx:World):Prop where
 row:wx.heap[tb]? = some (.cells #[.string f.name,.slice pa f.params.length pc,.slice ba f.body.length bc] 42 (0,0))
 lt:wA.heap.size≤tb∧br<wA.heap.size∧bg<wA.heap.size
 p:FnP 3 (fun k=>wA.heap.size≤k∧k≠tb) wx [.string f.name,.slice pa f.params.length pc,.slice ba f.body.length bc] f
 three:f.params.length≤3
 g:∃(va':Option Addr) (vc':Nat) (vars':List ByteArray) (next' left':Int),GSt w0 br bg a len cap bs fa fc fns u va' vc' vars' next' left' wx∧Za 1 Z1V (fun k=>wA.heap.size≤k∧k≠tb) wx va' vars'∧Fv=(f,⟨Z5 wx br,vars',next',left'⟩)
 t:Zf br bg wA wx
section
variable {w0 wA W w':World} {br bg:Nat} {a:Option Addr} {len cap:Nat} {bs:List Int} {fa:Option Addr} {fc:Nat} {fns:List FnD} {u tb:Nat} {pa ba:Option Addr} {pc bc:Nat} {f:FnD} {Fv:FnD×GS}
theorem FnB.early (ht:Zf br bg wA W) (hl:br<wA.heap.size∧bg<wA.heap.size) (hn:Z5f wA.heap.size W tb (.cells #[.string ⟨#[]⟩,.slice none 0 0,.slice none 0 0] 42)) (hf:FnP 3 (fun k=>W.heap.size≤k) w' [.string f.name,.slice pa f.params.length pc,.slice ba f.body.length bc] f∧f.params.length≤3∧(∃(va':Option Addr) (vc':Nat) (vars':List ByteArray) (next' left':Int),GSt w0 br bg a len cap bs fa fc fns u va' vc' vars' next' left' w'∧Za 1 Z1V (fun k=>W.heap.size≤k) w' va' vars'∧Fv=(f,⟨Z5 w' br,vars',next',left'⟩))∧Zf br bg W w') :
  FnB w0 wA br bg a len cap bs fa fc fns u tb pa ba pc bc f Fv w':=by
 obtain⟨h1,h2,⟨va',vc',vars',next',left',h3,h4,h4F⟩,h5⟩:=hf
 have hs:=ht.size
 have hlt:=(gsI hn.1).1
 exact⟨hn.turn2 h5 hl,hl,(Z2 3).mono (fun k hk h=>⟨by have h:W.heap.size≤k:=h;omega,by have h:W.heap.size≤k:=h;omega⟩) h1,h2,⟨va',vc',vars',next',left',h3,h4.mono Z3 (fun k hk h=>⟨by have h:W.heap.size≤k:=h;omega,by have h:W.heap.size≤k:=h;omega⟩),h4F⟩,ht.trans h5⟩
theorem FnB.late (ht:Zf br bg wA W) (hl:br<wA.heap.size∧bg<wA.heap.size) (hf:FnP 3 (fun k=>W.heap.size≤k) w' [.string f.name,.slice pa f.params.length pc,.slice ba f.body.length bc] f∧f.params.length≤3∧(∃(va':Option Addr) (vc':Nat) (vars':List ByteArray) (next' left':Int),GSt w0 br bg a len cap bs fa fc fns u va' vc' vars' next' left' w'∧Za 1 Z1V (fun k=>W.heap.size≤k) w' va' vars'∧Fv=(f,⟨Z5 w' br,vars',next',left'⟩))∧Zf br bg W w') :
  FnB w0 wA br bg a len cap bs fa fc fns u w'.heap.size pa ba pc bc f Fv (w'.alloc (.cells #[.string ⟨#[]⟩,.slice none 0 0,.slice none 0 0] 42)):=by
 obtain⟨h1,h2,⟨va',vc',vars',next',left',h3,h4,h4F⟩,h5⟩:=hf
 have hs:=ht.size
 have hb:Below w'.heap.size w' (w'.alloc (.cells #[.string ⟨#[]⟩,.slice none 0 0,.slice none 0 0] 42)):=(bRf _ _).alloc (Nat.le_refl _) _
 exact⟨Z5f.new (ht.trans h5),hl,(Z2 3).below hb ((Z2 3).mono (fun k hk h=>⟨by have h:W.heap.size≤k:=h;omega,by omega⟩) h1),h2,⟨va',vc',vars',next',left',h3.alloc _,(h4.mono Z3 (fun k hk h=>⟨by have h:W.heap.size≤k:=h;omega,by omega⟩)).below Z3 hb,by rw [Zs hb h3.lts.1];exact h4F⟩,(ht.trans h5).thenAlloc _⟩
theorem FnB.fill (h:FnB w0 wA br bg a len cap bs fa fc fns u tb pa ba pc bc f Fv w') (hw0:w0.heap.size≤wA.heap.size) (hfl:Za 3 (FnP 20) (fun k=>(k≠br∧k≠bg)∧k<wA.heap.size) wA fa fns) :
  FnT w0 wA br bg a len cap bs fa fc fns u tb pa ba pc bc f Fv (((w'.setCell ⟨tb,0,none⟩ (.string f.name)).setCell ⟨tb,1,none⟩ (.slice pa f.params.length pc)).setCell ⟨tb,2,none⟩ (.slice ba f.body.length bc)):=by
 obtain⟨va',vc',vars',next',left',h3,h4,h4F⟩:=h.g
 have htb:=h.row.2
 have hl:=h.lt
 have hs3:(((w'.setCell ⟨tb,0,none⟩ (.string f.name)).setCell ⟨tb,1,none⟩ (.slice pa f.params.length pc)).setCell ⟨tb,2,none⟩ (.slice ba f.body.length bc))=w'.setCells tb 0 [.string f.name,.slice pa f.params.length pc,.slice ba f.body.length bc]:=rfl
 rw [hs3]
 have hc:=ZB (g:=tb) [.string f.name,.slice pa f.params.length pc,.slice ba f.body.length bc] w' 0
 have hf2:=h.t.list (Z2 20) hfl (fun k h=>⟨h.1.1,h.1.2⟩)
 have hv:∀k:Nat,k<w'.heap.size→(wA.heap.size≤k∧k≠tb)→¬k=tb:=fun k _ h=>h.2
 refine⟨?_,⟨htb,hl⟩,(Z2 3).turned hc (fun k h1 h2=>hv k h1 h2) h.p,h.three,⟨va',vc',vars',next',left',?_,h4.turned Z3 hc hv,by rw [Z0P (by omega)];exact h4F⟩,?_⟩
 ·have:=ZF (w:=w') (A:=[]) (B:=[.string ⟨#[]⟩,.slice none 0 0,.slice none 0 0]) (C:=[]) (vs:=[.string f.name,.slice pa f.params.length pc,.slice ba f.body.length bc]) (o:=0) rfl (by simp) (by simpa using h.row.1)
  simpa using this
 ·exact h3.other hc (fun k hk h=>by have h:k=tb:=h;omega) ((h4.turned Z3 hc hv).mono Z3 (fun k _ h=>by have h:wA.heap.size≤k∧k≠tb:=h;exact⟨by omega,by omega⟩)) ((hf2.turned (Z2 20) hc (fun k _ h hk=>by have h:=h.2;have hk:k=tb:=hk;omega)).mono (Z2 20) (fun k _ h=>h.1))
 ·exact Ze.trans (S:=fun k=>k=br∨k=bg∨wA.heap.size≤k) h.t (hc.mono (fun k hk=>by have hk:k=tb:=hk;omega))
theorem Zaj (w:World) (lc:List Value):Z0g (w.alloc (.cells lc.toArray 42)) (some ⟨w.heap.size,0,none⟩) [lc].flatten:=by
 rw [show [lc].flatten=lc by simp]
 exact Zc w lc 42
theorem FnT.push {w4 wr W w9:World} {cells:List (List Value)} {a9:Option Addr} {c9:Nat} (h:FnT w0 wr br bg a len cap bs fa fc fns u tb pa ba pc bc f Fv w') (ht:Zf br bg w4 wr) (hl4:br<w4.heap.size∧bg<w4.heap.size∧w0.heap.size≤w4.heap.size)
  (hr:Z1Y 3 (FnP 20) 42 (fun j=>w4.heap.size≤j) w4.heap.size w' fa fns.length fc fns cells) (hb:Below w'.heap.size w' W) (ho:∀k,(Value.slice fa fns.length fc).ownBlock=some k→w4.heap.size≤k∧k<wr.heap.size) (hn:fns.length≤1) (h3:∀f∈fns,f.params.length≤3)
  (hown:w9.ownsRow w4.heap.size 42 3 (.slice a9 (fns.length+1) c9) (fns.length+1) (cells.flatten++[[Value.string f.name,.slice pa f.params.length pc,.slice ba f.body.length bc]].flatten)) (hg:W.grownBy w9 (Value.slice fa fns.length fc).ownBlock)
  (hlies:(Value.slice a9 (fns.length+1) c9).ownBlock=(Value.slice fa fns.length fc).ownBlock∨(Value.slice a9 (fns.length+1) c9).ownBlock=some W.heap.size) :
  w9.heap[bg]? = w'.heap[bg]?∧(∃(va':Option Addr) (vc':Nat) (vars':List ByteArray) (next' left':Int),GSt w0 br bg a len cap bs a9 c9 (fns++[f]) u va' vc' vars' next' left' (w9.setCell ⟨bg,1,none⟩ (.slice a9 (fns.length+1) c9))∧Fv=(f,⟨Z5 (w9.setCell ⟨bg,1,none⟩ (.slice a9 (fns.length+1) c9)) br,vars',next',left'⟩))∧
  ZM 3 (FnP 20) 42 (fun j=>w4.heap.size≤j) w4.heap.size (w9.setCell ⟨bg,1,none⟩ (.slice a9 (fns.length+1) c9)) a9 (fns++[f]).length c9 (fns++[f])∧(∀g∈fns++[f],g.params.length≤3)∧Zf br bg w4 (w9.setCell ⟨bg,1,none⟩ (.slice a9 (fns.length+1) c9)):=by
 obtain⟨va',vc',vars',next',left',hG,hV,hVF⟩:=h.g
 have ht2:=Zi hg (S:=fun k=>(Value.slice fa fns.length fc).ownBlock=some k) (fun k hk=>hk)
 have hs:=ht.size
 have hs2:=h.t.size
 have hGW:=hG.later hb
 have hvW:=(hV.below Z3 hb).turned Z3 ht2 (fun k _ h1 h2=>by have:=(ho k h2).2;have h1:wr.heap.size≤k∧k≠tb:=h1;omega)
 have hk:ZM 3 (FnP 20) 42 (fun j=>w4.heap.size≤j) w4.heap.size w9 a9 (fns.length+1) c9 (fns++[f]):=Z1Y.pushes (Z2 20) (hr.below (Z2 20) hb) rfl (cls:=[[Value.string f.name,.slice pa f.params.length pc,.slice ba f.body.length bc]]) (ys:=[f]) rfl (by intro cl hcl;simp at hcl;subst hcl;rfl) (fun i cl y h1 h2=>by
  match i with
  | 0=>
   cases h1;cases h2
   exact(Z2 20).below hb ((Z2 20).mono (fun k _ hk=>⟨by have hk:wr.heap.size≤k∧k≠tb:=hk;omega,fun e=>by have:=(ho k e).2;have hk:wr.heap.size≤k∧k≠tb:=hk;omega⟩) (ZaD (by omega:3≤20) h.p))
  | i+1=>cases h1) hown hg hlies
 have hrow9:w9.heap[bg]? = W.heap[bg]?:=ht2.block bg hGW.lts.2 (fun e=>by have:=(ho bg e).1;omega)
 have hrowW:W.heap[bg]? = w'.heap[bg]?:=hb.block bg hG.lts.2
 have htc:=Z4 w9 bg 1 (.slice a9 (fns.length+1) c9)
 have hkc:=hk.keep (Z2 20) (T:=fun k=>k=bg) htc (fun k h1 h2 h3=>by omega) (fun k h=>h)
 have hvC:=hvW.turned Z3 htc (fun k _ h1 h2=>by have h1:wr.heap.size≤k∧k≠tb:=h1;have h2:k=bg:=h2;omega)
 have hlen:(fns++[f]).length=fns.length+1:=by simp
 have h3':∀g∈fns++[f],g.params.length≤3:=fun g hg=>by
  rcases List.mem_append.1 hg with hg|hg
  ·exact h3 g hg
  ·rw [List.mem_singleton.1 hg];exact h.three
 have hT9:Ze (fun k=>k=br∨k=bg∨w4.heap.size≤k) w4 w9:=Ze.trans (S:=fun k=>k=br∨k=bg∨w4.heap.size≤k) ((ht.trans h.t).trans (Zf.below hb)) (ht2.mono (fun k hk=>.inr (.inr (ho k hk).1)))
 have hTC:Zf br bg w4 (w9.setCell ⟨bg,1,none⟩ (.slice a9 (fns.length+1) c9)):=Ze.trans (S:=fun k=>k=br∨k=bg∨w4.heap.size≤k) hT9 (htc.mono (fun k hk=>.inr (.inl hk)))
 refine⟨hrow9.trans hrowW,⟨va',vc',vars',next',left',?_,by
  have hb0:=hG.base
  have hl0:=hG.lts.1
  have hs0:=hb.size
  rw [Z0b (by omega),Z1u ht2 (by omega) (fun e=>by have:=(ho br e).1;omega),Zs hb hl0];exact hVF⟩,by rw [hlen];exact hkc,h3',hTC⟩
 obtain⟨p,h1,hp⟩:=hGW.rd
 have hbb:=hG.bnd
 have hT:=Ze.trans (S:=fun k=>k=bg∨w4.heap.size≤k) (ht2.mono (fun k hk=>.inr (ho k hk).1)) (htc.mono (fun k hk=>.inl hk))
 have hbg0:=hG.base
 refine⟨⟨p,h1,hp.bytes,hp.below.trans (hT.below (B:=w0.heap.size) hp.below.size (fun k hk=>by omega)),hp.base,(hT.block _ hp.lt (fun e=>by omega)).trans hp.blk⟩,?_,hG.base,hvC.mono Z3 (fun k _ h=>by have h:wr.heap.size≤k∧k≠tb:=h;omega),(hkc.list (Z2 20)).mono (Z2 20) (fun k _ h=>by have h:w4.heap.size≤k:=h.elim id id;omega),by refine⟨hbb.1,by rw [hlen];omega,h3',hbb.2.2.2.1,hbb.2.2.2.2.1,hbb.2.2.2.2.2.1,hbb.2.2.2.2.2.2⟩⟩
 rw [hlen]
 exact hSs w9 bg 1 _ _ _ ((hrow9.trans hrowW).trans hG.row)
theorem Zbc {m:Nat} (hm:m=0∨m=1):∃nm:ByteArray,(nm.size≤maxLen∧nm=Z9B m)∧∀(lo:Nat) (W:World) (b:Nat),Z5f lo W b (.cells #[.string ⟨#[102]⟩,.string ⟨#[103]⟩,.string ⟨#[104]⟩] 9)→W.cell? ⟨b,m,none⟩=some (.string nm):=by
 rcases hm with rfl|rfl
 ·exact⟨⟨#[102]⟩,⟨by decide,rfl⟩,fun lo W b h=>coR _ _ 0 _ _ _ h.1⟩
 ·exact⟨⟨#[103]⟩,⟨by decide,rfl⟩,fun lo W b h=>coR _ _ 1 _ _ _ h.1⟩
end
structure Cat (e:TypeId) (s:Nat) (w0:World) (cs:List Value) (A:Option (Value×Nat×List Value)) (B D:Option Nat) (W:World):Prop where
 below:Below w0.heap.size w0 W
 list:∀v n vs,A=some (v,n,vs)→W.ownsRow w0.heap.size e s v n vs∧∀k,v.ownBlock=some k→B≠some k∧D≠some k
 one:∀b,B=some b→W.heap[b]? = some (.cells cs.toArray e (0,0))∧w0.heap.size≤b∧D≠some b
 res:∀b,D=some b→W.heap[b]? = some (.cells #[.slice none 0 0] 25 (0,0))∧w0.heap.size≤b
section
variable {e:TypeId} {s:Nat} {w0 W w9:World} {cs:List Value} {A:Option (Value×Nat×List Value)} {B D:Option Nat}
theorem Cat.start (e:TypeId) (s:Nat) (w0:World) (cs:List Value):Cat e s w0 cs none none none w0.drew:=⟨(bRf _ _).drew,by rintro v n vs ⟨⟩,by rintro b ⟨⟩,by rintro b ⟨⟩⟩
theorem Cat.b_lt (h:Cat e s w0 cs A B D W) {b:Nat} (hb:B=some b):b<W.heap.size:=(gsI (h.one b hb).1).1
theorem Cat.d_lt (h:Cat e s w0 cs A B D W) {b:Nat} (hb:D=some b):b<W.heap.size:=(gsI (h.res b hb).1).1
theorem Cat.allocA (h:Cat e s w0 cs none B D W):Cat e s w0 cs (some (.slice (some ⟨W.heap.size,0,none⟩) 0 0,0,[])) B D (W.alloc (.cells #[] e)):=by
 have hba:Below W.heap.size W (W.alloc (.cells #[] e)):=(bRf _ _).alloc (Nat.le_refl _) _
 refine⟨h.below.trans (hba.mono h.below.size),?_,fun b hb=>⟨(hba.block b (h.b_lt hb)).trans (h.one b hb).1,(h.one b hb).2⟩,fun b hb=>⟨(hba.block b (h.d_lt hb)).trans (h.res b hb).1,(h.res b hb).2⟩⟩
 rintro v n vs ⟨⟩
 refine⟨Z0i W _ _ _ h.below.size,fun k hk=>⟨fun hb=>?_,fun hd=>?_⟩⟩
 ·have:=h.b_lt hb
  simp only [Value.ownBlock,Option.some.injEq] at hk
  omega
 ·have:=h.d_lt hd
  simp only [Value.ownBlock,Option.some.injEq] at hk
  omega
theorem Cat.allocB (h:Cat e s w0 cs A none D W):Cat e s w0 cs A (some W.heap.size) D (W.alloc (.cells cs.toArray e)):=by
 have hba:Below W.heap.size W (W.alloc (.cells cs.toArray e)):=(bRf _ _).alloc (Nat.le_refl _) _
 refine⟨h.below.trans (hba.mono h.below.size),fun v n vs hA=>⟨ZI (h.list v n vs hA).1 hba,fun k hk=>⟨fun e=>?_,((h.list v n vs hA).2 k hk).2⟩⟩,?_,fun b hb=>⟨(hba.block b (h.d_lt hb)).trans (h.res b hb).1,(h.res b hb).2⟩⟩
 ·have:=((h.list v n vs hA).1.lt k hk).2
  have:=Option.some.inj e
  omega
 ·rintro b ⟨⟩
  exact⟨hAn W _,h.below.size,fun e=>by have:=h.d_lt e;omega⟩
theorem Cat.allocD (h:Cat e s w0 cs A B none W):Cat e s w0 cs A B (some W.heap.size) (W.alloc (.cells #[.slice none 0 0] 25)):=by
 have hba:Below W.heap.size W (W.alloc (.cells #[.slice none 0 0] 25)):=(bRf _ _).alloc (Nat.le_refl _) _
 refine⟨h.below.trans (hba.mono h.below.size),fun v n vs hA=>⟨ZI (h.list v n vs hA).1 hba,fun k hk=>⟨((h.list v n vs hA).2 k hk).1,fun e=>?_⟩⟩,fun b hb=>⟨(hba.block b (h.b_lt hb)).trans (h.one b hb).1,(h.one b hb).2.1,fun e=>?_⟩,?_⟩
 ·have:=((h.list v n vs hA).1.lt k hk).2
  have:=Option.some.inj e
  omega
 ·have:=h.b_lt hb
  have:=Option.some.inj e
  omega
 ·rintro b ⟨⟩
  exact⟨hAn W _,h.below.size⟩
theorem Cat.app {v v':Value} {n n':Nat} {vs vs':List Value} (h:Cat e s w0 cs (some (v,n,vs)) B D W) (hown:w9.ownsRow w0.heap.size e s v' n' vs') (hg:W.grownBy w9 v.ownBlock) (hl:v'.ownBlock=v.ownBlock∨v'.ownBlock=some W.heap.size) :
  Cat e s w0 cs (some (v',n',vs')) B D w9:=by
 obtain⟨h1,h2⟩:=h.list v n vs rfl
 refine⟨h.below.grown hg h.below.size (fun i hi=>(h1.lt i hi).1),?_,fun b hb=>⟨(hg.block b (h.b_lt hb) (fun e=>(h2 b e.symm).1 hb)).trans (h.one b hb).1,(h.one b hb).2⟩,fun b hb=>⟨(hg.block b (h.d_lt hb) (fun e=>(h2 b e.symm).2 hb)).trans (h.res b hb).1,(h.res b hb).2⟩⟩
 rintro v2 n2 vs2 ⟨⟩
 refine⟨hown,fun k hk=>?_⟩
 rcases hl with hl|hl
 ·exact h2 k (hl▸hk)
 ·rw [hl] at hk
  have hk:=Option.some.inj hk
  exact⟨fun e=>by have:=h.b_lt e;omega,fun e=>by have:=h.d_lt e;omega⟩
theorem Cat.store {n db:Nat} {vs:List Value} {a9:Option Addr} {c9:Nat} (h:Cat e s w0 cs (some (.slice a9 n c9,n,vs)) B (some db) W) :
  Below w0.heap.size w0 (W.setCell ⟨db,0,none⟩ (.slice a9 n c9))∧(W.setCell ⟨db,0,none⟩ (.slice a9 n c9)).heap[db]? = some (.cells #[.slice a9 n c9] 25 (0,0))∧w0.heap.size≤db∧(W.setCell ⟨db,0,none⟩ (.slice a9 n c9)).ownsRow w0.heap.size e s (.slice a9 n c9) n vs∧∀k,(Value.slice a9 n c9).ownBlock=some k→k≠db:=by
 obtain⟨h1,h2⟩:=h.list _ _ _ rfl
 obtain⟨h3,h4⟩:=h.res db rfl
 have ht:=Z4 W db 0 (.slice a9 n c9)
 exact⟨h.below.trans (ht.below (B:=w0.heap.size) h.below.size (fun k hk=>by have hk:k=db:=hk;omega)),(hSs W db 0 _ _ _ h3).trans rfl,h4,Z45 h1 ht (fun k hk e=>(h2 k hk).2 (by have e:k=db:=e;rw [e])),fun k hk e=>(h2 k hk).2 (by rw [e])⟩
end
theorem Z7B {α : Type} {s:Nat} {R:Z2u α} (hR:Z1g s R) {e:TypeId} {S:Nat→Prop} {lo:Nat} {w0 W:World} {a:Option Addr} {n c:Nat} {xs:List α} {cells:List (List Value)} (hown:W.ownsRow lo e s (.slice a n c) n cells.flatten) (hb:Below w0.heap.size w0 W) (hn:xs.length=n) (hcl:cells.length=n) (hc:∀cl∈cells,cl.length=s)
  (hx:∀(i:Nat) cl x,cells[i]? = some cl→xs[i]? = some x→R S w0 cl x):Za s R (fun k=>S k∨(Value.slice a n c).ownBlock=some k) W a xs:=by
 refine⟨⟨rfl,cells,Z2k hown,by omega,hc,fun i cl x h1 h2=>hR.mono (fun k _ h=>.inl h) (hR.below hb (hx i cl x h1 h2))⟩,fun hne=>?_⟩
 rcases hown.2 with⟨hv,h0⟩|⟨g,cap,cur,hv,hbg,hgg,_⟩
 ·exfalso
  exact hne (List.length_eq_zero_iff.1 (by omega))
 ·simp only [Value.slice.injEq] at hv
  exact⟨g,0,hv.1,.inr (by rw [hv.1];rfl),(gsI hgg).1⟩
theorem Z8U {w0 w w7 w9:World} {br rb len cap U p0:Nat} {a0:Option Addr} {bs:List Int} {a:Option Addr} {c m:Nat} {ps:List FnD} (hrd:∃p9,p9≤U∧Rd w0 w7 br a0 len cap bs p9) (ht:Zd br w w7) (hb:Below w7.heap.size w7 w9) (h1:w.heap.size≤rb) (h2:w0.heap.size≤w.heap.size∧br<w.heap.size)
  (hm:ps.length=m) (hm1:1≤m) (hm3:m≤3) (hok:Z0C ps=true) (hl:Za 3 (FnP 20) (fun k=>w.heap.size≤k∧k≠rb) w9 a ps) (hF:Z2M bs p0=(ps,Z5 w7 br)) :
  ∃(pa:Option Addr) (pc:Nat) (qs:List FnD) (q:Nat),Ending.returned (.agg (List.toArray [.slice a m c]))=.returned (.agg (List.toArray [.slice pa qs.length pc]))∧1≤qs.length∧qs.length≤3∧Z0C qs=true∧Za 3 (FnP 20) (fun k=>w.heap.size≤k) (w9.setCell ⟨rb,0,none⟩ (.slice a m c)) pa qs∧q≤U∧Rd w0 (w9.setCell ⟨rb,0,none⟩ (.slice a m c)) br a0 len cap bs q∧Zd br w (w9.setCell ⟨rb,0,none⟩ (.slice a m c))∧Z2M bs p0=(qs,q):=by
 obtain⟨p9,hp9,hr⟩:=hrd
 have hts:=Z4 w9 rb 0 (.slice a m c)
 have hr9:=hr.later' hb
 have ht9:Zd br w w9:=ht.trans (Zd.below hb)
 subst hm
 refine⟨a,c,ps,p9,rfl,hm1,hm3,hok,(hl.turned (Z2 20) hts (fun k _ h=>h.2)).mono (Z2 20) (fun k _ h=>h.1),hp9,⟨hr9.bytes,hr9.below.trans (hts.below (B:=w0.heap.size) hr9.below.size (fun k hk=>by have hk:k=rb:=hk;omega)),hr9.base,(hts.block _ hr9.lt (fun e=>by have e:br=rb:=e;omega)).trans hr9.blk⟩,?_,by rw [hF,hr.pos]⟩
 exact Ze.trans (S:=fun k=>k=br∨w.heap.size≤k) ht9 (hts.mono (fun k hk=>.inr (by have hk:k=rb:=hk;omega)))
theorem Z51 {W:World} {b:Nat} {cs:List Value} {t:TypeId} (h:W.heap[b]? = some (.cells cs.toArray t (0,0))):Z0g W (some ⟨b,0,none⟩) [cs].flatten:=by
 refine .inr ⟨b,0,rfl,fun i v hv=>?_⟩
 rw [coR _ _ (0+i) _ _ _ h]
 simpa using hv
section
variable {w0 w w':World} {br bg:Nat} {a:Option Addr} {len cap:Nat} {bs:List Int} {fa:Option Addr} {fc:Nat} {fns:List FnD} {va:Option Addr} {vc:Nat} {vars:List ByteArray} {next left:Int} {u:Nat} {wr:World}
theorem GSt.start {p:Nat} (h:Rd w0 w br a len cap bs p) (hp:p≤u) (hl:left=14∨left=20∨left=8∨left=26):GSt w0 br w.heap.size a len cap bs none 0 [] u none 0 [] 0 left (w.alloc (.cells #[.pointer (some ⟨br,0,none⟩),.slice none 0 0,.slice none 0 0,.int .i64 0,.int .i64 left] 71)):=
 ⟨⟨p,hp,h.later' ((bRf _ _).alloc (Nat.le_refl _) _)⟩,hAn w _,⟨h.below.size,h.lt⟩,Za.nil _ _ _,Za.nil _ _ _,⟨Nat.zero_le _,by decide,by simp,by omega,by omega,by omega,by omega⟩⟩
theorem Zd.turn2 (h:Zd br w wr) (ht:Zf br bg wr w') (hbg:w.heap.size≤bg):Zd br w w':=by
 have h1:Ze (fun k=>k=br∨w.heap.size≤k) w wr:=h
 have hs:w.heap.size≤wr.heap.size:=h1.size
 have h2:Ze (fun k=>k=br∨k=bg∨wr.heap.size≤k) wr w':=ht
 exact Ze.trans h1 (h2.mono (fun k hk=>by omega))
theorem Z5S (hlen:len≤2000) (p U:Nat) (w:World) (h:Rd w0 w br a len cap bs p) (hU:p+620000≤U) (hp:U≤1990000) :
  Calls Tryz.prog 12 #[.pointer (some ⟨br,0,none⟩)] w fun e w'=>∃(pa:Option Addr) (pc:Nat) (ps:List FnD) (q:Nat),e=.returned (.agg (List.toArray [.slice pa ps.length pc]))∧1≤ps.length∧ps.length≤3∧Z0C ps=true∧Za 3 (FnP 20) (fun k=>w.heap.size≤k) w' pa ps∧q≤U∧Rd w0 w' br a len cap bs q∧Zd br w w'∧Z2M bs p=(ps,q):=by
 have HP:=hdd (show p+620000≤1990000 from Nat.le_trans hU hp)
 have HUU:=hdd hU
 have HL:=hdd (show br<w.heap.size∧w0.heap.size≤w.heap.size from⟨h.lt,h.below.size⟩)
 have hba:Below w.heap.size w (w.alloc (.cells #[.slice none 0 0] 25)):=(bRf _ _).alloc (Nat.le_refl _) _
 have H1:=hdd (aI (h.later' hba) (aI (hAn w (.cells #[.slice none 0 0] 25)) (aI (World.size_alloc w (.cells #[.slice none 0 0] 25)) hba)))
 clear hp h hba hU
 go_enter Tryz.func12,Tryz.ntmps12
 go_upto_region 1 with fail
 obtain⟨rb,hrb⟩:∃n,n=w.heap.size:=⟨_,rfl⟩
 generalize w.alloc (.cells #[.slice none 0 0] 25)=w1 at H1 ⊢
 have HR1:=hdd (show w1.heap[rb]? = some (.cells #[.slice none 0 0] 25 (0,0)) from by rw [hrb];exact H1.out.2.1)
 rw [← hrb]
 have HRB:=hdd hrb
 clear hrb
 go_wp2_with fail
 refine(Z1e w0 _ br a len cap bs p w1.heap.size 4 4 [14,20,8,26] (H1.out.1.later' ((bRf _ _).alloc (Nat.le_refl _) _)) (Z7w w1 [14,20,8,26]) (by have:=HL.out;have:=H1.out.2.2.1;omega) (by omega) hlen (by have:=HP.out;omega)).mono ?_
 rintro e w2 ⟨v,hv,rfl,hrd2,hg2,hF2⟩
 have HF2:=hdd hF2
 have HT2:=hdd (show Zd br w w2 from(Zd.below H1.out.2.2.2).trans ((Zd.below ((bRf w1.heap.size w1).alloc (Nat.le_refl _) _)).trans (Zd.grown hg2)))
 have HR2:=hdd (show w2.heap[rb]? = some (.cells #[.slice none 0 0] 25 (0,0)) from by
  have hb1:=((bRf w1.heap.size w1).alloc (Nat.le_refl _) (.cells #[.int .i64 14,.int .i64 20,.int .i64 8,.int .i64 26] 3))
  have hlt:=(gsI HR1.out).1
  exact((Zd.grown hg2).block (Nat.lt_of_lt_of_le hlt hb1.size) (by have:=HL.out;have:=HRB.out;omega)).trans ((hb1.block rb hlt).trans HR1.out))
 simp only [List.mem_cons,List.not_mem_nil,or_false] at hv
 have HG:=hdd (GSt.start (u:=p+1) hrd2 (Nat.le_refl _) hv)
 have HBG:=hdd (show rb<w2.heap.size∧w.heap.size≤w2.heap.size from⟨(gsI HR2.out).1,HT2.out.size⟩)
 have HT3:=hdd (HT2.out.trans (Zd.below ((bRf w2.heap.size w2).alloc (Nat.le_refl _) (.cells #[.pointer (some ⟨br,0,none⟩),.slice none 0 0,.slice none 0 0,.int .i64 0,.int .i64 v] 71))))
 have HR3:=hdd ((((bRf w2.heap.size w2).alloc (Nat.le_refl _) (.cells #[.pointer (some ⟨br,0,none⟩),.slice none 0 0,.slice none 0 0,.int .i64 0,.int .i64 v] 71)).block rb HBG.out.1).trans HR2.out)
 have HQ3:=hdd (show Z5 (w2.alloc (.cells #[.pointer (some ⟨br,0,none⟩),.slice none 0 0,.slice none 0 0,.int .i64 0,.int .i64 v] 71)) br=p+1 from by rw [Zo hrd2.lt,hrd2.pos])
 clear hF2 hv hrd2 hg2 H1 HR1 HR2 HT2
 go_upto_region 2 with fail
 obtain⟨bg,hbg⟩:∃n,n=w2.heap.size:=⟨_,rfl⟩
 generalize w2.alloc (.cells #[.pointer (some ⟨br,0,none⟩),.slice none 0 0,.slice none 0 0,.int .i64 0,.int .i64 v] 71)=w3 at HG HT3 HR3 HQ3 ⊢
 rw [← hbg] at HG HBG ⊢
 clear hbg
 obtain⟨q,hq,hrd⟩:=HG.out.rd
 have HQ:=hdd hq
 go_wp2_with fail
 refine(Z1e w0 _ br a len cap bs q w3.heap.size 4 4 [0,1,1,2] (hrd.later' ((bRf _ _).alloc (Nat.le_refl _) _)) (Z7w w3 [0,1,1,2]) (by have:=HG.out.lts;omega) (by omega) hlen (by have:=HP.out;have:=HQ.out;omega)).mono ?_
 rintro e w4 ⟨i,hi,rfl,hrd4,hg4,hF4⟩
 have hV4:Z2Y bs [0,1,1,2] (p+1)=i∧Z5 w4 br=p+2:=by
  have e1:=hrd.pos
  have e2:=HQ3.out
  have e3:=hrd4.pos
  rw [e1] at e2
  subst e2
  exact⟨hF4,e3⟩
 clear hF4
 have HS4:=hdd (show GSt w0 br bg a len cap bs none 0 [] (p+2) none 0 [] 0 v w4∧Zf br bg w3 w4 from⟨(HG.out.alloc _).step (Zd.grown hg4) hrd4 (by have:=HQ.out;omega) (by omega),(Zf.alloc w3 _).trans (Zf.of (Zd.grown hg4))⟩)
 obtain⟨k0,rfl,hk0⟩:∃k0:Nat,i=(k0:Int)∧k0≤2:=by
  simp only [List.mem_cons,List.not_mem_nil,or_false] at hi
  exact⟨i.toNat,by omega,by omega⟩
 have HV4:=hdd hV4
 clear hi hrd4 hg4 hrd hq hV4
 obtain⟨cF,hcF⟩:∃c:Nat,c=204810:=⟨_,rfl⟩
 have HCF:=hdd hcF
 clear hcF
 go_wp2_with fail
 go_loopg [4] k0 (fun G i wr=>∃(k:Nat) (fa:Option Addr) (fc:Nat) (fns:List FnD) (va:Option Addr) (vc:Nat) (vars:List ByteArray) (next left:Int),k=G∧i=.int .i64 k∧Hid (k≤k0∧fns.length+k=k0∧GSt w0 br bg a len cap bs fa fc fns (p+2+(k0-k)*cF) va vc vars next left wr∧ZM 3 (FnP 20) 42 (fun j=>w4.heap.size≤j) w4.heap.size wr fa fns.length fc fns∧(∀f∈fns,f.params.length≤3)∧Zf br bg w4 wr∧Zby bs k fns (Z5 wr br) left=Zby bs k0 [] (Z5 w4 br) v))
 case atStart=>exact⟨k0,none,0,[],none,0,[],0,v,rfl,rfl,hdd ⟨Nat.le_refl _,by simp,by rw [Nat.sub_self,Nat.zero_mul];exact HS4.out.1,ZM.nil _ _ _,by simp,Zf.refl _ _ _,rfl⟩⟩
 case round=>
  obtain⟨k,fa,fc,fns,va,vc,vars,next,left,rfl,rfl,HR⟩:=hrel
  have HC:=hdd (show(k0-k)*cF≤2*cF from Nat.mul_le_mul_right _ (by omega))
  by_cases hk:k=0
  ·have hkI:decide ((0:Int)<(k:Int))=false:=decide_eq_false (by omega)
   have hkd:decide (0<k)=false:=decide_eq_false (by omega)
   have hkn:¬0<k:=by omega
   obtain⟨q,hq,hrd⟩:=HR.out.2.2.1.rd
   have HK0:=hdd (aI hk hk0)
   have HU2:=hdd (show p+2+(k0-k)*cF+204810≤1990000∧p+2+(k0-k)*cF+204810≤U from by have:=HC.out;have:=HCF.out;have:=HUU.out;have:=HP.out;omega)
   obtain⟨U1,hU1⟩:∃U1,U1=p+2+(k0-k)*cF:=⟨_,rfl⟩
   rw [← hU1] at HU2 hq
   have HGR:=hdd (show GSt w0 br bg a len cap bs fa fc fns U1 va vc vars next left wr from by rw [hU1];exact HR.out.2.2.1)
   have HQ2:=hdd hq
   have HFS:=hdd (show Zby bs k0 [] (p+2) v=(fns,Z5 wr br,left) from by have h:=HR.out.2.2.2.2.2.2;rw [HV4.out.2,hk] at h;exact h.symm)
   clear hk hk0 hU1 hq
   go_wp2_with fail
   refine(Z1e w0 _ br a len cap bs q wr.heap.size 4 4 [0,1,2,1] (hrd.later' ((bRf _ _).alloc (Nat.le_refl _) _)) (Z7w wr [0,1,2,1]) (by have:=HGR.out.lts;omega) (by omega) hlen (by have:=HQ2.out;have:=HU2.out;omega)).mono ?_
   rintro e w5 ⟨i5,hi5,rfl,hrd5,hg5,hF5⟩
   have hV5:Z2Y bs [0,1,2,1] (Z5 wr br)=i5∧Z5 w5 br=Z5 wr br+1:=by rw [hrd.pos,hrd5.pos];exact⟨hF5,rfl⟩
   clear hF5
   have HS5:=hdd (show GSt w0 br bg a len cap bs fa fc fns (U1+1) va vc vars next left w5∧Zf br bg wr w5 from⟨(HGR.out.alloc _).step (Zd.grown hg5) hrd5 (by have:=HQ2.out;omega) (by omega),(Zf.alloc wr _).trans (Zf.of (Zd.grown hg5))⟩)
   obtain⟨n5,rfl,hn5⟩:∃n5:Nat,i5=(n5:Int)∧n5≤3:=by
    simp only [List.mem_cons,List.not_mem_nil,or_false] at hi5
    exact⟨i5.toNat,by omega,by omega⟩
   have HV5:=hdd hV5
   clear hi5 hrd5 hg5 hrd hV5
   go_wp2_with fail
   refine(Za2 hlen ⟨#[109]⟩ (by decide) n5 hn5 (U1+1) w5 HS5.out.1 (by have:=HU2.out;omega)).mono ?_
   rintro e w6 ⟨pa,ba,va',pc,bc,vc',f,vars',next',left',rfl,h1,h2,h3,h4,h5,h6⟩
   have hba:Below w6.heap.size w6 (w6.alloc (.cells #[.string f.name,.slice pa f.params.length pc,.slice ba f.body.length bc] 42)):=(bRf _ _).alloc (Nat.le_refl _) _
   have hT6:Zf br bg wr w6:=HS5.out.2.trans h5
   have hL4:br<w4.heap.size∧bg<w4.heap.size∧w.heap.size≤w4.heap.size:=⟨HS4.out.1.lts.1,HS4.out.1.lts.2,by have:=HT3.out.size;have:=HS4.out.2.size;omega⟩
   have hs4:=HR.out.2.2.2.2.2.1.size
   have H7:=hdd (show(∃p9,p9≤U∧Rd w0 (w6.alloc (.cells #[.string f.name,.slice pa f.params.length pc,.slice ba f.body.length bc] 42)) br a len cap bs p9)∧
     FnP 3 (fun k=>w.heap.size≤k∧k≠rb∧k<(w6.alloc (.cells #[.string f.name,.slice pa f.params.length pc,.slice ba f.body.length bc] 42)).heap.size) (w6.alloc (.cells #[.string f.name,.slice pa f.params.length pc,.slice ba f.body.length bc] 42)) [.string f.name,.slice pa f.params.length pc,.slice ba f.body.length bc] f∧
     Za 3 (FnP 20) (fun k=>w.heap.size≤k∧k≠rb∧k<(w6.alloc (.cells #[.string f.name,.slice pa f.params.length pc,.slice ba f.body.length bc] 42)).heap.size) (w6.alloc (.cells #[.string f.name,.slice pa f.params.length pc,.slice ba f.body.length bc] 42)) fa fns∧
     Zd br w (w6.alloc (.cells #[.string f.name,.slice pa f.params.length pc,.slice ba f.body.length bc] 42))∧
     (w6.alloc (.cells #[.string f.name,.slice pa f.params.length pc,.slice ba f.body.length bc] 42)).heap[rb]? = some (.cells #[.slice none 0 0] 25 (0,0))∧
     (w6.alloc (.cells #[.string f.name,.slice pa f.params.length pc,.slice ba f.body.length bc] 42)).cell? ⟨bg,1,none⟩=some (.slice fa fns.length fc)∧
     (w6.alloc (.cells #[.string f.name,.slice pa f.params.length pc,.slice ba f.body.length bc] 42)).heap[w6.heap.size]? = some (.cells #[.string f.name,.slice pa f.params.length pc,.slice ba f.body.length bc] 42 (0,0))∧f.params.length≤3∧fns.length≤2∧(rb<w.heap.size+1∧w.heap.size≤rb∧br<w.heap.size∧bg<w6.heap.size+1)∧(fa=none→fc=0) from by
    have hrbw:rb=w.heap.size:=HRB.out
    have hbr:br<w.heap.size:=HL.out.1
    have hbgw:w.heap.size<bg:=by
     have:=HBG.out
     have h9:=HT3.out.size
     omega
    have hs5:=HS5.out.2.size
    have hs6:=h5.size
    have hsz:=World.size_alloc w6 (.cells #[.string f.name,.slice pa f.params.length pc,.slice ba f.body.length bc] 42)
    have hw3:rb<w3.heap.size:=(gsI HR3.out).1
    have hw34:=HS4.out.2.size
    have hT36:Zf br bg w3 w6:=(HS4.out.2.trans HR.out.2.2.2.2.2.1).trans hT6
    refine⟨?_,?_,?_,?_,?_,(h3.later hba).c1,hAn w6 _,h2,by have:=HR.out.2.1;have:=HK0.out;omega,⟨by omega,by omega,hbr,by omega⟩,by rintro rfl;obtain⟨cells,k1,-⟩:=HR.out.2.2.2.1.row;exact Zcb k1⟩
    ·obtain⟨p9,hp9,hrd9⟩:=h3.rd
     exact⟨p9,by have:=HU2.out;omega,hrd9.later' hba⟩
    ·exact(Z2 3).below hba ((Z2 3).mono (fun k hk h=>by have h:w5.heap.size≤k:=h;omega) h1)
    ·have hl:=(hT6.list (Z2 20) (HR.out.2.2.2.1.list (Z2 20)) (fun k h=>by have h:w4.heap.size≤k:=h.elim id id;omega))
     exact(hl.mono (Z2 20) (fun k hk h=>by have h:w4.heap.size≤k:=h.elim id id;exact⟨by omega,by omega,by omega⟩)).below (Z2 20) hba
    ·exact(HT3.out.turn2 hT36 (by omega)).trans (Zd.below hba)
    ·exact(hba.block rb (by omega)).trans ((hT36.block hw3 (by omega) (by omega)).trans HR3.out))
   have HE:=hdd (aI HL.out HRB.out)
   have HPF:=hdd (show Z2M bs p=(if Z0C (fns++[f])=true then fns++[f] else Zd0,Z5 (w6.alloc (.cells #[.string f.name,.slice pa f.params.length pc,.slice ba f.body.length bc] 42)) br) from by
    rw [Zo h3.lts.1]
    rw [HV5.out.2] at h6
    exact ZbI HF2.out HV4.out.1 HFS.out HV5.out.1 h6)
   clear HF2 HV4 HFS HV5 HQ3 h6 h1 h2 h3 h4 h5 hba hT6 hL4 hs4 HS5 HR HGR HU2 HQ2 HS4 HC HCF HQ HT3 HR3 HG HBG HP HUU HK0 HL HRB
   go_upto_region 8 with fail
   obtain⟨tb,htb⟩:∃n,n=w6.heap.size:=⟨_,rfl⟩
   generalize w6.alloc (.cells #[.string f.name,.slice pa f.params.length pc,.slice ba f.body.length bc] 42)=w7 at H7 HPF ⊢
   rw [← htb] at H7 ⊢
   clear htb
   obtain⟨cells0,k1,k2,k3,k4⟩:=(H7.out.2.2.1).rd.2
   have HROW0:=hdd k1
   have HC0N:=hdd k2
   have HCL0:=hdd k3
   have HEL0:=hdd k4
   clear k1 k2 k3 k4
   have HONE0:=hdd (show ∀cl∈cells0,∀u∈cl,u.oneCell'=true from fun cl hcl=>by
    obtain⟨i,hi,he⟩:=List.getElem_of_mem hcl
    have hi2:i<fns.length:=by have:=HC0N.out;omega
    exact Z28 (HEL0.out i cl _ (by rw [List.getElem?_eq_getElem hi,he]) (List.getElem?_eq_getElem hi2)))
   have HCL1:=hdd (show ∀cl∈([[.string f.name,.slice pa f.params.length pc,.slice ba f.body.length bc]]:List (List Value)),cl.length=3 from fun cl hcl=>by rw [List.mem_singleton.1 hcl];rfl)
   have HONE1:=hdd (show ∀cl∈([[.string f.name,.slice pa f.params.length pc,.slice ba f.body.length bc]]:List (List Value)),∀u∈cl,u.oneCell'=true from fun cl hcl=>by rw [List.mem_singleton.1 hcl];exact Z28 H7.out.2.1)
   have HN0:=hdd (show 0+fns.length≤1099511627776 from by have:=H7.out.2.2.2.2.2.2.2.2.1;omega)
   have HN1:=hdd (show fns.length+1≤1099511627776 from by have:=H7.out.2.2.2.2.2.2.2.2.1;omega)
   have HNIL0:=hdd H7.out.2.2.2.2.2.2.2.2.2.2
   have HKP:=hdd (show ∀W,Below w7.heap.size w7 W→(W.cell? ⟨bg,1,none⟩=some (.slice fa fns.length fc)∧W.cell? ⟨tb,0,none⟩=some (.string f.name)∧W.cell? ⟨tb,1,none⟩=some (.slice pa f.params.length pc)∧W.cell? ⟨tb,2,none⟩=some (.slice ba f.body.length bc)) from fun W hW=>by
    have t0:=coR _ _ 0 _ _ _ H7.out.2.2.2.2.2.2.1
    have t1:=coR _ _ 1 _ _ _ H7.out.2.2.2.2.2.2.1
    have t2:=coR _ _ 2 _ _ _ H7.out.2.2.2.2.2.2.1
    exact⟨clT hW H7.out.2.2.2.2.2.1,clT hW t0,clT hW t1,clT hW t2⟩)
   go_cut [7] (fun v7 wx=>∃(db:Nat) (a9:Option Addr) (c9:Nat),v7=.pointer (some ⟨db,0,none⟩)∧Hid (Below w7.heap.size w7 wx∧wx.heap[db]? = some (.cells #[.slice a9 (fns.length+1) c9] 25 (0,0))∧w7.heap.size≤db∧wx.ownsRow w7.heap.size 42 3 (.slice a9 (fns.length+1) c9) (fns.length+1) (cells0.flatten++[[.string f.name,.slice pa f.params.length pc,.slice ba f.body.length bc]].flatten)∧∀k,(Value.slice a9 (fns.length+1) c9).ownBlock=some k→k≠db))
   case first=>
    refine wp_region_held_drew (S:=(fun W=>W.cell? ⟨bg,1,none⟩=some (.slice fa fns.length fc)∧W.cell? ⟨tb,0,none⟩=some (.string f.name)∧W.cell? ⟨tb,1,none⟩=some (.slice pa f.params.length pc)∧W.cell? ⟨tb,2,none⟩=some (.slice ba f.body.length bc))) (by kernel_rfl) (HKP.out _ (bRf _ _).drew) (fun hHeld=>?_)
    refine tkH 1 (some 49) hHeld ?_
    (try simp only [Act.put,pu1,pu2,pu3])
    refine tkH 2 (some 50) hHeld ?_
    (try simp only [Act.put,pu1,pu2,pu3])
    refine tkH 3 (some 51) hHeld ?_
    (try simp only [Act.put,pu1,pu2,pu3])
    refine tkH 4 (some 52) hHeld ?_
    (try simp only [Act.put,pu1,pu2,pu3])
    refine tkH 6 (some 54) hHeld ?_
    (try simp only [Act.put,pu1,pu2,pu3])
    have HC0:=hdd (Cat.start 42 3 w7 [.string f.name,.slice pa f.params.length pc,.slice ba f.body.length bc])
    generalize w7.drew=w0y at HC0 hHeld ⊢
    refine wpAnyH_ready (rs:=[0,7,10]) (by kernel_rfl) (by simp) ?_
    refine(AllReadyH.cons (o:=⟨some 48,_,_,_,_,_⟩) rfl (fun K hK=>?_) (AllReadyH.cons (o:=⟨some 55,_,_,_,_,_⟩) rfl (fun K hK=>?_) (AllReadyH.cons (o:=⟨some 7,_,_,_,_,_⟩) rfl (fun K hK=>?_) AllReadyH.nil)))
    focus
     go_simp
     have HC1:=hdd (HC0.out.allocA)
     refine hK.out _ _ (HKP.out _ HC1.out.below) ?_;clear hK K hHeld;intro hHeld
     (try simp only [Act.put,pu1,pu2,pu3])
     generalize w0y.alloc (.cells #[] 42)=w1y at HC1 hHeld ⊢
     generalize w0y.heap.size=ab at HC1 ⊢
     have hs:=hdd (show(1:Nat)=1 from rfl)
    rotate_left
    focus
     go_simp
     have HC1:=hdd (HC0.out.allocB)
     refine hK.out _ _ (HKP.out _ HC1.out.below) ?_;clear hK K hHeld;intro hHeld
     (try simp only [Act.put,pu1,pu2,pu3])
     generalize w0y.alloc (.cells #[.string f.name,.slice pa f.params.length pc,.slice ba f.body.length bc] 42)=w1y at HC1 hHeld ⊢
     generalize w0y.heap.size=bb at HC1 ⊢
     have hs:=hdd (show(2:Nat)=2 from rfl)
    rotate_left
    focus
     go_simp
     have HC1:=hdd (HC0.out.allocD)
     refine hK.out _ _ (HKP.out _ HC1.out.below) ?_;clear hK K hHeld;intro hHeld
     (try simp only [Act.put,pu1,pu2,pu3])
     generalize w0y.alloc (.cells #[.slice none 0 0] 25)=w1y at HC1 hHeld ⊢
     generalize w0y.heap.size=db at HC1 ⊢
     have hs:=hdd (show(3:Nat)=3 from rfl)
    rotate_left
    all_goals
     first
     |
      guard_hyp hs:Hid ((1:Nat)=1)
      clear hs
      refine wpAnyH_ready (rs:=[5,7,10]) (by kernel_rfl) (by simp) ?_
      refine(AllReadyH.cons (o:=⟨some 53,_,_,_,_,_⟩) rfl (fun K hK=>?_) (AllReadyH.cons (o:=⟨some 55,_,_,_,_,_⟩) rfl (fun K hK=>?_) (AllReadyH.cons (o:=⟨some 7,_,_,_,_,_⟩) rfl (fun K hK=>?_) AllReadyH.nil)))
      focus
       refine Z11 rfl (.tmp 48) (.tmp 52) rfl w7.heap.size _ 0 [] rfl (HC1.out.list _ _ _ rfl).1 fa fns.length fc cells0 rfl (HROW0.out.later HC1.out.below) HC0N.out HCL0.out HNIL0.out HONE0.out HN0.out HC1.out.below.size ?_
       intro a5 c5 w2y hown5 hg5 hlies5
       simp only [Nat.zero_add,List.nil_append] at hown5 hlies5 ⊢
       have HC2:=hdd (HC1.out.app hown5 hg5 hlies5)
       clear hown5 hg5 hlies5
       refine hK.out _ _ (HKP.out _ HC2.out.below) ?_;clear hK K hHeld;intro hHeld
       (try simp only [Act.put,pu1,pu2,pu3])
       have hs:=hdd (show(4:Nat)=4 from rfl)
      rotate_left
      focus
       go_simp
       have HC2:=hdd (HC1.out.allocB)
       refine hK.out _ _ (HKP.out _ HC2.out.below) ?_;clear hK K hHeld;intro hHeld
       (try simp only [Act.put,pu1,pu2,pu3])
       generalize w1y.alloc (.cells #[.string f.name,.slice pa f.params.length pc,.slice ba f.body.length bc] 42)=w2y at HC2 hHeld ⊢
       generalize w1y.heap.size=bb at HC2 ⊢
       have hs:=hdd (show(5:Nat)=5 from rfl)
      rotate_left
      focus
       go_simp
       have HC2:=hdd (HC1.out.allocD)
       refine hK.out _ _ (HKP.out _ HC2.out.below) ?_;clear hK K hHeld;intro hHeld
       (try simp only [Act.put,pu1,pu2,pu3])
       generalize w1y.alloc (.cells #[.slice none 0 0] 25)=w2y at HC2 hHeld ⊢
       generalize w1y.heap.size=db at HC2 ⊢
       have hs:=hdd (show(6:Nat)=6 from rfl)
      rotate_left
     |
      guard_hyp hs:Hid ((2:Nat)=2)
      clear hs
      refine wpAnyH_ready (rs:=[0,10]) (by kernel_rfl) (by simp) ?_
      refine(AllReadyH.cons (o:=⟨some 48,_,_,_,_,_⟩) rfl (fun K hK=>?_) (AllReadyH.cons (o:=⟨some 7,_,_,_,_,_⟩) rfl (fun K hK=>?_) AllReadyH.nil))
      focus
       go_simp
       have HC2:=hdd (HC1.out.allocA)
       refine hK.out _ _ (HKP.out _ HC2.out.below) ?_;clear hK K hHeld;intro hHeld
       (try simp only [Act.put,pu1,pu2,pu3])
       generalize w1y.alloc (.cells #[] 42)=w2y at HC2 hHeld ⊢
       generalize w1y.heap.size=ab at HC2 ⊢
       have hs:=hdd (show(5:Nat)=5 from rfl)
      rotate_left
      focus
       go_simp
       have HC2:=hdd (HC1.out.allocD)
       refine hK.out _ _ (HKP.out _ HC2.out.below) ?_;clear hK K hHeld;intro hHeld
       (try simp only [Act.put,pu1,pu2,pu3])
       generalize w1y.alloc (.cells #[.slice none 0 0] 25)=w2y at HC2 hHeld ⊢
       generalize w1y.heap.size=db at HC2 ⊢
       have hs:=hdd (show(7:Nat)=7 from rfl)
      rotate_left
     |
      guard_hyp hs:Hid ((3:Nat)=3)
      clear hs
      refine wpAnyH_ready (rs:=[0,7]) (by kernel_rfl) (by simp) ?_
      refine(AllReadyH.cons (o:=⟨some 48,_,_,_,_,_⟩) rfl (fun K hK=>?_) (AllReadyH.cons (o:=⟨some 55,_,_,_,_,_⟩) rfl (fun K hK=>?_) AllReadyH.nil))
      focus
       go_simp
       have HC2:=hdd (HC1.out.allocA)
       refine hK.out _ _ (HKP.out _ HC2.out.below) ?_;clear hK K hHeld;intro hHeld
       (try simp only [Act.put,pu1,pu2,pu3])
       generalize w1y.alloc (.cells #[] 42)=w2y at HC2 hHeld ⊢
       generalize w1y.heap.size=ab at HC2 ⊢
       have hs:=hdd (show(6:Nat)=6 from rfl)
      rotate_left
      focus
       go_simp
       have HC2:=hdd (HC1.out.allocB)
       refine hK.out _ _ (HKP.out _ HC2.out.below) ?_;clear hK K hHeld;intro hHeld
       (try simp only [Act.put,pu1,pu2,pu3])
       generalize w1y.alloc (.cells #[.string f.name,.slice pa f.params.length pc,.slice ba f.body.length bc] 42)=w2y at HC2 hHeld ⊢
       generalize w1y.heap.size=bb at HC2 ⊢
       have hs:=hdd (show(7:Nat)=7 from rfl)
      rotate_left
    all_goals
     first
     |
      guard_hyp hs:Hid ((4:Nat)=4)
      clear hs
      refine wpAnyH_ready (rs:=[7,10]) (by kernel_rfl) (by simp) ?_
      refine(AllReadyH.cons (o:=⟨some 55,_,_,_,_,_⟩) rfl (fun K hK=>?_) (AllReadyH.cons (o:=⟨some 7,_,_,_,_,_⟩) rfl (fun K hK=>?_) AllReadyH.nil))
      focus
       go_simp
       have HC3:=hdd (HC2.out.allocB)
       refine hK.out _ _ (HKP.out _ HC3.out.below) ?_;clear hK K hHeld;intro hHeld
       (try simp only [Act.put,pu1,pu2,pu3])
       generalize w2y.alloc (.cells #[.string f.name,.slice pa f.params.length pc,.slice ba f.body.length bc] 42)=w3y at HC3 hHeld ⊢
       generalize w2y.heap.size=bb at HC3 ⊢
       have hs:=hdd (show(8:Nat)=8 from rfl)
      rotate_left
      focus
       go_simp
       have HC3:=hdd (HC2.out.allocD)
       refine hK.out _ _ (HKP.out _ HC3.out.below) ?_;clear hK K hHeld;intro hHeld
       (try simp only [Act.put,pu1,pu2,pu3])
       generalize w2y.alloc (.cells #[.slice none 0 0] 25)=w3y at HC3 hHeld ⊢
       generalize w2y.heap.size=db at HC3 ⊢
       have hs:=hdd (show(9:Nat)=9 from rfl)
      rotate_left
     |
      guard_hyp hs:Hid ((5:Nat)=5)
      clear hs
      refine wpAnyH_ready (rs:=[5,10]) (by kernel_rfl) (by simp) ?_
      refine(AllReadyH.cons (o:=⟨some 53,_,_,_,_,_⟩) rfl (fun K hK=>?_) (AllReadyH.cons (o:=⟨some 7,_,_,_,_,_⟩) rfl (fun K hK=>?_) AllReadyH.nil))
      focus
       refine Z11 rfl (.tmp 48) (.tmp 52) rfl w7.heap.size _ 0 [] rfl (HC2.out.list _ _ _ rfl).1 fa fns.length fc cells0 rfl (HROW0.out.later HC2.out.below) HC0N.out HCL0.out HNIL0.out HONE0.out HN0.out HC2.out.below.size ?_
       intro a5 c5 w3y hown5 hg5 hlies5
       simp only [Nat.zero_add,List.nil_append] at hown5 hlies5 ⊢
       have HC3:=hdd (HC2.out.app hown5 hg5 hlies5)
       clear hown5 hg5 hlies5
       refine hK.out _ _ (HKP.out _ HC3.out.below) ?_;clear hK K hHeld;intro hHeld
       (try simp only [Act.put,pu1,pu2,pu3])
       have hs:=hdd (show(8:Nat)=8 from rfl)
      rotate_left
      focus
       go_simp
       have HC3:=hdd (HC2.out.allocD)
       refine hK.out _ _ (HKP.out _ HC3.out.below) ?_;clear hK K hHeld;intro hHeld
       (try simp only [Act.put,pu1,pu2,pu3])
       generalize w2y.alloc (.cells #[.slice none 0 0] 25)=w3y at HC3 hHeld ⊢
       generalize w2y.heap.size=db at HC3 ⊢
       have hs:=hdd (show(10:Nat)=10 from rfl)
      rotate_left
     |
      guard_hyp hs:Hid ((6:Nat)=6)
      clear hs
      refine wpAnyH_ready (rs:=[5,7]) (by kernel_rfl) (by simp) ?_
      refine(AllReadyH.cons (o:=⟨some 53,_,_,_,_,_⟩) rfl (fun K hK=>?_) (AllReadyH.cons (o:=⟨some 55,_,_,_,_,_⟩) rfl (fun K hK=>?_) AllReadyH.nil))
      focus
       refine Z11 rfl (.tmp 48) (.tmp 52) rfl w7.heap.size _ 0 [] rfl (HC2.out.list _ _ _ rfl).1 fa fns.length fc cells0 rfl (HROW0.out.later HC2.out.below) HC0N.out HCL0.out HNIL0.out HONE0.out HN0.out HC2.out.below.size ?_
       intro a5 c5 w3y hown5 hg5 hlies5
       simp only [Nat.zero_add,List.nil_append] at hown5 hlies5 ⊢
       have HC3:=hdd (HC2.out.app hown5 hg5 hlies5)
       clear hown5 hg5 hlies5
       refine hK.out _ _ (HKP.out _ HC3.out.below) ?_;clear hK K hHeld;intro hHeld
       (try simp only [Act.put,pu1,pu2,pu3])
       have hs:=hdd (show(9:Nat)=9 from rfl)
      rotate_left
      focus
       go_simp
       have HC3:=hdd (HC2.out.allocB)
       refine hK.out _ _ (HKP.out _ HC3.out.below) ?_;clear hK K hHeld;intro hHeld
       (try simp only [Act.put,pu1,pu2,pu3])
       generalize w2y.alloc (.cells #[.string f.name,.slice pa f.params.length pc,.slice ba f.body.length bc] 42)=w3y at HC3 hHeld ⊢
       generalize w2y.heap.size=bb at HC3 ⊢
       have hs:=hdd (show(10:Nat)=10 from rfl)
      rotate_left
     |
      guard_hyp hs:Hid ((7:Nat)=7)
      clear hs
      refine Z9J 0 (some 48) fun K hK=>?_
      go_simp
      have HC3:=hdd (HC2.out.allocA)
      refine hK.out _ _ (HKP.out _ HC3.out.below) ?_;clear hK K hHeld;intro hHeld
      (try simp only [Act.put,pu1,pu2,pu3])
      generalize w2y.alloc (.cells #[] 42)=w3y at HC3 hHeld ⊢
      generalize w2y.heap.size=ab at HC3 ⊢
      have hs:=hdd (show(10:Nat)=10 from rfl)
    all_goals
     first
     |
      guard_hyp hs:Hid ((8:Nat)=8)
      clear hs
      refine wpAnyH_ready (rs:=[8,10]) (by kernel_rfl) (by simp) ?_
      refine(AllReadyH.cons (o:=⟨some 56,_,_,_,_,_⟩) rfl (fun K hK=>?_) (AllReadyH.cons (o:=⟨some 7,_,_,_,_,_⟩) rfl (fun K hK=>?_) AllReadyH.nil))
      focus
       refine Z11 rfl (.tmp 53) (.tmp 55) rfl w7.heap.size _ fns.length _ rfl (HC3.out.list _ _ _ rfl).1 _ 1 1 [[.string f.name,.slice pa f.params.length pc,.slice ba f.body.length bc]] rfl (Z51 (HC3.out.one _ rfl).1) rfl HCL1.out (by rintro⟨⟩) HONE1.out HN1.out HC3.out.below.size ?_
       intro a9 c9 w4y hown9 hg9 hlies9
       have HC4:=hdd (HC3.out.app hown9 hg9 hlies9)
       clear hown9 hg9 hlies9
       refine hK.out _ _ (HKP.out _ HC4.out.below) ?_;clear hK K hHeld;intro hHeld
       (try simp only [Act.put,pu1,pu2,pu3])
       refine tkH 9 (some 57) hHeld ?_
       (try simp only [Act.put,pu1,pu2,pu3])
       have hs:=hdd (show(11:Nat)=11 from rfl)
      rotate_left
      focus
       go_simp
       have HC4:=hdd (HC3.out.allocD)
       refine hK.out _ _ (HKP.out _ HC4.out.below) ?_;clear hK K hHeld;intro hHeld
       (try simp only [Act.put,pu1,pu2,pu3])
       generalize w3y.alloc (.cells #[.slice none 0 0] 25)=w4y at HC4 hHeld ⊢
       generalize w3y.heap.size=db at HC4 ⊢
       have hs:=hdd (show(12:Nat)=12 from rfl)
      rotate_left
     |
      guard_hyp hs:Hid ((9:Nat)=9)
      clear hs
      refine Z9J 7 (some 55) fun K hK=>?_
      go_simp
      have HC4:=hdd (HC3.out.allocB)
      refine hK.out _ _ (HKP.out _ HC4.out.below) ?_;clear hK K hHeld;intro hHeld
      (try simp only [Act.put,pu1,pu2,pu3])
      generalize w3y.alloc (.cells #[.string f.name,.slice pa f.params.length pc,.slice ba f.body.length bc] 42)=w4y at HC4 hHeld ⊢
      generalize w3y.heap.size=bb at HC4 ⊢
      have hs:=hdd (show(12:Nat)=12 from rfl)
     |
      guard_hyp hs:Hid ((10:Nat)=10)
      clear hs
      refine Z9J 5 (some 53) fun K hK=>?_
      refine Z11 rfl (.tmp 48) (.tmp 52) rfl w7.heap.size _ 0 [] rfl (HC3.out.list _ _ _ rfl).1 fa fns.length fc cells0 rfl (HROW0.out.later HC3.out.below) HC0N.out HCL0.out HNIL0.out HONE0.out HN0.out HC3.out.below.size ?_
      intro a5 c5 w4y hown5 hg5 hlies5
      simp only [Nat.zero_add,List.nil_append] at hown5 hlies5 ⊢
      have HC4:=hdd (HC3.out.app hown5 hg5 hlies5)
      clear hown5 hg5 hlies5
      refine hK.out _ _ (HKP.out _ HC4.out.below) ?_;clear hK K hHeld;intro hHeld
      (try simp only [Act.put,pu1,pu2,pu3])
      have hs:=hdd (show(12:Nat)=12 from rfl)
    all_goals
     first
     |
      guard_hyp hs:Hid ((11:Nat)=11)
      clear hs
      refine Z9J 10 (some 7) fun K hK=>?_
      go_simp
      have HC5:=hdd (HC4.out.allocD)
      refine hK.out _ _ (HKP.out _ HC5.out.below) ?_;clear hK K hHeld;intro hHeld
      (try simp only [Act.put,pu1,pu2,pu3])
      generalize w4y.alloc (.cells #[.slice none 0 0] 25)=w5y at HC5 hHeld ⊢
      generalize w4y.heap.size=db at HC5 ⊢
      have hs:=hdd (show(13:Nat)=13 from rfl)
     |
      guard_hyp hs:Hid ((12:Nat)=12)
      clear hs
      refine Z9J 8 (some 56) fun K hK=>?_
      refine Z11 rfl (.tmp 53) (.tmp 55) rfl w7.heap.size _ fns.length _ rfl (HC4.out.list _ _ _ rfl).1 _ 1 1 [[.string f.name,.slice pa f.params.length pc,.slice ba f.body.length bc]] rfl (Z51 (HC4.out.one _ rfl).1) rfl HCL1.out (by rintro⟨⟩) HONE1.out HN1.out HC4.out.below.size ?_
      intro a9 c9 w5y hown9 hg9 hlies9
      have HC5:=hdd (HC4.out.app hown9 hg9 hlies9)
      clear hown9 hg9 hlies9
      refine hK.out _ _ (HKP.out _ HC5.out.below) ?_;clear hK K hHeld;intro hHeld
      (try simp only [Act.put,pu1,pu2,pu3])
      refine tkH 9 (some 57) hHeld ?_
      (try simp only [Act.put,pu1,pu2,pu3])
      have hs:=hdd (show(13:Nat)=13 from rfl)
    all_goals
     clear hs
     refine Z9J 11 none fun K hK=>?_
     have y0:=frR _ _ 0 _ _ (HC5.out.res _ rfl).1
     have r0:=coR _ _ 0 _ _ _ (HC5.out.res _ rfl).1
     simp only [ga0,ga1] at r0
     go_simp
     clear y0 r0
     have HF:=hdd (HC5.out.store)
     refine hK.out _ _ (HKP.out _ HF.out.1) ?_;clear hK K hHeld;intro hHeld
     (try simp only [Act.put,pu1,pu2,pu3])
     have hs:=hdd (show(14:Nat)=14 from rfl)
    all_goals
     clear hs
     refine wpAnyH_done (by kernel_rfl) ?_ _
     go_wp2_with fail
     go_meet
     exact⟨_,_,_,rfl,HF⟩
   case rest=>
    obtain⟨db,a9,c9,rfl,HF⟩:=hcut
    have hlen9:(fns++[f]).length=fns.length+1:=by simp
    have HL9:=hdd (show Za 3 (FnP 20) (fun k=>w.heap.size≤k∧k≠rb) wc a9 (fns++[f]) from by
     have hr:=H7.out.2.2.2.2.2.2.2.2.2.1
     have h1:=Z7B (cells:=cells0++[[.string f.name,.slice pa f.params.length pc,.slice ba f.body.length bc]]) (xs:=fns++[f]) (Z2 20) (S:=fun k=>w.heap.size≤k∧k≠rb∧k<w7.heap.size) (e:=42) (lo:=w7.heap.size) (n:=fns.length+1) (c:=c9) (a:=a9) (w0:=w7) (W:=wc) (by simpa using HF.out.2.2.2.1) HF.out.1 hlen9 (by simp [HC0N.out]) (fun cl hcl=>by
      rcases List.mem_append.1 hcl with hcl|hcl
      ·exact HCL0.out cl hcl
      ·exact HCL1.out cl hcl) (fun i cl x h1 h2=>by
      by_cases hi:i<fns.length
      ·rw [List.getElem?_append_left (by rw [HC0N.out];exact hi)] at h1
       rw [List.getElem?_append_left hi] at h2
       exact HEL0.out i cl x h1 h2
      ·rw [List.getElem?_append_right (by rw [HC0N.out];omega),HC0N.out] at h1
       rw [List.getElem?_append_right (by omega)] at h2
       have hi0:i-fns.length=0:=by
        have:=(List.getElem?_eq_some_iff.1 h2).1
        simp at this;omega
       rw [hi0] at h1 h2
       cases h1;cases h2
       exact ZaD (by omega:3≤20) H7.out.2.1)
     have hrb:rb<w7.heap.size:=(gsI H7.out.2.2.2.2.1).1
     have hw7:=H7.out.2.2.2.1.size
     exact h1.mono (Z2 20) (fun k _ h=>by
      rcases h with h|h
      ·exact⟨h.1,h.2.1⟩
      ·have:=(HF.out.2.2.2.1.lt k h).1
       exact⟨by omega,by omega⟩))
    have d0:=coR _ _ 0 _ _ _ HF.out.2.1
    simp only [ga0,ga1] at d0
    have HPV:=hdd (show Calls Tryz.prog 28 #[.agg #[.slice a9 (fns.length+1) c9]] wc fun e w'=>e=.returned (.bool (Z0C (fns++[f])))∧Below wc.heap.size wc w' from by
     have h:=Z2q 20 _ a9 c9 (fns++[f]) wc HL9.out (by rw [hlen9];have:=H7.out.2.2.2.2.2.2.2.2.1;omega)
     rw [hlen9] at h
     exact h)
    clear hlen9
    go_wp2_with fail
    refine HPV.out.mono ?_
    rintro e w9 ⟨rfl,hb9⟩
    have HW9:=hdd (show Below w7.heap.size w7 w9∧Below wc.heap.size wc w9 from⟨HF.out.1.trans (hb9.mono HF.out.1.size),hb9⟩)
    have HRB9:=hdd (show w9.heap[rb]? = some (.cells #[.slice none 0 0] 25 (0,0)) from(HW9.out.1.block rb (gsI H7.out.2.2.2.2.1).1).trans H7.out.2.2.2.2.1)
    have d1:=clT hb9 d0
    clear d0 hb9
    cases hpb:Z0C (fns++[f]) with
    | true=>
     have r0:=coR _ _ 0 _ _ _ HRB9.out
     have y0:=frR _ _ 0 _ _ HRB9.out
     simp only [ga0,ga1] at r0
     clear HPV
     go_wp2
     refine bodyPost_ret (results_cell_row rfl _ _ rb 25 (List.toArray [.slice a9 (fns.length+1) c9]) (0,0) _ rfl ?_ Tryz.underlying25 rfl (by kernel_rfl)) rfl ?_
     ·exact(hSs w9 rb 0 _ _ _ HRB9.out).trans rfl
     refine Z8U H7.out.1 H7.out.2.2.2.1 HW9.out.1 (by have:=H7.out.2.2.2.2.2.2.2.2.2.1;omega) (by have:=H7.out.2.2.2.2.2.2.2.2.2.1;have:=HE.out;omega) (ps:=fns++[f]) (a:=a9) (c:=c9) (m:=fns.length+1) (by simp) (by simp) (by have:=H7.out.2.2.2.2.2.2.2.2.1;omega) hpb (HL9.out.below (Z2 20) HW9.out.2) (by rw [HPF.out,if_pos hpb])
    | false=>
     have H12:=hdd (show Below w9.heap.size w9 (((w9.alloc (.cells #[.int .i64 1,.int .i64 1,.string ⟨#[]⟩,.slice none 0 0] 64)).alloc (.cells #[.int .i64 3,.string ⟨#[]⟩,.slice (some ⟨w9.heap.size,0,none⟩) 1 1,.slice none 0 0,.slice none 0 0] 48)).alloc (.cells #[.string ⟨#[109]⟩,.slice none 0 0,.slice (some ⟨w9.heap.size+1,0,none⟩) 1 1] 42))∧
       Za 3 (FnP 20) (fun k=>w9.heap.size≤k) (((w9.alloc (.cells #[.int .i64 1,.int .i64 1,.string ⟨#[]⟩,.slice none 0 0] 64)).alloc (.cells #[.int .i64 3,.string ⟨#[]⟩,.slice (some ⟨w9.heap.size,0,none⟩) 1 1,.slice none 0 0,.slice none 0 0] 48)).alloc (.cells #[.string ⟨#[109]⟩,.slice none 0 0,.slice (some ⟨w9.heap.size+1,0,none⟩) 1 1] 42)) (some ⟨w9.heap.size+1+1,0,none⟩) [⟨⟨#[109]⟩,[],[.mk 3 ⟨#[]⟩ [.mk 1 1 ⟨#[]⟩ []] [] []]⟩] from by
      have h1:ZG 12 (fun _=>False) w9 [.int .i64 1,.int .i64 1,.string ⟨#[]⟩,.slice none 0 0] (.mk 1 1 ⟨#[]⟩ []):=Z9G 1 1 (by decide) 11
      have h2:=Z3g h1 3 ⟨#[]⟩ (by decide) (Nat.zero_le _)
      have hba:∀(w:World) (o:Obj),Below w.heap.size w (w.alloc o):=fun w o=>(bRf _ _).alloc (Nat.le_refl _) _
      have hb3:=((hba w9 (.cells #[.int .i64 1,.int .i64 1,.string ⟨#[]⟩,.slice none 0 0] 64)).trans ((hba _ (.cells #[.int .i64 3,.string ⟨#[]⟩,.slice (some ⟨w9.heap.size,0,none⟩) 1 1,.slice none 0 0,.slice none 0 0] 48)).mono (by simp))).trans ((hba _ (.cells #[.string ⟨#[109]⟩,.slice none 0 0,.slice (some ⟨w9.heap.size+1,0,none⟩) 1 1] 42)).mono (by simp;omega))
      have h3:=hAn ((w9.alloc (.cells #[.int .i64 1,.int .i64 1,.string ⟨#[]⟩,.slice none 0 0] 64)).alloc (.cells #[.int .i64 3,.string ⟨#[]⟩,.slice (some ⟨w9.heap.size,0,none⟩) 1 1,.slice none 0 0,.slice none 0 0] 48)) (.cells #[.string ⟨#[109]⟩,.slice none 0 0,.slice (some ⟨w9.heap.size+1,0,none⟩) 1 1] 42)
      rw [World.size_alloc,World.size_alloc] at h3
      refine⟨hb3,Za.one (Z2 20) (c:=[.string ⟨#[109]⟩,.slice none 0 0,.slice (some ⟨w9.heap.size+1,0,none⟩) 1 1]) h3 (by omega) ⟨none,0,some ⟨w9.heap.size+1,0,none⟩,1,rfl,⟨(by decide:(1:Nat)≤maxLen),(by decide:(0:Nat)≤100),(by decide:(1:Nat)≤100)⟩,Za.nil _ _ _,?_⟩⟩
      exact((h2.rel (fun _ _ _ h=>Z1O (by omega:1≤20) h)).mono (Z0 20) (fun k _ h=>h.elim False.elim id)).below (Z0 20) (hba _ _))
     have HRB12:=hdd (show(((w9.alloc (.cells #[.int .i64 1,.int .i64 1,.string ⟨#[]⟩,.slice none 0 0] 64)).alloc (.cells #[.int .i64 3,.string ⟨#[]⟩,.slice (some ⟨w9.heap.size,0,none⟩) 1 1,.slice none 0 0,.slice none 0 0] 48)).alloc (.cells #[.string ⟨#[109]⟩,.slice none 0 0,.slice (some ⟨w9.heap.size+1,0,none⟩) 1 1] 42)).heap[rb]? = some (.cells #[.slice none 0 0] 25 (0,0)) from(H12.out.1.block rb (gsI HRB9.out).1).trans HRB9.out)
     have r0:=coR _ _ 0 _ _ _ HRB12.out
     have y0:=frR _ _ 0 _ _ HRB12.out
     simp only [ga0,ga1] at r0
     clear HPV
     go_wp2
     refine bodyPost_ret (results_cell_row rfl _ _ rb 25 (List.toArray [.slice (some ⟨w9.heap.size+1+1,0,none⟩) 1 1]) (0,0) _ rfl ?_ Tryz.underlying25 rfl (by kernel_rfl)) rfl ?_
     ·exact(hSs _ rb 0 _ _ _ HRB12.out).trans rfl
     have hrb9:=(gsI HRB9.out).1
     refine Z8U H7.out.1 H7.out.2.2.2.1 (HW9.out.1.trans (H12.out.1.mono HW9.out.1.size)) (by have:=H7.out.2.2.2.2.2.2.2.2.2.1;omega) (by have:=H7.out.2.2.2.2.2.2.2.2.2.1;have:=HE.out;omega) (ps:=[⟨⟨#[109]⟩,[],[.mk 3 ⟨#[]⟩ [.mk 1 1 ⟨#[]⟩ []] [] []]⟩]) (a:=some ⟨w9.heap.size+1+1,0,none⟩) (c:=1) (m:=1) rfl (by omega) (by omega) (by decide +kernel) (H12.out.2.mono (Z2 20) (fun k _ h=>by have h:w9.heap.size≤k:=h;have:=H7.out.2.2.2.2.2.2.2.2.2.1;exact⟨by omega,by omega⟩)) (by rw [HPF.out,if_neg (by rw [hpb];decide)];rfl)
  ·have hkd:decide (0<k)=true:=decide_eq_true (by omega)
   have hkn:0<k:=by omega
   have hkI:decide ((0:Int)<(k:Int))=true:=decide_eq_true (by omega)
   have HKK:=hdd (aI hkn hk0)
   obtain⟨U1,hU1⟩:∃U1,U1=p+2+(k0-k)*cF:=⟨_,rfl⟩
   have HU1:=hdd (show U1=p+2+(k0-k)*cF∧U1+204801≤1990000 from⟨hU1,by have:=HC.out;have:=HCF.out;have:=HP.out;omega⟩)
   have HCR:=hdd (show p+2+(k0-(k-1))*cF=p+2+(k0-k)*cF+204810 from by
    have:k0-(k-1)=(k0-k)+1:=by have:=HR.out.1;omega
    rw [this,Nat.add_mul,Nat.one_mul,HCF.out];omega)
   have HGR:=hdd (show GSt w0 br bg a len cap bs fa fc fns U1 va vc vars next left wr from by rw [hU1];exact HR.out.2.2.1)
   clear hU1 hkn hk0
   have HPK:=hdd (show ∀W,GSt w0 br bg a len cap bs fa fc fns U1 va vc vars next left W→Calls Tryz.prog 10 #[.pointer (some ⟨br,0,none⟩),.int .i64 3] W fun e W'=>∃n:Nat,e=.returned (.int .i64 (n:Int))∧Hid (n≤3∧GSt w0 br bg a len cap bs fa fc fns (U1+1) va vc vars next left W'∧Zf br bg W W'∧ZP bs 3 (Z5 W br)=(n:Int)∧Z5 W' br=Z5 W br+1) from fun W hW=>by
    obtain⟨q,hq,hrd⟩:=hW.rd
    refine(Z01 w0 W br a len cap bs q 3 hrd (by omega) hlen (by have:=HU1.out;omega)).mono ?_
    rintro e W' ⟨x,hx0,hx1,rfl,hrd',hg',hF'⟩
    refine⟨x.toNat,by rw [Int.toNat_of_nonneg hx0],hdd ⟨by omega,hW.step (Zd.grown hg') hrd' (by omega) (by omega),Zf.of (Zd.grown hg'),by rw [hrd.pos,hF',Int.toNat_of_nonneg hx0],by rw [hrd'.pos,hrd.pos]⟩⟩)
   have HFN:=hdd (show ∀(W:World) (nm:ByteArray) (n P:Nat),GSt w0 br bg a len cap bs fa fc fns (U1+1) va vc vars next left W→Z5 W br=P→n≤3→nm.size≤maxLen→Calls Tryz.prog 34 #[.pointer (some ⟨bg,0,none⟩),.string nm,.int .i64 (n:Int)] W fun e W'=>∃(pa ba:Option Addr) (pc bc:Nat) (f:FnD),e=.returned (.agg #[.string f.name,.slice pa f.params.length pc,.slice ba f.body.length bc])∧Hid (FnP 3 (fun k=>W.heap.size≤k) W' [.string f.name,.slice pa f.params.length pc,.slice ba f.body.length bc] f∧f.params.length≤3∧(∃(va':Option Addr) (vc':Nat) (vars':List ByteArray) (next' left':Int),GSt w0 br bg a len cap bs fa fc fns (U1+1+204800) va' vc' vars' next' left' W'∧Za 1 Z1V (fun k=>W.heap.size≤k) W' va' vars'∧fnF bs fns nm n P left=(f,⟨Z5 W' br,vars',next',left'⟩))∧Zf br bg W W') from fun W nm n P hW hP hn hnm=>by
    refine(Za2 hlen nm hnm n hn (U1+1) W hW (by have:=HU1.out;omega)).mono ?_
    rintro e W' ⟨pa,ba,va',pc,bc,vc',f,vars',next',left',rfl,h1,h2,h3,h4,h5,h6⟩
    exact⟨pa,ba,pc,bc,f,rfl,hdd ⟨h1,h2,⟨va',vc',vars',next',left',h3,h4,hP▸h6⟩,h5⟩⟩)
   have HGD:=hdd (HGR.out.drew)
   have HW0:=hdd (show w0.heap.size≤wr.heap.size from by obtain⟨p,_,hp⟩:=HGR.out.rd;exact hp.below.size)
   have HFLW:=hdd (HGR.out.flist.here (Z2 20))
   have HLT:=hdd HGR.out.lts
   have hm:fns.length=0∨fns.length=1:=by have:=HR.out.2.1;have:=HKK.out;have:=HR.out.1;omega
   have HSV:=hdd (aI hm (aI HR.out HT3.out))
   have HS4x:=hdd (show br<w4.heap.size∧bg<w4.heap.size∧w0.heap.size≤w4.heap.size from⟨HS4.out.1.lts.1,HS4.out.1.lts.2,by obtain⟨p,_,hp⟩:=HS4.out.1.rd;exact hp.below.size⟩)
   clear HC HG HS4 HP HUU HCF HQ HR HT3 HR3
   go_upto_region 5 with fail
   go_cut [5] (fun v5 wx=>∃(tb:Nat) (pa ba:Option Addr) (pc bc:Nat) (f:FnD) (n:Nat) (nm:ByteArray),v5=.pointer (some ⟨tb,0,none⟩)∧Hid (FnT w0 wr br bg a len cap bs fa fc fns (U1+1+204800) tb pa ba pc bc f (fnF bs fns nm n (Z5 wr br+1) left) wx)∧Hid (nm=Z9B fns.length∧ZP bs 3 (Z5 wr br)=(n:Int)))
   case first=>
    obtain⟨nm,hnms,hnm⟩:=Zbc hm
    have HNM:=hdd hnms.1
    have HNE:=hdd hnms.2
    have HQ0:=hdd (show Z5 wr.drew br=Z5 wr br from rfl)
    have hm0:(0:Int)≤(fns.length:Int):=by omega
    have hm3:(fns.length:Int)<3:=by omega
    have HC1:∀{W:World} {va:Option Addr} {vc:Nat} {vars:List ByteArray} {next left:Int} {u:Nat},GSt w0 br bg a len cap bs fa fc fns u va vc vars next left W→W.cell? ⟨bg,1,none⟩=some (.slice fa fns.length fc):=fun h=>h.c1
    clear hm hnms
    generalize hmm:fns.length=m at hm0 hm3 HC1 hnm
    refine wp_region_held_drew (S:=(fun W=>W.cell? ⟨bg,1,none⟩=some (.slice fa m fc))) (by kernel_rfl) (HC1 HGD.out) (fun hHeld=>?_)
    refine tkH 0 (some 21) hHeld ?_
    (try simp only [Act.put,pu1,pu2,pu3])
    refine tkH 2 (some 23) hHeld ?_
    (try simp only [Act.put,pu1,pu2,pu3])
    refine tkH 3 (some 24) hHeld ?_
    (try simp only [Act.put,pu1,pu2,pu3])
    refine tkH 4 (some 25) hHeld ?_
    (try simp only [Act.put,pu1,pu2,pu3])
    refine tkH 5 (some 26) hHeld ?_
    (try simp only [Act.put,pu1,pu2,pu3])
    refine tkH 6 (some 27) hHeld ?_
    (try simp only [Act.put,pu1,pu2,pu3])
    refine tkH 9 (some 30) hHeld ?_
    (try simp only [Act.put,pu1,pu2,pu3])
    have HG0:=hdd (aI HGD.out (show Zf br bg wr wr.drew from Zf.drewN wr 1))
    generalize wr.drew=w0x at HG0 HQ0 hHeld ⊢
    refine wpAnyH_ready (rs:=[1,10,12]) (by kernel_rfl) (by simp) ?_
    refine(AllReadyH.cons (o:=⟨some 22,_,_,_,_,_⟩) rfl (fun K hK=>?_) (AllReadyH.cons (o:=⟨some 31,_,_,_,_,_⟩) rfl (fun K hK=>?_) (AllReadyH.cons (o:=⟨some 5,_,_,_,_,_⟩) rfl (fun K hK=>?_) AllReadyH.nil)))
    focus
     go_simp
     have HG1:=hdd (aI (HG0.out.1.alloc (.cells #[.string ⟨#[102]⟩,.string ⟨#[103]⟩,.string ⟨#[104]⟩] 9)) (HG0.out.2.thenAlloc (.cells #[.string ⟨#[102]⟩,.string ⟨#[103]⟩,.string ⟨#[104]⟩] 9)))
     have HN1:=hdd (Z5f.new (o:=.cells #[.string ⟨#[102]⟩,.string ⟨#[103]⟩,.string ⟨#[104]⟩] 9) HG0.out.2)
     have HQ1:=hdd ((Zo (o:=.cells #[.string ⟨#[102]⟩,.string ⟨#[103]⟩,.string ⟨#[104]⟩] 9) HG0.out.1.lts.1).trans HQ0.out)
     refine hK.out _ _ (HC1 HG1.out.1) ?_;clear hK K hHeld;intro hHeld
     (try simp only [Act.put,pu1,pu2,pu3])
     generalize w0x.alloc (.cells #[.string ⟨#[102]⟩,.string ⟨#[103]⟩,.string ⟨#[104]⟩] 9)=w1x at HG1 HQ1 HN1 hHeld ⊢
     generalize w0x.heap.size=nb at HN1 ⊢
     refine tkH 7 (some 28) hHeld ?_
     (try simp only [Act.put,pu1,pu2,pu3])
     have hs:=hdd (show(1:Nat)=1 from rfl)
    rotate_left
    focus
     go_simp
     go_at_call 10
     refine(HPK.out _ HG0.out.1).mono ?_
     rintro e w1x ⟨n,rfl,hp⟩
     have HNN:=hdd hp.out.1
     have HG1:=hdd (aI hp.out.2.1 (HG0.out.2.trans hp.out.2.2.1))
     have HNP:=hdd (show ZP bs 3 (Z5 wr br)=(n:Int) from by rw [← HQ0.out];exact hp.out.2.2.2.1)
     have HQ1:=hdd (show Z5 w1x br=Z5 wr br+1 from by rw [← HQ0.out];exact hp.out.2.2.2.2)
     clear hp
     refine hK.out _ _ (HC1 HG1.out.1) ?_;clear hK K hHeld;intro hHeld
     (try simp only [Act.put,pu1,pu2,pu3])
     have hs:=hdd (show(2:Nat)=2 from rfl)
    rotate_left
    focus
     go_simp
     have HG1:=hdd (aI (HG0.out.1.alloc (.cells #[.string ⟨#[]⟩,.slice none 0 0,.slice none 0 0] 42)) (HG0.out.2.thenAlloc (.cells #[.string ⟨#[]⟩,.slice none 0 0,.slice none 0 0] 42)))
     have HT1:=hdd (Z5f.new (o:=.cells #[.string ⟨#[]⟩,.slice none 0 0,.slice none 0 0] 42) HG0.out.2)
     have HQ1:=hdd ((Zo (o:=.cells #[.string ⟨#[]⟩,.slice none 0 0,.slice none 0 0] 42) HG0.out.1.lts.1).trans HQ0.out)
     refine hK.out _ _ (HC1 HG1.out.1) ?_;clear hK K hHeld;intro hHeld
     (try simp only [Act.put,pu1,pu2,pu3])
     generalize w0x.alloc (.cells #[.string ⟨#[]⟩,.slice none 0 0,.slice none 0 0] 42)=w1x at HG1 HQ1 HT1 hHeld ⊢
     generalize w0x.heap.size=tb at HT1 ⊢
     have hs:=hdd (show(3:Nat)=3 from rfl)
    rotate_left
    all_goals
     first
     |
      guard_hyp hs:Hid ((1:Nat)=1)
      clear hs
      refine wpAnyH_ready (rs:=[8,10,12]) (by kernel_rfl) (by simp) ?_
      refine(AllReadyH.cons (o:=⟨some 29,_,_,_,_,_⟩) rfl (fun K hK=>?_) (AllReadyH.cons (o:=⟨some 31,_,_,_,_,_⟩) rfl (fun K hK=>?_) (AllReadyH.cons (o:=⟨some 5,_,_,_,_,_⟩) rfl (fun K hK=>?_) AllReadyH.nil)))
      focus
       have hld:=hnm _ _ _ HN1.out
       go_simp
       (try rw [hld])
       (try go_simp)
       clear hld
       have HG2:=hdd (HG1.out)
       have HQ2:=hdd (HQ1.out)
       have HN2:=hdd (HN1.out)
       refine hK.out _ _ (HC1 HG2.out.1) ?_;clear hK K hHeld;intro hHeld
       (try simp only [Act.put,pu1,pu2,pu3])
       have hs:=hdd (show(4:Nat)=4 from rfl)
      rotate_left
      focus
       go_simp
       go_at_call 10
       refine(HPK.out _ HG1.out.1).mono ?_
       rintro e w2x ⟨n,rfl,hp⟩
       have HNN:=hdd hp.out.1
       have HG2:=hdd (aI hp.out.2.1 (HG1.out.2.trans hp.out.2.2.1))
       have HN2:=hdd (HN1.out.turn2 hp.out.2.2.1 HLT.out)
       have HNP:=hdd (show ZP bs 3 (Z5 wr br)=(n:Int) from by rw [← HQ1.out];exact hp.out.2.2.2.1)
       have HQ2:=hdd (show Z5 w2x br=Z5 wr br+1 from by rw [← HQ1.out];exact hp.out.2.2.2.2)
       clear hp
       refine hK.out _ _ (HC1 HG2.out.1) ?_;clear hK K hHeld;intro hHeld
       (try simp only [Act.put,pu1,pu2,pu3])
       have hs:=hdd (show(5:Nat)=5 from rfl)
      rotate_left
      focus
       go_simp
       have HG2:=hdd (aI (HG1.out.1.alloc (.cells #[.string ⟨#[]⟩,.slice none 0 0,.slice none 0 0] 42)) (HG1.out.2.thenAlloc (.cells #[.string ⟨#[]⟩,.slice none 0 0,.slice none 0 0] 42)))
       have HT2:=hdd (Z5f.new (o:=.cells #[.string ⟨#[]⟩,.slice none 0 0,.slice none 0 0] 42) HG1.out.2)
       have HQ2:=hdd ((Zo (o:=.cells #[.string ⟨#[]⟩,.slice none 0 0,.slice none 0 0] 42) HG1.out.1.lts.1).trans HQ1.out)
       have HN2:=hdd (HN1.out.alloc (.cells #[.string ⟨#[]⟩,.slice none 0 0,.slice none 0 0] 42))
       refine hK.out _ _ (HC1 HG2.out.1) ?_;clear hK K hHeld;intro hHeld
       (try simp only [Act.put,pu1,pu2,pu3])
       generalize w1x.alloc (.cells #[.string ⟨#[]⟩,.slice none 0 0,.slice none 0 0] 42)=w2x at HG2 HQ2 HT2 HN2 hHeld ⊢
       generalize w1x.heap.size=tb at HT2 ⊢
       have hs:=hdd (show(6:Nat)=6 from rfl)
      rotate_left
     |
      guard_hyp hs:Hid ((2:Nat)=2)
      clear hs
      refine wpAnyH_ready (rs:=[1,12]) (by kernel_rfl) (by simp) ?_
      refine(AllReadyH.cons (o:=⟨some 22,_,_,_,_,_⟩) rfl (fun K hK=>?_) (AllReadyH.cons (o:=⟨some 5,_,_,_,_,_⟩) rfl (fun K hK=>?_) AllReadyH.nil))
      focus
       go_simp
       have HG2:=hdd (aI (HG1.out.1.alloc (.cells #[.string ⟨#[102]⟩,.string ⟨#[103]⟩,.string ⟨#[104]⟩] 9)) (HG1.out.2.thenAlloc (.cells #[.string ⟨#[102]⟩,.string ⟨#[103]⟩,.string ⟨#[104]⟩] 9)))
       have HN2:=hdd (Z5f.new (o:=.cells #[.string ⟨#[102]⟩,.string ⟨#[103]⟩,.string ⟨#[104]⟩] 9) HG1.out.2)
       have HQ2:=hdd ((Zo (o:=.cells #[.string ⟨#[102]⟩,.string ⟨#[103]⟩,.string ⟨#[104]⟩] 9) HG1.out.1.lts.1).trans HQ1.out)
       refine hK.out _ _ (HC1 HG2.out.1) ?_;clear hK K hHeld;intro hHeld
       (try simp only [Act.put,pu1,pu2,pu3])
       generalize w1x.alloc (.cells #[.string ⟨#[102]⟩,.string ⟨#[103]⟩,.string ⟨#[104]⟩] 9)=w2x at HG2 HQ2 HN2 hHeld ⊢
       generalize w1x.heap.size=nb at HN2 ⊢
       refine tkH 7 (some 28) hHeld ?_
       (try simp only [Act.put,pu1,pu2,pu3])
       have hs:=hdd (show(5:Nat)=5 from rfl)
      rotate_left
      focus
       go_simp
       have HG2:=hdd (aI (HG1.out.1.alloc (.cells #[.string ⟨#[]⟩,.slice none 0 0,.slice none 0 0] 42)) (HG1.out.2.thenAlloc (.cells #[.string ⟨#[]⟩,.slice none 0 0,.slice none 0 0] 42)))
       have HT2:=hdd (Z5f.new (o:=.cells #[.string ⟨#[]⟩,.slice none 0 0,.slice none 0 0] 42) HG1.out.2)
       have HQ2:=hdd ((Zo (o:=.cells #[.string ⟨#[]⟩,.slice none 0 0,.slice none 0 0] 42) HG1.out.1.lts.1).trans HQ1.out)
       refine hK.out _ _ (HC1 HG2.out.1) ?_;clear hK K hHeld;intro hHeld
       (try simp only [Act.put,pu1,pu2,pu3])
       generalize w1x.alloc (.cells #[.string ⟨#[]⟩,.slice none 0 0,.slice none 0 0] 42)=w2x at HG2 HQ2 HT2 hHeld ⊢
       generalize w1x.heap.size=tb at HT2 ⊢
       have hs:=hdd (show(7:Nat)=7 from rfl)
      rotate_left
     |
      guard_hyp hs:Hid ((3:Nat)=3)
      clear hs
      refine wpAnyH_ready (rs:=[1,10]) (by kernel_rfl) (by simp) ?_
      refine(AllReadyH.cons (o:=⟨some 22,_,_,_,_,_⟩) rfl (fun K hK=>?_) (AllReadyH.cons (o:=⟨some 31,_,_,_,_,_⟩) rfl (fun K hK=>?_) AllReadyH.nil))
      focus
       go_simp
       have HG2:=hdd (aI (HG1.out.1.alloc (.cells #[.string ⟨#[102]⟩,.string ⟨#[103]⟩,.string ⟨#[104]⟩] 9)) (HG1.out.2.thenAlloc (.cells #[.string ⟨#[102]⟩,.string ⟨#[103]⟩,.string ⟨#[104]⟩] 9)))
       have HN2:=hdd (Z5f.new (o:=.cells #[.string ⟨#[102]⟩,.string ⟨#[103]⟩,.string ⟨#[104]⟩] 9) HG1.out.2)
       have HQ2:=hdd ((Zo (o:=.cells #[.string ⟨#[102]⟩,.string ⟨#[103]⟩,.string ⟨#[104]⟩] 9) HG1.out.1.lts.1).trans HQ1.out)
       have HT2:=hdd (HT1.out.alloc (.cells #[.string ⟨#[102]⟩,.string ⟨#[103]⟩,.string ⟨#[104]⟩] 9))
       refine hK.out _ _ (HC1 HG2.out.1) ?_;clear hK K hHeld;intro hHeld
       (try simp only [Act.put,pu1,pu2,pu3])
       generalize w1x.alloc (.cells #[.string ⟨#[102]⟩,.string ⟨#[103]⟩,.string ⟨#[104]⟩] 9)=w2x at HG2 HQ2 HN2 HT2 hHeld ⊢
       generalize w1x.heap.size=nb at HN2 ⊢
       refine tkH 7 (some 28) hHeld ?_
       (try simp only [Act.put,pu1,pu2,pu3])
       have hs:=hdd (show(6:Nat)=6 from rfl)
      rotate_left
      focus
       go_simp
       go_at_call 10
       refine(HPK.out _ HG1.out.1).mono ?_
       rintro e w2x ⟨n,rfl,hp⟩
       have HNN:=hdd hp.out.1
       have HG2:=hdd (aI hp.out.2.1 (HG1.out.2.trans hp.out.2.2.1))
       have HT2:=hdd (HT1.out.turn2 hp.out.2.2.1 HLT.out)
       have HNP:=hdd (show ZP bs 3 (Z5 wr br)=(n:Int) from by rw [← HQ1.out];exact hp.out.2.2.2.1)
       have HQ2:=hdd (show Z5 w2x br=Z5 wr br+1 from by rw [← HQ1.out];exact hp.out.2.2.2.2)
       clear hp
       refine hK.out _ _ (HC1 HG2.out.1) ?_;clear hK K hHeld;intro hHeld
       (try simp only [Act.put,pu1,pu2,pu3])
       have hs:=hdd (show(7:Nat)=7 from rfl)
      rotate_left
    all_goals
     first
     |
      guard_hyp hs:Hid ((4:Nat)=4)
      clear hs
      refine wpAnyH_ready (rs:=[10,12]) (by kernel_rfl) (by simp) ?_
      refine(AllReadyH.cons (o:=⟨some 31,_,_,_,_,_⟩) rfl (fun K hK=>?_) (AllReadyH.cons (o:=⟨some 5,_,_,_,_,_⟩) rfl (fun K hK=>?_) AllReadyH.nil))
      focus
       go_simp
       go_at_call 10
       refine(HPK.out _ HG2.out.1).mono ?_
       rintro e w2x ⟨n,rfl,hp⟩
       have HNN:=hdd hp.out.1
       have HG3:=hdd (aI hp.out.2.1 (HG2.out.2.trans hp.out.2.2.1))
       have HN3:=hdd (HN2.out.turn2 hp.out.2.2.1 HLT.out)
       have HNP:=hdd (show ZP bs 3 (Z5 wr br)=(n:Int) from by rw [← HQ2.out];exact hp.out.2.2.2.1)
       have HQ3:=hdd (show Z5 w2x br=Z5 wr br+1 from by rw [← HQ2.out];exact hp.out.2.2.2.2)
       clear hp
       refine hK.out _ _ (HC1 HG3.out.1) ?_;clear hK K hHeld;intro hHeld
       (try simp only [Act.put,pu1,pu2,pu3])
       have hs:=hdd (show(8:Nat)=8 from rfl)
      rotate_left
      focus
       go_simp
       have HG3:=hdd (aI (HG2.out.1.alloc (.cells #[.string ⟨#[]⟩,.slice none 0 0,.slice none 0 0] 42)) (HG2.out.2.thenAlloc (.cells #[.string ⟨#[]⟩,.slice none 0 0,.slice none 0 0] 42)))
       have HT3:=hdd (Z5f.new (o:=.cells #[.string ⟨#[]⟩,.slice none 0 0,.slice none 0 0] 42) HG2.out.2)
       have HQ3:=hdd ((Zo (o:=.cells #[.string ⟨#[]⟩,.slice none 0 0,.slice none 0 0] 42) HG2.out.1.lts.1).trans HQ2.out)
       have HN3:=hdd (HN2.out.alloc (.cells #[.string ⟨#[]⟩,.slice none 0 0,.slice none 0 0] 42))
       refine hK.out _ _ (HC1 HG3.out.1) ?_;clear hK K hHeld;intro hHeld
       (try simp only [Act.put,pu1,pu2,pu3])
       generalize w1x.alloc (.cells #[.string ⟨#[]⟩,.slice none 0 0,.slice none 0 0] 42)=w2x at HG3 HQ3 HT3 HN3 hHeld ⊢
       generalize w1x.heap.size=tb at HT3 ⊢
       have hs:=hdd (show(9:Nat)=9 from rfl)
      rotate_left
     |
      guard_hyp hs:Hid ((5:Nat)=5)
      clear hs
      refine wpAnyH_ready (rs:=[8,12]) (by kernel_rfl) (by simp) ?_
      refine(AllReadyH.cons (o:=⟨some 29,_,_,_,_,_⟩) rfl (fun K hK=>?_) (AllReadyH.cons (o:=⟨some 5,_,_,_,_,_⟩) rfl (fun K hK=>?_) AllReadyH.nil))
      focus
       have hld:=hnm _ _ _ HN2.out
       go_simp
       (try rw [hld])
       (try go_simp)
       clear hld
       have HG3:=hdd (HG2.out)
       have HQ3:=hdd (HQ2.out)
       have HN3:=hdd (HN2.out)
       refine hK.out _ _ (HC1 HG3.out.1) ?_;clear hK K hHeld;intro hHeld
       (try simp only [Act.put,pu1,pu2,pu3])
       have hs:=hdd (show(8:Nat)=8 from rfl)
      rotate_left
      focus
       go_simp
       have HG3:=hdd (aI (HG2.out.1.alloc (.cells #[.string ⟨#[]⟩,.slice none 0 0,.slice none 0 0] 42)) (HG2.out.2.thenAlloc (.cells #[.string ⟨#[]⟩,.slice none 0 0,.slice none 0 0] 42)))
       have HT3:=hdd (Z5f.new (o:=.cells #[.string ⟨#[]⟩,.slice none 0 0,.slice none 0 0] 42) HG2.out.2)
       have HQ3:=hdd ((Zo (o:=.cells #[.string ⟨#[]⟩,.slice none 0 0,.slice none 0 0] 42) HG2.out.1.lts.1).trans HQ2.out)
       have HN3:=hdd (HN2.out.alloc (.cells #[.string ⟨#[]⟩,.slice none 0 0,.slice none 0 0] 42))
       refine hK.out _ _ (HC1 HG3.out.1) ?_;clear hK K hHeld;intro hHeld
       (try simp only [Act.put,pu1,pu2,pu3])
       generalize w2x.alloc (.cells #[.string ⟨#[]⟩,.slice none 0 0,.slice none 0 0] 42)=w3x at HG3 HQ3 HT3 HN3 hHeld ⊢
       generalize w2x.heap.size=tb at HT3 ⊢
       have hs:=hdd (show(10:Nat)=10 from rfl)
      rotate_left
     |
      guard_hyp hs:Hid ((6:Nat)=6)
      clear hs
      refine wpAnyH_ready (rs:=[8,10]) (by kernel_rfl) (by simp) ?_
      refine(AllReadyH.cons (o:=⟨some 29,_,_,_,_,_⟩) rfl (fun K hK=>?_) (AllReadyH.cons (o:=⟨some 31,_,_,_,_,_⟩) rfl (fun K hK=>?_) AllReadyH.nil))
      focus
       have hld:=hnm _ _ _ HN2.out
       go_simp
       (try rw [hld])
       (try go_simp)
       clear hld
       have HG3:=hdd (HG2.out)
       have HQ3:=hdd (HQ2.out)
       have HT3:=hdd (HT2.out)
       have HN3:=hdd (HN2.out)
       refine hK.out _ _ (HC1 HG3.out.1) ?_;clear hK K hHeld;intro hHeld
       (try simp only [Act.put,pu1,pu2,pu3])
       have hs:=hdd (show(9:Nat)=9 from rfl)
      rotate_left
      focus
       go_simp
       go_at_call 10
       refine(HPK.out _ HG2.out.1).mono ?_
       rintro e w3x ⟨n,rfl,hp⟩
       have HNN:=hdd hp.out.1
       have HG3:=hdd (aI hp.out.2.1 (HG2.out.2.trans hp.out.2.2.1))
       have HT3:=hdd (HT2.out.turn2 hp.out.2.2.1 HLT.out)
       have HN3:=hdd (HN2.out.turn2 hp.out.2.2.1 HLT.out)
       have HNP:=hdd (show ZP bs 3 (Z5 wr br)=(n:Int) from by rw [← HQ2.out];exact hp.out.2.2.2.1)
       have HQ3:=hdd (show Z5 w3x br=Z5 wr br+1 from by rw [← HQ2.out];exact hp.out.2.2.2.2)
       clear hp
       refine hK.out _ _ (HC1 HG3.out.1) ?_;clear hK K hHeld;intro hHeld
       (try simp only [Act.put,pu1,pu2,pu3])
       have hs:=hdd (show(10:Nat)=10 from rfl)
      rotate_left
     |
      guard_hyp hs:Hid ((7:Nat)=7)
      clear hs
      refine Z9J 1 (some 22) fun K hK=>?_
      go_simp
      have HG3:=hdd (aI (HG2.out.1.alloc (.cells #[.string ⟨#[102]⟩,.string ⟨#[103]⟩,.string ⟨#[104]⟩] 9)) (HG2.out.2.thenAlloc (.cells #[.string ⟨#[102]⟩,.string ⟨#[103]⟩,.string ⟨#[104]⟩] 9)))
      have HN3:=hdd (Z5f.new (o:=.cells #[.string ⟨#[102]⟩,.string ⟨#[103]⟩,.string ⟨#[104]⟩] 9) HG2.out.2)
      have HQ3:=hdd ((Zo (o:=.cells #[.string ⟨#[102]⟩,.string ⟨#[103]⟩,.string ⟨#[104]⟩] 9) HG2.out.1.lts.1).trans HQ2.out)
      have HT3:=hdd (HT2.out.alloc (.cells #[.string ⟨#[102]⟩,.string ⟨#[103]⟩,.string ⟨#[104]⟩] 9))
      refine hK.out _ _ (HC1 HG3.out.1) ?_;clear hK K hHeld;intro hHeld
      (try simp only [Act.put,pu1,pu2,pu3])
      generalize w2x.alloc (.cells #[.string ⟨#[102]⟩,.string ⟨#[103]⟩,.string ⟨#[104]⟩] 9)=w3x at HG3 HQ3 HN3 HT3 hHeld ⊢
      generalize w2x.heap.size=nb at HN3 ⊢
      refine tkH 7 (some 28) hHeld ?_
      (try simp only [Act.put,pu1,pu2,pu3])
      have hs:=hdd (show(10:Nat)=10 from rfl)
    all_goals
     first
     |
      guard_hyp hs:Hid ((8:Nat)=8)
      clear hs
      refine wpAnyH_ready (rs:=[11,12]) (by kernel_rfl) (by simp) ?_
      refine(AllReadyH.cons (o:=⟨some 32,_,_,_,_,_⟩) rfl (fun K hK=>?_) (AllReadyH.cons (o:=⟨some 5,_,_,_,_,_⟩) rfl (fun K hK=>?_) AllReadyH.nil))
      focus
       go_simp
       go_at_call 34
       refine(HFN.out _ _ _ _ HG3.out.1 HQ3.out HNN.out HNM.out).mono ?_
       rintro e w3x ⟨pa,ba,pc,bc,f,rfl,HF4⟩
       have HTF:=hdd HG3.out.2
       refine hK.out _ _ (by obtain⟨_,_,⟨_,_,_,_,_,h3,_⟩,_⟩:=HF4.out;exact HC1 h3) ?_;clear hK K hHeld;intro hHeld
       (try simp only [Act.put,pu1,pu2,pu3])
       have hs:=hdd (show(11:Nat)=11 from rfl)
      rotate_left
      focus
       go_simp
       have HG4:=hdd (aI (HG3.out.1.alloc (.cells #[.string ⟨#[]⟩,.slice none 0 0,.slice none 0 0] 42)) (HG3.out.2.thenAlloc (.cells #[.string ⟨#[]⟩,.slice none 0 0,.slice none 0 0] 42)))
       have HT4:=hdd (Z5f.new (o:=.cells #[.string ⟨#[]⟩,.slice none 0 0,.slice none 0 0] 42) HG3.out.2)
       have HQ4:=hdd ((Zo (o:=.cells #[.string ⟨#[]⟩,.slice none 0 0,.slice none 0 0] 42) HG3.out.1.lts.1).trans HQ3.out)
       have HN4:=hdd (HN3.out.alloc (.cells #[.string ⟨#[]⟩,.slice none 0 0,.slice none 0 0] 42))
       refine hK.out _ _ (HC1 HG4.out.1) ?_;clear hK K hHeld;intro hHeld
       (try simp only [Act.put,pu1,pu2,pu3])
       generalize w2x.alloc (.cells #[.string ⟨#[]⟩,.slice none 0 0,.slice none 0 0] 42)=w3x at HG4 HQ4 HT4 HN4 hHeld ⊢
       generalize w2x.heap.size=tb at HT4 ⊢
       have hs:=hdd (show(12:Nat)=12 from rfl)
      rotate_left
     |
      guard_hyp hs:Hid ((9:Nat)=9)
      clear hs
      refine Z9J 10 (some 31) fun K hK=>?_
      go_simp
      go_at_call 10
      refine(HPK.out _ HG3.out.1).mono ?_
      rintro e w3x ⟨n,rfl,hp⟩
      have HNN:=hdd hp.out.1
      have HG4:=hdd (aI hp.out.2.1 (HG3.out.2.trans hp.out.2.2.1))
      have HT4:=hdd (HT3.out.turn2 hp.out.2.2.1 HLT.out)
      have HN4:=hdd (HN3.out.turn2 hp.out.2.2.1 HLT.out)
      have HNP:=hdd (show ZP bs 3 (Z5 wr br)=(n:Int) from by rw [← HQ3.out];exact hp.out.2.2.2.1)
      have HQ4:=hdd (show Z5 w3x br=Z5 wr br+1 from by rw [← HQ3.out];exact hp.out.2.2.2.2)
      clear hp
      refine hK.out _ _ (HC1 HG4.out.1) ?_;clear hK K hHeld;intro hHeld
      (try simp only [Act.put,pu1,pu2,pu3])
      have hs:=hdd (show(12:Nat)=12 from rfl)
     |
      guard_hyp hs:Hid ((10:Nat)=10)
      clear hs
      refine Z9J 8 (some 29) fun K hK=>?_
      have hld:=hnm _ _ _ HN3.out
      go_simp
      (try rw [hld])
      (try go_simp)
      clear hld
      have HG4:=hdd (HG3.out)
      have HQ4:=hdd (HQ3.out)
      have HT4:=hdd (HT3.out)
      have HN4:=hdd (HN3.out)
      refine hK.out _ _ (HC1 HG4.out.1) ?_;clear hK K hHeld;intro hHeld
      (try simp only [Act.put,pu1,pu2,pu3])
      have hs:=hdd (show(12:Nat)=12 from rfl)
    all_goals
     first
     |
      guard_hyp hs:Hid ((11:Nat)=11)
      clear hs
      refine Z9J 12 (some 5) fun K hK=>?_
      go_simp
      have HB5:=hdd (FnB.late HTF.out HLT.out HF4.out)
      refine hK.out _ _ (by obtain⟨_,_,_,_,_,h3,_⟩:=HB5.out.g;exact HC1 h3) ?_;clear hK K hHeld;intro hHeld
      (try simp only [Act.put,pu1,pu2,pu3])
      generalize w3x.alloc (.cells #[.string ⟨#[]⟩,.slice none 0 0,.slice none 0 0] 42)=w4x at HB5 hHeld ⊢
      generalize w3x.heap.size=tb at HB5 ⊢
      have hs:=hdd (show(13:Nat)=13 from rfl)
     |
      guard_hyp hs:Hid ((12:Nat)=12)
      clear hs
      refine Z9J 11 (some 32) fun K hK=>?_
      go_simp
      go_at_call 34
      refine(HFN.out _ _ _ _ HG4.out.1 HQ4.out HNN.out HNM.out).mono ?_
      rintro e w4x ⟨pa,ba,pc,bc,f,rfl,HF5⟩
      have HB5:=hdd (FnB.early HG4.out.2 HLT.out HT4.out HF5.out)
      refine hK.out _ _ (by obtain⟨_,_,⟨_,_,_,_,_,h3,_⟩,_⟩:=HF5.out;exact HC1 h3) ?_;clear hK K hHeld;intro hHeld
      (try simp only [Act.put,pu1,pu2,pu3])
      have hs:=hdd (show(13:Nat)=13 from rfl)
    all_goals
     clear hs
     refine Z9J 13 none fun K hK=>?_
     have y0:=frR _ _ 0 _ _ HB5.out.row.1
     have y1:=frR _ _ 1 _ _ HB5.out.row.1
     have y2:=frR _ _ 2 _ _ HB5.out.row.1
     have r0:=coR _ _ 0 _ _ _ HB5.out.row.1
     have r1:=coR _ _ 1 _ _ _ HB5.out.row.1
     have r2:=coR _ _ 2 _ _ _ HB5.out.row.1
     simp only [ga0,ga1,ga2] at r0 r1 r2
     go_simp
     clear y0 y1 y2 r0 r1 r2
     have HF:=hdd (HB5.out.fill HW0.out HFLW.out)
     refine hK.out _ _ (by obtain⟨_,_,_,_,_,h3,_⟩:=HF.out.g;exact HC1 h3) ?_;clear hK K hHeld;intro hHeld
     (try simp only [Act.put,pu1,pu2,pu3])
     have hs:=hdd (show(14:Nat)=14 from rfl)
    all_goals
     clear hs
     refine wpAnyH_done (by kernel_rfl) ?_ _
     go_wp2_with fail
     go_meet
     exact⟨_,_,_,_,_,_,_,_,rfl,HF,hdd ⟨HNE.out,HNP.out⟩⟩
   case rest=>
    obtain⟨tb,pa,ba,pc,bc,f,n,nm,rfl,HFT,HFN2⟩:=hcut
    have HL4:=hdd (show br<w4.heap.size∧bg<w4.heap.size∧w0.heap.size≤w4.heap.size from HS4x.out)
    have HOWN:=hdd (show ∀j,(Value.slice fa fns.length fc).ownBlock=some j→w4.heap.size≤j∧j<wr.heap.size from by
     obtain⟨cells,k1,-⟩:=HSV.out.2.1.2.2.2.1.row
     exact fun j hj=>k1.lt j hj)
    have hgk:=HSV.out.2.1.2.2.2.1.keep (Z2 20) (T:=fun k=>k=br∨k=bg∨wr.heap.size≤k) HFT.out.t (fun k h1 h2 h3=>by have:=HL4.out;omega) (fun k h=>h)
    obtain⟨cells,hrows⟩:=hgk.rows
    have HRW:=hdd hrows
    have hn1:fns.length≤1:=by have:=HSV.out.1;omega
    have HN1:=hdd hn1
    have HONE:=hdd (show ∀cl∈[[Value.string f.name,.slice pa f.params.length pc,.slice ba f.body.length bc]],∀u∈cl,u.oneCell'=true from fun cl hcl=>by rw [List.mem_singleton.1 hcl];exact Z28 HFT.out.p)
    have c1:wc.cell? ⟨bg,1,none⟩=some (.slice fa fns.length fc):=by obtain⟨_,_,_,_,_,h3,_⟩:=HFT.out.g;exact h3.c1
    have c1a:=fun o=>clT ((bRf wc.heap.size wc).alloc (Nat.le_refl _) o) c1
    have t0:=coR _ _ 0 _ _ _ HFT.out.row
    have t1:=coR _ _ 1 _ _ _ HFT.out.row
    have t2:=coR _ _ 2 _ _ _ HFT.out.row
    simp only [ga0,ga1,ga2] at t0 t1 t2
    clear hgk hrows hn1
    go_upto_region 6 with fail
    go_region_law (refine Z11 rfl (.tmp 37) (.tmp 39) rfl w4.heap.size _ fns.length _ rfl (ZI HRW.out.1 (by repeat (first|exact bRf _ _|apply Zy|apply Zt))) _ 1 1 [[Value.string f.name,.slice pa f.params.length pc,.slice ba f.body.length bc]] rfl (by first|exact Zaj _ _|exact Z0g.later (Zaj _ _) ((bRf _ _).drew)) rfl (by simp) (by rintro⟨⟩) HONE.out (by have:=HN1.out;omega) (by have:=HL4.out;have:=HSV.out.2.1.2.2.2.2.2.1.size;have:=HFT.out.t.size;simp;omega) ?_;intro a9 c9 w9 hown9 hg9 hlies9;(have HP9:=hdd (HFT.out.push HSV.out.2.1.2.2.2.2.2.1 HL4.out HRW.out (by repeat (first|exact bRf _ _|apply Zy|apply Zt)) HOWN.out HN1.out HSV.out.2.1.2.2.2.2.1 hown9 hg9 hlies9));(have z1:=show w9.frozen? ⟨bg,1,none⟩=false from(by obtain⟨_,_,_,_,_,h3,_⟩:=HFT.out.g;exact frR _ _ 1 _ _ (HP9.out.1.trans h3.row)));(have z2:=show w9.cell? ⟨bg,1,none⟩=some (.slice fa fns.length fc) from(by obtain⟨_,_,_,_,_,h3,_⟩:=HFT.out.g;exact coR _ _ 1 _ _ _ (HP9.out.1.trans h3.row))))
    all_goals
     clear c1 c1a t0 t1 t2 z1 z2
     obtain⟨va9,vc9,vars9,next9,left9,hg10,hf10⟩:=HP9.out.2.1
     have HF10:=hdd hf10
     have HG10:=hdd hg10
     have HK10:=hdd HP9.out.2.2
     clear hg10 hf10 HP9 hown9 hg9 hlies9 HRW HOWN
     go_wp2
     go_roundg (k-1)
     case measure=>omega
     case rel=>exact⟨k-1,a9,c9,fns++[f],va9,vc9,vars9,next9,left9,rfl,(by
      have hk1:((k-1:Nat):Int)=(k:Int)-1:=by have:=HKK.out;omega
      have hkv:=HSV.out.2.1.1
      have hk2:=HKK.out
      rw [hk1,IntWalk.wrap64_in _ (by omega)]),hdd ⟨by have:=HSV.out.2.1.1;omega,by have:=HSV.out.2.1.2.1;have:=HKK.out;simp;omega,HG10.out.more (by have:=HU1.out;have:=HCR.out;omega),HK10.out.1,HK10.out.2.1,HK10.out.2.2,by
       rw [← HSV.out.2.1.2.2.2.2.2.2]
       exact(Zal HKK.out.1 HFN2.out.1 HFN2.out.2 HF10.out).symm⟩⟩
end
end Go.Proofs.YtloooebabieeeaaGreatDoor
