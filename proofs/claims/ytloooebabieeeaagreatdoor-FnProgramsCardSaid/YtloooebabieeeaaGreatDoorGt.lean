/-
  The drawn program as a function of the reader's bytes: the functions themselves; where the reader stands.
-/
import Derived.Test.YtloooebabieeeaaGreatDoorCp
import Derived.Test.YtloooebabieeeaaGreatDoorDr4
import Derived.Test.YtloooebabieeeaaGreatDoorVs
import Derived.Deep.LoopGhost
import Derived.Deep.DeepCutAuto
import Derived.StillTailTactics
import Derived.Deep.QuietTactic
import Derived.BigQuiet
set_option maxRecDepth 100000
set_option maxHeartbeats 16000000
set_option linter.unusedVariables false
namespace Go.Proofs.YtloooebabieeeaaGreatDoor
open Go.RowKit
def ZcL:Option Value→Nat
 | some (Value.int _ p)=>p.toNat
 | _=>0
def Z5 (w:World) (br:Nat):Nat:=ZcL (w.cell? ⟨br,1,none⟩)
theorem Rd.pos {w0 w:World} {br:Nat} {a:Option Addr} {len cap:Nat} {bs:List Int} {p:Nat} (h:Rd w0 w br a len cap bs p):Z5 w br=p:=by
 have h1:w.cell? ⟨br,1,none⟩=some (.int .i64 p):=by rw [coR w br 1 _ _ _ h.blk];rfl
 simp [Z5,h1,ZcL]
theorem Z2K {w w':World} {br:Nat} (h:w'.heap[br]? = w.heap[br]?):Z5 w' br=Z5 w br:=by rw [Z5,World.cell?_of_block h];rfl
theorem Zs {w w':World} {br:Nat} (hb:Below w.heap.size w w') (h:br<w.heap.size):Z5 w' br=Z5 w br:=Z2K (hb.block br h)
theorem Z0b {w:World} {br g i:Nat} {v:Value} (h:br≠g):Z5 (w.setCell ⟨g,i,none⟩ v) br=Z5 w br:=Z2K (heap_setCell_other w _ _ _ h)
theorem Z0P {w:World} {br g i:Nat} {vs:List Value} (h:br≠g):Z5 (w.setCells g i vs) br=Z5 w br:=Z2K (Z0o h _ _ _)
theorem Z1u {T:Nat→Prop} {w w':World} {br:Nat} (ht:Ze T w w') (h:br<w.heap.size) (hT:¬T br):Z5 w' br=Z5 w br:=Z2K (ht.block br h hT)
def Z8C:ByteArray:=⟨#[97,98,99,100,101,103,104,105,106,107,108,109,110,112,113,114,115,116,117,118,119,120,121,122]⟩
def Z4l (bs:List Int) (vars:List ByteArray) (next:Int) (p:Nat):ByteArray×Nat:=
 if ZP bs 9 p=0∧0<vars.length then (ofF bs vars (p+1),p+2)
 else (ByteArray.extract Z8C (next.toNat % 24) (next.toNat % 24+1),p+1)
def Z0f (bs:List Int) (fns:List FnD) (vars:List ByteArray) (deep p:Nat):Z6×Nat:=
 let r:=Z0d bs vars deep p
 if fns.length=0 then r
 else if 0<ZP bs 4 r.2 then (r.1,r.2+1)
 else
  let f:=fns.getD (ZP bs (fns.length:Int) (r.2+1)).toNat ⟨⟨#[]⟩,[],[]⟩
  let ks:=Z4v (Z0d bs vars 2) f.params.length (r.2+2)
  let c:Z6:=.mk 13 0 f.name ks.1
  if ZP bs 2 ks.2=0 then (c,ks.2+1)
  else
   let e:=Z0d bs vars 2 (ks.2+2)
   (.mk (Z2Y bs [3,4,8,10] (ks.2+1)) 0 ⟨#[]⟩ [c,e.1],e.2)
theorem Z7X {bs:List Int} {fns:List FnD} {vars:List ByteArray} {deep p q:Nat} {x:Z6} (h:Z0d bs vars deep p=(x,q)) (hf:fns.length=0):Z0f bs fns vars deep p=(x,q):=by
 simp only [Z0f,h,if_pos hf]
theorem Z9l {bs:List Int} {fns:List FnD} {vars:List ByteArray} {deep p q:Nat} {x:Z6} {v:Int} (h:Z0d bs vars deep p=(x,q)) (hf:¬fns.length=0) (hv:ZP bs 4 q=v) (h0:0<v):Z0f bs fns vars deep p=(x,q+1):=by
 simp only [Z0f,h,if_neg hf,hv,if_pos h0]
theorem Z8g {bs:List Int} {fns:List FnD} {vars:List ByteArray} {deep p q q2 j:Nat} {x:Z6} {v:Int} {f:FnD} {ks:List Z6} (h:Z0d bs vars deep p=(x,q)) (hf:¬fns.length=0) (hv:ZP bs 4 q=v) (h0:¬0<v)
  (hj:ZP bs (fns.length:Int) (q+1)=(j:Int)) (hfj:fns[j]? = some f) (hk:Z4v (Z0d bs vars 2) f.params.length (q+2)=(ks,q2)) :
  Z0f bs fns vars deep p=if ZP bs 2 q2=0 then (.mk 13 0 f.name ks,q2+1) else (.mk (Z2Y bs [3,4,8,10] (q2+1)) 0 ⟨#[]⟩ [.mk 13 0 f.name ks,(Z0d bs vars 2 (q2+2)).1],(Z0d bs vars 2 (q2+2)).2):=by
 have hg:fns.getD j ⟨⟨#[]⟩,[],[]⟩=f:=by simp [List.getD,hfj]
 simp only [Z0f,h,if_neg hf,hv,if_neg h0,hj,Int.toNat_natCast,hg,hk]
def Z7t (bs:List Int) (fns:List FnD) (vars:List ByteArray) (p:Nat):Z6×Nat:=
 let r:=Z0f bs fns vars 2 p
 (.mk 7 0 ⟨#[]⟩ [r.1,.mk 1 (Z2Y bs [16,16,16,8,17,0] r.2) ⟨#[]⟩ []],r.2+1)
structure GS where
 p:Nat
 vars:List ByteArray
 next:Int
 left:Int
def ZcA (bs:List Int) (e:Z6) (s:GS):Zb×GS:=
 let r:=Z4l bs s.vars (s.next+1) s.p
 (.mk 1 r.1 [e] [] [],⟨r.2,s.vars++[r.1],s.next+1,s.left⟩)
def Z6n (bs:List Int) (blk:GS→List Zb×GS) (s:GS):List Zb×GS:=
 let f:=ZcA bs (.mk 1 (Z2Y bs [2,3,1,0,5] s.p) ⟨#[]⟩ []) { s with p:=s.p+1 }
 let b:=blk f.2
 let i:Z6:=.mk 2 0 f.1.name []
 ([f.1,.mk 6 ⟨#[]⟩ [i] (b.1++[.mk 2 f.1.name [.mk 4 0 ⟨#[]⟩ [i,.mk 1 1 ⟨#[]⟩ []]] [] []]) []],{ b.2 with left:=b.2.left-2 })
def Z1L (some:GS→List Zb×GS):Nat→List Zb→GS→List Zb×GS
 | 0,out,s=>(out,s)
 | k+1,out,s=>if 0<s.left then Z1L some k (out++(some s).1) (some s).2 else (out,s)
def Z5D (bs:List Int) (some:GS→List Zb×GS) (s:GS):List Zb×GS:=
 let r:=Z1L some (Z2Y bs [2,3,1,4] s.p).toNat [] { s with p:=s.p+1 }
 (r.1,{ r.2 with vars:=s.vars })
def Zf (br bg:Nat) (w w':World):Prop:=Ze (fun k=>k=br∨k=bg∨w.heap.size≤k) w w'
section
variable {br bg:Nat} {a b c w w':World}
theorem Zf.refl (br bg:Nat) (w:World):Zf br bg w w:=Ze.refl _ w
theorem Zf.trans (h:Zf br bg a b) (k:Zf br bg b c):Zf br bg a c:=
 Ze.trans h (Ze.mono (T:=fun i=>i=br∨i=bg∨a.heap.size≤i) k (fun i hi=>by have:=h.size;omega))
theorem Zf.of (h:Zd br w w'):Zf br bg w w':=Ze.mono (S:=fun k=>k=br∨w.heap.size≤k) h (fun i hi=>by omega)
theorem Zf.below (hb:Below w.heap.size w w'):Zf br bg w w':=Zf.of (Zd.below hb)
theorem Zf.alloc (w:World) (o:Obj):Zf br bg w (w.alloc o):=Zf.below ((bRf _ _).alloc (Nat.le_refl _) _)
theorem Zf.drewN (w:World) (n:Nat):Zf br bg w (w.drewN n):=Zf.below (below_drewN (bRf _ _) n)
theorem Zf.size (h:Zf br bg w w'):w.heap.size≤w'.heap.size:=Ze.size (S:=fun k=>k=br∨k=bg∨w.heap.size≤k) h
theorem Zf.grown {o:Option Nat} (h:w.grownBy w' o) (hw:∀i,o=some i→a.heap.size≤i) (h0:Zf br bg a w):Zf br bg a w':=
 Ze.trans (S:=fun k=>k=br∨k=bg∨a.heap.size≤k) h0 (Ze.mono (Zi h (S:=fun i=>o=some i) (fun i hi=>hi)) (fun i hi=>.inr (.inr (hw i hi))))
theorem Zf.list {α : Type} {s:Nat} {R:Z2u α} (hR:Z1g s R) (h:Zf br bg w w') {S:Nat→Prop} {x:Option Addr} {xs:List α} (hx:Za s R S w x xs) (hS:∀k,S k→k≠br∧k≠bg):Za s R S w' x xs:=
 hx.turned hR h (fun k h1 h2 h3=>by have:=hS k h2;omega)
end
theorem Z7W {br:Nat} {w:World} {a:Option Addr} {xs:List ByteArray} (h:Za 1 Z1V (fun k=>k≠br) w a xs):Z2f br w a xs.length xs:=by
 refine⟨⟨rfl,?_⟩,fun hn=>?_⟩
 ·obtain⟨h1,cells,h2,h3,h4,h5⟩:=h.rd
  have he:cells.flatten=xs.map Value.string:=by
   clear h2
   have hl:cells.length=xs.length:=h3
   clear h h1 h3 h4
   induction cells generalizing xs with
   | nil=>cases xs with
    | nil=>rfl
    | cons x xs=>simp at hl
   | cons c cs ih=>
    cases xs with
    | nil=>simp at hl
    | cons x xs=>
     have h0:=(h5 0 c x rfl rfl).1
     rw [List.flatten_cons,h0,List.map_cons,ih (xs:=xs) (fun i c' x' hc hx=>h5 (i+1) c' x' hc hx) (by simpa using hl)]
     rfl
  rw [← he];exact h2
 ·obtain⟨b,off,h1,h2,h3⟩:=h.blk (fun e=>hn (by rw [e];rfl))
  exact⟨b,off,h1,h2,h3⟩
theorem Z0Y {S:Nat→Prop} {w:World} {a:Option Addr} {xs:List ByteArray} (h:Za 1 Z1V S w a xs):∀s∈xs,s.size≤maxLen:=fun s hs=>by
 obtain⟨h1,cells,h2,h3,h4,h5⟩:=h.rd
 obtain⟨i,hi,rfl⟩:=List.getElem_of_mem hs
 exact(h5 i _ _ (List.getElem?_eq_getElem (by omega)) (List.getElem?_eq_getElem hi)).2
theorem Z9n {S:Nat→Prop} {w:World} {t:TypeId} {b:Nat} {xs:List ByteArray} (hb:w.heap[b]? = some (.cells (xs.map Value.string).toArray t (0,0))) (hS:S b) (hx:∀s∈xs,s.size≤maxLen):Za 1 Z1V S w (some ⟨b,0,none⟩) xs:=by
 have hf:∀ys:List ByteArray,(ys.map fun s=>[Value.string s]).flatten=ys.map Value.string:=fun ys=>by
  induction ys with
  | nil=>rfl
  | cons y ys ih=>rw [List.map_cons,List.flatten_cons,ih];rfl
 refine Za.laid (cells:=xs.map fun s=>[.string s]) (by rw [hf];exact hb) hS (by simp) (fun c hc=>?_) (fun i cl x hc hx'=>?_)
 ·obtain⟨s,_,rfl⟩:=List.mem_map.1 hc;rfl
 ·rw [List.getElem?_map] at hc
  rw [hx'] at hc
  cases hc
  exact⟨rfl,hx _ (List.mem_of_getElem? hx')⟩
structure GSt (w0:World) (br bg:Nat) (a:Option Addr) (len cap:Nat) (bs:List Int) (fa:Option Addr) (fc:Nat) (fns:List FnD) (u:Nat) (va:Option Addr) (vc:Nat) (vars:List ByteArray) (next left:Int) (w:World):Prop where
 rd:∃p,p≤u∧Rd w0 w br a len cap bs p
 row:w.heap[bg]? = some (.cells #[.pointer (some ⟨br,0,none⟩),.slice fa fns.length fc,.slice va vars.length vc,.int .i64 next,.int .i64 left] 71 (0,0))
 base:w0.heap.size≤bg∧br<bg
 vlist:Za 1 Z1V (fun k=>k≠br∧k≠bg) w va vars
 flist:Za 3 (FnP 20) (fun k=>k≠br∧k≠bg) w fa fns
 bnd:vars.length≤u+3∧fns.length≤3∧(∀f∈fns,f.params.length≤3)∧-1≤next∧next≤u+3∧-(3*u)-3≤left∧left≤30
section
variable {w0 w w':World} {br bg:Nat} {a:Option Addr} {len cap:Nat} {bs:List Int} {fa:Option Addr} {fc:Nat} {fns:List FnD} {u u':Nat} {va:Option Addr} {vc:Nat} {vars:List ByteArray} {next left:Int}
theorem GSt.lts (h:GSt w0 br bg a len cap bs fa fc fns u va vc vars next left w):br<w.heap.size∧bg<w.heap.size:=by
 obtain⟨p,_,hp⟩:=h.rd
 exact⟨hp.lt,(gsI h.row).1⟩
theorem GSt.more (h:GSt w0 br bg a len cap bs fa fc fns u va vc vars next left w) (hu:u≤u'):GSt w0 br bg a len cap bs fa fc fns u' va vc vars next left w:=by
 obtain⟨p,h1,hp⟩:=h.rd
 obtain⟨b1,b2,b3,b4,b5,b6,b7⟩:=h.bnd
 exact⟨⟨p,by omega,hp⟩,h.row,h.base,h.vlist,h.flist,by omega,b2,b3,b4,by omega,by omega,b7⟩
theorem GSt.step {q:Nat} (h:GSt w0 br bg a len cap bs fa fc fns u va vc vars next left w) (ht:Zd br w w') (hr:Rd w0 w' br a len cap bs q) (hq:q≤u') (hu:u≤u'):GSt w0 br bg a len cap bs fa fc fns u' va vc vars next left w':=by
 have h2:=h.more hu
 exact⟨⟨q,hq,hr⟩,(ht.block h.lts.2 (by have:=h.base;omega)).trans h.row,h.base,(Zf.of (bg:=bg) ht).list Z3 h.vlist (fun k h=>h),(Zf.of (bg:=bg) ht).list (Z2 20) h.flist (fun k h=>h),h2.bnd⟩
theorem GSt.later (h:GSt w0 br bg a len cap bs fa fc fns u va vc vars next left w) (hb:Below w.heap.size w w'):GSt w0 br bg a len cap bs fa fc fns u va vc vars next left w':=by
 obtain⟨p,h1,hp⟩:=h.rd
 exact h.step (Zd.below hb) (hp.later' hb) h1 (Nat.le_refl _)
theorem GSt.alloc (o:Obj) (h:GSt w0 br bg a len cap bs fa fc fns u va vc vars next left w):GSt w0 br bg a len cap bs fa fc fns u va vc vars next left (w.alloc o):=h.later ((bRf _ _).alloc (Nat.le_refl _) _)
theorem GSt.drewN (n:Nat) (h:GSt w0 br bg a len cap bs fa fc fns u va vc vars next left w):GSt w0 br bg a len cap bs fa fc fns u va vc vars next left (w.drewN n):=h.later (below_drewN (bRf _ _) n)
theorem GSt.drew (h:GSt w0 br bg a len cap bs fa fc fns u va vc vars next left w):GSt w0 br bg a len cap bs fa fc fns u va vc vars next left w.drew:=h.drewN 1
theorem GSt.other {T:Nat→Prop} (h:GSt w0 br bg a len cap bs fa fc fns u va vc vars next left w) (ht:Ze T w w') (hT:∀k,k<w.heap.size→T k→¬k=br∧¬k=bg∧w0.heap.size≤k)
  (hv:Za 1 Z1V (fun k=>k≠br∧k≠bg) w' va vars) (hf:Za 3 (FnP 20) (fun k=>k≠br∧k≠bg) w' fa fns):GSt w0 br bg a len cap bs fa fc fns u va vc vars next left w':=by
 obtain⟨p,h1,hp⟩:=h.rd
 refine⟨⟨p,h1,hp.bytes,hp.below.trans (ht.below (B:=w0.heap.size) hp.below.size (fun k hk=>?_)),hp.base,(ht.block _ hp.lt (fun e=>(hT _ hp.lt e).1 rfl)).trans hp.blk⟩,(ht.block _ h.lts.2 (fun e=>(hT _ h.lts.2 e).2.1 rfl)).trans h.row,h.base,hv,hf,h.bnd⟩
 by_cases hk2:k<w.heap.size
 ·exact(hT k hk2 hk).2.2
 ·have:=hp.below.size;omega
theorem GSt.c0 (h:GSt w0 br bg a len cap bs fa fc fns u va vc vars next left w):w.cell? ⟨bg,0,none⟩=some (.pointer (some ⟨br,0,none⟩)):=coR _ _ 0 _ _ _ h.row
theorem GSt.c1 (h:GSt w0 br bg a len cap bs fa fc fns u va vc vars next left w):w.cell? ⟨bg,1,none⟩=some (.slice fa fns.length fc):=coR _ _ 1 _ _ _ h.row
theorem GSt.c2 (h:GSt w0 br bg a len cap bs fa fc fns u va vc vars next left w):w.cell? ⟨bg,2,none⟩=some (.slice va vars.length vc):=coR _ _ 2 _ _ _ h.row
theorem GSt.c3 (h:GSt w0 br bg a len cap bs fa fc fns u va vc vars next left w):w.cell? ⟨bg,3,none⟩=some (.int .i64 next):=coR _ _ 3 _ _ _ h.row
theorem GSt.c4 (h:GSt w0 br bg a len cap bs fa fc fns u va vc vars next left w):w.cell? ⟨bg,4,none⟩=some (.int .i64 left):=coR _ _ 4 _ _ _ h.row
theorem GSt.f (h:GSt w0 br bg a len cap bs fa fc fns u va vc vars next left w) (i:Nat):w.frozen? ⟨bg,i,none⟩=false:=frR _ _ i _ _ h.row
theorem GSt.strs (h:GSt w0 br bg a len cap bs fa fc fns u va vc vars next left w):Z2f br w va vars.length vars:=Z7W (h.vlist.mono Z3 (fun _ _ h=>h.1))
theorem GSt.setNext (h:GSt w0 br bg a len cap bs fa fc fns u va vc vars next left w) {n':Int} (hn:-1≤n'∧n'≤u+3):GSt w0 br bg a len cap bs fa fc fns u va vc vars n' left (w.setCell ⟨bg,3,none⟩ (.int .i64 n'))∧Zf br bg w (w.setCell ⟨bg,3,none⟩ (.int .i64 n')):=by
 have ht:=Z4 w bg 3 (.int .i64 n')
 have ht2:Zf br bg w (w.setCell ⟨bg,3,none⟩ (.int .i64 n')):=ht.mono (fun k hk=>.inr (.inl hk))
 obtain⟨p,h1,hp⟩:=h.rd
 have hb:=h.bnd
 refine⟨⟨⟨p,h1,hp.bytes,hp.below.trans (ht.below (B:=w0.heap.size) hp.below.size (fun k hk=>by have:=h.base;omega)),hp.base,(ht.block _ hp.lt (fun e=>by have:=h.base;omega)).trans hp.blk⟩,hSs w bg 3 _ _ _ h.row,h.base,ht2.list Z3 h.vlist (fun k h=>h),ht2.list (Z2 20) h.flist (fun k h=>h),by refine⟨hb.1,hb.2.1,hb.2.2.1,hn.1,hn.2,hb.2.2.2.2.2.1,hb.2.2.2.2.2.2⟩⟩,ht2⟩
theorem GSt.setLeft (h:GSt w0 br bg a len cap bs fa fc fns u va vc vars next left w) {n':Int} (hn:-(3*u)-3≤n'∧n'≤30):GSt w0 br bg a len cap bs fa fc fns u va vc vars next n' (w.setCell ⟨bg,4,none⟩ (.int .i64 n'))∧Zf br bg w (w.setCell ⟨bg,4,none⟩ (.int .i64 n')):=by
 have ht:=Z4 w bg 4 (.int .i64 n')
 have ht2:Zf br bg w (w.setCell ⟨bg,4,none⟩ (.int .i64 n')):=ht.mono (fun k hk=>.inr (.inl hk))
 obtain⟨p,h1,hp⟩:=h.rd
 have hb:=h.bnd
 refine⟨⟨⟨p,h1,hp.bytes,hp.below.trans (ht.below (B:=w0.heap.size) hp.below.size (fun k hk=>by have:=h.base;omega)),hp.base,(ht.block _ hp.lt (fun e=>by have:=h.base;omega)).trans hp.blk⟩,hSs w bg 4 _ _ _ h.row,h.base,ht2.list Z3 h.vlist (fun k h=>h),ht2.list (Z2 20) h.flist (fun k h=>h),by refine⟨hb.1,hb.2.1,hb.2.2.1,hb.2.2.2.1,hb.2.2.2.2.1,hn.1,hn.2⟩⟩,ht2⟩
theorem GSt.setVars (h:GSt w0 br bg a len cap bs fa fc fns u va vc vars next left w) {va':Option Addr} {vc':Nat} {vars':List ByteArray} (hv:Za 1 Z1V (fun k=>k≠br∧k≠bg) w va' vars') (hn:vars'.length≤u+3):GSt w0 br bg a len cap bs fa fc fns u va' vc' vars' next left (w.setCell ⟨bg,2,none⟩ (.slice va' vars'.length vc'))∧Zf br bg w (w.setCell ⟨bg,2,none⟩ (.slice va' vars'.length vc')):=by
 have ht:=Z4 w bg 2 (.slice va' vars'.length vc')
 have ht2:Zf br bg w (w.setCell ⟨bg,2,none⟩ (.slice va' vars'.length vc')):=ht.mono (fun k hk=>.inr (.inl hk))
 obtain⟨p,h1,hp⟩:=h.rd
 have hb:=h.bnd
 refine⟨⟨⟨p,h1,hp.bytes,hp.below.trans (ht.below (B:=w0.heap.size) hp.below.size (fun k hk=>by have:=h.base;omega)),hp.base,(ht.block _ hp.lt (fun e=>by have:=h.base;omega)).trans hp.blk⟩,hSs w bg 2 _ _ _ h.row,h.base,ht2.list Z3 hv (fun k h=>h),ht2.list (Z2 20) h.flist (fun k h=>h),by refine⟨hn,hb.2.1,hb.2.2.1,hb.2.2.2.1,hb.2.2.2.2.1,hb.2.2.2.2.2.1,hb.2.2.2.2.2.2⟩⟩,ht2⟩
end
section
variable {w0:World} {br bg:Nat} {a:Option Addr} {len cap:Nat} {bs:List Int} {fa:Option Addr} {fc:Nat} {fns:List FnD}
theorem Zai (hlen:len≤2000) (u:Nat) (va:Option Addr) (vc:Nat) (vars:List ByteArray) (next left:Int) (w:World) (h:GSt w0 br bg a len cap bs fa fc fns u va vc vars next left w) (hu:u≤1000000000) :
  Calls Tryz.prog 123 #[.pointer (some ⟨bg,0,none⟩)] w fun e w'=>∃s n',e=.returned (.string s)∧s.size≤maxLen∧GSt w0 br bg a len cap bs fa fc fns (u+3) va vc vars n' left w'∧Zf br bg w w'∧n'=next+1∧Z4l bs vars (next+1) (Z5 w br)=(s,Z5 w' br):=by
 have hn:=h.bnd
 have HU:=hdd hu
 have hw:wrap64 (next+1)=next+1:=IntWalk.wrap64_in _ (by omega)
 have HS:=hdd ((h.more (show u≤u+1 by omega)).setNext (n':=next+1) (by omega))
 have c3:=h.c3
 have f3:=h.f 3
 have HN:=hdd (show 0≤next+1∧next+1≤1000000010 by omega)
 have HP0:=hdd (show Z5 (w.setCell ⟨bg,3,none⟩ (.int .i64 (next+1))) br=Z5 w br from Z0b (by have:=h.base;omega))
 clear hn hu h
 go_enter Tryz.func123,Tryz.ntmps123
 go_upto_region 2 with fail
 clear c3 f3 hw
 obtain⟨nx,hnx⟩:∃n:Int,n=next+1:=⟨_,rfl⟩
 have HNX:=hdd hnx
 rw [← hnx] at HS HN HP0 ⊢
 clear hnx
 generalize w.setCell ⟨bg,3,none⟩ (.int .i64 nx)=W1 at HS HP0 ⊢
 obtain⟨p,hp,hrd⟩:=HS.out.1.rd
 have HP:=hdd hp
 have c0:=HS.out.1.c0
 go_wp2_with fail
 refine(Z01 w0 _ br a len cap bs p 9 hrd (by omega) hlen (by have:=HU.out;omega)).mono ?_
 rintro e w2 ⟨v,_,_,rfl,hrd2,hg2,hV⟩
 have HG2:=hdd (aI (HS.out.1.step (u':=u+2) (Zd.grown hg2) hrd2 (by have:=HP.out;omega) (by omega)) (HS.out.2.trans (Zf.of (Zd.grown hg2))))
 have HPW:=hdd (show Z5 w br=p by rw [← HP0.out,hrd.pos])
 have HV:=hdd (aI hV hrd2.pos)
 clear hrd2 hg2 hrd hp c0 hV
 have c0:=HG2.out.1.c0
 have c2:=HG2.out.1.c2
 have c3:=HG2.out.1.c3
 by_cases hv:v=0∧0<vars.length
 ·obtain⟨rfl,hv2⟩:=hv
  have HVL:=hdd hv2
  obtain⟨p2,hp2,hrd2⟩:=HG2.out.1.rd
  have HP2:=hdd (aI hp2 hrd2)
  clear hp2 hrd2
  go_upto_region 3 with fail
  go_still_tail 8,(by kernel_rfl)
  change wpList _ _ _ _ _ w2.drew
  have HD:=hdd (aI HG2.out.1.drew (show Rd w0 w2.drew br a len cap bs p2 from HP2.out.2.later' ((bRf _ _).drew)))
  have HDB:=hdd (show Zf br bg w w2.drew from HG2.out.2.trans (Zf.below ((bRf _ _).drew)))
  clear c0 c2 c3
  generalize w2.drew=W3 at HD HDB ⊢
  go_wp2_with fail
  refine(Z4u w0 W3 br a len cap bs p2 va vars.length vc vars HD.out.2 HD.out.1.strs (by have:=HVL.out;omega) hlen (by have:=HP2.out.1;have:=HU.out;omega)).mono ?_
  rintro e w4 ⟨s,hs,rfl,hrd4,hg4,hF4⟩
  have HF:=hdd (show s.size≤maxLen∧GSt w0 br bg a len cap bs fa fc fns (u+3) va vc vars nx left w4∧Zf br bg w w4 from
   ⟨Z0Y HD.out.1.vlist s hs,HD.out.1.step (Zd.grown hg4) hrd4 (by have:=HP2.out.1;omega) (by omega),HDB.out.trans (Zf.of (Zd.grown hg4))⟩)
  have HFF:=hdd (show Z4l bs vars nx (Z5 w br)=(s,Z5 w4 br) by
   have h2:=HV.out.2
   rw [HP2.out.2.pos] at h2
   rw [hrd4.pos,HPW.out,Z4l,if_pos ⟨HV.out.1,HVL.out⟩,h2]
   rw [h2] at hF4
   rw [hF4])
  clear hs hrd4 hg4 hF4
  go_wp2
  go_ret
  exact⟨s,nx,rfl,HF.out.1,HF.out.2.1,HF.out.2.2,HNX.out,HNX.out▸HFF.out⟩
 ·have HF0:=hdd (aI (HG2.out.1.more (show u+2≤u+3 by omega)) HG2.out.2)
  obtain⟨k,hk⟩:∃k:Nat,nx=k:=Int.eq_ofNat_of_zero_le HN.out.1
  have hm0:nx.tmod 24=((k % 24:Nat):Int):=by rw [hk];rfl
  have HK:=hdd (show k % 24<24 by omega)
  obtain⟨j,hj⟩:∃j:Nat,j=k % 24:=⟨_,rfl⟩
  have HFF:=hdd (show Z4l bs vars nx (Z5 w br)=(ByteArray.extract Z8C j (j+1),Z5 w2 br) by
   rw [HPW.out,HV.out.2,Z4l,if_neg (by rw [HV.out.1];exact hv),hj,hk,Int.toNat_natCast])
  rw [← hj] at hm0 HK
  have hwj:IntKind.i64.wrap ((j:Int)+1)=(j:Int)+1:=IntWalk.i64_in _ (by have:=HK.out;omega)
  have hj1:((j:Int)+1).toNat=j+1:=by omega
  have hj2:(0:Int)≤(j:Int)+1:=by omega
  have hj24:(j:Int)+1≤24:=by have:=HK.out;omega
  clear hk hj
  by_cases hv0:v=0
  ·subst hv0
   have hl0:¬0<vars.length:=fun h=>hv ⟨rfl,h⟩
   clear hv
   go_upto_region 4 with fail
   go_quiet (fail)
   have HF:=hdd (show(ByteArray.extract ⟨#[97,98,99,100,101,103,104,105,106,107,108,109,110,112,113,114,115,116,117,118,119,120,121,122]⟩ j (j+1)).size≤maxLen∧GSt w0 br bg a len cap bs fa fc fns (u+3) va vc vars nx left (w2.drewN nq)∧Zf br bg w (w2.drewN nq) from
    ⟨by rw [ByteArray.size_extract];unfold maxLen;omega,HF0.out.1.drewN nq,HF0.out.2.trans (Zf.drewN w2 nq)⟩)
   clear c0 c2 c3 hm0 hwj hj1 hj2 hj24
   go_wp2
   go_ret
   exact⟨_,nx,rfl,HF.out.1,HF.out.2.1,HF.out.2.2,HNX.out,HNX.out▸HFF.out⟩
  have hv1:(v==0)=false:=by simpa using hv0
  clear hv hv0
  go_upto_region 4 with fail
  go_quiet (fail)
  have HF:=hdd (show(ByteArray.extract ⟨#[97,98,99,100,101,103,104,105,106,107,108,109,110,112,113,114,115,116,117,118,119,120,121,122]⟩ j (j+1)).size≤maxLen∧GSt w0 br bg a len cap bs fa fc fns (u+3) va vc vars nx left (w2.drewN nq)∧Zf br bg w (w2.drewN nq) from
   ⟨by rw [ByteArray.size_extract];unfold maxLen;omega,HF0.out.1.drewN nq,HF0.out.2.trans (Zf.drewN w2 nq)⟩)
  clear c0 c2 c3 hm0 hwj hj1 hj2 hj24
  go_wp2
  go_ret
  exact⟨_,nx,rfl,HF.out.1,HF.out.2.1,HF.out.2.2,HNX.out,HNX.out▸HFF.out⟩
end
end Go.Proofs.YtloooebabieeeaaGreatDoor
