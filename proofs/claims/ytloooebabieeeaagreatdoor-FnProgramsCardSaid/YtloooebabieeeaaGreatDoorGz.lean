/-
  The reference draws programs: what a call's own blocks are like while it draws.
-/
import Derived.Test.YtloooebabieeeaaGreatDoorCp
import Derived.Test.YtloooebabieeeaaGreatDoorGt
import Derived.Deep.RegionHeld3
import Derived.Test.YtloooebabieeeaaGreatDoorEp
import Derived.Deep.LoopGhost
set_option maxRecDepth 100000
set_option maxHeartbeats 16000000
set_option linter.unusedVariables false
namespace Go.Proofs.YtloooebabieeeaaGreatDoor
open Go.RowKit
structure Z1H (b:Nat) (w W:World):Prop where
 blk:W.heap[b]? = w.heap[b]?
 lt:b<w.heap.size∧w.heap.size≤W.heap.size
theorem Z1H.refl {b:Nat} {w:World} (h:b<w.heap.size):Z1H b w w:=⟨rfl,h,Nat.le_refl _⟩
theorem Z1H.later {b:Nat} {w W W':World} (h:Z1H b w W) (hb:Below W.heap.size W W'):Z1H b w W':=⟨(hb.block b (by have:=h.lt;omega)).trans h.blk,h.lt.1,Nat.le_trans h.lt.2 hb.size⟩
theorem Z1H.alloc {b:Nat} {w W:World} (o:Obj) (h:Z1H b w W):Z1H b w (W.alloc o):=h.later ((bRf _ _).alloc (Nat.le_refl _) _)
theorem Z1H.drewN {b:Nat} {w W:World} (n:Nat) (h:Z1H b w W):Z1H b w (W.drewN n):=h.later (below_drewN (bRf _ _) n)
theorem Z1H.cell {b:Nat} {w W:World} (h:Z1H b w W):∀i,W.cell? ⟨b,i,none⟩=w.cell? ⟨b,i,none⟩:=fun i=>World.cell?_of_block h.blk
theorem Z6R (w:World) (g:Nat) (v0 v1 v2:Value):w.setCells g 0 [v0,v1,v2]=((w.setCell ⟨g,0,none⟩ v0).setCell ⟨g,1,none⟩ v1).setCell ⟨g,2,none⟩ v2:=rfl
theorem Z4P {d:Nat} {op:Int} (hop:-9223372036854775808≤op∧op≤9223372036854775807) {S:Nat→Prop} {w:World} {b c:Nat} {c1 c2:List Value} {x1 x2:Z6} {t:TypeId} (hb:w.heap[b]? = some (.cells (c1++c2).toArray t (0,0))) (hS:S b) (h1:ZG d S w c1 x1) (h2:ZG d S w c2 x2) :
  ZG (d+1) S w [.int .i64 op,.int .i64 0,.string ⟨#[]⟩,.slice (some ⟨b,0,none⟩) 2 c] (.mk op 0 ⟨#[]⟩ [x1,x2]):=by
 have hl:Za 4 (ZG d) S w (some ⟨b,0,none⟩) [x1,x2]:=Za.laid (cells:=[c1,c2]) (by simpa using hb) hS rfl (by intro d hd;simp at hd;rcases hd with rfl|rfl;exact(Z1 _).len h1;exact(Z1 _).len h2) (fun i cl y k1 k2=>by
  match i with
  | 0=>cases k1;cases k2;exact h1
  | 1=>cases k1;cases k2;exact h2
  | i+2=>cases k1)
 refine⟨⟨_,c,rfl,⟨by show(2:Nat)≤maxLen;decide,hop⟩,⟨Z22 hl.rd (fun _ _ _ h=>h.1),hl.blk⟩⟩,Z6C h1.2 h2.2⟩
theorem Z9w {α : Type} {s:Nat} {R:Z2u α} {S:Nat→Prop} {w:World} {a:Option Addr} {xs:List α} (h:Za s R S w a xs) {x:α} (hx:x∈xs):∃c,R S w c x:=by
 obtain⟨h1,cells,h2,h3,h4,h5⟩:=h.rd
 obtain⟨i,hi,rfl⟩:=List.getElem_of_mem hx
 exact⟨cells[i]'(by omega),h5 i _ _ (List.getElem?_eq_getElem _) (List.getElem?_eq_getElem _)⟩
theorem Z47 {d:Nat} {S:Nat→Prop} {w:World} {a:Option Addr} {c:Nat} {nm:ByteArray} {ks:List Z6} (h:Za 4 (ZG d) S w a ks) (hn:nm.size≤maxLen) (hl:ks.length≤100) (op:Int) (hop:-9223372036854775808≤op∧op≤9223372036854775807) :
  ZG (d+1) S w [.int .i64 op,.int .i64 0,.string nm,.slice a ks.length c] (.mk op 0 nm ks):=by
 refine⟨⟨a,c,rfl,⟨by show ks.length≤maxLen;unfold maxLen;omega,hop⟩,⟨Z22 h.rd (fun _ _ _ h=>h.1),h.blk⟩⟩,?_⟩
 show(decide (maxLen<nm.size)||ks.any (Z1z Z0k d))=false
 rw [decide_eq_false (by omega),Bool.false_or,List.any_eq_false]
 intro z hz
 obtain⟨c,hc⟩:=Z9w h hz
 rw [hc.2];simp
section
variable {w0 w:World} {br bg:Nat} {a:Option Addr} {len cap:Nat} {bs:List Int} {fa:Option Addr} {fc:Nat} {fns:List FnD} {va:Option Addr} {vc:Nat} {vars:List ByteArray} {next left:Int}
structure BSt (w0 w:World) (br bg:Nat) (a:Option Addr) (len cap:Nat) (bs:List Int) (fa:Option Addr) (fc:Nat) (fns:List FnD) (va:Option Addr) (vc:Nat) (vars:List ByteArray) (next left:Int) (z:List Value) (ty:TypeId) (u:Nat) (wr:World):Prop where
 g:GSt w0 br bg a len cap bs fa fc fns u va vc vars next left wr
 t:Zf br bg w wr
 lt:br<w.heap.size∧bg<w.heap.size∧w0.heap.size≤w.heap.size
 rrow:wr.heap[w.heap.size]? = some (.cells z.toArray ty (0,0))
 vlow:Za 1 Z1V (fun k=>k≠br∧k≠bg∧k<w.heap.size) wr va vars
 flow:Za 3 (FnP 20) (fun k=>k≠br∧k≠bg∧k<w.heap.size) wr fa fns
variable {z:List Value} {ty:TypeId} {u u':Nat} {wr w':World}
theorem BSt.start (z:List Value) (ty:TypeId) (h:GSt w0 br bg a len cap bs fa fc fns u va vc vars next left w):BSt w0 w br bg a len cap bs fa fc fns va vc vars next left z ty u (w.alloc (.cells z.toArray ty)):=
 ⟨h.alloc _,Zf.alloc _ _,⟨h.lts.1,h.lts.2,by obtain⟨p,_,hp⟩:=h.rd;exact hp.below.size⟩,hAn w _,
   ((h.vlist.here Z3).mono Z3 (fun k _ h=>⟨h.1.1,h.1.2,h.2⟩)).below Z3 ((bRf _ _).alloc (Nat.le_refl _) _),((h.flist.here (Z2 20)).mono (Z2 20) (fun k _ h=>⟨h.1.1,h.1.2,h.2⟩)).below (Z2 20) ((bRf _ _).alloc (Nat.le_refl _) _)⟩
theorem BSt.size (h:BSt w0 w br bg a len cap bs fa fc fns va vc vars next left z ty u wr):w.heap.size<wr.heap.size:=(gsI h.rrow).1
theorem BSt.step {q:Nat} (h:BSt w0 w br bg a len cap bs fa fc fns va vc vars next left z ty u wr) (ht:Zd br wr w') (hr:Rd w0 w' br a len cap bs q) (hq:q≤u') (hu:u≤u'):BSt w0 w br bg a len cap bs fa fc fns va vc vars next left z ty u' w':=
 ⟨h.g.step ht hr hq hu,h.t.trans (Zf.of ht),h.lt,(ht.block h.size (by have:=h.lt;omega)).trans h.rrow,(Zf.of (bg:=bg) ht).list Z3 h.vlow (fun k h=>⟨h.1,h.2.1⟩),(Zf.of (bg:=bg) ht).list (Z2 20) h.flow (fun k h=>⟨h.1,h.2.1⟩)⟩
theorem BSt.later (h:BSt w0 w br bg a len cap bs fa fc fns va vc vars next left z ty u wr) (hb:Below wr.heap.size wr w'):BSt w0 w br bg a len cap bs fa fc fns va vc vars next left z ty u w':=
 ⟨h.g.later hb,h.t.trans (Zf.below hb),h.lt,(hb.block _ h.size).trans h.rrow,h.vlow.below Z3 hb,h.flow.below (Z2 20) hb⟩
theorem BSt.alloc (o:Obj) (h:BSt w0 w br bg a len cap bs fa fc fns va vc vars next left z ty u wr):BSt w0 w br bg a len cap bs fa fc fns va vc vars next left z ty u (wr.alloc o):=h.later ((bRf _ _).alloc (Nat.le_refl _) _)
theorem BSt.drewN (n:Nat) (h:BSt w0 w br bg a len cap bs fa fc fns va vc vars next left z ty u wr):BSt w0 w br bg a len cap bs fa fc fns va vc vars next left z ty u (wr.drewN n):=h.later (below_drewN (bRf _ _) n)
theorem BSt.other {T:Nat→Prop} (h:BSt w0 w br bg a len cap bs fa fc fns va vc vars next left z ty u wr) (ht:Ze T wr w') (hT:∀k,T k→w.heap.size<k):BSt w0 w br bg a len cap bs fa fc fns va vc vars next left z ty u w':=by
 have hv:=h.vlow.turned Z3 ht (fun k _ h1 h2=>by have:=hT k h2;omega)
 have hf:=h.flow.turned (Z2 20) ht (fun k _ h1 h2=>by have:=hT k h2;omega)
 have hl:=h.lt
 refine⟨h.g.other ht (fun k _ hk=>by have:=hT k hk;omega) (hv.mono Z3 (fun k _ h=>⟨h.1,h.2.1⟩)) (hf.mono (Z2 20) (fun k _ h=>⟨h.1,h.2.1⟩)),?_,h.lt,(ht.block _ h.size (fun e=>by have:=hT _ e;omega)).trans h.rrow,hv,hf⟩
 exact Ze.trans (S:=fun k=>k=br∨k=bg∨w.heap.size≤k) h.t (ht.mono (fun k hk=>by have:=hT k hk;omega))
theorem BSt.put (h:BSt w0 w br bg a len cap bs fa fc fns va vc vars next left z ty u wr) {cs:List Value} (hl:cs.length=z.length) :
  (wr.setCells w.heap.size 0 cs).heap[w.heap.size]? = some (.cells cs.toArray ty (0,0))∧Ze (fun k=>k=w.heap.size) wr (wr.setCells w.heap.size 0 cs)∧
   GSt w0 br bg a len cap bs fa fc fns u va vc vars next left (wr.setCells w.heap.size 0 cs)∧Zf br bg w (wr.setCells w.heap.size 0 cs):=by
 have ht:=ZB (g:=w.heap.size) cs wr 0
 have hlt:=h.lt
 refine⟨?_,ht,h.g.other ht (fun k _ hk=>by omega) ?_ ?_,Ze.trans (S:=fun k=>k=br∨k=bg∨w.heap.size≤k) h.t (ht.mono (fun k hk=>by omega))⟩
 ·have:=ZF (A:=[]) (B:=z) (C:=[]) (vs:=cs) (o:=0) rfl hl.symm (by simpa using h.rrow)
  simpa using this
 ·exact(h.vlow.turned Z3 ht (fun k _ h1 h2=>by omega)).mono Z3 (fun k _ h=>⟨h.1,h.2.1⟩)
 ·exact(h.flow.turned (Z2 20) ht (fun k _ h1 h2=>by omega)).mono (Z2 20) (fun k _ h=>⟨h.1,h.2.1⟩)
structure Z6l (w:World) (eb hi:Nat) (cs:List Value) (y:Z6) (wr:World):Prop where
 lt:w.heap.size<eb∧eb<hi∧hi≤wr.heap.size
 row:wr.heap[eb]? = some (.cells cs.toArray 64 (0,0))
 ex:ZG 4 (fun b=>w.heap.size<b∧b≠eb∧b<hi) wr cs y
theorem Z6l.turn {w wr w':World} {eb hi:Nat} {cs:List Value} {y:Z6} {T:Nat→Prop} (h:Z6l w eb hi cs y wr) (ht:Ze T wr w') (hT:∀k,k<wr.heap.size→T k→k≤w.heap.size∨hi≤k):Z6l w eb hi cs y w':=
 ⟨⟨h.lt.1,h.lt.2.1,Nat.le_trans h.lt.2.2 ht.size⟩,(ht.block _ (by have:=h.lt;omega) (fun e=>by have:=hT _ (by have:=h.lt;omega) e;have:=h.lt;omega)).trans h.row,(Z1 4).turned ht (fun k h1 h2 h3=>by have:=hT k h1 h3;omega) h.ex⟩
theorem Z6l.later {w wr w':World} {eb hi:Nat} {cs:List Value} {y:Z6} (h:Z6l w eb hi cs y wr) (hb:Below wr.heap.size wr w'):Z6l w eb hi cs y w':=
 h.turn (T:=fun k=>wr.heap.size≤k) (ZS hb (fun k h1 _=>h1)) (fun k h1 h2=>by omega)
theorem Z6l.step {w wr w':World} {br eb hi:Nat} {cs:List Value} {y:Z6} (h:Z6l w eb hi cs y wr) (ht:Zd br wr w') (hbr:br<w.heap.size):Z6l w eb hi cs y w':=
 h.turn (T:=fun k=>k=br∨wr.heap.size≤k) ht (fun k h1 h2=>by omega)
end
section
variable {w0 w:World} {br bg:Nat} {a:Option Addr} {len cap:Nat} {bs:List Int} {fa:Option Addr} {fc:Nat} {fns:List FnD} {va:Option Addr} {vc:Nat} {vars:List ByteArray} {next left:Int}
structure YSt (w0 w:World) (br bg:Nat) (a:Option Addr) (len cap:Nat) (bs:List Int) (fa:Option Addr) (fc:Nat) (fns:List FnD) (va:Option Addr) (vc:Nat) (vars:List ByteArray) (next left:Int) (z:List Value) (ty:TypeId) (eb hi fb cb:Nat) (ecs fcs:List Value) (y:Z6) (nm:ByteArray) (ka:Option Addr) (kc:Nat) (ks:List Z6) (u:Nat) (wr:World):Prop where
 b:BSt w0 w br bg a len cap bs fa fc fns va vc vars next left z ty u wr
 e:Z6l w eb hi ecs y wr
 frow:wr.heap[fb]? = some (.cells fcs.toArray 42 (0,0))
 crow:wr.heap[cb]? = some (.cells #[.int .i64 13,.int .i64 0,.string nm,.slice ka ks.length kc] 64 (0,0))
 lt:hi≤fb∧fb<cb
 kids:ZM 4 (ZG 3) 64 (fun k=>cb<k) (cb+1) wr ka ks.length kc ks
variable {z:List Value} {ty:TypeId} {eb hi fb cb:Nat} {ecs fcs:List Value} {y:Z6} {nm:ByteArray} {ka:Option Addr} {kc:Nat} {ks:List Z6} {u u':Nat} {wr w':World}
theorem YSt.lts (h:YSt w0 w br bg a len cap bs fa fc fns va vc vars next left z ty eb hi fb cb ecs fcs y nm ka kc ks u wr):w.heap.size<hi∧fb<wr.heap.size∧cb<wr.heap.size∧br<w.heap.size:=⟨by have:=h.e.lt;omega,(gsI h.frow).1,(gsI h.crow).1,h.b.lt.1⟩
theorem YSt.step {q:Nat} (h:YSt w0 w br bg a len cap bs fa fc fns va vc vars next left z ty eb hi fb cb ecs fcs y nm ka kc ks u wr) (ht:Zd br wr w') (hr:Rd w0 w' br a len cap bs q) (hq:q≤u') (hu:u≤u'):YSt w0 w br bg a len cap bs fa fc fns va vc vars next left z ty eb hi fb cb ecs fcs y nm ka kc ks u' w':=by
 have h1:=h.lts
 have h2:=h.lt
 refine⟨h.b.step ht hr hq hu,h.e.step ht h1.2.2.2,(ht.block h1.2.1 (by omega)).trans h.frow,(ht.block h1.2.2.1 (by omega)).trans h.crow,h.lt,?_⟩
 refine h.kids.turned (Z1 3) (T:=fun k=>k=br∨wr.heap.size≤k) ht (fun k hk h3=>?_) (fun k hk h3 h4=>by have h3:cb<k:=h3;omega)
 obtain⟨⟨cells,g1,_⟩,_⟩:=h.kids
 have:=g1.lt k hk
 omega
theorem YSt.later (h:YSt w0 w br bg a len cap bs fa fc fns va vc vars next left z ty eb hi fb cb ecs fcs y nm ka kc ks u wr) (hb:Below wr.heap.size wr w'):YSt w0 w br bg a len cap bs fa fc fns va vc vars next left z ty eb hi fb cb ecs fcs y nm ka kc ks u w':=by
 obtain⟨p,h1,hp⟩:=h.b.g.rd
 exact h.step (Zd.below hb) (hp.later' hb) h1 (Nat.le_refl _)
theorem YSt.alloc (o:Obj) (h:YSt w0 w br bg a len cap bs fa fc fns va vc vars next left z ty eb hi fb cb ecs fcs y nm ka kc ks u wr):YSt w0 w br bg a len cap bs fa fc fns va vc vars next left z ty eb hi fb cb ecs fcs y nm ka kc ks u (wr.alloc o):=h.later ((bRf _ _).alloc (Nat.le_refl _) _)
theorem YSt.drewN (n:Nat) (h:YSt w0 w br bg a len cap bs fa fc fns va vc vars next left z ty eb hi fb cb ecs fcs y nm ka kc ks u wr):YSt w0 w br bg a len cap bs fa fc fns va vc vars next left z ty eb hi fb cb ecs fcs y nm ka kc ks u (wr.drewN n):=h.later (below_drewN (bRf _ _) n)
theorem YSt.drew (h:YSt w0 w br bg a len cap bs fa fc fns va vc vars next left z ty eb hi fb cb ecs fcs y nm ka kc ks u wr):YSt w0 w br bg a len cap bs fa fc fns va vc vars next left z ty eb hi fb cb ecs fcs y nm ka kc ks u wr.drew:=h.drewN 1
theorem YSt.kcell (h:YSt w0 w br bg a len cap bs fa fc fns va vc vars next left z ty eb hi fb cb ecs fcs y nm ka kc ks u wr):wr.cell? ⟨cb,3,none⟩=some (.slice ka ks.length kc):=coR _ _ 3 _ _ _ h.crow
theorem YSt.after {w9:World} (h:YSt w0 w br bg a len cap bs fa fc fns va vc vars next left z ty eb hi fb cb ecs fcs y nm ka kc ks u wr) (hg:wr.grownBy w9 (Value.slice ka ks.length kc).ownBlock):w9.heap[cb]? = some (.cells #[.int .i64 13,.int .i64 0,.string nm,.slice ka ks.length kc] 64 (0,0)):=by
 have ht:=Zi hg (S:=fun k=>(Value.slice ka ks.length kc).ownBlock=some k) (fun k hk=>hk)
 obtain⟨⟨cells,g1,_⟩,_⟩:=h.kids
 exact(ht.block _ h.lts.2.2.1 (fun e=>by have:=g1.lt cb e;omega)).trans h.crow
theorem YSt.push {w9:World} {cl:List Value} {x:Z6} {a':Option Addr} {c':Nat} {cells:List (List Value)} (h:YSt w0 w br bg a len cap bs fa fc fns va vc vars next left z ty eb hi fb cb ecs fcs y nm ka kc ks u wr) (hrows:Z1Y 4 (ZG 3) 64 (fun k=>cb<k) (cb+1) wr ka ks.length kc ks cells)
  (hx:ZG 3 (fun k=>cb<k∧¬(Value.slice ka ks.length kc).ownBlock=some k) wr cl x) (hown:w9.ownsRow (cb+1) 64 4 (.slice a' (ks.length+1) c') (ks.length+1) (cells.flatten++cl)) (hg:wr.grownBy w9 (Value.slice ka ks.length kc).ownBlock)
  (hl:(Value.slice a' (ks.length+1) c').ownBlock=(Value.slice ka ks.length kc).ownBlock∨(Value.slice a' (ks.length+1) c').ownBlock=some wr.heap.size) :
  YSt w0 w br bg a len cap bs fa fc fns va vc vars next left z ty eb hi fb cb ecs fcs y nm a' c' (ks++[x]) u (w9.setCell ⟨cb,3,none⟩ (.slice a' (ks.length+1) c')):=by
 have ht:=Zi hg (S:=fun k=>(Value.slice ka ks.length kc).ownBlock=some k) (fun k hk=>hk)
 have hlo:∀k,(Value.slice ka ks.length kc).ownBlock=some k→cb<k:=fun k hk=>by have:=hrows.1.lt k hk;omega
 have hlt:=h.lts
 have hl2:=h.lt
 have hE:=h.e.lt
 have hk9:=hrows.push (Z1 3) rfl hx hown hg hl
 have ht2:=Z4 w9 cb 3 (.slice a' (ks.length+1) c')
 have hb9:=h.b.other ht (fun k hk=>by have:=hlo k hk;omega)
 have he9:=h.e.turn ht (fun k _ hk=>by have:=hlo k hk;omega)
 have hf9:=(ht.block _ hlt.2.1 (fun e=>by have:=hlo _ e;omega)).trans h.frow
 have hc9:=h.after hg
 have hlen:(ks++[x]).length=ks.length+1:=by simp
 refine⟨hb9.other ht2 (fun k hk=>by omega),he9.turn ht2 (fun k _ hk=>by omega),(ht2.block _ (gsI hf9).1 (by omega)).trans hf9,?_,h.lt,?_⟩
 ·rw [hlen]
  exact hSs w9 cb 3 _ _ _ hc9
 ·rw [hlen]
  refine hk9.turned (Z1 3) ht2 (fun k hk h3=>?_) (fun k _ h3 h4=>by have h3:cb<k:=h3;omega)
  have:=hown.lt k hk
  omega
theorem Z1Y.below {α : Type} {s:Nat} {R:Z2u α} {e:TypeId} (hR:Z1g s R) {S:Nat→Prop} {lo:Nat} {w w':World} {a:Option Addr} {n c:Nat} {xs:List α} {cells:List (List Value)} (h:Z1Y s R e S lo w a n c xs cells) (hb:Below w.heap.size w w'):Z1Y s R e S lo w' a n c xs cells:=
 ⟨ZI h.1 hb,h.2.1,h.2.2.1,fun i cl x hc hx=>hR.below hb (h.2.2.2 i cl x hc hx)⟩
theorem YSt.after2 {W w9:World} (h:YSt w0 w br bg a len cap bs fa fc fns va vc vars next left z ty eb hi fb cb ecs fcs y nm ka kc ks u wr) (hg:W.grownBy w9 (Value.slice ka ks.length kc).ownBlock) (hb:Below wr.heap.size wr W):w9.heap[cb]? = some (.cells #[.int .i64 13,.int .i64 0,.string nm,.slice ka ks.length kc] 64 (0,0)):=(h.later hb).after hg
theorem YSt.push2 {W w9:World} {cl:List Value} {x:Z6} {a':Option Addr} {c':Nat} {cells:List (List Value)} (h:YSt w0 w br bg a len cap bs fa fc fns va vc vars next left z ty eb hi fb cb ecs fcs y nm ka kc ks u wr) (hrows:Z1Y 4 (ZG 3) 64 (fun k=>cb<k) (cb+1) wr ka ks.length kc ks cells)
  (hx:ZG 3 (fun k=>cb<k∧¬(Value.slice ka ks.length kc).ownBlock=some k) wr cl x) (hown:w9.ownsRow (cb+1) 64 4 (.slice a' (ks.length+1) c') (ks.length+1) (cells.flatten++cl)) (hg:W.grownBy w9 (Value.slice ka ks.length kc).ownBlock)
  (hl:(Value.slice a' (ks.length+1) c').ownBlock=(Value.slice ka ks.length kc).ownBlock∨(Value.slice a' (ks.length+1) c').ownBlock=some W.heap.size) (hb:Below wr.heap.size wr W) :
  YSt w0 w br bg a len cap bs fa fc fns va vc vars next left z ty eb hi fb cb ecs fcs y nm a' c' (ks++[x]) u (w9.setCell ⟨cb,3,none⟩ (.slice a' (ks.length+1) c')):=
 (h.later hb).push (hrows.below (Z1 3) hb) ((Z1 3).below hb hx) hown hg hl
theorem YSt.pos2 {W w9:World} (h:YSt w0 w br bg a len cap bs fa fc fns va vc vars next left z ty eb hi fb cb ecs fcs y nm ka kc ks u wr) (hg:W.grownBy w9 (Value.slice ka ks.length kc).ownBlock) (hb:Below wr.heap.size wr W) (v:Value):Z5 (w9.setCell ⟨cb,3,none⟩ v) br=Z5 wr br:=by
 have ht:=Zi hg (S:=fun k=>(Value.slice ka ks.length kc).ownBlock=some k) (fun k hk=>hk)
 have hl:=h.lts
 have hl2:=h.lt
 have hs:=hb.size
 obtain⟨⟨cells,g1,_⟩,_⟩:=h.kids
 rw [Z0b (by omega),Z1u ht (by omega) (fun e=>by have:=g1.lt br e;omega),Zs hb (by omega)]
theorem Z1j (hlen:len≤2000) (n:Nat) (hn3:n≤3) (u:Nat) (w:World) (h:GSt w0 br bg a len cap bs fa fc fns u va vc vars next left w) (hu:u+300≤1990000) :
  Calls Tryz.prog 57 #[.pointer (some ⟨bg,0,none⟩),.int .i64 (n:Int)] w fun e w'=>∃cs x,e=.returned (.agg (List.toArray cs))∧ZG 8 (fun k=>w.heap.size≤k) w' cs x∧GSt w0 br bg a len cap bs fa fc fns (u+300) va vc vars next left w'∧Zf br bg w w'∧Z0f bs fns vars n (Z5 w br)=(x,Z5 w' br):=by
 have HU:=hdd hu
 have HPW0:=hdd (show Z5 (w.alloc (.cells #[.int .i64 0,.int .i64 0,.string ⟨#[]⟩,.slice none 0 0] 64)) br=Z5 w br from Zs ((bRf _ _).alloc (Nat.le_refl _) _) h.lts.1)
 have HLT:=hdd h.lts
 have HB:=hdd (BSt.start [.int .i64 0,.int .i64 0,.string ⟨#[]⟩,.slice none 0 0] 64 h)
 have HN3:=hdd hn3
 have HVL:=hdd (show vars.length≤3000000 by have:=h.bnd;omega)
 clear h hu hn3
 obtain⟨dq,hdq⟩:∃d:Int,d=n:=⟨_,rfl⟩
 rw [← hdq]
 have HDQ:=hdd hdq
 clear hdq
 go_enter Tryz.func57,Tryz.ntmps57
 go_upto_region 1 with fail
 change Hid (BSt w0 w br bg a len cap bs fa fc fns va vc vars next left [.int .i64 0,.int .i64 0,.string ⟨#[]⟩,.slice none 0 0] 64 u (w.alloc (.cells #[.int .i64 0,.int .i64 0,.string ⟨#[]⟩,.slice none 0 0] 64))) at HB
 generalize w.alloc (.cells #[.int .i64 0,.int .i64 0,.string ⟨#[]⟩,.slice none 0 0] 64)=wr at HB HPW0 ⊢
 go_cut [5] (fun v wx=>∃(eb:Nat) (y:Z6) (ya:Option Addr) (yc:Nat),v=.pointer (some ⟨eb,0,none⟩)∧Hid (BSt w0 w br bg a len cap bs fa fc fns va vc vars next left [.int .i64 0,.int .i64 0,.string ⟨#[]⟩,.slice none 0 0] 64 (u+100) wx∧w.heap.size<eb∧wx.heap[eb]? = some (.cells (List.toArray [.int .i64 y.op,.int .i64 y.n,.string y.name,.slice ya y.kids.length yc]) 64 (0,0))∧ZG 4 (fun b=>w.heap.size<b∧b≠eb) wx [.int .i64 y.op,.int .i64 y.n,.string y.name,.slice ya y.kids.length yc] y∧Z0d bs vars n (Z5 wr br)=(y,Z5 wx br)))
 case first=>
  as_aux_lemma=>
   have HL:=hdd (show ∀W,BSt w0 w br bg a len cap bs fa fc fns va vc vars next left [.int .i64 0,.int .i64 0,.string ⟨#[]⟩,.slice none 0 0] 64 u W→Calls Tryz.prog 55 #[.pointer (some ⟨br,0,none⟩),.slice va vars.length vc,.int .i64 dq] W fun e W'=>∃y ya yc,e=.returned (.agg (List.toArray [.int .i64 y.op,.int .i64 y.n,.string y.name,.slice ya y.kids.length yc]))∧Hid (BSt w0 w br bg a len cap bs fa fc fns va vc vars next left [.int .i64 0,.int .i64 0,.string ⟨#[]⟩,.slice none 0 0] 64 (u+100) W'∧ZG 4 (fun b=>W.heap.size≤b) W' [.int .i64 y.op,.int .i64 y.n,.string y.name,.slice ya y.kids.length yc] y∧Zd br W W'∧Z0d bs vars n (Z5 W br)=(y,Z5 W' br)) from fun W hW=>by
    obtain⟨p,hp,hrd⟩:=hW.g.rd
    have hc:Z1d n≤60:=by
     have h3:=HN3.out
     have:n=0∨n=1∨n=2∨n=3:=by omega
     rcases this with rfl|rfl|rfl|rfl<;>decide
    rw [HDQ.out]
    refine(Z2E w0 br a len cap bs hlen va vars.length vc vars (Z0Y hW.g.vlist) HVL.out n W p (by have:=HN3.out;omega) hrd (by have:=HU.out;omega) hW.g.strs).mono ?_
    rintro e W' ⟨cs,y,q,rfl,hrd',hq,ht,hy,hl,-,hF⟩
    obtain⟨ya,yc,rfl⟩:=Zj hy
    exact⟨y,ya,yc,rfl,hdd ⟨hW.step ht hrd' (by omega) (by omega),Z0j (by have:=HN3.out;omega) ⟨hy,hl⟩,ht,by rw [hrd.pos,hrd'.pos];exact hF⟩⟩)
   have HA:=hdd (show ∀W,Below (wr.alloc (.cells #[.int .i64 0,.int .i64 0,.string ⟨#[]⟩,.slice none 0 0] 64)).heap.size (wr.alloc (.cells #[.int .i64 0,.int .i64 0,.string ⟨#[]⟩,.slice none 0 0] 64)) W→Calls Tryz.prog 55 #[.pointer (some ⟨br,0,none⟩),.slice va vars.length vc,.int .i64 dq] W fun e W'=>∃y ya yc,e=.returned (.agg (List.toArray [.int .i64 y.op,.int .i64 y.n,.string y.name,.slice ya y.kids.length yc]))∧Hid (BSt w0 w br bg a len cap bs fa fc fns va vc vars next left [.int .i64 0,.int .i64 0,.string ⟨#[]⟩,.slice none 0 0] 64 (u+100) W'∧ZG 4 (fun b=>wr.heap.size<b) W' [.int .i64 y.op,.int .i64 y.n,.string y.name,.slice ya y.kids.length yc] y∧W'.heap[wr.heap.size]? = some (.cells #[.int .i64 0,.int .i64 0,.string ⟨#[]⟩,.slice none 0 0] 64 (0,0))∧Z0d bs vars n (Z5 wr br)=(y,Z5 W' br)) from fun W hW=>by
    have hW1:BSt w0 w br bg a len cap bs fa fc fns va vc vars next left [.int .i64 0,.int .i64 0,.string ⟨#[]⟩,.slice none 0 0] 64 u W:=(HB.out.alloc _).later hW
    have hr:=(hW.block wr.heap.size (by simp)).trans (hAn wr (.cells #[.int .i64 0,.int .i64 0,.string ⟨#[]⟩,.slice none 0 0] 64))
    refine(HL.out W hW1).mono ?_
    rintro e W' ⟨y,ya,yc,rfl,hx⟩
    have hsz:=hW.size
    rw [World.size_alloc] at hsz
    exact⟨y,ya,yc,rfl,hdd ⟨hx.out.1,(Z1 4).mono (fun b _ h=>by omega) hx.out.2.1,(hx.out.2.2.1.block (by omega) (by have:=HB.out.lt;have:=HB.out.size;omega)).trans hr,by rw [← hx.out.2.2.2,Zs hW (by have:=HB.out.g.lts.1;rw [World.size_alloc];omega),Zs ((bRf _ _).alloc (Nat.le_refl _) _) HB.out.g.lts.1]⟩⟩)
   have HV0:=hdd (fun nq=>HL.out (wr.drewN nq) (HB.out.drewN nq))
   have HA0:=hdd (fun nq=>HA.out ((wr.alloc (.cells #[.int .i64 0,.int .i64 0,.string ⟨#[]⟩,.slice none 0 0] 64)).drewN nq) (below_drewN (bRf _ _) nq))
   have HA2:=hdd (fun nq nr=>HA.out (((wr.drewN nq).alloc (.cells #[.int .i64 0,.int .i64 0,.string ⟨#[]⟩,.slice none 0 0] 64)).drewN nr) ⟨rfl,rfl,rfl,Nat.le_refl _,fun _ _=>rfl⟩)
   have c0:=HB.out.g.c0
   have c2:=HB.out.g.c2
   have a0:=(HB.out.g.alloc (.cells #[.int .i64 0,.int .i64 0,.string ⟨#[]⟩,.slice none 0 0] 64)).c0
   have a2:=(HB.out.g.alloc (.cells #[.int .i64 0,.int .i64 0,.string ⟨#[]⟩,.slice none 0 0] 64)).c2
   have HSA:=hdd (show ∀(w8:World) (y:Z6) (ya:Option Addr) (yc:Nat),Hid (BSt w0 w br bg a len cap bs fa fc fns va vc vars next left [.int .i64 0,.int .i64 0,.string ⟨#[]⟩,.slice none 0 0] 64 (u+100) w8∧ZG 4 (fun b=>wr.heap.size<b) w8 [.int .i64 y.op,.int .i64 y.n,.string y.name,.slice ya y.kids.length yc] y∧w8.heap[wr.heap.size]? = some (.cells #[.int .i64 0,.int .i64 0,.string ⟨#[]⟩,.slice none 0 0] 64 (0,0))∧Z0d bs vars n (Z5 wr br)=(y,Z5 w8 br))→BSt w0 w br bg a len cap bs fa fc fns va vc vars next left [.int .i64 0,.int .i64 0,.string ⟨#[]⟩,.slice none 0 0] 64 (u+100) (w8.setCells wr.heap.size 0 [.int .i64 y.op,.int .i64 y.n,.string y.name,.slice ya y.kids.length yc])∧w.heap.size<wr.heap.size∧(w8.setCells wr.heap.size 0 [.int .i64 y.op,.int .i64 y.n,.string y.name,.slice ya y.kids.length yc]).heap[wr.heap.size]? = some (.cells (List.toArray [.int .i64 y.op,.int .i64 y.n,.string y.name,.slice ya y.kids.length yc]) 64 (0,0))∧ZG 4 (fun b=>w.heap.size<b∧b≠wr.heap.size) (w8.setCells wr.heap.size 0 [.int .i64 y.op,.int .i64 y.n,.string y.name,.slice ya y.kids.length yc]) [.int .i64 y.op,.int .i64 y.n,.string y.name,.slice ya y.kids.length yc] y∧Z0d bs vars n (Z5 wr br)=(y,Z5 (w8.setCells wr.heap.size 0 [.int .i64 y.op,.int .i64 y.n,.string y.name,.slice ya y.kids.length yc]) br) from fun w8 y ya yc hx8=>by
    have ht:=ZB (g:=wr.heap.size) [.int .i64 y.op,.int .i64 y.n,.string y.name,.slice ya y.kids.length yc] w8 0
    refine⟨hx8.out.1.other ht (fun k hk=>by have:=HB.out.size;omega),HB.out.size,?_,(Z1 4).turned ht (fun k _ h1 h2=>h1.2 h2) ((Z1 4).mono (fun k _ h1=>by have:=HB.out.size;omega) hx8.out.2.1),by rw [Z0P (by have:=HB.out.g.lts.1;omega)];exact hx8.out.2.2.2⟩
    have:=ZF (A:=[]) (B:=[.int .i64 0,.int .i64 0,.string ⟨#[]⟩,.slice none 0 0]) (C:=[]) (vs:=[.int .i64 y.op,.int .i64 y.n,.string y.name,.slice ya y.kids.length yc]) (o:=0) rfl rfl (by simpa using hx8.out.2.2.1)
    simpa using this)
   have HSB:=hdd (show ∀(w8:World) (y:Z6) (ya:Option Addr) (yc:Nat),BSt w0 w br bg a len cap bs fa fc fns va vc vars next left [.int .i64 0,.int .i64 0,.string ⟨#[]⟩,.slice none 0 0] 64 (u+100) w8→ZG 4 (fun b=>wr.heap.size≤b) w8 [.int .i64 y.op,.int .i64 y.n,.string y.name,.slice ya y.kids.length yc] y→Z0d bs vars n (Z5 wr br)=(y,Z5 w8 br)→BSt w0 w br bg a len cap bs fa fc fns va vc vars next left [.int .i64 0,.int .i64 0,.string ⟨#[]⟩,.slice none 0 0] 64 (u+100) (w8.alloc (.cells (List.toArray [.int .i64 y.op,.int .i64 y.n,.string y.name,.slice ya y.kids.length yc]) 64))∧w.heap.size<w8.heap.size∧(w8.alloc (.cells (List.toArray [.int .i64 y.op,.int .i64 y.n,.string y.name,.slice ya y.kids.length yc]) 64)).heap[w8.heap.size]? = some (.cells (List.toArray [.int .i64 y.op,.int .i64 y.n,.string y.name,.slice ya y.kids.length yc]) 64 (0,0))∧ZG 4 (fun b=>w.heap.size<b∧b≠w8.heap.size) (w8.alloc (.cells (List.toArray [.int .i64 y.op,.int .i64 y.n,.string y.name,.slice ya y.kids.length yc]) 64)) [.int .i64 y.op,.int .i64 y.n,.string y.name,.slice ya y.kids.length yc] y∧Z0d bs vars n (Z5 wr br)=(y,Z5 (w8.alloc (.cells (List.toArray [.int .i64 y.op,.int .i64 y.n,.string y.name,.slice ya y.kids.length yc]) 64)) br) from fun w8 y ya yc h1 h2 h3=>by
    have hba:Below w8.heap.size w8 (w8.alloc (.cells (List.toArray [.int .i64 y.op,.int .i64 y.n,.string y.name,.slice ya y.kids.length yc]) 64)):=(bRf _ _).alloc (Nat.le_refl _) _
    have hsz:=HB.out.size
    exact⟨h1.alloc _,h1.size,hAn w8 _,(Z1 4).below hba ((Z1 4).mono (fun k hk h1=>by have h1:wr.heap.size≤k:=h1;omega) h2),by rw [Zs hba h1.g.lts.1];exact h3⟩)
   go_region_held3 (fun W=>W.cell? ⟨bg,0,none⟩=some (.pointer (some ⟨br,0,none⟩))∧W.cell? ⟨bg,2,none⟩=some (.slice va vars.length vc)) (first|go_keep|exact⟨hx8.out.1.g.c0,hx8.out.1.g.c2⟩|exact⟨HY.out.1.g.c0,HY.out.1.g.c2⟩) (first|(go_at_call 55;(first|refine(HA0.out _).mono ?_|refine(HA2.out _ _).mono ?_);rintro e w8 ⟨y,ya,yc,rfl,hx8⟩;(have HY:=hdd (show BSt w0 w br bg a len cap bs fa fc fns va vc vars next left [.int .i64 0,.int .i64 0,.string ⟨#[]⟩,.slice none 0 0] 64 (u+100) (w8.setCells wr.heap.size 0 [.int .i64 y.op,.int .i64 y.n,.string y.name,.slice ya y.kids.length yc])∧w.heap.size<wr.heap.size∧(w8.setCells wr.heap.size 0 [.int .i64 y.op,.int .i64 y.n,.string y.name,.slice ya y.kids.length yc]).heap[wr.heap.size]? = some (.cells (List.toArray [.int .i64 y.op,.int .i64 y.n,.string y.name,.slice ya y.kids.length yc]) 64 (0,0))∧ZG 4 (fun b=>w.heap.size<b∧b≠wr.heap.size) (w8.setCells wr.heap.size 0 [.int .i64 y.op,.int .i64 y.n,.string y.name,.slice ya y.kids.length yc]) [.int .i64 y.op,.int .i64 y.n,.string y.name,.slice ya y.kids.length yc] y∧Z0d bs vars n (Z5 wr br)=(y,Z5 (w8.setCells wr.heap.size 0 [.int .i64 y.op,.int .i64 y.n,.string y.name,.slice ya y.kids.length yc]) br) from HSA.out w8 y ya yc hx8));(rw [ZW] at HY);(have hr8:=hx8.out.2.2.1);(have z0:=coR _ _ 0 _ _ _ hr8);(have z1:=coR _ _ 1 _ _ _ hr8);(have z2:=coR _ _ 2 _ _ _ hr8);(have z3:=coR _ _ 3 _ _ _ hr8);(simp only [ga0,ga1,ga2] at z0 z1 z2 z3);(have g0:=frR _ _ 0 _ _ hr8);(have g1:=frR _ _ 1 _ _ hr8);(have g2:=frR _ _ 2 _ _ hr8);(have g3:=frR _ _ 3 _ _ hr8))|(go_at_call 55;refine(HV0.out _).mono ?_;rintro e w8 ⟨y,ya,yc,rfl,hx8⟩;(have HY:=hdd (show BSt w0 w br bg a len cap bs fa fc fns va vc vars next left [.int .i64 0,.int .i64 0,.string ⟨#[]⟩,.slice none 0 0] 64 (u+100) (w8.alloc (.cells (List.toArray [.int .i64 y.op,.int .i64 y.n,.string y.name,.slice ya y.kids.length yc]) 64))∧w.heap.size<w8.heap.size∧(w8.alloc (.cells (List.toArray [.int .i64 y.op,.int .i64 y.n,.string y.name,.slice ya y.kids.length yc]) 64)).heap[w8.heap.size]? = some (.cells (List.toArray [.int .i64 y.op,.int .i64 y.n,.string y.name,.slice ya y.kids.length yc]) 64 (0,0))∧ZG 4 (fun b=>w.heap.size<b∧b≠w8.heap.size) (w8.alloc (.cells (List.toArray [.int .i64 y.op,.int .i64 y.n,.string y.name,.slice ya y.kids.length yc]) 64)) [.int .i64 y.op,.int .i64 y.n,.string y.name,.slice ya y.kids.length yc] y∧Z0d bs vars n (Z5 wr br)=(y,Z5 (w8.alloc (.cells (List.toArray [.int .i64 y.op,.int .i64 y.n,.string y.name,.slice ya y.kids.length yc]) 64)) br) from HSB.out w8 y ya yc hx8.out.1 hx8.out.2.1 hx8.out.2.2.2))))
   all_goals go_wp2_with fail
   all_goals go_meet
   all_goals exact⟨_,y,ya,yc,rfl,HY⟩
 case rest=>
 obtain⟨eb,y,ya,yc,rfl,HX0⟩:=hcut
 have HF1:=hdd (show Z0d bs vars n (Z5 w br)=(y,Z5 wc br) by rw [← HPW0.out];exact HX0.out.2.2.2.2)
 have HX:=hdd (aI HX0.out.1 (aI HX0.out.2.1 (aI HX0.out.2.2.1 HX0.out.2.2.2.1)))
 clear HX0
 have hfl:=HX.out.1.g.bnd
 by_cases hf0:fns.length=0
 ·obtain⟨wr',hwr⟩:∃x,x=wc:=⟨_,rfl⟩
  have hfz:(fns.length:Int)=0:=by omega
  have c1:=HX.out.1.g.c1
  rw [hf0] at c1
  subst hwr
  have HFZ:=hdd (show Z0f bs fns vars n (Z5 w br)=(y,Z5 (wr'.setCells w.heap.size 0 [.int .i64 y.op,.int .i64 y.n,.string y.name,.slice ya y.kids.length yc]) br) by rw [Z0P (by have:=HLT.out.1;omega)];exact Z7X HF1.out hf0)
  have z0:=coR _ _ 0 _ _ _ HX.out.1.rrow
  have z1:=coR _ _ 1 _ _ _ HX.out.1.rrow
  have z2:=coR _ _ 2 _ _ _ HX.out.1.rrow
  have z3:=coR _ _ 3 _ _ _ HX.out.1.rrow
  simp only [ga0,ga1,ga2] at z0 z1 z2 z3
  have f0:=frR _ _ 0 _ _ HX.out.1.rrow
  have f1:=frR _ _ 1 _ _ HX.out.1.rrow
  have f2:=frR _ _ 2 _ _ HX.out.1.rrow
  have f3:=frR _ _ 3 _ _ HX.out.1.rrow
  have e0:=coR _ _ 0 _ _ _ (HX.out.2.2.1)
  have e1:=coR _ _ 1 _ _ _ (HX.out.2.2.1)
  have e2:=coR _ _ 2 _ _ _ (HX.out.2.2.1)
  have e3:=coR _ _ 3 _ _ _ (HX.out.2.2.1)
  simp only [ga0,ga1,ga2] at e0 e1 e2 e3
  have HZ:=hdd (show(wr'.setCells w.heap.size 0 [.int .i64 y.op,.int .i64 y.n,.string y.name,.slice ya y.kids.length yc]).heap[w.heap.size]? = some (.cells (List.toArray [.int .i64 y.op,.int .i64 y.n,.string y.name,.slice ya y.kids.length yc]) 64 (0,0))∧ZG 8 (fun k=>w.heap.size≤k) (wr'.setCells w.heap.size 0 [.int .i64 y.op,.int .i64 y.n,.string y.name,.slice ya y.kids.length yc]) [.int .i64 y.op,.int .i64 y.n,.string y.name,.slice ya y.kids.length yc] y∧GSt w0 br bg a len cap bs fa fc fns (u+300) va vc vars next left (wr'.setCells w.heap.size 0 [.int .i64 y.op,.int .i64 y.n,.string y.name,.slice ya y.kids.length yc])∧Zf br bg w (wr'.setCells w.heap.size 0 [.int .i64 y.op,.int .i64 y.n,.string y.name,.slice ya y.kids.length yc]) by
   obtain⟨k1,k2,k3,k4⟩:=HX.out.1.put (cs:=[.int .i64 y.op,.int .i64 y.n,.string y.name,.slice ya y.kids.length yc]) rfl
   exact⟨k1,(Z1 8).mono (fun k _ h=>Nat.le_of_lt h) ((Z1 8).turned k2 (fun k _ h1 h2=>by have h1:w.heap.size<k:=h1;omega) (Z0j (by omega:4≤8) ((Z1 4).mono (fun k _ h=>h.1) HX.out.2.2.2))),k3.more (by omega),k4⟩)
  rw [ZW] at HZ HFZ
  go_wp2
  refine bodyPost_ret (results_cell_row rfl _ _ w.heap.size 64 #[.int .i64 y.op,.int .i64 y.n,.string y.name,.slice ya y.kids.length yc] (0,0) _ rfl ?_ Tryz.underlying64 rfl (by kernel_rfl)) rfl ?_
  ·exact HZ.out.1
  exact⟨_,_,rfl,HZ.out.2.1,HZ.out.2.2.1,HZ.out.2.2.2,HFZ.out⟩
 ·have hfz:((fns.length:Int)==0)=false:=by rw [beq_eq_false_iff_ne];omega
  obtain⟨p,hp,hrd⟩:=HX.out.1.g.rd
  have HP:=hdd hp
  have c0:=HX.out.1.g.c0
  have c1:=HX.out.1.g.c1
  go_wp2_with fail
  refine(Z01 w0 _ br a len cap bs p 4 hrd (by omega) hlen (by have:=HP.out;have:=HU.out;omega)).mono ?_
  rintro e wr' ⟨v,_,_,rfl,hrd2,hg2,hV⟩
  have HV:=hdd (show ZP bs 4 (Z5 wc br)=v∧Z5 wr' br=Z5 wc br+1 by rw [hrd.pos,hrd2.pos];exact⟨hV,rfl⟩)
  clear hV
  have HX2:=hdd (show BSt w0 w br bg a len cap bs fa fc fns va vc vars next left [.int .i64 0,.int .i64 0,.string ⟨#[]⟩,.slice none 0 0] 64 (u+101) wr'∧w.heap.size<eb∧wr'.heap[eb]? = some (.cells (List.toArray [.int .i64 y.op,.int .i64 y.n,.string y.name,.slice ya y.kids.length yc]) 64 (0,0))∧ZG 4 (fun b=>w.heap.size<b∧b≠eb) wr' [.int .i64 y.op,.int .i64 y.n,.string y.name,.slice ya y.kids.length yc] y from
   ⟨HX.out.1.step (Zd.grown hg2) hrd2 (by have:=HP.out;omega) (by omega),HX.out.2.1,((Zd.grown hg2).block (gsI HX.out.2.2.1).1 (by have:=HX.out.1.lt;have:=HX.out.2.1;omega)).trans HX.out.2.2.1,
       (Z1 4).turned (Zd.grown hg2) (fun k hk h1 h2=>by have:=HX.out.1.lt;omega) HX.out.2.2.2⟩)
  clear hrd hp hrd2 hg2 c0 c1 HX
  by_cases hv:0<v
  ·have hv2:decide (0<v)=true:=decide_eq_true hv
   have HFZ:=hdd (show Z0f bs fns vars n (Z5 w br)=(y,Z5 (wr'.setCells w.heap.size 0 [.int .i64 y.op,.int .i64 y.n,.string y.name,.slice ya y.kids.length yc]) br) by rw [Z0P (by have:=HLT.out.1;omega),HV.out.2];exact Z9l HF1.out hf0 HV.out.1 hv)
   have z0:=coR _ _ 0 _ _ _ HX2.out.1.rrow
   have z1:=coR _ _ 1 _ _ _ HX2.out.1.rrow
   have z2:=coR _ _ 2 _ _ _ HX2.out.1.rrow
   have z3:=coR _ _ 3 _ _ _ HX2.out.1.rrow
   simp only [ga0,ga1,ga2] at z0 z1 z2 z3
   have f0:=frR _ _ 0 _ _ HX2.out.1.rrow
   have f1:=frR _ _ 1 _ _ HX2.out.1.rrow
   have f2:=frR _ _ 2 _ _ HX2.out.1.rrow
   have f3:=frR _ _ 3 _ _ HX2.out.1.rrow
   have e0:=coR _ _ 0 _ _ _ (HX2.out.2.2.1)
   have e1:=coR _ _ 1 _ _ _ (HX2.out.2.2.1)
   have e2:=coR _ _ 2 _ _ _ (HX2.out.2.2.1)
   have e3:=coR _ _ 3 _ _ _ (HX2.out.2.2.1)
   simp only [ga0,ga1,ga2] at e0 e1 e2 e3
   have HZ:=hdd (show(wr'.setCells w.heap.size 0 [.int .i64 y.op,.int .i64 y.n,.string y.name,.slice ya y.kids.length yc]).heap[w.heap.size]? = some (.cells (List.toArray [.int .i64 y.op,.int .i64 y.n,.string y.name,.slice ya y.kids.length yc]) 64 (0,0))∧ZG 8 (fun k=>w.heap.size≤k) (wr'.setCells w.heap.size 0 [.int .i64 y.op,.int .i64 y.n,.string y.name,.slice ya y.kids.length yc]) [.int .i64 y.op,.int .i64 y.n,.string y.name,.slice ya y.kids.length yc] y∧GSt w0 br bg a len cap bs fa fc fns (u+300) va vc vars next left (wr'.setCells w.heap.size 0 [.int .i64 y.op,.int .i64 y.n,.string y.name,.slice ya y.kids.length yc])∧Zf br bg w (wr'.setCells w.heap.size 0 [.int .i64 y.op,.int .i64 y.n,.string y.name,.slice ya y.kids.length yc]) by
    obtain⟨k1,k2,k3,k4⟩:=HX2.out.1.put (cs:=[.int .i64 y.op,.int .i64 y.n,.string y.name,.slice ya y.kids.length yc]) rfl
    exact⟨k1,(Z1 8).mono (fun k _ h=>Nat.le_of_lt h) ((Z1 8).turned k2 (fun k _ h1 h2=>by have h1:w.heap.size<k:=h1;omega) (Z0j (by omega:4≤8) ((Z1 4).mono (fun k _ h=>h.1) HX2.out.2.2.2))),k3.more (by omega),k4⟩)
   rw [ZW] at HZ HFZ
   go_wp2
   refine bodyPost_ret (results_cell_row rfl _ _ w.heap.size 64 #[.int .i64 y.op,.int .i64 y.n,.string y.name,.slice ya y.kids.length yc] (0,0) _ rfl ?_ Tryz.underlying64 rfl (by kernel_rfl)) rfl ?_
   ·exact HZ.out.1
   exact⟨_,_,rfl,HZ.out.2.1,HZ.out.2.2.1,HZ.out.2.2.2,HFZ.out⟩
  ·have hv2:decide (0<v)=false:=decide_eq_false hv
   obtain⟨fz,foff,hfa,-,-⟩:=HX2.out.1.flow.blk (fun h=>hf0 (by rw [h];rfl))
   subst hfa
   have HE2:=hdd (show Z6l w eb wr'.heap.size [.int .i64 y.op,.int .i64 y.n,.string y.name,.slice ya y.kids.length yc] y wr' from⟨⟨HX2.out.2.1,(gsI HX2.out.2.2.1).1,Nat.le_refl _⟩,HX2.out.2.2.1,(Z1 4).mono (fun k hk h=>⟨h.1,h.2,hk⟩) HX2.out.2.2.2⟩)
   have HB2:=hdd HX2.out.1
   have hfp:0<fns.length:=by omega
   have hfp2:fns.length≤3:=hfl.2.1
   have HNV:=hdd hv
   clear HX2 hv hfz
   go_upto_region 4 with fail
   obtain⟨hi,hhi⟩:∃n,n=wr'.heap.size:=⟨_,rfl⟩
   rw [← hhi] at HE2
   have HHI:=hdd hhi
   clear hhi
   go_cut [6] (fun v wx=>∃(fb:Nat) (x:FnD) (pa:Option Addr) (pc:Nat) (ba:Option Addr) (bc:Nat),v=.pointer (some ⟨fb,0,none⟩)∧Hid (BSt w0 w br bg a len cap bs (some ⟨fz,foff,none⟩) fc fns va vc vars next left [.int .i64 0,.int .i64 0,.string ⟨#[]⟩,.slice none 0 0] 64 (u+102) wx∧Z6l w eb hi [.int .i64 y.op,.int .i64 y.n,.string y.name,.slice ya y.kids.length yc] y wx∧hi≤fb∧wx.heap[fb]? = some (.cells (List.toArray [.string x.name,.slice pa x.params.length pc,.slice ba x.body.length bc]) 42 (0,0))∧x.params.length≤3∧x.name.size≤maxLen∧(∃j:Nat,ZP bs (fns.length:Int) (Z5 wr' br)=(j:Int)∧fns[j]? = some x)∧Z5 wx br=Z5 wr' br+1))
   case first=>
    as_aux_lemma=>
     have HFB:=hdd (show fz≠br∧fz<w.heap.size from by
      obtain⟨b',off',h1,h2,h3⟩:=HB2.out.flow.blk (fun h=>hf0 (by rw [h];rfl))
      cases h1
      exact⟨h2.1,h2.2.2⟩)
     have HL:=hdd (show ∀W,BSt w0 w br bg a len cap bs (some ⟨fz,foff,none⟩) fc fns va vc vars next left [.int .i64 0,.int .i64 0,.string ⟨#[]⟩,.slice none 0 0] 64 (u+101) W→Z6l w eb hi [.int .i64 y.op,.int .i64 y.n,.string y.name,.slice ya y.kids.length yc] y W→Z1H fz wr' W→Calls Tryz.prog 10 #[.pointer (some ⟨br,0,none⟩),.int .i64 (fns.length:Int)] W fun e W'=>∃(j:Nat) (x:FnD) (pa:Option Addr) (pc:Nat) (ba:Option Addr) (bc:Nat),e=.returned (.int .i64 ((j:Nat):Int))∧Hid (BSt w0 w br bg a len cap bs (some ⟨fz,foff,none⟩) fc fns va vc vars next left [.int .i64 0,.int .i64 0,.string ⟨#[]⟩,.slice none 0 0] 64 (u+102) W'∧Z6l w eb hi [.int .i64 y.op,.int .i64 y.n,.string y.name,.slice ya y.kids.length yc] y W'∧x.params.length≤3∧x.name.size≤maxLen∧Zd br W W'∧(Z5 W br=Z5 wr' br→(∃j:Nat,ZP bs (fns.length:Int) (Z5 wr' br)=(j:Int)∧fns[j]? = some x)∧Z5 W' br=Z5 wr' br+1))∧
       wr'.cell? ⟨fz,foff+j*3,none⟩=some (.string x.name)∧wr'.cell? ⟨fz,foff+j*3+1,none⟩=some (.slice pa x.params.length pc)∧wr'.cell? ⟨fz,foff+j*3+2,none⟩=some (.slice ba x.body.length bc)∧(j:Int)<(fns.length:Int)∧Hid (Z1H fz wr' W') from fun W hW hE hC=>by
      obtain⟨p,hp,hrd⟩:=hW.g.rd
      refine(Z01 w0 W br a len cap bs p fns.length hrd (by omega) hlen (by have:=HU.out;omega)).mono ?_
      rintro e W' ⟨v,hv0,hv1,rfl,hrd',hg',hVj⟩
      obtain⟨j,rfl⟩:=Int.eq_ofNat_of_zero_le hv0
      have hB':=hW.step (u':=u+102) (Zd.grown hg') hrd' (by omega) (by omega)
      obtain⟨b',off',x,pa,pc,ba,bc,hab,hx,hF,e0,e1,e2⟩:=Z1q HB2.out.flow (show j<fns.length by omega)
      cases hab
      obtain⟨_,_,_,_,_,hb,_⟩:=hF
      have hfz1:=HFB.out.2
      have hfz2:=hW.size
      have hblk:W'.heap[fz]? = W.heap[fz]?:=(Zd.grown hg').block (b:=fz) (by omega) HFB.out.1
      exact⟨j,x,pa,pc,ba,bc,rfl,hdd ⟨hB',hE.step (Zd.grown hg') hW.lt.1,hB'.g.bnd.2.2.1 x (List.mem_of_getElem? hx),hb.1,Zd.grown hg',fun hpw=>⟨⟨j,by rw [← hpw,hrd.pos];exact hVj,hx⟩,by rw [← hpw,hrd.pos,hrd'.pos]⟩⟩,e0,e1,e2,by omega,hdd ⟨hblk.trans hC.blk,hC.lt.1,Nat.le_trans hC.lt.2 (Ze.size (S:=fun k=>k=br∨W.heap.size≤k) (Zd.grown hg'))⟩⟩)
     have HHA:=hdd (show ∀W,Below (wr'.alloc (.cells #[.string ⟨#[]⟩,.slice none 0 0,.slice none 0 0] 42)).heap.size (wr'.alloc (.cells #[.string ⟨#[]⟩,.slice none 0 0,.slice none 0 0] 42)) W→Calls Tryz.prog 10 #[.pointer (some ⟨br,0,none⟩),.int .i64 (fns.length:Int)] W fun e W'=>∃(j:Nat) (x:FnD) (pa:Option Addr) (pc:Nat) (ba:Option Addr) (bc:Nat),e=.returned (.int .i64 ((j:Nat):Int))∧Hid (BSt w0 w br bg a len cap bs (some ⟨fz,foff,none⟩) fc fns va vc vars next left [.int .i64 0,.int .i64 0,.string ⟨#[]⟩,.slice none 0 0] 64 (u+102) W'∧Z6l w eb hi [.int .i64 y.op,.int .i64 y.n,.string y.name,.slice ya y.kids.length yc] y W'∧x.params.length≤3∧x.name.size≤maxLen∧W'.heap[wr'.heap.size]? = some (.cells #[.string ⟨#[]⟩,.slice none 0 0,.slice none 0 0] 42 (0,0))∧(∃j:Nat,ZP bs (fns.length:Int) (Z5 wr' br)=(j:Int)∧fns[j]? = some x)∧Z5 W' br=Z5 wr' br+1)∧
       wr'.cell? ⟨fz,foff+j*3,none⟩=some (.string x.name)∧wr'.cell? ⟨fz,foff+j*3+1,none⟩=some (.slice pa x.params.length pc)∧wr'.cell? ⟨fz,foff+j*3+2,none⟩=some (.slice ba x.body.length bc)∧(j:Int)<(fns.length:Int)∧Hid (Z1H fz wr' W') from fun W hW=>by
      have hba:Below wr'.heap.size wr' (wr'.alloc (.cells #[.string ⟨#[]⟩,.slice none 0 0,.slice none 0 0] 42)):=(bRf _ _).alloc (Nat.le_refl _) _
      have hr:=(hW.block wr'.heap.size (by simp)).trans (hAn wr' (.cells #[.string ⟨#[]⟩,.slice none 0 0,.slice none 0 0] 42))
      have hb2:=hba.trans (hW.mono hba.size)
      refine(HL.out W ((HB2.out.alloc _).later hW) ((HE2.out.later hba).later hW) ((Z1H.refl (by have:=HFB.out;have:=HB2.out.size;omega)).later hb2)).mono ?_
      rintro e W' ⟨j,x,pa,pc,ba,bc,rfl,hx,h3⟩
      have hsz:=hW.size
      rw [World.size_alloc] at hsz
      exact⟨j,x,pa,pc,ba,bc,rfl,hdd ⟨hx.out.1,hx.out.2.1,hx.out.2.2.1,hx.out.2.2.2.1,(hx.out.2.2.2.2.1.block (by omega) (by have:=HB2.out.lt;have:=HB2.out.size;omega)).trans hr,hx.out.2.2.2.2.2 (Zs hb2 (by have:=HB2.out.g.lts.1;omega))⟩,h3⟩)
     have HSA:=hdd (show ∀(w8:World) (g:Nat) (x:FnD) (pa:Option Addr) (pc:Nat) (ba:Option Addr) (bc:Nat),BSt w0 w br bg a len cap bs (some ⟨fz,foff,none⟩) fc fns va vc vars next left [.int .i64 0,.int .i64 0,.string ⟨#[]⟩,.slice none 0 0] 64 (u+102) w8→Z6l w eb hi [.int .i64 y.op,.int .i64 y.n,.string y.name,.slice ya y.kids.length yc] y w8→x.params.length≤3→x.name.size≤maxLen→w8.heap[g]? = some (.cells #[.string ⟨#[]⟩,.slice none 0 0,.slice none 0 0] 42 (0,0))→hi≤g→((∃j:Nat,ZP bs (fns.length:Int) (Z5 wr' br)=(j:Int)∧fns[j]? = some x)∧Z5 w8 br=Z5 wr' br+1)→br≠g→BSt w0 w br bg a len cap bs (some ⟨fz,foff,none⟩) fc fns va vc vars next left [.int .i64 0,.int .i64 0,.string ⟨#[]⟩,.slice none 0 0] 64 (u+102) (w8.setCells g 0 [.string x.name,.slice pa x.params.length pc,.slice ba x.body.length bc])∧Z6l w eb hi [.int .i64 y.op,.int .i64 y.n,.string y.name,.slice ya y.kids.length yc] y (w8.setCells g 0 [.string x.name,.slice pa x.params.length pc,.slice ba x.body.length bc])∧hi≤g∧(w8.setCells g 0 [.string x.name,.slice pa x.params.length pc,.slice ba x.body.length bc]).heap[g]? = some (.cells (List.toArray [.string x.name,.slice pa x.params.length pc,.slice ba x.body.length bc]) 42 (0,0))∧x.params.length≤3∧x.name.size≤maxLen∧(∃j:Nat,ZP bs (fns.length:Int) (Z5 wr' br)=(j:Int)∧fns[j]? = some x)∧Z5 (w8.setCells g 0 [.string x.name,.slice pa x.params.length pc,.slice ba x.body.length bc]) br=Z5 wr' br+1 from fun w8 g x pa pc ba bc h1 h2 h3 h4 h5 h6 h7 h8=>by
      have ht:=ZB (g:=g) [.string x.name,.slice pa x.params.length pc,.slice ba x.body.length bc] w8 0
      refine⟨h1.other ht (fun k hk=>by have:=h2.lt;omega),h2.turn ht (fun k _ hk=>by omega),h6,?_,h3,h4,h7.1,by rw [Z0P h8];exact h7.2⟩
      have:=ZF (A:=[]) (B:=[.string ⟨#[]⟩,.slice none 0 0,.slice none 0 0]) (C:=[]) (vs:=[.string x.name,.slice pa x.params.length pc,.slice ba x.body.length bc]) (o:=0) rfl rfl (by simpa using h5)
      simpa using this)
     have HSB:=hdd (show ∀(w8:World) (x:FnD) (pa:Option Addr) (pc:Nat) (ba:Option Addr) (bc:Nat),BSt w0 w br bg a len cap bs (some ⟨fz,foff,none⟩) fc fns va vc vars next left [.int .i64 0,.int .i64 0,.string ⟨#[]⟩,.slice none 0 0] 64 (u+102) w8→Z6l w eb hi [.int .i64 y.op,.int .i64 y.n,.string y.name,.slice ya y.kids.length yc] y w8→x.params.length≤3→x.name.size≤maxLen→((∃j:Nat,ZP bs (fns.length:Int) (Z5 wr' br)=(j:Int)∧fns[j]? = some x)∧Z5 w8 br=Z5 wr' br+1)→BSt w0 w br bg a len cap bs (some ⟨fz,foff,none⟩) fc fns va vc vars next left [.int .i64 0,.int .i64 0,.string ⟨#[]⟩,.slice none 0 0] 64 (u+102) (w8.alloc (.cells (List.toArray [.string x.name,.slice pa x.params.length pc,.slice ba x.body.length bc]) 42))∧Z6l w eb hi [.int .i64 y.op,.int .i64 y.n,.string y.name,.slice ya y.kids.length yc] y (w8.alloc (.cells (List.toArray [.string x.name,.slice pa x.params.length pc,.slice ba x.body.length bc]) 42))∧hi≤w8.heap.size∧(w8.alloc (.cells (List.toArray [.string x.name,.slice pa x.params.length pc,.slice ba x.body.length bc]) 42)).heap[w8.heap.size]? = some (.cells (List.toArray [.string x.name,.slice pa x.params.length pc,.slice ba x.body.length bc]) 42 (0,0))∧x.params.length≤3∧x.name.size≤maxLen∧(∃j:Nat,ZP bs (fns.length:Int) (Z5 wr' br)=(j:Int)∧fns[j]? = some x)∧Z5 (w8.alloc (.cells (List.toArray [.string x.name,.slice pa x.params.length pc,.slice ba x.body.length bc]) 42)) br=Z5 wr' br+1 from fun w8 x pa pc ba bc h1 h2 h3 h4 h5=>by
      have hba:Below w8.heap.size w8 (w8.alloc (.cells (List.toArray [.string x.name,.slice pa x.params.length pc,.slice ba x.body.length bc]) 42)):=(bRf _ _).alloc (Nat.le_refl _) _
      exact⟨h1.alloc _,h2.later hba,h2.lt.2.2,hAn w8 _,h3,h4,h5.1,by rw [Zs hba h1.g.lts.1];exact h5.2⟩)
     have HSM:=hdd (show Z1H fz wr' wr' from Z1H.refl (by have:=HFB.out;have:=HB2.out.size;omega))
     have HV0:=hdd (fun nq=>HL.out (wr'.drewN nq) (HB2.out.drewN nq) (HE2.out.later (below_drewN (bRf _ _) nq)) (HSM.out.drewN nq))
     have HA0:=hdd (fun nq=>HHA.out ((wr'.alloc (.cells #[.string ⟨#[]⟩,.slice none 0 0,.slice none 0 0] 42)).drewN nq) (below_drewN (bRf _ _) nq))
     have HA2:=hdd (fun nq nr=>HHA.out (((wr'.drewN nq).alloc (.cells #[.string ⟨#[]⟩,.slice none 0 0,.slice none 0 0] 42)).drewN nr) ⟨rfl,rfl,rfl,Nat.le_refl _,fun _ _=>rfl⟩)
     have c0:=HB2.out.g.c0
     have c1:=HB2.out.g.c1
     have d0:=(HB2.out.g.alloc (.cells #[.string ⟨#[]⟩,.slice none 0 0,.slice none 0 0] 42)).c0
     have d1:=(HB2.out.g.alloc (.cells #[.string ⟨#[]⟩,.slice none 0 0,.slice none 0 0] 42)).c1
     go_region_held3 (fun W=>W.cell? ⟨bg,0,none⟩=some (.pointer (some ⟨br,0,none⟩))∧W.cell? ⟨bg,1,none⟩=some (.slice (some ⟨fz,foff,none⟩) fns.length fc)∧(∀i,W.cell? ⟨fz,i,none⟩=wr'.cell? ⟨fz,i,none⟩)) (first|exact⟨GSt.c0 (by repeat (first|exact hx8.out.1.g|exact HB2.out.g|apply GSt.alloc|apply GSt.drewN|apply GSt.drew)),GSt.c1 (by repeat (first|exact hx8.out.1.g|exact HB2.out.g|apply GSt.alloc|apply GSt.drewN|apply GSt.drew)),Z1H.cell (by repeat (first|exact hC8.out|exact HSM.out|apply Z1H.alloc|apply Z1H.drewN|apply Z1H.drew))⟩|exact⟨GSt.c0 (by repeat (first|exact HB2.out.g|apply GSt.alloc|apply GSt.drewN|apply GSt.drew)),GSt.c1 (by repeat (first|exact HB2.out.g|apply GSt.alloc|apply GSt.drewN|apply GSt.drew)),Z1H.cell (by repeat (first|exact HSM.out|apply Z1H.alloc|apply Z1H.drewN|apply Z1H.drew))⟩|exact⟨HY.out.1.g.c0,HY.out.1.g.c1,HYS.out.cell⟩) (first|(go_at_call 10;(first|refine(HA0.out _).mono ?_|refine(HA2.out _ _).mono ?_);rintro e w8 ⟨j,x,pa,pc,ba,bc,rfl,hx8,e0,e1,e2,hj,hC8⟩;(have HY:=hdd (HSA.out w8 wr'.heap.size x pa pc ba bc hx8.out.1 hx8.out.2.1 hx8.out.2.2.1 hx8.out.2.2.2.1 hx8.out.2.2.2.2.1 (by have:=HHI.out;omega) hx8.out.2.2.2.2.2 (by have:=HB2.out.g.lts.1;omega)));(rw [Z6R] at HY);(have HYS:=hdd (show Z1H fz wr' (w8.setCells wr'.heap.size 0 [.string x.name,.slice pa x.params.length pc,.slice ba x.body.length bc]) from⟨((ZB (g:=wr'.heap.size) [.string x.name,.slice pa x.params.length pc,.slice ba x.body.length bc] w8 0).block fz (by have:=hC8.out.lt;omega) (by have:=hC8.out.lt;omega)).trans hC8.out.blk,hC8.out.lt.1,Nat.le_trans hC8.out.lt.2 (ZB (g:=wr'.heap.size) [.string x.name,.slice pa x.params.length pc,.slice ba x.body.length bc] w8 0).size⟩));(rw [Z6R] at HYS);(have hr8:=hx8.out.2.2.2.2.1);(have z0:=coR _ _ 0 _ _ _ hr8);(have z1:=coR _ _ 1 _ _ _ hr8);(have z2:=coR _ _ 2 _ _ _ hr8);(simp only [ga0,ga1,ga2] at z0 z1 z2);(have g0:=frR _ _ 0 _ _ hr8);(have g1:=frR _ _ 1 _ _ hr8);(have g2:=frR _ _ 2 _ _ hr8))|(go_at_call 10;refine(HV0.out _).mono ?_;rintro e w8 ⟨j,x,pa,pc,ba,bc,rfl,hx8,e0,e1,e2,hj,hC8⟩;(have HY:=hdd (HSB.out w8 x pa pc ba bc hx8.out.1 hx8.out.2.1 hx8.out.2.2.1 hx8.out.2.2.2.1 (hx8.out.2.2.2.2.2 rfl)));(have HYS:=hdd (hC8.out.alloc (.cells (List.toArray [.string x.name,.slice pa x.params.length pc,.slice ba x.body.length bc]) 42)))))
     all_goals go_wp2_with fail
     all_goals go_meet
     all_goals exact⟨_,x,pa,pc,ba,bc,rfl,HY⟩
   case rest=>
   obtain⟨fb,x,pa,pc,ba,bc,rfl,HX⟩:=hcut
   have HY0:=hdd (show YSt w0 w br bg a len cap bs (some ⟨fz,foff,none⟩) fc fns va vc vars next left [.int .i64 0,.int .i64 0,.string ⟨#[]⟩,.slice none 0 0] 64 eb hi fb wc.heap.size [.int .i64 y.op,.int .i64 y.n,.string y.name,.slice ya y.kids.length yc] [.string x.name,.slice pa x.params.length pc,.slice ba x.body.length bc] y x.name none 0 [] (u+102) (wc.alloc (.cells #[.int .i64 13,.int .i64 0,.string x.name,.slice none 0 0] 64)) from
    ⟨HX.out.1.alloc _,HX.out.2.1.later ((bRf _ _).alloc (Nat.le_refl _) _),(((bRf wc.heap.size wc).alloc (Nat.le_refl _) _).block _ (gsI HX.out.2.2.2.1).1).trans HX.out.2.2.2.1,hAn wc _,⟨HX.out.2.2.1,(gsI HX.out.2.2.2.1).1⟩,ZM.nil _ _ _⟩)
   have HXP:=hdd (aI HX.out.2.2.2.2.1 HX.out.2.2.2.2.2.1)
   have HXJ:=hdd HX.out.2.2.2.2.2.2
   have HPC:=hdd (show Z5 (wc.alloc (.cells #[.int .i64 13,.int .i64 0,.string x.name,.slice none 0 0] 64)) br=Z5 wc br from Zs ((bRf _ _).alloc (Nat.le_refl _) _) HX.out.1.g.lts.1)
   have r0:=coR _ _ 0 _ _ _ HX.out.2.2.2.1
   simp only [ga0,ga1] at r0
   go_upto_region 6 with fail
   obtain⟨cb,hcb⟩:∃b,b=wc.heap.size:=⟨_,rfl⟩
   rw [← hcb] at HY0 ⊢
   generalize wc.alloc (.cells #[.int .i64 13,.int .i64 0,.string x.name,.slice none 0 0] 64)=W6 at HY0 HPC ⊢
   clear r0 HX hcb
   obtain⟨N,hN⟩:∃N,N=x.params.length:=⟨_,rfl⟩
   have HNN:=hdd hN
   have hN3:N≤9223372036854775807:=by have:=HXP.out.1;omega
   clear hN
   go_wp2_with fail
   go_loopg [8] N (fun G i wr=>∃(ka:Option Addr) (kc:Nat) (ks:List Z6),ks.length+G=N∧i=.int .i64 (ks.length:Int)∧Hid (YSt w0 w br bg a len cap bs (some ⟨fz,foff,none⟩) fc fns va vc vars next left [.int .i64 0,.int .i64 0,.string ⟨#[]⟩,.slice none 0 0] 64 eb hi fb cb [.int .i64 y.op,.int .i64 y.n,.string y.name,.slice ya y.kids.length yc] [.string x.name,.slice pa x.params.length pc,.slice ba x.body.length bc] y x.name ka kc ks (u+102+30*ks.length) wr∧Z4v (Z0d bs vars 2) ks.length (Z5 W6 br)=(ks,Z5 wr br)))
   case atStart=>exact⟨none,0,[],by simp,rfl,hdd ⟨HY0.out,rfl⟩⟩
   case round=>
    obtain⟨ka,kc,ks,hk,rfl,HB0⟩:=hrel
    have HB:=hdd HB0.out.1
    have HMF:=hdd HB0.out.2
    clear HY0 HB0
    have r1:=coR _ _ 1 _ _ _ HB.out.frow
    simp only [ga0,ga1,ga2] at r1
    rw [← HNN.out] at r1
    by_cases hlt:ks.length<N
    ·have hki:(ks.length:Int)<(N:Int):=by omega
     have HKL:=hdd (show ks.length≤2 by have:=HXP.out.1;have:=HNN.out;omega)
     have HL:=hdd (show ∀W,YSt w0 w br bg a len cap bs (some ⟨fz,foff,none⟩) fc fns va vc vars next left [.int .i64 0,.int .i64 0,.string ⟨#[]⟩,.slice none 0 0] 64 eb hi fb cb [.int .i64 y.op,.int .i64 y.n,.string y.name,.slice ya y.kids.length yc] [.string x.name,.slice pa x.params.length pc,.slice ba x.body.length bc] y x.name ka kc ks (u+102+30*ks.length) W→Calls Tryz.prog 55 #[.pointer (some ⟨br,0,none⟩),.slice va vars.length vc,.int .i64 2] W fun e W'=>∃(y2:Z6) (ja:Option Addr) (jc:Nat),e=.returned (.agg (List.toArray [.int .i64 y2.op,.int .i64 y2.n,.string y2.name,.slice ja y2.kids.length jc]))∧YSt w0 w br bg a len cap bs (some ⟨fz,foff,none⟩) fc fns va vc vars next left [.int .i64 0,.int .i64 0,.string ⟨#[]⟩,.slice none 0 0] 64 eb hi fb cb [.int .i64 y.op,.int .i64 y.n,.string y.name,.slice ya y.kids.length yc] [.string x.name,.slice pa x.params.length pc,.slice ba x.body.length bc] y x.name ka kc ks (u+132+30*ks.length) W'∧ZG 3 (fun b=>cb<b∧¬(Value.slice ka ks.length kc).ownBlock=some b) W' [.int .i64 y2.op,.int .i64 y2.n,.string y2.name,.slice ja y2.kids.length jc] y2∧(∀q,Z5 W br=q→Z0d bs vars 2 q=(y2,Z5 W' br)) from fun W hW=>by
      obtain⟨p,hp,hrd⟩:=hW.b.g.rd
      refine(Z2E w0 br a len cap bs hlen va vars.length vc vars (Z0Y hW.b.g.vlist) HVL.out 2 W p (by omega) hrd (by have:=HU.out;have:=HKL.out;have h28:Z1d 2=28:=rfl;omega) hW.b.g.strs).mono ?_
      rintro e W' ⟨cs,y2,q,rfl,hrd',hq,ht,hy,hl,-,hF⟩
      obtain⟨ja,jc,rfl⟩:=Zj hy
      have h28:Z1d 2=28:=rfl
      refine⟨y2,ja,jc,rfl,hW.step ht hrd' (by omega) (by omega),(Z1 3).mono (fun b hb h=>?_) (show ZG 3 _ W' _ y2 from⟨hy,hl⟩),fun q hq=>by rw [← hq,hrd.pos,hrd'.pos];exact hF⟩
      have h2:=hW.lts
      refine⟨by omega,fun e=>?_⟩
      obtain⟨⟨cells,g1,_⟩,_⟩:=hW.kids
      have:=(g1.lt b e).2
      omega)
     have c0:=HB.out.b.g.c0
     have c2:=HB.out.b.g.c2
     have k3:=HB.out.kcell
     go_upto_region 9 with fail
     go_region_law (first|(go_simp;go_at_call 55;refine(HL.out _ (by repeat (first|exact HB.out|apply YSt.drew|apply YSt.drewN|apply YSt.alloc))).mono ?_;rintro e w8 ⟨y2,ja,jc,rfl,hY8,hy8,hF8⟩;(have hE8:=hF8 (Z5 wr br) (by first|rfl|exact Zs (by repeat (first|exact bRf _ _|apply Zy|apply later_drewN|apply Zt)) HB.out.b.g.lts.1));(have k38:=hY8.kcell);(have i38:=(hY8.alloc (.cells (List.toArray [.int .i64 y2.op,.int .i64 y2.n,.string y2.name,.slice ja y2.kids.length jc]) 64)).kcell);(obtain⟨cells,hrows⟩:=hY8.kids.rows))|(refine Z21 rfl (.tmp 61) (.tmp 71) rfl (cb+1) _ ks.length _ rfl (ZI hrows.1 (by repeat (first|exact bRf _ _|apply Zy|apply later_drewN|apply Zt))) _ 1 [.int .i64 y2.op,.int .i64 y2.n,.string y2.name,.slice ja y2.kids.length jc] rfl (by first|exact Zc _ _ _|exact Z0g.drew (Zc _ _ _)) rfl Z1T (by have:=HKL.out;omega) (Nat.le_trans (Nat.succ_le_of_lt (hY8.alloc (.cells (List.toArray [.int .i64 y2.op,.int .i64 y2.n,.string y2.name,.slice ja y2.kids.length jc]) 64)).lts.2.2.1) (Below.size (show Below (w8.alloc (.cells (List.toArray [.int .i64 y2.op,.int .i64 y2.n,.string y2.name,.slice ja y2.kids.length jc]) 64)).heap.size (w8.alloc (.cells (List.toArray [.int .i64 y2.op,.int .i64 y2.n,.string y2.name,.slice ja y2.kids.length jc]) 64)) _ from by repeat (first|exact bRf _ _|apply Zy|apply later_drewN)))) ?_;intro a9 c9 w9 hown9 hg9 hlies9;(have h9:=hY8.after2 hg9 (by repeat (first|exact bRf _ _|apply Zy|apply later_drewN|apply Zt)));(have s3:=coR _ _ 3 _ _ _ h9);(have t3:=frR _ _ 3 _ _ h9);(have hp9:=hY8.pos2 hg9 (by repeat (first|exact bRf _ _|apply Zy|apply later_drewN|apply Zt)) (.slice a9 (ks.length+1) c9));(have hP9:=hY8.push2 hrows hy8 hown9 hg9 hlies9 (by repeat (first|exact bRf _ _|apply Zy|apply later_drewN|apply Zt)))))
     all_goals
      have HP9:=hdd hP9
      have HM9:=hdd (Z5z HMF.out (show Z0d bs vars 2 (Z5 wr br)=(y2,Z5 (w9.setCell ⟨cb,3,none⟩ (.slice a9 (ks.length+1) c9)) br) by rw [hp9];exact hE8))
      clear hp9 hE8 hF8
      clear hY8 hy8 k38 i38 hrows hown9 hg9 hlies9 h9 s3 t3 hP9 c0 c2 k3 r1
      generalize w9.setCell ⟨cb,3,none⟩ (.slice a9 (ks.length+1) c9)=w10 at HP9 HM9 ⊢
      go_wp2
      go_roundg (gk-1)
      case measure=>omega
      case rel=>exact⟨a9,c9,ks++[y2],by rw [List.length_append,List.length_singleton];omega,by rw [List.length_append,List.length_singleton];go_num,hdd (by rw [List.length_append,List.length_singleton];rw [show u+102+30*(ks.length+1)=u+132+30*ks.length by omega];exact⟨HP9.out,HM9.out⟩)⟩
    ·obtain rfl:N=ks.length:=by omega
     obtain⟨p,hp,hrd⟩:=HB.out.b.g.rd
     have HPP:=hdd hp
     have HKL:=hdd (show ks.length≤3 by have:=HXP.out.1;have:=HNN.out;omega)
     have c0:=HB.out.b.g.c0
     go_wp2_with fail
     refine(Z01 w0 _ br a len cap bs p 2 hrd (by omega) hlen (by have:=HPP.out;have:=HU.out;have:=HKL.out;omega)).mono ?_
     rintro e w8 ⟨v8,_,_,rfl,hrd8,hg8,hV8⟩
     have HV8:=hdd (show ZP bs 2 (Z5 wr br)=v8∧Z5 w8 br=Z5 wr br+1 by rw [hrd.pos,hrd8.pos];exact⟨hV8,rfl⟩)
     have HFA:=hdd (show Z0f bs fns vars n (Z5 w br)=if v8=0 then (.mk 13 0 x.name ks,Z5 w8 br) else (.mk (Z2Y bs [3,4,8,10] (Z5 w8 br)) 0 ⟨#[]⟩ [.mk 13 0 x.name ks,(Z0d bs vars 2 (Z5 w8 br+1)).1],(Z0d bs vars 2 (Z5 w8 br+1)).2) by
      obtain⟨⟨j,hj,hfj⟩,hpj⟩:=HXJ.out
      have hmf:=HMF.out
      rw [HPC.out,hpj,HV.out.2,HNN.out] at hmf
      rw [HV.out.2] at hj
      rw [Z8g HF1.out hf0 HV.out.1 (by have:=HNV.out;omega) hj hfj hmf,HV8.out.1,HV8.out.2])
     clear hV8
     have HY8:=hdd (HB.out.step (u':=u+200) (Zd.grown hg8) hrd8 (by have:=HPP.out;have:=HKL.out;omega) (by have:=HKL.out;omega))
     clear hrd8 hg8 hp hrd HB c0 r1
     have HC8:=hdd (fun (W:World) (h:YSt w0 w br bg a len cap bs (some ⟨fz,foff,none⟩) fc fns va vc vars next left [.int .i64 0,.int .i64 0,.string ⟨#[]⟩,.slice none 0 0] 64 eb hi fb cb [.int .i64 y.op,.int .i64 y.n,.string y.name,.slice ya y.kids.length yc] [.string x.name,.slice pa x.params.length pc,.slice ba x.body.length bc] y x.name ka kc ks (u+200) W)=>Z47 (S:=fun b=>w.heap.size<b) ((h.kids.list (Z1 3)).mono (Z1 3) (fun b _ h3=>by have:=h.lts;have:=h.lt;rcases h3 with h3|h3<;>omega)) HXP.out.2 (by have:=HKL.out;omega) (c:=kc) 13 (by decide))
     have d0:=coR _ _ 0 _ _ _ HY8.out.crow
     have d1:=coR _ _ 1 _ _ _ HY8.out.crow
     have d2:=coR _ _ 2 _ _ _ HY8.out.crow
     have d3:=coR _ _ 3 _ _ _ HY8.out.crow
     simp only [ga0,ga1,ga2] at d0 d1 d2 d3
     by_cases hv8:v8=0
     ·subst hv8
      have HFZ:=hdd (show Z0f bs fns vars n (Z5 w br)=(.mk 13 0 x.name ks,Z5 (w8.setCells w.heap.size 0 [.int .i64 13,.int .i64 0,.string x.name,.slice ka ks.length kc]) br) by rw [Z0P (by have:=HLT.out.1;omega),HFA.out,if_pos rfl])
      have z0:=coR _ _ 0 _ _ _ (HY8.out.b.rrow)
      have z1:=coR _ _ 1 _ _ _ (HY8.out.b.rrow)
      have z2:=coR _ _ 2 _ _ _ (HY8.out.b.rrow)
      have z3:=coR _ _ 3 _ _ _ (HY8.out.b.rrow)
      simp only [ga0,ga1,ga2] at z0 z1 z2 z3
      have f0:=frR _ _ 0 _ _ (HY8.out.b.rrow)
      have f1:=frR _ _ 1 _ _ (HY8.out.b.rrow)
      have f2:=frR _ _ 2 _ _ (HY8.out.b.rrow)
      have f3:=frR _ _ 3 _ _ (HY8.out.b.rrow)
      have HZ:=hdd (show(w8.setCells w.heap.size 0 [.int .i64 13,.int .i64 0,.string x.name,.slice ka ks.length kc]).heap[w.heap.size]? = some (.cells (List.toArray [.int .i64 13,.int .i64 0,.string x.name,.slice ka ks.length kc]) 64 (0,0))∧ZG 8 (fun k=>w.heap.size≤k) (w8.setCells w.heap.size 0 [.int .i64 13,.int .i64 0,.string x.name,.slice ka ks.length kc]) [.int .i64 13,.int .i64 0,.string x.name,.slice ka ks.length kc] (.mk 13 0 x.name ks)∧GSt w0 br bg a len cap bs (some ⟨fz,foff,none⟩) fc fns (u+300) va vc vars next left (w8.setCells w.heap.size 0 [.int .i64 13,.int .i64 0,.string x.name,.slice ka ks.length kc])∧Zf br bg w (w8.setCells w.heap.size 0 [.int .i64 13,.int .i64 0,.string x.name,.slice ka ks.length kc]) by
       obtain⟨k1,k2,k3,k4⟩:=HY8.out.b.put (cs:=[.int .i64 13,.int .i64 0,.string x.name,.slice ka ks.length kc]) rfl
       exact⟨k1,(Z1 8).mono (fun k _ h=>Nat.le_of_lt h) ((Z1 8).turned k2 (fun k _ h1 h2=>by have h1:w.heap.size<k:=h1;omega) (Z0j (by omega:4≤8) (HC8.out w8 HY8.out))),k3.more (by omega),k4⟩)
      rw [ZW] at HZ HFZ
      go_wp2
      refine bodyPost_ret (results_cell_row rfl _ _ w.heap.size 64 #[.int .i64 13,.int .i64 0,.string x.name,.slice ka ks.length kc] (0,0) _ rfl ?_ Tryz.underlying64 rfl (by kernel_rfl)) rfl ?_
      ·exact HZ.out.1
      exact⟨_,_,rfl,HZ.out.2.1,HZ.out.2.2.1,HZ.out.2.2.2,HFZ.out⟩
     ·have h80:(v8==0)=false:=by simpa using hv8
      have HFB:=hdd (show Z0f bs fns vars n (Z5 w br)=(.mk (Z2Y bs [3,4,8,10] (Z5 w8 br)) 0 ⟨#[]⟩ [.mk 13 0 x.name ks,(Z0d bs vars 2 (Z5 w8 br+1)).1],(Z0d bs vars 2 (Z5 w8 br+1)).2) by rw [HFA.out,if_neg hv8])
      clear hv8
      clear d0 d1 d2 d3
      have HH:=hdd (fun (u9:Nat) (W:World) (h:YSt w0 w br bg a len cap bs (some ⟨fz,foff,none⟩) fc fns va vc vars next left [.int .i64 0,.int .i64 0,.string ⟨#[]⟩,.slice none 0 0] 64 eb hi fb cb [.int .i64 y.op,.int .i64 y.n,.string y.name,.slice ya y.kids.length yc] [.string x.name,.slice pa x.params.length pc,.slice ba x.body.length bc] y x.name ka kc ks u9 W)=>(⟨h.b.g.c0,h.b.g.c2,coR _ _ 0 _ _ _ h.crow,coR _ _ 1 _ _ _ h.crow,coR _ _ 2 _ _ _ h.crow,coR _ _ 3 _ _ _ h.crow⟩:W.cell? ⟨bg,0,none⟩=some (.pointer (some ⟨br,0,none⟩))∧W.cell? ⟨bg,2,none⟩=some (.slice va vars.length vc)∧W.cell? ⟨cb,0,none⟩=some (.int .i64 13)∧W.cell? ⟨cb,1,none⟩=some (.int .i64 0)∧W.cell? ⟨cb,2,none⟩=some (.string x.name)∧W.cell? ⟨cb,3,none⟩=some (.slice ka ks.length kc)))
      have HS:=hdd (fun (u9:Nat) (W:World) (v0 v1 v2 v3:Value) (h:YSt w0 w br bg a len cap bs (some ⟨fz,foff,none⟩) fc fns va vc vars next left [.int .i64 0,.int .i64 0,.string ⟨#[]⟩,.slice none 0 0] 64 eb hi fb cb [.int .i64 y.op,.int .i64 y.n,.string y.name,.slice ya y.kids.length yc] [.string x.name,.slice pa x.params.length pc,.slice ba x.body.length bc] y x.name ka kc ks u9 W)=>(show((((W.setCell ⟨w.heap.size,0,none⟩ v0).setCell ⟨w.heap.size,1,none⟩ v1).setCell ⟨w.heap.size,2,none⟩ v2).setCell ⟨w.heap.size,3,none⟩ v3).cell? ⟨bg,0,none⟩=some (.pointer (some ⟨br,0,none⟩))∧((((W.setCell ⟨w.heap.size,0,none⟩ v0).setCell ⟨w.heap.size,1,none⟩ v1).setCell ⟨w.heap.size,2,none⟩ v2).setCell ⟨w.heap.size,3,none⟩ v3).cell? ⟨bg,2,none⟩=some (.slice va vars.length vc)∧((((W.setCell ⟨w.heap.size,0,none⟩ v0).setCell ⟨w.heap.size,1,none⟩ v1).setCell ⟨w.heap.size,2,none⟩ v2).setCell ⟨w.heap.size,3,none⟩ v3).cell? ⟨cb,0,none⟩=some (.int .i64 13)∧((((W.setCell ⟨w.heap.size,0,none⟩ v0).setCell ⟨w.heap.size,1,none⟩ v1).setCell ⟨w.heap.size,2,none⟩ v2).setCell ⟨w.heap.size,3,none⟩ v3).cell? ⟨cb,1,none⟩=some (.int .i64 0)∧((((W.setCell ⟨w.heap.size,0,none⟩ v0).setCell ⟨w.heap.size,1,none⟩ v1).setCell ⟨w.heap.size,2,none⟩ v2).setCell ⟨w.heap.size,3,none⟩ v3).cell? ⟨cb,2,none⟩=some (.string x.name)∧((((W.setCell ⟨w.heap.size,0,none⟩ v0).setCell ⟨w.heap.size,1,none⟩ v1).setCell ⟨w.heap.size,2,none⟩ v2).setCell ⟨w.heap.size,3,none⟩ v3).cell? ⟨cb,3,none⟩=some (.slice ka ks.length kc) from by
       rw [← ZW]
       have ht:=ZB (g:=w.heap.size) [v0,v1,v2,v3] W 0
       have hl:=h.lts
       have hl2:=h.lt
       have hbz:=h.b.size
       have hbl:=h.b.lt
       have e1:∀i,(W.setCells w.heap.size 0 [v0,v1,v2,v3]).cell? ⟨bg,i,none⟩=W.cell? ⟨bg,i,none⟩:=fun i=>World.cell?_of_block (ht.block bg (by omega) (by omega))
       have e2:∀i,(W.setCells w.heap.size 0 [v0,v1,v2,v3]).cell? ⟨cb,i,none⟩=W.cell? ⟨cb,i,none⟩:=fun i=>World.cell?_of_block (ht.block cb (by omega) (by omega))
       rw [e1,e1,e2,e2,e2,e2]
       exact HH.out u9 W h))
      have HN:=hdd (show ∀W,Below (w8.alloc (.cells #[.int .i64 3,.int .i64 4,.int .i64 8,.int .i64 10] 3)).heap.size (w8.alloc (.cells #[.int .i64 3,.int .i64 4,.int .i64 8,.int .i64 10] 3)) W→Calls Tryz.prog 33 #[.pointer (some ⟨br,0,none⟩),.slice (some ⟨w8.heap.size,0,none⟩) 4 4] W fun e W'=>∃op:Int,e=.returned (.int .i64 op)∧(3≤op∧op≤10)∧Hid (YSt w0 w br bg a len cap bs (some ⟨fz,foff,none⟩) fc fns va vc vars next left [.int .i64 0,.int .i64 0,.string ⟨#[]⟩,.slice none 0 0] 64 eb hi fb cb [.int .i64 y.op,.int .i64 y.n,.string y.name,.slice ya y.kids.length yc] [.string x.name,.slice pa x.params.length pc,.slice ba x.body.length bc] y x.name ka kc ks (u+201) W'∧Z2Y bs [3,4,8,10] (Z5 w8 br)=op∧Z5 W' br=Z5 w8 br+1) from fun W hW=>by
       have hW1:YSt w0 w br bg a len cap bs (some ⟨fz,foff,none⟩) fc fns va vc vars next left [.int .i64 0,.int .i64 0,.string ⟨#[]⟩,.slice none 0 0] 64 eb hi fb cb [.int .i64 y.op,.int .i64 y.n,.string y.name,.slice ya y.kids.length yc] [.string x.name,.slice pa x.params.length pc,.slice ba x.body.length bc] y x.name ka kc ks (u+200) W:=(HY8.out.alloc _).later hW
       obtain⟨p,hp,hrd⟩:=hW1.b.g.rd
       have hpw:Z5 w8 br=p:=by rw [← hrd.pos,Zs hW (by have:=HY8.out.b.g.lts.1;rw [World.size_alloc];omega),Zs ((bRf _ _).alloc (Nat.le_refl _) _) HY8.out.b.g.lts.1]
       refine(Z1e w0 _ br a len cap bs p w8.heap.size 4 4 [3,4,8,10] hrd ((Z7w w8 [3,4,8,10]).later hW) (by have:=HY8.out.lts;have:=HY8.out.b.size;omega) (by omega) hlen (by have:=HU.out;omega)).mono ?_
       rintro e W' ⟨op,hop,rfl,hrd',hg',hFo⟩
       refine⟨op,rfl,?_,hdd ⟨hW1.step (u':=u+201) (Zd.grown hg') hrd' (by omega) (by omega),by rw [hpw];exact hFo,by rw [hpw,hrd'.pos]⟩⟩
       simp only [List.mem_cons,List.not_mem_nil,or_false] at hop
       omega)
      have HN0:=hdd (fun nq=>HN.out ((w8.alloc (.cells #[.int .i64 3,.int .i64 4,.int .i64 8,.int .i64 10] 3)).drewN nq) (below_drewN (bRf _ _) nq))
      have HN2:=hdd (fun nq nr=>HN.out (((w8.drewN nq).alloc (.cells #[.int .i64 3,.int .i64 4,.int .i64 8,.int .i64 10] 3)).drewN nr) ⟨rfl,rfl,rfl,Nat.le_refl _,fun _ _=>rfl⟩)
      have HE:=hdd (show ∀W,YSt w0 w br bg a len cap bs (some ⟨fz,foff,none⟩) fc fns va vc vars next left [.int .i64 0,.int .i64 0,.string ⟨#[]⟩,.slice none 0 0] 64 eb hi fb cb [.int .i64 y.op,.int .i64 y.n,.string y.name,.slice ya y.kids.length yc] [.string x.name,.slice pa x.params.length pc,.slice ba x.body.length bc] y x.name ka kc ks (u+201) W→Calls Tryz.prog 55 #[.pointer (some ⟨br,0,none⟩),.slice va vars.length vc,.int .i64 2] W fun e W'=>∃(y2:Z6) (ja:Option Addr) (jc:Nat),e=.returned (.agg (List.toArray [.int .i64 y2.op,.int .i64 y2.n,.string y2.name,.slice ja y2.kids.length jc]))∧YSt w0 w br bg a len cap bs (some ⟨fz,foff,none⟩) fc fns va vc vars next left [.int .i64 0,.int .i64 0,.string ⟨#[]⟩,.slice none 0 0] 64 eb hi fb cb [.int .i64 y.op,.int .i64 y.n,.string y.name,.slice ya y.kids.length yc] [.string x.name,.slice pa x.params.length pc,.slice ba x.body.length bc] y x.name ka kc ks (u+240) W'∧ZG 3 (fun b=>cb<b) W' [.int .i64 y2.op,.int .i64 y2.n,.string y2.name,.slice ja y2.kids.length jc] y2∧(∀q,Z5 W br=q→Z0d bs vars 2 q=(y2,Z5 W' br)) from fun W hW=>by
       obtain⟨p,hp,hrd⟩:=hW.b.g.rd
       refine(Z2E w0 br a len cap bs hlen va vars.length vc vars (Z0Y hW.b.g.vlist) HVL.out 2 W p (by omega) hrd (by have:=HU.out;have h28:Z1d 2=28:=rfl;omega) hW.b.g.strs).mono ?_
       rintro e W' ⟨cs,y2,q,rfl,hrd',hq,ht,hy,hl,-,hF⟩
       obtain⟨ja,jc,rfl⟩:=Zj hy
       have h28:Z1d 2=28:=rfl
       refine⟨y2,ja,jc,rfl,hW.step ht hrd' (by omega) (by omega),(Z1 3).mono (fun b hb h=>?_) (show ZG 3 _ W' _ y2 from⟨hy,hl⟩),fun q hq=>by rw [← hq,hrd.pos,hrd'.pos];exact hF⟩
       have h2:=hW.lts
       omega)
      go_upto_region 12 with fail
      go_region_held3 (fun W=>W.cell? ⟨bg,0,none⟩=some (.pointer (some ⟨br,0,none⟩))∧W.cell? ⟨bg,2,none⟩=some (.slice va vars.length vc)∧W.cell? ⟨cb,0,none⟩=some (.int .i64 13)∧W.cell? ⟨cb,1,none⟩=some (.int .i64 0)∧W.cell? ⟨cb,2,none⟩=some (.string x.name)∧W.cell? ⟨cb,3,none⟩=some (.slice ka ks.length kc)) (first|exact HH.out _ _ (by repeat (first|exact HY8.out|exact hY9.out.1|exact hY10|apply YSt.alloc|apply YSt.drewN|apply YSt.drew))|exact HS.out _ _ _ _ _ _ (hY10.alloc _)) (first|(go_at_call 33;(first|refine(HN0.out _).mono ?_|refine(HN2.out _ _).mono ?_);rintro e w9 ⟨op,rfl,hop,hY9⟩)|(go_at_call 55;refine(HE.out _ (by repeat (first|exact HY8.out|exact hY9.out.1|exact hY10|apply YSt.alloc|apply YSt.drewN|apply YSt.drew))).mono ?_;rintro e w10 ⟨y2,ja,jc,rfl,hY10,hy10,hE10⟩;(have hE11:=hE10 (Z5 w9 br) (by first|rfl|exact Zs (by repeat (first|exact bRf _ _|apply Zy|apply later_drewN|apply Zt)) hY9.out.1.b.g.lts.1));(have hr8:=(hY10.alloc (.cells #[.int .i64 13,.int .i64 0,.string x.name,.slice ka ks.length kc,.int .i64 y2.op,.int .i64 y2.n,.string y2.name,.slice ja y2.kids.length jc] 64)).b.rrow);(have z0:=coR _ _ 0 _ _ _ hr8);(have z1:=coR _ _ 1 _ _ _ hr8);(have z2:=coR _ _ 2 _ _ _ hr8);(have z3:=coR _ _ 3 _ _ _ hr8);(simp only [ga0,ga1,ga2] at z0 z1 z2 z3);(have g0:=frR _ _ 0 _ _ hr8);(have g1:=frR _ _ 1 _ _ hr8);(have g2:=frR _ _ 2 _ _ hr8);(have g3:=frR _ _ 3 _ _ hr8)))
      all_goals
       have HFZ:=hdd (show Z0f bs fns vars n (Z5 w br)=(.mk op 0 ⟨#[]⟩ [.mk 13 0 x.name ks,y2],Z5 ((w10.alloc (.cells #[.int .i64 13,.int .i64 0,.string x.name,.slice ka ks.length kc,.int .i64 y2.op,.int .i64 y2.n,.string y2.name,.slice ja y2.kids.length jc] 64)).setCells w.heap.size 0 [.int .i64 op,.int .i64 0,.string ⟨#[]⟩,.slice (some ⟨w10.heap.size,0,none⟩) 2 2]) br) by
        rw [Z0P (by have:=HLT.out.1;omega),Zs ((bRf _ _).alloc (Nat.le_refl _) _) hY10.b.g.lts.1,HFB.out,hY9.out.2.1]
        have h10:=hE11
        rw [hY9.out.2.2] at h10
        rw [h10])
       have HZ:=hdd (show((w10.alloc (.cells #[.int .i64 13,.int .i64 0,.string x.name,.slice ka ks.length kc,.int .i64 y2.op,.int .i64 y2.n,.string y2.name,.slice ja y2.kids.length jc] 64)).setCells w.heap.size 0 [.int .i64 op,.int .i64 0,.string ⟨#[]⟩,.slice (some ⟨w10.heap.size,0,none⟩) 2 2]).heap[w.heap.size]? = some (.cells (List.toArray [.int .i64 op,.int .i64 0,.string ⟨#[]⟩,.slice (some ⟨w10.heap.size,0,none⟩) 2 2]) 64 (0,0))∧ZG 8 (fun k=>w.heap.size≤k) ((w10.alloc (.cells #[.int .i64 13,.int .i64 0,.string x.name,.slice ka ks.length kc,.int .i64 y2.op,.int .i64 y2.n,.string y2.name,.slice ja y2.kids.length jc] 64)).setCells w.heap.size 0 [.int .i64 op,.int .i64 0,.string ⟨#[]⟩,.slice (some ⟨w10.heap.size,0,none⟩) 2 2]) [.int .i64 op,.int .i64 0,.string ⟨#[]⟩,.slice (some ⟨w10.heap.size,0,none⟩) 2 2] (.mk op 0 ⟨#[]⟩ [.mk 13 0 x.name ks,y2])∧GSt w0 br bg a len cap bs (some ⟨fz,foff,none⟩) fc fns (u+300) va vc vars next left ((w10.alloc (.cells #[.int .i64 13,.int .i64 0,.string x.name,.slice ka ks.length kc,.int .i64 y2.op,.int .i64 y2.n,.string y2.name,.slice ja y2.kids.length jc] 64)).setCells w.heap.size 0 [.int .i64 op,.int .i64 0,.string ⟨#[]⟩,.slice (some ⟨w10.heap.size,0,none⟩) 2 2])∧Zf br bg w ((w10.alloc (.cells #[.int .i64 13,.int .i64 0,.string x.name,.slice ka ks.length kc,.int .i64 y2.op,.int .i64 y2.n,.string y2.name,.slice ja y2.kids.length jc] 64)).setCells w.heap.size 0 [.int .i64 op,.int .i64 0,.string ⟨#[]⟩,.slice (some ⟨w10.heap.size,0,none⟩) 2 2]) by
        have hA:=hY10.alloc (.cells #[.int .i64 13,.int .i64 0,.string x.name,.slice ka ks.length kc,.int .i64 y2.op,.int .i64 y2.n,.string y2.name,.slice ja y2.kids.length jc] 64)
        have hlts:=hY10.lts
        obtain⟨k1,k2,k3,k4⟩:=hA.b.put (cs:=[.int .i64 op,.int .i64 0,.string ⟨#[]⟩,.slice (some ⟨w10.heap.size,0,none⟩) 2 2]) rfl
        have hcall:=Z47 (S:=fun b=>w.heap.size<b) ((hA.kids.list (Z1 3)).mono (Z1 3) (fun b _ h3=>by have:=hA.lts;have:=hA.lt;rcases h3 with h3|h3<;>omega)) HXP.out.2 (by have:=HKL.out;omega) (c:=kc) 13 (by decide)
        have hy2:=Z0j (by omega:3≤4) ((Z1 3).below ((bRf w10.heap.size w10).alloc (Nat.le_refl _) (.cells #[.int .i64 13,.int .i64 0,.string x.name,.slice ka ks.length kc,.int .i64 y2.op,.int .i64 y2.n,.string y2.name,.slice ja y2.kids.length jc] 64)) ((Z1 3).mono (S':=fun b=>w.heap.size<b) (fun k _ (h:cb<k)=>by have:=hY10.lt;omega) hy10))
        have htwo:=Z4P (op:=op) (by omega) (S:=fun b=>w.heap.size<b) (c:=2) (t:=64) (b:=w10.heap.size) (hAn w10 (.cells #[.int .i64 13,.int .i64 0,.string x.name,.slice ka ks.length kc,.int .i64 y2.op,.int .i64 y2.n,.string y2.name,.slice ja y2.kids.length jc] 64)) (by have:=hY10.lt;omega) hcall hy2
        exact⟨k1,(Z1 8).mono (fun k _ h=>Nat.le_of_lt h) ((Z1 8).turned k2 (fun k _ h1 h2=>by have h1:w.heap.size<k:=h1;omega) (Z0j (by omega:4+1≤8) htwo)),k3.more (by omega),k4⟩)
       rw [ZW] at HZ HFZ
       go_wp2
       refine bodyPost_ret (results_cell_row rfl _ _ w.heap.size 64 (List.toArray [.int .i64 op,.int .i64 0,.string ⟨#[]⟩,.slice (some ⟨w10.heap.size,0,none⟩) 2 2]) (0,0) _ rfl ?_ Tryz.underlying64 rfl (by kernel_rfl)) rfl ?_
       ·exact HZ.out.1
       exact⟨_,_,rfl,HZ.out.2.1,HZ.out.2.2.1,HZ.out.2.2.2,HFZ.out⟩
end
end Go.Proofs.YtloooebabieeeaaGreatDoor
