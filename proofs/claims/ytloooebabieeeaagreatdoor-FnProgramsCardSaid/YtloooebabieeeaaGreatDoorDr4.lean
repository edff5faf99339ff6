/-
  The reference draws expressions with calls (l2Any). (printed by mkdr3.py)
-/
import Derived.Test.YtloooebabieeeaaGreatDoorCp
import Derived.Test.YtloooebabieeeaaGreatDoorDr2
import Derived.Deep.RegionLaw
import Derived.Deep.LoopGhost
set_option maxRecDepth 100000
set_option maxHeartbeats 16000000
set_option linter.unusedVariables false
namespace Go.Proofs.YtloooebabieeeaaGreatDoor
open Go.RowKit
theorem Zd.drewN (br:Nat) (w:World) (n:Nat):Zd br w (w.drewN n):=Zd.below (below_drewN (bRf _ _) n)
theorem Z2f.drewN {br:Nat} {w:World} {a:Option Addr} {m:Nat} {xs:List ByteArray} (n:Nat) (h:Z2f br w a m xs):Z2f br (w.drewN n) a m xs:=h.turn (Zd.drewN br w n)
structure ESt (w0 w:World) (br:Nat) (a:Option Addr) (len cap:Nat) (bs:List Int) (eb d:Nat) (ecs:List Value) (x:Z6) (p:Nat) (wr:World):Prop where
 res:Z0V w0 w br a len cap bs p wr
 lt:w.heap.size<eb
 erow:wr.heap[eb]? = some (.cells ecs.toArray 64 (0,0))
 ex:ZJ d (fun b=>w.heap.size<b∧b<eb) wr ecs x
 top:Z2U d (w.heap.size+1) eb wr ecs x
structure Z1n (w0 w:World) (br:Nat) (a:Option Addr) (len cap:Nat) (bs:List Int) (eb cb:Nat) (d:Nat) (ecs:List Value) (x:Z6) (nm:ByteArray) (p:Nat) (ka:Option Addr) (k kc:Nat) (ks:List Z6) (wr:World):Prop where
 e:ESt w0 w br a len cap bs eb d ecs x p wr
 lt:eb<cb
 crow:wr.heap[cb]? = some (.cells #[.int .i64 13,.int .i64 0,.string nm,.slice ka k kc] 64 (0,0))
 list:Z1c 3 (fun b=>cb<b) (cb+1) wr ka k kc ks
 long:∀y∈ks,Z1z Z0k 3 y=false
section
variable {w0 w wr w':World} {br:Nat} {a:Option Addr} {len cap:Nat} {bs:List Int} {eb cb d:Nat} {ecs:List Value} {x:Z6} {nm:ByteArray} {p q:Nat} {ka:Option Addr} {k kc:Nat} {ks:List Z6}
theorem ESt.size (h:ESt w0 w br a len cap bs eb d ecs x p wr):eb<wr.heap.size:=(gsI h.erow).1
theorem ESt.step (h:ESt w0 w br a len cap bs eb d ecs x p wr) (ht:Zd br wr w') (hr:Rd w0 w' br a len cap bs q):ESt w0 w br a len cap bs eb d ecs x q w':=by
 have hbr:=h.res.lt
 have hlt:=h.lt
 have hs:=h.size
 exact⟨h.res.step ht hr,h.lt,(ht.block (by omega) (by omega)).trans h.erow,ZA (T:=fun k=>k=br∨wr.heap.size≤k) ht (fun i h1 h2 h3=>by rcases h3 with h3|h3<;>omega) h.ex,h.top.turned (T:=fun k=>k=br∨wr.heap.size≤k) ht (fun i h1 h2 h3 h4=>by rcases h4 with h4|h4<;>omega)⟩
theorem ESt.later (h:ESt w0 w br a len cap bs eb d ecs x p wr) (hb:Below wr.heap.size wr w'):ESt w0 w br a len cap bs eb d ecs x p w':=h.step (Zd.below hb) (h.res.rd.later' hb)
theorem ESt.alloc (o:Obj) (h:ESt w0 w br a len cap bs eb d ecs x p wr):ESt w0 w br a len cap bs eb d ecs x p (wr.alloc o):=h.later ((bRf _ _).alloc (Nat.le_refl _) _)
theorem Z1n.size (h:Z1n w0 w br a len cap bs eb cb d ecs x nm p ka k kc ks wr):cb<wr.heap.size:=(gsI h.crow).1
theorem Z1n.step (h:Z1n w0 w br a len cap bs eb cb d ecs x nm p ka k kc ks wr) (ht:Zd br wr w') (hr:Rd w0 w' br a len cap bs q):Z1n w0 w br a len cap bs eb cb d ecs x nm q ka k kc ks w':=by
 have hbr:=h.e.res.lt
 have hlt:=h.lt
 have hle:=h.e.lt
 have hcb:=h.size
 refine⟨h.e.step ht hr,h.lt,(ht.block (by omega) (by omega)).trans h.crow,?_,h.long⟩
 obtain⟨⟨cells,k1,k2⟩,k3⟩:=h.list
 exact Z1c.turned ⟨⟨cells,k1,k2⟩,k3⟩ (T:=fun k=>k=br∨wr.heap.size≤k) ht (fun i hi h3=>by have:=k1.lt i hi;rcases h3 with h3|h3<;>omega) (fun i h1 h2 h3=>by rcases h3 with h3|h3<;>omega)
theorem Z1n.later (h:Z1n w0 w br a len cap bs eb cb d ecs x nm p ka k kc ks wr) (hb:Below wr.heap.size wr w'):Z1n w0 w br a len cap bs eb cb d ecs x nm p ka k kc ks w':=h.step (Zd.below hb) (h.e.res.rd.later' hb)
theorem Z1n.alloc (o:Obj) (h:Z1n w0 w br a len cap bs eb cb d ecs x nm p ka k kc ks wr):Z1n w0 w br a len cap bs eb cb d ecs x nm p ka k kc ks (wr.alloc o):=h.later ((bRf _ _).alloc (Nat.le_refl _) _)
theorem Z1n.drewN (n:Nat) (h:Z1n w0 w br a len cap bs eb cb d ecs x nm p ka k kc ks wr):Z1n w0 w br a len cap bs eb cb d ecs x nm p ka k kc ks (wr.drewN n):=h.later (below_drewN (bRf _ _) n)
theorem Z1n.drew (h:Z1n w0 w br a len cap bs eb cb d ecs x nm p ka k kc ks wr):Z1n w0 w br a len cap bs eb cb d ecs x nm p ka k kc ks wr.drew:=h.drewN 1
theorem Z1n.kids (h:Z1n w0 w br a len cap bs eb cb d ecs x nm p ka k kc ks wr):wr.cell? ⟨cb,3,none⟩=some (.slice ka k kc):=coR _ _ 3 _ _ _ h.crow
theorem Z1n.after {W w9:World} (h:Z1n w0 w br a len cap bs eb cb d ecs x nm p ka k kc ks wr) (hg:W.grownBy w9 (Value.slice ka k kc).ownBlock) (hb:Below wr.heap.size wr W):w9.heap[cb]? = some (.cells #[.int .i64 13,.int .i64 0,.string nm,.slice ka k kc] 64 (0,0)):=by
 have hW:=h.later hb
 refine(hg.block cb hW.size (fun e=>?_)).trans hW.crow
 obtain⟨⟨cells,k1,_⟩,_⟩:=h.list
 have:=(k1.lt cb e.symm).1
 omega
theorem Z1n.push {W w9:World} {cl:List Value} {y:Z6} {a':Option Addr} {c':Nat} {cells:List (List Value)} (h0:Z1n w0 w br a len cap bs eb cb d ecs x nm p ka k kc ks wr) (hrows:Z6f 3 (fun b=>cb<b) (cb+1) wr ka k kc ks cells) (hy:ZJ 3 (fun b=>cb<b∧¬(Value.slice ka k kc).ownBlock=some b) wr cl y) (hl:Z1z Z0k 3 y=false)
  (hown:w9.ownsRow (cb+1) 64 4 (.slice a' (k+1) c') (k+1) (cells.flatten++cl)) (hg:W.grownBy w9 (Value.slice ka k kc).ownBlock)
  (hlie:(Value.slice a' (k+1) c').ownBlock=(Value.slice ka k kc).ownBlock∨(Value.slice a' (k+1) c').ownBlock=some W.heap.size) (hb:Below wr.heap.size wr W):Z1n w0 w br a len cap bs eb cb d ecs x nm p a' (k+1) c' (ks++[y]) (w9.setCell ⟨cb,3,none⟩ (.slice a' (k+1) c')):=by
 have h:=h0.later hb
 have hbr:=h.e.res.lt
 have hlt:=h.lt
 have hle:=h.e.lt
 have hcb:=h.size
 have hrow:∀i,(Value.slice ka k kc).ownBlock=some i→cb<i:=fun i hi=>by
  have:=hrows.1.lt i hi
  omega
 have hrow':∀i,(Value.slice a' (k+1) c').ownBlock=some i→cb<i:=fun i hi=>by
  rcases hlie with h1|h1
  ·exact hrow i (h1▸hi)
  ·rw [h1] at hi
   have:=Option.some.inj hi
   omega
 have ht:=Zi hg (S:=fun k'=>(Value.slice ka k kc).ownBlock=some k') (fun k hk=>hk)
 have hbl:∀b,b<W.heap.size→b≤cb→w9.heap[b]? = W.heap[b]?:=fun b h1 h2=>ht.block b h1 (fun e=>by have:=hrow b e;omega)
 have hput:=Z4 w9 cb 3 (.slice a' (k+1) c')
 have hbl2:∀b,b<W.heap.size→b<cb→(w9.setCell ⟨cb,3,none⟩ (.slice a' (k+1) c')).heap[b]? = W.heap[b]?:=fun b h1 h2=>(heap_setCell_other w9 ⟨cb,3,none⟩ b _ (by show b≠cb;omega)).trans (hbl b h1 (by omega))
 have hbase:w0.heap.size≤br:=h.e.res.rd.base
 have hlist:=(hrows.below hb).push h0.list.length (Zz hb hy) hown hg hlie
 refine⟨⟨⟨⟨h.e.res.rd.bytes,?_,h.e.res.rd.base,?_⟩,?_,h.e.res.lt,?_⟩,h.e.lt,?_,?_,?_⟩,h.lt,?_,?_,?_⟩
 ·exact(h.e.res.rd.below.trans (ht.below (B:=w0.heap.size) h.e.res.rd.below.size (fun i hi=>by have:=hrow i hi;omega))).setCell (show w0.heap.size≤cb by omega) _
 ·exact(hbl2 br h.e.res.rd.lt (by omega)).trans h.e.res.rd.blk
 ·refine Ze.trans (S:=fun k=>k=br∨w.heap.size≤k) h.e.res.turned (Ze.trans (b:=w9) (ht.mono (fun i hi=>.inr ?_)) (hput.mono (fun i hi=>.inr ?_)))
  ·have:=hrow i hi;omega
  ·omega
 ·exact(hbl2 _ h.e.res.size (by omega)).trans h.e.res.row
 ·exact(hbl2 _ h.e.size (by omega)).trans h.e.erow
 ·exact ZA hput (fun i h1 h2 h3=>by obtain⟨g1,g2⟩:=h2;omega) (ZA ht (fun i h1 h2 h3=>by obtain⟨g1,g2⟩:=h2;have:=hrow i h3;omega) h.e.ex)
 ·exact(h.e.top.turned ht (fun i h1 h2 h3 h4=>by have:=hrow i h4;omega)).turned hput (fun i h1 h2 h3 h4=>by omega)
 ·have h1:=(hbl cb hcb (Nat.le_refl _)).trans h.crow
  rw [hSs w9 cb 3 _ _ _ h1]
  rfl
 ·exact hlist.turned hput (fun i hi h3=>by have:=hrow' i hi;omega) (fun i h1 h2 h3=>by omega)
 ·intro z hz
  rcases List.mem_append.1 hz with hz|hz
  ·exact h.long z hz
  ·simp at hz;subst hz;exact hl
end
def Z4v {α : Type} (f:Nat→α×Nat):Nat→Nat→List α×Nat
 | 0,p=>([],p)
 | k+1,p=>((Z4v f k p).1++[(f (Z4v f k p).2).1],(f (Z4v f k p).2).2)
theorem Z5z {α : Type} {f:Nat→α×Nat} {k p q q':Nat} {ks:List α} {y:α} (h:Z4v f k p=(ks,q)) (hy:f q=(y,q')):Z4v f (k+1) p=(ks++[y],q'):=by rw [Z4v,h,hy]
def Z7K (bs:List Int) (n p:Nat):Z6×Nat:=
 let r:=Z0d bs [⟨#[97]⟩,⟨#[98]⟩,⟨#[120]⟩,⟨#[103,111]⟩] n p
 if 0<ZP bs 3 r.2 then (r.1,r.2+1)
 else
  let ks:=Z4v (Z0d bs [⟨#[97]⟩,⟨#[98]⟩] 2) (ZP bs 4 (r.2+2)).toNat (r.2+3)
  let c:Z6:=.mk 13 0 (ofF bs [⟨#[102]⟩,⟨#[103]⟩,⟨#[97]⟩] (r.2+1)) ks.1
  if ZP bs 2 ks.2=0 then (c,ks.2+1) else (.mk 3 0 ⟨#[]⟩ [r.1,c],ks.2+1)
theorem ZaZ {bs:List Int} {n p q2:Nat} {x:Z6} (h:Z0d bs [⟨#[97]⟩,⟨#[98]⟩,⟨#[120]⟩,⟨#[103,111]⟩] n p=(x,q2)) (hv:0<ZP bs 3 q2):Z7K bs n p=(x,q2+1):=by
 simp only [Z7K,h,if_pos hv]
theorem Za5 {bs:List Int} {n p q2 q N:Nat} {x:Z6} {nm:ByteArray} {ks:List Z6} (h:Z0d bs [⟨#[97]⟩,⟨#[98]⟩,⟨#[120]⟩,⟨#[103,111]⟩] n p=(x,q2)) (hv:¬0<ZP bs 3 q2) (hn:ofF bs [⟨#[102]⟩,⟨#[103]⟩,⟨#[97]⟩] (q2+1)=nm) (hN:ZP bs 4 (q2+2)=(N:Int))
  (hk:Z4v (Z0d bs [⟨#[97]⟩,⟨#[98]⟩] 2) N (q2+3)=(ks,q)):Z7K bs n p=if ZP bs 2 q=0 then (.mk 13 0 nm ks,q+1) else (.mk 3 0 ⟨#[]⟩ [x,.mk 13 0 nm ks],q+1):=by
 simp only [Z7K,h,if_neg hv,hN,Int.toNat_natCast,hk,hn]
theorem Z52 (w0 w:World) (br:Nat) (a:Option Addr) (len cap:Nat) (bs:List Int) (hlen:len≤2000) (n:Nat) (hn:n≤100) (p:Nat) (hrd:Rd w0 w br a len cap bs p) (hp:p+Z1d n+1000≤1000000000) :
  Calls Tryz.prog 32 #[.pointer (some ⟨br,0,none⟩),.int .i64 (n:Int)] w fun e w'=>Z2x w0 w br a len cap bs p (Z1d n+100) (n+5) (Z7K bs n) e w':=by
 have HP:=hdd (aI hp hn)
 have HR:=hdd (Z0V.start hrd)
 clear hrd hp hn
 go_enter Tryz.func32,Tryz.ntmps32
 go_upto_region 1 with fail
 generalize w.alloc (.cells #[.int .i64 0,.int .i64 0,.string ⟨#[]⟩,.slice none 0 0] 64)=W1 at HR ⊢
 have HCALL:=hdd (Z2E w0 br a len cap bs hlen (some ⟨W1.heap.size,0,none⟩) 4 4 [⟨#[97]⟩,⟨#[98]⟩,⟨#[120]⟩,⟨#[103,111]⟩] (by decide) (by omega) n _ p HP.out.2 (HR.out.alloc (.cells ([(⟨#[97]⟩:ByteArray),⟨#[98]⟩,⟨#[120]⟩,⟨#[103,111]⟩].map Value.string).toArray 9)).rd (by have:=HP.out.1;omega) (Z2f.lit W1 _ HR.out.rd.lt))
 go_wp2_with fail
 refine HCALL.out.mono ?_
 rintro e w2 ⟨ecs,x,q2,rfl,hrd2,hq2,ht2,hx2,hl2,hT2,hF2⟩
 obtain⟨xa,xc,rfl⟩:=Zj hx2
 have hR2:=(HR.out.alloc (.cells ([(⟨#[97]⟩:ByteArray),⟨#[98]⟩,⟨#[120]⟩,⟨#[103,111]⟩].map Value.string).toArray 9)).step ht2 hrd2
 have HE:=hdd (show ESt w0 w br a len cap bs w2.heap.size (n+1) [.int .i64 x.op,.int .i64 x.n,.string x.name,.slice xa x.kids.length xc] x q2 (w2.alloc (.cells #[.int .i64 x.op,.int .i64 x.n,.string x.name,.slice xa x.kids.length xc] 64)) from
  ⟨hR2.alloc _,hR2.size,hAn w2 _,Zz ((bRf _ _).alloc (Nat.le_refl _) _) (Zh (fun k h1 h=>by have h2:=(HR.out.alloc (.cells ([(⟨#[97]⟩:ByteArray),⟨#[98]⟩,⟨#[120]⟩,⟨#[103,111]⟩].map Value.string).toArray 9)).size;exact⟨by omega,h1⟩) hx2),(hT2.wide (Nat.le_refl _) (by have h2:=(HR.out.alloc (.cells ([(⟨#[97]⟩:ByteArray),⟨#[98]⟩,⟨#[120]⟩,⟨#[103,111]⟩].map Value.string).toArray 9)).size;omega) (Nat.le_refl _)).below ((bRf _ _).alloc (Nat.le_refl _) _)⟩)
 have HQ2:=hdd (aI hq2 hl2)
 have HF2:=hdd hF2
 clear hrd2 hq2 ht2 hx2 hl2 hT2 hR2 HCALL hF2
 go_upto_region 2 with fail
 obtain⟨eb,heb⟩:∃b,b=w2.heap.size:=⟨_,rfl⟩
 rw [← heb] at HE ⊢
 generalize w2.alloc (.cells #[.int .i64 x.op,.int .i64 x.n,.string x.name,.slice xa x.kids.length xc] 64)=W3 at HE ⊢
 clear heb
 go_wp2_with fail
 refine(Z01 w0 _ br a len cap bs q2 3 HE.out.res.rd (by omega) hlen (by have:=HP.out.1;have:=HQ2.out.1;omega)).mono ?_
 rintro e w4 ⟨v,_,_,rfl,hrd4,hg4,hV4⟩
 have HE4:=hdd (HE.out.step (Zd.grown hg4) hrd4)
 clear hrd4 hg4 HE
 by_cases hv:0<v
 ·have e0:=coR _ _ 0 _ _ _ HE4.out.erow
  have e1:=coR _ _ 1 _ _ _ HE4.out.erow
  have e2:=coR _ _ 2 _ _ _ HE4.out.erow
  have e3:=coR _ _ 3 _ _ _ HE4.out.erow
  simp only [ga0,ga1,ga2] at e0 e1 e2 e3
  have c0:=HE4.out.res.c0
  have c1:=HE4.out.res.c1
  have c2:=HE4.out.res.c2
  have c3:=HE4.out.res.c3
  have f0:=HE4.out.res.f 0
  have f1:=HE4.out.res.f 1
  have f2:=HE4.out.res.f 2
  have f3:=HE4.out.res.f 3
  go_wp2
  refine bodyPost_ret (results_cell_row rfl _ _ w.heap.size 64 #[.int .i64 x.op,.int .i64 x.n,.string x.name,.slice xa x.kids.length xc] (0,0) _ rfl ?_ Tryz.underlying64 rfl (by kernel_rfl)) rfl ?_
  ·exact HE4.out.res.put (cs:=[.int .i64 x.op,.int .i64 x.n,.string x.name,.slice xa x.kids.length xc]) rfl
  have hdone:=HE4.out.res.done (p:=p) (P:=Z1d n+100) (Z0x (by omega:n+1≤n+5) (Zh (fun k _ h=>h.1) HE4.out.ex)) (by rw [Z0N HE4.out.ex (by omega)];exact HQ2.out.2) (by have:=HQ2.out.1;omega) (HE4.out.top.wide (by omega) (Nat.le_refl _) (Nat.le_of_lt HE4.out.size)) (F:=Z7K bs n) (ZaZ HF2.out (by rw [hV4];exact hv))
  rw [ZW] at hdone
  exact hdone
 have hv0:decide (0<v)=false:=decide_eq_false hv
 go_wp2_with fail
 refine(Z4u w0 _ br a len cap bs (q2+1) (some ⟨w4.heap.size,0,none⟩) 3 3 [⟨#[102]⟩,⟨#[103]⟩,⟨#[97]⟩] (HE4.out.alloc (.cells ([(⟨#[102]⟩:ByteArray),⟨#[103]⟩,⟨#[97]⟩].map Value.string).toArray 9)).res.rd (Z2f.lit w4 _ HE4.out.res.rd.lt) (by omega) hlen (by have:=HP.out.1;have:=HQ2.out.1;omega)).mono ?_
 rintro e w5 ⟨nm,hnm,rfl,hrd5,hg5,hF5⟩
 have HNM:=hdd (show nm.size≤maxLen by
  have:∀s∈[(⟨#[102]⟩:ByteArray),⟨#[103]⟩,⟨#[97]⟩],s.size≤maxLen:=by decide
  exact this nm hnm)
 have hE5:=(HE4.out.alloc (.cells ([(⟨#[102]⟩:ByteArray),⟨#[103]⟩,⟨#[97]⟩].map Value.string).toArray 9)).step (Zd.grown hg5) hrd5
 have HA:=hdd (show Z1n w0 w br a len cap bs eb w5.heap.size (n+1) [.int .i64 x.op,.int .i64 x.n,.string x.name,.slice xa x.kids.length xc] x nm (q2+1+1) none 0 0 [] (w5.alloc (.cells #[.int .i64 13,.int .i64 0,.string nm,.slice none 0 0] 64)) from
  ⟨hE5.alloc _,hE5.size,hAn w5 _,Z1c.nil _ _ _ _,by simp⟩)
 have HV4:=hdd (aI (show ¬0<ZP bs 3 q2 by rw [hV4];omega) hF5)
 clear hrd5 hg5 hnm hE5 HE4 hv0 hv hV4 hF5
 go_upto_region 5 with fail
 obtain⟨cb,hcb⟩:∃b,b=w5.heap.size:=⟨_,rfl⟩
 rw [← hcb] at HA ⊢
 generalize w5.alloc (.cells #[.int .i64 13,.int .i64 0,.string nm,.slice none 0 0] 64)=W6 at HA ⊢
 clear hcb
 go_wp2_with fail
 refine(Z01 w0 _ br a len cap bs (q2+1+1) 4 HA.out.e.res.rd (by omega) hlen (by have:=HP.out.1;have:=HQ2.out.1;omega)).mono ?_
 rintro e w7 ⟨v7,h70,h71,rfl,hrd7,hg7,hF7⟩
 obtain⟨N,rfl⟩:=Int.eq_ofNat_of_zero_le h70
 have HA7:=hdd (HA.out.step (Zd.grown hg7) hrd7)
 have HN3:=hdd (show N≤3 by omega)
 have HF7:=hdd (show ZP bs 4 (q2+2)=(N:Int) from hF7)
 clear hrd7 hg7 h70 h71 HA hF7
 go_wp2_with fail
 go_loopg [7] N (fun G i wr=>∃(ka:Option Addr) (k kc:Nat) (ks:List Z6) (q:Nat),k+G=N∧i=.int .i64 G∧Hid (Z1n w0 w br a len cap bs eb cb (n+1) [.int .i64 x.op,.int .i64 x.n,.string x.name,.slice xa x.kids.length xc] x nm q ka k kc ks wr∧q≤q2+3+28*k∧Z4v (Z0d bs [⟨#[97]⟩,⟨#[98]⟩] 2) k (q2+3)=(ks,q)))
 case atStart=>exact⟨none,0,0,[],_,by omega,rfl,hdd ⟨HA7.out,by omega,rfl⟩⟩
 case round=>
  obtain⟨ka,k,kc,ks,q,hk,rfl,HB⟩:=hrel
  clear HA7
  by_cases hlt:0<gk
  ·have hki:(0:Int)<(gk:Int):=by omega
   have HWR:=hdd (show wrap64 ((gk:Int)-1)=((gk-1:Nat):Int) by
    rw [show(gk:Int)-1=((gk-1:Nat):Int) by omega]
    exact IntWalk.wrap64_in _ (by have:=HN3.out;omega))
   go_upto_region 8 with fail
   have HL:=hdd (show ∀(W:World) (na:Option Addr),Z1n w0 w br a len cap bs eb cb (n+1) [.int .i64 x.op,.int .i64 x.n,.string x.name,.slice xa x.kids.length xc] x nm q ka k kc ks W→Z2f br W na 2 [⟨#[97]⟩,⟨#[98]⟩]→
     Calls Tryz.prog 55 #[.pointer (some ⟨br,0,none⟩),.slice na 2 2,.int .i64 2] W fun e W'=>∃y ja jc q',e=.returned (.agg #[.int .i64 y.op,.int .i64 y.n,.string y.name,.slice ja y.kids.length jc])∧Z1n w0 w br a len cap bs eb cb (n+1) [.int .i64 x.op,.int .i64 x.n,.string x.name,.slice xa x.kids.length xc] x nm q' ka k kc ks W'∧(q'≤q+28∧Z0d bs [⟨#[97]⟩,⟨#[98]⟩] 2 q=(y,q'))∧
      ZJ 3 (fun b=>cb<b∧¬(Value.slice ka k kc).ownBlock=some b) W' [.int .i64 y.op,.int .i64 y.n,.string y.name,.slice ja y.kids.length jc] y∧Z1z Z0k 3 y=false from fun W na hW hS=>by
    refine(Z2E w0 br a len cap bs hlen na 2 2 [⟨#[97]⟩,⟨#[98]⟩] (by decide) (by omega) 2 W q (by omega) hW.e.res.rd (by have:=HB.out.2.1;have:=HP.out.1;have:=HQ2.out.1;have:=HN3.out;show q+28≤_;omega) hS).mono ?_
    rintro e W' ⟨cs,y,q',rfl,hrd,hq,ht,hy,hl,-,hFy⟩
    obtain⟨ja,jc,rfl⟩:=Zj hy
    refine⟨y,ja,jc,q',rfl,hW.step ht hrd,⟨hq,hFy⟩,Zh (fun i h1 h2=>⟨by have:=hW.size;omega,fun e=>?_⟩) hy,hl⟩
    obtain⟨⟨cells,k1,_⟩,_⟩:=hW.list
    have:=(k1.lt i e).2
    omega)
   have HD:=hdd (fun (W:World) (h:Z1n w0 w br a len cap bs eb cb (n+1) [.int .i64 x.op,.int .i64 x.n,.string x.name,.slice xa x.kids.length xc] x nm q ka k kc ks W)=>h.kids)
   have k3:=HB.out.1.kids
   have k3a:=(HB.out.1.alloc (.cells #[.string ⟨#[97]⟩,.string ⟨#[98]⟩] 9)).kids
   go_region_law (first|(go_simp;go_at_call 55;refine(HL.out _ _ (by repeat (first|exact HB.out.1|apply Z1n.drew|apply Z1n.drewN|apply Z1n.alloc)) (by repeat (first|exact Z2f.lit _ [⟨#[97]⟩,⟨#[98]⟩] HB.out.1.e.res.rd.lt|apply Z2f.drewN 1))).mono ?_;rintro e w8 ⟨y,ja,jc,q8,rfl,hA8,hq8,hy8,hl8⟩;(have k38:=hA8.kids);(have i38:=(hA8.alloc (.cells #[.int .i64 y.op,.int .i64 y.n,.string y.name,.slice ja y.kids.length jc] 64)).kids);(obtain⟨cells,hrows⟩:=hA8.list.rows))|(refine Z21 rfl (.tmp 27) (.tmp 31) rfl (cb+1) _ k _ rfl (ZI hrows.1 (by repeat (first|exact bRf _ _|apply Zy|apply later_drewN|apply Zt))) _ 1 [.int .i64 y.op,.int .i64 y.n,.string y.name,.slice ja y.kids.length jc] rfl (by first|exact Zc _ _ _|exact Z0g.drew (Zc _ _ _)) rfl Z1T (by have:=HN3.out;omega) (Nat.le_trans hA8.size (Below.size (show Below w8.heap.size w8 _ from by repeat (first|exact bRf _ _|apply Zy|apply later_drewN|apply Zt)))) ?_;intro a9 c9 w9 hown9 hg9 hlies9;(have h9:=hA8.after hg9 (by repeat (first|exact bRf _ _|apply Zy|apply later_drewN|apply Zt)));(have s3:=coR _ _ 3 _ _ _ h9);(have t3:=frR _ _ 3 _ _ h9);(have hP9:=hA8.push hrows hy8 hl8 hown9 hg9 hlies9 (by repeat (first|exact bRf _ _|apply Zy|apply later_drewN|apply Zt)))))
   all_goals
    have HP9:=hdd (aI hP9 hq8)
    clear hA8 hq8 hy8 hl8 k38 i38 hrows hown9 hg9 hlies9 h9 s3 t3 hP9 k3 k3a
    generalize w9.setCell ⟨cb,3,none⟩ (.slice a9 (k+1) c9)=w10 at HP9 ⊢
    go_wp2
    go_roundg (gk-1)
    case measure=>omega
    case rel=>exact⟨_,k+1,_,_,_,by omega,by rw [HWR.out],hdd ⟨HP9.out.1,by have:=HP9.out.2.1;have:=HB.out.2.1;omega,Z5z HB.out.2.2 HP9.out.2.2⟩⟩
  ·obtain rfl:gk=0:=by omega
   have HQ:=hdd (show q+1≤p+Z1d n+100∧k≤3 by have:=HB.out.2.1;have:=HN3.out;have:=HQ2.out.1;omega)
   go_wp2_with fail
   refine(Z01 w0 _ br a len cap bs q 2 HB.out.1.e.res.rd (by omega) hlen (by have:=HP.out.1;have:=HQ.out;omega)).mono ?_
   rintro e w8 ⟨v8,_,_,rfl,hrd8,hg8,hF8⟩
   have HC:=hdd (HB.out.1.step (Zd.grown hg8) hrd8)
   have HKID:=hdd (show ZJ 4 (fun b=>w.heap.size<b) w8 [.int .i64 13,.int .i64 0,.string nm,.slice ka ks.length kc] (.mk 13 0 nm ks)∧Z1z Z0k 4 (.mk 13 0 nm ks)=false by
    have hl:=HC.out.list.list
    have hlen2:=HC.out.list.length
    have h1:=HC.out.lt
    have h2:=HC.out.e.lt
    refine⟨⟨ka,kc,rfl,⟨by show ks.length≤maxLen;have:=HQ.out.2;unfold maxLen;omega,(by decide:(-9223372036854775808:Int)≤13),(by decide:(13:Int)≤9223372036854775807)⟩,hl.mono (fun _ _ _ h=>Zh (fun i _ h3=>by rcases h3 with h3|h3<;>omega) h) (fun i _ h3=>by rcases h3 with h3|h3<;>omega)⟩,?_⟩
    show(decide (maxLen<nm.size)||ks.any (Z1z Z0k 3))=false
    rw [decide_eq_false (by have:=HNM.out;omega),Bool.false_or,List.any_eq_false]
    intro z hz
    rw [HC.out.long z hz];simp)
   have HKL:=hdd HC.out.list.length
   have HFA:=hdd (show Z7K bs n p=if ZP bs 2 q=0 then (.mk 13 0 nm ks,q+1) else (.mk 3 0 ⟨#[]⟩ [x,.mk 13 0 nm ks],q+1) from Za5 HF2.out (by have:=HV4.out.1;omega) HV4.out.2 HF7.out (by have h:=HB.out.2.2;rw [show N=k by omega];exact h))
   have HF8:=hdd hF8
   clear hrd8 hg8 hF8
   by_cases hv8:v8=0
   ·subst hv8
    obtain rfl:k=ks.length:=HKL.out.symm
    have d0:=coR _ _ 0 _ _ _ HC.out.crow
    have d1:=coR _ _ 1 _ _ _ HC.out.crow
    have d2:=coR _ _ 2 _ _ _ HC.out.crow
    have d3:=coR _ _ 3 _ _ _ HC.out.crow
    simp only [ga0,ga1,ga2] at d0 d1 d2 d3
    have c0:=HC.out.e.res.c0
    have c1:=HC.out.e.res.c1
    have c2:=HC.out.e.res.c2
    have c3:=HC.out.e.res.c3
    have f0:=HC.out.e.res.f 0
    have f1:=HC.out.e.res.f 1
    have f2:=HC.out.e.res.f 2
    have f3:=HC.out.e.res.f 3
    go_wp2
    refine bodyPost_ret (results_cell_row rfl _ _ w.heap.size 64 #[.int .i64 13,.int .i64 0,.string nm,.slice ka ks.length kc] (0,0) _ rfl ?_ Tryz.underlying64 rfl (by kernel_rfl)) rfl ?_
    ·exact HC.out.e.res.put (cs:=[.int .i64 13,.int .i64 0,.string nm,.slice ka ks.length kc]) rfl
    have hdone:=HC.out.e.res.done (p:=p) (P:=Z1d n+100) (Z0x (by omega:4≤n+5) HKID.out.1) (by rw [Z0N HKID.out.1 (by omega)];exact HKID.out.2) (by have:=HQ.out.1;omega) ((Z2U.of (HC.out.list.low (by have:=HC.out.lt;have:=HC.out.e.lt;omega:w.heap.size+1≤cb+1)) (fun k _ h=>by have:=HC.out.lt;have:=HC.out.e.lt;omega) (by have:=HQ.out.2;omega)).wide (by omega) (Nat.le_refl _) (Nat.le_refl _)) (F:=Z7K bs n) (by rw [HFA.out,if_pos HF8.out])
    rw [ZW] at hdone
    exact hdone
   ·have h80:(v8==0)=false:=by simpa using hv8
    have HV8:=hdd hv8
    obtain rfl:k=ks.length:=HKL.out.symm
    have d0:=coR _ _ 0 _ _ _ HC.out.crow
    have d1:=coR _ _ 1 _ _ _ HC.out.crow
    have d2:=coR _ _ 2 _ _ _ HC.out.crow
    have d3:=coR _ _ 3 _ _ _ HC.out.crow
    simp only [ga0,ga1,ga2] at d0 d1 d2 d3
    have e0:=coR _ _ 0 _ _ _ HC.out.e.erow
    have e1:=coR _ _ 1 _ _ _ HC.out.e.erow
    have e2:=coR _ _ 2 _ _ _ HC.out.e.erow
    have e3:=coR _ _ 3 _ _ _ HC.out.e.erow
    simp only [ga0,ga1,ga2] at e0 e1 e2 e3
    have HR9:=hdd (HC.out.e.res.alloc (.cells #[.int .i64 x.op,.int .i64 x.n,.string x.name,.slice xa x.kids.length xc,.int .i64 13,.int .i64 0,.string nm,.slice ka ks.length kc] 64))
    have HX9:=hdd (show ZJ (n+5) (fun k=>w.heap.size<k) (w8.alloc (.cells #[.int .i64 x.op,.int .i64 x.n,.string x.name,.slice xa x.kids.length xc,.int .i64 13,.int .i64 0,.string nm,.slice ka ks.length kc] 64)) [.int .i64 3,.int .i64 0,.string ⟨#[]⟩,.slice (some ⟨w8.heap.size,0,none⟩) 2 2] (.mk 3 0 ⟨#[]⟩ [x,.mk 13 0 nm ks])∧Z1z Z0k (n+5) (.mk 3 0 ⟨#[]⟩ [x,.mk 13 0 nm ks])=false∧Z2U (n+5) (w.heap.size+1) (w8.alloc (.cells #[.int .i64 x.op,.int .i64 x.n,.string x.name,.slice xa x.kids.length xc,.int .i64 13,.int .i64 0,.string nm,.slice ka ks.length kc] 64)).heap.size (w8.alloc (.cells #[.int .i64 x.op,.int .i64 x.n,.string x.name,.slice xa x.kids.length xc,.int .i64 13,.int .i64 0,.string nm,.slice ka ks.length kc] 64)) [.int .i64 3,.int .i64 0,.string ⟨#[]⟩,.slice (some ⟨w8.heap.size,0,none⟩) 2 2] (.mk 3 0 ⟨#[]⟩ [x,.mk 13 0 nm ks]) by
     have hba:Below w8.heap.size w8 (w8.alloc (.cells #[.int .i64 x.op,.int .i64 x.n,.string x.name,.slice xa x.kids.length xc,.int .i64 13,.int .i64 0,.string nm,.slice ka ks.length kc] 64)):=(bRf _ _).alloc (Nat.le_refl _) _
     refine⟨Zd7 (by omega) (c1:=[.int .i64 x.op,.int .i64 x.n,.string x.name,.slice xa x.kids.length xc]) (hAn w8 _) (by have:=HC.out.size;have:=HC.out.lt;have:=HC.out.e.lt;omega) (Zz hba (Z0x (by omega:n+1≤n+4) (Zh (fun k _ h=>h.1) HC.out.e.ex))) (Zz hba (Z0x (by omega:4≤n+4) HKID.out.1)),Z6C (by rw [Z0N HC.out.e.ex (by omega)];exact HQ2.out.2) (by rw [Z0N HKID.out.1 (by omega)];exact HKID.out.2),(Z2U.two (c1:=[.int .i64 x.op,.int .i64 x.n,.string x.name,.slice xa x.kids.length xc]) (by have:=HC.out.size;have:=HC.out.lt;have:=HC.out.e.lt;omega) (Z0x (by omega:n+1≤n+4) (Zh (fun k _ h=>by have:=h.1;omega) HC.out.e.ex)) (Z0x (by omega:4≤n+4) (Zh (fun k _ h=>by omega) HKID.out.1))).wide (by omega) (Nat.le_refl _) (Nat.le_refl _)⟩)
    have c0:=HR9.out.c0
    have c1:=HR9.out.c1
    have c2:=HR9.out.c2
    have c3:=HR9.out.c3
    have f0:=HR9.out.f 0
    have f1:=HR9.out.f 1
    have f2:=HR9.out.f 2
    have f3:=HR9.out.f 3
    go_wp2
    refine bodyPost_ret (results_cell_row rfl _ _ w.heap.size 64 #[.int .i64 3,.int .i64 0,.string ⟨#[]⟩,.slice (some ⟨w8.heap.size,0,none⟩) 2 2] (0,0) _ rfl ?_ Tryz.underlying64 rfl (by kernel_rfl)) rfl ?_
    ·exact HR9.out.put (cs:=[.int .i64 3,.int .i64 0,.string ⟨#[]⟩,.slice (some ⟨w8.heap.size,0,none⟩) 2 2]) rfl
    have hdone:=HR9.out.done (p:=p) (P:=Z1d n+100) (HX9.out.1) (HX9.out.2.1) (by have:=HQ.out.1;omega) (HX9.out.2.2) (F:=Z7K bs n) (by rw [HFA.out,if_neg (by rw [HF8.out];exact HV8.out)])
    rw [ZW] at hdone
    exact hdone
structure FSt (w0 w:World) (br:Nat) (a:Option Addr) (len cap:Nat) (bs:List Int) (eb d:Nat) (cs:List Value) (x:Z6) (p:Nat) (wr:World):Prop where
 res:Z0V w0 w br a len cap bs p wr
 erow:wr.heap[eb]? = some (.cells cs.toArray 64 (0,0))
 ex:ZJ d (fun b=>w.heap.size<b) wr cs x
 long:Z1z Z0k d x=false
 top:Z2U d (w.heap.size+1) wr.heap.size wr cs x
theorem Z9z {d:Nat} {S:Nat→Prop} {w:World} {a:Option Addr} {c:Nat} {x:Z6} (h:ZJ d S w [.int .i64 x.op,.int .i64 x.n,.string x.name,.slice a x.kids.length c] x) {op n:Int} {s:ByteArray} (hop:-9223372036854775808≤op∧op≤9223372036854775807) :
  ZJ d S w [.int .i64 op,.int .i64 n,.string s,.slice a x.kids.length c] (.mk op n s x.kids):=by
 cases d with
 | zero=>exact h.elim
 | succ d=>
  obtain⟨a',c',h1,h2,h3⟩:=h
  simp only [List.cons.injEq,Value.slice.injEq,and_true,true_and] at h1
  obtain⟨rfl,rfl⟩:=h1
  exact⟨a,c,rfl,⟨h2.1,hop⟩,h3⟩
theorem Zbm {d:Nat} {S:Nat→Prop} {w:World} {cs:List Value} {x:Z6} (h:ZJ d S w cs x):-9223372036854775808≤x.op∧x.op≤9223372036854775807:=by
 cases d with
 | zero=>exact h.elim
 | succ d=>obtain⟨_,_,_,h2,_⟩:=h;exact h2.2
theorem Zar {d lo hi:Nat} {w:World} {a:Option Addr} {c:Nat} {x:Z6} (h:Z2U d lo hi w [.int .i64 x.op,.int .i64 x.n,.string x.name,.slice a x.kids.length c] x) {op n:Int} {s:ByteArray} :
  Z2U d lo hi w [.int .i64 op,.int .i64 n,.string s,.slice a x.kids.length c] (.mk op n s x.kids):=by
 obtain⟨a',c',h1,h2,h3⟩:=h
 simp only [List.cons.injEq,Value.slice.injEq,and_true,true_and] at h1
 obtain⟨rfl,rfl⟩:=h1
 exact⟨a,c,rfl,h2,h3⟩
theorem Za0 {d:Nat} {x:Z6} {op n:Int} {s:ByteArray} (hs:s.size≤maxLen) (h:Z1z Z0k d x=false):Z1z Z0k d (.mk op n s x.kids)=false:=by
 cases d with
 | zero=>rfl
 | succ d=>
  obtain⟨h1,h2⟩:=Z4h h
  show(decide (maxLen<s.size)||x.kids.any (Z1z Z0k d))=false
  rw [decide_eq_false (by omega),Bool.false_or,List.any_eq_false]
  intro k hk
  rw [h2 k hk];simp
theorem Zau {d:Nat} {S:Nat→Prop} {w:World} {cs:List Value} {x:Z6} (hx:ZJ d S w cs x) (h:Z1z Z0k d x=false):x.name.size≤maxLen:=by
 cases d with
 | zero=>exact hx.elim
 | succ d=>
  have h1:decide (maxLen<x.name.size)=false:=(Z4h h).1
  simpa using h1
section
variable {w0 w wr w':World} {br:Nat} {a:Option Addr} {len cap:Nat} {bs:List Int} {eb d:Nat} {x:Z6} {p q:Nat} {xa:Option Addr} {xc:Nat}
theorem Z0V.setE (h:Z0V w0 w br a len cap bs p wr) (hlt:w.heap.size<eb) (i:Nat) (v:Value):Z0V w0 w br a len cap bs p (wr.setCell ⟨eb,i,none⟩ v):=by
 have hb:=h.lt
 have hbase:=h.rd.base
 refine⟨⟨h.rd.bytes,h.rd.below.setCell (show w0.heap.size≤eb by omega) _,h.rd.base,(heap_setCell_other _ _ _ _ (by show br≠eb;omega)).trans h.rd.blk⟩,?_,h.lt,(heap_setCell_other _ _ _ _ (by show w.heap.size≠eb;omega)).trans h.row⟩
 exact Ze.trans (S:=fun k=>k=br∨w.heap.size≤k) h.turned ((Z4 wr eb i v).mono (fun k hk=>.inr (by omega)))
theorem ESt.head (h:ESt w0 w br a len cap bs eb d [.int .i64 x.op,.int .i64 x.n,.string x.name,.slice xa x.kids.length xc] x p wr) (hL:Z1z Z0k d x=false) {op n:Int} {s:ByteArray} (hop:-9223372036854775808≤op∧op≤9223372036854775807) (hs:s.size≤maxLen) (i:Nat) (v:Value)
  (he:(#[.int .i64 x.op,.int .i64 x.n,.string x.name,.slice xa x.kids.length xc]:Array Value).setIfInBounds i v=[.int .i64 op,.int .i64 n,.string s,.slice xa x.kids.length xc].toArray) :
  FSt w0 w br a len cap bs eb d [.int .i64 op,.int .i64 n,.string s,.slice xa x.kids.length xc] (.mk op n s x.kids) p (wr.setCell ⟨eb,i,none⟩ v):=by
 have hsz:(wr.setCell ⟨eb,i,none⟩ v).heap.size=wr.heap.size:=World.size_setCell _ _ _
 refine⟨h.res.setE h.lt i v,?_,?_,Za0 hs hL,?_⟩
 ·rw [hSs wr eb i _ _ _ h.erow,← he]
 ·exact ZA (Z4 wr eb i v) (fun k _ h1 h2=>by obtain⟨g1,g2⟩:=h1;omega) (Z9z h.ex hop) |> Zh (fun k _ h1=>h1.1)
 ·rw [hsz]
  exact((Zar h.top).turned (Z4 wr eb i v) (fun k _ h1 h2 h3=>by omega)).wide (Nat.le_refl _) (Nat.le_refl _) (Nat.le_of_lt h.size)
theorem ESt.fst {cs:List Value} (h:ESt w0 w br a len cap bs eb d cs x p wr) (hL:Z1z Z0k d x=false):FSt w0 w br a len cap bs eb d cs x p wr:=
 ⟨h.res,h.erow,Zh (fun k _ h1=>h1.1) h.ex,hL,h.top.wide (Nat.le_refl _) (Nat.le_refl _) (Nat.le_of_lt h.size)⟩
theorem ESt.drewN {cs:List Value} (n:Nat) (h:ESt w0 w br a len cap bs eb d cs x p wr):ESt w0 w br a len cap bs eb d cs x p (wr.drewN n):=h.later (below_drewN (bRf _ _) n)
theorem ESt.drew {cs:List Value} (h:ESt w0 w br a len cap bs eb d cs x p wr):ESt w0 w br a len cap bs eb d cs x p wr.drew:=h.drewN 1
theorem ESt.put {cs cs':List Value} {y:Z6} (h:ESt w0 w br a len cap bs eb d cs x p wr) (hl:cs.length=4) (hx:ZJ d (fun b=>eb<b) wr cs' y) (hL:Z1z Z0k d y=false) (hT:Z2U d (eb+1) wr.heap.size wr cs' y):FSt w0 w br a len cap bs eb d cs' y p (wr.setCells eb 0 cs'):=by
 have ht:=ZB (g:=eb) cs' wr 0
 have hsz:=Z1E (g:=eb) cs' wr 0
 have hb:=h.res.lt
 have hlt:=h.lt
 have hbase:=h.res.rd.base
 have hl':=Z0L hx
 refine⟨⟨⟨h.res.rd.bytes,?_,h.res.rd.base,?_⟩,?_,h.res.lt,?_⟩,?_,?_,hL,?_⟩
 ·exact h.res.rd.below.trans (ht.below (B:=w0.heap.size) h.res.rd.below.size (fun k hk=>by omega))
 ·rw [Z0o (by omega)];exact h.res.rd.blk
 ·exact Ze.trans (S:=fun k=>k=br∨w.heap.size≤k) h.res.turned (ht.mono (fun k hk=>.inr (by omega)))
 ·rw [Z0o (by omega)];exact h.res.row
 ·have:=ZF (A:=[]) (B:=cs) (C:=[]) (vs:=cs') (o:=0) rfl (by omega) (by simpa using h.erow)
  simpa using this
 ·exact Zh (fun k _ h1=>by omega) (ZA ht (fun k _ h1 h2=>by omega) hx)
 ·rw [hsz]
  exact(hT.turned ht (fun k _ h1 _ h3=>by omega)).wide (Nat.le_refl _) (by omega) (Nat.le_refl _)
theorem ESt.push {W w9:World} {cl:List Value} {y:Z6} {a':Option Addr} {c':Nat} {cells:List (List Value)} (h0:ESt w0 w br a len cap bs eb (d+1) [.int .i64 x.op,.int .i64 x.n,.string x.name,.slice xa x.kids.length xc] x p wr) (hrows:Z6f d (fun b=>w.heap.size+1≤b∧b≠eb) (w.heap.size+1) wr xa x.kids.length xc x.kids cells) (hne:∀k,(Value.slice xa x.kids.length xc).ownBlock=some k→k<eb)
  (hy:ZJ d (fun b=>eb<b) wr cl y) (hop:-9223372036854775808≤x.op∧x.op≤9223372036854775807) (hL:Z1z Z0k (d+1) x=false) (hl:Z1z Z0k d y=false) (hlen:x.kids.length=x.kids.length) (hm:x.kids.length≤d*10+10) (hm2:d*10+11≤maxLen)
  (hown:w9.ownsRow (w.heap.size+1) 64 4 (.slice a' (x.kids.length+1) c') (x.kids.length+1) (cells.flatten++cl)) (hg:W.grownBy w9 (Value.slice xa x.kids.length xc).ownBlock)
  (hlie:(Value.slice a' (x.kids.length+1) c').ownBlock=(Value.slice xa x.kids.length xc).ownBlock∨(Value.slice a' (x.kids.length+1) c').ownBlock=some W.heap.size) (hb:Below wr.heap.size wr W) :
  FSt w0 w br a len cap bs eb (d+1) [.int .i64 x.op,.int .i64 x.n,.string x.name,.slice a' (x.kids.length+1) c'] (.mk x.op x.n x.name (x.kids++[y])) p (w9.setCell ⟨eb,3,none⟩ (.slice a' (x.kids.length+1) c')):=by
 have h:=h0.later hb
 have hbr:=h.res.lt
 have hlt:=h.lt
 have hes:=h.size
 have hes0:=h0.size
 have hrow:∀i,(Value.slice xa x.kids.length xc).ownBlock=some i→w.heap.size<i∧i≠eb:=fun i hi=>by
  have:=hrows.1.lt i hi
  have:=hne i hi
  omega
 have hrow':∀i,(Value.slice a' (x.kids.length+1) c').ownBlock=some i→w.heap.size<i∧i≠eb:=fun i hi=>by
  rcases hlie with h1|h1
  ·exact hrow i (h1▸hi)
  ·rw [h1] at hi
   have:=Option.some.inj hi
   omega
 have ht:=Zi hg (S:=fun k'=>(Value.slice xa x.kids.length xc).ownBlock=some k') (fun k hk=>hk)
 have hput:=Z4 w9 eb 3 (.slice a' (x.kids.length+1) c')
 have hbl:∀b,b<W.heap.size→(b≤w.heap.size∨b=eb)→w9.heap[b]? = W.heap[b]?:=fun b h1 h2=>ht.block b h1 (fun e=>by have:=hrow b e;omega)
 have hbl2:∀b,b<W.heap.size→b≤w.heap.size→(w9.setCell ⟨eb,3,none⟩ (.slice a' (x.kids.length+1) c')).heap[b]? = W.heap[b]?:=fun b h1 h2=>(heap_setCell_other w9 ⟨eb,3,none⟩ b _ (by show b≠eb;omega)).trans (hbl b h1 (.inl h2))
 have hbase:w0.heap.size≤br:=h.res.rd.base
 have hlist:=((hrows.below hb).push rfl (Zh (fun k hk h1=>⟨⟨by omega,by omega⟩,fun e=>by have:=hne k e;omega⟩) (Zz hb hy)) hown hg hlie).turned hput (fun i hi h3=>by have:=hrow' i hi;omega) (fun i h1 h2 h3=>by omega)
 have hl2:(x.kids++[y]).length=x.kids.length+1:=by simp
 have hlp:=hlist.list
 have hlist2:Z1c d (fun b=>w.heap.size+1≤b∧b≠eb) (w.heap.size+1) (w9.setCell ⟨eb,3,none⟩ (.slice a' (x.kids.length+1) c')) a' (x.kids++[y]).length c' (x.kids++[y]):=by rw [hl2];exact hlist
 have htop:=Z2U.of (op:=x.op) (n:=x.n) (s:=x.name) (hlist2.wide (Nat.le_succ d) (fun _ _ h=>h)) (fun k _ h1=>h1.1) (by rw [hl2];omega)
 rw [hl2] at htop
 refine⟨⟨⟨h.res.rd.bytes,?_,h.res.rd.base,?_⟩,?_,h.res.lt,?_⟩,?_,?_,?_,htop⟩
 ·exact(h.res.rd.below.trans (ht.below (B:=w0.heap.size) h.res.rd.below.size (fun i hi=>by have:=hrow i hi;omega))).setCell (show w0.heap.size≤eb by omega) _
 ·exact(hbl2 br h.res.rd.lt (by omega)).trans h.res.rd.blk
 ·refine Ze.trans (S:=fun k=>k=br∨w.heap.size≤k) h.res.turned (Ze.trans (b:=w9) (ht.mono (fun i hi=>.inr ?_)) (hput.mono (fun i hi=>.inr ?_)))
  ·have:=hrow i hi;omega
  ·omega
 ·exact(hbl2 _ h.res.size (Nat.le_refl _)).trans h.res.row
 ·have h1:=(hbl eb hes (.inr rfl)).trans h.erow
  rw [hSs w9 eb 3 _ _ _ h1]
  rfl
 ·refine⟨a',c',by show _=[_,_,_,Value.slice a' (x.kids++[y]).length c'];rw [hl2];rfl,⟨by show(x.kids++[y]).length≤maxLen;rw [hl2];exact Nat.le_trans (by omega:x.kids.length+1≤d*10+11) hm2,hop⟩,hlp.mono (fun _ _ _ h=>Zh (fun i _ h3=>h3.elim (fun h=>h.1) id) h) (fun i _ h3=>h3.elim (fun h=>h.1) id)⟩
 ·obtain⟨g1,g2⟩:=Z4h hL
  show(Z0k x||(x.kids++[y]).any (Z1z Z0k d))=false
  rw [g1,Bool.false_or,List.any_eq_false]
  intro z hz
  rcases List.mem_append.1 hz with hz|hz
  ·rw [g2 z hz];simp
  ·simp at hz;subst hz;rw [hl];simp
theorem ESt.wide {cs:List Value} {d':Nat} (h:ESt w0 w br a len cap bs eb d cs x p wr) (hd:d≤d'):ESt w0 w br a len cap bs eb d' cs x p wr:=⟨h.res,h.lt,h.erow,Z0x hd h.ex,h.top.wide hd (Nat.le_refl _) (Nat.le_refl _)⟩
theorem FSt.wide {cs:List Value} {d':Nat} (h:FSt w0 w br a len cap bs eb d cs x p wr) (hd:d≤d'):FSt w0 w br a len cap bs eb d' cs x p wr:=⟨h.res,h.erow,Z0x hd h.ex,by rw [Z0N h.ex hd];exact h.long,h.top.wide hd (Nat.le_refl _) (Nat.le_refl _)⟩
theorem ESt.kids (h:ESt w0 w br a len cap bs eb d [.int .i64 x.op,.int .i64 x.n,.string x.name,.slice xa x.kids.length xc] x p wr):wr.cell? ⟨eb,3,none⟩=some (.slice xa x.kids.length xc):=coR _ _ 3 _ _ _ h.erow
theorem ESt.rows (h:ESt w0 w br a len cap bs eb d [.int .i64 x.op,.int .i64 x.n,.string x.name,.slice xa x.kids.length xc] x p wr):(∃cells,Z6f d (fun b=>w.heap.size+1≤b∧b≠eb) (w.heap.size+1) wr xa x.kids.length xc x.kids cells)∧(∀k,(Value.slice xa x.kids.length xc).ownBlock=some k→k<eb)∧x.kids.length≤d*10+10:=by
 obtain⟨a',c',h1,h2,h3⟩:=h.top
 simp only [List.cons.injEq,Value.slice.injEq,and_true,true_and] at h1
 obtain⟨rfl,rfl⟩:=h1
 exact⟨(h2.wide (Nat.le_refl _) (fun k _ h=>⟨h.1,by omega⟩)).rows,h3.1,h3.2⟩
theorem ESt.after {W w9:World} (h:ESt w0 w br a len cap bs eb d [.int .i64 x.op,.int .i64 x.n,.string x.name,.slice xa x.kids.length xc] x p wr) (hg:W.grownBy w9 (Value.slice xa x.kids.length xc).ownBlock) (hb:Below wr.heap.size wr W):w9.heap[eb]? = some (.cells #[.int .i64 x.op,.int .i64 x.n,.string x.name,.slice xa x.kids.length xc] 64 (0,0)):=by
 have hW:=h.later hb
 refine(hg.block eb hW.size (fun e=>?_)).trans hW.erow
 have:=h.rows.2.1 eb e.symm
 omega
end
def Z6X (bs:List Int) (v:Int) (x:Z6) (q:Nat):Z6×Nat:=
  if v=0 then (.mk x.op (Z2Y bs [-1,256,3] (q+1)) x.name x.kids,q+2)
  else if v=1 then (.mk x.op x.n (ofF bs [(⟨#[]⟩:ByteArray),⟨#[100,111]⟩,⟨#[65]⟩,⟨#[97,98,99,100,101]⟩,⟨#[113]⟩] (q+1)) x.kids,q+2)
  else if v=2 then (.mk (Z2Y bs [0,14,-1,5,11] (q+1)) x.n x.name x.kids,q+2)
  else if v=3 then (.mk x.op x.n x.name (x.kids++[(Z4R bs [] (q+1)).1]),(Z4R bs [] (q+1)).2)
  else if v=4 then Z7K bs 7 (q+1)
  else (x,q+1)
def Z2S (bs:List Int) (p:Nat):Z6×Nat:=Z6X bs (ZP bs 20 (Z7K bs 4 p).2) (Z7K bs 4 p).1 (Z7K bs 4 p).2
theorem Zan {bs:List Int} {p q:Nat} {x:Z6} {v:Int} (h:Z7K bs 4 p=(x,q)) (hv:ZP bs 20 q=v):Z2S bs p=Z6X bs v x q:=by
 simp only [Z2S,h,hv]
theorem Z9F (w0 w:World) (br:Nat) (a:Option Addr) (len cap:Nat) (bs:List Int) (hlen:len≤2000) (p:Nat) (hrd:Rd w0 w br a len cap bs p) (hp:p≤100000000) :
  Calls Tryz.prog 31 #[.pointer (some ⟨br,0,none⟩)] w fun e w'=>Z2x w0 w br a len cap bs p 2000 12 (Z2S bs) e w':=by
 have HP:=hdd hp
 have HR:=hdd (Z0V.start hrd)
 clear hrd hp
 go_enter Tryz.func31,Tryz.ntmps31
 go_upto_region 1 with fail
 generalize w.alloc (.cells #[.int .i64 0,.int .i64 0,.string ⟨#[]⟩,.slice none 0 0] 64)=W1 at HR ⊢
 have HC4:=hdd (show Z1d 4=124 from rfl)
 have HC7:=hdd (show Z1d 7=1020 from rfl)
 have HCALL:=hdd (Z52 w0 _ br a len cap bs hlen 4 (by omega) p HR.out.rd (by have:=HP.out;have:=HC4.out;omega))
 go_wp2_with fail
 refine HCALL.out.mono ?_
 rintro e w2 ⟨ecs,x,q2,rfl,hrd2,hq2,ht2,hx2,hl2,hT2,hF2⟩
 obtain⟨xa,xc,rfl⟩:=Zj hx2
 have hR2:=HR.out.step ht2 hrd2
 have HE:=hdd (show ESt w0 w br a len cap bs w2.heap.size 11 [.int .i64 x.op,.int .i64 x.n,.string x.name,.slice xa x.kids.length xc] x q2 (w2.alloc (.cells #[.int .i64 x.op,.int .i64 x.n,.string x.name,.slice xa x.kids.length xc] 64)) from
  ESt.wide (d:=9) ⟨hR2.alloc _,hR2.size,hAn w2 _,Zz ((bRf _ _).alloc (Nat.le_refl _) _) (Zh (fun k h1 h=>by have h2:=HR.out.size;exact⟨by omega,h1⟩) hx2),(hT2.wide (Nat.le_refl _) (by have h2:=HR.out.size;omega) (Nat.le_refl _)).below ((bRf _ _).alloc (Nat.le_refl _) _)⟩ (by omega))
 have HL:=hdd (show Z1z Z0k 11 x=false by rw [Z0N hx2 (by omega)];exact hl2)
 have HQ2:=hdd (show q2≤p+224 by have:=HC4.out;omega)
 have HF2:=hdd hF2
 clear hrd2 hq2 ht2 hx2 hl2 hR2 hT2 HCALL hF2
 go_upto_region 2 with fail
 obtain⟨eb,heb⟩:∃b,b=w2.heap.size:=⟨_,rfl⟩
 rw [← heb] at HE ⊢
 generalize w2.alloc (.cells #[.int .i64 x.op,.int .i64 x.n,.string x.name,.slice xa x.kids.length xc] 64)=W3 at HE ⊢
 clear heb HR
 go_wp2_with fail
 refine(Z01 w0 _ br a len cap bs q2 20 HE.out.res.rd (by omega) hlen (by have:=HP.out;have:=HQ2.out;omega)).mono ?_
 rintro e w4 ⟨v,_,_,rfl,hrd4,hg4,hV4⟩
 have HE4:=hdd (HE.out.step (Zd.grown hg4) hrd4)
 have HFB:=hdd (Zan HF2.out hV4)
 clear hrd4 hg4 HE hV4
 have HNA:=hdd (aI (Zbm HE4.out.ex) (Zau HE4.out.ex HL.out))
 by_cases h0:v=0
 ·subst h0
  go_wp2_with fail
  refine(Z1e w0 _ br a len cap bs (q2+1) w4.heap.size 3 3 [-1,256,3] (HE4.out.alloc _).res.rd (Z7w w4 [-1,256,3]) (by have:=HE4.out.res.rd.lt;omega) (by omega) hlen (by have:=HP.out;have:=HQ2.out;omega)).mono ?_
  rintro e w5 ⟨u,-,rfl,hrd5,hg5,hF5⟩
  have HE5:=hdd ((HE4.out.alloc (.cells ([-1,256,3].map (Value.int .i64)).toArray 3)).step (Zd.grown hg5) hrd5)
  have HF:=hdd ((HE5.out.head HL.out (n:=u) HNA.out.1 HNA.out.2 1 (.int .i64 u) rfl).wide (by omega:11≤12))
  have HQ:=hdd (show q2+1+1≤p+2000 by have:=HQ2.out;omega)
  clear hrd5 hg5
  have k1:=coR _ _ 1 _ _ _ HE5.out.erow
  simp only [ga0,ga1,ga2] at k1
  have g1:=frR _ _ 1 _ _ HE5.out.erow
  go_upto_region 13 with fail
  clear k1 g1
  generalize w5.setCell ⟨eb,1,none⟩ (.int .i64 u)=W6 at HF ⊢
  have e0:=coR _ _ 0 _ _ _ HF.out.erow
  have e1:=coR _ _ 1 _ _ _ HF.out.erow
  have e2:=coR _ _ 2 _ _ _ HF.out.erow
  have e3:=coR _ _ 3 _ _ _ HF.out.erow
  simp only [ga0,ga1,ga2] at e0 e1 e2 e3
  have c0:=HF.out.res.c0
  have c1:=HF.out.res.c1
  have c2:=HF.out.res.c2
  have c3:=HF.out.res.c3
  have f0:=HF.out.res.f 0
  have f1:=HF.out.res.f 1
  have f2:=HF.out.res.f 2
  have f3:=HF.out.res.f 3
  go_wp2
  refine bodyPost_ret (results_cell_row rfl _ _ w.heap.size 64 #[.int .i64 x.op,.int .i64 u,.string x.name,.slice xa x.kids.length xc] (0,0) _ rfl ?_ Tryz.underlying64 rfl (by kernel_rfl)) rfl ?_
  ·exact HF.out.res.put (cs:=[.int .i64 x.op,.int .i64 u,.string x.name,.slice xa x.kids.length xc]) rfl
  have hdone:=HF.out.res.done (p:=p) (P:=2000) HF.out.ex HF.out.long (by have:=HQ.out;omega) HF.out.top (F:=Z2S bs) (by rw [HFB.out,Z6X];simp [hF5])
  rw [ZW] at hdone
  exact hdone
 have e00:(v==0)=false:=by simpa using h0
 by_cases h1:v=1
 ·subst h1
  clear h0
  go_wp2_with fail
  refine(Z4u w0 _ br a len cap bs (q2+1) (some ⟨w4.heap.size,0,none⟩) 5 5 [(⟨#[]⟩:ByteArray),⟨#[100,111]⟩,⟨#[65]⟩,⟨#[97,98,99,100,101]⟩,⟨#[113]⟩] (HE4.out.alloc (.cells ([(⟨#[]⟩:ByteArray),⟨#[100,111]⟩,⟨#[65]⟩,⟨#[97,98,99,100,101]⟩,⟨#[113]⟩].map Value.string).toArray 9)).res.rd (Z2f.lit w4 _ HE4.out.res.rd.lt) (by omega) hlen (by have:=HP.out;have:=HQ2.out;omega)).mono ?_
  rintro e w5 ⟨nm,hnm,rfl,hrd5,hg5,hF5⟩
  have HNM:=hdd (show nm.size≤maxLen by
   have:∀s∈[(⟨#[]⟩:ByteArray),⟨#[100,111]⟩,⟨#[65]⟩,⟨#[97,98,99,100,101]⟩,⟨#[113]⟩],s.size≤maxLen:=by decide
   exact this nm hnm)
  have HE5:=hdd ((HE4.out.alloc (.cells ([(⟨#[]⟩:ByteArray),⟨#[100,111]⟩,⟨#[65]⟩,⟨#[97,98,99,100,101]⟩,⟨#[113]⟩].map Value.string).toArray 9)).step (Zd.grown hg5) hrd5)
  have HF:=hdd ((HE5.out.head HL.out (s:=nm) HNA.out.1 HNM.out 2 (.string nm) rfl).wide (by omega:11≤12))
  have HQ:=hdd (show q2+1+1≤p+2000 by have:=HQ2.out;omega)
  clear hrd5 hg5 hnm
  have k1:=coR _ _ 2 _ _ _ HE5.out.erow
  simp only [ga0,ga1,ga2] at k1
  have g1:=frR _ _ 2 _ _ HE5.out.erow
  go_upto_region 13 with fail
  clear k1 g1
  generalize w5.setCell ⟨eb,2,none⟩ (.string nm)=W6 at HF ⊢
  have e0:=coR _ _ 0 _ _ _ HF.out.erow
  have e1:=coR _ _ 1 _ _ _ HF.out.erow
  have e2:=coR _ _ 2 _ _ _ HF.out.erow
  have e3:=coR _ _ 3 _ _ _ HF.out.erow
  simp only [ga0,ga1,ga2] at e0 e1 e2 e3
  have c0:=HF.out.res.c0
  have c1:=HF.out.res.c1
  have c2:=HF.out.res.c2
  have c3:=HF.out.res.c3
  have f0:=HF.out.res.f 0
  have f1:=HF.out.res.f 1
  have f2:=HF.out.res.f 2
  have f3:=HF.out.res.f 3
  go_wp2
  refine bodyPost_ret (results_cell_row rfl _ _ w.heap.size 64 #[.int .i64 x.op,.int .i64 x.n,.string nm,.slice xa x.kids.length xc] (0,0) _ rfl ?_ Tryz.underlying64 rfl (by kernel_rfl)) rfl ?_
  ·exact HF.out.res.put (cs:=[.int .i64 x.op,.int .i64 x.n,.string nm,.slice xa x.kids.length xc]) rfl
  have hdone:=HF.out.res.done (p:=p) (P:=2000) HF.out.ex HF.out.long (by have:=HQ.out;omega) HF.out.top (F:=Z2S bs) (by rw [HFB.out,Z6X];simp [hF5])
  rw [ZW] at hdone
  exact hdone
 have e01:(v==1)=false:=by simpa using h1
 by_cases h2:v=2
 ·subst h2
  clear h0 h1
  go_wp2_with fail
  refine(Z1e w0 _ br a len cap bs (q2+1) w4.heap.size 5 5 [0,14,-1,5,11] (HE4.out.alloc _).res.rd (Z7w w4 [0,14,-1,5,11]) (by have:=HE4.out.res.rd.lt;omega) (by omega) hlen (by have:=HP.out;have:=HQ2.out;omega)).mono ?_
  rintro e w5 ⟨u,hu,rfl,hrd5,hg5,hF5⟩
  have HE5:=hdd ((HE4.out.alloc (.cells ([0,14,-1,5,11].map (Value.int .i64)).toArray 3)).step (Zd.grown hg5) hrd5)
  have HF:=hdd ((HE5.out.head HL.out (op:=u) (by simp at hu;omega) HNA.out.2 0 (.int .i64 u) rfl).wide (by omega:11≤12))
  have HQ:=hdd (show q2+1+1≤p+2000 by have:=HQ2.out;omega)
  clear hrd5 hg5 hu
  have k1:=coR _ _ 0 _ _ _ HE5.out.erow
  simp only [ga0,ga1] at k1
  have g1:=frR _ _ 0 _ _ HE5.out.erow
  go_upto_region 13 with fail
  clear k1 g1
  generalize w5.setCell ⟨eb,0,none⟩ (.int .i64 u)=W6 at HF ⊢
  have e0:=coR _ _ 0 _ _ _ HF.out.erow
  have e1:=coR _ _ 1 _ _ _ HF.out.erow
  have e2:=coR _ _ 2 _ _ _ HF.out.erow
  have e3:=coR _ _ 3 _ _ _ HF.out.erow
  simp only [ga0,ga1,ga2] at e0 e1 e2 e3
  have c0:=HF.out.res.c0
  have c1:=HF.out.res.c1
  have c2:=HF.out.res.c2
  have c3:=HF.out.res.c3
  have f0:=HF.out.res.f 0
  have f1:=HF.out.res.f 1
  have f2:=HF.out.res.f 2
  have f3:=HF.out.res.f 3
  go_wp2
  refine bodyPost_ret (results_cell_row rfl _ _ w.heap.size 64 #[.int .i64 u,.int .i64 x.n,.string x.name,.slice xa x.kids.length xc] (0,0) _ rfl ?_ Tryz.underlying64 rfl (by kernel_rfl)) rfl ?_
  ·exact HF.out.res.put (cs:=[.int .i64 u,.int .i64 x.n,.string x.name,.slice xa x.kids.length xc]) rfl
  have hdone:=HF.out.res.done (p:=p) (P:=2000) HF.out.ex HF.out.long (by have:=HQ.out;omega) HF.out.top (F:=Z2S bs) (by rw [HFB.out,Z6X];simp [hF5])
  rw [ZW] at hdone
  exact hdone
 have e02:(v==2)=false:=by simpa using h2
 by_cases h3:v=3
 ·subst h3
  clear h0 h1 h2
  have HLF:=hdd (show ∀(W:World),ESt w0 w br a len cap bs eb 11 [.int .i64 x.op,.int .i64 x.n,.string x.name,.slice xa x.kids.length xc] x (q2+1) W→
    Calls Tryz.prog 54 #[.pointer (some ⟨br,0,none⟩),.slice none 0 0] W fun e W'=>∃y ja jc q',e=.returned (.agg #[.int .i64 y.op,.int .i64 y.n,.string y.name,.slice ja y.kids.length jc])∧ESt w0 w br a len cap bs eb 11 [.int .i64 x.op,.int .i64 x.n,.string x.name,.slice xa x.kids.length xc] x q' W'∧(q'≤q2+1+3∧Z4R bs [] (q2+1)=(y,q'))∧
     ZJ 11 (fun b=>eb<b) W' [.int .i64 y.op,.int .i64 y.n,.string y.name,.slice ja y.kids.length jc] y∧Z1z Z0k 11 y=false from fun W hW=>by
   refine(Z4f w0 W br a len cap bs (q2+1) none 0 0 [] hW.res.rd hlen (by have:=HP.out;have:=HQ2.out;omega) ⟨⟨rfl,.inl rfl⟩,fun h=>absurd rfl h⟩ (by simp) (by omega)).mono ?_
   rintro e W' ⟨cs,y,q',rfl,hrd,hq,ht,hy,hl,-,hFy⟩
   obtain⟨ja,jc,rfl⟩:=Zj hy
   exact⟨y,ja,jc,q',rfl,hW.step ht hrd,⟨hq,hFy⟩,Z0x (by omega) (Zh (fun i _ h2=>by have:=hW.size;omega) hy),by rw [Z0N hy (by omega)];exact hl⟩)
  have HL12:=hdd (show Z1z Z0k (11+1) x=false by rw [Z0N HE4.out.ex (by omega)];exact HL.out)
  have HK12:=hdd HE4.out.rows.2.2
  have k3:=HE4.out.kids
  go_upto_region 10 with fail
  go_region_law (first|(go_simp;go_at_call 54;refine(HLF.out _ (by repeat (first|exact HE4.out|apply ESt.drew|apply ESt.drewN|apply ESt.alloc))).mono ?_;rintro e w8 ⟨y,ja,jc,q8,rfl,hA8,hq8,hy8,hl8⟩;(have k38:=hA8.kids);(have i38:=(hA8.alloc (.cells #[.int .i64 y.op,.int .i64 y.n,.string y.name,.slice ja y.kids.length jc] 64)).kids);(obtain⟨⟨cells,hrows⟩,hne,-⟩:=hA8.rows))|(refine Z21 rfl (.tmp 29) (.tmp 32) rfl (w.heap.size+1) _ x.kids.length _ rfl (ZI hrows.1 (by repeat (first|exact bRf _ _|apply Zy|apply later_drewN|apply Zt))) _ 1 [.int .i64 y.op,.int .i64 y.n,.string y.name,.slice ja y.kids.length jc] rfl (by first|exact Zc _ _ _|exact Z0g.drew (Zc _ _ _)) rfl Z1T (by have:=HK12.out;omega) (Nat.le_trans hA8.res.size (Below.size (show Below w8.heap.size w8 _ from by repeat (first|exact bRf _ _|apply Zy|apply later_drewN|apply Zt)))) ?_;intro a9 c9 w9 hown9 hg9 hlies9;(have h9:=hA8.after hg9 (by repeat (first|exact bRf _ _|apply Zy|apply later_drewN|apply Zt)));(have s3:=coR _ _ 3 _ _ _ h9);(have t3:=frR _ _ 3 _ _ h9);(have hP9:=ESt.push (hA8.wide (by omega:11≤11+1)) hrows hne hy8 HNA.out.1 HL12.out hl8 rfl HK12.out (by decide) hown9 hg9 hlies9 (by repeat (first|exact bRf _ _|apply Zy|apply later_drewN|apply Zt)))))
  all_goals
   have HF:=hdd hP9
   have HQ:=hdd (show q8≤p+2000 by have:=HQ2.out;have:=hq8.1;omega)
   have HF8:=hdd hq8.2
   clear hA8 hq8 hy8 hl8 k38 i38 hrows hne hown9 hg9 hlies9 h9 s3 t3 hP9 k3
   go_upto_region 13 with fail
   generalize w9.setCell ⟨eb,3,none⟩ (.slice a9 (x.kids.length+1) c9)=W6 at HF ⊢
   have e0:=coR _ _ 0 _ _ _ HF.out.erow
   have e1:=coR _ _ 1 _ _ _ HF.out.erow
   have e2:=coR _ _ 2 _ _ _ HF.out.erow
   have e3:=coR _ _ 3 _ _ _ HF.out.erow
   simp only [ga0,ga1,ga2] at e0 e1 e2 e3
   have c0:=HF.out.res.c0
   have c1:=HF.out.res.c1
   have c2:=HF.out.res.c2
   have c3:=HF.out.res.c3
   have f0:=HF.out.res.f 0
   have f1:=HF.out.res.f 1
   have f2:=HF.out.res.f 2
   have f3:=HF.out.res.f 3
   go_wp2
   refine bodyPost_ret (results_cell_row rfl _ _ w.heap.size 64 #[.int .i64 x.op,.int .i64 x.n,.string x.name,.slice a9 (x.kids.length+1) c9] (0,0) _ rfl ?_ Tryz.underlying64 rfl (by kernel_rfl)) rfl ?_
   ·exact HF.out.res.put (cs:=[.int .i64 x.op,.int .i64 x.n,.string x.name,.slice a9 (x.kids.length+1) c9]) rfl
   have hdone:=HF.out.res.done (p:=p) (P:=2000) HF.out.ex HF.out.long (by have:=HQ.out;omega) HF.out.top (F:=Z2S bs) (by rw [HFB.out,Z6X];simp [HF8.out])
   rw [ZW] at hdone
   exact hdone
 have e03:(v==3)=false:=by simpa using h3
 by_cases h4:v=4
 ·subst h4
  clear h0 h1 h2 h3
  have HCALL:=hdd (Z52 w0 _ br a len cap bs hlen 7 (by omega) (q2+1) HE4.out.res.rd (by have:=HP.out;have:=HC7.out;have:=HQ2.out;omega))
  go_wp2_with fail
  refine HCALL.out.mono ?_
  rintro e w5 ⟨ycs,y,q5,rfl,hrd5,hq5,ht5,hy5,hl5,hT5,hF5⟩
  obtain⟨ya,yc,rfl⟩:=Zj hy5
  have HE5:=hdd (HE4.out.step ht5 hrd5)
  have HF:=hdd ((HE5.out.wide (by omega:11≤12)).put (cs':=[.int .i64 y.op,.int .i64 y.n,.string y.name,.slice ya y.kids.length yc]) rfl (Zh (fun k _ h=>by have:=HE4.out.size;omega) hy5) hl5 (hT5.wide (Nat.le_refl _) (by have:=HE4.out.size;omega) (Nat.le_refl _)))
  have HQ:=hdd (show q5≤p+2000 by have:=HQ2.out;have:=HC7.out;omega)
  have HF5:=hdd hF5
  clear hrd5 hq5 ht5 hy5 hl5 hT5 HCALL hF5
  have k0:=coR _ _ 0 _ _ _ HE5.out.erow
  have k1:=coR _ _ 1 _ _ _ HE5.out.erow
  have k2:=coR _ _ 2 _ _ _ HE5.out.erow
  have k3:=coR _ _ 3 _ _ _ HE5.out.erow
  simp only [ga0,ga1,ga2] at k0 k1 k2 k3
  have g0:=frR _ _ 0 _ _ HE5.out.erow
  have g1:=frR _ _ 1 _ _ HE5.out.erow
  have g2:=frR _ _ 2 _ _ HE5.out.erow
  have g3:=frR _ _ 3 _ _ HE5.out.erow
  rw [ZW] at HF
  go_upto_region 13 with fail
  clear k0 k1 k2 k3 g0 g1 g2 g3
  generalize (((w5.setCell ⟨eb,0,none⟩ (.int .i64 y.op)).setCell ⟨eb,1,none⟩ (.int .i64 y.n)).setCell ⟨eb,2,none⟩ (.string y.name)).setCell ⟨eb,3,none⟩ (.slice ya y.kids.length yc)=W6 at HF ⊢
  have e0:=coR _ _ 0 _ _ _ HF.out.erow
  have e1:=coR _ _ 1 _ _ _ HF.out.erow
  have e2:=coR _ _ 2 _ _ _ HF.out.erow
  have e3:=coR _ _ 3 _ _ _ HF.out.erow
  simp only [ga0,ga1,ga2] at e0 e1 e2 e3
  have c0:=HF.out.res.c0
  have c1:=HF.out.res.c1
  have c2:=HF.out.res.c2
  have c3:=HF.out.res.c3
  have f0:=HF.out.res.f 0
  have f1:=HF.out.res.f 1
  have f2:=HF.out.res.f 2
  have f3:=HF.out.res.f 3
  go_wp2
  refine bodyPost_ret (results_cell_row rfl _ _ w.heap.size 64 #[.int .i64 y.op,.int .i64 y.n,.string y.name,.slice ya y.kids.length yc] (0,0) _ rfl ?_ Tryz.underlying64 rfl (by kernel_rfl)) rfl ?_
  ·exact HF.out.res.put (cs:=[.int .i64 y.op,.int .i64 y.n,.string y.name,.slice ya y.kids.length yc]) rfl
  have hdone:=HF.out.res.done (p:=p) (P:=2000) HF.out.ex HF.out.long (by have:=HQ.out;omega) HF.out.top (F:=Z2S bs) (by rw [HFB.out,Z6X];simp [HF5.out])
  rw [ZW] at hdone
  exact hdone
 have e04:(v==4)=false:=by simpa using h4
 have HFL:=hdd (show Z2S bs p=(x,q2+1) by rw [HFB.out,Z6X,if_neg h0,if_neg h1,if_neg h2,if_neg h3,if_neg h4])
 clear h0 h1 h2 h3 h4
 have HF:=hdd (HE4.out.fst HL.out |>.wide (by omega:11≤12))
 have HQ:=hdd (show q2+1≤p+2000 by have:=HQ2.out;omega)
 go_upto_region 13 with fail
 have e0:=coR _ _ 0 _ _ _ HF.out.erow
 have e1:=coR _ _ 1 _ _ _ HF.out.erow
 have e2:=coR _ _ 2 _ _ _ HF.out.erow
 have e3:=coR _ _ 3 _ _ _ HF.out.erow
 simp only [ga0,ga1,ga2] at e0 e1 e2 e3
 have c0:=HF.out.res.c0
 have c1:=HF.out.res.c1
 have c2:=HF.out.res.c2
 have c3:=HF.out.res.c3
 have f0:=HF.out.res.f 0
 have f1:=HF.out.res.f 1
 have f2:=HF.out.res.f 2
 have f3:=HF.out.res.f 3
 go_wp2
 refine bodyPost_ret (results_cell_row rfl _ _ w.heap.size 64 #[.int .i64 x.op,.int .i64 x.n,.string x.name,.slice xa x.kids.length xc] (0,0) _ rfl ?_ Tryz.underlying64 rfl (by kernel_rfl)) rfl ?_
 ·exact HF.out.res.put (cs:=[.int .i64 x.op,.int .i64 x.n,.string x.name,.slice xa x.kids.length xc]) rfl
 have hdone:=HF.out.res.done (p:=p) (P:=2000) HF.out.ex HF.out.long (by have:=HQ.out;omega) HF.out.top (F:=Z2S bs) (by rw [HFL.out])
 rw [ZW] at hdone
 exact hdone
end Go.Proofs.YtloooebabieeeaaGreatDoor
