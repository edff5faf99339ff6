/-
  The reference draws expressions: the reader's own block alone changes; leaves.
-/
import Derived.Test.YtloooebabieeeaaGreatDoorCp
import Derived.Test.YtloooebabieeeaaGreatDoorPe1
import Derived.Test.YtloooebabieeeaaGreatDoorRd
import Derived.Test.YtloooebabieeeaaGreatDoorFa
import Derived.Test.YtloooebabieeeaaGreatDoorEs3
set_option maxRecDepth 100000
set_option maxHeartbeats 16000000
set_option linter.unusedVariables false
namespace Go.Proofs.YtloooebabieeeaaGreatDoor
open Go.RowKit
def Zd (br:Nat) (w w':World):Prop:=Ze (fun k=>k=br∨w.heap.size≤k) w w'
theorem Zd.trans {br:Nat} {a b c:World} (h:Zd br a b) (k:Zd br b c):Zd br a c:=
 Ze.trans (S:=fun k=>k=br∨a.heap.size≤k) h (k.mono (fun i hi=>hi.imp id (fun h2=>Nat.le_trans h.size h2)))
theorem Zd.grown {br:Nat} {w w':World} (hg:w.grownBy w' (some br)):Zd br w w':=Zi hg (fun k hk=>by cases hk;exact .inl rfl)
theorem Zd.below {br:Nat} {w w':World} (hb:Below w.heap.size w w'):Zd br w w':=ZS hb (fun k h1 h2=>absurd h2 (by omega))
theorem Zd.alloc (br:Nat) (w:World) (o:Obj):Zd br w (w.alloc o):=Zd.below ((bRf _ _).alloc (Nat.le_refl _) _)
theorem Zd.block {br:Nat} {w w':World} (h:Zd br w w') {b:Nat} (hb:b<w.heap.size) (hne:b≠br):w'.heap[b]? = w.heap[b]?:=
 Ze.block (S:=fun k=>k=br∨w.heap.size≤k) h b hb (by rintro(h1|h1)<;>omega)
theorem Zd.expr {br b:Nat} {w w':World} (h:Zd br w w') (hb:br<b) {d:Nat} {cs:List Value} {x:Z6} (hx:ZJ d (fun k=>b<k) w cs x):ZJ d (fun k=>b<k) w' cs x:=
 ZA (T:=fun k=>k=br∨w.heap.size≤k) h (fun k h1 h2 h3=>by rcases h3 with h3|h3<;>omega) hx
theorem Rd.later' {w0 w w':World} {br:Nat} {a:Option Addr} {len cap:Nat} {bs:List Int} {p:Nat} (h:Rd w0 w br a len cap bs p) (hb:Below w.heap.size w w'):Rd w0 w' br a len cap bs p:=
 ⟨h.bytes,h.below.trans (hb.mono h.below.size),h.base,(hb.block br h.lt).trans h.blk⟩
theorem Zc (w:World) (cs:List Value) (t:TypeId):Z0g (w.alloc (.cells cs.toArray t)) (some ⟨w.heap.size,0,none⟩) cs:=
 .inr ⟨_,_,rfl,fun i v hv=>by
  rw [coR _ _ (0+i) _ _ _ (hAn w (.cells cs.toArray t))]
  simpa using hv⟩
theorem Z7w (w:World) (xs:List Int):Z2l (w.alloc (.cells (xs.map (Value.int .i64)).toArray 3)) (some ⟨w.heap.size,0,none⟩) xs.length xs:=
 ⟨by rfl,Zc w _ _⟩
structure Z2f (br:Nat) (w:World) (a:Option Addr) (n:Nat) (xs:List ByteArray):Prop where
 rd:Z6r w a n xs
 away:n≠0→∃b off,a=some ⟨b,off,none⟩∧b≠br∧b<w.heap.size
theorem Z2f.turn {br:Nat} {w w':World} {a:Option Addr} {n:Nat} {xs:List ByteArray} (h:Z2f br w a n xs) (ht:Zd br w w'):Z2f br w' a n xs:=by
 refine⟨⟨h.rd.length,?_⟩,fun hn=>by obtain⟨b,off,h1,h2,h3⟩:=h.away hn;exact⟨b,off,h1,h2,Nat.lt_of_lt_of_le h3 (Ze.size (S:=fun k=>k=br∨w.heap.size≤k) ht)⟩⟩
 by_cases hn:n=0
 ·have:=h.rd.length
  exact .inl (by rw [show xs=[] from List.length_eq_zero_iff.1 (by omega)];rfl)
 ·obtain⟨b,off,rfl,h2,h3⟩:=h.away hn
  rcases h.rd.row with h0|⟨b',off',he,h1⟩
  ·exact .inl h0
  ·cases he
   exact .inr ⟨b,off,rfl,fun i v hv=>(World.cell?_of_block (ht.block h3 h2)).trans (h1 i v hv)⟩
theorem Z2f.lit {br:Nat} (w:World) (xs:List ByteArray) (hbr:br<w.heap.size):Z2f br (w.alloc (.cells (xs.map Value.string).toArray 9)) (some ⟨w.heap.size,0,none⟩) xs.length xs:=
 ⟨⟨rfl,Zc w _ _⟩,fun _=>⟨_,_,rfl,by omega,by rw [World.size_alloc];omega⟩⟩
theorem Z4u (w0 w:World) (br:Nat) (a:Option Addr) (len cap:Nat) (bs:List Int) (p:Nat) (na:Option Addr) (n c:Nat) (ns:List ByteArray) (hrd:Rd w0 w br a len cap bs p) (hin:Z2f br w na n ns)
  (hn:1≤n) (hlen:len≤2000) (hp:p≤1099511627776) :
  Calls Tryz.prog 30 #[.pointer (some ⟨br,0,none⟩),.slice na n c] w fun e w'=>∃s∈ns,e=.returned (.string s)∧Rd w0 w' br a len cap bs (p+1)∧w.grownBy w' (some br)∧ofF bs ns p=s:=by
 go_enter Tryz.func30,Tryz.ntmps30
 go_wp2_with fail
 refine(Z01 w0 w br a len cap bs p n hrd (by omega) hlen hp).mono ?_
 rintro e w1 ⟨v,hv0,hv1,rfl,hrd1,hg1,hF⟩
 obtain⟨j,rfl⟩:=Int.eq_ofNat_of_zero_le hv0
 obtain⟨b,off,x,rfl,hx,hc⟩:=(hin.turn (Zd.grown hg1)).rd.place (show j<n by omega)
 have hjn:j<n:=by omega
 have HX:=hdd (aI hx (aI hrd1 hg1))
 have HF:=hdd (show ofF bs ns p=x from by rw [ofF,show(ns.length:Int)=n by have:=hin.rd.length;omega,hF];simp [List.getD,hx])
 clear hF
 clear hx hv0 hrd hin hrd1 hg1
 go_wp2
 go_ret
 exact⟨x,List.mem_of_getElem? HX.out.1,rfl,HX.out.2.1,HX.out.2.2,HF.out⟩
def Z4R (bs:List Int) (ns:List ByteArray) (p:Nat):Z6×Nat:=
 if ns.length=0 then (.mk 1 (Z2Y bs [0,1,2,3,5,7,15,16,100,255] p) ⟨#[]⟩ [],p+1)
 else if ZP bs 3 p=0 then (.mk 1 (Z2Y bs [0,1,2,3,5,7,15,16,100,255] (p+1)) ⟨#[]⟩ [],p+2)
 else (.mk 2 0 (ofF bs ns (p+1)) [],p+2)
def Z0d (bs:List Int) (ns:List ByteArray):Nat→Nat→Z6×Nat
 | 0,p=>Z4R bs ns p
 | m+1,p=>
  if m=0 then Z4R bs ns p
  else if ZP bs 4 p=0 then Z4R bs ns (p+1)
  else if ZP bs 7 (p+1)=0 then (.mk (Z2Y bs [11,12,11] (p+2)) 0 ⟨#[]⟩ [(Z0d bs ns m (p+3)).1],(Z0d bs ns m (p+3)).2)
  else (.mk (Z2Y bs [3,3,4,5,6,7,8,9,10] (p+2)) 0 ⟨#[]⟩ [(Z0d bs ns m (p+3)).1,(Z0d bs ns m (Z0d bs ns m (p+3)).2).1],(Z0d bs ns m (Z0d bs ns m (p+3)).2).2)
def Z2x (w0 w:World) (br:Nat) (a:Option Addr) (len cap:Nat) (bs:List Int) (p P d:Nat) (F:Nat→Z6×Nat) (e:Ending) (w':World):Prop:=
 ∃cs x q,e=.returned (.agg (List.toArray cs))∧Rd w0 w' br a len cap bs q∧q≤p+P∧Zd br w w'∧ZJ d (fun k=>w.heap.size≤k) w' cs x∧Z1z Z0k d x=false∧Z2U d w.heap.size w'.heap.size w' cs x∧F p=(x,q)
structure Z0V (w0 w:World) (br:Nat) (a:Option Addr) (len cap:Nat) (bs:List Int) (p:Nat) (wr:World):Prop where
 rd:Rd w0 wr br a len cap bs p
 turned:Zd br w wr
 lt:br<w.heap.size
 row:wr.heap[w.heap.size]? = some (.cells #[.int .i64 0,.int .i64 0,.string ⟨#[]⟩,.slice none 0 0] 64 (0,0))
section
variable {w0 w wr w':World} {br:Nat} {a:Option Addr} {len cap:Nat} {bs:List Int} {p q:Nat}
theorem Z0V.start (h:Rd w0 w br a len cap bs p):Z0V w0 w br a len cap bs p (w.alloc (.cells #[.int .i64 0,.int .i64 0,.string ⟨#[]⟩,.slice none 0 0] 64)):=
 ⟨h.alloc _,Zd.alloc _ _ _,h.lt,hAn w _⟩
theorem Z0V.size (h:Z0V w0 w br a len cap bs p wr):w.heap.size<wr.heap.size:=(gsI h.row).1
theorem Z0V.step (h:Z0V w0 w br a len cap bs p wr) (ht:Zd br wr w') (hr:Rd w0 w' br a len cap bs q):Z0V w0 w br a len cap bs q w':=
 ⟨hr,h.turned.trans ht,h.lt,(ht.block h.size (by have:=h.lt;omega)).trans h.row⟩
theorem Z0V.later (h:Z0V w0 w br a len cap bs p wr) (hb:Below wr.heap.size wr w'):Z0V w0 w br a len cap bs p w':=h.step (Zd.below hb) (h.rd.later' hb)
theorem Z0V.alloc (h:Z0V w0 w br a len cap bs p wr) (o:Obj):Z0V w0 w br a len cap bs p (wr.alloc o):=h.later ((bRf _ _).alloc (Nat.le_refl _) _)
theorem Z0V.c0 (h:Z0V w0 w br a len cap bs p wr):wr.cell? ⟨w.heap.size,0,none⟩=some (.int .i64 0):=coR _ _ 0 _ _ _ h.row
theorem Z0V.c1 (h:Z0V w0 w br a len cap bs p wr):wr.cell? ⟨w.heap.size,1,none⟩=some (.int .i64 0):=coR _ _ 1 _ _ _ h.row
theorem Z0V.c2 (h:Z0V w0 w br a len cap bs p wr):wr.cell? ⟨w.heap.size,2,none⟩=some (.string ⟨#[]⟩):=coR _ _ 2 _ _ _ h.row
theorem Z0V.c3 (h:Z0V w0 w br a len cap bs p wr):wr.cell? ⟨w.heap.size,3,none⟩=some (.slice none 0 0):=coR _ _ 3 _ _ _ h.row
theorem Z0V.f (h:Z0V w0 w br a len cap bs p wr) (i:Nat):wr.frozen? ⟨w.heap.size,i,none⟩=false:=frR _ _ i _ _ h.row
theorem Z0V.put (h:Z0V w0 w br a len cap bs q wr) {cs:List Value} (hl:cs.length=4):(wr.setCells w.heap.size 0 cs).heap[w.heap.size]? = some (.cells cs.toArray 64 (0,0)):=by
 have:=ZF (A:=[]) (B:=[.int .i64 0,.int .i64 0,.string ⟨#[]⟩,.slice none 0 0]) (C:=[]) (vs:=cs) (o:=0) rfl (by rw [hl];rfl) h.row
 simpa using this
theorem Z0V.done {P d:Nat} {F:Nat→Z6×Nat} (h:Z0V w0 w br a len cap bs q wr) {cs:List Value} {x:Z6} (hx:ZJ d (fun k=>w.heap.size<k) wr cs x) (hL:Z1z Z0k d x=false) (hq:q≤p+P) (hT:Z2U d (w.heap.size+1) wr.heap.size wr cs x) (hF:F p=(x,q)) :
  Z2x w0 w br a len cap bs p P d F (.returned (.agg cs.toArray)) (wr.setCells w.heap.size 0 cs):=by
 have ht:=ZB (g:=w.heap.size) cs wr 0
 have hsz:=Z1E (g:=w.heap.size) cs wr 0
 refine⟨cs,x,q,rfl,⟨h.rd.bytes,?_,h.rd.base,?_⟩,hq,?_,?_,hL,?_,hF⟩
 ·exact h.rd.below.trans (ht.below (B:=w0.heap.size) h.rd.below.size (fun k hk=>by have:=h.rd.base;have:=h.lt;omega))
 ·rw [Z0o (by have:=h.lt;omega)];exact h.rd.blk
 ·exact Ze.trans (S:=fun k=>k=br∨w.heap.size≤k) h.turned (ht.mono (fun k hk=>.inr (by omega)))
 ·exact Zh (fun k _ h1=>by omega) (ZA ht (fun k _ h1 h2=>by omega) hx)
 ·rw [hsz]
  exact(hT.turned ht (fun k _ h1 _ h3=>by omega)).wide (Nat.le_refl _) (by omega) (Nat.le_refl _)
end
theorem Z57 (d:Nat) (op n:Int) (s:ByteArray) (hs:s.size≤maxLen):Z1z Z0k (d+1) (.mk op n s [])=false:=by
 show(decide (maxLen<s.size)||false)=false
 rw [decide_eq_false (by omega)]
 rfl
theorem Z4f (w0 w:World) (br:Nat) (a:Option Addr) (len cap:Nat) (bs:List Int) (p:Nat) (na:Option Addr) (nn nc:Nat) (ns:List ByteArray) (hrd:Rd w0 w br a len cap bs p) (hlen:len≤2000) (hp:p≤1000000000) (hns:Z2f br w na nn ns) (hsz:∀s∈ns,s.size≤maxLen) (hnn:nn≤3000000) :
  Calls Tryz.prog 54 #[.pointer (some ⟨br,0,none⟩),.slice na nn nc] w fun e w'=>Z2x w0 w br a len cap bs p 3 1 (Z4R bs ns) e w':=by
 have HR:=hdd (Z0V.start hrd)
 have HNL:=hdd hns.rd.length
 have HN:=hdd (aI (hns.turn (Zd.alloc br w (.cells #[.int .i64 0,.int .i64 0,.string ⟨#[]⟩,.slice none 0 0] 64))) hsz)
 clear hrd hns hsz
 go_enter Tryz.func54,Tryz.ntmps54
 go_upto_region 1 with fail
 generalize w.alloc (.cells #[.int .i64 0,.int .i64 0,.string ⟨#[]⟩,.slice none 0 0] 64)=W1 at HR HN ⊢
 by_cases h0:nn=0
 ·subst h0
  go_wp2_with fail
  refine(Z1e w0 _ br a len cap bs p W1.heap.size 10 10 [0,1,2,3,5,7,15,16,100,255] (HR.out.rd.alloc _) (Z7w W1 [0,1,2,3,5,7,15,16,100,255]) (by have:=HR.out.rd.lt;omega) (by omega) hlen (by omega)).mono ?_
  rintro e w3 ⟨n,-,rfl,hrd3,hg3,hF3⟩
  have HR3:=hdd ((HR.out.alloc (.cells ([0,1,2,3,5,7,15,16,100,255].map (Value.int .i64)).toArray 3)).step (Zd.grown hg3) hrd3)
  clear hrd3 hg3
  have c0:=HR3.out.c0
  have c1:=HR3.out.c1
  have c2:=HR3.out.c2
  have c3:=HR3.out.c3
  have f0:=HR3.out.f 0
  have f1:=HR3.out.f 1
  have f2:=HR3.out.f 2
  have f3:=HR3.out.f 3
  go_wp2
  refine bodyPost_ret (results_cell_row rfl _ _ w.heap.size 64 #[.int .i64 1,.int .i64 n,.string ⟨#[]⟩,.slice none 0 0] (0,0) _ rfl ?_ Tryz.underlying64 rfl (by kernel_rfl)) rfl ?_
  ·exact HR3.out.put (cs:=[.int .i64 1,.int .i64 n,.string ⟨#[]⟩,.slice none 0 0]) rfl
  exact HR3.out.done (Z88 1 n ⟨#[]⟩ (by decide) 0) (Z57 0 1 n ⟨#[]⟩ (by decide)) (by omega) (Z2U.leaf _ _ _ _ _ _ _) (by rw [Z4R,if_pos HNL.out,hF3])
 ·have h1:((nn:Int)==0)=false:=by simp;omega
  go_wp2_with fail
  refine(Z01 w0 _ br a len cap bs p 3 HR.out.rd (by omega) hlen (by omega)).mono ?_
  rintro e w2 ⟨v,_,_,rfl,hrd2,hg2,hF2⟩
  have HR2:=hdd (HR.out.step (Zd.grown hg2) hrd2)
  have HN2:=hdd (HN.out.1.turn (Zd.grown hg2))
  clear hrd2 hg2 h1
  by_cases hv:v=0
  ·subst hv
   go_wp2_with fail
   refine(Z1e w0 _ br a len cap bs (p+1) w2.heap.size 10 10 [0,1,2,3,5,7,15,16,100,255] (HR2.out.rd.alloc _) (Z7w w2 [0,1,2,3,5,7,15,16,100,255]) (by have:=HR2.out.rd.lt;omega) (by omega) hlen (by omega)).mono ?_
   rintro e w3 ⟨n,-,rfl,hrd3,hg3,hF3⟩
   have HR3:=hdd ((HR2.out.alloc (.cells ([0,1,2,3,5,7,15,16,100,255].map (Value.int .i64)).toArray 3)).step (Zd.grown hg3) hrd3)
   clear hrd3 hg3
   have c0:=HR3.out.c0
   have c1:=HR3.out.c1
   have c2:=HR3.out.c2
   have c3:=HR3.out.c3
   have f0:=HR3.out.f 0
   have f1:=HR3.out.f 1
   have f2:=HR3.out.f 2
   have f3:=HR3.out.f 3
   go_wp2
   refine bodyPost_ret (results_cell_row rfl _ _ w.heap.size 64 #[.int .i64 1,.int .i64 n,.string ⟨#[]⟩,.slice none 0 0] (0,0) _ rfl ?_ Tryz.underlying64 rfl (by kernel_rfl)) rfl ?_
   ·exact HR3.out.put (cs:=[.int .i64 1,.int .i64 n,.string ⟨#[]⟩,.slice none 0 0]) rfl
   exact HR3.out.done (Z88 1 n ⟨#[]⟩ (by decide) 0) (Z57 0 1 n ⟨#[]⟩ (by decide)) (by omega) (Z2U.leaf _ _ _ _ _ _ _) (by rw [Z4R,if_neg (by have:=HNL.out;omega),if_pos hF2,hF3])
  ·have hv0:(v==0)=false:=by simpa using hv
   go_wp2_with fail
   refine(Z4u w0 _ br a len cap bs (p+1) na nn nc ns HR2.out.rd HN2.out (by omega) hlen (by omega)).mono ?_
   rintro e w3 ⟨s,hs,rfl,hrd3,hg3,hF3⟩
   have HS:=hdd hs
   have HR3:=hdd (HR2.out.step (Zd.grown hg3) hrd3)
   have HV:=hdd (show ¬ZP bs 3 p=0 by rw [hF2];exact hv)
   clear hrd3 hg3 hs hv0 hv
   have c0:=HR3.out.c0
   have c1:=HR3.out.c1
   have c2:=HR3.out.c2
   have c3:=HR3.out.c3
   have f0:=HR3.out.f 0
   have f1:=HR3.out.f 1
   have f2:=HR3.out.f 2
   have f3:=HR3.out.f 3
   go_wp2
   refine bodyPost_ret (results_cell_row rfl _ _ w.heap.size 64 #[.int .i64 2,.int .i64 0,.string s,.slice none 0 0] (0,0) _ rfl ?_ Tryz.underlying64 rfl (by kernel_rfl)) rfl ?_
   ·exact HR3.out.put (cs:=[.int .i64 2,.int .i64 0,.string s,.slice none 0 0]) rfl
   exact HR3.out.done (Z88 2 0 s (by decide) 0) (Z57 0 2 0 s (HN.out.2 s HS.out)) (by omega) (Z2U.leaf _ _ _ _ _ _ _) (by rw [Z4R,if_neg (by have:=HNL.out;omega),if_neg HV.out,hF3])
theorem ZW (w:World) (g:Nat) (v0 v1 v2 v3:Value):w.setCells g 0 [v0,v1,v2,v3]=(((w.setCell ⟨g,0,none⟩ v0).setCell ⟨g,1,none⟩ v1).setCell ⟨g,2,none⟩ v2).setCell ⟨g,3,none⟩ v3:=rfl
def Z1d:Nat→Nat
 | 0=>4
 | n+1=>2*Z1d n+4
theorem Z6j (n:Nat):4≤Z1d n:=by
 cases n with
 | zero=>exact Nat.le_refl _
 | succ n=>rw [Z1d];omega
theorem Z0N {p:Z6→Bool}:∀{d d':Nat} {S:Nat→Prop} {w:World} {cs:List Value} {x:Z6},ZJ d S w cs x→d≤d'→Z1z p d' x=Z1z p d x
 | 0,_,_,_,_,_,h,_=>h.elim
 | d+1,0,_,_,_,_,_,h=>absurd h (by omega)
 | d+1,d'+1,S,w,cs,x,⟨a,c,_,_,h3⟩,h=>by
  have hk:∀k∈x.kids,Z1z p d' k=Z1z p d k:=fun k hk=>by
   obtain⟨_,cells,_,h6,_,h8⟩:=h3.rd
   obtain⟨i,hi⟩:=List.getElem?_of_mem hk
   have hl:=(List.getElem?_eq_some_iff.1 hi).1
   exact Z0N (h8 i _ k (List.getElem?_eq_getElem (show i<cells.length by omega)) hi) (by omega)
  show(p x||x.kids.any (Z1z p d'))=(p x||x.kids.any (Z1z p d))
  congr 1
  rw [Bool.eq_iff_iff,List.any_eq_true,List.any_eq_true]
  exact⟨fun ⟨k,h1,h2⟩=>⟨k,h1,by rw [← hk k h1];exact h2⟩,fun ⟨k,h1,h2⟩=>⟨k,h1,by rw [hk k h1];exact h2⟩⟩
theorem Zat {S:Nat→Prop} {w:World} {cs:List Value} {x:Z6} {n:Nat} (h:ZJ 1 S w cs x):Z1z Z0k (n+1) x=Z1z Z0k 1 x:=Z0N h (by omega)
theorem Z6C {d:Nat} {op:Int} {a b:Z6} (h1:Z1z Z0k d a=false) (h2:Z1z Z0k d b=false):Z1z Z0k (d+1) (.mk op 0 ⟨#[]⟩ [a,b])=false:=by
 show(decide (maxLen<(⟨#[]⟩:ByteArray).size)||(Z1z Z0k d a||(Z1z Z0k d b||false)))=false
 rw [h1,h2,decide_eq_false (by decide)]
 rfl
theorem ZbH {d:Nat} {op:Int} {a:Z6} (h1:Z1z Z0k d a=false):Z1z Z0k (d+1) (.mk op 0 ⟨#[]⟩ [a])=false:=by
 show(decide (maxLen<(⟨#[]⟩:ByteArray).size)||(Z1z Z0k d a||false))=false
 rw [h1,decide_eq_false (by decide)]
 rfl
theorem Zd7 {S:Nat→Prop} {w:World} {kb c:Nat} {c1 c2:List Value} {x1 x2:Z6} {t:TypeId} {d:Nat} {op:Int} (hop:0≤op∧op≤13) (h:w.heap[kb]? = some (.cells (c1++c2).toArray t (0,0))) (hS:S kb) (h1:ZJ d S w c1 x1) (h2:ZJ d S w c2 x2) :
  ZJ (d+1) S w [.int .i64 op,.int .i64 0,.string ⟨#[]⟩,.slice (some ⟨kb,0,none⟩) 2 c] (.mk op 0 ⟨#[]⟩ [x1,x2]):=
 ⟨_,c,rfl,⟨by show(2:Nat)≤maxLen;decide,Z8W hop⟩,ZcI h (Z0L h1) (Z0L h2) h1 h2,fun _=>⟨kb,0,rfl,hS,(gsI h).1⟩⟩
theorem Zdc {S:Nat→Prop} {w:World} {kb c:Nat} {c1:List Value} {x1:Z6} {t:TypeId} {d:Nat} {op:Int} (hop:0≤op∧op≤13) (h:w.heap[kb]? = some (.cells c1.toArray t (0,0))) (hS:S kb) (h1:ZJ d S w c1 x1) :
  ZJ (d+1) S w [.int .i64 op,.int .i64 0,.string ⟨#[]⟩,.slice (some ⟨kb,0,none⟩) 1 c] (.mk op 0 ⟨#[]⟩ [x1]):=
 ⟨_,c,rfl,⟨by show(1:Nat)≤maxLen;decide,Z8W hop⟩,ZcS h (Z0L h1) h1,fun _=>⟨kb,0,rfl,hS,(gsI h).1⟩⟩
theorem Z5w (w0:World) (br:Nat) (a:Option Addr) (len cap:Nat) (bs:List Int) (hlen:len≤2000) (na:Option Addr) (nn nc:Nat) (ns:List ByteArray) (hsz:∀s∈ns,s.size≤maxLen) (hnn:nn≤3000000)
  (n:Nat) (w:World) (p:Nat) (hn:n<2) (hrd:Rd w0 w br a len cap bs p) (hp:p+Z1d n≤1000000000) (hns:Z2f br w na nn ns) :
  Calls Tryz.prog 55 #[.pointer (some ⟨br,0,none⟩),.slice na nn nc,.int .i64 (n:Int)] w fun e w'=>Z2x w0 w br a len cap bs p (Z1d n) (n+1) (Z0d bs ns n) e w':=by
 have HSZ:=hdd hsz
 have HP:=hdd hp
 have HR:=hdd (Z0V.start hrd)
 have HN:=hdd (hns.turn (Zd.alloc br w (.cells #[.int .i64 0,.int .i64 0,.string ⟨#[]⟩,.slice none 0 0] 64)))
 clear hrd hns hp hsz
 obtain⟨D,hD⟩:∃D:Int,D=(n:Int):=⟨_,rfl⟩
 rw [← hD]
 have hlt:decide (D<2)=true:=decide_eq_true (by omega)
 have HLF:=hdd (show Z0d bs ns n p=Z4R bs ns p from by
  rcases (show n=0∨n=1 by omega) with rfl|rfl
  ·rfl
  ·rw [Z0d,if_pos rfl])
 clear hD hn
 go_enter Tryz.func55,Tryz.ntmps55
 go_upto_region 1 with fail
 generalize w.alloc (.cells #[.int .i64 0,.int .i64 0,.string ⟨#[]⟩,.slice none 0 0] 64)=W1 at HR HN ⊢
 go_wp2_with fail
 refine(Z4f w0 _ br a len cap bs p na nn nc ns HR.out.rd hlen (by have:=HP.out;have:=Z6j n;omega) HN.out HSZ.out hnn).mono ?_
 rintro e w3 ⟨cs,x,q3,rfl,hrd3,hq3,ht3,hx3,hl3,hT3,hF3⟩
 obtain⟨ka,kc,rfl⟩:=Zj hx3
 have HR3:=hdd (HR.out.step ht3 hrd3)
 have HX3:=hdd (aI (Zh (S':=fun k=>w.heap.size<k) (fun k _ h=>by have:=HR.out.size;omega) (Z0x (by omega:1≤n+1) hx3)) (show Z1z Z0k (n+1) x=false by rw [← hl3];exact Zat hx3))
 have HT3:=hdd (hT3.wide (by omega:1≤n+1) (by have:=HR.out.size;omega:w.heap.size+1≤_) (Nat.le_refl _))
 have HQ:=hdd (show q3≤p+Z1d n by have:=Z6j n;omega)
 clear hrd3 hq3 ht3 hx3 hl3 hT3
 have c0:=HR3.out.c0
 have c1:=HR3.out.c1
 have c2:=HR3.out.c2
 have c3:=HR3.out.c3
 have f0:=HR3.out.f 0
 have f1:=HR3.out.f 1
 have f2:=HR3.out.f 2
 have f3:=HR3.out.f 3
 go_wp2
 refine bodyPost_ret (results_cell_row rfl _ _ w.heap.size 64 #[.int .i64 x.op,.int .i64 x.n,.string x.name,.slice ka x.kids.length kc] (0,0) _ rfl ?_ Tryz.underlying64 rfl (by kernel_rfl)) rfl ?_
 ·exact HR3.out.put (cs:=[.int .i64 x.op,.int .i64 x.n,.string x.name,.slice ka x.kids.length kc]) rfl
 have hdone:=HR3.out.done (p:=p) (P:=Z1d n) (HX3.out.1) (HX3.out.2) HQ.out (HT3.out) (F:=Z0d bs ns n) (by rw [HLF.out,hF3])
 rw [ZW] at hdone
 exact hdone
theorem Z2E (w0:World) (br:Nat) (a:Option Addr) (len cap:Nat) (bs:List Int) (hlen:len≤2000) (na:Option Addr) (nn nc:Nat) (ns:List ByteArray) (hsz:∀s∈ns,s.size≤maxLen) (hnn:nn≤3000000) :
  ∀(n:Nat) (w:World) (p:Nat),n≤100→Rd w0 w br a len cap bs p→p+Z1d n≤1000000000→Z2f br w na nn ns→
  Calls Tryz.prog 55 #[.pointer (some ⟨br,0,none⟩),.slice na nn nc,.int .i64 (n:Int)] w fun e w'=>Z2x w0 w br a len cap bs p (Z1d n) (n+1) (Z0d bs ns n) e w':=by
 have HSZ:=hdd hsz
 clear hsz
 intro n
 induction n with
 | zero=>exact fun w p _ hrd hp hns=>Z5w w0 br a len cap bs hlen na nn nc ns HSZ.out hnn 0 w p (by omega) hrd hp hns
 | succ m ih=>
  intro w p hn hrd hp hns
  by_cases hm:m=0
  ·exact Z5w w0 br a len cap bs hlen na nn nc ns HSZ.out hnn (m+1) w p (by omega) hrd hp hns
  have HP:=hdd hp
  have HR:=hdd (Z0V.start hrd)
  have HN:=hdd (hns.turn (Zd.alloc br w (.cells #[.int .i64 0,.int .i64 0,.string ⟨#[]⟩,.slice none 0 0] 64)))
  have HIH:=hdd ih
  have HM:=hdd (show m≤99 by omega)
  have HC:=hdd (show Z1d (m+1)=2*Z1d m+4 from rfl)
  clear hrd hns hp ih
  obtain⟨n,hn0⟩:∃n:Nat,n=m+1:=⟨_,rfl⟩
  rw [← hn0] at HP HC ⊢
  obtain⟨D,hD⟩:∃D:Int,D=(n:Int):=⟨_,rfl⟩
  rw [← hD]
  have hlt:decide (D<2)=false:=decide_eq_false (by omega)
  have hsub:wrap64 (D-1)=(m:Int):=by rw [show D-1=(m:Int) by omega];exact IntWalk.wrap64_in (m:Int) (by have:=HM.out;omega)
  have HNM:=hdd hn0
  have HM0:=hdd hm
  clear hD hn0 hm
  go_enter Tryz.func55,Tryz.ntmps55
  go_upto_region 1 with fail
  generalize w.alloc (.cells #[.int .i64 0,.int .i64 0,.string ⟨#[]⟩,.slice none 0 0] 64)=W1 at HR HN ⊢
  go_wp2_with fail
  refine(Z01 w0 _ br a len cap bs p 4 HR.out.rd (by omega) hlen (by have:=HP.out;omega)).mono ?_
  rintro e w2 ⟨v,_,_,rfl,hrd2,hg2,hF2⟩
  have HR2:=hdd (HR.out.step (Zd.grown hg2) hrd2)
  have HN2:=hdd (HN.out.turn (Zd.grown hg2))
  clear hrd2 hg2 hlt
  by_cases hv:v=0
  ·subst hv
   go_wp2_with fail
   refine(Z4f w0 _ br a len cap bs (p+1) na nn nc ns HR2.out.rd hlen (by have:=HP.out;have:=Z6j n;omega) HN2.out HSZ.out hnn).mono ?_
   rintro e w3 ⟨cs,x,q3,rfl,hrd3,hq3,ht3,hx3,hl3,hT3,hF3⟩
   obtain⟨ka,kc,rfl⟩:=Zj hx3
   have HR3:=hdd (HR2.out.step ht3 hrd3)
   have HX3:=hdd (aI (Zh (S':=fun k=>w.heap.size<k) (fun k _ h=>by have:=HR2.out.size;omega) (Z0x (by omega:1≤n+1) hx3)) (show Z1z Z0k (n+1) x=false by rw [← hl3];exact Zat hx3))
   have HT3:=hdd (hT3.wide (by omega:1≤n+1) (by have:=HR2.out.size;omega:w.heap.size+1≤_) (Nat.le_refl _))
   have HQ:=hdd (show q3≤p+Z1d n by have:=Z6j n;omega)
   clear hrd3 hq3 ht3 hx3 hl3 hT3
   have c0:=HR3.out.c0
   have c1:=HR3.out.c1
   have c2:=HR3.out.c2
   have c3:=HR3.out.c3
   have f0:=HR3.out.f 0
   have f1:=HR3.out.f 1
   have f2:=HR3.out.f 2
   have f3:=HR3.out.f 3
   go_wp2
   refine bodyPost_ret (results_cell_row rfl _ _ w.heap.size 64 #[.int .i64 x.op,.int .i64 x.n,.string x.name,.slice ka x.kids.length kc] (0,0) _ rfl ?_ Tryz.underlying64 rfl (by kernel_rfl)) rfl ?_
   ·exact HR3.out.put (cs:=[.int .i64 x.op,.int .i64 x.n,.string x.name,.slice ka x.kids.length kc]) rfl
   have hdone:=HR3.out.done (p:=p) (P:=Z1d n) (HX3.out.1) (HX3.out.2) HQ.out (HT3.out) (F:=Z0d bs ns n) (by rw [HNM.out,Z0d,if_neg HM0.out,if_pos hF2,hF3])
   rw [ZW] at hdone
   exact hdone
  have hv0:(v==0)=false:=by simpa using hv
  go_wp2_with fail
  refine(Z01 w0 _ br a len cap bs (p+1) 7 HR2.out.rd (by omega) hlen (by have:=HP.out;omega)).mono ?_
  rintro e w3 ⟨u,_,_,rfl,hrd3,hg3,hU3⟩
  have HR3:=hdd (HR2.out.step (Zd.grown hg3) hrd3)
  have HN3:=hdd (HN2.out.turn (Zd.grown hg3))
  have HV:=hdd (show ¬ZP bs 4 p=0 by rw [hF2];exact hv)
  clear hrd3 hg3 hv0 hv
  by_cases hu:u=0
  ·subst hu
   go_wp2_with fail
   refine(Z1e w0 _ br a len cap bs (p+1+1) w3.heap.size 3 3 [11,12,11] (HR3.out.rd.alloc _) (Z7w w3 [11,12,11]) (by have:=HR3.out.rd.lt;omega) (by omega) hlen (by have:=HP.out;omega)).mono ?_
   rintro e w4 ⟨op,hop,rfl,hrd4,hg4,hF4⟩
   have HOP:=hdd (show 0≤op∧op≤13 by simp at hop;omega)
   have HR4:=hdd ((HR3.out.alloc (.cells ([11,12,11].map (Value.int .i64)).toArray 3)).step (Zd.grown hg4) hrd4)
   have HN4:=hdd ((HN3.out.turn (Zd.alloc br w3 (.cells ([11,12,11].map (Value.int .i64)).toArray 3))).turn (Zd.grown hg4))
   clear hrd4 hg4 hop
   have HCALL:=hdd (HIH.out w4 (p+1+1+1) (by have:=HM.out;omega) HR4.out.rd (by have:=HP.out;have:=HC.out;omega) HN4.out)
   go_wp2_with fail
   refine HCALL.out.mono ?_
   rintro e w5 ⟨cs,x,q5,rfl,hrd5,hq5,ht5,hx5,hl5,-,hF5⟩
   obtain⟨ka,kc,rfl⟩:=Zj hx5
   have HR5:=hdd ((HR4.out.step ht5 hrd5).alloc (.cells #[.int .i64 x.op,.int .i64 x.n,.string x.name,.slice ka x.kids.length kc] 64))
   have HX5:=hdd (show ZJ (n+1) (fun k=>w.heap.size<k) (w5.alloc (.cells #[.int .i64 x.op,.int .i64 x.n,.string x.name,.slice ka x.kids.length kc] 64)) [.int .i64 op,.int .i64 0,.string ⟨#[]⟩,.slice (some ⟨w5.heap.size,0,none⟩) 1 1] (.mk op 0 ⟨#[]⟩ [x])∧Z1z Z0k (n+1) (.mk op 0 ⟨#[]⟩ [x])=false∧Z2U (n+1) (w.heap.size+1) (w5.alloc (.cells #[.int .i64 x.op,.int .i64 x.n,.string x.name,.slice ka x.kids.length kc] 64)).heap.size (w5.alloc (.cells #[.int .i64 x.op,.int .i64 x.n,.string x.name,.slice ka x.kids.length kc] 64)) [.int .i64 op,.int .i64 0,.string ⟨#[]⟩,.slice (some ⟨w5.heap.size,0,none⟩) 1 1] (.mk op 0 ⟨#[]⟩ [x]) by
    rw [HNM.out]
    refine⟨Zdc HOP.out (hAn w5 _) (by have:=(HR4.out.step ht5 hrd5).size;omega) (Zz ((bRf _ _).alloc (Nat.le_refl _) _) (Zh (fun k _ h=>by have:=HR4.out.size;omega) hx5)),ZbH hl5,(Z2U.one (by have:=(HR4.out.step ht5 hrd5).size;omega) (Zh (fun k _ h=>by have:=HR4.out.size;omega) hx5)).wide (by omega) (Nat.le_refl _) (Nat.le_refl _)⟩)
   have HQ:=hdd (show q5≤p+Z1d n by have:=HC.out;omega)
   clear hrd5 hq5 ht5 hx5 hl5
   have c0:=HR5.out.c0
   have c1:=HR5.out.c1
   have c2:=HR5.out.c2
   have c3:=HR5.out.c3
   have f0:=HR5.out.f 0
   have f1:=HR5.out.f 1
   have f2:=HR5.out.f 2
   have f3:=HR5.out.f 3
   go_wp2
   refine bodyPost_ret (results_cell_row rfl _ _ w.heap.size 64 #[.int .i64 op,.int .i64 0,.string ⟨#[]⟩,.slice (some ⟨w5.heap.size,0,none⟩) 1 1] (0,0) _ rfl ?_ Tryz.underlying64 rfl (by kernel_rfl)) rfl ?_
   ·exact HR5.out.put (cs:=[.int .i64 op,.int .i64 0,.string ⟨#[]⟩,.slice (some ⟨w5.heap.size,0,none⟩) 1 1]) rfl
   have hdone:=HR5.out.done (p:=p) (P:=Z1d n) (HX5.out.1) (HX5.out.2.1) HQ.out (HX5.out.2.2) (F:=Z0d bs ns n) (by rw [HNM.out,Z0d,if_neg HM0.out,if_neg HV.out,if_pos hU3,hF4,hF5])
   rw [ZW] at hdone
   exact hdone
  have hu0:(u==0)=false:=by simpa using hu
  go_wp2_with fail
  refine(Z1e w0 _ br a len cap bs (p+1+1) w3.heap.size 9 9 [3,3,4,5,6,7,8,9,10] (HR3.out.rd.alloc _) (Z7w w3 [3,3,4,5,6,7,8,9,10]) (by have:=HR3.out.rd.lt;omega) (by omega) hlen (by have:=HP.out;omega)).mono ?_
  rintro e w4 ⟨op,hop,rfl,hrd4,hg4,hF4⟩
  have HOP:=hdd (show 0≤op∧op≤13 by simp at hop;omega)
  have HR4:=hdd ((HR3.out.alloc (.cells ([3,3,4,5,6,7,8,9,10].map (Value.int .i64)).toArray 3)).step (Zd.grown hg4) hrd4)
  have HN4:=hdd ((HN3.out.turn (Zd.alloc br w3 (.cells ([3,3,4,5,6,7,8,9,10].map (Value.int .i64)).toArray 3))).turn (Zd.grown hg4))
  have HU:=hdd (show ¬ZP bs 7 (p+1)=0 by rw [hU3];exact hu)
  clear hrd4 hg4 hop hu0 hu
  have HCALL:=hdd (HIH.out w4 (p+1+1+1) (by have:=HM.out;omega) HR4.out.rd (by have:=HP.out;have:=HC.out;omega) HN4.out)
  go_wp2_with fail
  refine HCALL.out.mono ?_
  rintro e w5 ⟨cs,x,q5,rfl,hrd5,hq5,ht5,hx5,hl5,-,hF5⟩
  obtain⟨ka,kc,rfl⟩:=Zj hx5
  have HR5:=hdd (HR4.out.step ht5 hrd5)
  have HN5:=hdd (HN4.out.turn ht5)
  have HX5:=hdd (aI (Zh (S':=fun k=>w.heap.size<k) (fun k _ h=>by have:=HR4.out.size;omega) hx5) (aI hl5 (show q5≤p+1+1+1+Z1d m from hq5)))
  clear hrd5 hq5 ht5 hx5 hl5 HCALL
  have HCALL:=hdd (HIH.out w5 q5 (by have:=HM.out;omega) HR5.out.rd (by have:=HP.out;have:=HC.out;have:=HX5.out.2.2;omega) HN5.out)
  go_wp2_with fail
  refine HCALL.out.mono ?_
  rintro e w6 ⟨cs2,y,q6,rfl,hrd6,hq6,ht6,hy6,hl6,-,hF6⟩
  obtain⟨ja,jc,rfl⟩:=Zj hy6
  have HR6:=hdd ((HR5.out.step ht6 hrd6).alloc (.cells #[.int .i64 x.op,.int .i64 x.n,.string x.name,.slice ka x.kids.length kc,.int .i64 y.op,.int .i64 y.n,.string y.name,.slice ja y.kids.length jc] 64))
  have HX6:=hdd (show ZJ (n+1) (fun k=>w.heap.size<k) (w6.alloc (.cells #[.int .i64 x.op,.int .i64 x.n,.string x.name,.slice ka x.kids.length kc,.int .i64 y.op,.int .i64 y.n,.string y.name,.slice ja y.kids.length jc] 64)) [.int .i64 op,.int .i64 0,.string ⟨#[]⟩,.slice (some ⟨w6.heap.size,0,none⟩) 2 2] (.mk op 0 ⟨#[]⟩ [x,y])∧Z1z Z0k (n+1) (.mk op 0 ⟨#[]⟩ [x,y])=false∧Z2U (n+1) (w.heap.size+1) (w6.alloc (.cells #[.int .i64 x.op,.int .i64 x.n,.string x.name,.slice ka x.kids.length kc,.int .i64 y.op,.int .i64 y.n,.string y.name,.slice ja y.kids.length jc] 64)).heap.size (w6.alloc (.cells #[.int .i64 x.op,.int .i64 x.n,.string x.name,.slice ka x.kids.length kc,.int .i64 y.op,.int .i64 y.n,.string y.name,.slice ja y.kids.length jc] 64)) [.int .i64 op,.int .i64 0,.string ⟨#[]⟩,.slice (some ⟨w6.heap.size,0,none⟩) 2 2] (.mk op 0 ⟨#[]⟩ [x,y]) by
   rw [HNM.out]
   have hba:Below w6.heap.size w6 (w6.alloc (.cells #[.int .i64 x.op,.int .i64 x.n,.string x.name,.slice ka x.kids.length kc,.int .i64 y.op,.int .i64 y.n,.string y.name,.slice ja y.kids.length jc] 64)):=(bRf _ _).alloc (Nat.le_refl _) _
   refine⟨Zd7 HOP.out (c1:=[.int .i64 x.op,.int .i64 x.n,.string x.name,.slice ka x.kids.length kc]) (hAn w6 _) (by have:=(HR5.out.step ht6 hrd6).size;omega) (Zz hba (ht6.expr HR.out.lt HX5.out.1)) (Zz hba (Zh (fun k _ h=>by have:=HR5.out.size;omega) hy6)),Z6C HX5.out.2.1 hl6,(Z2U.two (c1:=[.int .i64 x.op,.int .i64 x.n,.string x.name,.slice ka x.kids.length kc]) (by have:=(HR5.out.step ht6 hrd6).size;omega) (Zh (fun k _ h=>by omega) (ht6.expr HR.out.lt HX5.out.1)) (Zh (fun k _ h=>by have:=HR5.out.size;omega) hy6)).wide (by omega) (Nat.le_refl _) (Nat.le_refl _)⟩)
  have HQ:=hdd (show q6≤p+Z1d n by have:=HC.out;have:=HX5.out.2.2;omega)
  clear hrd6 hq6 ht6 hy6 hl6
  have c0:=HR6.out.c0
  have c1:=HR6.out.c1
  have c2:=HR6.out.c2
  have c3:=HR6.out.c3
  have f0:=HR6.out.f 0
  have f1:=HR6.out.f 1
  have f2:=HR6.out.f 2
  have f3:=HR6.out.f 3
  go_wp2
  refine bodyPost_ret (results_cell_row rfl _ _ w.heap.size 64 #[.int .i64 op,.int .i64 0,.string ⟨#[]⟩,.slice (some ⟨w6.heap.size,0,none⟩) 2 2] (0,0) _ rfl ?_ Tryz.underlying64 rfl (by kernel_rfl)) rfl ?_
  ·exact HR6.out.put (cs:=[.int .i64 op,.int .i64 0,.string ⟨#[]⟩,.slice (some ⟨w6.heap.size,0,none⟩) 2 2]) rfl
  have hdone:=HR6.out.done (p:=p) (P:=Z1d n) (HX6.out.1) (HX6.out.2.1) HQ.out (HX6.out.2.2) (F:=Z0d bs ns n) (by rw [HNM.out,Z0d,if_neg HM0.out,if_neg HV.out,if_neg HU.out,hF4,hF5,hF6])
  rw [ZW] at hdone
  exact hdone
end Go.Proofs.YtloooebabieeeaaGreatDoor
