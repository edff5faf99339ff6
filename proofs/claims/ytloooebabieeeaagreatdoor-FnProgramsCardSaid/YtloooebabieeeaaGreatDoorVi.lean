/-
  The reference's l2Read and l2List read what the plain reader reads.
-/
import Derived.Test.YtloooebabieeeaaGreatDoorCp
import Derived.Test.YtloooebabieeeaaGreatDoorT10
import Derived.Test.YtloooebabieeeaaGreatDoorDr4
import Derived.Test.YtloooebabieeeaaGreatDoorHl
import Derived.Test.YtloooebabieeeaaGreatDoorSm
import Derived.Test.YtloooebabieeeaaGreatDoorVs
import Derived.Deep.LoopGhost
import Derived.Test.YtloooebabieeeaaGreatDoorEy4
import Derived.Test.YtloooebabieeeaaGreatDoorNm
import Derived.Deep.CutBlock
import Derived.Deep.DeepCutAuto
set_option maxRecDepth 100000
set_option maxHeartbeats 16000000
set_option linter.unusedVariables false
namespace Go.Proofs.YtloooebabieeeaaGreatDoor
open Go.RowKit
theorem ZcX {w5:World} {xb d:Nat} {op:Int} {c1 c2:List Value} {z0 z1 z2 z3:Value} {x1 x2:Z6} {S:Nat→Prop} (hop:1≤op∧op≤13) (hr:w5.heap[xb]? = some (.cells #[z0,z1,z2,z3] 64 (0,0))) (hS:¬S xb) (hSn:∀k,w5.heap.size≤k→S k)
  (h1:ZJ d S w5 c1 x1) (h2:ZJ d S w5 c2 x2) :
  ((((((w5.setCell ⟨xb,0,none⟩ (.int .i64 op)).setCell ⟨xb,1,none⟩ (.int .i64 0)).setCell ⟨xb,2,none⟩ (.string ⟨#[]⟩)).setCell ⟨xb,3,none⟩ (.slice (some ⟨w5.heap.size+1,0,none⟩) 2 2)).alloc (.cells c2.toArray 64)).alloc (.cells (c1++c2).toArray 64)).heap[xb]? = some (.cells #[.int .i64 op,.int .i64 0,.string ⟨#[]⟩,.slice (some ⟨w5.heap.size+1,0,none⟩) 2 2] 64 (0,0))∧
  ZJ (d+1) S ((((((w5.setCell ⟨xb,0,none⟩ (.int .i64 op)).setCell ⟨xb,1,none⟩ (.int .i64 0)).setCell ⟨xb,2,none⟩ (.string ⟨#[]⟩)).setCell ⟨xb,3,none⟩ (.slice (some ⟨w5.heap.size+1,0,none⟩) 2 2)).alloc (.cells c2.toArray 64)).alloc (.cells (c1++c2).toArray 64)) [.int .i64 op,.int .i64 0,.string ⟨#[]⟩,.slice (some ⟨w5.heap.size+1,0,none⟩) 2 2] (.mk op 0 ⟨#[]⟩ [x1,x2])∧
  Ze (fun k=>k=xb) w5 ((((((w5.setCell ⟨xb,0,none⟩ (.int .i64 op)).setCell ⟨xb,1,none⟩ (.int .i64 0)).setCell ⟨xb,2,none⟩ (.string ⟨#[]⟩)).setCell ⟨xb,3,none⟩ (.slice (some ⟨w5.heap.size+1,0,none⟩) 2 2)).alloc (.cells c2.toArray 64)).alloc (.cells (c1++c2).toArray 64)):=by
 have hc:=Z5F w5 xb (.int .i64 op) (.int .i64 0) (.string ⟨#[]⟩) (.slice (some ⟨w5.heap.size+1,0,none⟩) 2 2) hr
 have hxb:=(gsI hr).1
 generalize (((w5.setCell ⟨xb,0,none⟩ (.int .i64 op)).setCell ⟨xb,1,none⟩ (.int .i64 0)).setCell ⟨xb,2,none⟩ (.string ⟨#[]⟩)).setCell ⟨xb,3,none⟩ (.slice (some ⟨w5.heap.size+1,0,none⟩) 2 2)=wc at hc ⊢
 obtain⟨k1,k2,k3⟩:=hc
 have y1:=ZA k3 (fun k _ h1 h2=>by have h2:k=xb:=h2;exact hS (h2▸h1)) h1
 have y2:=ZA k3 (fun k _ h1 h2=>by have h2:k=xb:=h2;exact hS (h2▸h1)) h2
 have ha1:Below wc.heap.size wc (wc.alloc (.cells c2.toArray 64)):=(bRf _ _).alloc (Nat.le_refl _) _
 have hs1:(wc.alloc (.cells c2.toArray 64)).heap.size=w5.heap.size+1:=by rw [World.size_alloc,k1]
 have hm:=ZbC (w:=wc.alloc (.cells c2.toArray 64)) (S:=S) (op:=op) (hSn _ (by rw [hs1];omega)) hop (Zz ha1 y1) (Zz ha1 y2)
 rw [hs1] at hm
 have ha2:Below wc.heap.size wc ((wc.alloc (.cells c2.toArray 64)).alloc (.cells (c1++c2).toArray 64)):=ha1.alloc ha1.size _
 exact⟨(ha2.block xb (by omega)).trans k2,hm,k3.trans (ZS ha2 (fun k h1 h2=>by omega))⟩
theorem Z9i (n:Nat) (r:List Z7):Z1s n r=0∨(3≤Z1s n r∧Z1s n r≤10):=by
 unfold Z1s
 cases h:([3,4,5,6,7,8,9,10]:List Int).find? (fun op=>lvl op==(n:Int)&&Zp r (sgB (opC op))) with
 | none=>exact .inl rfl
 | some o=>
  have:=List.mem_of_find?_eq_some h
  simp only [List.mem_cons,List.not_mem_nil,or_false] at this
  right
  show 3≤o∧o≤10
  omega
theorem Zck {n k:Nat} {ws:List Z7} (h:Z1s n (ws.drop k)≠0):k<ws.length:=by
 rcases Nat.lt_or_ge k ws.length with h1|h1
 ·exact h1
 ·rw [List.drop_of_length_le h1,Zbi] at h;exact absurd rfl h
theorem Zaq {g n:Nat} {x1 x:Z6} {ws rest:List Z7} (h:rdL g n x1 ws=some (x,rest)):∃g',g=g'+1∧((Z1s n ws=0∧x1=x∧ws=rest)∨
  (Z1s n ws≠0∧∃y r,rdE g' (n+1) ws.tail=some (y,r)∧rdL g' n (.mk (Z1s n ws) 0 ⟨#[]⟩ [x1,y]) r=some (x,rest))):=by
 cases g with
 | zero=>rw [rdL] at h;cases h
 | succ g=>
  refine⟨g,rfl,?_⟩
  rw [rdL] at h
  by_cases h0:Z1s n ws=0
  ·rw [if_pos h0] at h;cases h;exact .inl ⟨h0,rfl,rfl⟩
  ·rw [if_neg h0] at h
   cases hr:rdE g (n+1) ws.tail with
   | none=>rw [hr] at h;cases h
   | some q=>
    rw [hr] at h
    obtain⟨y,r⟩:=q
    exact .inr ⟨h0,y,r,rfl,h⟩
structure Zd9 (w:World) (ws:List Z7) (at_ n f:Nat) (x:Z6) (rest:List Z7) (rb xb:Nat) (x1:Z6) (ka:Option Addr) (kc at1:Nat) (wr:World):Prop where
 todo:∃g,g≤f∧rdL g n x1 (ws.drop at1)=some (x,rest)
 place:at_<at1∧at1≤ws.length
 xrow:wr.heap[xb]? = some (.cells #[.int .i64 x1.op,.int .i64 x1.n,.string x1.name,.slice ka x1.kids.length kc] 64 (0,0))
 rrow:wr.heap[rb]? = some (.cells #[.int .i64 0,.int .i64 0,.string ⟨#[]⟩,.slice none 0 0] 64 (0,0))
 expr:∃d,ZJ d (fun k=>w.heap.size<k∧k≠xb) wr [.int .i64 x1.op,.int .i64 x1.n,.string x1.name,.slice ka x1.kids.length kc] x1
 below:Below w.heap.size w wr
 blocks:rb=w.heap.size∧rb<xb
theorem Z8d (f:Nat) (hT:Z8R f) (hR:∀g,g≤f→Z9x g):Z9x (f+1):=by
 intro la lc ws at_ n x rest w hn5 hat hW hr
 have hwl:ws.length≤4000000:=hW.short
 have hba:Below w.heap.size w (w.alloc (.cells #[.int .i64 0,.int .i64 0,.string ⟨#[]⟩,.slice none 0 0] 64)):=(bRf _ _).alloc (Nat.le_refl _) _
 have HW:=hdd (hW.later hba)
 have HW0:=hdd hW
 have HB:=hdd (aI hba (hAn w (.cells #[.int .i64 0,.int .i64 0,.string ⟨#[]⟩,.slice none 0 0] 64)))
 have HT:=hdd hT
 have HR:=hdd hR
 have HSZ:=hdd (World.size_alloc w (.cells #[.int .i64 0,.int .i64 0,.string ⟨#[]⟩,.slice none 0 0] 64))
 have hc:(4<n∧rdT f (ws.drop at_)=some (x,rest))∨(n≤4∧∃x1 r1,rdE f (n+1) (ws.drop at_)=some (x1,r1)∧rdL f n x1 r1=some (x,rest)):=by
  rw [rdE] at hr
  by_cases h4:4<n
  ·rw [if_pos h4] at hr;exact .inl ⟨h4,hr⟩
  ·rw [if_neg h4] at hr
   cases hq:rdE f (n+1) (ws.drop at_) with
   | none=>rw [hq] at hr;cases hr
   | some q=>
    rw [hq] at hr
    obtain⟨x1,r1⟩:=q
    exact .inr ⟨by omega,x1,r1,rfl,hr⟩
 clear hba hT hR hW hr
 rcases hc with⟨h4,hr⟩|⟨h4,x1,r1,hr,hl⟩
 ·have h4i:(4:Int)<(n:Int):=by omega
  have HY:=hdd hr
  clear hr
  go_enter Tryz.func124,Tryz.ntmps124
  go_upto_region 1 with fail
  obtain⟨rb,hrb⟩:∃n,n=w.heap.size:=⟨_,rfl⟩
  generalize w.alloc (.cells #[.int .i64 0,.int .i64 0,.string ⟨#[]⟩,.slice none 0 0] 64)=W1 at HW HB HSZ ⊢
  have HRB:=hdd hrb
  have HB0:=hdd HB.out.1
  rw [← hrb] at HB HSZ ⊢
  clear hrb
  have HCT:=hdd (HT.out la lc ws at_ x rest W1 hat HW.out HY.out)
  go_wp2_with fail
  refine HCT.out.mono ?_
  rintro e w5 ⟨cs,d,at2,rfl,hx,h1,h2,h3,hb5⟩
  obtain⟨ka,kc,rfl⟩:=Zj hx
  have hrow:=(hb5.block rb (gsI HB.out.2).1).trans HB.out.2
  have k0:=coR _ _ 0 _ _ _ hrow
  have k1:=coR _ _ 1 _ _ _ hrow
  have k2:=coR _ _ 2 _ _ _ hrow
  have k3:=coR _ _ 3 _ _ _ hrow
  have z0:=frR _ _ 0 _ _ hrow
  have z1:=frR _ _ 1 _ _ hrow
  have z2:=frR _ _ 2 _ _ hrow
  have z3:=frR _ _ 3 _ _ hrow
  simp only [ga0,ga1,ga2] at k0 k1 k2 k3
  have HX:=hdd (aI h1 (aI h2 h3))
  have HF:=hdd (Zcz HRB.out hrow (HB0.out.trans (hb5.mono HB0.out.size)) (Zh (fun k _ h=>by have h:W1.heap.size≤k:=h;have:=HRB.out;have:=HSZ.out;show w.heap.size<k;omega) hx))
  clear hx h1 h2 h3 hb5 hrow
  go_wp2
  refine bodyPost_ret (Z09 rfl _ _ rb 64 (List.toArray [.int .i64 x.op,.int .i64 x.n,.string x.name,.slice ka x.kids.length kc]) (0,0) _ rfl ?_ Tryz.underlying64 rfl (by kernel_rfl)) rfl ?_
  ·exact HF.out.1
  ·exact⟨_,d,at2,rfl,HF.out.2.1,HX.out.1,HX.out.2.1,HX.out.2.2,HF.out.2.2⟩
 ·have h4i:¬(4:Int)<(n:Int):=by omega
  have HY:=hdd hr
  have HLL:=hdd hl
  clear hr hl
  go_enter Tryz.func124,Tryz.ntmps124
  go_upto_region 1 with fail
  obtain⟨rb,hrb⟩:∃n,n=w.heap.size:=⟨_,rfl⟩
  generalize w.alloc (.cells #[.int .i64 0,.int .i64 0,.string ⟨#[]⟩,.slice none 0 0] 64)=W1 at HW HB HSZ ⊢
  have HRB:=hdd hrb
  have HB0:=hdd HB.out.1
  rw [← hrb] at HB HSZ ⊢
  clear hrb
  have HCT:=HR.out f (Nat.le_refl _) la lc ws at_ (n+1) x1 r1 W1 (by omega) hat HW.out HY.out
  rw [show((n+1:Nat):Int)=(n:Int)+1 by omega] at HCT
  have HCT:=hdd HCT
  go_wp2_with fail
  refine HCT.out.mono ?_
  rintro e w5 ⟨cs,d,at1,rfl,hx,h1,h2,h3,hb5⟩
  obtain⟨ka,kc,rfl⟩:=Zj hx
  have hba:Below w5.heap.size w5 (w5.alloc (.cells #[.int .i64 x1.op,.int .i64 x1.n,.string x1.name,.slice ka x1.kids.length kc] 64)):=(bRf _ _).alloc (Nat.le_refl _) _
  have hsw:W1.heap.size≤w5.heap.size:=hb5.size
  have hrow:=(hb5.block rb (gsI HB.out.2).1).trans HB.out.2
  have HST:=hdd (show Zd9 w ws at_ n f x rest rb w5.heap.size x1 ka kc at1 (w5.alloc (.cells #[.int .i64 x1.op,.int .i64 x1.n,.string x1.name,.slice ka x1.kids.length kc] 64)) from
   ⟨⟨f,Nat.le_refl _,by rw [h3];exact HLL.out⟩,⟨h1,h2⟩,hAn w5 _,(hba.block rb (gsI hrow).1).trans hrow,⟨d,Zz hba (Zh (fun k hk h=>by have h:W1.heap.size≤k:=h;have:=HRB.out;have:=HSZ.out;exact⟨by omega,by omega⟩) hx)⟩,
       (HB0.out.trans (hb5.mono HB0.out.size)).trans (hba.mono (HB0.out.trans (hb5.mono HB0.out.size)).size),HRB.out,(gsI hrow).1⟩)
  have hwn:wrap64 ((n:Int)+1)=(n:Int)+1:=IntWalk.wrap64_in _ (by omega)
  clear hx h1 h2 h3 hb5 hba hrow hsw
  go_upto_region 4 with fail
  obtain⟨xb,hxb⟩:∃n,n=w5.heap.size:=⟨_,rfl⟩
  generalize w5.alloc (.cells #[.int .i64 x1.op,.int .i64 x1.n,.string x1.name,.slice ka x1.kids.length kc] 64)=w6 at HST ⊢
  rw [← hxb] at HST ⊢
  clear hxb
  have hat1:at1≤ws.length:=HST.out.place.2
  go_loopg [9] (ws.length-at1) (fun G i wr=>∃(at1:Nat) (x1:Z6) (ka:Option Addr) (kc:Nat),at1+G=ws.length∧i=.int .i64 at1∧Hid (Zd9 w ws at_ n f x rest rb xb x1 ka kc at1 wr))
  case atStart=>exact⟨at1,x1,ka,kc,by omega,rfl,HST⟩
  case round=>
   clear HST
   obtain⟨at2,z,za,zc,hG,rfl,HS⟩:=hrel
   have HWr:=hdd (HW0.out.later HS.out.below)
   obtain⟨g,hg,hgl⟩:=HS.out.todo
   obtain⟨g',rfl,hc⟩:=Zaq hgl
   have x0:=coR _ _ 0 _ _ _ HS.out.xrow
   have x1':=coR _ _ 1 _ _ _ HS.out.xrow
   have x2:=coR _ _ 2 _ _ _ HS.out.xrow
   have x3:=coR _ _ 3 _ _ _ HS.out.xrow
   simp only [ga0,ga1,ga2] at x0 x1' x2 x3
   have hge:(0:Int)≤(at2:Int):=by omega
   have HOP:=ZbL la lc ws at2 n wr HWr.out
   rcases hc with⟨h0,rfl,hrest⟩|⟨h0,y,r,hy,hl⟩
   ·rw [h0] at HOP
    have HOP:=hdd HOP
    have hrow:=HS.out.rrow
    have k0:=coR _ _ 0 _ _ _ hrow
    have k1:=coR _ _ 1 _ _ _ hrow
    have k2:=coR _ _ 2 _ _ _ hrow
    have k3:=coR _ _ 3 _ _ _ hrow
    have z0:=frR _ _ 0 _ _ hrow
    have z1:=frR _ _ 1 _ _ hrow
    have z2:=frR _ _ 2 _ _ hrow
    have z3:=frR _ _ 3 _ _ hrow
    simp only [ga0,ga1,ga2] at k0 k1 k2 k3
    obtain⟨d,hd⟩:=HS.out.expr
    have HF:=hdd (Zcz HRB.out hrow HS.out.below (Zh (fun k _ h=>h.1) hd))
    have HRE:=hdd hrest
    clear hrow hd hgl h0 hrest
    go_wp2_with fail
    refine HOP.out.mono ?_
    rintro e w7 ⟨rfl,rfl⟩
    go_wp2
    refine bodyPost_ret (Z09 rfl _ _ rb 64 (List.toArray [.int .i64 z.op,.int .i64 z.n,.string z.name,.slice za z.kids.length zc]) (0,0) _ rfl ?_ Tryz.underlying64 rfl (by kernel_rfl)) rfl ?_
    ·exact HF.out.1
    ·exact⟨_,d,at2,rfl,HF.out.2.1,HS.out.place.1,HS.out.place.2,HRE.out,HF.out.2.2⟩
   ·obtain⟨o,ho⟩:∃o,o=Z1s n (ws.drop at2):=⟨_,rfl⟩
    have hor:3≤o∧o≤10:=by rw [ho];exact(Z9i n (ws.drop at2)).resolve_left h0
    have hltw:=Zck h0
    rw [← ho] at HOP hl
    rw [List.tail_drop] at hy
    have HOP:=hdd HOP
    have HCR:=HR.out g' (by omega) la lc ws (at2+1) (n+1) y r wr (by omega) (by omega) HWr.out hy
    rw [show((n+1:Nat):Int)=(n:Int)+1 by omega,show((at2+1:Nat):Int)=(at2:Int)+1 by omega] at HCR
    have HCR:=hdd HCR
    have HL2:=hdd hl
    have ho0:(0:Int)<o:=by omega
    clear hgl h0 hy hl ho
    go_wp2_with fail
    refine HOP.out.mono ?_
    rintro e w7 ⟨rfl,rfl⟩
    go_wp2_with fail
    refine HOP.out.mono ?_
    rintro e w8 ⟨rfl,rfl⟩
    go_wp2_with fail
    refine HCR.out.mono ?_
    rintro e w9 ⟨cs,d2,at3,rfl,hy,h1,h2,h3,hb9⟩
    obtain⟨ya,yc,rfl⟩:=Zj hy
    have hxlt:=(gsI HS.out.xrow).1
    have hxr:=(hb9.block xb hxlt).trans HS.out.xrow
    have hrr:=(hb9.block rb (gsI HS.out.rrow).1).trans HS.out.rrow
    obtain⟨d1,hd1⟩:=HS.out.expr
    have hwle:w.heap.size≤w8.heap.size:=HS.out.below.size
    have HF:=hdd (ZcX (d:=max d1 d2) (op:=o) (S:=fun k=>w.heap.size<k∧k≠xb) (by omega) hxr (fun h=>h.2 rfl) (fun k hk=>by have:=hb9.size;have:=HS.out.blocks;exact⟨by omega,by omega⟩)
     (Z0x (Nat.le_max_left _ _) (Zz hb9 hd1)) (Z0x (Nat.le_max_right _ _) (Zh (fun k _ h=>by have h:w8.heap.size≤k:=h;have:=HS.out.blocks;exact⟨by omega,by omega⟩) hy)))
    have HX:=hdd (aI h1 (aI h2 (aI h3 (aI hb9 (aI hrr (gsI hxr).1)))))
    have k0:=coR _ _ 0 _ _ _ hxr
    have k1:=coR _ _ 1 _ _ _ hxr
    have k2:=coR _ _ 2 _ _ _ hxr
    have k3:=coR _ _ 3 _ _ _ hxr
    have z0:=frR _ _ 0 _ _ hxr
    have z1:=frR _ _ 1 _ _ hxr
    have z2:=frR _ _ 2 _ _ hxr
    have z3:=frR _ _ 3 _ _ hxr
    simp only [ga0,ga1,ga2] at k0 k1 k2 k3
    have hx9:=(gsI hxr).1
    clear hxr hrr hd1 hy h1 h2 h3 hb9 x0 x1' x2 x3
    go_wp2
    go_roundg (ws.length-at3)
    case measure=>have:=HX.out.1;have:=HX.out.2.1;omega
    case rel=>
     refine⟨at3,.mk o 0 ⟨#[]⟩ [z,y],_,2,by have:=HX.out.2.1;omega,rfl,hdd ⟨⟨g',by omega,by rw [HX.out.2.2.1];exact HL2.out⟩,⟨by have:=HX.out.1;have:=HS.out.place;omega,HX.out.2.1⟩,HF.out.1,?_,⟨_,HF.out.2.1⟩,?_,HS.out.blocks⟩⟩
     ·exact(HF.out.2.2.block rb (gsI HX.out.2.2.2.2.1).1 (by have:=HS.out.blocks;omega)).trans HX.out.2.2.2.2.1
     ·exact(HS.out.below.trans (HX.out.2.2.2.1.mono hwle)).trans (HF.out.2.2.below (B:=w.heap.size) (by have:=HX.out.2.2.2.1.size;omega) (fun k hk=>by have hk:k=xb:=hk;have:=HS.out.blocks;omega))
theorem Z1c.empty (d:Nat) (S:Nat→Prop) (lo:Nat) (w:World) (h:lo≤w.heap.size):Z1c d S lo (w.alloc (.cells #[] 64)) (some ⟨w.heap.size,0,none⟩) 0 0 []:=⟨⟨[],Z0i w lo _ _ h,rfl,by simp,by simp⟩,rfl⟩
theorem Zac {g:Nat} {out ks:List Z6} {ws rest:List Z7} (h:rdC g out ws=some (ks,rest)):∃g' x r,g=g'+1∧rdE g' 1 ws=some (x,r)∧
  ((Zp r (sgB 41)=true∧ks=out++[x]∧rest=r.tail)∨(Zp r (sgB 41)=false∧Zp r (sgB 44)=true∧rdC g' (out++[x]) r.tail=some (ks,rest))):=by
 cases g with
 | zero=>rw [rdC] at h;cases h
 | succ g=>
  rw [rdC] at h
  cases hr:rdE g 1 ws with
  | none=>rw [hr] at h;cases h
  | some q=>
   rw [hr] at h
   obtain⟨x,r⟩:=q
   rw [Option.bind_some] at h
   dsimp only at h
   refine⟨g,x,r,rfl,hr,?_⟩
   cases h1:Zp r (sgB 41) with
   | true=>rw [h1,if_pos rfl] at h;cases h;exact .inl ⟨rfl,rfl,rfl⟩
   | false=>
    rw [h1,if_neg (by decide)] at h
    cases h4:Zp r (sgB 44) with
    | true=>rw [h4,if_pos rfl] at h;exact .inr ⟨rfl,rfl,h⟩
    | false=>rw [h4,if_neg (by decide)] at h;cases h
theorem Z9C (n:Nat) (w:World):Calls Tryz.prog 159 #[.int .i64 (n:Int)] w fun e w'=>e=.returned (.int .i64 1)∧w'=w:=by
 have h:¬(n:Int)<0:=by omega
 go_enter Tryz.func159,Tryz.ntmps159
 go_wp2
 go_ret
 exact⟨rfl,rfl⟩
theorem Z8k (f:Nat) (hR:∀g,g≤f→Z9x g):Zca (f+1):=by
 intro la lc ws at_ ks rest w hat hW hr
 have hwl:ws.length≤4000000:=hW.short
 have HW:=hdd hW
 have HR:=hdd hR
 rw [rdK] at hr
 clear hR hW
 cases h41:Zp (ws.drop at_) (sgB 41) with
 | true=>
  rw [h41,if_pos rfl] at hr
  obtain⟨rfl,rfl⟩:ks=[]∧rest=(ws.drop at_).tail:=by cases hr;exact⟨rfl,rfl⟩
  have hba:Below w.heap.size w (w.alloc (.cells #[] 64)):=(bRf _ _).alloc (Nat.le_refl _) _
  have HIS:=hdd (Z0l (lc:=lc) (HW.out.later hba) h41)
  have HE:=hdd (aI hba (Z2O h41))
  clear hr h41 hba
  go_enter Tryz.func151,Tryz.ntmps151
  go_wp2_with fail
  refine HIS.out.mono ?_
  rintro e w1 ⟨rfl,rfl⟩
  have hlt:=HE.out.2
  go_wp2
  go_ret2
  exact⟨_,0,1,at_+1,rfl,⟨⟨rfl,[],.inl rfl,rfl,by simp,by simp⟩,fun h=>absurd rfl h⟩,Nat.zero_le _,by omega,by omega,by rw [List.tail_drop],HE.out.1⟩
 | false=>
  rw [h41,if_neg (by decide)] at hr
  have hba:Below w.heap.size w (w.alloc (.cells #[] 64)):=(bRf _ _).alloc (Nat.le_refl _) _
  have HIS:=hdd (Z0l (lc:=lc) (HW.out.later hba) h41)
  have HST:=hdd (show(∃g,g≤f∧rdC g [] (ws.drop at_)=some (ks,rest))∧(∃d,Z1c d (fun k=>w.heap.size≤k) w.heap.size (w.alloc (.cells #[] 64)) (some ⟨w.heap.size,0,none⟩) 0 0 [])∧Below w.heap.size w (w.alloc (.cells #[] 64)) from
   ⟨⟨f,Nat.le_refl _,hr⟩,⟨1,Z1c.empty _ _ _ w (Nat.le_refl _)⟩,hba⟩)
  clear hr h41 hba
  go_enter Tryz.func151,Tryz.ntmps151
  go_wp2_with fail
  refine HIS.out.mono ?_
  rintro e w1 ⟨rfl,rfl⟩
  go_wp2_with fail
  go_loopg [1,6] (ws.length-at_) (fun G i o wr=>∃(at2:Nat) (out:List Z6) (a:Option Addr) (c:Nat),at2+G=ws.length∧at_≤at2∧i=.int .i64 at2∧o=.slice a out.length c∧Hid ((∃g,g≤f∧rdC g out (ws.drop at2)=some (ks,rest))∧(∃d,Z1c d (fun k=>w.heap.size≤k) w.heap.size wr a out.length c out)∧Below w.heap.size w wr∧out.length≤at2))
  case atStart=>exact⟨at_,[],_,0,by omega,Nat.le_refl _,rfl,rfl,hdd ⟨HST.out.1,HST.out.2.1,HST.out.2.2,Nat.zero_le _⟩⟩
  case round=>
   clear HST HIS
   obtain⟨at2,out,a,c,hG,hle,rfl,rfl,HS⟩:=hrel
   obtain⟨⟨g,hg,hc⟩,⟨d,hgr⟩,hbw,hol⟩:=HS.out
   obtain⟨g',x,r,rfl,hx,hc⟩:=Zac hc
   have HWr:=hdd (HW.out.later hbw)
   have HCR:=hdd (HR.out g' (by omega) la lc ws at2 1 x r wr (by omega) (by omega) HWr.out hx)
   have HC:=hdd hc
   have HGR:=hdd (aI hgr hbw)
   clear hx hc hgr hbw HS
   go_wp2_with fail
   refine HCR.out.mono ?_
   rintro e w5 ⟨cs,d2,at3,rfl,hx,h1,h2,h3,hb5⟩
   obtain⟨ka,kc,rfl⟩:=Zj hx
   have hba:Below w5.heap.size w5 (w5.alloc (.cells #[.int .i64 x.op,.int .i64 x.n,.string x.name,.slice ka x.kids.length kc] 64)):=(bRf _ _).alloc (Nat.le_refl _) _
   have hrx:=hAn w5 (.cells #[.int .i64 x.op,.int .i64 x.n,.string x.name,.slice ka x.kids.length kc] 64)
   have x0:=coR _ _ 0 _ _ _ hrx
   have x1:=coR _ _ 1 _ _ _ hrx
   have x2:=coR _ _ 2 _ _ _ hrx
   have x3:=coR _ _ 3 _ _ _ hrx
   simp only [ga0,ga1,ga2] at x0 x1 x2 x3
   have HX:=hdd (aI (Zz hba hx) (aI h1 (aI h2 (aI h3 (hb5.trans (hba.mono hb5.size))))))
   clear hx h1 h2 h3 hb5 hba hrx
   go_upto_region 5 with fail
   obtain⟨xb,hxb⟩:∃n,n=w5.heap.size:=⟨_,rfl⟩
   generalize w5.alloc (.cells #[.int .i64 x.op,.int .i64 x.n,.string x.name,.slice ka x.kids.length kc] 64)=w6 at HX x0 x1 x2 x3 ⊢
   rw [← hxb] at x0 x1 x2 x3 ⊢
   clear hxb
   have hb7:Below w6.heap.size w6 (w6.alloc (.cells #[.int .i64 x.op,.int .i64 x.n,.string x.name,.slice ka x.kids.length kc] 64)):=(bRf _ _).alloc (Nat.le_refl _) _
   have HB7:=hdd (HX.out.2.2.2.2.trans (hb7.mono HX.out.2.2.2.2.size))
   obtain⟨cells,hrows⟩:=((HGR.out.1.wide (Nat.le_max_left d d2) (fun _ _ h=>h)).below HB7.out).rows
   have HRW:=hdd hrows
   have HWS:=hdd (show w.heap.size≤wr.heap.size from HGR.out.2.size)
   have HKX:=hdd (show ZJ (max d d2) (fun k=>w.heap.size≤k∧¬(Value.slice a out.length c).ownBlock=some k) (w6.alloc (.cells #[.int .i64 x.op,.int .i64 x.n,.string x.name,.slice ka x.kids.length kc] 64)) [.int .i64 x.op,.int .i64 x.n,.string x.name,.slice ka x.kids.length kc] x from
    Z0x (Nat.le_max_right _ _) (Zz hb7 (Zh (fun k _ h=>by
     have h:wr.heap.size≤k:=h
     refine⟨by have:=HWS.out;omega,fun e=>?_⟩
     have h8:=HGR.out.1.rows
     obtain⟨cells2,h8⟩:=h8
     have:=(h8.1.lt k e).2
     omega) HX.out.1)))
   clear hb7 hrows
   go_upto_region 6 with(at_builtin;refine Zbf rfl (.tmp 22) (.tmp 24) rfl w.heap.size (.slice a out.length c) out.length _ rfl HRW.out.1 (some ⟨w6.heap.size,0,none⟩) 1 [.int .i64 x.op,.int .i64 x.n,.string x.name,.slice ka x.kids.length kc] rfl (.inr ⟨_,0,rfl,fun i v hv=>(coR _ _ (0+i) _ _ _ (hAn w6 _)).trans (by simpa using hv)⟩) rfl Z1T (by omega) (by have:=HB7.out.size;have:=HWS.out;omega) ?_;intro a2 c2 w9 hown2 hg2 hl2;have HGX:=hdd (show Z1c (max d d2) (fun k=>w.heap.size≤k) w.heap.size w9 a2 (out.length+1) c2 (out++[x]) from HRW.out.push rfl HKX.out hown2 hg2 hl2);have HNX:=hdd (show Below w.heap.size w w9 from(HGR.out.2.trans (HB7.out.mono HGR.out.2.size)).trans ((Zi hg2 (S:=fun k=>w.heap.size≤k) (fun k hk=>(HRW.out.1.lt k hk).1)).below (B:=w.heap.size) (by have:=HB7.out.size;have:=HWS.out;omega) (fun k h=>h)));clear hown2 hg2 hl2)
   clear x0 x1 x2 x3
   have hn3:¬(at3:Int)<0:=by omega
   have HW9:=hdd (HW.out.later HNX.out)
   rcases HC.out with⟨h41,rfl,rfl⟩|⟨h41,h44,hc⟩
   ·have h41':Zp (ws.drop at3) (sgB 41)=true:=by rw [HX.out.2.2.2.1];exact h41
    have hlt:=Z2O h41'
    have HI:=hdd (Z0l (lc:=lc) HW9.out h41')
    have HST:=hdd (Z9C at3 w9)
    clear h41 h41'
    go_wp2_with fail
    refine HI.out.mono ?_
    rintro e w10 ⟨rfl,rfl⟩
    go_wp2_with fail
    refine HST.out.mono ?_
    rintro e w11 ⟨rfl,rfl⟩
    have HLI:=hdd (show Z5u (ZJ (max d d2) (fun k=>w.heap.size≤k)) (fun k=>w.heap.size≤k) w11 a2 (out++[x]) from by
     have h:=HGX.out
     rw [show out.length+1=(out++[x]).length by simp] at h
     exact h.list.mono (fun _ _ _ h=>Zh (fun k _ h=>by rcases h with h|h<;>exact h) h) (fun k _ h=>by rcases h with h|h<;>exact h))
    have HLN:=hdd (show(out++[x]).length=out.length+1 by simp)
    go_wp2
    go_ret2
    exact⟨a2,c2,max d d2,at3+1,by rw [HLN.out];rfl,HLI.out,by rw [HLN.out];unfold maxLen;omega,by have:=HX.out.2.1;omega,by omega,by rw [← HX.out.2.2.2.1,List.tail_drop],HNX.out⟩
   ·have h41':Zp (ws.drop at3) (sgB 41)=false:=by rw [HX.out.2.2.2.1];exact h41
    have h44':Zp (ws.drop at3) (sgB 44)=true:=by rw [HX.out.2.2.2.1];exact h44
    have hlt:=Z2O h44'
    have HI:=hdd (Z0l (lc:=lc) HW9.out h41')
    have HI4:=hdd (Z0l (lc:=lc) HW9.out h44')
    have HC2:=hdd hc
    clear h41 h41' h44 h44' hc
    go_wp2_with fail
    refine HI.out.mono ?_
    rintro e w10 ⟨rfl,rfl⟩
    go_wp2_with fail
    refine HI4.out.mono ?_
    rintro e w11 ⟨rfl,rfl⟩
    go_wp2
    go_roundg (ws.length-(at3+1))
    case measure=>have:=HX.out.2.1;omega
    case rel=>
     refine⟨at3+1,out++[x],a2,c2,by omega,by have:=HX.out.2.1;omega,by go_num,by simp,hdd ⟨⟨g',by omega,?_⟩,⟨max d d2,?_⟩,HNX.out,by have:=HX.out.2.1;simp;omega⟩⟩
     ·rw [← List.tail_drop,HX.out.2.2.2.1];exact HC2.out
     ·have h:=HGX.out
      rw [show out.length+1=(out++[x]).length by simp] at h
      exact h
theorem Zbo (ws:List Z7):rdT 0 ws=none:=by
 cases ws with
 | nil=>rw [rdT]
 | cons w r=>rw [rdT]
theorem Z7s:∀f,Z9x f∧Z8R f∧Zca f:=by
 intro f
 induction f using Nat.strongRecOn with
 | ind f ih=>
  cases f with
  | zero=>
   refine⟨fun la lc ws at_ n x rest w _ _ _ h=>?_,fun la lc ws at_ x rest w _ _ h=>?_,fun la lc ws at_ ks rest w _ _ h=>?_⟩
   ·rw [rdE] at h;cases h
   ·rw [Zbo] at h;cases h
   ·rw [rdK] at h;cases h
  | succ f=>
   have hR:∀g,g≤f→Z9x g:=fun g hg=>(ih g (by omega)).1
   exact⟨Z8d f (ih f (by omega)).2.1 hR,Z7q f (ih f (by omega)).2.1 (ih f (by omega)).1 (ih f (by omega)).2.2,Z8k f hR⟩
structure Z0u (w:World) (rb:Nat) (la:Option Addr) (lc:Nat) (ws:List Z7) (at_:Nat):Prop where
 row:w.heap[rb]? = some (.cells #[.slice la ws.length lc,.int .i64 (at_:Int)] 77 (0,0))
 list:Za 2 Z3p (fun k=>k≠rb) w la ws
 ok:∀v∈ws,ZV v
 short:ws.length≤4000000
 place:at_≤ws.length
section
variable {w w':World} {rb:Nat} {la:Option Addr} {lc:Nat} {ws:List Z7} {at_ at2:Nat}
theorem Z0u.words (h:Z0u w rb la lc ws at_):Z2s w la ws:=⟨h.list.mono ZC (fun _ _ _=>trivial),h.ok,h.short⟩
theorem Z0u.lt (h:Z0u w rb la lc ws at_):rb<w.heap.size:=(gsI h.row).1
theorem Z0u.later (h:Z0u w rb la lc ws at_) (hb:Below w.heap.size w w'):Z0u w' rb la lc ws at_:=⟨(hb.block rb h.lt).trans h.row,h.list.below ZC hb,h.ok,h.short,h.place⟩
theorem Z0u.turn (h:Z0u w rb la lc ws at_) (ht:Zd rb w w') (hr:w'.heap[rb]? = some (.cells #[.slice la ws.length lc,.int .i64 (at2:Int)] 77 (0,0))) (hp:at2≤ws.length):Z0u w' rb la lc ws at2:=
 ⟨hr,(h.list.here ZC).turned ZC ht (fun k _ h1 h2=>by rcases h2 with h2|h2;exact h1.1 h2;have:=h1.2;omega) |>.mono ZC (fun k _ h=>h.1),h.ok,h.short,hp⟩
theorem Z0u.cells (h:Z0u w rb la lc ws at_):w.cell? ⟨rb,0,none⟩=some (.slice la ws.length lc)∧w.cell? ⟨rb,1,none⟩=some (.int .i64 (at_:Int))∧w.frozen? ⟨rb,1,none⟩=false:=
 ⟨(coR _ _ 0 _ _ _ h.row).trans rfl,(coR _ _ 1 _ _ _ h.row).trans rfl,frR _ _ 1 _ _ h.row⟩
theorem Z0u.put (h:Z0u w rb la lc ws at_) (hp:at2≤ws.length):Z0u (w.setCell ⟨rb,1,none⟩ (.int .i64 (at2:Int))) rb la lc ws at2∧Zd rb w (w.setCell ⟨rb,1,none⟩ (.int .i64 (at2:Int))):=by
 have ht:Zd rb w (w.setCell ⟨rb,1,none⟩ (.int .i64 (at2:Int))):=(Z4 w rb 1 (.int .i64 (at2:Int))).mono (fun k hk=>.inl hk)
 exact⟨h.turn ht ((hSs w rb 1 _ _ _ h.row).trans rfl) hp,ht⟩
end
theorem Z2L {w:World} {rb:Nat} {la:Option Addr} {lc:Nat} {ws:List Z7} {at_:Nat} (h:Z0u w rb la lc ws at_) (s:ByteArray) {b:Bool} (hb:Zp (ws.drop at_) s=b) :
  Calls Tryz.prog 63 #[.pointer (some ⟨rb,0,none⟩),.string s] w fun e w'=>e=.returned (.bool b)∧Below w.heap.size w w':=by
 obtain⟨k0,k1,-⟩:=h.cells
 have hge:(0:Int)≤(at_:Int):=by omega
 have HI:=hdd (fun q=>Z0l (lc:=lc) (h.words.later (below_drewN (bRf _ _) q)) hb)
 clear h hb
 go_enter Tryz.func63,Tryz.ntmps63
 go_wp2_with fail
 go_quiet (exact Calls.quiet_of_same (HI.out _))
 go_wp2
 go_ret
 exact⟨rfl,below_drewN (bRf _ _) _⟩
theorem Z02 {w:World} {rb:Nat} {la:Option Addr} {lc:Nat} {ws:List Z7} {at_:Nat} (h:Z0u w rb la lc ws at_) (s:ByteArray) (hb:Zp (ws.drop at_) s=true) :
  Calls Tryz.prog 61 #[.pointer (some ⟨rb,0,none⟩),.string s] w fun e w'=>e=.returned (.tuple #[])∧Z0u w' rb la lc ws (at_+1)∧Zd rb w w':=by
 have HI:=hdd (Z2L h s hb)
 have hlt:=Z2O hb
 have hsh:=h.short
 have HH:=hdd h
 clear h hb
 go_enter Tryz.func61,Tryz.ntmps61
 go_wp2_with fail
 refine HI.out.mono ?_
 rintro e w2 ⟨rfl,hb2⟩
 have HH2:=hdd (HH.out.later hb2)
 obtain⟨k0,k1,z1⟩:=HH2.out.cells
 have HP:=(HH2.out.put (at2:=at_+1) (by omega))
 rw [show((at_+1:Nat):Int)=(at_:Int)+1 by omega] at HP
 have HP:=hdd HP
 have HT:=hdd (Zd.below (br:=rb) hb2)
 clear hb2
 go_wp2
 refine bodyPost_end (results_none rfl _ _ _) rfl ?_
 exact⟨rfl,HP.out.1,HT.out.trans HP.out.2⟩
theorem Z2I {w:World} {rb:Nat} {la:Option Addr} {lc:Nat} {ws:List Z7} {at_:Nat} (h:Z0u w rb la lc ws at_) {v:Z7} (hv:ws[at_]? = some v) (hk:v.kind=1) :
  Calls Tryz.prog 62 #[.pointer (some ⟨rb,0,none⟩)] w fun e w'=>e=.returned (.string v.text)∧Z0u w' rb la lc ws (at_+1)∧Zd rb w w':=by
 have hlt:=(List.getElem?_eq_some_iff.1 hv).1
 obtain⟨b,off,v',rfl,hv',c0,c1⟩:=Z1w h.list hlt
 obtain rfl:v=v':=Option.some.inj (hv.symm.trans hv')
 rw [hk] at c0
 have hsh:=h.short
 obtain⟨k0,k1,z1⟩:=h.cells
 have HH:=hdd h
 have hge:¬(at_:Int)<0:=by omega
 have hge2:¬(ws.length:Int)≤(at_:Int):=by omega
 clear h hv hv' hk
 go_enter Tryz.func62,Tryz.ntmps62
 go_wp2_with fail
 go_quiet (fail)
 have HD:=hdd (HH.out.later (below_drewN (bRf w.heap.size w) nq))
 have HTD:=hdd (Zd.drewN rb w nq)
 have HCD:=hdd (show(w.drewN nq).cell? ⟨b,off+at_*2+1,none⟩=some (.string v.text) from c1)
 clear k0 k1 z1 c0 c1 HH
 generalize w.drewN nq=wd at HD HTD HCD ⊢
 obtain⟨k0,k1,z1⟩:=HD.out.cells
 have HP:=(HD.out.put (at2:=at_+1) (by omega))
 rw [show((at_+1:Nat):Int)=(at_:Int)+1 by omega] at HP
 have HP:=hdd HP
 have HNE:=hdd (show b≠rb from by
  obtain⟨b',off',h1,h2,_⟩:=HD.out.list.blk (by intro h;rw [h] at hlt;simp at hlt)
  cases h1
  exact h2)
 go_upto_region 5 with fail
 have HC2:=hdd (show(wd.setCell ⟨rb,1,none⟩ (.int .i64 ((at_:Int)+1))).cell? ⟨b,off+at_*2+1,none⟩=some (.string v.text) from(World.cell?_of_block (heap_setCell_other wd _ _ _ HNE.out)).trans HCD.out)
 clear k0 k1 z1
 generalize wd.setCell ⟨rb,1,none⟩ (.int .i64 ((at_:Int)+1))=w2 at HP HC2 ⊢
 obtain⟨k0,k1,z1⟩:=HP.out.1.cells
 rw [show((at_+1:Nat):Int)=(at_:Int)+1 by omega] at k1
 have hsub:(at_:Int)+1-1=(at_:Int):=by omega
 have hsub2:wrap64 ((at_:Int)+1-1)=(at_:Int):=by rw [hsub];exact IntWalk.wrap64_in _ (by omega)
 have hsub3:IntKind.i64.wrap ((at_:Int)+1-1)=(at_:Int):=by rw [hsub];exact(IntWalk.i64_left _).trans (IntWalk.wrap64_in _ (by omega))
 have hlti:(at_:Int)<(ws.length:Int):=by omega
 have d1:=HC2.out
 go_quiet (fail)
 have HE:=hdd (aI (HP.out.1.later (below_drewN (bRf w2.heap.size w2) nq)) ((HTD.out.trans HP.out.2).trans (Zd.drewN rb w2 nq)))
 go_wp2
 go_ret
 exact⟨rfl,HE.out.1,HE.out.2⟩
def Z1p:List ByteArray:=[⟨#[]⟩,⟨#[108,101,116]⟩,⟨#[]⟩,⟨#[115,97,121]⟩,⟨#[112,117,116]⟩,⟨#[105,102]⟩,⟨#[108,111,111,112]⟩,⟨#[98,97,99,107]⟩,⟨#[100,111]⟩]
theorem Zbk {s:ByteArray} {k:Nat} (hk:Z1p[k]? = some s) (hs:1≤s.size):ZZ s=(k:Int):=by
 have h:∀j:Fin 9,1≤(Z1p.getD j.val ⟨#[]⟩).data.toList.length→ZZ (Z1p.getD j.val ⟨#[]⟩)=(j.val:Int):=by decide
 have hl:k<9:=(List.getElem?_eq_some_iff.1 hk).1
 have he:Z1p.getD k ⟨#[]⟩=s:=by rw [List.getD_eq_getElem?_getD,hk];rfl
 have:=h ⟨k,hl⟩
 simp only [he] at this
 exact this (by rw [Z0F];exact hs)
theorem Z9j {s:ByteArray} (h:∀k:Nat,1≤k→k<9→Z1p[k]?≠some s):ZZ s=2:=by
 unfold ZZ
 rw [if_neg (fun e=>h 1 (by omega) (by omega) (by rw [e];rfl)),if_neg (fun e=>h 3 (by omega) (by omega) (by rw [e];rfl)),if_neg (fun e=>h 4 (by omega) (by omega) (by rw [e];rfl)),if_neg (fun e=>h 5 (by omega) (by omega) (by rw [e];rfl)),
  if_neg (fun e=>h 6 (by omega) (by omega) (by rw [e];rfl)),if_neg (fun e=>h 7 (by omega) (by omega) (by rw [e];rfl)),if_neg (fun e=>h 8 (by omega) (by omega) (by rw [e];rfl))]
theorem ZbO (s:ByteArray) (hs:1≤s.size) (w:World):Calls Tryz.prog 109 #[.string s] w fun e w'=>e=.returned (.int .i64 (ZZ s))∧Below w.heap.size w w':=by
 have HB:=hdd (show Below w.heap.size w (w.alloc (.cells (Z1p.map Value.string).toArray 9)) from(bRf _ _).alloc (Nat.le_refl _) _)
 have HS:=hdd (show Z6r (w.alloc (.cells (Z1p.map Value.string).toArray 9)) (some ⟨w.heap.size,0,none⟩) 9 Z1p from⟨rfl,.inr ⟨_,_,rfl,fun i v hv=>by
  rw [coR _ _ (0+i) _ _ _ (hAn w (.cells (Z1p.map Value.string).toArray 9))]
  simpa using hv⟩⟩)
 have hse:s.toList.isEmpty=false:=by
  cases he:s.toList.isEmpty with
  | false=>rfl
  | true=>rw [Z3K he] at hs;exact absurd hs (by decide)
 obtain⟨R,hR⟩:∃R,R=ZZ s:=⟨_,rfl⟩
 rw [← hR]
 have HR:=hdd hR
 clear hR
 go_enter Tryz.func109,Tryz.ntmps109
 go_upto_region 2 with fail
 obtain⟨kb,hkb⟩:∃n,n=w.heap.size:=⟨_,rfl⟩
 generalize hW:w.alloc (.cells #[.string ⟨#[]⟩,.string ⟨#[108,101,116]⟩,.string ⟨#[]⟩,.string ⟨#[115,97,121]⟩,.string ⟨#[112,117,116]⟩,.string ⟨#[105,102]⟩,.string ⟨#[108,111,111,112]⟩,.string ⟨#[98,97,99,107]⟩,.string ⟨#[100,111]⟩] 9)=W1
 rw [show(w.alloc (.cells (Z1p.map Value.string).toArray 9))=W1 from hW] at HB HS
 rw [← hkb] at HS ⊢
 clear hW hkb
 go_wp2_with fail
 go_loopg [4] 8 (fun G i wr=>∃k:Nat,k+G=9∧i=.int .i64 k∧1≤k∧Hid (∀j:Nat,1≤j→j<k→Z1p[j]?≠some s)∧wr=W1)
 case atStart=>exact⟨1,by omega,by go_num,by omega,hdd (fun j h1 h2=>by omega),rfl⟩
 case round=>
  obtain⟨k,hk,rfl,hk1,HJ,rfl⟩:=hrel
  by_cases hlt:k<9
  ·obtain⟨b,off,y,hby,hy,hc⟩:=HS.out.place hlt
   obtain⟨rfl,rfl⟩:kb=b∧0=off:=by simpa using hby
   have hki:(k:Int)<9:=by omega
   have HY:=hdd hy
   simp only [Nat.zero_add] at hc
   clear hy hby
   by_cases he:y=s
   ·have HE:=hdd (show R=(k:Int) by rw [HR.out];exact Zbk (by rw [← he];exact HY.out) hs)
    have ht:(y.toList==s.toList)=true:=by rw [he];simp
    have HEE:=hdd he
    clear he
    go_wp2
    go_ret
    exact⟨by rw [HE.out];rfl,HB.out⟩
   ·have HN:=hdd (show ∀j:Nat,1≤j→j<k+1→Z1p[j]?≠some s from fun j h1 h2 hj=>by
     by_cases hjk:j=k
     ·subst hjk
      rw [HY.out] at hj
      exact he (Option.some.inj hj)
     ·exact HJ.out j h1 (by omega) hj)
    have ht:(y.toList==s.toList)=false:=Z1m he
    clear he
    go_wp2
    go_roundg (gk-1)
    case measure=>omega
    case rel=>exact⟨k+1,by omega,by go_num,by omega,HN,rfl⟩
  ·obtain rfl:k=9:=by omega
   have HE:=hdd (show R=2 by rw [HR.out];exact Z9j (fun k h1 h2=>HJ.out k h1 h2))
   go_wp2
   go_ret
   exact⟨by rw [HE.out];rfl,HB.out⟩
def Z7J {α : Type} (p:α→Bool):Nat→List α→Int
 | _,[]=>-1
 | k,x::xs=>if p x then (k:Int) else Z7J p (k+1) xs
theorem Za8 {α : Type} {p:α→Bool} {x:α} {zs:List α} (h:p x=true):∀(ys:List α) (k:Nat),(∀y∈ys,p y=false)→Z7J p k (ys++x::zs)=((k+ys.length:Nat):Int)
 | [],k,_=>by simp [Z7J,h]
 | y::ys,k,hy=>by
  rw [List.cons_append,Z7J,hy y List.mem_cons_self,if_neg (by simp),Za8 h ys (k+1) (fun z hz=>hy z (List.mem_cons_of_mem _ hz)),List.length_cons]
  omega
theorem Z7u {α : Type} {p:α→Bool}:∀(ys:List α) (k:Nat),(∀y∈ys,p y=false)→Z7J p k ys = -1
 | [],_,_=>rfl
 | y::ys,k,hy=>by rw [Z7J,hy y List.mem_cons_self,if_neg (by simp),Z7u ys (k+1) (fun z hz=>hy z (List.mem_cons_of_mem _ hz))]
theorem Z91 {α : Type} {p:α→Bool} {xs:List α} {j:Nat} {x:α} (hx:xs[j]? = some x) (h:p x=true) (hn:(xs.take j).any p=false):Z7J p 0 xs=(j:Int):=by
 obtain⟨hj,hxj⟩:=List.getElem?_eq_some_iff.1 hx
 have hs:xs=xs.take j++x::xs.drop (j+1):=by rw [← hxj,← List.drop_eq_getElem_cons hj,List.take_append_drop]
 rw [hs,Za8 h _ 0 (fun y hy=>by simpa using List.any_eq_false.1 hn y hy)]
 simp
 omega
theorem Z7A {α : Type} {p:α→Bool} {xs:List α} (hn:xs.any p=false):Z7J p 0 xs = -1:=Z7u xs 0 (fun y hy=>by simpa using List.any_eq_false.1 hn y hy)
theorem Z7O {α : Type} {p:α→Bool}:∀(xs:List α) (k:Nat),decide (0≤Z7J p k xs)=xs.any p
 | [],_=>rfl
 | x::xs,k=>by
  rw [Z7J,List.any_cons]
  cases h:p x with
  | true=>rw [if_pos rfl];simp
  | false=>rw [if_neg (by simp),Z7O xs (k+1)];rfl
theorem Z98 {α : Type} {p:α→Bool} {xs:List α} {k:Nat} {x:α} (h:xs[k]? = some x):(xs.take (k+1)).any p=((xs.take k).any p||p x):=by
 rw [Z0n h,List.any_append];simp
structure ZcR (w0:World) (f:Nat) (caps:Array Value) (D:Nat) (S:Nat→Prop) (p:Zb→Bool) (xs:List Zb):Prop where
 enter:∀v W,(callFunc f (#[v]++caps)).run Tryz.prog W=.ok (.enter f (#[v]++caps)) W
 calls:∀x∈xs,∀cs W,Below w0.heap.size w0 W→Zv D S W cs x→Calls Tryz.prog f (#[.agg cs.toArray]++caps) W fun e w'=>e=.returned (.bool (p x))∧Below W.heap.size W w'
theorem Zbn (f:Nat) (caps:Array Value) (D:Nat) (S:Nat→Prop) (p:Zb→Bool) (a:Option Addr) (c:Nat) (xs:List Zb) (w:World) (hin:Za 5 (Zv D) S w a xs) (hn:xs.length≤1000000) (hf:ZcR w f caps D S p xs) :
  Calls Tryz.prog 93 #[.slice a xs.length c,.func (.func f) #[] caps] w fun e w'=>e=.returned (.int .i64 (Z7J p 0 xs))∧Below w.heap.size w w':=by
 have hen:=hf.enter
 have HF:=hdd (aI hf.calls hin)
 have hn2:xs.length≤9223372036854775807:=by omega
 have HN:=hdd hn
 obtain⟨R,hR⟩:∃R,R=Z7J p 0 xs:=⟨_,rfl⟩
 rw [← hR]
 have HR:=hdd hR
 clear hf hin hn hR
 go_enter Tryz.func93,Tryz.ntmps93
 go_wp2_with fail
 go_loopg [8] xs.length (fun G i wr=>∃(k:Nat),k+G=xs.length∧i=.int .i64 k∧Hid (Below w.heap.size w wr∧(xs.take k).any p=false))
 case atStart=>exact⟨0,by omega,rfl,hdd ⟨bRf _ _,rfl⟩⟩
 case round=>
  obtain⟨k,hk,rfl,HB⟩:=hrel
  by_cases hlt:k<xs.length
  ·have hki:(k:Int)<(xs.length:Int):=by omega
   obtain⟨b,off,x,aa,ac,ba,bc,ea,ec,rfl,hx,hS,c0,c1,c2,c3,c4⟩:=Z1x (HF.out.2.below (Z0 D) HB.out.1) hlt
   have HC:=hdd (HF.out.1 x (List.mem_of_getElem? hx) _ wr HB.out.1 hS)
   have HX:=hdd hx
   clear hx hS
   cases hv:p x with
   | false=>
    rw [hv] at HC
    have HT:=hdd (show(xs.take (k+1)).any p=false by rw [Z98 HX.out,HB.out.2,hv];rfl)
    clear hv
    go_wp2_with fail
    refine HC.out.mono ?_
    rintro e w5 ⟨rfl,hb5⟩
    have HB5:=hdd (HB.out.1.trans (hb5.mono HB.out.1.size))
    clear hb5 c0 c1 c2 c3 c4
    go_wp2
    go_roundg (gk-1)
    case measure=>omega
    case rel=>exact⟨k+1,by omega,by go_num,hdd ⟨HB5.out,HT.out⟩⟩
   | true=>
    rw [hv] at HC
    have HT:=hdd (show(k:Int)=R by rw [HR.out];exact(Z91 HX.out hv HB.out.2).symm)
    clear hv
    go_wp2_with fail
    refine HC.out.mono ?_
    rintro e w5 ⟨rfl,hb5⟩
    have HB5:=hdd (HB.out.1.trans (hb5.mono HB.out.1.size))
    clear hb5 c0 c1 c2 c3 c4
    go_wp2
    go_ret
    exact⟨Z2m HT.out,HB5.out⟩
  ·obtain rfl:k=xs.length:=by omega
   have HT:=hdd (show(-1:Int)=R by
    have h1:=HB.out.2
    rw [List.take_length] at h1
    rw [HR.out,Z7A h1])
   go_wp2
   go_ret
   exact⟨Z2m HT.out,HB.out.1⟩
theorem Zbe (f:Nat) (caps:Array Value) (D:Nat) (S:Nat→Prop) (p:Zb→Bool) (a:Option Addr) (c:Nat) (xs:List Zb) (w:World) (hin:Za 5 (Zv D) S w a xs) (hn:xs.length≤1000000) (hf:ZcR w f caps D S p xs) :
  Calls Tryz.prog 70 #[.slice a xs.length c,.func (.func f) #[] caps] w fun e w'=>e=.returned (.bool (xs.any p))∧Below w.heap.size w w':=by
 have HI:=hdd (Zbn f caps D S p a c xs w hin hn hf)
 obtain⟨i,hi⟩:∃i,i=Z7J p 0 xs:=⟨_,rfl⟩
 rw [← hi] at HI
 have HA:=hdd (show decide (0≤i)=xs.any p by rw [hi];exact Z7O xs 0)
 clear hi hin hn hf
 go_enter Tryz.func70,Tryz.ntmps70
 go_wp2_with fail
 refine HI.out.mono ?_
 rintro e w5 ⟨rfl,hb5⟩
 have HB5:=hdd hb5
 clear hb5
 go_wp2
 go_ret
 exact⟨ZN HA.out,HB5.out⟩
structure ZcV (w0:World) (f:Nat) (caps:Array Value) (S:Nat→Prop) (p:ByteArray→Bool) (xs:List ByteArray):Prop where
 enter:∀v W,(callFunc f (#[v]++caps)).run Tryz.prog W=.ok (.enter f (#[v]++caps)) W
 calls:∀x∈xs,∀s W,Below w0.heap.size w0 W→(fun (_:World) (s:ByteArray) (x:ByteArray)=>s=x∧x.size≤maxLen) W s x→Calls Tryz.prog f (#[.string s]++caps) W fun e w'=>e=.returned (.bool (p x))∧Below W.heap.size W w'
theorem Zb5 (f:Nat) (caps:Array Value) (S:Nat→Prop) (p:ByteArray→Bool) (a:Option Addr) (c:Nat) (xs:List ByteArray) (w:World) (hin:Za 1 Z1V S w a xs) (hn:xs.length≤1000000) (hf:ZcV w f caps S p xs) :
  Calls Tryz.prog 69 #[.slice a xs.length c,.func (.func f) #[] caps] w fun e w'=>e=.returned (.int .i64 (Z7J p 0 xs))∧Below w.heap.size w w':=by
 have hen:=hf.enter
 have HF:=hdd (aI hf.calls hin)
 have hn2:xs.length≤9223372036854775807:=by omega
 have HN:=hdd hn
 obtain⟨R,hR⟩:∃R,R=Z7J p 0 xs:=⟨_,rfl⟩
 rw [← hR]
 have HR:=hdd hR
 clear hf hin hn hR
 go_enter Tryz.func69,Tryz.ntmps69
 go_wp2_with fail
 go_loopg [8] xs.length (fun G i wr=>∃(k:Nat),k+G=xs.length∧i=.int .i64 k∧Hid (Below w.heap.size w wr∧(xs.take k).any p=false))
 case atStart=>exact⟨0,by omega,rfl,hdd ⟨bRf _ _,rfl⟩⟩
 case round=>
  obtain⟨k,hk,rfl,HB⟩:=hrel
  by_cases hlt:k<xs.length
  ·have hki:(k:Int)<(xs.length:Int):=by omega
   obtain⟨b,off,x,rfl,hx,hS,c0⟩:=Z1B (HF.out.2.below Z3 HB.out.1) hlt
   have HC:=hdd (HF.out.1 x (List.mem_of_getElem? hx) x wr HB.out.1 ⟨rfl,hS⟩)
   have HX:=hdd hx
   clear hx hS
   cases hv:p x with
   | false=>
    rw [hv] at HC
    have HT:=hdd (show(xs.take (k+1)).any p=false by rw [Z98 HX.out,HB.out.2,hv];rfl)
    clear hv
    go_wp2_with fail
    refine HC.out.mono ?_
    rintro e w5 ⟨rfl,hb5⟩
    have HB5:=hdd (HB.out.1.trans (hb5.mono HB.out.1.size))
    clear hb5 c0
    go_wp2
    go_roundg (gk-1)
    case measure=>omega
    case rel=>exact⟨k+1,by omega,by go_num,hdd ⟨HB5.out,HT.out⟩⟩
   | true=>
    rw [hv] at HC
    have HT:=hdd (show(k:Int)=R by rw [HR.out];exact(Z91 HX.out hv HB.out.2).symm)
    clear hv
    go_wp2_with fail
    refine HC.out.mono ?_
    rintro e w5 ⟨rfl,hb5⟩
    have HB5:=hdd (HB.out.1.trans (hb5.mono HB.out.1.size))
    clear hb5 c0
    go_wp2
    go_ret
    exact⟨Z2m HT.out,HB5.out⟩
  ·obtain rfl:k=xs.length:=by omega
   have HT:=hdd (show(-1:Int)=R by
    have h1:=HB.out.2
    rw [List.take_length] at h1
    rw [HR.out,Z7A h1])
   go_wp2
   go_ret
   exact⟨Z2m HT.out,HB.out.1⟩
theorem Zbb (f:Nat) (caps:Array Value) (S:Nat→Prop) (p:ByteArray→Bool) (a:Option Addr) (c:Nat) (xs:List ByteArray) (w:World) (hin:Za 1 Z1V S w a xs) (hn:xs.length≤1000000) (hf:ZcV w f caps S p xs) :
  Calls Tryz.prog 43 #[.slice a xs.length c,.func (.func f) #[] caps] w fun e w'=>e=.returned (.bool (xs.any p))∧Below w.heap.size w w':=by
 have HI:=hdd (Zb5 f caps S p a c xs w hin hn hf)
 obtain⟨i,hi⟩:∃i,i=Z7J p 0 xs:=⟨_,rfl⟩
 rw [← hi] at HI
 have HA:=hdd (show decide (0≤i)=xs.any p by rw [hi];exact Z7O xs 0)
 clear hi hin hn hf
 go_enter Tryz.func43,Tryz.ntmps43
 go_wp2_with fail
 refine HI.out.mono ?_
 rintro e w5 ⟨rfl,hb5⟩
 have HB5:=hdd hb5
 clear hb5
 go_wp2
 go_ret
 exact⟨ZN HA.out,HB5.out⟩
theorem Z4t {fn:Func} {t u v x:Tmp} (h:fn.results=#[.tmp t,.tmp u,.tmp v,.tmp x]) (tmps:Array Value) (P:Program) (w:World) :
  (results fn tmps).run P w=.ok (.tuple #[tmps.getD t undef,tmps.getD u undef,tmps.getD v undef,tmps.getD x undef]) w:=by
 simp [results,h]
def ZaR (op:Int):Int:=if op=4 then 2 else if inE 1 op 8=true then 1 else -1
def Z9m (op:Int):Bool:=op==5||op==6
theorem Z70 (op:Int) (w:World):Calls Tryz.prog 94 #[.int .i64 op] w fun e w'=>e=.returned (.tuple #[.int .i64 (ZaR op),.bool (Z0D op),.bool (Z9m op),.bool (op==5)])∧w'=w:=by
 by_cases hin:1≤op∧op≤8
 ·have hc:op=1∨op=2∨op=3∨op=4∨op=5∨op=6∨op=7∨op=8:=by omega
  clear hin
  rcases hc with rfl|rfl|rfl|rfl|rfl|rfl|rfl|rfl
  all_goals
   go_enter Tryz.func94,Tryz.ntmps94
   go_wp2
   refine bodyPost_ret (Z4t rfl _ _ _) rfl ?_
   exact⟨rfl,rfl⟩
 ·have HIN:=hdd (show inE 1 op 8=false by rw [inE,Bool.and_eq_false_iff,decide_eq_false_iff_not,decide_eq_false_iff_not];omega)
  have t1:(op==1)=false:=by simp;omega
  have t2:(op==2)=false:=by simp;omega
  have t3:(op==3)=false:=by simp;omega
  have t4:(op==4)=false:=by simp;omega
  have t5:(op==5)=false:=by simp;omega
  have t6:(op==6)=false:=by simp;omega
  have t7:(op==7)=false:=by simp;omega
  have t8:(op==8)=false:=by simp;omega
  have HR:=hdd (show ZaR op = -1∧Z0D op=false∧Z9m op=false by
   refine⟨?_,by rw [Z0D,t1,t2];rfl,by rw [Z9m,t5,t6];rfl⟩
   rw [ZaR,if_neg (by omega),HIN.out,if_neg (by simp)])
  rw [HR.out.1,HR.out.2.1,HR.out.2.2,t5]
  clear hin
  go_enter Tryz.func94,Tryz.ntmps94
  go_wp2
  refine bodyPost_ret (Z4t rfl _ _ _) rfl ?_
  exact⟨rfl,rfl⟩
def Z2Q (n:Int) (nm bd ot:Bool) (op:Int) (name:ByteArray) (args:List Z6) (body els:List Zb):Bool:=
 ((args.length:Int) != n)||((nm&&!Zk name)||((!nm&&!name.toList.isEmpty)||((!bd&&!(body.length==0))||((!ot&&!(els.length==0))||((op==8)&&!((args.getD 0 default).op==13))))))
theorem Zcj (op:Int) (name:ByteArray) (args:List Z6) (body els:List Zb):ZbY (.mk op name args body els)=(!Z2Q (ZaR op) (Z0D op) (Z9m op) (op==5) op name args body els&&args.all Z1v):=by
 have hn:=fun h=>Z4g (s:=name) h
 rw [Z8O,Z2Q]
 by_cases hin:1≤op∧op≤8
 ·have h1:inE 1 op 8=true:=by simp [inE,hin.1,hin.2]
  have ha:ZaR op=Z3D op:=by unfold ZaR Z3D;rw [h1];simp
  rw [h1,ha]
  unfold Z9m
  rw [show((args.length:Int) != Z3D op) = !((args.length:Int)==Z3D op) from rfl]
  generalize ((args.length:Int)==Z3D op)=B
  generalize Z0D op=N
  generalize Zk name=M at hn ⊢
  generalize name.toList.isEmpty=D at hn ⊢
  generalize args.all Z1v=E
  generalize ((args.getD 0 default).op==13)=F
  generalize (op==8)=K
  generalize (op==5)=G
  generalize (op==6)=H
  generalize (els.length==0)=I
  generalize (body.length==0)=J
  have hn':D=true→M=false:=hn
  clear hn ha h1 hin
  revert B N M D E F K G H I J
  decide
 ·have h1:inE 1 op 8=false:=by rw [inE,Bool.and_eq_false_iff,decide_eq_false_iff_not,decide_eq_false_iff_not];omega
  have ha:ZaR op = -1:=by unfold ZaR;rw [if_neg (by omega),h1,if_neg (by simp)]
  rw [h1,ha]
  have hne:((args.length:Int) != -1)=true:=by simp
  rw [hne]
  rfl
def Z6I (D:Nat):Prop:=∀(d:Nat) (S:Nat→Prop) (cs:List Value) (s:Zb) (w:World),d≤4→Z3P w→Z1F w→Zv D S w cs s→
  Calls Tryz.prog 72 #[.agg cs.toArray,.int .i64 (5-d:Int)] w fun e w'=>e=.returned (.bool (ZH d s))∧Below w.heap.size w w'
theorem Z6N (D:Nat) (hD:Z6I D) (d:Nat) (S:Nat→Prop) (nb:Nat) (cs:List Value) (s:Zb) (w:World) (hd:d≤4) (hO:Z3P w) (hK:Z1F w) (hn:w.heap[nb]? = some (.cells #[.int .i64 (5-d:Int)] 3 (0,0))) (h:Zv D S w cs s) :
  Calls Tryz.prog 71 (#[.agg cs.toArray]++#[.pointer (some ⟨nb,0,none⟩)]) w fun e w'=>e=.returned (.bool (!ZH d s))∧Below w.heap.size w w':=by
 obtain⟨aa,ac,ba,bc,ea,ec,rfl⟩:=Z2C h
 have hba:Below w.heap.size w (w.alloc (.cells #[.int .i64 s.op,.string s.name,.slice aa s.args.length ac,.slice ba s.body.length bc,.slice ea s.els.length ec] 48)):=(bRf _ _).alloc (Nat.le_refl _) _
 have hrow:=hAn w (.cells #[.int .i64 s.op,.string s.name,.slice aa s.args.length ac,.slice ba s.body.length bc,.slice ea s.els.length ec] 48)
 have hn2:=(hba.block _ (gsI hn).1).trans hn
 have HB:=hdd (aI hba (hD d S _ s _ hd (hO.later hba) (hK.later hba) ((Z0 D).below hba h)))
 obtain⟨q,hq⟩:∃q:Int,q=5-d:=⟨_,rfl⟩
 rw [← hq] at HB hn2
 have n0:=coR _ _ 0 _ _ _ hn2
 have p0:=coR _ _ 0 _ _ _ hrow
 have p1:=coR _ _ 1 _ _ _ hrow
 have p2:=coR _ _ 2 _ _ _ hrow
 have p3:=coR _ _ 3 _ _ _ hrow
 have p4:=coR _ _ 4 _ _ _ hrow
 simp only [ga0,ga1,ga2] at n0 p0 p1 p2 p3 p4
 obtain⟨b,hb⟩:∃b,b=ZH d s:=⟨_,rfl⟩
 rw [← hb] at HB ⊢
 clear hba hrow hn hn2 hO hK h hD hd hq hb
 show Calls _ _ #[.agg #[.int .i64 s.op,.string s.name,.slice aa s.args.length ac,.slice ba s.body.length bc,.slice ea s.els.length ec],.pointer (some ⟨nb,0,none⟩)] w _
 go_enter Tryz.func71,Tryz.ntmps71
 go_wp2_with fail
 refine HB.out.2.mono ?_
 rintro e w5 ⟨rfl,hb5⟩
 have HB5:=hdd (HB.out.1.trans (hb5.mono HB.out.1.size))
 clear hb5 p0 p1 p2 p3 p4 n0
 go_wp2
 go_ret
 exact⟨rfl,HB5.out⟩
theorem Z3E (D:Nat) (hD:Z6I D) (d:Nat) (S:Nat→Prop) (a:Option Addr) (c:Nat) (xs:List Zb) (w:World) (hd:d≤4) (hO:Z3P w) (hK:Z1F w) (h:Za 5 (Zv D) S w a xs) (hl:xs.length≤100) :
  Calls Tryz.prog 45 #[.slice a xs.length c,.int .i64 (5-d:Int)] w fun e w'=>e=.returned (.bool (xs.all (ZH d)))∧Below w.heap.size w w':=by
 have hba:Below w.heap.size w (w.alloc (.cells #[.int .i64 (5-d:Int)] 3)):=(bRf _ _).alloc (Nat.le_refl _) _
 have hrow:=hAn w (.cells #[.int .i64 (5-d:Int)] 3)
 have HC:=hdd (aI hba (Zbe 71 #[.pointer (some ⟨w.heap.size,0,none⟩)] D S (fun s=>!ZH d s) a c xs _ (h.below (Z0 D) hba) (by omega) ⟨fun v W=>by kernel_rfl,fun x _ cs W hW hx=>by
  have hbW:=hba.trans (hW.mono hba.size)
  exact Z6N D hD d S w.heap.size cs x W hd (hO.later hbW) (hK.later hbW) ((hW.block _ (gsI hrow).1).trans hrow) hx⟩))
 have hall:xs.any (fun s=>!ZH d s) = !(xs.all (ZH d)):=by
  rw [Bool.eq_iff_iff];simp
 rw [hall] at HC
 obtain⟨b,hb⟩:∃b,b=xs.all (ZH d):=⟨_,rfl⟩
 rw [← hb] at HC ⊢
 obtain⟨q,hq⟩:∃q:Int,q=5-d:=⟨_,rfl⟩
 rw [← hq] at HC ⊢
 clear hba hrow hall hb hq hO hK h hD hd hl
 go_enter Tryz.func45,Tryz.ntmps45
 go_wp2_with fail
 refine HC.out.2.mono ?_
 rintro e w5 ⟨rfl,hb5⟩
 have HB5:=hdd (HC.out.1.trans (hb5.mono HC.out.1.size))
 clear hb5
 go_wp2
 go_ret
 exact⟨ZN (by cases b<;>rfl),HB5.out⟩
theorem Z87 (D:Nat) (hD:Z6I D):Z6I (D+1):=by
 intro d S cs s w hd hO hK h
 obtain⟨aa,ac,ba,bc,ea,ec,rfl,hb,hA,hB,hE⟩:=h
 obtain⟨op,name,args,body,els⟩:=s
 simp only [Zb.op,Zb.name,Zb.args,Zb.body,Zb.els] at *
 obtain⟨R,hR⟩:∃R,R=ZH d (.mk op name args body els):=⟨_,rfl⟩
 rw [← hR]
 have HR:=hdd hR
 clear hR
 have hba:Below w.heap.size w (w.alloc (.cells #[.int .i64 op,.string name,.slice aa args.length ac,.slice ba body.length bc,.slice ea els.length ec] 48)):=(bRf _ _).alloc (Nat.le_refl _) _
 have HB:=hdd (aI hba (aI (hA.below (Z1 12) hba) (aI (hB.below (Z0 D) hba) (aI (hE.below (Z0 D) hba) (aI (hO.later hba) (hK.later hba))))))
 have hrow:=hAn w (.cells #[.int .i64 op,.string name,.slice aa args.length ac,.slice ba body.length bc,.slice ea els.length ec] 48)
 have HL:=hdd (aI hb (aI hD hd))
 have hla:args.length≤9223372036854775807:=by omega
 clear hba hA hB hE hb hD hO hK
 obtain⟨q,hq⟩:∃q:Int,q=5-d:=⟨_,rfl⟩
 rw [← hq]
 have HQ:=hdd hq
 clear hq
 obtain⟨n,hn⟩:∃n,n=ZaR op:=⟨_,rfl⟩
 obtain⟨nm,hnm⟩:∃n,n=Z0D op:=⟨_,rfl⟩
 obtain⟨bd,hbd⟩:∃n,n=Z9m op:=⟨_,rfl⟩
 obtain⟨ot,hot⟩:∃n,n=(op==5):=⟨_,rfl⟩
 have HOWN:=hdd (show ZbY (.mk op name args body els)=(!Z2Q n nm bd ot op name args body els&&args.all Z1v) by rw [Zcj,← hn,← hnm,← hbd,← hot])
 have HAC:=hdd (fun W=>Z70 op W)
 rw [← hn,← hnm,← hbd,← hot] at HAC
 have HNN:=hdd (show n≤2∧(op=8→n=1) by
  rw [hn,ZaR]
  constructor
  ·split
   ·omega
   ·split<;>omega
  ·rintro rfl;decide)
 clear hn hnm hbd hot
 show Calls _ _ #[.agg #[.int .i64 op,.string name,.slice aa args.length ac,.slice ba body.length bc,.slice ea els.length ec],_] w _
 go_enter Tryz.func72,Tryz.ntmps72
 go_upto_region 1 with fail
 obtain⟨pb,hpb⟩:∃b,b=w.heap.size:=⟨_,rfl⟩
 rw [← hpb] at hrow ⊢
 generalize w.alloc (.cells #[.int .i64 op,.string name,.slice aa args.length ac,.slice ba body.length bc,.slice ea els.length ec] 48)=W1 at hrow HB ⊢
 have HBW:=hdd (show Below w.heap.size w W1 from HB.out.1)
 clear hpb
 have p0:=coR _ _ 0 _ _ _ hrow
 have p1:=coR _ _ 1 _ _ _ hrow
 have p2:=coR _ _ 2 _ _ _ hrow
 have p3:=coR _ _ 3 _ _ _ hrow
 have p4:=coR _ _ 4 _ _ _ hrow
 simp only [ga0,ga1,ga2] at p0 p1 p2 p3 p4
 clear hrow
 go_wp2_with fail
 refine(HAC.out W1).mono ?_
 rintro e w2 ⟨rfl,rfl⟩
 have HNM:=hdd (Z2a name w2 HB.out.2.2.2.2.2)
 go_upto_if 19 with fail
 go_cut [6,7,8,11,14,16,17,18,19] (fun v6 v7 v8 v11 v14 v16 v17 v18 v wx=>v=.bool (decide (4<q)||Z2Q n nm bd ot op name args body els)∧Hid (Below w2.heap.size w2 wx))
 case first=>
  as_aux_lemma=>
   by_cases hd0:d=0
   ·have hq4:(4:Int)<q:=by have:=HQ.out;omega
    have HBX:=hdd (bRf w2.heap.size w2)
    have hq4d:decide (4<q)=true:=decide_eq_true hq4
    clear hd0
    go_wp2_with fail
    go_meet
    exact⟨by rw [hq4d];rfl,HBX⟩
   ·have hq4:¬(4:Int)<q:=by have:=HQ.out;omega
    have hq4d:decide (4<q)=false:=decide_eq_false hq4
    clear hd0
    cases hln:((args.length:Int)==n) with
    | false=>
     have hnn:((args.length:Int) != n)=true:=by rw [bne,hln];rfl
     have HBX:=hdd (bRf w2.heap.size w2)
     go_wp2_with fail
     go_meet
     exact⟨by rw [Z2Q,hq4d,hnn];simp,HBX⟩
    | true=>
     have hnn:((args.length:Int) != n)=false:=by rw [bne,hln];rfl
     have HLN:=hdd (show(args.length:Int)=n by simpa using hln)
     cases hnm:nm with
     | true=>
      cases hM:Zk name with
      | true=>
       rw [hM] at HNM
       go_wp2_with fail
       refine HNM.out.mono ?_
       rintro e w5 ⟨rfl,hb5⟩
       have HBX:=hdd hb5
       have k0:=clT hb5 p0
       have k1:=clT hb5 p1
       have k2:=clT hb5 p2
       have k3:=clT hb5 p3
       have k4:=clT hb5 p4
       clear hb5 p0 p1 p2 p3 p4
       cases hbd:bd with
       | true=>
        cases hot:ot with
        | true=>
         by_cases t8o:op=8
         ·have HN1:=hdd (HNN.out.2 t8o)
          have t8:(op==8)=true:=by simpa using t8o
          have hl0:0<args.length:=by have:=HLN.out;have:=HN1.out;omega
          obtain⟨ab,aoff,x0,xa,xc,haa,hx0,-,c0,-,-,-⟩:=ZQ (HB.out.2.1.below (Z1 12) HBX.out) hl0
          rw [Nat.zero_mul,Nat.add_zero] at c0
          have hg:(args.getD 0 default).op=x0.op:=by rw [List.getD_eq_getElem?_getD,hx0];rfl
          subst haa
          have hli:(0:Int)<(args.length:Int):=by omega
          clear hx0 hl0 t8o
          cases t13:(x0.op==13) with
          | false=>
           have t13n:(x0.op != 13)=true:=by rw [bne,t13];rfl
           go_wp2_with fail
           go_meet
           exact⟨by rw [Z2Q,hq4d,hnn,hnm,hM,hbd,hot,t8,hg,t13];simp,HBX⟩
          | true=>
           have t13n:(x0.op != 13)=false:=by rw [bne,t13];rfl
           go_wp2_with fail
           go_meet
           exact⟨by rw [Z2Q,hq4d,hnn,hnm,hM,hbd,hot,t8,hg,t13];simp,HBX⟩
         ·have t8:(op==8)=false:=by simpa using t8o
          clear t8o
          go_wp2_with fail
          go_meet
          exact⟨by rw [Z2Q,hq4d,hnn,hnm,hM,hbd,hot,t8];simp,HBX⟩
        | false=>
         by_cases he:els.length=0
         ·have heb:(els.length==0)=true:=by simpa using he
          have hed:¬0<els.length:=by omega
          clear he
          by_cases t8o:op=8
          ·have HN1:=hdd (HNN.out.2 t8o)
           have t8:(op==8)=true:=by simpa using t8o
           have hl0:0<args.length:=by have:=HLN.out;have:=HN1.out;omega
           obtain⟨ab,aoff,x0,xa,xc,haa,hx0,-,c0,-,-,-⟩:=ZQ (HB.out.2.1.below (Z1 12) HBX.out) hl0
           rw [Nat.zero_mul,Nat.add_zero] at c0
           have hg:(args.getD 0 default).op=x0.op:=by rw [List.getD_eq_getElem?_getD,hx0];rfl
           subst haa
           have hli:(0:Int)<(args.length:Int):=by omega
           clear hx0 hl0 t8o
           cases t13:(x0.op==13) with
           | false=>
            have t13n:(x0.op != 13)=true:=by rw [bne,t13];rfl
            go_wp2_with fail
            go_meet
            exact⟨by rw [Z2Q,hq4d,hnn,hnm,hM,hbd,hot,heb,t8,hg,t13];simp,HBX⟩
           | true=>
            have t13n:(x0.op != 13)=false:=by rw [bne,t13];rfl
            go_wp2_with fail
            go_meet
            exact⟨by rw [Z2Q,hq4d,hnn,hnm,hM,hbd,hot,heb,t8,hg,t13];simp,HBX⟩
          ·have t8:(op==8)=false:=by simpa using t8o
           clear t8o
           go_wp2_with fail
           go_meet
           exact⟨by rw [Z2Q,hq4d,hnn,hnm,hM,hbd,hot,heb,t8];simp,HBX⟩
         ·have heb:(els.length==0)=false:=by simpa using he
          have hed:0<els.length:=by omega
          clear he
          go_wp2_with fail
          go_meet
          exact⟨by rw [Z2Q,hq4d,hnn,hnm,hM,hbd,hot,heb];simp,HBX⟩
       | false=>
        by_cases hy:body.length=0
        ·have hyb:(body.length==0)=true:=by simpa using hy
         have hyd:¬0<body.length:=by omega
         clear hy
         cases hot:ot with
         | true=>
          by_cases t8o:op=8
          ·have HN1:=hdd (HNN.out.2 t8o)
           have t8:(op==8)=true:=by simpa using t8o
           have hl0:0<args.length:=by have:=HLN.out;have:=HN1.out;omega
           obtain⟨ab,aoff,x0,xa,xc,haa,hx0,-,c0,-,-,-⟩:=ZQ (HB.out.2.1.below (Z1 12) HBX.out) hl0
           rw [Nat.zero_mul,Nat.add_zero] at c0
           have hg:(args.getD 0 default).op=x0.op:=by rw [List.getD_eq_getElem?_getD,hx0];rfl
           subst haa
           have hli:(0:Int)<(args.length:Int):=by omega
           clear hx0 hl0 t8o
           cases t13:(x0.op==13) with
           | false=>
            have t13n:(x0.op != 13)=true:=by rw [bne,t13];rfl
            go_wp2_with fail
            go_meet
            exact⟨by rw [Z2Q,hq4d,hnn,hnm,hM,hbd,hyb,hot,t8,hg,t13];simp,HBX⟩
           | true=>
            have t13n:(x0.op != 13)=false:=by rw [bne,t13];rfl
            go_wp2_with fail
            go_meet
            exact⟨by rw [Z2Q,hq4d,hnn,hnm,hM,hbd,hyb,hot,t8,hg,t13];simp,HBX⟩
          ·have t8:(op==8)=false:=by simpa using t8o
           clear t8o
           go_wp2_with fail
           go_meet
           exact⟨by rw [Z2Q,hq4d,hnn,hnm,hM,hbd,hyb,hot,t8];simp,HBX⟩
         | false=>
          by_cases he:els.length=0
          ·have heb:(els.length==0)=true:=by simpa using he
           have hed:¬0<els.length:=by omega
           clear he
           by_cases t8o:op=8
           ·have HN1:=hdd (HNN.out.2 t8o)
            have t8:(op==8)=true:=by simpa using t8o
            have hl0:0<args.length:=by have:=HLN.out;have:=HN1.out;omega
            obtain⟨ab,aoff,x0,xa,xc,haa,hx0,-,c0,-,-,-⟩:=ZQ (HB.out.2.1.below (Z1 12) HBX.out) hl0
            rw [Nat.zero_mul,Nat.add_zero] at c0
            have hg:(args.getD 0 default).op=x0.op:=by rw [List.getD_eq_getElem?_getD,hx0];rfl
            subst haa
            have hli:(0:Int)<(args.length:Int):=by omega
            clear hx0 hl0 t8o
            cases t13:(x0.op==13) with
            | false=>
             have t13n:(x0.op != 13)=true:=by rw [bne,t13];rfl
             go_wp2_with fail
             go_meet
             exact⟨by rw [Z2Q,hq4d,hnn,hnm,hM,hbd,hyb,hot,heb,t8,hg,t13];simp,HBX⟩
            | true=>
             have t13n:(x0.op != 13)=false:=by rw [bne,t13];rfl
             go_wp2_with fail
             go_meet
             exact⟨by rw [Z2Q,hq4d,hnn,hnm,hM,hbd,hyb,hot,heb,t8,hg,t13];simp,HBX⟩
           ·have t8:(op==8)=false:=by simpa using t8o
            clear t8o
            go_wp2_with fail
            go_meet
            exact⟨by rw [Z2Q,hq4d,hnn,hnm,hM,hbd,hyb,hot,heb,t8];simp,HBX⟩
          ·have heb:(els.length==0)=false:=by simpa using he
           have hed:0<els.length:=by omega
           clear he
           go_wp2_with fail
           go_meet
           exact⟨by rw [Z2Q,hq4d,hnn,hnm,hM,hbd,hyb,hot,heb];simp,HBX⟩
        ·have hyb:(body.length==0)=false:=by simpa using hy
         have hyd:0<body.length:=by omega
         clear hy
         go_wp2_with fail
         go_meet
         exact⟨by rw [Z2Q,hq4d,hnn,hnm,hM,hbd,hyb];simp,HBX⟩
      | false=>
       rw [hM] at HNM
       go_wp2_with fail
       refine HNM.out.mono ?_
       rintro e w5 ⟨rfl,hb5⟩
       have HBX:=hdd hb5
       have k0:=clT hb5 p0
       have k1:=clT hb5 p1
       have k2:=clT hb5 p2
       have k3:=clT hb5 p3
       have k4:=clT hb5 p4
       clear hb5 p0 p1 p2 p3 p4
       go_wp2_with fail
       go_meet
       exact⟨by rw [Z2Q,hq4d,hnn,hnm,hM];simp,HBX⟩
     | false=>
      have HBX:=hdd (bRf w2.heap.size w2)
      cases hE:name.toList.isEmpty with
      | true=>
       cases hbd:bd with
       | true=>
        cases hot:ot with
        | true=>
         by_cases t8o:op=8
         ·have HN1:=hdd (HNN.out.2 t8o)
          have t8:(op==8)=true:=by simpa using t8o
          have hl0:0<args.length:=by have:=HLN.out;have:=HN1.out;omega
          obtain⟨ab,aoff,x0,xa,xc,haa,hx0,-,c0,-,-,-⟩:=ZQ (HB.out.2.1.below (Z1 12) HBX.out) hl0
          rw [Nat.zero_mul,Nat.add_zero] at c0
          have hg:(args.getD 0 default).op=x0.op:=by rw [List.getD_eq_getElem?_getD,hx0];rfl
          subst haa
          have hli:(0:Int)<(args.length:Int):=by omega
          clear hx0 hl0 t8o
          cases t13:(x0.op==13) with
          | false=>
           have t13n:(x0.op != 13)=true:=by rw [bne,t13];rfl
           go_wp2_with fail
           go_meet
           exact⟨by rw [Z2Q,hq4d,hnn,hnm,hE,hbd,hot,t8,hg,t13];simp,HBX⟩
          | true=>
           have t13n:(x0.op != 13)=false:=by rw [bne,t13];rfl
           go_wp2_with fail
           go_meet
           exact⟨by rw [Z2Q,hq4d,hnn,hnm,hE,hbd,hot,t8,hg,t13];simp,HBX⟩
         ·have t8:(op==8)=false:=by simpa using t8o
          clear t8o
          go_wp2_with fail
          go_meet
          exact⟨by rw [Z2Q,hq4d,hnn,hnm,hE,hbd,hot,t8];simp,HBX⟩
        | false=>
         by_cases he:els.length=0
         ·have heb:(els.length==0)=true:=by simpa using he
          have hed:¬0<els.length:=by omega
          clear he
          by_cases t8o:op=8
          ·have HN1:=hdd (HNN.out.2 t8o)
           have t8:(op==8)=true:=by simpa using t8o
           have hl0:0<args.length:=by have:=HLN.out;have:=HN1.out;omega
           obtain⟨ab,aoff,x0,xa,xc,haa,hx0,-,c0,-,-,-⟩:=ZQ (HB.out.2.1.below (Z1 12) HBX.out) hl0
           rw [Nat.zero_mul,Nat.add_zero] at c0
           have hg:(args.getD 0 default).op=x0.op:=by rw [List.getD_eq_getElem?_getD,hx0];rfl
           subst haa
           have hli:(0:Int)<(args.length:Int):=by omega
           clear hx0 hl0 t8o
           cases t13:(x0.op==13) with
           | false=>
            have t13n:(x0.op != 13)=true:=by rw [bne,t13];rfl
            go_wp2_with fail
            go_meet
            exact⟨by rw [Z2Q,hq4d,hnn,hnm,hE,hbd,hot,heb,t8,hg,t13];simp,HBX⟩
           | true=>
            have t13n:(x0.op != 13)=false:=by rw [bne,t13];rfl
            go_wp2_with fail
            go_meet
            exact⟨by rw [Z2Q,hq4d,hnn,hnm,hE,hbd,hot,heb,t8,hg,t13];simp,HBX⟩
          ·have t8:(op==8)=false:=by simpa using t8o
           clear t8o
           go_wp2_with fail
           go_meet
           exact⟨by rw [Z2Q,hq4d,hnn,hnm,hE,hbd,hot,heb,t8];simp,HBX⟩
         ·have heb:(els.length==0)=false:=by simpa using he
          have hed:0<els.length:=by omega
          clear he
          go_wp2_with fail
          go_meet
          exact⟨by rw [Z2Q,hq4d,hnn,hnm,hE,hbd,hot,heb];simp,HBX⟩
       | false=>
        by_cases hy:body.length=0
        ·have hyb:(body.length==0)=true:=by simpa using hy
         have hyd:¬0<body.length:=by omega
         clear hy
         cases hot:ot with
         | true=>
          by_cases t8o:op=8
          ·have HN1:=hdd (HNN.out.2 t8o)
           have t8:(op==8)=true:=by simpa using t8o
           have hl0:0<args.length:=by have:=HLN.out;have:=HN1.out;omega
           obtain⟨ab,aoff,x0,xa,xc,haa,hx0,-,c0,-,-,-⟩:=ZQ (HB.out.2.1.below (Z1 12) HBX.out) hl0
           rw [Nat.zero_mul,Nat.add_zero] at c0
           have hg:(args.getD 0 default).op=x0.op:=by rw [List.getD_eq_getElem?_getD,hx0];rfl
           subst haa
           have hli:(0:Int)<(args.length:Int):=by omega
           clear hx0 hl0 t8o
           cases t13:(x0.op==13) with
           | false=>
            have t13n:(x0.op != 13)=true:=by rw [bne,t13];rfl
            go_wp2_with fail
            go_meet
            exact⟨by rw [Z2Q,hq4d,hnn,hnm,hE,hbd,hyb,hot,t8,hg,t13];simp,HBX⟩
           | true=>
            have t13n:(x0.op != 13)=false:=by rw [bne,t13];rfl
            go_wp2_with fail
            go_meet
            exact⟨by rw [Z2Q,hq4d,hnn,hnm,hE,hbd,hyb,hot,t8,hg,t13];simp,HBX⟩
          ·have t8:(op==8)=false:=by simpa using t8o
           clear t8o
           go_wp2_with fail
           go_meet
           exact⟨by rw [Z2Q,hq4d,hnn,hnm,hE,hbd,hyb,hot,t8];simp,HBX⟩
         | false=>
          by_cases he:els.length=0
          ·have heb:(els.length==0)=true:=by simpa using he
           have hed:¬0<els.length:=by omega
           clear he
           by_cases t8o:op=8
           ·have HN1:=hdd (HNN.out.2 t8o)
            have t8:(op==8)=true:=by simpa using t8o
            have hl0:0<args.length:=by have:=HLN.out;have:=HN1.out;omega
            obtain⟨ab,aoff,x0,xa,xc,haa,hx0,-,c0,-,-,-⟩:=ZQ (HB.out.2.1.below (Z1 12) HBX.out) hl0
            rw [Nat.zero_mul,Nat.add_zero] at c0
            have hg:(args.getD 0 default).op=x0.op:=by rw [List.getD_eq_getElem?_getD,hx0];rfl
            subst haa
            have hli:(0:Int)<(args.length:Int):=by omega
            clear hx0 hl0 t8o
            cases t13:(x0.op==13) with
            | false=>
             have t13n:(x0.op != 13)=true:=by rw [bne,t13];rfl
             go_wp2_with fail
             go_meet
             exact⟨by rw [Z2Q,hq4d,hnn,hnm,hE,hbd,hyb,hot,heb,t8,hg,t13];simp,HBX⟩
            | true=>
             have t13n:(x0.op != 13)=false:=by rw [bne,t13];rfl
             go_wp2_with fail
             go_meet
             exact⟨by rw [Z2Q,hq4d,hnn,hnm,hE,hbd,hyb,hot,heb,t8,hg,t13];simp,HBX⟩
           ·have t8:(op==8)=false:=by simpa using t8o
            clear t8o
            go_wp2_with fail
            go_meet
            exact⟨by rw [Z2Q,hq4d,hnn,hnm,hE,hbd,hyb,hot,heb,t8];simp,HBX⟩
          ·have heb:(els.length==0)=false:=by simpa using he
           have hed:0<els.length:=by omega
           clear he
           go_wp2_with fail
           go_meet
           exact⟨by rw [Z2Q,hq4d,hnn,hnm,hE,hbd,hyb,hot,heb];simp,HBX⟩
        ·have hyb:(body.length==0)=false:=by simpa using hy
         have hyd:0<body.length:=by omega
         clear hy
         go_wp2_with fail
         go_meet
         exact⟨by rw [Z2Q,hq4d,hnn,hnm,hE,hbd,hyb];simp,HBX⟩
      | false=>
       go_wp2_with fail
       go_meet
       exact⟨by rw [Z2Q,hq4d,hnn,hnm,hE];simp,HBX⟩
 case rest=>
 obtain⟨rfl,HB3⟩:=hcut
 have hd1:=HB3.out
 have HB4:=hdd (aI (HBW.out.trans (hd1.mono HBW.out.size)) (aI (HB.out.2.1.below (Z1 12) hd1) (aI (HB.out.2.2.1.below (Z0 D) hd1) (aI (HB.out.2.2.2.1.below (Z0 D) hd1) (aI (HB.out.2.2.2.2.1.later hd1) (HB.out.2.2.2.2.2.later hd1))))))
 have q2:=clT hd1 p2
 have q3:=clT hd1 p3
 have q4:=clT hd1 p4
 clear p0 p1 p2 p3 p4 hd1 HB HBW HB3 HNM
 cases hbad:(decide (4<q)||Z2Q n nm bd ot op name args body els) with
 | true=>
  have HF:=hdd (show false=R by
   rw [HR.out]
   cases d with
   | zero=>rfl
   | succ d=>
    rw [decide_eq_false (by have:=HQ.out;omega),Bool.false_or] at hbad
    rw [ZH,HOWN.out,hbad]
    rfl)
  clear hbad
  go_wp2
  go_ret
  exact⟨ZN HF.out,HB4.out.1⟩
 | false=>
 rw [Bool.or_eq_false_iff] at hbad
 obtain⟨d,rfl⟩:∃d',d=d'+1:=by
  cases d with
  | zero=>have:=of_decide_eq_false hbad.1;have:=HQ.out;omega
  | succ d=>exact⟨d,rfl⟩
 have HOG:=hdd (show R=(args.all Z1v&&body.all (ZH d)&&els.all (ZH d)) by
  rw [HR.out,ZH,HOWN.out,hbad.2]
  rfl)
 have HQ1:=hdd (show wrap64 (q+1)=5-(d:Int) by rw [HQ.out,show(5-((d+1:Nat):Int))+1=5-(d:Int) by omega];exact IntWalk.wrap64_in _ (by have:=HL.out.2.2;omega))
 clear hbad HOWN HAC HNN HR
 go_wp2_with fail
 go_loopg [71] args.length (fun G i wr=>∃(j:Nat),j+G=args.length∧i=.int .i64 j∧Hid (Below wc.heap.size wc wr∧(args.take j).all Z1v=true))
 case atStart=>exact⟨0,by omega,rfl,hdd ⟨bRf _ _,rfl⟩⟩
 case round=>
  obtain⟨j,hj,rfl,HG⟩:=hrel
  by_cases hlt:j<args.length
  ·have hji:(j:Int)<(args.length:Int):=by omega
   obtain⟨b,off,x,xa,xc,rfl,hx,hS,c0,c1,c2,c3⟩:=ZQ (HB4.out.2.1.below (Z1 12) HG.out.1) hlt
   have hba:Below wr.heap.size wr (wr.alloc (.cells #[.int .i64 x.op,.int .i64 x.n,.string x.name,.slice xa x.kids.length xc] 64)):=(bRf _ _).alloc (Nat.le_refl _) _
   have hrow:=hAn wr (.cells #[.int .i64 x.op,.int .i64 x.n,.string x.name,.slice xa x.kids.length xc] 64)
   have hb1:=HG.out.1.trans (hba.mono HG.out.1.size)
   have HC:=hdd (aI hb1 (Z5r 12 _ x _ (HB4.out.2.2.2.2.1.later hb1) (HB4.out.2.2.2.2.2.later hb1) (Z1a (Zz hba hS.1))))
   have e0:=coR _ _ 0 _ _ _ hrow
   have e1:=coR _ _ 1 _ _ _ hrow
   have e2:=coR _ _ 2 _ _ _ hrow
   have e3:=coR _ _ 3 _ _ _ hrow
   simp only [ga0,ga1,ga2] at e0 e1 e2 e3
   have HX:=hdd hx
   clear hx hS q2 q3 q4 hba hrow hb1
   cases hv:(Z0M Zk 6 x).isSome with
   | false=>
    rw [hv] at HC
    have HF:=hdd (show false=R by rw [HOG.out,Z49 HX.out (show Z1v x=false from hv)];rfl)
    clear hv
    go_wp2_with fail
    refine HC.out.2.mono ?_
    rintro e w5 ⟨rfl,hb5⟩
    have HB5:=hdd (HB4.out.1.trans ((HC.out.1.trans (hb5.mono HC.out.1.size)).mono HB4.out.1.size))
    clear hb5 c0 c1 c2 c3 e0 e1 e2 e3
    go_wp2
    go_ret
    exact⟨ZN HF.out,HB5.out⟩
   | true=>
    rw [hv] at HC
    have HT:=hdd (show(args.take (j+1)).all Z1v=true by rw [Z3b HX.out,HG.out.2,show Z1v x=true from hv];rfl)
    clear hv
    go_wp2_with fail
    refine HC.out.2.mono ?_
    rintro e w5 ⟨rfl,hb5⟩
    have HB5:=hdd (HC.out.1.trans (hb5.mono HC.out.1.size))
    clear hb5 c0 c1 c2 c3 e0 e1 e2 e3
    go_wp2
    go_roundg (gk-1)
    case measure=>omega
    case rel=>exact⟨j+1,by omega,by go_num,hdd ⟨HB5.out,HT.out⟩⟩
  ·obtain rfl:j=args.length:=by omega
   have HOJ:=hdd (show R=(body.all (ZH d)&&els.all (ZH d)) by
    have h1:=HG.out.2
    rw [List.take_length] at h1
    rw [HOG.out,h1]
    rfl)
   have hbr:=HG.out.1
   have hsub:wrap64 (q+1)=5-(d:Int):=HQ1.out
   have HS1:=hdd (Z3E D HL.out.2.1 d S ba bc body wr (by have:=HL.out.2.2;omega) (HB4.out.2.2.2.2.1.later hbr) (HB4.out.2.2.2.2.2.later hbr) (HB4.out.2.2.1.below (Z0 D) hbr) (by have:=HL.out.1;omega))
   have HBr:=hdd (HB4.out.1.trans (hbr.mono HB4.out.1.size))
   have r3:=clT hbr q3
   have r4:=clT hbr q4
   clear q2 q3 q4 hbr
   cases hv:body.all (ZH d) with
   | false=>
    rw [hv] at HS1
    have HF:=hdd (show false=R by rw [HOJ.out,hv];rfl)
    clear hv
    go_wp2_with fail
    refine HS1.out.mono ?_
    rintro e w5 ⟨rfl,hb5⟩
    have HB5:=hdd (HBr.out.trans (hb5.mono HBr.out.size))
    clear hb5 r3 r4
    go_wp2
    go_ret
    exact⟨ZN HF.out,HB5.out⟩
   | true=>
    rw [hv] at HS1
    have HT:=hdd (show els.all (ZH d)=R by rw [HOJ.out,hv];rfl)
    clear hv
    go_wp2_with fail
    refine HS1.out.mono ?_
    rintro e w5 ⟨rfl,hb5⟩
    have hb6:=HG.out.1.trans (hb5.mono HG.out.1.size)
    have HB5:=hdd (HBr.out.trans (hb5.mono HBr.out.size))
    have k4:=clT hb5 r4
    have HS2:=hdd (Z3E D HL.out.2.1 d S ea ec els w5 (by have:=HL.out.2.2;omega) (HB4.out.2.2.2.2.1.later hb6) (HB4.out.2.2.2.2.2.later hb6) (HB4.out.2.2.2.1.below (Z0 D) hb6) (by have:=HL.out.1;omega))
    rw [HT.out] at HS2
    clear hb5 hb6 r3 r4
    go_wp2_with fail
    refine HS2.out.mono ?_
    rintro e w6 ⟨rfl,hb6⟩
    have HB6:=hdd (HB5.out.trans (hb6.mono HB5.out.size))
    clear hb6 k4
    go_wp2
    go_ret
    exact⟨rfl,HB6.out⟩
 theorem stmtOk_any:∀D,Z6I D
  | 0=>fun _ _ _ _ _ _ _ _ h=>h.elim
  | D+1=>Z87 D (stmtOk_any D)
end Go.Proofs.YtloooebabieeeaaGreatDoor
