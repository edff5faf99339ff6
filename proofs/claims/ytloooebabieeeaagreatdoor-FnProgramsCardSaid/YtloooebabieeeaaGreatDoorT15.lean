/-
  The reference's reader of programs reads an expression. (printed by mkt14.py)
-/
import Derived.Test.YtloooebabieeeaaGreatDoorCp
import Derived.Test.YtloooebabieeeaaGreatDoorCq
import Derived.Test.YtloooebabieeeaaGreatDoorVi
import Derived.Test.YtloooebabieeeaaGreatDoorDr5
import Derived.Test.YtloooebabieeeaaGreatDoorGw
set_option maxRecDepth 100000
set_option maxHeartbeats 16000000
set_option linter.unusedVariables false
namespace Go.Proofs.YtloooebabieeeaaGreatDoor
open Go.RowKit
def Zcw (w:World) (rb:Nat) (la:Option Addr) (lc:Nat) (ws:List Z7) (at_:Nat) (x:Z6) (rest:List Z7) (e:Ending) (w':World):Prop:=
 ∃(cs:List Value) (d at2:Nat),e=.returned (.agg cs.toArray)∧ZJ d (fun k=>w.heap.size≤k) w' cs x∧Z0u w' rb la lc ws at2∧ws.drop at2=rest∧at_<at2∧Zd rb w w'
theorem Z0T {w w9 w10:World} {rb eb:Nat} (h:Zd rb w w9) (ht:Ze (fun k=>k=eb) w9 w10) (he:w.heap.size≤eb):Zd rb w w10:=by
 have h:Ze (fun k=>k=rb∨w.heap.size≤k) w w9:=h
 exact h.trans (ht.mono (fun k hk=>.inr (by have hk:k=eb:=hk;omega)))
theorem Z1C {w9 w10:World} {rb eb at2:Nat} {la:Option Addr} {lc:Nat} {ws:List Z7} (h:Z0u w9 rb la lc ws at2) (ht:Ze (fun k=>k=eb) w9 w10) (he:eb≠rb) (hl:∀b o,la=some ⟨b,o,none⟩→ws≠[]→b≠eb):Z0u w10 rb la lc ws at2:=by
 refine⟨(ht.block rb h.lt (fun e=>he e.symm)).trans h.row,?_,h.ok,h.short,h.place⟩
 by_cases hn:ws=[]
 ·subst hn;exact Za.nil _ _ _
 ·obtain⟨b,off,h1,h2,h3⟩:=h.list.blk hn
  have hb:b≠eb:=hl b off h1 hn
  have h4:Za 2 Z3p (fun k=>k≠rb∧k≠eb) w9 la ws:=⟨⟨h.list.rd.1,h.list.rd.2⟩,fun _=>⟨b,off,h1,⟨h2,hb⟩,h3⟩⟩
  exact(h4.turned ZC ht (fun k _ h1 h2=>h1.2 h2)).mono ZC (fun k _ h=>h.1)
theorem Z19 {w:World} {rb:Nat} {la:Option Addr} {lc:Nat} {ws:List Z7} {at_:Nat} (h:Z0u w rb la lc ws at_) {f:Nat} {x:Z6} {rest:List Z7} (hr:rdE f 1 (ws.drop at_)=some (x,rest)) :
  Calls Tryz.prog 110 #[.pointer (some ⟨rb,0,none⟩)] w (Zcw w rb la lc ws at_ x rest):=by
 have hba:Below w.heap.size w (w.alloc (.cells #[.int .i64 0,.int .i64 0,.string ⟨#[]⟩,.slice none 0 0] 64)):=(bRf _ _).alloc (Nat.le_refl _) _
 have HEB:=hdd (aI (hAn w (.cells #[.int .i64 0,.int .i64 0,.string ⟨#[]⟩,.slice none 0 0] 64)) (aI (World.size_alloc w (.cells #[.int .i64 0,.int .i64 0,.string ⟨#[]⟩,.slice none 0 0] 64)) h.lt))
 have HR1:=hdd (h.later hba)
 have HB:=hdd hba
 have HLB:=hdd (show ∀b o,la=some ⟨b,o,none⟩→ws≠[]→b≠w.heap.size from fun b o h1 h2 h3=>by
  obtain⟨b',off,k1,k2,k3⟩:=h.list.blk h2
  rw [h1] at k1
  cases k1
  omega)
 have hge:¬(at_:Int)<0:=by omega
 have HHR:=hdd hr
 obtain⟨k0,k1,z1⟩:=HR1.out.cells
 clear h hr hba
 go_enter Tryz.func110,Tryz.ntmps110
 go_upto_region 3 with fail
 obtain⟨eb,heb⟩:∃n,n=w.heap.size:=⟨_,rfl⟩
 generalize w.alloc (.cells #[.int .i64 0,.int .i64 0,.string ⟨#[]⟩,.slice none 0 0] 64)=W1 at HEB HR1 HB k0 k1 z1 ⊢
 have HEB2:=hdd (show W1.drew.heap[eb]? = some (.cells #[.int .i64 0,.int .i64 0,.string ⟨#[]⟩,.slice none 0 0] 64 (0,0))∧eb=w.heap.size∧W1.drew.heap.size=w.heap.size+1∧rb<w.heap.size from by rw [heb];exact⟨HEB.out.1,rfl,HEB.out.2.1,HEB.out.2.2⟩)
 rw [← heb] at HLB ⊢
 clear heb HEB k0 k1 z1
 have HRD:=hdd (HR1.out.later (bRf W1.heap.size W1).drew)
 have HBD:=hdd (show Below w.heap.size w W1.drew from HB.out.drew)
 refine Zw (S:=fun W:World=>W.cell? ⟨rb,0,none⟩=some (.slice la ws.length lc)∧W.cell? ⟨rb,1,none⟩=some (.int .i64 (at_:Int))) (by kernel_rfl) ?_
 generalize W1.drew=wd at HRD HBD HEB2 ⊢
 have HEB:=hdd (show wd.heap[eb]? = some (.cells #[.int .i64 0,.int .i64 0,.string ⟨#[]⟩,.slice none 0 0] 64 (0,0))∧w.heap.size≤eb∧eb<wd.heap.size∧rb<eb from⟨HEB2.out.1,by have:=HEB2.out;omega,by have:=HEB2.out;omega,by have:=HEB2.out;omega⟩)
 clear HEB2
 have HS:=hdd (show ∀W,Below wd.heap.size wd W→(fun W:World=>W.cell? ⟨rb,0,none⟩=some (.slice la ws.length lc)∧W.cell? ⟨rb,1,none⟩=some (.int .i64 (at_:Int))) W from fun W hW=>⟨(HRD.out.later hW).cells.1,(HRD.out.later hW).cells.2.1⟩)
 have HCE:=hdd (show ∀W,Below wd.heap.size wd W→Calls Tryz.prog 124 #[.slice la ws.length lc,.int .i64 (at_:Int),.int .i64 1] W (Zcf W ws at_ x rest) from fun W hW=>(Z7s f).1 la lc ws at_ 1 x rest W (by omega) HRD.out.place (HRD.out.words.later hW) HHR.out)
 have hHeld:(fun W:World=>W.cell? ⟨rb,0,none⟩=some (.slice la ws.length lc)∧W.cell? ⟨rb,1,none⟩=some (.int .i64 (at_:Int))) wd:=HS.out _ (bRf _ _)
 have HBW:=hdd (bRf wd.heap.size wd)
 refine tkL 1 0 (some 12) hHeld ?_
 (try simp only [Act.put,pu1,pu2,pu3])
 refine tkL 2 1 (some 13) hHeld ?_
 (try simp only [Act.put,pu1,pu2,pu3])
 refine tkL 3 2 (some 14) hHeld ?_
 (try simp only [Act.put,pu1,pu2,pu3])
 refine tkL 8 3 (some 15) hHeld ?_
 (try simp only [Act.put,pu1,pu2,pu3])
 refine tkL 5 4 (some 16) hHeld ?_
 (try simp only [Act.put,pu1,pu2,pu3])
 refine tkL 6 5 (some 17) hHeld ?_
 (try simp only [Act.put,pu1,pu2,pu3])
 refine tkL 7 6 (some 18) hHeld ?_
 (try simp only [Act.put,pu1,pu2,pu3])
 refine tkL 8 7 (some 19) hHeld ?_
 (try simp only [Act.put,pu1,pu2,pu3])
 refine Z0y (rs:=[8,12]) (by kernel_rfl) (by simp) ?_
 refine(ZD.cons (o:=⟨some 20,_,_,_,_,_⟩) rfl (fun K hK=>?_) (ZD.cons (o:=⟨some 3,_,_,_,_,_⟩) rfl (fun K hK=>?_) ZD.nil))
 ·go_simp
  go_at_call 124
  refine(HCE.out _ HBW.out).mono ?_
  rintro e w5 ⟨cs,d,at2,rfl,hx,h1,h2,h3,hb5⟩
  obtain⟨ka,kc,rfl⟩:=Zj hx
  have HBX:=hdd (HBW.out.trans (hb5.mono HBW.out.size))
  have HEX:=hdd (show ZJ d (fun k=>wd.heap.size≤k) w5 [.int .i64 x.op,.int .i64 x.n,.string x.name,.slice ka x.kids.length kc] x∧at_<at2∧at2≤ws.length∧ws.drop at2=rest from⟨Zh (fun k _ h=>Nat.le_trans HBW.out.size h) hx,h1,h2,h3⟩)
  clear hx h1 h2 h3 hb5 HBW
  have HBW:=HBX
  clear HBX
  refine kpL hK (HS.out _ HBW.out) ?_
  clear hK K hHeld;intro hHeld
  (try simp only [Act.put,pu1,pu2,pu3])
  refine tkL 10 9 (some 11) hHeld ?_
  (try simp only [Act.put,pu1,pu2,pu3])
  refine tkL 13 10 (some 21) hHeld ?_
  (try simp only [Act.put,pu1,pu2,pu3])
  refine tkL 14 11 (some 22) hHeld ?_
  (try simp only [Act.put,pu1,pu2,pu3])
  refine Z06 12 (some 3) fun K hK=>?_
  go_simp
  have HAL:=hdd (show(w5.alloc (.cells #[.int .i64 0,.int .i64 0,.string ⟨#[]⟩,.slice none 0 0] 64)).heap[w5.heap.size]? = some (.cells #[.int .i64 0,.int .i64 0,.string ⟨#[]⟩,.slice none 0 0] 64 (0,0))∧Below wd.heap.size wd (w5.alloc (.cells #[.int .i64 0,.int .i64 0,.string ⟨#[]⟩,.slice none 0 0] 64))∧Below w5.heap.size w5 (w5.alloc (.cells #[.int .i64 0,.int .i64 0,.string ⟨#[]⟩,.slice none 0 0] 64)) from⟨hAn _ _,HBW.out.alloc HBW.out.size _,(bRf _ _).alloc (Nat.le_refl _) _⟩)
  have HLO:wd.heap.size≤w5.heap.size:=HBW.out.size
  have HNX:=hdd (show ZJ d (fun k=>wd.heap.size≤k∧k≠w5.heap.size) (w5.alloc (.cells #[.int .i64 0,.int .i64 0,.string ⟨#[]⟩,.slice none 0 0] 64)) [.int .i64 x.op,.int .i64 x.n,.string x.name,.slice ka x.kids.length kc] x from Zh (fun k _ h=>⟨h.1,by have:=h.2;omega⟩) (Zz ((bRf _ _).alloc (Nat.le_refl _) _) (Z4j HEX.out.1)))
  obtain⟨xb,hxb⟩:∃n,n=w5.heap.size:=⟨_,rfl⟩
  have HLO2:=hdd (show wd.heap.size≤xb by omega)
  rw [← hxb] at HNX ⊢
  have HXR:=hdd (show(w5.alloc (.cells #[.int .i64 0,.int .i64 0,.string ⟨#[]⟩,.slice none 0 0] 64)).heap[xb]? = some (.cells #[.int .i64 0,.int .i64 0,.string ⟨#[]⟩,.slice none 0 0] 64 (0,0))∧wd.heap.size≤xb from⟨by rw [hxb];exact HAL.out.1,HLO2.out⟩)
  clear HBW
  have HBW:=hdd HAL.out.2.1
  clear hxb HAL HLO HLO2
  generalize w5.alloc (.cells #[.int .i64 0,.int .i64 0,.string ⟨#[]⟩,.slice none 0 0] 64)=w5a at HBW HXR HNX ⊢
  refine kpL hK (HS.out _ HBW.out) ?_
  clear hK K hHeld;intro hHeld
  (try simp only [Act.put,pu1,pu2,pu3])
  refine Z06 13 none fun K hK=>?_
  have hxr:=HXR.out.1
  have k0:=coR _ _ 0 _ _ _ hxr
  have k1:=coR _ _ 1 _ _ _ hxr
  have k2:=coR _ _ 2 _ _ _ hxr
  have k3:=coR _ _ 3 _ _ _ hxr
  have z0:=frR _ _ 0 _ _ hxr
  have z1:=frR _ _ 1 _ _ hxr
  have z2:=frR _ _ 2 _ _ hxr
  have z3:=frR _ _ 3 _ _ hxr
  simp only [ga0,ga1,ga2] at k0 k1 k2 k3
  go_simp
  clear k0 k1 k2 k3 z0 z1 z2 z3
  have HCH:=hdd (Z5F w5a xb (.int .i64 x.op) (.int .i64 x.n) (.string x.name) (.slice ka x.kids.length kc) hxr)
  have HST:=hdd (show(((((w5a.setCell ⟨xb,0,none⟩ (.int .i64 x.op)).setCell ⟨xb,1,none⟩ (.int .i64 x.n)).setCell ⟨xb,2,none⟩ (.string x.name)).setCell ⟨xb,3,none⟩ (.slice ka x.kids.length kc))).heap[xb]? = some (.cells (List.toArray [.int .i64 x.op,.int .i64 x.n,.string x.name,.slice ka x.kids.length kc]) 64 (0,0))∧ZJ d (fun k=>wd.heap.size≤k∧k≠xb) (((((w5a.setCell ⟨xb,0,none⟩ (.int .i64 x.op)).setCell ⟨xb,1,none⟩ (.int .i64 x.n)).setCell ⟨xb,2,none⟩ (.string x.name)).setCell ⟨xb,3,none⟩ (.slice ka x.kids.length kc))) [.int .i64 x.op,.int .i64 x.n,.string x.name,.slice ka x.kids.length kc] x∧Below wd.heap.size wd (((((w5a.setCell ⟨xb,0,none⟩ (.int .i64 x.op)).setCell ⟨xb,1,none⟩ (.int .i64 x.n)).setCell ⟨xb,2,none⟩ (.string x.name)).setCell ⟨xb,3,none⟩ (.slice ka x.kids.length kc)))∧wd.heap.size≤xb∧at_<at2∧at2≤ws.length∧ws.drop at2=rest from
   ⟨HCH.out.2.1,ZA HCH.out.2.2 (fun k _ h1 h2=>h1.2 h2) HNX.out,HBW.out.trans (HCH.out.2.2.below (B:=wd.heap.size) HBW.out.size (fun k hk=>by have hk:k=xb:=hk;have:=HXR.out.2;omega)),HXR.out.2,HEX.out.2⟩)
  clear hxr
  have hz:Hid True:=hdd trivial
  refine kpL hK (HS.out _ HST.out.2.2.1) ?_
  clear hK K hHeld;intro hHeld
  (try simp only [Act.put,pu1,pu2,pu3])
  refine Z06 14 (some 4) fun K hK=>?_
  go_simp
  refine hK.out _ _ (Z15 (by kernel_rfl)) ?_
  clear hK K hHeld
  (try simp only [Act.put,pu1,pu2,pu3])
  refine Zq (by kernel_rfl) ?_ _
  generalize ((((w5a.setCell ⟨xb,0,none⟩ (.int .i64 x.op)).setCell ⟨xb,1,none⟩ (.int .i64 x.n)).setCell ⟨xb,2,none⟩ (.string x.name)).setCell ⟨xb,3,none⟩ (.slice ka x.kids.length kc))=w8 at HST ⊢
  clear HBW HXR HCH HNX HEX
  have HRD8:=hdd (HRD.out.later HST.out.2.2.1)
  have HER:=hdd ((HST.out.2.2.1.block eb (gsI HEB.out.1).1).trans HEB.out.1)
  obtain⟨k0,k1,z1⟩:=HRD8.out.cells
  have hx8:=HST.out.1
  have x0:=coR _ _ 0 _ _ _ hx8
  have x1:=coR _ _ 1 _ _ _ hx8
  have x2:=coR _ _ 2 _ _ _ hx8
  have x3:=coR _ _ 3 _ _ _ hx8
  simp only [ga0,ga1,ga2] at x0 x1 x2 x3
  have HP:=hdd (HRD8.out.put (at2:=at2) HST.out.2.2.2.2.2.1)
  go_upto_region 5 with fail
  have HX9:=hdd (show(w8.setCell ⟨rb,1,none⟩ (.int .i64 (at2:Int))).heap[xb]? = some (.cells (List.toArray [.int .i64 x.op,.int .i64 x.n,.string x.name,.slice ka x.kids.length kc]) 64 (0,0))∧(w8.setCell ⟨rb,1,none⟩ (.int .i64 (at2:Int))).heap[eb]? = some (.cells #[.int .i64 0,.int .i64 0,.string ⟨#[]⟩,.slice none 0 0] 64 (0,0))∧ZJ d (fun k=>wd.heap.size≤k∧k≠xb) (w8.setCell ⟨rb,1,none⟩ (.int .i64 (at2:Int))) [.int .i64 x.op,.int .i64 x.n,.string x.name,.slice ka x.kids.length kc] x∧Zd rb w (w8.setCell ⟨rb,1,none⟩ (.int .i64 (at2:Int))) from
   ⟨(heap_setCell_other w8 _ _ _ (by show xb≠rb;have:=HST.out.2.2.2.1;have:=HRD.out.lt;omega)).trans HST.out.1,(heap_setCell_other w8 _ _ _ (by show eb≠rb;have:=HEB.out.2.1;have:=HEB.out.2.2.1;have:=HEB.out.2.2.2;omega)).trans HER.out,
       ZA (Z4 w8 rb 1 (.int .i64 (at2:Int))) (fun k _ h1 h2=>by have h2:k=rb:=h2;have:=HRD.out.lt;have:=h1.1;omega) HST.out.2.1,(Zd.below (HBD.out.trans (HST.out.2.2.1.mono HBD.out.size))).trans HP.out.2⟩)
  clear k0 k1 z1 x0 x1 x2 x3 hx8 HER
  generalize w8.setCell ⟨rb,1,none⟩ (.int .i64 (at2:Int))=w9 at HP HX9 ⊢
  have hx9:=HX9.out.1
  have x0:=coR _ _ 0 _ _ _ hx9
  have x1:=coR _ _ 1 _ _ _ hx9
  have x2:=coR _ _ 2 _ _ _ hx9
  have x3:=coR _ _ 3 _ _ _ hx9
  have he9:=HX9.out.2.1
  have k0:=coR _ _ 0 _ _ _ he9
  have k1:=coR _ _ 1 _ _ _ he9
  have k2:=coR _ _ 2 _ _ _ he9
  have k3:=coR _ _ 3 _ _ _ he9
  have z0:=frR _ _ 0 _ _ he9
  have z1:=frR _ _ 1 _ _ he9
  have z2:=frR _ _ 2 _ _ he9
  have z3:=frR _ _ 3 _ _ he9
  simp only [ga0,ga1,ga2] at x0 x1 x2 x3 k0 k1 k2 k3
  have HF:=hdd (Z5F w9 eb (.int .i64 x.op) (.int .i64 x.n) (.string x.name) (.slice ka x.kids.length kc) he9)
  clear he9 hx9
  go_wp2
  refine bodyPost_ret (results_cell_row rfl _ _ eb 64 (List.toArray [.int .i64 x.op,.int .i64 x.n,.string x.name,.slice ka x.kids.length kc]) (0,0) _ rfl ?_ Tryz.underlying64 rfl (by kernel_rfl)) rfl ?_
  ·exact HF.out.2.1
  ·have hle:w.heap.size≤w9.heap.size:=Ze.size (S:=fun k=>k=rb∨w.heap.size≤k) HX9.out.2.2.2
   exact⟨_,d,at2,rfl,Zh (fun k _ h=>by have:=HBD.out.size;have:=h.1;show w.heap.size≤k;omega) (ZA HF.out.2.2 (fun k _ h1 h2=>by have h2:k=eb:=h2;have:=HEB.out.2;have:=h1.1;omega) HX9.out.2.2.1),
    Z1C HP.out.1 HF.out.2.2 (by have:=HEB.out.2.1;have:=HEB.out.2.2.1;have:=HEB.out.2.2.2;omega) HLB.out,HST.out.2.2.2.2.2.2,HST.out.2.2.2.2.1,Z0T HX9.out.2.2.2 HF.out.2.2 (by have:=HEB.out.2.1;have:=HEB.out.2.2.1;have:=HEB.out.2.2.2;omega)⟩
 ·go_simp
  have HAL:=hdd (show(wd.alloc (.cells #[.int .i64 0,.int .i64 0,.string ⟨#[]⟩,.slice none 0 0] 64)).heap[wd.heap.size]? = some (.cells #[.int .i64 0,.int .i64 0,.string ⟨#[]⟩,.slice none 0 0] 64 (0,0))∧Below wd.heap.size wd (wd.alloc (.cells #[.int .i64 0,.int .i64 0,.string ⟨#[]⟩,.slice none 0 0] 64))∧Below wd.heap.size wd (wd.alloc (.cells #[.int .i64 0,.int .i64 0,.string ⟨#[]⟩,.slice none 0 0] 64)) from⟨hAn _ _,HBW.out.alloc HBW.out.size _,(bRf _ _).alloc (Nat.le_refl _) _⟩)
  have HLO:wd.heap.size≤wd.heap.size:=HBW.out.size
  obtain⟨xb,hxb⟩:∃n,n=wd.heap.size:=⟨_,rfl⟩
  have HLO2:=hdd (show wd.heap.size≤xb by omega)
  rw [← hxb] at ⊢
  have HXR:=hdd (show(wd.alloc (.cells #[.int .i64 0,.int .i64 0,.string ⟨#[]⟩,.slice none 0 0] 64)).heap[xb]? = some (.cells #[.int .i64 0,.int .i64 0,.string ⟨#[]⟩,.slice none 0 0] 64 (0,0))∧wd.heap.size≤xb from⟨by rw [hxb];exact HAL.out.1,HLO2.out⟩)
  clear HBW
  have HBW:=hdd HAL.out.2.1
  clear hxb HAL HLO HLO2
  generalize wd.alloc (.cells #[.int .i64 0,.int .i64 0,.string ⟨#[]⟩,.slice none 0 0] 64)=wda at HBW HXR ⊢
  refine kpL hK (HS.out _ HBW.out) ?_
  clear hK K hHeld;intro hHeld
  (try simp only [Act.put,pu1,pu2,pu3])
  refine Z06 8 (some 20) fun K hK=>?_
  go_simp
  go_at_call 124
  refine(HCE.out _ HBW.out).mono ?_
  rintro e w5 ⟨cs,d,at2,rfl,hx,h1,h2,h3,hb5⟩
  obtain⟨ka,kc,rfl⟩:=Zj hx
  have HBX:=hdd (HBW.out.trans (hb5.mono HBW.out.size))
  have HEX:=hdd (show ZJ d (fun k=>wd.heap.size≤k) w5 [.int .i64 x.op,.int .i64 x.n,.string x.name,.slice ka x.kids.length kc] x∧at_<at2∧at2≤ws.length∧ws.drop at2=rest from⟨Zh (fun k _ h=>Nat.le_trans HBW.out.size h) hx,h1,h2,h3⟩)
  have HXR2:=hdd ((hb5.block xb (gsI HXR.out.1).1).trans HXR.out.1)
  have HNX:=hdd (show ZJ d (fun k=>wd.heap.size≤k∧k≠xb) w5 [.int .i64 x.op,.int .i64 x.n,.string x.name,.slice ka x.kids.length kc] x from Zh (fun k _ h=>by have h:wda.heap.size≤k:=h;have:=(gsI HXR.out.1).1;have:=HBW.out.size;exact⟨by omega,by omega⟩) hx)
  have HXL:=hdd HXR.out.2
  clear HXR
  have HXR:=hdd (aI HXR2.out HXL.out)
  clear HXR2 HXL
  clear hx h1 h2 h3 hb5 HBW
  have HBW:=HBX
  clear HBX
  refine kpL hK (HS.out _ HBW.out) ?_
  clear hK K hHeld;intro hHeld
  (try simp only [Act.put,pu1,pu2,pu3])
  refine tkL 10 9 (some 11) hHeld ?_
  (try simp only [Act.put,pu1,pu2,pu3])
  refine tkL 13 10 (some 21) hHeld ?_
  (try simp only [Act.put,pu1,pu2,pu3])
  refine tkL 14 11 (some 22) hHeld ?_
  (try simp only [Act.put,pu1,pu2,pu3])
  refine Z06 13 none fun K hK=>?_
  have hxr:=HXR.out.1
  have k0:=coR _ _ 0 _ _ _ hxr
  have k1:=coR _ _ 1 _ _ _ hxr
  have k2:=coR _ _ 2 _ _ _ hxr
  have k3:=coR _ _ 3 _ _ _ hxr
  have z0:=frR _ _ 0 _ _ hxr
  have z1:=frR _ _ 1 _ _ hxr
  have z2:=frR _ _ 2 _ _ hxr
  have z3:=frR _ _ 3 _ _ hxr
  simp only [ga0,ga1,ga2] at k0 k1 k2 k3
  go_simp
  clear k0 k1 k2 k3 z0 z1 z2 z3
  have HCH:=hdd (Z5F w5 xb (.int .i64 x.op) (.int .i64 x.n) (.string x.name) (.slice ka x.kids.length kc) hxr)
  have HST:=hdd (show(((((w5.setCell ⟨xb,0,none⟩ (.int .i64 x.op)).setCell ⟨xb,1,none⟩ (.int .i64 x.n)).setCell ⟨xb,2,none⟩ (.string x.name)).setCell ⟨xb,3,none⟩ (.slice ka x.kids.length kc))).heap[xb]? = some (.cells (List.toArray [.int .i64 x.op,.int .i64 x.n,.string x.name,.slice ka x.kids.length kc]) 64 (0,0))∧ZJ d (fun k=>wd.heap.size≤k∧k≠xb) (((((w5.setCell ⟨xb,0,none⟩ (.int .i64 x.op)).setCell ⟨xb,1,none⟩ (.int .i64 x.n)).setCell ⟨xb,2,none⟩ (.string x.name)).setCell ⟨xb,3,none⟩ (.slice ka x.kids.length kc))) [.int .i64 x.op,.int .i64 x.n,.string x.name,.slice ka x.kids.length kc] x∧Below wd.heap.size wd (((((w5.setCell ⟨xb,0,none⟩ (.int .i64 x.op)).setCell ⟨xb,1,none⟩ (.int .i64 x.n)).setCell ⟨xb,2,none⟩ (.string x.name)).setCell ⟨xb,3,none⟩ (.slice ka x.kids.length kc)))∧wd.heap.size≤xb∧at_<at2∧at2≤ws.length∧ws.drop at2=rest from
   ⟨HCH.out.2.1,ZA HCH.out.2.2 (fun k _ h1 h2=>h1.2 h2) HNX.out,HBW.out.trans (HCH.out.2.2.below (B:=wd.heap.size) HBW.out.size (fun k hk=>by have hk:k=xb:=hk;have:=HXR.out.2;omega)),HXR.out.2,HEX.out.2⟩)
  clear hxr
  have hz:Hid True:=hdd trivial
  refine kpL hK (HS.out _ HST.out.2.2.1) ?_
  clear hK K hHeld;intro hHeld
  (try simp only [Act.put,pu1,pu2,pu3])
  refine Z06 14 (some 4) fun K hK=>?_
  go_simp
  refine hK.out _ _ (Z15 (by kernel_rfl)) ?_
  clear hK K hHeld
  (try simp only [Act.put,pu1,pu2,pu3])
  refine Zq (by kernel_rfl) ?_ _
  generalize ((((w5.setCell ⟨xb,0,none⟩ (.int .i64 x.op)).setCell ⟨xb,1,none⟩ (.int .i64 x.n)).setCell ⟨xb,2,none⟩ (.string x.name)).setCell ⟨xb,3,none⟩ (.slice ka x.kids.length kc))=w8 at HST ⊢
  clear HBW HXR HCH HNX HEX
  have HRD8:=hdd (HRD.out.later HST.out.2.2.1)
  have HER:=hdd ((HST.out.2.2.1.block eb (gsI HEB.out.1).1).trans HEB.out.1)
  obtain⟨k0,k1,z1⟩:=HRD8.out.cells
  have hx8:=HST.out.1
  have x0:=coR _ _ 0 _ _ _ hx8
  have x1:=coR _ _ 1 _ _ _ hx8
  have x2:=coR _ _ 2 _ _ _ hx8
  have x3:=coR _ _ 3 _ _ _ hx8
  simp only [ga0,ga1,ga2] at x0 x1 x2 x3
  have HP:=hdd (HRD8.out.put (at2:=at2) HST.out.2.2.2.2.2.1)
  go_upto_region 5 with fail
  have HX9:=hdd (show(w8.setCell ⟨rb,1,none⟩ (.int .i64 (at2:Int))).heap[xb]? = some (.cells (List.toArray [.int .i64 x.op,.int .i64 x.n,.string x.name,.slice ka x.kids.length kc]) 64 (0,0))∧(w8.setCell ⟨rb,1,none⟩ (.int .i64 (at2:Int))).heap[eb]? = some (.cells #[.int .i64 0,.int .i64 0,.string ⟨#[]⟩,.slice none 0 0] 64 (0,0))∧ZJ d (fun k=>wd.heap.size≤k∧k≠xb) (w8.setCell ⟨rb,1,none⟩ (.int .i64 (at2:Int))) [.int .i64 x.op,.int .i64 x.n,.string x.name,.slice ka x.kids.length kc] x∧Zd rb w (w8.setCell ⟨rb,1,none⟩ (.int .i64 (at2:Int))) from
   ⟨(heap_setCell_other w8 _ _ _ (by show xb≠rb;have:=HST.out.2.2.2.1;have:=HRD.out.lt;omega)).trans HST.out.1,(heap_setCell_other w8 _ _ _ (by show eb≠rb;have:=HEB.out.2.1;have:=HEB.out.2.2.1;have:=HEB.out.2.2.2;omega)).trans HER.out,
       ZA (Z4 w8 rb 1 (.int .i64 (at2:Int))) (fun k _ h1 h2=>by have h2:k=rb:=h2;have:=HRD.out.lt;have:=h1.1;omega) HST.out.2.1,(Zd.below (HBD.out.trans (HST.out.2.2.1.mono HBD.out.size))).trans HP.out.2⟩)
  clear k0 k1 z1 x0 x1 x2 x3 hx8 HER
  generalize w8.setCell ⟨rb,1,none⟩ (.int .i64 (at2:Int))=w9 at HP HX9 ⊢
  have hx9:=HX9.out.1
  have x0:=coR _ _ 0 _ _ _ hx9
  have x1:=coR _ _ 1 _ _ _ hx9
  have x2:=coR _ _ 2 _ _ _ hx9
  have x3:=coR _ _ 3 _ _ _ hx9
  have he9:=HX9.out.2.1
  have k0:=coR _ _ 0 _ _ _ he9
  have k1:=coR _ _ 1 _ _ _ he9
  have k2:=coR _ _ 2 _ _ _ he9
  have k3:=coR _ _ 3 _ _ _ he9
  have z0:=frR _ _ 0 _ _ he9
  have z1:=frR _ _ 1 _ _ he9
  have z2:=frR _ _ 2 _ _ he9
  have z3:=frR _ _ 3 _ _ he9
  simp only [ga0,ga1,ga2] at x0 x1 x2 x3 k0 k1 k2 k3
  have HF:=hdd (Z5F w9 eb (.int .i64 x.op) (.int .i64 x.n) (.string x.name) (.slice ka x.kids.length kc) he9)
  clear he9 hx9
  go_wp2
  refine bodyPost_ret (results_cell_row rfl _ _ eb 64 (List.toArray [.int .i64 x.op,.int .i64 x.n,.string x.name,.slice ka x.kids.length kc]) (0,0) _ rfl ?_ Tryz.underlying64 rfl (by kernel_rfl)) rfl ?_
  ·exact HF.out.2.1
  ·have hle:w.heap.size≤w9.heap.size:=Ze.size (S:=fun k=>k=rb∨w.heap.size≤k) HX9.out.2.2.2
   exact⟨_,d,at2,rfl,Zh (fun k _ h=>by have:=HBD.out.size;have:=h.1;show w.heap.size≤k;omega) (ZA HF.out.2.2 (fun k _ h1 h2=>by have h2:k=eb:=h2;have:=HEB.out.2;have:=h1.1;omega) HX9.out.2.2.1),
    Z1C HP.out.1 HF.out.2.2 (by have:=HEB.out.2.1;have:=HEB.out.2.2.1;have:=HEB.out.2.2.2;omega) HLB.out,HST.out.2.2.2.2.2.2,HST.out.2.2.2.2.1,Z0T HX9.out.2.2.2 HF.out.2.2 (by have:=HEB.out.2.1;have:=HEB.out.2.2.1;have:=HEB.out.2.2.2;omega)⟩
theorem Z8B:∀{m D:Nat} {S:Nat→Prop} {w:World} {c:List Value} {x:Z6},Z05 m x=true→ZJ D S w c x→ZJ m S w c x
 | 0,_,_,_,_,_,h,_=>by cases h
 | m+1,0,_,_,_,_,_,h=>h.elim
 | m+1,D+1,S,w,c,x,hf,⟨a,k,h1,h2,h3⟩=>⟨a,k,h1,h2,h3.mono (fun _ x hx h=>Z8B ((Z0Q hf).2 x hx) h) (fun _ _ h=>h)⟩
theorem Z5I:∀{m:Nat} {x:Z6},Z05 m x=true→Z1z Z0k m x=false
 | 0,_,h=>by cases h
 | m+1,.mk op n s ks,h=>by
  obtain⟨h1,h2⟩:=Z0Q h
  replace h1:Z0v Zk op n s ks.length=true:=h1
  have hs:s.size≤4:=by
   rcases Z1M (ks:=ks) h1 with⟨_,_,_,rfl,_⟩|⟨_,_,h,_⟩|⟨_,_,h⟩|⟨_,_,rfl,_⟩|⟨_,_,rfl,_⟩
   ·exact Nat.zero_le _
   ·exact(Z0t h).2.1
   ·exact(Z0t h).2.1
   ·exact Nat.zero_le _
   ·exact Nat.zero_le _
  have hp:Z0k (.mk op n s ks)=false:=by
   show decide (maxLen<s.size)=false
   exact decide_eq_false (by unfold maxLen;omega)
  have hk:ks.any (Z1z Z0k m)=false:=List.any_eq_false.2 fun k hk=>by rw [Z5I (h2 k hk)];decide
  show(Z0k (.mk op n s ks)||ks.any (Z1z Z0k m))=false
  rw [hp,hk];rfl
theorem Zb6 {D:Nat} {S:Nat→Prop} {w:World} {c:List Value} {x:Z6} (hf:Z05 6 x=true) (h:ZJ D S w c x):ZG 12 S w c x:=by
 have h6:=Z8B hf h
 exact⟨Z0x (by omega) h6,by rw [Z0N h6 (by omega)];exact Z5I hf⟩
structure Z3z (w:World) (rb:Nat) (la:Option Addr) (lc:Nat) (ws:List Z7) (tb sb dd:Nat) (op:Int) (nm:ByteArray) (aa:Option Addr) (ac:Nat) (args:List Z6) (ba:Option Addr) (bc:Nat) (body:List Zb) (ea:Option Addr) (ec:Nat) (els:List Zb) (at_:Nat) (wr:World):Prop where
 rdr:Z0u wr rb la lc ws at_
 srow:wr.heap[sb]? = some (.cells #[.int .i64 op,.string nm,.slice aa args.length ac,.slice ba body.length bc,.slice ea els.length ec] 48 (0,0))
 trow:wr.heap[tb]? = some (.cells #[.int .i64 0,.string ⟨#[]⟩,.slice none 0 0,.slice none 0 0,.slice none 0 0] 48 (0,0))
 hargs:Za 4 (ZG 12) (fun k=>w.heap.size≤k∧k≠sb∧k≠tb) wr aa args
 hbody:Za 5 (Zv dd) (fun k=>w.heap.size≤k∧k≠sb∧k≠tb) wr ba body
 hels:Za 5 (Zv dd) (fun k=>w.heap.size≤k∧k≠sb∧k≠tb) wr ea els
 turn:Zd rb w wr
 blocks:rb<w.heap.size∧w.heap.size≤tb∧w.heap.size≤sb∧sb≠tb
 words:∀b o,la=some ⟨b,o,none⟩→ws≠[]→b<w.heap.size
section
variable {w wr w':World} {rb:Nat} {la:Option Addr} {lc:Nat} {ws:List Z7} {tb sb dd:Nat} {op:Int} {nm:ByteArray} {aa:Option Addr} {ac:Nat} {args:List Z6} {ba:Option Addr} {bc:Nat} {body:List Zb} {ea:Option Addr} {ec:Nat} {els:List Zb} {at_ at2:Nat}
theorem Z3z.size (h:Z3z w rb la lc ws tb sb dd op nm aa ac args ba bc body ea ec els at_ wr):w.heap.size≤wr.heap.size:=Ze.size (S:=fun k=>k=rb∨w.heap.size≤k) h.turn
theorem Z3z.call (h:Z3z w rb la lc ws tb sb dd op nm aa ac args ba bc body ea ec els at_ wr) (ht:Zd rb wr w') (hr:Z0u w' rb la lc ws at2):Z3z w rb la lc ws tb sb dd op nm aa ac args ba bc body ea ec els at2 w':=by
 have hb:=h.blocks
 have hs:=(gsI h.srow).1
 have hst:=(gsI h.trow).1
 have hsep:∀k,k<wr.heap.size→(w.heap.size≤k∧k≠sb∧k≠tb)→¬(k=rb∨wr.heap.size≤k):=fun k h1 h2 h3=>by rcases h3 with h3|h3<;>omega
 exact⟨hr,(ht.block hs (by omega)).trans h.srow,(ht.block hst (by omega)).trans h.trow,h.hargs.turned (Z1 12) ht hsep,h.hbody.turned (Z0 dd) ht hsep,h.hels.turned (Z0 dd) ht hsep,h.turn.trans ht,hb,h.words⟩
theorem Z3z.over (h:Z3z w rb la lc ws tb sb dd op nm aa ac args ba bc body ea ec els at_ wr) (ht:Ze (fun k=>k=sb) wr w') :
  Z0u w' rb la lc ws at_∧w'.heap[tb]? = some (.cells #[.int .i64 0,.string ⟨#[]⟩,.slice none 0 0,.slice none 0 0,.slice none 0 0] 48 (0,0))∧Za 4 (ZG 12) (fun k=>w.heap.size≤k∧k≠sb∧k≠tb) w' aa args∧
   Za 5 (Zv dd) (fun k=>w.heap.size≤k∧k≠sb∧k≠tb) w' ba body∧Za 5 (Zv dd) (fun k=>w.heap.size≤k∧k≠sb∧k≠tb) w' ea els∧Zd rb w w':=by
 have hb:=h.blocks
 have hst:=(gsI h.trow).1
 have hsep:∀k,k<wr.heap.size→(w.heap.size≤k∧k≠sb∧k≠tb)→¬k=sb:=fun k _ h2=>h2.2.1
 exact⟨Z1C h.rdr ht (by omega) (fun b o h1 h2=>by have:=h.words b o h1 h2;omega),(ht.block tb hst (by omega)).trans h.trow,h.hargs.turned (Z1 12) ht hsep,h.hbody.turned (Z0 dd) ht hsep,h.hels.turned (Z0 dd) ht hsep,Z0T h.turn ht hb.2.2.1⟩
theorem Z3z.putName (h:Z3z w rb la lc ws tb sb dd op nm aa ac args ba bc body ea ec els at_ wr) (s:ByteArray):Z3z w rb la lc ws tb sb dd op s aa ac args ba bc body ea ec els at_ (wr.setCell ⟨sb,1,none⟩ (.string s)):=by
 obtain⟨h1,h2,h3,h4,h5,h6⟩:=h.over (Z4 wr sb 1 (.string s))
 exact⟨h1,(hSs wr sb 1 _ _ _ h.srow).trans rfl,h2,h3,h4,h5,h6,h.blocks,h.words⟩
theorem Z3z.putBody (h:Z3z w rb la lc ws tb sb dd op nm aa ac args ba bc body ea ec els at_ wr) {ba2:Option Addr} {bc2:Nat} {body2:List Zb} (ha:Za 5 (Zv dd) (fun k=>w.heap.size≤k∧k≠sb∧k≠tb) wr ba2 body2) :
  Z3z w rb la lc ws tb sb dd op nm aa ac args ba2 bc2 body2 ea ec els at_ (wr.setCell ⟨sb,3,none⟩ (.slice ba2 body2.length bc2)):=by
 have ht:=Z4 wr sb 3 (.slice ba2 body2.length bc2)
 obtain⟨h1,h2,h3,h4,h5,h6⟩:=h.over ht
 exact⟨h1,(hSs wr sb 3 _ _ _ h.srow).trans rfl,h2,h3,ha.turned (Z0 dd) ht (fun k _ h=>h.2.1),h5,h6,h.blocks,h.words⟩
theorem Z3z.putEls (h:Z3z w rb la lc ws tb sb dd op nm aa ac args ba bc body ea ec els at_ wr) {ea2:Option Addr} {ec2:Nat} {els2:List Zb} (ha:Za 5 (Zv dd) (fun k=>w.heap.size≤k∧k≠sb∧k≠tb) wr ea2 els2) :
  Z3z w rb la lc ws tb sb dd op nm aa ac args ba bc body ea2 ec2 els2 at_ (wr.setCell ⟨sb,4,none⟩ (.slice ea2 els2.length ec2)):=by
 have ht:=Z4 wr sb 4 (.slice ea2 els2.length ec2)
 obtain⟨h1,h2,h3,h4,h5,h6⟩:=h.over ht
 exact⟨h1,(hSs wr sb 4 _ _ _ h.srow).trans rfl,h2,h3,h4,ha.turned (Z0 dd) ht (fun k _ h=>h.2.1),h6,h.blocks,h.words⟩
theorem Z3z.cells (h:Z3z w rb la lc ws tb sb dd op nm aa ac args ba bc body ea ec els at_ wr) :
  (wr.cell? ⟨sb,0,none⟩=some (.int .i64 op)∧wr.cell? ⟨sb,1,none⟩=some (.string nm)∧wr.cell? ⟨sb,2,none⟩=some (.slice aa args.length ac)∧wr.cell? ⟨sb,3,none⟩=some (.slice ba body.length bc)∧wr.cell? ⟨sb,4,none⟩=some (.slice ea els.length ec))∧
  (wr.frozen? ⟨sb,1,none⟩=false∧wr.frozen? ⟨sb,2,none⟩=false∧wr.frozen? ⟨sb,3,none⟩=false∧wr.frozen? ⟨sb,4,none⟩=false):=
 ⟨⟨(coR _ _ 0 _ _ _ h.srow).trans rfl,(coR _ _ 1 _ _ _ h.srow).trans rfl,(coR _ _ 2 _ _ _ h.srow).trans rfl,(coR _ _ 3 _ _ _ h.srow).trans rfl,(coR _ _ 4 _ _ _ h.srow).trans rfl⟩,
   frR _ _ 1 _ _ h.srow,frR _ _ 2 _ _ h.srow,frR _ _ 3 _ _ h.srow,frR _ _ 4 _ _ h.srow⟩
theorem Z3z.tcells (h:Z3z w rb la lc ws tb sb dd op nm aa ac args ba bc body ea ec els at_ wr) :
  (wr.cell? ⟨tb,0,none⟩=some (.int .i64 0)∧wr.cell? ⟨tb,1,none⟩=some (.string ⟨#[]⟩)∧wr.cell? ⟨tb,2,none⟩=some (.slice none 0 0)∧wr.cell? ⟨tb,3,none⟩=some (.slice none 0 0)∧wr.cell? ⟨tb,4,none⟩=some (.slice none 0 0))∧
  (wr.frozen? ⟨tb,0,none⟩=false∧wr.frozen? ⟨tb,1,none⟩=false∧wr.frozen? ⟨tb,2,none⟩=false∧wr.frozen? ⟨tb,3,none⟩=false∧wr.frozen? ⟨tb,4,none⟩=false):=
 ⟨⟨(coR _ _ 0 _ _ _ h.trow).trans rfl,(coR _ _ 1 _ _ _ h.trow).trans rfl,(coR _ _ 2 _ _ _ h.trow).trans rfl,(coR _ _ 3 _ _ _ h.trow).trans rfl,(coR _ _ 4 _ _ _ h.trow).trans rfl⟩,
   frR _ _ 0 _ _ h.trow,frR _ _ 1 _ _ h.trow,frR _ _ 2 _ _ h.trow,frR _ _ 3 _ _ h.trow,frR _ _ 4 _ _ h.trow⟩
def ZaN (w:World) (rb:Nat) (la:Option Addr) (lc:Nat) (ws:List Z7) (dd at_:Nat) (s:Zb) (rest:List Z7) (e:Ending) (w':World):Prop:=
 ∃(cs:List Value) (at2:Nat),e=.returned (.agg cs.toArray)∧Zv dd (fun k=>w.heap.size≤k) w' cs s∧Z0u w' rb la lc ws at2∧ws.drop at2=rest∧at_<at2∧Zd rb w w'
def Zbh (w:World) (rb:Nat) (la:Option Addr) (lc:Nat) (ws:List Z7) (dd at_:Nat) (ss:List Zb) (rest:List Z7) (e:Ending) (w':World):Prop:=
 ∃(a:Option Addr) (c at2:Nat),e=.returned (.slice a ss.length c)∧Za 5 (Zv dd) (fun k=>w.heap.size≤k) w' a ss∧Z0u w' rb la lc ws at2∧ws.drop at2=rest∧at_<at2∧Zd rb w w'
theorem Z3z.fin {rest:List Z7} {at0:Nat} (h:Z3z w rb la lc ws tb sb dd op nm aa ac args ba bc body ea ec els at_ wr) (hb:nm.size≤maxLen∧-9223372036854775808≤op∧op≤9223372036854775807∧args.length≤100∧body.length≤100∧els.length≤100) (hr:ws.drop at_=rest) (h0:at0<at_) :
  (((((wr.setCell ⟨tb,0,none⟩ (.int .i64 op)).setCell ⟨tb,1,none⟩ (.string nm)).setCell ⟨tb,2,none⟩ (.slice aa args.length ac)).setCell ⟨tb,3,none⟩ (.slice ba body.length bc)).setCell ⟨tb,4,none⟩ (.slice ea els.length ec)).heap[tb]? = some (.cells (List.toArray [.int .i64 op,.string nm,.slice aa args.length ac,.slice ba body.length bc,.slice ea els.length ec]) 48 (0,0))∧
  ZaN w rb la lc ws (dd+1) at0 (.mk op nm args body els) rest (.returned (.agg (List.toArray [.int .i64 op,.string nm,.slice aa args.length ac,.slice ba body.length bc,.slice ea els.length ec]))) (((((wr.setCell ⟨tb,0,none⟩ (.int .i64 op)).setCell ⟨tb,1,none⟩ (.string nm)).setCell ⟨tb,2,none⟩ (.slice aa args.length ac)).setCell ⟨tb,3,none⟩ (.slice ba body.length bc)).setCell ⟨tb,4,none⟩ (.slice ea els.length ec)):=by
 have h1:=Z4 wr tb 0 (.int .i64 op)
 have h2:=Z4 (wr.setCell ⟨tb,0,none⟩ (.int .i64 op)) tb 1 (.string nm)
 have h3:=Z4 ((wr.setCell ⟨tb,0,none⟩ (.int .i64 op)).setCell ⟨tb,1,none⟩ (.string nm)) tb 2 (.slice aa args.length ac)
 have h4:=Z4 (((wr.setCell ⟨tb,0,none⟩ (.int .i64 op)).setCell ⟨tb,1,none⟩ (.string nm)).setCell ⟨tb,2,none⟩ (.slice aa args.length ac)) tb 3 (.slice ba body.length bc)
 have h5:=Z4 ((((wr.setCell ⟨tb,0,none⟩ (.int .i64 op)).setCell ⟨tb,1,none⟩ (.string nm)).setCell ⟨tb,2,none⟩ (.slice aa args.length ac)).setCell ⟨tb,3,none⟩ (.slice ba body.length bc)) tb 4 (.slice ea els.length ec)
 have ht:=(((h1.trans h2).trans h3).trans h4).trans h5
 have hrow:(((((wr.setCell ⟨tb,0,none⟩ (.int .i64 op)).setCell ⟨tb,1,none⟩ (.string nm)).setCell ⟨tb,2,none⟩ (.slice aa args.length ac)).setCell ⟨tb,3,none⟩ (.slice ba body.length bc)).setCell ⟨tb,4,none⟩ (.slice ea els.length ec)).heap[tb]? = some (.cells (List.toArray [.int .i64 op,.string nm,.slice aa args.length ac,.slice ba body.length bc,.slice ea els.length ec]) 48 (0,0)):=(hSs _ tb 4 _ _ _ ((hSs _ tb 3 _ _ _ ((hSs _ tb 2 _ _ _ ((hSs _ tb 1 _ _ _ ((hSs wr tb 0 _ _ _ h.trow).trans rfl)).trans rfl)).trans rfl)).trans rfl)).trans rfl
 clear h1 h2 h3 h4 h5
 generalize ((((wr.setCell ⟨tb,0,none⟩ (.int .i64 op)).setCell ⟨tb,1,none⟩ (.string nm)).setCell ⟨tb,2,none⟩ (.slice aa args.length ac)).setCell ⟨tb,3,none⟩ (.slice ba body.length bc)).setCell ⟨tb,4,none⟩ (.slice ea els.length ec)=wf at ht hrow ⊢
 have hbl:=h.blocks
 have hS:∀k,k<wr.heap.size→(w.heap.size≤k∧k≠sb∧k≠tb)→¬k=tb:=fun k _ h2=>h2.2.2
 refine⟨hrow,_,at_,rfl,⟨aa,ac,ba,bc,ea,ec,rfl,hb,(h.hargs.turned (Z1 12) ht hS).mono (Z1 12) (fun k _ h=>h.1),(h.hbody.turned (Z0 dd) ht hS).mono (Z0 dd) (fun k _ h=>h.1),(h.hels.turned (Z0 dd) ht hS).mono (Z0 dd) (fun k _ h=>h.1)⟩,?_,hr,h0,Z0T h.turn ht hbl.2.1⟩
 exact Z1C h.rdr ht (by omega) (fun b o h1 h2=>by have:=h.words b o h1 h2;omega)
end
end Go.Proofs.YtloooebabieeeaaGreatDoor
