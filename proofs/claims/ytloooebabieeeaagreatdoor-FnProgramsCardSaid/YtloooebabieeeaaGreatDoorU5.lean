/-
  The program's words of statements. (printed by mku5.py)
-/
import Derived.Test.YtloooebabieeeaaGreatDoorCp
import Derived.Test.YtloooebabieeeaaGreatDoorCq
import Derived.Test.YtloooebabieeeaaGreatDoorU4
import Derived.Test.YtloooebabieeeaaGreatDoorDr5
set_option maxRecDepth 100000
set_option maxHeartbeats 16000000
set_option linter.unusedVariables false
namespace Go.Proofs.YtloooebabieeeaaGreatDoor
open Go.RowKit
def SwC (d:Nat):Prop:=∀(W0:World) (P:Nat→Prop) (w:World) (a:Option Addr) (c:Nat) (ws:List Z7) (sa:Option Addr) (sc:Nat) (ss:List Zb) (dd:Nat),Z30 W0→Z0c W0 P w a c ws→Za 5 (Zv dd) (fun _=>True) W0 sa ss→(∀s∈ss,ZH d s=true)→ss.length≤100→ws.length+(ss.flatMap (Zm d)).length≤4000000→
 Calls Tryz.prog 47 #[.slice a ws.length c,.slice sa ss.length sc] w (Z3d W0 P w ws (ss.flatMap (Zm d)))
def BwC (d:Nat):Prop:=∀(W0:World) (P:Nat→Prop) (w:World) (a:Option Addr) (c:Nat) (ws:List Z7) (sa:Option Addr) (sc:Nat) (ss:List Zb) (dd:Nat),Z30 W0→Z0c W0 P w a c ws→Za 5 (Zv dd) (fun _=>True) W0 sa ss→(∀s∈ss,ZH d s=true)→ss.length≤100→ws.length+(Zx (ss.flatMap (Zm d))).length≤4000000→
 Calls Tryz.prog 26 #[.slice a ws.length c,.slice sa ss.length sc] w (Z3d W0 P w ws (Zx (ss.flatMap (Zm d))))
theorem Z93 {α β : Type} (f:α→List β) (xs:List α) (j:Nat):((xs.take j).flatMap f).length≤(xs.flatMap f).length:=by
 have h:xs.flatMap f=(xs.take j).flatMap f++(xs.drop j).flatMap f:=by rw [← List.flatMap_append,List.take_append_drop]
 rw [h,List.length_append]
 omega
theorem Z4Z {α β : Type} (f:α→List β) {xs:List α} {j:Nat} {x:α} (h:xs[j]? = some x):(xs.take (j+1)).flatMap f=(xs.take j).flatMap f++f x:=by
 rw [List.take_add_one,h]
 simp
theorem Z3O (d:Nat) (hs:SwC d):BwC d:=by
 intro W0 P w a c ws sa sc ss dd hT hW hx hB hn hl
 have hl2:ws.length+((ss.flatMap (Zm d)).length+2)≤4000000:=by
  have h:=hl
  rw [show Zx (ss.flatMap (Zm d))=sgW 123::ss.flatMap (Zm d)++[sgW 125] from rfl] at h
  simp only [List.length_append,List.length_cons,List.length_nil] at h
  omega
 have HIX:=hdd (fun (W:World) (a:Option Addr) (c:Nat) (ws:List Z7) (h1:Z0c W0 P W a c ws) (h2:ws.length+(ss.flatMap (Zm d)).length≤4000000)=>hs W0 P W a c ws sa sc ss dd hT h1 hx hB hn h2)
 have HS:=hdd hW
 obtain⟨R,hR⟩:∃R,R=ss.flatMap (Zm d):=⟨_,rfl⟩
 rw [← hR] at hl2 HIX ⊢
 clear hR hT hW hx hB hl hs
 go_enter Tryz.func26,Tryz.ntmps26
 go_wp2_with fail
 refine(ZK _ w).mono ?_
 rintro e w2 ⟨rfl,hb2⟩
 have HS2:=hdd (HS.out.later hb2)
 have HK2:=hdd (Z8 HS.out.lt hb2)
 clear hb2
 go_wp2_with (at_builtin;refine Z5g rfl (.tmp 5) (.tmp 7) rfl rfl (HS2.out.later ((bRf _ _).alloc (Nat.le_refl _) _)) [sgW 123] _ 1 1 rfl rfl (by decide) (Zc _ _ _) (by intro v hv;simp at hv;subst hv;decide) (by omega) ?_;intro ws5 a5 c5 w5 H5)
 refine(HIX.out w5 a5 c5 ws5 H5.out.2.1 (by
  rw [H5.out.1]
  simp only [List.length_append,List.length_cons,List.length_nil]
  omega)).mono ?_
 rintro e w6 ⟨ws6,a6,c6,rfl,H6⟩
 have hl6:ws6.length+1≤4000000:=by
  rw [H6.out.1,H5.out.1]
  simp only [List.length_append,List.length_cons,List.length_nil]
  omega
 go_wp2_with fail
 refine(ZK _ w6).mono ?_
 rintro e w7 ⟨rfl,hb7⟩
 have HS7:=hdd (H6.out.2.1.later hb7)
 have HK7:=hdd ((HK2.out.trans ((Z8 HS2.out.lt ((bRf _ _).alloc (Nat.le_refl _) _)).trans H5.out.2.2)).trans (H6.out.2.2.trans (Z8 H6.out.2.1.lt hb7)))
 clear hb7
 go_wp2_with (at_builtin;refine Z5g rfl (.tmp 10) (.tmp 12) rfl rfl (HS7.out.later ((bRf _ _).alloc (Nat.le_refl _) _)) [sgW 125] _ 1 1 rfl rfl (by decide) (Zc _ _ _) (by intro v hv;simp at hv;subst hv;decide) (by omega) ?_;intro ws8 a8 c8 w8 H8)
 go_ret
 exact⟨ws8,a8,c8,rfl,hdd ⟨by rw [H8.out.1,H6.out.1,H5.out.1];simp [Zx],H8.out.2.1,HK7.out.trans ((Z8 HS7.out.lt ((bRf _ _).alloc (Nat.le_refl _) _)).trans H8.out.2.2)⟩⟩
theorem Z3m (D:Nat) (ih:∀d,d+1=D→BwC d):SwC D:=by
 intro W0 P w a c ws sa sc ss dd hT hW hx hB hn hl
 have HT:=hdd hT
 have HS:=hdd hW
 have HX:=hdd hx
 have HBS:=hdd hB
 have HIH:=hdd ih
 have HL:=hdd hl
 have HLOW:=hdd hW.low
 clear hT hW hx hB hl ih
 go_enter Tryz.func47,Tryz.ntmps47
 go_wp2_with fail
 go_loopg [0,11] ss.length (fun G l i wr=>∃(j:Nat) (wj:List Z7) (aj:Option Addr) (cj:Nat),j+G=ss.length∧i=.int .i64 j∧l=.slice aj wj.length cj∧Hid (wj=ws++(ss.take j).flatMap (Zm D)∧Z0c W0 P wr aj cj wj∧Z1l P w wr))
 case atStart=>exact⟨0,ws,a,c,by omega,rfl,rfl,hdd ⟨by simp,HS.out,Ze.refl _ _⟩⟩
 case round=>
  obtain⟨j,wj,aj,cj,hj,rfl,rfl,HG⟩:=hrel
  obtain⟨wo,hwo⟩:∃wo,wo=wr:=⟨_,rfl⟩
  rw [← hwo] at HG ⊢
  clear hwo wr
  by_cases hlt:j<ss.length
  rotate_left
  ·obtain rfl:j=ss.length:=by omega
   have hji:¬(ss.length:Int)<(ss.length:Int):=by omega
   go_wp2
   go_ret
   exact⟨wj,aj,cj,rfl,hdd ⟨by rw [HG.out.1,List.take_length],HG.out.2.1,HG.out.2.2⟩⟩
  have hji:(j:Int)<(ss.length:Int):=by omega
  obtain⟨b1,o1,s,aa,ac,ba,bc,ea,ec,hsa,hs,hP,g0,g1,g2,g3,g4⟩:=Z1x HX.out hlt
  have hsB:=HBS.out s (List.mem_of_getElem? hs)
  cases D with
  | zero=>cases hsB
  | succ d=>
  cases dd with
  | zero=>exact hP.elim
  | succ dd=>
  have HSU:=hdd (show ws++(ss.take (j+1)).flatMap (Zm (d+1))=wj++Zm (d+1) s from by rw [Z4Z _ hs,HG.out.1,List.append_assoc])
  have HLJ:=hdd (show wj.length+(Zm (d+1) s).length≤4000000 from by
   have h1:=Z93 (Zm (d+1)) ss (j+1)
   rw [Z4Z _ hs] at h1
   have h2:=HL.out
   rw [HG.out.1]
   simp only [List.length_append] at h1 h2 ⊢
   omega)
  obtain⟨op,nm,args,body,els⟩:=s
  subst hsa
  obtain⟨aa0,ac0,ba0,bc0,ea0,ec0,hce,⟨hl0,-,-,hl1,hl2,hl3⟩,hA,hBd,hE⟩:=hP
  obtain⟨rfl,rfl,rfl,rfl,rfl,rfl⟩:aa=aa0∧ac=ac0∧ba=ba0∧bc=bc0∧ea=ea0∧ec=ec0:=by simp at hce;exact⟨hce.1.1,hce.1.2,hce.2.1.1,hce.2.1.2,hce.2.2.1,hce.2.2.2⟩
  replace hsB:(ZbY (.mk op nm args body els)&&body.all (ZH d)&&els.all (ZH d))=true:=hsB
  simp only [Bool.and_eq_true,List.all_eq_true] at hsB
  have hsh:=Z0p hsB.1.1
  have HAR:=hdd (show Z03 4 (ZX 12) W0 aa args.length args from Z4S (S:=fun _=>True) hA)
  have HAF:=hdd hsh.2.2.2.2.1
  have HBD:=hdd (show Za 5 (Zv dd) (fun _=>True) W0 ba body∧(∀s∈body,ZH d s=true)∧body.length≤100 from⟨hBd,hsB.1.2,hl2⟩)
  have HED:=hdd (show Za 5 (Zv dd) (fun _=>True) W0 ea els∧(∀s∈els,ZH d s=true)∧els.length≤100 from⟨hE,hsB.2,hl3⟩)
  have HIB:=hdd (HIH.out d rfl)
  have HSZ:=hdd (show nm.size≤maxLen from hl0)
  have hal:args.length≤100:=hl1
  have hbl:body.length≤100:=hl2
  have hell:els.length≤100:=hl3
  have c0:=clT HG.out.2.1.base g0
  have c1:=clT HG.out.2.1.base g1
  have c2:=clT HG.out.2.1.base g2
  have c3:=clT HG.out.2.1.base g3
  have c4:=clT HG.out.2.1.base g4
  simp only [Zb.op,Zb.name,Zb.args,Zb.body,Zb.els] at c0 c1 c2 c3 c4
  have HSK:=hdd (HG.out.2.1.box (.cells #[.int .i64 op,.string nm,.slice aa args.length ac,.slice ba body.length bc,.slice ea els.length ec] 48))
  have HRK:=hdd (hAn wo (.cells #[.int .i64 op,.string nm,.slice aa args.length ac,.slice ba body.length bc,.slice ea els.length ec] 48))
  have HGK0:=hdd (HG.out.2.2.trans (Z8 HG.out.2.1.lt ((bRf wo.heap.size wo).alloc (Nat.le_refl _) (.cells #[.int .i64 op,.string nm,.slice aa args.length ac,.slice ba body.length bc,.slice ea els.length ec] 48))))
  clear hs hce hA hBd hE hsB hl0 hl1 hl2 hl3 g0 g1 g2 g3 g4
  go_upto_region 4 with fail
  clear c0 c1 c2 c3 c4
  obtain⟨sb,hsb⟩:∃n,n=wo.heap.size:=⟨_,rfl⟩
  generalize wo.alloc (.cells #[.int .i64 op,.string nm,.slice aa args.length ac,.slice ba body.length bc,.slice ea els.length ec] 48)=wk at HSK HRK HGK0 ⊢
  rw [← hsb] at HSK HRK ⊢
  obtain⟨P2,hP2⟩:∃P2:Nat→Prop,P2=fun q=>P q∨q=sb:=⟨_,rfl⟩
  rw [← hP2] at HSK
  have HPS:=hdd (show(∀q,P q→P2 q)∧P2 sb from⟨fun q h=>by rw [hP2];exact .inl h,by rw [hP2];exact .inr rfl⟩)
  have HGK:=hdd HGK0.out
  clear hsb hP2 HGK0
  have e0:=coR _ _ 0 _ _ _ HRK.out
  have e1:=coR _ _ 1 _ _ _ HRK.out
  have e2:=coR _ _ 2 _ _ _ HRK.out
  have e3:=coR _ _ 3 _ _ _ HRK.out
  have e4:=coR _ _ 4 _ _ _ HRK.out
  simp only [ga0,ga1,ga2] at e0 e1 e2 e3 e4
  have HES:=hdd (aI e0 (aI e1 (aI e2 (aI e3 e4))))
  obtain⟨hd,hhd⟩:∃hd,hd=Z1X op nm:=⟨_,rfl⟩
  obtain⟨tl,htl⟩:∃tl,tl=(if op=5∨op=6 then Zx (body.flatMap (Zm d))++(if els.length=0 then [] else kyW 5::Zx (els.flatMap (Zm d))) else [sgW 59]):=⟨_,rfl⟩
  have HWS:Zm (d+1) (.mk op nm args body els)=hd++Zr 0 (args.map fun e=>Z9 6 e 1)++tl:=by rw [Z0z,hhd,htl]
  have HNX:=hdd (show ws++(ss.take (j+1)).flatMap (Zm (d+1))=wj++(hd++Zr 0 (args.map fun e=>Z9 6 e 1)++tl) from by rw [HSU.out,HWS])
  have HLS:=hdd (show wj.length+(hd++Zr 0 (args.map fun e=>Z9 6 e 1)++tl).length≤4000000 from by have:=HLJ.out;rw [HWS] at this;exact this)
  have hlh:wj.length+3≤1099511627776:=by have:=HLS.out;omega
  have HHD:=hdd hhd
  have HTL:=hdd htl
  clear hhd htl HWS HSU HLJ
  have hop8:op=1∨op=2∨op=3∨op=4∨op=5∨op=6∨op=7∨op=8:=by have:=hsh.1;have:=hsh.2.1;omega
  rcases hop8 with rfl|rfl|rfl|rfl|rfl|rfl|rfl|rfl
  focus
   have hwd:Below wk.heap.size wk wk.drew:=(bRf _ _).drew
   have HD:=hdd (HSK.out.later hwd)
   have HKD:=hdd (Z8 HSK.out.lt hwd)
   have HH0:=hdd (show(fun W:World=>W.cell? ⟨sb,1,none⟩=some (.string nm)) wk.drew from clT hwd e1)
   clear hwd
   go_upto_region 6 with fail
   clear e0 e1 e2 e3 e4
   refine Zw (S:=fun W:World=>W.cell? ⟨sb,1,none⟩=some (.string nm)) (by kernel_rfl) ?_
   generalize wk.drew=wd at HD HKD HH0 ⊢
   have hHeld:(fun W:World=>W.cell? ⟨sb,1,none⟩=some (.string nm)) wd:=HH0.out
   refine tkL 7 0 (some 19) hHeld ?_
   (try simp only [Act.put,pu1,pu2,pu3])
   refine tkL 3 2 (some 21) hHeld ?_
   (try simp only [Act.put,pu1,pu2,pu3])
   refine tkL 4 3 (some 22) hHeld ?_
   (try simp only [Act.put,pu1,pu2,pu3])
   refine Z06 1 (some 20) fun K hK=>?_
   go_simp
   go_at_call 23
   refine(Z0K _ wd).mono ?_
   rintro e w2 ⟨rfl,hb2⟩
   refine kpL hK (clT hb2 hHeld) ?_
   clear hK K hHeld;intro hHeld
   (try simp only [Act.put,pu1,pu2,pu3])
   refine Z06 4 (some 23) fun K hK=>?_
   go_simp
   go_at_call 24
   refine(Z10 _ w2).mono ?_
   rintro e w3 ⟨rfl,hb3⟩
   refine kpL hK (clT hb3 hHeld) ?_
   clear hK K hHeld;intro hHeld
   (try simp only [Act.put,pu1,pu2,pu3])
   refine Z06 5 (some 24) fun K hK=>?_
   go_simp
   go_at_call 25
   refine(ZK _ w3).mono ?_
   rintro e w4 ⟨rfl,hb4⟩
   have HD4:=hdd (((HD.out.later hb2).later hb3).later hb4)
   have HK4:=hdd (HKD.out.trans ((Z8 HD.out.lt hb2).trans ((Z8 (HD.out.later hb2).lt hb3).trans (Z8 ((HD.out.later hb2).later hb3).lt hb4))))
   refine kpL hK (clT hb4 hHeld) ?_
   clear hK K hHeld;intro hHeld
   (try simp only [Act.put,pu1,pu2,pu3])
   refine Z06 6 (some 25) fun K hK=>?_
   go_simp
   have hb5:Below w4.heap.size w4 (w4.alloc (.cells (List.toArray [.int .i64 4,.string ⟨#[108,101,116]⟩,.int .i64 1,.string nm,.int .i64 3,.string ⟨#[61]⟩]) 55)):=(bRf _ _).alloc (Nat.le_refl _) _
   have HD5:=hdd (HD4.out.later hb5)
   have HK6:=hdd (HK4.out.trans (Z8 HD4.out.lt hb5))
   have HRO:=hdd (Zc w4 [.int .i64 4,.string ⟨#[108,101,116]⟩,.int .i64 1,.string nm,.int .i64 3,.string ⟨#[61]⟩] 55)
   generalize w4.alloc (.cells (List.toArray [.int .i64 4,.string ⟨#[108,101,116]⟩,.int .i64 1,.string nm,.int .i64 3,.string ⟨#[61]⟩]) 55)=w6 at HD5 HRO HK6 hb5 ⊢
   refine kpL hK (clT hb5 hHeld) ?_
   clear hK K hHeld;intro hHeld
   (try simp only [Act.put,pu1,pu2,pu3])
   refine Z06 7 (some 26) fun K hK=>?_
   refine Z9b rfl (.tmp 19) (.tmp 25) rfl rfl HD5.out [kyW 1,nmW nm,sgW 61] _ 3 3 rfl rfl (by decide) HRO.out (by intro v hv;simp at hv;rcases hv with rfl|rfl|rfl;decide;exact HSZ.out;decide) (by omega) ?_
   intro ws5 a5 c5 w5 H5
   refine kpL hK (Z0c.cell HD5.out H5.out.2.2 HPS.out.2 hHeld) ?_
   clear hK K hHeld;intro hHeld
   (try simp only [Act.put,pu1,pu2,pu3])
   refine Z06 8 (some 0) fun K hK=>?_
   go_simp
   refine hK.out _ _ (Z15 (by kernel_rfl)) ?_
   clear hK K hHeld
   (try simp only [Act.put,pu1,pu2,pu3])
   refine Zq (by kernel_rfl) ?_ _
   have HK5:=hdd (HK6.out.trans H5.out.2.2)
   have HW5:=hdd (show ws5=wj++hd∧Z0c W0 P2 w5 a5 c5 ws5 from⟨by rw [H5.out.1,HHD.out];rfl,H5.out.2.1⟩)
   clear H5 HD HKD hb2 hb3 hb4 HD4 HK4 hb5 HD5 HK6 HRO HH0
  rotate_left
  focus
   go_wp2_with fail
   refine(Z10 _ wk).mono ?_
   rintro e w2 ⟨rfl,hb2⟩
   go_wp2_with fail
   refine(ZK _ w2).mono ?_
   rintro e w3 ⟨rfl,hb3⟩
   have HS2:=hdd ((HSK.out.later hb2).later hb3)
   have HK2:=hdd ((Z8 HSK.out.lt hb2).trans (Z8 (HSK.out.later hb2).lt hb3))
   clear hb2 hb3 e0 e1 e2 e3 e4
   go_upto_region 21 with(at_builtin;refine Z5g rfl (.tmp 29) (.tmp 34) rfl rfl (HS2.out.later ((bRf _ _).alloc (Nat.le_refl _) _)) [nmW nm,sgW 61] _ 2 2 rfl rfl (by decide) (Zc _ _ _) (by intro v hv;simp at hv;rcases hv with rfl|rfl;exact HSZ.out;decide) (by omega) ?_;intro ws5 a5 c5 w5 H5)
   have HK5:=hdd (HK2.out.trans ((Z8 HS2.out.lt ((bRf _ _).alloc (Nat.le_refl _) _)).trans H5.out.2.2))
   have HW5:=hdd (show ws5=wj++hd∧Z0c W0 P2 w5 a5 c5 ws5 from⟨by rw [H5.out.1,HHD.out];rfl,H5.out.2.1⟩)
   clear H5 HS2 HK2
  rotate_left
  focus
   go_wp2_with fail
   refine(Z0K _ wk).mono ?_
   rintro e w2 ⟨rfl,hb2⟩
   have HS2:=hdd (HSK.out.later hb2)
   have HK2:=hdd (Z8 HSK.out.lt hb2)
   clear hb2 e0 e1 e2 e3 e4
   go_upto_region 21 with(at_builtin;refine Z5g rfl (.tmp 38) (.tmp 40) rfl rfl (HS2.out.later ((bRf _ _).alloc (Nat.le_refl _) _)) [kyW 2] _ 1 1 rfl rfl (by decide) (Zc _ _ _) (by intro v hv;simp at hv;subst hv;decide) (by omega) ?_;intro ws5 a5 c5 w5 H5)
   have HK5:=hdd (HK2.out.trans ((Z8 HS2.out.lt ((bRf _ _).alloc (Nat.le_refl _) _)).trans H5.out.2.2))
   have HW5:=hdd (show ws5=wj++hd∧Z0c W0 P2 w5 a5 c5 ws5 from⟨by rw [H5.out.1,HHD.out];rfl,H5.out.2.1⟩)
   clear H5 HS2 HK2
  rotate_left
  focus
   go_wp2_with fail
   refine(Z0K _ wk).mono ?_
   rintro e w2 ⟨rfl,hb2⟩
   have HS2:=hdd (HSK.out.later hb2)
   have HK2:=hdd (Z8 HSK.out.lt hb2)
   clear hb2 e0 e1 e2 e3 e4
   go_upto_region 21 with(at_builtin;refine Z5g rfl (.tmp 44) (.tmp 46) rfl rfl (HS2.out.later ((bRf _ _).alloc (Nat.le_refl _) _)) [kyW 3] _ 1 1 rfl rfl (by decide) (Zc _ _ _) (by intro v hv;simp at hv;subst hv;decide) (by omega) ?_;intro ws5 a5 c5 w5 H5)
   have HK5:=hdd (HK2.out.trans ((Z8 HS2.out.lt ((bRf _ _).alloc (Nat.le_refl _) _)).trans H5.out.2.2))
   have HW5:=hdd (show ws5=wj++hd∧Z0c W0 P2 w5 a5 c5 ws5 from⟨by rw [H5.out.1,HHD.out];rfl,H5.out.2.1⟩)
   clear H5 HS2 HK2
  rotate_left
  focus
   go_wp2_with fail
   refine(Z0K _ wk).mono ?_
   rintro e w2 ⟨rfl,hb2⟩
   have HS2:=hdd (HSK.out.later hb2)
   have HK2:=hdd (Z8 HSK.out.lt hb2)
   clear hb2 e0 e1 e2 e3 e4
   go_upto_region 21 with(at_builtin;refine Z5g rfl (.tmp 50) (.tmp 52) rfl rfl (HS2.out.later ((bRf _ _).alloc (Nat.le_refl _) _)) [kyW 4] _ 1 1 rfl rfl (by decide) (Zc _ _ _) (by intro v hv;simp at hv;subst hv;decide) (by omega) ?_;intro ws5 a5 c5 w5 H5)
   have HK5:=hdd (HK2.out.trans ((Z8 HS2.out.lt ((bRf _ _).alloc (Nat.le_refl _) _)).trans H5.out.2.2))
   have HW5:=hdd (show ws5=wj++hd∧Z0c W0 P2 w5 a5 c5 ws5 from⟨by rw [H5.out.1,HHD.out];rfl,H5.out.2.1⟩)
   clear H5 HS2 HK2
  rotate_left
  focus
   go_wp2_with fail
   refine(Z0K _ wk).mono ?_
   rintro e w2 ⟨rfl,hb2⟩
   have HS2:=hdd (HSK.out.later hb2)
   have HK2:=hdd (Z8 HSK.out.lt hb2)
   clear hb2 e0 e1 e2 e3 e4
   go_upto_region 21 with(at_builtin;refine Z5g rfl (.tmp 56) (.tmp 58) rfl rfl (HS2.out.later ((bRf _ _).alloc (Nat.le_refl _) _)) [kyW 6] _ 1 1 rfl rfl (by decide) (Zc _ _ _) (by intro v hv;simp at hv;subst hv;decide) (by omega) ?_;intro ws5 a5 c5 w5 H5)
   have HK5:=hdd (HK2.out.trans ((Z8 HS2.out.lt ((bRf _ _).alloc (Nat.le_refl _) _)).trans H5.out.2.2))
   have HW5:=hdd (show ws5=wj++hd∧Z0c W0 P2 w5 a5 c5 ws5 from⟨by rw [H5.out.1,HHD.out];rfl,H5.out.2.1⟩)
   clear H5 HS2 HK2
  rotate_left
  focus
   go_wp2_with fail
   refine(Z0K _ wk).mono ?_
   rintro e w2 ⟨rfl,hb2⟩
   have HS2:=hdd (HSK.out.later hb2)
   have HK2:=hdd (Z8 HSK.out.lt hb2)
   clear hb2 e0 e1 e2 e3 e4
   go_upto_region 21 with(at_builtin;refine Z5g rfl (.tmp 62) (.tmp 64) rfl rfl (HS2.out.later ((bRf _ _).alloc (Nat.le_refl _) _)) [kyW 7] _ 1 1 rfl rfl (by decide) (Zc _ _ _) (by intro v hv;simp at hv;subst hv;decide) (by omega) ?_;intro ws5 a5 c5 w5 H5)
   have HK5:=hdd (HK2.out.trans ((Z8 HS2.out.lt ((bRf _ _).alloc (Nat.le_refl _) _)).trans H5.out.2.2))
   have HW5:=hdd (show ws5=wj++hd∧Z0c W0 P2 w5 a5 c5 ws5 from⟨by rw [H5.out.1,HHD.out];rfl,H5.out.2.1⟩)
   clear H5 HS2 HK2
  rotate_left
  focus
   go_wp2_with fail
   refine(Z0K _ wk).mono ?_
   rintro e w2 ⟨rfl,hb2⟩
   have HS2:=hdd (HSK.out.later hb2)
   have HK2:=hdd (Z8 HSK.out.lt hb2)
   clear hb2 e0 e1 e2 e3 e4
   go_upto_region 21 with(at_builtin;refine Z5g rfl (.tmp 68) (.tmp 70) rfl rfl (HS2.out.later ((bRf _ _).alloc (Nat.le_refl _) _)) [kyW 8] _ 1 1 rfl rfl (by decide) (Zc _ _ _) (by intro v hv;simp at hv;subst hv;decide) (by omega) ?_;intro ws5 a5 c5 w5 H5)
   have HK5:=hdd (HK2.out.trans ((Z8 HS2.out.lt ((bRf _ _).alloc (Nat.le_refl _) _)).trans H5.out.2.2))
   have HW5:=hdd (show ws5=wj++hd∧Z0c W0 P2 w5 a5 c5 ws5 from⟨by rw [H5.out.1,HHD.out];rfl,H5.out.2.1⟩)
   clear H5 HS2 HK2
  rotate_left
  all_goals
   have e2:=Z0c.cell HSK.out HK5.out HPS.out.2 HES.out.2.2.1
   go_wp2_with fail
   go_loopg [0,75] args.length (fun G l i wr=>∃(k:Nat) (wj2:List Z7) (aj2:Option Addr) (cj2:Nat),k+G=args.length∧i=.int .i64 k∧l=.slice aj2 wj2.length cj2∧Hid (wj2=wj++hd++Zr 0 ((args.take k).map fun e=>Z9 6 e 1)∧Z0c W0 P2 wr aj2 cj2 wj2∧Z1l P2 wk wr))
   case atStart=>exact⟨0,ws5,a5,c5,by omega,rfl,rfl,hdd ⟨by rw [HW5.out.1];simp [Zr],HW5.out.2,HK5.out⟩⟩
   case round=>
    obtain⟨q,wj2,aj2,cj2,hq,rfl,rfl,HQ⟩:=hrel
    clear e2
    by_cases hlt2:q<args.length
    ·obtain⟨b2,o2,k,cs2,haa,hk,hkR,k1,k2,rfl,d0,d1,d2,d3⟩:=Z0r HAR.out hlt2
     subst haa
     have hqi:(q:Int)<(args.length:Int):=by omega
     have c0:=clT HQ.out.2.1.base d0
     have c1:=clT HQ.out.2.1.base d1
     have c2:=clT HQ.out.2.1.base d2
     have c3:=clT HQ.out.2.1.base d3
     have HCT:=hdd (Z25 (f:=fun e=>Z9 6 e 1) args 0 q k hk)
     have HKF:=hdd (aI hkR (HAF.out k (List.mem_of_getElem? hk)))
     have HLK:=hdd (show wj2.length+((if 0+q=0 then [] else [sgW 44])++Z9 6 k 1).length≤4000000 from by
      have h1:=Z3R (args.map fun e=>Z9 6 e 1) 0 (q+1)
      rw [← List.map_take,HCT.out] at h1
      have h2:=HLS.out
      rw [HQ.out.1]
      simp only [List.length_append] at h1 h2 ⊢
      omega)
     have HSE:=hdd (HQ.out.2.1.box (.cells #[.int .i64 k.op,.int .i64 k.n,.string k.name,.slice k1 k.kids.length k2] 64))
     have HRE:=hdd (hAn wr (.cells #[.int .i64 k.op,.int .i64 k.n,.string k.name,.slice k1 k.kids.length k2] 64))
     have HKE:=hdd (Z8 HQ.out.2.1.lt ((bRf wr.heap.size wr).alloc (Nat.le_refl _) (.cells #[.int .i64 k.op,.int .i64 k.n,.string k.name,.slice k1 k.kids.length k2] 64)))
     clear d0 d1 d2 d3 hk hkR
     go_upto_region 24 with fail
     obtain⟨kb,hkb⟩:∃n,n=wr.heap.size:=⟨_,rfl⟩
     generalize wr.alloc (.cells #[.int .i64 k.op,.int .i64 k.n,.string k.name,.slice k1 k.kids.length k2] 64)=we at HSE HRE HKE ⊢
     rw [← hkb] at HSE HRE ⊢
     obtain⟨P3,hP3⟩:∃P3:Nat→Prop,P3=fun q=>P2 q∨q=kb:=⟨_,rfl⟩
     rw [← hP3] at HSE
     have HPE:=hdd (show(∀q,P2 q→P3 q)∧P3 kb from⟨fun q h=>by rw [hP3];exact .inl h,by rw [hP3];exact .inr rfl⟩)
     clear hkb hP3 c0 c1 c2 c3
     have f0:=coR _ _ 0 _ _ _ HRE.out
     have f1:=coR _ _ 1 _ _ _ HRE.out
     have f2:=coR _ _ 2 _ _ _ HRE.out
     have f3:=coR _ _ 3 _ _ _ HRE.out
     simp only [ga0,ga1,ga2] at f0 f1 f2 f3
     by_cases h0:q=0
     ·have hq0:¬(0:Int)<(q:Int):=by omega
      have HJ:=hdd h0
      clear h0
      go_wp2_with fail
      refine(Z2N 6 W0 P3 we aj2 cj2 wj2 _ k false 12 HT.out HSE.out HKF.out.1 HKF.out.2 (by
       have h1:=HLK.out
       rw [if_pos (by rw [HJ.out])] at h1
       exact h1)).mono ?_
      rintro e w6 ⟨ws6,a6,c6,rfl,H6⟩
      clear f0 f1 f2 f3
      go_wp2
      go_roundg (gk-1)
      case measure=>omega
      case rel=>exact⟨q+1,ws6,a6,c6,by omega,by go_num,rfl,hdd ⟨by rw [H6.out.1,HQ.out.1,HCT.out,if_pos (by rw [HJ.out])];simp [Z3h],H6.out.2.1.unbox HPE.out.1 HSK.out.low,HQ.out.2.2.trans (HKE.out.trans (Z1l.un H6.out.2.2 HPE.out.1))⟩⟩
     ·have hq0:(0:Int)<(q:Int):=by omega
      have HJ:=hdd (show ¬0+q=0 from by omega)
      have hlw:wj2.length+1≤4000000:=by
       have h1:=HLK.out
       rw [if_neg HJ.out] at h1
       simp only [List.length_append,List.length_cons] at h1
       omega
      clear h0
      go_wp2_with fail
      refine(ZK _ we).mono ?_
      rintro e w2 ⟨rfl,hb2⟩
      have HS2:=hdd (HSE.out.later hb2)
      have HK2:=hdd (Z8 HSE.out.lt hb2)
      have HEE:=hdd (aI f0 (aI f1 (aI f2 f3)))
      clear hb2 f0 f1 f2 f3
      go_upto_region 26 with(at_builtin;refine Z5g rfl (.tmp 82) (.tmp 84) rfl rfl (HS2.out.later ((bRf _ _).alloc (Nat.le_refl _) _)) [sgW 44] _ 1 1 rfl rfl (by decide) (Zc _ _ _) (by intro v hv;simp at hv;subst hv;decide) (by omega) ?_;intro ws7 a7 c7 w7 H7)
      have HK7:=hdd (HK2.out.trans ((Z8 HS2.out.lt ((bRf _ _).alloc (Nat.le_refl _) _)).trans H7.out.2.2))
      have f0:=Z0c.cell HSE.out HK7.out HPE.out.2 HEE.out.1
      have f1:=Z0c.cell HSE.out HK7.out HPE.out.2 HEE.out.2.1
      have f2:=Z0c.cell HSE.out HK7.out HPE.out.2 HEE.out.2.2.1
      have f3:=Z0c.cell HSE.out HK7.out HPE.out.2 HEE.out.2.2.2
      go_wp2_with fail
      refine(Z2N 6 W0 P3 w7 a7 c7 ws7 _ k false 12 HT.out H7.out.2.1 HKF.out.1 HKF.out.2 (by
       have h1:=HLK.out
       rw [if_neg HJ.out] at h1
       have h2:(Z3h false (Z9 6 k 1)).length=(Z9 6 k 1).length:=rfl
       rw [H7.out.1,h2]
       simp only [List.length_append,List.length_cons,List.length_nil] at h1 ⊢
       omega)).mono ?_
      rintro e w6 ⟨ws6,a6,c6,rfl,H6⟩
      clear f0 f1 f2 f3
      go_wp2
      go_roundg (gk-1)
      case measure=>omega
      case rel=>exact⟨q+1,ws6,a6,c6,by omega,by go_num,rfl,hdd ⟨by rw [H6.out.1,H7.out.1,HQ.out.1,HCT.out,if_neg HJ.out];simp [Z3h],H6.out.2.1.unbox HPE.out.1 HSK.out.low,HQ.out.2.2.trans (HKE.out.trans (Z1l.un (HK7.out.trans H6.out.2.2) HPE.out.1))⟩⟩
    ·obtain rfl:q=args.length:=by omega
     have hqi:¬(args.length:Int)<(args.length:Int):=by omega
     have HWQ:=hdd (show wj2=wj++hd++Zr 0 (args.map fun e=>Z9 6 e 1) from by rw [HQ.out.1,List.take_length])
     have e0:=Z0c.cell HSK.out HQ.out.2.2 HPS.out.2 HES.out.1
     first
     |
      have HTS:=hdd (show tl=[sgW 59] from by rw [HTL.out];exact if_neg (by decide))
      have hlw:wj2.length+1≤4000000:=by
       have h2:=HLS.out
       rw [HTS.out] at h2
       rw [HWQ.out]
       simp only [List.length_append,List.length_cons,List.length_nil] at h2 ⊢
       omega
      go_wp2_with fail
      refine(ZK _ wr).mono ?_
      rintro e w6 ⟨rfl,hb6⟩
      have HS6:=hdd (HQ.out.2.1.later hb6)
      have HK6:=hdd (HQ.out.2.2.trans (Z8 HQ.out.2.1.lt hb6))
      clear hb6 e0
      go_wp2_with (at_builtin;refine Z5g rfl (.tmp 98) (.tmp 100) rfl rfl (HS6.out.later ((bRf _ _).alloc (Nat.le_refl _) _)) [sgW 59] _ 1 1 rfl rfl (by decide) (Zc _ _ _) (by intro v hv;simp at hv;subst hv;decide) (by omega) ?_;intro ws7 a7 c7 w7 H7)
      go_roundg (ss.length-(j+1))
      case measure=>omega
      case rel=>exact⟨j+1,ws7,a7,c7,by omega,by go_num,rfl,hdd ⟨by rw [H7.out.1,HWQ.out,HNX.out,HTS.out];simp,H7.out.2.1.unbox HPS.out.1 HLOW.out,HGK.out.trans (Z1l.un (HK6.out.trans ((Z8 HS6.out.lt ((bRf _ _).alloc (Nat.le_refl _) _)).trans H7.out.2.2)) HPS.out.1)⟩⟩
     |
      have HE0:=hdd (show els.length=0 from by rw [hsh.2.2.2.2.2.1 (by decide)];rfl)
      have HTS:=hdd (show tl=Zx (body.flatMap (Zm d)) from by rw [HTL.out,if_pos (by decide),if_pos HE0.out,List.append_nil])
      have e3:=Z0c.cell HSK.out HQ.out.2.2 HPS.out.2 HES.out.2.2.2.1
      go_wp2_with fail
      refine(HIB.out W0 P2 wr aj2 cj2 wj2 ba bc body dd HT.out HQ.out.2.1 HBD.out.1 HBD.out.2.1 HBD.out.2.2 (by
       have h2:=HLS.out
       rw [HTS.out] at h2
       rw [HWQ.out]
       simp only [List.length_append] at h2 ⊢
       omega)).mono ?_
      rintro e w6 ⟨ws6,a6,c6,rfl,H6⟩
      clear e0 e3
      have HK6:=hdd (HQ.out.2.2.trans H6.out.2.2)
      have e4:=Z0c.cell HSK.out HK6.out HPS.out.2 HES.out.2.2.2.2
      have hel:¬(0:Int)<(els.length:Int):=by have:=HE0.out;omega
      go_wp2
      go_roundg (ss.length-(j+1))
      case measure=>omega
      case rel=>exact⟨j+1,ws6,a6,c6,by omega,by go_num,rfl,hdd ⟨by rw [H6.out.1,HWQ.out,HNX.out,HTS.out];simp,H6.out.2.1.unbox HPS.out.1 HLOW.out,HGK.out.trans (Z1l.un (HK6.out) HPS.out.1)⟩⟩
     |
      have HTS:=hdd (show tl=Zx (body.flatMap (Zm d))++(if els.length=0 then [] else kyW 5::Zx (els.flatMap (Zm d))) from by rw [HTL.out,if_pos (by decide)])
      have e3:=Z0c.cell HSK.out HQ.out.2.2 HPS.out.2 HES.out.2.2.2.1
      go_wp2_with fail
      refine(HIB.out W0 P2 wr aj2 cj2 wj2 ba bc body dd HT.out HQ.out.2.1 HBD.out.1 HBD.out.2.1 HBD.out.2.2 (by
       have h2:=HLS.out
       rw [HTS.out] at h2
       rw [HWQ.out]
       simp only [List.length_append] at h2 ⊢
       omega)).mono ?_
      rintro e w6 ⟨ws6,a6,c6,rfl,H6⟩
      clear e0 e3
      have HK6:=hdd (HQ.out.2.2.trans H6.out.2.2)
      have e4:=Z0c.cell HSK.out HK6.out HPS.out.2 HES.out.2.2.2.2
      by_cases hle:els.length=0
      ·have hel:¬(0:Int)<(els.length:Int):=by omega
       have HE0:=hdd hle
       replace HTS:=hdd (show tl=Zx (body.flatMap (Zm d)) from by rw [HTS.out,if_pos HE0.out,List.append_nil])
       clear hle
       go_wp2
       go_roundg (ss.length-(j+1))
       case measure=>omega
       case rel=>exact⟨j+1,ws6,a6,c6,by omega,by go_num,rfl,hdd ⟨by rw [H6.out.1,HWQ.out,HNX.out,HTS.out];simp,H6.out.2.1.unbox HPS.out.1 HLOW.out,HGK.out.trans (Z1l.un (HK6.out) HPS.out.1)⟩⟩
      ·have hel:(0:Int)<(els.length:Int):=by omega
       have HE0:=hdd hle
       replace HTS:=hdd (show tl=Zx (body.flatMap (Zm d))++kyW 5::Zx (els.flatMap (Zm d)) from by rw [HTS.out,if_neg HE0.out])
       have HL9:=hdd (show ws6.length+(1+(Zx (els.flatMap (Zm d))).length)≤4000000 from by
        have h2:=HLS.out
        rw [HTS.out] at h2
        rw [H6.out.1,HWQ.out]
        simp only [List.length_append,List.length_cons] at h2 ⊢
        omega)
       have hl6:ws6.length+1≤4000000:=by have:=HL9.out;omega
       have hwd:Below w6.heap.size w6 w6.drew:=(bRf _ _).drew
       have HD:=hdd (H6.out.2.1.later hwd)
       have HKD:=hdd (HK6.out.trans (Z8 H6.out.2.1.lt hwd))
       have HH0:=hdd (show(fun W:World=>W.cell? ⟨sb,4,none⟩=some (.slice ea els.length ec)) w6.drew from clT hwd e4)
       clear hle hwd
       go_upto_region 32 with fail
       clear e4
       refine Zw (S:=fun W:World=>W.cell? ⟨sb,4,none⟩=some (.slice ea els.length ec)) (by kernel_rfl) ?_
       generalize w6.drew=wd at HD HKD HH0 ⊢
       have hHeld:(fun W:World=>W.cell? ⟨sb,4,none⟩=some (.slice ea els.length ec)) wd:=HH0.out
       refine tkL 3 0 (some 110) hHeld ?_
       (try simp only [Act.put,pu1,pu2,pu3])
       refine tkL 5 4 (some 114) hHeld ?_
       (try simp only [Act.put,pu1,pu2,pu3])
       refine tkL 6 5 (some 115) hHeld ?_
       (try simp only [Act.put,pu1,pu2,pu3])
       refine Z06 1 (some 111) fun K hK=>?_
       go_simp
       go_at_call 23
       refine(Z0K _ wd).mono ?_
       rintro e w7 ⟨rfl,hb7⟩
       have HD7:=hdd (HD.out.later hb7)
       have HK7:=hdd (HKD.out.trans (Z8 HD.out.lt hb7))
       refine kpL hK (clT hb7 hHeld) ?_
       clear hK K hHeld;intro hHeld
       (try simp only [Act.put,pu1,pu2,pu3])
       refine Z06 2 (some 112) fun K hK=>?_
       go_simp
       have hb8:Below w7.heap.size w7 (w7.alloc (.cells (List.toArray [.int .i64 4,.string ⟨#[101,108,115,101]⟩]) 55)):=(bRf _ _).alloc (Nat.le_refl _) _
       have HD8:=hdd (HD7.out.later hb8)
       have HK8:=hdd (HK7.out.trans (Z8 HD7.out.lt hb8))
       have HRO:=hdd (Zc w7 [.int .i64 4,.string ⟨#[101,108,115,101]⟩] 55)
       generalize w7.alloc (.cells (List.toArray [.int .i64 4,.string ⟨#[101,108,115,101]⟩]) 55)=w8 at HD8 HRO HK8 hb8 ⊢
       refine kpL hK (clT hb8 hHeld) ?_
       clear hK K hHeld;intro hHeld
       (try simp only [Act.put,pu1,pu2,pu3])
       refine Z06 3 (some 113) fun K hK=>?_
       refine Z9b rfl (.tmp 110) (.tmp 112) rfl rfl HD8.out [kyW 5] _ 1 1 rfl rfl (by decide) HRO.out (by intro v hv;simp at hv;subst hv;decide) (by omega) ?_
       intro ws9 a9 c9 w9 H9
       refine kpL hK (Z0c.cell HD8.out H9.out.2.2 HPS.out.2 hHeld) ?_
       clear hK K hHeld;intro hHeld
       (try simp only [Act.put,pu1,pu2,pu3])
       refine Z06 6 (some 116) fun K hK=>?_
       go_simp
       go_at_call 26
       refine(HIB.out W0 P2 w9 a9 c9 ws9 ea ec els dd HT.out H9.out.2.1 HED.out.1 HED.out.2.1 HED.out.2.2 (by rw [H9.out.1];have:=HL9.out;simp only [List.length_append,List.length_cons,List.length_nil] at this ⊢;omega)).mono ?_
       rintro e w10 ⟨ws10,a10,c10,rfl,H10⟩
       refine kpL hK (Z0c.cell H9.out.2.1 H10.out.2.2 HPS.out.2 hHeld) ?_
       clear hK K hHeld;intro hHeld
       (try simp only [Act.put,pu1,pu2,pu3])
       refine Z06 7 (some 0) fun K hK=>?_
       go_simp
       refine hK.out _ _ (Z15 (by kernel_rfl)) ?_
       clear hK K hHeld
       (try simp only [Act.put,pu1,pu2,pu3])
       refine Zq (by kernel_rfl) ?_ _
       have HKZ:=hdd (HK8.out.trans (H9.out.2.2.trans H10.out.2.2))
       go_wp2
       go_roundg (ss.length-(j+1))
       case measure=>omega
       case rel=>exact⟨j+1,ws10,a10,c10,by omega,by go_num,rfl,hdd ⟨by rw [H10.out.1,H9.out.1,H6.out.1,HWQ.out,HNX.out,HTS.out];simp,H10.out.2.1.unbox HPS.out.1 HLOW.out,HGK.out.trans (Z1l.un (HKZ.out) HPS.out.1)⟩⟩
theorem Z7p:∀d,SwC d∧BwC d
 | 0=>have h:=Z3m 0 (fun _ h=>by cases h);⟨h,Z3O 0 h⟩
 | d+1=>have h:=Z3m (d+1) (fun e h=>by cases h;exact(Z7p d).2);⟨h,Z3O (d+1) h⟩
end Go.Proofs.YtloooebabieeeaaGreatDoor
