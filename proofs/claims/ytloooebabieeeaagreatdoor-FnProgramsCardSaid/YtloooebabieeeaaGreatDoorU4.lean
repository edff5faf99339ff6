/-
  The program's words of an expression. (printed by mku4.py)
-/
import Derived.Test.YtloooebabieeeaaGreatDoorCp
import Derived.Test.YtloooebabieeeaaGreatDoorCq
import Derived.Test.YtloooebabieeeaaGreatDoorVk
import Derived.Test.YtloooebabieeeaaGreatDoorHl
set_option maxRecDepth 100000
set_option maxHeartbeats 16000000
set_option linter.unusedVariables false
namespace Go.Proofs.YtloooebabieeeaaGreatDoor
open Go.RowKit
theorem Z3J:∀{d:Nat} {w:World} {cs:List Value} {x:Z6},ZX d w cs x→-9223372036854775808≤x.op∧x.op≤9223372036854775807
 | 0,_,_,_,h=>h.elim
 | d+1,w,cs,x,⟨a,c,h1,h2,h3⟩=>h2.2
theorem Z27 {op k:Int} (h:ZL op=k) (hop:-9223372036854775808≤op∧op≤9223372036854775807) (w:World) (hO:Z3P w):Calls Tryz.prog 96 #[.int .i64 op] w fun e w'=>e=.returned (.int .i64 k)∧w'=w:=by rw [← h];exact Z08 op w hop hO
theorem Z5Y (op:Int):¬ZL op<1:=by
 unfold ZL
 split
 ·omega
 ·split<;>omega
theorem Z3f {d:Nat} {x:Z6} (need:Int) (hf:Z05 d x=true):Z9 d x need=Z3h (decide (ZL x.op<need)) (Z9 d x 1):=by
 cases d with
 | zero=>cases hf
 | succ d=>
  obtain⟨op,n,s,ks⟩:=x
  rw [Z0Z,Z0Z,decide_eq_false (Z5Y op)]
  rfl
theorem Z9A (s:ByteArray) (v:Int) (w:World):(Instr.field 136 (.agg #[.string s,.int .i64 v]) 0).run Tryz.prog w=.ok (.string s) w:=by kernel_rfl
theorem Z3R:∀(xs:List (List Z7)) (i j:Nat),(Zr i (xs.take j)).length≤(Zr i xs).length
 | [],i,j=>by simp
 | x::xs,i,0=>by simp [Zr]
 | x::xs,i,j+1=>by
  have:=Z3R xs (i+1) j
  rw [List.take_succ_cons,Zr,Zr]
  simp only [List.length_append]
  omega
def EwC (d:Nat):Prop:=∀(W0:World) (P:Nat→Prop) (w:World) (a:Option Addr) (c:Nat) (ws:List Z7) (cs:List Value) (x:Z6) (b:Bool) (dd:Nat),Z30 W0→Z0c W0 P w a c ws→ZX dd W0 cs x→Z05 d x=true→ws.length+(Z3h b (Z9 d x 1)).length≤4000000→
 Calls Tryz.prog 75 #[.slice a ws.length c,.agg cs.toArray,.bool b] w (Z3d W0 P w ws (Z3h b (Z9 d x 1)))
theorem Z31 (d:Nat) (ih:EwC d) (W0:World) (P:Nat→Prop) (w:World) (a:Option Addr) (c:Nat) (ws:List Z7) (cs:List Value) (x:Z6) (dd:Nat) (hT:Z30 W0) (hW:Z0c W0 P w a c ws) (hx:ZX dd W0 cs x) (hf:Z05 (d+1) x=true) (hl:ws.length+(Z9 (d+1) x 1).length≤4000000) :
  Calls Tryz.prog 75 #[.slice a ws.length c,.agg cs.toArray,.bool false] w (Z3d W0 P w ws (Z9 (d+1) x 1)):=by
 obtain⟨op,n,s,ks⟩:=x
 obtain⟨h1,h2⟩:=Z0Q hf
 replace h1:Z0v Zk op n s ks.length=true:=h1
 replace h2:∀k∈ks,Z05 d k=true:=h2
 cases dd with
 | zero=>exact hx.elim
 | succ dd=>
 obtain⟨ka,kc,rfl,-,hks⟩:=hx
 replace hks:Z03 4 (ZX dd) W0 ka ks.length ks:=hks
 show Calls _ _ #[_,.agg #[.int .i64 op,.int .i64 n,.string s,.slice ka ks.length kc],_] w _
 have HBX:=hdd (ZaQ.start w op n s (.slice ka ks.length kc))
 have HT:=hdd hT
 have HKS:=hdd hks
 have HSH:=hdd (Z1M (ks:=ks) h1)
 have HFK:=hdd h2
 have HIH:=hdd ih
 have hkl:ks.length≤3:=Z2X h1
 obtain⟨R,hR⟩:∃R,R=Z9 (d+1) (.mk op n s ks) 1:=⟨_,rfl⟩
 rw [← hR] at hl ⊢
 have HR:=hdd (show R=(if op=1 then [nbW n.toNat] else if op=2 then [nmW s] else if op=13 then nmW s::sgW 40::Zr 0 (ks.map fun k=>Z9 d k 1)++[sgW 41] else if op=11∨op=12 then sgW (opC op)::Z9 d (ks.getD 0 default) 5 else Z9 d (ks.getD 0 default) (lvl op)++sgW (opC op)::Z9 d (ks.getD 1 default) (lvl op+1)) from by
  rw [hR,Z0Z,decide_eq_false (Z5Y op)]
  rfl)
 have HL:=hdd hl
 obtain⟨P1,hP1⟩:∃P1:Nat→Prop,P1=fun k=>P k∨k=w.heap.size:=⟨_,rfl⟩
 have HS:=hdd (show Z0c W0 P1 (w.alloc (.cells #[.int .i64 op,.int .i64 n,.string s,.slice ka ks.length kc] 64)) a c ws from by rw [hP1];exact hW.box _)
 have HEB:=hdd (show P1 w.heap.size from by rw [hP1];exact .inr rfl)
 have HFIN:=hdd (show ∀(ws':List Z7) (a':Option Addr) (c':Nat) (w':World),ws'=ws++R→Z0c W0 P1 w' a' c' ws'→Z1l P1 (w.alloc (.cells #[.int .i64 op,.int .i64 n,.string s,.slice ka ks.length kc] 64)) w'→Z3d W0 P w ws R (.returned (.slice a' ws'.length c')) w' from fun ws' a' c' w' e1 e2 e3=>⟨ws',a',c',rfl,hdd ⟨e1,e2.unbox (fun k hk=>by rw [hP1];exact .inl hk) hW.low,(Z8 hW.lt ((bRf _ _).alloc (Nat.le_refl _) _)).trans (Z1l.un e3 (fun k hk=>by rw [hP1];exact .inl hk))⟩⟩)
 clear hR hks h1 h2 ih hf hl hT hW hP1
 go_enter Tryz.func75,Tryz.ntmps75
 go_upto_region 1 with fail
 generalize w.alloc (.cells #[.int .i64 op,.int .i64 n,.string s,.slice ka ks.length kc] 64)=W1 at HBX HS HFIN ⊢
 have HC:=hdd HBX.out.cells
 clear HBX
 obtain⟨eb,heb⟩:∃b,b=w.heap.size:=⟨_,rfl⟩
 rw [← heb] at HC HEB ⊢
 clear heb
 obtain⟨p0,p1,p2,p3⟩:=HC.out
 rcases HSH.out with⟨rfl,h3,h4,rfl,rfl⟩|⟨rfl,rfl,h3,rfl⟩|⟨rfl,rfl,h3⟩|⟨h3,rfl,rfl,k0,rfl⟩|⟨h3,rfl,rfl,k0,k1,rfl⟩
 ·
  obtain⟨m,rfl⟩:∃m:Nat,n=(m:Int):=⟨n.toNat,by omega⟩
  have HE:=hdd (show R=[nbW m] from by rw [HR.out,if_pos rfl];rfl)
  have hlen:ws.length+1≤4000000:=by have:=HL.out;rw [HE.out] at this;exact this
  have HSZ:=hdd (show(Z1f m).size≤maxLen from by have:=(Z0J (ZV.num m (by omega))).2.1;unfold maxLen;exact Nat.le_trans this (by decide))
  go_wp2_with fail
  refine(Z27 (op:=1) (k:=6) rfl (by decide) W1 (HT.out.ops.later HS.out.base)).mono ?_
  rintro e w1 ⟨rfl,rfl⟩
  go_wp2_with fail
  refine(ZbM m (by omega) W0 w1 HT.out HS.out.base).mono ?_
  rintro e w2 ⟨rfl,hb2⟩
  have HS2:=hdd (HS.out.later hb2)
  have HK2:=hdd (Z8 HS.out.lt hb2)
  clear hb2 p0 p1 p2 p3 h3 h4
  go_wp2_with (at_builtin;refine Z5g rfl (.tmp 30) (.tmp 35) rfl rfl (HS2.out.later ((bRf _ _).alloc (Nat.le_refl _) _)) [nbW m] _ 1 1 rfl rfl (by decide) (Zc _ _ _) (by intro v hv;simp at hv;subst hv;exact HSZ.out) (by omega) ?_;intro ws5 a5 c5 w5 H5)
  go_ret
  exact HFIN.out ws5 a5 c5 w5 (by rw [H5.out.1,HE.out]) H5.out.2.1 (HK2.out.trans ((Z8 HS2.out.lt ((bRf _ _).alloc (Nat.le_refl _) _)).trans H5.out.2.2))
 ·
  have HE:=hdd (show R=[nmW s] from by rw [HR.out,if_neg (by decide),if_pos rfl])
  have hlen:ws.length+1≤4000000:=by have:=HL.out;rw [HE.out] at this;exact this
  have HSZ:=hdd (show s.size≤maxLen from by have:=(Z0t h3).2.1;unfold maxLen;omega)
  go_wp2_with fail
  refine(Z27 (op:=2) (k:=6) rfl (by decide) W1 (HT.out.ops.later HS.out.base)).mono ?_
  rintro e w1 ⟨rfl,rfl⟩
  go_wp2_with fail
  refine(Z10 s w1).mono ?_
  rintro e w2 ⟨rfl,hb2⟩
  have HS2:=hdd (HS.out.later hb2)
  have HK2:=hdd (Z8 HS.out.lt hb2)
  clear hb2 p0 p1 p2 p3 h3
  go_wp2_with (at_builtin;refine Z5g rfl (.tmp 41) (.tmp 45) rfl rfl (HS2.out.later ((bRf _ _).alloc (Nat.le_refl _) _)) [nmW s] _ 1 1 rfl rfl (by decide) (Zc _ _ _) (by intro v hv;simp at hv;subst hv;exact HSZ.out) (by omega) ?_;intro ws5 a5 c5 w5 H5)
  go_ret
  exact HFIN.out ws5 a5 c5 w5 (by rw [H5.out.1,HE.out]) H5.out.2.1 (HK2.out.trans ((Z8 HS2.out.lt ((bRf _ _).alloc (Nat.le_refl _) _)).trans H5.out.2.2))
 ·
  have HE:=hdd (show R=nmW s::sgW 40::Zr 0 (ks.map fun k=>Z9 d k 1)++[sgW 41] from by rw [HR.out,if_neg (by decide),if_neg (by decide),if_pos rfl])
  have HLE:=hdd (show ws.length+((Zr 0 (ks.map fun k=>Z9 d k 1)).length+3)≤4000000 from by have:=HL.out;rw [HE.out] at this;simp at this;omega)
  have hlen:ws.length+3≤4000000:=by have:=HLE.out;omega
  have HSZ:=hdd (show s.size≤maxLen from by have:=(Z0t h3).2.1;unfold maxLen;omega)
  go_wp2_with fail
  refine(Z27 (op:=13) (k:=6) rfl (by decide) W1 (HT.out.ops.later HS.out.base)).mono ?_
  rintro e w1 ⟨rfl,rfl⟩
  go_wp2_with fail
  refine(Z10 s w1).mono ?_
  rintro e w2 ⟨rfl,hb2⟩
  go_wp2_with fail
  refine(ZK _ w2).mono ?_
  rintro e w3 ⟨rfl,hb3⟩
  have HS3:=hdd ((HS.out.later hb2).later hb3)
  have HK3:=hdd ((Z8 HS.out.lt hb2).trans (Z8 (HS.out.later hb2).lt hb3))
  have HP3:=hdd p3
  clear hb2 hb3 p0 p1 p2 p3 h3
  go_upto_region 12 with(at_builtin;refine Z5g rfl (.tmp 51) (.tmp 56) rfl rfl (HS3.out.later ((bRf _ _).alloc (Nat.le_refl _) _)) [nmW s,sgW 40] _ 2 2 rfl rfl (by decide) (Zc _ _ _) (by intro v hv;simp at hv;rcases hv with rfl|rfl;exact HSZ.out;decide) (by omega) ?_;intro ws5 a5 c5 w5 H5)
  have HK5:=hdd (HK3.out.trans ((Z8 HS3.out.lt ((bRf _ _).alloc (Nat.le_refl _) _)).trans H5.out.2.2))
  have p3:=Z0c.cell HS.out HK5.out HEB.out HP3.out
  go_wp2_with fail
  go_loopg [0,61] ks.length (fun G l i wr=>∃(j:Nat) (wj:List Z7) (aj:Option Addr) (cj:Nat),j+G=ks.length∧i=.int .i64 j∧l=.slice aj wj.length cj∧Hid (wj=ws++nmW s::sgW 40::Zr 0 ((ks.take j).map fun k=>Z9 d k 1)∧Z0c W0 P1 wr aj cj wj∧Z1l P1 w1 wr))
  case atStart=>exact⟨0,ws5,a5,c5,by omega,rfl,rfl,hdd ⟨by rw [H5.out.1];rfl,H5.out.2.1,HK5.out⟩⟩
  case round=>
   obtain⟨j,wj,aj,cj,hj,rfl,rfl,HG⟩:=hrel
   clear p3
   by_cases hlt:j<ks.length
   ·obtain⟨b1,o1,k,cs1,hka,hk,hkR,k1,k2,rfl,d0,d1,d2,d3⟩:=Z0r HKS.out hlt
    subst hka
    have hji:(j:Int)<(ks.length:Int):=by omega
    have c0:=clT HG.out.2.1.base d0
    have c1:=clT HG.out.2.1.base d1
    have c2:=clT HG.out.2.1.base d2
    have c3:=clT HG.out.2.1.base d3
    have HCT:=hdd (Z25 (f:=fun k=>Z9 d k 1) ks 0 j k hk)
    have HKF:=hdd (aI hkR (HFK.out k (List.mem_of_getElem? hk)))
    have HLK:=hdd (show wj.length+((if 0+j=0 then [] else [sgW 44])++Z9 d k 1).length≤4000000 from by
     have h1:=Z3R (ks.map fun k=>Z9 d k 1) 0 (j+1)
     rw [← List.map_take,HCT.out] at h1
     have h2:=HLE.out
     rw [HG.out.1]
     simp only [List.length_append,List.length_cons] at h1 h2 ⊢
     omega)
    have HSK:=hdd (HG.out.2.1.box (.cells #[.int .i64 k.op,.int .i64 k.n,.string k.name,.slice k1 k.kids.length k2] 64))
    have HRK:=hdd (hAn wr (.cells #[.int .i64 k.op,.int .i64 k.n,.string k.name,.slice k1 k.kids.length k2] 64))
    have HKK:=hdd (Z8 HG.out.2.1.lt ((bRf wr.heap.size wr).alloc (Nat.le_refl _) (.cells #[.int .i64 k.op,.int .i64 k.n,.string k.name,.slice k1 k.kids.length k2] 64)))
    clear d0 d1 d2 d3 hk hkR
    go_upto_region 15 with fail
    obtain⟨kb,hkb⟩:∃n,n=wr.heap.size:=⟨_,rfl⟩
    generalize wr.alloc (.cells #[.int .i64 k.op,.int .i64 k.n,.string k.name,.slice k1 k.kids.length k2] 64)=wk at HSK HRK HKK ⊢
    rw [← hkb] at HSK HRK ⊢
    obtain⟨P2,hP2⟩:∃P2:Nat→Prop,P2=fun q=>P1 q∨q=kb:=⟨_,rfl⟩
    rw [← hP2] at HSK
    have HPP:=hdd (show(∀q,P1 q→P2 q)∧P2 kb from⟨fun q h=>by rw [hP2];exact .inl h,by rw [hP2];exact .inr rfl⟩)
    clear hkb hP2 c0 c1 c2 c3
    have e0:=coR _ _ 0 _ _ _ HRK.out
    have e1:=coR _ _ 1 _ _ _ HRK.out
    have e2:=coR _ _ 2 _ _ _ HRK.out
    have e3:=coR _ _ 3 _ _ _ HRK.out
    simp only [ga0,ga1,ga2] at e0 e1 e2 e3
    by_cases h0:j=0
    ·have hj0:¬(0:Int)<(j:Int):=by omega
     have HJ:=hdd h0
     clear h0
     go_wp2_with fail
     refine(HIH.out W0 P2 wk aj cj wj _ k false dd HT.out HSK.out HKF.out.1 HKF.out.2 (by
      have h1:=HLK.out
      rw [if_pos (by rw [HJ.out])] at h1
      exact h1)).mono ?_
     rintro e w6 ⟨ws6,a6,c6,rfl,H6⟩
     clear e0 e1 e2 e3
     go_wp2
     go_roundg (gk-1)
     case measure=>omega
     case rel=>exact⟨j+1,ws6,a6,c6,by omega,by go_num,rfl,hdd ⟨by rw [H6.out.1,HG.out.1,HCT.out,if_pos (by rw [HJ.out])];simp [Z3h],H6.out.2.1.unbox HPP.out.1 HS.out.low,HG.out.2.2.trans (HKK.out.trans (Z1l.un H6.out.2.2 HPP.out.1))⟩⟩
    ·have hj0:(0:Int)<(j:Int):=by omega
     have HJ:=hdd (show ¬0+j=0 from by omega)
     have hlw:wj.length+1≤4000000:=by
      have h1:=HLK.out
      rw [if_neg HJ.out] at h1
      simp only [List.length_append,List.length_cons] at h1
      omega
     clear h0
     go_wp2_with fail
     refine(ZK _ wk).mono ?_
     rintro e w2 ⟨rfl,hb2⟩
     have HS2:=hdd (HSK.out.later hb2)
     have HK2:=hdd (Z8 HSK.out.lt hb2)
     have HEE:=hdd (aI e0 (aI e1 (aI e2 e3)))
     clear hb2 e0 e1 e2 e3
     go_upto_region 17 with(at_builtin;refine Z5g rfl (.tmp 68) (.tmp 70) rfl rfl (HS2.out.later ((bRf _ _).alloc (Nat.le_refl _) _)) [sgW 44] _ 1 1 rfl rfl (by decide) (Zc _ _ _) (by intro v hv;simp at hv;subst hv;decide) (by omega) ?_;intro ws5 a5 c5 w5 H5)
     have HK5:=hdd (HK2.out.trans ((Z8 HS2.out.lt ((bRf _ _).alloc (Nat.le_refl _) _)).trans H5.out.2.2))
     have e0:=Z0c.cell HSK.out HK5.out HPP.out.2 HEE.out.1
     have e1:=Z0c.cell HSK.out HK5.out HPP.out.2 HEE.out.2.1
     have e2:=Z0c.cell HSK.out HK5.out HPP.out.2 HEE.out.2.2.1
     have e3:=Z0c.cell HSK.out HK5.out HPP.out.2 HEE.out.2.2.2
     go_wp2_with fail
     refine(HIH.out W0 P2 w5 a5 c5 ws5 _ k false dd HT.out H5.out.2.1 HKF.out.1 HKF.out.2 (by
      have h1:=HLK.out
      rw [if_neg HJ.out] at h1
      have h2:(Z3h false (Z9 d k 1)).length=(Z9 d k 1).length:=rfl
      rw [H5.out.1,h2]
      simp only [List.length_append,List.length_cons,List.length_nil] at h1 ⊢
      omega)).mono ?_
     rintro e w6 ⟨ws6,a6,c6,rfl,H6⟩
     clear e0 e1 e2 e3
     go_wp2
     go_roundg (gk-1)
     case measure=>omega
     case rel=>exact⟨j+1,ws6,a6,c6,by omega,by go_num,rfl,hdd ⟨by rw [H6.out.1,H5.out.1,HG.out.1,HCT.out,if_neg HJ.out];simp [Z3h],H6.out.2.1.unbox HPP.out.1 HS.out.low,HG.out.2.2.trans (HKK.out.trans (Z1l.un (HK5.out.trans H6.out.2.2) HPP.out.1))⟩⟩
   ·obtain rfl:j=ks.length:=by omega
    have hji:¬(ks.length:Int)<(ks.length:Int):=by omega
    have HWJ:=hdd (show wj=ws++nmW s::sgW 40::Zr 0 (ks.map fun k=>Z9 d k 1) from by rw [HG.out.1,List.take_length])
    have hlw:wj.length+1≤4000000:=by have:=HLE.out;rw [HWJ.out];simp;omega
    go_wp2_with fail
    refine(ZK _ wr).mono ?_
    rintro e w6 ⟨rfl,hb6⟩
    have HS6:=hdd (HG.out.2.1.later hb6)
    have HK6:=hdd (HG.out.2.2.trans (Z8 HG.out.2.1.lt hb6))
    clear hb6
    go_wp2_with (at_builtin;refine Z5g rfl (.tmp 76) (.tmp 78) rfl rfl (HS6.out.later ((bRf _ _).alloc (Nat.le_refl _) _)) [sgW 41] _ 1 1 rfl rfl (by decide) (Zc _ _ _) (by intro v hv;simp at hv;subst hv;decide) (by omega) ?_;intro ws7 a7 c7 w7 H7)
    go_ret
    exact HFIN.out ws7 a7 c7 w7 (by rw [H7.out.1,HWJ.out,HE.out];simp) H7.out.2.1 (HK6.out.trans ((Z8 HS6.out.lt ((bRf _ _).alloc (Nat.le_refl _) _)).trans H7.out.2.2))
 ·
  rcases h3 with rfl|rfl
  ·have HE:=hdd (show R=sgW 33::Z9 d k0 5 from by rw [HR.out,if_neg (by decide),if_neg (by decide),if_neg (by decide),if_pos (by decide)];rfl)
   have hfk:=HFK.out k0 (by simp)
   have HWB:=hdd (Z3f (x:=k0) 5 hfk)
   have HLN:=hdd (show ws.length+((Z3h (decide (ZL k0.op<5)) (Z9 d k0 1)).length+1)≤4000000 from by
    have:=HL.out
    rw [HE.out,HWB.out] at this
    exact this)
   obtain⟨kb,ko,k,cs1,hka,hk,hkR,ka0,kc0,rfl,c0,c1,c2,c3⟩:=Z0r HKS.out (show 0<1 by omega)
   obtain rfl:k0=k:=Option.some.inj hk
   subst hka
   have HKB:=hdd (show P1 kb from HS.out.low kb (World.block_lt_of_cell? W0 _ c0))
   simp only [Nat.zero_mul,Nat.add_zero] at c0 c1 c2 c3
   have HK0:=hdd (aI (Z3J hkR) (aI hkR hfk))
   have hwd:Below W1.heap.size W1 W1.drew:=(bRf _ _).drew
   have HD:=hdd (HS.out.later hwd)
   have HKD:=hdd (Z8 HS.out.lt hwd)
   have HH0:=hdd (show(fun W:World=>W.cell? ⟨eb,3,none⟩=some (.slice (some ⟨kb,ko,none⟩) 1 kc)∧W.cell? ⟨kb,ko,none⟩=some (.int .i64 k0.op)∧W.cell? ⟨kb,ko+1,none⟩=some (.int .i64 k0.n)∧W.cell? ⟨kb,ko+2,none⟩=some (.string k0.name)∧W.cell? ⟨kb,ko+3,none⟩=some (.slice ka0 k0.kids.length kc0)) W1.drew from⟨clT hwd p3,clT HD.out.base c0,clT HD.out.base c1,clT HD.out.base c2,clT HD.out.base c3⟩)
   clear hk hkR hfk c0 c1 c2 c3 hwd
   go_wp2_with fail
   refine(Z27 (op:=11) (k:=5) rfl (by decide) W1 (HT.out.ops.later HS.out.base)).mono ?_
   rintro e w1 ⟨rfl,rfl⟩
   go_upto_region 24 with fail
   clear p0 p1 p2 p3
   refine Zw (S:=fun W:World=>W.cell? ⟨eb,3,none⟩=some (.slice (some ⟨kb,ko,none⟩) 1 kc)∧W.cell? ⟨kb,ko,none⟩=some (.int .i64 k0.op)∧W.cell? ⟨kb,ko+1,none⟩=some (.int .i64 k0.n)∧W.cell? ⟨kb,ko+2,none⟩=some (.string k0.name)∧W.cell? ⟨kb,ko+3,none⟩=some (.slice ka0 k0.kids.length kc0)) (by kernel_rfl) ?_
   generalize w1.drew=wd at HD HKD HH0 ⊢
   have hHeld:(fun W:World=>W.cell? ⟨eb,3,none⟩=some (.slice (some ⟨kb,ko,none⟩) 1 kc)∧W.cell? ⟨kb,ko,none⟩=some (.int .i64 k0.op)∧W.cell? ⟨kb,ko+1,none⟩=some (.int .i64 k0.n)∧W.cell? ⟨kb,ko+2,none⟩=some (.string k0.name)∧W.cell? ⟨kb,ko+3,none⟩=some (.slice ka0 k0.kids.length kc0)) wd:=HH0.out
   refine tkL 4 0 (some 86) hHeld ?_
   (try simp only [Act.put,pu1,pu2,pu3])
   refine tkL 2 1 (some 87) hHeld ?_
   (try simp only [Act.put,pu1,pu2,pu3])
   refine tkL 6 5 (some 91) hHeld ?_
   (try simp only [Act.put,pu1,pu2,pu3])
   refine tkL 7 6 (some 92) hHeld ?_
   (try simp only [Act.put,pu1,pu2,pu3])
   refine tkL 8 7 (some 93) hHeld ?_
   (try simp only [Act.put,pu1,pu2,pu3])
   refine tkL 16 8 (some 94) hHeld ?_
   (try simp only [Act.put,pu1,pu2,pu3])
   refine tkL 10 9 (some 95) hHeld ?_
   (try simp only [Act.put,pu1,pu2,pu3])
   refine tkL 11 10 (some 96) hHeld ?_
   (try simp only [Act.put,pu1,pu2,pu3])
   refine tkL 12 11 (some 97) hHeld ?_
   (try simp only [Act.put,pu1,pu2,pu3])
   refine tkL 13 12 (some 98) hHeld ?_
   (try simp only [Act.put,pu1,pu2,pu3])
   refine tkL 14 13 (some 99) hHeld ?_
   (try simp only [Act.put,pu1,pu2,pu3])
   refine Z06 2 (some 88) fun K hK=>?_
   go_simp
   go_at_call 25
   refine(ZK _ wd).mono ?_
   rintro e w3 ⟨rfl,hb3⟩
   have HD3:=hdd (HD.out.later hb3)
   refine kpL hK (⟨clT hb3 hHeld.1,clT hb3 hHeld.2.1,clT hb3 hHeld.2.2.1,clT hb3 hHeld.2.2.2.1,clT hb3 hHeld.2.2.2.2⟩) ?_
   clear hK K hHeld;intro hHeld
   (try simp only [Act.put,pu1,pu2,pu3])
   refine Z06 3 (some 89) fun K hK=>?_
   go_simp
   have hb4:Below w3.heap.size w3 (w3.alloc (.cells (List.toArray [.int .i64 3,.string ⟨#[33]⟩]) 55)):=(bRf _ _).alloc (Nat.le_refl _) _
   have HD4:=hdd (HD3.out.later hb4)
   have HRO:=hdd (Zc w3 [.int .i64 3,.string ⟨#[33]⟩] 55)
   generalize w3.alloc (.cells (List.toArray [.int .i64 3,.string ⟨#[33]⟩]) 55)=w4 at HD4 HRO hb4 ⊢
   refine kpL hK (⟨clT hb4 hHeld.1,clT hb4 hHeld.2.1,clT hb4 hHeld.2.2.1,clT hb4 hHeld.2.2.2.1,clT hb4 hHeld.2.2.2.2⟩) ?_
   clear hK K hHeld;intro hHeld
   (try simp only [Act.put,pu1,pu2,pu3])
   refine Z06 4 (some 90) fun K hK=>?_
   refine Z9b rfl (.tmp 86) (.tmp 89) rfl rfl HD4.out [sgW 33] _ 1 1 rfl rfl (by decide) HRO.out (by intro v hv;simp at hv;subst hv;decide) (by have:=HLN.out;omega) ?_
   intro ws5 a5 c5 w5 H5
   refine kpL hK (⟨Z0c.cell HD4.out H5.out.2.2 HEB.out hHeld.1,Z0c.cell HD4.out H5.out.2.2 HKB.out hHeld.2.1,Z0c.cell HD4.out H5.out.2.2 HKB.out hHeld.2.2.1,Z0c.cell HD4.out H5.out.2.2 HKB.out hHeld.2.2.2.1,Z0c.cell HD4.out H5.out.2.2 HKB.out hHeld.2.2.2.2⟩) ?_
   clear hK K hHeld;intro hHeld
   (try simp only [Act.put,pu1,pu2,pu3])
   refine Z06 14 (some 100) fun K hK=>?_
   go_simp
   go_at_call 96
   refine(Z08 k0.op w5 HK0.out.1 (HT.out.ops.later H5.out.2.1.base)).mono ?_
   rintro e w7 ⟨rfl,rfl⟩
   refine kpL hK (hHeld) ?_
   clear hK K hHeld;intro hHeld
   (try simp only [Act.put,pu1,pu2,pu3])
   refine tkL 16 15 (some 101) hHeld ?_
   (try simp only [Act.put,pu1,pu2,pu3])
   refine Z06 16 (some 102) fun K hK=>?_
   go_simp
   go_at_call 75
   refine(HIH.out _ _ _ _ _ _ _ k0 (decide (ZL k0.op<5)) dd HT.out H5.out.2.1 HK0.out.2.1 HK0.out.2.2 (by rw [H5.out.1];have:=HLN.out;simp only [List.length_append,List.length_cons,List.length_nil] at this ⊢;omega)).mono ?_
   rintro e w6 ⟨ws6,a6,c6,rfl,H6⟩
   refine kpL hK (⟨Z0c.cell H5.out.2.1 H6.out.2.2 HEB.out hHeld.1,Z0c.cell H5.out.2.1 H6.out.2.2 HKB.out hHeld.2.1,Z0c.cell H5.out.2.1 H6.out.2.2 HKB.out hHeld.2.2.1,Z0c.cell H5.out.2.1 H6.out.2.2 HKB.out hHeld.2.2.2.1,Z0c.cell H5.out.2.1 H6.out.2.2 HKB.out hHeld.2.2.2.2⟩) ?_
   clear hK K hHeld;intro hHeld
   (try simp only [Act.put,pu1,pu2,pu3])
   refine Z06 17 (some 6) fun K hK=>?_
   go_simp
   refine hK.out _ _ (Z15 (by kernel_rfl)) ?_
   clear hK K hHeld
   (try simp only [Act.put,pu1,pu2,pu3])
   refine Zq (by kernel_rfl) ?_ _
   have HKF:=hdd (HKD.out.trans ((Z8 HD.out.lt hb3).trans ((Z8 HD3.out.lt hb4).trans (H5.out.2.2.trans H6.out.2.2))))
   go_wp2
   go_ret
   exact HFIN.out ws6 a6 c6 w6 (by rw [H6.out.1,H5.out.1,HE.out,HWB.out];simp) H6.out.2.1 HKF.out
  ·have HE:=hdd (show R=sgW 64::Z9 d k0 5 from by rw [HR.out,if_neg (by decide),if_neg (by decide),if_neg (by decide),if_pos (by decide)];rfl)
   have hfk:=HFK.out k0 (by simp)
   have HWB:=hdd (Z3f (x:=k0) 5 hfk)
   have HLN:=hdd (show ws.length+((Z3h (decide (ZL k0.op<5)) (Z9 d k0 1)).length+1)≤4000000 from by
    have:=HL.out
    rw [HE.out,HWB.out] at this
    exact this)
   obtain⟨kb,ko,k,cs1,hka,hk,hkR,ka0,kc0,rfl,c0,c1,c2,c3⟩:=Z0r HKS.out (show 0<1 by omega)
   obtain rfl:k0=k:=Option.some.inj hk
   subst hka
   have HKB:=hdd (show P1 kb from HS.out.low kb (World.block_lt_of_cell? W0 _ c0))
   simp only [Nat.zero_mul,Nat.add_zero] at c0 c1 c2 c3
   have HK0:=hdd (aI (Z3J hkR) (aI hkR hfk))
   have hwd:Below W1.heap.size W1 W1.drew:=(bRf _ _).drew
   have HD:=hdd (HS.out.later hwd)
   have HKD:=hdd (Z8 HS.out.lt hwd)
   have HH0:=hdd (show(fun W:World=>W.cell? ⟨eb,3,none⟩=some (.slice (some ⟨kb,ko,none⟩) 1 kc)∧W.cell? ⟨kb,ko,none⟩=some (.int .i64 k0.op)∧W.cell? ⟨kb,ko+1,none⟩=some (.int .i64 k0.n)∧W.cell? ⟨kb,ko+2,none⟩=some (.string k0.name)∧W.cell? ⟨kb,ko+3,none⟩=some (.slice ka0 k0.kids.length kc0)) W1.drew from⟨clT hwd p3,clT HD.out.base c0,clT HD.out.base c1,clT HD.out.base c2,clT HD.out.base c3⟩)
   clear hk hkR hfk c0 c1 c2 c3 hwd
   go_wp2_with fail
   refine(Z27 (op:=12) (k:=5) rfl (by decide) W1 (HT.out.ops.later HS.out.base)).mono ?_
   rintro e w1 ⟨rfl,rfl⟩
   go_upto_region 24 with fail
   clear p0 p1 p2 p3
   refine Zw (S:=fun W:World=>W.cell? ⟨eb,3,none⟩=some (.slice (some ⟨kb,ko,none⟩) 1 kc)∧W.cell? ⟨kb,ko,none⟩=some (.int .i64 k0.op)∧W.cell? ⟨kb,ko+1,none⟩=some (.int .i64 k0.n)∧W.cell? ⟨kb,ko+2,none⟩=some (.string k0.name)∧W.cell? ⟨kb,ko+3,none⟩=some (.slice ka0 k0.kids.length kc0)) (by kernel_rfl) ?_
   generalize w1.drew=wd at HD HKD HH0 ⊢
   have hHeld:(fun W:World=>W.cell? ⟨eb,3,none⟩=some (.slice (some ⟨kb,ko,none⟩) 1 kc)∧W.cell? ⟨kb,ko,none⟩=some (.int .i64 k0.op)∧W.cell? ⟨kb,ko+1,none⟩=some (.int .i64 k0.n)∧W.cell? ⟨kb,ko+2,none⟩=some (.string k0.name)∧W.cell? ⟨kb,ko+3,none⟩=some (.slice ka0 k0.kids.length kc0)) wd:=HH0.out
   refine tkL 4 0 (some 86) hHeld ?_
   (try simp only [Act.put,pu1,pu2,pu3])
   refine tkL 2 1 (some 87) hHeld ?_
   (try simp only [Act.put,pu1,pu2,pu3])
   refine tkL 6 5 (some 91) hHeld ?_
   (try simp only [Act.put,pu1,pu2,pu3])
   refine tkL 7 6 (some 92) hHeld ?_
   (try simp only [Act.put,pu1,pu2,pu3])
   refine tkL 8 7 (some 93) hHeld ?_
   (try simp only [Act.put,pu1,pu2,pu3])
   refine tkL 16 8 (some 94) hHeld ?_
   (try simp only [Act.put,pu1,pu2,pu3])
   refine tkL 10 9 (some 95) hHeld ?_
   (try simp only [Act.put,pu1,pu2,pu3])
   refine tkL 11 10 (some 96) hHeld ?_
   (try simp only [Act.put,pu1,pu2,pu3])
   refine tkL 12 11 (some 97) hHeld ?_
   (try simp only [Act.put,pu1,pu2,pu3])
   refine tkL 13 12 (some 98) hHeld ?_
   (try simp only [Act.put,pu1,pu2,pu3])
   refine tkL 14 13 (some 99) hHeld ?_
   (try simp only [Act.put,pu1,pu2,pu3])
   refine Z06 2 (some 88) fun K hK=>?_
   go_simp
   go_at_call 25
   refine(ZK _ wd).mono ?_
   rintro e w3 ⟨rfl,hb3⟩
   have HD3:=hdd (HD.out.later hb3)
   refine kpL hK (⟨clT hb3 hHeld.1,clT hb3 hHeld.2.1,clT hb3 hHeld.2.2.1,clT hb3 hHeld.2.2.2.1,clT hb3 hHeld.2.2.2.2⟩) ?_
   clear hK K hHeld;intro hHeld
   (try simp only [Act.put,pu1,pu2,pu3])
   refine Z06 3 (some 89) fun K hK=>?_
   go_simp
   have hb4:Below w3.heap.size w3 (w3.alloc (.cells (List.toArray [.int .i64 3,.string ⟨#[64]⟩]) 55)):=(bRf _ _).alloc (Nat.le_refl _) _
   have HD4:=hdd (HD3.out.later hb4)
   have HRO:=hdd (Zc w3 [.int .i64 3,.string ⟨#[64]⟩] 55)
   generalize w3.alloc (.cells (List.toArray [.int .i64 3,.string ⟨#[64]⟩]) 55)=w4 at HD4 HRO hb4 ⊢
   refine kpL hK (⟨clT hb4 hHeld.1,clT hb4 hHeld.2.1,clT hb4 hHeld.2.2.1,clT hb4 hHeld.2.2.2.1,clT hb4 hHeld.2.2.2.2⟩) ?_
   clear hK K hHeld;intro hHeld
   (try simp only [Act.put,pu1,pu2,pu3])
   refine Z06 4 (some 90) fun K hK=>?_
   refine Z9b rfl (.tmp 86) (.tmp 89) rfl rfl HD4.out [sgW 64] _ 1 1 rfl rfl (by decide) HRO.out (by intro v hv;simp at hv;subst hv;decide) (by have:=HLN.out;omega) ?_
   intro ws5 a5 c5 w5 H5
   refine kpL hK (⟨Z0c.cell HD4.out H5.out.2.2 HEB.out hHeld.1,Z0c.cell HD4.out H5.out.2.2 HKB.out hHeld.2.1,Z0c.cell HD4.out H5.out.2.2 HKB.out hHeld.2.2.1,Z0c.cell HD4.out H5.out.2.2 HKB.out hHeld.2.2.2.1,Z0c.cell HD4.out H5.out.2.2 HKB.out hHeld.2.2.2.2⟩) ?_
   clear hK K hHeld;intro hHeld
   (try simp only [Act.put,pu1,pu2,pu3])
   refine Z06 14 (some 100) fun K hK=>?_
   go_simp
   go_at_call 96
   refine(Z08 k0.op w5 HK0.out.1 (HT.out.ops.later H5.out.2.1.base)).mono ?_
   rintro e w7 ⟨rfl,rfl⟩
   refine kpL hK (hHeld) ?_
   clear hK K hHeld;intro hHeld
   (try simp only [Act.put,pu1,pu2,pu3])
   refine tkL 16 15 (some 101) hHeld ?_
   (try simp only [Act.put,pu1,pu2,pu3])
   refine Z06 16 (some 102) fun K hK=>?_
   go_simp
   go_at_call 75
   refine(HIH.out _ _ _ _ _ _ _ k0 (decide (ZL k0.op<5)) dd HT.out H5.out.2.1 HK0.out.2.1 HK0.out.2.2 (by rw [H5.out.1];have:=HLN.out;simp only [List.length_append,List.length_cons,List.length_nil] at this ⊢;omega)).mono ?_
   rintro e w6 ⟨ws6,a6,c6,rfl,H6⟩
   refine kpL hK (⟨Z0c.cell H5.out.2.1 H6.out.2.2 HEB.out hHeld.1,Z0c.cell H5.out.2.1 H6.out.2.2 HKB.out hHeld.2.1,Z0c.cell H5.out.2.1 H6.out.2.2 HKB.out hHeld.2.2.1,Z0c.cell H5.out.2.1 H6.out.2.2 HKB.out hHeld.2.2.2.1,Z0c.cell H5.out.2.1 H6.out.2.2 HKB.out hHeld.2.2.2.2⟩) ?_
   clear hK K hHeld;intro hHeld
   (try simp only [Act.put,pu1,pu2,pu3])
   refine Z06 17 (some 6) fun K hK=>?_
   go_simp
   refine hK.out _ _ (Z15 (by kernel_rfl)) ?_
   clear hK K hHeld
   (try simp only [Act.put,pu1,pu2,pu3])
   refine Zq (by kernel_rfl) ?_ _
   have HKF:=hdd (HKD.out.trans ((Z8 HD.out.lt hb3).trans ((Z8 HD3.out.lt hb4).trans (H5.out.2.2.trans H6.out.2.2))))
   go_wp2
   go_ret
   exact HFIN.out ws6 a6 c6 w6 (by rw [H6.out.1,H5.out.1,HE.out,HWB.out];simp) H6.out.2.1 HKF.out
 ·
  obtain⟨L,hL1,hL4,hl⟩:=Zc6 h3
  have hlI:ZL op=(L:Int):=by rw [ZL,if_pos (by omega),hl]
  have hne:op≠1∧op≠2∧op≠13∧¬(op=11∨op=12):=by omega
  have HE:=hdd (show R=Z9 d k0 (L:Int)++sgW (opC op)::Z9 d k1 ((L:Int)+1) from by rw [HR.out,if_neg hne.1,if_neg hne.2.1,if_neg hne.2.2.1,if_neg hne.2.2.2,hl];rfl)
  have o1':(op==1)=false:=beq_eq_false_iff_ne.2 hne.1
  have o2':(op==2)=false:=beq_eq_false_iff_ne.2 hne.2.1
  have o13':(op==13)=false:=beq_eq_false_iff_ne.2 hne.2.2.1
  have l5':((L:Int)==5)=false:=beq_eq_false_iff_ne.2 (by omega)
  have hf0:=HFK.out k0 (by simp)
  have hf1:=HFK.out k1 (by simp)
  have HWB:=hdd (show Z9 d k0 (L:Int)=Z3h (decide (ZL k0.op<(L:Int))) (Z9 d k0 1)∧Z9 d k1 ((L:Int)+1)=Z3h (decide (ZL k1.op≤(L:Int))) (Z9 d k1 1) from⟨Z3f _ hf0,by
   rw [Z3f _ hf1]
   congr 1
   exact decide_eq_decide.2 (by omega)⟩)
  have HLN:=hdd (show ws.length+((Z3h (decide (ZL k0.op<(L:Int))) (Z9 d k0 1)).length+(1+(Z3h (decide (ZL k1.op≤(L:Int))) (Z9 d k1 1)).length))≤4000000 from by
   have:=HL.out
   rw [HE.out,HWB.out.1,HWB.out.2] at this
   simp only [List.length_append,List.length_cons] at this
   omega)
  have HOP:=hdd h3
  obtain⟨kb,ko,k,cs1,hka,hk,hkR,ka0,kc0,rfl,c0,c1,c2,c3⟩:=Z0r HKS.out (show 0<2 by omega)
  obtain rfl:k0=k:=Option.some.inj hk
  obtain⟨kb2,ko2,k,cs2,hkb2,hk2,hkR2,ka1,kc1,rfl,d0,d1,d2,d3⟩:=Z0r HKS.out (show 1<2 by omega)
  obtain rfl:k1=k:=Option.some.inj hk2
  subst hka
  obtain⟨rfl,rfl⟩:kb=kb2∧ko=ko2:=by simpa using hkb2
  have HKB:=hdd (show P1 kb from HS.out.low kb (World.block_lt_of_cell? W0 _ c0))
  simp only [Nat.zero_mul,Nat.one_mul,Nat.add_zero] at c0 c1 c2 c3 d0 d1 d2 d3
  have HK0:=hdd (aI (Z3J hkR) (aI hkR hf0))
  have HK1:=hdd (aI (Z3J hkR2) (aI hkR2 hf1))
  have HCD:=hdd (aI d0 (aI d1 (aI d2 d3)))
  have HL0:=hdd (show ws.length+(Z3h (decide (ZL k0.op<(L:Int))) (Z9 d k0 1)).length≤4000000 from by have:=HLN.out;omega)
  have hwd:Below W1.heap.size W1 W1.drew:=(bRf _ _).drew
  have HD:=hdd (HS.out.later hwd)
  have HKD:=hdd (Z8 HS.out.lt hwd)
  have HP0:=hdd (clT hwd p0)
  have HH0:=hdd (show(fun W:World=>W.cell? ⟨eb,3,none⟩=some (.slice (some ⟨kb,ko,none⟩) 2 kc)∧W.cell? ⟨kb,ko,none⟩=some (.int .i64 k0.op)∧W.cell? ⟨kb,ko+1,none⟩=some (.int .i64 k0.n)∧W.cell? ⟨kb,ko+2,none⟩=some (.string k0.name)∧W.cell? ⟨kb,ko+3,none⟩=some (.slice ka0 k0.kids.length kc0)) W1.drew from⟨clT hwd p3,clT HD.out.base c0,clT HD.out.base c1,clT HD.out.base c2,clT HD.out.base c3⟩)
  have hop:-9223372036854775808≤op∧op≤9223372036854775807:=by omega
  have HLV:=hdd (Z27 hlI hop W1 (HT.out.ops.later HS.out.base))
  clear hk hkR hf0 hf1 hk2 hkR2 hkb2 c0 c1 c2 c3 d0 d1 d2 d3 hwd h3 hl hlI hne hop
  go_wp2_with fail
  refine HLV.out.mono ?_
  rintro e w1 ⟨rfl,rfl⟩
  go_upto_region 25 with fail
  clear p0 p1 p2 p3 o1' o2' o13' l5'
  refine Zw (S:=fun W:World=>W.cell? ⟨eb,3,none⟩=some (.slice (some ⟨kb,ko,none⟩) 2 kc)∧W.cell? ⟨kb,ko,none⟩=some (.int .i64 k0.op)∧W.cell? ⟨kb,ko+1,none⟩=some (.int .i64 k0.n)∧W.cell? ⟨kb,ko+2,none⟩=some (.string k0.name)∧W.cell? ⟨kb,ko+3,none⟩=some (.slice ka0 k0.kids.length kc0)) (by kernel_rfl) ?_
  generalize w1.drew=wd at HD HKD HH0 HP0 ⊢
  have hHeld:(fun W:World=>W.cell? ⟨eb,3,none⟩=some (.slice (some ⟨kb,ko,none⟩) 2 kc)∧W.cell? ⟨kb,ko,none⟩=some (.int .i64 k0.op)∧W.cell? ⟨kb,ko+1,none⟩=some (.int .i64 k0.n)∧W.cell? ⟨kb,ko+2,none⟩=some (.string k0.name)∧W.cell? ⟨kb,ko+3,none⟩=some (.slice ka0 k0.kids.length kc0)) wd:=HH0.out
  refine tkL 13 0 (some 103) hHeld ?_
  (try simp only [Act.put,pu1,pu2,pu3])
  refine tkL 2 1 (some 104) hHeld ?_
  (try simp only [Act.put,pu1,pu2,pu3])
  refine tkL 3 2 (some 105) hHeld ?_
  (try simp only [Act.put,pu1,pu2,pu3])
  refine tkL 4 3 (some 106) hHeld ?_
  (try simp only [Act.put,pu1,pu2,pu3])
  refine tkL 13 4 (some 107) hHeld ?_
  (try simp only [Act.put,pu1,pu2,pu3])
  refine tkL 6 5 (some 108) hHeld ?_
  (try simp only [Act.put,pu1,pu2,pu3])
  refine tkL 7 6 (some 109) hHeld ?_
  (try simp only [Act.put,pu1,pu2,pu3])
  refine tkL 8 7 (some 110) hHeld ?_
  (try simp only [Act.put,pu1,pu2,pu3])
  refine tkL 9 8 (some 111) hHeld ?_
  (try simp only [Act.put,pu1,pu2,pu3])
  refine tkL 10 9 (some 112) hHeld ?_
  (try simp only [Act.put,pu1,pu2,pu3])
  refine tkL 12 11 (some 114) hHeld ?_
  (try simp only [Act.put,pu1,pu2,pu3])
  refine Z06 10 (some 113) fun K hK=>?_
  go_simp
  go_at_call 96
  refine(Z08 k0.op wd HK0.out.1 (HT.out.ops.later HD.out.base)).mono ?_
  rintro e w5 ⟨rfl,rfl⟩
  refine kpL hK (hHeld) ?_
  clear hK K hHeld;intro hHeld
  (try simp only [Act.put,pu1,pu2,pu3])
  refine tkL 13 12 (some 115) hHeld ?_
  (try simp only [Act.put,pu1,pu2,pu3])
  refine Z06 13 (some 116) fun K hK=>?_
  go_simp
  go_at_call 75
  refine(HIH.out _ _ _ _ _ _ _ k0 (decide (ZL k0.op<(L:Int))) dd HT.out HD.out HK0.out.2.1 HK0.out.2.2 HL0.out).mono ?_
  rintro e w6 ⟨ws6,a6,c6,rfl,H6⟩
  refine kpL hK (⟨Z0c.cell HD.out H6.out.2.2 HEB.out hHeld.1,Z0c.cell HD.out H6.out.2.2 HKB.out hHeld.2.1,Z0c.cell HD.out H6.out.2.2 HKB.out hHeld.2.2.1,Z0c.cell HD.out H6.out.2.2 HKB.out hHeld.2.2.2.1,Z0c.cell HD.out H6.out.2.2 HKB.out hHeld.2.2.2.2⟩) ?_
  clear hK K hHeld;intro hHeld
  (try simp only [Act.put,pu1,pu2,pu3])
  refine Z06 14 (some 0) fun K hK=>?_
  go_simp
  refine hK.out _ _ (Z15 (by kernel_rfl)) ?_
  clear hK K hHeld
  (try simp only [Act.put,pu1,pu2,pu3])
  refine Zq (by kernel_rfl) ?_ _
  have HA:=H6
  have HKA:=hdd (HKD.out.trans HA.out.2.2)
  have q0:=Z0c.cell HD.out HA.out.2.2 HEB.out HP0.out
  have HP3:=hdd (Z0c.cell HD.out HA.out.2.2 HEB.out HH0.out.1)
  obtain⟨bm,o,g1,hbm,hlk⟩:=HT.out.signs.later HA.out.2.1.base
  have hlk2:=hlk w6 hbm op HOP.out
  have hfs:=Z9A ⟨#[opC op]⟩ (lvl op) w6
  have HLA:=hdd (show ws6.length+(1+(Z3h (decide (ZL k1.op≤(L:Int))) (Z9 d k1 1)).length)≤4000000 from by
   have:=HLN.out
   rw [HA.out.1,List.length_append]
   omega)
  have hla:ws6.length+1≤4000000:=by have:=HLA.out;omega
  clear hlk H6 HH0
  go_wp2_with fail
  refine(ZK _ w6).mono ?_
  rintro e w7 ⟨rfl,hb7⟩
  have HS7:=hdd (HA.out.2.1.later hb7)
  have HK7:=hdd (HKA.out.trans (Z8 HA.out.2.1.lt hb7))
  have HP7:=hdd (clT hb7 HP3.out)
  clear q0 g1 hbm hlk2 hfs hb7 HD HKD HP3
  go_upto_region 27 with(at_builtin;refine Z5g rfl (.tmp 117) (.tmp 124) rfl rfl (HS7.out.later ((bRf _ _).alloc (Nat.le_refl _) _)) [sgW (opC op)] _ 1 1 rfl rfl (by decide) (Zc _ _ _) (by intro v hv;simp at hv;subst hv;exact(show 1≤maxLen by decide)) (by omega) ?_;intro ws8 a8 c8 w8 H8)
  have HK8:=hdd (HK7.out.trans ((Z8 HS7.out.lt ((bRf _ _).alloc (Nat.le_refl _) _)).trans H8.out.2.2))
  have hwd:Below w8.heap.size w8 w8.drew:=(bRf _ _).drew
  have HD:=hdd (H8.out.2.1.later hwd)
  have HKD:=hdd (HK8.out.trans (Z8 H8.out.2.1.lt hwd))
  have hp8:=clT hwd (Z0c.cell (HS7.out.later ((bRf _ _).alloc (Nat.le_refl _) _)) H8.out.2.2 HEB.out (clT ((bRf _ _).alloc (Nat.le_refl _) _) HP7.out))
  have HH0:=hdd (show(fun W:World=>W.cell? ⟨eb,3,none⟩=some (.slice (some ⟨kb,ko,none⟩) 2 kc)∧W.cell? ⟨kb,ko+4,none⟩=some (.int .i64 k1.op)∧W.cell? ⟨kb,ko+4+1,none⟩=some (.int .i64 k1.n)∧W.cell? ⟨kb,ko+4+2,none⟩=some (.string k1.name)∧W.cell? ⟨kb,ko+4+3,none⟩=some (.slice ka1 k1.kids.length kc1)) w8.drew from⟨hp8,clT HD.out.base HCD.out.1,clT HD.out.base HCD.out.2.1,clT HD.out.base HCD.out.2.2.1,clT HD.out.base HCD.out.2.2.2⟩)
  have HL1:=hdd (show ws8.length+(Z3h (decide (ZL k1.op≤(L:Int))) (Z9 d k1 1)).length≤4000000 from by
   have:=HLA.out
   rw [H8.out.1,List.length_append]
   simp only [List.length_cons,List.length_nil]
   omega)
  clear hp8 hwd
  refine Zw (S:=fun W:World=>W.cell? ⟨eb,3,none⟩=some (.slice (some ⟨kb,ko,none⟩) 2 kc)∧W.cell? ⟨kb,ko+4,none⟩=some (.int .i64 k1.op)∧W.cell? ⟨kb,ko+4+1,none⟩=some (.int .i64 k1.n)∧W.cell? ⟨kb,ko+4+2,none⟩=some (.string k1.name)∧W.cell? ⟨kb,ko+4+3,none⟩=some (.slice ka1 k1.kids.length kc1)) (by kernel_rfl) ?_
  generalize w8.drew=wd at HD HKD HH0 ⊢
  have hHeld:(fun W:World=>W.cell? ⟨eb,3,none⟩=some (.slice (some ⟨kb,ko,none⟩) 2 kc)∧W.cell? ⟨kb,ko+4,none⟩=some (.int .i64 k1.op)∧W.cell? ⟨kb,ko+4+1,none⟩=some (.int .i64 k1.n)∧W.cell? ⟨kb,ko+4+2,none⟩=some (.string k1.name)∧W.cell? ⟨kb,ko+4+3,none⟩=some (.slice ka1 k1.kids.length kc1)) wd:=HH0.out
  refine tkL 13 0 (some 126) hHeld ?_
  (try simp only [Act.put,pu1,pu2,pu3])
  refine tkL 2 1 (some 127) hHeld ?_
  (try simp only [Act.put,pu1,pu2,pu3])
  refine tkL 3 2 (some 128) hHeld ?_
  (try simp only [Act.put,pu1,pu2,pu3])
  refine tkL 4 3 (some 129) hHeld ?_
  (try simp only [Act.put,pu1,pu2,pu3])
  refine tkL 13 4 (some 130) hHeld ?_
  (try simp only [Act.put,pu1,pu2,pu3])
  refine tkL 6 5 (some 131) hHeld ?_
  (try simp only [Act.put,pu1,pu2,pu3])
  refine tkL 7 6 (some 132) hHeld ?_
  (try simp only [Act.put,pu1,pu2,pu3])
  refine tkL 8 7 (some 133) hHeld ?_
  (try simp only [Act.put,pu1,pu2,pu3])
  refine tkL 9 8 (some 134) hHeld ?_
  (try simp only [Act.put,pu1,pu2,pu3])
  refine tkL 10 9 (some 135) hHeld ?_
  (try simp only [Act.put,pu1,pu2,pu3])
  refine tkL 12 11 (some 137) hHeld ?_
  (try simp only [Act.put,pu1,pu2,pu3])
  refine Z06 10 (some 136) fun K hK=>?_
  go_simp
  go_at_call 96
  refine(Z08 k1.op wd HK1.out.1 (HT.out.ops.later HD.out.base)).mono ?_
  rintro e w5 ⟨rfl,rfl⟩
  refine kpL hK (hHeld) ?_
  clear hK K hHeld;intro hHeld
  (try simp only [Act.put,pu1,pu2,pu3])
  refine tkL 13 12 (some 138) hHeld ?_
  (try simp only [Act.put,pu1,pu2,pu3])
  refine Z06 13 (some 139) fun K hK=>?_
  go_simp
  go_at_call 75
  refine(HIH.out _ _ _ _ _ _ _ k1 (decide (ZL k1.op≤(L:Int))) dd HT.out HD.out HK1.out.2.1 HK1.out.2.2 HL1.out).mono ?_
  rintro e w6 ⟨ws6,a6,c6,rfl,H6⟩
  refine kpL hK (⟨Z0c.cell HD.out H6.out.2.2 HEB.out hHeld.1,Z0c.cell HD.out H6.out.2.2 HKB.out hHeld.2.1,Z0c.cell HD.out H6.out.2.2 HKB.out hHeld.2.2.1,Z0c.cell HD.out H6.out.2.2 HKB.out hHeld.2.2.2.1,Z0c.cell HD.out H6.out.2.2 HKB.out hHeld.2.2.2.2⟩) ?_
  clear hK K hHeld;intro hHeld
  (try simp only [Act.put,pu1,pu2,pu3])
  refine Z06 14 (some 6) fun K hK=>?_
  go_simp
  refine hK.out _ _ (Z15 (by kernel_rfl)) ?_
  clear hK K hHeld
  (try simp only [Act.put,pu1,pu2,pu3])
  refine Zq (by kernel_rfl) ?_ _
  have HKF:=hdd (HKD.out.trans H6.out.2.2)
  go_wp2
  go_ret
  exact HFIN.out ws6 a6 c6 w6 (by rw [H6.out.1,H8.out.1,HA.out.1,HE.out,HWB.out.1,HWB.out.2];simp) H6.out.2.1 HKF.out
theorem Z5q (d:Nat) (ih:EwC d):EwC (d+1):=by
 intro W0 P w a c ws cs x b dd hT hW hx hf hl
 cases b with
 | false=>exact Z31 d ih W0 P w a c ws cs x dd hT hW hx hf hl
 | true=>
  have hl2:ws.length+((Z9 (d+1) x 1).length+2)≤4000000:=by
   have h:=hl
   rw [show Z3h true (Z9 (d+1) x 1)=sgW 40::Z9 (d+1) x 1++[sgW 41] from rfl] at h
   simp only [List.length_append,List.length_cons,List.length_nil] at h
   omega
  cases dd with
  | zero=>exact hx.elim
  | succ dd=>
  have hx0:=hx
  obtain⟨ka,kc,rfl,-,-⟩:=hx0
  have HBX:=hdd (ZaQ.start w x.op x.n x.name (.slice ka x.kids.length kc))
  have HIX:=hdd (fun (W:World) (P:Nat→Prop) (a:Option Addr) (c:Nat) (ws:List Z7) (h1:Z0c W0 P W a c ws) (h2:ws.length+(Z9 (d+1) x 1).length≤4000000)=>Z31 d ih W0 P W a c ws _ x (dd+1) hT h1 hx hf h2)
  obtain⟨R,hR⟩:∃R,R=Z9 (d+1) x 1:=⟨_,rfl⟩
  rw [← hR] at hl2 HIX ⊢
  obtain⟨P1,hP1⟩:∃P1:Nat→Prop,P1=fun k=>P k∨k=w.heap.size:=⟨_,rfl⟩
  have HS:=hdd (show Z0c W0 P1 (w.alloc (.cells #[.int .i64 x.op,.int .i64 x.n,.string x.name,.slice ka x.kids.length kc] 64)) a c ws from by rw [hP1];exact hW.box _)
  have HEB:=hdd (show P1 w.heap.size from by rw [hP1];exact .inr rfl)
  have HFIN:=hdd (show ∀(ws':List Z7) (a':Option Addr) (c':Nat) (w':World),ws'=ws++Z3h true R→Z0c W0 P1 w' a' c' ws'→Z1l P1 (w.alloc (.cells #[.int .i64 x.op,.int .i64 x.n,.string x.name,.slice ka x.kids.length kc] 64)) w'→Z3d W0 P w ws (Z3h true R) (.returned (.slice a' ws'.length c')) w' from fun ws' a' c' w' e1 e2 e3=>⟨ws',a',c',rfl,hdd ⟨e1,e2.unbox (fun k hk=>by rw [hP1];exact .inl hk) hW.low,(Z8 hW.lt ((bRf _ _).alloc (Nat.le_refl _) _)).trans (Z1l.un e3 (fun k hk=>by rw [hP1];exact .inl hk))⟩⟩)
  clear hR hx hf hl hT hW hP1 ih
  go_enter Tryz.func75,Tryz.ntmps75
  go_upto_region 1 with fail
  generalize w.alloc (.cells #[.int .i64 x.op,.int .i64 x.n,.string x.name,.slice ka x.kids.length kc] 64)=W1 at HBX HS HFIN ⊢
  have HC:=hdd HBX.out.cells
  clear HBX
  obtain⟨eb,heb⟩:∃b,b=w.heap.size:=⟨_,rfl⟩
  rw [← heb] at HC HEB ⊢
  clear heb
  go_wp2_with fail
  refine(ZK _ W1).mono ?_
  rintro e w2 ⟨rfl,hb2⟩
  have HS2:=hdd (HS.out.later hb2)
  have HK2:=hdd (Z8 HS.out.lt hb2)
  clear hb2
  go_upto_region 3 with(at_builtin;refine Z5g rfl (.tmp 12) (.tmp 14) rfl rfl (HS2.out.later ((bRf _ _).alloc (Nat.le_refl _) _)) [sgW 40] _ 1 1 rfl rfl (by decide) (Zc _ _ _) (by intro v hv;simp at hv;subst hv;decide) (by omega) ?_;intro ws5 a5 c5 w5 H5)
  have HK5:=hdd (HK2.out.trans ((Z8 HS2.out.lt ((bRf _ _).alloc (Nat.le_refl _) _)).trans H5.out.2.2))
  have p0:=Z0c.cell HS.out HK5.out HEB.out HC.out.1
  have p1:=Z0c.cell HS.out HK5.out HEB.out HC.out.2.1
  have p2:=Z0c.cell HS.out HK5.out HEB.out HC.out.2.2.1
  have p3:=Z0c.cell HS.out HK5.out HEB.out HC.out.2.2.2
  go_wp2_with fail
  refine(HIX.out w5 P1 a5 c5 ws5 H5.out.2.1 (by
   rw [H5.out.1]
   simp only [List.length_append,List.length_cons,List.length_nil]
   omega)).mono ?_
  rintro e w6 ⟨ws6,a6,c6,rfl,H6⟩
  have hl6:ws6.length+1≤4000000:=by
   rw [H6.out.1,H5.out.1]
   simp only [List.length_append,List.length_cons,List.length_nil]
   omega
  clear p0 p1 p2 p3
  go_wp2_with fail
  refine(ZK _ w6).mono ?_
  rintro e w7 ⟨rfl,hb7⟩
  have HS7:=hdd (H6.out.2.1.later hb7)
  have HK7:=hdd (HK5.out.trans (H6.out.2.2.trans (Z8 H6.out.2.1.lt hb7)))
  clear hb7
  go_wp2_with (at_builtin;refine Z5g rfl (.tmp 19) (.tmp 21) rfl rfl (HS7.out.later ((bRf _ _).alloc (Nat.le_refl _) _)) [sgW 41] _ 1 1 rfl rfl (by decide) (Zc _ _ _) (by intro v hv;simp at hv;subst hv;decide) (by omega) ?_;intro ws8 a8 c8 w8 H8)
  go_ret
  exact HFIN.out ws8 a8 c8 w8 (by rw [H8.out.1,H6.out.1,H5.out.1];simp [Z3h]) H8.out.2.1 (HK7.out.trans ((Z8 HS7.out.lt ((bRf _ _).alloc (Nat.le_refl _) _)).trans H8.out.2.2))
theorem Z2N:∀d,EwC d
 | 0=>fun W0 P w a c ws cs x b dd hT hW hx hf hl=>by cases hf
 | d+1=>Z5q d (Z2N d)
end Go.Proofs.YtloooebabieeeaaGreatDoor
