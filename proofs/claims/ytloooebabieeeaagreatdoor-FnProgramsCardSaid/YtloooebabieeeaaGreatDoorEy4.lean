/-
  Expressions: the program's exprSize, with names: the walk (printed by mkey3.py).
-/
import Derived.Test.YtloooebabieeeaaGreatDoorCp
import Derived.Test.YtloooebabieeeaaGreatDoorEx3
import Derived.Test.YtloooebabieeeaaGreatDoorNm
import Derived.Deep.LoopGhost
set_option maxRecDepth 100000
set_option maxHeartbeats 16000000
set_option linter.unusedVariables false
namespace Go.Proofs.YtloooebabieeeaaGreatDoor
open Go.RowKit
theorem Z3l (m d:Nat) (cs:List Value) (x:Z6) (w:World) (hm:m≤6) (hO:Z3P w) (hK:Z1F w) (hx:ZX d w cs x)
  (hih:∀m',m=m'+1→∀(d:Nat) (cs:List Value) (x:Z6) (w:World),Z3P w→Z1F w→ZX d w cs x→
   Calls Tryz.prog 114 #[.agg cs.toArray,.int .i64 (m':Int)] w fun e w'=>Z6e Zk m' x e∧Below w.heap.size w w') :
  Calls Tryz.prog 114 #[.agg cs.toArray,.int .i64 (m:Int)] w fun e w'=>Z6e Zk m x e∧Below w.heap.size w w':=by
 cases d with
 | zero=>exact hx.elim
 | succ d=>
 obtain⟨op,n,name,kids⟩:=x
 obtain⟨ka,kc,rfl,⟨hkl,hop⟩,hks⟩:=hx
 simp only [Z6.op,Z6.n,Z6.name,Z6.kids] at hkl hop hks ⊢
 show Calls _ _ #[.agg #[.int .i64 op,.int .i64 n,.string name,.slice ka kids.length kc],_] w _
 have hba:Below w.heap.size w (w.alloc (.cells #[.int .i64 op,.int .i64 n,.string name,.slice ka kids.length kc] 64)):=(bRf _ _).alloc (Nat.le_refl _) _
 have hrow:=hAn w (.cells #[.int .i64 op,.int .i64 n,.string name,.slice ka kids.length kc] 64)
 have e0:=coR _ _ 0 _ _ _ hrow
 have e1:=coR _ _ 1 _ _ _ hrow
 have e2:=coR _ _ 2 _ _ _ hrow
 have e3:=coR _ _ 3 _ _ _ hrow
 simp only [ga0,ga1,ga2] at e0 e1 e2 e3
 have HB:=hdd hba
 have HK:=hdd (aI (hks.later (Zg d) hba) (hK.later hba))
 have HNM:=hdd (fun W h=>Z2a name W h)
 have HOP:=hdd (hO.later hba)
 have hO2:=hO.later hba
 obtain⟨bm,o,c1,hbm,hlk⟩:=hO2
 have HH:=hdd (fun (h:Z0v Zk op n name kids.length=false)=>show Z0M Zk m (Z6.mk op n name kids)=none from Z9h h)
 clear hba hrow hks hO hK
 go_enter Tryz.func114,Tryz.ntmps114
 go_upto_region 1 with fail
 obtain⟨b,hb⟩:∃b,b=w.heap.size:=⟨_,rfl⟩
 generalize w.alloc (.cells #[.int .i64 op,.int .i64 n,.string name,.slice ka kids.length kc] 64)=W1 at HB HK HOP e0 e1 e2 e3 c1 hbm ⊢
 rw [← hb] at e0 e1 e2 e3 ⊢
 clear hb
 obtain⟨sg,hl1⟩:=hlk W1 hbm op hop
 have hfl:=Z7e sg (lvl op) W1
 clear hlk hbm
 go_upto_block 0 with fail
 go_cut [7,8] (fun lo hi wx=>Hid (Below W1.heap.size W1 wx)∧∃l h:Nat,lo=.int .i64 l∧hi=.int .i64 h∧l≤3∧h≤3∧Hid (Z8P Zk op n name kids.length l h))
 case first=>
  by_cases h1:op=1
  ·subst h1
   cases hby:inE 0 n 255 with
   | false=>
    have HN:=hdd (HH.out (by rw [Z0v,if_pos rfl,hby];rfl))
    go_wp2_with fail
    refine(Z4a hby _).mono ?_
    rintro e w2 ⟨rfl,rfl⟩
    clear hby
    go_wp2
    refine bodyPost_ret (results_tmp3 rfl _ _ _) rfl ?_
    exact⟨Z0w HN.out,HB.out⟩
   | true=>
    cases hem:name.toList.isEmpty with
    | false=>
     have HN:=hdd (HH.out (by rw [Z0v,if_pos rfl,hby,hem];rfl))
     go_wp2_with fail
     refine(Z4a hby _).mono ?_
     rintro e w2 ⟨rfl,rfl⟩
     clear hby
     go_wp2
     refine bodyPost_ret (results_tmp3 rfl _ _ _) rfl ?_
     exact⟨Z0w HN.out,HB.out⟩
    | true=>
     have HP:=hdd (show Z8P Zk 1 n name kids.length 0 0 by
      rw [Z8P,Z0v,if_pos rfl,hby,hem,if_neg (by decide),Bool.true_and,Bool.true_and,Bool.true_and,inE]
      cases kids<;>simp)
     go_wp2_with fail
     refine(Z4a hby _).mono ?_
     rintro e w2 ⟨rfl,rfl⟩
     clear hby
     go_wp2
     go_meet
     exact⟨hdd (bRf _ _),0,0,rfl,rfl,by omega,by omega,HP⟩
  ·have o1:(op==1)=false:=by simpa using h1
   by_cases h2:op=2
   ·subst h2
    cases hnm:Zk name with
    | false=>
     have HN:=hdd (HH.out (by rw [Z0v,if_neg (by decide),if_pos rfl,hnm];rfl))
     have HQ:=hdd (HNM.out W1 HK.out.2)
     rw [hnm] at HQ
     clear hnm h1 o1 hl1 hfl
     go_wp2_with fail
     refine HQ.out.mono ?_
     rintro e w2 ⟨rfl,hb2⟩
     have HE:=hdd (HB.out.trans (hb2.mono HB.out.size))
     clear hb2
     go_wp2
     refine bodyPost_ret (results_tmp3 rfl _ _ _) rfl ?_
     exact⟨Z0w HN.out,HE.out⟩
    | true=>
     have HQ:=hdd (HNM.out W1 HK.out.2)
     rw [hnm] at HQ
     by_cases hn0:n=0
     ·have HP:=hdd (show Z8P Zk 2 n name kids.length 0 0 by
      rw [Z8P,Z0v,if_neg (by decide),if_pos rfl,hnm,hn0,if_neg (by decide),inE]
      cases kids<;>simp)
      have hnn:(n != 0)=false:=by simp [hn0]
      clear hnm h1 o1 hl1 hfl hn0
      go_wp2_with fail
      refine HQ.out.mono ?_
      rintro e w2 ⟨rfl,hb2⟩
      have HE:=hdd hb2
      have e1:=clT hb2 e1
      clear hb2
      go_wp2
      go_meet
      exact⟨HE,0,0,rfl,rfl,by omega,by omega,HP⟩
     ·have HN:=hdd (HH.out (by rw [Z0v,if_neg (by decide),if_pos rfl,show(n==0)=false by simp [hn0]];simp))
      have hnn:(n != 0)=true:=by simp [hn0]
      clear hnm h1 o1 hl1 hfl hn0
      go_wp2_with fail
      refine HQ.out.mono ?_
      rintro e w2 ⟨rfl,hb2⟩
      have HE:=hdd (HB.out.trans (hb2.mono HB.out.size))
      have e1:=clT hb2 e1
      clear hb2
      go_wp2
      refine bodyPost_ret (results_tmp3 rfl _ _ _) rfl ?_
      exact⟨Z0w HN.out,HE.out⟩
   ·have n2:(op==2)=false:=by simpa using h2
    by_cases h13:op=13
    ·subst h13
     cases hnm:Zk name with
     | false=>
      have HN:=hdd (HH.out (by rw [Z0v,if_neg (by decide),if_neg (by decide),if_pos rfl,hnm];rfl))
      have HQ:=hdd (HNM.out W1 HK.out.2)
      rw [hnm] at HQ
      clear hnm h1 o1 hl1 hfl
      go_wp2_with fail
      refine HQ.out.mono ?_
      rintro e w2 ⟨rfl,hb2⟩
      have HE:=hdd (HB.out.trans (hb2.mono HB.out.size))
      clear hb2
      go_wp2
      refine bodyPost_ret (results_tmp3 rfl _ _ _) rfl ?_
      exact⟨Z0w HN.out,HE.out⟩
     | true=>
      have HQ:=hdd (HNM.out W1 HK.out.2)
      rw [hnm] at HQ
      by_cases hn0:n=0
      ·have HP:=hdd (show Z8P Zk 13 n name kids.length 0 3 by
       rw [Z8P,Z0v,if_neg (by decide),if_neg (by decide),if_pos rfl,hnm,hn0,if_neg (by decide),inE]
       by_cases hk:kids.length≤3
       ·simp [hk];omega
       ·simp [hk];omega)
       have hnn:(n != 0)=false:=by simp [hn0]
       clear hnm h1 o1 hl1 hfl hn0
       go_wp2_with fail
       refine HQ.out.mono ?_
       rintro e w2 ⟨rfl,hb2⟩
       have HE:=hdd hb2
       have e1:=clT hb2 e1
       clear hb2
       go_wp2
       go_meet
       exact⟨HE,0,3,rfl,rfl,by omega,by omega,HP⟩
      ·have HN:=hdd (HH.out (by rw [Z0v,if_neg (by decide),if_neg (by decide),if_pos rfl,show(n==0)=false by simp [hn0]];simp))
       have hnn:(n != 0)=true:=by simp [hn0]
       clear hnm h1 o1 hl1 hfl hn0
       go_wp2_with fail
       refine HQ.out.mono ?_
       rintro e w2 ⟨rfl,hb2⟩
       have HE:=hdd (HB.out.trans (hb2.mono HB.out.size))
       have e1:=clT hb2 e1
       clear hb2
       go_wp2
       refine bodyPost_ret (results_tmp3 rfl _ _ _) rfl ?_
       exact⟨Z0w HN.out,HE.out⟩
    ·have n13:(op==13)=false:=by simpa using h13
     clear h2 h13
     by_cases hl:0<lvl op
     ·have HP:=hdd (show Z8P Zk op n name kids.length 2 2 by
       have hr:=Z4H op
       have h6:ZL op<6:=by rw [ZL,if_pos hl];omega
       rw [Z8P,Z0v,if_neg h1,if_neg (by simpa using n2),if_neg (by simpa using n13),if_pos hl,if_pos h6,Bool.and_assoc,inE]
       congr 2
       by_cases hk:kids.length=2
       ·simp [hk]
       ·have:(kids.length==2)=false:=by simpa using hk
        rw [this]
        simp
        omega)
      have hr:=Z4H op
      generalize lvl op=v at hl hr hl1 hfl
      clear h1
      go_wp2
      go_meet
      exact⟨hdd (bRf _ _),2,2,rfl,rfl,by omega,by omega,HP⟩
     ·have HNL:=hdd hl
      by_cases h11:op=11
      ·subst h11
       have HP:=hdd (show Z8P Zk 11 n name kids.length 1 1 by
        rw [Z8P,Z0v,if_neg (by decide),if_neg (by decide),if_neg (by decide),if_neg (by decide),if_pos (.inl rfl),if_pos (by decide),Bool.and_assoc,inE]
        congr 2
        by_cases hk:kids.length=1
        ·simp [hk]
        ·have:(kids.length==1)=false:=by simpa using hk
         rw [this]
         simp
         omega)
       generalize lvl 11=v at hl hl1 hfl
       clear h1 o1 n2 n13
       go_wp2
       go_meet
       exact⟨hdd (bRf _ _),1,1,rfl,rfl,by omega,by omega,HP⟩
      ·by_cases h12:op=12
       ·subst h12
        have HP:=hdd (show Z8P Zk 12 n name kids.length 1 1 by
         rw [Z8P,Z0v,if_neg (by decide),if_neg (by decide),if_neg (by decide),if_neg (by decide),if_pos (.inr rfl),if_pos (by decide),Bool.and_assoc,inE]
         congr 2
         by_cases hk:kids.length=1
         ·simp [hk]
         ·have:(kids.length==1)=false:=by simpa using hk
          rw [this]
          simp
          omega)
        generalize lvl 12=v at hl hl1 hfl
        clear h1 o1 n2 n13 h11
        go_wp2
        go_meet
        exact⟨hdd (bRf _ _),1,1,rfl,rfl,by omega,by omega,HP⟩
       ·have o11:(op==11)=false:=by simpa using h11
        have o12:(op==12)=false:=by simpa using h12
        have HN:=hdd (HH.out (by rw [Z0v,if_neg h1,if_neg (by simpa using n2),if_neg (by simpa using n13),if_neg hl,if_neg (by simp [h11,h12])]))
        generalize lvl op=v at hl hl1 hfl
        clear h1 h11 h12
        go_wp2
        refine bodyPost_ret (results_tmp3 rfl _ _ _) rfl ?_
        exact⟨Z0w HN.out,HB.out⟩
 case rest=>
 obtain⟨HWC,l,h,rfl,rfl,hl3,hh3,HP⟩:=hcut
 have e0:=clT HWC.out e0
 have e1:=clT HWC.out e1
 have e2:=clT HWC.out e2
 have e3:=clT HWC.out e3
 have HB:=hdd (HB.out.trans (HWC.out.mono HB.out.size))
 have HOP:=hdd (HOP.out.later HWC.out)
 have HK:=hdd (aI (HK.out.1.later (Zg d) HWC.out) (HK.out.2.later HWC.out))
 clear hl1 hfl c1 HNM HWC
 go_upto_region 17 with fail
 go_cut [97] (fun s wx=>wx=wc∧∃bad:Bool,s=.bool bad∧Hid (bad = !(Z0v Zk op n name kids.length&&decide (1≤m))))
 case first=>
  by_cases h6:ZL op<6
  ·by_cases hn0:n=0
   ·cases hem:name.toList.isEmpty with
    | false=>
     have HN:=hdd (show true = !(Z0v Zk op n name kids.length&&decide (1≤m)) by rw [HP.out,if_pos h6,hem];simp)
     have hnn:(n != 0)=false:=by simp [hn0]
     have hnn2:(n==0)=true:=by simp [hn0]
     clear hn0
     go_wp2_with fail
     refine(Z08 op _ hop HOP.out).mono ?_
     rintro e w2 ⟨rfl,rfl⟩
     go_wp2
     go_meet
     exact⟨rfl,_,rfl,HN⟩
    | true=>
     have hnn:(n != 0)=false:=by simp [hn0]
     have hnn2:(n==0)=true:=by simp [hn0]
     clear hn0
     cases hwi:inE l kids.length h with
     | false=>
      have HN:=hdd (show true = !(Z0v Zk op n name kids.length&&decide (1≤m)) by rw [HP.out,if_pos h6,hem,hnn2,hwi];simp)
      go_wp2_with fail
      refine(Z08 op _ hop HOP.out).mono ?_
      rintro e w2 ⟨rfl,rfl⟩
      go_wp2_with fail
      refine(Z0S hwi _).mono ?_
      rintro e w3 ⟨rfl,rfl⟩
      go_wp2
      go_meet
      exact⟨rfl,_,rfl,HN⟩
     | true=>
      by_cases hm1:(m:Int)<1
      ·have HN:=hdd (show true = !(Z0v Zk op n name kids.length&&decide (1≤m)) by rw [show decide (1≤m)=false from decide_eq_false (by omega)];simp)
       go_wp2_with fail
       refine(Z08 op _ hop HOP.out).mono ?_
       rintro e w2 ⟨rfl,rfl⟩
       go_wp2_with fail
       refine(Z0S hwi _).mono ?_
       rintro e w3 ⟨rfl,rfl⟩
       go_wp2
       go_meet
       exact⟨rfl,_,rfl,HN⟩
      ·have HM:=hdd (show false = !(Z0v Zk op n name kids.length&&decide (1≤m)) by rw [HP.out,if_pos h6,hem,hnn2,hwi,show decide (1≤m)=true from decide_eq_true (by omega)];simp)
       go_wp2_with fail
       refine(Z08 op _ hop HOP.out).mono ?_
       rintro e w2 ⟨rfl,rfl⟩
       go_wp2_with fail
       refine(Z0S hwi _).mono ?_
       rintro e w3 ⟨rfl,rfl⟩
       go_wp2
       go_meet
       exact⟨rfl,_,rfl,hdd ((decide_eq_false (by omega)).trans HM.out)⟩
   ·have hnn:(n != 0)=true:=by simp [hn0]
    have hnn2:(n==0)=false:=by simp [hn0]
    have HN:=hdd (show true = !(Z0v Zk op n name kids.length&&decide (1≤m)) by rw [HP.out,if_pos h6,hnn2];simp)
    clear hn0
    go_wp2_with fail
    refine(Z08 op _ hop HOP.out).mono ?_
    rintro e w2 ⟨rfl,rfl⟩
    go_wp2
    go_meet
    exact⟨rfl,_,rfl,HN⟩
  ·have h6x:=h6
   cases hwi:inE l kids.length h with
   | false=>
    have HN:=hdd (show true = !(Z0v Zk op n name kids.length&&decide (1≤m)) by rw [HP.out,if_neg h6,hwi];simp)
    go_wp2_with fail
    refine(Z08 op _ hop HOP.out).mono ?_
    rintro e w2 ⟨rfl,rfl⟩
    go_wp2_with fail
    refine(Z0S hwi _).mono ?_
    rintro e w3 ⟨rfl,rfl⟩
    go_wp2
    go_meet
    exact⟨rfl,_,rfl,HN⟩
   | true=>
    by_cases hm1:(m:Int)<1
    ·have HN:=hdd (show true = !(Z0v Zk op n name kids.length&&decide (1≤m)) by rw [show decide (1≤m)=false from decide_eq_false (by omega)];simp)
     go_wp2_with fail
     refine(Z08 op _ hop HOP.out).mono ?_
     rintro e w2 ⟨rfl,rfl⟩
     go_wp2_with fail
     refine(Z0S hwi _).mono ?_
     rintro e w3 ⟨rfl,rfl⟩
     go_wp2
     go_meet
     exact⟨rfl,_,rfl,HN⟩
    ·have HM:=hdd (show false = !(Z0v Zk op n name kids.length&&decide (1≤m)) by rw [HP.out,if_neg h6,hwi,show decide (1≤m)=true from decide_eq_true (by omega)];simp)
     go_wp2_with fail
     refine(Z08 op _ hop HOP.out).mono ?_
     rintro e w2 ⟨rfl,rfl⟩
     go_wp2_with fail
     refine(Z0S hwi _).mono ?_
     rintro e w3 ⟨rfl,rfl⟩
     go_wp2
     go_meet
     exact⟨rfl,_,rfl,hdd ((decide_eq_false (by omega)).trans HM.out)⟩
 case rest=>
 obtain⟨hw,bad,rfl,HBD⟩:=hcut
 subst hw
 cases bad with
 | true=>
  have HN:=hdd (show Z0M Zk m (Z6.mk op n name kids)=none by
   have h1:=HBD.out
   cases hh:Z0v Zk op n name kids.length with
   | false=>exact HH.out hh
   | true=>
    rw [hh,Bool.true_and] at h1
    have hm0:¬1≤m:=by simpa using h1
    obtain rfl:m=0:=by omega
    rfl)
  go_wp2
  refine bodyPost_ret (results_tmp3 rfl _ _ _) rfl ?_
  exact⟨Z0w HN.out,HB.out⟩
 | false=>
  have h1:=HBD.out
  have hhm:Z0v Zk op n name kids.length=true∧1≤m:=by
   simpa using h1
  obtain⟨hh,hm1⟩:=hhm
  have hk3:kids.length≤3:=by
   have h2:=HP.out
   rw [Z8P,hh] at h2
   have h3:inE l kids.length h=true:=by
    cases h4:inE l kids.length h with
    | true=>rfl
    | false=>rw [h4,Bool.and_false] at h2;cases h2
   simp only [inE,Bool.and_eq_true,decide_eq_true_eq] at h3
   omega
  obtain⟨m',rfl⟩:∃m',m=m'+1:=⟨m-1,by omega⟩
  have HSZ:=hdd (show Z0M Zk (m'+1) (Z6.mk op n name kids)=Z1b (Z0M Zk m') kids 1 1 by rw [Z0M];exact if_pos hh)
  have HIH:=hdd (hih m' rfl)
  have HK3:=hdd hk3
  have HM7:=hdd (show m'+1≤6 from hm)
  clear hih HH HP HBD h1 hh hm1 hl3 hh3
  go_wp2_with fail
  clear e0 e1 e2 e3
  go_loopg [9,10,101] kids.length (fun G pv dv i wr=>∃j pn dn:Nat,j+G=kids.length∧i=.int .i64 j∧pv=.int .i64 pn∧dv=.int .i64 dn∧pn≤1+30*j∧dn≤7∧Hid (Below wc.heap.size wc wr∧Z1b (Z0M Zk m') kids 1 1=Z1b (Z0M Zk m') (kids.drop j) pn dn))
  case atStart=>exact⟨0,1,1,by omega,rfl,rfl,rfl,by omega,by omega,hdd ⟨bRf _ _,rfl⟩⟩
  case round=>
   obtain⟨j,pn,dn,hj,rfl,rfl,rfl,hpn,hdn,HR⟩:=hrel
   by_cases hlt:j<kids.length
   ·obtain⟨b1,o1,k,cs1,rfl,hk,hkR,k1,k2,rfl,c0,c1,c2,c3⟩:=Z0r (HK.out.1.later (Zg d) HR.out.1) hlt
    have hki:(j:Int)<(kids.length:Int):=by omega
    have hba:Below wr.heap.size wr (wr.alloc (.cells #[.int .i64 k.op,.int .i64 k.n,.string k.name,.slice k1 k.kids.length k2] 64)):=(bRf _ _).alloc (Nat.le_refl _) _
    have hrow:=hAn wr (.cells #[.int .i64 k.op,.int .i64 k.n,.string k.name,.slice k1 k.kids.length k2] 64)
    have e0:=coR _ _ 0 _ _ _ hrow
    have e1:=coR _ _ 1 _ _ _ hrow
    have e2:=coR _ _ 2 _ _ _ hrow
    have e3:=coR _ _ 3 _ _ _ hrow
    simp only [ga0,ga1,ga2] at e0 e1 e2 e3
    have hdrop:kids.drop j=k::kids.drop (j+1):=(List.drop_eq_getElem_cons hlt).trans (by rw [(List.getElem?_eq_some_iff.1 hk).2])
    have HQ:=hdd (HIH.out d _ k _ ((HOP.out.later HR.out.1).later hba) ((HK.out.2.later HR.out.1).later hba) ((Zg d) _ _ _ _ hba hkR))
    have HD:=hdd (aI hdrop (HR.out.1.trans (hba.mono HR.out.1.size)))
    clear hba hrow hdrop hk hkR HIH
    go_wp2_with fail
    refine HQ.out.mono ?_
    rintro e w5 ⟨⟨p5,d5,rfl,hq⟩,hb5⟩
    have HE:=hdd (HD.out.2.trans (hb5.mono HD.out.2.size))
    clear hb5 c0 c1 c2 c3 e0 e1 e2 e3
    cases hs:Z0M Zk m' k with
    | none=>
     have HN:=hdd (show Z0M Zk (m'+1) (Z6.mk op n name kids)=none by rw [HSZ.out,HR.out.2,HD.out.1,Z1b,hs])
     clear hs hq
     go_wp2
     refine bodyPost_ret (results_tmp3 rfl _ _ _) rfl ?_
     exact⟨Z0w HN.out,HB.out.trans (HE.out.mono HB.out.size)⟩
    | some q=>
     obtain⟨hp,hd⟩:=hq q hs
     have hs1:=Z4U hs
     have hs2:=Z5R m' k q hs
     obtain⟨qp,qd⟩:=q
     simp only at hp hd hs1 hs2
     subst hp
     subst hd
     have HN:=hdd (show Z1b (Z0M Zk m') kids 1 1=Z1b (Z0M Zk m') (kids.drop (j+1)) (pn+qp) (max dn (qd+1)) by rw [HR.out.2,HD.out.1,Z1b,hs])
     have hm7:=HM7.out
     clear hs hq
     go_wp2
     all_goals
      go_roundg (gk-1)
      case measure=>omega
      case rel=>exact⟨j+1,pn+qp,max dn (qd+1),by omega,by go_num,by go_num,Za6 (by omega),by omega,by omega,hdd ⟨HE.out,HN.out⟩⟩
   ·obtain rfl:j=kids.length:=by omega
    have HF:=hdd (show Z0M Zk (m'+1) (Z6.mk op n name kids)=if pn≤30 then some (pn,dn) else none by rw [HSZ.out,HR.out.2,List.drop_length,Z1b])
    have hk3:=HK3.out
    go_wp2
    refine bodyPost_ret (results_tmp3 rfl _ _ _) rfl ?_
    refine⟨⟨pn,dn,?_,fun q hq=>?_⟩,HB.out.trans (HR.out.1.mono HB.out.size)⟩
    ·rw [HF.out]
     by_cases h30:pn≤30
     ·rw [if_pos h30]
      have:decide ((pn:Int)≤30)=true:=decide_eq_true (by omega)
      show Ending.returned (.tuple #[_,_,.bool (decide ((pn:Int)≤30))])=_
      rw [this]
      rfl
     ·rw [if_neg h30]
      have:decide ((pn:Int)≤30)=false:=decide_eq_false (by omega)
      show Ending.returned (.tuple #[_,_,.bool (decide ((pn:Int)≤30))])=_
      rw [this]
      rfl
    ·rw [HF.out] at hq
     split at hq
     ·cases hq;exact⟨rfl,rfl⟩
     ·cases hq
theorem Z6k:∀(m d:Nat) (cs:List Value) (x:Z6) (w:World),m≤6→Z3P w→Z1F w→ZX d w cs x→
  Calls Tryz.prog 114 #[.agg cs.toArray,.int .i64 (m:Int)] w fun e w'=>Z6e Zk m x e∧Below w.heap.size w w':=by
 intro m
 induction m with
 | zero=>exact fun d cs x w h1 h2 h3 h4=>Z3l 0 d cs x w h1 h2 h3 h4 (fun m' h=>by omega)
 | succ n ih=>exact fun d cs x w h1 h2 h3 h4=>Z3l (n+1) d cs x w h1 h2 h3 h4 (fun m' h d cs x w=>by
   obtain rfl:n=m':=by omega
   exact ih d cs x w (by omega))
def Z1z (p:Z6→Bool):Nat→Z6→Bool
 | 0,_=>false
 | d+1,e=>p e||e.kids.any (Z1z p d)
theorem Z5r (d:Nat) (cs:List Value) (x:Z6) (w:World) (hO:Z3P w) (hK:Z1F w) (hx:ZX d w cs x) :
  Calls Tryz.prog 95 #[.agg cs.toArray] w fun e w'=>e=.returned (.bool (Z0M Zk 6 x).isSome)∧Below w.heap.size w w':=by
 cases d with
 | zero=>exact hx.elim
 | succ d=>
 have hx2:=hx
 obtain⟨ka,kc,rfl,_,_⟩:=hx2
 have hba:Below w.heap.size w (w.alloc (.cells #[.int .i64 x.op,.int .i64 x.n,.string x.name,.slice ka x.kids.length kc] 64)):=(bRf _ _).alloc (Nat.le_refl _) _
 have hrow:=hAn w (.cells #[.int .i64 x.op,.int .i64 x.n,.string x.name,.slice ka x.kids.length kc] 64)
 have e0:=coR _ _ 0 _ _ _ hrow
 have e1:=coR _ _ 1 _ _ _ hrow
 have e2:=coR _ _ 2 _ _ _ hrow
 have e3:=coR _ _ 3 _ _ _ hrow
 simp only [ga0,ga1,ga2] at e0 e1 e2 e3
 have HQ:=hdd (Z6k 6 (d+1) _ x _ (by omega) (hO.later hba) (hK.later hba) (Zg (d+1) _ _ _ _ hba hx))
 have HB:=hdd hba
 clear hba hrow hO hx hK
 go_enter Tryz.func95,Tryz.ntmps95
 go_wp2_with fail
 refine HQ.out.mono ?_
 rintro e w5 ⟨⟨p5,d5,rfl,-⟩,hb5⟩
 have HE:=hdd (HB.out.trans (hb5.mono HB.out.size))
 clear hb5 e0 e1 e2 e3
 go_wp2
 go_ret
 exact⟨rfl,HE.out⟩
end Go.Proofs.YtloooebabieeeaaGreatDoor
