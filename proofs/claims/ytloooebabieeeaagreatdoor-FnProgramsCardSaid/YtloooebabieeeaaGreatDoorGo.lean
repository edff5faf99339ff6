/-
  The reference draws programs: a statement, or two (some) (printed by mkgo.py).
-/
import Derived.Test.YtloooebabieeeaaGreatDoorCp
import Derived.Test.YtloooebabieeeaaGreatDoorGn
set_option maxRecDepth 100000
set_option maxHeartbeats 16000000
set_option linter.unusedVariables false
namespace Go.Proofs.YtloooebabieeeaaGreatDoor
open Go.RowKit
section
variable {w0:World} {br bg:Nat} {a:Option Addr} {len cap:Nat} {bs:List Int} {fa:Option Addr} {fc:Nat} {fns:List FnD}
theorem Z5c (hlen:len≤2000) (dq:Int) (d cB:Nat) (hdq:dq≤3) (hd:1≤d) (FB FL:GS→List Zb×GS) (hB:2≤dq→∃d',d=d'+1∧Z64 w0 br bg a len cap bs fa fc fns (dq-1) d' cB FB) (hL:2≤dq→Zb0 w0 br bg a len cap bs fa fc fns dq d (cB+600) FL) :
  Zag w0 br bg a len cap bs fa fc fns dq d (700+2*cB) (Z6x bs fns FB FL dq):=by
 intro u va vc vars next left w h hv hu
 have HU:=hdd hu
 have HVC:=hdd hv
 have HW0:=hdd (show br<w.heap.size∧bg<w.heap.size∧w0.heap.size≤w.heap.size from⟨h.lts.1,h.lts.2,by obtain⟨p,_,hp⟩:=h.rd;exact hp.below.size⟩)
 have HBB:=hdd hB
 have HL:=hdd hL
 have hb:=h.bnd
 have hw:wrap64 (left-1)=left-1:=IntWalk.wrap64_in _ (by omega)
 have HP0:=hdd (show Z5 (w.setCell ⟨bg,4,none⟩ (.int .i64 (left-1))) br=Z5 w br from Z0b (by have:=h.base;omega))
 have HS:=hdd ((h.more (show u≤u+1 by omega)).setLeft (n':=left-1) (by omega))
 have c4:=h.c4
 have f4:=h.f 4
 clear hb hu hv h hB hL
 go_enter Tryz.func84,Tryz.ntmps84
 go_upto_region 2 with fail
 clear c4 f4 hw
 obtain⟨lx,hlx⟩:∃n:Int,n=left-1:=⟨_,rfl⟩
 have HLX:=hdd hlx
 rw [← hlx] at HS HP0 ⊢
 clear hlx
 generalize w.setCell ⟨bg,4,none⟩ (.int .i64 lx)=W1 at HS HP0 ⊢
 obtain⟨p,hp,hrd⟩:=HS.out.1.rd
 have HP:=hdd hp
 have c0:=HS.out.1.c0
 go_wp2_with fail
 refine(Z01 w0 _ br a len cap bs p 13 hrd (by omega) hlen (by have:=HU.out;omega)).mono ?_
 rintro e w2 ⟨v,hv0,hv1,rfl,hrd2,hg2,hV⟩
 have HFS:=hdd (show Z6x bs fns FB FL dq ⟨Z5 w br,vars,next,left⟩=Z3X bs fns FB FL dq v vars next lx (Z5 w2 br) by
  have hpw:Z5 w br=p:=by rw [← HP0.out,hrd.pos]
  rw [Z6x,hpw,hV,HLX.out,hrd2.pos])
 clear hV
 have HG2:=hdd (aI (HS.out.1.step (u':=u+2) (Zd.grown hg2) hrd2 (by have:=HP.out;omega) (by omega)) (HS.out.2.trans (Zf.of (Zd.grown hg2))))
 clear hrd2 hg2 hrd hp c0 HS
 have c2:=HG2.out.1.c2
 have hlv:=HG2.out.1.bnd.1
 go_upto_region 3 with fail
 by_cases h5:v<5
 ·have k5:decide (v<5)=true:=decide_eq_true h5
  by_cases h3:v<3
  ·have k3:decide (v<3)=true:=decide_eq_true h3
   by_cases hn:0<vars.length
   ·have kn:decide ((0:Int)<(vars.length:Int))=true:=decide_eq_true (by omega)
    have c0:=HG2.out.1.c0
    have HGD:=hdd (HG2.out.1.drew)
    have HO:=hdd (show ∀(u':Nat) (W:World),GSt w0 br bg a len cap bs fa fc fns u' va vc vars next lx W→u'≤u+302→Calls Tryz.prog 30 #[.pointer (some ⟨br,0,none⟩),.slice va vars.length vc] W fun e W'=>∃s,e=.returned (.string s)∧Hid (GSt w0 br bg a len cap bs fa fc fns (u'+1) va vc vars next lx W'∧s.size≤maxLen∧Zf br bg W W'∧ofF bs vars (Z5 W br)=s∧Z5 W' br=Z5 W br+1) from fun u' W hW hu'=>by
     obtain⟨p,hp,hrd⟩:=hW.rd
     refine(Z4u w0 W br a len cap bs p va vars.length vc vars hrd hW.strs (by omega) hlen (by have:=HU.out;omega)).mono ?_
     rintro e W' ⟨s,hs,rfl,hrd',hg',hFs⟩
     exact⟨s,rfl,hdd ⟨hW.step (Zd.grown hg') hrd' (by omega) (by omega),Z0Y hW.vlist s hs,Zf.of (Zd.grown hg'),by rw [hrd.pos,hrd'.pos];exact⟨hFs,rfl⟩⟩⟩)
    have HX:=hdd (show ∀(u':Nat) (W:World),GSt w0 br bg a len cap bs fa fc fns u' va vc vars next lx W→u'≤u+3→Calls Tryz.prog 57 #[.pointer (some ⟨bg,0,none⟩),.int .i64 3] W fun e W'=>∃(y:Z6) (ya:Option Addr) (yc:Nat),e=.returned (.agg #[.int .i64 y.op,.int .i64 y.n,.string y.name,.slice ya y.kids.length yc])∧Hid (GSt w0 br bg a len cap bs fa fc fns (u'+300) va vc vars next lx W'∧ZG 8 (fun k=>W.heap.size≤k) W' [.int .i64 y.op,.int .i64 y.n,.string y.name,.slice ya y.kids.length yc] y∧Zf br bg W W'∧Z0f bs fns vars 3 (Z5 W br)=(y,Z5 W' br)) from fun u' W hW hu'=>by
     refine(Z1j hlen 3 (by omega) u' W hW (by have:=HU.out;omega)).mono ?_
     rintro e W' ⟨cs,y,rfl,hy,hg,ht,hF⟩
     obtain⟨ya,yc,rfl⟩:=Zj hy.1
     exact⟨y,ya,yc,rfl,hdd ⟨hg,hy,ht,hF⟩⟩)
    go_upto_region 4 with fail
    go_region_held3 (fun W=>W.cell? ⟨bg,0,none⟩=some (.pointer (some ⟨br,0,none⟩))∧W.cell? ⟨bg,2,none⟩=some (.slice va vars.length vc)) (exact⟨GSt.c0 (by repeat (first|exact HGD.out|exact hs8.out.1|exact hx9.out.1|apply GSt.alloc)),GSt.c2 (by repeat (first|exact HGD.out|exact hs8.out.1|exact hx9.out.1|apply GSt.alloc))⟩) (first|(go_at_call 30;(first|refine(HO.out (u+2) _ HGD.out (by omega)).mono ?_|refine(HO.out (u+302) _ hx9.out.1 (by omega)).mono ?_|refine(HO.out (u+302) _ (hx9.out.1.alloc _) (by omega)).mono ?_);rintro e w8 ⟨s,rfl,hs8⟩)|(go_at_call 57;(first|refine(HX.out (u+2) _ HGD.out (by omega)).mono ?_|refine(HX.out (u+3) _ hs8.out.1 (by omega)).mono ?_);rintro e w9 ⟨y,ya,yc,rfl,hx9⟩))
    all_goals
     go_wp2
     go_ret
     have hsz:=HG2.out.2.size
     have hs8z:=hs8.out.2.2.1.size
     exact⟨_,_,[_],va,vc,vars,next,lx,rfl,by simp,(by rintro⟨⟩),((Z3g (Z0j (by omega:8≤12) hx9.out.2.1) 2 s (by decide) hs8.out.2.1).mono (Z0 1) (fun k _ h=>by have:=hx9.out.2.2.1.size;have hz:w2.heap.size≤w8.heap.size:=hs8z;have h:w8.heap.size≤k∨w9.heap.size≤k:=h;show w.heap.size≤k;omega)).deeper hd,((hx9.out.1.alloc _).alloc _).more (by omega),HVC.out,(Z3i (((HG2.out.2.trans ((Zf.drewN w2 1).trans hs8.out.2.2.1)).trans hx9.out.2.2.1).trans ((Zf.alloc _ _).trans (Zf.alloc _ _)))).1,(Z3i (va:=va) (vars:=vars) (((HG2.out.2.trans ((Zf.drewN w2 1).trans hs8.out.2.2.1)).trans hx9.out.2.2.1).trans ((Zf.alloc _ _).trans (Zf.alloc _ _)))).2,by
      have hq:Z5 w2.drew br=Z5 w2 br:=rfl
      have h1:=hs8.out.2.2.2
      rw [hq] at h1
      rw [Z0A hx9.out.1.lts.1,HFS.out,Z3X,if_pos ⟨h3,hn⟩,h1.1,← h1.2,hx9.out.2.2.2]⟩
   ·have kn:decide ((0:Int)<(vars.length:Int))=false:=decide_eq_false (by omega)
    have HE:=hdd (show Calls Tryz.prog 57 #[.pointer (some ⟨bg,0,none⟩),.int .i64 3] w2 _ from Z1j hlen 3 (by omega) (u+2) w2 HG2.out.1 (by have:=HU.out;omega))
    go_wp2_with (first|(go_at_call 57;refine HE.out.mono ?_;rintro e w3 ⟨cs,y,rfl,hy,hg,ht,hFe⟩;obtain⟨ya,yc,rfl⟩:=Zj hy.1)|(go_at_call 105;refine(Z6y hlen (u+2+300) (fun k=>w2.heap.size≤k) w3 ya yc y hg HVC.out (by have:=HU.out;omega) (fun k hk=>by have hk:w2.heap.size≤k:=hk;have:=HG2.out.1.lts;omega) (Z0j (by omega:8≤12) hy)).mono ?_;rintro e w4 ⟨s,b,c,va',vc',n',rfl,hst,hg4,hv4,hvn4,ht4,hn4,hF4⟩))
    all_goals
     go_ret
     have hsz:=HG2.out.2.size
     exact⟨_,_,[_],va',vc',vars++[s],n',lx,rfl,by simp,(by rintro⟨⟩),((Z3I hst).mono (Z0 1) (fun k _ h=>by have:=ht.size;have:=ht4.size;have h:(w2.heap.size≤k∨w3.heap.size≤k)∨w4.heap.size≤k:=h;show w.heap.size≤k;omega)).deeper hd,(hg4.alloc _).more (by omega),hv4,Z35.new ((hvn4.mono Z3 (fun k _ h=>by have:=ht.size;have h:w3.heap.size≤k:=h;show w.heap.size≤k;omega)).below Z3 ((bRf _ _).alloc (Nat.le_refl _) _)) (by have:=HW0.out;exact⟨this.1,this.2.1⟩),((HG2.out.2.trans ht).trans ht4).trans (Zf.alloc _ _),by
      rw [Zo hg4.lts.1,HFS.out,Z3X,if_neg (fun h=>by have:=h.2;omega),if_pos h5];simp only [ZcA,hFe,hF4,hn4]⟩
  ·have k3:decide (v<3)=false:=decide_eq_false h3
   have HE:=hdd (show Calls Tryz.prog 57 #[.pointer (some ⟨bg,0,none⟩),.int .i64 3] w2 _ from Z1j hlen 3 (by omega) (u+2) w2 HG2.out.1 (by have:=HU.out;omega))
   go_wp2_with (first|(go_at_call 57;refine HE.out.mono ?_;rintro e w3 ⟨cs,y,rfl,hy,hg,ht,hFe⟩;obtain⟨ya,yc,rfl⟩:=Zj hy.1)|(go_at_call 105;refine(Z6y hlen (u+2+300) (fun k=>w2.heap.size≤k) w3 ya yc y hg HVC.out (by have:=HU.out;omega) (fun k hk=>by have hk:w2.heap.size≤k:=hk;have:=HG2.out.1.lts;omega) (Z0j (by omega:8≤12) hy)).mono ?_;rintro e w4 ⟨s,b,c,va',vc',n',rfl,hst,hg4,hv4,hvn4,ht4,hn4,hF4⟩))
   all_goals
    go_ret
    have hsz:=HG2.out.2.size
    exact⟨_,_,[_],va',vc',vars++[s],n',lx,rfl,by simp,(by rintro⟨⟩),((Z3I hst).mono (Z0 1) (fun k _ h=>by have:=ht.size;have:=ht4.size;have h:(w2.heap.size≤k∨w3.heap.size≤k)∨w4.heap.size≤k:=h;show w.heap.size≤k;omega)).deeper hd,(hg4.alloc _).more (by omega),hv4,Z35.new ((hvn4.mono Z3 (fun k _ h=>by have:=ht.size;have h:w3.heap.size≤k:=h;show w.heap.size≤k;omega)).below Z3 ((bRf _ _).alloc (Nat.le_refl _) _)) (by have:=HW0.out;exact⟨this.1,this.2.1⟩),((HG2.out.2.trans ht).trans ht4).trans (Zf.alloc _ _),by
     rw [Zo hg4.lts.1,HFS.out,Z3X,if_neg (fun h=>by have:=h.1;omega),if_pos h5];simp only [ZcA,hFe,hF4,hn4]⟩
 ·have k5:decide (v<5)=false:=decide_eq_false h5
  have k3:decide (v<3)=false:=decide_eq_false (by omega)
  by_cases h7:v<7
  ·have k7:decide (v<7)=true:=decide_eq_true h7
   have HE:=hdd (show Calls Tryz.prog 57 #[.pointer (some ⟨bg,0,none⟩),.int .i64 3] w2 _ from Z1j hlen 3 (by omega) (u+2) w2 HG2.out.1 (by have:=HU.out;omega))
   go_wp2_with (go_at_call 57;refine HE.out.mono ?_;rintro e w3 ⟨cs,y,rfl,hy,hg,ht,hFe⟩;obtain⟨ya,yc,rfl⟩:=Zj hy.1)
   all_goals
    go_ret
    have hsz:=HG2.out.2.size
    exact⟨_,_,[_],va,vc,vars,next,lx,rfl,by simp,(by rintro⟨⟩),((Z3g (Z0j (by omega:8≤12) hy) 3 ⟨#[]⟩ (by decide) (Nat.zero_le _)).mono (Z0 1) (fun k _ h=>by have:=ht.size;rcases h with h|h<;>omega)).deeper hd,((hg.alloc _).alloc _).more (by omega),HVC.out,(Z3i ((HG2.out.2.trans ht).trans ((Zf.alloc _ _).trans (Zf.alloc _ _)))).1,(Z3i (va:=va) (vars:=vars) ((HG2.out.2.trans ht).trans ((Zf.alloc _ _).trans (Zf.alloc _ _)))).2,by rw [Z0A hg.lts.1,HFS.out,Z3X,if_neg (fun h=>by have:=h.1;omega),if_neg (by omega),if_pos (.inl h7),hFe]⟩
  ·have k7:decide (v<7)=false:=decide_eq_false h7
   by_cases h2:dq<2
   ·have k2:decide (dq<2)=true:=decide_eq_true h2
    have HE:=hdd (show Calls Tryz.prog 57 #[.pointer (some ⟨bg,0,none⟩),.int .i64 3] w2 _ from Z1j hlen 3 (by omega) (u+2) w2 HG2.out.1 (by have:=HU.out;omega))
    go_wp2_with (go_at_call 57;refine HE.out.mono ?_;rintro e w3 ⟨cs,y,rfl,hy,hg,ht,hFe⟩;obtain⟨ya,yc,rfl⟩:=Zj hy.1)
    all_goals
     go_ret
     have hsz:=HG2.out.2.size
     exact⟨_,_,[_],va,vc,vars,next,lx,rfl,by simp,(by rintro⟨⟩),((Z3g (Z0j (by omega:8≤12) hy) 3 ⟨#[]⟩ (by decide) (Nat.zero_le _)).mono (Z0 1) (fun k _ h=>by have:=ht.size;rcases h with h|h<;>omega)).deeper hd,((hg.alloc _).alloc _).more (by omega),HVC.out,(Z3i ((HG2.out.2.trans ht).trans ((Zf.alloc _ _).trans (Zf.alloc _ _)))).1,(Z3i (va:=va) (vars:=vars) ((HG2.out.2.trans ht).trans ((Zf.alloc _ _).trans (Zf.alloc _ _)))).2,by rw [Z0A hg.lts.1,HFS.out,Z3X,if_neg (fun h=>by have:=h.1;omega),if_neg (by omega),if_pos (.inr h2),hFe]⟩
   ·have k2:decide (dq<2)=false:=decide_eq_false h2
    by_cases e7:v=7
    ·subst e7
     go_wp2_with (first|(go_at_call 106;refine(Z7x hlen (u+2) w2 HG2.out.1 (by have:=HU.out;omega)).mono ?_;rintro e w3 ⟨cs,y,rfl,hy,hg,ht,hFe⟩;obtain⟨ya,yc,rfl⟩:=Zj hy.1)|(go_at_call 57;refine(Z1j hlen 2 (by omega) (u+2+310) w3 hg (by have:=HU.out;omega)).mono ?_;rintro e w4 ⟨cs,z,rfl,hz,hg4,ht4,hFz⟩;obtain⟨za,zc,rfl⟩:=Zj hz.1))
     all_goals
      go_ret
      have hsz:=HG2.out.2.size
      have hlt:=HG2.out.1.lts
      have hy4:=(Z1 9).turned (T:=fun k=>k=br∨k=bg∨w3.heap.size≤k) ht4 (fun k hk h1 h2=>by have h1:w2.heap.size≤k:=h1;omega) hy
      have hz4:=(Z1 8).mono (S':=fun k=>w2.heap.size≤k) (fun k _ h=>by have:=ht.size;have h:w3.heap.size≤k:=h;show w2.heap.size≤k;omega) hz
      exact⟨_,_,[_],va,vc,vars,next,lx,rfl,by simp,(by rintro⟨⟩),((Zbx (Z0j (by omega:9≤12) hy4) (Z0j (by omega:8≤12) hz4) 4 ⟨#[]⟩ (by decide) (Nat.zero_le _)).mono (Z0 1) (fun k _ h=>by have:=ht.size;have:=ht4.size;rcases h with h|h<;>omega)).deeper hd,((hg4.alloc _).alloc _).more (by omega),HVC.out,(Z3i (((HG2.out.2.trans ht).trans ht4).trans ((Zf.alloc _ _).trans (Zf.alloc _ _)))).1,(Z3i (va:=va) (vars:=vars) (((HG2.out.2.trans ht).trans ht4).trans ((Zf.alloc _ _).trans (Zf.alloc _ _)))).2,by rw [Z0A hg4.lts.1,HFS.out,Z3X,if_neg (fun h=>by have:=h.1;omega),if_neg (by omega),if_neg (by rintro(h|h)<;>omega),if_pos rfl,hFe,hFz]⟩
    ·have j7:(v==7)=false:=by simpa using e7
     by_cases e8:v=8
     ·subst e8
      go_wp2_with (go_at_call 106;refine(Z7x hlen (u+2) w2 HG2.out.1 (by have:=HU.out;omega)).mono ?_;rintro e w3 ⟨cs,y,rfl,hy,hg,ht,hFe⟩;obtain⟨ya,yc,rfl⟩:=Zj hy.1)
      all_goals
       go_ret
       have hsz:=HG2.out.2.size
       have hk:=Z47 (Zb3 hy) (nm:=⟨#[]⟩) (c:=1) (Nat.zero_le _) (show [y].length≤100 by simp) 12 (by decide)
       have hl:=Z3g (Z0j (by omega:10≤12) hk) 3 ⟨#[]⟩ (by decide) (Nat.zero_le _)
       rw [World.size_alloc] at hl
       exact⟨_,_,[_],va,vc,vars,next,lx,rfl,by simp,(by rintro⟨⟩),(hl.mono (Z0 1) (fun k _ h=>by have:=ht.size;have h:(w2.heap.size≤k∨w3.heap.size≤k)∨w3.heap.size+1≤k:=h;show w.heap.size≤k;omega)).deeper hd,(((hg.alloc _).alloc _).alloc _).more (by omega),HVC.out,(Z3i ((HG2.out.2.trans ht).trans ((Zf.alloc _ _).trans ((Zf.alloc _ _).trans (Zf.alloc _ _))))).1,(Z3i (va:=va) (vars:=vars) ((HG2.out.2.trans ht).trans ((Zf.alloc _ _).trans ((Zf.alloc _ _).trans (Zf.alloc _ _))))).2,by rw [Z7o hg.lts.1,HFS.out,Z3X,if_neg (fun h=>by have:=h.1;omega),if_neg (by omega),if_neg (by rintro(h|h)<;>omega),if_neg (by omega),if_pos rfl,hFe]⟩
     ·have j8:(v==8)=false:=by simpa using e8
      by_cases h11:v<11
      ·have k11:decide (v<11)=true:=decide_eq_true h11
       obtain⟨d',rfl,HBC⟩:=HBB.out (by omega)
       have hwd:wrap64 (dq-1)=dq-1:=IntWalk.wrap64_in _ (by omega)
       go_wp2_with fail
       refine(Z1j hlen 3 (by omega) (u+2) w2 HG2.out.1 (by have:=HU.out;omega)).mono ?_
       rintro e w3 ⟨cs,y,rfl,hy,hg,ht,hFe⟩
       obtain⟨ya,yc,rfl⟩:=Zj hy.1
       have HG3:=hdd (aI hg (aI hy (HG2.out.2.trans ht)))
       have H32:=hdd ht.size
       have HFE:=hdd hFe
       clear hg hy ht hFe
       go_wp2_with fail
       refine(HBC (u+2+300) va vc vars next lx _ (HG3.out.1.alloc _) HVC.out (by have:=HU.out;omega)).mono ?_
       rintro e w4 ⟨ba,bc,xs,next',left',rfl,hl,hgk,hg4,ht4,hFb⟩
       rw [Zo HG3.out.1.lts.1] at hFb
       have HFB1:=hdd hFb
       have HP5:=hdd (show Z5 (w4.alloc (.cells #[.int .i64 5,.string ⟨#[]⟩,.slice (some ⟨w3.heap.size,0,none⟩) 1 1,.slice ba xs.length bc,.slice none 0 0] 48)) br=Z5 w4 br from Zo hg4.lts.1)
       clear hFb
       have HI:=hdd (Zap.start (w:=w) (y:=y) (ab:=w3.heap.size) (ba:=ba) (bc:=bc) (d:=d') (xs:=xs) hg4 (by have:=HW0.out;exact⟨this.1,this.2.1⟩) (HG3.out.2.2.trans ((Zf.alloc _ _).trans ht4))
        (ht4.list (Z1 12) (((Z1W (Z0j (by omega:8≤12) HG3.out.2.1)).here (Z1 12)).mono (Z1 12) (fun k _ h=>by have:=H32.out;have:=HG2.out.2.size;have h:(w2.heap.size≤k∨w3.heap.size≤k):=h.1;show w.heap.size≤k;omega)) (fun k hk=>by have:=HW0.out;have hk:w.heap.size≤k:=hk;omega))
        ((hgk.list (Z0 d')).mono (Z0 d') (fun k _ h=>by have:=HG3.out.2.2.size;have hs:(w3.alloc (.cells #[.int .i64 y.op,.int .i64 y.n,.string y.name,.slice ya y.kids.length yc] 64)).heap.size=w3.heap.size+1:=World.size_alloc _ _;have h:(w3.alloc (.cells #[.int .i64 y.op,.int .i64 y.n,.string y.name,.slice ya y.kids.length yc] 64)).heap.size≤k∨(w3.alloc (.cells #[.int .i64 y.op,.int .i64 y.n,.string y.name,.slice ya y.kids.length yc] 64)).heap.size≤k:=h;show w.heap.size≤k;omega)) hl HW0.out.2.2)
       clear hl hgk hg4 ht4
       go_upto_region 15 with fail
       obtain⟨sb,hsb⟩:∃n,n=w4.heap.size:=⟨_,rfl⟩
       generalize w4.alloc (.cells #[.int .i64 5,.string ⟨#[]⟩,.slice (some ⟨w3.heap.size,0,none⟩) 1 1,.slice ba xs.length bc,.slice none 0 0] 48)=w5 at HI HP5 ⊢
       rw [← hsb] at HI ⊢
       clear hsb
       obtain⟨p,hp,hrd⟩:=HI.out.g.rd
       have HP2:=hdd hp
       have c0:=HI.out.g.c0
       go_wp2_with fail
       refine(Z01 w0 _ br a len cap bs p 2 hrd (by omega) hlen (by have:=HP2.out;have:=HU.out;omega)).mono ?_
       rintro e w6 ⟨x,hx0,hx1,rfl,hrd6,hg6,hV6⟩
       have HV6:=hdd (show ZP bs 2 (Z5 w4 br)=x∧Z5 w6 br=Z5 w4 br+1 by rw [← HP5.out,hrd.pos,hrd6.pos];exact⟨hV6,rfl⟩)
       clear hV6
       have HI6:=hdd (HI.out.step2 (Zf.of (Zd.grown hg6)) (HI.out.g.step (u':=u+2+300+cB+1) (Zd.grown hg6) hrd6 (by have:=HP2.out;omega) (by omega)))
       clear hrd hp hrd6 hg6 c0 HI
       by_cases ex:x=0
       ·subst ex
        go_wp2_with fail
        refine(HBC (u+2+300+cB+1) va vc vars next' left' _ HI6.out.g HVC.out (by have:=HU.out;omega)).mono ?_
        rintro e w7 ⟨ea,ec,ys,next2,left2,rfl,hl,hgk,hg7,ht7,hF7⟩
        have HF7:=hdd hF7
        clear hF7
        have HI7:=hdd (HI6.out.step2 ht7 hg7)
        have HLE:=hdd (show Za 5 (Zv d') (fun k=>w.heap.size≤k∧k≠sb) w7 ea ys∧ys.length≤8 from⟨(hgk.list (Z0 d')).mono (Z0 d') (fun k _ h=>by
         have hs:=(gsI HI6.out.row).1
         have hts:=HI6.out.t.size
         have h:w6.heap.size≤k∨w6.heap.size≤k:=h
         exact⟨by omega,by omega⟩),hl⟩)
        clear hl hgk hg7 ht7 HI6
        have r4:=coR _ _ 4 _ _ _ HI7.out.row
        have z4:=frR _ _ 4 _ _ HI7.out.row
        simp only [ga0,ga1,ga2] at r4
        go_upto_region 17 with fail
        have HI8:=hdd (HI7.out.put (ec':=ec) HLE.out.1 HLE.out.2)
        have HP8:=hdd (show Z5 (w7.setCell ⟨sb,4,none⟩ (.slice ea ys.length ec)) br=Z5 w7 br from Z0b (by have:=HI7.out.lt;omega))
        clear r4 z4
        generalize w7.setCell ⟨sb,4,none⟩ (.slice ea ys.length ec)=w8 at HI8 HP8 ⊢
        have r0:=coR _ _ 0 _ _ _ HI8.out.row
        have r1:=coR _ _ 1 _ _ _ HI8.out.row
        have r2:=coR _ _ 2 _ _ _ HI8.out.row
        have r3:=coR _ _ 3 _ _ _ HI8.out.row
        have r4:=coR _ _ 4 _ _ _ HI8.out.row
        simp only [ga0,ga1,ga2] at r0 r1 r2 r3 r4
        go_wp2
        go_ret
        exact⟨_,_,[_],va,vc,vars,next2,left2,rfl,by simp,(by rintro⟨⟩),(Z3I HI8.out.fin).mono (Z0 (d'+1)) (fun k _ h=>by have:=HI8.out.t.size;have h:w.heap.size≤k∨w8.heap.size≤k:=h;show w.heap.size≤k;omega),(HI8.out.g.alloc _).more (by omega),HVC.out,(Z3i (HI8.out.t.trans (Zf.alloc _ _))).1,(Z3i (va:=va) (vars:=vars) (HI8.out.t.trans (Zf.alloc _ _))).2,by rw [Zo HI8.out.g.lts.1,HP8.out,HFS.out,Z3X,if_neg (fun h=>by have:=h.1;omega),if_neg (by omega),if_neg (by rintro(h|h)<;>omega),if_neg (by omega),if_neg (by omega),if_pos h11];simp only [HFE.out,HFB1.out,HV6.out.1,if_pos];rw [← HV6.out.2,HF7.out]⟩
       ·have jx:(x==0)=false:=by simpa using ex
        have r0:=coR _ _ 0 _ _ _ HI6.out.row
        have r1:=coR _ _ 1 _ _ _ HI6.out.row
        have r2:=coR _ _ 2 _ _ _ HI6.out.row
        have r3:=coR _ _ 3 _ _ _ HI6.out.row
        have r4:=coR _ _ 4 _ _ _ HI6.out.row
        simp only [ga0,ga1,ga2] at r0 r1 r2 r3 r4
        go_wp2
        go_ret
        exact⟨_,_,[_],va,vc,vars,next',left',rfl,by simp,(by rintro⟨⟩),(Z3I HI6.out.fin).mono (Z0 (d'+1)) (fun k _ h=>by have:=HI6.out.t.size;have h:w.heap.size≤k∨w6.heap.size≤k:=h;show w.heap.size≤k;omega),(HI6.out.g.alloc _).more (by omega),HVC.out,(Z3i (HI6.out.t.trans (Zf.alloc _ _))).1,(Z3i (va:=va) (vars:=vars) (HI6.out.t.trans (Zf.alloc _ _))).2,by rw [Zo HI6.out.g.lts.1,HFS.out,Z3X,if_neg (fun h=>by have:=h.1;omega),if_neg (by omega),if_neg (by rintro(h|h)<;>omega),if_neg (by omega),if_neg (by omega),if_pos h11];simp only [HFE.out,HFB1.out,HV6.out.1];rw [if_neg ex,← HV6.out.2]⟩
      ·have k11:decide (v<11)=false:=decide_eq_false h11
       by_cases e11:v=11
       ·subst e11
        obtain⟨p,hp,hrd⟩:=HG2.out.1.rd
        have HP2:=hdd hp
        have c0:=HG2.out.1.c0
        go_wp2_with fail
        refine(Z01 w0 _ br a len cap bs p 3 hrd (by omega) hlen (by have:=HP2.out;have:=HU.out;omega)).mono ?_
        rintro e w3 ⟨x,hx0,hx1,rfl,hrd3,hg3,hV3⟩
        have HV3:=hdd (show ZP bs 3 (Z5 w2 br)=x∧Z5 w3 br=Z5 w2 br+1 by rw [hrd.pos,hrd3.pos];exact⟨hV3,rfl⟩)
        clear hV3
        have HG3:=hdd (aI (HG2.out.1.step (u':=u+3) (Zd.grown hg3) hrd3 (by have:=HP2.out;omega) (by omega)) (HG2.out.2.trans (Zf.of (Zd.grown hg3))))
        clear hrd hp hrd3 hg3 c0 c2
        by_cases ex:x=0
        ·subst ex
         go_wp2_with (go_at_call 57;refine(Z1j hlen 2 (by omega) (u+3) w3 HG3.out.1 (by have:=HU.out;omega)).mono ?_;rintro e w4 ⟨cs,y,rfl,hy,hg,ht,hFe⟩;obtain⟨ya,yc,rfl⟩:=Zj hy.1)
         all_goals
          go_ret
          have hsz:=HG3.out.2.size
          exact⟨_,_,[_],va,vc,vars,next,lx,rfl,by simp,(by rintro⟨⟩),((Z3g (Z0j (by omega:8≤12) hy) 7 ⟨#[]⟩ (by decide) (Nat.zero_le _)).mono (Z0 1) (fun k _ h=>by have:=ht.size;rcases h with h|h<;>omega)).deeper hd,((hg.alloc _).alloc _).more (by omega),HVC.out,(Z3i ((HG3.out.2.trans ht).trans ((Zf.alloc _ _).trans (Zf.alloc _ _)))).1,(Z3i (va:=va) (vars:=vars) ((HG3.out.2.trans ht).trans ((Zf.alloc _ _).trans (Zf.alloc _ _)))).2,by rw [Z0A hg.lts.1,HFS.out,Z3X,if_neg (fun h=>by have:=h.1;omega),if_neg (by omega),if_neg (by rintro(h|h)<;>omega),if_neg (by omega),if_neg (by omega),if_neg (by omega),if_pos rfl,if_pos HV3.out.1,← HV3.out.2,hFe]⟩
        ·have jx:(x==0)=false:=by simpa using ex
         have HGL:=hdd HG3.out.1
         have HTL:=HG3.out.2
         go_wp2_with (go_at_call 107;refine(HL.out (by omega) (u+3) va vc vars next lx _ (HGL.out) HVC.out (by have:=HU.out;omega)).mono ?_;rintro e w4 ⟨b',c',xs,va',vc',vars',next',left',rfl,hl,hn,hx,hg,hv,hvk,ht,hFl⟩)
         all_goals
          go_ret
          have hsz:=HTL.size
          exact⟨b',c',xs,va',vc',vars',next',left',rfl,hl,hn,hx.mono (Z0 d) (fun k _ h=>Nat.le_trans hsz h),hg.more (by omega),hv,(Z35.same HTL).trans hsz hvk,HTL.trans ht,by rw [HFS.out,Z3X,if_neg (fun h=>by have:=h.1;omega),if_neg (by omega),if_neg (by rintro(h|h)<;>omega),if_neg (by omega),if_neg (by omega),if_neg (by omega),if_pos rfl,if_neg (by rw [HV3.out.1];exact ex),← HV3.out.2,hFl]⟩
       ·have j11:(v==11)=false:=by simpa using e11
        have HGL:=hdd (HG2.out.1.more (show u+2≤u+3 by omega))
        have HTL:=HG2.out.2
        go_wp2_with (go_at_call 107;refine(HL.out (by omega) (u+3) va vc vars next lx _ (HGL.out) HVC.out (by have:=HU.out;omega)).mono ?_;rintro e w4 ⟨b',c',xs,va',vc',vars',next',left',rfl,hl,hn,hx,hg,hv,hvk,ht,hFl⟩)
        all_goals
         go_ret
         have hsz:=HTL.size
         exact⟨b',c',xs,va',vc',vars',next',left',rfl,hl,hn,hx.mono (Z0 d) (fun k _ h=>Nat.le_trans hsz h),hg.more (by omega),hv,(Z35.same HTL).trans hsz hvk,HTL.trans ht,by rw [HFS.out,Z3X,if_neg (fun h=>by have:=h.1;omega),if_neg (by omega),if_neg (by rintro(h|h)<;>omega),if_neg (by omega),if_neg (by omega),if_neg (by omega),if_neg (by omega),hFl]⟩
end
end Go.Proofs.YtloooebabieeeaaGreatDoor
