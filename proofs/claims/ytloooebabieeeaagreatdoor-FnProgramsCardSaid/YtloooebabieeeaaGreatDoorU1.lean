/-
  The reference's SamePrograms: it answers whether two programs are one. (printed by mku1.py)
-/
import Derived.Test.YtloooebabieeeaaGreatDoorCp
import Derived.Test.YtloooebabieeeaaGreatDoorCq
import Derived.Test.YtloooebabieeeaaGreatDoorDr5
import Derived.Test.YtloooebabieeeaaGreatDoorHl
set_option maxRecDepth 100000
set_option maxHeartbeats 16000000
set_option linter.unusedVariables false
namespace Go.Proofs.YtloooebabieeeaaGreatDoor
open Go.RowKit
theorem Z9M {x y:FnD} (h1:x.name=y.name) (h2:x.params=y.params) (h3:x.body=y.body):x=y:=by
 cases x;cases y
 simp only at h1 h2 h3
 rw [h1,h2,h3]
theorem Z7Z (a a':Option Addr) (c c':Nat) (xs ys:List ByteArray) (w:World) (hx:Za 1 Z1V (fun _=>True) w a xs) (hy:Za 1 Z1V (fun _=>True) w a' ys) (hlx:xs.length≤100) (hly:ys.length≤100) :
  Calls Tryz.prog 20 #[.slice a xs.length c,.slice a' ys.length c'] w fun e w'=>e=.returned (.bool (eqB xs ys))∧Below w.heap.size w w':=by
 obtain⟨R,hR⟩:∃R,R=eqB xs ys:=⟨_,rfl⟩
 rw [← hR]
 have HR0:=hdd hR
 have HK:=hdd (aI hx hy)
 clear hR hx hy
 go_enter Tryz.func20,Tryz.ntmps20
 by_cases h4:xs.length=ys.length
 rotate_left
 ·have HF:=hdd (show R=false by rw [HR0.out];exact Zn fun e=>h4 (by rw [e]))
  have i7:((xs.length:Int) != (ys.length:Int))=true:=by simpa using fun h:(xs.length:Int)=(ys.length:Int)=>h4 (by omega)
  have i8:((xs.length:Int)==(ys.length:Int))=false:=by simpa using fun h:(xs.length:Int)=(ys.length:Int)=>h4 (by omega)
  clear h4
  go_wp2
  go_ret
  exact⟨by rw [HF.out];rfl,bRf _ _⟩
 have i7:((xs.length:Int) != (ys.length:Int))=false:=by rw [h4];simp
 have i8:((xs.length:Int)==(ys.length:Int))=true:=by rw [h4];simp
 have HEQ:=hdd h4
 clear h4
 go_wp2_with fail
 go_loopg [5] xs.length (fun G i wr=>∃(j:Nat),j+G=xs.length∧i=.int .i64 j∧Hid (Z3B xs ys j∧Below w.heap.size w wr))
 case atStart=>exact⟨0,by omega,rfl,hdd ⟨Z17 _ _,bRf _ _⟩⟩
 case round=>
  obtain⟨j,hj,rfl,HG⟩:=hrel
  clear i7 i8
  by_cases hlt:j<xs.length
  ·have hlt':j<ys.length:=by have:=HEQ.out;omega
   obtain⟨b1,o1,x,rfl,hx,hxs,c0⟩:=Z1B (HK.out.1.below Z3 HG.out.2) hlt
   obtain⟨b2,o2,y,rfl,hy,hys,d0⟩:=Z1B (HK.out.2.below Z3 HG.out.2) hlt'
   have hji:(j:Int)<(xs.length:Int):=by omega
   have hji':(j:Int)<(ys.length:Int):=by omega
   have HXY:=hdd (aI hx hy)
   have HD:=hdd (fun n=>below_drewN HG.out.2 n)
   clear hx hy hlt' hxs hys
   by_cases hv:x=y
   ·have i5:(x.toList==y.toList)=true:=by rw [hv];simp
    have i6:(x.toList != y.toList)=false:=by rw [bne,i5];rfl
    have HN:=hdd (Z16 HG.out.1 HXY.out.1 HXY.out.2 (Z0s hv))
    clear hv
    go_wp2_with fail
    go_quiet (fail)
    go_wp2
    go_roundg (gk-1)
    case measure=>omega
    case rel=>exact⟨j+1,by omega,by go_num,hdd ⟨HN.out,HD.out _⟩⟩
   ·have i5:(x.toList==y.toList)=false:=Z1m hv
    have i6:(x.toList != y.toList)=true:=by rw [bne,i5];rfl
    have HF:=hdd (show R=false from by rw [HR0.out];exact Zn (Z0h HXY.out.1 HXY.out.2 (Zn hv)))
    clear hv
    go_wp2_with fail
    go_quiet (fail)
    go_wp2
    go_ret
    exact⟨by rw [HF.out];rfl,HD.out _⟩
  ·obtain rfl:j=xs.length:=by omega
   have HF:=hdd (show R=true from by rw [HR0.out];exact Z0s (Z1G HEQ.out HG.out.1))
   have hji:¬(xs.length:Int)<(xs.length:Int):=by omega
   go_wp2
   go_ret
   exact⟨by rw [HF.out];rfl,HG.out.2⟩
def Zc9 (m:Nat):Prop:=∀(a a':Option Addr) (c c':Nat) (xs ys:List Zb) (w:World),Za 5 (Zv m) (fun _=>True) w a xs→Za 5 (Zv m) (fun _=>True) w a' ys→xs.length≤100→ys.length≤100→
 Calls Tryz.prog 21 #[.slice a xs.length c,.slice a' ys.length c'] w fun e w'=>e=.returned (.bool (eqB xs ys))∧Below w.heap.size w w'
theorem Z36 (m:Nat) (ih:∀d,d+1=m→Zc9 d):Zc9 m:=by
 intro a a' c c' xs ys w hx hy hlx hly
 obtain⟨R,hR⟩:∃R,R=eqB xs ys:=⟨_,rfl⟩
 rw [← hR]
 have HR0:=hdd hR
 have HK:=hdd (aI hx hy)
 have HIH:=hdd ih
 clear hR hx hy ih
 go_enter Tryz.func21,Tryz.ntmps21
 by_cases h4:xs.length=ys.length
 rotate_left
 ·have HF:=hdd (show R=false by rw [HR0.out];exact Zn fun e=>h4 (by rw [e]))
  have i7:((xs.length:Int) != (ys.length:Int))=true:=by simpa using fun h:(xs.length:Int)=(ys.length:Int)=>h4 (by omega)
  have i8:((xs.length:Int)==(ys.length:Int))=false:=by simpa using fun h:(xs.length:Int)=(ys.length:Int)=>h4 (by omega)
  clear h4
  go_wp2
  go_ret
  exact⟨by rw [HF.out];rfl,bRf _ _⟩
 have i7:((xs.length:Int) != (ys.length:Int))=false:=by rw [h4];simp
 have i8:((xs.length:Int)==(ys.length:Int))=true:=by rw [h4];simp
 have HEL:=hdd h4
 clear h4
 go_wp2_with fail
 go_loopg [5] xs.length (fun G i wr=>∃(j:Nat),j+G=xs.length∧i=.int .i64 j∧Hid (Z3B xs ys j∧Below w.heap.size w wr))
 case atStart=>exact⟨0,by omega,rfl,hdd ⟨Z17 _ _,bRf _ _⟩⟩
 case round=>
  obtain⟨j,hj,rfl,HG⟩:=hrel
  clear i7 i8
  obtain⟨wo,hwo⟩:∃wo,wo=wr:=⟨_,rfl⟩
  rw [← hwo] at HG ⊢
  clear hwo wr
  by_cases hlt:j<xs.length
  rotate_left
  ·obtain rfl:j=xs.length:=by omega
   have HF:=hdd (show R=true from by rw [HR0.out];exact Z0s (Z1G HEL.out HG.out.1))
   have hji:¬(xs.length:Int)<(xs.length:Int):=by omega
   go_wp2
   go_ret
   exact⟨by rw [HF.out];rfl,HG.out.2⟩
  have hlt':j<ys.length:=by have:=HEL.out;omega
  obtain⟨b1,o1,x,aa,ac,ba,bc,ea,ec,rfl,hx,hP,c0,c1,c2,c3,c4⟩:=Z1x (HK.out.1.below (Z0 m) HG.out.2) hlt
  obtain⟨b2,o2,y,aa',ac',ba',bc',ea',ec',rfl,hy,hP',d0,d1,d2,d3,d4⟩:=Z1x (HK.out.2.below (Z0 m) HG.out.2) hlt'
  have hji:(j:Int)<(xs.length:Int):=by omega
  have hji':(j:Int)<(ys.length:Int):=by omega
  have HXY:=hdd (aI hx hy)
  have HD:=hdd (fun n=>below_drewN HG.out.2 n)
  have HC:=hdd (aI c0 (aI c1 (aI c2 (aI c3 c4))))
  have HE:=hdd (aI d0 (aI d1 (aI d2 (aI d3 d4))))
  clear hx hy hlt'
  by_cases h1:x.op=y.op
  rotate_left
  ·have HF:=hdd (show R=false from by rw [HR0.out];exact Zn (Z0h HXY.out.1 HXY.out.2 (Zn fun e=>h1 (by rw [e]))))
   have i1:(x.op != y.op)=true:=by simpa using h1
   have i2:(x.op==y.op)=false:=by simpa using h1
   clear h1 hP hP'
   go_wp2_with fail
   go_quiet (fail)
   go_wp2
   go_ret
   exact⟨by rw [HF.out];rfl,HD.out _⟩
  have i1:(x.op != y.op)=false:=by simpa using h1
  have i2:(x.op==y.op)=true:=by simpa using h1
  by_cases h2:x.name=y.name
  rotate_left
  ·have HF:=hdd (show R=false from by rw [HR0.out];exact Zn (Z0h HXY.out.1 HXY.out.2 (Zn fun e=>h2 (by rw [e]))))
   have i3:(x.name.toList==y.name.toList)=false:=Z1m h2
   have i4:(x.name.toList != y.name.toList)=true:=by rw [bne,i3];rfl
   clear h1 h2 hP hP'
   go_wp2_with fail
   go_quiet (fail)
   go_wp2
   go_ret
   exact⟨by rw [HF.out];rfl,HD.out _⟩
  have i3:(x.name.toList==y.name.toList)=true:=by rw [h2];simp
  have i4:(x.name.toList != y.name.toList)=false:=by rw [bne,i3];rfl
  by_cases h3:x.args.length=y.args.length
  rotate_left
  ·have HF:=hdd (show R=false from by rw [HR0.out];exact Zn (Z0h HXY.out.1 HXY.out.2 (Zn fun e=>h3 (by rw [e]))))
   have i5:((x.args.length:Int) != (y.args.length:Int))=true:=by simpa using fun h:(x.args.length:Int)=(y.args.length:Int)=>h3 (by omega)
   have i6:((x.args.length:Int)==(y.args.length:Int))=false:=by simpa using fun h:(x.args.length:Int)=(y.args.length:Int)=>h3 (by omega)
   clear h1 h2 h3 hP hP'
   go_wp2_with fail
   go_quiet (fail)
   go_wp2
   go_ret
   exact⟨by rw [HF.out];rfl,HD.out _⟩
  have i5:((x.args.length:Int) != (y.args.length:Int))=false:=by rw [h3];simp
  have i6:((x.args.length:Int)==(y.args.length:Int))=true:=by rw [h3];simp
  have HEQ:=hdd (aI h1 (aI h2 h3))
  clear h1 h2 h3
  cases m with
  | zero=>exact hP.elim
  | succ d=>
  obtain⟨aa0,ac0,ba0,bc0,ea0,ec0,hce,⟨-,-,-,hl1,hl2,hl3⟩,hA,hB,hE⟩:=hP
  obtain⟨rfl,rfl,rfl,rfl,rfl,rfl⟩:aa=aa0∧ac=ac0∧ba=ba0∧bc=bc0∧ea=ea0∧ec=ec0:=by simp at hce;exact⟨hce.1.1,hce.1.2,hce.2.1.1,hce.2.1.2,hce.2.2.1,hce.2.2.2⟩
  obtain⟨aa1,ac1,ba1,bc1,ea1,ec1,hce',⟨-,-,-,hl1',hl2',hl3'⟩,hA',hB',hE'⟩:=hP'
  obtain⟨rfl,rfl,rfl,rfl,rfl,rfl⟩:aa'=aa1∧ac'=ac1∧ba'=ba1∧bc'=bc1∧ea'=ea1∧ec'=ec1:=by simp at hce';exact⟨hce'.1.1,hce'.1.2,hce'.2.1.1,hce'.2.1.2,hce'.2.2.1,hce'.2.2.2⟩
  have HARG:=hdd (aI (Z4S hA) (Z4S hA'))
  have HIB:=hdd (fun (W:World) (hW:Below wo.heap.size wo W)=>HIH.out d rfl ba ba' bc bc' x.body y.body W (hB.below (Z0 d) hW) (hB'.below (Z0 d) hW) hl2 hl2')
  have HIE:=hdd (fun (W:World) (hW:Below wo.heap.size wo W)=>HIH.out d rfl ea ea' ec ec' x.els y.els W (hE.below (Z0 d) hW) (hE'.below (Z0 d) hW) hl3 hl3')
  have HAL:=hdd HG.out.1
  clear hce hce' hA hA' hB hB' hE hE' hl2 hl2' hl3 hl3'
  go_wp2_with fail
  go_quiet (fail)
  have HDN:=hdd (below_drewN (bRf wo.heap.size wo) nq)
  clear c0 c1 c2 c3 c4 d0 d1 d2 d3 d4 i1 i2 i3 i4 i5 i6
  generalize wo.drewN nq=wn at HDN ⊢
  go_wp2_with fail
  go_loopg [6] x.args.length (fun G i wr=>∃(k:Nat),k+G=x.args.length∧i=.int .i64 k∧Hid (Z3B x.args y.args k∧Below wo.heap.size wo wr))
  case atStart=>exact⟨0,by omega,rfl,hdd ⟨Z17 _ _,HDN.out⟩⟩
  case round=>
   obtain⟨k,hk,rfl,HG2⟩:=hrel
   have c2:=clT HG2.out.2 HC.out.2.2.1
   have c3:=clT HG2.out.2 HC.out.2.2.2.1
   have c4:=clT HG2.out.2 HC.out.2.2.2.2
   have d2:=clT HG2.out.2 HE.out.2.2.1
   have d3:=clT HG2.out.2 HE.out.2.2.2.1
   have d4:=clT HG2.out.2 HE.out.2.2.2.2
   by_cases hlt2:k<x.args.length
   ·have hlt2':k<y.args.length:=by have:=HEQ.out.2.2;omega
    obtain⟨g1,p1,u,ka,kc,rfl,hu,hUR,e0,e1,e2,e3⟩:=Z8D (HARG.out.1.later (Zg 12) HG2.out.2) hlt2
    obtain⟨g2,p2,v,ka',kc',rfl,hv,hVR,f0,f1,f2,f3⟩:=Z8D (HARG.out.2.later (Zg 12) HG2.out.2) hlt2'
    have hki:(k:Int)<(x.args.length:Int):=by omega
    have hki':(k:Int)<(y.args.length:Int):=by omega
    have HUV:=hdd (aI hu hv)
    have HSE:=hdd (show ∀W,Below wr.heap.size wr W→_ from fun W hW=>Z9e 12 _ _ u v W (Zg 12 _ _ _ _ hW hUR) (Zg 12 _ _ _ _ hW hVR))
    have HDR:=hdd (bRf wr.heap.size wr).drew
    clear hu hv hUR hVR hlt2'
    go_wp2_with fail
    go_still_tail 16,(by kernel_rfl)
    change wpList _ _ _ _ _ wr.drew
    generalize wr.drew=wd at HDR ⊢
    go_wp2_with fail
    refine(HSE.out _ HDR.out).mono ?_
    clear c2 c3 c4 d2 d3 d4 e0 e1 e2 e3 f0 f1 f2 f3
    cases hq:eqB u v with
    | true=>
     rintro e w5 ⟨rfl,hb5⟩
     have HN:=hdd (show Z3B x.args y.args (k+1)∧Below wo.heap.size wo w5 from⟨Z16 HG2.out.1 HUV.out.1 HUV.out.2 hq,HG2.out.2.trans ((HDR.out.trans (hb5.mono HDR.out.size)).mono HG2.out.2.size)⟩)
     clear hb5 hq
     go_wp2
     go_roundg (gk-1)
     case measure=>omega
     case rel=>exact⟨k+1,by omega,by go_num,HN⟩
    | false=>
     rintro e w5 ⟨rfl,hb5⟩
     have HF:=hdd (show R=false∧Below w.heap.size w w5 from⟨by
      rw [HR0.out]
      exact Zn (Z0h HXY.out.1 HXY.out.2 (Zn fun e=>Z0h HUV.out.1 HUV.out.2 hq (by rw [e]))),HG.out.2.trans ((HG2.out.2.trans ((HDR.out.trans (hb5.mono HDR.out.size)).mono HG2.out.2.size)).mono HG.out.2.size)⟩)
     clear hb5 hq
     go_wp2
     go_ret
     exact⟨by rw [HF.out.1];rfl,HF.out.2⟩
   ·obtain rfl:k=x.args.length:=by omega
    have HAR:=hdd (Z1G HEQ.out.2.2 HG2.out.1)
    have hki:¬(x.args.length:Int)<(x.args.length:Int):=by omega
    have HWD:=hdd (show Below wo.heap.size wo wr.drew from HG2.out.2.drew)
    have hH0:(fun W:World=>W.cell? ⟨b1,o1+j*5+3,none⟩=some (.slice ba x.body.length bc)∧W.cell? ⟨b1,o1+j*5+4,none⟩=some (.slice ea x.els.length ec)∧W.cell? ⟨b2,o2+j*5+3,none⟩=some (.slice ba' y.body.length bc')∧W.cell? ⟨b2,o2+j*5+4,none⟩=some (.slice ea' y.els.length ec')) wr.drew:=⟨clT (bRf wr.heap.size wr).drew c3,clT (bRf wr.heap.size wr).drew c4,clT (bRf wr.heap.size wr).drew d3,clT (bRf wr.heap.size wr).drew d4⟩
    have HH0:=hdd hH0
    clear hH0
    go_upto_region 13 with fail
    clear c2 c3 c4 d2 d3 d4
    refine Zw (S:=fun W:World=>W.cell? ⟨b1,o1+j*5+3,none⟩=some (.slice ba x.body.length bc)∧W.cell? ⟨b1,o1+j*5+4,none⟩=some (.slice ea x.els.length ec)∧W.cell? ⟨b2,o2+j*5+3,none⟩=some (.slice ba' y.body.length bc')∧W.cell? ⟨b2,o2+j*5+4,none⟩=some (.slice ea' y.els.length ec')) (by kernel_rfl) ?_
    generalize wr.drew=wd at HWD HH0 ⊢
    have hHeld:(fun W:World=>W.cell? ⟨b1,o1+j*5+3,none⟩=some (.slice ba x.body.length bc)∧W.cell? ⟨b1,o1+j*5+4,none⟩=some (.slice ea x.els.length ec)∧W.cell? ⟨b2,o2+j*5+3,none⟩=some (.slice ba' y.body.length bc')∧W.cell? ⟨b2,o2+j*5+4,none⟩=some (.slice ea' y.els.length ec')) wd:=HH0.out
    clear HH0
    refine tkL 2 0 (some 85) hHeld ?_
    (try simp only [Act.put,pu1,pu2,pu3])
    refine tkL 2 1 (some 86) hHeld ?_
    (try simp only [Act.put,pu1,pu2,pu3])
    refine tkL 3 2 (some 87) hHeld ?_
    (try simp only [Act.put,pu1,pu2,pu3])
    refine tkL 4 3 (some 88) hHeld ?_
    (try simp only [Act.put,pu1,pu2,pu3])
    refine tkL 10 4 (some 89) hHeld ?_
    (try simp only [Act.put,pu1,pu2,pu3])
    refine tkL 7 5 (some 90) hHeld ?_
    (try simp only [Act.put,pu1,pu2,pu3])
    refine tkL 7 6 (some 91) hHeld ?_
    (try simp only [Act.put,pu1,pu2,pu3])
    refine tkL 8 7 (some 92) hHeld ?_
    (try simp only [Act.put,pu1,pu2,pu3])
    refine tkL 9 8 (some 93) hHeld ?_
    (try simp only [Act.put,pu1,pu2,pu3])
    refine tkL 10 9 (some 94) hHeld ?_
    (try simp only [Act.put,pu1,pu2,pu3])
    refine Z06 10 (some 95) fun K hK=>?_
    go_simp
    go_at_call 21
    refine(HIB.out _ HWD.out).mono ?_
    rintro e w5 ⟨rfl,hb5⟩
    have HW5:=hdd (HWD.out.trans (hb5.mono HWD.out.size))
    refine kpL hK (⟨clT hb5 hHeld.1,clT hb5 hHeld.2.1,clT hb5 hHeld.2.2.1,clT hb5 hHeld.2.2.2⟩) ?_
    clear hK K hHeld;intro hHeld
    (try simp only [Act.put,pu1,pu2,pu3])
    cases hv:eqB x.body y.body with
    | true=>
     clear hb5
     refine tkL 12 11 (some 96) hHeld ?_
     (try simp only [Act.put,pu1,pu2,pu3])
     refine tkL 13 12 (some 97) hHeld ?_
     (try simp only [Act.put,pu1,pu2,pu3])
     refine tkL 15 13 (some 98) hHeld ?_
     (try simp only [Act.put,pu1,pu2,pu3])
     refine tkL 15 14 (some 99) hHeld ?_
     (try simp only [Act.put,pu1,pu2,pu3])
     refine tkL 16 15 (some 100) hHeld ?_
     (try simp only [Act.put,pu1,pu2,pu3])
     refine tkL 17 16 (some 101) hHeld ?_
     (try simp only [Act.put,pu1,pu2,pu3])
     refine tkL 23 17 (some 102) hHeld ?_
     (try simp only [Act.put,pu1,pu2,pu3])
     refine tkL 20 18 (some 103) hHeld ?_
     (try simp only [Act.put,pu1,pu2,pu3])
     refine tkL 20 19 (some 104) hHeld ?_
     (try simp only [Act.put,pu1,pu2,pu3])
     refine tkL 21 20 (some 105) hHeld ?_
     (try simp only [Act.put,pu1,pu2,pu3])
     refine tkL 22 21 (some 106) hHeld ?_
     (try simp only [Act.put,pu1,pu2,pu3])
     refine tkL 23 22 (some 107) hHeld ?_
     (try simp only [Act.put,pu1,pu2,pu3])
     refine Z06 23 (some 108) fun K hK=>?_
     go_simp
     go_at_call 21
     refine(HIE.out _ HW5.out).mono ?_
     rintro e w6 ⟨rfl,hb6⟩
     have HW6:=hdd (HW5.out.trans (hb6.mono HW5.out.size))
     refine kpL hK (⟨clT hb6 hHeld.1,clT hb6 hHeld.2.1,clT hb6 hHeld.2.2.1,clT hb6 hHeld.2.2.2⟩) ?_
     clear hK K hHeld;intro hHeld
     (try simp only [Act.put,pu1,pu2,pu3])
     cases hv2:eqB x.els y.els with
     | true=>
      clear hb6
      refine tkL 25 24 (some 109) hHeld ?_
      (try simp only [Act.put,pu1,pu2,pu3])
      refine Z06 25 (some 110) fun K hK=>?_
      go_simp
      refine hK.out _ _ (Z15 (by kernel_rfl)) ?_
      clear hK K hHeld
      (try simp only [Act.put,pu1,pu2,pu3])
      refine Zq (by kernel_rfl) ?_ _
      have HN:=hdd (Z16 HAL.out HXY.out.1 HXY.out.2 (Z0s (Z6H HEQ.out.1 HEQ.out.2.1 HAR.out (Z1t.1 hv) (Z1t.1 hv2))))
      clear hv hv2
      go_wp2
      go_roundg (xs.length-(j+1))
      case measure=>omega
      case rel=>exact⟨j+1,by omega,by go_num,hdd ⟨HN.out,HG.out.2.trans (HW6.out.mono HG.out.2.size)⟩⟩
     | false=>
      clear hb6
      refine tkL 25 24 (some 109) hHeld ?_
      (try simp only [Act.put,pu1,pu2,pu3])
      refine Z06 25 (some 110) fun K hK=>?_
      go_simp
      refine hK.out _ _ (Z15 (by kernel_rfl)) ?_
      clear hK K hHeld
      (try simp only [Act.put,pu1,pu2,pu3])
      refine Zq (by kernel_rfl) ?_ _
      have HF:=hdd (show R=false from by rw [HR0.out];exact Zn (Z0h HXY.out.1 HXY.out.2 (Zn fun e=>Z2v hv2 (by rw [e]))))
      go_wp2
      go_ret
      exact⟨by rw [HF.out];rfl,HG.out.2.trans (HW6.out.mono HG.out.2.size)⟩
    | false=>
     clear hb5
     refine tkL 12 11 (some 96) hHeld ?_
     (try simp only [Act.put,pu1,pu2,pu3])
     refine tkL 13 12 (some 97) hHeld ?_
     (try simp only [Act.put,pu1,pu2,pu3])
     refine skL 15 13 (some 98) hHeld ?_
     (try simp only [Act.put,pu1,pu2,pu3])
     refine skL 15 14 (some 99) hHeld ?_
     (try simp only [Act.put,pu1,pu2,pu3])
     refine skL 16 15 (some 100) hHeld ?_
     (try simp only [Act.put,pu1,pu2,pu3])
     refine skL 17 16 (some 101) hHeld ?_
     (try simp only [Act.put,pu1,pu2,pu3])
     refine skL 23 17 (some 102) hHeld ?_
     (try simp only [Act.put,pu1,pu2,pu3])
     refine skL 20 18 (some 103) hHeld ?_
     (try simp only [Act.put,pu1,pu2,pu3])
     refine skL 20 19 (some 104) hHeld ?_
     (try simp only [Act.put,pu1,pu2,pu3])
     refine skL 21 20 (some 105) hHeld ?_
     (try simp only [Act.put,pu1,pu2,pu3])
     refine skL 22 21 (some 106) hHeld ?_
     (try simp only [Act.put,pu1,pu2,pu3])
     refine skL 23 22 (some 107) hHeld ?_
     (try simp only [Act.put,pu1,pu2,pu3])
     refine skL 24 23 (some 108) hHeld ?_
     (try simp only [Act.put,pu1,pu2,pu3])
     refine skL 25 24 (some 109) hHeld ?_
     (try simp only [Act.put,pu1,pu2,pu3])
     refine Z06 25 (some 110) fun K hK=>?_
     go_simp
     refine hK.out _ _ (Z15 (by kernel_rfl)) ?_
     clear hK K hHeld
     (try simp only [Act.put,pu1,pu2,pu3])
     refine Zq (by kernel_rfl) ?_ _
     have HF:=hdd (show R=false from by rw [HR0.out];exact Zn (Z0h HXY.out.1 HXY.out.2 (Zn fun e=>Z2v hv (by rw [e]))))
     go_wp2
     go_ret
     exact⟨by rw [HF.out];rfl,HG.out.2.trans (HW5.out.mono HG.out.2.size)⟩
theorem Z3n:∀m,Zc9 m
 | 0=>Z36 0 (fun _ h=>by cases h)
 | m+1=>Z36 (m+1) (fun d h=>by cases h;exact Z3n m)
theorem Z5p (D:Nat) (a a':Option Addr) (c c':Nat) (p q:List FnD) (w:World) (hx:Za 3 (FnP D) (fun _=>True) w a p) (hy:Za 3 (FnP D) (fun _=>True) w a' q) (hlx:p.length≤100) (hly:q.length≤100) :
  Calls Tryz.prog 6 #[.agg (List.toArray [.slice a p.length c]),.agg (List.toArray [.slice a' q.length c'])] w fun e w'=>e=.returned (.bool (eqB p q))∧Below w.heap.size w w':=by
 have HB:=hdd (Z1R w (.cells #[.slice a p.length c] 25) (.cells #[.slice a' q.length c'] 25))
 obtain⟨R,hR⟩:∃R,R=eqB p q:=⟨_,rfl⟩
 rw [← hR]
 have HR0:=hdd hR
 have HK:=hdd (aI (hx.below (Z2 D) HB.out.2.2.1) (hy.below (Z2 D) HB.out.2.2.1))
 clear hR hx hy
 go_enter Tryz.func6,Tryz.ntmps6
 go_upto_region 1 with fail
 generalize (w.alloc (.cells #[.slice a p.length c] 25)).alloc (.cells #[.slice a' q.length c'] 25)=W1 at HB HK ⊢
 have p0:=coR _ _ 0 _ _ _ HB.out.1
 have q0:=coR _ _ 0 _ _ _ HB.out.2.1
 simp only [ga0,ga1] at p0 q0
 have HB0:=hdd HB.out.2.2.1
 obtain⟨pb,hpb⟩:∃b,b=w.heap.size:=⟨_,rfl⟩
 obtain⟨qb,hqb⟩:∃b,b=pb+1:=⟨_,rfl⟩
 rw [← hpb] at p0 q0 ⊢
 rw [← hqb] at q0 ⊢
 clear hpb hqb HB
 have HP:=hdd (aI p0 q0)
 by_cases h4:p.length=q.length
 rotate_left
 ·have HF:=hdd (show R=false by rw [HR0.out];exact Zn fun e=>h4 (by rw [e]))
  have i7:((p.length:Int) != (q.length:Int))=true:=by simpa using fun h:(p.length:Int)=(q.length:Int)=>h4 (by omega)
  have i8:((p.length:Int)==(q.length:Int))=false:=by simpa using fun h:(p.length:Int)=(q.length:Int)=>h4 (by omega)
  clear h4
  go_wp2
  go_ret
  exact⟨by rw [HF.out];rfl,HB0.out⟩
 have i7:((p.length:Int) != (q.length:Int))=false:=by rw [h4];simp
 have i8:((p.length:Int)==(q.length:Int))=true:=by rw [h4];simp
 have HEL:=hdd h4
 clear h4
 go_wp2_with fail
 go_loopg [5] p.length (fun G i wr=>∃(j:Nat),j+G=p.length∧i=.int .i64 j∧Hid (Z3B p q j∧Below W1.heap.size W1 wr))
 case atStart=>exact⟨0,by omega,rfl,hdd ⟨Z17 _ _,bRf _ _⟩⟩
 case round=>
  obtain⟨j,hj,rfl,HG⟩:=hrel
  clear i7 i8 p0 q0
  have p0:=clT HG.out.2 HP.out.1
  have q0:=clT HG.out.2 HP.out.2
  by_cases hlt:j<p.length
  rotate_left
  ·obtain rfl:j=p.length:=by omega
   have HF:=hdd (show R=true from by rw [HR0.out];exact Z0s (Z1G HEL.out HG.out.1))
   have hji:¬(p.length:Int)<(p.length:Int):=by omega
   go_wp2
   go_ret
   exact⟨by rw [HF.out];rfl,HB0.out.trans (HG.out.2.mono HB0.out.size)⟩
  have hlt':j<q.length:=by have:=HEL.out;omega
  obtain⟨b1,o1,x,pa,pc,ba,bc,rfl,hx,hP,c0,c1,c2⟩:=Z1q (HK.out.1.below (Z2 D) HG.out.2) hlt
  obtain⟨b2,o2,y,pa',pc',ba',bc',rfl,hy,hP',d0,d1,d2⟩:=Z1q (HK.out.2.below (Z2 D) HG.out.2) hlt'
  have hji:(j:Int)<(p.length:Int):=by omega
  have hji':(j:Int)<(q.length:Int):=by omega
  have HXY:=hdd (aI hx hy)
  have HAL:=hdd HG.out.1
  have HWD:=hdd (show Below W1.heap.size W1 wr.drew from HG.out.2.drew)
  have HH0:=hdd (show(fun W:World=>W.cell? ⟨pb,0,none⟩=some (.slice (some ⟨b1,o1,none⟩) p.length c)∧W.cell? ⟨qb,0,none⟩=some (.slice (some ⟨b2,o2,none⟩) q.length c')∧W.cell? ⟨b1,o1+j*3,none⟩=some (.string x.name)∧W.cell? ⟨b1,o1+j*3+1,none⟩=some (.slice pa x.params.length pc)∧W.cell? ⟨b1,o1+j*3+2,none⟩=some (.slice ba x.body.length bc)∧W.cell? ⟨b2,o2+j*3,none⟩=some (.string y.name)∧W.cell? ⟨b2,o2+j*3+1,none⟩=some (.slice pa' y.params.length pc')∧W.cell? ⟨b2,o2+j*3+2,none⟩=some (.slice ba' y.body.length bc')) wr.drew from⟨clT (bRf wr.heap.size wr).drew p0,clT (bRf wr.heap.size wr).drew q0,clT (bRf wr.heap.size wr).drew c0,clT (bRf wr.heap.size wr).drew c1,clT (bRf wr.heap.size wr).drew c2,clT (bRf wr.heap.size wr).drew d0,clT (bRf wr.heap.size wr).drew d1,clT (bRf wr.heap.size wr).drew d2⟩)
  obtain⟨pa0,pc0,ba0,bc0,hce,⟨-,hl1,hl2⟩,hA,hB⟩:=hP
  obtain⟨rfl,rfl,rfl,rfl⟩:pa=pa0∧pc=pc0∧ba=ba0∧bc=bc0:=by simp at hce;exact⟨hce.1.1,hce.1.2,hce.2.1,hce.2.2⟩
  obtain⟨pa1,pc1,ba1,bc1,hce',⟨-,hl1',hl2'⟩,hA',hB'⟩:=hP'
  obtain⟨rfl,rfl,rfl,rfl⟩:pa'=pa1∧pc'=pc1∧ba'=ba1∧bc'=bc1:=by simp at hce';exact⟨hce'.1.1,hce'.1.2,hce'.2.1,hce'.2.2⟩
  have hsz:=HG.out.2.size
  go_upto_region 6 with fail
  clear p0 q0 c0 c1 c2 d0 d1 d2
  refine Zw (S:=fun W:World=>W.cell? ⟨pb,0,none⟩=some (.slice (some ⟨b1,o1,none⟩) p.length c)∧W.cell? ⟨qb,0,none⟩=some (.slice (some ⟨b2,o2,none⟩) q.length c')∧W.cell? ⟨b1,o1+j*3,none⟩=some (.string x.name)∧W.cell? ⟨b1,o1+j*3+1,none⟩=some (.slice pa x.params.length pc)∧W.cell? ⟨b1,o1+j*3+2,none⟩=some (.slice ba x.body.length bc)∧W.cell? ⟨b2,o2+j*3,none⟩=some (.string y.name)∧W.cell? ⟨b2,o2+j*3+1,none⟩=some (.slice pa' y.params.length pc')∧W.cell? ⟨b2,o2+j*3+2,none⟩=some (.slice ba' y.body.length bc')) (by kernel_rfl) ?_
  have hbd:Below wr.heap.size wr wr.drew:=(bRf wr.heap.size wr).drew
  generalize wr.drew=wd at HWD HH0 hbd ⊢
  have HIB:=hdd (show ∀W:World,Below wd.heap.size wd W→_ from fun W hW=>Z7Z pa pa' pc pc' x.params y.params W ((hA.below Z3 hbd).below Z3 hW) ((hA'.below Z3 hbd).below Z3 hW) hl1 hl1')
  have HIE:=hdd (show ∀W:World,Below wd.heap.size wd W→_ from fun W hW=>Z3n D ba ba' bc bc' x.body y.body W ((hB.below (Z0 D) hbd).below (Z0 D) hW) ((hB'.below (Z0 D) hbd).below (Z0 D) hW) hl2 hl2')
  have HB1:=hdd (HB0.out.trans (HWD.out.mono HB0.out.size))
  have HWW:=hdd HWD.out
  clear hA hA' hB hB' hl1 hl1' hl2 hl2' hce hce' hbd HWD HB0
  have HB0:=HB1
  have HWD:=hdd (bRf wd.heap.size wd)
  have hHeld:(fun W:World=>W.cell? ⟨pb,0,none⟩=some (.slice (some ⟨b1,o1,none⟩) p.length c)∧W.cell? ⟨qb,0,none⟩=some (.slice (some ⟨b2,o2,none⟩) q.length c')∧W.cell? ⟨b1,o1+j*3,none⟩=some (.string x.name)∧W.cell? ⟨b1,o1+j*3+1,none⟩=some (.slice pa x.params.length pc)∧W.cell? ⟨b1,o1+j*3+2,none⟩=some (.slice ba x.body.length bc)∧W.cell? ⟨b2,o2+j*3,none⟩=some (.string y.name)∧W.cell? ⟨b2,o2+j*3+1,none⟩=some (.slice pa' y.params.length pc')∧W.cell? ⟨b2,o2+j*3+2,none⟩=some (.slice ba' y.body.length bc')) wd:=HH0.out
  clear HH0 HB1
  by_cases h1:x.name=y.name
  ·have i3:(x.name.toList==y.name.toList)=true:=by rw [h1];simp
   have i4:(x.name.toList != y.name.toList)=false:=by rw [bne,i3];rfl
   have HNM:=hdd h1
   clear h1
   refine tkL 1 0 (some 20) hHeld ?_
   (try simp only [Act.put,pu1,pu2,pu3])
   refine tkL 3 1 (some 21) hHeld ?_
   (try simp only [Act.put,pu1,pu2,pu3])
   refine tkL 3 2 (some 22) hHeld ?_
   (try simp only [Act.put,pu1,pu2,pu3])
   refine tkL 4 3 (some 23) hHeld ?_
   (try simp only [Act.put,pu1,pu2,pu3])
   refine tkL 5 4 (some 24) hHeld ?_
   (try simp only [Act.put,pu1,pu2,pu3])
   refine tkL 12 5 (some 25) hHeld ?_
   (try simp only [Act.put,pu1,pu2,pu3])
   refine tkL 7 6 (some 26) hHeld ?_
   (try simp only [Act.put,pu1,pu2,pu3])
   refine tkL 9 7 (some 27) hHeld ?_
   (try simp only [Act.put,pu1,pu2,pu3])
   refine tkL 9 8 (some 28) hHeld ?_
   (try simp only [Act.put,pu1,pu2,pu3])
   refine tkL 10 9 (some 29) hHeld ?_
   (try simp only [Act.put,pu1,pu2,pu3])
   refine tkL 11 10 (some 30) hHeld ?_
   (try simp only [Act.put,pu1,pu2,pu3])
   refine tkL 12 11 (some 31) hHeld ?_
   (try simp only [Act.put,pu1,pu2,pu3])
   refine tkL 13 12 (some 32) hHeld ?_
   (try simp only [Act.put,pu1,pu2,pu3])
   refine tkL 14 13 (some 33) hHeld ?_
   (try simp only [Act.put,pu1,pu2,pu3])
   refine tkL 15 14 (some 34) hHeld ?_
   (try simp only [Act.put,pu1,pu2,pu3])
   refine tkL 17 15 (some 35) hHeld ?_
   (try simp only [Act.put,pu1,pu2,pu3])
   refine tkL 17 16 (some 36) hHeld ?_
   (try simp only [Act.put,pu1,pu2,pu3])
   refine tkL 18 17 (some 37) hHeld ?_
   (try simp only [Act.put,pu1,pu2,pu3])
   refine tkL 19 18 (some 38) hHeld ?_
   (try simp only [Act.put,pu1,pu2,pu3])
   refine tkL 26 19 (some 39) hHeld ?_
   (try simp only [Act.put,pu1,pu2,pu3])
   refine tkL 21 20 (some 40) hHeld ?_
   (try simp only [Act.put,pu1,pu2,pu3])
   refine tkL 23 21 (some 41) hHeld ?_
   (try simp only [Act.put,pu1,pu2,pu3])
   refine tkL 23 22 (some 42) hHeld ?_
   (try simp only [Act.put,pu1,pu2,pu3])
   refine tkL 24 23 (some 43) hHeld ?_
   (try simp only [Act.put,pu1,pu2,pu3])
   refine tkL 25 24 (some 44) hHeld ?_
   (try simp only [Act.put,pu1,pu2,pu3])
   refine tkL 26 25 (some 45) hHeld ?_
   (try simp only [Act.put,pu1,pu2,pu3])
   refine Z06 26 (some 46) fun K hK=>?_
   go_simp
   go_at_call 20
   refine(HIB.out _ HWD.out).mono ?_
   rintro e w5 ⟨rfl,hb5⟩
   have HW5:=hdd (HWD.out.trans (hb5.mono HWD.out.size))
   refine kpL hK (⟨clT hb5 hHeld.1,clT hb5 hHeld.2.1,clT hb5 hHeld.2.2.1,clT hb5 hHeld.2.2.2.1,clT hb5 hHeld.2.2.2.2.1,clT hb5 hHeld.2.2.2.2.2.1,clT hb5 hHeld.2.2.2.2.2.2.1,clT hb5 hHeld.2.2.2.2.2.2.2⟩) ?_
   clear hK K hHeld;intro hHeld
   (try simp only [Act.put,pu1,pu2,pu3])
   cases hv:eqB x.params y.params with
   | true=>
    clear hb5
    refine tkL 28 27 (some 47) hHeld ?_
    (try simp only [Act.put,pu1,pu2,pu3])
    refine tkL 29 28 (some 48) hHeld ?_
    (try simp only [Act.put,pu1,pu2,pu3])
    refine tkL 30 29 (some 49) hHeld ?_
    (try simp only [Act.put,pu1,pu2,pu3])
    refine tkL 31 30 (some 50) hHeld ?_
    (try simp only [Act.put,pu1,pu2,pu3])
    refine tkL 33 31 (some 51) hHeld ?_
    (try simp only [Act.put,pu1,pu2,pu3])
    refine tkL 33 32 (some 52) hHeld ?_
    (try simp only [Act.put,pu1,pu2,pu3])
    refine tkL 34 33 (some 53) hHeld ?_
    (try simp only [Act.put,pu1,pu2,pu3])
    refine tkL 35 34 (some 54) hHeld ?_
    (try simp only [Act.put,pu1,pu2,pu3])
    refine tkL 42 35 (some 55) hHeld ?_
    (try simp only [Act.put,pu1,pu2,pu3])
    refine tkL 37 36 (some 56) hHeld ?_
    (try simp only [Act.put,pu1,pu2,pu3])
    refine tkL 39 37 (some 57) hHeld ?_
    (try simp only [Act.put,pu1,pu2,pu3])
    refine tkL 39 38 (some 58) hHeld ?_
    (try simp only [Act.put,pu1,pu2,pu3])
    refine tkL 40 39 (some 59) hHeld ?_
    (try simp only [Act.put,pu1,pu2,pu3])
    refine tkL 41 40 (some 60) hHeld ?_
    (try simp only [Act.put,pu1,pu2,pu3])
    refine tkL 42 41 (some 61) hHeld ?_
    (try simp only [Act.put,pu1,pu2,pu3])
    refine Z06 42 (some 62) fun K hK=>?_
    go_simp
    go_at_call 21
    refine(HIE.out _ HW5.out).mono ?_
    rintro e w6 ⟨rfl,hb6⟩
    have HW6:=hdd (HW5.out.trans (hb6.mono HW5.out.size))
    refine kpL hK (⟨clT hb6 hHeld.1,clT hb6 hHeld.2.1,clT hb6 hHeld.2.2.1,clT hb6 hHeld.2.2.2.1,clT hb6 hHeld.2.2.2.2.1,clT hb6 hHeld.2.2.2.2.2.1,clT hb6 hHeld.2.2.2.2.2.2.1,clT hb6 hHeld.2.2.2.2.2.2.2⟩) ?_
    clear hK K hHeld;intro hHeld
    (try simp only [Act.put,pu1,pu2,pu3])
    cases hv2:eqB x.body y.body with
    | true=>
     clear hb6
     refine tkL 44 43 (some 63) hHeld ?_
     (try simp only [Act.put,pu1,pu2,pu3])
     refine Z06 44 (some 64) fun K hK=>?_
     go_simp
     refine hK.out _ _ (Z15 (by kernel_rfl)) ?_
     clear hK K hHeld
     (try simp only [Act.put,pu1,pu2,pu3])
     refine Zq (by kernel_rfl) ?_ _
     have HN:=hdd (Z16 HAL.out HXY.out.1 HXY.out.2 (Z0s (Z9M HNM.out (Z1t.1 hv) (Z1t.1 hv2))))
     clear hv hv2
     go_wp2
     go_roundg (gk-1)
     case measure=>omega
     case rel=>exact⟨j+1,by omega,by go_num,hdd ⟨HN.out,HWW.out.trans (HW6.out.mono HWW.out.size)⟩⟩
    | false=>
     clear hb6
     refine tkL 44 43 (some 63) hHeld ?_
     (try simp only [Act.put,pu1,pu2,pu3])
     refine Z06 44 (some 64) fun K hK=>?_
     go_simp
     refine hK.out _ _ (Z15 (by kernel_rfl)) ?_
     clear hK K hHeld
     (try simp only [Act.put,pu1,pu2,pu3])
     refine Zq (by kernel_rfl) ?_ _
     have HF:=hdd (show R=false from by rw [HR0.out];exact Zn (Z0h HXY.out.1 HXY.out.2 (Zn fun e=>Z2v hv2 (by rw [e]))))
     go_wp2
     go_ret
     exact⟨by rw [HF.out];rfl,(HB0.out.trans (HW6.out.mono HB0.out.size))⟩
   | false=>
    clear hb5
    refine tkL 28 27 (some 47) hHeld ?_
    (try simp only [Act.put,pu1,pu2,pu3])
    refine tkL 29 28 (some 48) hHeld ?_
    (try simp only [Act.put,pu1,pu2,pu3])
    refine tkL 30 29 (some 49) hHeld ?_
    (try simp only [Act.put,pu1,pu2,pu3])
    refine skL 31 30 (some 50) hHeld ?_
    (try simp only [Act.put,pu1,pu2,pu3])
    refine skL 33 31 (some 51) hHeld ?_
    (try simp only [Act.put,pu1,pu2,pu3])
    refine skL 33 32 (some 52) hHeld ?_
    (try simp only [Act.put,pu1,pu2,pu3])
    refine skL 34 33 (some 53) hHeld ?_
    (try simp only [Act.put,pu1,pu2,pu3])
    refine skL 35 34 (some 54) hHeld ?_
    (try simp only [Act.put,pu1,pu2,pu3])
    refine skL 42 35 (some 55) hHeld ?_
    (try simp only [Act.put,pu1,pu2,pu3])
    refine skL 37 36 (some 56) hHeld ?_
    (try simp only [Act.put,pu1,pu2,pu3])
    refine skL 39 37 (some 57) hHeld ?_
    (try simp only [Act.put,pu1,pu2,pu3])
    refine skL 39 38 (some 58) hHeld ?_
    (try simp only [Act.put,pu1,pu2,pu3])
    refine skL 40 39 (some 59) hHeld ?_
    (try simp only [Act.put,pu1,pu2,pu3])
    refine skL 41 40 (some 60) hHeld ?_
    (try simp only [Act.put,pu1,pu2,pu3])
    refine skL 42 41 (some 61) hHeld ?_
    (try simp only [Act.put,pu1,pu2,pu3])
    refine skL 43 42 (some 62) hHeld ?_
    (try simp only [Act.put,pu1,pu2,pu3])
    refine skL 44 43 (some 63) hHeld ?_
    (try simp only [Act.put,pu1,pu2,pu3])
    refine Z06 44 (some 64) fun K hK=>?_
    go_simp
    refine hK.out _ _ (Z15 (by kernel_rfl)) ?_
    clear hK K hHeld
    (try simp only [Act.put,pu1,pu2,pu3])
    refine Zq (by kernel_rfl) ?_ _
    have HF:=hdd (show R=false from by rw [HR0.out];exact Zn (Z0h HXY.out.1 HXY.out.2 (Zn fun e=>Z2v hv (by rw [e]))))
    go_wp2
    go_ret
    exact⟨by rw [HF.out];rfl,(HB0.out.trans (HW5.out.mono HB0.out.size))⟩
  ·have HF:=hdd (show R=false from by rw [HR0.out];exact Zn (Z0h HXY.out.1 HXY.out.2 (Zn fun e=>h1 (by rw [e]))))
   have i3:(x.name.toList==y.name.toList)=false:=Z1m h1
   have i4:(x.name.toList != y.name.toList)=true:=by rw [bne,i3];rfl
   clear h1
   refine tkL 1 0 (some 20) hHeld ?_
   (try simp only [Act.put,pu1,pu2,pu3])
   refine tkL 3 1 (some 21) hHeld ?_
   (try simp only [Act.put,pu1,pu2,pu3])
   refine tkL 3 2 (some 22) hHeld ?_
   (try simp only [Act.put,pu1,pu2,pu3])
   refine tkL 4 3 (some 23) hHeld ?_
   (try simp only [Act.put,pu1,pu2,pu3])
   refine tkL 5 4 (some 24) hHeld ?_
   (try simp only [Act.put,pu1,pu2,pu3])
   refine tkL 12 5 (some 25) hHeld ?_
   (try simp only [Act.put,pu1,pu2,pu3])
   refine tkL 7 6 (some 26) hHeld ?_
   (try simp only [Act.put,pu1,pu2,pu3])
   refine tkL 9 7 (some 27) hHeld ?_
   (try simp only [Act.put,pu1,pu2,pu3])
   refine tkL 9 8 (some 28) hHeld ?_
   (try simp only [Act.put,pu1,pu2,pu3])
   refine tkL 10 9 (some 29) hHeld ?_
   (try simp only [Act.put,pu1,pu2,pu3])
   refine tkL 11 10 (some 30) hHeld ?_
   (try simp only [Act.put,pu1,pu2,pu3])
   refine tkL 12 11 (some 31) hHeld ?_
   (try simp only [Act.put,pu1,pu2,pu3])
   refine tkL 13 12 (some 32) hHeld ?_
   (try simp only [Act.put,pu1,pu2,pu3])
   refine tkL 14 13 (some 33) hHeld ?_
   (try simp only [Act.put,pu1,pu2,pu3])
   refine skL 15 14 (some 34) hHeld ?_
   (try simp only [Act.put,pu1,pu2,pu3])
   refine skL 17 15 (some 35) hHeld ?_
   (try simp only [Act.put,pu1,pu2,pu3])
   refine skL 17 16 (some 36) hHeld ?_
   (try simp only [Act.put,pu1,pu2,pu3])
   refine skL 18 17 (some 37) hHeld ?_
   (try simp only [Act.put,pu1,pu2,pu3])
   refine skL 19 18 (some 38) hHeld ?_
   (try simp only [Act.put,pu1,pu2,pu3])
   refine skL 26 19 (some 39) hHeld ?_
   (try simp only [Act.put,pu1,pu2,pu3])
   refine skL 21 20 (some 40) hHeld ?_
   (try simp only [Act.put,pu1,pu2,pu3])
   refine skL 23 21 (some 41) hHeld ?_
   (try simp only [Act.put,pu1,pu2,pu3])
   refine skL 23 22 (some 42) hHeld ?_
   (try simp only [Act.put,pu1,pu2,pu3])
   refine skL 24 23 (some 43) hHeld ?_
   (try simp only [Act.put,pu1,pu2,pu3])
   refine skL 25 24 (some 44) hHeld ?_
   (try simp only [Act.put,pu1,pu2,pu3])
   refine skL 26 25 (some 45) hHeld ?_
   (try simp only [Act.put,pu1,pu2,pu3])
   refine skL 27 26 (some 46) hHeld ?_
   (try simp only [Act.put,pu1,pu2,pu3])
   refine skL 28 27 (some 47) hHeld ?_
   (try simp only [Act.put,pu1,pu2,pu3])
   refine tkL 29 28 (some 48) hHeld ?_
   (try simp only [Act.put,pu1,pu2,pu3])
   refine tkL 30 29 (some 49) hHeld ?_
   (try simp only [Act.put,pu1,pu2,pu3])
   refine skL 31 30 (some 50) hHeld ?_
   (try simp only [Act.put,pu1,pu2,pu3])
   refine skL 33 31 (some 51) hHeld ?_
   (try simp only [Act.put,pu1,pu2,pu3])
   refine skL 33 32 (some 52) hHeld ?_
   (try simp only [Act.put,pu1,pu2,pu3])
   refine skL 34 33 (some 53) hHeld ?_
   (try simp only [Act.put,pu1,pu2,pu3])
   refine skL 35 34 (some 54) hHeld ?_
   (try simp only [Act.put,pu1,pu2,pu3])
   refine skL 42 35 (some 55) hHeld ?_
   (try simp only [Act.put,pu1,pu2,pu3])
   refine skL 37 36 (some 56) hHeld ?_
   (try simp only [Act.put,pu1,pu2,pu3])
   refine skL 39 37 (some 57) hHeld ?_
   (try simp only [Act.put,pu1,pu2,pu3])
   refine skL 39 38 (some 58) hHeld ?_
   (try simp only [Act.put,pu1,pu2,pu3])
   refine skL 40 39 (some 59) hHeld ?_
   (try simp only [Act.put,pu1,pu2,pu3])
   refine skL 41 40 (some 60) hHeld ?_
   (try simp only [Act.put,pu1,pu2,pu3])
   refine skL 42 41 (some 61) hHeld ?_
   (try simp only [Act.put,pu1,pu2,pu3])
   refine skL 43 42 (some 62) hHeld ?_
   (try simp only [Act.put,pu1,pu2,pu3])
   refine skL 44 43 (some 63) hHeld ?_
   (try simp only [Act.put,pu1,pu2,pu3])
   refine Z06 44 (some 64) fun K hK=>?_
   go_simp
   refine hK.out _ _ (Z15 (by kernel_rfl)) ?_
   clear hK K hHeld
   (try simp only [Act.put,pu1,pu2,pu3])
   refine Zq (by kernel_rfl) ?_ _
   go_wp2
   go_ret
   exact⟨by rw [HF.out];rfl,HB0.out.trans (HWD.out.mono HB0.out.size)⟩
end Go.Proofs.YtloooebabieeeaaGreatDoor
