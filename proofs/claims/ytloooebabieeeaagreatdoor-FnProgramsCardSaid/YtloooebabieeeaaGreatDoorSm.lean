/-
  SameExpr of the reference, of any two expressions: it answers whether they are one.
-/
import Derived.Test.YtloooebabieeeaaGreatDoorCp
import Derived.Test.YtloooebabieeeaaGreatDoorEp
import Derived.Test.YtloooebabieeeaaGreatDoorNm
import Derived.Deep.LoopGhost
import Derived.StillTailTactics
set_option maxRecDepth 100000
set_option maxHeartbeats 16000000
set_option linter.unusedVariables false
namespace Go.Proofs.YtloooebabieeeaaGreatDoor
open Go.RowKit
theorem Z1R (w:World) (P Q:Obj):((w.alloc P).alloc Q).heap[w.heap.size]? = some P∧((w.alloc P).alloc Q).heap[w.heap.size+1]? = some Q∧Below w.heap.size w ((w.alloc P).alloc Q)∧((w.alloc P).alloc Q).heap.size=w.heap.size+2:=
 ⟨heap_alloc2_old w P Q,heap_alloc2_new w P Q,((bRf _ _).alloc (Nat.le_refl _) _).alloc (by simp) _,by simp⟩
noncomputable def eqB {α : Type} (x y:α):Bool:=@decide (x=y) (Classical.propDecidable _)
theorem Z1t {α : Type} {x y:α}:eqB x y=true↔x=y:=by unfold eqB;exact @decide_eq_true_iff _ (Classical.propDecidable _)
theorem Z0s {α : Type} {x y:α} (h:x=y):eqB x y=true:=Z1t.2 h
theorem Zn {α : Type} {x y:α} (h:x≠y):eqB x y=false:=by
 cases he:eqB x y with
 | false=>rfl
 | true=>exact absurd (Z1t.1 he) h
theorem Z2v {α : Type} {x y:α} (h:eqB x y=false):x≠y:=fun e=>by rw [Z0s e] at h;cases h
theorem ZbB {α : Type} (x y:α):eqB x y=eqB y x:=by
 cases h:eqB y x with
 | false=>exact Zn fun e=>Z2v h e.symm
 | true=>exact Z0s (Z1t.1 h).symm
theorem Z6O {x y:Z6} (h1:x.op=y.op) (h2:x.n=y.n) (h3:x.name=y.name) (h4:x.kids=y.kids):x=y:=by
 cases x;cases y
 simp only [Z6.op,Z6.n,Z6.name,Z6.kids] at h1 h2 h3 h4
 rw [h1,h2,h3,h4]
theorem Z1m {s t:ByteArray} (h:s≠t):(s.toList==t.toList)=false:=by
 cases hb:s.toList==t.toList with
 | false=>rfl
 | true=>
  rw [beq_iff_eq,ByteArray.toList_eq,ByteArray.toList_eq] at hb
  exact absurd (ByteArray.ext (Array.toList_inj.1 hb)) h
def Z3B {α : Type} (xs ys:List α) (j:Nat):Prop:=∀i,i<j→xs[i]? = ys[i]?
theorem Z17 {α : Type} (xs ys:List α):Z3B xs ys 0:=fun i hi=>by omega
theorem Z16 {α : Type} {xs ys:List α} {j:Nat} {x y:α} (h:Z3B xs ys j) (hx:xs[j]? = some x) (hy:ys[j]? = some y) (he:eqB x y=true):Z3B xs ys (j+1):=fun i hi=>by
 by_cases hij:i=j
 ·subst hij;rw [hx,hy,Z1t.1 he]
 ·exact h i (by omega)
theorem Z1G {α : Type} {xs ys:List α} (hl:xs.length=ys.length) (h:Z3B xs ys xs.length):xs=ys:=by
 apply List.ext_getElem?
 intro i
 by_cases hi:i<xs.length
 ·exact h i hi
 ·rw [List.getElem?_eq_none (by omega),List.getElem?_eq_none (by omega)]
theorem Z0h {α : Type} {xs ys:List α} {j:Nat} {x y:α} (hx:xs[j]? = some x) (hy:ys[j]? = some y) (he:eqB x y=false):xs≠ys:=fun e=>by
 rw [e,hy] at hx
 exact Z2v he (Option.some.inj hx).symm
theorem Z9e:∀(m:Nat) (cs ds:List Value) (x y:Z6) (w:World),ZX m w cs x→ZX m w ds y→
  Calls Tryz.prog 40 #[.agg cs.toArray,.agg ds.toArray] w fun e w'=>e=.returned (.bool (eqB x y))∧Below w.heap.size w w':=by
 intro m
 induction m with
 | zero=>exact fun _ _ _ _ _ h=>h.elim
 | succ m ih=>
 intro cs ds x y w hx hy
 obtain⟨ka,kc,rfl,⟨hkl,-⟩,hks⟩:=hx
 obtain⟨ja,jc,rfl,⟨hjl,-⟩,hjs⟩:=hy
 have hkl2:x.kids.length≤9223372036854775807:=by unfold maxLen at hkl;omega
 have hjl2:y.kids.length≤9223372036854775807:=by unfold maxLen at hjl;omega
 have HB:=hdd (Z1R w (.cells #[.int .i64 x.op,.int .i64 x.n,.string x.name,.slice ka x.kids.length kc] 64) (.cells #[.int .i64 y.op,.int .i64 y.n,.string y.name,.slice ja y.kids.length jc] 64))
 have HK:=hdd (aI hks hjs)
 have HIH:=hdd ih
 clear hks hjs ih hkl hjl
 obtain⟨R,hR⟩:∃R,R=eqB x y:=⟨_,rfl⟩
 rw [← hR]
 have HR0:=hdd hR
 clear hR
 go_enter Tryz.func40,Tryz.ntmps40
 go_upto_region 1 with fail
 generalize (w.alloc (.cells #[.int .i64 x.op,.int .i64 x.n,.string x.name,.slice ka x.kids.length kc] 64)).alloc (.cells #[.int .i64 y.op,.int .i64 y.n,.string y.name,.slice ja y.kids.length jc] 64)=W1 at HB ⊢
 have p0:=coR _ _ 0 _ _ _ HB.out.1
 have p1:=coR _ _ 1 _ _ _ HB.out.1
 have p2:=coR _ _ 2 _ _ _ HB.out.1
 have p3:=coR _ _ 3 _ _ _ HB.out.1
 have q0:=coR _ _ 0 _ _ _ HB.out.2.1
 have q1:=coR _ _ 1 _ _ _ HB.out.2.1
 have q2:=coR _ _ 2 _ _ _ HB.out.2.1
 have q3:=coR _ _ 3 _ _ _ HB.out.2.1
 simp only [ga0,ga1,ga2] at p0 p1 p2 p3 q0 q1 q2 q3
 have HBW:=hdd HB.out.2.2.1
 obtain⟨b0,hb0⟩:∃b,b=w.heap.size:=⟨_,rfl⟩
 rw [← hb0] at p0 p1 p2 p3 q0 q1 q2 q3 ⊢
 clear hb0
 by_cases h1:x.op=y.op
 rotate_left
 ·have HF:=hdd (show R=false by rw [HR0.out];exact Zn fun e=>h1 (by rw [e]))
  have i1:(x.op != y.op)=true:=by simpa using h1
  have i2:(x.op==y.op)=false:=by simpa using h1
  clear h1
  go_wp2
  go_ret
  exact⟨by rw [HF.out];rfl,HBW.out⟩
 have i1:(x.op != y.op)=false:=by simpa using h1
 have i2:(x.op==y.op)=true:=by simpa using h1
 by_cases h2:x.n=y.n
 rotate_left
 ·have HF:=hdd (show R=false by rw [HR0.out];exact Zn fun e=>h2 (by rw [e]))
  have i3:(x.n != y.n)=true:=by simpa using h2
  have i4:(x.n==y.n)=false:=by simpa using h2
  clear h1 h2
  go_wp2
  go_ret
  exact⟨by rw [HF.out];rfl,HBW.out⟩
 have i3:(x.n != y.n)=false:=by simpa using h2
 have i4:(x.n==y.n)=true:=by simpa using h2
 by_cases h3:x.name=y.name
 rotate_left
 ·have HF:=hdd (show R=false by rw [HR0.out];exact Zn fun e=>h3 (by rw [e]))
  have i5:(x.name.toList==y.name.toList)=false:=Z1m h3
  have i6:(x.name.toList != y.name.toList)=true:=by rw [bne,i5];rfl
  clear h1 h2 h3
  go_wp2
  go_ret
  exact⟨by rw [HF.out];rfl,HBW.out⟩
 have i5:(x.name.toList==y.name.toList)=true:=by rw [h3];simp
 have i6:(x.name.toList != y.name.toList)=false:=by rw [bne,i5];rfl
 by_cases h4:x.kids.length=y.kids.length
 rotate_left
 ·have HF:=hdd (show R=false by rw [HR0.out];exact Zn fun e=>h4 (by rw [e]))
  have i7:((x.kids.length:Int) != (y.kids.length:Int))=true:=by simpa using fun h:(x.kids.length:Int)=(y.kids.length:Int)=>h4 (by omega)
  have i8:((x.kids.length:Int)==(y.kids.length:Int))=false:=by simpa using fun h:(x.kids.length:Int)=(y.kids.length:Int)=>h4 (by omega)
  clear h1 h2 h3 h4
  go_wp2
  go_ret
  exact⟨by rw [HF.out];rfl,HBW.out⟩
 have i7:((x.kids.length:Int) != (y.kids.length:Int))=false:=by rw [h4];simp
 have i8:((x.kids.length:Int)==(y.kids.length:Int))=true:=by rw [h4];simp
 have HEQ:=hdd (aI h1 (aI h2 (aI h3 h4)))
 clear h1 h2 h3 h4
 go_wp2_with fail
 go_loopg [5] x.kids.length (fun G i wr=>∃(j:Nat),j+G=x.kids.length∧i=.int .i64 j∧Hid (Z3B x.kids y.kids j∧Below W1.heap.size W1 wr))
 case atStart=>exact⟨0,by omega,rfl,hdd ⟨Z17 _ _,bRf _ _⟩⟩
 case round=>
  obtain⟨j,hj,rfl,HR⟩:=hrel
  have g3:=clT HR.out.2 p3
  have h3:=clT HR.out.2 q3
  clear i1 i2 i3 i4 i5 i6 i7 i8 p0 p1 p2 p3 q0 q1 q2 q3
  by_cases hlt:j<x.kids.length
  ·have HBr:=hdd (HBW.out.trans (HR.out.2.mono HBW.out.size))
   have hlt':j<y.kids.length:=by have:=HEQ.out.2.2.2;omega
   obtain⟨b1,o1,k,cs1,rfl,hk,hkR,k1,k2,rfl,c0,c1,c2,c3⟩:=Z0r (HK.out.1.later (Zg m) HBr.out) hlt
   obtain⟨b2,o2,k',cs2,rfl,hk',hkR',l1,l2,rfl,d0,d1,d2,d3⟩:=Z0r (HK.out.2.later (Zg m) HBr.out) hlt'
   have hki:(j:Int)<(x.kids.length:Int):=by omega
   have hki':(j:Int)<(y.kids.length:Int):=by omega
   have HZ:=hdd (aI hkR hkR')
   have HXY:=hdd (aI hk hk')
   have HRD:=hdd HR.out.2.drew
   clear hk hk' hkR hkR' hlt'
   go_wp2_with fail
   go_still_tail 10,(by kernel_rfl)
   change wpList _ _ _ _ _ wr.drew
   have HZD:=hdd (show ZX m wr.drew _ k∧ZX m wr.drew _ k' from⟨Zg m _ _ _ _ (bRf _ _).drew HZ.out.1,Zg m _ _ _ _ (bRf _ _).drew HZ.out.2⟩)
   clear HZ
   generalize wr.drew=wd at HRD HZD ⊢
   go_wp2_with fail
   refine(HIH.out _ _ k k' wd HZD.out.1 HZD.out.2).mono ?_
   clear g3 h3 c0 c1 c2 c3 d0 d1 d2 d3
   cases hv:eqB k k' with
   | true=>
    rintro e w5 ⟨rfl,hb5⟩
    have HB5:=hdd (show Z3B x.kids y.kids (j+1)∧Below W1.heap.size W1 w5 from⟨Z16 HR.out.1 HXY.out.1 HXY.out.2 hv,HRD.out.trans (hb5.mono HRD.out.size)⟩)
    clear hb5 hv
    go_wp2
    go_roundg (gk-1)
    case measure=>omega
    case rel=>exact⟨j+1,by omega,by go_num,HB5⟩
   | false=>
    rintro e w5 ⟨rfl,hb5⟩
    have HB5:=hdd (show R=false∧Below w.heap.size w w5 from⟨by
     rw [HR0.out]
     exact Zn fun e=>Z0h HXY.out.1 HXY.out.2 hv (by rw [e]),HBW.out.trans ((HRD.out.trans (hb5.mono HRD.out.size)).mono HBW.out.size)⟩)
    clear hb5 hv
    go_wp2
    go_ret
    exact⟨by rw [HB5.out.1];rfl,HB5.out.2⟩
  ·obtain rfl:j=x.kids.length:=by omega
   have HB5:=hdd (show R=true∧Below w.heap.size w wr from⟨by
    rw [HR0.out]
    obtain⟨e1,e2,e3,e4⟩:=HEQ.out
    exact Z0s (Z6O e1 e2 e3 (Z1G e4 HR.out.1)),HBW.out.trans (HR.out.2.mono HBW.out.size)⟩)
   go_wp2
   go_ret
   exact⟨by rw [HB5.out.1];rfl,HB5.out.2⟩
end Go.Proofs.YtloooebabieeeaaGreatDoor
