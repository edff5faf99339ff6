/-
  Whether statements are valid (the reference's): l3Args, l3Stmt, l3Stmts.
-/
import Derived.Test.YtloooebabieeeaaGreatDoorCp
import Derived.Test.YtloooebabieeeaaGreatDoorSl
import Derived.Test.YtloooebabieeeaaGreatDoorEs3
import Derived.Deep.LoopGhost
set_option maxRecDepth 100000
set_option maxHeartbeats 16000000
set_option linter.unusedVariables false
namespace Go.Proofs.YtloooebabieeeaaGreatDoor
open Go.RowKit
theorem Z2C:∀{d:Nat} {S:Nat→Prop} {w:World} {c:List Value} {x:Zb},Zv d S w c x→∃aa ac ba bc ea ec,c=[.int .i64 x.op,.string x.name,.slice aa x.args.length ac,.slice ba x.body.length bc,.slice ea x.els.length ec]
 | 0,_,_,_,_,h=>h.elim
 | d+1,_,_,_,_,⟨aa,ac,ba,bc,ea,ec,h,_⟩=>⟨aa,ac,ba,bc,ea,ec,h⟩
theorem Z1x {d:Nat} {S:Nat→Prop} {w:World} {a:Option Addr} {xs:List Zb} (h:Za 5 (Zv d) S w a xs) {i:Nat} (hi:i<xs.length) :
  ∃b off x aa ac ba bc ea ec,a=some ⟨b,off,none⟩∧xs[i]? = some x∧Zv d S w [.int .i64 x.op,.string x.name,.slice aa x.args.length ac,.slice ba x.body.length bc,.slice ea x.els.length ec] x∧
   w.cell? ⟨b,off+i*5,none⟩=some (.int .i64 x.op)∧w.cell? ⟨b,off+i*5+1,none⟩=some (.string x.name)∧w.cell? ⟨b,off+i*5+2,none⟩=some (.slice aa x.args.length ac)∧
   w.cell? ⟨b,off+i*5+3,none⟩=some (.slice ba x.body.length bc)∧w.cell? ⟨b,off+i*5+4,none⟩=some (.slice ea x.els.length ec):=by
 obtain⟨b,off,cs,x,rfl,hx,hl,hc,hR⟩:=h.place (by decide) hi
 obtain⟨aa,ac,ba,bc,ea,ec,rfl⟩:=Z2C hR
 exact⟨b,off,x,aa,ac,ba,bc,ea,ec,rfl,hx,hR,hc 0 _ rfl,hc 1 _ rfl,hc 2 _ rfl,hc 3 _ rfl,hc 4 _ rfl⟩
theorem ZQ {d:Nat} {S:Nat→Prop} {w:World} {a:Option Addr} {xs:List Z6} (h:Za 4 (ZG d) S w a xs) {i:Nat} (hi:i<xs.length) :
  ∃b off k ka kc,a=some ⟨b,off,none⟩∧xs[i]? = some k∧ZG d S w [.int .i64 k.op,.int .i64 k.n,.string k.name,.slice ka k.kids.length kc] k∧
   w.cell? ⟨b,off+i*4,none⟩=some (.int .i64 k.op)∧w.cell? ⟨b,off+i*4+1,none⟩=some (.int .i64 k.n)∧w.cell? ⟨b,off+i*4+2,none⟩=some (.string k.name)∧w.cell? ⟨b,off+i*4+3,none⟩=some (.slice ka k.kids.length kc):=by
 obtain⟨b,off,cs,x,rfl,hx,hl,hc,hR⟩:=h.place (by decide) hi
 obtain⟨ka,kc,rfl⟩:=Zj hR.1
 exact⟨b,off,x,ka,kc,rfl,hx,hR,hc 0 _ rfl,hc 1 _ rfl,hc 2 _ rfl,hc 3 _ rfl⟩
theorem Z1B {S:Nat→Prop} {w:World} {a:Option Addr} {xs:List ByteArray} (h:Za 1 Z1V S w a xs) {i:Nat} (hi:i<xs.length) :
  ∃b off s,a=some ⟨b,off,none⟩∧xs[i]? = some s∧s.size≤maxLen∧w.cell? ⟨b,off+i,none⟩=some (.string s):=by
 obtain⟨b,off,cs,x,rfl,hx,hl,hc,hR⟩:=h.place (by decide) hi
 obtain⟨rfl,hs⟩:=hR
 have h0:=hc 0 _ rfl
 rw [Nat.mul_one,Nat.add_zero] at h0
 exact⟨b,off,x,rfl,hx,hs,h0⟩
theorem Z1q {d:Nat} {S:Nat→Prop} {w:World} {a:Option Addr} {xs:List FnD} (h:Za 3 (FnP d) S w a xs) {i:Nat} (hi:i<xs.length) :
  ∃b off x pa pc ba bc,a=some ⟨b,off,none⟩∧xs[i]? = some x∧FnP d S w [.string x.name,.slice pa x.params.length pc,.slice ba x.body.length bc] x∧
   w.cell? ⟨b,off+i*3,none⟩=some (.string x.name)∧w.cell? ⟨b,off+i*3+1,none⟩=some (.slice pa x.params.length pc)∧w.cell? ⟨b,off+i*3+2,none⟩=some (.slice ba x.body.length bc):=by
 obtain⟨b,off,cs,x,rfl,hx,hl,hc,hR⟩:=h.place (by decide) hi
 have hR2:=hR
 obtain⟨pa,pc,ba,bc,rfl,_⟩:=hR2
 exact⟨b,off,x,pa,pc,ba,bc,rfl,hx,hR,hc 0 _ rfl,hc 1 _ rfl,hc 2 _ rfl⟩
theorem Z3b {α : Type} {p:α→Bool} {xs:List α} {k:Nat} {x:α} (h:xs[k]? = some x):(xs.take (k+1)).all p=((xs.take k).all p&&p x):=by
 rw [Z0n h,List.all_append];simp
theorem Z49 {α : Type} {p:α→Bool} {xs:List α} {k:Nat} {x:α} (h:xs[k]? = some x) (hp:p x=false):xs.all p=false:=by
 rw [List.all_eq_false]
 exact⟨x,List.mem_of_getElem? h,by rw [hp];simp⟩
def Z3D (op:Int):Int:=if op=4 then 2 else 1
theorem Z9q (op:Int) (w:World):Calls Tryz.prog 121 #[.int .i64 op] w fun e w'=>e=.returned (.int .i64 (Z3D op))∧w'=w:=by
 unfold Z3D
 by_cases h:op=4
 ·subst h
  go_enter Tryz.func121,Tryz.ntmps121
  go_wp2
  go_ret
  exact⟨rfl,rfl⟩
 ·have h2:(op==4)=false:=by simpa using h
  rw [if_neg h]
  clear h
  go_enter Tryz.func121,Tryz.ntmps121
  go_wp2
  go_ret
  exact⟨rfl,rfl⟩
theorem Z6W {op k:Int} (h:Z3D op=k) (w:World):Calls Tryz.prog 121 #[.int .i64 op] w fun e w'=>e=.returned (.int .i64 k)∧w'=w:=by rw [← h];exact Z9q op w
def Z0D (op:Int):Bool:=op==1||op==2
theorem Z8O (op:Int) (name:ByteArray) (args:List Z6) (body els:List Zb):ZbY (.mk op name args body els) =
  (inE 1 op 8&&(((args.length:Int)==Z3D op)&&(!(Z0D op != Zk name)&&((Z0D op||name.toList.isEmpty)&&(args.all Z1v&&((!(op==8)||(args.getD 0 default).op==13)&&((els.length==0||op==5)&&(body.length==0||op==5||op==6)))))))):=by
 have hn:=fun h=>Z4g (s:=name) h
 have ha:(args.length==(if op=4 then 2 else 1))=((args.length:Int)==Z3D op):=by
  unfold Z3D
  split
  ·rw [Bool.eq_iff_iff];simp only [beq_iff_eq];omega
  ·rw [Bool.eq_iff_iff];simp only [beq_iff_eq];omega
 have hm:(if op=1∨op=2 then Zk name else name.toList.isEmpty)=(!(Z0D op != Zk name)&&(Z0D op||name.toList.isEmpty)):=by
  by_cases h:op=1∨op=2
  ·have hb:Z0D op=true:=by rcases h with rfl|rfl<;>rfl
   rw [if_pos h,hb]
   cases Zk name<;>rfl
  ·have hb:Z0D op=false:=by unfold Z0D;rw [Bool.or_eq_false_iff];simp;omega
   rw [if_neg h,hb]
   cases he:name.toList.isEmpty
   ·simp
   ·rw [hn he];rfl
 show(Zct op name args.length body.length els.length&&args.all Z1v&&(!(op==8)||(args.getD 0 default).op==13))=_
 rw [Zct,ha,hm]
 generalize inE 1 op 8=A
 generalize ((args.length:Int)==Z3D op)=B
 generalize (Z0D op != Zk name)=C
 generalize (Z0D op||name.toList.isEmpty)=D
 generalize args.all Z1v=E
 generalize (!(op==8)||(args.getD 0 default).op==13)=F
 generalize (op==5)=G
 generalize (op==6)=H
 generalize (els.length==0)=I
 generalize (body.length==0)=J
 revert A B C D E F G H I J
 decide
def Z8X (D:Nat):Prop:=∀(deep:Nat) (S:Nat→Prop) (cs:List Value) (s:Zb) (w:World),deep≤100→Zv D S w cs s→
  Calls Tryz.prog 104 #[.agg cs.toArray,.int .i64 (deep:Int)] w fun e w'=>e=.returned (.bool (ZH deep s))∧Below w.heap.size w w'
theorem Z3r (D:Nat) (hD:Z8X D) (deep:Nat) (S:Nat→Prop) (a:Option Addr) (len cap:Nat) (xs:List Zb) (w:World) (hd:deep≤100) (h:Za 5 (Zv D) S w a xs) (hl:xs.length=len) (hlen:len≤1000000) :
  Calls Tryz.prog 82 #[.slice a len cap,.int .i64 (deep:Int)] w fun e w'=>e=.returned (.bool (xs.all (ZH deep)))∧Below w.heap.size w w':=by
 have HI:=hdd (aI h (aI hl (aI hD hd)))
 have hl2:len≤9223372036854775807:=by omega
 obtain⟨R,hR⟩:∃R,R=xs.all (ZH deep):=⟨_,rfl⟩
 rw [← hR]
 have HR:=hdd hR
 clear h hl hD hd hR
 obtain⟨dp,hdp⟩:∃d:Int,d=(deep:Int):=⟨_,rfl⟩
 rw [← hdp]
 have HDP:=hdd hdp
 clear hdp
 go_enter Tryz.func82,Tryz.ntmps82
 go_wp2_with fail
 go_loopg [5] len (fun G i wr=>∃(j:Nat),j+G=len∧i=.int .i64 j∧Hid (Below w.heap.size w wr∧(xs.take j).all (ZH deep)=true))
 case atStart=>exact⟨0,by omega,rfl,hdd ⟨bRf _ _,rfl⟩⟩
 case round=>
  obtain⟨j,hj,rfl,HB⟩:=hrel
  by_cases hlt:j<len
  ·have hji:(j:Int)<(len:Int):=by omega
   obtain⟨b,off,x,aa,ac,ba,bc,ea,ec,rfl,hx,hS,c0,c1,c2,c3,c4⟩:=Z1x (HI.out.1.below (Z0 D) HB.out.1) (by have:=HI.out.2.1;omega:j<xs.length)
   have HC:=hdd (HI.out.2.2.1 deep _ _ x wr HI.out.2.2.2 hS)
   rw [← HDP.out] at HC
   have HX:=hdd hx
   clear hx hS
   cases hv:ZH deep x with
   | false=>
    rw [hv] at HC
    have HF:=hdd (show false=R by rw [HR.out,Z49 HX.out hv])
    clear hv
    go_wp2_with fail
    refine HC.out.mono ?_
    rintro e w5 ⟨rfl,hb5⟩
    have HB5:=hdd (HB.out.1.trans (hb5.mono HB.out.1.size))
    clear hb5 c0 c1 c2 c3 c4
    go_wp2
    go_ret
    exact⟨ZN HF.out,HB5.out⟩
   | true=>
    rw [hv] at HC
    have HT:=hdd (show(xs.take (j+1)).all (ZH deep)=true by rw [Z3b HX.out,HB.out.2,hv];rfl)
    clear hv
    go_wp2_with fail
    refine HC.out.mono ?_
    rintro e w5 ⟨rfl,hb5⟩
    have HB5:=hdd (HB.out.1.trans (hb5.mono HB.out.1.size))
    clear hb5 c0 c1 c2 c3 c4
    go_wp2
    go_roundg (gk-1)
    case measure=>omega
    case rel=>exact⟨j+1,by omega,by go_num,hdd ⟨HB5.out,HT.out⟩⟩
  ·obtain rfl:j=len:=by omega
   have HF:=hdd (show true=R by
    have h1:=HB.out.2
    rw [List.take_of_length_le (by have:=HI.out.2.1;omega)] at h1
    rw [HR.out,h1])
   go_wp2
   go_ret
   exact⟨ZN HF.out,HB.out.1⟩
theorem Z85 (D:Nat) (hD:Z8X D):Z8X (D+1):=by
 intro deep S cs s w hdp h
 obtain⟨aa,ac,ba,bc,ea,ec,rfl,hb,hA,hB,hE⟩:=h
 obtain⟨op,name,args,body,els⟩:=s
 simp only [Zb.op,Zb.name,Zb.args,Zb.body,Zb.els] at *
 obtain⟨R,hR⟩:∃R,R=ZH deep (.mk op name args body els):=⟨_,rfl⟩
 rw [← hR]
 have HR:=hdd hR
 clear hR
 have hba:Below w.heap.size w (w.alloc (.cells #[.int .i64 op,.string name,.slice aa args.length ac,.slice ba body.length bc,.slice ea els.length ec] 48)):=(bRf _ _).alloc (Nat.le_refl _) _
 have HB:=hdd (aI hba (aI (hA.below (Z1 12) hba) (aI (hB.below (Z0 D) hba) (hE.below (Z0 D) hba))))
 have hrow:=hAn w (.cells #[.int .i64 op,.string name,.slice aa args.length ac,.slice ba body.length bc,.slice ea els.length ec] 48)
 have HL:=hdd (aI hb (aI hD hdp))
 have hla:args.length≤9223372036854775807:=by omega
 clear hba hA hB hE hb hD
 obtain⟨dp,hdq⟩:∃d:Int,d=(deep:Int):=⟨_,rfl⟩
 rw [← hdq]
 have HDP:=hdd hdq
 show Calls _ _ #[.agg #[.int .i64 op,.string name,.slice aa args.length ac,.slice ba body.length bc,.slice ea els.length ec],_] w _
 go_enter Tryz.func104,Tryz.ntmps104
 go_upto_region 1 with fail
 obtain⟨pb,hpb⟩:∃b,b=w.heap.size:=⟨_,rfl⟩
 rw [← hpb] at hrow ⊢
 generalize w.alloc (.cells #[.int .i64 op,.string name,.slice aa args.length ac,.slice ba body.length bc,.slice ea els.length ec] 48)=W1 at hrow HB ⊢
 have HBW:=hdd (show Below w.heap.size w W1 from HB.out.1)
 clear hpb
 have p0:=coR _ _ 0 _ _ _ hrow
 have p1:=coR _ _ 1 _ _ _ hrow
 have p2:=coR _ _ 2 _ _ _ hrow
 have p3:=coR _ _ 3 _ _ _ hrow
 have p4:=coR _ _ 4 _ _ _ hrow
 simp only [ga0,ga1,ga2] at p0 p1 p2 p3 p4
 clear hrow
 cases deep with
 | zero=>
  have hlt:decide (dp<1)=true:=decide_eq_true (by omega)
  have HF:=hdd (show false=R from HR.out.symm)
  clear hdq
  go_quiet (fail)
  go_wp2
  go_ret
  exact⟨ZN HF.out,below_drewN HBW.out _⟩
 | succ d=>
 have hlt:decide (dp<1)=false:=decide_eq_false (by omega)
 have HOF:=hdd (show R=(inE 1 op 8&&(((args.length:Int)==Z3D op)&&(!(Z0D op != Zk name)&&((Z0D op||name.toList.isEmpty)&&(args.all Z1v&&((!(op==8)||(args.getD 0 default).op==13)&&((els.length==0||op==5)&&(body.length==0||op==5||op==6)))))))&&body.all (ZH d)&&els.all (ZH d)) by
  rw [HR.out,← Z8O];rfl)
 have HDQ:=hdd (show wrap64 (dp-1)=(d:Int) by rw [hdq,show((d+1:Nat):Int)-1=(d:Int) by omega];exact IntWalk.wrap64_in _ (by have:=HL.out.2.2;omega))
 clear hdq
 cases h1:inE 1 op 8 with
 | false=>
  have HI:=hdd h1
  have HF:=hdd (show false=R by rw [HOF.out,h1];rfl)
  clear h1
  go_quiet (exact Calls.quiet_of_same (Z0m HI.out _))
  go_wp2
  go_ret
  exact⟨ZN HF.out,below_drewN HBW.out _⟩
 | true=>
  have HI:=hdd h1
  clear h1
  obtain⟨k,hk⟩:∃k,Z3D op=k:=⟨_,rfl⟩
  have HK:=hdd hk
  clear hk
  cases h2:((args.length:Int)==k) with
  | false=>
   have h2n:((args.length:Int) != k)=true:=by simp [bne,h2]
   have HF:=hdd (show false=R by rw [HOF.out,HI.out,HK.out,h2];rfl)
   go_quiet (first|exact Calls.quiet_of_same (Z0m HI.out _)|exact Calls.quiet_of_same (Z6W HK.out _))
   go_wp2
   go_ret
   exact⟨ZN HF.out,below_drewN HBW.out _⟩
  | true=>
   have h2n:((args.length:Int) != k)=false:=by simp [bne,h2]
   have H2:=hdd h2
   go_quiet (first|exact Calls.quiet_of_same (Z0m HI.out _)|exact Calls.quiet_of_same (Z6W HK.out _))
   clear h2 h2n hlt
   have hd1:Below W1.heap.size W1 (W1.drewN nq):=below_drewN (bRf _ _) nq
   have HB2:=hdd (aI (HBW.out.trans (hd1.mono HBW.out.size)) (aI (HB.out.2.1.below (Z1 12) hd1) (aI (HB.out.2.2.1.below (Z0 D) hd1) (HB.out.2.2.2.below (Z0 D) hd1))))
   have q0:=clT hd1 p0
   have q1:=clT hd1 p1
   have q2:=clT hd1 p2
   have q3:=clT hd1 p3
   have q4:=clT hd1 p4
   clear p0 p1 p2 p3 p4 HB HBW hd1
   generalize W1.drewN nq=W2 at HB2 q0 q1 q2 q3 q4 ⊢
   go_upto_region 3 with fail
   go_cut [5] (fun v wx=>v=.bool (Z0D op)∧wx=W2)
   case first=>
    have HN:Z0D op=(op==1||op==2):=rfl
    cases t1:(op==1) with
    | true=>
     rw [t1] at HN
     have HN2:=hdd HN
     clear HN
     go_wp2_with fail
     go_meet
     exact⟨by rw [HN2.out];rfl,rfl⟩
    | false=>
     cases t2:(op==2) with
     | true=>
      rw [t1,t2] at HN
      have HN2:=hdd HN
      clear HN
      go_wp2_with fail
      go_meet
      exact⟨by rw [HN2.out];rfl,rfl⟩
     | false=>
      rw [t1,t2] at HN
      have HN2:=hdd HN
      clear HN
      go_wp2_with fail
      go_meet
      exact⟨by rw [HN2.out];rfl,rfl⟩
   case rest=>
   obtain⟨rfl,rfl⟩:=hcut
   have HNM:=hdd (Z2g name HL.out.1.1 wc)
   go_upto_region 4 with fail
   go_cut [5,45] (fun v5 v wx=>v=.bool ((Z0D op != Zk name)||(!Z0D op&&!name.toList.isEmpty))∧Hid (Below wc.heap.size wc wx))
   case first=>
    as_aux_lemma=>
     cases hN:Z0D op with
     | true=>
      cases hM:Zk name with
      | true=>
       rw [hM] at HNM
       go_wp2_with fail
       refine HNM.out.mono ?_
       rintro e w5 ⟨rfl,hb5⟩
       have HB5:=hdd hb5
       clear hb5 q0 q1 q2 q3 q4
       go_wp2_with fail
       go_meet
       exact⟨by rw [hN,hM];rfl,HB5⟩
      | false=>
       rw [hM] at HNM
       go_wp2_with fail
       refine HNM.out.mono ?_
       rintro e w5 ⟨rfl,hb5⟩
       have HB5:=hdd hb5
       clear hb5 q0 q1 q2 q3 q4
       go_wp2_with fail
       go_meet
       exact⟨by rw [hN,hM];rfl,HB5⟩
     | false=>
      cases hM:Zk name with
      | true=>
       rw [hM] at HNM
       go_wp2_with fail
       refine HNM.out.mono ?_
       rintro e w5 ⟨rfl,hb5⟩
       have HB5:=hdd hb5
       clear hb5 q0 q1 q2 q3 q4
       go_wp2_with fail
       go_meet
       exact⟨by rw [hN,hM];rfl,HB5⟩
      | false=>
       rw [hM] at HNM
       go_wp2_with fail
       refine HNM.out.mono ?_
       rintro e w5 ⟨rfl,hb5⟩
       have HB5:=hdd hb5
       have k1:=clT hb5 q1
       clear hb5 q0 q1 q2 q3 q4
       go_wp2_with fail
       go_meet
       exact⟨by rw [hN,hM];rfl,HB5⟩
   case rest=>
   obtain⟨rfl,HB4⟩:=hcut
   cases hB4:((Z0D op != Zk name)||(!Z0D op&&!name.toList.isEmpty)) with
   | true=>
    have HF:=hdd (show false=R by
     rw [HOF.out,HI.out]
     revert hB4
     generalize (Z0D op != Zk name)=A
     generalize Z0D op=B
     generalize name.toList.isEmpty=C
     cases A<;>cases B<;>cases C<;>simp)
    clear hB4
    have HB5:=hdd (HB2.out.1.trans (HB4.out.mono HB2.out.1.size))
    clear q0 q1 q2 q3 q4
    go_wp2
    go_ret
    exact⟨ZN HF.out,HB5.out⟩
   | false=>
   have HOG:=hdd (show R=((args.all Z1v&&((!(op==8)||(args.getD 0 default).op==13)&&((els.length==0||op==5)&&(body.length==0||op==5||op==6))))&&body.all (ZH d)&&els.all (ZH d)) by
    rw [HOF.out,HI.out,HK.out,H2.out]
    revert hB4
    generalize (Z0D op != Zk name)=A
    generalize Z0D op=B
    generalize name.toList.isEmpty=C
    cases A<;>cases B<;>cases C<;>simp)
   clear hB4 HOF HR HNM
   have hd1:=HB4.out
   replace HB2:=hdd (aI (HB2.out.1.trans (hd1.mono HB2.out.1.size)) (aI (HB2.out.2.1.below (Z1 12) hd1) (aI (HB2.out.2.2.1.below (Z0 D) hd1) (HB2.out.2.2.2.below (Z0 D) hd1))))
   replace q0:=clT hd1 q0
   replace q2:=clT hd1 q2
   replace q3:=clT hd1 q3
   replace q4:=clT hd1 q4
   clear q1 hd1 HB4
   go_upto_region 6 with fail
   go_wp2_with fail
   go_loopg [6] args.length (fun G i wr=>∃(j:Nat),j+G=args.length∧i=.int .i64 j∧Hid (Below wc.heap.size wc wr∧(args.take j).all Z1v=true))
   case atStart=>exact⟨0,by omega,rfl,hdd ⟨bRf _ _,rfl⟩⟩
   case round=>
    obtain⟨j,hj,rfl,HB⟩:=hrel
    by_cases hlt:j<args.length
    ·have hji:(j:Int)<(args.length:Int):=by omega
     have r2:=clT HB.out.1 q2
     obtain⟨b,off,x,xa,xc,rfl,hx,hS,c0,c1,c2,c3⟩:=ZQ (HB2.out.2.1.below (Z1 12) HB.out.1) hlt
     have HC:=hdd (Z5l 12 _ x wr (Z1a hS.1) hS.2)
     have HX:=hdd hx
     clear hx hS q0 q2 q3 q4
     cases hv:(Z0M Zk 6 x).isSome with
     | false=>
      rw [hv] at HC
      have HF:=hdd (show false=R by rw [HOG.out,Z49 HX.out (show Z1v x=false from hv)];rfl)
      clear hv
      go_wp2_with fail
      refine HC.out.mono ?_
      rintro e w5 ⟨rfl,hb5⟩
      have HB5:=hdd (HB2.out.1.trans ((HB.out.1.trans (hb5.mono HB.out.1.size)).mono HB2.out.1.size))
      clear hb5 c0 c1 c2 c3 r2
      go_wp2
      go_ret
      exact⟨ZN HF.out,HB5.out⟩
     | true=>
      rw [hv] at HC
      have HT:=hdd (show(args.take (j+1)).all Z1v=true by rw [Z3b HX.out,HB.out.2,show Z1v x=true from hv];rfl)
      clear hv
      go_wp2_with fail
      refine HC.out.mono ?_
      rintro e w5 ⟨rfl,hb5⟩
      have HB5:=hdd (HB.out.1.trans (hb5.mono HB.out.1.size))
      clear hb5 c0 c1 c2 c3 r2
      go_wp2
      go_roundg (gk-1)
      case measure=>omega
      case rel=>exact⟨j+1,by omega,by go_num,hdd ⟨HB5.out,HT.out⟩⟩
    ·obtain rfl:j=args.length:=by omega
     have HOH:=hdd (show R=(((!(op==8)||(args.getD 0 default).op==13)&&((els.length==0||op==5)&&(body.length==0||op==5||op==6)))&&body.all (ZH d)&&els.all (ZH d)) by
      have h1:=HB.out.2
      rw [List.take_length] at h1
      rw [HOG.out,h1]
      simp)
     clear HOG
     have hd1:=HB.out.1
     replace HB2:=hdd (aI (HB2.out.1.trans (hd1.mono HB2.out.1.size)) (aI (HB2.out.2.1.below (Z1 12) hd1) (aI (HB2.out.2.2.1.below (Z0 D) hd1) (HB2.out.2.2.2.below (Z0 D) hd1))))
     replace q0:=clT hd1 q0
     replace q2:=clT hd1 q2
     replace q3:=clT hd1 q3
     replace q4:=clT hd1 q4
     clear hd1 HB
     have hl0:0<args.length:=by
      have h2:=H2.out
      have h3:=HK.out
      simp only [beq_iff_eq] at h2
      unfold Z3D at h3
      split at h3<;>omega
     obtain⟨ab,aoff,x0,xa,xc,haa,hx0,-,c0,-,-,-⟩:=ZQ HB2.out.2.1 hl0
     rw [Nat.zero_mul,Nat.add_zero] at c0
     have hg:(args.getD 0 default).op=x0.op:=by rw [List.getD_eq_getElem?_getD,hx0];rfl
     rw [hg] at HOH
     subst haa
     have hli:(0:Int)<(args.length:Int):=by omega
     clear hx0 hg hl0
     go_upto_region 11 with fail
     go_cut [70] (fun v wx=>v=.bool ((op==8)&&!(x0.op==13))∧wx=wr)
     case first=>
      as_aux_lemma=>
       cases t8:(op==8) with
       | false=>
        go_wp2_with fail
        go_meet
        exact⟨by rw [t8];rfl,rfl⟩
       | true=>
        cases t13:(x0.op==13) with
        | false=>
         have t13n:(x0.op != 13)=true:=by simp [bne,t13]
         go_wp2_with fail
         go_meet
         exact⟨by rw [t8,t13];rfl,rfl⟩
        | true=>
         have t13n:(x0.op != 13)=false:=by simp [bne,t13]
         go_wp2_with fail
         go_meet
         exact⟨by rw [t8,t13];rfl,rfl⟩
     case rest=>
     obtain⟨rfl,rfl⟩:=hcut
     cases h70:((op==8)&&!(x0.op==13)) with
     | true=>
      have HF:=hdd (show false=R by
       rw [HOH.out]
       revert h70
       generalize (op==8)=A
       generalize (x0.op==13)=B
       cases A<;>cases B<;>simp)
      clear h70
      go_wp2
      go_ret
      exact⟨ZN HF.out,HB2.out.1⟩
     | false=>
     have HOI:=hdd (show R=(((els.length==0||op==5)&&(body.length==0||op==5||op==6))&&body.all (ZH d)&&els.all (ZH d)) by
      rw [HOH.out]
      revert h70
      generalize (op==8)=A
      generalize (x0.op==13)=B
      cases A<;>cases B<;>simp)
     clear h70 HOH c0 hli q2
     go_upto_region 13 with fail
     go_cut [95] (fun v wx=>v=.bool (!((els.length==0||op==5)&&(body.length==0||op==5||op==6)))∧wx=wc)
     case first=>
      as_aux_lemma=>
       by_cases he:els.length=0
       ·have heb:(els.length==0)=true:=by simpa using he
        have hed:¬0<els.length:=by omega
        clear he
        by_cases hb:body.length=0
        ·have hbb:(body.length==0)=true:=by simpa using hb
         have hbd:¬0<body.length:=by omega
         clear hb
         go_wp2_with fail
         go_meet
         exact⟨by rw [heb,hbb];simp,rfl⟩
        ·have hbb:(body.length==0)=false:=by simpa using hb
         have hbd:0<body.length:=by omega
         clear hb
         by_cases t5o:op=5
         ·subst t5o
          go_wp2_with fail
          go_meet
          exact⟨by rw [heb,hbb];simp,rfl⟩
         ·have t5:(op==5)=false:=by simpa using t5o
          have t5n:(op != 5)=true:=by rw [bne,t5];rfl
          clear t5o
          by_cases t6o:op=6
          ·subst t6o
           go_wp2_with fail
           go_meet
           exact⟨by rw [heb,hbb];simp,rfl⟩
          ·have t6:(op==6)=false:=by simpa using t6o
           have t6n:(op != 6)=true:=by rw [bne,t6];rfl
           clear t6o
           go_wp2_with fail
           go_meet
           exact⟨by rw [heb,hbb,t5,t6];simp,rfl⟩
       ·have heb:(els.length==0)=false:=by simpa using he
        have hed:0<els.length:=by omega
        clear he
        by_cases t5o:op=5
        ·subst t5o
         by_cases hb:body.length=0
         ·have hbb:(body.length==0)=true:=by simpa using hb
          have hbd:¬0<body.length:=by omega
          clear hb
          go_wp2_with fail
          go_meet
          exact⟨by rw [heb,hbb];simp,rfl⟩
         ·have hbb:(body.length==0)=false:=by simpa using hb
          have hbd:0<body.length:=by omega
          clear hb
          go_wp2_with fail
          go_meet
          exact⟨by rw [heb,hbb];simp,rfl⟩
        ·have t5:(op==5)=false:=by simpa using t5o
         have t5n:(op != 5)=true:=by rw [bne,t5];rfl
         clear t5o
         go_wp2_with fail
         go_meet
         exact⟨by rw [heb,t5];simp,rfl⟩
     case rest=>
     obtain⟨rfl,rfl⟩:=hcut
     cases h95:((els.length==0||op==5)&&(body.length==0||op==5||op==6)) with
     | false=>
      have HF:=hdd (show false=R by rw [HOI.out,h95];rfl)
      clear h95
      go_wp2
      go_ret
      exact⟨ZN HF.out,HB2.out.1⟩
     | true=>
     have HOJ:=hdd (show R=(body.all (ZH d)&&els.all (ZH d)) by rw [HOI.out,h95];simp)
     clear h95 HOI q0
     have hsub:wrap64 (dp-1)=(d:Int):=HDQ.out
     have HS1:=hdd (Z3r D HL.out.2.1 d S ba body.length bc body wc (by have:=HL.out.2.2;omega) HB2.out.2.2.1 rfl (by have:=HL.out.1;omega))
     cases hv:body.all (ZH d) with
     | false=>
      rw [hv] at HS1
      have HF:=hdd (show false=R by rw [HOJ.out,hv];rfl)
      clear hv
      go_wp2_with fail
      refine HS1.out.mono ?_
      rintro e w5 ⟨rfl,hb5⟩
      have HB5:=hdd (HB2.out.1.trans (hb5.mono HB2.out.1.size))
      clear hb5 q3 q4
      go_wp2
      go_ret
      exact⟨ZN HF.out,HB5.out⟩
     | true=>
      rw [hv] at HS1
      have HT:=hdd (show els.all (ZH d)=R by rw [HOJ.out,hv];rfl)
      clear hv
      go_wp2_with fail
      refine HS1.out.mono ?_
      rintro e w5 ⟨rfl,hb5⟩
      have HB5:=hdd (HB2.out.1.trans (hb5.mono HB2.out.1.size))
      have k4:=clT hb5 q4
      have HS2:=hdd (Z3r D HL.out.2.1 d S ea els.length ec els w5 (by have:=HL.out.2.2;omega) (HB2.out.2.2.2.below (Z0 D) hb5) rfl (by have:=HL.out.1;omega))
      rw [HT.out] at HS2
      clear hb5 q3 q4
      go_wp2_with fail
      refine HS2.out.mono ?_
      rintro e w6 ⟨rfl,hb6⟩
      have HB6:=hdd (HB5.out.trans (hb6.mono HB5.out.size))
      clear hb6 k4
      go_wp2
      go_ret
      exact⟨rfl,HB6.out⟩
theorem Z66:∀D,Z8X D
 | 0=>fun _ _ _ _ _ _ h=>h.elim
 | D+1=>Z85 D (Z66 D)
end Go.Proofs.YtloooebabieeeaaGreatDoor
