/-
  Expressions: the reference's test of the form (printed by mkes2.py).
-/
import Derived.Test.YtloooebabieeeaaGreatDoorCp
import Derived.Test.YtloooebabieeeaaGreatDoorEy4
import Derived.Test.YtloooebabieeeaaGreatDoorEs1
import Derived.Deep.DeepCutAuto
import Derived.Deep.CutBlock
set_option maxRecDepth 100000
set_option maxHeartbeats 16000000
set_option linter.unusedVariables false
namespace Go.Proofs.YtloooebabieeeaaGreatDoor
open Go.RowKit
def Z0k (e:Z6):Bool:=decide (maxLen<e.name.size)
def Z05:Nat→Z6→Bool
 | 0,_=>false
 | m+1,e=>Z0v Zk e.op e.n e.name e.kids.length&&e.kids.all (Z05 m)
def loK (op:Int):Int:=if op=1∨op=2 then 0 else if op=11∨op=12 then 1 else if op=13 then 0 else 2
def hiK (op:Int):Int:=if op=1∨op=2 then 0 else if op=11∨op=12 then 1 else if op=13 then 3 else 2
theorem Z9d (op:Int) (w:World):Calls Tryz.prog 149 #[.int .i64 op] w fun e w'=>e=.returned (.tuple #[.int .i64 (loK op),.int .i64 (hiK op)])∧w'=w:=by
 by_cases h1:op=1
 ·subst h1
  go_enter Tryz.func149,Tryz.ntmps149
  go_wp2
  go_ret2
  exact⟨rfl,rfl⟩
 by_cases h2:op=2
 ·subst h2
  go_enter Tryz.func149,Tryz.ntmps149
  go_wp2
  go_ret2
  exact⟨rfl,rfl⟩
 by_cases h11:op=11
 ·subst h11
  go_enter Tryz.func149,Tryz.ntmps149
  go_wp2
  go_ret2
  exact⟨rfl,rfl⟩
 by_cases h12:op=12
 ·subst h12
  go_enter Tryz.func149,Tryz.ntmps149
  go_wp2
  go_ret2
  exact⟨rfl,rfl⟩
 by_cases h13:op=13
 ·subst h13
  go_enter Tryz.func149,Tryz.ntmps149
  go_wp2
  go_ret2
  exact⟨rfl,rfl⟩
 have o1:(op==1)=false:=by simpa using h1
 have o2:(op==2)=false:=by simpa using h2
 have o11:(op==11)=false:=by simpa using h11
 have o12:(op==12)=false:=by simpa using h12
 have o13:(op==13)=false:=by simpa using h13
 have HL:=hdd (show loK op=2∧hiK op=2 by rw [loK,hiK,if_neg (by omega),if_neg (by omega),if_neg h13,if_neg (by omega),if_neg (by omega),if_neg h13];exact⟨rfl,rfl⟩)
 clear h1 h2 h11 h12 h13
 go_enter Tryz.func149,Tryz.ntmps149
 go_wp2
 go_ret2
 exact⟨by rw [HL.out.1,HL.out.2];rfl,rfl⟩
def Z7I (m:Nat) (op:Int) (k:Nat):Bool:=decide (m<1)||(!inE 1 op 13||!inE (loK op) k (hiK op))
def Z4E (op n:Int) (name:ByteArray):Bool:=((op==2||op==13) != Zk name)||((!(op==2||op==13)&&!name.toList.isEmpty)||(!inE 0 n 255||(!(op==1)&&!(n==0))))
theorem Z84 {p:Z6→Bool} {d:Nat} {x:Z6} (h:Z1z p (d+1) x=false):p x=false∧∀k∈x.kids,Z1z p d k=false:=by
 rw [Z1z,Bool.or_eq_false_iff] at h
 exact⟨h.1,fun k hk=>by simpa using List.any_eq_false.1 h.2 k hk⟩
theorem Z4g {s:ByteArray} (h:s.toList.isEmpty=true):Zk s=false:=by
 rw [ByteArray.toList_eq,List.isEmpty_iff] at h
 have h2:s.size=0:=by have:=congrArg List.length h;simpa using this
 rw [Zk,decide_eq_false (by omega)];rfl
theorem eqK (k j:Nat):inE (j:Int) (k:Int) (j:Int)=(k==j):=by
 rw [inE,Bool.eq_iff_iff]
 simp only [Bool.and_eq_true,decide_eq_true_eq,beq_iff_eq]
 omega
theorem Z56 (m:Nat) (op n:Int) (name:ByteArray) (k:Nat):(!Z7I (m+1) op k&&!Z4E op n name)=Z0v Zk op n name k:=by
 have hE:=fun h=>Z4g (s:=name) h
 have k0:=eqK k 0
 have k1:=eqK k 1
 have k2:=eqK k 2
 have k3:inE 0 (k:Int) 3=decide (k≤3):=by
  rw [inE,Bool.eq_iff_iff]
  simp only [Bool.and_eq_true,decide_eq_true_eq]
  omega
 have n0:∀z:Int,(z==0)=true→inE 0 z 255=true:=fun z h=>by
  have h:z=0:=by simpa using h
  subst h;decide
 rw [Z7I,decide_eq_false (by omega),Bool.false_or]
 by_cases hr:1≤op∧op≤13
 ·have h13:inE 1 op 13=true:=by simp [inE,hr.1,hr.2]
  rw [h13]
  have hc:op=1∨op=2∨op=3∨op=4∨op=5∨op=6∨op=7∨op=8∨op=9∨op=10∨op=11∨op=12∨op=13:=by omega
  clear hr h13
  have hn0:=n0 n
  clear n0
  rcases hc with rfl|rfl|rfl|rfl|rfl|rfl|rfl|rfl|rfl|rfl|rfl|rfl|rfl
  ·show(!(false||!inE 0 (k:Int) 0)&&!((false != Zk name)||((true&&!name.toList.isEmpty)||(!inE 0 n 255||(false&&!(n==0))))))=(inE 0 n 255&&(name.toList.isEmpty&&k==0))
   rw [show inE 0 (k:Int) 0=(k==0) from k0]
   generalize Zk name=A at hE ⊢
   generalize name.toList.isEmpty=E at hE ⊢
   generalize inE 0 n 255=I at hn0 ⊢
   generalize (k==0)=K
   cases A<;>cases E<;>cases I<;>cases K<;>simp_all
  ·show(!(false||!inE 0 (k:Int) 0)&&!((true != Zk name)||((false&&!name.toList.isEmpty)||(!inE 0 n 255||(true&&!(n==0))))))=(Zk name&&(n==0&&k==0))
   rw [show inE 0 (k:Int) 0=(k==0) from k0]
   generalize Zk name=A at hE ⊢
   generalize name.toList.isEmpty=E at hE ⊢
   generalize inE 0 n 255=I at hn0 ⊢
   generalize (n==0)=Z at hn0 ⊢
   generalize (k==0)=K
   cases A<;>cases E<;>cases I<;>cases K<;>cases Z<;>simp_all
  ·show(!(false||!inE 2 (k:Int) 2)&&!((false != Zk name)||((true&&!name.toList.isEmpty)||(!inE 0 n 255||(true&&!(n==0))))))=(n==0&&(name.toList.isEmpty&&k==2))
   rw [show inE 2 (k:Int) 2=(k==2) from k2]
   generalize Zk name=A at hE ⊢
   generalize name.toList.isEmpty=E at hE ⊢
   generalize inE 0 n 255=I at hn0 ⊢
   generalize (n==0)=Z at hn0 ⊢
   generalize (k==2)=K
   cases A<;>cases E<;>cases I<;>cases K<;>cases Z<;>simp_all
  ·show(!(false||!inE 2 (k:Int) 2)&&!((false != Zk name)||((true&&!name.toList.isEmpty)||(!inE 0 n 255||(true&&!(n==0))))))=(n==0&&(name.toList.isEmpty&&k==2))
   rw [show inE 2 (k:Int) 2=(k==2) from k2]
   generalize Zk name=A at hE ⊢
   generalize name.toList.isEmpty=E at hE ⊢
   generalize inE 0 n 255=I at hn0 ⊢
   generalize (n==0)=Z at hn0 ⊢
   generalize (k==2)=K
   cases A<;>cases E<;>cases I<;>cases K<;>cases Z<;>simp_all
  ·show(!(false||!inE 2 (k:Int) 2)&&!((false != Zk name)||((true&&!name.toList.isEmpty)||(!inE 0 n 255||(true&&!(n==0))))))=(n==0&&(name.toList.isEmpty&&k==2))
   rw [show inE 2 (k:Int) 2=(k==2) from k2]
   generalize Zk name=A at hE ⊢
   generalize name.toList.isEmpty=E at hE ⊢
   generalize inE 0 n 255=I at hn0 ⊢
   generalize (n==0)=Z at hn0 ⊢
   generalize (k==2)=K
   cases A<;>cases E<;>cases I<;>cases K<;>cases Z<;>simp_all
  ·show(!(false||!inE 2 (k:Int) 2)&&!((false != Zk name)||((true&&!name.toList.isEmpty)||(!inE 0 n 255||(true&&!(n==0))))))=(n==0&&(name.toList.isEmpty&&k==2))
   rw [show inE 2 (k:Int) 2=(k==2) from k2]
   generalize Zk name=A at hE ⊢
   generalize name.toList.isEmpty=E at hE ⊢
   generalize inE 0 n 255=I at hn0 ⊢
   generalize (n==0)=Z at hn0 ⊢
   generalize (k==2)=K
   cases A<;>cases E<;>cases I<;>cases K<;>cases Z<;>simp_all
  ·show(!(false||!inE 2 (k:Int) 2)&&!((false != Zk name)||((true&&!name.toList.isEmpty)||(!inE 0 n 255||(true&&!(n==0))))))=(n==0&&(name.toList.isEmpty&&k==2))
   rw [show inE 2 (k:Int) 2=(k==2) from k2]
   generalize Zk name=A at hE ⊢
   generalize name.toList.isEmpty=E at hE ⊢
   generalize inE 0 n 255=I at hn0 ⊢
   generalize (n==0)=Z at hn0 ⊢
   generalize (k==2)=K
   cases A<;>cases E<;>cases I<;>cases K<;>cases Z<;>simp_all
  ·show(!(false||!inE 2 (k:Int) 2)&&!((false != Zk name)||((true&&!name.toList.isEmpty)||(!inE 0 n 255||(true&&!(n==0))))))=(n==0&&(name.toList.isEmpty&&k==2))
   rw [show inE 2 (k:Int) 2=(k==2) from k2]
   generalize Zk name=A at hE ⊢
   generalize name.toList.isEmpty=E at hE ⊢
   generalize inE 0 n 255=I at hn0 ⊢
   generalize (n==0)=Z at hn0 ⊢
   generalize (k==2)=K
   cases A<;>cases E<;>cases I<;>cases K<;>cases Z<;>simp_all
  ·show(!(false||!inE 2 (k:Int) 2)&&!((false != Zk name)||((true&&!name.toList.isEmpty)||(!inE 0 n 255||(true&&!(n==0))))))=(n==0&&(name.toList.isEmpty&&k==2))
   rw [show inE 2 (k:Int) 2=(k==2) from k2]
   generalize Zk name=A at hE ⊢
   generalize name.toList.isEmpty=E at hE ⊢
   generalize inE 0 n 255=I at hn0 ⊢
   generalize (n==0)=Z at hn0 ⊢
   generalize (k==2)=K
   cases A<;>cases E<;>cases I<;>cases K<;>cases Z<;>simp_all
  ·show(!(false||!inE 2 (k:Int) 2)&&!((false != Zk name)||((true&&!name.toList.isEmpty)||(!inE 0 n 255||(true&&!(n==0))))))=(n==0&&(name.toList.isEmpty&&k==2))
   rw [show inE 2 (k:Int) 2=(k==2) from k2]
   generalize Zk name=A at hE ⊢
   generalize name.toList.isEmpty=E at hE ⊢
   generalize inE 0 n 255=I at hn0 ⊢
   generalize (n==0)=Z at hn0 ⊢
   generalize (k==2)=K
   cases A<;>cases E<;>cases I<;>cases K<;>cases Z<;>simp_all
  ·show(!(false||!inE 1 (k:Int) 1)&&!((false != Zk name)||((true&&!name.toList.isEmpty)||(!inE 0 n 255||(true&&!(n==0))))))=(n==0&&(name.toList.isEmpty&&k==1))
   rw [show inE 1 (k:Int) 1=(k==1) from k1]
   generalize Zk name=A at hE ⊢
   generalize name.toList.isEmpty=E at hE ⊢
   generalize inE 0 n 255=I at hn0 ⊢
   generalize (n==0)=Z at hn0 ⊢
   generalize (k==1)=K
   cases A<;>cases E<;>cases I<;>cases K<;>cases Z<;>simp_all
  ·show(!(false||!inE 1 (k:Int) 1)&&!((false != Zk name)||((true&&!name.toList.isEmpty)||(!inE 0 n 255||(true&&!(n==0))))))=(n==0&&(name.toList.isEmpty&&k==1))
   rw [show inE 1 (k:Int) 1=(k==1) from k1]
   generalize Zk name=A at hE ⊢
   generalize name.toList.isEmpty=E at hE ⊢
   generalize inE 0 n 255=I at hn0 ⊢
   generalize (n==0)=Z at hn0 ⊢
   generalize (k==1)=K
   cases A<;>cases E<;>cases I<;>cases K<;>cases Z<;>simp_all
  ·show(!(false||!inE 0 (k:Int) 3)&&!((true != Zk name)||((false&&!name.toList.isEmpty)||(!inE 0 n 255||(true&&!(n==0))))))=(Zk name&&(n==0&&decide (k≤3)))
   rw [k3]
   generalize Zk name=A at hE ⊢
   generalize name.toList.isEmpty=E at hE ⊢
   generalize inE 0 n 255=I at hn0 ⊢
   generalize (n==0)=Z at hn0 ⊢
   generalize decide (k≤3)=K
   cases A<;>cases E<;>cases I<;>cases K<;>cases Z<;>simp_all
 ·have h13:inE 1 op 13=false:=by
   rw [inE,Bool.and_eq_false_iff,decide_eq_false_iff_not,decide_eq_false_iff_not];omega
  have hl:¬0<lvl op:=by
   rw [lvl,if_neg (by omega),if_neg (by omega),if_neg (by omega),if_neg (by omega)];omega
  rw [h13,Z0v,if_neg (by omega),if_neg (by omega),if_neg (by omega),if_neg hl,if_neg (by omega)]
  rfl
theorem Z8S {m:Nat} {x:Z6} (h:Z7I m x.op x.kids.length=true∨Z4E x.op x.n x.name=true):Z05 m x=false:=by
 cases m with
 | zero=>rfl
 | succ m=>
  rw [Z05,← Z56 m]
  rcases h with h|h<;>rw [h]<;>simp
theorem Z53 (m d:Nat) (cs:List Value) (x:Z6) (w:World) (hm:m≤6) (hx:ZX d w cs x) (hN:Z1z Z0k d x=false)
  (hih:∀m',m=m'+1→∀(d:Nat) (cs:List Value) (x:Z6) (w:World),ZX d w cs x→Z1z Z0k d x=false→
   Calls Tryz.prog 136 #[.agg cs.toArray,.int .i64 (m':Int)] w fun e w'=>e=.returned (.bool (Z05 m' x))∧Below w.heap.size w w') :
  Calls Tryz.prog 136 #[.agg cs.toArray,.int .i64 (m:Int)] w fun e w'=>e=.returned (.bool (Z05 m x))∧Below w.heap.size w w':=by
 cases d with
 | zero=>exact hx.elim
 | succ d=>
 obtain⟨op,n,name,kids⟩:=x
 obtain⟨hNl,hNk⟩:=Z84 hN
 obtain⟨ka,kc,rfl,⟨hkl,hop⟩,hks⟩:=hx
 simp only [Z6.op,Z6.n,Z6.name,Z6.kids] at hkl hop hks hNk ⊢
 have hkl2:kids.length≤9223372036854775807:=by unfold maxLen at hkl;omega
 show Calls _ _ #[.agg #[.int .i64 op,.int .i64 n,.string name,.slice ka kids.length kc],_] w _
 have hnl:name.size≤maxLen:=by
  have h:decide (maxLen<name.size)=false:=hNl
  simpa using h
 have hba:Below w.heap.size w (w.alloc (.cells #[.int .i64 op,.int .i64 n,.string name,.slice ka kids.length kc] 64)):=(bRf _ _).alloc (Nat.le_refl _) _
 have hrow:=hAn w (.cells #[.int .i64 op,.int .i64 n,.string name,.slice ka kids.length kc] 64)
 have e0:=coR _ _ 0 _ _ _ hrow
 have e1:=coR _ _ 1 _ _ _ hrow
 have e2:=coR _ _ 2 _ _ _ hrow
 have e3:=coR _ _ 3 _ _ _ hrow
 simp only [ga0,ga1,ga2] at e0 e1 e2 e3
 have HB:=hdd hba
 have HK:=hdd (aI (hks.later (Zg d) hba) hNk)
 have HNM:=hdd (fun W=>Z2g name hnl W)
 obtain⟨R,hR⟩:∃R,R=Z05 m (Z6.mk op n name kids):=⟨_,rfl⟩
 rw [← hR]
 have HR:=hdd hR
 clear hba hrow hks hNk hNl hN hnl hR hop
 go_enter Tryz.func136,Tryz.ntmps136
 go_upto_region 1 with fail
 obtain⟨b,hb⟩:∃b,b=w.heap.size:=⟨_,rfl⟩
 generalize w.alloc (.cells #[.int .i64 op,.int .i64 n,.string name,.slice ka kids.length kc] 64)=W1 at HB HK e0 e1 e2 e3 ⊢
 rw [← hb] at e0 e1 e2 e3 ⊢
 clear hb
 have HKD:=hdd (Z9d op W1)
 have HLH:=hdd (fun lo hi (h1:lo=loK op) (h2:hi=hiK op)=>show inE (loK op) kids.length (hiK op)=inE lo kids.length hi by rw [h1,h2])
 obtain⟨lo,hlo⟩:∃v,v=loK op:=⟨_,rfl⟩
 obtain⟨hi,hhi⟩:∃v,v=hiK op:=⟨_,rfl⟩
 have HLO:=hdd (HLH.out lo hi hlo hhi)
 rw [← hlo,← hhi] at HKD
 clear HLH hlo hhi
 go_wp2_with fail
 refine HKD.out.mono ?_
 rintro e w2 ⟨rfl,rfl⟩
 clear HKD
 go_upto_region 2 with fail
 generalize w2=W1 at *
 go_cut [31] (fun s wx=>wx=W1∧∃bad:Bool,s=.bool bad∧Hid (bad=Z7I m op kids.length))
 case first=>
  by_cases hm1:(m:Int)<1
  ·have HN:=hdd (show true=Z7I m op kids.length by rw [Z7I,decide_eq_true (show m<1 by omega)];rfl)
   go_wp2
   go_meet
   exact⟨rfl,_,rfl,HN⟩
  ·have hmn:¬m<1:=by omega
   cases h13:inE 1 op 13 with
   | false=>
    have HN:=hdd (show true=Z7I m op kids.length by rw [Z7I,h13];simp)
    go_wp2_with fail
    refine(Z0m h13 _).mono ?_
    rintro e w3 ⟨rfl,rfl⟩
    clear h13
    go_wp2
    go_meet
    exact⟨rfl,_,rfl,HN⟩
   | true=>
    cases hk:inE lo kids.length hi with
    | false=>
     have HN:=hdd (show true=Z7I m op kids.length by rw [Z7I,HLO.out,hk];simp)
     go_wp2_with fail
     refine(Z0m h13 _).mono ?_
     rintro e w3 ⟨rfl,rfl⟩
     clear h13
     go_wp2_with fail
     refine(Z0m hk _).mono ?_
     rintro e w4 ⟨rfl,rfl⟩
     clear hk
     go_wp2
     go_meet
     exact⟨rfl,_,rfl,HN⟩
    | true=>
     have HN:=hdd (show false=Z7I m op kids.length by rw [Z7I,HLO.out,hk,h13,decide_eq_false hmn];rfl)
     go_wp2_with fail
     refine(Z0m h13 _).mono ?_
     rintro e w3 ⟨rfl,rfl⟩
     clear h13
     go_wp2_with fail
     refine(Z0m hk _).mono ?_
     rintro e w4 ⟨rfl,rfl⟩
     clear hk
     go_wp2
     go_meet
     exact⟨rfl,_,rfl,HN⟩
 case rest=>
 obtain⟨hw,bad,rfl,HB1⟩:=hcut
 subst hw
 cases bad with
 | true=>
  have HN:=hdd (show R=false from HR.out.trans (Z8S (.inl HB1.out.symm)))
  go_wp2
  go_ret
  exact⟨by rw [HN.out];rfl,HB.out⟩
 | false=>
 go_upto_region 4 with fail
 go_cut [7] (fun s wx=>wx=wc∧∃nm:Bool,s=.bool nm∧Hid (nm=(op==2||op==13)))
 case first=>
  by_cases h2:op=2
  ·have HN:=hdd (show true=(op==2||op==13) by simp [h2])
   subst h2
   go_wp2
   go_meet
   exact⟨rfl,_,rfl,HN⟩
  ·have o2:(op==2)=false:=by simpa using h2
   have HN:=hdd (show(op==13)=(op==2||op==13) by rw [o2];rfl)
   clear h2
   go_wp2
   go_meet
   exact⟨rfl,_,rfl,HN⟩
 case rest=>
 obtain⟨hw,nm,rfl,HNV⟩:=hcut
 subst hw
 generalize wc=W1 at *
 go_upto_region 5 with fail
 go_cut [69] (fun s wx=>Hid (Below W1.heap.size W1 wx)∧∃bad:Bool,s=.bool bad∧Hid (bad=Z4E op n name))
 case first=>
  cases nm with
  | true=>
   have o1:(op==1)=false:=by
    by_cases h:op=1
    ·have h2:=HNV.out;rw [h] at h2;cases h2
    ·simpa using h
   have o1b:(op != 1)=true:=by rw [bne,o1];rfl
   cases hA:Zk name with
   | false=>
    have HQ:=hdd (HNM.out W1)
    rw [hA] at HQ
    have HN:=hdd (show true=Z4E op n name by rw [Z4E,← HNV.out,hA];rfl)
    clear hA
    go_wp2_with fail
    refine HQ.out.mono ?_
    rintro e w2 ⟨rfl,hb2⟩
    have HE:=hdd hb2
    have e0:=clT hb2 e0
    have e1:=clT hb2 e1
    have e2:=clT hb2 e2
    clear hb2
    go_wp2
    go_meet
    exact⟨HE,_,rfl,HN⟩
   | true=>
    have HQ:=hdd (HNM.out W1)
    rw [hA] at HQ
    cases hin:inE 0 n 255 with
    | false=>
     have HN:=hdd (show true=Z4E op n name by rw [Z4E,← HNV.out,hA,hin];rfl)
     clear hA
     go_wp2_with fail
     refine HQ.out.mono ?_
     rintro e w2 ⟨rfl,hb2⟩
     have HE:=hdd hb2
     have e0:=clT hb2 e0
     have e1:=clT hb2 e1
     have e2:=clT hb2 e2
     clear hb2
     go_wp2_with fail
     refine(Z0m hin _).mono ?_
     rintro e w3 ⟨rfl,rfl⟩
     clear hin
     go_wp2
     go_meet
     exact⟨HE,_,rfl,HN⟩
    | true=>
     by_cases hn:n=0
     ·have hn1:(n != 0)=false:=by simp [hn]
      have HN:=hdd (show false=Z4E op n name by rw [Z4E,← HNV.out,hA,hin,o1,show(n==0)=true by simp [hn]];rfl)
      clear hA hn
      go_wp2_with fail
      refine HQ.out.mono ?_
      rintro e w2 ⟨rfl,hb2⟩
      have HE:=hdd hb2
      have e0:=clT hb2 e0
      have e1:=clT hb2 e1
      have e2:=clT hb2 e2
      clear hb2
      go_wp2_with fail
      refine(Z0m hin _).mono ?_
      rintro e w3 ⟨rfl,rfl⟩
      clear hin
      go_wp2
      go_meet
      exact⟨HE,_,rfl,HN⟩
     ·have hn1:(n != 0)=true:=by simp [hn]
      have HN:=hdd (show true=Z4E op n name by rw [Z4E,← HNV.out,hA,hin,o1,show(n==0)=false by simp [hn]];rfl)
      clear hA hn
      go_wp2_with fail
      refine HQ.out.mono ?_
      rintro e w2 ⟨rfl,hb2⟩
      have HE:=hdd hb2
      have e0:=clT hb2 e0
      have e1:=clT hb2 e1
      have e2:=clT hb2 e2
      clear hb2
      go_wp2_with fail
      refine(Z0m hin _).mono ?_
      rintro e w3 ⟨rfl,rfl⟩
      clear hin
      go_wp2
      go_meet
      exact⟨HE,_,rfl,HN⟩
  | false=>
   cases hA:Zk name with
   | true=>
    have HQ:=hdd (HNM.out W1)
    rw [hA] at HQ
    have HN:=hdd (show true=Z4E op n name by rw [Z4E,← HNV.out,hA];rfl)
    clear hA
    go_wp2_with fail
    refine HQ.out.mono ?_
    rintro e w2 ⟨rfl,hb2⟩
    have HE:=hdd hb2
    have e0:=clT hb2 e0
    have e1:=clT hb2 e1
    have e2:=clT hb2 e2
    clear hb2
    go_wp2
    go_meet
    exact⟨HE,_,rfl,HN⟩
   | false=>
    have HQ:=hdd (HNM.out W1)
    rw [hA] at HQ
    cases hem:name.toList.isEmpty with
    | false=>
     have HN:=hdd (show true=Z4E op n name by rw [Z4E,← HNV.out,hA,hem];rfl)
     clear hA
     go_wp2_with fail
     refine HQ.out.mono ?_
     rintro e w2 ⟨rfl,hb2⟩
     have HE:=hdd hb2
     have e0:=clT hb2 e0
     have e1:=clT hb2 e1
     have e2:=clT hb2 e2
     clear hb2
     go_wp2
     go_meet
     exact⟨HE,_,rfl,HN⟩
    | true=>
     cases hin:inE 0 n 255 with
     | false=>
      have HN:=hdd (show true=Z4E op n name by rw [Z4E,← HNV.out,hA,hem,hin];rfl)
      clear hA
      go_wp2_with fail
      refine HQ.out.mono ?_
      rintro e w2 ⟨rfl,hb2⟩
      have HE:=hdd hb2
      have e0:=clT hb2 e0
      have e1:=clT hb2 e1
      have e2:=clT hb2 e2
      clear hb2
      go_wp2_with fail
      refine(Z0m hin _).mono ?_
      rintro e w3 ⟨rfl,rfl⟩
      clear hin
      go_wp2
      go_meet
      exact⟨HE,_,rfl,HN⟩
     | true=>
      by_cases h1:op=1
      ·have o1:(op != 1)=false:=by simp [h1]
       have HN:=hdd (show false=Z4E op n name by rw [Z4E,← HNV.out,hA,hem,hin,show(op==1)=true by simp [h1]];rfl)
       clear hA h1
       go_wp2_with fail
       refine HQ.out.mono ?_
       rintro e w2 ⟨rfl,hb2⟩
       have HE:=hdd hb2
       have e0:=clT hb2 e0
       have e1:=clT hb2 e1
       have e2:=clT hb2 e2
       clear hb2
       go_wp2_with fail
       refine(Z0m hin _).mono ?_
       rintro e w3 ⟨rfl,rfl⟩
       clear hin
       go_wp2
       go_meet
       exact⟨HE,_,rfl,HN⟩
      ·have o1:(op != 1)=true:=by simp [h1]
       by_cases hn:n=0
       ·have hn1:(n != 0)=false:=by simp [hn]
        have HN:=hdd (show false=Z4E op n name by rw [Z4E,← HNV.out,hA,hem,hin,show(op==1)=false by simp [h1],show(n==0)=true by simp [hn]];rfl)
        clear hA hn h1
        go_wp2_with fail
        refine HQ.out.mono ?_
        rintro e w2 ⟨rfl,hb2⟩
        have HE:=hdd hb2
        have e0:=clT hb2 e0
        have e1:=clT hb2 e1
        have e2:=clT hb2 e2
        clear hb2
        go_wp2_with fail
        refine(Z0m hin _).mono ?_
        rintro e w3 ⟨rfl,rfl⟩
        clear hin
        go_wp2
        go_meet
        exact⟨HE,_,rfl,HN⟩
       ·have hn1:(n != 0)=true:=by simp [hn]
        have HN:=hdd (show true=Z4E op n name by rw [Z4E,← HNV.out,hA,hem,hin,show(op==1)=false by simp [h1],show(n==0)=false by simp [hn]];rfl)
        clear hA hn h1
        go_wp2_with fail
        refine HQ.out.mono ?_
        rintro e w2 ⟨rfl,hb2⟩
        have HE:=hdd hb2
        have e0:=clT hb2 e0
        have e1:=clT hb2 e1
        have e2:=clT hb2 e2
        clear hb2
        go_wp2_with fail
        refine(Z0m hin _).mono ?_
        rintro e w3 ⟨rfl,rfl⟩
        clear hin
        go_wp2
        go_meet
        exact⟨HE,_,rfl,HN⟩
 case rest=>
 obtain⟨HWC,bad,rfl,HB2⟩:=hcut
 cases bad with
 | true=>
  have HN:=hdd (show R=false from HR.out.trans (Z8S (.inr HB2.out.symm)))
  have HE:=hdd (HB.out.trans (HWC.out.mono HB.out.size))
  go_wp2
  go_ret
  exact⟨by rw [HN.out];rfl,HE.out⟩
 | false=>
  have hm1:¬m<1:=by
   have h1:=HB1.out.symm
   rw [Z7I,Bool.or_eq_false_iff,decide_eq_false_iff_not] at h1
   exact h1.1
  obtain⟨m',rfl⟩:∃m',m=m'+1:=⟨m-1,by omega⟩
  have HF:=hdd (show R=kids.all (Z05 m') by
   have hh:=Z56 m' op n name kids.length
   rw [← HB1.out,← HB2.out] at hh
   have hh2:Z0v Zk op n name kids.length=true:=hh.symm
   have h0:Z05 (m'+1) (Z6.mk op n name kids)=(Z0v Zk op n name kids.length&&kids.all (Z05 m')):=rfl
   rw [HR.out,h0,hh2,Bool.true_and])
  have HIH:=hdd (hih m' rfl)
  have e3:=clT HWC.out e3
  have HBW:=hdd (HB.out.trans (HWC.out.mono HB.out.size))
  have HKW:=hdd (aI (HK.out.1.later (Zg d) HWC.out) HK.out.2)
  have HE3:=hdd e3
  clear hih e0 e1 e2 HB1 HB2 HR HNM hm1 HB HK HWC e3
  go_wp2_with fail
  go_loopg [8] kids.length (fun G i wr=>∃j:Nat,j+G=kids.length∧i=.int .i64 j∧Hid (Below wc.heap.size wc wr∧(kids.take j).all (Z05 m')=true))
  case atStart=>exact⟨0,by omega,rfl,hdd ⟨bRf _ _,rfl⟩⟩
  case round=>
   obtain⟨j,hj,rfl,HQR⟩:=hrel
   have e3:=clT HQR.out.1 HE3.out
   by_cases hlt:j<kids.length
   ·obtain⟨b1,o1,k,cs1,rfl,hk,hkR,k1,k2,rfl,c0,c1,c2,c3⟩:=Z0r (HKW.out.1.later (Zg d) HQR.out.1) hlt
    have hki:(j:Int)<(kids.length:Int):=by omega
    have HQ:=hdd (HIH.out d _ k wr hkR (HKW.out.2 k (List.mem_of_getElem? hk)))
    have HT:=hdd (show kids.take (j+1)=kids.take j++[k] from Z0n hk)
    have HMK:=hdd (List.mem_of_getElem? hk)
    clear hk hkR
    go_wp2_with fail
    refine HQ.out.mono ?_
    rintro e w5 ⟨rfl,hb5⟩
    have HE:=hdd (HQR.out.1.trans (hb5.mono HQR.out.1.size))
    clear hb5 c0 c1 c2 c3 e3
    cases hf:Z05 m' k with
    | true=>
     have HN:=hdd (show(kids.take (j+1)).all (Z05 m')=true by rw [HT.out,List.all_append,HQR.out.2];simp [hf])
     clear hf
     go_wp2
     go_roundg (gk-1)
     case measure=>omega
     case rel=>exact⟨j+1,by omega,by go_num,hdd ⟨HE.out,HN.out⟩⟩
    | false=>
     have HN:=hdd (show R=false by
      rw [HF.out]
      exact List.all_eq_false.2 ⟨k,HMK.out,by rw [hf];simp⟩)
     clear hf
     go_wp2
     go_ret
     exact⟨by rw [HN.out];rfl,HBW.out.trans (HE.out.mono HBW.out.size)⟩
   ·obtain rfl:j=kids.length:=by omega
    have HN:=hdd (show R=true by rw [HF.out];have:=HQR.out.2;rw [List.take_length] at this;exact this)
    go_wp2
    go_ret
    exact⟨by rw [HN.out];rfl,HBW.out.trans (HQR.out.1.mono HBW.out.size)⟩
theorem Z9t:∀(m d:Nat) (cs:List Value) (x:Z6) (w:World),m≤6→ZX d w cs x→Z1z Z0k d x=false→
  Calls Tryz.prog 136 #[.agg cs.toArray,.int .i64 (m:Int)] w fun e w'=>e=.returned (.bool (Z05 m x))∧Below w.heap.size w w':=by
 intro m
 induction m with
 | zero=>exact fun d cs x w h1 h2 h3=>Z53 0 d cs x w h1 h2 h3 (fun m' h=>by omega)
 | succ n ih=>exact fun d cs x w h1 h2 h3=>Z53 (n+1) d cs x w h1 h2 h3 (fun m' h d cs x w=>by
   obtain rfl:n=m':=by omega
   exact ih d cs x w (by omega))
def Z0X:Nat→Z6→Nat
 | 0,_=>1
 | d+1,e=>1+(e.kids.map (Z0X d)).sum
def cap (m:Nat):Nat:=4 ^ m
theorem Z8Q (m:Nat):cap (m+1)=4*cap m:=by rw [cap,cap,Nat.pow_succ];omega
theorem Zce (m:Nat):1≤cap m:=by
 induction m with
 | zero=>decide
 | succ m ih=>rw [Z8Q];omega
theorem Zc0 {f:Z6→Nat} {c:Nat}:∀{ks:List Z6},(∀k∈ks,f k≤c)→(ks.map f).sum≤ks.length*c
 | [],_=>by simp
 | k::ks,h=>by
  have h1:=h k (by simp)
  have h2:=Zc0 (ks:=ks) (fun x hx=>h x (by simp [hx]))
  rw [List.map_cons,List.sum_cons,List.length_cons,Nat.succ_mul]
  omega
theorem Z2X {op n:Int} {name:ByteArray} {k:Nat} (h:Z0v Zk op n name k=true):k≤3:=by
 have h2:=Z56 0 op n name k
 rw [h] at h2
 have h3:Z7I 1 op k=false:=by
  cases hb:Z7I 1 op k with
  | false=>rfl
  | true=>rw [hb] at h2;simp at h2
 rw [Z7I,Bool.or_eq_false_iff,Bool.or_eq_false_iff] at h3
 have h4:inE (loK op) k (hiK op)=true:=by simpa using h3.2.2
 have h5:hiK op≤3:=by
  unfold hiK
  repeat' split
  all_goals omega
 simp only [inE,Bool.and_eq_true,decide_eq_true_eq] at h4
 omega
theorem Z0Q {m:Nat} {x:Z6} (h:Z05 (m+1) x=true):Z0v Zk x.op x.n x.name x.kids.length=true∧∀k∈x.kids,Z05 m k=true:=by
 rw [Z05,Bool.and_eq_true] at h
 exact⟨h.1,fun k hk=>List.all_eq_true.1 h.2 k hk⟩
theorem Z7l:∀(m:Nat) (x:Z6),Z05 m x=true→Z0X m x≤cap m
 | 0,x,h=>by cases h
 | m+1,x,h=>by
  obtain⟨h1,h2⟩:=Z0Q h
  have h3:=Z2X h1
  have h4:=Zc0 (f:=Z0X m) (c:=cap m) (ks:=x.kids) (fun k hk=>Z7l m k (h2 k hk))
  have h5:x.kids.length*cap m≤3*cap m:=Nat.mul_le_mul_right _ h3
  have h6:=Zce m
  rw [Z0X,Z8Q]
  omega
theorem Z3w {m:Nat} (hf:∀x,(∀q,Z0M Zk m x=some q→Z05 m x=true∧q.1=Z0X m x)∧(Z05 m x=true→Z0X m x≤30→Z0M Zk m x≠none)):∀(ks:List Z6) (p d:Nat),
  (∀q,Z1b (Z0M Zk m) ks p d=some q→ks.all (Z05 m)=true∧q.1=p+(ks.map (Z0X m)).sum∧q.1≤30)∧(ks.all (Z05 m)=true→p+(ks.map (Z0X m)).sum≤30→Z1b (Z0M Zk m) ks p d≠none)
 | [],p,d=>by
  refine⟨fun q hq=>?_,fun _ h=>?_⟩
  ·rw [Z1b] at hq
   split at hq
   ·cases hq;exact⟨rfl,by simp,by assumption⟩
   ·cases hq
  ·have h:p≤30:=by simpa using h
   rw [Z1b,if_pos h];simp
 | k::ks,p,d=>by
  refine⟨fun q hq=>?_,fun h1 h2=>?_⟩
  ·rw [Z1b] at hq
   split at hq
   ·cases hq
   ·rename_i n d' hk
    obtain⟨a1,a2⟩:=(hf k).1 _ hk
    obtain⟨b1,b2,b3⟩:=(Z3w hf ks (p+n) (max d (d'+1))).1 q hq
    simp only at a2
    refine⟨by rw [List.all_cons,a1,b1];rfl,by rw [b2,a2,List.map_cons,List.sum_cons];omega,b3⟩
  ·rw [List.all_cons,Bool.and_eq_true] at h1
   rw [List.map_cons,List.sum_cons] at h2
   have hk:=(hf k).2 h1.1 (by omega)
   rw [Z1b]
   split
   ·rename_i hk2;exact absurd hk2 hk
   ·rename_i n d' hk2
    obtain⟨_,a2⟩:=(hf k).1 _ hk2
    simp only at a2
    exact(Z3w hf ks (p+n) (max d (d'+1))).2 h1.2 (by omega)
theorem Z7c:∀(m:Nat) (x:Z6),(∀q,Z0M Zk m x=some q→Z05 m x=true∧q.1=Z0X m x)∧(Z05 m x=true→Z0X m x≤30→Z0M Zk m x≠none)
 | 0,x=>⟨fun q h=>(by cases h),fun h=>by cases h⟩
 | m+1,x=>by
  obtain⟨f1,f2⟩:=Z3w (Z7c m) x.kids 1 1
  refine⟨fun q hq=>?_,fun h1 h2=>?_⟩
  ·rw [Z0M] at hq
   split at hq
   ·rename_i hh
    obtain⟨a1,a2,_⟩:=f1 q hq
    exact⟨by rw [Z05,hh,a1];rfl,a2⟩
   ·cases hq
  ·rw [Z05,Bool.and_eq_true] at h1
   rw [Z0M,if_pos h1.1]
   exact f2 h1.2 h2
theorem Z5H (m:Nat) (x:Z6):(Z05 m x&&decide (Z0X m x≤30))=(Z0M Zk m x).isSome:=by
 obtain⟨h1,h2⟩:=Z7c m x
 cases hs:Z0M Zk m x with
 | none=>
  cases hf:Z05 m x with
  | false=>rfl
  | true=>
   by_cases hp:Z0X m x≤30
   ·exact absurd hs (h2 hf hp)
   ·rw [decide_eq_false hp];rfl
 | some q=>
  obtain⟨a1,a2⟩:=h1 q hs
  have:=Z4U hs
  rw [a1,decide_eq_true (by omega)];rfl
theorem Z7Y:∀(m d:Nat) (cs:List Value) (x:Z6) (w:World),m≤6→ZX d w cs x→Z05 m x=true→
  Calls Tryz.prog 137 #[.agg cs.toArray] w fun e w'=>e=.returned (.int .i64 (Z0X m x:Int))∧Below w.heap.size w w':=by
 intro m
 induction m with
 | zero=>exact fun d cs x w _ _ h=>by cases h
 | succ m ih=>
 intro d cs x w hm hx hf
 cases d with
 | zero=>exact hx.elim
 | succ d=>
 obtain⟨ka,kc,rfl,⟨hkl,hop⟩,hks⟩:=hx
 obtain⟨hh,hfk⟩:=Z0Q hf
 have hk3:=Z2X hh
 have hba:Below w.heap.size w (w.alloc (.cells #[.int .i64 x.op,.int .i64 x.n,.string x.name,.slice ka x.kids.length kc] 64)):=(bRf _ _).alloc (Nat.le_refl _) _
 have hrow:=hAn w (.cells #[.int .i64 x.op,.int .i64 x.n,.string x.name,.slice ka x.kids.length kc] 64)
 have e3:=coR _ _ 3 _ _ _ hrow
 simp only [ga0,ga1,ga2] at e3
 have HB:=hdd hba
 have HK:=hdd (aI (hks.later (Zg d) hba) hfk)
 have HIH:=hdd (fun k (hk:k∈x.kids) cs' W (hx':ZX d W cs' k)=>ih d cs' k W (by omega) hx' (hfk k hk))
 have HC:=hdd (fun k (hk:k∈x.kids)=>Z7l m k (hfk k hk))
 have hcap:cap m≤1024:=by
  have:cap m≤cap 5:=Nat.pow_le_pow_right (by omega) (by omega)
  exact this
 have HF:=hdd (show Z0X (m+1) x=1+(x.kids.map (Z0X m)).sum from rfl)
 generalize Z0X (m+1) x=R at HF ⊢
 clear hba hrow hks hfk hh hf hop ih
 go_enter Tryz.func137,Tryz.ntmps137
 go_upto_region 1 with fail
 obtain⟨b,hb⟩:∃b,b=w.heap.size:=⟨_,rfl⟩
 generalize w.alloc (.cells #[.int .i64 x.op,.int .i64 x.n,.string x.name,.slice ka x.kids.length kc] 64)=W1 at HB HK e3 ⊢
 rw [← hb] at e3 ⊢
 clear hb
 have HE3:=hdd e3
 clear e3
 go_wp2_with fail
 go_loopg [3,4] x.kids.length (fun G n i wr=>∃j s:Nat,j+G=x.kids.length∧i=.int .i64 j∧n=.int .i64 s∧s≤1+j*1024∧Hid (Below W1.heap.size W1 wr∧s=1+((x.kids.take j).map (Z0X m)).sum))
 case atStart=>exact⟨0,1,by omega,rfl,rfl,by omega,hdd ⟨bRf _ _,rfl⟩⟩
 case round=>
  obtain⟨j,s,hj,rfl,rfl,hs,HR⟩:=hrel
  have e3:=clT HR.out.1 HE3.out
  by_cases hlt:j<x.kids.length
  ·obtain⟨b1,o1,k,cs1,rfl,hk,hkR,k1,k2,rfl,c0,c1,c2,c3⟩:=Z0r (HK.out.1.later (Zg d) HR.out.1) hlt
   have hki:(j:Int)<(x.kids.length:Int):=by omega
   have HQ:=hdd (HIH.out k (List.mem_of_getElem? hk) _ wr hkR)
   have HT:=hdd (show x.kids.take (j+1)=x.kids.take j++[k] from Z0n hk)
   have hpk:=HC.out k (List.mem_of_getElem? hk)
   clear hk hkR
   have HN:=hdd (show s+Z0X m k=1+((x.kids.take (j+1)).map (Z0X m)).sum by rw [HT.out,List.map_append,List.sum_append,HR.out.2];simp;omega)
   generalize Z0X m k=pk at hpk HQ HN
   go_wp2_with fail
   refine HQ.out.mono ?_
   rintro e w5 ⟨rfl,hb5⟩
   have HE:=hdd (HR.out.1.trans (hb5.mono HR.out.1.size))
   clear hb5 c0 c1 c2 c3 e3
   go_wp2
   go_roundg (gk-1)
   case measure=>omega
   case rel=>exact⟨j+1,s+pk,by omega,by go_num,by go_num,by omega,hdd ⟨HE.out,HN.out⟩⟩
  ·obtain rfl:j=x.kids.length:=by omega
   have HN:=hdd (show s=R by have:=HR.out.2;rw [List.take_length] at this;rw [HF.out];exact this)
   go_wp2
   go_ret
   exact⟨by rw [← HN.out];rfl,HB.out.trans (HR.out.1.mono HB.out.size)⟩
theorem Z5l (d:Nat) (cs:List Value) (x:Z6) (w:World) (hx:ZX d w cs x) (hN:Z1z Z0k d x=false) :
  Calls Tryz.prog 122 #[.agg cs.toArray] w fun e w'=>e=.returned (.bool (Z0M Zk 6 x).isSome)∧Below w.heap.size w w':=by
 cases d with
 | zero=>exact hx.elim
 | succ d=>
 have hx2:=hx
 obtain⟨ka,kc,rfl,_,_⟩:=hx2
 have hba:Below w.heap.size w (w.alloc (.cells #[.int .i64 x.op,.int .i64 x.n,.string x.name,.slice ka x.kids.length kc] 64)):=(bRf _ _).alloc (Nat.le_refl _) _
 have hrow:=hAn w (.cells #[.int .i64 x.op,.int .i64 x.n,.string x.name,.slice ka x.kids.length kc] 64)
 have e0:=coR _ _ 0 _ _ _ hrow
 have e1:=coR _ _ 1 _ _ _ hrow
 have e2:=coR _ _ 2 _ _ _ hrow
 have e3:=coR _ _ 3 _ _ _ hrow
 simp only [ga0,ga1,ga2] at e0 e1 e2 e3
 have HQ:=hdd (Z9t 6 (d+1) _ x _ (by omega) (Zg (d+1) _ _ _ _ hba hx) hN)
 have HX:=hdd (aI hba (Zg (d+1) _ _ _ _ hba hx))
 have HV:=hdd (Z5H 6 x)
 generalize (Z0M Zk 6 x).isSome=R at HV ⊢
 clear hba hrow hx hN
 cases hf:Z05 6 x with
 | false=>
  have HN:=hdd (show R=false by rw [← HV.out,hf];rfl)
  rw [hf] at HQ
  clear hf
  go_enter Tryz.func122,Tryz.ntmps122
  go_wp2_with fail
  refine HQ.out.mono ?_
  rintro e w5 ⟨rfl,hb5⟩
  have HE:=hdd (HX.out.1.trans (hb5.mono HX.out.1.size))
  clear hb5
  go_wp2
  go_ret
  exact⟨by rw [HN.out];rfl,HE.out⟩
 | true=>
  have HFT:=hdd hf
  have HN:=hdd (show R=decide (Z0X 6 x≤30) by rw [← HV.out,hf];rfl)
  rw [hf] at HQ
  clear hf
  go_enter Tryz.func122,Tryz.ntmps122
  go_wp2_with fail
  refine HQ.out.mono ?_
  rintro e w5 ⟨rfl,hb5⟩
  have HE:=hdd (HX.out.1.trans (hb5.mono HX.out.1.size))
  have f0:=clT hb5 e0
  have f1:=clT hb5 e1
  have f2:=clT hb5 e2
  have f3:=clT hb5 e3
  have HP:=hdd (Z7Y 6 (d+1) _ x w5 (by omega) (Zg (d+1) _ _ _ _ hb5 HX.out.2) HFT.out)
  clear hb5 e0 e1 e2 e3
  generalize Z0X 6 x=p at HN HP
  go_wp2_with fail
  refine HP.out.mono ?_
  rintro e w6 ⟨rfl,hb6⟩
  have HE6:=hdd (HE.out.trans (hb6.mono HE.out.size))
  clear hb6 f0 f1 f2 f3
  have HD:=hdd (show decide ((p:Int)≤30)=decide (p≤30) by
   by_cases h:p≤30
   ·rw [decide_eq_true h,decide_eq_true (by omega)]
   ·rw [decide_eq_false h,decide_eq_false (by omega)])
  go_wp2
  go_ret
  refine⟨?_,HE6.out⟩
  rw [HN.out,← HD.out]
  rfl
end Go.Proofs.YtloooebabieeeaaGreatDoor
