/-
  Names: the reference's IsName.
-/
import Derived.Test.YtloooebabieeeaaGreatDoorCp
import Derived.Test.YtloooebabieeeaaGreatDoorNm
import Derived.Test.YtloooebabieeeaaGreatDoorDi
set_option maxRecDepth 100000
set_option maxHeartbeats 16000000
set_option linter.unusedVariables false
namespace Go.Proofs.YtloooebabieeeaaGreatDoor
open Go.RowKit
theorem Z8j (s:ByteArray) (b:Int) (hs:s.size≤1048576) (w:World) :
  Calls Tryz.prog 85 #[.string s,.int .u8 b] w fun e w'=>(∃v:Int,e=.returned (.int .i64 v))∧w'=w:=by
 go_enter Tryz.func85,Tryz.ntmps85
 go_wp2
 go_loop [5] (fun i=>∃k:Nat,k≤s.size∧i=.int .i64 k) (fun i=>s.size-(intOf i).toNat)
 case atStart=>exact⟨0,Nat.zero_le _,rfl⟩
 case round=>
  obtain⟨k,hk,rfl⟩:=hrel
  by_cases hlt:k<s.size
  ·have hki:(k:Int)<(s.size:Int):=by omega
   have hix:∀W,(Instr.index 9 (.string s) (.int .i64 (k:Int))).run Tryz.prog W=.ok (.int .u8 (Z0U s k)) W:=fun W=>Z13 s k hlt W
   generalize Z0U s k=c at hix
   cases hc:c==b with
   | true=>
    go_wp2
    go_ret
    exact⟨⟨_,rfl⟩,rfl⟩
   | false=>
    go_wp2
    go_round
    case rel=>exact⟨k+1,by omega,by go_num⟩
    case measure=>simp [intOf];omega
  ·obtain rfl:k=s.size:=by omega
   go_wp2
   go_ret
   exact⟨⟨_,rfl⟩,rfl⟩
theorem Z7P (c:Int) (hc:0≤c∧c<256) (w:World) :
  Calls Tryz.prog 58 #[.int .u8 c] w fun e w'=>(∃v:Int,e=.returned (.int .i64 v)∧(v==1)=Z68 c)∧w'=w:=by
 by_cases hl:97≤c∧c≤122
 ·have HL:=hdd (show Z68 c=true by simp [Z68,hl.1,hl.2])
  have h1:=hl.1
  have h2:=hl.2
  go_enter Tryz.func58,Tryz.ntmps58
  go_wp2
  go_ret
  exact⟨⟨1,rfl,HL.out.symm⟩,rfl⟩
 ·have HL:=hdd (show Z68 c=false by
   simp only [Z68,Bool.and_eq_false_iff,decide_eq_false_iff_not];omega)
  have HF:=hdd (fun W=>Z8j ⟨#[40,41,123,125,59,44,43,45,42,47,37,60,61,38,33,64]⟩ c (by decide) W)
  have hcs:(¬97≤c)∨(97≤c∧¬c≤122):=by omega
  clear hl
  have hds:(¬48≤c)∨(48≤c∧¬c≤57)∨(48≤c∧c≤57):=by omega
  have h32:c=32∨c=10∨(c≠32∧c≠10):=by omega
  rcases hcs with h1|⟨h1,h2⟩
  all_goals
   rcases hds with h3|⟨h3,h4⟩|⟨h3,h4⟩
   rotate_right
   ·go_enter Tryz.func58,Tryz.ntmps58
    go_wp2
    go_ret
    exact⟨⟨2,rfl,HL.out.symm⟩,rfl⟩
   all_goals
    go_enter Tryz.func58,Tryz.ntmps58
    go_wp2_with fail
    refine(HF.out _).mono ?_
    rintro e w1 ⟨⟨v,rfl⟩,rfl⟩
    by_cases hv:0≤v
    ·clear h32
     go_wp2
     go_ret
     exact⟨⟨3,rfl,HL.out.symm⟩,rfl⟩
    ·rcases h32 with h5|h5|⟨h5,h6⟩
     ·have e1:(c==32)=true:=by simp [h5]
      clear h5
      go_wp2
      all_goals (go_ret;exact⟨⟨4,rfl,HL.out.symm⟩,rfl⟩)
     ·have e1:(c==32)=false:=by simp [h5]
      have e2:(c==10)=true:=by simp [h5]
      clear h5
      go_wp2
      all_goals (go_ret;exact⟨⟨4,rfl,HL.out.symm⟩,rfl⟩)
     ·have e1:(c==32)=false:=by simp [h5]
      have e2:(c==10)=false:=by simp [h6]
      clear h5 h6
      go_wp2
      all_goals (go_ret;exact⟨⟨0,rfl,HL.out.symm⟩,rfl⟩)
theorem Zav (s:ByteArray) (hs:s.size≤maxLen) (w:World) :
  Calls Tryz.prog 103 #[.string s,.int .i64 1] w fun e w'=>e=.returned (.bool (Z0e s s.size&&decide (1≤s.size)))∧w'=w:=by
 have hs2:s.size≤9223372036854775807:=by unfold maxLen at hs;omega
 clear hs
 go_enter Tryz.func103,Tryz.ntmps103
 go_wp2
 go_loop [5] (fun i=>∃k:Nat,k≤s.size∧i=.int .i64 k∧Hid (Z0e s k=true)) (fun i=>s.size-(intOf i).toNat)
 case atStart=>exact⟨0,Nat.zero_le _,rfl,hdd rfl⟩
 case round=>
  obtain⟨k,hk,rfl,HA⟩:=hrel
  by_cases hlt:k<s.size
  ·have hki:(k:Int)<(s.size:Int):=by omega
   have hix:∀W,(Instr.index 9 (.string s) (.int .i64 (k:Int))).run Tryz.prog W=.ok (.int .u8 (Z0U s k)) W:=fun W=>Z13 s k hlt W
   have HC:=hdd (Z7P (Z0U s k) (Z1y s k) w)
   go_wp2_with fail
   refine HC.out.mono ?_
   rintro e w1 ⟨⟨v,rfl,hv⟩,rfl⟩
   cases hl:Z68 (Z0U s k) with
   | true=>
    have HN:=hdd (show Z0e s (k+1)=true by rw [Z0e,HA.out,hl];rfl)
    rw [hl] at hv
    have hv2:(v != 1)=false:=by rw [bne,hv];rfl
    clear hl hv
    go_wp2
    go_round
    case rel=>exact⟨k+1,by omega,by go_num,HN⟩
    case measure=>simp [intOf];omega
   | false=>
    have HN:=hdd (Z2n hlt hl)
    rw [hl] at hv
    have hv2:(v != 1)=true:=by rw [bne,hv];rfl
    clear hl hv
    go_wp2
    go_ret
    exact⟨by rw [HN.out];rfl,rfl⟩
  ·obtain rfl:k=s.size:=by omega
   have HD:=hdd (show decide (0<s.size)=decide (1≤s.size) by
    by_cases h:1≤s.size
    ·rw [decide_eq_true h,decide_eq_true (by omega)]
    ·rw [decide_eq_false h,decide_eq_false (by omega)])
   go_wp2
   go_ret
   refine⟨?_,rfl⟩
   rw [HA.out,Bool.true_and,← HD.out]
   rfl
theorem Z6P (w:World):Calls Tryz.prog 108 #[] w fun e w'=>∃a,e=.returned (.slice a 9 9)∧Z6r w' a 9 ZU∧Below w.heap.size w w':=by
 have HB:=hdd (show Below w.heap.size w (w.alloc (.cells (ZU.map Value.string).toArray 9)) from(bRf _ _).alloc (Nat.le_refl _) _)
 have HS:=hdd (show Z6r (w.alloc (.cells (ZU.map Value.string).toArray 9)) (some ⟨w.heap.size,0,none⟩) 9 ZU from⟨rfl,.inr ⟨_,_,rfl,fun i v hv=>by
  rw [coR _ _ (0+i) _ _ _ (hAn w (.cells (ZU.map Value.string).toArray 9))]
  simpa using hv⟩⟩)
 go_enter Tryz.func108,Tryz.ntmps108
 go_wp2
 go_ret
 exact⟨_,rfl,HS.out,HB.out⟩
theorem Z59 (s:ByteArray) (w:World) :
  Calls Tryz.prog 87 #[.string s] w fun e w'=>e=.returned (.bool (Z6A ZU s))∧Below w.heap.size w w':=by
 go_enter Tryz.func87,Tryz.ntmps87
 go_wp2_with fail
 refine(Z6P w).mono ?_
 rintro e w1 ⟨a,rfl,hS,hb1⟩
 have HB:=hdd hb1
 have HS:=hdd hS
 clear hb1 hS
 go_wp2_with fail
 go_loop [4] (fun i=>∃k:Nat,k≤9∧i=.int .i64 k∧Hid (∀j y,j<k→ZU[j]? = some y→(s.toList==y.toList)=false)) (fun i=>9-(intOf i).toNat)
 case atStart=>exact⟨0,Nat.zero_le _,rfl,hdd (fun j x hj=>by omega)⟩
 case round=>
  obtain⟨k,hk,rfl,hno⟩:=hrel
  by_cases hlt:k<9
  ·obtain⟨b,off,y,rfl,hy,hc⟩:=HS.out.place hlt
   have hki:(k:Int)<9:=by omega
   have HY:=hdd hy
   clear hy
   have HCM:=hdd (Zbr s y)
   cases ht:y.toList==s.toList with
   | true=>
    have HI:=hdd (show Z6A ZU s=true from List.any_eq_true.2 ⟨y,List.mem_of_getElem? HY.out,by rw [HCM.out];exact ht⟩)
    go_wp2
    go_ret
    exact⟨by rw [HI.out];rfl,HB.out⟩
   | false=>
    have HN:=hdd (show(s.toList==y.toList)=false by rw [HCM.out];exact ht)
    go_wp2
    go_round
    case rel=>
     refine⟨k+1,by omega,by go_num,hdd fun j z hj hjz=>?_⟩
     by_cases hjk:j=k
     ·subst hjk
      rw [HY.out] at hjz
      cases hjz
      exact HN.out
     ·exact hno.out j z (by omega) hjz
    case measure=>simp [intOf];omega
  ·obtain rfl:k=9:=by omega
   have HI:=hdd (show Z6A ZU s=false from List.any_eq_false.2 fun y hy=>by
    obtain⟨j,hj⟩:=List.getElem?_of_mem hy
    rw [hno.out j y (List.getElem?_eq_some_iff.1 hj).1 hj]
    simp)
   go_wp2
   go_ret
   exact⟨by rw [HI.out];rfl,HB.out⟩
theorem Z2g (s:ByteArray) (hs:s.size≤maxLen) (w:World) :
  Calls Tryz.prog 81 #[.string s] w fun e w'=>e=.returned (.bool (Zk s))∧Below w.heap.size w w':=by
 have HA:=hdd (Zav s hs w)
 obtain⟨R,hR⟩:∃R,R=Zk s:=⟨_,rfl⟩
 rw [← hR]
 have HR:=hdd hR
 clear hR hs
 cases hl:Z0e s s.size&&decide (1≤s.size) with
 | false=>
  have HN:=hdd (show R=false by
   rw [HR.out,Zk]
   rw [Bool.and_eq_false_iff] at hl
   rcases hl with h|h<;>rw [h]<;>simp)
  rw [hl] at HA
  clear hl
  go_enter Tryz.func81,Tryz.ntmps81
  go_wp2_with fail
  refine HA.out.mono ?_
  rintro e w1 ⟨rfl,rfl⟩
  go_wp2
  go_ret
  exact⟨by rw [HN.out];rfl,bRf _ _⟩
 | true=>
  have HLL:=hdd (show Z0e s s.size=true∧decide (1≤s.size)=true by rw [Bool.and_eq_true] at hl;exact hl)
  rw [hl] at HA
  clear hl
  by_cases h4:s.size≤4
  ·have HN:=hdd (show R = !Z6A ZU s by rw [HR.out,Zk,HLL.out.1,HLL.out.2,decide_eq_true h4];rfl)
   have h4i:(s.size:Int)≤4:=by omega
   have HK:=hdd (Z59 s w)
   generalize Z6A ZU s=c at HN HK
   clear h4
   go_enter Tryz.func81,Tryz.ntmps81
   go_wp2_with fail
   refine HA.out.mono ?_
   rintro e w1 ⟨rfl,rfl⟩
   go_wp2_with fail
   refine HK.out.mono ?_
   rintro e w2 ⟨rfl,hb2⟩
   have HB:=hdd hb2
   clear hb2
   go_wp2
   go_ret
   exact⟨by rw [HN.out];rfl,HB.out⟩
  ·have HN:=hdd (show R=false by rw [HR.out,Zk,decide_eq_false h4];simp)
   have h4i:¬(s.size:Int)≤4:=by omega
   clear h4
   go_enter Tryz.func81,Tryz.ntmps81
   go_wp2_with fail
   refine HA.out.mono ?_
   rintro e w1 ⟨rfl,rfl⟩
   go_wp2
   go_ret
   exact⟨by rw [HN.out];rfl,bRf _ _⟩
end Go.Proofs.YtloooebabieeeaaGreatDoor
