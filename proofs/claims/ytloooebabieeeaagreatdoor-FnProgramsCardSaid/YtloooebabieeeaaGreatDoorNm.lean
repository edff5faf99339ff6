/-
  Names: which texts are names (plain), lists of texts, the program's IsName, the reference's IsName.
-/
import Derived.Test.YtloooebabieeeaaGreatDoorCp
import Derived.Test.YtloooebabieeeaaGreatDoorEx2
import Derived.Test.YtloooebabieeeaaGreatDoorNmLays
import Derived.Deep.LoopGhost
set_option maxRecDepth 100000
set_option maxHeartbeats 16000000
set_option linter.unusedVariables false
namespace Go.Proofs.YtloooebabieeeaaGreatDoor
open Go.RowKit
def Z0U (s:ByteArray) (j:Nat):Int:=((s[j]?).map (fun b=>(b.toNat:Int))).getD 0
theorem Z13 (s:ByteArray) (j:Nat) (h:j<s.size) (w:World):(Instr.index 9 (.string s) (.int .i64 (j:Int))).run Tryz.prog w=.ok (.int .u8 (Z0U s j)) w:=by
 rw [run_index_string w 9 s .i64 j (by kernel_rfl),dif_pos ⟨by omega,by omega⟩]
 have h2:s[j]? = some (s[j]'h):=ByteArray.getElem?_lt' s _ h
 rw [Z0U,h2];rfl
theorem Z1y (s:ByteArray) (j:Nat):0≤Z0U s j∧Z0U s j<256:=by
 unfold Z0U
 cases s[j]? with
 | none=>exact⟨by decide,by decide⟩
 | some b=>exact⟨by simp,by have:=b.toNat_lt;simp;omega⟩
def Z68 (c:Int):Bool:=decide (97≤c)&&decide (c≤122)
def Z0e (s:ByteArray):Nat→Bool
 | 0=>true
 | n+1=>Z0e s n&&Z68 (Z0U s n)
theorem Z4L {s:ByteArray}:∀{n k:Nat},Z0e s n=true→k≤n→Z0e s k=true
 | 0,k,h,hk=>by
   obtain rfl:k=0:=by omega
   exact h
 | n+1,k,h,hk=>by
  by_cases he:k=n+1
  ·subst he;exact h
  ·rw [Z0e,Bool.and_eq_true] at h
   exact Z4L h.1 (by omega)
theorem Z3u {s:ByteArray} {n k:Nat} (h:Z0e s n=true) (hk:k<n):Z68 (Z0U s k)=true:=by
 have:=Z4L h (show k+1≤n by omega)
 rw [Z0e,Bool.and_eq_true] at this
 exact this.2
theorem Z2n {s:ByteArray} {n k:Nat} (hk:k<n) (h:Z68 (Z0U s k)=false):Z0e s n=false:=by
 cases hh:Z0e s n with
 | false=>rfl
 | true=>rw [Z3u hh hk] at h;cases h
def ZU:List ByteArray:=[⟨#[102,110]⟩,⟨#[108,101,116]⟩,⟨#[115,97,121]⟩,⟨#[112,117,116]⟩,⟨#[105,102]⟩,⟨#[101,108,115,101]⟩,⟨#[108,111,111,112]⟩,⟨#[98,97,99,107]⟩,⟨#[100,111]⟩]
def Z6A (xs:List ByteArray) (s:ByteArray):Bool:=xs.any fun x=>s.toList==x.toList
theorem Zbr (a b:ByteArray):(a.toList==b.toList)=(b.toList==a.toList):=by
 rw [Bool.eq_iff_iff,beq_iff_eq,beq_iff_eq];exact eq_comm
def Zk (s:ByteArray):Bool:=decide (1≤s.size)&&(decide (s.size≤4)&&(Z0e s s.size&&!Z6A ZU s))
structure Z6r (w:World) (a:Option Addr) (n:Nat) (xs:List ByteArray):Prop where
 length:xs.length=n
 row:Z0g w a (xs.map Value.string)
theorem Z6r.place {w:World} {a:Option Addr} {n:Nat} {xs:List ByteArray} (h:Z6r w a n xs) {i:Nat} (hi:i<n) :
  ∃b off s,a=some ⟨b,off,none⟩∧xs[i]? = some s∧w.cell? ⟨b,off+i,none⟩=some (.string s):=by
 have hl:=h.length
 have hx:xs[i]? = some (xs[i]'(by omega)):=List.getElem?_eq_getElem (by omega)
 rcases h.row with h0|⟨b,off,rfl,h1⟩
 ·have h2:=congrArg List.length h0
  rw [List.length_map] at h2
  simp only [List.length_nil] at h2
  omega
 ·exact⟨b,off,_,rfl,hx,h1 i _ (by rw [List.getElem?_map,hx];rfl)⟩
def Z9X (s:ByteArray):List ByteArray→Int
 | []=>-1
 | x::xs=>if s.toList==x.toList then 0 else (if Z9X s xs<0 then -1 else Z9X s xs+1)
theorem Z7f {s:ByteArray}:∀{xs:List ByteArray},(∀x∈xs,(s.toList==x.toList)=false)→Z9X s xs = -1
 | [],_=>rfl
 | x::xs,h=>by
  rw [Z9X,if_neg (by rw [h x (by simp)];simp),Z7f (fun y hy=>h y (by simp [hy]))]
  rfl
theorem Z75 {s:ByteArray}:∀{xs:List ByteArray} {k:Nat} {x:ByteArray},(∀j y,j<k→xs[j]? = some y→(s.toList==y.toList)=false)→xs[k]? = some x→(s.toList==x.toList)=true→Z9X s xs=k
 | [],_,_,_,h,_=>by simp at h
 | y::ys,0,x,_,h,hx=>by simp at h;subst h;rw [Z9X,if_pos hx];rfl
 | y::ys,k+1,x,h,hy,hx=>by
  have h1:=h 0 y (by omega) (by simp)
  have h2:=Z75 (xs:=ys) (k:=k) (fun j z hj hz=>h (j+1) z (by omega) (by simpa using hz)) (by simpa using hy) hx
  rw [Z9X,if_neg (by rw [h1];simp),h2,if_neg (by omega)]
  omega
theorem Z96 {s:ByteArray}:∀xs:List ByteArray,decide (0≤Z9X s xs)=Z6A xs s
 | []=>rfl
 | x::xs=>by
  have ih:=Z96 (s:=s) xs
  rw [Z6A,List.any_cons,Z9X]
  cases hx:s.toList==x.toList with
  | true=>rfl
  | false=>
   rw [if_neg (by simp),Bool.false_or]
   rw [← Z6A,← ih]
   by_cases h:Z9X s xs<0
   ·rw [if_pos h,decide_eq_false (by omega),decide_eq_false (by omega)]
   ·rw [if_neg h,decide_eq_true (by omega),decide_eq_true (by omega)]
theorem Z9r (a:Option Addr) (len cap:Nat) (xs:List ByteArray) (s:ByteArray) (w:World) (hin:Z6r w a len xs) (hs:len≤maxLen) :
  Calls Tryz.prog 92 #[.slice a len cap,.string s] w fun e w'=>e=.returned (.int .i64 (Z9X s xs))∧w=w':=by
 have HL:=hdd hin.length
 have hs2:len≤9223372036854775807:=by unfold maxLen at hs;omega
 clear hs
 go_enter Tryz.func92,Tryz.ntmps92
 go_wp2
 go_loop [8] (fun i=>∃k:Nat,k≤len∧i=.int .i64 k∧Hid (∀j y,j<k→xs[j]? = some y→(s.toList==y.toList)=false)) (fun i=>len-(intOf i).toNat)
 case atStart=>exact⟨0,Nat.zero_le _,rfl,hdd (fun j x hj=>by omega)⟩
 case round=>
  obtain⟨k,hk,rfl,hno⟩:=hrel
  by_cases hlt:k<len
  ·obtain⟨b,off,y,rfl,hy,hc⟩:=hin.place hlt
   have HY:=hdd hy
   clear hy
   cases ht:s.toList==y.toList with
   | true=>
    have HI:=hdd (Z75 hno.out HY.out ht)
    go_wp2
    go_ret
    exact⟨by rw [HI.out];rfl,rfl⟩
   | false=>
    have HN:=hdd ht
    go_wp2
    go_round
    case rel=>
     refine⟨k+1,by omega,by go_num,hdd fun j z hj hjz=>?_⟩
     by_cases hjk:j=k
     ·subst hjk
      rw [HY.out] at hjz
      cases hjz
      exact HN.out
     ·exact hno.out j z (by omega) hjz
    case measure=>simp [intOf];omega
  ·obtain rfl:k=len:=by omega
   go_wp2
   go_ret
   refine⟨?_,rfl⟩
   rw [Z7f (fun y hy=>by
    obtain⟨j,hj⟩:=List.getElem?_of_mem hy
    exact hno.out j y (by have:=(List.getElem?_eq_some_iff.1 hj).1;have:=HL.out;omega) hj)]
   rfl
theorem Z3M (a:Option Addr) (len cap:Nat) (xs:List ByteArray) (s:ByteArray) (w:World) (hin:Z6r w a len xs) (hs:len≤maxLen) :
  Calls Tryz.prog 68 #[.slice a len cap,.string s] w fun e w'=>e=.returned (.bool (Z6A xs s))∧w=w':=by
 have HI:=hdd (Z96 (s:=s) xs)
 have HQ:=hdd (Z9r a len cap xs s w hin hs)
 clear hs
 go_enter Tryz.func68,Tryz.ntmps68
 go_wp2_with fail
 refine HQ.out.mono ?_
 rintro e w1 ⟨rfl,rfl⟩
 go_wp2
 go_ret
 exact⟨by rw [← HI.out];rfl,rfl⟩
def Z1F (w:World):Prop:=∀i s,ZU[i]? = some s→w.cell? ⟨0,0+i,none⟩=some (.string s)
theorem Z1F.later {w w':World} (h:Z1F w) (hb:Below w.heap.size w w'):Z1F w':=fun i s hs=>clT hb (h i s hs)
theorem Z1F.strs {w:World} (h:Z1F w):Z6r w (some ⟨0,0,none⟩) 9 ZU:=
 ⟨rfl,.inr ⟨0,0,rfl,fun i v hv=>by
  rw [List.getElem?_map] at hv
  cases hs:ZU[i]? with
  | none=>rw [hs] at hv;cases hv
  | some s=>rw [hs] at hv;cases hv;exact h i s hs⟩⟩
def Z33 (r:Nat):Bool:=decide (r<97)||decide (122<r)
theorem Z7U (r:Nat) (w:World):Calls Tryz.prog 67 #[.int .i32 (r:Int)] w fun e w'=>e=.returned (.bool (Z33 r))∧w'=w:=by
 unfold Z33
 by_cases h1:r<97
 ·have d1:(r:Int)<97:=by omega
  rw [decide_eq_true h1]
  clear h1
  go_enter Tryz.func67,Tryz.ntmps67
  go_wp2
  go_ret
  exact⟨rfl,rfl⟩
 ·have d1:¬(r:Int)<97:=by omega
  rw [decide_eq_false h1]
  clear h1
  by_cases h2:122<r
  ·have d2:(122:Int)<(r:Int):=by omega
   rw [decide_eq_true h2]
   clear h2
   go_enter Tryz.func67,Tryz.ntmps67
   go_wp2
   go_ret
   exact⟨rfl,rfl⟩
  ·have d2:¬(122:Int)<(r:Int):=by omega
   rw [decide_eq_false h2]
   clear h2
   go_enter Tryz.func67,Tryz.ntmps67
   go_wp2
   go_ret
   exact⟨rfl,rfl⟩
theorem Z6F (s:ByteArray) (w:World):Calls Tryz.prog 66 #[.string s,.func (.func 67) #[] #[]] w fun e w'=>e=.returned (.int .i64 (Lib.idxFunc Z33 true s))∧Below w.heap.size w w':=by
 have HQ:=hdd (Go.Proofs.Any.strings_indexFunc Zbp 67 #[] (fun args W=>by kernel_rfl) Z33 true s w (fun W x _=>by
  refine(Z7U x W).mono ?_
  rintro e w' ⟨rfl,rfl⟩
  exact⟨rfl,0,rfl⟩))
 go_enter Tryz.func66,Tryz.ntmps66
 go_wp2_with fail
 refine HQ.out.mono ?_
 rintro e w1 ⟨rfl,hb⟩
 have HB:=hdd hb
 clear hb
 go_wp2
 go_ret
 exact⟨rfl,HB.out⟩
theorem Z9u {n b0 b1 b2 b3:Nat} (h:128≤b0):128≤(Lib.decodeN n b0 b1 b2 b3).1:=by
 unfold Lib.decodeN
 rw [if_neg (by omega)]
 repeat' split
 all_goals (simp only;omega)
theorem Z34 (s:ByteArray):∀(f pos:Nat),pos≤s.size→s.size≤pos+f→Z0e s pos=true→decide (Lib.idxFuncFrom Z33 true s f pos<0)=Z0e s s.size
 | 0,pos,h1,h2,h3=>by
  obtain rfl:pos=s.size:=by omega
  rw [h3];rfl
 | f+1,pos,h1,h2,h3=>by
  rw [Lib.idxFuncFrom]
  by_cases hlt:pos<s.size
  ·rw [if_pos hlt]
   have hg:Z0U s pos=((s.get! pos).toNat:Int):=by
    have e1:s[pos]? = some (s[pos]'hlt):=ByteArray.getElem?_lt' s _ hlt
    have e2:s.get! pos=s[pos]'hlt:=by
     first
      | exact(getElem!_pos s pos hlt)
      | (rw [← getElem!_pos s pos hlt];rfl)
      | (simp [ByteArray.get!,hlt];rfl)
    rw [Z0U,e1,e2];rfl
   by_cases hb:(s.get! pos).toNat<128
   ·have hd:Utf8.decode s pos=((s.get! pos).toNat,1):=by rw [Lib.decode_at,Lib.decodeN,if_pos hb]
    rw [hd]
    simp only
    cases hn:Z33 (s.get! pos).toNat with
    | true=>
     rw [if_pos rfl,decide_eq_false (by omega),Z2n hlt]
     rw [hg]
     simp only [Z33,Bool.or_eq_true,decide_eq_true_eq] at hn
     simp only [Z68,Bool.and_eq_false_iff,decide_eq_false_iff_not]
     omega
    | false=>
     rw [if_neg (by simp)]
     refine Z34 s f (pos+1) (by omega) (by omega) ?_
     rw [Z0e,h3,hg]
     simp only [Z33,Bool.or_eq_false_iff,decide_eq_false_iff_not] at hn
     simp only [Z68,Bool.true_and,Bool.and_eq_true,decide_eq_true_eq]
     omega
   ·have hd:128≤(Utf8.decode s pos).1:=by rw [Lib.decode_at];exact Z9u (by omega)
    rw [if_pos (by rw [Z33,decide_eq_true (show 122<(Utf8.decode s pos).1 by omega),Bool.or_true]),decide_eq_false (by omega),Z2n hlt]
    rw [hg]
    simp only [Z68,Bool.and_eq_false_iff,decide_eq_false_iff_not]
    omega
  ·rw [if_neg hlt]
   obtain rfl:pos=s.size:=by omega
   rw [h3];rfl
theorem Z2a (s:ByteArray) (w:World) (hK:Z1F w) :
  Calls Tryz.prog 42 #[.string s] w fun e w'=>e=.returned (.bool (Zk s))∧Below w.heap.size w w':=by
 have HF:=hdd (Z34 s s.size 0 (by omega) (by omega) rfl)
 have HI:=hdd (Z6F s w)
 have HKK:=hdd hK
 obtain⟨R,hR⟩:∃R,R=Zk s:=⟨_,rfl⟩
 rw [← hR]
 have HR:=hdd hR
 clear hR hK
 cases hin:inE 1 (s.size:Int) 4 with
 | false=>
  have HN:=hdd (show R=false by
   rw [HR.out,Zk]
   simp only [inE,Bool.and_eq_false_iff,decide_eq_false_iff_not] at hin
   by_cases h1:1≤s.size
   ·rw [decide_eq_false (show ¬s.size≤4 by omega)];simp
   ·rw [decide_eq_false h1];simp)
  go_enter Tryz.func42,Tryz.ntmps42
  go_wp2_with fail
  refine(Z0S hin _).mono ?_
  rintro e w1 ⟨rfl,rfl⟩
  clear hin
  go_wp2
  go_ret
  exact⟨by rw [HN.out];rfl,bRf _ _⟩
 | true=>
  have HSZ:=hdd (show 1≤s.size∧s.size≤4 by
   simp only [inE,Bool.and_eq_true,decide_eq_true_eq] at hin
   omega)
  go_enter Tryz.func42,Tryz.ntmps42
  go_wp2_with fail
  refine(Z0S hin _).mono ?_
  rintro e w1 ⟨rfl,rfl⟩
  clear hin
  go_wp2_with fail
  refine HI.out.mono ?_
  rintro e w2 ⟨rfl,hb2⟩
  have H2:=hdd (aI hb2 (HKK.out.later hb2))
  clear hb2
  have HL:=hdd (show decide (Lib.idxFunc Z33 true s<0)=Z0e s s.size from HF.out)
  have HC:=hdd (Z3M (some ⟨0,0,none⟩) 9 9 ZU s w2 H2.out.2.strs (by decide))
  obtain⟨v,hv⟩:∃v,v=Lib.idxFunc Z33 true s:=⟨_,rfl⟩
  rw [← hv] at HL ⊢
  clear hv HF HI
  by_cases hlt:v<0
  ·have HN:=hdd (show R = !Z6A ZU s by
    rw [HR.out,Zk,← HL.out,decide_eq_true hlt,decide_eq_true HSZ.out.1,decide_eq_true HSZ.out.2];rfl)
   go_wp2_with fail
   refine HC.out.mono ?_
   rintro e w3 ⟨rfl,rfl⟩
   go_wp2
   go_ret
   exact⟨by rw [HN.out];rfl,H2.out.1⟩
  ·have HN:=hdd (show R=false by
    rw [HR.out,Zk,← HL.out,decide_eq_false hlt];simp)
   go_wp2
   go_ret
   exact⟨by rw [HN.out];rfl,H2.out.1⟩
end Go.Proofs.YtloooebabieeeaaGreatDoor
