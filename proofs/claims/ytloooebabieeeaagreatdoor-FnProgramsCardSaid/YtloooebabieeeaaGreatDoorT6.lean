/-
  The reference's text of an expression is the text of its words.
-/
import Derived.Test.YtloooebabieeeaaGreatDoorCp
import Derived.Test.YtloooebabieeeaaGreatDoorCq
import Derived.Test.YtloooebabieeeaaGreatDoorT1
import Derived.Test.YtloooebabieeeaaGreatDoorHl
set_option maxRecDepth 100000
set_option maxHeartbeats 16000000
set_option linter.unusedVariables false
namespace Go.Proofs.YtloooebabieeeaaGreatDoor
open Go.RowKit
theorem Z2H {op k:Int} (h:ZL op=k) (w:World):Calls Tryz.prog 111 #[.int .i64 op] w fun e w'=>e=.returned (.int .i64 k)∧w'=w:=by rw [← h];exact Z4o op w
theorem ZE {a b:List Z7} (ha:a≠[]) (hb:b≠[]):Zl a++(⟨#[32]⟩:ByteArray)++Zl b=Zl (a++b):=by
 rw [Z1S ha,Z5Z hb,ByteArray.append_assoc];rfl
theorem Z25 {α : Type} {f:α→List Z7}:∀(ks:List α) (i j:Nat) (k:α),ks[j]? = some k→Zr i ((ks.take (j+1)).map f)=Zr i ((ks.take j).map f)++(if i+j=0 then [] else [sgW 44])++f k
 | [],i,j,k,h=>by simp at h
 | x::ks,i,0,k,h=>by
  cases h
  simp [Zr]
 | x::ks,i,j+1,k,h=>by
  have h:ks[j]? = some k:=h
  rw [List.take_succ_cons,List.map_cons,Zr,Z25 ks (i+1) j k h,List.take_succ_cons,List.map_cons,Zr,show i+1+j=i+(j+1) by omega]
  simp
theorem Z8N (c:UInt8):Zam [sgW c]=⟨#[32,c]⟩:=rfl
theorem Z0q {a:List Z7} (ha:a≠[]) (c:UInt8):Zl a++(⟨#[32,c]⟩:ByteArray)=Zl (a++[sgW c]):=by rw [Z1S ha,Z8N]
theorem ZO {d:Nat} {e:Z6} {need:Int} (hd:d≤6) (h:Z05 d e=true):(Zl (Z9 d e need)).size≤163840:=by
 have h1:=Z1k (Z23 d e need h)
 have h2:=Z29 d e need h
 have h3:(4:Nat) ^ d≤4 ^ 6:=Nat.pow_le_pow_right (by omega) hd
 have h4:(4:Nat) ^ 6=4096:=by decide
 omega
theorem Z12 {d:Nat} {e:Z6} {need:Int} (h:Z05 d e=true):Z9 d e need≠[]:=by
 obtain⟨w,r,he,_⟩:=Z46 d e need h
 rw [he];simp
theorem Zad {d:Nat} {s:ByteArray} {ks:List Z6} (hd:d≤6) (hs:Zk s=true) (hf:∀k∈ks,Z05 d k=true) (hl:ks.length≤3) (j:Nat):(Zl (nmW s::sgW 40::Zr 0 ((ks.take j).map fun k=>Z9 d k 1))).size≤900000:=by
 have hft:∀k∈ks.take j,Z05 d k=true:=fun k hk=>hf k (List.mem_of_mem_take hk)
 have hok:∀w∈nmW s::sgW 40::Zr 0 ((ks.take j).map fun k=>Z9 d k 1),ZV w:=by
  intro w hw
  rcases List.mem_cons.1 hw with rfl|hw
  ·exact .name s hs
  rcases List.mem_cons.1 hw with rfl|hw
  ·exact .sign 40 (by decide)
  ·generalize ks.take j=xs at hft hw
   cases xs with
   | nil=>cases hw
   | cons k ks=>
    rw [List.map_cons,Zr,Z1K,if_pos rfl] at hw
    simp only [List.nil_append,List.mem_append,List.mem_flatMap,List.mem_map,List.mem_cons] at hw
    rcases hw with hw|⟨l,⟨k2,hk2,rfl⟩,rfl|hw⟩
    ·exact Z23 d k 1 (hft k (by simp)) w hw
    ·exact .sign 44 (by decide)
    ·exact Z23 d k2 1 (hft k2 (by simp [hk2])) w hw
 have h1:=Z1k hok
 have h4:=Z2D (f:=fun k=>Z9 d k 1) (B:=8*4 ^ d) (ks.take j) 0 (fun x hx=>Z29 d x 1 (hft x hx))
 have h3:(4:Nat) ^ d≤4 ^ 6:=Nat.pow_le_pow_right (by omega) hd
 have h5:(4:Nat) ^ 6=4096:=by decide
 have h6:(ks.take j).length*(8*4 ^ d+1)≤3*(8*4 ^ d+1):=Nat.mul_le_mul_right _ (by rw [List.length_take];omega)
 rw [List.length_cons,List.length_cons] at h1
 omega
theorem ZaU {a:List Z7} (ha:a≠[]):(⟨#[40,32]⟩:ByteArray)++Zl a++(⟨#[32,41]⟩:ByteArray)=Zl (Z3h true a):=by
 have h1:Zl [sgW 40]++(⟨#[32]⟩:ByteArray)++Zl a=Zl ([sgW 40]++a):=ZE (by simp) ha
 have h2:(⟨#[40,32]⟩:ByteArray)=Zl [sgW 40]++(⟨#[32]⟩:ByteArray):=rfl
 rw [h2,h1,Z0q (by simp)]
 rfl
theorem Zc6 {op:Int} (h3:3≤op∧op≤10):∃L:Nat,1≤L∧L≤4∧lvl op=(L:Int):=by
 have h:op=3∨op=4∨op=5∨op=6∨op=7∨op=8∨op=9∨op=10:=by omega
 rcases h with rfl|rfl|rfl|rfl|rfl|rfl|rfl|rfl
 ·exact⟨3,by omega,by omega,rfl⟩
 ·exact⟨3,by omega,by omega,rfl⟩
 ·exact⟨4,by omega,by omega,rfl⟩
 ·exact⟨4,by omega,by omega,rfl⟩
 ·exact⟨4,by omega,by omega,rfl⟩
 ·exact⟨2,by omega,by omega,rfl⟩
 ·exact⟨2,by omega,by omega,rfl⟩
 ·exact⟨1,by omega,by omega,rfl⟩
def Zcg (d:Nat):Prop:=∀(D:Nat) (cs:List Value) (x:Z6) (need:Int) (w:World),Z05 d x=true→ZX D w cs x→1≤need→need≤5→
 Calls Tryz.prog 90 #[.agg cs.toArray,.int .i64 need] w fun e w'=>e=.returned (.string (Zl (Z9 d x need)))∧Below w.heap.size w w'
structure ZaQ (w W:World) (op n:Int) (s:ByteArray) (v:Value):Prop where
 row:W.heap[w.heap.size]? = some (.cells #[.int .i64 op,.int .i64 n,.string s,v] 64 (0,0))
 below:Below w.heap.size w W
theorem ZaQ.start (w:World) (op n:Int) (s:ByteArray) (v:Value):ZaQ w (w.alloc (.cells #[.int .i64 op,.int .i64 n,.string s,v] 64)) op n s v:=
 ⟨hAn w _,(bRf _ _).alloc (Nat.le_refl _) _⟩
theorem ZaQ.later {w W W':World} {op n:Int} {s:ByteArray} {v:Value} (h:ZaQ w W op n s v) (hb:Below W.heap.size W W'):ZaQ w W' op n s v:=
 ⟨(hb.block _ (gsI h.row).1).trans h.row,h.below.trans (hb.mono h.below.size)⟩
theorem ZaQ.cells {w W:World} {op n:Int} {s:ByteArray} {v:Value} (h:ZaQ w W op n s v):W.cell? ⟨w.heap.size,0,none⟩=some (.int .i64 op)∧W.cell? ⟨w.heap.size,1,none⟩=some (.int .i64 n)∧W.cell? ⟨w.heap.size,2,none⟩=some (.string s)∧W.cell? ⟨w.heap.size,3,none⟩=some v:=by
 refine⟨?_,?_,?_,?_⟩<;>(rw [coR _ _ _ _ _ _ h.row];rfl)
theorem Z7T (d:Nat) (hd:d+1≤6) (ih:Zcg d):Zcg (d+1):=by
 intro D cs x need w hf hx hn1 hn5
 obtain⟨op,n,s,ks⟩:=x
 obtain⟨h1,h2⟩:=Z0Q hf
 replace h1:Z0v Zk op n s ks.length=true:=h1
 replace h2:∀k∈ks,Z05 d k=true:=h2
 cases D with
 | zero=>exact hx.elim
 | succ D=>
 obtain⟨ka,kc,rfl,-,hks⟩:=hx
 replace hks:Z03 4 (ZX D) w ka ks.length ks:=hks
 show Calls _ _ #[.agg #[.int .i64 op,.int .i64 n,.string s,.slice ka ks.length kc],_] w _
 have HBX:=hdd (ZaQ.start w op n s (.slice ka ks.length kc))
 have HKS:=hdd hks
 have HSH:=hdd (Z1M (ks:=ks) h1)
 have HFK:=hdd h2
 have HIH:=hdd ih
 have hkl:ks.length≤3:=Z2X h1
 have HFF:=hdd hf
 have HNN:=hdd (aI hn1 hn5)
 obtain⟨R,hR⟩:∃R,R=Zl (Z9 (d+1) (.mk op n s ks) need):=⟨_,rfl⟩
 rw [← hR]
 have HR:=hdd hR
 clear hR hks h1 h2 ih hf
 go_enter Tryz.func90,Tryz.ntmps90
 go_upto_region 1 with fail
 obtain⟨rb,hrb⟩:∃b,b=w.heap.size:=⟨_,rfl⟩
 generalize w.alloc (.cells #[.int .i64 op,.int .i64 n,.string s,.slice ka ks.length kc] 64)=W1 at HBX ⊢
 have HC:=hdd HBX.out.cells
 rw [← hrb] at HC ⊢
 have HRB:=hdd hrb
 clear hrb
 obtain⟨p0,p1,p2,p3⟩:=HC.out
 rcases HSH.out with⟨rfl,h3,h4,rfl,rfl⟩|⟨rfl,rfl,h3,rfl⟩|⟨rfl,rfl,h3⟩|⟨h3,rfl,rfl,x,rfl⟩|⟨h3,rfl,rfl,x,y,rfl⟩
 ·
  obtain⟨m,rfl⟩:∃m:Nat,n=(m:Int):=⟨n.toNat,by omega⟩
  have hlt:¬(6:Int)<need:=by omega
  go_wp2_with fail
  refine(Z2H (op:=1) (k:=6) rfl W1).mono ?_
  rintro e w1 ⟨rfl,rfl⟩
  go_wp2_with fail
  refine(Z86 m (by omega) w1).mono ?_
  rintro e w2 ⟨rfl,hb2⟩
  have HE:=hdd (show Z1f m=R∧Below w.heap.size w w2 from⟨by
   rw [HR.out,Z0Z,decide_eq_false (by show ¬(6:Int)<need;omega),if_pos rfl]
   exact(Z0G (nbW m)).symm,(HBX.out.later hb2).below⟩)
  clear hb2 p0 p1 p2 p3
  go_wp2
  go_ret
  exact⟨congrArg (fun s=>Ending.returned (Value.string s)) HE.out.1,HE.out.2⟩
 ·
  have hlt:¬(6:Int)<need:=by omega
  go_wp2_with fail
  refine(Z2H (op:=2) (k:=6) rfl W1).mono ?_
  rintro e w1 ⟨rfl,rfl⟩
  have HE:=hdd (show s=R∧Below w.heap.size w w1 from⟨by
   rw [HR.out,Z0Z,decide_eq_false (by show ¬(6:Int)<need;omega),if_neg (by decide),if_pos rfl]
   exact(Z0G (nmW s)).symm,HBX.out.below⟩)
  go_wp2
  go_ret
  exact⟨congrArg (fun s=>Ending.returned (Value.string s)) HE.out.1,HE.out.2⟩
 ·
  have hlt:¬(6:Int)<need:=by omega
  have hs4:s.size≤4:=(Z0t h3).2.1
  have hsa:s.size+(⟨#[32,40]⟩:ByteArray).size≤9223372036854775807:=by show s.size+2≤_;omega
  have HPS:=hdd (fun j=>Zad (s:=s) (by omega) h3 HFK.out hkl j)
  go_wp2_with fail
  refine(Z2H (op:=13) (k:=6) rfl W1).mono ?_
  rintro e w1 ⟨rfl,rfl⟩
  go_wp2_with fail
  go_loopg [6,7] ks.length (fun G o i wr=>∃(j:Nat) (T:ByteArray),j+G=ks.length∧i=.int .i64 j∧o=.string T∧Hid (T=Zl (nmW s::sgW 40::Zr 0 ((ks.take j).map fun k=>Z9 d k 1))∧Below w1.heap.size w1 wr))
  case atStart=>exact⟨0,_,by omega,rfl,rfl,hdd ⟨by
   show s++(⟨#[32,40]⟩:ByteArray)=Zl ([nmW s]++[sgW 40])
   rw [Z1S (by simp),Z0G,Z8N];rfl,bRf _ _⟩⟩
  case round=>
   obtain⟨j,T,hj,rfl,rfl,HG⟩:=hrel
   have g3:=clT HG.out.2 p3
   have hT:T.size≤900000:=by rw [HG.out.1];exact HPS.out j
   clear p0 p1 p2 p3 hsa hs4 HPS
   by_cases hjl:j<ks.length
   ·have HBr:=hdd (HBX.out.below.trans (HG.out.2.mono HBX.out.below.size))
    obtain⟨b1,o1,k,cs1,rfl,hk,hkR,k1,k2,rfl,c0,c1,c2,c3⟩:=Z0r (HKS.out.later (Zg D) HBr.out) hjl
    have hki:(j:Int)<(ks.length:Int):=by omega
    have hfk:=HFK.out k (List.mem_of_getElem? hk)
    have HKR:=hdd hkR
    have HKT:=hdd (Z25 (f:=fun k=>Z9 d k 1) ks 0 j k hk)
    have HNE:=hdd (Z12 (need:=1) hfk)
    have HCK:=hdd (fun W hW=>HIH.out D [.int .i64 k.op,.int .i64 k.n,.string k.name,.slice k1 k.kids.length k2] k 1 W hfk (Zg D _ _ _ _ hW HKR.out) (by omega) (by omega))
    obtain⟨U,hU⟩:∃U,U=Zl (Z9 d k 1):=⟨_,rfl⟩
    have hUs:U.size≤163840:=by rw [hU];exact ZO (by omega) hfk
    rw [← hU] at HCK
    have HU:=hdd hU
    clear hU hfk hkR hk
    by_cases h0:j=0
    ·have h0i:¬(0:Int)<(j:Int):=by omega
     have H0:=hdd h0
     clear h0
     have s1:T.size+(⟨#[32]⟩:ByteArray).size≤9223372036854775807:=by show T.size+1≤_;omega
     have s2:(T++(⟨#[32]⟩:ByteArray)).size+U.size≤9223372036854775807:=by rw [ByteArray.size_append];show T.size+1+_≤_;omega
     go_wp2_with fail
     refine(HCK.out _ (bRf _ _)).mono ?_
     rintro e w5 ⟨rfl,hb5⟩
     have HN:=hdd (show T++(⟨#[32]⟩:ByteArray)++U=Zl (nmW s::sgW 40::Zr 0 ((ks.take (j+1)).map fun k=>Z9 d k 1))∧Below w1.heap.size w1 w5 from⟨by
      rw [HU.out,HG.out.1,ZE (by simp) HNE.out,HKT.out,if_pos (by have:=H0.out;omega)]
      simp,HG.out.2.trans (hb5.mono HG.out.2.size)⟩)
     clear hb5 g3 c0 c1 c2 c3
     go_wp2
     go_roundg (gk-1)
     case measure=>omega
     case rel=>exact⟨j+1,_,by omega,by go_num,rfl,HN⟩
    ·have h0i:(0:Int)<(j:Int):=by omega
     have s0:T.size+(⟨#[32,44]⟩:ByteArray).size≤9223372036854775807:=by show T.size+2≤_;omega
     have s1:(T++(⟨#[32,44]⟩:ByteArray)).size+(⟨#[32]⟩:ByteArray).size≤9223372036854775807:=by rw [ByteArray.size_append];show T.size+2+1≤_;omega
     have s2:(T++(⟨#[32,44]⟩:ByteArray)++(⟨#[32]⟩:ByteArray)).size+U.size≤9223372036854775807:=by rw [ByteArray.size_append,ByteArray.size_append];show T.size+2+1+_≤_;omega
     go_wp2_with fail
     refine(HCK.out _ (bRf _ _)).mono ?_
     rintro e w5 ⟨rfl,hb5⟩
     have HN:=hdd (show T++(⟨#[32,44]⟩:ByteArray)++(⟨#[32]⟩:ByteArray)++U=Zl (nmW s::sgW 40::Zr 0 ((ks.take (j+1)).map fun k=>Z9 d k 1))∧Below w1.heap.size w1 w5 from⟨by
      rw [HU.out,HG.out.1,Z0q (by simp),ZE (by simp) HNE.out,HKT.out,if_neg (by omega)]
      simp,HG.out.2.trans (hb5.mono HG.out.2.size)⟩)
     clear hb5 g3 c0 c1 c2 c3
     go_wp2
     go_roundg (gk-1)
     case measure=>omega
     case rel=>exact⟨j+1,_,by omega,by go_num,rfl,HN⟩
   ·obtain rfl:j=ks.length:=by omega
    have hji:¬(ks.length:Int)<(ks.length:Int):=by omega
    have s0:T.size+(⟨#[32,41]⟩:ByteArray).size≤9223372036854775807:=by show T.size+2≤_;omega
    have HE:=hdd (show T++(⟨#[32,41]⟩:ByteArray)=R∧Below w.heap.size w wr from⟨by
     rw [HR.out,Z0Z,decide_eq_false (by show ¬(6:Int)<need;omega),if_neg (by decide),if_neg (by decide),if_pos rfl,HG.out.1,List.take_length,Z0q (by simp)]
     rfl,(HBX.out.later HG.out.2).below⟩)
    go_wp2
    go_ret
    exact⟨congrArg (fun s=>Ending.returned (Value.string s)) HE.out.1,HE.out.2⟩
 ·
  have hlt:¬(5:Int)<need:=by omega
  have hopr:3≤op∧op≤12:=by omega
  have hl5:ZL op=5:=by rcases h3 with rfl|rfl<;>rfl
  have o1':(op==1)=false:=beq_eq_false_iff_ne.2 (by omega)
  have o2':(op==2)=false:=beq_eq_false_iff_ne.2 (by omega)
  have o13':(op==13)=false:=beq_eq_false_iff_ne.2 (by omega)
  have HOP:=hdd (aI h3 hopr)
  clear h3
  go_wp2_with fail
  refine(Z2H hl5 W1).mono ?_
  rintro e w1 ⟨rfl,rfl⟩
  clear hl5
  go_upto_region 18 with fail
  have hwd:Below w1.heap.size w1 w1.drew:=(bRf _ _).drew
  have HBD:=hdd (HBX.out.later hwd)
  have HCD:=hdd (show w1.drew.cell? ⟨rb,0,none⟩=some (.int .i64 op)∧w1.drew.cell? ⟨rb,3,none⟩=some (.slice ka 1 kc) from⟨p0,p3⟩)
  clear p0 p1 p2 p3 hwd o1' o2' o13'
  obtain⟨wd,hwd⟩:∃wd,wd=w1.drew:=⟨_,rfl⟩
  rw [← hwd] at HBD HCD
  have HWD:=hdd hwd
  clear hwd
  obtain⟨b1,o1,k,cs1,rfl,hk,hkR,k1,k2,rfl,c0,c1,c2,c3⟩:=Z0r (HKS.out.later (Zg D) HBD.out.below) (show 0<1 by omega)
  obtain rfl:x=k:=Option.some.inj hk
  simp only [Nat.zero_mul,Nat.add_zero] at c0 c1 c2 c3
  have HKR:=hdd hkR
  have hfk:=HFK.out x (by simp)
  have HCK:=hdd (fun W hW=>HIH.out D [.int .i64 x.op,.int .i64 x.n,.string x.name,.slice k1 x.kids.length k2] x 5 W hfk (Zg D _ _ _ _ hW HKR.out) (by omega) (by omega))
  obtain⟨V,hV⟩:∃V,V=Zl (Z9 d x 5):=⟨_,rfl⟩
  have hVs:V.size≤163840:=by rw [hV];exact ZO (by omega) hfk
  rw [← hV] at HCK
  have HV:=hdd (aI hV (Z12 (need:=5) hfk))
  clear hV hfk hkR hk
  have HS:=hdd (show ∀W,Below wd.heap.size wd W→(fun W:World=>W.cell? ⟨rb,0,none⟩=some (.int .i64 op)∧W.cell? ⟨rb,3,none⟩=some (.slice (some ⟨b1,o1,none⟩) 1 kc)∧W.cell? ⟨b1,o1,none⟩=some (.int .i64 x.op)∧W.cell? ⟨b1,o1+1,none⟩=some (.int .i64 x.n)∧W.cell? ⟨b1,o1+2,none⟩=some (.string x.name)∧W.cell? ⟨b1,o1+3,none⟩=some (.slice k1 x.kids.length k2)) W from fun W hW=>⟨clT hW HCD.out.1,clT hW HCD.out.2,clT hW c0,clT hW c1,clT hW c2,clT hW c3⟩)
  clear c0 c1 c2 c3
  obtain⟨C,hC⟩:∃C,C=sgB (opC op):=⟨_,rfl⟩
  have HSG:=hdd (fun W=>Z00 op HOP.out.2 W)
  rw [← hC] at HSG
  have HC2:=hdd hC
  have hC1:C.size=1:=by rw [hC];rfl
  clear hC
  have s1:C.size+(⟨#[32]⟩:ByteArray).size≤9223372036854775807:=by show C.size+1≤_;omega
  have s2:(C++(⟨#[32]⟩:ByteArray)).size+V.size≤9223372036854775807:=by rw [ByteArray.size_append];show C.size+1+_≤_;omega
  refine Zw (S:=fun W:World=>W.cell? ⟨rb,0,none⟩=some (.int .i64 op)∧W.cell? ⟨rb,3,none⟩=some (.slice (some ⟨b1,o1,none⟩) 1 kc)∧W.cell? ⟨b1,o1,none⟩=some (.int .i64 x.op)∧W.cell? ⟨b1,o1+1,none⟩=some (.int .i64 x.n)∧W.cell? ⟨b1,o1+2,none⟩=some (.string x.name)∧W.cell? ⟨b1,o1+3,none⟩=some (.slice k1 x.kids.length k2)) (by kernel_rfl) ?_
  rw [← HWD.out]
  have hHeld:(fun W:World=>W.cell? ⟨rb,0,none⟩=some (.int .i64 op)∧W.cell? ⟨rb,3,none⟩=some (.slice (some ⟨b1,o1,none⟩) 1 kc)∧W.cell? ⟨b1,o1,none⟩=some (.int .i64 x.op)∧W.cell? ⟨b1,o1+1,none⟩=some (.int .i64 x.n)∧W.cell? ⟨b1,o1+2,none⟩=some (.string x.name)∧W.cell? ⟨b1,o1+3,none⟩=some (.slice k1 x.kids.length k2)) wd:=HS.out _ (bRf _ _)
  refine tkL 1 0 (some 76) hHeld ?_
  (try simp only [Act.put,pu1,pu2,pu3])
  refine tkL 2 1 (some 77) hHeld ?_
  (try simp only [Act.put,pu1,pu2,pu3])
  refine tkL 5 4 (some 80) hHeld ?_
  (try simp only [Act.put,pu1,pu2,pu3])
  refine tkL 6 5 (some 81) hHeld ?_
  (try simp only [Act.put,pu1,pu2,pu3])
  refine tkL 7 6 (some 82) hHeld ?_
  (try simp only [Act.put,pu1,pu2,pu3])
  refine tkL 8 7 (some 83) hHeld ?_
  (try simp only [Act.put,pu1,pu2,pu3])
  refine Z06 2 (some 78) fun K hK=>?_
  go_simp
  go_at_call 113
  refine(HSG.out _).mono ?_
  rintro e w2 ⟨rfl,rfl⟩
  refine kpL hK (hHeld) ?_
  clear hK K hHeld;intro hHeld
  (try simp only [Act.put,pu1,pu2,pu3])
  refine tkL 9 3 (some 79) hHeld ?_
  (try simp only [Act.put,pu1,pu2,pu3])
  refine Z06 8 (some 84) fun K hK=>?_
  go_simp
  go_at_call 90
  refine(HCK.out _ (bRf _ _)).mono ?_
  rintro e w5 ⟨rfl,hb5⟩
  have HB5:=hdd hb5
  clear hb5
  refine kpL hK (HS.out _ HB5.out) ?_
  clear hK K hHeld;intro hHeld
  (try simp only [Act.put,pu1,pu2,pu3])
  refine tkL 10 9 (some 85) hHeld ?_
  (try simp only [Act.put,pu1,pu2,pu3])
  refine Z06 10 (some 6) fun K hK=>?_
  go_simp
  refine hK.out _ _ (Z15 (by kernel_rfl)) ?_
  clear hK K hHeld
  (try simp only [Act.put,pu1,pu2,pu3])
  refine Zq (by kernel_rfl) ?_ _
  have HE:=hdd (show C++(⟨#[32]⟩:ByteArray)++V=R∧Below w.heap.size w w5 from⟨by
   rw [HR.out,Z0Z,decide_eq_false (by rw [show ZL op=5 from by rcases HOP.out.1 with rfl|rfl<;>rfl];omega),if_neg (by have:=HOP.out.1;omega),if_neg (by have:=HOP.out.1;omega),if_neg (by have:=HOP.out.1;omega),if_pos HOP.out.1,HC2.out,HV.out.1]
   have h1:sgB (opC op)=Zl [sgW (opC op)]:=(Z0G (sgW (opC op))).symm
   rw [h1,ZE (by simp) HV.out.2]
   rfl,(HBD.out.later HB5.out).below⟩)
  go_wp2
  go_ret
  exact⟨congrArg (fun s=>Ending.returned (Value.string s)) HE.out.1,HE.out.2⟩
 ·
  obtain⟨L,hL1,hL4,hl⟩:=Zc6 h3
  have hlI:ZL op=(L:Int):=by rw [ZL,if_pos (by omega),hl]
  have hopr:3≤op∧op≤12:=by omega
  have o1':(op==1)=false:=beq_eq_false_iff_ne.2 (by omega)
  have o2':(op==2)=false:=beq_eq_false_iff_ne.2 (by omega)
  have o13':(op==13)=false:=beq_eq_false_iff_ne.2 (by omega)
  have l5':((L:Int)==5)=false:=beq_eq_false_iff_ne.2 (by omega)
  have HOP:=hdd (aI h3 hopr)
  have HLL:=hdd (aI hl (aI hlI (aI hL1 hL4)))
  clear h3 hl hlI
  go_wp2_with fail
  refine(Z2H HLL.out.2.1 W1).mono ?_
  rintro e w1 ⟨rfl,rfl⟩
  go_upto_region 3 with fail
  have hwd:Below w1.heap.size w1 w1.drew:=(bRf _ _).drew
  have HBD:=hdd (HBX.out.later hwd)
  have HCD:=hdd (show w1.drew.cell? ⟨rb,0,none⟩=some (.int .i64 op)∧w1.drew.cell? ⟨rb,3,none⟩=some (.slice ka 2 kc) from⟨p0,p3⟩)
  clear p0 p1 p2 p3 hwd o1' o2' o13' l5'
  obtain⟨wd,hwd⟩:∃wd,wd=w1.drew:=⟨_,rfl⟩
  rw [← hwd] at HBD HCD
  have HWD:=hdd hwd
  clear hwd
  obtain⟨b1,o1,k,cs1,rfl,hk,hkR,k1,k2,rfl,c0,c1,c2,c3⟩:=Z0r (HKS.out.later (Zg D) HBD.out.below) (show 0<2 by omega)
  obtain rfl:x=k:=Option.some.inj hk
  obtain⟨b2,o2,k,cs2,hbb,hk2,hkR2,l1,l2,rfl,d0,d1,d2,d3⟩:=Z0r (HKS.out.later (Zg D) HBD.out.below) (show 1<2 by omega)
  obtain rfl:y=k:=Option.some.inj hk2
  obtain⟨rfl,rfl⟩:b1=b2∧o1=o2:=by simpa using hbb
  simp only [Nat.zero_mul,Nat.one_mul,Nat.add_zero] at c0 c1 c2 c3 d0 d1 d2 d3
  have HKR:=hdd (aI hkR hkR2)
  have hfx:=HFK.out x (by simp)
  have hfy:=HFK.out y (by simp)
  have hadd:wrap64 ((L:Int)+1)=(L:Int)+1:=IntWalk.wrap64_in _ (by omega)
  have hadd2:IntKind.i64.wrap ((L:Int)+1)=(L:Int)+1:=(IntWalk.i64_left _).trans (IntWalk.wrap64_in _ (by omega))
  have HCX:=hdd (fun W hW=>HIH.out D [.int .i64 x.op,.int .i64 x.n,.string x.name,.slice k1 x.kids.length k2] x (L:Int) W hfx (Zg D _ _ _ _ hW HKR.out.1) (by omega) (by omega))
  have HCY:=hdd (fun W hW=>HIH.out D [.int .i64 y.op,.int .i64 y.n,.string y.name,.slice l1 y.kids.length l2] y ((L:Int)+1) W hfy (Zg D _ _ _ _ hW HKR.out.2) (by omega) (by omega))
  obtain⟨V,hV⟩:∃V,V=Zl (Z9 d x (L:Int)):=⟨_,rfl⟩
  obtain⟨Z,hZ⟩:∃Z,Z=Zl (Z9 d y ((L:Int)+1)):=⟨_,rfl⟩
  have hVs:V.size≤163840:=by rw [hV];exact ZO (by omega) hfx
  have hZs:Z.size≤163840:=by rw [hZ];exact ZO (by omega) hfy
  rw [← hV] at HCX
  rw [← hZ] at HCY
  have HV:=hdd (aI hV (Z12 (need:=(L:Int)) hfx))
  have HZ:=hdd (aI hZ (Z12 (need:=(L:Int)+1) hfy))
  clear hV hZ hfx hfy hkR hkR2 hk hk2 hbb
  have HS:=hdd (show ∀W,Below wd.heap.size wd W→(fun W:World=>W.cell? ⟨rb,0,none⟩=some (.int .i64 op)∧W.cell? ⟨rb,3,none⟩=some (.slice (some ⟨b1,o1,none⟩) 2 kc)∧W.cell? ⟨b1,o1,none⟩=some (.int .i64 x.op)∧W.cell? ⟨b1,o1+1,none⟩=some (.int .i64 x.n)∧W.cell? ⟨b1,o1+2,none⟩=some (.string x.name)∧W.cell? ⟨b1,o1+3,none⟩=some (.slice k1 x.kids.length k2)∧W.cell? ⟨b1,o1+4,none⟩=some (.int .i64 y.op)∧W.cell? ⟨b1,o1+4+1,none⟩=some (.int .i64 y.n)∧W.cell? ⟨b1,o1+4+2,none⟩=some (.string y.name)∧W.cell? ⟨b1,o1+4+3,none⟩=some (.slice l1 y.kids.length l2)) W from fun W hW=>⟨clT hW HCD.out.1,clT hW HCD.out.2,clT hW c0,clT hW c1,clT hW c2,clT hW c3,clT hW d0,clT hW d1,clT hW d2,clT hW d3⟩)
  clear c0 c1 c2 c3 d0 d1 d2 d3
  obtain⟨C,hC⟩:∃C,C=sgB (opC op):=⟨_,rfl⟩
  have HSG:=hdd (fun W=>Z00 op HOP.out.2 W)
  rw [← hC] at HSG
  have HC2:=hdd hC
  have hC1:C.size=1:=by rw [hC];rfl
  clear hC
  have s1:V.size+(⟨#[32]⟩:ByteArray).size≤9223372036854775807:=by show V.size+1≤_;omega
  have s2:(V++(⟨#[32]⟩:ByteArray)).size+C.size≤9223372036854775807:=by rw [ByteArray.size_append];show V.size+1+_≤_;omega
  have s3:(V++(⟨#[32]⟩:ByteArray)++C).size+(⟨#[32]⟩:ByteArray).size≤9223372036854775807:=by rw [ByteArray.size_append,ByteArray.size_append];show V.size+1+_+1≤_;omega
  have s4:(V++(⟨#[32]⟩:ByteArray)++C++(⟨#[32]⟩:ByteArray)).size+Z.size≤9223372036854775807:=by rw [ByteArray.size_append,ByteArray.size_append,ByteArray.size_append];show V.size+1+_+1+_≤_;omega
  refine Zw (S:=fun W:World=>W.cell? ⟨rb,0,none⟩=some (.int .i64 op)∧W.cell? ⟨rb,3,none⟩=some (.slice (some ⟨b1,o1,none⟩) 2 kc)∧W.cell? ⟨b1,o1,none⟩=some (.int .i64 x.op)∧W.cell? ⟨b1,o1+1,none⟩=some (.int .i64 x.n)∧W.cell? ⟨b1,o1+2,none⟩=some (.string x.name)∧W.cell? ⟨b1,o1+3,none⟩=some (.slice k1 x.kids.length k2)∧W.cell? ⟨b1,o1+4,none⟩=some (.int .i64 y.op)∧W.cell? ⟨b1,o1+4+1,none⟩=some (.int .i64 y.n)∧W.cell? ⟨b1,o1+4+2,none⟩=some (.string y.name)∧W.cell? ⟨b1,o1+4+3,none⟩=some (.slice l1 y.kids.length l2)) (by kernel_rfl) ?_
  rw [← HWD.out]
  have hHeld:(fun W:World=>W.cell? ⟨rb,0,none⟩=some (.int .i64 op)∧W.cell? ⟨rb,3,none⟩=some (.slice (some ⟨b1,o1,none⟩) 2 kc)∧W.cell? ⟨b1,o1,none⟩=some (.int .i64 x.op)∧W.cell? ⟨b1,o1+1,none⟩=some (.int .i64 x.n)∧W.cell? ⟨b1,o1+2,none⟩=some (.string x.name)∧W.cell? ⟨b1,o1+3,none⟩=some (.slice k1 x.kids.length k2)∧W.cell? ⟨b1,o1+4,none⟩=some (.int .i64 y.op)∧W.cell? ⟨b1,o1+4+1,none⟩=some (.int .i64 y.n)∧W.cell? ⟨b1,o1+4+2,none⟩=some (.string y.name)∧W.cell? ⟨b1,o1+4+3,none⟩=some (.slice l1 y.kids.length l2)) wd:=HS.out _ (bRf _ _)
  refine tkL 1 0 (some 11) hHeld ?_
  (try simp only [Act.put,pu1,pu2,pu3])
  refine tkL 2 1 (some 12) hHeld ?_
  (try simp only [Act.put,pu1,pu2,pu3])
  refine tkL 3 2 (some 13) hHeld ?_
  (try simp only [Act.put,pu1,pu2,pu3])
  refine tkL 5 3 (some 14) hHeld ?_
  (try simp only [Act.put,pu1,pu2,pu3])
  refine tkL 5 4 (some 15) hHeld ?_
  (try simp only [Act.put,pu1,pu2,pu3])
  refine tkL 8 7 (some 18) hHeld ?_
  (try simp only [Act.put,pu1,pu2,pu3])
  refine tkL 9 8 (some 19) hHeld ?_
  (try simp only [Act.put,pu1,pu2,pu3])
  refine tkL 13 12 (some 23) hHeld ?_
  (try simp only [Act.put,pu1,pu2,pu3])
  refine tkL 14 13 (some 24) hHeld ?_
  (try simp only [Act.put,pu1,pu2,pu3])
  refine tkL 15 14 (some 25) hHeld ?_
  (try simp only [Act.put,pu1,pu2,pu3])
  refine tkL 18 15 (some 26) hHeld ?_
  (try simp only [Act.put,pu1,pu2,pu3])
  refine tkL 17 16 (some 27) hHeld ?_
  (try simp only [Act.put,pu1,pu2,pu3])
  refine tkL 18 17 (some 28) hHeld ?_
  (try simp only [Act.put,pu1,pu2,pu3])
  refine Z06 5 (some 16) fun K hK=>?_
  go_simp
  go_at_call 90
  refine(HCX.out _ (bRf _ _)).mono ?_
  rintro e w5 ⟨rfl,hb5⟩
  have HB5:=hdd hb5
  clear hb5
  refine kpL hK (HS.out _ HB5.out) ?_
  clear hK K hHeld;intro hHeld
  (try simp only [Act.put,pu1,pu2,pu3])
  refine tkL 10 6 (some 17) hHeld ?_
  (try simp only [Act.put,pu1,pu2,pu3])
  refine Z06 9 (some 20) fun K hK=>?_
  go_simp
  go_at_call 113
  refine(HSG.out _).mono ?_
  rintro e w6 ⟨rfl,rfl⟩
  refine kpL hK (hHeld) ?_
  clear hK K hHeld;intro hHeld
  (try simp only [Act.put,pu1,pu2,pu3])
  refine tkL 11 10 (some 21) hHeld ?_
  (try simp only [Act.put,pu1,pu2,pu3])
  refine tkL 19 11 (some 22) hHeld ?_
  (try simp only [Act.put,pu1,pu2,pu3])
  refine Z06 18 (some 29) fun K hK=>?_
  go_simp
  go_at_call 90
  refine(HCY.out _ HB5.out).mono ?_
  rintro e w7 ⟨rfl,hb7⟩
  have HB7:=hdd (HB5.out.trans (hb7.mono HB5.out.size))
  clear hb7
  refine kpL hK (HS.out _ HB7.out) ?_
  clear hK K hHeld;intro hHeld
  (try simp only [Act.put,pu1,pu2,pu3])
  refine tkL 20 19 (some 30) hHeld ?_
  (try simp only [Act.put,pu1,pu2,pu3])
  refine Z06 20 (some 6) fun K hK=>?_
  go_simp
  refine hK.out _ _ (Z15 (by kernel_rfl)) ?_
  clear hK K hHeld
  (try simp only [Act.put,pu1,pu2,pu3])
  refine Zq (by kernel_rfl) ?_ _
  have HX:=hdd (show V++(⟨#[32]⟩:ByteArray)++C++(⟨#[32]⟩:ByteArray)++Z=Zl (Z9 d x (L:Int)++sgW (opC op)::Z9 d y ((L:Int)+1))∧Z9 d x (L:Int)++sgW (opC op)::Z9 d y ((L:Int)+1)≠[]∧Below w.heap.size w w7 from⟨by
   have h1:sgB (opC op)=Zl [sgW (opC op)]:=(Z0G (sgW (opC op))).symm
   rw [HC2.out,HV.out.1,HZ.out.1,h1,ZE HV.out.2 (by simp),ZE (by simp) HZ.out.2]
   simp,by simp,(HBD.out.later HB7.out).below⟩)
  have HW:=hdd (show ∀b,decide (ZL op<need)=b→R=Zl (Z3h b (Z9 d x (L:Int)++sgW (opC op)::Z9 d y ((L:Int)+1))) from fun b hb=>by
   rw [HR.out,Z0Z,hb,if_neg (by have:=HOP.out.1;omega),if_neg (by have:=HOP.out.1;omega),if_neg (by have:=HOP.out.1;omega),if_neg (by have:=HOP.out.1;omega),HLL.out.1]
   rfl)
  by_cases hlt:(L:Int)<need
  ·have s5:(⟨#[40,32]⟩:ByteArray).size+(V++(⟨#[32]⟩:ByteArray)++C++(⟨#[32]⟩:ByteArray)++Z).size≤9223372036854775807:=by rw [ByteArray.size_append,ByteArray.size_append,ByteArray.size_append,ByteArray.size_append];show 2+(V.size+1+_+1+_)≤_;omega
   have s6:((⟨#[40,32]⟩:ByteArray)++(V++(⟨#[32]⟩:ByteArray)++C++(⟨#[32]⟩:ByteArray)++Z)).size+(⟨#[32,41]⟩:ByteArray).size≤9223372036854775807:=by rw [ByteArray.size_append,ByteArray.size_append,ByteArray.size_append,ByteArray.size_append,ByteArray.size_append];show 2+(V.size+1+_+1+_)+2≤_;omega
   have HE:=hdd (show(⟨#[40,32]⟩:ByteArray)++(V++(⟨#[32]⟩:ByteArray)++C++(⟨#[32]⟩:ByteArray)++Z)++(⟨#[32,41]⟩:ByteArray)=R from by
    rw [HX.out.1,HW.out true (by rw [HLL.out.2.1];exact decide_eq_true hlt)]
    exact ZaU HX.out.2.1)
   go_wp2
   go_ret
   exact⟨congrArg (fun s=>Ending.returned (Value.string s)) HE.out,HX.out.2.2⟩
  ·have HE:=hdd (show V++(⟨#[32]⟩:ByteArray)++C++(⟨#[32]⟩:ByteArray)++Z=R from by
    rw [HX.out.1,HW.out false (by rw [HLL.out.2.1];exact decide_eq_false hlt)]
    rfl)
   go_wp2
   go_ret
   exact⟨congrArg (fun s=>Ending.returned (Value.string s)) HE.out,HX.out.2.2⟩
theorem Z0R:∀d,d≤6→Zcg d
 | 0,_=>fun D cs x need w hf=>by cases hf
 | d+1,hd=>Z7T d hd (Z0R d (by omega))
def ZcM (s:ByteArray) (c:Int):Bool:=s.data.toList.any fun b=>(b.toNat:Int)==c
theorem Zcq {s:ByteArray} {k:Nat} (hk:k<s.size) {c:Int} (h:Z0U s k=c):ZcM s c=true:=by
 rw [Z3G] at h
 have hl:k<s.data.toList.length:=by rw [Z0F];exact hk
 rw [List.getElem?_eq_getElem hl] at h
 exact List.any_eq_true.2 ⟨_,List.getElem_mem hl,by rw [beq_iff_eq];exact h⟩
theorem ZbK {s:ByteArray} {c:Int} (h:∀k,k<s.size→Z0U s k≠c):ZcM s c=false:=by
 refine List.any_eq_false.2 fun b hb=>?_
 obtain⟨k,hk⟩:=List.getElem?_of_mem hb
 have hl:k<s.size:=by
  have:=(List.getElem?_eq_some_iff.1 hk).1
  rw [Z0F] at this
  exact this
 have h1:=h k hl
 rw [Z3G,hk] at h1
 simpa using h1
theorem Z7n (s:ByteArray) (b:Int) (hs:s.size≤1048576) (w:World) :
  Calls Tryz.prog 85 #[.string s,.int .u8 b] w fun e w'=>(∃v:Int,e=.returned (.int .i64 v)∧Hid (decide (0≤v)=ZcM s b))∧w'=w:=by
 go_enter Tryz.func85,Tryz.ntmps85
 go_wp2
 go_loop [5] (fun i=>∃k:Nat,k≤s.size∧i=.int .i64 k∧Hid (∀j,j<k→Z0U s j≠b)) (fun i=>s.size-(intOf i).toNat)
 case atStart=>exact⟨0,Nat.zero_le _,rfl,hdd fun j hj=>by omega⟩
 case round=>
  obtain⟨k,hk,rfl,HK⟩:=hrel
  by_cases hlt:k<s.size
  ·have hki:(k:Int)<(s.size:Int):=by omega
   have hix:∀W,(Instr.index 9 (.string s) (.int .i64 (k:Int))).run Tryz.prog W=.ok (.int .u8 (Z0U s k)) W:=fun W=>Z13 s k hlt W
   have HC:=hdd (show ∀c,c=Z0U s k→((c==b)=true→ZcM s b=true)∧((c==b)=false→∀j,j<k+1→Z0U s j≠b) from fun c hc=>⟨fun h=>Zcq hlt (by rw [← hc];simpa using h),fun h j hj=>by
    by_cases hjk:j=k
    ·subst hjk;rw [← hc];simpa using h
    ·exact HK.out j (by omega)⟩)
   obtain⟨c,hcc⟩:∃c,c=Z0U s k:=⟨_,rfl⟩
   rw [← hcc] at hix
   have HC2:=hdd (HC.out c hcc)
   clear hcc HC
   cases hc:c==b with
   | true=>
    have HM:=hdd (HC2.out.1 hc)
    go_wp2
    go_ret
    exact⟨⟨_,rfl,hdd (by rw [HM.out];exact decide_eq_true (by omega))⟩,rfl⟩
   | false=>
    have HM:=hdd (HC2.out.2 hc)
    go_wp2
    go_round
    case rel=>exact⟨k+1,by omega,by go_num,HM⟩
    case measure=>simp [intOf];omega
  ·obtain rfl:k=s.size:=by omega
   have HM:=hdd (ZbK HK.out)
   go_wp2
   go_ret
   exact⟨⟨_,rfl,hdd (by rw [HM.out];rfl)⟩,rfl⟩
def Zc2:ByteArray:=⟨#[40,41,123,125,59,44,43,45,42,47,37,60,61,38,33,64]⟩
theorem Z4q (c:Int) (hc:0≤c∧c<256) (w:World) :
  Calls Tryz.prog 58 #[.int .u8 c] w fun e w'=>e=.returned (.int .i64 (Z0O c))∧w'=w:=by
 obtain⟨R,hR⟩:∃R,R=Z0O c:=⟨_,rfl⟩
 rw [← hR]
 by_cases hl:97≤c∧c≤122
 ·have HL:=hdd (show R=1 by rw [hR,Z0O,if_pos (by simp [Z68,hl.1,hl.2])])
  have h1:=hl.1
  have h2:=hl.2
  clear hR
  go_enter Tryz.func58,Tryz.ntmps58
  go_wp2
  go_ret
  exact⟨by rw [HL.out];rfl,rfl⟩
 ·have hle:Z68 c=false:=by
   simp only [Z68,Bool.and_eq_false_iff,decide_eq_false_iff_not];omega
  have hR2:R=if 48≤c∧c≤57 then 2 else if ZcM Zc2 c=true then 3 else if c=32∨c=10 then 4 else 0:=by
   rw [hR,Z0O,if_neg (by rw [hle];decide)];rfl
  clear hR hle
  have HF:=hdd (fun W=>Z7n Zc2 c (by decide) W)
  have hcs:(¬97≤c)∨(97≤c∧¬c≤122):=by omega
  clear hl
  by_cases hd:48≤c∧c≤57
  ·have HL:=hdd (show R=2 by rw [hR2,if_pos hd])
   have h3:=hd.1
   have h4:=hd.2
   clear hR2 hd hcs
   have h1:¬97≤c:=by omega
   go_enter Tryz.func58,Tryz.ntmps58
   go_wp2
   go_ret
   exact⟨by rw [HL.out];rfl,rfl⟩
  rw [if_neg hd] at hR2
  have HR2:=hdd hR2
  have hds:(¬48≤c)∨(48≤c∧¬c≤57):=by omega
  clear hR2 hd
  have h32:c=32∨c=10∨(c≠32∧c≠10):=by omega
  rcases hcs with h1|⟨h1,h2⟩
  all_goals
   rcases hds with h3|⟨h3,h4⟩
   all_goals
    go_enter Tryz.func58,Tryz.ntmps58
    go_wp2_with fail
    refine(HF.out _).mono ?_
    rintro e w1 ⟨⟨v,rfl,HV⟩,rfl⟩
    by_cases hv:0≤v
    ·have HL:=hdd (show R=3 by rw [HR2.out,if_pos (by rw [← HV.out];exact decide_eq_true hv)])
     clear h32
     go_wp2
     go_ret
     exact⟨by rw [HL.out];rfl,rfl⟩
    ·have HL:=hdd (show R=if c=32∨c=10 then 4 else 0 by rw [HR2.out,if_neg (by rw [← HV.out];simpa using hv)])
     rcases h32 with h5|h5|⟨h5,h6⟩
     ·have HL2:=hdd (show R=4 by rw [HL.out,if_pos (.inl h5)])
      have e1:(c==32)=true:=by simp [h5]
      clear h5
      go_wp2
      all_goals (go_ret;exact⟨by rw [HL2.out];rfl,rfl⟩)
     ·have HL2:=hdd (show R=4 by rw [HL.out,if_pos (.inr h5)])
      have e1:(c==32)=false:=by simp [h5]
      have e2:(c==10)=true:=by simp [h5]
      clear h5
      go_wp2
      all_goals (go_ret;exact⟨by rw [HL2.out];rfl,rfl⟩)
     ·have HL2:=hdd (show R=0 by rw [HL.out,if_neg (by omega)])
      have e1:(c==32)=false:=by simp [h5]
      have e2:(c==10)=false:=by simp [h6]
      clear h5 h6
      go_wp2
      all_goals (go_ret;exact⟨by rw [HL2.out];rfl,rfl⟩)
theorem Z26 {c k:Int} (hc:0≤c∧c<256) (h:Z0O c=k) (w:World):Calls Tryz.prog 58 #[.int .u8 c] w fun e w'=>e=.returned (.int .i64 k)∧w'=w:=by rw [← h];exact Z4q c hc w
def pvN (s:ByteArray) (k:Nat):Int:=(s.data.toList.take k).foldl (fun n c=>n*10+((c.toNat:Int)-48)) 0
theorem Z5d {n:Nat} (hn:n≤255):1≤(Z1f n).size∧(Z1f n).size≤3∧(1<(Z1f n).size→Z0U (Z1f n) 0≠48)∧pvN (Z1f n) (Z1f n).size=(n:Int)∧(∀k,k<(Z1f n).size→48≤Z0U (Z1f n) k∧Z0U (Z1f n) k≤57∧pvN (Z1f n) (k+1)=pvN (Z1f n) k*10+(Z0U (Z1f n) k-48)∧0≤pvN (Z1f n) k∧pvN (Z1f n) k≤255):=by
 have h0:∀j:Fin 256,1≤(Z1f j.val).size∧(Z1f j.val).size≤3∧(1<(Z1f j.val).size→Z0U (Z1f j.val) 0≠48)∧pvN (Z1f j.val) (Z1f j.val).size=(j.val:Int)∧(∀k:Fin 3,k.val<(Z1f j.val).size→48≤Z0U (Z1f j.val) k.val∧Z0U (Z1f j.val) k.val≤57∧pvN (Z1f j.val) (k.val+1)=pvN (Z1f j.val) k.val*10+(Z0U (Z1f j.val) k.val-48)∧0≤pvN (Z1f j.val) k.val∧pvN (Z1f j.val) k.val≤255):=by decide +kernel
 obtain⟨h1,h2,h3,h4,h5⟩:=h0 ⟨n,by omega⟩
 replace h2:(Z1f n).size≤3:=h2
 exact⟨h1,h2,h3,h4,fun k hk=>h5 ⟨k,by omega⟩ hk⟩
theorem Z55 (n:Nat) (hn:n≤255) (w:World):Calls Tryz.prog 86 #[.string (Z1f n)] w fun e w'=>e=.returned (.tuple #[.int .i64 (n:Int),.bool true])∧w'=w:=by
 obtain⟨h1,h2,h3,h4,h5⟩:=Z5d hn
 generalize Z1f n=s at h1 h2 h3 h4 h5 ⊢
 have HD:=hdd h5
 have HE:=hdd h4
 have hz:=h5 0 (by omega)
 have hix0:∀W,(Instr.index 9 (.string s) (.int .i64 (0:Int))).run Tryz.prog W=.ok (.int .u8 (Z0U s 0)) W:=fun W=>Z13 s 0 (by omega) W
 have c45:(Z0U s 0==45)=false:=beq_eq_false_iff_ne.2 (by omega)
 have hs0:(0:Int)<(s.size:Int):=by omega
 have hs1:((s.size:Int)==0)=false:=beq_eq_false_iff_ne.2 (by omega)
 have hs17:¬(17:Int)<(s.size:Int):=by omega
 have hd48:(¬(1:Int)<(s.size:Int))∨((Z0U s 0==48)=false):=by
  by_cases h:1<s.size
  ·exact .inr (beq_eq_false_iff_ne.2 (h3 h))
  ·exact .inl (by omega)
 clear h3 h4 h5 hz
 obtain⟨c,hc⟩:∃c,c=Z0U s 0:=⟨_,rfl⟩
 rw [← hc] at hix0 c45 hd48
 clear hc
 have hb48:(c==48)=false∨((c==48)=true∧¬(1:Int)<(s.size:Int)):=by
  cases h:c==48 with
  | false=>exact .inl rfl
  | true=>exact .inr ⟨rfl,by rcases hd48 with h2|h2;exact h2;rw [h] at h2;cases h2⟩
 clear hd48
 rcases hb48 with h48|⟨h48,hone⟩
 all_goals
  go_enter Tryz.func86,Tryz.ntmps86
  go_wp2_with fail
  go_loopg [5,6] s.size (fun G v i wr=>∃k:Nat,k+G=s.size∧i=.int .i64 k∧v=.int .i64 (pvN s k)∧wr=w)
  case atStart=>exact⟨0,by omega,rfl,rfl,rfl⟩
  case round=>
   obtain⟨k,hk,rfl,rfl,rfl⟩:=hrel
   clear h48 hix0 c45
   by_cases hlt:k<s.size
   ·have hki:(k:Int)<(s.size:Int):=by omega
    have hix:∀W,(Instr.index 9 (.string s) (.int .i64 (k:Int))).run Tryz.prog W=.ok (.int .u8 (Z0U s k)) W:=fun W=>Z13 s k hlt W
    obtain⟨d1,d2,d3,d4,d5⟩:=HD.out k hlt
    obtain⟨d,hde⟩:∃d,d=Z0U s k:=⟨_,rfl⟩
    rw [← hde] at hix d1 d2 d3
    have HN:=hdd d3
    obtain⟨p,hp⟩:∃p,p=pvN s k:=⟨_,rfl⟩
    rw [← hp] at HN d4 d5 ⊢
    have n1:¬d<48:=by omega
    have n2:¬57<d:=by omega
    clear hde hp d3
    go_wp2
    go_roundg (gk-1)
    case measure=>omega
    case rel=>exact⟨k+1,by omega,by go_num,by rw [HN.out],rfl⟩
   ·obtain rfl:k=s.size:=by omega
    have hki:¬(s.size:Int)<(s.size:Int):=by omega
    go_wp2
    go_ret2
    exact⟨by rw [HE.out];rfl,rfl⟩
theorem Z9V {n rb:Nat} {w W:World} {T:TypeId} {a b x y:Value} (hr:W.heap[rb]? = some (.cells #[a,b] T (0,0))) (hb:Below n w W) (hn:n≤rb) (hs:n≤w.heap.size) :
  ((W.setCell ⟨rb,0,none⟩ x).setCell ⟨rb,1,none⟩ y).heap[rb]? = some (.cells #[x,y] T (0,0))∧Below n w ((W.setCell ⟨rb,0,none⟩ x).setCell ⟨rb,1,none⟩ y):=by
 refine⟨(hSs _ rb 1 _ _ _ ((hSs W rb 0 _ _ _ hr).trans rfl)).trans rfl,?_⟩
 have h1:=Z4 W rb 0 x
 have h2:=Z4 (W.setCell ⟨rb,0,none⟩ x) rb 1 y
 exact hb.trans ((h1.trans h2).below (B:=n) (Nat.le_trans hs hb.size) (fun k hk=>by have hk:k=rb:=hk;omega))
theorem Z8q (s:ByteArray) (hs:1≤s.size) (w:World):Calls Tryz.prog 60 #[.string s] w fun e w'=>e=.returned (.agg (List.toArray [.int .i64 (Z8p s),.string s]))∧Below w.heap.size w w':=by
 have hix0:∀W,(Instr.index 9 (.string s) (.int .i64 (0:Int))).run Tryz.prog W=.ok (.int .u8 (Z0U s 0)) W:=fun W=>Z13 s 0 (by omega) W
 have HC:=hdd (fun W=>Z4q (Z0U s 0) (Z1y s 0) W)
 obtain⟨c,hc⟩:∃c,c=Z0U s 0:=⟨_,rfl⟩
 rw [← hc] at hix0 HC
 have HCC:=hdd hc
 clear hc
 have hs1:(0:Int)<(s.size:Int):=by omega
 have hb0:Below w.heap.size w (w.alloc (.cells #[.int .i64 0,.string ⟨#[]⟩] 55)):=(bRf _ _).alloc (Nat.le_refl _) _
 have HB:=hdd (aI hb0 (hAn w (.cells #[.int .i64 0,.string ⟨#[]⟩] 55)))
 clear hb0
 go_enter Tryz.func60,Tryz.ntmps60
 go_upto_region 1 with fail
 obtain⟨rb,hrb⟩:∃n,n=w.heap.size:=⟨_,rfl⟩
 generalize w.alloc (.cells #[.int .i64 0,.string ⟨#[]⟩] 55)=W1 at HB ⊢
 have HRB:=hdd hrb
 rw [← hrb] at HB ⊢
 clear hrb
 go_wp2_with fail
 refine(HC.out W1).mono ?_
 rintro e w1 ⟨rfl,rfl⟩
 go_wp2_with fail
 refine(Z59 s w1).mono ?_
 cases hk:Z6A ZU s with
 | true=>
  rintro e w2 ⟨rfl,hb2⟩
  have hrow:=(hb2.block rb (gsI HB.out.2).1).trans HB.out.2
  have HE:=hdd (Z9V (n:=rb) (w:=w) (x:=.int .i64 4) (y:=.string s) hrow (HB.out.1.trans (hb2.mono (by have:=HRB.out;have:=HB.out.1.size;omega))) (Nat.le_refl _) (by have:=HRB.out;omega))
  have HK:=hdd (show Z8p s=4 by rw [Z8p,if_pos hk])
  have k0:=coR _ _ 0 _ _ _ hrow
  have k1:=coR _ _ 1 _ _ _ hrow
  have z0:=frR _ _ 0 _ _ hrow
  have z1:=frR _ _ 1 _ _ hrow
  simp only [ga0,ga1,ga2] at k0 k1
  clear hb2 hrow hk
  go_wp2
  refine bodyPost_ret (results_cell_row rfl _ _ rb 55 (List.toArray [.int .i64 4,.string s]) (0,0) _ rfl ?_ Tryz.underlying55 rfl (by kernel_rfl)) rfl ?_
  ·exact HE.out.1
  ·rw [HK.out,← HRB.out]
   exact⟨rfl,HE.out.2⟩
 | false=>
  rintro e w2 ⟨rfl,hb2⟩
  have hrow:=(hb2.block rb (gsI HB.out.2).1).trans HB.out.2
  have HE:=hdd (Z9V (n:=rb) (w:=w) (x:=.int .i64 (Z0O c)) (y:=.string s) hrow (HB.out.1.trans (hb2.mono (by have:=HRB.out;have:=HB.out.1.size;omega))) (Nat.le_refl _) (by have:=HRB.out;omega))
  have HK:=hdd (show Z8p s=Z0O c by rw [Z8p,if_neg (by rw [hk];decide),HCC.out])
  have k0:=coR _ _ 0 _ _ _ hrow
  have k1:=coR _ _ 1 _ _ _ hrow
  have z0:=frR _ _ 0 _ _ hrow
  have z1:=frR _ _ 1 _ _ hrow
  simp only [ga0,ga1,ga2] at k0 k1
  clear hb2 hrow hk
  go_wp2
  refine bodyPost_ret (results_cell_row rfl _ _ rb 55 (List.toArray [.int .i64 (Z0O c),.string s]) (0,0) _ rfl ?_ Tryz.underlying55 rfl (by kernel_rfl)) rfl ?_
  ·exact HE.out.1
  ·rw [HK.out,← HRB.out]
   exact⟨rfl,HE.out.2⟩
theorem Z2r {v:Z7} (hv:ZV v) (w:World):Calls Tryz.prog 59 #[.agg (List.toArray [.int .i64 v.kind,.string v.text])] w fun e w'=>e=.returned (.bool true)∧Below w.heap.size w w':=by
 have hb0:Below w.heap.size w (w.alloc (.cells #[.int .i64 v.kind,.string v.text] 55)):=(bRf _ _).alloc (Nat.le_refl _) _
 have hrow:=hAn w (.cells #[.int .i64 v.kind,.string v.text] 55)
 have p0:=coR _ _ 0 _ _ _ hrow
 have p1:=coR _ _ 1 _ _ _ hrow
 simp only [ga0,ga1,ga2] at p0 p1
 have HB:=hdd hb0
 have hcl:=Z0J hv
 clear hb0 hrow
 have hk4:v.text.size≤maxLen:=by have:=hcl.2.1;unfold maxLen;omega
 have hpre:∀(W1:World),Below w.heap.size w W1→True:=fun _ _=>trivial
 cases hv with
 | name s h=>
  have HN:=hdd (fun W=>Z2g s hk4 W)
  rw [h] at HN
  clear hcl hk4 hpre
  simp only [nmW] at p0 p1 HB ⊢
  go_enter Tryz.func59,Tryz.ntmps59
  go_upto_region 1 with fail
  generalize w.alloc (.cells #[.int .i64 1,.string s] 55)=W1 at HB p0 p1 ⊢
  obtain⟨rb,hrb⟩:∃n,n=w.heap.size:=⟨_,rfl⟩
  rw [← hrb] at p0 p1 ⊢
  clear hrb
  go_wp2_with fail
  refine(HN.out W1).mono ?_
  rintro e w2 ⟨rfl,hb2⟩
  have HE:=hdd (HB.out.trans (hb2.mono HB.out.size))
  clear hb2
  go_wp2
  go_ret
  exact⟨rfl,HE.out⟩
 | num n h=>
  have HN:=hdd (fun W=>Z55 n h W)
  have hin:inE 0 (n:Int) 255=true:=by simp only [inE,Bool.and_eq_true,decide_eq_true_eq];omega
  have HI:=hdd (fun W=>Z0m hin W)
  clear hcl hk4 hpre hin
  simp only [nbW] at p0 p1 HB ⊢
  generalize Z1f n=s at p0 p1 HB HN ⊢
  go_enter Tryz.func59,Tryz.ntmps59
  go_upto_region 1 with fail
  generalize w.alloc (.cells #[.int .i64 2,.string s] 55)=W1 at HB p0 p1 ⊢
  obtain⟨rb,hrb⟩:∃n,n=w.heap.size:=⟨_,rfl⟩
  rw [← hrb] at p0 p1 ⊢
  clear hrb
  go_wp2_with fail
  refine(HN.out W1).mono ?_
  rintro e w2 ⟨rfl,rfl⟩
  go_wp2_with fail
  refine(HI.out w2).mono ?_
  rintro e w3 ⟨rfl,rfl⟩
  go_wp2
  go_ret
  exact⟨rfl,HB.out⟩
 | sign c h=>
  have h3:=hcl.2.2.2.2 0 (by show 0<1;omega)
  have HN:=hdd (fun W=>Z26 (Z1y (sgB c) 0) (show Z0O (Z0U (sgB c) 0)=3 from h3) W)
  have hix0:∀W,(Instr.index 9 (.string (sgB c)) (.int .i64 (0:Int))).run Tryz.prog W=.ok (.int .u8 (Z0U (sgB c) 0)) W:=fun W=>Z13 (sgB c) 0 (by show 0<1;omega) W
  have hsz:((sgB c).size:Int)=1:=rfl
  clear hcl hk4 hpre h3
  simp only [sgW] at p0 p1 HB ⊢
  rw [show(⟨#[c]⟩:ByteArray)=sgB c from rfl] at p0 p1 HB ⊢
  generalize Z0U (sgB c) 0=d at HN hix0
  generalize sgB c=s at p0 p1 HB hix0 hsz ⊢
  have hs1:((s.size:Int)==1)=true:=by rw [hsz];rfl
  have hs0:(0:Int)<(s.size:Int):=by rw [hsz];decide
  clear hsz
  go_enter Tryz.func59,Tryz.ntmps59
  go_upto_region 1 with fail
  generalize w.alloc (.cells #[.int .i64 3,.string s] 55)=W1 at HB p0 p1 ⊢
  obtain⟨rb,hrb⟩:∃n,n=w.heap.size:=⟨_,rfl⟩
  rw [← hrb] at p0 p1 ⊢
  clear hrb
  go_wp2_with fail
  refine(HN.out W1).mono ?_
  rintro e w2 ⟨rfl,rfl⟩
  go_wp2
  go_ret
  exact⟨rfl,HB.out⟩
 | key i h=>
  have hh:Z6A ZU (kyW i).text=true:=by
   have hl:i<ZU.length:=h
   refine List.any_eq_true.2 ⟨_,List.getElem_mem hl,?_⟩
   show((ZU.getD i ⟨#[]⟩).toList==(ZU[i]).toList)=true
   rw [List.getD_eq_getElem?_getD,List.getElem?_eq_getElem hl];simp
  have HN:=hdd (fun W=>Z59 (kyW i).text W)
  rw [hh] at HN
  clear hcl hk4 hpre hh
  rw [show(kyW i).kind=4 from rfl] at p0 HB ⊢
  rw [show(kyW i).kind=4 from rfl] at p1
  generalize (kyW i).text=s at p0 p1 HB HN ⊢
  go_enter Tryz.func59,Tryz.ntmps59
  go_upto_region 1 with fail
  generalize w.alloc (.cells #[.int .i64 4,.string s] 55)=W1 at HB p0 p1 ⊢
  obtain⟨rb,hrb⟩:∃n,n=w.heap.size:=⟨_,rfl⟩
  rw [← hrb] at p0 p1 ⊢
  clear hrb
  go_wp2_with fail
  refine(HN.out W1).mono ?_
  rintro e w2 ⟨rfl,hb2⟩
  have HE:=hdd (HB.out.trans (hb2.mono HB.out.size))
  clear hb2
  go_wp2
  go_ret
  exact⟨rfl,HE.out⟩
def Z3p:Z2u Z7:=fun _ _ c x=>c=[.int .i64 x.kind,.string x.text]∧x.text.size≤maxLen
theorem ZC:Z1g 2 Z3p:=⟨fun _ h=>h,fun _ _ h=>h,fun h=>by rw [h.1];rfl⟩
theorem Z1w {S:Nat→Prop} {w:World} {a:Option Addr} {xs:List Z7} (h:Za 2 Z3p S w a xs) {i:Nat} (hi:i<xs.length) :
  ∃b off v,a=some ⟨b,off,none⟩∧xs[i]? = some v∧w.cell? ⟨b,off+i*2,none⟩=some (.int .i64 v.kind)∧w.cell? ⟨b,off+i*2+1,none⟩=some (.string v.text):=by
 obtain⟨b,off,cs,x,rfl,hx,hl,hc,hR⟩:=h.place (by decide) hi
 obtain⟨rfl,hs⟩:=hR
 exact⟨b,off,x,rfl,hx,hc 0 _ rfl,hc 1 _ rfl⟩
theorem Z60:(Tryz.prog.info? 55).map (fun i=>(i.zero,i.size,i.bytes))=some (some (.agg #[.int .i64 0,.string ⟨#[]⟩]),2,24):=by kernel_rfl
theorem Z5W:Tryz.prog.underlying 53=some (.slice 55):=by kernel_rfl
section
variable {w:World} {ops:Array Oper} {rest:List Oper} {o:Oper} {a:Act} {Q:Exit→Act→World→Prop}
theorem Z4M (hgd:o.guard=none) (s x:Operand) (ho:o.op=.call { callee:=.builtin .append,args:=#[s,x],argTypes:=#[53,53] })
  (base:Nat) (v:Value) (n:Nat) (xs:List Value) (hs:a.eval s=v) (hown:w.ownsRow base 55 2 v n xs)
  (ao:Option Addr) (m c:Nat) (ys:List Value) (hx:a.eval x=.slice ao m c) (hrow:Z0g w ao ys) (hl:ys.length=m*2) (hm:0<m) (hone:∀u∈ys,u.oneCell'=true)
  (hb:n+m≤1099511627776) (hbase:base≤w.heap.size)
  (h:∀a' c' w',w'.ownsRow base 55 2 (.slice a' (n+m) c') (n+m) (xs++ys)→w.grownBy w' v.ownBlock→
   ((Value.slice a' (n+m) c').ownBlock=v.ownBlock∨(Value.slice a' (n+m) c').ownBlock=some w.heap.size)→wpList Tryz.prog ops Q rest (a.put o.dst (.slice a' (n+m) c')) w'):wpList Tryz.prog ops Q (o::rest) a w:=by
 obtain⟨i0,hi,hz0,hz1,hz2⟩:=info_parts Z60
 exact Z18 hgd s x 53 ho base 55 i0 (.agg #[.int .i64 0,.string ⟨#[]⟩]) 2 24 Z5W hi hz0 hz1 hz2 rfl (by decide) v n xs hs hown ao m c _ hx (by simp [hl]) hrow (by
  rintro rfl
  rcases hrow with h|⟨_,_,h,_⟩
  ·rw [h] at hl;simp at hl;omega
  ·cases h) hone (by unfold maxLen;omega) (by omega) hbase h
end
theorem Z2V {k:Int} {s:ByteArray}:∀u∈[Value.int .i64 k,.string s],u.oneCell'=true:=by
 intro u hu
 simp at hu
 rcases hu with rfl|rfl<;>rfl
def Z4x (ws:List Z7) (k pos:Nat):Prop:=(k<ws.length∧pos=stK ws k)∨(0<k∧k<ws.length∧pos+1=stK ws k)∨(k=ws.length∧pos=(Zl ws).size)
theorem Z4x.start (ws:List Z7):Z4x ws 0 0:=by
 cases ws with
 | nil=>exact .inr (.inr ⟨rfl,rfl⟩)
 | cons w ws=>exact .inl ⟨by simp,rfl⟩
theorem Z4x.next {ws:List Z7} {k:Nat} {v:Z7} (hv:ws[k]? = some v):Z4x ws (k+1) (stK ws k+v.text.size):=by
 have h:=Z42 hv
 have hk:=(List.getElem?_eq_some_iff.1 hv).1
 by_cases hl:k+1<ws.length
 ·exact .inr (.inl ⟨by omega,hl,by rw [Z8y ws k v hv]⟩)
 ·exact .inr (.inr ⟨by omega,h.2.2.2.2 (by omega)⟩)
theorem Z4x.blank {ws:List Z7} (hok:∀v∈ws,ZV v) {k pos:Nat} (hk:0<k) (hl:k<ws.length) (hp:pos+1=stK ws k):pos+1<(Zl ws).size∧Z0U (Zl ws) pos=32:=by
 obtain⟨j,rfl⟩:∃j,k=j+1:=⟨k-1,by omega⟩
 have hv:ws[j]? = some (ws[j]'(by omega)):=List.getElem?_eq_getElem (by omega)
 have h:=(Z42 hv).2.2.2.1 hl
 have hn:=Z8y ws j _ hv
 have hpe:pos=stK ws j+(ws[j]'(by omega)).text.size:=by omega
 have hv2:ws[j+1]? = some (ws[j+1]'hl):=List.getElem?_eq_getElem hl
 have h2:=(Z42 hv2).1
 have h4:=(Z0J (hok _ (List.getElem_mem hl))).1
 rw [hpe]
 exact⟨by omega,h.2⟩
def ZcZ (ws:List Z7) (T:ByteArray) (w:World) (e:Ending) (w':World):Prop:=
 (T.size≤3000∧ws.length≤600→∃a c,e=.returned (.tuple #[.slice a ws.length c,.bool true])∧Za 2 Z3p (fun k=>w.heap.size≤k) w' a ws)∧
  (¬(T.size≤3000∧ws.length≤600)→∃a c,e=.returned (.tuple #[.slice a 0 c,.bool false]))∧Below w.heap.size w w'
theorem Z4r (ws:List Z7) (hok:∀v∈ws,ZV v) (hbig:ws.length≤4000000) (w:World) :
  Calls Tryz.prog 35 #[.string (Zl ws)] w (ZcZ ws (Zl ws) w):=by
 have hsz:=Z1k hok
 obtain⟨T,hT⟩:∃T,T=Zl ws:=⟨_,rfl⟩
 rw [← hT] at hsz ⊢
 have HT:=hdd hT
 have HOK:=hdd hok
 have HST:=hdd (Z4x.start ws)
 clear hT hok
 go_enter Tryz.func35,Tryz.ntmps35
 go_wp2_with fail
 go_loopg [4,5,6,7] (T.size+1) (fun G o i u6 u7 wr=>∃(k pos:Nat) (a:Option Addr) (c:Nat),pos+G=T.size+1∧i=.int .i64 pos∧o=.slice a k c∧Hid (ZM 2 Z3p 55 (fun _=>False) w.heap.size wr a k c (ws.take k)∧Z4x ws k pos∧Below w.heap.size w wr))
 case atStart=>exact⟨0,0,_,_,by omega,rfl,rfl,hdd ⟨ZM.empty _ _ w (Nat.le_refl _),HST.out,(bRf _ _).alloc (Nat.le_refl _) _⟩⟩
 case round=>
  obtain⟨k,pos,a,c,hG,rfl,rfl,HG⟩:=hrel
  obtain⟨wo,rfl⟩:∃wo,wo=wr:=⟨wr,rfl⟩
  obtain⟨go,rfl⟩:∃go,go=gk:=⟨gk,rfl⟩
  by_cases hbg:T.size≤3000
  rotate_left
  ·have HNO:=hdd (show Below w.heap.size w (wo.alloc (.cells #[] 55)) from HG.out.2.2.alloc HG.out.2.2.size _)
   have h1:¬(T.size:Int)≤3000:=by omega
   have h2:(3000:Int)<(T.size:Int):=by omega
   have HBG:=hdd hbg
   clear hbg
   go_wp2
   all_goals
    go_ret2
    exact⟨fun h=>absurd h.1 HBG.out,fun _=>⟨_,_,rfl⟩,HNO.out⟩
  have h1:(T.size:Int)≤3000:=by omega
  have h2:¬(3000:Int)<(T.size:Int):=by omega
  by_cases hlt:pos<T.size
  rotate_left
  ·have hk:k=ws.length:=by
    rcases HG.out.2.1 with⟨h3,h4⟩|⟨h3,h4,h5⟩|⟨h3,h4⟩
    ·have hv:ws[k]? = some (ws[k]'h3):=List.getElem?_eq_getElem h3
     have h6:=(Z42 hv).1
     have h7:=(Z0J (HOK.out _ (List.getElem_mem h3))).1
     rw [← HT.out] at h6
     omega
    ·have h6:=(Z4x.blank HOK.out h3 h4 h5).1
     rw [← HT.out] at h6
     omega
    ·exact h3
   have hli:¬(pos:Int)<(T.size:Int):=by omega
   subst hk
   by_cases h6:ws.length≤600
   ·have h6i:¬(600:Int)<(ws.length:Int):=by omega
    have HE:=hdd (show Za 2 Z3p (fun k=>w.heap.size≤k) wo a ws from by
     have:=HG.out.1.list ZC
     rw [List.take_length] at this
     exact this.mono ZC (fun k _ h=>by rcases h with h|h;exact h.elim;exact h))
    go_wp2
    go_ret2
    exact⟨fun _=>⟨a,c,rfl,HE.out⟩,fun h=>absurd ⟨hbg,h6⟩ h,HG.out.2.2⟩
   ·have h6i:(600:Int)<(ws.length:Int):=by omega
    have HNO:=hdd (show Below w.heap.size w (wo.alloc (.cells #[] 55)) from HG.out.2.2.alloc HG.out.2.2.size _)
    go_wp2
    go_ret2
    exact⟨fun h=>absurd h.2 h6,fun _=>⟨_,_,rfl⟩,HNO.out⟩
  have hli:(pos:Int)<(T.size:Int):=by omega
  have hix:∀W,(Instr.index 9 (.string T) (.int .i64 (pos:Int))).run Tryz.prog W=.ok (.int .u8 (Z0U T pos)) W:=fun W=>Z13 T pos hlt W
  rcases HG.out.2.1 with⟨hk,hp⟩|⟨hk0,hk,hp⟩|⟨hk,hp⟩
  rotate_right
  ·rw [← HT.out] at hp;omega
  ·
   obtain⟨v,hv⟩:∃v,ws[k]? = some v:=⟨_,List.getElem?_eq_getElem hk⟩
   have hwo:=HOK.out v (List.mem_of_getElem? hv)
   obtain⟨m1,m4,m3,mc,hcl⟩:=Z0J hwo
   obtain⟨e1,e2,e3,e4,e5⟩:=Z42 hv
   rw [← HT.out,← hp] at e1 e2 e3 e4 e5
   have HC0:=hdd (fun W=>Z26 (Z1y T pos) (show Z0O (Z0U T pos)=Z8G v by have:=e2 0 (by omega);rw [Nat.add_zero] at this;rw [this];exact hcl 0 (by omega)) W)
   have HIX:=hdd (fun q (hq:q<v.text.size)=>show pos+q<T.size∧Z0O (Z0U T (pos+q))=Z8G v from⟨by omega,by rw [e2 q hq];exact hcl q hq⟩)
   have HE4:=hdd e4
   have HE5:=hdd e5
   have HVV:=hdd (show Z4x ws (k+1) (pos+v.text.size)∧ws.take (k+1)=ws.take k++[v] from⟨by rw [hp];exact Z4x.next hv,Z0n hv⟩)
   have HWD:=hdd (fun W=>Z8q v.text m1 W)
   rw [← Z7S hwo] at HWD
   have HWV:=hdd (fun W=>Z2r hwo W)
   have HEX:=hdd e3
   have HM3:=hdd m3
   have HK:=hdd hk
   have hcl3:Z8G v≤3∧1≤Z8G v:=by rcases mc with h|h|h<;>omega
   clear e2 e3 e4 e5 hcl hwo hv hp m3 mc hk
   obtain⟨cl,hcd⟩:∃cl,cl=Z8G v:=⟨_,rfl⟩
   rw [← hcd] at HC0 HIX HM3 hcl3
   clear hcd
   have hc4:(cl==4)=false:=beq_eq_false_iff_ne.2 (by omega)
   have hc4':(cl != 4)=true:=by rw [bne,hc4];rfl
   have hc0:(cl==0)=false:=beq_eq_false_iff_ne.2 (by omega)
   go_wp2_with fail
   refine(HC0.out wo).mono ?_
   rintro e w1 ⟨rfl,rfl⟩
   clear hix
   go_wp2_with fail
   go_loopg [7] v.text.size (fun G u7 wr=>∃q,1≤q∧q+G=v.text.size+1∧q≤v.text.size∧u7=.int .i64 ((pos:Int)+(q:Int))∧wr=w1)
   case atStart=>exact⟨1,by omega,by omega,by omega,by go_num,rfl⟩
   case round=>
    obtain⟨q,hq1,hqG,hqm,rfl,rfl⟩:=hrel
    by_cases hqt:q<v.text.size
    ·obtain⟨i1,i2⟩:=HIX.out q hqt
     have hqi:(pos:Int)+(q:Int)<(T.size:Int):=by omega
     have hix:∀W,(Instr.index 9 (.string T) (.int .i64 ((pos:Int)+(q:Int)))).run Tryz.prog W=.ok (.int .u8 (Z0U T (pos+q))) W:=fun W=>by rw [show(pos:Int)+(q:Int)=((pos+q:Nat):Int) by omega];exact Z13 T (pos+q) i1 W
     have HCQ:=hdd (fun W=>Z26 (Z1y T (pos+q)) i2 W)
     have hcc:(cl==cl)=true:=by simp
     have hc3:cl<3:=by
      rcases Int.lt_or_le cl 3 with h|h
      ·exact h
      ·have:=HM3.out (by omega);omega
     clear i1 i2
     go_wp2_with fail
     refine(HCQ.out wr).mono ?_
     rintro e w2 ⟨rfl,rfl⟩
     go_wp2
     go_roundg (gk-1)
     case measure=>omega
     case rel=>exact⟨q+1,by omega,by omega,by omega,by go_num,rfl⟩
    ·obtain rfl:q=v.text.size:=by omega
     have hc4r:((4:Int)==cl)=false:=beq_eq_false_iff_ne.2 (by omega)
     have hsl1:(0:Int)≤(pos:Int)∧(pos:Int)≤(pos:Int)+(v.text.size:Int)∧(pos:Int)+(v.text.size:Int)≤(T.size:Int):=by omega
     have hext:T.extract pos (pos+v.text.size)=v.text:=HEX.out
     by_cases hfin:k+1<ws.length
     ·obtain⟨i1,i2⟩:=HE4.out hfin
      have hqi:(pos:Int)+(v.text.size:Int)<(T.size:Int):=by omega
      have hix:∀W,(Instr.index 9 (.string T) (.int .i64 ((pos:Int)+(v.text.size:Int)))).run Tryz.prog W=.ok (.int .u8 (Z0U T (pos+v.text.size))) W:=fun W=>by rw [show(pos:Int)+(v.text.size:Int)=((pos+v.text.size:Nat):Int) by omega];exact Z13 T (pos+v.text.size) i1 W
      have HCQ:=hdd (fun W=>Z26 (Z1y T (pos+v.text.size)) (show Z0O (Z0U T (pos+v.text.size))=4 by rw [i2];decide) W)
      have HFI:=hdd hfin
      clear i1 i2 hfin
      go_wp2_with fail
      refine(HCQ.out wr).mono ?_
      rintro e w2 ⟨rfl,rfl⟩
      go_wp2_with fail
      refine(HWD.out _).mono ?_
      rintro e w5 ⟨rfl,hb5⟩
      have HB5:=hdd hb5
      clear hb5
      go_wp2_with fail
      refine(HWV.out _).mono ?_
      rintro e w6 ⟨rfl,hb6⟩
      have HB6:=hdd (HB5.out.trans (hb6.mono HB5.out.size))
      clear hb6
      go_wp2_with fail
      refine(HWD.out _).mono ?_
      rintro e w7 ⟨rfl,hb7⟩
      have HB7:=hdd (HB6.out.trans (hb7.mono HB6.out.size))
      clear hb7
      have hba:Below w7.heap.size w7 (w7.alloc (.cells #[.int .i64 v.kind,.string v.text] 55)):=(bRf _ _).alloc (Nat.le_refl _) _
      have HBA:=hdd (HB7.out.trans (hba.mono HB7.out.size))
      obtain⟨cells,hrows⟩:=(HG.out.1.below ZC HBA.out).rows
      have HRW:=hdd hrows
      have HLN:=hdd (show(ws.take k).length=k by have:=HK.out;rw [List.length_take];omega)
      clear hba hrows
      go_wp2_with (at_builtin;refine Z4M rfl (.tmp 56) (.tmp 62) rfl w.heap.size (.slice a k c) k _ rfl HRW.out.1 (some ⟨w7.heap.size,0,none⟩) 1 1 [.int .i64 v.kind,.string v.text] rfl (.inr ⟨_,0,rfl,fun i v hv=>(coR _ _ (0+i) _ _ _ (hAn w7 _)).trans (by simpa using hv)⟩) rfl (by omega) Z2V (by have:=HK.out;omega) (by have:=HBA.out.size;have:=HG.out.2.2.size;omega) ?_;intro a2 c2 w9 hown2 hg2 hl2;have HGR:=hdd (HRW.out.push ZC HLN.out (cl:=[.int .i64 v.kind,.string v.text]) (x:=v) ⟨rfl,by unfold maxLen;omega⟩ hown2 hg2 hl2);have HNX:=hdd (show Below w.heap.size w w9 from(HG.out.2.2.trans (HBA.out.mono HG.out.2.2.size)).trans ((Zi hg2 (S:=fun k=>w.heap.size≤k) (fun k hk=>(HRW.out.1.lt k hk).1)).below (B:=w.heap.size) (by have:=HBA.out.size;have:=HG.out.2.2.size;omega) (fun k h=>h)));clear hown2 hg2 hl2)
      go_roundg (go-v.text.size)
      case measure=>omega
      case rel=>exact⟨k+1,pos+v.text.size,a2,c2,by omega,by go_num,rfl,hdd ⟨by rw [HVV.out.2];exact HGR.out,HVV.out.1,HNX.out⟩⟩
     ·have hqi:¬(pos:Int)+(v.text.size:Int)<(T.size:Int):=by have:=HE5.out (by have:=HK.out;omega);omega
      have HFI:=hdd hfin
      clear hfin
      go_wp2_with fail
      refine(HWD.out _).mono ?_
      rintro e w5 ⟨rfl,hb5⟩
      have HB5:=hdd hb5
      clear hb5
      go_wp2_with fail
      refine(HWV.out _).mono ?_
      rintro e w6 ⟨rfl,hb6⟩
      have HB6:=hdd (HB5.out.trans (hb6.mono HB5.out.size))
      clear hb6
      go_wp2_with fail
      refine(HWD.out _).mono ?_
      rintro e w7 ⟨rfl,hb7⟩
      have HB7:=hdd (HB6.out.trans (hb7.mono HB6.out.size))
      clear hb7
      have hba:Below w7.heap.size w7 (w7.alloc (.cells #[.int .i64 v.kind,.string v.text] 55)):=(bRf _ _).alloc (Nat.le_refl _) _
      have HBA:=hdd (HB7.out.trans (hba.mono HB7.out.size))
      obtain⟨cells,hrows⟩:=(HG.out.1.below ZC HBA.out).rows
      have HRW:=hdd hrows
      have HLN:=hdd (show(ws.take k).length=k by have:=HK.out;rw [List.length_take];omega)
      clear hba hrows
      go_wp2_with (at_builtin;refine Z4M rfl (.tmp 56) (.tmp 62) rfl w.heap.size (.slice a k c) k _ rfl HRW.out.1 (some ⟨w7.heap.size,0,none⟩) 1 1 [.int .i64 v.kind,.string v.text] rfl (.inr ⟨_,0,rfl,fun i v hv=>(coR _ _ (0+i) _ _ _ (hAn w7 _)).trans (by simpa using hv)⟩) rfl (by omega) Z2V (by have:=HK.out;omega) (by have:=HBA.out.size;have:=HG.out.2.2.size;omega) ?_;intro a2 c2 w9 hown2 hg2 hl2;have HGR:=hdd (HRW.out.push ZC HLN.out (cl:=[.int .i64 v.kind,.string v.text]) (x:=v) ⟨rfl,by unfold maxLen;omega⟩ hown2 hg2 hl2);have HNX:=hdd (show Below w.heap.size w w9 from(HG.out.2.2.trans (HBA.out.mono HG.out.2.2.size)).trans ((Zi hg2 (S:=fun k=>w.heap.size≤k) (fun k hk=>(HRW.out.1.lt k hk).1)).below (B:=w.heap.size) (by have:=HBA.out.size;have:=HG.out.2.2.size;omega) (fun k h=>h)));clear hown2 hg2 hl2)
      go_roundg (go-v.text.size)
      case measure=>omega
      case rel=>exact⟨k+1,pos+v.text.size,a2,c2,by omega,by go_num,rfl,hdd ⟨by rw [HVV.out.2];exact HGR.out,HVV.out.1,HNX.out⟩⟩
  ·
   obtain⟨v,hv⟩:∃v,ws[k]? = some v:=⟨_,List.getElem?_eq_getElem hk⟩
   have hwo:=HOK.out v (List.mem_of_getElem? hv)
   obtain⟨m1,m4,m3,mc,hcl⟩:=Z0J hwo
   obtain⟨b1,b2⟩:=Z4x.blank HOK.out hk0 hk hp
   obtain⟨e1,e2,-,-,-⟩:=Z42 hv
   rw [← HT.out,← hp] at e1 e2
   rw [← HT.out] at b1 b2
   have HC0:=hdd (fun W=>Z26 (Z1y T pos) (show Z0O (Z0U T pos)=4 by rw [b2];decide) W)
   have hcl1:Z0O (Z0U T (pos+1))=Z8G v:=by have:=e2 0 (by omega);rw [Nat.add_zero] at this;rw [this];exact hcl 0 (by omega)
   have HC1:=hdd (fun W=>Z26 (Z1y T (pos+1)) hcl1 W)
   have hcl4:(Z8G v==4)=false:=beq_eq_false_iff_ne.2 (by rcases mc with h|h|h<;>omega)
   have hqi:(pos:Int)+1<(T.size:Int):=by omega
   have hix1:∀W,(Instr.index 9 (.string T) (.int .i64 ((pos:Int)+1))).run Tryz.prog W=.ok (.int .u8 (Z0U T (pos+1))) W:=fun W=>by rw [show(pos:Int)+1=((pos+1:Nat):Int) by omega];exact Z13 T (pos+1) (by omega) W
   have HNX:=hdd (show Z4x ws k (pos+1) from .inl ⟨hk,hp⟩)
   clear hv hwo m1 m4 m3 mc hcl b1 b2 e1 e2 hcl1 hp hk hk0
   generalize Z8G v=cl at HC1 hcl4
   go_wp2_with fail
   refine(HC0.out wo).mono ?_
   rintro e w1 ⟨rfl,rfl⟩
   clear hix
   go_wp2_with fail
   go_loopg [7] 1 (fun G u7 wr=>u7=.int .i64 ((pos:Int)+1)∧wr=w1)
   case atStart=>exact⟨by go_num,rfl⟩
   case round=>
    obtain⟨rfl,rfl⟩:=hrel
    go_wp2_with fail
    refine(HC1.out wr).mono ?_
    rintro e w2 ⟨rfl,rfl⟩
    go_wp2
    go_roundg (go-1)
    case measure=>omega
    case rel=>exact⟨k,pos+1,a,c,by omega,by go_num,rfl,hdd ⟨HG.out.1,HNX.out,HG.out.2.2⟩⟩
end Go.Proofs.YtloooebabieeeaaGreatDoor
