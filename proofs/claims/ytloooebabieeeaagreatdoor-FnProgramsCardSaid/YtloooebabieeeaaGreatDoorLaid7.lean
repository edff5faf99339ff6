/-
  The program's SamePrograms: it answers whether two programs are one.
-/
import Derived.Test.YtloooebabieeeaaGreatDoorCp
import Derived.Test.YtloooebabieeeaaGreatDoorCq
import Derived.Test.YtloooebabieeeaaGreatDoorU1
import Derived.Test.YtloooebabieeeaaGreatDoorVk
import Derived.Test.YtloooebabieeeaaGreatDoorTLaysJ
import Derived.OwnWalk
import Derived.Lib.SmallJoins
import Derived.Test.YtloooebabieeeaaGreatDoorU5
import Derived.Test.YtloooebabieeeaaGreatDoorT22
import Derived.Test.YtloooebabieeeaaGreatDoorRows
import Derived.ProofKit
import Derived.LaidMore
import Derived.OpenShut
import Derived.Stop.Joined
import Derived.Maps.Keyed
import Derived.Test.YtloooebabieeeaaGreatDoorKeysLaid
import Derived.Lib.LaidTab
set_option maxRecDepth 100000
set_option maxHeartbeats 16000000
set_option linter.unusedVariables false
namespace Go.Proofs.YtloooebabieeeaaGreatDoor
open Go.RowKit
theorem Z7d (a a':Option Addr) (c c':Nat) (xs ys:List ByteArray) (w:World) (hx:Za 1 Z1V (fun _=>True) w a xs) (hy:Za 1 Z1V (fun _=>True) w a' ys) (hlx:xs.length≤100) (hly:ys.length≤100) :
  Calls Tryz.prog 17 #[.slice a xs.length c,.slice a' ys.length c'] w fun e w'=>e=.returned (.bool (eqB xs ys))∧Below w.heap.size w w':=by
 obtain⟨R,hR⟩:∃R,R=eqB xs ys:=⟨_,rfl⟩
 rw [← hR]
 have HR0:=hdd hR
 have HK:=hdd (aI hx hy)
 clear hR hx hy
 go_enter Tryz.func17,Tryz.ntmps17
 by_cases h4:xs.length=ys.length
 rotate_left
 ·have HF:=hdd (show R=false by rw [HR0.out];exact Zn fun e=>h4 (by rw [e]))
  have i7:((xs.length:Int) != (ys.length:Int))=true:=by simpa using fun h:(xs.length:Int)=(ys.length:Int)=>h4 (by omega)
  have i8:((xs.length:Int)==(ys.length:Int))=false:=by simpa using fun h:(xs.length:Int)=(ys.length:Int)=>h4 (by omega)
  clear h4
  go_wp2
  go_ret
  exact⟨by rw [HF.out];rfl,bRf _ _⟩
 have i7:((xs.length:Int) != (ys.length:Int))=false:=by rw [h4];simp
 have i8:((xs.length:Int)==(ys.length:Int))=true:=by rw [h4];simp
 have HEQ:=hdd h4
 clear h4
 go_wp2_with fail
 go_loopg [13] xs.length (fun G i wr=>∃(j:Nat),j+G=xs.length∧i=.int .i64 j∧Hid (Z3B xs ys j∧Below w.heap.size w wr))
 case atStart=>exact⟨0,by omega,rfl,hdd ⟨Z17 _ _,bRf _ _⟩⟩
 case round=>
  obtain⟨j,hj,rfl,HG⟩:=hrel
  clear i7 i8
  by_cases hlt:j<xs.length
  ·have hlt':j<ys.length:=by have:=HEQ.out;omega
   obtain⟨b1,o1,x,rfl,hx,hxs,c0⟩:=Z1B (HK.out.1.below Z3 HG.out.2) hlt
   obtain⟨b2,o2,y,rfl,hy,hys,d0⟩:=Z1B (HK.out.2.below Z3 HG.out.2) hlt'
   have hji:(j:Int)<(xs.length:Int):=by omega
   have hji':(j:Int)<(ys.length:Int):=by omega
   have HXY:=hdd (aI hx hy)
   have HD:=hdd (fun n=>below_drewN HG.out.2 n)
   clear hx hy hlt' hxs hys
   by_cases hv:x=y
   ·have i5:(x.toList==y.toList)=true:=by rw [hv];simp
    have i6:(x.toList != y.toList)=false:=by rw [bne,i5];rfl
    have HN:=hdd (Z16 HG.out.1 HXY.out.1 HXY.out.2 (Z0s hv))
    clear hv
    go_wp2_with fail
    go_quiet (fail)
    go_wp2
    go_roundg (gk-1)
    case measure=>omega
    case rel=>exact⟨j+1,by omega,by go_num,hdd ⟨HN.out,HD.out _⟩⟩
   ·have i5:(x.toList==y.toList)=false:=Z1m hv
    have i6:(x.toList != y.toList)=true:=by rw [bne,i5];rfl
    have HF:=hdd (show R=false from by rw [HR0.out];exact Zn (Z0h HXY.out.1 HXY.out.2 (Zn hv)))
    clear hv
    go_wp2_with fail
    go_quiet (fail)
    go_wp2
    go_ret
    exact⟨by rw [HF.out];rfl,HD.out _⟩
  ·obtain rfl:j=xs.length:=by omega
   have HF:=hdd (show R=true from by rw [HR0.out];exact Z0s (Z1G HEQ.out HG.out.1))
   have hji:¬(xs.length:Int)<(xs.length:Int):=by omega
   go_wp2
   go_ret
   exact⟨by rw [HF.out];rfl,HG.out.2⟩
theorem Z83 (m:Nat) (cs ds:List Value) (x y:FnD) (w:World) (hx:FnP m (fun _=>True) w cs x) (hy:FnP m (fun _=>True) w ds y) :
  Calls Tryz.prog 16 #[.agg cs.toArray,.agg ds.toArray] w fun e w'=>e=.returned (.bool (eqB x y))∧Below w.heap.size w w':=by
 obtain⟨pa,pc,ba,bc,rfl,⟨-,hl1,hl2⟩,hA,hB⟩:=hx
 obtain⟨pa',pc',ba',bc',rfl,⟨-,hl1',hl2'⟩,hA',hB'⟩:=hy
 have HB:=hdd (Z1R w (.cells #[.string x.name,.slice pa x.params.length pc,.slice ba x.body.length bc] 42) (.cells #[.string y.name,.slice pa' y.params.length pc',.slice ba' y.body.length bc'] 42))
 have HEP:=hdd (fun (W:World) (hW:Below w.heap.size w W)=>Z7d pa pa' pc pc' x.params y.params W (hA.below Z3 hW) (hA'.below Z3 hW) hl1 hl1')
 have HEB:=hdd (fun (W:World) (hW:Below w.heap.size w W)=>Z3y m (Z6g m) ba ba' bc bc' x.body y.body W (hB.rd.later (Z0B m) hW) (hB'.rd.later (Z0B m) hW) (by omega) (by omega))
 clear hA hB hA' hB' hl1 hl2 hl1' hl2'
 obtain⟨R,hR⟩:∃R,R=eqB x y:=⟨_,rfl⟩
 rw [← hR]
 have HR0:=hdd hR
 clear hR
 go_enter Tryz.func16,Tryz.ntmps16
 go_upto_region 1 with fail
 generalize (w.alloc (.cells #[.string x.name,.slice pa x.params.length pc,.slice ba x.body.length bc] 42)).alloc (.cells #[.string y.name,.slice pa' y.params.length pc',.slice ba' y.body.length bc'] 42)=W1 at HB ⊢
 have p0:=coR _ _ 0 _ _ _ HB.out.1
 have p1:=coR _ _ 1 _ _ _ HB.out.1
 have p2:=coR _ _ 2 _ _ _ HB.out.1
 have q0:=coR _ _ 0 _ _ _ HB.out.2.1
 have q1:=coR _ _ 1 _ _ _ HB.out.2.1
 have q2:=coR _ _ 2 _ _ _ HB.out.2.1
 simp only [ga0,ga1,ga2] at p0 p1 p2 q0 q1 q2
 have HBW:=hdd HB.out.2.2.1
 obtain⟨b0,hb0⟩:∃b,b=w.heap.size:=⟨_,rfl⟩
 rw [← hb0] at p0 p1 p2 q0 q1 q2 ⊢
 clear hb0 HB
 by_cases h3:x.name=y.name
 rotate_left
 ·have HF:=hdd (show R=false by rw [HR0.out];exact Zn fun e=>h3 (by rw [e]))
  have i5:(x.name.toList==y.name.toList)=false:=Z1m h3
  clear h3
  go_wp2
  go_ret
  exact⟨by rw [HF.out];rfl,HBW.out⟩
 have i5:(x.name.toList==y.name.toList)=true:=by rw [h3];simp
 have HNM:=hdd h3
 clear h3
 go_wp2_with fail
 refine(HEP.out _ HBW.out).mono ?_
 cases hv:eqB x.params y.params with
 | false=>
  rintro e w5 ⟨rfl,hb5⟩
  have HF:=hdd (show R=false∧Below w.heap.size w w5 from⟨by rw [HR0.out];exact Zn fun e=>Z2v hv (by rw [e]),HBW.out.trans (hb5.mono HBW.out.size)⟩)
  clear hb5 hv p0 p1 p2 q0 q1 q2
  go_wp2
  go_ret
  exact⟨by rw [HF.out.1];rfl,HF.out.2⟩
 | true=>
  rintro e w5 ⟨rfl,hb5⟩
  have HW5:=hdd (aI (Z1t.1 hv) (HBW.out.trans (hb5.mono HBW.out.size)))
  have g2:=clT hb5 p2
  have h2:=clT hb5 q2
  clear hb5 hv p0 p1 p2 q0 q1 q2 i5
  go_wp2_with fail
  refine(HEB.out _ HW5.out.2).mono ?_
  rintro e w6 ⟨rfl,hb6⟩
  have HF:=hdd (show R=eqB x.body y.body∧Below w.heap.size w w6 from⟨by
   rw [HR0.out]
   cases hv3:eqB x.body y.body with
   | true=>exact Z0s (Z9M HNM.out HW5.out.1 (Z1t.1 hv3))
   | false=>exact Zn fun e=>Z2v hv3 (by rw [e]),HW5.out.2.trans (hb6.mono HW5.out.2.size)⟩)
  clear hb6 g2 h2
  go_wp2
  go_ret
  exact⟨by rw [HF.out.1];rfl,HF.out.2⟩
theorem Z2p (D:Nat) (a a':Option Addr) (c c':Nat) (p q:List FnD) (w:World) (hx:Za 3 (FnP D) (fun _=>True) w a p) (hy:Za 3 (FnP D) (fun _=>True) w a' q) (hlx:p.length≤100) (hly:q.length≤100) :
  Calls Tryz.prog 5 #[.agg (List.toArray [.slice a p.length c]),.agg (List.toArray [.slice a' q.length c'])] w fun e w'=>e=.returned (.bool (eqB p q))∧Below w.heap.size w w':=by
 have HB:=hdd (Z1R w (.cells #[.slice a p.length c] 25) (.cells #[.slice a' q.length c'] 25))
 have HEF:=hdd (Zak D (Z83 D) a a' c c' p q _ (hx.rd.later (Z2F D) HB.out.2.2.1) (hy.rd.later (Z2F D) HB.out.2.2.1) (by omega) (by omega))
 clear hx hy
 go_enter Tryz.func5,Tryz.ntmps5
 go_upto_region 1 with fail
 generalize (w.alloc (.cells #[.slice a p.length c] 25)).alloc (.cells #[.slice a' q.length c'] 25)=W1 at HB HEF ⊢
 have p0:=coR _ _ 0 _ _ _ HB.out.1
 have q0:=coR _ _ 0 _ _ _ HB.out.2.1
 simp only [ga0,ga1] at p0 q0
 have HB0:=hdd HB.out.2.2.1
 obtain⟨pb,hpb⟩:∃b,b=w.heap.size:=⟨_,rfl⟩
 rw [← hpb] at p0 q0 ⊢
 clear hpb HB
 go_wp2_with fail
 refine HEF.out.mono ?_
 rintro e w5 ⟨rfl,hb5⟩
 have HB5:=hdd (HB0.out.trans (hb5.mono HB0.out.size))
 clear hb5
 go_wp2
 go_ret
 exact⟨rfl,HB5.out⟩
theorem ZcO:Go.Proofs.Builder.Extra Tryz.prog Z4p where
 sizeBuilder:=by kernel_rfl
 liesBuilder:=by kernel_rfl
 t5:=Tryz.underlying5
 a5:=Tryz.isAgg5
 z5:=Tryz.sizeOf5
 v5:=Tryz.zeroValue5
 infoByte:=by kernel_rfl
 cellsByte:=by kernel_rfl
 sizeByte:=by kernel_rfl
 neB5:=by decide
theorem Zbt {n:Nat} (hn:n≤255):Lib.atoi (Z1f n).data.toList=some (n:Int):=by
 have h0:∀j:Fin 256,Lib.atoi (Z1f j.val).data.toList=some (j.val:Int):=by decide +kernel
 exact h0 ⟨n,by omega⟩
theorem Z7V (n:Nat) (hn:n≤255) (w:World):Calls Tryz.prog 99 #[.string (Z1f n)] w fun e w'=>e=.returned (.tuple #[.int .i64 (n:Int),.nilIface])∧Below w.heap.size w w':=by
 refine(Go.Proofs.Any.strconv_Atoi ZbN (Z1f n) (n:Int) (by have:=(Z5d hn).2.1;omega) (Zbt hn) w).mono ?_
 rintro e w' ⟨rfl,t,rfl⟩
 exact⟨rfl,Go.Joins.below_bytesWorld _ _ _ _ (Nat.le_refl _)⟩
theorem Z71 (c:Int) (h1:48≤c) (h2:c≤57) (w:World):Calls Tryz.prog 98 #[.int .u8 c] w fun e w'=>e=.returned (.bool true)∧w'=w:=by
 have d1:decide (48≤c)=true:=decide_eq_true h1
 have d2:decide (c≤57)=true:=decide_eq_true h2
 go_enter Tryz.func98,Tryz.ntmps98
 go_wp2
 go_ret
 exact⟨rfl,rfl⟩
theorem Z5t (n:Nat) (hn:n≤255) (w:World):Calls Tryz.prog 76 #[.string (Z1f n),.int .i64 255] w fun e w'=>e=.returned (.int .i64 (n:Int))∧Below w.heap.size w w':=by
 have HA:=hdd (fun W=>Z7V n hn W)
 obtain⟨h1,h2,h3,-,h5⟩:=Z5d hn
 have hn2:¬(255:Int)<(n:Int):=by omega
 generalize Z1f n=s at h1 h2 h3 h5 HA ⊢
 have HD:=hdd (fun k hk=>(⟨(h5 k hk).1,(h5 k hk).2.1⟩:48≤Z0U s k∧Z0U s k≤57))
 have he:s.toList.isEmpty=false:=by
  cases hh:s.toList.isEmpty with
  | false=>rfl
  | true=>rw [List.isEmpty_iff,Lib.toList_data] at hh;have:s.data.toList.length=s.size:=Array.length_toList;rw [hh] at this;simp at this;omega
 have hs5:¬(5:Int)<(s.size:Int):=by omega
 have hix0:∀W,(Instr.index 9 (.string s) (.int .i64 (0:Int))).run Tryz.prog W=.ok (.int .u8 (Z0U s 0)) W:=fun W=>Z13 s 0 (by omega) W
 have hd48:((1:Int)<(s.size:Int)∧(Z0U s 0==48)=false)∨¬(1:Int)<(s.size:Int):=by
  by_cases h:1<s.size
  ·exact .inl ⟨by omega,beq_eq_false_iff_ne.2 (h3 h)⟩
  ·exact .inr (by omega)
 have hs0:(0:Int)<(s.size:Int):=by omega
 clear h3 h5
 obtain⟨c,hc⟩:∃c,c=Z0U s 0:=⟨_,rfl⟩
 rw [← hc] at hix0 hd48
 clear hc
 rcases hd48 with⟨hone,h48⟩|hone
 all_goals
  go_enter Tryz.func76,Tryz.ntmps76
  go_wp2_with fail
  go_loopg [27] s.size (fun G i wr=>∃k:Nat,k+G=s.size∧i=.int .i64 k∧wr=w)
  case atStart=>exact⟨0,by omega,rfl,rfl⟩
  case round=>
   obtain⟨k,hk,rfl,rfl⟩:=hrel
   clear hix0 hone he
   by_cases hlt:k<s.size
   ·have hki:(k:Int)<(s.size:Int):=by omega
    have hix:∀W,(Instr.index 9 (.string s) (.int .i64 (k:Int))).run Tryz.prog W=.ok (.int .u8 (Z0U s k)) W:=fun W=>Z13 s k hlt W
    obtain⟨d1,d2⟩:=HD.out k hlt
    generalize Z0U s k=d at hix d1 d2
    have HDG:=hdd (Z71 d d1 d2 wr)
    clear d1 d2
    go_wp2_with fail
    refine HDG.out.mono ?_
    rintro e w2 ⟨rfl,rfl⟩
    go_wp2
    go_roundg (gk-1)
    case measure=>omega
    case rel=>exact⟨k+1,by omega,by go_num,rfl⟩
   ·obtain rfl:k=s.size:=by omega
    have hki:¬(s.size:Int)<(s.size:Int):=by omega
    go_wp2_with fail
    refine(HA.out _).mono ?_
    rintro e w2 ⟨rfl,hb2⟩
    have HB:=hdd hb2
    clear hb2
    go_wp2
    go_ret
    exact⟨rfl,HB.out⟩
theorem Z9N {c:UInt8} (h:c∈Z7z):decide (0≤Lib.indexByte (⟨#[40,41,123,125,59,44,43,45,42,47,37,60,61,38,33,64]⟩:ByteArray).data.toList c)=true:=by
 simp only [Z7z,List.mem_cons,List.not_mem_nil,or_false] at h
 rcases h with rfl|rfl|rfl|rfl|rfl|rfl|rfl|rfl|rfl|rfl|rfl|rfl|rfl|rfl|rfl|rfl<;>decide +kernel
theorem Zbq {i:Nat} (h:i<9):Z6A ZU (ZU.getD i ⟨#[]⟩)=true:=by
 have hc:i=0∨i=1∨i=2∨i=3∨i=4∨i=5∨i=6∨i=7∨i=8:=by omega
 rcases hc with rfl|rfl|rfl|rfl|rfl|rfl|rfl|rfl|rfl<;>decide +kernel
theorem Z5n {v:Z7} (hv:ZV v) (w:World) (hK:Z1F w):Calls Tryz.prog 48 #[.agg (List.toArray [.int .i64 v.kind,.string v.text])] w fun e w'=>e=.returned (.bool true)∧Below w.heap.size w w':=by
 have hb:Below w.heap.size w (w.alloc (.cells #[.int .i64 v.kind,.string v.text] 55)):=(bRf _ _).alloc (Nat.le_refl _) _
 have hr:=hAn w (.cells #[.int .i64 v.kind,.string v.text] 55)
 have p0:=coR _ _ 0 _ _ _ hr
 have p1:=coR _ _ 1 _ _ _ hr
 simp only [ga0,ga1,ga2] at p0 p1
 have HB:=hdd (aI hb (hK.later hb))
 clear hb hr hK
 go_enter Tryz.func48,Tryz.ntmps48
 go_upto_region 1 with fail
 generalize w.alloc (.cells #[.int .i64 v.kind,.string v.text] 55)=W1 at HB p0 p1 ⊢
 obtain⟨vb,hvb⟩:∃b,b=w.heap.size:=⟨_,rfl⟩
 rw [← hvb] at p0 p1 ⊢
 clear hvb
 cases hv with
 | name s h=>
  replace p0:W1.cell? ⟨vb,0,none⟩=some (.int .i64 1):=p0
  replace p1:W1.cell? ⟨vb,1,none⟩=some (.string s):=p1
  have HC:=hdd (Z2a s W1 HB.out.2)
  rw [h] at HC
  clear h
  go_wp2_with fail
  refine HC.out.mono ?_
  rintro e w2 ⟨rfl,hb2⟩
  have HB2:=hdd (HB.out.1.trans (hb2.mono HB.out.1.size))
  clear hb2 p0 p1
  go_wp2
  go_ret
  exact⟨rfl,HB2.out⟩
 | num n h=>
  replace p0:W1.cell? ⟨vb,0,none⟩=some (.int .i64 2):=p0
  replace p1:W1.cell? ⟨vb,1,none⟩=some (.string (Z1f n)):=p1
  have HC:=hdd (Z5t n h W1)
  have hd:decide ((0:Int)≤(n:Int))=true:=decide_eq_true (by omega)
  go_wp2_with fail
  refine HC.out.mono ?_
  rintro e w2 ⟨rfl,hb2⟩
  have HB2:=hdd (HB.out.1.trans (hb2.mono HB.out.1.size))
  clear hb2 p0 p1
  go_wp2
  go_ret
  exact⟨rfl,HB2.out⟩
 | sign c h=>
  replace p0:W1.cell? ⟨vb,0,none⟩=some (.int .i64 3):=p0
  replace p1:W1.cell? ⟨vb,1,none⟩=some (.string ⟨#[c]⟩):=p1
  have HC:=hdd (Go.Proofs.Any.strings_Contains_one ZbR ⟨#[40,41,123,125,59,44,43,45,42,47,37,60,61,38,33,64]⟩ c W1)
  rw [Z9N h] at HC
  have hs1:((⟨#[c]⟩:ByteArray).size:Int)=1:=rfl
  clear h
  go_wp2_with fail
  refine HC.out.mono ?_
  rintro e w2 ⟨rfl,rfl⟩
  clear p0 p1
  go_wp2
  go_ret
  exact⟨rfl,HB.out.1⟩
 | key i h=>
  replace p0:W1.cell? ⟨vb,0,none⟩=some (.int .i64 4):=p0
  replace p1:W1.cell? ⟨vb,1,none⟩=some (.string (ZU.getD i ⟨#[]⟩)):=p1
  have HKH:=hdd (Zbq h)
  obtain⟨T,hT⟩:∃T,T=ZU.getD i ⟨#[]⟩:=⟨_,rfl⟩
  rw [← hT] at p1 HKH
  have hbd:Below W1.heap.size W1 W1.drew:=(bRf _ _).drew
  have HC:=hdd (Z3M (some ⟨0,0,none⟩) 9 9 ZU T W1.drew (HB.out.2.later hbd).strs (by decide))
  rw [HKH.out] at HC
  have HB2:=hdd (HB.out.1.trans (hbd.mono HB.out.1.size))
  clear hT h hbd
  go_wp2_with fail
  go_still_tail 3,(by kernel_rfl)
  change wpList _ _ _ _ _ W1.drew
  generalize W1.drew=wd at HC HB2 ⊢
  clear p0 p1
  go_wp2_with fail
  refine HC.out.mono ?_
  rintro e w2 ⟨rfl,rfl⟩
  go_wp2
  go_ret
  exact⟨rfl,HB2.out⟩
theorem Z7D:∀(ws:List Z7),Lib.joinTail [32] (ws.map fun u=>u.text.data.toList)=Z1h ws
 | []=>rfl
 |
  u::ws=>by
  have h:=Z7D ws
  rw [Lib.joinTail] at h ⊢
  rw [List.map_cons,List.map_cons,List.flatten_cons,h]
  rfl
theorem Z3V (ws:List Z7):(⟨(Lib.join ((ws.map Z7.text).map (·.data.toList)) (⟨#[32]⟩:ByteArray).data.toList).toArray⟩:ByteArray)=Zl ws:=by
 have h:Lib.join (ws.map fun u=>u.text.data.toList) [32]=Z2T ws:=by
  cases ws with
  | nil=>rfl
  | cons v ws=>
   rw [List.map_cons,Lib.join_cons,Z7D]
   show _=((32::v.text.data.toList)++Z1h ws).drop 1
   rfl
 rw [List.map_map]
 show(⟨(Lib.join (ws.map fun u=>u.text.data.toList) [32]).toArray⟩:ByteArray)=_
 rw [h]
 rfl
theorem Z9P {xs:List ByteArray} {k n:Nat} {x:ByteArray} (h:xs[k]? = some x) (hn:xs.length=n) :
  ((xs.take k).map Value.string++List.replicate (n-k) (Value.string ⟨#[]⟩)).set k (.string x) =
   (xs.take (k+1)).map Value.string++List.replicate (n-(k+1)) (Value.string ⟨#[]⟩):=by
 have hk:k<xs.length:=(List.getElem?_eq_some_iff.1 h).1
 have hl:((xs.take k).map Value.string).length=k:=by simp;omega
 rw [List.set_append_right _ _ (by omega),hl,Nat.sub_self,List.take_add_one,h,List.map_append,List.append_assoc]
 obtain⟨m,hm⟩:∃m,n-k=m+1:=⟨n-k-1,by omega⟩
 rw [hm,show n-(k+1)=m by omega]
 simp [List.replicate_succ]
theorem Z5i (S:Nat→Prop) (a:Option Addr) (c:Nat) (ws:List Z7) (w:World) (hx:Za 2 Z3p S w a ws) (hok:∀v∈ws,ZV v) (hbig:ws.length≤4000000) (hK:Z1F w) :
  Calls Tryz.prog 27 #[.slice a ws.length c] w fun e w'=>e=.returned (.tuple #[.string (Z7L ws).1,.bool (Z7L ws).2])∧Below w.heap.size w w':=by
 obtain⟨R,hR⟩:∃R,R=Z7L ws:=⟨_,rfl⟩
 rw [← hR]
 have HR:=hdd hR
 have HX:=hdd hx
 have HOK:=hdd hok
 have HK:=hdd hK
 have HTS:=hdd (Z1k hok)
 clear hR hx hok hK
 obtain⟨i0,hi,hz0,hz1,hz2⟩:=info_parts Z4W
 by_cases h6:ws.length≤600
 rotate_left
 ·have HE:=hdd (show R=(⟨#[]⟩,false) by rw [HR.out];exact Z67 fun h=>h6 h.2)
  have h6j:(600:Int)<(ws.length:Int):=by omega
  clear hi hz0 hz1 hz2
  go_enter Tryz.func27,Tryz.ntmps27
  go_wp2
  go_ret2
  exact⟨by rw [HE.out];rfl,bRf _ _⟩
 have h6j:¬(600:Int)<(ws.length:Int):=by omega
 go_enter Tryz.func27,Tryz.ntmps27
 go_wp2_with (at_make;refine wpList_make_full _ rfl _ _ 39 rfl w.heap.size 9 i0 (.string ⟨#[]⟩) 1 Z4G hi hz0 hz1 _ _ _ _ ws.length rfl rfl rfl rfl (by rw [hz2];omega) (by unfold maxLen;omega) (Nat.le_refl _) ?_;intro w1 hown hg)
 have hb1:Below w.heap.size w w1:=(bRf _ _).grown hg (Nat.le_refl _) (by simp)
 rw [show(Value.string ⟨#[]⟩).cells=#[Value.string ⟨#[]⟩] from rfl,Nat.mul_one,toList_madeCells_one] at hown
 obtain⟨tb,htb⟩:∃b,b=w.heap.size:=⟨_,rfl⟩
 have HTB:=hdd htb
 rw [← htb] at hown ⊢
 have HB1:=hdd hb1
 have HOW1:=hdd hown
 clear hb1 hown hg htb hi hz0 hz1 hz2
 go_wp2_with fail
 go_loopg [16] ws.length (fun G i wr=>∃(k:Nat),k+G=ws.length∧i=.int .i64 k∧Hid (Below w.heap.size w wr∧wr.ownsRow tb 9 1 (.slice (some ⟨tb,0,none⟩) ws.length ws.length) ws.length (((ws.map Z7.text).take k).map Value.string++List.replicate (ws.length-k) (Value.string ⟨#[]⟩))))
 case atStart=>exact⟨0,by omega,rfl,hdd ⟨HB1.out,by simpa using HOW1.out⟩⟩
 case round=>
  obtain⟨k,hk,rfl,HG⟩:=hrel
  by_cases hlt:k<ws.length
  ·obtain⟨b,off,v,hab,hv,c0,c1⟩:=Z1w (HX.out.below ZC HG.out.1) hlt
   subst hab
   have hki:(k:Int)<(ws.length:Int):=by omega
   have hvo:=HOK.out v (List.mem_of_getElem? hv)
   have hba:Below wr.heap.size wr (wr.alloc (.cells #[.int .i64 v.kind,.string v.text] 55)):=(bRf _ _).alloc (Nat.le_refl _) _
   have HRW:=hdd (hAn wr (.cells #[.int .i64 v.kind,.string v.text] 55))
   have HB2:=hdd (show Below w.heap.size w (wr.alloc (.cells #[.int .i64 v.kind,.string v.text] 55)) from HG.out.1.trans (hba.mono HG.out.1.size))
   have HO2:=hdd (ZI HG.out.2 hba)
   have HWV:=hdd (fun W (hW:Below w.heap.size w W)=>Z5n hvo W (HK.out.later hW))
   have HVT:=hdd (show(ws.map Z7.text)[k]? = some v.text from by rw [List.getElem?_map,hv];rfl)
   clear hv hvo hba
   go_upto_region 7 with fail
   clear c0 c1
   obtain⟨vb,hvb⟩:∃n,n=wr.heap.size:=⟨_,rfl⟩
   generalize wr.alloc (.cells #[.int .i64 v.kind,.string v.text] 55)=wk at HRW HB2 HO2 ⊢
   rw [← hvb] at HRW ⊢
   clear hvb
   have e0:=coR _ _ 0 _ _ _ HRW.out
   have e1:=coR _ _ 1 _ _ _ HRW.out
   simp only [ga0,ga1,ga2] at e0 e1
   go_wp2_with fail
   refine(HWV.out wk HB2.out).mono ?_
   rintro e w3 ⟨rfl,hb3⟩
   have f1:=clT hb3 e1
   have HO3:=hdd (ZI HO2.out hb3)
   have HB3:=hdd (HB2.out.trans (hb3.mono HB2.out.size))
   have hfz:=HO3.out.frozenAt k
   have hcl:∃u,w3.cell? ⟨tb,k,none⟩=some u:=by
    rw [HO3.out.cellAt k (by omega)]
    exact⟨_,List.getElem?_eq_getElem (by simp;omega)⟩
   obtain⟨u,hcu⟩:=hcl
   clear hb3 e0 e1
   go_wp2
   go_roundg (gk-1)
   case measure=>omega
   case rel=>
    refine⟨k+1,by omega,by go_num,hdd ⟨HB3.out.setCell (by rw [HTB.out];exact Nat.le_refl _) _,?_⟩⟩
    rw [← Z9P HVT.out (List.length_map ..)]
    exact(HO3.out.stored k _).1
  ·obtain rfl:k=ws.length:=by omega
   have hki:¬(ws.length:Int)<(ws.length:Int):=by omega
   have HOE:=hdd (show wr.ownsRow tb 9 1 (.slice (some ⟨tb,0,none⟩) ws.length ws.length) ws.length ((ws.map Z7.text).map Value.string) from by
    have h:=HG.out.2
    rw [List.take_of_length_le (by simp),Nat.sub_self] at h
    simpa using h)
   have hlt:=HB1.out.size
   have HJ:=hdd (show Calls Tryz.prog 49 #[.slice (some ⟨tb,0,none⟩) ws.length ws.length,.string ⟨#[32]⟩] wr fun e w'=>e=.returned (.string (Zl ws))∧Below wr.heap.size wr w' from by
    have hc:∀(j:Nat) x,(ws.map Z7.text)[j]? = some x→wr.cell? ⟨tb,0+j,none⟩=some (.string x):=fun j x hx=>by
     have hj:j<ws.length:=by have:=(List.getElem?_eq_some_iff.1 hx).1;simpa using this
     rw [Nat.zero_add,HOE.out.cellAt j (by omega),List.getElem?_map,hx]
     rfl
    have h:=Go.Proofs.Any.strings_Join ZbA ZcO tb 0 ws.length (ws.map Z7.text) ⟨#[32]⟩ wr hc (HOE.out.lt tb rfl).2 (by simp;omega) (by simp) (by
     have h1:=Z3V ws
     have h2:(Zl ws).size=_:=congrArg ByteArray.size h1.symm
     have h3:=HTS.out
     rw [h2] at h3
     have h4:∀l:List UInt8,(⟨l.toArray⟩:ByteArray).size=l.length:=fun l=>by simp [ByteArray.size]
     rw [h4] at h3
     omega)
    rw [Z3V,List.length_map] at h
    exact h)
   obtain⟨T,hT⟩:∃T,T=Zl ws:=⟨_,rfl⟩
   rw [← hT] at HJ
   have HTT:=hdd hT
   have HB4:=hdd HG.out.1
   clear hT hlt HOE HG
   go_wp2_with fail
   refine HJ.out.mono ?_
   rintro e w3 ⟨rfl,hb3⟩
   have HB3:=hdd (HB4.out.trans (hb3.mono HB4.out.size))
   clear hb3
   by_cases h3:T.size≤3000
   ·have h3i:¬(3000:Int)<(T.size:Int):=by omega
    have HE:=hdd (show R=(T,true) by rw [HR.out,Z8I ⟨by rw [← HTT.out];exact h3,h6⟩,← HTT.out])
    go_wp2
    go_ret2
    exact⟨by rw [HE.out];rfl,HB3.out⟩
   ·have h3i:(3000:Int)<(T.size:Int):=by omega
    have HE:=hdd (show R=(⟨#[]⟩,false) by rw [HR.out];exact Z67 fun h=>h3 (by rw [HTT.out];exact h.1))
    go_wp2
    go_ret2
    exact⟨by rw [HE.out];rfl,HB3.out⟩
theorem Z2R (D:Nat) (a:Option Addr) (c:Nat) (p:List FnD) (w:World) (hT:Z30 w) (hx:Za 3 (FnP D) (fun _=>True) w a p) (hl:p.length≤100) :
  Calls Tryz.prog 7 #[.agg (List.toArray [.slice a p.length c])] w fun e w'=>e=.returned (.tuple #[.string (Z4K p).1,.bool (Z4K p).2])∧Below w.heap.size w w':=by
 have hb0:Below w.heap.size w (w.alloc (.cells #[.slice a p.length c] 25)):=(bRf _ _).alloc (Nat.le_refl _) _
 have p0:=coR _ _ 0 _ _ _ (hAn w (.cells #[.slice a p.length c] 25))
 simp only [ga0,ga1] at p0
 have HX:=hdd hx
 have HT:=hdd hT
 have HB0:=hdd hb0
 have HL:=hdd hl
 clear hx hb0 hl hT
 obtain⟨R,hR⟩:∃R,R=Z4K p:=⟨_,rfl⟩
 rw [← hR]
 have HR:=hdd hR
 clear hR
 go_enter Tryz.func7,Tryz.ntmps7
 go_upto_region 1 with fail
 obtain⟨pb,hpb⟩:∃b,b=w.heap.size:=⟨_,rfl⟩
 generalize w.alloc (.cells #[.slice a p.length c] 25)=W1 at HB0 p0 ⊢
 rw [← hpb] at p0 ⊢
 clear hpb
 go_wp2_with fail
 refine(Z5k D (fun _=>True) a c p W1 (HT.out.ops.later HB0.out) (HT.out.keys.later HB0.out) (HX.out.below (Z2 D) HB0.out) HL.out).mono ?_
 cases hv:Z0C p with
 | false=>
  rintro e w2 ⟨rfl,hb2⟩
  have HE:=hdd (show R=(⟨#[]⟩,false)∧Below w.heap.size w w2 from⟨by rw [HR.out,Z4K,hv];rfl,HB0.out.trans (hb2.mono HB0.out.size)⟩)
  clear hb2 hv p0
  go_wp2
  go_ret2
  exact⟨by rw [HE.out.1];rfl,HE.out.2⟩
 | true=>
  rintro e w2 ⟨rfl,hb2⟩
  have q0:=clT hb2 p0
  have HB2:=hdd (HB0.out.trans (hb2.mono HB0.out.size))
  have HRO:=hdd (show R=Z7L (ZT p) by rw [HR.out,Z4K,hv];rfl)
  have HV:=hdd hv
  have HP4:=hdd (Z2w hv)
  have HLP:=hdd (show(p.flatMap Z0H).length≤3080000 from Z4y hv)
  have HOKW:=hdd (show ∀v∈ZT p,ZV v from by
   have h:=hv
   simp only [Z0C,Z3Z,Bool.and_eq_true,decide_eq_true_eq,List.all_eq_true] at h
   exact Z3x h.1.2)
  obtain⟨P,hP⟩:∃P:Nat→Prop,P=fun k=>k<w.heap.size:=⟨_,rfl⟩
  have HLOW:=hdd (show ∀k,k<w.heap.size→P k from fun k hk=>by rw [hP];exact hk)
  have HS:=hdd (show Z0c w P w2 none 0 [] from⟨HB2.out,HLOW.out,fun k hk=>by rw [hP] at hk;exact Nat.lt_of_lt_of_le hk HB2.out.size,⟨ZM.nil _ _ _,fun k hk=>by cases hk⟩⟩)
  clear hb2 p0 hv hP
  go_wp2_with fail
  go_loopg [4,15] p.length (fun G l i wr=>∃(j:Nat) (wj:List Z7) (aj:Option Addr) (cj:Nat),j+G=p.length∧i=.int .i64 j∧l=.slice aj wj.length cj∧Hid (wj=(p.take j).flatMap Z0H∧Z0c w P wr aj cj wj∧Z1l P w2 wr))
  case atStart=>exact⟨0,[],none,0,by omega,rfl,rfl,hdd ⟨by simp,HS.out,Ze.refl _ _⟩⟩
  case round=>
   obtain⟨j,wj,aj,cj,hj,rfl,rfl,HG⟩:=hrel
   obtain⟨wo,hwo⟩:∃wo,wo=wr:=⟨_,rfl⟩
   rw [← hwo] at HG ⊢
   clear hwo wr q0
   by_cases hlt:j<p.length
   rotate_left
   ·obtain rfl:j=p.length:=by omega
    have hji:¬(p.length:Int)<(p.length:Int):=by omega
    have HWJ:=hdd (show wj=ZT p from by rw [HG.out.1,List.take_length];rfl)
    have HJ:=hdd (Z5i _ aj cj wj wo (HG.out.2.1.lst.grow.list ZC) (by rw [HWJ.out];exact HOKW.out) (by rw [HWJ.out];exact Nat.le_trans HLP.out (by omega)) (HT.out.keys.later HG.out.2.1.base))
    have HRJ:=hdd (show R=Z7L wj from by rw [HRO.out,HWJ.out])
    rw [← HRJ.out] at HJ
    have HBF:=hdd HG.out.2.1.base
    clear HG HWJ
    go_wp2_with fail
    refine HJ.out.mono ?_
    rintro e w3 ⟨rfl,hb3⟩
    have HB3:=hdd (HBF.out.trans (hb3.mono HBF.out.size))
    clear hb3
    go_wp2
    go_ret2
    exact⟨rfl,HB3.out⟩
   have hji:(j:Int)<(p.length:Int):=by omega
   have hp100:p.length≤100:=HL.out
   obtain⟨b1,o1,x,pa,pc,ba,bc,hpa,hs,hP,g0,g1,g2⟩:=Z1q HX.out hlt
   subst hpa
   have hfv:=HP4.out.2 x (List.mem_of_getElem? hs)
   have HSU:=hdd (show(p.take (j+1)).flatMap Z0H=wj++Z0H x from by rw [Z4Z _ hs,HG.out.1])
   have HLJ:=hdd (show wj.length+(Z0H x).length≤3080000 from by
    have h1:=Z93 Z0H p (j+1)
    rw [HSU.out,List.length_append] at h1
    have h2:=HLP.out
    omega)
   obtain⟨nm,ps,body⟩:=x
   obtain⟨pa0,pc0,ba0,bc0,hce,⟨hl0,hl1,hl2⟩,hA,hB⟩:=hP
   obtain⟨rfl,rfl,rfl,rfl⟩:pa=pa0∧pc=pc0∧ba=ba0∧bc=bc0:=by simp at hce;exact⟨hce.1.1,hce.1.2,hce.2.1,hce.2.2⟩
   have hfp:=Z3Y hfv.1
   have HAR:=hdd (show Za 1 Z1V (fun _=>True) w pa ps from hA)
   have HBD:=hdd (show Za 5 (Zv D) (fun _=>True) w ba body∧(∀s∈body,ZH 4 s=true)∧body.length≤100 from⟨hB,hfp.2.2.2,hl2⟩)
   have HSZ:=hdd (show nm.size≤maxLen from hl0)
   have HNX:=hdd (show(p.take (j+1)).flatMap Z0H=wj++([kyW 0,nmW nm,sgW 40]++(Zr 0 (ps.map fun s=>[nmW s])++([sgW 41]++Zx (body.flatMap (Zm 4))))) from by
    rw [HSU.out]
    show wj++(kyW 0::nmW nm::sgW 40::Zr 0 (ps.map fun s=>[nmW s])++sgW 41::Zx (body.flatMap (Zm 4)))=_
    simp)
   have HLS:=hdd (show wj.length+(3+((Zr 0 (ps.map fun s=>[nmW s])).length+(1+(Zx (body.flatMap (Zm 4))).length)))≤3080000 from by
    have h1:=HLJ.out
    rw [← List.length_append,← HSU.out,HNX.out] at h1
    simp only [List.length_append,List.length_cons,List.length_nil] at h1
    omega)
   have hpl:ps.length≤100:=hl1
   have hbl:body.length≤100:=hl2
   have hlh:wj.length+3≤1099511627776:=by have:=HLS.out;omega
   have c0:=clT HG.out.2.1.base g0
   have c1:=clT HG.out.2.1.base g1
   have c2:=clT HG.out.2.1.base g2
   simp only at c0 c1 c2
   have HSK:=hdd (HG.out.2.1.box (.cells #[.string nm,.slice pa ps.length pc,.slice ba body.length bc] 42))
   have HRK:=hdd (hAn wo (.cells #[.string nm,.slice pa ps.length pc,.slice ba body.length bc] 42))
   have HGK0:=hdd (HG.out.2.2.trans (Z8 HG.out.2.1.lt ((bRf wo.heap.size wo).alloc (Nat.le_refl _) (.cells #[.string nm,.slice pa ps.length pc,.slice ba body.length bc] 42))))
   clear hs hce hA hB hfv hfp hl0 hl1 hl2 g0 g1 g2
   go_upto_region 7 with fail
   clear c0 c1 c2
   obtain⟨fb,hfb⟩:∃n,n=wo.heap.size:=⟨_,rfl⟩
   generalize wo.alloc (.cells #[.string nm,.slice pa ps.length pc,.slice ba body.length bc] 42)=wk at HSK HRK HGK0 ⊢
   rw [← hfb] at HSK HRK ⊢
   obtain⟨P2,hP2⟩:∃P2:Nat→Prop,P2=fun q=>P q∨q=fb:=⟨_,rfl⟩
   rw [← hP2] at HSK
   have HPS:=hdd (show(∀q,P q→P2 q)∧P2 fb from⟨fun q h=>by rw [hP2];exact .inl h,by rw [hP2];exact .inr rfl⟩)
   have HGK:=hdd HGK0.out
   clear hfb hP2 HGK0
   have e0:=coR _ _ 0 _ _ _ HRK.out
   have e1:=coR _ _ 1 _ _ _ HRK.out
   have e2:=coR _ _ 2 _ _ _ HRK.out
   simp only [ga0,ga1,ga2] at e0 e1 e2
   have HES:=hdd (aI e0 (aI e1 e2))
   have hwd:Below wk.heap.size wk wk.drew:=(bRf _ _).drew
   have HD:=hdd (HSK.out.later hwd)
   have HKD:=hdd (Z8 HSK.out.lt hwd)
   have HH0:=hdd (show(fun W:World=>W.cell? ⟨fb,0,none⟩=some (.string nm)) wk.drew from clT hwd e0)
   clear hwd e0 e1 e2
   refine Zw (S:=fun W:World=>W.cell? ⟨fb,0,none⟩=some (.string nm)) (by kernel_rfl) ?_
   generalize wk.drew=wd at HD HKD HH0 ⊢
   have hHeld:(fun W:World=>W.cell? ⟨fb,0,none⟩=some (.string nm)) wd:=HH0.out
   refine tkL 7 0 (some 19) hHeld ?_
   (try simp only [Act.put,pu1,pu2,pu3])
   refine tkL 3 2 (some 21) hHeld ?_
   (try simp only [Act.put,pu1,pu2,pu3])
   refine tkL 4 3 (some 22) hHeld ?_
   (try simp only [Act.put,pu1,pu2,pu3])
   refine Z06 1 (some 20) fun K hK=>?_
   go_simp
   go_at_call 23
   refine(Z0K _ wd).mono ?_
   rintro e w2 ⟨rfl,hb2⟩
   refine kpL hK (clT hb2 hHeld) ?_
   clear hK K hHeld;intro hHeld
   (try simp only [Act.put,pu1,pu2,pu3])
   refine Z06 4 (some 23) fun K hK=>?_
   go_simp
   go_at_call 24
   refine(Z10 _ w2).mono ?_
   rintro e w3 ⟨rfl,hb3⟩
   refine kpL hK (clT hb3 hHeld) ?_
   clear hK K hHeld;intro hHeld
   (try simp only [Act.put,pu1,pu2,pu3])
   refine Z06 5 (some 24) fun K hK=>?_
   go_simp
   go_at_call 25
   refine(ZK _ w3).mono ?_
   rintro e w4 ⟨rfl,hb4⟩
   have HD4:=hdd (((HD.out.later hb2).later hb3).later hb4)
   have HK4:=hdd (HKD.out.trans ((Z8 HD.out.lt hb2).trans ((Z8 (HD.out.later hb2).lt hb3).trans (Z8 ((HD.out.later hb2).later hb3).lt hb4))))
   refine kpL hK (clT hb4 hHeld) ?_
   clear hK K hHeld;intro hHeld
   (try simp only [Act.put,pu1,pu2,pu3])
   refine Z06 6 (some 25) fun K hK=>?_
   go_simp
   have hb5:Below w4.heap.size w4 (w4.alloc (.cells (List.toArray [.int .i64 4,.string ⟨#[102,110]⟩,.int .i64 1,.string nm,.int .i64 3,.string ⟨#[40]⟩]) 55)):=(bRf _ _).alloc (Nat.le_refl _) _
   have HD5:=hdd (HD4.out.later hb5)
   have HK6:=hdd (HK4.out.trans (Z8 HD4.out.lt hb5))
   have HRO:=hdd (Zc w4 [.int .i64 4,.string ⟨#[102,110]⟩,.int .i64 1,.string nm,.int .i64 3,.string ⟨#[40]⟩] 55)
   generalize w4.alloc (.cells (List.toArray [.int .i64 4,.string ⟨#[102,110]⟩,.int .i64 1,.string nm,.int .i64 3,.string ⟨#[40]⟩]) 55)=w6 at HD5 HRO HK6 hb5 ⊢
   refine kpL hK (clT hb5 hHeld) ?_
   clear hK K hHeld;intro hHeld
   (try simp only [Act.put,pu1,pu2,pu3])
   refine Z06 7 (some 26) fun K hK=>?_
   refine Z9b rfl (.tmp 19) (.tmp 25) rfl rfl HD5.out [kyW 0,nmW nm,sgW 40] _ 3 3 rfl rfl (by decide) HRO.out (by intro v hv;simp at hv;rcases hv with rfl|rfl|rfl;decide;exact HSZ.out;decide) (by omega) ?_
   intro ws5 a5 c5 w5 H5
   refine kpL hK (Z0c.cell HD5.out H5.out.2.2 HPS.out.2 hHeld) ?_
   clear hK K hHeld;intro hHeld
   (try simp only [Act.put,pu1,pu2,pu3])
   refine Z06 8 (some 4) fun K hK=>?_
   go_simp
   refine hK.out _ _ (Z15 (by kernel_rfl)) ?_
   clear hK K hHeld
   (try simp only [Act.put,pu1,pu2,pu3])
   refine Zq (by kernel_rfl) ?_ _
   have HK5:=hdd (HK6.out.trans H5.out.2.2)
   have HW5:=hdd (show ws5=wj++[kyW 0,nmW nm,sgW 40]∧Z0c w P2 w5 a5 c5 ws5 from⟨H5.out.1,H5.out.2.1⟩)
   clear H5 HD HKD hb2 hb3 hb4 HD4 HK4 hb5 HD5 HK6 HRO HH0
   have e1:=Z0c.cell HSK.out HK5.out HPS.out.2 HES.out.2.1
   go_wp2_with fail
   go_loopg [4,30] ps.length (fun G l i wr=>∃(q:Nat) (wj2:List Z7) (aj2:Option Addr) (cj2:Nat),q+G=ps.length∧i=.int .i64 q∧l=.slice aj2 wj2.length cj2∧Hid (wj2=wj++([kyW 0,nmW nm,sgW 40]++Zr 0 ((ps.take q).map fun s=>[nmW s]))∧Z0c w P2 wr aj2 cj2 wj2∧Z1l P2 wk wr))
   case atStart=>exact⟨0,ws5,a5,c5,by omega,rfl,rfl,hdd ⟨by rw [HW5.out.1];simp [Zr],HW5.out.2,HK5.out⟩⟩
   case round=>
    obtain⟨q,wj2,aj2,cj2,hq,rfl,rfl,HQ⟩:=hrel
    clear e1
    by_cases hlt2:q<ps.length
    ·obtain⟨b2,o2,k,hka,hk,hks,d0⟩:=Z1B (HAR.out.below Z3 HQ.out.2.1.base) hlt2
     subst hka
     have hqi:(q:Int)<(ps.length:Int):=by omega
     have HCT:=hdd (Z25 (f:=fun s=>[nmW s]) ps 0 q k hk)
     have HKS:=hdd hks
     have HLK:=hdd (show wj2.length+((if 0+q=0 then [] else [sgW 44])++[nmW k]).length≤3080000 from by
      have h1:=Z3R (ps.map fun s=>[nmW s]) 0 (q+1)
      rw [← List.map_take,HCT.out] at h1
      have h2:=HLS.out
      rw [HQ.out.1]
      simp only [List.length_append,List.length_cons,List.length_nil] at h1 h2 ⊢
      omega)
     clear hk hks
     by_cases h0:q=0
     ·have hq0:¬(0:Int)<(q:Int):=by omega
      have HJ:=hdd h0
      have hlw:wj2.length+1≤4000000:=by
       have h1:=HLK.out
       simp only [List.length_append,List.length_cons,List.length_nil] at h1
       omega
      clear h0
      go_wp2_with fail
      refine(Z10 _ wr).mono ?_
      rintro e w2 ⟨rfl,hb2⟩
      have HS2:=hdd (HQ.out.2.1.later hb2)
      have HK2:=hdd (HQ.out.2.2.trans (Z8 HQ.out.2.1.lt hb2))
      clear hb2 d0
      go_wp2_with (at_builtin;refine Z5g rfl (.tmp 41) (.tmp 44) rfl rfl (HS2.out.later ((bRf _ _).alloc (Nat.le_refl _) _)) [nmW k] _ 1 1 rfl rfl (by decide) (Zc _ _ _) (by intro v hv;simp at hv;subst hv;exact HKS.out) (by omega) ?_;intro ws7 a7 c7 w7 H7)
      go_roundg (gk-1)
      case measure=>omega
      case rel=>exact⟨q+1,ws7,a7,c7,by omega,by go_num,rfl,hdd ⟨by rw [H7.out.1,HQ.out.1,HCT.out,if_pos (by rw [HJ.out])];simp,H7.out.2.1,HK2.out.trans ((Z8 HS2.out.lt ((bRf _ _).alloc (Nat.le_refl _) _)).trans H7.out.2.2)⟩⟩
     ·have hq0:(0:Int)<(q:Int):=by omega
      have HJ:=hdd (show ¬0+q=0 from by omega)
      have hlw:wj2.length+2≤4000000:=by
       have h1:=HLK.out
       rw [if_neg HJ.out] at h1
       simp only [List.length_append,List.length_cons,List.length_nil] at h1
       omega
      clear h0
      go_wp2_with fail
      refine(ZK _ wr).mono ?_
      rintro e w2 ⟨rfl,hb2⟩
      have HS2:=hdd (HQ.out.2.1.later hb2)
      have HK2:=hdd (HQ.out.2.2.trans (Z8 HQ.out.2.1.lt hb2))
      clear hb2 d0
      go_upto_region 13 with(at_builtin;refine Z5g rfl (.tmp 37) (.tmp 39) rfl rfl (HS2.out.later ((bRf _ _).alloc (Nat.le_refl _) _)) [sgW 44] _ 1 1 rfl rfl (by decide) (Zc _ _ _) (by intro v hv;simp at hv;subst hv;decide) (by omega) ?_;intro ws7 a7 c7 w7 H7)
      have HK7:=hdd (HK2.out.trans ((Z8 HS2.out.lt ((bRf _ _).alloc (Nat.le_refl _) _)).trans H7.out.2.2))
      have hlw7:ws7.length+1≤4000000:=by
       rw [H7.out.1]
       simp only [List.length_append,List.length_cons,List.length_nil]
       omega
      go_wp2_with fail
      refine(Z10 _ w7).mono ?_
      rintro e w8 ⟨rfl,hb8⟩
      have HS8:=hdd (H7.out.2.1.later hb8)
      have HK8:=hdd (HK7.out.trans (Z8 H7.out.2.1.lt hb8))
      clear hb8
      go_wp2_with (at_builtin;refine Z5g rfl (.tmp 41) (.tmp 44) rfl rfl (HS8.out.later ((bRf _ _).alloc (Nat.le_refl _) _)) [nmW k] _ 1 1 rfl rfl (by decide) (Zc _ _ _) (by intro v hv;simp at hv;subst hv;exact HKS.out) (by omega) ?_;intro ws9 a9 c9 w9 H9)
      go_roundg (gk-1)
      case measure=>omega
      case rel=>exact⟨q+1,ws9,a9,c9,by omega,by go_num,rfl,hdd ⟨by rw [H9.out.1,H7.out.1,HQ.out.1,HCT.out,if_neg HJ.out];simp,H9.out.2.1,HK8.out.trans ((Z8 HS8.out.lt ((bRf _ _).alloc (Nat.le_refl _) _)).trans H9.out.2.2)⟩⟩
    ·obtain rfl:q=ps.length:=by omega
     have hqi:¬(ps.length:Int)<(ps.length:Int):=by omega
     have HWQ:=hdd (show wj2=wj++([kyW 0,nmW nm,sgW 40]++Zr 0 (ps.map fun s=>[nmW s])) from by rw [HQ.out.1,List.take_length])
     have e2:=Z0c.cell HSK.out HQ.out.2.2 HPS.out.2 HES.out.2.2
     have HL9:=hdd (show wj2.length+(1+(Zx (body.flatMap (Zm 4))).length)≤3080000 from by
      have h2:=HLS.out
      rw [HWQ.out]
      simp only [List.length_append,List.length_cons,List.length_nil] at h2 ⊢
      omega)
     have hl9:wj2.length+1≤4000000:=by have:=HL9.out;omega
     have hwd:Below wr.heap.size wr wr.drew:=(bRf _ _).drew
     have HD:=hdd (HQ.out.2.1.later hwd)
     have HKD:=hdd (HQ.out.2.2.trans (Z8 HQ.out.2.1.lt hwd))
     have HH0:=hdd (show(fun W:World=>W.cell? ⟨fb,2,none⟩=some (.slice ba body.length bc)) wr.drew from clT hwd e2)
     clear hwd
     go_upto_region 15 with fail
     clear e2
     refine Zw (S:=fun W:World=>W.cell? ⟨fb,2,none⟩=some (.slice ba body.length bc)) (by kernel_rfl) ?_
     generalize wr.drew=wd at HD HKD HH0 ⊢
     have hHeld:(fun W:World=>W.cell? ⟨fb,2,none⟩=some (.slice ba body.length bc)) wd:=HH0.out
     refine tkL 3 0 (some 47) hHeld ?_
     (try simp only [Act.put,pu1,pu2,pu3])
     refine tkL 5 4 (some 51) hHeld ?_
     (try simp only [Act.put,pu1,pu2,pu3])
     refine tkL 6 5 (some 52) hHeld ?_
     (try simp only [Act.put,pu1,pu2,pu3])
     refine Z06 1 (some 48) fun K hK=>?_
     go_simp
     go_at_call 25
     refine(ZK _ wd).mono ?_
     rintro e w7 ⟨rfl,hb7⟩
     have HD7:=hdd (HD.out.later hb7)
     have HK7:=hdd (HKD.out.trans (Z8 HD.out.lt hb7))
     refine kpL hK (clT hb7 hHeld) ?_
     clear hK K hHeld;intro hHeld
     (try simp only [Act.put,pu1,pu2,pu3])
     refine Z06 2 (some 49) fun K hK=>?_
     go_simp
     have hb8:Below w7.heap.size w7 (w7.alloc (.cells (List.toArray [.int .i64 3,.string ⟨#[41]⟩]) 55)):=(bRf _ _).alloc (Nat.le_refl _) _
     have HD8:=hdd (HD7.out.later hb8)
     have HK8:=hdd (HK7.out.trans (Z8 HD7.out.lt hb8))
     have HRO:=hdd (Zc w7 [.int .i64 3,.string ⟨#[41]⟩] 55)
     generalize w7.alloc (.cells (List.toArray [.int .i64 3,.string ⟨#[41]⟩]) 55)=w8 at HD8 HRO HK8 hb8 ⊢
     refine kpL hK (clT hb8 hHeld) ?_
     clear hK K hHeld;intro hHeld
     (try simp only [Act.put,pu1,pu2,pu3])
     refine Z06 3 (some 50) fun K hK=>?_
     refine Z9b rfl (.tmp 47) (.tmp 49) rfl rfl HD8.out [sgW 41] _ 1 1 rfl rfl (by decide) HRO.out (by intro v hv;simp at hv;subst hv;decide) (by omega) ?_
     intro ws9 a9 c9 w9 H9
     refine kpL hK (Z0c.cell HD8.out H9.out.2.2 HPS.out.2 hHeld) ?_
     clear hK K hHeld;intro hHeld
     (try simp only [Act.put,pu1,pu2,pu3])
     refine Z06 6 (some 53) fun K hK=>?_
     go_simp
     go_at_call 26
     refine((Z7p 4).2 w P2 w9 a9 c9 ws9 ba bc body D HT.out H9.out.2.1 HBD.out.1 HBD.out.2.1 HBD.out.2.2 (by rw [H9.out.1];have:=HL9.out;simp only [List.length_append,List.length_cons,List.length_nil] at this ⊢;omega)).mono ?_
     rintro e w10 ⟨ws10,a10,c10,rfl,H10⟩
     refine kpL hK (Z0c.cell H9.out.2.1 H10.out.2.2 HPS.out.2 hHeld) ?_
     clear hK K hHeld;intro hHeld
     (try simp only [Act.put,pu1,pu2,pu3])
     refine Z06 7 (some 4) fun K hK=>?_
     go_simp
     refine hK.out _ _ (Z15 (by kernel_rfl)) ?_
     clear hK K hHeld
     (try simp only [Act.put,pu1,pu2,pu3])
     refine Zq (by kernel_rfl) ?_ _
     have HKZ:=hdd (HK8.out.trans (H9.out.2.2.trans H10.out.2.2))
     go_wp2
     go_roundg (p.length-(j+1))
     case measure=>omega
     case rel=>exact⟨j+1,ws10,a10,c10,by omega,by go_num,rfl,hdd ⟨by rw [H10.out.1,H9.out.1,HWQ.out,HNX.out];simp,H10.out.2.1.unbox HPS.out.1 HLOW.out,HGK.out.trans (Z1l.un HKZ.out HPS.out.1)⟩⟩
end Go.Proofs.YtloooebabieeeaaGreatDoor
namespace Go.Proofs.YtloooebabieeeaaGreatDoor
open Go.ChangeShapes Go.WideShapes Go.ChangeAt Go.RowKit Go.WideElems Go.Maps
def ZaF:List (String×DataW Unit):=[("math/bits.deBruijn32tab",Rows.laid_math_bits_deBruijn32tab),("math/bits.deBruijn64tab",Rows.laid_math_bits_deBruijn64tab),("internal/strconv.uint64pow10",Rows.laid_internal_strconv_uint64pow10),("strconv.ErrRange",Rows.laid_strconv_ErrRange),("strconv.ErrSyntax",Rows.laid_strconv_ErrSyntax),("loop.example/wholeway/impl.keys",Rows.laid_loop_example_wholeway_impl_keys),("loop.example/wholeway/impl.opSign",Rows.laid_loop_example_wholeway_impl_opSign)]
theorem Zaf (os:Os) (args:Array Value):laidMetH Tryz.prog ZaF ((World.doorLaid Tryz.prog 4000 os).forCall (fun _ _=>0) ⟨#[],args,[]⟩).memory:=
 laidMetH_of_parts3 (fuel:=8) (laidMet_of_run' 8 (by kernel_rfl) (by kernel_rfl)) (by kernel_rfl) (by kernel_rfl)
theorem Z9W {op:Int} (h:3≤op∧op≤10):(Rows.laid_loop_example_wholeway_impl_opSign (H:=Unit)).atKey (.int .i64 op) .nil=.agg [.lit (.string [opC op]),.lit (.int .i64 (lvl op))]:=by
 have hc:op=3∨op=4∨op=5∨op=6∨op=7∨op=8∨op=9∨op=10:=by omega
 rcases hc with rfl|rfl|rfl|rfl|rfl|rfl|rfl|rfl<;>rfl
theorem Z3a {P:Program} {w:World} {x:String×DataW Unit} {xs:List (String×DataW Unit)} {ps:List MemPlace} (h:DataW.LaidVars P w (x::xs) ps):∃qs,DataW.LaidVars P w xs qs:=by
 obtain⟨n,d⟩:=x
 obtain⟨_,_,_,_,_,q,_,_,_,_,h5,_⟩:=h
 exact⟨q,h5⟩
theorem Zdb:∃g,Tryz.prog.globalNamed "internal/strconv.uint64pow10" = some g∧(Tryz.prog.globals[g]?).map (·.type)=some 187:=⟨5,by kernel_rfl,by kernel_rfl⟩
theorem ZaT:(Rows.laid_internal_strconv_uint64pow10 (H:=Unit))=Lib.tabData .u64 Lib.pow10Tab:=by kernel_rfl
theorem Z7h {W:World} (h:laidMetH Tryz.prog ZaF W):Z30 W:=by
 rw [MakeChecks.laidMetH_plain _ _ _ (by kernel_rfl)] at h
 obtain⟨ps,h,_,_⟩:=h
 obtain⟨_,h⟩:=Z3a h
 obtain⟨_,h⟩:=Z3a h
 obtain⟨gp,tp,csp,fp,pp,qp,hgp,htp,hvp,hdp,h,_⟩:=h
 have hpow:Lib.TabIs Tryz.prog W "internal/strconv.uint64pow10" .u64 Lib.pow10Tab:=by
  obtain⟨g,e1,e2⟩:=Zdb
  obtain rfl:=Option.some.inj (e1.symm.trans hgp)
  obtain rfl:=Option.some.inj (e2.symm.trans htp)
  rw [ZaT] at hdp
  unfold Lib.TabIs
  rw [hvp,← Lib.cells_of_tab Tryz.underlying187 Tryz.underlying168 (by kernel_rfl) (by kernel_rfl) hdp]
 obtain⟨_,h⟩:=Z3a h
 obtain⟨_,h⟩:=Z3a h
 obtain⟨g0,t0,cs0,f0,p0,q0,hg0,ht0,hv0,hd0,⟨g1,t1,cs1,f1,p1,q1,hg1,ht1,hv1,hd1,_,_⟩,_⟩:=h
 have hkeys:Z1F W:=by
  obtain rfl:=Option.some.inj (Zd6.symm.trans hg0)
  obtain rfl:=Option.some.inj (Zd4.symm.trans ht0)
  intro i s hs
  rw [Nat.zero_add,World.var?_cell hg0 hv0,← Array.getElem?_toList]
  exact Z9s hd0 i s hs
 obtain rfl:=Option.some.inj (Zdd.symm.trans hg1)
 obtain rfl:=Option.some.inj (Zda.symm.trans ht1)
 rcases WideElems.open_map Tryz.underlying137 hd1 with⟨_,hx⟩|⟨bm,es,clock,m,rfl,hcs,hb,_,F,hx⟩
 ·simp [Rows.laid_loop_example_wholeway_impl_opSign] at hx
 simp only [Prod.mk.injEq] at hx
 have hcell:W.cell? ⟨1,0,none⟩=some (.map (some bm)):=by
  have:=World.var?_cell hg1 hv1 0
  rw [Array.eq_one_of_toList hcs] at this
  simpa using this
 have hlook:∀W':World,W'.heap[bm]? = _→∀op:Int,-9223372036854775808≤op∧op≤9223372036854775807→∃s,(Instr.lookup 137 (.map (some bm)) (.int .i64 op) false).run Tryz.prog W'=.ok (.agg #[.string s,.int .i64 (lvl op)]) W'∧(3≤op∧op≤10→s=⟨#[opC op]⟩):=fun W' hb' op hop=>by
  have hw:(Lit.int .i64 op).wf=true:=by
   show(decide ((-9223372036854775808:Int)≤op)&&decide (op≤9223372036854775807))=true
   rw [decide_eq_true hop.1,decide_eq_true hop.2];rfl
  rcases fit_look (w:=W') false (int_keyed Tryz.underlying3) Tryz.underlying137 (ZcY W') hb' F (keyOf_int_mk Tryz.underlying3 hw) with⟨hrun,_,hat⟩|⟨e0,y,_,_,hrun,hRv,hat,_⟩
  ·have:=hat .nil
   rw [← hx.1] at this
   rcases Zc1 op with⟨s,hs⟩|⟨_,h0⟩
   ·rw [hs] at this;cases this
   ·rw [h0]
    refine⟨_,hrun,fun h3=>?_⟩
    rw [Z9W h3] at this
    cases this
  ·have:=hat .nil
   rw [← hx.1] at this
   obtain⟨s,r,hv,hy⟩:=Zde hRv
   rw [hy] at this
   rcases Zc1 op with⟨s',hs⟩|⟨hn,h0⟩
   ·have hs3:=fun h3:3≤op∧op≤10=>Z9W h3
    rw [hs] at hs3
    rw [hs] at this
    simp only [DataW.agg.injEq,List.cons.injEq,DataW.lit.injEq,Lit.int.injEq,Lit.string.injEq] at this hs3
    refine⟨s,?_,fun h3=>?_⟩
    ·rw [this.2.1.2,← hv];exact hrun
    ·have e1:=(hs3 h3).1
     exact Z5a (by rw [← this.1,e1])
   ·rw [hn] at this;cases this
 refine⟨⟨bm,_,hcell,hb,fun W' hb' op hop=>?_⟩,⟨bm,_,hcell,hb,fun W' hb' op hop=>?_⟩,hkeys,Lib.tabBelow_of_tabIs hpow⟩
 ·obtain⟨s,h1,_⟩:=hlook W' hb' op hop
  exact⟨s,h1⟩
 ·obtain⟨s,h1,h2⟩:=hlook W' hb' op (by omega)
  rw [h2 hop] at h1
  exact h1
theorem Z6p {w:World} {a:Option Addr} {len cap:Nat} {zs:List Int} (h:ZbG .u8 w a len cap zs):Z1N w a len (zs.take len):=by
 obtain⟨h1,h2,h3⟩:=Z6J h
 refine⟨h2,h1,fun x hx=>?_⟩
 have:=h3 x hx
 simp [Lit.wf,IntKind.min,IntKind.max,IntKind.signed,IntKind.bits] at this
 exact⟨by omega,by omega⟩
theorem Z89 {k:IntKind} {w:World} {a:Option Addr} {len cap:Nat} {zs:List Int} (h:ZbG k w a len cap zs):len≤cap:=by
 rcases h with⟨_,rfl,rfl,_⟩|⟨_,_,h,_⟩
 ·exact Nat.le_refl _
 ·exact h
end Go.Proofs.YtloooebabieeeaaGreatDoor
