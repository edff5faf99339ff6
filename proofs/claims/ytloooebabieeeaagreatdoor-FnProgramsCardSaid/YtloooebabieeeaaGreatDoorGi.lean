/-
  The reference's texts of statements and of a program are the texts of their words.
-/
import Derived.Test.YtloooebabieeeaaGreatDoorCp
import Derived.Test.YtloooebabieeeaaGreatDoorT6
import Derived.Test.YtloooebabieeeaaGreatDoorDr5
import Derived.Test.YtloooebabieeeaaGreatDoorEp
import Derived.Test.YtloooebabieeeaaGreatDoorPe1
import Derived.Test.YtloooebabieeeaaGreatDoorEs3
import Derived.Deep.LoopGhost
import Derived.Test.YtloooebabieeeaaGreatDoorGt
import Derived.StillTailTactics
import Derived.Deep.QuietTactic
import Derived.BigQuiet
import Derived.Deep.RegionHeld3
set_option maxRecDepth 100000
set_option maxHeartbeats 16000000
set_option linter.unusedVariables false
namespace Go.Proofs.YtloooebabieeeaaGreatDoor
open Go.RowKit
structure ZbV (w W:World) (c0 c1 c2 c3 c4:Value):Prop where
 row:W.heap[w.heap.size]? = some (.cells #[c0,c1,c2,c3,c4] 48 (0,0))
 below:Below w.heap.size w W
theorem ZbV.start (w:World) (c0 c1 c2 c3 c4:Value):ZbV w (w.alloc (.cells #[c0,c1,c2,c3,c4] 48)) c0 c1 c2 c3 c4:=
 ⟨hAn w _,(bRf _ _).alloc (Nat.le_refl _) _⟩
theorem ZbV.later {w W W':World} {c0 c1 c2 c3 c4:Value} (h:ZbV w W c0 c1 c2 c3 c4) (hb:Below W.heap.size W W'):ZbV w W' c0 c1 c2 c3 c4:=
 ⟨(hb.block _ (gsI h.row).1).trans h.row,h.below.trans (hb.mono h.below.size)⟩
theorem ZbV.cells {w W:World} {c0 c1 c2 c3 c4:Value} (h:ZbV w W c0 c1 c2 c3 c4):W.cell? ⟨w.heap.size,0,none⟩=some c0∧W.cell? ⟨w.heap.size,1,none⟩=some c1∧W.cell? ⟨w.heap.size,2,none⟩=some c2∧W.cell? ⟨w.heap.size,3,none⟩=some c3∧W.cell? ⟨w.heap.size,4,none⟩=some c4:=by
 refine⟨?_,?_,?_,?_,?_⟩<;>(rw [coR _ _ _ _ _ _ h.row];rfl)
theorem Z4T {a:List Z7} (ha:a≠[]) (c:UInt8):Zl a++(⟨#[32,c,32]⟩:ByteArray)=Zl (a++[sgW c])++(⟨#[32]⟩:ByteArray):=by
 rw [show(⟨#[32,c,32]⟩:ByteArray)=⟨#[32,c]⟩++⟨#[32]⟩ from rfl,← ByteArray.append_assoc,Z0q ha]
theorem ZaW (ws:List Z7):Zx ws=sgW 123::ws++[sgW 125]:=rfl
theorem Z3e (ws:List Z7):Zx ws≠[]:=by simp [Zx]
theorem Z2i (x:Z6):Zr 0 ([x].map fun e=>Z9 6 e 1)=Z9 6 x 1:=by simp [Zr]
theorem ZbS (x y:Z6):Zr 0 ([x,y].map fun e=>Z9 6 e 1)=Z9 6 x 1++sgW 44::Z9 6 y 1:=by simp [Zr]
theorem Z6w {d:Nat} {s:Zb} (h:ZH d s=true):Zm d s≠[]:=by
 obtain⟨w,r,he,_⟩:=Z4V h
 rw [he];simp
theorem Z5v {d D:Nat} {S:Nat→Prop} {w:World} {c:List Value} {s:Zb} (hd:d≤4) (h:ZH d s=true) (hp:Zv D S w c s):(Zl (Zm d s)).size≤600000000000000:=by
 have h1:=Z1k (Z6m d s h)
 have h2:=Z3L d s h
 have h3:=Z4I (Z38 h hp)
 have h4:(201:Nat) ^ d≤201 ^ 4:=Nat.pow_le_pow_right (by omega) hd
 have h5:(201:Nat) ^ 4=1632240801:=by decide
 omega
theorem Z3k {d D:Nat} {S:Nat→Prop} {w:World} {a:Option Addr} {xs:List Zb} (hd:d≤4) (h:∀s∈xs,ZH d s=true) (hp:Za 5 (Zv D) S w a xs) (hl:xs.length≤100) (j:Nat):(Zl (sgW 123::(xs.take j).flatMap (Zm d))).size≤59000000000000000:=by
 have hm:∀s∈xs.take j,s∈xs:=fun s hs=>List.mem_of_mem_take hs
 have hok:∀w∈sgW 123::(xs.take j).flatMap (Zm d),ZV w:=by
  intro w hw
  rcases List.mem_cons.1 hw with rfl|hw
  ·exact .sign 123 (by decide)
  ·obtain⟨k,hk,hw⟩:=List.mem_flatMap.1 hw
   exact Z6m d k (h k (hm k hk)) w hw
 have h1:=Z1k hok
 have h2:=Z2z (f:=Zm d) (g:=Z07 d) (B:=70000) (xs.take j) (fun k hk=>Z3L d k (h k (hm k hk)))
 have h3:ZY (Z07 d) (xs.take j)≤(xs.take j).length*201 ^ d:=Z4e fun s hs=>by
  obtain⟨c,hc⟩:=Z32 hp (hm s hs)
  exact Z4I (Z38 (h s (hm s hs)) hc)
 have h4:(201:Nat) ^ d≤201 ^ 4:=Nat.pow_le_pow_right (by omega) hd
 have h5:(201:Nat) ^ 4=1632240801:=by decide
 have h6:(xs.take j).length≤100:=by rw [List.length_take];omega
 have h7:=Nat.mul_le_mul h6 h4
 rw [List.length_cons] at h1
 omega
theorem Z2h {d D:Nat} {S:Nat→Prop} {w:World} {a:Option Addr} {xs:List Zb} (hd:d≤4) (h:∀s∈xs,ZH d s=true) (hp:Za 5 (Zv D) S w a xs) (hl:xs.length≤100):(Zl (Zx (xs.flatMap (Zm d)))).size≤60000000000000000:=by
 have h1:=Z3k hd h hp hl xs.length
 rw [List.take_length] at h1
 rw [ZaW,Z1S (by simp),ByteArray.size_append]
 have h2:(Zam [sgW 125]).size=2:=rfl
 omega
def Zbw (d:Nat):Prop:=∀(D:Nat) (S:Nat→Prop) (cs:List Value) (s:Zb) (w:World),ZH d s=true→Zv D S w cs s→
 Calls Tryz.prog 65 #[.agg cs.toArray] w fun e w'=>e=.returned (.string (Zl (Zm d s)))∧Below w.heap.size w w'
theorem Z3t (d:Nat) (hd:d≤4) (hL:Zbw d) (D:Nat) (S:Nat→Prop) (a:Option Addr) (cap:Nat) (xs:List Zb) (w:World) (hB:∀s∈xs,ZH d s=true) (hx:Za 5 (Zv D) S w a xs) (hl:xs.length≤100) :
  Calls Tryz.prog 37 #[.slice a xs.length cap] w fun e w'=>e=.returned (.string (Zl (Zx (xs.flatMap (Zm d)))))∧Below w.heap.size w w':=by
 have HX:=hdd hx
 have HB:=hdd hB
 have HL:=hdd hL
 have HSZ:=hdd (fun j=>Z3k hd hB hx hl j)
 clear hx hB hL
 go_enter Tryz.func37,Tryz.ntmps37
 go_wp2_with fail
 go_loopg [3,4] xs.length (fun G o i wr=>∃(j:Nat) (T:ByteArray),j+G=xs.length∧i=.int .i64 j∧o=.string T∧Hid (T=Zl (sgW 123::(xs.take j).flatMap (Zm d))∧Below w.heap.size w wr))
 case atStart=>exact⟨0,_,by omega,rfl,rfl,hdd ⟨(Z0G (sgW 123)).symm,bRf _ _⟩⟩
 case round=>
  obtain⟨j,T,hj,rfl,rfl,HG⟩:=hrel
  have hT:T.size≤59000000000000000:=by rw [HG.out.1];exact HSZ.out j
  by_cases hlt:j<xs.length
  ·obtain⟨b,off,x,aa,ac,ba,bc,ea,ec,rfl,hxj,hR,c0,c1,c2,c3,c4⟩:=Z1x (HX.out.below (Z0 D) HG.out.2) hlt
   have hji:(j:Int)<(xs.length:Int):=by omega
   have hbx:=HB.out x (List.mem_of_getElem? hxj)
   have hUs:=Z5v hd hbx hR
   have HC:=hdd (HL.out D S _ x wr hbx hR)
   have HNE:=hdd (aI (Z6w hbx) hxj)
   obtain⟨U,hU⟩:∃U,U=Zl (Zm d x):=⟨_,rfl⟩
   rw [← hU] at HC hUs
   have HU:=hdd hU
   have s1:T.size+(⟨#[32]⟩:ByteArray).size≤9223372036854775807:=by show T.size+1≤_;omega
   have s2:(T++(⟨#[32]⟩:ByteArray)).size+U.size≤9223372036854775807:=by rw [ByteArray.size_append];show T.size+1+_≤_;omega
   clear hU hbx hR hxj
   go_wp2_with fail
   refine HC.out.mono ?_
   rintro e w5 ⟨rfl,hb5⟩
   have HN:=hdd (show T++(⟨#[32]⟩:ByteArray)++U=Zl (sgW 123::(xs.take (j+1)).flatMap (Zm d))∧Below w.heap.size w w5 from⟨by
    rw [HU.out,HG.out.1,ZE (by simp) HNE.out.1,Z0n HNE.out.2]
    simp,HG.out.2.trans (hb5.mono HG.out.2.size)⟩)
   clear hb5 c0 c1 c2 c3 c4
   go_wp2
   go_roundg (gk-1)
   case measure=>omega
   case rel=>exact⟨j+1,_,by omega,by go_num,rfl,HN⟩
  ·obtain rfl:j=xs.length:=by omega
   have s1:T.size+(⟨#[32,125]⟩:ByteArray).size≤9223372036854775807:=by show T.size+2≤_;omega
   have HE:=hdd (show T++(⟨#[32,125]⟩:ByteArray)=Zl (Zx (xs.flatMap (Zm d)))∧Below w.heap.size w wr from⟨by
    rw [HG.out.1,List.take_length,Z0q (by simp)]
    rfl,HG.out.2⟩)
   go_wp2
   go_ret
   exact⟨congrArg (fun s=>Ending.returned (Value.string s)) HE.out.1,HE.out.2⟩
theorem Z8a (d:Nat) (hd:d+1≤4) (hL:Zbw d):Zbw (d+1):=by
 intro D S cs s w hs hp
 obtain⟨op,name,args,body,els⟩:=s
 obtain⟨h0,hbk,hek⟩:=ZR hs
 replace hbk:∀k∈body,ZH d k=true:=hbk
 replace hek:∀k∈els,ZH d k=true:=hek
 obtain⟨h1,h2,ha,hn,hx,hel,hbo⟩:=Z0p h0
 cases D with
 | zero=>exact hp.elim
 | succ D=>
 obtain⟨aa,ac,ba,bc,ea,ec,rfl,⟨-,-,-,hal,hbl,hll⟩,hA,hB,hE⟩:=hp
 replace hA:Za 4 (ZG 12) S w aa args:=hA
 replace hB:Za 5 (Zv D) S w ba body:=hB
 replace hE:Za 5 (Zv D) S w ea els:=hE
 replace hbl:body.length≤100:=hbl
 replace hll:els.length≤100:=hll
 show Calls _ _ #[.agg #[.int .i64 op,.string name,.slice aa args.length ac,.slice ba body.length bc,.slice ea els.length ec]] w _
 have HBX:=hdd (ZbV.start w (.int .i64 op) (.string name) (.slice aa args.length ac) (.slice ba body.length bc) (.slice ea els.length ec))
 have HAA:=hdd hA
 have HFX:=hdd hx
 have HBLK:=hdd (fun (W:World) (hW:Below w.heap.size w W)=>Z3t d (by omega) hL D S ba bc body W hbk (hB.below (Z0 D) hW) hbl)
 have HELS:=hdd (fun (W:World) (hW:Below w.heap.size w W)=>Z3t d (by omega) hL D S ea ec els W hek (hE.below (Z0 D) hW) hll)
 have hBs:=Z2h (by omega) hbk hB hbl
 have hEs:=Z2h (by omega) hek hE hll
 obtain⟨BT,hBT⟩:∃BT,BT=Zl (Zx (body.flatMap (Zm d))):=⟨_,rfl⟩
 obtain⟨ET,hET⟩:∃ET,ET=Zl (Zx (els.flatMap (Zm d))):=⟨_,rfl⟩
 rw [← hBT] at HBLK hBs
 rw [← hET] at HELS hEs
 have HBT:=hdd hBT
 have HET:=hdd hET
 obtain⟨R,hR⟩:∃R,R=Zl (Zm (d+1) (.mk op name args body els)):=⟨_,rfl⟩
 rw [← hR]
 have HR:=hdd hR
 have HEL:=hdd hel
 have HBO:=hdd hbo
 clear hR hA hB hE hL hbk hek hBT hET hs h0 hx hal hbl hel hbo
 have h8:op=1∨op=2∨op=3∨op=4∨op=5∨op=6∨op=7∨op=8:=by omega
 clear h1 h2
 rcases h8 with rfl|rfl|rfl|rfl|rfl|rfl|rfl|rfl
 ·obtain⟨x,rfl⟩:∃x,args=[x]:=ha
  have hnm:Zk name=true:=by rcases hn with h|h;exact h.2;exact absurd (.inl rfl) h.1
  have hn4:name.size≤4:=(Z0t hnm).2.1
  clear hn
  have hxs:(Zl (Z9 6 x 1)).size≤163840:=ZO (by omega) (HFX.out x (by simp))
  have HXN:=hdd (Z12 (need:=1) (HFX.out x (by simp)))
  obtain⟨V,hV⟩:∃V,V=Zl (Z9 6 x 1):=⟨_,rfl⟩
  rw [← hV] at hxs
  have HV:=hdd hV
  have HCX:=hdd (fun (W:World) cs (hW:ZX 12 W cs x)=>Z0R 6 (by omega) 12 cs x 1 W (HFX.out x (by simp)) hW (by omega) (by omega))
  rw [← hV] at HCX
  clear hV
  go_enter Tryz.func65,Tryz.ntmps65
  go_upto_region 1 with fail
  obtain⟨rb,hrb⟩:∃b,b=w.heap.size:=⟨_,rfl⟩
  generalize w.alloc (.cells #[.int .i64 1,.string name,.slice aa [x].length ac,.slice ba body.length bc,.slice ea els.length ec] 48)=W1 at HBX ⊢
  have HCC:=hdd HBX.out.cells
  rw [← hrb] at HCC ⊢
  have HRB:=hdd hrb
  clear hrb
  obtain⟨p0,p1,p2,p3,p4⟩:=HCC.out
  obtain⟨b1,o1,k,ka,kc,rfl,hk,hkR,c0,c1,c2,c3⟩:=ZQ (HAA.out.below (Z1 12) HBX.out.below) (show 0 < [x].length by simp)
  obtain rfl:x=k:=Option.some.inj hk
  simp only [Nat.zero_mul,Nat.add_zero] at c0 c1 c2 c3
  have HKR:=hdd (Z1a hkR.1)
  clear hk hkR
  go_wp2_with fail
  refine(HCX.out W1 [.int .i64 x.op,.int .i64 x.n,.string x.name,.slice ka x.kids.length kc] HKR.out).mono ?_
  rintro e w2 ⟨rfl,hb2⟩
  have HB2:=hdd (HBX.out.later hb2)
  obtain⟨q0,q1,q2,q3,q4⟩:=HB2.out.cells
  have HQ:=hdd hb2
  clear p0 p1 p2 p3 p4 c0 c1 c2 c3 hb2
  rw [← HRB.out] at q0 q1 q2 q3 q4
  have s1:((⟨#[108,101,116,32]⟩:ByteArray)).size+(name).size≤9223372036854775807:=by show 4+name.size≤_;omega
  have s2:((⟨#[108,101,116,32]⟩:ByteArray)++name).size+((⟨#[32,61,32]⟩:ByteArray)).size≤9223372036854775807:=by rw [ByteArray.size_append];show 4+name.size+3≤_;omega
  have s3:((⟨#[108,101,116,32]⟩:ByteArray)++name++(⟨#[32,61,32]⟩:ByteArray)).size+(V).size≤9223372036854775807:=by rw [ByteArray.size_append,ByteArray.size_append];show 4+name.size+3+V.size≤_;omega
  have s4:((⟨#[108,101,116,32]⟩:ByteArray)++name++(⟨#[32,61,32]⟩:ByteArray)++V).size+((⟨#[32,59]⟩:ByteArray)).size≤9223372036854775807:=by rw [ByteArray.size_append,ByteArray.size_append,ByteArray.size_append];show 4+name.size+3+V.size+2≤_;omega
  have HE:=hdd (show(⟨#[108,101,116,32]⟩:ByteArray)++name++(⟨#[32,61,32]⟩:ByteArray)++V++(⟨#[32,59]⟩:ByteArray)=R∧Below w.heap.size w w2 from⟨by
   rw [HR.out,Z0z,Z2i,if_neg (by decide),HV.out]
   have hnt:name=Zl [nmW name]:=(Z0G (nmW name)).symm
   have hk:(⟨#[108,101,116,32]⟩:ByteArray)=Zl [kyW 1]++⟨#[32]⟩:=rfl
   have hh:(⟨#[108,101,116,32]⟩:ByteArray)++name++(⟨#[32,61,32]⟩:ByteArray)++Zl (Z9 6 x 1)++(⟨#[32,59]⟩:ByteArray)=Zl [kyW 1]++⟨#[32]⟩++Zl [nmW name]++(⟨#[32,61,32]⟩:ByteArray)++Zl (Z9 6 x 1)++(⟨#[32,59]⟩:ByteArray):=by rw [← hnt,hk]
   rw [hh,ZE (by simp) (by simp),Z4T (by simp),ZE (by simp) HXN.out,Z0q (by simp)]
   rfl,HB2.out.below⟩)
  go_wp2
  go_ret
  exact⟨congrArg (fun s=>Ending.returned (Value.string s)) HE.out.1,HE.out.2⟩
 ·obtain⟨x,rfl⟩:∃x,args=[x]:=ha
  have hnm:Zk name=true:=by rcases hn with h|h;exact h.2;exact absurd (.inr rfl) h.1
  have hn4:name.size≤4:=(Z0t hnm).2.1
  clear hn
  have hxs:(Zl (Z9 6 x 1)).size≤163840:=ZO (by omega) (HFX.out x (by simp))
  have HXN:=hdd (Z12 (need:=1) (HFX.out x (by simp)))
  obtain⟨V,hV⟩:∃V,V=Zl (Z9 6 x 1):=⟨_,rfl⟩
  rw [← hV] at hxs
  have HV:=hdd hV
  have HCX:=hdd (fun (W:World) cs (hW:ZX 12 W cs x)=>Z0R 6 (by omega) 12 cs x 1 W (HFX.out x (by simp)) hW (by omega) (by omega))
  rw [← hV] at HCX
  clear hV
  go_enter Tryz.func65,Tryz.ntmps65
  go_upto_region 1 with fail
  obtain⟨rb,hrb⟩:∃b,b=w.heap.size:=⟨_,rfl⟩
  generalize w.alloc (.cells #[.int .i64 2,.string name,.slice aa [x].length ac,.slice ba body.length bc,.slice ea els.length ec] 48)=W1 at HBX ⊢
  have HCC:=hdd HBX.out.cells
  rw [← hrb] at HCC ⊢
  have HRB:=hdd hrb
  clear hrb
  obtain⟨p0,p1,p2,p3,p4⟩:=HCC.out
  obtain⟨b1,o1,k,ka,kc,rfl,hk,hkR,c0,c1,c2,c3⟩:=ZQ (HAA.out.below (Z1 12) HBX.out.below) (show 0 < [x].length by simp)
  obtain rfl:x=k:=Option.some.inj hk
  simp only [Nat.zero_mul,Nat.add_zero] at c0 c1 c2 c3
  have HKR:=hdd (Z1a hkR.1)
  clear hk hkR
  go_wp2_with fail
  refine(HCX.out W1 [.int .i64 x.op,.int .i64 x.n,.string x.name,.slice ka x.kids.length kc] HKR.out).mono ?_
  rintro e w2 ⟨rfl,hb2⟩
  have HB2:=hdd (HBX.out.later hb2)
  obtain⟨q0,q1,q2,q3,q4⟩:=HB2.out.cells
  have HQ:=hdd hb2
  clear p0 p1 p2 p3 p4 c0 c1 c2 c3 hb2
  rw [← HRB.out] at q0 q1 q2 q3 q4
  have s1:(name).size+((⟨#[32,61,32]⟩:ByteArray)).size≤9223372036854775807:=by show name.size+3≤_;omega
  have s2:(name++(⟨#[32,61,32]⟩:ByteArray)).size+(V).size≤9223372036854775807:=by rw [ByteArray.size_append];show name.size+3+V.size≤_;omega
  have s3:(name++(⟨#[32,61,32]⟩:ByteArray)++V).size+((⟨#[32,59]⟩:ByteArray)).size≤9223372036854775807:=by rw [ByteArray.size_append,ByteArray.size_append];show name.size+3+V.size+2≤_;omega
  have HE:=hdd (show name++(⟨#[32,61,32]⟩:ByteArray)++V++(⟨#[32,59]⟩:ByteArray)=R∧Below w.heap.size w w2 from⟨by
   rw [HR.out,Z0z,Z2i,if_neg (by decide),HV.out]
   have hnt:Zl [nmW name]=name:=Z0G (nmW name)
   have hh:name++(⟨#[32,61,32]⟩:ByteArray)++Zl (Z9 6 x 1)++(⟨#[32,59]⟩:ByteArray)=Zl [nmW name]++(⟨#[32,61,32]⟩:ByteArray)++Zl (Z9 6 x 1)++(⟨#[32,59]⟩:ByteArray):=by rw [hnt]
   rw [hh,Z4T (by simp),ZE (by simp) HXN.out,Z0q (by simp)]
   rfl,HB2.out.below⟩)
  go_wp2
  go_ret
  exact⟨congrArg (fun s=>Ending.returned (Value.string s)) HE.out.1,HE.out.2⟩
 ·obtain⟨x,rfl⟩:∃x,args=[x]:=ha
  obtain rfl:name=⟨#[]⟩:=by rcases hn with h|h;exact absurd h.1 (by decide);exact h.2
  clear hn
  have hxs:(Zl (Z9 6 x 1)).size≤163840:=ZO (by omega) (HFX.out x (by simp))
  have HXN:=hdd (Z12 (need:=1) (HFX.out x (by simp)))
  obtain⟨V,hV⟩:∃V,V=Zl (Z9 6 x 1):=⟨_,rfl⟩
  rw [← hV] at hxs
  have HV:=hdd hV
  have HCX:=hdd (fun (W:World) cs (hW:ZX 12 W cs x)=>Z0R 6 (by omega) 12 cs x 1 W (HFX.out x (by simp)) hW (by omega) (by omega))
  rw [← hV] at HCX
  clear hV
  go_enter Tryz.func65,Tryz.ntmps65
  go_upto_region 1 with fail
  obtain⟨rb,hrb⟩:∃b,b=w.heap.size:=⟨_,rfl⟩
  generalize w.alloc (.cells #[.int .i64 3,.string ⟨#[]⟩,.slice aa [x].length ac,.slice ba body.length bc,.slice ea els.length ec] 48)=W1 at HBX ⊢
  have HCC:=hdd HBX.out.cells
  rw [← hrb] at HCC ⊢
  have HRB:=hdd hrb
  clear hrb
  obtain⟨p0,p1,p2,p3,p4⟩:=HCC.out
  obtain⟨b1,o1,k,ka,kc,rfl,hk,hkR,c0,c1,c2,c3⟩:=ZQ (HAA.out.below (Z1 12) HBX.out.below) (show 0 < [x].length by simp)
  obtain rfl:x=k:=Option.some.inj hk
  simp only [Nat.zero_mul,Nat.add_zero] at c0 c1 c2 c3
  have HKR:=hdd (Z1a hkR.1)
  clear hk hkR
  go_wp2_with fail
  refine(HCX.out W1 [.int .i64 x.op,.int .i64 x.n,.string x.name,.slice ka x.kids.length kc] HKR.out).mono ?_
  rintro e w2 ⟨rfl,hb2⟩
  have HB2:=hdd (HBX.out.later hb2)
  obtain⟨q0,q1,q2,q3,q4⟩:=HB2.out.cells
  have HQ:=hdd hb2
  clear p0 p1 p2 p3 p4 c0 c1 c2 c3 hb2
  rw [← HRB.out] at q0 q1 q2 q3 q4
  have s1:((⟨#[115,97,121,32]⟩:ByteArray)).size+(V).size≤9223372036854775807:=by show 4+V.size≤_;omega
  have s2:((⟨#[115,97,121,32]⟩:ByteArray)++V).size+((⟨#[32,59]⟩:ByteArray)).size≤9223372036854775807:=by rw [ByteArray.size_append];show 4+V.size+2≤_;omega
  have HE:=hdd (show(⟨#[115,97,121,32]⟩:ByteArray)++V++(⟨#[32,59]⟩:ByteArray)=R∧Below w.heap.size w w2 from⟨by
   rw [HR.out,Z0z,Z2i,if_neg (by decide),HV.out]
   rw [show(⟨#[115,97,121,32]⟩:ByteArray)=Zl [kyW 2]++⟨#[32]⟩ from rfl,ZE (by simp) HXN.out,Z0q (by simp)]
   rfl,HB2.out.below⟩)
  go_wp2
  go_ret
  exact⟨congrArg (fun s=>Ending.returned (Value.string s)) HE.out.1,HE.out.2⟩
 ·obtain⟨x,y,rfl⟩:∃x y,args=[x,y]:=ha
  obtain rfl:name=⟨#[]⟩:=by rcases hn with h|h;exact absurd h.1 (by decide);exact h.2
  clear hn
  have hxs:(Zl (Z9 6 x 1)).size≤163840:=ZO (by omega) (HFX.out x (by simp))
  have HXN:=hdd (Z12 (need:=1) (HFX.out x (by simp)))
  obtain⟨V,hV⟩:∃V,V=Zl (Z9 6 x 1):=⟨_,rfl⟩
  rw [← hV] at hxs
  have HV:=hdd hV
  have HCX:=hdd (fun (W:World) cs (hW:ZX 12 W cs x)=>Z0R 6 (by omega) 12 cs x 1 W (HFX.out x (by simp)) hW (by omega) (by omega))
  rw [← hV] at HCX
  clear hV
  go_enter Tryz.func65,Tryz.ntmps65
  go_upto_region 1 with fail
  obtain⟨rb,hrb⟩:∃b,b=w.heap.size:=⟨_,rfl⟩
  generalize w.alloc (.cells #[.int .i64 4,.string ⟨#[]⟩,.slice aa [x,y].length ac,.slice ba body.length bc,.slice ea els.length ec] 48)=W1 at HBX ⊢
  have HCC:=hdd HBX.out.cells
  rw [← hrb] at HCC ⊢
  have HRB:=hdd hrb
  clear hrb
  obtain⟨p0,p1,p2,p3,p4⟩:=HCC.out
  obtain⟨b1,o1,k,ka,kc,rfl,hk,hkR,c0,c1,c2,c3⟩:=ZQ (HAA.out.below (Z1 12) HBX.out.below) (show 0 < [x,y].length by simp)
  obtain rfl:x=k:=Option.some.inj hk
  simp only [Nat.zero_mul,Nat.add_zero] at c0 c1 c2 c3
  have HKR:=hdd (Z1a hkR.1)
  clear hk hkR
  go_wp2_with fail
  refine(HCX.out W1 [.int .i64 x.op,.int .i64 x.n,.string x.name,.slice ka x.kids.length kc] HKR.out).mono ?_
  rintro e w2 ⟨rfl,hb2⟩
  have HB2:=hdd (HBX.out.later hb2)
  obtain⟨q0,q1,q2,q3,q4⟩:=HB2.out.cells
  have HQ:=hdd hb2
  clear p0 p1 p2 p3 p4 c0 c1 c2 c3 hb2
  rw [← HRB.out] at q0 q1 q2 q3 q4
  have hys:(Zl (Z9 6 y 1)).size≤163840:=ZO (by omega) (HFX.out y (by simp))
  have HYN:=hdd (Z12 (need:=1) (HFX.out y (by simp)))
  obtain⟨Z,hZ⟩:∃Z,Z=Zl (Z9 6 y 1):=⟨_,rfl⟩
  rw [← hZ] at hys
  have HZ:=hdd hZ
  have HCY:=hdd (fun (W:World) cs (hW:ZX 12 W cs y)=>Z0R 6 (by omega) 12 cs y 1 W (HFX.out y (by simp)) hW (by omega) (by omega))
  rw [← hZ] at HCY
  clear hZ
  have s1:((⟨#[112,117,116,32]⟩:ByteArray)).size+(V).size≤9223372036854775807:=by show 4+V.size≤_;omega
  have s2:((⟨#[112,117,116,32]⟩:ByteArray)++V).size+((⟨#[32,44,32]⟩:ByteArray)).size≤9223372036854775807:=by rw [ByteArray.size_append];show 4+V.size+3≤_;omega
  have s3:((⟨#[112,117,116,32]⟩:ByteArray)++V++(⟨#[32,44,32]⟩:ByteArray)).size+(Z).size≤9223372036854775807:=by rw [ByteArray.size_append,ByteArray.size_append];show 4+V.size+3+Z.size≤_;omega
  have s4:((⟨#[112,117,116,32]⟩:ByteArray)++V++(⟨#[32,44,32]⟩:ByteArray)++Z).size+((⟨#[32,59]⟩:ByteArray)).size≤9223372036854775807:=by rw [ByteArray.size_append,ByteArray.size_append,ByteArray.size_append];show 4+V.size+3+Z.size+2≤_;omega
  obtain⟨b2,o2,k,la,lc,hbb,hk,hkR,d0,d1,d2,d3⟩:=ZQ (HAA.out.below (Z1 12) HB2.out.below) (show 1 < [x,y].length by simp)
  obtain rfl:y=k:=Option.some.inj hk
  obtain⟨rfl,rfl⟩:b1=b2∧o1=o2:=by simpa using hbb
  simp only [Nat.one_mul] at d0 d1 d2 d3
  have HKY:=hdd (Z1a hkR.1)
  clear hk hkR hbb
  go_wp2_with fail
  refine(HCY.out w2 [.int .i64 y.op,.int .i64 y.n,.string y.name,.slice la y.kids.length lc] HKY.out).mono ?_
  rintro e w3 ⟨rfl,hb3⟩
  have HE:=hdd (show(⟨#[112,117,116,32]⟩:ByteArray)++V++(⟨#[32,44,32]⟩:ByteArray)++Z++(⟨#[32,59]⟩:ByteArray)=R∧Below w.heap.size w w3 from⟨by
   rw [HR.out,Z0z,ZbS,if_neg (by decide),HV.out,HZ.out]
   rw [show(⟨#[112,117,116,32]⟩:ByteArray)=Zl [kyW 3]++⟨#[32]⟩ from rfl,ZE (by simp) HXN.out,Z4T (by simp),ZE (by simp) HYN.out,Z0q (by simp)]
   simp [Z1X],(HB2.out.later hb3).below⟩)
  clear hb3 d0 d1 d2 d3
  go_wp2
  go_ret
  exact⟨congrArg (fun s=>Ending.returned (Value.string s)) HE.out.1,HE.out.2⟩
 ·obtain⟨x,rfl⟩:∃x,args=[x]:=ha
  obtain rfl:name=⟨#[]⟩:=by rcases hn with h|h;exact absurd h.1 (by decide);exact h.2
  clear hn
  have hxs:(Zl (Z9 6 x 1)).size≤163840:=ZO (by omega) (HFX.out x (by simp))
  have HXN:=hdd (Z12 (need:=1) (HFX.out x (by simp)))
  obtain⟨V,hV⟩:∃V,V=Zl (Z9 6 x 1):=⟨_,rfl⟩
  rw [← hV] at hxs
  have HV:=hdd hV
  have HCX:=hdd (fun (W:World) cs (hW:ZX 12 W cs x)=>Z0R 6 (by omega) 12 cs x 1 W (HFX.out x (by simp)) hW (by omega) (by omega))
  rw [← hV] at HCX
  clear hV
  go_enter Tryz.func65,Tryz.ntmps65
  go_upto_region 1 with fail
  obtain⟨rb,hrb⟩:∃b,b=w.heap.size:=⟨_,rfl⟩
  generalize w.alloc (.cells #[.int .i64 5,.string ⟨#[]⟩,.slice aa [x].length ac,.slice ba body.length bc,.slice ea els.length ec] 48)=W1 at HBX ⊢
  have HCC:=hdd HBX.out.cells
  rw [← hrb] at HCC ⊢
  have HRB:=hdd hrb
  clear hrb
  obtain⟨p0,p1,p2,p3,p4⟩:=HCC.out
  obtain⟨b1,o1,k,ka,kc,rfl,hk,hkR,c0,c1,c2,c3⟩:=ZQ (HAA.out.below (Z1 12) HBX.out.below) (show 0 < [x].length by simp)
  obtain rfl:x=k:=Option.some.inj hk
  simp only [Nat.zero_mul,Nat.add_zero] at c0 c1 c2 c3
  have HKR:=hdd (Z1a hkR.1)
  clear hk hkR
  go_wp2_with fail
  refine(HCX.out W1 [.int .i64 x.op,.int .i64 x.n,.string x.name,.slice ka x.kids.length kc] HKR.out).mono ?_
  rintro e w2 ⟨rfl,hb2⟩
  have HB2:=hdd (HBX.out.later hb2)
  obtain⟨q0,q1,q2,q3,q4⟩:=HB2.out.cells
  have HQ:=hdd hb2
  clear p0 p1 p2 p3 p4 c0 c1 c2 c3 hb2
  rw [← HRB.out] at q0 q1 q2 q3 q4
  have s1:((⟨#[105,102,32]⟩:ByteArray)).size+(V).size≤9223372036854775807:=by show 3+V.size≤_;omega
  have s2:((⟨#[105,102,32]⟩:ByteArray)++V).size+((⟨#[32]⟩:ByteArray)).size≤9223372036854775807:=by rw [ByteArray.size_append];show 3+V.size+1≤_;omega
  have s3:((⟨#[105,102,32]⟩:ByteArray)++V++(⟨#[32]⟩:ByteArray)).size+(BT).size≤9223372036854775807:=by rw [ByteArray.size_append,ByteArray.size_append];show 3+V.size+1+BT.size≤_;omega
  go_wp2_with fail
  refine(HBLK.out w2 HB2.out.below).mono ?_
  rintro e w3 ⟨rfl,hb3⟩
  have HB3:=hdd (HB2.out.later hb3)
  obtain⟨r0,r1,r2,r3,r4⟩:=HB3.out.cells
  rw [← HRB.out] at r0 r1 r2 r3 r4
  clear q0 q1 q2 q3 q4 hb3
  by_cases hel0:els.length=0
  ·have hei:¬(0:Int)<(els.length:Int):=by omega
   have HE:=hdd (show(⟨#[105,102,32]⟩:ByteArray)++V++(⟨#[32]⟩:ByteArray)++BT=R∧Below w.heap.size w w3 from⟨by
    rw [HR.out,Z0z,Z2i,if_pos (by decide),HV.out,HBT.out]
    rw [show(⟨#[105,102,32]⟩:ByteArray)=Zl [kyW 4]++⟨#[32]⟩ from rfl,ZE (by simp) HXN.out,ZE (by simp) (Z3e _),if_pos hel0]
    simp [Z1X],HB3.out.below⟩)
   have HEZ:=hdd hel0
   clear hel0
   go_wp2
   go_ret
   exact⟨congrArg (fun s=>Ending.returned (Value.string s)) HE.out.1,HE.out.2⟩
  ·have hei:(0:Int)<(els.length:Int):=by omega
   have s4:((⟨#[105,102,32]⟩:ByteArray)++V++(⟨#[32]⟩:ByteArray)++BT).size+((⟨#[32,101,108,115,101,32]⟩:ByteArray)).size≤9223372036854775807:=by rw [ByteArray.size_append,ByteArray.size_append,ByteArray.size_append];show 3+V.size+1+BT.size+6≤_;omega
   have s5:((⟨#[105,102,32]⟩:ByteArray)++V++(⟨#[32]⟩:ByteArray)++BT++(⟨#[32,101,108,115,101,32]⟩:ByteArray)).size+(ET).size≤9223372036854775807:=by rw [ByteArray.size_append,ByteArray.size_append,ByteArray.size_append,ByteArray.size_append];show 3+V.size+1+BT.size+6+ET.size≤_;omega
   go_wp2_with fail
   refine(HELS.out w3 HB3.out.below).mono ?_
   rintro e w4 ⟨rfl,hb4⟩
   have HE:=hdd (show(⟨#[105,102,32]⟩:ByteArray)++V++(⟨#[32]⟩:ByteArray)++BT++(⟨#[32,101,108,115,101,32]⟩:ByteArray)++ET=R∧Below w.heap.size w w4 from⟨by
    rw [HR.out,Z0z,Z2i,if_pos (by decide),HV.out,HBT.out,HET.out]
    have hk:(⟨#[32,101,108,115,101,32]⟩:ByteArray)=(⟨#[32]⟩:ByteArray)++Zl [kyW 5]++⟨#[32]⟩:=rfl
    rw [show(⟨#[105,102,32]⟩:ByteArray)=Zl [kyW 4]++⟨#[32]⟩ from rfl,ZE (by simp) HXN.out,ZE (by simp) (Z3e _),if_neg hel0,hk,← ByteArray.append_assoc,← ByteArray.append_assoc,ZE (by simp) (by simp),ZE (by simp) (Z3e _)]
    simp [Z1X],(HB3.out.later hb4).below⟩)
   clear hb4 r0 r1 r2 r3 r4
   go_wp2
   go_ret
   exact⟨congrArg (fun s=>Ending.returned (Value.string s)) HE.out.1,HE.out.2⟩
 ·obtain⟨x,rfl⟩:∃x,args=[x]:=ha
  obtain rfl:name=⟨#[]⟩:=by rcases hn with h|h;exact absurd h.1 (by decide);exact h.2
  clear hn
  have hxs:(Zl (Z9 6 x 1)).size≤163840:=ZO (by omega) (HFX.out x (by simp))
  have HXN:=hdd (Z12 (need:=1) (HFX.out x (by simp)))
  obtain⟨V,hV⟩:∃V,V=Zl (Z9 6 x 1):=⟨_,rfl⟩
  rw [← hV] at hxs
  have HV:=hdd hV
  have HCX:=hdd (fun (W:World) cs (hW:ZX 12 W cs x)=>Z0R 6 (by omega) 12 cs x 1 W (HFX.out x (by simp)) hW (by omega) (by omega))
  rw [← hV] at HCX
  clear hV
  go_enter Tryz.func65,Tryz.ntmps65
  go_upto_region 1 with fail
  obtain⟨rb,hrb⟩:∃b,b=w.heap.size:=⟨_,rfl⟩
  generalize w.alloc (.cells #[.int .i64 6,.string ⟨#[]⟩,.slice aa [x].length ac,.slice ba body.length bc,.slice ea els.length ec] 48)=W1 at HBX ⊢
  have HCC:=hdd HBX.out.cells
  rw [← hrb] at HCC ⊢
  have HRB:=hdd hrb
  clear hrb
  obtain⟨p0,p1,p2,p3,p4⟩:=HCC.out
  obtain⟨b1,o1,k,ka,kc,rfl,hk,hkR,c0,c1,c2,c3⟩:=ZQ (HAA.out.below (Z1 12) HBX.out.below) (show 0 < [x].length by simp)
  obtain rfl:x=k:=Option.some.inj hk
  simp only [Nat.zero_mul,Nat.add_zero] at c0 c1 c2 c3
  have HKR:=hdd (Z1a hkR.1)
  clear hk hkR
  go_wp2_with fail
  refine(HCX.out W1 [.int .i64 x.op,.int .i64 x.n,.string x.name,.slice ka x.kids.length kc] HKR.out).mono ?_
  rintro e w2 ⟨rfl,hb2⟩
  have HB2:=hdd (HBX.out.later hb2)
  obtain⟨q0,q1,q2,q3,q4⟩:=HB2.out.cells
  have HQ:=hdd hb2
  clear p0 p1 p2 p3 p4 c0 c1 c2 c3 hb2
  rw [← HRB.out] at q0 q1 q2 q3 q4
  have s1:((⟨#[108,111,111,112,32]⟩:ByteArray)).size+(V).size≤9223372036854775807:=by show 5+V.size≤_;omega
  have s2:((⟨#[108,111,111,112,32]⟩:ByteArray)++V).size+((⟨#[32]⟩:ByteArray)).size≤9223372036854775807:=by rw [ByteArray.size_append];show 5+V.size+1≤_;omega
  have s3:((⟨#[108,111,111,112,32]⟩:ByteArray)++V++(⟨#[32]⟩:ByteArray)).size+(BT).size≤9223372036854775807:=by rw [ByteArray.size_append,ByteArray.size_append];show 5+V.size+1+BT.size≤_;omega
  go_wp2_with fail
  refine(HBLK.out w2 HB2.out.below).mono ?_
  rintro e w3 ⟨rfl,hb3⟩
  have HE:=hdd (show(⟨#[108,111,111,112,32]⟩:ByteArray)++V++(⟨#[32]⟩:ByteArray)++BT=R∧Below w.heap.size w w3 from⟨by
   have hel0:=HEL.out (by decide)
   rw [HR.out,Z0z,Z2i,if_pos (by decide),HV.out,HBT.out]
   rw [show(⟨#[108,111,111,112,32]⟩:ByteArray)=Zl [kyW 6]++⟨#[32]⟩ from rfl,ZE (by simp) HXN.out,ZE (by simp) (Z3e _),hel0,if_pos (show([]:List Zb).length=0 from rfl)]
   simp [Z1X],(HB2.out.later hb3).below⟩)
  clear hb3
  go_wp2
  go_ret
  exact⟨congrArg (fun s=>Ending.returned (Value.string s)) HE.out.1,HE.out.2⟩
 ·obtain⟨x,rfl⟩:∃x,args=[x]:=ha
  obtain rfl:name=⟨#[]⟩:=by rcases hn with h|h;exact absurd h.1 (by decide);exact h.2
  clear hn
  have hxs:(Zl (Z9 6 x 1)).size≤163840:=ZO (by omega) (HFX.out x (by simp))
  have HXN:=hdd (Z12 (need:=1) (HFX.out x (by simp)))
  obtain⟨V,hV⟩:∃V,V=Zl (Z9 6 x 1):=⟨_,rfl⟩
  rw [← hV] at hxs
  have HV:=hdd hV
  have HCX:=hdd (fun (W:World) cs (hW:ZX 12 W cs x)=>Z0R 6 (by omega) 12 cs x 1 W (HFX.out x (by simp)) hW (by omega) (by omega))
  rw [← hV] at HCX
  clear hV
  go_enter Tryz.func65,Tryz.ntmps65
  go_upto_region 1 with fail
  obtain⟨rb,hrb⟩:∃b,b=w.heap.size:=⟨_,rfl⟩
  generalize w.alloc (.cells #[.int .i64 7,.string ⟨#[]⟩,.slice aa [x].length ac,.slice ba body.length bc,.slice ea els.length ec] 48)=W1 at HBX ⊢
  have HCC:=hdd HBX.out.cells
  rw [← hrb] at HCC ⊢
  have HRB:=hdd hrb
  clear hrb
  obtain⟨p0,p1,p2,p3,p4⟩:=HCC.out
  obtain⟨b1,o1,k,ka,kc,rfl,hk,hkR,c0,c1,c2,c3⟩:=ZQ (HAA.out.below (Z1 12) HBX.out.below) (show 0 < [x].length by simp)
  obtain rfl:x=k:=Option.some.inj hk
  simp only [Nat.zero_mul,Nat.add_zero] at c0 c1 c2 c3
  have HKR:=hdd (Z1a hkR.1)
  clear hk hkR
  go_wp2_with fail
  refine(HCX.out W1 [.int .i64 x.op,.int .i64 x.n,.string x.name,.slice ka x.kids.length kc] HKR.out).mono ?_
  rintro e w2 ⟨rfl,hb2⟩
  have HB2:=hdd (HBX.out.later hb2)
  obtain⟨q0,q1,q2,q3,q4⟩:=HB2.out.cells
  have HQ:=hdd hb2
  clear p0 p1 p2 p3 p4 c0 c1 c2 c3 hb2
  rw [← HRB.out] at q0 q1 q2 q3 q4
  have s1:((⟨#[98,97,99,107,32]⟩:ByteArray)).size+(V).size≤9223372036854775807:=by show 5+V.size≤_;omega
  have s2:((⟨#[98,97,99,107,32]⟩:ByteArray)++V).size+((⟨#[32,59]⟩:ByteArray)).size≤9223372036854775807:=by rw [ByteArray.size_append];show 5+V.size+2≤_;omega
  have HE:=hdd (show(⟨#[98,97,99,107,32]⟩:ByteArray)++V++(⟨#[32,59]⟩:ByteArray)=R∧Below w.heap.size w w2 from⟨by
   rw [HR.out,Z0z,Z2i,if_neg (by decide),HV.out]
   rw [show(⟨#[98,97,99,107,32]⟩:ByteArray)=Zl [kyW 7]++⟨#[32]⟩ from rfl,ZE (by simp) HXN.out,Z0q (by simp)]
   rfl,HB2.out.below⟩)
  go_wp2
  go_ret
  exact⟨congrArg (fun s=>Ending.returned (Value.string s)) HE.out.1,HE.out.2⟩
 ·obtain⟨x,rfl⟩:∃x,args=[x]:=ha
  obtain rfl:name=⟨#[]⟩:=by rcases hn with h|h;exact absurd h.1 (by decide);exact h.2
  clear hn
  have hxs:(Zl (Z9 6 x 1)).size≤163840:=ZO (by omega) (HFX.out x (by simp))
  have HXN:=hdd (Z12 (need:=1) (HFX.out x (by simp)))
  obtain⟨V,hV⟩:∃V,V=Zl (Z9 6 x 1):=⟨_,rfl⟩
  rw [← hV] at hxs
  have HV:=hdd hV
  have HCX:=hdd (fun (W:World) cs (hW:ZX 12 W cs x)=>Z0R 6 (by omega) 12 cs x 1 W (HFX.out x (by simp)) hW (by omega) (by omega))
  rw [← hV] at HCX
  clear hV
  go_enter Tryz.func65,Tryz.ntmps65
  go_upto_region 1 with fail
  obtain⟨rb,hrb⟩:∃b,b=w.heap.size:=⟨_,rfl⟩
  generalize w.alloc (.cells #[.int .i64 8,.string ⟨#[]⟩,.slice aa [x].length ac,.slice ba body.length bc,.slice ea els.length ec] 48)=W1 at HBX ⊢
  have HCC:=hdd HBX.out.cells
  rw [← hrb] at HCC ⊢
  have HRB:=hdd hrb
  clear hrb
  obtain⟨p0,p1,p2,p3,p4⟩:=HCC.out
  obtain⟨b1,o1,k,ka,kc,rfl,hk,hkR,c0,c1,c2,c3⟩:=ZQ (HAA.out.below (Z1 12) HBX.out.below) (show 0 < [x].length by simp)
  obtain rfl:x=k:=Option.some.inj hk
  simp only [Nat.zero_mul,Nat.add_zero] at c0 c1 c2 c3
  have HKR:=hdd (Z1a hkR.1)
  clear hk hkR
  go_wp2_with fail
  refine(HCX.out W1 [.int .i64 x.op,.int .i64 x.n,.string x.name,.slice ka x.kids.length kc] HKR.out).mono ?_
  rintro e w2 ⟨rfl,hb2⟩
  have HB2:=hdd (HBX.out.later hb2)
  obtain⟨q0,q1,q2,q3,q4⟩:=HB2.out.cells
  have HQ:=hdd hb2
  clear p0 p1 p2 p3 p4 c0 c1 c2 c3 hb2
  rw [← HRB.out] at q0 q1 q2 q3 q4
  have s1:((⟨#[100,111,32]⟩:ByteArray)).size+(V).size≤9223372036854775807:=by show 3+V.size≤_;omega
  have s2:((⟨#[100,111,32]⟩:ByteArray)++V).size+((⟨#[32,59]⟩:ByteArray)).size≤9223372036854775807:=by rw [ByteArray.size_append];show 3+V.size+2≤_;omega
  have HE:=hdd (show(⟨#[100,111,32]⟩:ByteArray)++V++(⟨#[32,59]⟩:ByteArray)=R∧Below w.heap.size w w2 from⟨by
   rw [HR.out,Z0z,Z2i,if_neg (by decide),HV.out]
   rw [show(⟨#[100,111,32]⟩:ByteArray)=Zl [kyW 8]++⟨#[32]⟩ from rfl,ZE (by simp) HXN.out,Z0q (by simp)]
   rfl,HB2.out.below⟩)
  go_wp2
  go_ret
  exact⟨congrArg (fun s=>Ending.returned (Value.string s)) HE.out.1,HE.out.2⟩
theorem Z5P:∀d,d≤4→Zbw d
 | 0,_=>fun D S cs s w hs=>by cases hs
 | d+1,hd=>Z8a d hd (Z5P d (by omega))
theorem Z8n {p:List FnD} {j:Nat} {f:FnD} (h:p[j]? = some f):ZT (p.take (j+1))=ZT (p.take j)++Z0H f:=by
 rw [Z0n h];simp [ZT]
theorem Z5U {p:List FnD} (h:Z0C p=true) (j:Nat):(ZT (p.take j)).length≤3080000:=by
 have h1:=Z4y h
 have h2:ZT p=ZT (p.take j)++ZT (p.drop j):=by
  show p.flatMap Z0H=(p.take j).flatMap Z0H++(p.drop j).flatMap Z0H
  rw [← List.flatMap_append,List.take_append_drop]
 rw [h2,List.length_append] at h1
 omega
def Z2b (p:List FnD) (j:Nat) (f:FnD) (i:Nat):List Z7:=ZT (p.take j)++(kyW 0::nmW f.name::sgW 40::Zr 0 ((f.params.take i).map fun s=>[nmW s]))
theorem Zba {p:List FnD} (h:Z0C p=true) {j:Nat} {f:FnD} (hf:f∈p) (i:Nat):(∀w∈Z2b p j f i,ZV w)∧(Z2b p j f i).length≤3080020:=by
 have hp:=h
 simp only [Z0C,Z3Z,Bool.and_eq_true,decide_eq_true_eq,List.all_eq_true] at hp
 have hff:=hp.1.2 f hf
 simp only [fnB,Bool.and_eq_true,decide_eq_true_eq,List.all_eq_true] at hff
 have hc:=Z2D (f:=fun s=>[nmW s]) (B:=1) (f.params.take i) 0 (fun x _=>Nat.le_refl _)
 have hl:(f.params.take i).length≤3:=by rw [List.length_take];omega
 have hw:=Z5U h j
 refine⟨fun w hw=>?_,?_⟩
 ·rcases List.mem_append.1 hw with hw|hw
  ·exact Z3x (fun g hg=>hp.1.2 g (List.mem_of_mem_take hg)) w hw
  rcases List.mem_cons.1 hw with rfl|hw
  ·exact .key 0 (by omega)
  rcases List.mem_cons.1 hw with rfl|hw
  ·exact .name f.name hff.1.1.1
  rcases List.mem_cons.1 hw with rfl|hw
  ·exact .sign 40 (by decide)
  have hn:∀s∈f.params.take i,Zk s=true:=fun s hs=>hff.1.2 s (List.mem_of_mem_take hs)
  generalize f.params.take i=xs at hn hw
  cases xs with
  | nil=>cases hw
  | cons k ks=>
   rw [List.map_cons,Zr,Z1K,if_pos rfl] at hw
   simp only [List.nil_append,List.mem_append,List.mem_flatMap,List.mem_map,List.mem_cons,List.not_mem_nil,or_false] at hw
   rcases hw with rfl|⟨l,⟨k2,hk2,rfl⟩,hw⟩
   ·exact .name _ (hn _ (by simp))
   ·simp only [List.mem_cons,List.not_mem_nil,or_false] at hw
    rcases hw with rfl|rfl
    ·exact .sign 44 (by decide)
    ·exact .name _ (hn _ (by simp [hk2]))
 ·rw [Z2b,List.length_append,List.length_cons,List.length_cons,List.length_cons]
  omega
theorem Z5E {p:List FnD} (h:Z0C p=true) {j:Nat} {f:FnD} (hf:f∈p) (i:Nat):(Zl (Z2b p j f i)).size≤16000000:=by
 obtain⟨h1,h2⟩:=Zba h (j:=j) hf i
 have:=Z1k h1
 omega
theorem Z3c (p:List FnD) (j:Nat) (f:FnD) (i:Nat):Z2b p j f i≠[]:=by simp [Z2b]
theorem Z5M {p:List FnD} {j:Nat} {f:FnD} {i:Nat} {s:ByteArray} (h:f.params[i]? = some s):Z2b p j f (i+1)=Z2b p j f i++(if i=0 then [] else [sgW 44])++[nmW s]:=by
 rw [Z2b,Z25 (f:=fun s=>[nmW s]) f.params 0 i s h,Z2b,Nat.zero_add]
 simp
theorem Z6U {p:List FnD} {j:Nat} {f:FnD} (h:p[j]? = some f):ZT (p.take (j+1))=Z2b p j f f.params.length++[sgW 41]++Zx (f.body.flatMap (Zm 4)):=by
 rw [Z8n h,Z2b,List.take_length]
 simp [Z0H]
theorem Z6S (s:ByteArray):(⟨#[]⟩:ByteArray)++s=s:=ByteArray.empty_append
theorem Zb9 (p:List FnD) (j:Nat) (f:FnD):(j=0→(⟨#[]⟩:ByteArray)++(⟨#[102,110,32]⟩:ByteArray)++f.name++(⟨#[32,40]⟩:ByteArray)=Zl (Z2b p j f 0))∧
  (ZT (p.take j)≠[]→Zl (ZT (p.take j))++(⟨#[32]⟩:ByteArray)++(⟨#[102,110,32]⟩:ByteArray)++f.name++(⟨#[32,40]⟩:ByteArray)=Zl (Z2b p j f 0)):=by
 have hk:(⟨#[102,110,32]⟩:ByteArray)=Zl [kyW 0]++⟨#[32]⟩:=rfl
 have hn:Zl [nmW f.name]=f.name:=Z0G (nmW f.name)
 refine⟨fun h=>?_,fun h=>?_⟩
 ·subst h
  have h1:(⟨#[]⟩:ByteArray)++(⟨#[102,110,32]⟩:ByteArray)++f.name++(⟨#[32,40]⟩:ByteArray)=Zl [kyW 0]++⟨#[32]⟩++Zl [nmW f.name]++(⟨#[32,40]⟩:ByteArray):=by rw [hn,Z6S,hk]
  rw [h1,ZE (by simp) (by simp),Z0q (by simp)]
  rfl
 ·have h1:Zl (ZT (p.take j))++(⟨#[32]⟩:ByteArray)++(⟨#[102,110,32]⟩:ByteArray)++f.name++(⟨#[32,40]⟩:ByteArray)=Zl (ZT (p.take j))++(⟨#[32]⟩:ByteArray)++Zl [kyW 0]++⟨#[32]⟩++Zl [nmW f.name]++(⟨#[32,40]⟩:ByteArray):=by
   rw [hn,hk,← ByteArray.append_assoc]
  rw [h1,ZE h (by simp),ZE (by simp) (by simp),Z0q (by simp),Z2b]
  simp [Zr]
theorem Zb8 {T n:ByteArray} (hT:T.size≤16000000) (hn:n.size≤4):T.size+(⟨#[32]⟩:ByteArray).size≤9223372036854775807∧T.size+(⟨#[102,110,32]⟩:ByteArray).size≤9223372036854775807∧(T++(⟨#[32]⟩:ByteArray)).size+(⟨#[102,110,32]⟩:ByteArray).size≤9223372036854775807∧
  (T++(⟨#[32]⟩:ByteArray)++(⟨#[102,110,32]⟩:ByteArray)).size+n.size≤9223372036854775807∧(T++(⟨#[32]⟩:ByteArray)++(⟨#[102,110,32]⟩:ByteArray)++n).size+(⟨#[32,40]⟩:ByteArray).size≤9223372036854775807∧
  (T++(⟨#[102,110,32]⟩:ByteArray)).size+n.size≤9223372036854775807∧(T++(⟨#[102,110,32]⟩:ByteArray)++n).size+(⟨#[32,40]⟩:ByteArray).size≤9223372036854775807:=by
 have e1:(⟨#[32]⟩:ByteArray).size=1:=rfl
 have e2:(⟨#[102,110,32]⟩:ByteArray).size=3:=rfl
 have e3:(⟨#[32,40]⟩:ByteArray).size=2:=rfl
 simp only [ByteArray.size_append,e1,e2,e3]
 omega
theorem Z5T (D:Nat) (S:Nat→Prop) (a:Option Addr) (c:Nat) (p:List FnD) (w:World) (hx:Za 3 (FnP D) S w a p) (hv:Z0C p=true) :
  Calls Tryz.prog 14 #[.agg (List.toArray [.slice a p.length c])] w fun e w'=>e=.returned (.string (Zl (ZT p)))∧Below w.heap.size w w':=by
 have hb0:Below w.heap.size w (w.alloc (.cells #[.slice a p.length c] 25)):=(bRf _ _).alloc (Nat.le_refl _) _
 have hl4:=(Z8z hv).2.2.2.2
 have hform:∀g∈p,fnB g=true:=by
  have h:=hv
  simp only [Z0C,Z3Z,Bool.and_eq_true,decide_eq_true_eq,List.all_eq_true] at h
  exact h.1.2
 have p0:=coR _ _ 0 _ _ _ (hAn w (.cells #[.slice a p.length c] 25))
 simp only [ga0,ga1] at p0
 have HX:=hdd (hx.below (Z2 D) hb0)
 have HB0:=hdd hb0
 have HV:=hdd (aI hv hform)
 clear hx hb0 hv hform
 go_enter Tryz.func14,Tryz.ntmps14
 go_upto_region 1 with fail
 obtain⟨rb,hrb⟩:∃b,b=w.heap.size:=⟨_,rfl⟩
 generalize w.alloc (.cells #[.slice a p.length c] 25)=W1 at HX HB0 p0 ⊢
 rw [← hrb] at p0 ⊢
 clear hrb
 go_wp2_with fail
 go_loopg [3,4] p.length (fun G o i wr=>∃(j:Nat) (T:ByteArray),j+G=p.length∧i=.int .i64 j∧o=.string T∧Hid (T=Zl (ZT (p.take j))∧Below W1.heap.size W1 wr))
 case atStart=>exact⟨0,_,by omega,rfl,rfl,hdd ⟨rfl,bRf _ _⟩⟩
 case round=>
  obtain⟨j,T,hj,rfl,rfl,HG⟩:=hrel
  have g0:=clT HG.out.2 p0
  clear p0
  by_cases hlt:j<p.length
  ·obtain⟨b,off,f,pa,pc,ba,bc,rfl,hf,hF,c0,c1,c2⟩:=Z1q (HX.out.below (Z2 D) HG.out.2) hlt
   have hji:(j:Int)<(p.length:Int):=by omega
   have hfm:=List.mem_of_getElem? hf
   have hfb:=HV.out.2 f hfm
   have hff:=hfb
   simp only [fnB,Bool.and_eq_true,decide_eq_true_eq,List.all_eq_true] at hff
   have hn4:=(Z0t hff.1.1.1).2.1
   have hp3:=hff.1.1.2
   have hTs:T.size≤16000000:=by
    rw [HG.out.1]
    have h1:=Z1k (Z3x (fun g hg=>HV.out.2 g (List.mem_of_mem_take (i:=j) hg)))
    have h2:=Z5U HV.out.1 j
    omega
   obtain⟨z1,z2,z3,z4,z5,z6,z7⟩:=Zb8 hTs hn4
   obtain⟨pa',pc',ba',bc',hce,⟨-,-,hbl⟩,hPP,hBB⟩:=hF
   simp only [List.cons.injEq,Value.slice.injEq,true_and,and_true] at hce
   obtain⟨⟨rfl,rfl⟩,rfl,rfl⟩:=hce
   obtain⟨wo,rfl⟩:∃wo,wo=wr:=⟨wr,rfl⟩
   obtain⟨go,rfl⟩:∃go,go=gk:=⟨gk,rfl⟩
   have hb1:Below wo.heap.size wo (wo.alloc (.cells #[.string f.name,.slice pa f.params.length pc,.slice ba f.body.length bc] 42)):=(bRf _ _).alloc (Nat.le_refl _) _
   have hrow:=hAn wo (.cells #[.string f.name,.slice pa f.params.length pc,.slice ba f.body.length bc] 42)
   have e0:=coR _ _ 0 _ _ _ hrow
   have e1:=coR _ _ 1 _ _ _ hrow
   have e2:=coR _ _ 2 _ _ _ hrow
   simp only [ga0,ga1,ga2] at e0 e1 e2
   have HBB:=hdd (fun (W:World) (hW:Below wo.heap.size wo W)=>Z3t 4 (by omega) (Z5P 4 (by omega)) D S ba bc f.body W (fun s hs=>hff.2 s hs) (hBB.below (Z0 D) hW) hbl)
   have HBS:=hdd (Z2h (by omega) (fun s hs=>hff.2 s hs) hBB hbl)
   have HPP:=hdd hPP
   have HN:=hdd hff.1.2
   have HFM:=hdd (aI hfm hf)
   have HGB:=hdd (HG.out.2.trans (hb1.mono HG.out.2.size))
   have HB1:=hdd hb1
   clear hf hfm hfb hff hPP hBB hbl hrow hb1 hTs
   have HST:=hdd (Zb9 p j f)
   by_cases h0:j=0
   ·have HPRE:=hdd (show T++(⟨#[102,110,32]⟩:ByteArray)++f.name++(⟨#[32,40]⟩:ByteArray)=Zl (Z2b p j f 0) from by
     rw [HG.out.1]
     have hT0:Zl (ZT (p.take j))=⟨#[]⟩:=by rw [h0];rfl
     rw [hT0]
     exact HST.out.1 h0)
    have hji0:¬(0:Int)<(j:Int):=by omega
    have hjd:decide (0<j)=false:=decide_eq_false (by omega)
    have HJ:=hdd h0
    clear h0
    go_upto_region 8 with fail
    generalize hWo:wo.alloc (.cells #[.string f.name,.slice pa f.params.length pc,.slice ba f.body.length bc] 42)=W2 at HGB HB1 e0 e1 e2 ⊢
    obtain⟨fb,hfb⟩:∃n,n=wo.heap.size:=⟨_,rfl⟩
    have HWo:=hdd hWo
    rw [← hfb] at e0 e1 e2 ⊢
    have HFB:=hdd hfb
    clear hWo hfb c0 c1 c2
    go_wp2_with fail
    clear z1 z2 z3 z4 z5 z6 z7
    go_loopg [3,6] f.params.length (fun G o i wr=>∃(q:Nat) (U:ByteArray),q+G=f.params.length∧i=.int .i64 q∧o=.string U∧Hid (U=Zl (Z2b p j f q))∧wr=W2)
    case atStart=>exact⟨0,_,by omega,rfl,rfl,HPRE,rfl⟩
    case round=>
     obtain⟨q,U,hq,rfl,rfl,HQ,rfl⟩:=hrel
     clear HPRE HG
     have hUs:U.size≤16000000:=by rw [HQ.out];exact Z5E HV.out.1 HFM.out.1 q
     by_cases hqt:q<f.params.length
     ·have HPB:=hdd (HPP.out.below Z3 HB1.out)
      obtain⟨b2,o2,s,rfl,hs,hsz,d0⟩:=Z1B HPB.out hqt
      have hqi:(q:Int)<(f.params.length:Int):=by omega
      have hs4:s.size≤4:=(Z0t (HN.out s (List.mem_of_getElem? hs))).2.1
      have HS:=hdd (Z5M (p:=p) (j:=j) hs)
      have hst:Zl [nmW s]=s:=Z0G (nmW s)
      have HST2:=hdd hst
      clear hs hsz hst
      have e3:(⟨#[32]⟩:ByteArray).size=1:=rfl
      have e4:(⟨#[32,44]⟩:ByteArray).size=2:=rfl
      have y1:U.size+(⟨#[32]⟩:ByteArray).size≤9223372036854775807:=by rw [e3];omega
      have y2:(U++(⟨#[32]⟩:ByteArray)).size+s.size≤9223372036854775807:=by rw [ByteArray.size_append,e3];omega
      have y3:U.size+(⟨#[32,44]⟩:ByteArray).size≤9223372036854775807:=by rw [e4];omega
      have y4:(U++(⟨#[32,44]⟩:ByteArray)).size+(⟨#[32]⟩:ByteArray).size≤9223372036854775807:=by rw [ByteArray.size_append,e3,e4];omega
      have y5:(U++(⟨#[32,44]⟩:ByteArray)++(⟨#[32]⟩:ByteArray)).size+s.size≤9223372036854775807:=by rw [ByteArray.size_append,ByteArray.size_append,e3,e4];omega
      clear e3 e4
      by_cases hq0:q=0
      ·have HQN:=hdd (show U++(⟨#[32]⟩:ByteArray)++s=Zl (Z2b p j f (q+1)) from by
        have h1:U++(⟨#[32]⟩:ByteArray)++s=U++(⟨#[32]⟩:ByteArray)++Zl [nmW s]:=by rw [HST2.out]
        rw [h1,HQ.out,ZE (Z3c _ _ _ _) (by simp),HS.out,if_pos hq0,List.append_nil])
       have hqi0:¬(0:Int)<(q:Int):=by omega
       have HQ0:=hdd hq0
       clear hq0
       go_wp2
       go_roundg (gk-1)
       case measure=>omega
       case rel=>exact⟨q+1,_,by omega,by go_num,rfl,HQN,rfl⟩
      ·have HQN:=hdd (show U++(⟨#[32,44]⟩:ByteArray)++(⟨#[32]⟩:ByteArray)++s=Zl (Z2b p j f (q+1)) from by
        have h1:U++(⟨#[32,44]⟩:ByteArray)++(⟨#[32]⟩:ByteArray)++s=U++(⟨#[32,44]⟩:ByteArray)++(⟨#[32]⟩:ByteArray)++Zl [nmW s]:=by rw [HST2.out]
        rw [h1,HQ.out,Z0q (Z3c _ _ _ _),ZE (by simp) (by simp),HS.out,if_neg hq0])
       have hqi0:(0:Int)<(q:Int):=by omega
       have HQ0:=hdd hq0
       clear hq0
       go_wp2
       go_roundg (gk-1)
       case measure=>omega
       case rel=>exact⟨q+1,_,by omega,by go_num,rfl,HQN,rfl⟩
     ·obtain rfl:q=f.params.length:=by omega
      have hqi:¬(f.params.length:Int)<(f.params.length:Int):=by omega
      have hBs:=HBS.out
      obtain⟨B,hB⟩:∃B,B=Zl (Zx (f.body.flatMap (Zm 4))):=⟨_,rfl⟩
      rw [← hB] at hBs HBB
      have HB:=hdd hB
      clear hB
      have y1:U.size+(⟨#[32,41,32]⟩:ByteArray).size≤9223372036854775807:=by show U.size+3≤_;omega
      have y2:(U++(⟨#[32,41,32]⟩:ByteArray)).size+B.size≤9223372036854775807:=by rw [ByteArray.size_append];show U.size+3+_≤_;omega
      go_wp2_with fail
      refine(HBB.out _ HB1.out).mono ?_
      rintro e w5 ⟨rfl,hb5⟩
      have HEND:=hdd (show U++(⟨#[32,41,32]⟩:ByteArray)++B=Zl (ZT (p.take (j+1)))∧Below W1.heap.size W1 w5 from⟨by
       rw [HQ.out,HB.out,Z4T (Z3c _ _ _ _),ZE (by simp) (Z3e _),Z6U HFM.out.2],HGB.out.trans (hb5.mono HGB.out.size)⟩)
      clear hb5 e0 e1 e2
      go_wp2
      go_roundg (go-1)
      case measure=>omega
      case rel=>exact⟨j+1,_,by omega,by go_num,rfl,HEND⟩
   ·have HPRE:=hdd (show T++(⟨#[32]⟩:ByteArray)++(⟨#[102,110,32]⟩:ByteArray)++f.name++(⟨#[32,40]⟩:ByteArray)=Zl (Z2b p j f 0) from by
     rw [HG.out.1]
     refine HST.out.2 fun he=>?_
     have h2:=congrArg List.length he
     have hne:p.take j=[]:=by
      cases hp:p.take j with
      | nil=>rfl
      | cons g q=>rw [hp] at he;simp [ZT,Z0H] at he
     have h3:=congrArg List.length hne
     rw [List.length_take,Nat.min_eq_left (by omega)] at h3
     exact h0 h3)
    have hji0:(0:Int)<(j:Int):=by omega
    have hjd:decide (0<j)=true:=decide_eq_true (by omega)
    have HJ:=hdd h0
    clear h0
    go_upto_region 8 with fail
    generalize hWo:wo.alloc (.cells #[.string f.name,.slice pa f.params.length pc,.slice ba f.body.length bc] 42)=W2 at HGB HB1 e0 e1 e2 ⊢
    obtain⟨fb,hfb⟩:∃n,n=wo.heap.size:=⟨_,rfl⟩
    have HWo:=hdd hWo
    rw [← hfb] at e0 e1 e2 ⊢
    have HFB:=hdd hfb
    clear hWo hfb c0 c1 c2
    go_wp2_with fail
    clear z1 z2 z3 z4 z5 z6 z7
    go_loopg [3,6] f.params.length (fun G o i wr=>∃(q:Nat) (U:ByteArray),q+G=f.params.length∧i=.int .i64 q∧o=.string U∧Hid (U=Zl (Z2b p j f q))∧wr=W2)
    case atStart=>exact⟨0,_,by omega,rfl,rfl,HPRE,rfl⟩
    case round=>
     obtain⟨q,U,hq,rfl,rfl,HQ,rfl⟩:=hrel
     clear HPRE HG
     have hUs:U.size≤16000000:=by rw [HQ.out];exact Z5E HV.out.1 HFM.out.1 q
     by_cases hqt:q<f.params.length
     ·have HPB:=hdd (HPP.out.below Z3 HB1.out)
      obtain⟨b2,o2,s,rfl,hs,hsz,d0⟩:=Z1B HPB.out hqt
      have hqi:(q:Int)<(f.params.length:Int):=by omega
      have hs4:s.size≤4:=(Z0t (HN.out s (List.mem_of_getElem? hs))).2.1
      have HS:=hdd (Z5M (p:=p) (j:=j) hs)
      have hst:Zl [nmW s]=s:=Z0G (nmW s)
      have HST2:=hdd hst
      clear hs hsz hst
      have e3:(⟨#[32]⟩:ByteArray).size=1:=rfl
      have e4:(⟨#[32,44]⟩:ByteArray).size=2:=rfl
      have y1:U.size+(⟨#[32]⟩:ByteArray).size≤9223372036854775807:=by rw [e3];omega
      have y2:(U++(⟨#[32]⟩:ByteArray)).size+s.size≤9223372036854775807:=by rw [ByteArray.size_append,e3];omega
      have y3:U.size+(⟨#[32,44]⟩:ByteArray).size≤9223372036854775807:=by rw [e4];omega
      have y4:(U++(⟨#[32,44]⟩:ByteArray)).size+(⟨#[32]⟩:ByteArray).size≤9223372036854775807:=by rw [ByteArray.size_append,e3,e4];omega
      have y5:(U++(⟨#[32,44]⟩:ByteArray)++(⟨#[32]⟩:ByteArray)).size+s.size≤9223372036854775807:=by rw [ByteArray.size_append,ByteArray.size_append,e3,e4];omega
      clear e3 e4
      by_cases hq0:q=0
      ·have HQN:=hdd (show U++(⟨#[32]⟩:ByteArray)++s=Zl (Z2b p j f (q+1)) from by
        have h1:U++(⟨#[32]⟩:ByteArray)++s=U++(⟨#[32]⟩:ByteArray)++Zl [nmW s]:=by rw [HST2.out]
        rw [h1,HQ.out,ZE (Z3c _ _ _ _) (by simp),HS.out,if_pos hq0,List.append_nil])
       have hqi0:¬(0:Int)<(q:Int):=by omega
       have HQ0:=hdd hq0
       clear hq0
       go_wp2
       go_roundg (gk-1)
       case measure=>omega
       case rel=>exact⟨q+1,_,by omega,by go_num,rfl,HQN,rfl⟩
      ·have HQN:=hdd (show U++(⟨#[32,44]⟩:ByteArray)++(⟨#[32]⟩:ByteArray)++s=Zl (Z2b p j f (q+1)) from by
        have h1:U++(⟨#[32,44]⟩:ByteArray)++(⟨#[32]⟩:ByteArray)++s=U++(⟨#[32,44]⟩:ByteArray)++(⟨#[32]⟩:ByteArray)++Zl [nmW s]:=by rw [HST2.out]
        rw [h1,HQ.out,Z0q (Z3c _ _ _ _),ZE (by simp) (by simp),HS.out,if_neg hq0])
       have hqi0:(0:Int)<(q:Int):=by omega
       have HQ0:=hdd hq0
       clear hq0
       go_wp2
       go_roundg (gk-1)
       case measure=>omega
       case rel=>exact⟨q+1,_,by omega,by go_num,rfl,HQN,rfl⟩
     ·obtain rfl:q=f.params.length:=by omega
      have hqi:¬(f.params.length:Int)<(f.params.length:Int):=by omega
      have hBs:=HBS.out
      obtain⟨B,hB⟩:∃B,B=Zl (Zx (f.body.flatMap (Zm 4))):=⟨_,rfl⟩
      rw [← hB] at hBs HBB
      have HB:=hdd hB
      clear hB
      have y1:U.size+(⟨#[32,41,32]⟩:ByteArray).size≤9223372036854775807:=by show U.size+3≤_;omega
      have y2:(U++(⟨#[32,41,32]⟩:ByteArray)).size+B.size≤9223372036854775807:=by rw [ByteArray.size_append];show U.size+3+_≤_;omega
      go_wp2_with fail
      refine(HBB.out _ HB1.out).mono ?_
      rintro e w5 ⟨rfl,hb5⟩
      have HEND:=hdd (show U++(⟨#[32,41,32]⟩:ByteArray)++B=Zl (ZT (p.take (j+1)))∧Below W1.heap.size W1 w5 from⟨by
       rw [HQ.out,HB.out,Z4T (Z3c _ _ _ _),ZE (by simp) (Z3e _),Z6U HFM.out.2],HGB.out.trans (hb5.mono HGB.out.size)⟩)
      clear hb5 e0 e1 e2
      go_wp2
      go_roundg (go-1)
      case measure=>omega
      case rel=>exact⟨j+1,_,by omega,by go_num,rfl,HEND⟩
  ·obtain rfl:j=p.length:=by omega
   have hji:¬(p.length:Int)<(p.length:Int):=by omega
   have HE:=hdd (show T=Zl (ZT p)∧Below w.heap.size w wr from⟨by rw [HG.out.1,List.take_length],HB0.out.trans (HG.out.2.mono HB0.out.size)⟩)
   go_wp2
   go_ret
   exact⟨congrArg (fun s=>Ending.returned (Value.string s)) HE.out.1,HE.out.2⟩
def Z7L (ws:List Z7):ByteArray×Bool:=if (Zl ws).size≤3000∧ws.length≤600 then (Zl ws,true) else (⟨#[]⟩,false)
def Z4K (p:List FnD):ByteArray×Bool:=if Z0C p then Z7L (ZT p) else (⟨#[]⟩,false)
theorem Z8I {ws:List Z7} (h:(Zl ws).size≤3000∧ws.length≤600):Z7L ws=(Zl ws,true):=if_pos h
theorem Z67 {ws:List Z7} (h:¬((Zl ws).size≤3000∧ws.length≤600)):Z7L ws=(⟨#[]⟩,false):=if_neg h
theorem Z5m (S:Nat→Prop) (a:Option Addr) (c:Nat) (ws:List Z7) (w:World) (hx:Za 2 Z3p S w a ws) (hok:∀v∈ws,ZV v) (hbig:ws.length≤4000000) :
  Calls Tryz.prog 53 #[.slice a ws.length c] w fun e w'=>e=.returned (.tuple #[.string (Z7L ws).1,.bool (Z7L ws).2])∧Below w.heap.size w w':=by
 obtain⟨R,hR⟩:∃R,R=Z7L ws:=⟨_,rfl⟩
 rw [← hR]
 have HR:=hdd hR
 have HX:=hdd hx
 have HOK:=hdd hok
 have hts:=Z1k hok
 clear hR hx hok
 go_enter Tryz.func53,Tryz.ntmps53
 go_wp2_with fail
 go_loopg [4,5] ws.length (fun G o i wr=>∃(j:Nat) (T:ByteArray),j+G=ws.length∧i=.int .i64 j∧o=.string T∧Hid (T=Zl (ws.take j)∧Below w.heap.size w wr))
 case atStart=>exact⟨0,_,by omega,rfl,rfl,hdd ⟨rfl,bRf _ _⟩⟩
 case round=>
  obtain⟨j,T,hj,rfl,rfl,HG⟩:=hrel
  by_cases h6:ws.length≤600
  rotate_left
  ·have HE:=hdd (show R=(⟨#[]⟩,false) by rw [HR.out];exact Z67 fun h=>h6 h.2)
   have h6i:¬(ws.length:Int)≤600:=by omega
   have h6j:(600:Int)<(ws.length:Int):=by omega
   by_cases hlt:j<ws.length
   ·have hji:(j:Int)<(ws.length:Int):=by omega
    go_wp2
    go_ret2
    exact⟨by rw [HE.out];rfl,HG.out.2⟩
   ·have hji:¬(j:Int)<(ws.length:Int):=by omega
    go_wp2
    go_ret2
    exact⟨by rw [HE.out];rfl,HG.out.2⟩
  have h6i:(ws.length:Int)≤600:=by omega
  have h6j:¬(600:Int)<(ws.length:Int):=by omega
  have hT:T.size≤3000:=by
   rw [HG.out.1]
   have:=Z1k (ws:=ws.take j) (fun v hv=>HOK.out v (List.mem_of_mem_take hv))
   rw [List.length_take] at this
   omega
  by_cases hlt:j<ws.length
  ·obtain⟨b,off,v,rfl,hv,c0,c1⟩:=Z1w (HX.out.below ZC HG.out.2) hlt
   have hji:(j:Int)<(ws.length:Int):=by omega
   have hvo:=HOK.out v (List.mem_of_getElem? hv)
   have hv4:=(Z0J hvo).2.1
   have HWV:=hdd (fun W=>Z2r hvo W)
   have HV:=hdd (ZaC hv)
   have z1:T.size+(⟨#[32]⟩:ByteArray).size≤9223372036854775807:=by show T.size+1≤_;omega
   have z2:(T++(⟨#[32]⟩:ByteArray)).size+v.text.size≤9223372036854775807:=by rw [ByteArray.size_append];show T.size+1+_≤_;omega
   have z3:T.size+v.text.size≤9223372036854775807:=by omega
   clear hv hvo
   by_cases h0:j=0
   ·have HN:=hdd (show T++v.text=Zl (ws.take (j+1)) by
     rw [HV.out,if_pos h0,HG.out.1,h0]
     exact Z6S _)
    have hj0:¬(0:Int)<(j:Int):=by omega
    have HJ:=hdd h0
    clear h0
    go_wp2_with fail
    refine(HWV.out _).mono ?_
    rintro e w2 ⟨rfl,hb2⟩
    have d0:=clT hb2 c0
    have d1:=clT hb2 c1
    have HB2:=hdd (HG.out.2.trans (hb2.mono HG.out.2.size))
    clear hb2 c0 c1
    go_wp2
    go_roundg (gk-1)
    case measure=>omega
    case rel=>exact⟨j+1,_,by omega,by go_num,rfl,hdd ⟨HN.out,HB2.out⟩⟩
   ·have HN:=hdd (show T++(⟨#[32]⟩:ByteArray)++v.text=Zl (ws.take (j+1)) by
     rw [HV.out,if_neg h0,HG.out.1])
    have hj0:(0:Int)<(j:Int):=by omega
    have HJ:=hdd h0
    clear h0
    go_wp2_with fail
    refine(HWV.out _).mono ?_
    rintro e w2 ⟨rfl,hb2⟩
    have d0:=clT hb2 c0
    have d1:=clT hb2 c1
    have HB2:=hdd (HG.out.2.trans (hb2.mono HG.out.2.size))
    clear hb2 c0 c1
    go_wp2
    go_roundg (gk-1)
    case measure=>omega
    case rel=>exact⟨j+1,_,by omega,by go_num,rfl,hdd ⟨HN.out,HB2.out⟩⟩
  ·obtain rfl:j=ws.length:=by omega
   have hji:¬(ws.length:Int)<(ws.length:Int):=by omega
   have HTT:=hdd (show T=Zl ws by rw [HG.out.1,List.take_length])
   have h3:¬(3000:Int)<(T.size:Int):=by omega
   have HE:=hdd (show R=(T,true) by rw [HR.out,Z8I ⟨by rw [← HTT.out];exact hT,h6⟩,← HTT.out])
   go_wp2
   go_ret2
   exact⟨by rw [HE.out];rfl,HG.out.2⟩
theorem Z5h (ws:List Z7) (hok:∀v∈ws,ZV v) (hbig:ws.length≤4000000) (w:World) :
  Calls Tryz.prog 29 #[.string (Zl ws)] w fun e w'=>e=.returned (.tuple #[.string (Z7L ws).1,.bool (Z7L ws).2])∧Below w.heap.size w w':=by
 have HC:=hdd (Z4r ws hok hbig w)
 obtain⟨T,hT⟩:∃T,T=Zl ws:=⟨_,rfl⟩
 rw [← hT] at HC ⊢
 have HT:=hdd hT
 obtain⟨R,hR⟩:∃R,R=Z7L ws:=⟨_,rfl⟩
 rw [← hR]
 have HR:=hdd hR
 have HOK:=hdd (aI hok hbig)
 clear hR hT hok hbig
 go_enter Tryz.func29,Tryz.ntmps29
 go_wp2_with fail
 refine HC.out.mono ?_
 rintro e w2 ⟨hyes,hno,hb2⟩
 have HB2:=hdd hb2
 clear hb2
 by_cases hc:T.size≤3000∧ws.length≤600
 ·obtain⟨a,c,rfl,hx⟩:=hyes hc
  have HJ:=hdd (Z5m _ a c ws w2 hx HOK.out.1 HOK.out.2)
  rw [← HR.out] at HJ
  clear hyes hno hx hc
  go_wp2_with fail
  refine HJ.out.mono ?_
  rintro e w3 ⟨rfl,hb3⟩
  have HB3:=hdd (HB2.out.trans (hb3.mono HB2.out.size))
  clear hb3
  go_wp2
  go_ret2
  exact⟨rfl,HB3.out⟩
 ·obtain⟨a,c,rfl⟩:=hno hc
  have HE:=hdd (show R=(⟨#[]⟩,false) by rw [HR.out];exact Z67 (by rw [← HT.out];exact hc))
  clear hyes hno hc
  go_wp2
  go_ret2
  exact⟨by rw [HE.out];rfl,HB2.out⟩
theorem Z4w (D:Nat) (S:Nat→Prop) (a:Option Addr) (c:Nat) (p:List FnD) (w:World) (hx:Za 3 (FnP D) S w a p) (hl:p.length≤100) :
  Calls Tryz.prog 8 #[.agg (List.toArray [.slice a p.length c])] w fun e w'=>e=.returned (.tuple #[.string (Z4K p).1,.bool (Z4K p).2])∧Below w.heap.size w w':=by
 have hb0:Below w.heap.size w (w.alloc (.cells #[.slice a p.length c] 25)):=(bRf _ _).alloc (Nat.le_refl _) _
 have p0:=coR _ _ 0 _ _ _ (hAn w (.cells #[.slice a p.length c] 25))
 simp only [ga0,ga1] at p0
 have HX:=hdd (hx.below (Z2 D) hb0)
 have HB0:=hdd hb0
 have HL:=hdd hl
 clear hx hb0 hl
 obtain⟨R,hR⟩:∃R,R=Z4K p:=⟨_,rfl⟩
 rw [← hR]
 have HR:=hdd hR
 clear hR
 go_enter Tryz.func8,Tryz.ntmps8
 go_upto_region 1 with fail
 obtain⟨rb,hrb⟩:∃b,b=w.heap.size:=⟨_,rfl⟩
 generalize w.alloc (.cells #[.slice a p.length c] 25)=W1 at HX HB0 p0 ⊢
 rw [← hrb] at p0 ⊢
 clear hrb
 go_wp2_with fail
 refine(Z2q D S a c p W1 HX.out HL.out).mono ?_
 cases hv:Z0C p with
 | false=>
  rintro e w2 ⟨rfl,hb2⟩
  have HE:=hdd (show R=(⟨#[]⟩,false)∧Below w.heap.size w w2 from⟨by rw [HR.out,Z4K,hv];rfl,HB0.out.trans (hb2.mono HB0.out.size)⟩)
  clear hb2 hv
  go_wp2
  go_ret2
  exact⟨by rw [HE.out.1];rfl,HE.out.2⟩
 | true=>
  rintro e w2 ⟨rfl,hb2⟩
  have q0:=clT hb2 p0
  have HB2:=hdd (HB0.out.trans (hb2.mono HB0.out.size))
  have HT:=hdd (Z5T D S a c p w2 (HX.out.below (Z2 D) hb2) hv)
  have HRO:=hdd (show R=Z7L (ZT p) by rw [HR.out,Z4K,hv];rfl)
  have hok:∀v∈ZT p,ZV v:=by
   have h:=hv
   simp only [Z0C,Z3Z,Bool.and_eq_true,decide_eq_true_eq,List.all_eq_true] at h
   exact Z3x h.1.2
  have HP:=hdd (fun W=>Z5h (ZT p) hok (Nat.le_trans (Z4y hv) (by omega)) W)
  rw [← HRO.out] at HP
  clear hb2 p0 hok
  go_wp2_with fail
  refine HT.out.mono ?_
  rintro e w3 ⟨rfl,hb3⟩
  have HB3:=hdd (HB2.out.trans (hb3.mono HB2.out.size))
  clear hb3 q0
  go_wp2_with fail
  refine(HP.out w3).mono ?_
  rintro e w4 ⟨rfl,hb4⟩
  have HB4:=hdd (HB3.out.trans (hb4.mono HB3.out.size))
  clear hb4
  go_wp2
  go_ret2
  exact⟨rfl,HB4.out⟩
theorem Z9T:(Tryz.prog.info? 9).map (fun i=>(i.zero,i.size,i.bytes))=some (some (.string ByteArray.empty),1,16):=by kernel_rfl
theorem Z9Z:Tryz.prog.underlying 39=some (.slice 9):=by kernel_rfl
theorem Z9H (w:World) (g:Nat) (v0 v1 v2 v3 v4:Value):w.setCells g 0 [v0,v1,v2,v3,v4]=((((w.setCell ⟨g,0,none⟩ v0).setCell ⟨g,1,none⟩ v1).setCell ⟨g,2,none⟩ v2).setCell ⟨g,3,none⟩ v3).setCell ⟨g,4,none⟩ v4:=rfl
end Go.Proofs.YtloooebabieeeaaGreatDoor
