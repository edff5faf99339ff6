/-
  The reference's reader of programs reads a statement. (printed by mkt16.py)
-/
import Derived.Test.YtloooebabieeeaaGreatDoorCp
import Derived.Test.YtloooebabieeeaaGreatDoorCq
import Derived.Test.YtloooebabieeeaaGreatDoorT15
set_option maxRecDepth 100000
set_option maxHeartbeats 16000000
set_option linter.unusedVariables false
namespace Go.Proofs.YtloooebabieeeaaGreatDoor
open Go.RowKit
def Z4z (f dd:Nat):Prop:=∀(w:World) (rb:Nat) (la:Option Addr) (lc:Nat) (ws:List Z7) (at_:Nat) (ss:List Zb) (rest:List Z7),Z0u w rb la lc ws at_→rdB f (ws.drop at_)=some (ss,rest)→(∀s∈ss,ZH dd s=true)→ZY (Z07 dd) ss≤40→
 Calls Tryz.prog 64 #[.pointer (some ⟨rb,0,none⟩)] w (Zbh w rb la lc ws dd at_ ss rest)
def Z8i (f dd:Nat):Prop:=∀(w:World) (rb:Nat) (la:Option Addr) (lc:Nat) (ws:List Z7) (at_:Nat) (s:Zb) (rest:List Z7),Z0u w rb la lc ws at_→rdS f (ws.drop at_)=some (s,rest)→ZH dd s=true→Z07 dd s≤40→
 Calls Tryz.prog 89 #[.pointer (some ⟨rb,0,none⟩)] w (ZaN w rb la lc ws dd at_ s rest)
theorem Z0I {op:Int} {ws r0:List Z7} {nm:ByteArray} (h:Z2P op ws=some (nm,r0)) :
  ((op=1∨op=2)∧∃v,ws=v::ws.tail∧v.kind=1∧nm=v.text∧Zp ws.tail (sgB 61)=true∧r0=ws.tail.tail)∨(¬(op=1∨op=2)∧nm=⟨#[]⟩∧r0=ws):=by
 unfold Z2P at h
 by_cases ho:op=1∨op=2
 ·rw [if_pos ho] at h
  cases ws with
  | nil=>cases h
  | cons v r=>
   by_cases hk:v.kind=1
   ·have hn:Z3N (v::r)=some (v.text,r):=if_pos hk
    rw [hn,Option.bind_some] at h
    try dsimp only at h
    cases hh:Zp r (sgB 61) with
    | true=>
     rw [Z2t,hh,if_pos rfl] at h
     cases h
     exact .inl ⟨ho,v,rfl,hk,rfl,hh,rfl⟩
    | false=>rw [Z2t,hh,if_neg (by decide)] at h;cases h
   ·have hn:Z3N (v::r)=none:=if_neg hk
    rw [hn] at h;cases h
 ·rw [if_neg ho] at h
  cases h
  exact .inr ⟨ho,rfl,rfl⟩
theorem Z4Y {ws r:List Z7} {s:ByteArray} (h:Z2t ws s=some r):Zp ws s=true∧r=ws.tail:=by
 unfold Z2t at h
 cases hh:Zp ws s with
 | true=>rw [hh,if_pos rfl] at h;cases h;exact⟨rfl,rfl⟩
 | false=>rw [hh,if_neg (by decide)] at h;cases h
theorem Zaw {f:Nat} {ws rest:List Z7} {s:Zb} (h:rdS (f+1) ws=some (s,rest)):∃v nm r0 x r1,ws=v::ws.tail∧Z2P (ZZ v.text) (if ZZ v.text=2 then ws else ws.tail)=some (nm,r0)∧rdE f 1 r0=some (x,r1)∧
  ((ZZ v.text=5∧∃b r2,rdB f r1=some (b,r2)∧((Zp r2 (ZU.getD 5 ⟨#[]⟩)=true∧∃c,rdB f r2.tail=some (c,rest)∧s=.mk 5 nm [x] b c)∨(Zp r2 (ZU.getD 5 ⟨#[]⟩)=false∧rest=r2∧s=.mk 5 nm [x] b [])))∨
     (ZZ v.text=6∧∃b,rdB f r1=some (b,rest)∧s=.mk 6 nm [x] b [])∨
     (ZZ v.text=4∧Zp r1 (sgB 44)=true∧∃y r2,rdE f 1 r1.tail=some (y,r2)∧Zp r2 (sgB 59)=true∧rest=r2.tail∧s=.mk 4 nm [x,y] [] [])∨
     (ZZ v.text≠5∧ZZ v.text≠6∧ZZ v.text≠4∧Zp r1 (sgB 59)=true∧rest=r1.tail∧s=.mk (ZZ v.text) nm [x] [] [])):=by
 cases ws with
 | nil=>rw [rdS] at h;cases h
 | cons v r=>
  rw [rdS] at h
  try dsimp only at h
  cases hs:Z2P (ZZ v.text) (if ZZ v.text=2 then v::r else r) with
  | none=>rw [hs] at h;cases h
  | some a=>
   obtain⟨nm,r0⟩:=a
   rw [hs,Option.bind_some] at h
   try dsimp only at h
   cases hx:rdE f 1 r0 with
   | none=>rw [hx] at h;cases h
   | some q=>
    obtain⟨x,r1⟩:=q
    rw [hx,Option.bind_some] at h
    try dsimp only at h
    refine⟨v,nm,r0,x,r1,rfl,hs,hx,?_⟩
    by_cases h5:ZZ v.text=5
    ·rw [if_pos h5] at h
     cases hb:rdB f r1 with
     | none=>rw [hb] at h;cases h
     | some q2=>
      obtain⟨b,r2⟩:=q2
      rw [hb,Option.bind_some] at h
      try dsimp only at h
      cases he:Zp r2 (ZU.getD 5 ⟨#[]⟩) with
      | true=>
       rw [he,if_pos rfl] at h
       cases hc:rdB f r2.tail with
       | none=>rw [hc] at h;cases h
       | some q3=>
        obtain⟨c,r3⟩:=q3
        rw [hc] at h
        cases h
        exact .inl ⟨h5,b,r2,rfl,.inl ⟨he,c,hc,rfl⟩⟩
      | false=>
       rw [he,if_neg (by decide)] at h
       cases h
       exact .inl ⟨h5,b,_,rfl,.inr ⟨he,rfl,rfl⟩⟩
    rw [if_neg h5] at h
    by_cases h6:ZZ v.text=6
    ·rw [if_pos h6] at h
     cases hb:rdB f r1 with
     | none=>rw [hb] at h;cases h
     | some q2=>
      obtain⟨b,r2⟩:=q2
      rw [hb] at h
      cases h
      exact .inr (.inl ⟨h6,b,rfl,rfl⟩)
    rw [if_neg h6] at h
    by_cases h4:ZZ v.text=4
    ·rw [if_pos h4] at h
     cases hw:Z2t r1 (sgB 44) with
     | none=>rw [hw] at h;cases h
     | some q2=>
      obtain⟨k1,rfl⟩:=Z4Y hw
      rw [hw,Option.bind_some] at h
      cases hy:rdE f 1 r1.tail with
      | none=>rw [hy] at h;cases h
      | some q3=>
       obtain⟨y,r2⟩:=q3
       rw [hy,Option.bind_some] at h
       try dsimp only at h
       cases hz:Z2t r2 (sgB 59) with
       | none=>rw [hz] at h;cases h
       | some q4=>
        obtain⟨k2,rfl⟩:=Z4Y hz
        rw [hz] at h
        cases h
        exact .inr (.inr (.inl ⟨h4,k1,y,r2,rfl,k2,rfl,rfl⟩))
    rw [if_neg h4] at h
    cases hz:Z2t r1 (sgB 59) with
    | none=>rw [hz] at h;cases h
    | some q4=>
     obtain⟨k2,rfl⟩:=Z4Y hz
     rw [hz] at h
     cases h
     exact .inr (.inr (.inr ⟨h5,h6,h4,k2,rfl,rfl⟩))
theorem Z8f (s:ByteArray):ZZ s=1∨ZZ s=2∨ZZ s=3∨ZZ s=4∨ZZ s=5∨ZZ s=6∨ZZ s=7∨ZZ s=8:=by
 unfold ZZ
 repeat' split
 all_goals simp
theorem Z3z.putOne {w wr:World} {rb:Nat} {la:Option Addr} {lc:Nat} {ws:List Z7} {tb sb dd:Nat} {op:Int} {nm:ByteArray} {aa:Option Addr} {ac:Nat} {args:List Z6} {ba:Option Addr} {bc:Nat} {body:List Zb} {ea:Option Addr} {ec:Nat} {els:List Zb} {at_:Nat}
  (h:Z3z w rb la lc ws tb sb dd op nm aa ac args ba bc body ea ec els at_ wr) {cs:List Value} {x:Z6} (hx:ZG 12 (fun k=>w.heap.size≤k∧k≠sb∧k≠tb) wr cs x) :
  Z3z w rb la lc ws tb sb dd op nm (some ⟨wr.heap.size,0,none⟩) 1 [x] ba bc body ea ec els at_ ((wr.setCell ⟨sb,2,none⟩ (.slice (some ⟨wr.heap.size,0,none⟩) 1 1)).alloc (.cells cs.toArray 64)):=by
 have hs:=(gsI h.srow).1
 have hst:=(gsI h.trow).1
 have hsz:=h.size
 have h1:=Z4 wr sb 2 (.slice (some ⟨wr.heap.size,0,none⟩) 1 1)
 have hsc:(wr.setCell ⟨sb,2,none⟩ (.slice (some ⟨wr.heap.size,0,none⟩) 1 1)).heap.size=wr.heap.size:=World.size_setCell _ _ _
 have hba:Below (wr.setCell ⟨sb,2,none⟩ (.slice (some ⟨wr.heap.size,0,none⟩) 1 1)).heap.size (wr.setCell ⟨sb,2,none⟩ (.slice (some ⟨wr.heap.size,0,none⟩) 1 1)) ((wr.setCell ⟨sb,2,none⟩ (.slice (some ⟨wr.heap.size,0,none⟩) 1 1)).alloc (.cells cs.toArray 64)):=(bRf _ _).alloc (Nat.le_refl _) _
 have ht:=h1.trans (ZS hba (S:=fun k=>k=sb) (fun k h1 h2=>by omega))
 obtain⟨k1,k2,k3,k4,k5,k6⟩:=h.over ht
 have hrow:(wr.setCell ⟨sb,2,none⟩ (.slice (some ⟨wr.heap.size,0,none⟩) 1 1)).heap[sb]? = some (.cells #[.int .i64 op,.string nm,.slice (some ⟨wr.heap.size,0,none⟩) 1 1,.slice ba body.length bc,.slice ea els.length ec] 48 (0,0)):=(hSs wr sb 2 _ _ _ h.srow).trans rfl
 have hnew:=hAn (wr.setCell ⟨sb,2,none⟩ (.slice (some ⟨wr.heap.size,0,none⟩) 1 1)) (.cells cs.toArray 64)
 rw [hsc] at hnew
 exact⟨k1,(hba.block sb (by omega)).trans hrow,k2,Za.one (Z1 12) hnew ⟨hsz,by omega,by omega⟩ ((Z1 12).turned ht (fun k _ h=>h.2.1) hx),k4,k5,k6,h.blocks,h.words⟩
theorem Z6c {dd:Nat} {b:List Zb} (hb:∀k∈b,ZH dd k=true) (h:ZY (Z07 dd) b≤40):b.length≤40:=by
 have h1:∀xs:List Zb,(∀k∈xs,ZH dd k=true)→xs.length≤ZY (Z07 dd) xs:=by
  intro xs
  induction xs with
  | nil=>intro _;simp [ZY]
  | cons k xs ih=>
   intro h
   have h2:=ih (fun z hz=>h z (by simp [hz]))
   have h3:1≤Z07 dd k:=by
    cases dd with
    | zero=>have:=h k (by simp);cases this
    | succ dd=>rw [Z07];omega
   rw [List.length_cons,ZY]
   omega
 have:=h1 b hb
 omega
theorem Z6G {op:Int} {name:ByteArray} {args:List Z6} {body els:List Zb} (h:ZbY (.mk op name args body els)=true) (ho:op=1∨op=2):Zk name=true:=by
 rcases (Z0p h).2.2.2.1 with h1|h1
 ·exact h1.2
 ·exact absurd ho h1.1
theorem Z3z.oneG {w wr:World} {rb:Nat} {la:Option Addr} {lc:Nat} {ws:List Z7} {tb sb dd:Nat} {op:Int} {nm:ByteArray} {aa:Option Addr} {ac:Nat} {args:List Z6} {ba:Option Addr} {bc:Nat} {body:List Zb} {ea:Option Addr} {ec:Nat} {els:List Zb} {at_:Nat}
  (h:Z3z w rb la lc ws tb sb dd op nm aa ac args ba bc body ea ec els at_ wr) {cs:List Value} {x:Z6} (hx:ZG 12 (fun k=>w.heap.size≤k∧k≠sb∧k≠tb) wr cs x) :
  ZM 4 (ZG 12) 64 (fun k=>w.heap.size≤k∧k≠sb∧k≠tb) wr.heap.size ((wr.setCell ⟨sb,2,none⟩ (.slice (some ⟨wr.heap.size,0,none⟩) 1 1)).alloc (.cells cs.toArray 64)) (some ⟨wr.heap.size,0,none⟩) 1 1 [x]:=by
 have h1:=Z4 wr sb 2 (.slice (some ⟨wr.heap.size,0,none⟩) 1 1)
 have hsc:(wr.setCell ⟨sb,2,none⟩ (.slice (some ⟨wr.heap.size,0,none⟩) 1 1)).heap.size=wr.heap.size:=World.size_setCell _ _ _
 have hx1:=(Z1 12).turned h1 (fun k _ h=>h.2.1) hx
 have h2:=ZM.lit (s:=4) (R:=ZG 12) (e:=64) (Z1 12) (lo:=wr.heap.size) (S:=fun k=>w.heap.size≤k∧k≠sb∧k≠tb) (w:=wr.setCell ⟨sb,2,none⟩ (.slice (some ⟨wr.heap.size,0,none⟩) 1 1)) (cells:=[cs]) (xs:=[x]) (by omega) (by intro c hc;simp at hc;subst hc;exact(Z1 12).len hx1) rfl (by unfold maxLen;simp) (fun i cl y h3 h4=>by
  match i with
  | 0=>cases h3;cases h4;exact hx1
  | i+1=>cases h3)
 rw [hsc] at h2
 simpa using h2
theorem Z3z.grow {w wr w':World} {rb:Nat} {la:Option Addr} {lc:Nat} {ws:List Z7} {tb sb dd:Nat} {op:Int} {nm:ByteArray} {aa:Option Addr} {ac:Nat} {args:List Z6} {at_ g:Nat}
  (h:Z3z w rb la lc ws tb sb dd op nm aa ac args none 0 [] none 0 [] at_ wr) (ht:Ze (fun k=>some g=some k) wr w') (hg:w.heap.size≤g∧g≠sb∧g≠tb) {aa2:Option Addr} {ac2:Nat} {args2:List Z6} (ha:Za 4 (ZG 12) (fun k=>w.heap.size≤k∧k≠sb∧k≠tb) w' aa2 args2) :
  w'.heap[sb]? = wr.heap[sb]?∧Z3z w rb la lc ws tb sb dd op nm aa2 ac2 args2 none 0 [] none 0 [] at_ (w'.setCell ⟨sb,2,none⟩ (.slice aa2 args2.length ac2)):=by
 have hb:=h.blocks
 have hs:=(gsI h.srow).1
 have hst:=(gsI h.trow).1
 have ht1:Ze (fun k=>k=g) wr w':=ht.mono (fun k hk=>by have hk:some g=some k:=hk;cases hk;rfl)
 have hse:=ht1.block sb hs (fun e=>hg.2.1 (by have e:sb=g:=e;omega))
 have hte:=ht1.block tb hst (fun e=>hg.2.2 (by have e:tb=g:=e;omega))
 have h2:=Z4 w' sb 2 (.slice aa2 args2.length ac2)
 have hst2:tb<w'.heap.size:=Nat.lt_of_lt_of_le hst ht1.size
 have hr1:=Z1C h.rdr ht1 (by omega) (fun b o h1 h2=>by have:=h.words b o h1 h2;omega)
 refine⟨hse,Z1C hr1 h2 (by omega) (fun b o h1 h2=>by have:=h.words b o h1 h2;omega),(hSs w' sb 2 _ _ _ (hse.trans h.srow)).trans rfl,(h2.block tb hst2 (by omega)).trans (hte.trans h.trow),ha.turned (Z1 12) h2 (fun k _ h=>h.2.1),Za.nil _ _ _,Za.nil _ _ _,Z0T (Z0T h.turn ht1 hg.1) h2 hb.2.2.1,h.blocks,h.words⟩
theorem Z5x {w wd W:World} {rb tb sb dd at_:Nat} {la:Option Addr} {lc:Nat} {ws:List Z7} {op:Int} (hr:Z0u wd rb la lc ws at_) (hb:Below w.heap.size w wd) (ht:wd.heap[tb]? = some (.cells #[.int .i64 0,.string ⟨#[]⟩,.slice none 0 0,.slice none 0 0,.slice none 0 0] 48 (0,0))∧tb=w.heap.size∧wd.heap.size=w.heap.size+1∧rb<w.heap.size) (hw:Below wd.heap.size wd W)
  (hs:W.heap[sb]? = some (.cells #[.int .i64 0,.string ⟨#[]⟩,.slice none 0 0,.slice none 0 0,.slice none 0 0] 48 (0,0))) (hsb:wd.heap.size≤sb) (hl:∀b o,la=some ⟨b,o,none⟩→ws≠[]→b<w.heap.size):Z3z w rb la lc ws tb sb dd op ⟨#[]⟩ none 0 [] none 0 [] none 0 [] at_ (((((W.setCell ⟨sb,0,none⟩ (.int .i64 op)).setCell ⟨sb,1,none⟩ (.string ⟨#[]⟩)).setCell ⟨sb,2,none⟩ (.slice none 0 0)).setCell ⟨sb,3,none⟩ (.slice none 0 0)).setCell ⟨sb,4,none⟩ (.slice none 0 0)):=by
 have h1:=Z4 W sb 0 (.int .i64 op)
 have h2:=Z4 (W.setCell ⟨sb,0,none⟩ (.int .i64 op)) sb 1 (.string ⟨#[]⟩)
 have h3:=Z4 ((W.setCell ⟨sb,0,none⟩ (.int .i64 op)).setCell ⟨sb,1,none⟩ (.string ⟨#[]⟩)) sb 2 (.slice none 0 0)
 have h4:=Z4 (((W.setCell ⟨sb,0,none⟩ (.int .i64 op)).setCell ⟨sb,1,none⟩ (.string ⟨#[]⟩)).setCell ⟨sb,2,none⟩ (.slice none 0 0)) sb 3 (.slice none 0 0)
 have h5:=Z4 ((((W.setCell ⟨sb,0,none⟩ (.int .i64 op)).setCell ⟨sb,1,none⟩ (.string ⟨#[]⟩)).setCell ⟨sb,2,none⟩ (.slice none 0 0)).setCell ⟨sb,3,none⟩ (.slice none 0 0)) sb 4 (.slice none 0 0)
 have htt:=(((h1.trans h2).trans h3).trans h4).trans h5
 have hrow:(((((W.setCell ⟨sb,0,none⟩ (.int .i64 op)).setCell ⟨sb,1,none⟩ (.string ⟨#[]⟩)).setCell ⟨sb,2,none⟩ (.slice none 0 0)).setCell ⟨sb,3,none⟩ (.slice none 0 0)).setCell ⟨sb,4,none⟩ (.slice none 0 0)).heap[sb]? = some (.cells #[.int .i64 op,.string ⟨#[]⟩,.slice none 0 0,.slice none 0 0,.slice none 0 0] 48 (0,0)):=(hSs _ sb 4 _ _ _ ((hSs _ sb 3 _ _ _ ((hSs _ sb 2 _ _ _ ((hSs _ sb 1 _ _ _ ((hSs W sb 0 _ _ _ hs).trans rfl)).trans rfl)).trans rfl)).trans rfl)).trans rfl
 clear h1 h2 h3 h4 h5
 generalize (((((W.setCell ⟨sb,0,none⟩ (.int .i64 op)).setCell ⟨sb,1,none⟩ (.string ⟨#[]⟩)).setCell ⟨sb,2,none⟩ (.slice none 0 0)).setCell ⟨sb,3,none⟩ (.slice none 0 0)).setCell ⟨sb,4,none⟩ (.slice none 0 0))=wf at htt hrow ⊢
 obtain⟨t1,t2,t3,t4⟩:=ht
 have htW:W.heap[tb]? = _:=(hw.block tb (by omega)).trans t1
 exact⟨Z1C (hr.later hw) htt (by omega) (fun b o h1 h2=>by have:=hl b o h1 h2;omega),hrow,(htt.block tb (gsI htW).1 (by omega)).trans htW,Za.nil _ _ _,Za.nil _ _ _,Za.nil _ _ _,
  Z0T ((Zd.below hb).trans (Zd.below hw)) htt (by omega),⟨t4,by omega,by omega,by omega⟩,hl⟩
theorem Z8o (f dd:Nat) (hB:Z4z f dd):Z8i (f+1) (dd+1):=by
 intro w rb la lc ws at_ s rest h hr hv hc
 obtain⟨v,nm,r0,x,r1,hws,hst,hx,hcase⟩:=Zaw hr
 have hlt:at_<ws.length:=by
  rcases Nat.lt_or_ge at_ ws.length with h1|h1
  ·exact h1
  ·rw [List.drop_of_length_le h1] at hws;cases hws
 have hva:ws[at_]? = some v:=by
  have h1:=List.drop_eq_getElem_cons hlt
  rw [h1] at hws
  rw [List.getElem?_eq_getElem hlt,(List.cons.inj hws).1]
 rw [List.tail_drop] at hst
 have hsh:=h.short
 have hvs:=(Z0J (h.ok v (List.mem_of_getElem? hva))).1
 have hba:Below w.heap.size w (w.alloc (.cells #[.int .i64 0,.string ⟨#[]⟩,.slice none 0 0,.slice none 0 0,.slice none 0 0] 48)):=(bRf _ _).alloc (Nat.le_refl _) _
 have HTB:=hdd (aI (hAn w (.cells #[.int .i64 0,.string ⟨#[]⟩,.slice none 0 0,.slice none 0 0,.slice none 0 0] 48)) (aI (World.size_alloc w (.cells #[.int .i64 0,.string ⟨#[]⟩,.slice none 0 0,.slice none 0 0,.slice none 0 0] 48)) h.lt))
 have HR1:=hdd (h.later hba)
 have HB0:=hdd hba
 have HLB:=hdd (show ∀b o,la=some ⟨b,o,none⟩→ws≠[]→b<w.heap.size from fun b o h1 h2=>by
  obtain⟨b',off,k1,k2,k3⟩:=h.list.blk h2
  rw [h1] at k1
  cases k1
  exact k3)
 have HBC:=hdd hB
 have HVA:=hdd hva
 have HVS:=hdd hvs
 have HST:=hdd hst
 have HX:=hdd hx
 have HCASE:=hdd hcase
 have HV:=hdd (aI hv hc)
 have hge:¬(ws.length:Int)≤(at_:Int):=by omega
 have hlti:(at_:Int)<(ws.length:Int):=by omega
 obtain⟨k0,k1,z1⟩:=HR1.out.cells
 clear h hr hv hc hst hx hcase hva hba hB hws hvs
 go_enter Tryz.func89,Tryz.ntmps89
 go_upto_region 1 with fail
 obtain⟨tb,htb⟩:∃n,n=w.heap.size:=⟨_,rfl⟩
 generalize w.alloc (.cells #[.int .i64 0,.string ⟨#[]⟩,.slice none 0 0,.slice none 0 0,.slice none 0 0] 48)=W1 at HTB HR1 HB0 k0 k1 z1 ⊢
 have HT0:=hdd (show W1.heap[tb]? = some (.cells #[.int .i64 0,.string ⟨#[]⟩,.slice none 0 0,.slice none 0 0,.slice none 0 0] 48 (0,0))∧tb=w.heap.size∧W1.heap.size=w.heap.size+1∧rb<w.heap.size from by rw [htb];exact⟨HTB.out.1,rfl,HTB.out.2.1,HTB.out.2.2⟩)
 rw [← htb] at ⊢
 clear htb HTB
 go_quiet (fail)
 have HBD:=hdd (show Below w.heap.size w (W1.drewN nq) from HB0.out.trans ((below_drewN (bRf W1.heap.size W1) nq).mono HB0.out.size))
 have HRD:=hdd (HR1.out.later (below_drewN (bRf W1.heap.size W1) nq))
 have HTD:=hdd (show(W1.drewN nq).heap[tb]? = some (.cells #[.int .i64 0,.string ⟨#[]⟩,.slice none 0 0,.slice none 0 0,.slice none 0 0] 48 (0,0))∧tb=w.heap.size∧(W1.drewN nq).heap.size=w.heap.size+1∧rb<w.heap.size from HT0.out)
 clear k0 k1 z1 HR1 HB0 HT0
 generalize W1.drewN nq=W2 at HBD HRD HTD ⊢
 go_upto_region 4 with fail
 have HRE:=hdd (HRD.out.later (bRf W2.heap.size W2).drew)
 have HBE:=hdd (show Below w.heap.size w W2.drew from HBD.out.drew)
 have HTE:=hdd (show W2.drew.heap[tb]? = some (.cells #[.int .i64 0,.string ⟨#[]⟩,.slice none 0 0,.slice none 0 0,.slice none 0 0] 48 (0,0))∧tb=w.heap.size∧W2.drew.heap.size=w.heap.size+1∧rb<w.heap.size from HTD.out)
 clear HRD HBD HTD
 obtain⟨wb,wo,v',hla,hv',c0,c1⟩:=Z1w HRE.out.list hlt
 obtain rfl:v=v':=Option.some.inj (HVA.out.symm.trans hv')
 subst hla
 refine Zw (S:=fun W:World=>W.cell? ⟨rb,0,none⟩=some (.slice (some ⟨wb,wo,none⟩) ws.length lc)∧W.cell? ⟨rb,1,none⟩=some (.int .i64 (at_:Int))∧W.cell? ⟨wb,wo+at_*2+1,none⟩=some (.string v.text)) (by kernel_rfl) ?_
 have HC1:=hdd c1
 clear hv' c0 c1
 generalize W2.drew=wd at HRE HBE HTE HC1 ⊢
 have HS:=hdd (show ∀W,Below wd.heap.size wd W→(fun W:World=>W.cell? ⟨rb,0,none⟩=some (.slice (some ⟨wb,wo,none⟩) ws.length lc)∧W.cell? ⟨rb,1,none⟩=some (.int .i64 (at_:Int))∧W.cell? ⟨wb,wo+at_*2+1,none⟩=some (.string v.text)) W from fun W hW=>⟨(HRE.out.later hW).cells.1,(HRE.out.later hW).cells.2.1,clT hW HC1.out⟩)
 have HCO:=hdd (fun W=>ZbO v.text HVS.out W)
 have hHeld:(fun W:World=>W.cell? ⟨rb,0,none⟩=some (.slice (some ⟨wb,wo,none⟩) ws.length lc)∧W.cell? ⟨rb,1,none⟩=some (.int .i64 (at_:Int))∧W.cell? ⟨wb,wo+at_*2+1,none⟩=some (.string v.text)) wd:=HS.out _ (bRf _ _)
 have HBW:=hdd (bRf wd.heap.size wd)
 obtain⟨op,hop⟩:∃op,op=ZZ v.text:=⟨_,rfl⟩
 rw [← hop] at HST HCASE HCO
 have hopr:=Z8f v.text
 rw [← hop] at hopr
 have HOPR:=hdd hopr
 clear hop hopr
 refine tkL 1 0 (some 18) hHeld ?_
 (try simp only [Act.put,pu1,pu2,pu3])
 refine tkL 2 1 (some 19) hHeld ?_
 (try simp only [Act.put,pu1,pu2,pu3])
 refine tkL 3 2 (some 20) hHeld ?_
 (try simp only [Act.put,pu1,pu2,pu3])
 refine tkL 8 3 (some 21) hHeld ?_
 (try simp only [Act.put,pu1,pu2,pu3])
 refine tkL 5 4 (some 22) hHeld ?_
 (try simp only [Act.put,pu1,pu2,pu3])
 refine tkL 6 5 (some 23) hHeld ?_
 (try simp only [Act.put,pu1,pu2,pu3])
 refine tkL 7 6 (some 24) hHeld ?_
 (try simp only [Act.put,pu1,pu2,pu3])
 refine tkL 8 7 (some 25) hHeld ?_
 (try simp only [Act.put,pu1,pu2,pu3])
 refine tkL 9 8 (some 26) hHeld ?_
 (try simp only [Act.put,pu1,pu2,pu3])
 refine tkL 10 9 (some 27) hHeld ?_
 (try simp only [Act.put,pu1,pu2,pu3])
 refine tkL 11 10 (some 28) hHeld ?_
 (try simp only [Act.put,pu1,pu2,pu3])
 refine Z0y (rs:=[11,13]) (by kernel_rfl) (by simp) ?_
 refine(ZD.cons (o:=⟨some 29,_,_,_,_,_⟩) rfl (fun K hK=>?_) (ZD.cons (o:=⟨some 3,_,_,_,_,_⟩) rfl (fun K hK=>?_) ZD.nil))
 focus
  go_simp
  go_at_call 109
  refine(HCO.out _).mono ?_
  rintro e w5 ⟨rfl,hb5⟩
  have HBX:=hdd (HBW.out.trans (hb5.mono HBW.out.size))
  clear hb5 HBW
  have HBW:=HBX
  clear HBX
  refine kpL hK (HS.out _ HBW.out) ?_
  clear hK K hHeld;intro hHeld
  (try simp only [Act.put,pu1,pu2,pu3])
  refine tkL 14 12 (some 30) hHeld ?_
  (try simp only [Act.put,pu1,pu2,pu3])
  refine Z06 13 (some 3) fun K hK=>?_
  go_simp
  have HAL:=hdd (show(w5.alloc (.cells #[.int .i64 0,.string ⟨#[]⟩,.slice none 0 0,.slice none 0 0,.slice none 0 0] 48)).heap[w5.heap.size]? = some (.cells #[.int .i64 0,.string ⟨#[]⟩,.slice none 0 0,.slice none 0 0,.slice none 0 0] 48 (0,0))∧Below wd.heap.size wd (w5.alloc (.cells #[.int .i64 0,.string ⟨#[]⟩,.slice none 0 0,.slice none 0 0,.slice none 0 0] 48)) from⟨hAn _ _,HBW.out.alloc HBW.out.size _⟩)
  have HLO:wd.heap.size≤w5.heap.size:=HBW.out.size
  obtain⟨sb,hxb⟩:∃n,n=w5.heap.size:=⟨_,rfl⟩
  have HLO2:=hdd (show wd.heap.size≤sb by omega)
  rw [← hxb] at ⊢
  have HXR:=hdd (show(w5.alloc (.cells #[.int .i64 0,.string ⟨#[]⟩,.slice none 0 0,.slice none 0 0,.slice none 0 0] 48)).heap[sb]? = some (.cells #[.int .i64 0,.string ⟨#[]⟩,.slice none 0 0,.slice none 0 0,.slice none 0 0] 48 (0,0))∧wd.heap.size≤sb from⟨by rw [hxb];exact HAL.out.1,HLO2.out⟩)
  clear HBW
  have HBW:=hdd HAL.out.2
  clear hxb HAL HLO HLO2
  generalize w5.alloc (.cells #[.int .i64 0,.string ⟨#[]⟩,.slice none 0 0,.slice none 0 0,.slice none 0 0] 48)=w5a at HBW HXR ⊢
  refine kpL hK (HS.out _ HBW.out) ?_
  clear hK K hHeld;intro hHeld
  (try simp only [Act.put,pu1,pu2,pu3])
  refine Z06 14 none fun K hK=>?_
  have hxr:=HXR.out.1
  have k0:=coR _ _ 0 _ _ _ hxr
  have k1:=coR _ _ 1 _ _ _ hxr
  have k2:=coR _ _ 2 _ _ _ hxr
  have k3:=coR _ _ 3 _ _ _ hxr
  have k4:=coR _ _ 4 _ _ _ hxr
  have z0:=frR _ _ 0 _ _ hxr
  have z1:=frR _ _ 1 _ _ hxr
  have z2:=frR _ _ 2 _ _ hxr
  have z3:=frR _ _ 3 _ _ hxr
  have z4:=frR _ _ 4 _ _ hxr
  simp only [ga0,ga1,ga2] at k0 k1 k2 k3 k4
  go_simp
  clear k0 k1 k2 k3 k4 z0 z1 z2 z3 z4
  have HSS:=hdd (Z5x (op:=op) (dd:=dd) HRE.out HBE.out HTE.out HBW.out hxr HXR.out.2 HLB.out)
  clear hxr
  refine hK.out _ _ (Z15 (by kernel_rfl)) ?_
  clear hK K hHeld
  (try simp only [Act.put,pu1,pu2,pu3])
  refine Zq (by kernel_rfl) ?_ _
  generalize (((((w5a.setCell ⟨sb,0,none⟩ (.int .i64 op)).setCell ⟨sb,1,none⟩ (.string ⟨#[]⟩)).setCell ⟨sb,2,none⟩ (.slice none 0 0)).setCell ⟨sb,3,none⟩ (.slice none 0 0)).setCell ⟨sb,4,none⟩ (.slice none 0 0))=w6 at HSS ⊢
  clear HBW HXR HS HRE HBE HTE HC1 HCO
 rotate_left
 focus
  go_simp
  have HAL:=hdd (show(wd.alloc (.cells #[.int .i64 0,.string ⟨#[]⟩,.slice none 0 0,.slice none 0 0,.slice none 0 0] 48)).heap[wd.heap.size]? = some (.cells #[.int .i64 0,.string ⟨#[]⟩,.slice none 0 0,.slice none 0 0,.slice none 0 0] 48 (0,0))∧Below wd.heap.size wd (wd.alloc (.cells #[.int .i64 0,.string ⟨#[]⟩,.slice none 0 0,.slice none 0 0,.slice none 0 0] 48)) from⟨hAn _ _,HBW.out.alloc HBW.out.size _⟩)
  have HLO:wd.heap.size≤wd.heap.size:=HBW.out.size
  obtain⟨sb,hxb⟩:∃n,n=wd.heap.size:=⟨_,rfl⟩
  have HLO2:=hdd (show wd.heap.size≤sb by omega)
  rw [← hxb] at ⊢
  have HXR:=hdd (show(wd.alloc (.cells #[.int .i64 0,.string ⟨#[]⟩,.slice none 0 0,.slice none 0 0,.slice none 0 0] 48)).heap[sb]? = some (.cells #[.int .i64 0,.string ⟨#[]⟩,.slice none 0 0,.slice none 0 0,.slice none 0 0] 48 (0,0))∧wd.heap.size≤sb from⟨by rw [hxb];exact HAL.out.1,HLO2.out⟩)
  clear HBW
  have HBW:=hdd HAL.out.2
  clear hxb HAL HLO HLO2
  generalize wd.alloc (.cells #[.int .i64 0,.string ⟨#[]⟩,.slice none 0 0,.slice none 0 0,.slice none 0 0] 48)=wda at HBW HXR ⊢
  refine kpL hK (HS.out _ HBW.out) ?_
  clear hK K hHeld;intro hHeld
  (try simp only [Act.put,pu1,pu2,pu3])
  refine Z06 11 (some 29) fun K hK=>?_
  go_simp
  go_at_call 109
  refine(HCO.out _).mono ?_
  rintro e w5 ⟨rfl,hb5⟩
  have HBX:=hdd (HBW.out.trans (hb5.mono HBW.out.size))
  have HXR2:=hdd (show w5.heap[sb]? = some (.cells #[.int .i64 0,.string ⟨#[]⟩,.slice none 0 0,.slice none 0 0,.slice none 0 0] 48 (0,0))∧wd.heap.size≤sb from⟨(hb5.block sb (gsI HXR.out.1).1).trans HXR.out.1,HXR.out.2⟩)
  clear HXR
  have HXR:=HXR2
  clear HXR2
  clear hb5 HBW
  have HBW:=HBX
  clear HBX
  refine kpL hK (HS.out _ HBW.out) ?_
  clear hK K hHeld;intro hHeld
  (try simp only [Act.put,pu1,pu2,pu3])
  refine tkL 14 12 (some 30) hHeld ?_
  (try simp only [Act.put,pu1,pu2,pu3])
  refine Z06 14 none fun K hK=>?_
  have hxr:=HXR.out.1
  have k0:=coR _ _ 0 _ _ _ hxr
  have k1:=coR _ _ 1 _ _ _ hxr
  have k2:=coR _ _ 2 _ _ _ hxr
  have k3:=coR _ _ 3 _ _ _ hxr
  have k4:=coR _ _ 4 _ _ _ hxr
  have z0:=frR _ _ 0 _ _ hxr
  have z1:=frR _ _ 1 _ _ hxr
  have z2:=frR _ _ 2 _ _ hxr
  have z3:=frR _ _ 3 _ _ hxr
  have z4:=frR _ _ 4 _ _ hxr
  simp only [ga0,ga1,ga2] at k0 k1 k2 k3 k4
  go_simp
  clear k0 k1 k2 k3 k4 z0 z1 z2 z3 z4
  have HSS:=hdd (Z5x (op:=op) (dd:=dd) HRE.out HBE.out HTE.out HBW.out hxr HXR.out.2 HLB.out)
  clear hxr
  refine hK.out _ _ (Z15 (by kernel_rfl)) ?_
  clear hK K hHeld
  (try simp only [Act.put,pu1,pu2,pu3])
  refine Zq (by kernel_rfl) ?_ _
  generalize (((((w5.setCell ⟨sb,0,none⟩ (.int .i64 op)).setCell ⟨sb,1,none⟩ (.string ⟨#[]⟩)).setCell ⟨sb,2,none⟩ (.slice none 0 0)).setCell ⟨sb,3,none⟩ (.slice none 0 0)).setCell ⟨sb,4,none⟩ (.slice none 0 0))=w6 at HSS ⊢
  clear HBW HXR HS HRE HBE HTE HC1 HCO
 rotate_left
 all_goals
  rcases HOPR.out with rfl|rfl|rfl|rfl|rfl|rfl|rfl|rfl
  ·obtain⟨⟨s0,s1,s2,s3,s4⟩,⟨y1,y2,y3,y4⟩⟩:=HSS.out.cells
   obtain⟨k0,k1,z1⟩:=HSS.out.rdr.cells
   rcases HCASE.out with⟨h5,b,r2,hb,hel⟩|⟨h6,b,hb,rfl⟩|⟨h4,h44,y,r2,hy,h59,hrr,rfl⟩|⟨h5,h6,h4,h59,hrr,rfl⟩
   ·exact absurd h5 (by decide)
   ·exact absurd h6 (by decide)
   ·exact absurd h4 (by decide)
   ·obtain⟨hb0,hbk,hek⟩:=ZR HV.out.1
    have hfx:=(Z0p hb0).2.2.2.2.1
    have HFX:=hdd hfx
    rcases Z0I HST.out with⟨-,v2,hw2,hk2,rfl,h61,hr0⟩|⟨hno,-,-⟩
    rotate_left
    ·exact absurd (by simp) hno
    rw [if_neg (by decide)] at hr0 hw2 h61
    have HP1:=HSS.out.rdr.put (at2:=at_+1) (by omega)
    rw [show((at_+1:Nat):Int)=(at_:Int)+1 by omega] at HP1
    have HS7:=hdd (HSS.out.call HP1.2 HP1.1)
    clear HP1
    go_upto_region 7 with fail
    clear k0 k1 z1
    clear s0 s1 s2 s3 s4 y1 y2 y3 y4
    generalize w6.setCell ⟨rb,1,none⟩ (.int .i64 ((at_:Int)+1))=w7 at HS7 ⊢
    rw [List.tail_drop] at h61
    rw [List.tail_drop,List.tail_drop] at hr0
    have hvn:ws[(at_+1)]? = some v2:=by
     have hl:(at_+1)<ws.length:=by
      rcases Nat.lt_or_ge (at_+1) ws.length with h|h
      ·exact h
      ·rw [List.drop_of_length_le h] at hw2;cases hw2
     have h1:=List.drop_eq_getElem_cons hl
     rw [h1] at hw2
     rw [List.getElem?_eq_getElem hl,(List.cons.inj hw2).1]
    have HNC:=hdd (Z2I HS7.out.rdr hvn hk2)
    have H61:=hdd h61
    clear hvn hk2 h61 hw2
    obtain⟨⟨s0,s1,s2,s3,s4⟩,⟨y1,y2,y3,y4⟩⟩:=HS7.out.cells
    go_wp2_with fail
    refine HNC.out.mono ?_
    rintro e w8 ⟨rfl,hr8,ht8⟩
    have HS8:=hdd (HS7.out.call ht8 hr8)
    clear s0 s1 s2 s3 s4 y1 y2 y3 y4
    clear hr8 ht8
    obtain⟨⟨s0,s1,s2,s3,s4⟩,⟨y1,y2,y3,y4⟩⟩:=HS8.out.cells
    have HS9:=hdd (HS8.out.putName v2.text)
    go_upto_region 9 with fail
    clear s0 s1 s2 s3 s4 y1 y2 y3 y4
    generalize w8.setCell ⟨sb,1,none⟩ (.string v2.text)=w9 at HS9 ⊢
    have HWC:=hdd (Z02 HS9.out.rdr (sgB 61) H61.out)
    go_wp2_with fail
    refine HWC.out.mono ?_
    rintro e w10 ⟨rfl,hr10,ht10⟩
    have HS10:=hdd (HS9.out.call ht10 hr10)
    clear hr10 ht10
    have hfx1:=HFX.out x (by simp)
    have HEC:=hdd (Z19 HS10.out.rdr (f:=f) (x:=x) (rest:=r1) (by rw [← hr0];exact HX.out))
    have hsb:=(gsI HS10.out.srow).1
    have htb:=(gsI HS10.out.trow).1
    have hsw:=HS10.out.size
    go_wp2_with fail
    refine HEC.out.mono ?_
    rintro e w11 ⟨cs,d,q,rfl,hxe,hrq,hdq,hpq,htq⟩
    obtain⟨ka,kc,rfl⟩:=Zj hxe
    have HS11:=hdd (HS10.out.call htq hrq)
    have HXE:=hdd (show ZG 12 (fun k=>w.heap.size≤k∧k≠sb∧k≠tb) w11 [.int .i64 x.op,.int .i64 x.n,.string x.name,.slice ka x.kids.length kc] x from(Z1 12).mono (fun k _ h=>by have h:w10.heap.size≤k:=h;exact⟨by omega,by omega,by omega⟩) (Zb6 hfx1 hxe))
    have HDQ:=hdd (aI hdq hpq)
    clear hxe hrq hdq hpq htq hsb htb hsw
    have HS12:=hdd (HS11.out.putOne HXE.out)
    obtain⟨⟨s0,s1,s2,s3,s4⟩,⟨y1,y2,y3,y4⟩⟩:=HS11.out.cells
    have hsb11:=(gsI HS11.out.srow).1
    go_upto_region 11 with fail
    clear hsb11
    clear s0 s1 s2 s3 s4 y1 y2 y3 y4
    generalize (w11.setCell ⟨sb,2,none⟩ (.slice (some ⟨w11.heap.size,0,none⟩) 1 1)).alloc (.cells #[.int .i64 x.op,.int .i64 x.n,.string x.name,.slice ka x.kids.length kc] 64)=w12 at HS12 ⊢
    obtain⟨⟨s0,s1,s2,s3,s4⟩,⟨y1,y2,y3,y4⟩⟩:=HS12.out.cells
    rw [← HDQ.out.1] at h59 hrr
    rw [List.tail_drop] at hrr
    have HWC2:=hdd (Z02 HS12.out.rdr (sgB 59) h59)
    have HRR:=hdd (show ws.drop (q+1)=rest∧at_<q+1 from⟨hrr.symm,by have:=HDQ.out.2;omega⟩)
    clear h59 hrr
    go_wp2_with fail
    refine HWC2.out.mono ?_
    rintro e w13 ⟨rfl,hr13,ht13⟩
    have HS13:=hdd (HS12.out.call ht13 hr13)
    clear s0 s1 s2 s3 s4 y1 y2 y3 y4
    clear hr13 ht13
    have hnmb:(v2.text:ByteArray).size≤maxLen:=by unfold maxLen;have:=(Z0t (Z6G hb0 (by simp))).2.1;omega
    have HBD5:(v2.text:ByteArray).size≤maxLen∧(-9223372036854775808:Int)≤1∧(1:Int)≤9223372036854775807∧[x].length≤100∧([]:List Zb).length≤100∧([]:List Zb).length≤100:=⟨hnmb,by omega,by omega,by simp,by simp,by simp⟩
    clear hnmb
    have HBD6:=hdd HBD5
    clear HBD5
    obtain⟨⟨s0,s1,s2,s3,s4⟩,-⟩:=HS13.out.cells
    obtain⟨⟨t0,t1,t2,t3,t4⟩,⟨x0,x1,x2,x3,x4⟩⟩:=HS13.out.tcells
    have HF:=hdd (HS13.out.fin (rest:=rest) (at0:=at_) HBD6.out HRR.out.1 HRR.out.2)
    go_wp2
    refine bodyPost_ret (results_cell_row rfl _ _ tb 48 (List.toArray [.int .i64 1,.string v2.text,.slice (some ⟨w11.heap.size,0,none⟩) 1 1,.slice none 0 0,.slice none 0 0]) (0,0) _ rfl ?_ Tryz.underlying48 rfl (by kernel_rfl)) rfl ?_
    ·exact HF.out.1
    ·exact HF.out.2
  ·obtain⟨⟨s0,s1,s2,s3,s4⟩,⟨y1,y2,y3,y4⟩⟩:=HSS.out.cells
   obtain⟨k0,k1,z1⟩:=HSS.out.rdr.cells
   rcases HCASE.out with⟨h5,b,r2,hb,hel⟩|⟨h6,b,hb,rfl⟩|⟨h4,h44,y,r2,hy,h59,hrr,rfl⟩|⟨h5,h6,h4,h59,hrr,rfl⟩
   ·exact absurd h5 (by decide)
   ·exact absurd h6 (by decide)
   ·exact absurd h4 (by decide)
   ·obtain⟨hb0,hbk,hek⟩:=ZR HV.out.1
    have hfx:=(Z0p hb0).2.2.2.2.1
    have HFX:=hdd hfx
    rcases Z0I HST.out with⟨-,v2,hw2,hk2,rfl,h61,hr0⟩|⟨hno,-,-⟩
    rotate_left
    ·exact absurd (by simp) hno
    rw [if_pos rfl] at hr0 hw2 h61
    have HS7:=HSS
    go_upto_region 7 with fail
    clear k0 k1 z1
    clear s0 s1 s2 s3 s4 y1 y2 y3 y4
    generalize w6=w7 at HS7 ⊢
    rw [List.tail_drop] at h61
    rw [List.tail_drop,List.tail_drop] at hr0
    have hvn:ws[at_]? = some v2:=by
     have hl:at_<ws.length:=by
      rcases Nat.lt_or_ge at_ ws.length with h|h
      ·exact h
      ·rw [List.drop_of_length_le h] at hw2;cases hw2
     have h1:=List.drop_eq_getElem_cons hl
     rw [h1] at hw2
     rw [List.getElem?_eq_getElem hl,(List.cons.inj hw2).1]
    have HNC:=hdd (Z2I HS7.out.rdr hvn hk2)
    have H61:=hdd h61
    clear hvn hk2 h61 hw2
    obtain⟨⟨s0,s1,s2,s3,s4⟩,⟨y1,y2,y3,y4⟩⟩:=HS7.out.cells
    go_wp2_with fail
    refine HNC.out.mono ?_
    rintro e w8 ⟨rfl,hr8,ht8⟩
    have HS8:=hdd (HS7.out.call ht8 hr8)
    clear s0 s1 s2 s3 s4 y1 y2 y3 y4
    clear hr8 ht8
    obtain⟨⟨s0,s1,s2,s3,s4⟩,⟨y1,y2,y3,y4⟩⟩:=HS8.out.cells
    have HS9:=hdd (HS8.out.putName v2.text)
    go_upto_region 9 with fail
    clear s0 s1 s2 s3 s4 y1 y2 y3 y4
    generalize w8.setCell ⟨sb,1,none⟩ (.string v2.text)=w9 at HS9 ⊢
    have HWC:=hdd (Z02 HS9.out.rdr (sgB 61) H61.out)
    go_wp2_with fail
    refine HWC.out.mono ?_
    rintro e w10 ⟨rfl,hr10,ht10⟩
    have HS10:=hdd (HS9.out.call ht10 hr10)
    clear hr10 ht10
    have hfx1:=HFX.out x (by simp)
    have HEC:=hdd (Z19 HS10.out.rdr (f:=f) (x:=x) (rest:=r1) (by rw [← hr0];exact HX.out))
    have hsb:=(gsI HS10.out.srow).1
    have htb:=(gsI HS10.out.trow).1
    have hsw:=HS10.out.size
    go_wp2_with fail
    refine HEC.out.mono ?_
    rintro e w11 ⟨cs,d,q,rfl,hxe,hrq,hdq,hpq,htq⟩
    obtain⟨ka,kc,rfl⟩:=Zj hxe
    have HS11:=hdd (HS10.out.call htq hrq)
    have HXE:=hdd (show ZG 12 (fun k=>w.heap.size≤k∧k≠sb∧k≠tb) w11 [.int .i64 x.op,.int .i64 x.n,.string x.name,.slice ka x.kids.length kc] x from(Z1 12).mono (fun k _ h=>by have h:w10.heap.size≤k:=h;exact⟨by omega,by omega,by omega⟩) (Zb6 hfx1 hxe))
    have HDQ:=hdd (aI hdq hpq)
    clear hxe hrq hdq hpq htq hsb htb hsw
    have HS12:=hdd (HS11.out.putOne HXE.out)
    obtain⟨⟨s0,s1,s2,s3,s4⟩,⟨y1,y2,y3,y4⟩⟩:=HS11.out.cells
    have hsb11:=(gsI HS11.out.srow).1
    go_upto_region 11 with fail
    clear hsb11
    clear s0 s1 s2 s3 s4 y1 y2 y3 y4
    generalize (w11.setCell ⟨sb,2,none⟩ (.slice (some ⟨w11.heap.size,0,none⟩) 1 1)).alloc (.cells #[.int .i64 x.op,.int .i64 x.n,.string x.name,.slice ka x.kids.length kc] 64)=w12 at HS12 ⊢
    obtain⟨⟨s0,s1,s2,s3,s4⟩,⟨y1,y2,y3,y4⟩⟩:=HS12.out.cells
    rw [← HDQ.out.1] at h59 hrr
    rw [List.tail_drop] at hrr
    have HWC2:=hdd (Z02 HS12.out.rdr (sgB 59) h59)
    have HRR:=hdd (show ws.drop (q+1)=rest∧at_<q+1 from⟨hrr.symm,by have:=HDQ.out.2;omega⟩)
    clear h59 hrr
    go_wp2_with fail
    refine HWC2.out.mono ?_
    rintro e w13 ⟨rfl,hr13,ht13⟩
    have HS13:=hdd (HS12.out.call ht13 hr13)
    clear s0 s1 s2 s3 s4 y1 y2 y3 y4
    clear hr13 ht13
    have hnmb:(v2.text:ByteArray).size≤maxLen:=by unfold maxLen;have:=(Z0t (Z6G hb0 (by simp))).2.1;omega
    have HBD5:(v2.text:ByteArray).size≤maxLen∧(-9223372036854775808:Int)≤2∧(2:Int)≤9223372036854775807∧[x].length≤100∧([]:List Zb).length≤100∧([]:List Zb).length≤100:=⟨hnmb,by omega,by omega,by simp,by simp,by simp⟩
    clear hnmb
    have HBD6:=hdd HBD5
    clear HBD5
    obtain⟨⟨s0,s1,s2,s3,s4⟩,-⟩:=HS13.out.cells
    obtain⟨⟨t0,t1,t2,t3,t4⟩,⟨x0,x1,x2,x3,x4⟩⟩:=HS13.out.tcells
    have HF:=hdd (HS13.out.fin (rest:=rest) (at0:=at_) HBD6.out HRR.out.1 HRR.out.2)
    go_wp2
    refine bodyPost_ret (results_cell_row rfl _ _ tb 48 (List.toArray [.int .i64 2,.string v2.text,.slice (some ⟨w11.heap.size,0,none⟩) 1 1,.slice none 0 0,.slice none 0 0]) (0,0) _ rfl ?_ Tryz.underlying48 rfl (by kernel_rfl)) rfl ?_
    ·exact HF.out.1
    ·exact HF.out.2
  ·obtain⟨⟨s0,s1,s2,s3,s4⟩,⟨y1,y2,y3,y4⟩⟩:=HSS.out.cells
   obtain⟨k0,k1,z1⟩:=HSS.out.rdr.cells
   rcases HCASE.out with⟨h5,b,r2,hb,hel⟩|⟨h6,b,hb,rfl⟩|⟨h4,h44,y,r2,hy,h59,hrr,rfl⟩|⟨h5,h6,h4,h59,hrr,rfl⟩
   ·exact absurd h5 (by decide)
   ·exact absurd h6 (by decide)
   ·exact absurd h4 (by decide)
   ·obtain⟨hb0,hbk,hek⟩:=ZR HV.out.1
    have hfx:=(Z0p hb0).2.2.2.2.1
    have HFX:=hdd hfx
    rcases Z0I HST.out with⟨hyes,-⟩|⟨-,rfl,hr0⟩
    ·exact absurd hyes (by decide)
    rw [if_neg (by decide)] at hr0
    have HP1:=HSS.out.rdr.put (at2:=at_+1) (by omega)
    rw [show((at_+1:Nat):Int)=(at_:Int)+1 by omega] at HP1
    have HS7:=hdd (HSS.out.call HP1.2 HP1.1)
    clear HP1
    go_upto_region 7 with fail
    clear k0 k1 z1
    clear s0 s1 s2 s3 s4 y1 y2 y3 y4
    generalize w6.setCell ⟨rb,1,none⟩ (.int .i64 ((at_:Int)+1))=w7 at HS7 ⊢
    obtain⟨⟨s0,s1,s2,s3,s4⟩,⟨y1,y2,y3,y4⟩⟩:=HS7.out.cells
    have hfx1:=HFX.out x (by simp)
    have HEC:=hdd (Z19 HS7.out.rdr (f:=f) (x:=x) (rest:=r1) (by rw [← hr0];exact HX.out))
    have hsb:=(gsI HS7.out.srow).1
    have htb:=(gsI HS7.out.trow).1
    have hsw:=HS7.out.size
    go_wp2_with fail
    refine HEC.out.mono ?_
    rintro e w11 ⟨cs,d,q,rfl,hxe,hrq,hdq,hpq,htq⟩
    obtain⟨ka,kc,rfl⟩:=Zj hxe
    clear s0 s1 s2 s3 s4 y1 y2 y3 y4
    have HS11:=hdd (HS7.out.call htq hrq)
    have HXE:=hdd (show ZG 12 (fun k=>w.heap.size≤k∧k≠sb∧k≠tb) w11 [.int .i64 x.op,.int .i64 x.n,.string x.name,.slice ka x.kids.length kc] x from(Z1 12).mono (fun k _ h=>by have h:w7.heap.size≤k:=h;exact⟨by omega,by omega,by omega⟩) (Zb6 hfx1 hxe))
    have HDQ:=hdd (aI hdq hpq)
    clear hxe hrq hdq hpq htq hsb htb hsw
    have HS12:=hdd (HS11.out.putOne HXE.out)
    obtain⟨⟨s0,s1,s2,s3,s4⟩,⟨y1,y2,y3,y4⟩⟩:=HS11.out.cells
    have hsb11:=(gsI HS11.out.srow).1
    go_upto_region 11 with fail
    clear hsb11
    clear s0 s1 s2 s3 s4 y1 y2 y3 y4
    generalize (w11.setCell ⟨sb,2,none⟩ (.slice (some ⟨w11.heap.size,0,none⟩) 1 1)).alloc (.cells #[.int .i64 x.op,.int .i64 x.n,.string x.name,.slice ka x.kids.length kc] 64)=w12 at HS12 ⊢
    obtain⟨⟨s0,s1,s2,s3,s4⟩,⟨y1,y2,y3,y4⟩⟩:=HS12.out.cells
    rw [← HDQ.out.1] at h59 hrr
    rw [List.tail_drop] at hrr
    have HWC2:=hdd (Z02 HS12.out.rdr (sgB 59) h59)
    have HRR:=hdd (show ws.drop (q+1)=rest∧at_<q+1 from⟨hrr.symm,by have:=HDQ.out.2;omega⟩)
    clear h59 hrr
    go_wp2_with fail
    refine HWC2.out.mono ?_
    rintro e w13 ⟨rfl,hr13,ht13⟩
    have HS13:=hdd (HS12.out.call ht13 hr13)
    clear s0 s1 s2 s3 s4 y1 y2 y3 y4
    clear hr13 ht13
    have hnmb:(⟨#[]⟩:ByteArray).size≤maxLen:=by unfold maxLen;exact Nat.zero_le _
    have HBD5:(⟨#[]⟩:ByteArray).size≤maxLen∧(-9223372036854775808:Int)≤3∧(3:Int)≤9223372036854775807∧[x].length≤100∧([]:List Zb).length≤100∧([]:List Zb).length≤100:=⟨hnmb,by omega,by omega,by simp,by simp,by simp⟩
    clear hnmb
    have HBD6:=hdd HBD5
    clear HBD5
    obtain⟨⟨s0,s1,s2,s3,s4⟩,-⟩:=HS13.out.cells
    obtain⟨⟨t0,t1,t2,t3,t4⟩,⟨x0,x1,x2,x3,x4⟩⟩:=HS13.out.tcells
    have HF:=hdd (HS13.out.fin (rest:=rest) (at0:=at_) HBD6.out HRR.out.1 HRR.out.2)
    go_wp2
    refine bodyPost_ret (results_cell_row rfl _ _ tb 48 (List.toArray [.int .i64 3,.string ⟨#[]⟩,.slice (some ⟨w11.heap.size,0,none⟩) 1 1,.slice none 0 0,.slice none 0 0]) (0,0) _ rfl ?_ Tryz.underlying48 rfl (by kernel_rfl)) rfl ?_
    ·exact HF.out.1
    ·exact HF.out.2
  ·obtain⟨⟨s0,s1,s2,s3,s4⟩,⟨y1,y2,y3,y4⟩⟩:=HSS.out.cells
   obtain⟨k0,k1,z1⟩:=HSS.out.rdr.cells
   rcases HCASE.out with⟨h5,b,r2,hb,hel⟩|⟨h6,b,hb,rfl⟩|⟨h4,h44,y,r2,hy,h59,hrr,rfl⟩|⟨h5,h6,h4,h59,hrr,rfl⟩
   ·exact absurd h5 (by decide)
   ·exact absurd h6 (by decide)
   ·obtain⟨hb0,hbk,hek⟩:=ZR HV.out.1
    have hfx:=(Z0p hb0).2.2.2.2.1
    have HFX:=hdd hfx
    rcases Z0I HST.out with⟨hyes,-⟩|⟨-,rfl,hr0⟩
    ·exact absurd hyes (by decide)
    rw [if_neg (by decide)] at hr0
    have HP1:=HSS.out.rdr.put (at2:=at_+1) (by omega)
    rw [show((at_+1:Nat):Int)=(at_:Int)+1 by omega] at HP1
    have HS7:=hdd (HSS.out.call HP1.2 HP1.1)
    clear HP1
    go_upto_region 7 with fail
    clear k0 k1 z1
    clear s0 s1 s2 s3 s4 y1 y2 y3 y4
    generalize w6.setCell ⟨rb,1,none⟩ (.int .i64 ((at_:Int)+1))=w7 at HS7 ⊢
    obtain⟨⟨s0,s1,s2,s3,s4⟩,⟨y1,y2,y3,y4⟩⟩:=HS7.out.cells
    have hfx1:=HFX.out x (by simp)
    have HEC:=hdd (Z19 HS7.out.rdr (f:=f) (x:=x) (rest:=r1) (by rw [← hr0];exact HX.out))
    have hsb:=(gsI HS7.out.srow).1
    have htb:=(gsI HS7.out.trow).1
    have hsw:=HS7.out.size
    go_wp2_with fail
    refine HEC.out.mono ?_
    rintro e w11 ⟨cs,d,q,rfl,hxe,hrq,hdq,hpq,htq⟩
    obtain⟨ka,kc,rfl⟩:=Zj hxe
    clear s0 s1 s2 s3 s4 y1 y2 y3 y4
    have HS11:=hdd (HS7.out.call htq hrq)
    have HXE:=hdd (show ZG 12 (fun k=>w.heap.size≤k∧k≠sb∧k≠tb) w11 [.int .i64 x.op,.int .i64 x.n,.string x.name,.slice ka x.kids.length kc] x from(Z1 12).mono (fun k _ h=>by have h:w7.heap.size≤k:=h;exact⟨by omega,by omega,by omega⟩) (Zb6 hfx1 hxe))
    have HDQ:=hdd (aI hdq hpq)
    clear hxe hrq hdq hpq htq hsb htb hsw
    have HS12:=hdd (HS11.out.putOne HXE.out)
    obtain⟨⟨s0,s1,s2,s3,s4⟩,⟨y1,y2,y3,y4⟩⟩:=HS11.out.cells
    have hsb11:=(gsI HS11.out.srow).1
    go_upto_region 11 with fail
    clear hsb11
    clear s0 s1 s2 s3 s4 y1 y2 y3 y4
    have HG12:=hdd (HS11.out.oneG HXE.out)
    generalize (w11.setCell ⟨sb,2,none⟩ (.slice (some ⟨w11.heap.size,0,none⟩) 1 1)).alloc (.cells #[.int .i64 x.op,.int .i64 x.n,.string x.name,.slice ka x.kids.length kc] 64)=w12 at HS12 HG12 ⊢
    have hgb:=HS11.out.size
    have hg1:=(gsI HS11.out.srow).1
    have hg2:=(gsI HS11.out.trow).1
    have hg3:=HS12.out.blocks
    obtain⟨g,hgg⟩:∃n,n=w11.heap.size:=⟨_,rfl⟩
    have HGB:=hdd (show w.heap.size≤g∧g≠sb∧g≠tb∧g≠rb∧g<w12.heap.size∧sb<g∧tb<g from by
     have h1:w11.heap.size<w12.heap.size:=by
      obtain⟨b,off,e1,_,e3⟩:=HG12.out.list (Z1 12) |>.blk (by simp)
      cases e1
      exact e3
     exact⟨by omega,by omega,by omega,by omega,by omega,by omega,by omega⟩)
    rw [← hgg] at HS12 HG12
    clear hgg hgb hg1 hg2 hg3
    obtain⟨⟨s0,s1,s2,s3,s4⟩,⟨y1,y2,y3,y4⟩⟩:=HS12.out.cells
    rw [← HDQ.out.1] at h44 hy
    rw [List.tail_drop] at hy
    have HWC2:=hdd (Z02 HS12.out.rdr (sgB 44) h44)
    have HY:=hdd hy
    have HRW:=hdd (aI h59 hrr)
    have hfy1:=HFX.out y (by simp)
    have HFY:=hdd hfy1
    clear h44 hy h59 hrr hfy1
    go_wp2_with fail
    refine HWC2.out.mono ?_
    rintro e w13 ⟨rfl,hr13,ht13⟩
    have HS13:=hdd (HS12.out.call ht13 hr13)
    have HG13:=hdd (HG12.out.turned (Z1 12) (T:=fun k=>k=rb∨w12.heap.size≤k) ht13 (fun k h1 h2=>by simp only [Value.ownBlock,Option.some.injEq] at h1;have:=HGB.out;rcases h2 with h2|h2<;>omega) (fun k h1 h2 h3=>by have:=HS12.out.blocks;have h2:w.heap.size≤k∧k≠sb∧k≠tb:=h2;rcases h3 with h3|h3<;>omega))
    have HSZ:=hdd (show g<w13.heap.size from Nat.lt_of_lt_of_le HGB.out.2.2.2.2.1 (Ze.size (S:=fun k=>k=rb∨w12.heap.size≤k) ht13))
    clear s0 s1 s2 s3 s4 y1 y2 y3 y4
    clear hr13 ht13
    go_upto_region 23 with fail
    have HS13b:=hdd (HS13.out.call (Zd.below (bRf w13.heap.size w13).drew) (HS13.out.rdr.later (bRf w13.heap.size w13).drew))
    have HG13b:=hdd (HG13.out.below (Z1 12) (bRf w13.heap.size w13).drew)
    have HSZb:=hdd (show g<w13.drew.heap.size from HSZ.out)
    clear HS13 HG13 HSZ
    refine Zw (S:=fun W:World=>W.cell? ⟨sb,2,none⟩=some (.slice (some ⟨g,0,none⟩) 1 1)) (by kernel_rfl) ?_
    generalize w13.drew=wd at HS13b HG13b HSZb ⊢
    have HS13:=HS13b
    have HG13:=HG13b
    have HSZ:=HSZb
    clear HS13b HG13b HSZb
    have HEY:=hdd (Z19 HS13.out.rdr (f:=f) (x:=y) (rest:=r2) HY.out)
    have hHeld:(fun W:World=>W.cell? ⟨sb,2,none⟩=some (.slice (some ⟨g,0,none⟩) 1 1)) wd:=HS13.out.cells.1.2.2.1
    refine tkL 1 0 (some 84) hHeld ?_
    (try simp only [Act.put,pu1,pu2,pu3])
    refine tkL 5 1 (some 85) hHeld ?_
    (try simp only [Act.put,pu1,pu2,pu3])
    refine tkL 3 2 (some 86) hHeld ?_
    (try simp only [Act.put,pu1,pu2,pu3])
    refine Z06 3 (some 87) fun K hK=>?_
    go_simp
    go_at_call 110
    refine HEY.out.mono ?_
    rintro e w14 ⟨cs2,d2,q2,rfl,hye,hrq2,hdq2,hpq2,htq2⟩
    obtain⟨ya,yc,rfl⟩:=Zj hye
    have HS14:=hdd (HS13.out.call htq2 hrq2)
    have HG14:=hdd (HG13.out.turned (Z1 12) (T:=fun k=>k=rb∨wd.heap.size≤k) htq2 (fun k h1 h2=>by simp only [Value.ownBlock,Option.some.injEq] at h1;have:=HGB.out;have:=HSZ.out;rcases h2 with h2|h2<;>omega) (fun k h1 h2 h3=>by have:=HS12.out.blocks;have h2:w.heap.size≤k∧k≠sb∧k≠tb:=h2;rcases h3 with h3|h3<;>omega))
    have HYE:=hdd (show ZG 12 (fun k=>wd.heap.size≤k) w14 [.int .i64 y.op,.int .i64 y.n,.string y.name,.slice ya y.kids.length yc] y from Zb6 HFY.out hye)
    have HQ2:=hdd (aI hdq2 hpq2)
    clear hye hrq2 hdq2 hpq2 htq2
    refine kpL hK (HS14.out.cells.1.2.2.1) ?_
    clear hK K hHeld;intro hHeld
    (try simp only [Act.put,pu1,pu2,pu3])
    refine Z06 4 (some 88) fun K hK=>?_
    go_simp
    have hb15:Below w14.heap.size w14 (w14.alloc (.cells (List.toArray [.int .i64 y.op,.int .i64 y.n,.string y.name,.slice ya y.kids.length yc]) 64)):=(bRf _ _).alloc (Nat.le_refl _) _
    have HS15:=hdd (HS14.out.call (Zd.below hb15) (HS14.out.rdr.later hb15))
    have HG15:=hdd (HG14.out.below (Z1 12) hb15)
    have HYE15:=hdd ((Z1 12).below hb15 HYE.out)
    have HRO:=hdd (Zc w14 [.int .i64 y.op,.int .i64 y.n,.string y.name,.slice ya y.kids.length yc] 64)
    clear hb15
    generalize w14.alloc (.cells (List.toArray [.int .i64 y.op,.int .i64 y.n,.string y.name,.slice ya y.kids.length yc]) 64)=w15 at HS15 HG15 HYE15 HRO ⊢
    refine kpL hK (HS15.out.cells.1.2.2.1) ?_
    clear hK K hHeld;intro hHeld
    (try simp only [Act.put,pu1,pu2,pu3])
    refine Z06 5 (some 89) fun K hK=>?_
    obtain⟨cells,hrows⟩:=HG15.out.rows
    refine Z21 rfl (.tmp 85) (.tmp 88) rfl g (.slice (some ⟨g,0,none⟩) 1 1) 1 _ rfl hrows.1 _ 1 [.int .i64 y.op,.int .i64 y.n,.string y.name,.slice ya y.kids.length yc] rfl HRO.out rfl Z1T (by omega) (Nat.le_of_lt (hrows.1.lt g rfl).2) ?_
    intro a9 c9 w16 hown9 hg9 hlies9
    have hP:=hrows.push (Z1 12) rfl ((Z1 12).mono (fun k _ h=>⟨⟨by have h:wd.heap.size≤k:=h;have:=HS13.out.size;omega,by have h:wd.heap.size≤k:=h;have:=(gsI HS13.out.srow).1;omega,by have h:wd.heap.size≤k:=h;have:=(gsI HS13.out.trow).1;omega⟩,fun e=>by have h:wd.heap.size≤k:=h;simp only [Value.ownBlock,Option.some.injEq] at e;have:=HSZ.out;omega⟩) HYE15.out) hown9 hg9 hlies9
    have HP:=hdd (HS15.out.grow (ac2:=c9) (Zi hg9 (fun k hk=>hk)) ⟨HGB.out.1,HGB.out.2.1,HGB.out.2.2.1⟩ (args2:=[x,y]) ((hP.list (Z1 12)).mono (Z1 12) (fun k _ h=>h.elim id (fun h=>by have h:g≤k:=h;have:=HGB.out;exact⟨by omega,by omega,by omega⟩))))
    clear hP hrows hown9 hg9 hlies9
    refine kpL hK ((coR _ _ 2 _ _ _ (HP.out.1.trans HS15.out.srow)).trans rfl) ?_
    clear hK K hHeld;intro hHeld
    (try simp only [Act.put,pu1,pu2,pu3])
    refine tkL 7 6 (some 90) hHeld ?_
    (try simp only [Act.put,pu1,pu2,pu3])
    refine Z06 7 none fun K hK=>?_
    have hr16:=HP.out.1.trans HS15.out.srow
    have k2:=coR _ _ 2 _ _ _ hr16
    have z2:=frR _ _ 2 _ _ hr16
    simp only [ga0,ga1,ga2] at k2
    go_simp
    clear k2 z2 hr16
    refine hK.out _ _ (Z15 (by kernel_rfl)) ?_
    clear hK K hHeld
    (try simp only [Act.put,pu1,pu2,pu3])
    refine Zq (by kernel_rfl) ?_ _
    clear HS13 HG13 HS14 HG14 HS15 HG15 HYE15 HRO HYE HS12 HG12
    have HS16:=hdd HP.out.2
    clear HP
    generalize w16.setCell ⟨sb,2,none⟩ (.slice a9 [x,y].length c9)=w17 at HS16 ⊢
    have h59:=HRW.out.1
    have hrr:=HRW.out.2
    rw [← HQ2.out.1] at h59 hrr
    rw [List.tail_drop] at hrr
    have HWC4:=hdd (Z02 HS16.out.rdr (sgB 59) h59)
    have HRR:=hdd (show ws.drop (q2+1)=rest∧at_<q2+1 from⟨hrr.symm,by have:=HDQ.out.2;have:=HQ2.out.2;omega⟩)
    clear h59 hrr
    obtain⟨⟨s0,s1,s2,s3,s4⟩,⟨y1,y2,y3,y4⟩⟩:=HS16.out.cells
    go_wp2_with fail
    refine HWC4.out.mono ?_
    rintro e w18 ⟨rfl,hr18,ht18⟩
    have HS18:=hdd (HS16.out.call ht18 hr18)
    clear s0 s1 s2 s3 s4 y1 y2 y3 y4
    clear hr18 ht18
    have HBD6:=hdd (show(⟨#[]⟩:ByteArray).size≤maxLen∧(-9223372036854775808:Int)≤4∧(4:Int)≤9223372036854775807∧[x,y].length≤100∧([]:List Zb).length≤100∧([]:List Zb).length≤100 from⟨Nat.zero_le _,by omega,by omega,by simp,by simp,by simp⟩)
    obtain⟨⟨s0,s1,s2,s3,s4⟩,-⟩:=HS18.out.cells
    obtain⟨⟨t0,t1,t2,t3,t4⟩,⟨x0,x1,x2,x3,x4⟩⟩:=HS18.out.tcells
    have HF:=hdd (HS18.out.fin (rest:=rest) (at0:=at_) HBD6.out HRR.out.1 HRR.out.2)
    go_wp2
    refine bodyPost_ret (results_cell_row rfl _ _ tb 48 (List.toArray [.int .i64 4,.string ⟨#[]⟩,.slice a9 2 c9,.slice none 0 0,.slice none 0 0]) (0,0) _ rfl ?_ Tryz.underlying48 rfl (by kernel_rfl)) rfl ?_
    ·exact HF.out.1
    ·exact HF.out.2
   ·exact absurd rfl h4
  ·obtain⟨⟨s0,s1,s2,s3,s4⟩,⟨y1,y2,y3,y4⟩⟩:=HSS.out.cells
   obtain⟨k0,k1,z1⟩:=HSS.out.rdr.cells
   rcases HCASE.out with⟨h5,b,r2,hb,hel⟩|⟨h6,b,hb,rfl⟩|⟨h4,h44,y,r2,hy,h59,hrr,rfl⟩|⟨h5,h6,h4,h59,hrr,rfl⟩
   ·rcases Z0I HST.out with⟨hyes,-⟩|⟨-,rfl,hr0⟩
    ·exact absurd hyes (by decide)
    rw [if_neg (by decide)] at hr0
    have HP1:=HSS.out.rdr.put (at2:=at_+1) (by omega)
    rw [show((at_+1:Nat):Int)=(at_:Int)+1 by omega] at HP1
    have HS7:=hdd (HSS.out.call HP1.2 HP1.1)
    clear HP1
    go_upto_region 7 with fail
    clear k0 k1 z1
    clear s0 s1 s2 s3 s4 y1 y2 y3 y4
    generalize w6.setCell ⟨rb,1,none⟩ (.int .i64 ((at_:Int)+1))=w7 at HS7 ⊢
    obtain⟨⟨s0,s1,s2,s3,s4⟩,⟨y1,y2,y3,y4⟩⟩:=HS7.out.cells
    have hfx1:Z05 6 x=true:=by
     rcases hel with⟨_,c,_,rfl⟩|⟨_,_,rfl⟩<;>exact(Z0p (ZR HV.out.1).1).2.2.2.2.1 x (by simp)
    have HEC:=hdd (Z19 HS7.out.rdr (f:=f) (x:=x) (rest:=r1) (by rw [← hr0];exact HX.out))
    have hsb:=(gsI HS7.out.srow).1
    have htb:=(gsI HS7.out.trow).1
    have hsw:=HS7.out.size
    go_wp2_with fail
    refine HEC.out.mono ?_
    rintro e w11 ⟨cs,d,q,rfl,hxe,hrq,hdq,hpq,htq⟩
    obtain⟨ka,kc,rfl⟩:=Zj hxe
    clear s0 s1 s2 s3 s4 y1 y2 y3 y4
    have HS11:=hdd (HS7.out.call htq hrq)
    have HXE:=hdd (show ZG 12 (fun k=>w.heap.size≤k∧k≠sb∧k≠tb) w11 [.int .i64 x.op,.int .i64 x.n,.string x.name,.slice ka x.kids.length kc] x from(Z1 12).mono (fun k _ h=>by have h:w7.heap.size≤k:=h;exact⟨by omega,by omega,by omega⟩) (Zb6 hfx1 hxe))
    have HDQ:=hdd (aI hdq hpq)
    clear hxe hrq hdq hpq htq hsb htb hsw
    have HS12:=hdd (HS11.out.putOne HXE.out)
    obtain⟨⟨s0,s1,s2,s3,s4⟩,⟨y1,y2,y3,y4⟩⟩:=HS11.out.cells
    have hsb11:=(gsI HS11.out.srow).1
    go_upto_region 11 with fail
    clear hsb11
    clear s0 s1 s2 s3 s4 y1 y2 y3 y4
    generalize (w11.setCell ⟨sb,2,none⟩ (.slice (some ⟨w11.heap.size,0,none⟩) 1 1)).alloc (.cells #[.int .i64 x.op,.int .i64 x.n,.string x.name,.slice ka x.kids.length kc] 64)=w12 at HS12 ⊢
    obtain⟨⟨s0,s1,s2,s3,s4⟩,⟨y1,y2,y3,y4⟩⟩:=HS12.out.cells
    rw [← HDQ.out.1] at hb
    have hbv:(∀k∈b,ZH dd k=true)∧ZY (Z07 dd) b≤40:=by
     rcases hel with⟨_,c,_,rfl⟩|⟨_,_,rfl⟩
     ·refine⟨fun k hk=>(ZR HV.out.1).2.1 k hk,?_⟩
      have h1:=HV.out.2
      have h2:Z07 (dd+1) (.mk 5 ⟨#[]⟩ [x] b c)=1+ZY (Z07 dd) b+ZY (Z07 dd) c:=rfl
      omega
     ·refine⟨fun k hk=>(ZR HV.out.1).2.1 k hk,?_⟩
      have h1:=HV.out.2
      have h2:Z07 (dd+1) (.mk 5 ⟨#[]⟩ [x] b [])=1+ZY (Z07 dd) b+ZY (Z07 dd) []:=rfl
      omega
    have HBL:=hdd (HBC.out w12 rb _ lc ws q b r2 HS12.out.rdr hb hbv.1 hbv.2)
    have HLN:=hdd (show b.length≤40 from Z6c hbv.1 hbv.2)
    have hsb:=(gsI HS12.out.srow).1
    have htb:=(gsI HS12.out.trow).1
    have hsw:=HS12.out.size
    clear hb hbv
    go_wp2_with fail
    refine HBL.out.mono ?_
    rintro e w13 ⟨ba,bc,q2,rfl,hbl,hr13,hd13,hq13,ht13⟩
    have HS13:=hdd (HS12.out.call ht13 hr13)
    have HBB:=hdd (hbl.mono (Z0 dd) (S':=fun k=>w.heap.size≤k∧k≠sb∧k≠tb) (fun k _ h=>by have h:w12.heap.size≤k:=h;exact⟨by omega,by omega,by omega⟩))
    have HS14:=hdd (HS13.out.putBody (bc2:=bc) HBB.out)
    have HD13:=hdd (show ws.drop q2=r2∧at_<q2 from⟨hd13,by have:=HDQ.out.2;omega⟩)
    clear s0 s1 s2 s3 s4 y1 y2 y3 y4
    clear hbl hr13 hd13 hq13 ht13 hsb htb hsw
    obtain⟨⟨s0,s1,s2,s3,s4⟩,⟨y1,y2,y3,y4⟩⟩:=HS13.out.cells
    go_upto_region 14 with fail
    clear s0 s1 s2 s3 s4 y1 y2 y3 y4
    generalize w13.setCell ⟨sb,3,none⟩ (.slice ba b.length bc)=w14 at HS14 ⊢
    rcases hel with⟨he,c,hc,rfl⟩|⟨he,rfl,rfl⟩
    ·rw [← HD13.out.1] at he hc
     rw [List.tail_drop] at hc
     have he2:Zp (ws.drop q2) ⟨#[101,108,115,101]⟩=true:=he
     have HIE:=hdd (Z2L HS14.out.rdr _ he2)
     have hcv:(∀k∈c,ZH dd k=true)∧ZY (Z07 dd) c≤40:=by
      refine⟨fun k hk=>(ZR HV.out.1).2.2 k hk,?_⟩
      have h1:=HV.out.2
      have h2:Z07 (dd+1) (.mk 5 ⟨#[]⟩ [x] b c)=1+ZY (Z07 dd) b+ZY (Z07 dd) c:=rfl
      omega
     have HCV:=hdd hcv
     have HHC:=hdd hc
     have HHE:=hdd he2
     clear hcv hc he he2
     go_wp2_with fail
     refine HIE.out.mono ?_
     rintro e w15 ⟨rfl,hb15⟩
     have HS15:=hdd (HS14.out.call (Zd.below hb15) (HS14.out.rdr.later hb15))
     clear hb15
     have HWE:=hdd (Z02 HS15.out.rdr _ HHE.out)
     go_wp2_with fail
     refine HWE.out.mono ?_
     rintro e w16 ⟨rfl,hr16,ht16⟩
     have HS16:=hdd (HS15.out.call ht16 hr16)
     clear hr16 ht16
     have HBE:=hdd (HBC.out w16 rb _ lc ws (q2+1) c rest HS16.out.rdr HHC.out HCV.out.1 HCV.out.2)
     have HLC:=hdd (show c.length≤40 from Z6c HCV.out.1 HCV.out.2)
     have hsb:=(gsI HS16.out.srow).1
     have htb:=(gsI HS16.out.trow).1
     have hsw:=HS16.out.size
     go_wp2_with fail
     refine HBE.out.mono ?_
     rintro e w17 ⟨ca,cc,q3,rfl,hcl,hr17,hd17,hq17,ht17⟩
     have HS17:=hdd (HS16.out.call ht17 hr17)
     have HCC:=hdd (hcl.mono (Z0 dd) (S':=fun k=>w.heap.size≤k∧k≠sb∧k≠tb) (fun k _ h=>by have h:w16.heap.size≤k:=h;exact⟨by omega,by omega,by omega⟩))
     have HS18:=hdd (HS17.out.putEls (ec2:=cc) HCC.out)
     have HRR:=hdd (show ws.drop q3=rest∧at_<q3 from⟨hd17,by have:=HD13.out.2;omega⟩)
     clear hcl hr17 hd17 hq17 ht17 hsb htb hsw
     obtain⟨⟨s0,s1,s2,s3,s4⟩,⟨y1,y2,y3,y4⟩⟩:=HS17.out.cells
     go_upto_region 17 with fail
     clear s0 s1 s2 s3 s4 y1 y2 y3 y4
     generalize w17.setCell ⟨sb,4,none⟩ (.slice ca c.length cc)=w18 at HS18 ⊢
     have HBD6:=hdd (show(⟨#[]⟩:ByteArray).size≤maxLen∧(-9223372036854775808:Int)≤5∧(5:Int)≤9223372036854775807∧[x].length≤100∧b.length≤100∧c.length≤100 from⟨Nat.zero_le _,by omega,by omega,by simp,by have:=HLN.out;omega,by have:=HLC.out;omega⟩)
     obtain⟨⟨s0,s1,s2,s3,s4⟩,-⟩:=HS18.out.cells
     obtain⟨⟨t0,t1,t2,t3,t4⟩,⟨x0,x1,x2,x3,x4⟩⟩:=HS18.out.tcells
     have HF:=hdd (HS18.out.fin (rest:=rest) (at0:=at_) HBD6.out HRR.out.1 HRR.out.2)
     go_wp2
     refine bodyPost_ret (results_cell_row rfl _ _ tb 48 (List.toArray [.int .i64 5,.string ⟨#[]⟩,.slice (some ⟨w11.heap.size,0,none⟩) 1 1,.slice ba b.length bc,.slice ca c.length cc]) (0,0) _ rfl ?_ Tryz.underlying48 rfl (by kernel_rfl)) rfl ?_
     ·exact HF.out.1
     ·exact HF.out.2
    ·rw [← HD13.out.1] at he
     have he2:Zp (ws.drop q2) ⟨#[101,108,115,101]⟩=false:=he
     have HIE:=hdd (Z2L HS14.out.rdr _ he2)
     clear he he2
     go_wp2_with fail
     refine HIE.out.mono ?_
     rintro e w15 ⟨rfl,hb15⟩
     have HS15:=hdd (HS14.out.call (Zd.below hb15) (HS14.out.rdr.later hb15))
     clear hb15
     have HRR:=hdd (show ws.drop q2=rest∧at_<q2 from⟨HD13.out.1,HD13.out.2⟩)
     have HBD6:=hdd (show(⟨#[]⟩:ByteArray).size≤maxLen∧(-9223372036854775808:Int)≤5∧(5:Int)≤9223372036854775807∧[x].length≤100∧b.length≤100∧([]:List Zb).length≤100 from⟨Nat.zero_le _,by omega,by omega,by simp,by have:=HLN.out;omega,by simp⟩)
     obtain⟨⟨s0,s1,s2,s3,s4⟩,-⟩:=HS15.out.cells
     obtain⟨⟨t0,t1,t2,t3,t4⟩,⟨x0,x1,x2,x3,x4⟩⟩:=HS15.out.tcells
     have HF:=hdd (HS15.out.fin (rest:=rest) (at0:=at_) HBD6.out HRR.out.1 HRR.out.2)
     go_wp2
     refine bodyPost_ret (results_cell_row rfl _ _ tb 48 (List.toArray [.int .i64 5,.string ⟨#[]⟩,.slice (some ⟨w11.heap.size,0,none⟩) 1 1,.slice ba b.length bc,.slice none 0 0]) (0,0) _ rfl ?_ Tryz.underlying48 rfl (by kernel_rfl)) rfl ?_
     ·exact HF.out.1
     ·exact HF.out.2
   ·exact absurd h6 (by decide)
   ·exact absurd h4 (by decide)
   ·exact absurd rfl h5
  ·obtain⟨⟨s0,s1,s2,s3,s4⟩,⟨y1,y2,y3,y4⟩⟩:=HSS.out.cells
   obtain⟨k0,k1,z1⟩:=HSS.out.rdr.cells
   rcases HCASE.out with⟨h5,b,r2,hb,hel⟩|⟨h6,b,hb,rfl⟩|⟨h4,h44,y,r2,hy,h59,hrr,rfl⟩|⟨h5,h6,h4,h59,hrr,rfl⟩
   ·exact absurd h5 (by decide)
   ·obtain⟨hb0,hbk,hek⟩:=ZR HV.out.1
    have hfx:=(Z0p hb0).2.2.2.2.1
    have HFX:=hdd hfx
    rcases Z0I HST.out with⟨hyes,-⟩|⟨-,rfl,hr0⟩
    ·exact absurd hyes (by decide)
    rw [if_neg (by decide)] at hr0
    have HP1:=HSS.out.rdr.put (at2:=at_+1) (by omega)
    rw [show((at_+1:Nat):Int)=(at_:Int)+1 by omega] at HP1
    have HS7:=hdd (HSS.out.call HP1.2 HP1.1)
    clear HP1
    go_upto_region 7 with fail
    clear k0 k1 z1
    clear s0 s1 s2 s3 s4 y1 y2 y3 y4
    generalize w6.setCell ⟨rb,1,none⟩ (.int .i64 ((at_:Int)+1))=w7 at HS7 ⊢
    obtain⟨⟨s0,s1,s2,s3,s4⟩,⟨y1,y2,y3,y4⟩⟩:=HS7.out.cells
    have hfx1:=HFX.out x (by simp)
    have HEC:=hdd (Z19 HS7.out.rdr (f:=f) (x:=x) (rest:=r1) (by rw [← hr0];exact HX.out))
    have hsb:=(gsI HS7.out.srow).1
    have htb:=(gsI HS7.out.trow).1
    have hsw:=HS7.out.size
    go_wp2_with fail
    refine HEC.out.mono ?_
    rintro e w11 ⟨cs,d,q,rfl,hxe,hrq,hdq,hpq,htq⟩
    obtain⟨ka,kc,rfl⟩:=Zj hxe
    clear s0 s1 s2 s3 s4 y1 y2 y3 y4
    have HS11:=hdd (HS7.out.call htq hrq)
    have HXE:=hdd (show ZG 12 (fun k=>w.heap.size≤k∧k≠sb∧k≠tb) w11 [.int .i64 x.op,.int .i64 x.n,.string x.name,.slice ka x.kids.length kc] x from(Z1 12).mono (fun k _ h=>by have h:w7.heap.size≤k:=h;exact⟨by omega,by omega,by omega⟩) (Zb6 hfx1 hxe))
    have HDQ:=hdd (aI hdq hpq)
    clear hxe hrq hdq hpq htq hsb htb hsw
    have HS12:=hdd (HS11.out.putOne HXE.out)
    obtain⟨⟨s0,s1,s2,s3,s4⟩,⟨y1,y2,y3,y4⟩⟩:=HS11.out.cells
    have hsb11:=(gsI HS11.out.srow).1
    go_upto_region 11 with fail
    clear hsb11
    clear s0 s1 s2 s3 s4 y1 y2 y3 y4
    generalize (w11.setCell ⟨sb,2,none⟩ (.slice (some ⟨w11.heap.size,0,none⟩) 1 1)).alloc (.cells #[.int .i64 x.op,.int .i64 x.n,.string x.name,.slice ka x.kids.length kc] 64)=w12 at HS12 ⊢
    obtain⟨⟨s0,s1,s2,s3,s4⟩,⟨y1,y2,y3,y4⟩⟩:=HS12.out.cells
    rw [← HDQ.out.1] at hb
    have hcnt:ZY (Z07 dd) b≤40:=by
     have h1:=HV.out.2
     have h2:Z07 (dd+1) (.mk 6 ⟨#[]⟩ [x] b [])=1+ZY (Z07 dd) b+ZY (Z07 dd) []:=rfl
     omega
    have HBL:=hdd (HBC.out w12 rb _ lc ws q b rest HS12.out.rdr hb (fun k hk=>hbk k hk) hcnt)
    have HLN:=hdd (show b.length≤40 from Z6c (fun k hk=>hbk k hk) hcnt)
    have hsb:=(gsI HS12.out.srow).1
    have htb:=(gsI HS12.out.trow).1
    have hsw:=HS12.out.size
    clear hb
    go_wp2_with fail
    refine HBL.out.mono ?_
    rintro e w13 ⟨ba,bc,q2,rfl,hbl,hr13,hd13,hq13,ht13⟩
    have HS13:=hdd (HS12.out.call ht13 hr13)
    have HBB:=hdd (hbl.mono (Z0 dd) (S':=fun k=>w.heap.size≤k∧k≠sb∧k≠tb) (fun k _ h=>by have h:w12.heap.size≤k:=h;exact⟨by omega,by omega,by omega⟩))
    have HS14:=hdd (HS13.out.putBody (bc2:=bc) HBB.out)
    have HRR:=hdd (show ws.drop q2=rest∧at_<q2 from⟨hd13,by have:=HDQ.out.2;omega⟩)
    clear s0 s1 s2 s3 s4 y1 y2 y3 y4
    clear hbl hr13 hd13 hq13 ht13 hsb htb hsw
    obtain⟨⟨s0,s1,s2,s3,s4⟩,⟨y1,y2,y3,y4⟩⟩:=HS13.out.cells
    go_upto_region 20 with fail
    clear s0 s1 s2 s3 s4 y1 y2 y3 y4
    generalize w13.setCell ⟨sb,3,none⟩ (.slice ba b.length bc)=w14 at HS14 ⊢
    have HBD6:=hdd (show(⟨#[]⟩:ByteArray).size≤maxLen∧(-9223372036854775808:Int)≤6∧(6:Int)≤9223372036854775807∧[x].length≤100∧b.length≤100∧([]:List Zb).length≤100 from⟨Nat.zero_le _,by omega,by omega,by simp,by have:=HLN.out;omega,by simp⟩)
    obtain⟨⟨s0,s1,s2,s3,s4⟩,-⟩:=HS14.out.cells
    obtain⟨⟨t0,t1,t2,t3,t4⟩,⟨x0,x1,x2,x3,x4⟩⟩:=HS14.out.tcells
    have HF:=hdd (HS14.out.fin (rest:=rest) (at0:=at_) HBD6.out HRR.out.1 HRR.out.2)
    go_wp2
    refine bodyPost_ret (results_cell_row rfl _ _ tb 48 (List.toArray [.int .i64 6,.string ⟨#[]⟩,.slice (some ⟨w11.heap.size,0,none⟩) 1 1,.slice ba b.length bc,.slice none 0 0]) (0,0) _ rfl ?_ Tryz.underlying48 rfl (by kernel_rfl)) rfl ?_
    ·exact HF.out.1
    ·exact HF.out.2
   ·exact absurd h4 (by decide)
   ·exact absurd rfl h6
  ·obtain⟨⟨s0,s1,s2,s3,s4⟩,⟨y1,y2,y3,y4⟩⟩:=HSS.out.cells
   obtain⟨k0,k1,z1⟩:=HSS.out.rdr.cells
   rcases HCASE.out with⟨h5,b,r2,hb,hel⟩|⟨h6,b,hb,rfl⟩|⟨h4,h44,y,r2,hy,h59,hrr,rfl⟩|⟨h5,h6,h4,h59,hrr,rfl⟩
   ·exact absurd h5 (by decide)
   ·exact absurd h6 (by decide)
   ·exact absurd h4 (by decide)
   ·obtain⟨hb0,hbk,hek⟩:=ZR HV.out.1
    have hfx:=(Z0p hb0).2.2.2.2.1
    have HFX:=hdd hfx
    rcases Z0I HST.out with⟨hyes,-⟩|⟨-,rfl,hr0⟩
    ·exact absurd hyes (by decide)
    rw [if_neg (by decide)] at hr0
    have HP1:=HSS.out.rdr.put (at2:=at_+1) (by omega)
    rw [show((at_+1:Nat):Int)=(at_:Int)+1 by omega] at HP1
    have HS7:=hdd (HSS.out.call HP1.2 HP1.1)
    clear HP1
    go_upto_region 7 with fail
    clear k0 k1 z1
    clear s0 s1 s2 s3 s4 y1 y2 y3 y4
    generalize w6.setCell ⟨rb,1,none⟩ (.int .i64 ((at_:Int)+1))=w7 at HS7 ⊢
    obtain⟨⟨s0,s1,s2,s3,s4⟩,⟨y1,y2,y3,y4⟩⟩:=HS7.out.cells
    have hfx1:=HFX.out x (by simp)
    have HEC:=hdd (Z19 HS7.out.rdr (f:=f) (x:=x) (rest:=r1) (by rw [← hr0];exact HX.out))
    have hsb:=(gsI HS7.out.srow).1
    have htb:=(gsI HS7.out.trow).1
    have hsw:=HS7.out.size
    go_wp2_with fail
    refine HEC.out.mono ?_
    rintro e w11 ⟨cs,d,q,rfl,hxe,hrq,hdq,hpq,htq⟩
    obtain⟨ka,kc,rfl⟩:=Zj hxe
    clear s0 s1 s2 s3 s4 y1 y2 y3 y4
    have HS11:=hdd (HS7.out.call htq hrq)
    have HXE:=hdd (show ZG 12 (fun k=>w.heap.size≤k∧k≠sb∧k≠tb) w11 [.int .i64 x.op,.int .i64 x.n,.string x.name,.slice ka x.kids.length kc] x from(Z1 12).mono (fun k _ h=>by have h:w7.heap.size≤k:=h;exact⟨by omega,by omega,by omega⟩) (Zb6 hfx1 hxe))
    have HDQ:=hdd (aI hdq hpq)
    clear hxe hrq hdq hpq htq hsb htb hsw
    have HS12:=hdd (HS11.out.putOne HXE.out)
    obtain⟨⟨s0,s1,s2,s3,s4⟩,⟨y1,y2,y3,y4⟩⟩:=HS11.out.cells
    have hsb11:=(gsI HS11.out.srow).1
    go_upto_region 11 with fail
    clear hsb11
    clear s0 s1 s2 s3 s4 y1 y2 y3 y4
    generalize (w11.setCell ⟨sb,2,none⟩ (.slice (some ⟨w11.heap.size,0,none⟩) 1 1)).alloc (.cells #[.int .i64 x.op,.int .i64 x.n,.string x.name,.slice ka x.kids.length kc] 64)=w12 at HS12 ⊢
    obtain⟨⟨s0,s1,s2,s3,s4⟩,⟨y1,y2,y3,y4⟩⟩:=HS12.out.cells
    rw [← HDQ.out.1] at h59 hrr
    rw [List.tail_drop] at hrr
    have HWC2:=hdd (Z02 HS12.out.rdr (sgB 59) h59)
    have HRR:=hdd (show ws.drop (q+1)=rest∧at_<q+1 from⟨hrr.symm,by have:=HDQ.out.2;omega⟩)
    clear h59 hrr
    go_wp2_with fail
    refine HWC2.out.mono ?_
    rintro e w13 ⟨rfl,hr13,ht13⟩
    have HS13:=hdd (HS12.out.call ht13 hr13)
    clear s0 s1 s2 s3 s4 y1 y2 y3 y4
    clear hr13 ht13
    have hnmb:(⟨#[]⟩:ByteArray).size≤maxLen:=by unfold maxLen;exact Nat.zero_le _
    have HBD5:(⟨#[]⟩:ByteArray).size≤maxLen∧(-9223372036854775808:Int)≤7∧(7:Int)≤9223372036854775807∧[x].length≤100∧([]:List Zb).length≤100∧([]:List Zb).length≤100:=⟨hnmb,by omega,by omega,by simp,by simp,by simp⟩
    clear hnmb
    have HBD6:=hdd HBD5
    clear HBD5
    obtain⟨⟨s0,s1,s2,s3,s4⟩,-⟩:=HS13.out.cells
    obtain⟨⟨t0,t1,t2,t3,t4⟩,⟨x0,x1,x2,x3,x4⟩⟩:=HS13.out.tcells
    have HF:=hdd (HS13.out.fin (rest:=rest) (at0:=at_) HBD6.out HRR.out.1 HRR.out.2)
    go_wp2
    refine bodyPost_ret (results_cell_row rfl _ _ tb 48 (List.toArray [.int .i64 7,.string ⟨#[]⟩,.slice (some ⟨w11.heap.size,0,none⟩) 1 1,.slice none 0 0,.slice none 0 0]) (0,0) _ rfl ?_ Tryz.underlying48 rfl (by kernel_rfl)) rfl ?_
    ·exact HF.out.1
    ·exact HF.out.2
  ·obtain⟨⟨s0,s1,s2,s3,s4⟩,⟨y1,y2,y3,y4⟩⟩:=HSS.out.cells
   obtain⟨k0,k1,z1⟩:=HSS.out.rdr.cells
   rcases HCASE.out with⟨h5,b,r2,hb,hel⟩|⟨h6,b,hb,rfl⟩|⟨h4,h44,y,r2,hy,h59,hrr,rfl⟩|⟨h5,h6,h4,h59,hrr,rfl⟩
   ·exact absurd h5 (by decide)
   ·exact absurd h6 (by decide)
   ·exact absurd h4 (by decide)
   ·obtain⟨hb0,hbk,hek⟩:=ZR HV.out.1
    have hfx:=(Z0p hb0).2.2.2.2.1
    have HFX:=hdd hfx
    rcases Z0I HST.out with⟨hyes,-⟩|⟨-,rfl,hr0⟩
    ·exact absurd hyes (by decide)
    rw [if_neg (by decide)] at hr0
    have HP1:=HSS.out.rdr.put (at2:=at_+1) (by omega)
    rw [show((at_+1:Nat):Int)=(at_:Int)+1 by omega] at HP1
    have HS7:=hdd (HSS.out.call HP1.2 HP1.1)
    clear HP1
    go_upto_region 7 with fail
    clear k0 k1 z1
    clear s0 s1 s2 s3 s4 y1 y2 y3 y4
    generalize w6.setCell ⟨rb,1,none⟩ (.int .i64 ((at_:Int)+1))=w7 at HS7 ⊢
    obtain⟨⟨s0,s1,s2,s3,s4⟩,⟨y1,y2,y3,y4⟩⟩:=HS7.out.cells
    have hfx1:=HFX.out x (by simp)
    have HEC:=hdd (Z19 HS7.out.rdr (f:=f) (x:=x) (rest:=r1) (by rw [← hr0];exact HX.out))
    have hsb:=(gsI HS7.out.srow).1
    have htb:=(gsI HS7.out.trow).1
    have hsw:=HS7.out.size
    go_wp2_with fail
    refine HEC.out.mono ?_
    rintro e w11 ⟨cs,d,q,rfl,hxe,hrq,hdq,hpq,htq⟩
    obtain⟨ka,kc,rfl⟩:=Zj hxe
    clear s0 s1 s2 s3 s4 y1 y2 y3 y4
    have HS11:=hdd (HS7.out.call htq hrq)
    have HXE:=hdd (show ZG 12 (fun k=>w.heap.size≤k∧k≠sb∧k≠tb) w11 [.int .i64 x.op,.int .i64 x.n,.string x.name,.slice ka x.kids.length kc] x from(Z1 12).mono (fun k _ h=>by have h:w7.heap.size≤k:=h;exact⟨by omega,by omega,by omega⟩) (Zb6 hfx1 hxe))
    have HDQ:=hdd (aI hdq hpq)
    clear hxe hrq hdq hpq htq hsb htb hsw
    have HS12:=hdd (HS11.out.putOne HXE.out)
    obtain⟨⟨s0,s1,s2,s3,s4⟩,⟨y1,y2,y3,y4⟩⟩:=HS11.out.cells
    have hsb11:=(gsI HS11.out.srow).1
    go_upto_region 11 with fail
    clear hsb11
    clear s0 s1 s2 s3 s4 y1 y2 y3 y4
    generalize (w11.setCell ⟨sb,2,none⟩ (.slice (some ⟨w11.heap.size,0,none⟩) 1 1)).alloc (.cells #[.int .i64 x.op,.int .i64 x.n,.string x.name,.slice ka x.kids.length kc] 64)=w12 at HS12 ⊢
    obtain⟨⟨s0,s1,s2,s3,s4⟩,⟨y1,y2,y3,y4⟩⟩:=HS12.out.cells
    rw [← HDQ.out.1] at h59 hrr
    rw [List.tail_drop] at hrr
    have HWC2:=hdd (Z02 HS12.out.rdr (sgB 59) h59)
    have HRR:=hdd (show ws.drop (q+1)=rest∧at_<q+1 from⟨hrr.symm,by have:=HDQ.out.2;omega⟩)
    clear h59 hrr
    go_wp2_with fail
    refine HWC2.out.mono ?_
    rintro e w13 ⟨rfl,hr13,ht13⟩
    have HS13:=hdd (HS12.out.call ht13 hr13)
    clear s0 s1 s2 s3 s4 y1 y2 y3 y4
    clear hr13 ht13
    have hnmb:(⟨#[]⟩:ByteArray).size≤maxLen:=by unfold maxLen;exact Nat.zero_le _
    have HBD5:(⟨#[]⟩:ByteArray).size≤maxLen∧(-9223372036854775808:Int)≤8∧(8:Int)≤9223372036854775807∧[x].length≤100∧([]:List Zb).length≤100∧([]:List Zb).length≤100:=⟨hnmb,by omega,by omega,by simp,by simp,by simp⟩
    clear hnmb
    have HBD6:=hdd HBD5
    clear HBD5
    obtain⟨⟨s0,s1,s2,s3,s4⟩,-⟩:=HS13.out.cells
    obtain⟨⟨t0,t1,t2,t3,t4⟩,⟨x0,x1,x2,x3,x4⟩⟩:=HS13.out.tcells
    have HF:=hdd (HS13.out.fin (rest:=rest) (at0:=at_) HBD6.out HRR.out.1 HRR.out.2)
    go_wp2
    refine bodyPost_ret (results_cell_row rfl _ _ tb 48 (List.toArray [.int .i64 8,.string ⟨#[]⟩,.slice (some ⟨w11.heap.size,0,none⟩) 1 1,.slice none 0 0,.slice none 0 0]) (0,0) _ rfl ?_ Tryz.underlying48 rfl (by kernel_rfl)) rfl ?_
    ·exact HF.out.1
    ·exact HF.out.2
end Go.Proofs.YtloooebabieeeaaGreatDoor
