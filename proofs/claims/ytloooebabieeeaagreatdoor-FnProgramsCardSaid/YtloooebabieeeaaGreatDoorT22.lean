/-
  The reference's reader of programs reads a block.
-/
import Derived.Test.YtloooebabieeeaaGreatDoorCp
import Derived.Test.YtloooebabieeeaaGreatDoorCq
import Derived.Test.YtloooebabieeeaaGreatDoorT16
import Derived.Test.YtloooebabieeeaaGreatDoorVk
import Derived.Test.YtloooebabieeeaaGreatDoorDr5
set_option maxRecDepth 100000
set_option maxHeartbeats 16000000
set_option linter.unusedVariables false
namespace Go.Proofs.YtloooebabieeeaaGreatDoor
open Go.RowKit
theorem Z5L {g:Nat} {out ss:List Zb} {ws rest:List Z7} (h:Z8h g out ws=some (ss,rest)) :
  ∃g',g=g'+1∧((Zp ws (sgB 125)=true∧out=ss∧rest=ws.tail)∨(Zp ws (sgB 125)=false∧∃s r,rdS g' ws=some (s,r)∧Z8h g' (out++[s]) r=some (ss,rest))):=by
 cases g with
 | zero=>rw [Z8h] at h;cases h
 | succ g=>
  refine⟨g,rfl,?_⟩
  rw [Z8h] at h
  cases hh:Zp ws (sgB 125) with
  | true=>rw [hh,if_pos rfl] at h;cases h;exact .inl ⟨rfl,rfl,rfl⟩
  | false=>
   rw [hh,if_neg (by decide)] at h
   cases hs:rdS g ws with
   | none=>rw [hs] at h;cases h
   | some r=>
    rw [hs,Option.bind_some] at h
    exact .inr ⟨rfl,r.1,r.2,rfl,h⟩
theorem Z9Q:∀(g:Nat) {out ss:List Zb} {ws rest:List Z7},Z8h g out ws=some (ss,rest)→∃more,ss=out++more:=by
 intro g
 induction g with
 | zero=>intro out ss ws rest h;rw [Z8h] at h;cases h
 | succ g ih=>
  intro out ss ws rest h
  obtain⟨g',hg,h1|⟨h1,s,r,h2,h3⟩⟩:=Z5L h
  ·exact⟨[],by rw [h1.2.1,List.append_nil]⟩
  ·cases hg
   obtain⟨m,hm⟩:=ih h3
   exact⟨s::m,by rw [hm];simp⟩
theorem Z7b (f dd:Nat) (hS:∀g,g≤f→Z8i g dd):Z4z (f+1) dd:=by
 intro w rb la lc ws at_ ss rest h hr hv hc
 obtain⟨hw,hr⟩:Zp (ws.drop at_) (sgB 123)=true∧Z8h f [] (ws.drop (at_+1))=some (ss,rest):=by
  rw [rdB,Z2t] at hr
  cases hh:Zp (ws.drop at_) (sgB 123) with
  | true=>rw [hh,if_pos rfl,Option.bind_some,List.tail_drop] at hr;exact⟨rfl,hr⟩
  | false=>rw [hh,if_neg (by decide)] at hr;cases hr
 have hba:Below w.heap.size w (w.alloc (.cells #[] 48)):=(bRf _ _).alloc (Nat.le_refl _) _
 have HWC:=hdd (Z02 (h.later hba) (sgB 123) hw)
 have HG0:=hdd (ZM.empty (s:=5) (R:=Zv dd) (e:=48) (fun k=>w.heap.size≤k) w.heap.size w (Nat.le_refl _))
 have HB0:=hdd hba
 have HSZ0:=hdd (World.size_alloc w (.cells #[] 48))
 have H0:=hdd h
 have HR0:=hdd hr
 have HV:=hdd (aI hv hc)
 have HSC:=hdd hS
 have hsh:=h.short
 clear h hr hv hc hS hw hba
 go_enter Tryz.func64,Tryz.ntmps64
 go_wp2_with fail
 refine HWC.out.mono ?_
 rintro e w2 ⟨rfl,hr2,ht2⟩
 have HST:=hdd (show(∃g,g≤f∧Z8h g [] (ws.drop (at_+1))=some (ss,rest))∧ZM 5 (Zv dd) 48 (fun k=>w.heap.size≤k) w.heap.size w2 (some ⟨w.heap.size,0,none⟩) 0 0 []∧Z0u w2 rb la lc ws (at_+1)∧Zd rb w w2 from
  ⟨⟨f,Nat.le_refl _,HR0.out⟩,HG0.out.turned (Z0 dd) (T:=fun k=>k=rb∨(w.alloc (.cells #[] 48)).heap.size≤k) ht2 (fun k h1 h2=>by simp only [Value.ownBlock,Option.some.injEq] at h1;have:=H0.out.lt;have:=HSZ0.out;rcases h2 with h2|h2<;>omega) (fun k h1 h2 h3=>by have h2:w.heap.size≤k:=h2;have:=H0.out.lt;rcases h3 with h3|h3<;>omega),hr2,(Zd.below HB0.out).trans ht2⟩)
 clear hr2 ht2 HWC HG0 HB0 HSZ0 HR0
 have hp0:=HST.out.2.2.1.place
 go_wp2_with fail
 go_loopg [3] (ws.length-(at_+1)) (fun G o wr=>∃(at2:Nat) (out:List Zb) (a:Option Addr) (c:Nat),at2+G=ws.length∧at_<at2∧o=.slice a out.length c∧Hid ((∃g,g≤f∧Z8h g out (ws.drop at2)=some (ss,rest))∧ZM 5 (Zv dd) 48 (fun k=>w.heap.size≤k) w.heap.size wr a out.length c out∧Z0u wr rb la lc ws at2∧Zd rb w wr∧out.length≤at2))
 case atStart=>exact⟨at_+1,[],_,0,by omega,by omega,rfl,hdd ⟨HST.out.1,HST.out.2.1,HST.out.2.2.1,HST.out.2.2.2,Nat.zero_le _⟩⟩
 case round=>
  clear HST
  obtain⟨at2,out,a,c,hG,hle,rfl,HS⟩:=hrel
  obtain⟨⟨g,hg,hb⟩,hgr,hrd,htn,hol⟩:=HS.out
  obtain⟨g',rfl,hcase⟩:=Z5L hb
  obtain⟨k0,k1,z1⟩:=hrd.cells
  have hge:¬(at2:Int)<0:=by omega
  have hge2:(0:Int)≤(at2:Int):=by omega
  rcases hcase with⟨h1,h2,h3⟩|⟨h1,s,r,h2,h3⟩
  ·have HI:=hdd (Z2L hrd (sgB 125) h1)
   have HX:=hdd (aI hgr (aI hrd htn))
   have HH:=hdd (aI h1 (aI h2 h3))
   clear h1 h2 h3 hb hgr hrd htn HS
   go_wp2_with fail
   refine HI.out.mono ?_
   rintro e w4 ⟨rfl,hb4⟩
   have HX4:=hdd (aI (HX.out.1.below (Z0 dd) hb4) (aI (HX.out.2.1.later hb4) (HX.out.2.2.trans (Zd.below hb4))))
   have HW4:=hdd (Z02 HX4.out.2.1 (sgB 125) HH.out.1)
   clear hb4 k0 k1 z1
   go_wp2_with fail
   refine HW4.out.mono ?_
   rintro e w5 ⟨rfl,hr5,ht5⟩
   have hrow:=HX4.out.1.rows
   obtain⟨cells,hrow⟩:=hrow
   have HL5:=hdd (HX4.out.1.turned (Z0 dd) (T:=fun k=>k=rb∨w4.heap.size≤k) ht5 (fun k h1 h2=>by have h3:=hrow.1.lt k h1;have:=H0.out.lt;rcases h2 with h2|h2<;>omega) (fun k h1 h2 h3=>by have h2:w.heap.size≤k:=h2;have:=H0.out.lt;rcases h3 with h3|h3<;>omega))
   have HE5:=hdd (aI hr5 (HX4.out.2.2.trans ht5))
   clear hr5 ht5 hrow
   go_wp2
   go_ret
   refine⟨a,c,at2+1,by rw [← HH.out.2.1];rfl,?_,HE5.out.1,by rw [HH.out.2.2,List.tail_drop],by omega,HE5.out.2⟩
   rw [← HH.out.2.1]
   exact(HL5.out.list (Z0 dd)).mono (Z0 dd) (fun k _ h=>h.elim id id)
  ·have HI:=hdd (Z2L hrd (sgB 125) h1)
   have hsv:ZH dd s=true∧Z07 dd s≤40:=by
    obtain⟨m,hm⟩:=Z9Q _ h3
    have hin:s∈ss:=by rw [hm];simp
    exact⟨HV.out.1 s hin,Nat.le_trans (Z6a hin) HV.out.2⟩
   have HX:=hdd (aI hgr (aI hrd htn))
   have HH:=hdd (aI h2 h3)
   have HSV:=hdd hsv
   clear h1 h2 h3 hb hgr hrd htn HS hsv
   go_wp2_with fail
   refine HI.out.mono ?_
   rintro e w4 ⟨rfl,hb4⟩
   have HX4:=hdd (aI (HX.out.1.below (Z0 dd) hb4) (aI (HX.out.2.1.later hb4) (HX.out.2.2.trans (Zd.below hb4))))
   have HC4:=hdd (HSC.out g' (by omega) w4 rb la lc ws at2 s r HX4.out.2.1 HH.out.1 HSV.out.1 HSV.out.2)
   clear hb4 k0 k1 z1
   go_wp2_with fail
   refine HC4.out.mono ?_
   rintro e w5 ⟨cs,at3,rfl,hst,hr5,hd5,hlt5,ht5⟩
   obtain⟨aa,ac,ba,bc,ea,ec,rfl⟩:=Z2C hst
   obtain⟨cells,hrow⟩:=HX4.out.1.rows
   have hg5:=HX4.out.1.turned (Z0 dd) (T:=fun k=>k=rb∨w4.heap.size≤k) ht5 (fun k h1 h2=>by have h3:=hrow.1.lt k h1;have:=H0.out.lt;rcases h2 with h2|h2<;>omega) (fun k h1 h2 h3=>by have h2:w.heap.size≤k:=h2;have:=H0.out.lt;rcases h3 with h3|h3<;>omega)
   have HLT:=hdd (fun k (h:(Value.slice a out.length c).ownBlock=some k)=>hrow.1.lt k h)
   clear hrow cells
   have hb6:Below w5.heap.size w5 (w5.alloc (.cells #[.int .i64 s.op,.string s.name,.slice aa s.args.length ac,.slice ba s.body.length bc,.slice ea s.els.length ec] 48)):=(bRf _ _).alloc (Nat.le_refl _) _
   have HR6:=hdd (Zc w5 [.int .i64 s.op,.string s.name,.slice aa s.args.length ac,.slice ba s.body.length bc,.slice ea s.els.length ec] 48)
   obtain⟨cells,hrow⟩:=(hg5.below (Z0 dd) hb6).rows
   have HRW:=hdd hrow
   have hsz4:w.heap.size≤w4.heap.size:=Ze.size (S:=fun k=>k=rb∨w.heap.size≤k) HX4.out.2.2
   have HP6:=hdd (show Zv dd (fun k=>w.heap.size≤k∧¬(Value.slice a out.length c).ownBlock=some k) (w5.alloc (.cells #[.int .i64 s.op,.string s.name,.slice aa s.args.length ac,.slice ba s.body.length bc,.slice ea s.els.length ec] 48)) [.int .i64 s.op,.string s.name,.slice aa s.args.length ac,.slice ba s.body.length bc,.slice ea s.els.length ec] s from
    (Z0 dd).mono (fun k _ h=>by have h:w4.heap.size≤k:=h;exact⟨by omega,fun e=>by have:=(HLT.out k e).2;omega⟩) ((Z0 dd).below hb6 hst))
   have HT6:=hdd ((HX4.out.2.2.trans ht5).trans (Zd.below (br:=rb) hb6))
   have HD6:=hdd (aI (hr5.later hb6) (aI hd5 hlt5))
   have hsz6:w.heap.size≤(w5.alloc (.cells #[.int .i64 s.op,.string s.name,.slice aa s.args.length ac,.slice ba s.body.length bc,.slice ea s.els.length ec] 48)).heap.size:=Ze.size (S:=fun k=>k=rb∨w.heap.size≤k) HT6.out
   have HSZ6:=hdd hsz6
   clear hst hr5 hd5 hlt5 ht5 hg5 hb6 hrow hsz4 hsz6
   go_wp2_with (at_builtin;refine Z7a rfl (.tmp 17) (.tmp 20) rfl w.heap.size (.slice a out.length c) out.length _ rfl HRW.out.1 (some ⟨w5.heap.size,0,none⟩) 1 1 [[.int .i64 s.op,.string s.name,.slice aa s.args.length ac,.slice ba s.body.length bc,.slice ea s.els.length ec]] rfl HR6.out rfl (by simp) (by rintro⟨⟩) (by
    intro cl hcl u hu
    simp only [List.mem_cons,List.not_mem_nil,or_false] at hcl
    subst hcl
    simp only [List.mem_cons,List.not_mem_nil,or_false] at hu
    rcases hu with rfl|rfl|rfl|rfl|rfl<;>rfl) (by omega) HSZ6.out ?_;intro a9 c9 w9 hown9 hg9 hl9)
   have HG9:=hdd (show ZM 5 (Zv dd) 48 (fun k=>w.heap.size≤k) w.heap.size w9 a9 (out.length+1) c9 (out++[s]) from HRW.out.push (Z0 dd) rfl HP6.out (by simpa using hown9) hg9 hl9)
   have ht9:=Zi hg9 (S:=fun k=>k=rb∨w.heap.size≤k) (fun k hk=>.inr (HRW.out.1.lt k hk).1)
   have ht9b:=Zi hg9 (S:=fun k=>w.heap.size≤k) (fun k hk=>(HRW.out.1.lt k hk).1)
   have HT9:=hdd (show Zd rb w w9 from Ze.trans (S:=fun k=>k=rb∨w.heap.size≤k) HT6.out ht9)
   have hrb6:=(ht9b.block rb HD6.out.1.lt (by have:=H0.out.lt;omega)).trans HD6.out.1.row
   have HRD9:=hdd (H0.out.turn HT9.out hrb6 HD6.out.1.place)
   clear hown9 hg9 hl9 ht9 ht9b hrb6
   have hpl:=HD6.out.1.place
   have hlt:=HD6.out.2.2
   go_roundg (ws.length-at3)
   case measure=>omega
   case rel=>
    refine⟨at3,out++[s],a9,c9,by omega,by omega,by simp,hdd ⟨⟨g',by omega,?_⟩,?_,HRD9.out,HT9.out,by simp;omega⟩⟩
    ·rw [HD6.out.2.1];exact HH.out.2
    ·have h:=HG9.out
     rw [show out.length+1=(out++[s]).length by simp] at h
     exact h
theorem Z7H:∀f,∀dd,Z8i f dd∧Z4z f dd:=by
 intro f
 induction f using Nat.strongRecOn with
 | ind f ih=>
  intro dd
  cases f with
  | zero=>exact⟨fun w rb la lc ws at_ s rest _ h _ _=>(by rw [rdS] at h;cases h),fun w rb la lc ws at_ s rest _ h _ _=>(by rw [rdB] at h;cases h)⟩
  | succ f=>
   refine⟨?_,Z7b f dd (fun g hg=>(ih g (by omega) dd).1)⟩
   cases dd with
   | zero=>exact fun w rb la lc ws at_ s rest _ _ h=>by cases h
   | succ dd=>exact Z8o f dd (ih f (by omega) dd).2
theorem Z5O {g:Nat} {out ps:List ByteArray} {ws rest:List Z7} (h:Z6q g out ws=some (ps,rest)) :
  ∃g',g=g'+1∧((Zp ws (sgB 41)=true∧out=ps∧rest=ws.tail)∨
   (Zp ws (sgB 41)=false∧∃q s r,((0<out.length∧Zp ws (sgB 44)=true∧q=ws.tail)∨(out.length=0∧q=ws))∧Z3N q=some (s,r)∧Z6q g' (out++[s]) r=some (ps,rest))):=by
 cases g with
 | zero=>rw [Z6q] at h;cases h
 | succ g=>
  refine⟨g,rfl,?_⟩
  rw [Z6q] at h
  cases hh:Zp ws (sgB 41) with
  | true=>rw [hh,if_pos rfl] at h;cases h;exact .inl ⟨rfl,rfl,rfl⟩
  | false=>
   rw [hh,if_neg (by decide)] at h
   by_cases ho:0<out.length
   ·rw [if_pos ho,Z2t] at h
    cases hc:Zp ws (sgB 44) with
    | false=>rw [hc,if_neg (by decide)] at h;cases h
    | true=>
     rw [hc,if_pos rfl,Option.bind_some] at h
     cases hn:Z3N ws.tail with
     | none=>rw [hn] at h;cases h
     | some r=>rw [hn,Option.bind_some] at h;exact .inr ⟨rfl,ws.tail,r.1,r.2,.inl ⟨ho,rfl,rfl⟩,hn,h⟩
   ·rw [if_neg ho,Option.bind_some] at h
    cases hn:Z3N ws with
    | none=>rw [hn] at h;cases h
    | some r=>rw [hn,Option.bind_some] at h;exact .inr ⟨rfl,ws,r.1,r.2,.inr ⟨by omega,rfl⟩,hn,h⟩
theorem Z7r:∀(g:Nat) {out ps:List ByteArray} {ws rest:List Z7},Z6q g out ws=some (ps,rest)→∃more,ps=out++more:=by
 intro g
 induction g with
 | zero=>intro out ps ws rest h;rw [Z6q] at h;cases h
 | succ g ih=>
  intro out ps ws rest h
  obtain⟨g',hg,h1|⟨_,q,s,r,_,_,h3⟩⟩:=Z5O h
  ·exact⟨[],by rw [h1.2.1,List.append_nil]⟩
  ·cases hg
   obtain⟨m,hm⟩:=ih h3
   exact⟨s::m,by rw [hm];simp⟩
theorem ZaG {f:Nat} {ws rest:List Z7} {x:FnD} (h:rdF f ws=some (x,rest)) :
  Zp ws (ZU.getD 0 ⟨#[]⟩)=true∧∃r1 r2,Z3N ws.tail=some (x.name,r1)∧Zp r1 (sgB 40)=true∧Z6q f [] r1.tail=some (x.params,r2)∧rdB f r2=some (x.body,rest):=by
 rw [rdF,Z2t] at h
 cases hh:Zp ws (ZU.getD 0 ⟨#[]⟩) with
 | false=>rw [hh,if_neg (by decide)] at h;cases h
 | true=>
  rw [hh,if_pos rfl,Option.bind_some] at h
  cases hn:Z3N ws.tail with
  | none=>rw [hn] at h;cases h
  | some a=>
   rw [hn,Option.bind_some,Z2t] at h
   cases h2:Zp a.2 (sgB 40) with
   | false=>rw [h2,if_neg (by decide)] at h;cases h
   | true=>
    rw [h2,if_pos rfl,Option.bind_some] at h
    cases h3:Z6q f [] a.2.tail with
    | none=>rw [h3] at h;cases h
    | some b=>
     rw [h3,Option.bind_some] at h
     cases h4:rdB f b.2 with
     | none=>rw [h4] at h;cases h
     | some c=>rw [h4,Option.bind_some] at h;cases h;exact⟨rfl,a.2,b.2,rfl,h2,h3,h4⟩
theorem Z9O {T:Nat→Prop} {w9 w10:World} {rb at2:Nat} {la:Option Addr} {lc:Nat} {ws:List Z7} (h:Z0u w9 rb la lc ws at2) (ht:Ze T w9 w10) (he:¬T rb) (hl:∀b o,la=some ⟨b,o,none⟩→ws≠[]→¬T b):Z0u w10 rb la lc ws at2:=by
 refine⟨(ht.block rb h.lt he).trans h.row,?_,h.ok,h.short,h.place⟩
 by_cases hn:ws=[]
 ·subst hn;exact Za.nil _ _ _
 ·obtain⟨b,off,h1,h2,h3⟩:=h.list.blk hn
  have hb:¬T b:=hl b off h1 hn
  have h4:Za 2 Z3p (fun k=>k≠rb∧¬T k) w9 la ws:=⟨⟨h.list.rd.1,h.list.rd.2⟩,fun _=>⟨b,off,h1,⟨h2,hb⟩,h3⟩⟩
  exact(h4.turned ZC ht (fun k _ h1 h2=>h1.2 h2)).mono ZC (fun k _ h=>h.1)
structure Z5s (w:World) (rb:Nat) (la:Option Addr) (lc:Nat) (ws:List Z7) (tb fb dd:Nat) (nm:ByteArray) (pa:Option Addr) (pc:Nat) (ps:List ByteArray) (ba:Option Addr) (bc:Nat) (body:List Zb) (at_:Nat) (wr:World):Prop where
 rdr:Z0u wr rb la lc ws at_
 frow:wr.heap[fb]? = some (.cells #[.string nm,.slice pa ps.length pc,.slice ba body.length bc] 42 (0,0))
 trow:wr.heap[tb]? = some (.cells #[.string ⟨#[]⟩,.slice none 0 0,.slice none 0 0] 42 (0,0))
 hps:ZM 1 Z1V 9 (fun _=>False) (fb+1) wr pa ps.length pc ps
 hbody:Za 5 (Zv dd) (fun k=>w.heap.size≤k∧k≠fb∧k≠tb) wr ba body
 turn:Zd rb w wr
 blocks:rb<w.heap.size∧w.heap.size≤tb∧tb<fb
 words:∀b o,la=some ⟨b,o,none⟩→ws≠[]→b<w.heap.size
section
variable {w wr w':World} {rb:Nat} {la:Option Addr} {lc:Nat} {ws:List Z7} {tb fb dd:Nat} {nm:ByteArray} {pa:Option Addr} {pc:Nat} {ps:List ByteArray} {ba:Option Addr} {bc:Nat} {body:List Zb} {at_ at2:Nat}
theorem Z5s.size (h:Z5s w rb la lc ws tb fb dd nm pa pc ps ba bc body at_ wr):w.heap.size≤wr.heap.size:=Ze.size (S:=fun k=>k=rb∨w.heap.size≤k) h.turn
theorem Z5s.own (h:Z5s w rb la lc ws tb fb dd nm pa pc ps ba bc body at_ wr) {k:Nat} (hk:(Value.slice pa ps.length pc).ownBlock=some k):fb+1≤k∧k<wr.heap.size:=by
 obtain⟨cells,hr⟩:=h.hps.rows
 exact hr.1.lt k hk
theorem Z5s.call (h:Z5s w rb la lc ws tb fb dd nm pa pc ps ba bc body at_ wr) (ht:Zd rb wr w') (hr:Z0u w' rb la lc ws at2):Z5s w rb la lc ws tb fb dd nm pa pc ps ba bc body at2 w':=by
 have hb:=h.blocks
 have hs:=(gsI h.frow).1
 have hst:=(gsI h.trow).1
 have hsep:∀k,k<wr.heap.size→(w.heap.size≤k∧k≠fb∧k≠tb)→¬(k=rb∨wr.heap.size≤k):=fun k h1 h2 h3=>by rcases h3 with h3|h3<;>omega
 exact⟨hr,(ht.block hs (by omega)).trans h.frow,(ht.block hst (by omega)).trans h.trow,h.hps.turned Z3 (T:=fun k=>k=rb∨wr.heap.size≤k) ht (fun k hk h3=>by have:=h.own hk;rcases h3 with h3|h3<;>omega) (fun k _ h1=>h1.elim),h.hbody.turned (Z0 dd) ht hsep,h.turn.trans ht,hb,h.words⟩
theorem Z5s.grow (h:Z5s w rb la lc ws tb fb dd nm pa pc ps none 0 [] at_ wr) (ht:wr.grownBy w' (Value.slice pa ps.length pc).ownBlock) {pa2:Option Addr} {pc2:Nat} {ps2:List ByteArray} (ha:ZM 1 Z1V 9 (fun _=>False) (fb+1) w' pa2 ps2.length pc2 ps2) :
  w'.heap[fb]? = wr.heap[fb]?∧Z5s w rb la lc ws tb fb dd nm pa2 pc2 ps2 none 0 [] at_ (w'.setCell ⟨fb,1,none⟩ (.slice pa2 ps2.length pc2)):=by
 have hb:=h.blocks
 have hs:=(gsI h.frow).1
 have hst:=(gsI h.trow).1
 have ht1:=Zi ht (S:=fun k=>fb+1≤k) (fun k hk=>(h.own hk).1)
 have hsz:=h.size
 have hse:=ht1.block fb hs (by omega)
 have hte:=ht1.block tb hst (by omega)
 have h2:=Z4 w' fb 1 (.slice pa2 ps2.length pc2)
 have hfb2:fb<w'.heap.size:=Nat.lt_of_lt_of_le hs ht1.size
 have hT:Zd rb w w':=Ze.trans (S:=fun k=>k=rb∨w.heap.size≤k) h.turn (ht1.mono (fun k (hk:fb+1≤k)=>.inr (by omega)))
 have hr1:Z0u w' rb la lc ws at_:=Z9O h.rdr ht1 (fun h1=>by have h1:fb+1≤rb:=h1;omega) (fun b o h1 h2 h3=>by have h3:fb+1≤b:=h3;have:=h.words b o h1 h2;omega)
 refine⟨hse,Z1C hr1 h2 (by omega) (fun b o h1 h2=>by have:=h.words b o h1 h2;omega),(hSs w' fb 1 _ _ _ (hse.trans h.frow)).trans rfl,(h2.block tb (by omega) (by omega)).trans (hte.trans h.trow),?_,Za.nil _ _ _,Z0T hT h2 (by omega),hb,h.words⟩
 obtain⟨cells,hr⟩:=ha.rows
 exact ha.turned Z3 h2 (fun k hk=>by have:=(hr.1.lt k hk).1;omega) (fun k _ h1=>h1.elim)
end
def ZcB (w:World) (rb:Nat) (la:Option Addr) (lc:Nat) (ws:List Z7) (dd at_:Nat) (x:FnD) (rest:List Z7) (e:Ending) (w':World):Prop:=
 ∃(cs:List Value) (at2:Nat),e=.returned (.agg cs.toArray)∧FnP dd (fun k=>w.heap.size≤k) w' cs x∧Z0u w' rb la lc ws at2∧ws.drop at2=rest∧at_<at2∧Zd rb w w'
def ZcD (f:Nat):Prop:=∀(w:World) (rb:Nat) (la:Option Addr) (lc:Nat) (ws:List Z7) (at_:Nat) (x:FnD) (rest:List Z7),Z0u w rb la lc ws at_→rdF f (ws.drop at_)=some (x,rest)→fnB x=true→ZY (Z07 4) x.body≤40→
 Calls Tryz.prog 36 #[.pointer (some ⟨rb,0,none⟩)] w (ZcB w rb la lc ws 4 at_ x rest)
theorem Z3Y {x:FnD} (h:fnB x=true):Zk x.name=true∧x.params.length≤3∧(∀s∈x.params,Zk s=true)∧∀s∈x.body,ZH 4 s=true:=by
 simp only [fnB,Bool.and_eq_true,decide_eq_true_eq,List.all_eq_true] at h
 exact⟨h.1.1.1,h.1.1.2,h.1.2,h.2⟩
section
variable {w wr w':World} {rb:Nat} {la:Option Addr} {lc:Nat} {ws:List Z7} {tb fb dd:Nat} {nm:ByteArray} {pa:Option Addr} {pc:Nat} {ps:List ByteArray} {ba:Option Addr} {bc:Nat} {body:List Zb} {at_ at2:Nat}
theorem Z5s.cells (h:Z5s w rb la lc ws tb fb dd nm pa pc ps ba bc body at_ wr) :
  (wr.cell? ⟨fb,0,none⟩=some (.string nm)∧wr.cell? ⟨fb,1,none⟩=some (.slice pa ps.length pc)∧wr.cell? ⟨fb,2,none⟩=some (.slice ba body.length bc))∧(wr.frozen? ⟨fb,1,none⟩=false∧wr.frozen? ⟨fb,2,none⟩=false):=
 ⟨⟨(coR _ _ 0 _ _ _ h.frow).trans rfl,(coR _ _ 1 _ _ _ h.frow).trans rfl,(coR _ _ 2 _ _ _ h.frow).trans rfl⟩,frR _ _ 1 _ _ h.frow,frR _ _ 2 _ _ h.frow⟩
theorem Z5s.tcells (h:Z5s w rb la lc ws tb fb dd nm pa pc ps ba bc body at_ wr) :
  (wr.cell? ⟨tb,0,none⟩=some (.string ⟨#[]⟩)∧wr.cell? ⟨tb,1,none⟩=some (.slice none 0 0)∧wr.cell? ⟨tb,2,none⟩=some (.slice none 0 0))∧(wr.frozen? ⟨tb,0,none⟩=false∧wr.frozen? ⟨tb,1,none⟩=false∧wr.frozen? ⟨tb,2,none⟩=false):=
 ⟨⟨(coR _ _ 0 _ _ _ h.trow).trans rfl,(coR _ _ 1 _ _ _ h.trow).trans rfl,(coR _ _ 2 _ _ _ h.trow).trans rfl⟩,frR _ _ 0 _ _ h.trow,frR _ _ 1 _ _ h.trow,frR _ _ 2 _ _ h.trow⟩
theorem Z5s.putBody (h:Z5s w rb la lc ws tb fb dd nm pa pc ps ba bc body at_ wr) {ba2:Option Addr} {bc2:Nat} {body2:List Zb} (ha:Za 5 (Zv dd) (fun k=>w.heap.size≤k∧k≠fb∧k≠tb) wr ba2 body2) :
  Z5s w rb la lc ws tb fb dd nm pa pc ps ba2 bc2 body2 at_ (wr.setCell ⟨fb,2,none⟩ (.slice ba2 body2.length bc2)):=by
 have hb:=h.blocks
 have hst:=(gsI h.trow).1
 have ht:=Z4 wr fb 2 (.slice ba2 body2.length bc2)
 exact⟨Z1C h.rdr ht (by omega) (fun b o h1 h2=>by have:=h.words b o h1 h2;omega),(hSs wr fb 2 _ _ _ h.frow).trans rfl,(ht.block tb hst (by omega)).trans h.trow,h.hps.turned Z3 ht (fun k hk=>by have:=(h.own hk).1;omega) (fun k _ h1=>h1.elim),ha.turned (Z0 dd) ht (fun k _ h=>h.2.1),Z0T h.turn ht (by omega),hb,h.words⟩
theorem Z5s.fin {rest:List Z7} {at0:Nat} (h:Z5s w rb la lc ws tb fb dd nm pa pc ps ba bc body at_ wr) (hb:nm.size≤maxLen∧ps.length≤100∧body.length≤100) (hr:ws.drop at_=rest) (h0:at0<at_) :
  (((wr.setCell ⟨tb,0,none⟩ (.string nm)).setCell ⟨tb,1,none⟩ (.slice pa ps.length pc)).setCell ⟨tb,2,none⟩ (.slice ba body.length bc)).heap[tb]? = some (.cells (List.toArray [.string nm,.slice pa ps.length pc,.slice ba body.length bc]) 42 (0,0))∧
  ZcB w rb la lc ws dd at0 ⟨nm,ps,body⟩ rest (.returned (.agg (List.toArray [.string nm,.slice pa ps.length pc,.slice ba body.length bc]))) (((wr.setCell ⟨tb,0,none⟩ (.string nm)).setCell ⟨tb,1,none⟩ (.slice pa ps.length pc)).setCell ⟨tb,2,none⟩ (.slice ba body.length bc)):=by
 have h1:=Z4 wr tb 0 (.string nm)
 have h2:=Z4 (wr.setCell ⟨tb,0,none⟩ (.string nm)) tb 1 (.slice pa ps.length pc)
 have h3:=Z4 ((wr.setCell ⟨tb,0,none⟩ (.string nm)).setCell ⟨tb,1,none⟩ (.slice pa ps.length pc)) tb 2 (.slice ba body.length bc)
 have ht:=(h1.trans h2).trans h3
 have hrow:(((wr.setCell ⟨tb,0,none⟩ (.string nm)).setCell ⟨tb,1,none⟩ (.slice pa ps.length pc)).setCell ⟨tb,2,none⟩ (.slice ba body.length bc)).heap[tb]? = some (.cells (List.toArray [.string nm,.slice pa ps.length pc,.slice ba body.length bc]) 42 (0,0)):=(hSs _ tb 2 _ _ _ ((hSs _ tb 1 _ _ _ ((hSs wr tb 0 _ _ _ h.trow).trans rfl)).trans rfl)).trans rfl
 clear h1 h2 h3
 generalize ((wr.setCell ⟨tb,0,none⟩ (.string nm)).setCell ⟨tb,1,none⟩ (.slice pa ps.length pc)).setCell ⟨tb,2,none⟩ (.slice ba body.length bc)=wf at ht hrow ⊢
 have hbl:=h.blocks
 refine⟨hrow,_,at_,rfl,⟨pa,pc,ba,bc,rfl,hb,?_,(h.hbody.turned (Z0 dd) ht (fun k _ h2=>h2.2.2)).mono (Z0 dd) (fun k _ h=>h.1)⟩,?_,hr,h0,Z0T h.turn ht hbl.2.1⟩
 ·exact((h.hps.turned Z3 ht (fun k hk=>by have:=(h.own hk).1;omega) (fun k _ h1=>h1.elim)).list Z3).mono Z3 (fun k _ h=>by
   rcases h with h|h
   ·exact h.elim
   ·have h:fb+1≤k:=h
    omega)
 ·exact Z1C h.rdr ht (by omega) (fun b o h1 h2=>by have:=h.words b o h1 h2;omega)
end
theorem Z3o {ws r:List Z7} {k:Nat} {s:ByteArray} (h:Z3N (ws.drop k)=some (s,r)):∃v,ws[k]? = some v∧v.kind=1∧s=v.text∧r=ws.drop (k+1):=by
 rcases Nat.lt_or_ge k ws.length with hl|hl
 ·rw [List.drop_eq_getElem_cons hl,Z3N] at h
  by_cases hk:(ws[k]'hl).kind=1
  ·rw [if_pos hk] at h
   cases h
   exact⟨_,List.getElem?_eq_getElem hl,hk,rfl,rfl⟩
  ·rw [if_neg hk] at h;cases h
 ·rw [List.drop_of_length_le hl,Z3N] at h;cases h
theorem Zax {w w1 w2 w3:World} {rb:Nat} {la:Option Addr} {lc:Nat} {ws:List Z7} {dd at_:Nat} {nm:ByteArray} (h1:w1=w.alloc (.cells #[.string ⟨#[]⟩,.slice none 0 0,.slice none 0 0] 42)) (hrb:rb<w.heap.size) (ht2:Zd rb w1 w2) (ht3:Zd rb w2 w3) (hr:Z0u w3 rb la lc ws at_)
  (hl:∀b o,la=some ⟨b,o,none⟩→ws≠[]→b<w.heap.size) :
  Z5s w rb la lc ws w.heap.size w3.heap.size dd nm none 0 [] none 0 [] at_ (w3.alloc (.cells #[.string nm,.slice none 0 0,.slice none 0 0] 42)):=by
 have hba:Below w.heap.size w w1:=by rw [h1];exact(bRf _ _).alloc (Nat.le_refl _) _
 have hb3:Below w3.heap.size w3 (w3.alloc (.cells #[.string nm,.slice none 0 0,.slice none 0 0] 42)):=(bRf _ _).alloc (Nat.le_refl _) _
 have hs1:w1.heap.size=w.heap.size+1:=by rw [h1];exact World.size_alloc _ _
 have hr1:w1.heap[w.heap.size]? = some (.cells #[.string ⟨#[]⟩,.slice none 0 0,.slice none 0 0] 42 (0,0)):=by rw [h1];exact hAn _ _
 have hs2:w1.heap.size≤w2.heap.size:=Ze.size (S:=fun k=>k=rb∨w1.heap.size≤k) ht2
 have hs3:w2.heap.size≤w3.heap.size:=Ze.size (S:=fun k=>k=rb∨w2.heap.size≤k) ht3
 have hr2:w2.heap[w.heap.size]? = _:=(ht2.block (by omega) (by omega)).trans hr1
 have hr3:w3.heap[w.heap.size]? = _:=(ht3.block (by omega) (by omega)).trans hr2
 exact⟨hr.later hb3,hAn _ _,(hb3.block _ (by omega)).trans hr3,ZM.nil _ _ _,Za.nil _ _ _,(((Zd.below hba).trans ht2).trans ht3).trans (Zd.below hb3),⟨hrb,Nat.le_refl _,by omega⟩,hl⟩
theorem ZaE (f:Nat) (hB:Z4z f 4):ZcD f:=by
 intro w rb la lc ws at_ x rest h hr hv hc
 obtain⟨h0,r1,r2,hn,h40,hp,hb⟩:=ZaG hr
 rw [List.tail_drop] at hn
 obtain⟨v,hva,hvk,hvt,rfl⟩:=Z3o hn
 rw [List.tail_drop] at hp
 have hba:Below w.heap.size w (w.alloc (.cells #[.string ⟨#[]⟩,.slice none 0 0,.slice none 0 0] 42)):=(bRf _ _).alloc (Nat.le_refl _) _
 have HTB:=hdd (aI (hAn w (.cells #[.string ⟨#[]⟩,.slice none 0 0,.slice none 0 0] 42)) (aI (World.size_alloc w (.cells #[.string ⟨#[]⟩,.slice none 0 0,.slice none 0 0] 42)) h.lt))
 have HR1:=hdd (h.later hba)
 have HB0:=hdd hba
 have HLB:=hdd (show ∀b o,la=some ⟨b,o,none⟩→ws≠[]→b<w.heap.size from fun b o h1 h2=>by
  obtain⟨b',off,k1,k2,k3⟩:=h.list.blk h2
  rw [h1] at k1
  cases k1
  exact k3)
 have HBC:=hdd hB
 have HV:=hdd (aI (Z3Y hv) hc)
 have HN:=hdd (aI hva (aI hvk hvt))
 have HH:=hdd (aI h40 (aI hp hb))
 have hsh:=h.short
 have HW0:=hdd (Z02 (h.later hba) _ h0)
 clear h hr hv hc h0 hn hva hvk hvt h40 hp hb hba hB
 go_enter Tryz.func36,Tryz.ntmps36
 go_wp2_with fail
 refine HW0.out.mono ?_
 rintro e w2 ⟨rfl,hr2,ht2⟩
 have HNC:=hdd (Z2I hr2 HN.out.1 HN.out.2.1)
 have HT2:=hdd (aI hr2 ht2)
 clear hr2 ht2
 go_wp2_with fail
 refine HNC.out.mono ?_
 rintro e w3 ⟨rfl,hr3,ht3⟩
 have HT3:=hdd (aI hr3 ht3)
 clear hr3 ht3
 have HST:=hdd (Zax (dd:=4) (nm:=v.text) rfl HTB.out.2.2 HT2.out.2 HT3.out.2 HT3.out.1 HLB.out)
 go_upto_region 3 with fail
 obtain⟨tb,htb⟩:∃n,n=w.heap.size:=⟨_,rfl⟩
 obtain⟨fb,hfb⟩:∃n,n=w3.heap.size:=⟨_,rfl⟩
 generalize w3.alloc (.cells #[.string v.text,.slice none 0 0,.slice none 0 0] 42)=w4 at HST ⊢
 rw [← htb,← hfb] at HST
 rw [← htb,← hfb]
 clear htb hfb HT2 HT3 HTB HR1 HB0 HW0 HNC
 have HW4:=hdd (Z02 HST.out.rdr (sgB 40) HH.out.1)
 go_wp2_with fail
 refine HW4.out.mono ?_
 rintro e w5 ⟨rfl,hr5,ht5⟩
 have HS5:=hdd (HST.out.call ht5 hr5)
 have HP:=hdd (show Z6q f [] (ws.drop (at_+1+1+1))=some (x.params,r2) from HH.out.2.1)
 clear hr5 ht5 HW4 HST
 have hp0:=HS5.out.rdr.place
 clear HLB
 go_wp2_with fail
 go_loopg [] (ws.length-(at_+1+1+1)) (fun G wr=>∃(at2:Nat) (ps:List ByteArray) (pa:Option Addr) (pc:Nat),at2+G=ws.length∧at_<at2∧Hid ((∃g,Z6q g ps (ws.drop at2)=some (x.params,r2))∧Z5s w rb la lc ws tb fb 4 v.text pa pc ps none 0 [] at2 wr))
 case atStart=>exact⟨at_+1+1+1,[],none,0,by omega,by omega,hdd ⟨⟨f,HP.out⟩,HS5.out⟩⟩
 case round=>
  clear HS5 HP
  obtain⟨at2,ps,pa,pc,hG,hle,HS⟩:=hrel
  obtain⟨⟨g,hg⟩,hst⟩:=HS.out
  obtain⟨g',rfl,hcase⟩:=Z5O hg
  obtain⟨k0,k1,z1⟩:=hst.rdr.cells
  have hge:¬(at2:Int)<0:=by omega
  have hge2:(0:Int)≤(at2:Int):=by omega
  rcases hcase with⟨h1,h2,h3⟩|⟨h1,q,s,r,hq,hn,h3⟩
  ·have HI:=hdd (Z2L hst.rdr (sgB 41) h1)
   have HX:=hdd hst
   have HH2:=hdd (aI h1 (aI h2 h3))
   clear h1 h2 h3 hg hst HS
   go_wp2_with fail
   refine HI.out.mono ?_
   rintro e w6 ⟨rfl,hb6⟩
   have HS6:=hdd (HX.out.call (Zd.below hb6) (HX.out.rdr.later hb6))
   have HW6:=hdd (Z02 HS6.out.rdr (sgB 41) HH2.out.1)
   clear hb6 k0 k1 z1
   go_wp2_with fail
   refine HW6.out.mono ?_
   rintro e w7 ⟨rfl,hr7,ht7⟩
   have HS7:=hdd (HS6.out.call ht7 hr7)
   have HB7:=hdd (HBC.out w7 rb la lc ws (at2+1) x.body rest HS7.out.rdr (by rw [← List.tail_drop,← HH2.out.2.2];exact HH.out.2.2) (fun s hs=>HV.out.1.2.2.2 s hs) HV.out.2)
   clear hr7 ht7
   have hfb:=(gsI HS7.out.frow).1
   have htb:=(gsI HS7.out.trow).1
   have hsz:=HS7.out.size
   go_wp2_with fail
   refine HB7.out.mono ?_
   rintro e w8 ⟨ba,bc,at3,rfl,hbl,hr8,hd8,hlt8,ht8⟩
   have HS8:=hdd (HS7.out.call ht8 hr8)
   have HBB:=hdd (hbl.mono (Z0 4) (S':=fun k=>w.heap.size≤k∧k≠fb∧k≠tb) (fun k _ h=>by have h:w7.heap.size≤k:=h;exact⟨by omega,by omega,by omega⟩))
   have HS9:=hdd (HS8.out.putBody (bc2:=bc) HBB.out)
   have HRR:=hdd (show ws.drop at3=rest∧at_<at3 from⟨hd8,by omega⟩)
   clear hbl hr8 hd8 hlt8 ht8 hfb htb hsz
   obtain⟨⟨s0,s1,s2⟩,⟨y1,y2⟩⟩:=HS8.out.cells
   go_upto_region 10 with fail
   clear s0 s1 s2 y1 y2
   generalize w8.setCell ⟨fb,2,none⟩ (.slice ba x.body.length bc)=w9 at HS9 ⊢
   obtain⟨⟨s0,s1,s2⟩,-⟩:=HS9.out.cells
   obtain⟨⟨t0,t1,t2⟩,⟨x0,x1,x2⟩⟩:=HS9.out.tcells
   have hnm:v.text.size≤maxLen:=by
    rw [← HN.out.2.2]
    unfold maxLen
    have:=(Z0t HV.out.1.1).2.1
    omega
   have hps:ps.length≤100:=by
    rw [HH2.out.2.1]
    have:=HV.out.1.2.1
    omega
   have hbd:x.body.length≤100:=by
    have:=Z6c HV.out.1.2.2.2 HV.out.2
    omega
   have HF:=hdd (HS9.out.fin (rest:=rest) (at0:=at_) ⟨hnm,hps,hbd⟩ HRR.out.1 HRR.out.2)
   have HXE:=hdd (show(⟨v.text,ps,x.body⟩:FnD)=x from by rw [HH2.out.2.1,← HN.out.2.2])
   clear hnm hps hbd
   go_wp2
   refine bodyPost_ret (results_cell_row rfl _ _ tb 42 (List.toArray [.string v.text,.slice pa ps.length pc,.slice ba x.body.length bc]) (0,0) _ rfl ?_ Tryz.underlying42 rfl (by kernel_rfl)) rfl ?_
   ·exact HF.out.1
   ·have h:=HF.out.2
    rw [HXE.out] at h
    exact h
  ·have HI:=hdd (Z2L hst.rdr (sgB 41) h1)
   have HX:=hdd hst
   clear h1 hg hst HS
   go_wp2_with fail
   refine HI.out.mono ?_
   rintro e w6 ⟨rfl,hb6⟩
   have HS6:=hdd (HX.out.call (Zd.below hb6) (HX.out.rdr.later hb6))
   clear hb6 k0 k1 z1
   rcases hq with⟨ho,h44,rfl⟩|⟨ho,rfl⟩
   ·have HW6:=hdd (Z02 HS6.out.rdr (sgB 44) h44)
    rw [List.tail_drop] at hn
    have hoi:(0:Int)<(ps.length:Int):=by omega
    clear h44
    obtain⟨⟨s0,s1,s2⟩,⟨y1,y2⟩⟩:=HS6.out.cells
    go_wp2_with fail
    refine HW6.out.mono ?_
    rintro e w7 ⟨rfl,hr7,ht7⟩
    have HS7:=hdd (HS6.out.call ht7 hr7)
    clear hr7 ht7
    obtain⟨v2,hv2,hk2,rfl,rfl⟩:=Z3o hn
    have hvs:=(Z0J (HX.out.rdr.ok v2 (List.mem_of_getElem? hv2))).1
    have HVS:=hdd (show v2.text.size≤maxLen from by unfold maxLen;have:=(Z0J (HX.out.rdr.ok v2 (List.mem_of_getElem? hv2))).2.1;omega)
    clear hvs
    have H3:=hdd h3
    clear h3 hn
    have hpsl:ps.length≤3:=by
     obtain⟨m,hm⟩:=Z7r _ H3.out
     have h1:=HV.out.1.2.1
     rw [hm] at h1
     simp at h1
     omega
    go_upto_region 7 with fail
    clear s0 s1 s2 y1 y2
    have HD:=hdd (HS7.out.call (Zd.below (bRf w7.heap.size w7).drew) (HS7.out.rdr.later (bRf w7.heap.size w7).drew))
    refine Zw (S:=fun W:World=>W.cell? ⟨fb,1,none⟩=some (.slice pa ps.length pc)) (by kernel_rfl) ?_
    generalize w7.drew=wd at HD ⊢
    have hHeld:(fun W:World=>W.cell? ⟨fb,1,none⟩=some (.slice pa ps.length pc)) wd:=HD.out.cells.1.2.1
    refine tkL 1 0 (some 27) hHeld ?_
    (try simp only [Act.put,pu1,pu2,pu3])
    refine tkL 5 1 (some 28) hHeld ?_
    (try simp only [Act.put,pu1,pu2,pu3])
    refine tkL 3 2 (some 29) hHeld ?_
    (try simp only [Act.put,pu1,pu2,pu3])
    refine Z06 3 (some 30) fun K hK=>?_
    go_simp
    go_at_call 62
    refine(Z2I HD.out.rdr hv2 hk2).mono ?_
    rintro e w14 ⟨rfl,hr14,ht14⟩
    have HS14:=hdd (HD.out.call ht14 hr14)
    clear hr14 ht14
    refine kpL hK (HS14.out.cells.1.2.1) ?_
    clear hK K hHeld;intro hHeld
    (try simp only [Act.put,pu1,pu2,pu3])
    refine Z06 4 (some 31) fun K hK=>?_
    go_simp
    have hb15:Below w14.heap.size w14 (w14.alloc (.cells (List.toArray [.string v2.text]) 9)):=(bRf _ _).alloc (Nat.le_refl _) _
    have HS15:=hdd (HS14.out.call (Zd.below hb15) (HS14.out.rdr.later hb15))
    have HRO:=hdd (Zc w14 [.string v2.text] 9)
    clear hb15
    generalize w14.alloc (.cells (List.toArray [.string v2.text]) 9)=w15 at HS15 HRO ⊢
    refine kpL hK (HS15.out.cells.1.2.1) ?_
    clear hK K hHeld;intro hHeld
    (try simp only [Act.put,pu1,pu2,pu3])
    refine Z06 5 (some 32) fun K hK=>?_
    obtain⟨cells,hrows⟩:=HS15.out.hps.rows
    have hfs:=(gsI HS15.out.frow).1
    refine Z3W rfl (.tmp 28) (.tmp 31) rfl (fb+1) (.slice pa ps.length pc) ps.length _ rfl hrows.1 _ 1 1 [[.string v2.text]] rfl HRO.out rfl (by simp) (by intro cl hcl u hu;simp at hcl;subst hcl;simp at hu;subst hu;rfl) (by omega) hfs ?_
    intro a9 c9 w16 hown9 hg9 hlies9
    have hP:ZM 1 Z1V 9 (fun _=>False) (fb+1) w16 a9 (ps.length+1) c9 (ps++[v2.text]):=hrows.push Z3 rfl ⟨rfl,HVS.out⟩ (by simpa using hown9) hg9 hlies9
    have hlen:ps.length+1=(ps++[v2.text]).length:=by simp
    rw [hlen] at hP ⊢
    have HP:=hdd (HS15.out.grow hg9 (pa2:=a9) (pc2:=c9) (ps2:=ps++[v2.text]) hP)
    clear hP hrows hown9 hg9 hlies9 hfs hlen
    refine kpL hK ((coR _ _ 1 _ _ _ (HP.out.1.trans HS15.out.frow)).trans rfl) ?_
    clear hK K hHeld;intro hHeld
    (try simp only [Act.put,pu1,pu2,pu3])
    refine tkL 7 6 (some 33) hHeld ?_
    (try simp only [Act.put,pu1,pu2,pu3])
    refine Z06 7 none fun K hK=>?_
    have hr16:=HP.out.1.trans HS15.out.frow
    have k1:=coR _ _ 1 _ _ _ hr16
    have z1:=frR _ _ 1 _ _ hr16
    simp only [ga0,ga1,ga2] at k1
    go_simp
    clear k1 z1 hr16
    refine hK.out _ _ (Z15 (by kernel_rfl)) ?_
    clear hK K hHeld
    (try simp only [Act.put,pu1,pu2,pu3])
    refine Zq (by kernel_rfl) ?_ _
    have h17:=HP.out.2
    rw [show(ps++[v2.text]).length=ps.length+1 by simp] at h17
    have HS17:=hdd h17
    clear h17
    have hpl:=HP.out.2.rdr.place
    clear HP HS14 HS15 HRO HD
    go_wp2
    go_roundg (ws.length-((at2+1)+1))
    case measure=>omega
    case rel=>
     exact⟨(at2+1)+1,ps++[v2.text],a9,c9,by omega,by omega,hdd ⟨⟨g',H3.out⟩,HS17.out⟩⟩
   ·have hoi:¬(0:Int)<(ps.length:Int):=by omega
    clear ho
    obtain⟨⟨s0,s1,s2⟩,⟨y1,y2⟩⟩:=HS6.out.cells
    obtain⟨v2,hv2,hk2,rfl,rfl⟩:=Z3o hn
    have hvs:=(Z0J (HX.out.rdr.ok v2 (List.mem_of_getElem? hv2))).1
    have HVS:=hdd (show v2.text.size≤maxLen from by unfold maxLen;have:=(Z0J (HX.out.rdr.ok v2 (List.mem_of_getElem? hv2))).2.1;omega)
    clear hvs
    have H3:=hdd h3
    clear h3 hn
    have hpsl:ps.length≤3:=by
     obtain⟨m,hm⟩:=Z7r _ H3.out
     have h1:=HV.out.1.2.1
     rw [hm] at h1
     simp at h1
     omega
    go_upto_region 7 with fail
    clear s0 s1 s2 y1 y2
    have HD:=hdd (HS6.out.call (Zd.below (bRf w6.heap.size w6).drew) (HS6.out.rdr.later (bRf w6.heap.size w6).drew))
    refine Zw (S:=fun W:World=>W.cell? ⟨fb,1,none⟩=some (.slice pa ps.length pc)) (by kernel_rfl) ?_
    generalize w6.drew=wd at HD ⊢
    have hHeld:(fun W:World=>W.cell? ⟨fb,1,none⟩=some (.slice pa ps.length pc)) wd:=HD.out.cells.1.2.1
    refine tkL 1 0 (some 27) hHeld ?_
    (try simp only [Act.put,pu1,pu2,pu3])
    refine tkL 5 1 (some 28) hHeld ?_
    (try simp only [Act.put,pu1,pu2,pu3])
    refine tkL 3 2 (some 29) hHeld ?_
    (try simp only [Act.put,pu1,pu2,pu3])
    refine Z06 3 (some 30) fun K hK=>?_
    go_simp
    go_at_call 62
    refine(Z2I HD.out.rdr hv2 hk2).mono ?_
    rintro e w14 ⟨rfl,hr14,ht14⟩
    have HS14:=hdd (HD.out.call ht14 hr14)
    clear hr14 ht14
    refine kpL hK (HS14.out.cells.1.2.1) ?_
    clear hK K hHeld;intro hHeld
    (try simp only [Act.put,pu1,pu2,pu3])
    refine Z06 4 (some 31) fun K hK=>?_
    go_simp
    have hb15:Below w14.heap.size w14 (w14.alloc (.cells (List.toArray [.string v2.text]) 9)):=(bRf _ _).alloc (Nat.le_refl _) _
    have HS15:=hdd (HS14.out.call (Zd.below hb15) (HS14.out.rdr.later hb15))
    have HRO:=hdd (Zc w14 [.string v2.text] 9)
    clear hb15
    generalize w14.alloc (.cells (List.toArray [.string v2.text]) 9)=w15 at HS15 HRO ⊢
    refine kpL hK (HS15.out.cells.1.2.1) ?_
    clear hK K hHeld;intro hHeld
    (try simp only [Act.put,pu1,pu2,pu3])
    refine Z06 5 (some 32) fun K hK=>?_
    obtain⟨cells,hrows⟩:=HS15.out.hps.rows
    have hfs:=(gsI HS15.out.frow).1
    refine Z3W rfl (.tmp 28) (.tmp 31) rfl (fb+1) (.slice pa ps.length pc) ps.length _ rfl hrows.1 _ 1 1 [[.string v2.text]] rfl HRO.out rfl (by simp) (by intro cl hcl u hu;simp at hcl;subst hcl;simp at hu;subst hu;rfl) (by omega) hfs ?_
    intro a9 c9 w16 hown9 hg9 hlies9
    have hP:ZM 1 Z1V 9 (fun _=>False) (fb+1) w16 a9 (ps.length+1) c9 (ps++[v2.text]):=hrows.push Z3 rfl ⟨rfl,HVS.out⟩ (by simpa using hown9) hg9 hlies9
    have hlen:ps.length+1=(ps++[v2.text]).length:=by simp
    rw [hlen] at hP ⊢
    have HP:=hdd (HS15.out.grow hg9 (pa2:=a9) (pc2:=c9) (ps2:=ps++[v2.text]) hP)
    clear hP hrows hown9 hg9 hlies9 hfs hlen
    refine kpL hK ((coR _ _ 1 _ _ _ (HP.out.1.trans HS15.out.frow)).trans rfl) ?_
    clear hK K hHeld;intro hHeld
    (try simp only [Act.put,pu1,pu2,pu3])
    refine tkL 7 6 (some 33) hHeld ?_
    (try simp only [Act.put,pu1,pu2,pu3])
    refine Z06 7 none fun K hK=>?_
    have hr16:=HP.out.1.trans HS15.out.frow
    have k1:=coR _ _ 1 _ _ _ hr16
    have z1:=frR _ _ 1 _ _ hr16
    simp only [ga0,ga1,ga2] at k1
    go_simp
    clear k1 z1 hr16
    refine hK.out _ _ (Z15 (by kernel_rfl)) ?_
    clear hK K hHeld
    (try simp only [Act.put,pu1,pu2,pu3])
    refine Zq (by kernel_rfl) ?_ _
    have h17:=HP.out.2
    rw [show(ps++[v2.text]).length=ps.length+1 by simp] at h17
    have HS17:=hdd h17
    clear h17
    have hpl:=HP.out.2.rdr.place
    clear HP HS14 HS15 HRO HD
    go_wp2
    go_roundg (ws.length-(at2+1))
    case measure=>omega
    case rel=>
     exact⟨at2+1,ps++[v2.text],a9,c9,by omega,by omega,hdd ⟨⟨g',H3.out⟩,HS17.out⟩⟩
theorem Z9p (f:Nat):ZcD f:=ZaE f (Z7H f 4).2
theorem Z7F {g:Nat} {out p:List FnD} {ws:List Z7} (h:rdP g out ws=some p) :
  ∃g',g=g'+1∧((ws.length=0∧out=p)∨(ws.length≠0∧∃x r,rdF g' ws=some (x,r)∧rdP g' (out++[x]) r=some p)):=by
 cases g with
 | zero=>rw [rdP] at h;cases h
 | succ g=>
  refine⟨g,rfl,?_⟩
  rw [rdP] at h
  by_cases hl:ws.length=0
  ·rw [if_pos hl] at h;cases h;exact .inl ⟨hl,rfl⟩
  ·rw [if_neg hl] at h
   cases hf:rdF g ws with
   | none=>rw [hf] at h;cases h
   | some r=>rw [hf,Option.bind_some] at h;exact .inr ⟨hl,r.1,r.2,rfl,h⟩
theorem ZbP:∀(g:Nat) {out p:List FnD} {ws:List Z7},rdP g out ws=some p→∃more,p=out++more:=by
 intro g
 induction g with
 | zero=>intro out p ws h;rw [rdP] at h;cases h
 | succ g ih=>
  intro out p ws h
  obtain⟨g',hg,h1|⟨_,x,r,_,h3⟩⟩:=Z7F h
  ·exact⟨[],by rw [h1.2,List.append_nil]⟩
  ·cases hg
   obtain⟨m,hm⟩:=ih h3
   exact⟨x::m,by rw [hm];simp⟩
structure Z92 (w:World) (rb:Nat) (la:Option Addr) (lc:Nat) (ws:List Z7) (tb pb:Nat) (fa:Option Addr) (fc:Nat) (fns:List FnD) (at_:Nat) (wr:World):Prop where
 rdr:Z0u wr rb la lc ws at_
 prow:wr.heap[pb]? = some (.cells #[.slice fa fns.length fc] 25 (0,0))
 trow:wr.heap[tb]? = some (.cells #[.slice none 0 0] 25 (0,0))
 hfns:ZM 3 (FnP 4) 42 (fun k=>pb+1≤k) (pb+1) wr fa fns.length fc fns
 below:Below w.heap.size w wr
 blocks:w.heap.size≤tb∧tb<rb∧rb<pb
 words:∀b o,la=some ⟨b,o,none⟩→ws≠[]→b<rb∧b≠tb
section
variable {w wr w':World} {rb:Nat} {la:Option Addr} {lc:Nat} {ws:List Z7} {tb pb:Nat} {fa:Option Addr} {fc:Nat} {fns:List FnD} {at_ at2:Nat}
theorem Z92.own (h:Z92 w rb la lc ws tb pb fa fc fns at_ wr) {k:Nat} (hk:(Value.slice fa fns.length fc).ownBlock=some k):pb+1≤k∧k<wr.heap.size:=by
 obtain⟨cells,hr⟩:=h.hfns.rows
 exact hr.1.lt k hk
theorem Z92.call (h:Z92 w rb la lc ws tb pb fa fc fns at_ wr) (ht:Zd rb wr w') (hr:Z0u w' rb la lc ws at2):Z92 w rb la lc ws tb pb fa fc fns at2 w':=by
 have hb:=h.blocks
 have hs:=(gsI h.prow).1
 have hst:=(gsI h.trow).1
 have hsz:=h.below.size
 exact⟨hr,(ht.block hs (by omega)).trans h.prow,(ht.block hst (by omega)).trans h.trow,h.hfns.turned (Z2 4) (T:=fun k=>k=rb∨wr.heap.size≤k) ht (fun k hk h3=>by have:=h.own hk;rcases h3 with h3|h3<;>omega) (fun k h1 h2 h3=>by have h2:pb+1≤k:=h2;rcases h3 with h3|h3<;>omega),h.below.trans (Ze.below (S:=fun k=>k=rb∨wr.heap.size≤k) (B:=w.heap.size) ht hsz (fun k h=>by rcases h with h|h<;>omega)),hb,h.words⟩
theorem Z92.grow (h:Z92 w rb la lc ws tb pb fa fc fns at_ wr) (ht:wr.grownBy w' (Value.slice fa fns.length fc).ownBlock) {fa2:Option Addr} {fc2:Nat} {fns2:List FnD} (ha:ZM 3 (FnP 4) 42 (fun k=>pb+1≤k) (pb+1) w' fa2 fns2.length fc2 fns2) :
  w'.heap[pb]? = wr.heap[pb]?∧Z92 w rb la lc ws tb pb fa2 fc2 fns2 at_ (w'.setCell ⟨pb,0,none⟩ (.slice fa2 fns2.length fc2)):=by
 have hb:=h.blocks
 have hs:=(gsI h.prow).1
 have hst:=(gsI h.trow).1
 have hsz:=h.below.size
 have ht1:=Zi ht (S:=fun k=>pb+1≤k) (fun k hk=>(h.own hk).1)
 have hse:=ht1.block pb hs (by omega)
 have hte:=ht1.block tb hst (by omega)
 have h2:=Z4 w' pb 0 (.slice fa2 fns2.length fc2)
 have hpb2:pb<w'.heap.size:=Nat.lt_of_lt_of_le hs ht1.size
 have hr1:Z0u w' rb la lc ws at_:=Z9O h.rdr ht1 (fun h1=>by have h1:pb+1≤rb:=h1;omega) (fun b o h1 h2 h3=>by have h3:pb+1≤b:=h3;have:=h.words b o h1 h2;omega)
 obtain⟨cells,hr⟩:=ha.rows
 refine⟨hse,Z1C hr1 h2 (by omega) (fun b o h1 h2=>by have:=h.words b o h1 h2;omega),(hSs w' pb 0 _ _ _ (hse.trans h.prow)).trans rfl,(h2.block tb (by omega) (by omega)).trans (hte.trans h.trow),?_,?_,hb,h.words⟩
 ·exact ha.turned (Z2 4) h2 (fun k hk=>by have:=(hr.1.lt k hk).1;omega) (fun k _ h1=>by have h1:pb+1≤k:=h1;omega)
 ·exact(h.below.trans (ht1.below (B:=w.heap.size) hsz (fun k h=>by have h:pb+1≤k:=h;omega))).trans (h2.below (B:=w.heap.size) (by have:=ht1.size;omega) (fun k h=>by have h:k=pb:=h;omega))
theorem Z92.cells (h:Z92 w rb la lc ws tb pb fa fc fns at_ wr):(wr.cell? ⟨pb,0,none⟩=some (.slice fa fns.length fc)∧wr.frozen? ⟨pb,0,none⟩=false)∧wr.cell? ⟨tb,0,none⟩=some (.slice none 0 0)∧wr.frozen? ⟨tb,0,none⟩=false:=
 ⟨⟨(coR _ _ 0 _ _ _ h.prow).trans rfl,frR _ _ 0 _ _ h.prow⟩,(coR _ _ 0 _ _ _ h.trow).trans rfl,frR _ _ 0 _ _ h.trow⟩
end
def Z8w (w:World) (p:List FnD) (e:Ending) (w':World):Prop:=
 (∃a c b,e=.returned (.tuple #[.agg #[.slice a (if b then p.length else 0) c],.bool b])∧(b=true→Za 3 (FnP 4) (fun k=>w.heap.size≤k) w' a p))∧Below w.heap.size w w'
theorem ZbD {w w2:World} {la:Option Addr} {lc tb:Nat} {ws:List Z7} (hl:Za 2 Z3p (fun k=>tb<k) w2 la ws) (hok:∀v∈ws,ZV v) (hbig:ws.length≤4000000) (ht:w2.heap[tb]? = some (.cells #[.slice none 0 0] 25 (0,0))) (hb:Below w.heap.size w w2) (htw:w.heap.size≤tb) :
  Z92 w w2.heap.size la lc ws tb (w2.heap.size+1) none 0 [] 0 ((w2.alloc (.cells #[.slice la ws.length lc,.int .i64 0] 77)).alloc (.cells #[.slice none 0 0] 25)):=by
 have h1:Below w2.heap.size w2 (w2.alloc (.cells #[.slice la ws.length lc,.int .i64 0] 77)):=(bRf _ _).alloc (Nat.le_refl _) _
 have hr1:=hAn w2 (.cells #[.slice la ws.length lc,.int .i64 0] 77)
 have hs1:=World.size_alloc w2 (.cells #[.slice la ws.length lc,.int .i64 0] 77)
 generalize w2.alloc (.cells #[.slice la ws.length lc,.int .i64 0] 77)=w3 at h1 hr1 hs1 ⊢
 have h2:Below w3.heap.size w3 (w3.alloc (.cells #[.slice none 0 0] 25)):=(bRf _ _).alloc (Nat.le_refl _) _
 have hr2:=hAn w3 (.cells #[.slice none 0 0] 25)
 rw [hs1] at hr2
 have htl:=(gsI ht).1
 have h12:=h1.trans (h2.mono (by omega))
 have hls:Za 2 Z3p (fun k=>k≠w2.heap.size) w2 la ws:=hl.mono ZC (fun k h _=>by omega)
 refine⟨⟨(h2.block _ (by omega)).trans hr1,hls.below ZC h12,hok,hbig,Nat.zero_le _⟩,hr2,(h12.block tb htl).trans ht,ZM.nil _ _ _,hb.trans (h12.mono hb.size),⟨htw,by omega,by omega⟩,fun b o h3 h4=>?_⟩
 obtain⟨b',off,k1,k2,k3⟩:=hl.blk h4
 rw [h3] at k1
 cases k1
 exact⟨k3,by have k2:tb<b:=k2;omega⟩
theorem Z2w {p:List FnD} (h:Z0C p=true):p.length≤4∧∀x∈p,fnB x=true∧ZY (Z07 4) x.body≤40:=by
 simp only [Z0C,Z3Z,Bool.and_eq_true,decide_eq_true_eq,List.all_eq_true] at h
 exact⟨h.1.1.2,fun x hx=>⟨h.1.2 x hx,Nat.le_trans (Z6a (f:=fun f=>ZY (Z07 4) f.body) hx) h.2⟩⟩
theorem Z92.fin {w wr:World} {rb:Nat} {la:Option Addr} {lc:Nat} {ws:List Z7} {tb pb:Nat} {fa:Option Addr} {fc:Nat} {fns:List FnD} {at_:Nat} (h:Z92 w rb la lc ws tb pb fa fc fns at_ wr) :
  (wr.setCell ⟨tb,0,none⟩ (.slice fa fns.length fc)).heap[tb]? = some (.cells #[.slice fa fns.length fc] 25 (0,0))∧Za 3 (FnP 4) (fun k=>w.heap.size≤k) (wr.setCell ⟨tb,0,none⟩ (.slice fa fns.length fc)) fa fns∧Below w.heap.size w (wr.setCell ⟨tb,0,none⟩ (.slice fa fns.length fc)):=by
 have hb:=h.blocks
 have ht:=Z4 wr tb 0 (.slice fa fns.length fc)
 refine⟨(hSs wr tb 0 _ _ _ h.trow).trans rfl,?_,h.below.trans (ht.below (B:=w.heap.size) h.below.size (fun k h=>by have h:k=tb:=h;omega))⟩
 exact((h.hfns.list (Z2 4)).turned (Z2 4) ht (fun k _ h1 h2=>by have h2:k=tb:=h2;rcases h1 with h1|h1<;>omega)).mono (Z2 4) (fun k _ h1=>by rcases h1 with h1|h1<;>omega)
theorem Z4J (p:List FnD) (ws:List Z7) (f:Nat) (hr:rdP f [] ws=some p) (hok:∀v∈ws,ZV v) (hbig:ws.length≤4000000) (hv:Z0C p=true) (w:World) :
  Calls Tryz.prog 13 #[.string (Zl ws)] w (Z8w w p):=by
 have HC:=hdd (fun W=>Z4r ws hok hbig W)
 have HR:=hdd hr
 have HV:=hdd hv
 have HOK:=hdd hok
 clear hr hv hok
 obtain⟨T,hT⟩:∃T,T=Zl ws:=⟨_,rfl⟩
 rw [← hT] at HC ⊢
 clear hT
 have hba:Below w.heap.size w (w.alloc (.cells #[.slice none 0 0] 25)):=(bRf _ _).alloc (Nat.le_refl _) _
 have HT0:=hdd (aI (hAn w (.cells #[.slice none 0 0] 25)) (aI (World.size_alloc w (.cells #[.slice none 0 0] 25)) hba))
 clear hba
 go_enter Tryz.func13,Tryz.ntmps13
 go_wp2_with fail
 refine(HC.out _).mono ?_
 rintro e w2 hc2
 obtain⟨tb,htb⟩:∃n,n=w.heap.size:=⟨_,rfl⟩
 have HT2:=hdd (show w2.heap[tb]? = some (.cells #[.slice none 0 0] 25 (0,0))∧Below w.heap.size w w2∧tb=w.heap.size∧tb<w2.heap.size from by
  have h1:=HT0.out
  have h2:=hc2.2.2
  have h3:=h2.size
  exact⟨by rw [htb];exact(h2.block w.heap.size (by omega)).trans h1.1,h1.2.2.trans (h2.mono h1.2.2.size),htb,by omega⟩)
 rw [← htb]
 by_cases hsz:T.size≤3000∧ws.length≤600
 ·obtain⟨a,c,rfl,hl⟩:=hc2.1 hsz
  have HL:=hdd hl
  clear hc2 htb hl
  have HST:=hdd (ZbD (w:=w) (tb:=tb) (lc:=c) (HL.out.mono ZC (fun k _ hk=>by have h1:=HT0.out.2.1;have h2:=HT2.out.2.2.1;have hk:(w.alloc (.cells #[.slice none 0 0] 25)).heap.size≤k:=hk;omega)) HOK.out hbig HT2.out.1 HT2.out.2.1 (by rw [HT2.out.2.2.1];exact Nat.le_refl _))
  go_wp2_with fail
  obtain⟨rb,hrb⟩:∃n,n=w2.heap.size:=⟨_,rfl⟩
  obtain⟨pb,hpb⟩:∃n,n=rb+1:=⟨_,rfl⟩
  generalize (w2.alloc (.cells #[.slice a ws.length c,.int .i64 0] 77)).alloc (.cells #[.slice none 0 0] 25)=w3 at HST ⊢
  rw [← hrb] at HST ⊢
  rw [← hpb] at HST ⊢
  clear hrb hpb HT0 HL
  have HRF:=hdd Z9p
  have HP4:=hdd (Z2w HV.out)
  go_loopg [] ws.length (fun G wr=>∃(at2:Nat) (fns:List FnD) (fa:Option Addr) (fc:Nat),at2+G=ws.length∧Hid ((∃g,rdP g fns (ws.drop at2)=some p)∧Z92 w rb a c ws tb pb fa fc fns at2 wr))
  case atStart=>exact⟨0,[],none,0,by omega,hdd ⟨⟨f,HR.out⟩,HST.out⟩⟩
  case round=>
   obtain⟨at2,fns,fa,fc,hG,HX⟩:=hrel
   obtain⟨⟨g,hg⟩,hst⟩:=HX.out
   obtain⟨g',rfl,hcase⟩:=Z7F hg
   obtain⟨k0,k1,z1⟩:=hst.rdr.cells
   have hge:¬(at2:Int)<0:=by omega
   have hge2:(0:Int)≤(at2:Int):=by omega
   have hpl0:=hst.rdr.place
   rcases hcase with⟨h1,h2⟩|⟨h1,x,r,hf,h3⟩
   ·have hat:¬(at2:Int)<(ws.length:Int):=by rw [List.length_drop] at h1;omega
    have HS:=hdd hst
    have HE:=hdd h2
    have HPV:=hdd (show Calls Tryz.prog 28 #[.agg (List.toArray [.slice fa fns.length fc])] wr fun e w'=>e=.returned (.bool true)∧Below wr.heap.size wr w' from by
     have h:=Z2q 4 _ fa fc fns wr (hst.hfns.list (Z2 4)) (by rw [h2];have:=HP4.out.1;omega)
     rw [h2,HV.out] at h
     rw [h2]
     exact h)
    clear h1 h2 hg hst HX
    obtain⟨⟨p0,x0⟩,t0,y0⟩:=HS.out.cells
    go_wp2_with fail
    refine HPV.out.mono ?_
    rintro e w6 ⟨rfl,hb6⟩
    have HS6:=hdd (HS.out.call (Zd.below hb6) (HS.out.rdr.later hb6))
    clear hb6 p0 x0 t0 y0 k0 k1 z1
    obtain⟨⟨p0,x0⟩,t0,y0⟩:=HS6.out.cells
    have HFIN:=hdd (HS6.out.fin)
    go_wp2
    refine bodyPost_ret (Z09 rfl _ _ tb 25 #[.slice fa fns.length fc] (0,0) _ rfl HFIN.out.1 Tryz.underlying25 rfl (by kernel_rfl)) rfl ?_
    rw [← HE.out]
    exact⟨⟨fa,fc,true,rfl,fun _=>HFIN.out.2.1⟩,HFIN.out.2.2⟩
   ·have hat:(at2:Int)<(ws.length:Int):=by rw [List.length_drop] at h1;omega
    obtain⟨more,hm⟩:=ZbP _ h3
    have hfl:fns.length≤4:=by have:=HP4.out.1;rw [hm] at this;simp at this;omega
    have HXP:=hdd (HP4.out.2 x (by rw [hm];simp))
    have HH:=hdd (show rdF g' (ws.drop at2)=some (x,r)∧rdP g' (fns++[x]) r=some p∧fnB x=true∧ZY (Z07 4) x.body≤40 from⟨hf,h3,HXP.out.1,HXP.out.2⟩)
    have HS:=hdd hst
    clear h1 hf h3 hm hg hst HX more
    go_upto_region 7 with fail
    clear k0 k1 z1
    have HD:=hdd (HS.out.call (Zd.below (bRf wr.heap.size wr).drew) (HS.out.rdr.later (bRf wr.heap.size wr).drew))
    have HOW:=hdd (show ∀k,wr.drew.heap.size≤k→(pb+1≤k)∧¬(Value.slice fa fns.length fc).ownBlock=some k from fun k hk=>by
     have h1:=(gsI HD.out.prow).1
     exact⟨by omega,fun e=>by have:=(HD.out.own e).2;omega⟩)
    refine Zw (S:=fun W:World=>W.cell? ⟨pb,0,none⟩=some (.slice fa fns.length fc)) (by kernel_rfl) ?_
    generalize wr.drew=wd at HD HOW ⊢
    have hHeld:(fun W:World=>W.cell? ⟨pb,0,none⟩=some (.slice fa fns.length fc)) wd:=HD.out.cells.1.1
    refine tkL 1 0 (some 34) hHeld ?_
    (try simp only [Act.put,pu1,pu2,pu3])
    refine tkL 5 1 (some 35) hHeld ?_
    (try simp only [Act.put,pu1,pu2,pu3])
    refine tkL 3 2 (some 36) hHeld ?_
    (try simp only [Act.put,pu1,pu2,pu3])
    refine Z06 3 (some 37) fun K hK=>?_
    go_simp
    go_at_call 36
    refine(HRF.out g' _ rb a c ws at2 x r HD.out.rdr HH.out.1 HH.out.2.2.1 HH.out.2.2.2).mono ?_
    rintro e w14 ⟨cs,at3,rfl,hfp,hr14,hdr,hlt3,ht14⟩
    have HS14:=hdd (HD.out.call ht14 hr14)
    have HD3:=hdd (aI hdr hlt3)
    obtain⟨xa,xc,ba,bc,rfl⟩:=Z8K (d:=4) (S:=fun k=>wd.heap.size≤k) hfp
    have HFP:=hdd hfp
    clear hr14 ht14 hdr hlt3 hfp
    refine kpL hK (HS14.out.cells.1.1) ?_
    clear hK K hHeld;intro hHeld
    (try simp only [Act.put,pu1,pu2,pu3])
    refine Z06 4 (some 38) fun K hK=>?_
    go_simp
    have hb15:Below w14.heap.size w14 (w14.alloc (.cells (List.toArray [.string x.name,.slice xa x.params.length xc,.slice ba x.body.length bc]) 42)):=(bRf _ _).alloc (Nat.le_refl _) _
    have HS15:=hdd (HS14.out.call (Zd.below hb15) (HS14.out.rdr.later hb15))
    have HFP15:=hdd ((Z2 4).below hb15 HFP.out)
    have HRO:=hdd (Zc w14 [.string x.name,.slice xa x.params.length xc,.slice ba x.body.length bc] 42)
    clear hb15
    generalize w14.alloc (.cells (List.toArray [.string x.name,.slice xa x.params.length xc,.slice ba x.body.length bc]) 42)=w15 at HS15 HRO HFP15 ⊢
    refine kpL hK (HS15.out.cells.1.1) ?_
    clear hK K hHeld;intro hHeld
    (try simp only [Act.put,pu1,pu2,pu3])
    refine Z06 5 (some 39) fun K hK=>?_
    obtain⟨cells,hrows⟩:=HS15.out.hfns.rows
    have hfs:=(gsI HS15.out.prow).1
    refine Z4A rfl (.tmp 35) (.tmp 38) rfl (pb+1) (.slice fa fns.length fc) fns.length _ rfl hrows.1 _ 1 1 [[.string x.name,.slice xa x.params.length xc,.slice ba x.body.length bc]] rfl HRO.out rfl (by simp) (by intro cl hcl u hu;simp at hcl;subst hcl;simp at hu;rcases hu with rfl|rfl|rfl<;>rfl) (by omega) hfs ?_
    intro a9 c9 w16 hown9 hg9 hlies9
    have hP:ZM 3 (FnP 4) 42 (fun k=>pb+1≤k) (pb+1) w16 a9 (fns.length+1) c9 (fns++[x]):=hrows.push (Z2 4) rfl ((Z2 4).mono (fun k _ hk=>HOW.out k hk) HFP15.out) (by simpa using hown9) hg9 hlies9
    have hlen:fns.length+1=(fns++[x]).length:=by simp
    rw [hlen] at hP ⊢
    have HP:=hdd (HS15.out.grow hg9 (fa2:=a9) (fc2:=c9) (fns2:=fns++[x]) hP)
    clear hP hrows hown9 hg9 hlies9 hfs hlen
    refine kpL hK ((coR _ _ 0 _ _ _ (HP.out.1.trans HS15.out.prow)).trans rfl) ?_
    clear hK K hHeld;intro hHeld
    (try simp only [Act.put,pu1,pu2,pu3])
    refine tkL 7 6 (some 40) hHeld ?_
    (try simp only [Act.put,pu1,pu2,pu3])
    refine Z06 7 none fun K hK=>?_
    have hr16:=HP.out.1.trans HS15.out.prow
    have k1:=coR _ _ 0 _ _ _ hr16
    have z1:=frR _ _ 0 _ _ hr16
    simp only [ga0,ga1] at k1
    go_simp
    clear k1 z1 hr16
    refine hK.out _ _ (Z15 (by kernel_rfl)) ?_
    clear hK K hHeld
    (try simp only [Act.put,pu1,pu2,pu3])
    refine Zq (by kernel_rfl) ?_ _
    have h17:=HP.out.2
    rw [show(fns++[x]).length=fns.length+1 by simp] at h17
    have HS17:=hdd h17
    clear h17
    have hpl:=HP.out.2.rdr.place
    have hl3:=HD3.out.2
    have HR3:=hdd (show rdP g' (fns++[x]) (ws.drop at3)=some p from by rw [HD3.out.1];exact HH.out.2.1)
    clear HP HS14 HS15 HRO HD HFP HFP15 HOW
    go_wp2
    go_roundg (ws.length-at3)
    case measure=>omega
    case rel=>
     exact⟨at3,fns++[x],a9,c9,by omega,hdd ⟨⟨g',HR3.out⟩,HS17.out⟩⟩
 ·obtain⟨a,c,rfl⟩:=hc2.2.1 hsz
  clear hc2 htb HT0
  have t0:=coR _ _ 0 _ _ _ HT2.out.1
  have x0:=frR _ _ 0 _ _ HT2.out.1
  simp only [ga0,ga1] at t0
  go_wp2
  have ht:=Z4 w2 tb 0 (.slice none 0 0)
  refine bodyPost_ret (Z09 rfl _ _ tb 25 #[.slice none 0 0] (0,0) _ rfl ((hSs w2 tb 0 _ _ _ HT2.out.1).trans rfl) Tryz.underlying25 rfl (by kernel_rfl)) rfl ?_
  exact⟨⟨none,0,false,rfl,by simp⟩,HT2.out.2.1.trans (ht.below (B:=w.heap.size) HT2.out.2.1.size (fun k h=>by have h:k=tb:=h;have:=HT2.out.2.2.1;omega))⟩
end Go.Proofs.YtloooebabieeeaaGreatDoor
