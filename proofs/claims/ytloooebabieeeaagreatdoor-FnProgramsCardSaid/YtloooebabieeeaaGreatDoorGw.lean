/-
  The reference draws programs: statements are put at the end of a list; a block.
-/
import Derived.Test.YtloooebabieeeaaGreatDoorCp
import Derived.Test.YtloooebabieeeaaGreatDoorGn
import Derived.Deep.LoopGhost
set_option maxRecDepth 100000
set_option maxHeartbeats 16000000
set_option linter.unusedVariables false
namespace Go.Proofs.YtloooebabieeeaaGreatDoor
open Go.RowKit
theorem Z5A:(Tryz.prog.info? 48).map (fun i=>(i.zero,i.size,i.bytes))=some (some (.agg #[.int .i64 0,.string ⟨#[]⟩,.slice none 0 0,.slice none 0 0,.slice none 0 0]),5,96):=by kernel_rfl
theorem Z5G:Tryz.prog.underlying 40=some (.slice 48):=by kernel_rfl
theorem Z1A {α : Type} {s:Nat}:∀{cs:List (List α)},(∀c∈cs,c.length=s)→cs.flatten.length=cs.length*s
 | [],_=>by simp
 | c::cs,h=>by rw [List.flatten_cons,List.length_append,Z1A (fun d hd=>h d (List.mem_cons_of_mem _ hd)),h c List.mem_cons_self,List.length_cons,Nat.add_mul];omega
section
variable {w:World} {ops:Array Oper} {rest:List Oper} {o:Oper} {a:Act} {Q:Exit→Act→World→Prop}
theorem Z7a (hgd:o.guard=none) (s x:Operand) (ho:o.op=.call { callee:=.builtin .append,args:=#[s,x],argTypes:=#[40,40] })
  (base:Nat) (v:Value) (n:Nat) (xs:List Value) (hs:a.eval s=v) (hown:w.ownsRow base 48 5 v n xs)
  (ao:Option Addr) (m c:Nat) (cells:List (List Value)) (hx:a.eval x=.slice ao m c) (hrow:Z0g w ao cells.flatten) (hm:cells.length=m) (hl:∀cl∈cells,cl.length=5) (hnil:ao=none→c=0) (hone:∀cl∈cells,∀u∈cl,u.oneCell'=true)
  (hb:n+m≤1099511627776) (hbase:base≤w.heap.size)
  (h:∀a' c' w',w'.ownsRow base 48 5 (.slice a' (n+m) c') (n+m) (xs++cells.flatten)→w.grownBy w' v.ownBlock→
   ((Value.slice a' (n+m) c').ownBlock=v.ownBlock∨(Value.slice a' (n+m) c').ownBlock=some w.heap.size)→wpList Tryz.prog ops Q rest (a.put o.dst (.slice a' (n+m) c')) w'):wpList Tryz.prog ops Q (o::rest) a w:=by
 obtain⟨i0,hi,hz0,hz1,hz2⟩:=info_parts Z5A
 exact Z18 hgd s x 40 ho base 48 i0 (.agg #[.int .i64 0,.string ⟨#[]⟩,.slice none 0 0,.slice none 0 0,.slice none 0 0]) 5 96 Z5G hi hz0 hz1 hz2 rfl (by decide) v n xs hs hown ao m c _ hx (by rw [Z1A hl,hm]) hrow hnil (by
  intro u hu
  obtain⟨cl,h1,h2⟩:=List.mem_flatten.1 hu
  exact hone cl h1 u h2) (by unfold maxLen;omega) (by omega) hbase h
end
section
variable {w:World} {ops:Array Oper} {o:Oper} {a:Act} {K:Act→World→Prop} {E:Prop} {Q:Exit→Act→World→Prop}
theorem Z3j (hgd:o.guard=none) (s x:Operand) (ho:o.op=.call { callee:=.builtin .append,args:=#[s,x],argTypes:=#[40,40] })
  (base:Nat) (v:Value) (n:Nat) (xs:List Value) (hs:a.eval s=v) (hown:w.ownsRow base 48 5 v n xs)
  (ao:Option Addr) (m c:Nat) (cells:List (List Value)) (hx:a.eval x=.slice ao m c) (hrow:Z0g w ao cells.flatten) (hm:cells.length=m) (hl:∀cl∈cells,cl.length=5) (hnil:ao=none→c=0) (hone:∀cl∈cells,∀u∈cl,u.oneCell'=true)
  (hb:n+m≤1099511627776) (hbase:base≤w.heap.size)
  (h:∀a' c' w',w'.ownsRow base 48 5 (.slice a' (n+m) c') (n+m) (xs++cells.flatten)→w.grownBy w' v.ownBlock→
   ((Value.slice a' (n+m) c').ownBlock=v.ownBlock∨(Value.slice a' (n+m) c').ownBlock=some w.heap.size)→K (a.put o.dst (.slice a' (n+m) c')) w') :
  if Region.wanted o (yielded ops a.tmps)=true then Oper.wp Tryz.prog o a w K Q else E:=by
 obtain⟨i0,hi,hz0,hz1,hz2⟩:=info_parts Z5A
 exact Z2e hgd s x 40 ho base 48 i0 (.agg #[.int .i64 0,.string ⟨#[]⟩,.slice none 0 0,.slice none 0 0,.slice none 0 0]) 5 96 Z5G hi hz0 hz1 hz2 rfl (by decide) v n xs hs hown ao m c _ hx (by rw [Z1A hl,hm]) hrow hnil (by
  intro u hu
  obtain⟨cl,h1,h2⟩:=List.mem_flatten.1 hu
  exact hone cl h1 u h2) (by unfold maxLen;omega) (by omega) hbase h
end
theorem Z0a {d:Nat} {S:Nat→Prop} {w:World} {cl:List Value} {x:Zb} (h:Zv d S w cl x):∀u∈cl,u.oneCell'=true:=by
 obtain⟨aa,ac,ba,bc,ea,ec,rfl⟩:=Z2C h
 intro u hu
 simp only [List.mem_cons,List.not_mem_nil,or_false] at hu
 rcases hu with rfl|rfl|rfl|rfl|rfl<;>rfl
theorem ZM.keep {α : Type} {s:Nat} {R:Z2u α} (hR:Z1g s R) {e:TypeId} {S T:Nat→Prop} {lo:Nat} {w w':World} {a:Option Addr} {n c:Nat} {xs:List α} (h:ZM s R e S lo w a n c xs) (ht:Ze T w w') (hT:∀k,lo≤k→k<w.heap.size→¬T k) (hS:∀k,S k→lo≤k):ZM s R e S lo w' a n c xs:=by
 obtain⟨cells,k1,-⟩:=h.row
 exact h.turned hR ht (fun k hk=>hT k (k1.lt k hk).1 (k1.lt k hk).2) (fun k hk h1=>hT k (hS k h1) hk)
section
variable {w0:World} {br bg:Nat} {a:Option Addr} {len cap:Nat} {bs:List Int} {fa:Option Addr} {fc:Nat} {fns:List FnD}
theorem Z40 (hlen:len≤2000) (dq:Int) (d cS:Nat) (F:GS→List Zb×GS) (hS:Zag w0 br bg a len cap bs fa fc fns dq d cS F):Z64 w0 br bg a len cap bs fa fc fns dq d (4*cS+1) (Z5D bs F):=by
 intro u va vc vars next left w h hv hu
 have HU:=hdd hu
 have HVC:=hdd hv
 have HS:=hdd hS
 have HL:=hdd h.lts
 have HW0:=hdd (show w0.heap.size≤w.heap.size from by obtain⟨p,_,hp⟩:=h.rd;exact hp.below.size)
 have c0:=h.c0
 have c2:=h.c2
 have H0:=hdd h
 clear hv hu hS h
 go_enter Tryz.func56,Tryz.ntmps56
 go_upto_region 3 with fail
 clear c2
 have HE:=hdd (ZM.empty (s:=5) (R:=Zv d) (e:=48) (fun k=>w.heap.size≤k) w.heap.size w (Nat.le_refl _))
 have HB1:=hdd (show Below w.heap.size w (w.alloc (.cells #[] 48)) from(bRf _ _).alloc (Nat.le_refl _) _)
 have HPA:=hdd (show Z5 (w.alloc (.cells #[] 48)) br=Z5 w br from Zo HL.out.1)
 have HSZ:=hdd (show(w.alloc (.cells #[] 48)).heap.size=w.heap.size+1 from World.size_alloc _ _)
 obtain⟨ob,hob⟩:∃n,n=w.heap.size:=⟨_,rfl⟩
 generalize w.alloc (.cells #[] 48)=W1 at HE HB1 HSZ HPA ⊢
 have HG1:=hdd (H0.out.later HB1.out)
 have HOB:=hdd hob
 replace HE:=hdd (show ZM 5 (Zv d) 48 (fun k=>w.heap.size≤k) w.heap.size W1 (some ⟨ob,0,none⟩) 0 0 [] from by rw [hob];exact HE.out)
 rw [← hob]
 clear hob
 obtain⟨p,hp,hrd⟩:=HG1.out.rd
 have HP:=hdd hp
 have c0:=HG1.out.c0
 have HNUM:=hdd (show Calls Tryz.prog 33 #[.pointer (some ⟨br,0,none⟩),.slice (some ⟨W1.heap.size,0,none⟩) 4 4] (W1.alloc (.cells #[.int .i64 2,.int .i64 3,.int .i64 1,.int .i64 4] 3)) fun e W'=>∃v:Nat,e=.returned (.int .i64 v)∧v≤4∧Hid (GSt w0 br bg a len cap bs fa fc fns (u+1) va vc vars next left W'∧Zf br bg W1 W'∧Z2Y bs [2,3,1,4] (Z5 w br)=(v:Int)∧Z5 W' br=Z5 w br+1) from by
  refine(Z1e w0 _ br a len cap bs p W1.heap.size 4 4 [2,3,1,4] (hrd.later' ((bRf _ _).alloc (Nat.le_refl _) _)) (Z7w W1 [2,3,1,4]) (by have:=HG1.out.lts;omega) (by omega) hlen (by have:=HP.out;have:=HU.out;omega)).mono ?_
  rintro e W' ⟨v,hv,rfl,hrd',hg',hFv⟩
  have hpw:Z5 w br=p:=by rw [← HPA.out,hrd.pos]
  simp only [List.mem_cons,List.not_mem_nil,or_false] at hv
  refine⟨v.toNat,by rcases hv with rfl|rfl|rfl|rfl<;>rfl,by omega,hdd ⟨(HG1.out.alloc _).step (Zd.grown hg') hrd' (by have:=HP.out;omega) (by omega),(Zf.alloc W1 _).trans (Zf.of (Zd.grown hg')),by rw [hpw,hFv];rcases hv with rfl|rfl|rfl|rfl<;>rfl,by rw [hpw,hrd'.pos]⟩⟩)
 clear hrd hp
 go_wp2_with fail
 refine HNUM.out.mono ?_
 rintro e w3 ⟨v,rfl,hv4,hx3⟩
 have HE3:=hdd (HE.out.turned (Z0 d) (T:=fun k=>k=br∨k=bg∨W1.heap.size≤k) hx3.out.2.1 (fun k hk=>by simp only [Value.ownBlock,Option.some.injEq] at hk;have:=HL.out;have:=HOB.out;have:=HSZ.out;omega) (fun k hk h=>by have:=HL.out;have h:w.heap.size≤k:=h;omega))
 have HR0:=hdd (show Z5D bs F ⟨Z5 w br,vars,next,left⟩=((Z1L F v [] ⟨Z5 w3 br,vars,next,left⟩).1,⟨(Z1L F v [] ⟨Z5 w3 br,vars,next,left⟩).2.p,vars,(Z1L F v [] ⟨Z5 w3 br,vars,next,left⟩).2.next,(Z1L F v [] ⟨Z5 w3 br,vars,next,left⟩).2.left⟩) by
  simp only [Z5D,hx3.out.2.2.1,hx3.out.2.2.2,Int.toNat_natCast])
 have HT3:=hdd ((Zf.below HB1.out:Zf br bg w W1).trans hx3.out.2.1)
 have HV3:=hdd (HT3.out.list Z3 ((H0.out.vlist.here Z3).mono (S':=fun j=>j≠br∧j≠bg∧¬(Value.slice (some ⟨ob,0,none⟩) 0 0).ownBlock=some j) Z3 (fun k _ h=>⟨h.1.1,h.1.2,fun e=>by simp only [Value.ownBlock,Option.some.injEq] at e;have:=HOB.out;have:=h.2;omega⟩)) (fun k h=>⟨h.1,h.2.1⟩))
 clear c0 HNUM
 go_wp2_with fail
 go_loopg [6,7] v (fun G o i wr=>∃(k:Nat) (b':Option Addr) (c:Nat) (xs:List Zb) (va':Option Addr) (vc':Nat) (vars':List ByteArray) (next' left':Int),k=G∧i=.int .i64 k∧o=.slice b' xs.length c∧Hid (k≤v∧xs.length≤2*(v-k)∧ZM 5 (Zv d) 48 (fun j=>w.heap.size≤j) w.heap.size wr b' xs.length c xs∧GSt w0 br bg a len cap bs fa fc fns (u+1+(v-k)*cS) va' vc' vars' next' left' wr∧(va'=none→vc'=0)∧Zf br bg w wr∧Za 1 Z1V (fun j=>j≠br∧j≠bg∧¬(Value.slice b' xs.length c).ownBlock=some j) wr va' vars'∧Z1L F k xs ⟨Z5 wr br,vars',next',left'⟩=Z1L F v [] ⟨Z5 w3 br,vars,next,left⟩))
 case atStart=>exact⟨v,_,_,[],va,vc,vars,next,left,rfl,rfl,rfl,hdd ⟨Nat.le_refl _,Nat.zero_le _,HE3.out,by rw [Nat.sub_self,Nat.zero_mul];exact hx3.out.1,HVC.out,HT3.out,HV3.out,rfl⟩⟩
 case round=>
  obtain⟨k,b',c,xs,va',vc',vars',next',left',rfl,rfl,rfl,HR1⟩:=hrel
  have HRF:=hdd HR1.out.2.2.2.2.2.2.2
  have HR:=hdd (aI HR1.out.1 (aI HR1.out.2.1 (aI HR1.out.2.2.1 (aI HR1.out.2.2.2.1 (aI HR1.out.2.2.2.2.1 (aI HR1.out.2.2.2.2.2.1 HR1.out.2.2.2.2.2.2.1))))))
  clear HR1
  have HG:=hdd HR.out.2.2.2.1
  have HC:=hdd (show(v-k)*cS≤4*cS from Nat.mul_le_mul_right _ (by omega))
  have HC1:=hdd (fun hk:¬k=0=>show(v-k)*cS+cS≤4*cS from by
   have h1:(v-k+1)*cS≤4*cS:=Nat.mul_le_mul_right _ (by have:=HR.out.1;omega)
   rw [Nat.add_mul,Nat.one_mul] at h1
   exact h1)
  by_cases hk:k=0
  ·have hk2:decide ((0:Int)<(k:Int))=false:=decide_eq_false (by omega)
   have c2:=HG.out.c2
   have f2:=HG.out.f 2
   have HSV:=hdd ((HG.out.more (show u+1+(v-k)*cS≤u+(4*cS+1) by have:=HC.out;omega)).setVars (vc':=vc) (HR.out.2.2.2.2.2.1.list Z3 H0.out.vlist (fun k h=>h)) (by have:=H0.out.bnd.1;omega))
   have HK2:=hdd (HR.out.2.2.1.keep (Z0 d) (T:=fun k=>k=bg) (Z4 wr bg 2 (.slice va vars.length vc)) (fun k h1 h2 h3=>by have:=HL.out;omega) (fun k h=>h))
   go_wp2
   go_ret
   exact⟨b',c,xs,next',left',rfl,by have:=HR.out.2.1;omega,HK2.out,HSV.out.1,HR.out.2.2.2.2.2.1.trans HSV.out.2,by subst hk;rw [Z0b (by have:=HG.out.base;omega),HR0.out,← HRF.out];rfl⟩
  ·by_cases hleft:left'≤0
   ·have c4:=HG.out.c4
    have hleft2:decide (0<left')=false:=decide_eq_false (by omega)
    have hk2:decide ((0:Int)<(k:Int))=true:=decide_eq_true (by omega)
    have c2:=HG.out.c2
    have f2:=HG.out.f 2
    have HSV:=hdd ((HG.out.more (show u+1+(v-k)*cS≤u+(4*cS+1) by have:=HC.out;omega)).setVars (vc':=vc) (HR.out.2.2.2.2.2.1.list Z3 H0.out.vlist (fun k h=>h)) (by have:=H0.out.bnd.1;omega))
    have HK2:=hdd (HR.out.2.2.1.keep (Z0 d) (T:=fun k=>k=bg) (Z4 wr bg 2 (.slice va vars.length vc)) (fun k h1 h2 h3=>by have:=HL.out;omega) (fun k h=>h))
    go_wp2
    go_ret
    exact⟨b',c,xs,next',left',rfl,by have:=HR.out.2.1;omega,HK2.out,HSV.out.1,HR.out.2.2.2.2.2.1.trans HSV.out.2,by
     obtain⟨k',rfl⟩:∃k',k=k'+1:=⟨k-1,by omega⟩
     have hrf:Z1L F (k'+1) xs ⟨Z5 wr br,vars',next',left'⟩=(xs,⟨Z5 wr br,vars',next',left'⟩):=by rw [Z1L,if_neg (by show ¬0<left';omega)]
     rw [Z0b (by have:=HG.out.base;omega),HR0.out,← HRF.out,hrf]⟩
   ·have c4:=HG.out.c4
    have hleft2:decide (0<left')=true:=decide_eq_true (by omega)
    have hk2:decide ((0:Int)<(k:Int))=true:=decide_eq_true (by omega)
    have HCS:=hdd (show(v-(k-1))*cS=(v-k)*cS+cS from by
     have:v-(k-1)=(v-k)+1:=by have:=HR.out.1;omega
     rw [this,Nat.add_mul,Nat.one_mul])
    have HSC:=hdd (HS.out (u+1+(v-k)*cS) va' vc' vars' next' left' wr HG.out HR.out.2.2.2.2.1 (by have:=HC.out;have:=HU.out;have:=HC1.out hk;omega))
    obtain⟨cells,hrows⟩:=HR.out.2.2.1.rows
    have HRW:=hdd hrows
    clear hrows
    go_wp2_with fail
    refine HSC.out.mono ?_
    rintro e w5 ⟨b5,c5,ys,va5,vc5,vars5,next5,left5,rfl,hl5,hn5,hx5,hg5,hv5,hvk5,ht5,hF5⟩
    have HRF5:=hdd (show Z1L F (k-1) (xs++ys) ⟨Z5 w5 br,vars5,next5,left5⟩=Z1L F v [] ⟨Z5 w3 br,vars,next,left⟩ by
     obtain⟨k',rfl⟩:∃k',k=k'+1:=⟨k-1,by omega⟩
     rw [← HRF.out,Z1L,if_pos (by show 0<left';omega),hF5];rfl)
    clear hF5
    obtain⟨hlr,cls,hrow5,hlen5,hcl5,hR5⟩:=hx5.rd
    have HOWN:=hdd (fun j (hj:(Value.slice b' xs.length c).ownBlock=some j)=>HRW.out.1.lt j hj)
    have HT5:=hdd (HR.out.2.2.2.2.2.1.trans ht5)
    have HVL5:=hdd (hvk5 (fun j=>(Value.slice b' xs.length c).ownBlock=some j) (fun j hj=>(HOWN.out j hj).2) HR.out.2.2.2.2.2.2)
    have HK5:=hdd (HR.out.2.2.1.keep (Z0 d) (T:=fun k=>k=br∨k=bg∨wr.heap.size≤k) ht5 (fun k h1 h2 h3=>by have:=HL.out;omega) (fun k h=>h))
    obtain⟨cells5,hrows5⟩:=HK5.out.rows
    have HXR:=hdd (show ∀(i:Nat) cl x,cls[i]? = some cl→ys[i]? = some x→Zv d (fun k=>w.heap.size≤k∧¬(Value.slice b' xs.length c).ownBlock=some k) w5 cl x from fun i cl x h1 h2=>(Z0 d).mono (fun k _ hk=>⟨by have:=HR.out.2.2.2.2.2.1.size;have hk:wr.heap.size≤k:=hk;omega,fun e=>by have:=(HOWN.out k e).2;have hk:wr.heap.size≤k:=hk;omega⟩) (hR5 i cl x h1 h2))
    have HONE:=hdd (show ∀cl∈cls,∀u∈cl,u.oneCell'=true from fun cl hcl=>by
     obtain⟨i,hi,rfl⟩:=List.getElem_of_mem hcl
     exact Z0a (hR5 i _ _ (List.getElem?_eq_getElem hi) (List.getElem?_eq_getElem (by omega))))
    have HG5:=hdd (aI hg5 (aI hv5 (aI hl5 (aI hlen5 hcl5))))
    have hbig:xs.length+ys.length≤1099511627776:=by have:=HR.out.2.1;have:=HR.out.1;omega
    have hsz5:=HT5.out.size
    clear hg5 hv5 hvk5 ht5 hx5 hR5 c4 HRW cells
    go_wp2_with (at_builtin;refine Z7a rfl (.tmp 30) (.tmp 33) rfl w.heap.size _ xs.length _ rfl hrows5.1 b5 ys.length c5 cls rfl hrow5 hlen5 hcl5 hn5 HONE.out hbig hsz5 ?_;intro a9 c9 w9 hown9 hg9 hlies9)
    have HT9:=hdd (Zf.grown hg9 (fun i hi=>(HOWN.out i hi).1) HT5.out)
    have hturn:=Zi hg9 (S:=fun k=>(Value.slice b' xs.length c).ownBlock=some k) (fun k hk=>hk)
    have HP9:=hdd (show Z5 w9 br=Z5 w5 br from Z1u hturn HG5.out.1.lts.1 (fun e=>by have:=(HOWN.out br e).1;have:=HL.out;omega))
    have HV9:=hdd (show Za 1 Z1V (fun j=>j≠br∧j≠bg∧¬(Value.slice a9 (xs.length+ys.length) c9).ownBlock=some j) w9 va5 vars5 from
     ((HVL5.out.here Z3).turned Z3 hturn (fun k _ h1 h2=>h1.1.2.2 h2)).mono Z3 (fun k _ h=>⟨h.1.1,h.1.2.1,fun e=>by
      rcases hlies9 with hl|hl
      ·exact h.1.2.2 (hl▸e)
      ·rw [hl] at e
       have:=Option.some.inj e
       have:=h.2
       omega⟩))
    have HG9:=hdd (HG5.out.1.other hturn (fun k hk h1=>by have:=(HOWN.out k h1).1;have:=HL.out;have:=HW0.out;omega) (HV9.out.mono Z3 (fun k _ h=>⟨h.1,h.2.1⟩)) (HT9.out.list (Z2 20) H0.out.flist (fun k h=>h)))
    have HK9:=hdd (show ZM 5 (Zv d) 48 (fun j=>w.heap.size≤j) w.heap.size w9 a9 (xs++ys).length c9 (xs++ys) from by
     rw [List.length_append]
     exact Z1Y.pushes (Z0 d) hrows5 rfl hlen5 hcl5 HXR.out hown9 hg9 hlies9)
    have HLEN:=hdd (show(xs++ys).length≤2*(v-(k-1)) from by rw [List.length_append];have:=HR.out.2.1;have:=HG5.out.2.2.1;have:=HR.out.1;omega)
    clear hown9 hg9 hlies9 hrows5 hrow5 hn5 hturn hsz5 hbig
    go_wp2
    go_roundg (k-1)
    case measure=>omega
    case rel=>exact⟨k-1,a9,c9,xs++ys,va5,vc5,vars5,next5,left5,rfl,(by
     have hk1:((k-1:Nat):Int)=(k:Int)-1:=by omega
     have hkv:=HR.out.1
     rw [hk1,IntWalk.wrap64_in _ (by omega)]),(by rw [List.length_append]),hdd ⟨by have:=HR.out.1;omega,HLEN.out,HK9.out,HG9.out.more (by rw [HCS.out];omega),HG5.out.2.1,HT9.out,by rw [List.length_append];exact HV9.out,by rw [HP9.out];exact HRF5.out⟩⟩
end
theorem Zcd (op n:Int) (nm:ByteArray) (hn:nm.size≤maxLen) (hop:-9223372036854775808≤op∧op≤9223372036854775807) (d:Nat) {S:Nat→Prop} {w:World}:ZG (d+1) S w [.int .i64 op,.int .i64 n,.string nm,.slice none 0 0] (.mk op n nm []):=
 ⟨Z88 op n nm hop d,by show(decide (maxLen<nm.size)||List.any [] _)=false;rw [decide_eq_false (Nat.not_lt.2 hn)];rfl⟩
theorem Zb1 {T:Nat→Prop} {w8 W w9:World} {k:Nat} {o:Obj} (ht:Ze T W w9) (hb:Below w8.heap.size w8 W) (h:w8.heap[k]? = some o) (hT:¬T k):w9.heap[k]? = some o:=
 (ht.block k (Nat.lt_of_lt_of_le (gsI h).1 hb.size) hT).trans ((hb.block k (gsI h).1).trans h)
theorem Z8r (w:World) (lc:List Value):(∀A:Obj,Z0g ((w.alloc A).alloc (.cells lc.toArray 48)).drew (some ⟨w.heap.size+1,0,none⟩) [lc].flatten)∧(∀A:Obj,Z0g ((w.alloc (.cells lc.toArray 48)).alloc A).drew (some ⟨w.heap.size,0,none⟩) [lc].flatten)∧Z0g (w.alloc (.cells lc.toArray 48)).drew (some ⟨w.heap.size,0,none⟩) [lc].flatten:=by
 rw [show [lc].flatten=lc by simp]
 refine⟨fun A=>?_,fun A=>?_,?_⟩
 ·have h:=Zc (w.alloc A) lc 48
  rw [World.size_alloc] at h
  exact h.later ((bRf _ _).drew)
 ·exact(Zc w lc 48).later (((bRf _ _).alloc (Nat.le_refl _) _).drew)
 ·exact(Zc w lc 48).later ((bRf _ _).drew)
theorem Z7R {w:World} {cs:List Value} {y:Z6} (h:ZG 12 (fun k=>w.heap.size≤k) w cs y):(∀B:Obj,Za 4 (ZG 12) (fun k=>w.heap.size≤k) ((w.alloc (.cells cs.toArray 64)).alloc B).drew (some ⟨w.heap.size,0,none⟩) [y])∧(∀B:Obj,Za 4 (ZG 12) (fun k=>w.heap.size≤k) ((w.alloc B).alloc (.cells cs.toArray 64)).drew (some ⟨w.heap.size+1,0,none⟩) [y]):=by
 refine⟨fun B=>?_,fun B=>?_⟩
 ·exact((Z1W h).mono (Z1 12) (fun k _ h=>h.elim id id)).below (Z1 12) (((bRf _ _).alloc (Nat.le_refl _) _).drew)
 ·have h2:=Z1W ((Z1 12).below ((bRf _ _).alloc (Nat.le_refl _) B) h)
  rw [World.size_alloc] at h2
  exact(h2.mono (Z1 12) (fun k _ h=>h.elim id (fun h=>by omega))).below (Z1 12) ((bRf _ _).drew)
theorem Zcx (w:World) (P Q R:Obj):(((w.alloc P).alloc Q).alloc R).heap[w.heap.size]? = some P∧(((w.alloc P).alloc Q).alloc R).heap[w.heap.size+1]? = some Q∧(((w.alloc P).alloc Q).alloc R).heap[w.heap.size+1+1]? = some R∧Below w.heap.size w (((w.alloc P).alloc Q).alloc R)∧(((w.alloc P).alloc Q).alloc R).heap.size=w.heap.size+3:=by
 have hb:Below ((w.alloc P).alloc Q).heap.size ((w.alloc P).alloc Q) (((w.alloc P).alloc Q).alloc R):=(bRf _ _).alloc (Nat.le_refl _) _
 have hr:=hAn ((w.alloc P).alloc Q) R
 rw [World.size_alloc,World.size_alloc] at hr
 exact⟨(hb.block _ (by simp;omega)).trans (heap_alloc2_old w P Q),(hb.block _ (by simp)).trans (heap_alloc2_new w P Q),hr,((((bRf _ _).alloc (Nat.le_refl _) _).alloc (by simp) _).alloc (by simp;omega) _),by simp⟩
def ZaM (s:ByteArray):Zb:=.mk 2 s [.mk 4 0 ⟨#[]⟩ [.mk 2 0 s [],.mk 1 1 ⟨#[]⟩ []]] [] []
theorem Za4 (w6:World) (s:ByteArray) (hs:s.size≤maxLen) :
  Zv 1 (fun k=>w6.heap.size≤k) (((w6.alloc (.cells #[.int .i64 2,.int .i64 0,.string s,.slice none 0 0,.int .i64 1,.int .i64 1,.string ⟨#[]⟩,.slice none 0 0] 64)).alloc (.cells #[.int .i64 4,.int .i64 0,.string ⟨#[]⟩,.slice (some ⟨w6.heap.size,0,none⟩) 2 2] 64)).alloc (.cells #[.int .i64 2,.string s,.slice (some ⟨w6.heap.size+1,0,none⟩) 1 1,.slice none 0 0,.slice none 0 0] 48)) [.int .i64 2,.string s,.slice (some ⟨w6.heap.size+1,0,none⟩) 1 1,.slice none 0 0,.slice none 0 0] (ZaM s)∧(((w6.alloc (.cells #[.int .i64 2,.int .i64 0,.string s,.slice none 0 0,.int .i64 1,.int .i64 1,.string ⟨#[]⟩,.slice none 0 0] 64)).alloc (.cells #[.int .i64 4,.int .i64 0,.string ⟨#[]⟩,.slice (some ⟨w6.heap.size,0,none⟩) 2 2] 64)).alloc (.cells #[.int .i64 2,.string s,.slice (some ⟨w6.heap.size+1,0,none⟩) 1 1,.slice none 0 0,.slice none 0 0] 48)).heap[w6.heap.size+1+1]? = some (.cells #[.int .i64 2,.string s,.slice (some ⟨w6.heap.size+1,0,none⟩) 1 1,.slice none 0 0,.slice none 0 0] 48 (0,0))∧Below w6.heap.size w6 (((w6.alloc (.cells #[.int .i64 2,.int .i64 0,.string s,.slice none 0 0,.int .i64 1,.int .i64 1,.string ⟨#[]⟩,.slice none 0 0] 64)).alloc (.cells #[.int .i64 4,.int .i64 0,.string ⟨#[]⟩,.slice (some ⟨w6.heap.size,0,none⟩) 2 2] 64)).alloc (.cells #[.int .i64 2,.string s,.slice (some ⟨w6.heap.size+1,0,none⟩) 1 1,.slice none 0 0,.slice none 0 0] 48))∧(((w6.alloc (.cells #[.int .i64 2,.int .i64 0,.string s,.slice none 0 0,.int .i64 1,.int .i64 1,.string ⟨#[]⟩,.slice none 0 0] 64)).alloc (.cells #[.int .i64 4,.int .i64 0,.string ⟨#[]⟩,.slice (some ⟨w6.heap.size,0,none⟩) 2 2] 64)).alloc (.cells #[.int .i64 2,.string s,.slice (some ⟨w6.heap.size+1,0,none⟩) 1 1,.slice none 0 0,.slice none 0 0] 48)).heap.size=w6.heap.size+3:=by
 obtain⟨h1,h2,h3,hb,hsz⟩:=Zcx w6 (.cells #[.int .i64 2,.int .i64 0,.string s,.slice none 0 0,.int .i64 1,.int .i64 1,.string ⟨#[]⟩,.slice none 0 0] 64) (.cells #[.int .i64 4,.int .i64 0,.string ⟨#[]⟩,.slice (some ⟨w6.heap.size,0,none⟩) 2 2] 64) (.cells #[.int .i64 2,.string s,.slice (some ⟨w6.heap.size+1,0,none⟩) 1 1,.slice none 0 0,.slice none 0 0] 48)
 generalize ((w6.alloc (.cells #[.int .i64 2,.int .i64 0,.string s,.slice none 0 0,.int .i64 1,.int .i64 1,.string ⟨#[]⟩,.slice none 0 0] 64)).alloc (.cells #[.int .i64 4,.int .i64 0,.string ⟨#[]⟩,.slice (some ⟨w6.heap.size,0,none⟩) 2 2] 64)).alloc (.cells #[.int .i64 2,.string s,.slice (some ⟨w6.heap.size+1,0,none⟩) 1 1,.slice none 0 0,.slice none 0 0] 48)=w7 at h1 h2 h3 hb hsz ⊢
 have htwo:=Z4P (op:=4) (by decide) (S:=fun k=>w6.heap.size≤k) (c:=2) (b:=w6.heap.size) (c1:=[.int .i64 2,.int .i64 0,.string s,.slice none 0 0]) (c2:=[.int .i64 1,.int .i64 1,.string ⟨#[]⟩,.slice none 0 0]) h1 (Nat.le_refl _) (Zcd 2 0 s hs (by decide) 0) (Z9G 1 1 (by decide) 0)
 have hone:=Za.one (Z1 12) (S:=fun k=>w6.heap.size≤k) h2 (by show w6.heap.size≤w6.heap.size+1;omega) (Z0j (by omega:2≤12) htwo)
 exact⟨Z2A hone (by simp) 2 s (by decide) hs,h3,hb,hsz⟩
section
variable {w0 w wb:World} {br bg:Nat} {a:Option Addr} {len cap:Nat} {bs:List Int} {fa:Option Addr} {fc:Nat} {fns:List FnD} {va:Option Addr} {vc:Nat} {vars:List ByteArray} {next left next' left':Int}
structure LpA (w0 w wb:World) (br bg:Nat) (a:Option Addr) (len cap:Nat) (bs:List Int) (fa:Option Addr) (fc:Nat) (fns:List FnD) (va:Option Addr) (vc:Nat) (vars:List ByteArray) (next left:Int) (u fb vb:Nat) (s:ByteArray) (b c:Nat) (x:Z6) (wr:World):Prop where
 g:GSt w0 br bg a len cap bs fa fc fns u va vc vars next left wr
 t:Zf br bg w wr
 lt:br<w.heap.size∧bg<w.heap.size∧w0.heap.size≤w.heap.size∧w.heap.size≤fb∧fb<wb.heap.size∧w.heap.size≤vb∧vb<wb.heap.size
 frow:wr.heap[fb]? = some (.cells #[.int .i64 1,.string s,.slice (some ⟨b,0,none⟩) 1 c,.slice none 0 0,.slice none 0 0] 48 (0,0))
 vrow:wr.heap[vb]? = some (.cells #[.int .i64 2,.int .i64 0,.string s,.slice none 0 0] 64 (0,0))
 first:Zv 1 (fun k=>w.heap.size≤k∧k<wb.heap.size) wr [.int .i64 1,.string s,.slice (some ⟨b,0,none⟩) 1 c,.slice none 0 0,.slice none 0 0] (.mk 1 s [x] [] [])
 vlow:Za 1 Z1V (fun k=>w.heap.size≤k∧k<wb.heap.size) wr va vars
 flow:Za 3 (FnP 20) (fun k=>k≠br∧k≠bg∧k<wb.heap.size) wr fa fns
variable {u u' fb vb:Nat} {s:ByteArray} {b c:Nat} {x:Z6} {wr w':World}
theorem LpA.step2 (h:LpA w0 w wb br bg a len cap bs fa fc fns va vc vars next left u fb vb s b c x wr) (ht:Zf br bg wr w') (hg:GSt w0 br bg a len cap bs fa fc fns u' va vc vars next' left' w'):LpA w0 w wb br bg a len cap bs fa fc fns va vc vars next' left' u' fb vb s b c x w':=by
 have hl:=h.lt
 exact⟨hg,h.t.trans ht,hl,(ht.block (gsI h.frow).1 (by omega) (by omega)).trans h.frow,(ht.block (gsI h.vrow).1 (by omega) (by omega)).trans h.vrow,
  (Z0 1).turned (T:=fun k=>k=br∨k=bg∨wr.heap.size≤k) ht (fun k _ h1 h2=>by omega) h.first,ht.list Z3 h.vlow (fun k h=>by have h:w.heap.size≤k∧k<wb.heap.size:=h;omega),ht.list (Z2 20) h.flow (fun k h=>⟨h.1,h.2.1⟩)⟩
theorem LpA.later (h:LpA w0 w wb br bg a len cap bs fa fc fns va vc vars next left u fb vb s b c x wr) (hb:Below wr.heap.size wr w'):LpA w0 w wb br bg a len cap bs fa fc fns va vc vars next left u fb vb s b c x w':=h.step2 (Zf.below hb) (h.g.later hb)
theorem LpA.alloc (o:Obj) (h:LpA w0 w wb br bg a len cap bs fa fc fns va vc vars next left u fb vb s b c x wr):LpA w0 w wb br bg a len cap bs fa fc fns va vc vars next left u fb vb s b c x (wr.alloc o):=h.later ((bRf _ _).alloc (Nat.le_refl _) _)
theorem LpA.own (h:LpA w0 w wb br bg a len cap bs fa fc fns va vc vars next left u fb vb s b c x wr) {T:Nat→Prop} (ht:Ze T wr w') (hT:∀k,k<wr.heap.size→T k→wb.heap.size≤k):LpA w0 w wb br bg a len cap bs fa fc fns va vc vars next left u fb vb s b c x w':=by
 have hl:=h.lt
 have hv:=h.vlow.turned Z3 ht (fun k hk h1 h2=>by have:=hT k hk h2;omega)
 have hf:=h.flow.turned (Z2 20) ht (fun k hk h1 h2=>by have:=hT k hk h2;omega)
 refine⟨h.g.other ht (fun k hk h1=>by have:=hT k hk h1;omega) (hv.mono Z3 (fun k _ h=>by have h:w.heap.size≤k∧k<wb.heap.size:=h;omega)) (hf.mono (Z2 20) (fun k _ h=>⟨h.1,h.2.1⟩)),?_,hl,(ht.block fb (gsI h.frow).1 (fun e=>by have:=hT fb (gsI h.frow).1 e;omega)).trans h.frow,(ht.block vb (gsI h.vrow).1 (fun e=>by have:=hT vb (gsI h.vrow).1 e;omega)).trans h.vrow,
  (Z0 1).turned ht (fun k hk h1 h2=>by have:=hT k hk h2;omega) h.first,hv,hf⟩
 have h1:Ze (fun k=>k=br∨k=bg∨w.heap.size≤k) w wr:=h.t
 have h2:=h.t.size
 refine⟨ht.os.trans h1.os,ht.tape.trans h1.tape,ht.output.trans h1.output,Nat.le_trans h1.size ht.size,fun k hk hn=>(ht.block k (by omega) (fun e=>by have:=hT k (by omega) e;omega)).trans (h1.block k hk hn)⟩
theorem LpA.push {d lb:Nat} {ba a9:Option Addr} {bc c9:Nat} {xs:List Zb} {cells:List (List Value)} {lc:List Value} {less:Zb} {W w9:World} (h:LpA w0 w wb br bg a len cap bs fa fc fns va vc vars next left u fb vb s b c x wr) (hb:Below wr.heap.size wr W)
  (hr:Z1Y 5 (Zv d) 48 (fun k=>wb.heap.size≤k) wb.heap.size wr ba xs.length bc xs cells) (hd:1≤d) (hl:Zv 1 (fun k=>lb≤k) wr lc less) (ho:∀k,(Value.slice ba xs.length bc).ownBlock=some k→wb.heap.size≤k∧k<lb) (hlb:wb.heap.size≤lb)
  (hown:w9.ownsRow wb.heap.size 48 5 (.slice a9 (xs.length+1) c9) (xs.length+1) (cells.flatten++[lc].flatten)) (hg:W.grownBy w9 (Value.slice ba xs.length bc).ownBlock)
  (hlies:(Value.slice a9 (xs.length+1) c9).ownBlock=(Value.slice ba xs.length bc).ownBlock∨(Value.slice a9 (xs.length+1) c9).ownBlock=some W.heap.size) :
  LpA w0 w wb br bg a len cap bs fa fc fns va vc vars next left u fb vb s b c x w9∧Za 5 (Zv d) (fun k=>w.heap.size≤k) w9 a9 (xs++[less])∧Ze (fun k=>(Value.slice ba xs.length bc).ownBlock=some k) W w9∧Z5 w9 br=Z5 wr br:=by
 have ht:=Zi hg (S:=fun k=>(Value.slice ba xs.length bc).ownBlock=some k) (fun k hk=>hk)
 have hlt:=h.lt
 refine⟨(h.later hb).own ht (fun k _ hk=>(ho k hk).1),?_,ht,by
  have hl1:=h.g.lts.1
  have hs1:=hb.size
  have hlt2:=h.lt
  rw [Z1u ht (by omega) (fun e=>by have:=(ho br e).1;omega),Zs hb hl1]⟩
 have hk:=Z1Y.pushes (Z0 d) (hr.below (Z0 d) hb) rfl (cls:=[lc]) (ys:=[less]) rfl (by intro cl hcl;simp at hcl;subst hcl;exact Z4X hl) (fun i cl y h1 h2=>by
  match i with
  | 0=>
   cases h1;cases h2
   exact(Z0 d).mono (fun k _ hk=>⟨Nat.le_trans hlb hk,fun e=>by have:=(ho k e).2;have hk:lb≤k:=hk;omega⟩) (Z1O hd ((Z0 1).below hb hl))
  | i+1=>cases h1) hown hg hlies
 exact(hk.list (Z0 d)).mono (Z0 d) (fun k _ h=>by rcases h with h|h<;>(have h:wb.heap.size≤k:=h;omega))
theorem LpA.laid {d ab n:Nat} {a9:Option Addr} {c9:Nat} {ys:List Zb} {i:Z6} (h:LpA w0 w wb br bg a len cap bs fa fc fns va vc vars next left u fb vb s b c x wr) (hd:1≤d) (ha:Za 4 (ZG 12) (fun k=>w.heap.size≤k) wr (some ⟨ab,0,none⟩) [i]) (hy:Za 5 (Zv d) (fun k=>w.heap.size≤k) wr a9 ys) (hl:ys.length≤9) (hn:ys.length=n) :
  Za 5 (Zv (d+1)) (fun k=>w.heap.size≤k) (wr.alloc (.cells #[.int .i64 1,.string s,.slice (some ⟨b,0,none⟩) 1 c,.slice none 0 0,.slice none 0 0,.int .i64 6,.string ⟨#[]⟩,.slice (some ⟨ab,0,none⟩) 1 1,.slice a9 n c9,.slice none 0 0] 48)) (some ⟨wr.heap.size,0,none⟩) [.mk 1 s [x] [] [],.mk 6 ⟨#[]⟩ [i] ys []]:=by
 subst hn
 have hba:Below wr.heap.size wr (wr.alloc (.cells #[.int .i64 1,.string s,.slice (some ⟨b,0,none⟩) 1 c,.slice none 0 0,.slice none 0 0,.int .i64 6,.string ⟨#[]⟩,.slice (some ⟨ab,0,none⟩) 1 1,.slice a9 ys.length c9,.slice none 0 0] 48)):=(bRf _ _).alloc (Nat.le_refl _) _
 have hs:=h.t.size
 have h1:=(Z0 (d+1)).below hba (Z1O (by omega:1≤d+1) ((Z0 1).mono (S':=fun k=>w.heap.size≤k) (fun k _ h=>h.1) h.first))
 have h2:Zv (d+1) (fun k=>w.heap.size≤k) wr [.int .i64 6,.string ⟨#[]⟩,.slice (some ⟨ab,0,none⟩) 1 1,.slice a9 ys.length c9,.slice none 0 0] (.mk 6 ⟨#[]⟩ [i] ys []):=
  ⟨_,_,_,_,none,0,rfl,⟨Nat.zero_le _,(by decide:(-9223372036854775808:Int)≤6),(by decide:(6:Int)≤9223372036854775807),(by decide:(1:Nat)≤100),Nat.le_trans hl (by decide),(by decide:(0:Nat)≤100)⟩,ha,hy,Za.nil _ _ _⟩
 have h2:=(Z0 (d+1)).below hba h2
 exact Za.laid (cells:=[[.int .i64 1,.string s,.slice (some ⟨b,0,none⟩) 1 c,.slice none 0 0,.slice none 0 0],[.int .i64 6,.string ⟨#[]⟩,.slice (some ⟨ab,0,none⟩) 1 1,.slice a9 ys.length c9,.slice none 0 0]]) (hAn wr _) hs rfl (by intro cl hcl;simp at hcl;rcases hcl with rfl|rfl<;>rfl) (fun i cl y k1 k2=>by
  match i with
  | 0=>cases k1;cases k2;exact h1
  | 1=>cases k1;cases k2;exact h2
  | i+2=>cases k1)
end
section
variable {w0:World} {br bg:Nat} {a:Option Addr} {len cap:Nat} {bs:List Int} {fa:Option Addr} {fc:Nat} {fns:List FnD}
theorem Z7k (hlen:len≤2000) (dq:Int) (hdq:2≤dq∧dq≤3) (d cB:Nat) (hd:1≤d) (F:GS→List Zb×GS) (hB:Z64 w0 br bg a len cap bs fa fc fns (dq-1) d cB F):Zb0 w0 br bg a len cap bs fa fc fns dq (d+1) (cB+600) (Z6n bs F):=by
 intro u va vc vars next left w h hv hu
 have HU:=hdd hu
 have HVC:=hdd hv
 have HB:=hdd hB
 have HL:=hdd (show br<w.heap.size∧bg<w.heap.size∧w0.heap.size≤w.heap.size from⟨h.lts.1,h.lts.2,by obtain⟨p,_,hp⟩:=h.rd;exact hp.below.size⟩)
 have H0:=hdd h
 have c0:=h.c0
 have hwd:wrap64 (dq-1)=dq-1:=IntWalk.wrap64_in _ (by omega)
 obtain⟨p,hp,hrd⟩:=h.rd
 have HP:=hdd hp
 have HNUM:=hdd (show Calls Tryz.prog 33 #[.pointer (some ⟨br,0,none⟩),.slice (some ⟨w.heap.size,0,none⟩) 5 5] (w.alloc (.cells #[.int .i64 2,.int .i64 3,.int .i64 1,.int .i64 0,.int .i64 5] 3)) fun e W'=>∃v:Int,e=.returned (.int .i64 v)∧Hid (GSt w0 br bg a len cap bs fa fc fns (u+1) va vc vars next left W'∧Zf br bg w W'∧Z2Y bs [2,3,1,0,5] (Z5 w br)=v∧Z5 W' br=Z5 w br+1) from by
  refine(Z1e w0 _ br a len cap bs p w.heap.size 5 5 [2,3,1,0,5] (hrd.later' ((bRf _ _).alloc (Nat.le_refl _) _)) (Z7w w [2,3,1,0,5]) (by have:=HL.out;omega) (by omega) hlen (by have:=HP.out;have:=HU.out;omega)).mono ?_
  rintro e W' ⟨v,hv,rfl,hrd',hg',hFv⟩
  exact⟨v,rfl,hdd ⟨(H0.out.alloc _).step (Zd.grown hg') hrd' (by have:=HP.out;omega) (by omega),(Zf.alloc w _).trans (Zf.of (Zd.grown hg')),by rw [hrd.pos];exact hFv,by rw [hrd.pos,hrd'.pos]⟩⟩)
 clear hv hu hB h hp hrd
 go_enter Tryz.func107,Tryz.ntmps107
 go_wp2_with fail
 refine HNUM.out.mono ?_
 rintro e w3 ⟨v,rfl,hx3⟩
 clear c0 HNUM
 have HLET:=hdd (Z6y hlen (u+1) (fun k=>w.heap.size≤k) w3 none 0 (.mk 1 v ⟨#[]⟩ []) hx3.out.1 HVC.out (by have:=HU.out;omega) (fun k hk=>by have:=HL.out;have hk:w.heap.size≤k:=hk;omega) (Z9G 1 v (by decide) 11))
 go_upto_region 3 with(go_at_call 105;refine HLET.out.mono ?_;rintro e w4 ⟨s,b,c,va',vc',n',rfl,hst,hg4,hv4,hvn4,ht4,hn4,hF4⟩)
 have HF4:=hdd (aI hn4 hF4)
 have HP5:=hdd (show Z5 ((w4.alloc (.cells #[.int .i64 1,.string s,.slice (some ⟨b,0,none⟩) 1 c,.slice none 0 0,.slice none 0 0] 48)).alloc (.cells #[.int .i64 2,.int .i64 0,.string s,.slice none 0 0] 64)) br=Z5 w4 br from Z0A hg4.lts.1)
 clear hn4 hF4
 have HSZ:=hdd (show s.size≤maxLen from by obtain⟨_,_,_,_,_,_,_,h,_⟩:=hst;exact h.1)
 have HV4:=hdd hv4
 have HA:=hdd (show LpA w0 w ((w4.alloc (.cells #[.int .i64 1,.string s,.slice (some ⟨b,0,none⟩) 1 c,.slice none 0 0,.slice none 0 0] 48)).alloc (.cells #[.int .i64 2,.int .i64 0,.string s,.slice none 0 0] 64)) br bg a len cap bs fa fc fns va' vc' (vars++[s]) n' left (u+1+4) w4.heap.size (w4.heap.size+1) s b c (.mk 1 v ⟨#[]⟩ []) ((w4.alloc (.cells #[.int .i64 1,.string s,.slice (some ⟨b,0,none⟩) 1 c,.slice none 0 0,.slice none 0 0] 48)).alloc (.cells #[.int .i64 2,.int .i64 0,.string s,.slice none 0 0] 64)) from by
  have hsz:((w4.alloc (.cells #[.int .i64 1,.string s,.slice (some ⟨b,0,none⟩) 1 c,.slice none 0 0,.slice none 0 0] 48)).alloc (.cells #[.int .i64 2,.int .i64 0,.string s,.slice none 0 0] 64)).heap.size=w4.heap.size+2:=by simp
  have h3:=hx3.out.2.1.size
  have h4:=ht4.size
  have hba:Below w4.heap.size w4 ((w4.alloc (.cells #[.int .i64 1,.string s,.slice (some ⟨b,0,none⟩) 1 c,.slice none 0 0,.slice none 0 0] 48)).alloc (.cells #[.int .i64 2,.int .i64 0,.string s,.slice none 0 0] 64)):=((bRf _ _).alloc (Nat.le_refl _) _).alloc (by simp) _
  have hl:=HL.out
  refine⟨hg4.later hba,(hx3.out.2.1.trans ht4).trans (Zf.below hba),⟨hl.1,hl.2.1,hl.2.2,by omega,by omega,by omega,by omega⟩,heap_alloc2_old w4 _ _,heap_alloc2_new w4 _ _,(Z0 1).below hba ((Z0 1).mono (fun k hk h=>⟨by rcases h with h|h;exact h;exact Nat.le_trans h3 h,by omega⟩) hst),?_,?_⟩
  ·exact((hvn4.here Z3).mono Z3 (fun k _ h=>⟨by have:=h.1;omega,by have:=h.2;omega⟩)).below Z3 hba
  ·exact((hg4.flist.here (Z2 20)).mono (Z2 20) (fun k _ h=>⟨h.1.1,h.1.2,by have:=h.2;omega⟩)).below (Z2 20) hba)
 clear hst hg4 hv4 hvn4 HLET
 have H4Z:=hdd (show w.heap.size≤w4.heap.size from Nat.le_trans hx3.out.2.1.size ht4.size)
 clear ht4
 obtain⟨fb,hfb⟩:∃n,n=w4.heap.size:=⟨_,rfl⟩
 generalize (w4.alloc (.cells #[.int .i64 1,.string s,.slice (some ⟨b,0,none⟩) 1 c,.slice none 0 0,.slice none 0 0] 48)).alloc (.cells #[.int .i64 2,.int .i64 0,.string s,.slice none 0 0] 64)=w5 at HA HP5 ⊢
 rw [← hfb] at HA ⊢
 clear hfb
 go_wp2_with fail
 refine(HB.out (u+1+4) va' vc' (vars++[s]) n' left w5 HA.out.g HV4.out (by have:=HU.out;omega)).mono ?_
 rintro e w6 ⟨ba,bc,xs,next6,left6,rfl,hl6,hgk6,hg6,ht6,hF6⟩
 have HF6:=hdd hF6
 clear hF6
 have HA6:=hdd (HA.out.step2 ht6 hg6)
 have HK6:=hdd (aI hgk6 hl6)
 have HSZ6:=hdd ht6.size
 clear hgk6 hg6 ht6 hl6
 go_upto_region 4 with fail
 have f1:=coR _ _ 1 _ _ _ HA6.out.frow
 have v0:=coR _ _ 0 _ _ _ HA6.out.vrow
 have v1:=coR _ _ 1 _ _ _ HA6.out.vrow
 have v2:=coR _ _ 2 _ _ _ HA6.out.vrow
 have v3:=coR _ _ 3 _ _ _ HA6.out.vrow
 simp only [ga0,ga1,ga2] at f1 v0 v1 v2 v3
 have HLS:=hdd (Za4 w6 s HSZ.out)
 go_upto_region 5 with fail
 obtain⟨lb,hlb⟩:∃n,n=w6.heap.size:=⟨_,rfl⟩
 generalize ((w6.alloc (.cells #[.int .i64 2,.int .i64 0,.string s,.slice none 0 0,.int .i64 1,.int .i64 1,.string ⟨#[]⟩,.slice none 0 0] 64)).alloc (.cells #[.int .i64 4,.int .i64 0,.string ⟨#[]⟩,.slice (some ⟨w6.heap.size,0,none⟩) 2 2] 64)).alloc (.cells #[.int .i64 2,.string s,.slice (some ⟨w6.heap.size+1,0,none⟩) 1 1,.slice none 0 0,.slice none 0 0] 48)=w7 at HLS ⊢
 have HA7:=hdd (HA6.out.later HLS.out.2.2.1)
 have HP7:=hdd (show Z5 w7 br=Z5 w6 br from Zs HLS.out.2.2.1 HA6.out.g.lts.1)
 have HK7:=hdd (HK6.out.1.below (Z0 d) HLS.out.2.2.1)
 have HOWN:=hdd (show ∀k,(Value.slice ba xs.length bc).ownBlock=some k→w5.heap.size≤k∧k<w6.heap.size from by
  obtain⟨cells,k1,-⟩:=HK6.out.1.row
  exact fun k hk=>k1.lt k hk)
 have HLB:=hdd (show w5.heap.size≤lb from by rw [hlb];have:=HK6.out.1;exact HSZ6.out)
 rw [← hlb] at HLS HOWN ⊢
 clear hlb f1 v0 v1 v2 v3
 have c4:=HA7.out.g.c4
 have f4:=HA7.out.g.f 4
 have hlw:wrap64 (left6-2)=left6-2:=IntWalk.wrap64_in _ (by have:=HA7.out.g.bnd;have:=HU.out;omega)
 have HSL:=hdd ((HA7.out.g.more (show u+1+4+cB≤u+1+4+cB+1 by omega)).setLeft (n':=left6-2) (by have:=HA7.out.g.bnd;omega))
 go_upto_region 6 with fail
 clear c4 f4 hlw
 have HA8:=hdd (HA7.out.step2 HSL.out.2 HSL.out.1)
 have HK8:=hdd (HK7.out.keep (Z0 d) (T:=fun k=>k=bg) (Z4 w7 bg 4 (.int .i64 (left6-2))) (fun k h1 h2 h3=>by have:=HA7.out.lt;have h3:k=bg:=h3;omega) (fun k h=>h))
 have HS8:=hdd (show Zv 1 (fun k=>lb≤k) (w7.setCell ⟨bg,4,none⟩ (.int .i64 (left6-2))) [.int .i64 2,.string s,.slice (some ⟨lb+1,0,none⟩) 1 1,.slice none 0 0,.slice none 0 0] (ZaM s)∧(w7.setCell ⟨bg,4,none⟩ (.int .i64 (left6-2))).heap[lb+1+1]? = some (.cells #[.int .i64 2,.string s,.slice (some ⟨lb+1,0,none⟩) 1 1,.slice none 0 0,.slice none 0 0] 48 (0,0)) from by
  have ht:=Z4 w7 bg 4 (.int .i64 (left6-2))
  have hne:∀k,lb≤k→¬k=bg:=fun k hk=>by have:=HLB.out;have:=HA7.out.lt;omega
  exact⟨(Z0 1).turned ht (fun k _ h1=>hne k h1) HLS.out.1,(ht.block _ (gsI HLS.out.2.1).1 (hne _ (by omega))).trans HLS.out.2.1⟩)
 have HP8:=hdd (show Z5 (w7.setCell ⟨bg,4,none⟩ (.int .i64 (left6-2))) br=Z5 w6 br by rw [Z0b (by have:=HA7.out.g.base;omega),HP7.out])
 clear HSL HLS HK7
 generalize w7.setCell ⟨bg,4,none⟩ (.int .i64 (left6-2))=w8 at HA8 HK8 HS8 HP8 ⊢
 have HSC:=hdd (show ∀w9 W,w9.heap[fb]? = some (.cells #[.int .i64 1,.string s,.slice (some ⟨b,0,none⟩) 1 c,.slice none 0 0,.slice none 0 0] 48 (0,0))→w9.heap[fb+1]? = some (.cells #[.int .i64 2,.int .i64 0,.string s,.slice none 0 0] 64 (0,0))→w9.heap[lb+1+1]? = some (.cells #[.int .i64 2,.string s,.slice (some ⟨lb+1,0,none⟩) 1 1,.slice none 0 0,.slice none 0 0] 48 (0,0))→Below w9.heap.size w9 W→(W.cell? ⟨fb,0,none⟩=some (.int .i64 1)∧W.cell? ⟨fb,1,none⟩=some (.string s)∧W.cell? ⟨fb,2,none⟩=some (.slice (some ⟨b,0,none⟩) 1 c)∧W.cell? ⟨fb,3,none⟩=some (.slice none 0 0)∧W.cell? ⟨fb,4,none⟩=some (.slice none 0 0)∧W.cell? ⟨fb+1,0,none⟩=some (.int .i64 2)∧W.cell? ⟨fb+1,1,none⟩=some (.int .i64 0)∧W.cell? ⟨fb+1,2,none⟩=some (.string s)∧W.cell? ⟨fb+1,3,none⟩=some (.slice none 0 0)∧W.cell? ⟨lb+1+1,0,none⟩=some (.int .i64 2)∧W.cell? ⟨lb+1+1,1,none⟩=some (.string s)∧W.cell? ⟨lb+1+1,2,none⟩=some (.slice (some ⟨lb+1,0,none⟩) 1 1)∧W.cell? ⟨lb+1+1,3,none⟩=some (.slice none 0 0)∧W.cell? ⟨lb+1+1,4,none⟩=some (.slice none 0 0)) from fun w9 W f v l hW=>
  ⟨clT hW (coR _ _ 0 _ _ _ f),clT hW (coR _ _ 1 _ _ _ f),clT hW (coR _ _ 2 _ _ _ f),clT hW (coR _ _ 3 _ _ _ f),clT hW (coR _ _ 4 _ _ _ f),clT hW (coR _ _ 0 _ _ _ v),clT hW (coR _ _ 1 _ _ _ v),clT hW (coR _ _ 2 _ _ _ v),clT hW (coR _ _ 3 _ _ _ v),clT hW (coR _ _ 0 _ _ _ l),clT hW (coR _ _ 1 _ _ _ l),clT hW (coR _ _ 2 _ _ _ l),clT hW (coR _ _ 3 _ _ _ l),clT hW (coR _ _ 4 _ _ _ l)⟩)
 obtain⟨cells,hrows⟩:=HK8.out.rows
 have HR8:=hdd hrows
 clear hrows
 have HONE:=hdd (show ∀cl∈[[Value.int .i64 2,.string s,.slice (some ⟨lb+1,0,none⟩) 1 1,.slice none 0 0,.slice none 0 0]],∀u∈cl,u.oneCell'=true from fun cl hcl u hu=>by
  rw [List.mem_singleton.1 hcl] at hu
  exact Z0a HS8.out.1 u hu)
 have HXB:=hdd (show xs.length+1≤1099511627776 from by have:=HK6.out.2;omega)
 have HLZ:=hdd (show w5.heap.size≤w8.heap.size from Nat.le_trans HLB.out (by have:=(gsI HS8.out.2).1;omega))
 have HAR:=hdd (Z7R (w:=w8) (Zcd 2 0 s HSZ.out (by decide) 11))
 have HLB8:=hdd (show lb≤w8.heap.size from by have:=(gsI HS8.out.2).1;omega)
 have HIE:=hdd (fun (W:World)=>Z1W (S:=fun k=>w.heap.size≤k) (w:=W) (Zcd 2 0 s HSZ.out (by decide) 11))
 have HWB:=hdd (show w.heap.size≤w8.heap.size from HA8.out.t.size)
 have HVK:=hdd (fun (W:World) (hW:LpA w0 w w5 br bg a len cap bs fa fc fns va' vc' (vars++[s]) next6 (left6-2) (u+1+4+cB+1) fb (fb+1) s b c (.mk 1 v ⟨#[]⟩ []) W)=>show Z35 br bg w va vars W va' (vars++[s]) from Z35.new (hW.vlow.mono Z3 (fun k _ h=>h.1)) ⟨hW.lt.1,hW.lt.2.1⟩)
 have HROW0:=hdd (Z8r w8 [.int .i64 2,.string s,.slice (some ⟨lb+1,0,none⟩) 1 1,.slice none 0 0,.slice none 0 0])
 have HEND:=hdd (aI trivial (aI HV4.out HK6.out.2))
 have HFL:=hdd (show Z6n bs F ⟨Z5 w br,vars,next,left⟩=([.mk 1 s [.mk 1 v ⟨#[]⟩ []] [] [],.mk 6 ⟨#[]⟩ [.mk 2 0 s []] (xs++[ZaM s]) []],⟨Z5 w8 br,vars++[s],next6,left6-2⟩) by
  have h4:=HF4.out.2
  rw [hx3.out.2.2.2] at h4
  have h6:=HF6.out
  rw [HP5.out,HF4.out.1] at h6
  simp only [Z6n,ZcA,hx3.out.2.2.1,h4,h6,HP8.out]
  rfl)
 clear HF4 HF6 HP5 HP7 HP8
 clear HK6 HA7 HA6 HA HSZ6 HSZ HV4 H4Z H0 HP HB HU HVC HK8 hwd hdq hlen
 go_region_held3 (fun W=>(W.cell? ⟨fb,0,none⟩=some (.int .i64 1)∧W.cell? ⟨fb,1,none⟩=some (.string s)∧W.cell? ⟨fb,2,none⟩=some (.slice (some ⟨b,0,none⟩) 1 c)∧W.cell? ⟨fb,3,none⟩=some (.slice none 0 0)∧W.cell? ⟨fb,4,none⟩=some (.slice none 0 0)∧W.cell? ⟨fb+1,0,none⟩=some (.int .i64 2)∧W.cell? ⟨fb+1,1,none⟩=some (.int .i64 0)∧W.cell? ⟨fb+1,2,none⟩=some (.string s)∧W.cell? ⟨fb+1,3,none⟩=some (.slice none 0 0)∧W.cell? ⟨lb+1+1,0,none⟩=some (.int .i64 2)∧W.cell? ⟨lb+1+1,1,none⟩=some (.string s)∧W.cell? ⟨lb+1+1,2,none⟩=some (.slice (some ⟨lb+1,0,none⟩) 1 1)∧W.cell? ⟨lb+1+1,3,none⟩=some (.slice none 0 0)∧W.cell? ⟨lb+1+1,4,none⟩=some (.slice none 0 0))) (first|exact HSC.out _ _ HP9.out.1.frow HP9.out.1.vrow HL9.out (by repeat (first|exact bRf _ _|apply Zy|apply Zt))|exact HSC.out _ _ HA8.out.frow HA8.out.vrow HS8.out.2 (by repeat (first|exact bRf _ _|apply Zy|apply Zt))) (first|(refine Z3j rfl (.tmp 44) (.tmp 46) rfl w5.heap.size _ xs.length _ rfl (ZI HR8.out.1 (by repeat (first|exact bRf _ _|apply Zy|apply Zt))) _ 1 1 [[.int .i64 2,.string s,.slice (some ⟨lb+1,0,none⟩) 1 1,.slice none 0 0,.slice none 0 0]] rfl (by first|exact HROW0.out.1 _|exact HROW0.out.2.1 _|exact HROW0.out.2.2) rfl (by simp) (by rintro⟨⟩) HONE.out HXB.out (by have:=HLZ.out;first|(simp;omega)|omega) ?_;intro a9 c9 w9 hown9 hg9 hlies9;(have HP9:=hdd (HA8.out.push (by repeat (first|exact bRf _ _|apply Zy|apply Zt)) HR8.out hd HS8.out.1 HOWN.out HLB.out hown9 hg9 hlies9));(have HL9:=hdd (Zb1 HP9.out.2.2.1 (by repeat (first|exact bRf _ _|apply Zy|apply Zt)) HS8.out.2 (fun e=>by have:=(HOWN.out _ e).2;omega)))))
 all_goals
  have HLEN:=hdd (show(xs++[ZaM s]).length≤9∧(xs++[ZaM s]).length=xs.length+1 from⟨by have:=HEND.out.2.2;simp;omega,by simp⟩)
  have HOR:=hdd (fun k (h1:w8.heap.size≤k) (h2:(Value.slice ba xs.length bc).ownBlock=some k)=>show False from by have:=(HOWN.out k h2).2;have:=HLB8.out;omega)
  go_wp2
  go_ret
  first
  | exact⟨_,_,[_,_],va',vc',vars++[s],next6,left6-2,rfl,by simp,(by rintro⟨⟩),HP9.out.1.laid hd (((HAR.out.1 _).turned (Z1 12) HP9.out.2.2.1 (fun k _ h1 h2=>HOR.out k h1 h2)).mono (Z1 12) (fun k _ h=>Nat.le_trans HWB.out h)) HP9.out.2.1 HLEN.out.1 HLEN.out.2,(HP9.out.1.g.alloc _).more (by omega),HEND.out.2.1,HVK.out _ (HP9.out.1.alloc _),(HP9.out.1.alloc _).t,by rw [Zo HP9.out.1.g.lts.1,HP9.out.2.2.2];exact HFL.out⟩
  | exact⟨_,_,[_,_],va',vc',vars++[s],next6,left6-2,rfl,by simp,(by rintro⟨⟩),HP9.out.1.laid hd (((HAR.out.2 _).turned (Z1 12) HP9.out.2.2.1 (fun k _ h1 h2=>HOR.out k h1 h2)).mono (Z1 12) (fun k _ h=>Nat.le_trans HWB.out h)) HP9.out.2.1 HLEN.out.1 HLEN.out.2,(HP9.out.1.g.alloc _).more (by omega),HEND.out.2.1,HVK.out _ (HP9.out.1.alloc _),(HP9.out.1.alloc _).t,by rw [Zo HP9.out.1.g.lts.1,HP9.out.2.2.2];exact HFL.out⟩
  | exact⟨_,_,[_,_],va',vc',vars++[s],next6,left6-2,rfl,by simp,(by rintro⟨⟩),(by have hq:=LpA.laid (c9:=c9) (HP9.out.1.alloc (.cells #[.int .i64 2,.int .i64 0,.string s,.slice none 0 0] 64)) hd ((HIE.out w9).mono (Z1 12) (fun k _ h=>by have:=HP9.out.1.t.size;rcases h with h|h;exact h;exact Nat.le_trans this h)) (HP9.out.2.1.below (Z0 d) ((bRf _ _).alloc (Nat.le_refl _) _)) HLEN.out.1 HLEN.out.2;rw [World.size_alloc] at hq;exact hq),((HP9.out.1.alloc _).g.alloc _).more (by omega),HEND.out.2.1,HVK.out _ ((HP9.out.1.alloc _).alloc _),((HP9.out.1.alloc _).alloc _).t,by rw [Z0A HP9.out.1.g.lts.1,HP9.out.2.2.2];exact HFL.out⟩
end
end Go.Proofs.YtloooebabieeeaaGreatDoor
