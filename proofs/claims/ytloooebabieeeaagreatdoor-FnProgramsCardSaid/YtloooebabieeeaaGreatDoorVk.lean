/-
  The reference draws programs, one in some bent (l3Bent): what its walk carries.
-/
import Derived.Test.YtloooebabieeeaaGreatDoorCp
import Derived.Test.YtloooebabieeeaaGreatDoorGf
import Derived.Test.YtloooebabieeeaaGreatDoorGi
import Derived.Deep.CutBlock
import Derived.Test.YtloooebabieeeaaGreatDoorTLaysI
import Derived.Test.YtloooebabieeeaaGreatDoorEx2
import Derived.Lib.AppendIntMem
import Derived.Test.YtloooebabieeeaaGreatDoorVi
import Derived.Test.YtloooebabieeeaaGreatDoorDr5
set_option maxRecDepth 100000
set_option maxHeartbeats 16000000
set_option linter.unusedVariables false
namespace Go.Proofs.YtloooebabieeeaaGreatDoor
open Go.RowKit
section
variable {P:Program} {w:World}
theorem Z3s (base:Nat) (t ty e:TypeId) (i:TypeInfo) (size c:Nat) (ht:P.underlying t=some (.slice e)) (hi:P.info? e=some i)
  (v:Value) (n:Nat) (xs:List Value) (hown:w.ownsRow base e size v n xs) :
  (Builtin.append_ #[t,t] ty #[v,.slice none 0 c]).run P w=.ok v w:=by
 rcases hown.2 with⟨rfl,rfl⟩|⟨g,cap,cur,rfl,_,_,hnc,_⟩
 ·simp [Builtin.append_,run_underlying ht,sizeOf,typeInfo,hi,Builtin.lenOf,Builtin.firstCells]
 ·simp [Builtin.append_,run_underlying ht,sizeOf,typeInfo,hi,Builtin.lenOf,Builtin.firstCells,hnc,storeCells]
theorem Z2W (w:World) (base:Nat) (t ty e:TypeId) (i:TypeInfo) (z:Value) (size bytes:Nat) (ht:P.underlying t=some (.slice e)) (hi:P.info? e=some i) (hz:i.zero=some z)
  (hsize:i.size=size) (hby:i.bytes=bytes) (hzs:z.cells.size=size) (hsz:0<size)
  (v:Value) (n:Nat) (xs:List Value) (hown:w.ownsRow base e size v n xs)
  (ao:Option Addr) (m c:Nat) (news:List Value) (hl:news.length=m*size) (hrow:Z0g w ao news) (h1:∀u∈news,u.oneCell'=true)
  (h63:n+m≤maxLen) (hbytes:(n+m)*bytes≤140737488355328) (hbase:base≤w.heap.size) :
  ∃a' c' w',(Builtin.append_ #[t,t] ty #[v,.slice ao m c]).run P w=.ok (.slice a' (n+m) c') w'∧w'.ownsRow base e size (.slice a' (n+m) c') (n+m) (xs++news)∧
   w.grownBy w' v.ownBlock∧((Value.slice a' (n+m) c').ownBlock=v.ownBlock∨(Value.slice a' (n+m) c').ownBlock=some w.heap.size):=by
 cases ao with
 | some ad=>exact Z2o w base t ty e i z size bytes ht hi hz hsize hby hzs hsz v n xs hown (some ad) m c news hl hrow (by rintro⟨⟩) h1 h63 hbytes hbase
 | none=>
  have hn:news=[]:=by
   rcases hrow with h|⟨_,_,h,_⟩
   ·exact h
   ·cases h
  subst hn
  have hm:m=0:=by
   rcases Nat.eq_zero_or_pos m with h|h
   ·exact h
   ·have:=Nat.mul_pos h hsz
    simp at hl;omega
  subst hm
  have hrun:=Z3s (P:=P) base t ty e i size c ht hi v n xs hown
  rcases hown.2 with⟨rfl,hn⟩|⟨g,cap,cur,rfl,_⟩
  ·subst hn
   exact⟨none,0,w,hrun,by simpa using hown,World.grownBy.refl _ _,.inl rfl⟩
  ·exact⟨_,_,w,hrun,by simpa using hown,World.grownBy.refl _ _,.inl rfl⟩
theorem Z1D {ops:Array Oper} {rest:List Oper} {o:Oper} {a:Act} {Q:Exit→Act→World→Prop} (hgd:o.guard=none) (s x:Operand) (t:TypeId)
  (ho:o.op=.call { callee:=.builtin .append,args:=#[s,x],argTypes:=#[t,t] })
  (base:Nat) (e:TypeId) (i:TypeInfo) (z:Value) (size bytes:Nat) (ht:P.underlying t=some (.slice e)) (hi:P.info? e=some i) (hz:i.zero=some z)
  (hsize:i.size=size) (hby:i.bytes=bytes) (hzs:z.cells.size=size) (hsz:0<size)
  (v:Value) (n:Nat) (xs:List Value) (hs:a.eval s=v) (hown:w.ownsRow base e size v n xs)
  (ao:Option Addr) (m c:Nat) (news:List Value) (hx:a.eval x=.slice ao m c) (hl:news.length=m*size) (hrow:Z0g w ao news) (h1:∀u∈news,u.oneCell'=true)
  (h63:n+m≤maxLen) (hbytes:(n+m)*bytes≤140737488355328) (hbase:base≤w.heap.size)
  (h:∀a' c' w',w'.ownsRow base e size (.slice a' (n+m) c') (n+m) (xs++news)→w.grownBy w' v.ownBlock→
   ((Value.slice a' (n+m) c').ownBlock=v.ownBlock∨(Value.slice a' (n+m) c').ownBlock=some w.heap.size)→wpList P ops Q rest (a.put o.dst (.slice a' (n+m) c')) w'):wpList P ops Q (o::rest) a w:=by
 refine wpList_plain hgd fun K hK=>?_
 obtain⟨a',c',w',hr,h2,h3,h4⟩:=Z2W (P:=P) w base t o.type e i z size bytes ht hi hz hsize hby hzs hsz v n xs hown ao m c news hl hrow h1 h63 hbytes hbase
 unfold Oper.wp execOp
 simp only [ho,resolve,invoke,builtin,Sem.run_bind,Sem.run_pure,Result.andThen_ok,List.map_toArray,List.map_cons,List.map_nil,hs,hx,hr]
 exact hK _ _ (h a' c' w' h2 h3 h4)
theorem Z1r {ops:Array Oper} {o:Oper} {a:Act} {K:Act→World→Prop} {Q:Exit→Act→World→Prop} {E:Prop} (hgd:o.guard=none) (s x:Operand) (t:TypeId)
  (ho:o.op=.call { callee:=.builtin .append,args:=#[s,x],argTypes:=#[t,t] })
  (base:Nat) (e:TypeId) (i:TypeInfo) (z:Value) (size bytes:Nat) (ht:P.underlying t=some (.slice e)) (hi:P.info? e=some i) (hz:i.zero=some z)
  (hsize:i.size=size) (hby:i.bytes=bytes) (hzs:z.cells.size=size) (hsz:0<size)
  (v:Value) (n:Nat) (xs:List Value) (hs:a.eval s=v) (hown:w.ownsRow base e size v n xs)
  (ao:Option Addr) (m c:Nat) (news:List Value) (hx:a.eval x=.slice ao m c) (hl:news.length=m*size) (hrow:Z0g w ao news) (h1:∀u∈news,u.oneCell'=true)
  (h63:n+m≤maxLen) (hbytes:(n+m)*bytes≤140737488355328) (hbase:base≤w.heap.size)
  (h:∀a' c' w',w'.ownsRow base e size (.slice a' (n+m) c') (n+m) (xs++news)→w.grownBy w' v.ownBlock→
   ((Value.slice a' (n+m) c').ownBlock=v.ownBlock∨(Value.slice a' (n+m) c').ownBlock=some w.heap.size)→K (a.put o.dst (.slice a' (n+m) c')) w') :
  if Region.wanted o (yielded ops a.tmps)=true then Oper.wp P o a w K Q else E:=by
 have hw:Region.wanted o (yielded ops a.tmps)=true:=by simp [Region.wanted,hgd]
 rw [if_pos hw]
 obtain⟨a',c',w',hr,h2,h3,h4⟩:=Z2W (P:=P) w base t o.type e i z size bytes ht hi hz hsize hby hzs hsz v n xs hown ao m c news hl hrow h1 h63 hbytes hbase
 unfold Oper.wp execOp
 simp only [ho,resolve,invoke,builtin,Sem.run_bind,Sem.run_pure,Result.andThen_ok,List.map_toArray,List.map_cons,List.map_nil,hs,hx,hr]
 exact h a' c' w' h2 h3 h4
end
theorem Z94:(Tryz.prog.info? 42).map (fun i=>(i.zero,i.size,i.bytes))=some (some (.agg #[.string ⟨#[]⟩,.slice none 0 0,.slice none 0 0]),3,64):=by kernel_rfl
theorem Z8T:Tryz.prog.underlying 23=some (.slice 42):=by kernel_rfl
theorem Z5X:(Tryz.prog.info? 48).map (fun i=>(i.zero,i.size,i.bytes))=some (some (.agg #[.int .i64 0,.string ⟨#[]⟩,.slice none 0 0,.slice none 0 0,.slice none 0 0]),5,96):=by kernel_rfl
theorem Z5K:Tryz.prog.underlying 40=some (.slice 48):=by kernel_rfl
theorem Z4W:(Tryz.prog.info? 9).map (fun i=>(i.zero,i.size,i.bytes))=some (some (.string ⟨#[]⟩),1,16):=by kernel_rfl
theorem Z4G:Tryz.prog.underlying 39=some (.slice 9):=by kernel_rfl
section
variable {w:World} {ops:Array Oper} {rest:List Oper} {o:Oper} {a:Act} {Q:Exit→Act→World→Prop}
theorem Z8u (hgd:o.guard=none) (s x:Operand) (ho:o.op=.call { callee:=.builtin .append,args:=#[s,x],argTypes:=#[23,23] })
  (base:Nat) (v:Value) (n:Nat) (xs:List Value) (hs:a.eval s=v) (hown:w.ownsRow base 42 3 v n xs)
  (ao:Option Addr) (m c:Nat) (cells:List (List Value)) (hx:a.eval x=.slice ao m c) (hrow:Z0g w ao cells.flatten) (hm:cells.length=m) (hl:∀cl∈cells,cl.length=3) (hone:∀cl∈cells,∀u∈cl,u.oneCell'=true)
  (hb:n+m≤1099511627776) (hbase:base≤w.heap.size)
  (h:∀a' c' w',w'.ownsRow base 42 3 (.slice a' (n+m) c') (n+m) (xs++cells.flatten)→w.grownBy w' v.ownBlock→
   ((Value.slice a' (n+m) c').ownBlock=v.ownBlock∨(Value.slice a' (n+m) c').ownBlock=some w.heap.size)→wpList Tryz.prog ops Q rest (a.put o.dst (.slice a' (n+m) c')) w'):wpList Tryz.prog ops Q (o::rest) a w:=by
 obtain⟨i0,hi,hz0,hz1,hz2⟩:=info_parts Z94
 exact Z1D hgd s x 23 ho base 42 i0 (.agg #[.string ⟨#[]⟩,.slice none 0 0,.slice none 0 0]) 3 64 Z8T hi hz0 hz1 hz2 rfl (by decide) v n xs hs hown ao m c _ hx (by rw [Z1A hl,hm]) hrow (by
  intro u hu
  obtain⟨cl,h1,h2⟩:=List.mem_flatten.1 hu
  exact hone cl h1 u h2) (by unfold maxLen;omega) (by omega) hbase h
theorem Z4A {K:Act→World→Prop} {E:Prop} (hgd:o.guard=none) (s x:Operand) (ho:o.op=.call { callee:=.builtin .append,args:=#[s,x],argTypes:=#[23,23] })
  (base:Nat) (v:Value) (n:Nat) (xs:List Value) (hs:a.eval s=v) (hown:w.ownsRow base 42 3 v n xs)
  (ao:Option Addr) (m c:Nat) (cells:List (List Value)) (hx:a.eval x=.slice ao m c) (hrow:Z0g w ao cells.flatten) (hm:cells.length=m) (hl:∀cl∈cells,cl.length=3) (hone:∀cl∈cells,∀u∈cl,u.oneCell'=true)
  (hb:n+m≤1099511627776) (hbase:base≤w.heap.size)
  (h:∀a' c' w',w'.ownsRow base 42 3 (.slice a' (n+m) c') (n+m) (xs++cells.flatten)→w.grownBy w' v.ownBlock→
   ((Value.slice a' (n+m) c').ownBlock=v.ownBlock∨(Value.slice a' (n+m) c').ownBlock=some w.heap.size)→K (a.put o.dst (.slice a' (n+m) c')) w'):if Region.wanted o (yielded ops a.tmps)=true then Oper.wp Tryz.prog o a w K Q else E:=by
 obtain⟨i0,hi,hz0,hz1,hz2⟩:=info_parts Z94
 exact Z1r hgd s x 23 ho base 42 i0 (.agg #[.string ⟨#[]⟩,.slice none 0 0,.slice none 0 0]) 3 64 Z8T hi hz0 hz1 hz2 rfl (by decide) v n xs hs hown ao m c _ hx (by rw [Z1A hl,hm]) hrow (by
  intro u hu
  obtain⟨cl,h1,h2⟩:=List.mem_flatten.1 hu
  exact hone cl h1 u h2) (by unfold maxLen;omega) (by omega) hbase h
theorem Z2J (hgd:o.guard=none) (s x:Operand) (ho:o.op=.call { callee:=.builtin .append,args:=#[s,x],argTypes:=#[40,40] })
  (base:Nat) (v:Value) (n:Nat) (xs:List Value) (hs:a.eval s=v) (hown:w.ownsRow base 48 5 v n xs)
  (ao:Option Addr) (m c:Nat) (cells:List (List Value)) (hx:a.eval x=.slice ao m c) (hrow:Z0g w ao cells.flatten) (hm:cells.length=m) (hl:∀cl∈cells,cl.length=5) (hone:∀cl∈cells,∀u∈cl,u.oneCell'=true)
  (hb:n+m≤1099511627776) (hbase:base≤w.heap.size)
  (h:∀a' c' w',w'.ownsRow base 48 5 (.slice a' (n+m) c') (n+m) (xs++cells.flatten)→w.grownBy w' v.ownBlock→
   ((Value.slice a' (n+m) c').ownBlock=v.ownBlock∨(Value.slice a' (n+m) c').ownBlock=some w.heap.size)→wpList Tryz.prog ops Q rest (a.put o.dst (.slice a' (n+m) c')) w'):wpList Tryz.prog ops Q (o::rest) a w:=by
 obtain⟨i0,hi,hz0,hz1,hz2⟩:=info_parts Z5X
 exact Z1D hgd s x 40 ho base 48 i0 (.agg #[.int .i64 0,.string ⟨#[]⟩,.slice none 0 0,.slice none 0 0,.slice none 0 0]) 5 96 Z5K hi hz0 hz1 hz2 rfl (by decide) v n xs hs hown ao m c _ hx (by rw [Z1A hl,hm]) hrow (by
  intro u hu
  obtain⟨cl,h1,h2⟩:=List.mem_flatten.1 hu
  exact hone cl h1 u h2) (by unfold maxLen;omega) (by omega) hbase h
theorem Z44 {K:Act→World→Prop} {E:Prop} (hgd:o.guard=none) (s x:Operand) (ho:o.op=.call { callee:=.builtin .append,args:=#[s,x],argTypes:=#[40,40] })
  (base:Nat) (v:Value) (n:Nat) (xs:List Value) (hs:a.eval s=v) (hown:w.ownsRow base 48 5 v n xs)
  (ao:Option Addr) (m c:Nat) (cells:List (List Value)) (hx:a.eval x=.slice ao m c) (hrow:Z0g w ao cells.flatten) (hm:cells.length=m) (hl:∀cl∈cells,cl.length=5) (hone:∀cl∈cells,∀u∈cl,u.oneCell'=true)
  (hb:n+m≤1099511627776) (hbase:base≤w.heap.size)
  (h:∀a' c' w',w'.ownsRow base 48 5 (.slice a' (n+m) c') (n+m) (xs++cells.flatten)→w.grownBy w' v.ownBlock→
   ((Value.slice a' (n+m) c').ownBlock=v.ownBlock∨(Value.slice a' (n+m) c').ownBlock=some w.heap.size)→K (a.put o.dst (.slice a' (n+m) c')) w'):if Region.wanted o (yielded ops a.tmps)=true then Oper.wp Tryz.prog o a w K Q else E:=by
 obtain⟨i0,hi,hz0,hz1,hz2⟩:=info_parts Z5X
 exact Z1r hgd s x 40 ho base 48 i0 (.agg #[.int .i64 0,.string ⟨#[]⟩,.slice none 0 0,.slice none 0 0,.slice none 0 0]) 5 96 Z5K hi hz0 hz1 hz2 rfl (by decide) v n xs hs hown ao m c _ hx (by rw [Z1A hl,hm]) hrow (by
  intro u hu
  obtain⟨cl,h1,h2⟩:=List.mem_flatten.1 hu
  exact hone cl h1 u h2) (by unfold maxLen;omega) (by omega) hbase h
theorem Z8F (hgd:o.guard=none) (s x:Operand) (ho:o.op=.call { callee:=.builtin .append,args:=#[s,x],argTypes:=#[39,39] })
  (base:Nat) (v:Value) (n:Nat) (xs:List Value) (hs:a.eval s=v) (hown:w.ownsRow base 9 1 v n xs)
  (ao:Option Addr) (m c:Nat) (cells:List (List Value)) (hx:a.eval x=.slice ao m c) (hrow:Z0g w ao cells.flatten) (hm:cells.length=m) (hl:∀cl∈cells,cl.length=1) (hone:∀cl∈cells,∀u∈cl,u.oneCell'=true)
  (hb:n+m≤1099511627776) (hbase:base≤w.heap.size)
  (h:∀a' c' w',w'.ownsRow base 9 1 (.slice a' (n+m) c') (n+m) (xs++cells.flatten)→w.grownBy w' v.ownBlock→
   ((Value.slice a' (n+m) c').ownBlock=v.ownBlock∨(Value.slice a' (n+m) c').ownBlock=some w.heap.size)→wpList Tryz.prog ops Q rest (a.put o.dst (.slice a' (n+m) c')) w'):wpList Tryz.prog ops Q (o::rest) a w:=by
 obtain⟨i0,hi,hz0,hz1,hz2⟩:=info_parts Z4W
 exact Z1D hgd s x 39 ho base 9 i0 (.string ⟨#[]⟩) 1 16 Z4G hi hz0 hz1 hz2 rfl (by decide) v n xs hs hown ao m c _ hx (by rw [Z1A hl,hm]) hrow (by
  intro u hu
  obtain⟨cl,h1,h2⟩:=List.mem_flatten.1 hu
  exact hone cl h1 u h2) (by unfold maxLen;omega) (by omega) hbase h
theorem Z3W {K:Act→World→Prop} {E:Prop} (hgd:o.guard=none) (s x:Operand) (ho:o.op=.call { callee:=.builtin .append,args:=#[s,x],argTypes:=#[39,39] })
  (base:Nat) (v:Value) (n:Nat) (xs:List Value) (hs:a.eval s=v) (hown:w.ownsRow base 9 1 v n xs)
  (ao:Option Addr) (m c:Nat) (cells:List (List Value)) (hx:a.eval x=.slice ao m c) (hrow:Z0g w ao cells.flatten) (hm:cells.length=m) (hl:∀cl∈cells,cl.length=1) (hone:∀cl∈cells,∀u∈cl,u.oneCell'=true)
  (hb:n+m≤1099511627776) (hbase:base≤w.heap.size)
  (h:∀a' c' w',w'.ownsRow base 9 1 (.slice a' (n+m) c') (n+m) (xs++cells.flatten)→w.grownBy w' v.ownBlock→
   ((Value.slice a' (n+m) c').ownBlock=v.ownBlock∨(Value.slice a' (n+m) c').ownBlock=some w.heap.size)→K (a.put o.dst (.slice a' (n+m) c')) w'):if Region.wanted o (yielded ops a.tmps)=true then Oper.wp Tryz.prog o a w K Q else E:=by
 obtain⟨i0,hi,hz0,hz1,hz2⟩:=info_parts Z4W
 exact Z1r hgd s x 39 ho base 9 i0 (.string ⟨#[]⟩) 1 16 Z4G hi hz0 hz1 hz2 rfl (by decide) v n xs hs hown ao m c _ hx (by rw [Z1A hl,hm]) hrow (by
  intro u hu
  obtain⟨cl,h1,h2⟩:=List.mem_flatten.1 hu
  exact hone cl h1 u h2) (by unfold maxLen;omega) (by omega) hbase h
end
section
variable {α : Type} {s:Nat} {R:Z2u α} {e:TypeId} {S S0:Nat→Prop} {lo n c c':Nat} {w w':World} {a a':Option Addr} {xs:List α}
theorem Za.rows (h:Za s R S w a xs):∃cells:List (List Value),Z0g w a cells.flatten∧cells.length=xs.length∧(∀cl∈cells,cl.length=s)∧∀(i:Nat) cl x,cells[i]? = some cl→xs[i]? = some x→R S w cl x:=h.rd.2
theorem ZM.copied (hR:Z1g s R) {cells:List (List Value)} (h:w.ownsRow lo e s (.slice a 0 c) 0 []) (hm:cells.length=xs.length) (hc:∀cl∈cells,cl.length=s) (hx:∀(i:Nat) cl x,cells[i]? = some cl→xs[i]? = some x→R S0 w cl x) (hS:∀k,S0 k→S k∧k<lo)
  (hown:w'.ownsRow lo e s (.slice a' xs.length c') xs.length cells.flatten) (hg:w.grownBy w' (Value.slice a 0 c).ownBlock)
  (hl:(Value.slice a' xs.length c').ownBlock=(Value.slice a 0 c).ownBlock∨(Value.slice a' xs.length c').ownBlock=some w.heap.size):ZM s R e S lo w' a' xs.length c' xs:=by
 have h0:Z1Y s R e S lo w a 0 c [] []:=⟨h,rfl,by simp,by simp⟩
 have:=Z1Y.pushes hR h0 rfl (cls:=cells) (ys:=xs) hm hc (fun i cl x h1 h2=>hR.mono (fun k _ hk=>⟨(hS k hk).1,fun e=>by have:=(h.lt k e).1;have:=(hS k hk).2;omega⟩) (hx i cl x h1 h2)) (w':=w') (a':=a') (c':=c') (by rw [Nat.zero_add];simpa using hown) hg (by rw [Nat.zero_add];exact hl)
 rw [Nat.zero_add,List.nil_append] at this
 exact this
theorem ZM.one (hR:Z1g s R) {cells:List (List Value)} {cl:List Value} {x:α} (h:Z1Y s R e S lo w a xs.length c xs cells) (hx:R (fun k=>S k∧¬(Value.slice a xs.length c).ownBlock=some k) w cl x)
  (hown:w'.ownsRow lo e s (.slice a' (xs.length+1) c') (xs.length+1) (cells.flatten++[cl].flatten)) (hg:w.grownBy w' (Value.slice a xs.length c).ownBlock)
  (hl:(Value.slice a' (xs.length+1) c').ownBlock=(Value.slice a xs.length c).ownBlock∨(Value.slice a' (xs.length+1) c').ownBlock=some w.heap.size):ZM s R e S lo w' a' (xs.length+1) c' (xs++[x]):=
 Z1Y.pushes hR h rfl (cls:=[cl]) (ys:=[x]) rfl (by intro d hd;simp at hd;subst hd;exact hR.len hx) (fun i d y h1 h2=>by
  match i with
  | 0=>cases h1;cases h2;exact hx
  | i+1=>cases h1) hown hg hl
theorem ZM.addr (h:ZM s R e S lo w a n c xs) (hn:0<n):∃g,a=some ⟨g,0,none⟩∧lo≤g:=by
 obtain⟨cells,k1,-⟩:=h.row
 rcases k1.2 with⟨hv,h0⟩|⟨g,cap,cur,hv,hbg,_⟩
 ·omega
 ·simp only [Value.slice.injEq] at hv
  exact⟨g,hv.1,hbg⟩
theorem ZM.put (hR:Z1g s R) {g j:Nat} (h:ZM s R e S lo w (some ⟨g,0,none⟩) n c xs) (hj:j<n) :
  (∃d:List Value,d.length=s∧∀(q:Nat) v,d[q]? = some v→w.cell? ⟨g,j*s+q,none⟩=some v)∧(∀q,w.frozen? ⟨g,q,none⟩=false)∧
   ∀(d':List Value) (x:α),R (fun k=>S k∧k≠g) w d' x→ZM s R e S lo (w.setCells g (j*s) d') (some ⟨g,0,none⟩) n c (xs.set j x)∧Ze (fun k=>k=g) w (w.setCells g (j*s) d'):=by
 obtain⟨⟨cells,k1,k2,k3,k4⟩,k5⟩:=h
 have hcd:cells[j]? = some (cells[j]'(by omega)):=List.getElem?_eq_getElem _
 have hsplit:∀d',cells.set j d'=cells.take j++d'::cells.drop (j+1):=fun d'=>List.set_eq_take_append_cons_drop .. |>.trans (by rw [if_pos (by omega)])
 have hself:cells=cells.take j++cells[j]'(by omega)::cells.drop (j+1):=by rw [← hsplit];simp
 have hpl:(cells.take j).flatten.length=j*s:=by
  rw [Z1A (s:=s) (fun d hd=>k3 d (List.mem_of_mem_take hd)),List.length_take]
  congr 1;omega
 have hdl:=k3 _ (List.getElem_mem (show j<cells.length by omega))
 have hk:w.ownsRow lo e s (.slice (some ⟨g,0,none⟩) n c) n ((cells.take j).flatten++cells[j]'(by omega)++(cells.drop (j+1)).flatten):=by
  have hf:cells.flatten=(cells.take j).flatten++cells[j]'(by omega)++(cells.drop (j+1)).flatten:=by
   have h9:=congrArg List.flatten hself
   rw [List.flatten_append,List.flatten_cons,← List.append_assoc] at h9
   exact h9
  rw [← hf];exact k1
 refine⟨⟨_,hdl,fun q v hv=>?_⟩,fun q=>k1.frozenAt q,fun d' x hx=>?_⟩
 ·have hq:=(List.getElem?_eq_some_iff.1 hv).1
  have hl:=hk.1
  simp only [List.length_append] at hl
  rw [hk.cellAt (j*s+q) (by omega),List.append_assoc,List.getElem?_append_right (by omega),hpl,Nat.add_sub_cancel_left,List.getElem?_append_left hq]
  exact hv
 ·have hd':=hR.len hx
  have h1:=Z4n (vs:=d') (o:=j*s) hpl (by omega) hk
  have ht:Ze (fun k=>k=g) w (w.setCells g (j*s) d'):=ZB d' w (j*s)
  refine⟨⟨⟨cells.set j d',?_,by simp [k2],fun q hq=>?_,fun i q y hq hy=>?_⟩,by simp [k5]⟩,ht⟩
  ·rw [hsplit,List.flatten_append,List.flatten_cons,← List.append_assoc]
   exact h1.1
  ·rcases List.mem_or_eq_of_mem_set hq with hq|rfl
   ·exact k3 q hq
   ·exact hd'
  ·have hown:(Value.slice (some ⟨g,0,none⟩) n c).ownBlock=some g:=rfl
   by_cases hij:i=j
   ·subst hij
    rw [List.getElem?_set_self (by omega)] at hq hy
    cases hq;cases hy
    exact hR.turned ht (fun k _ h2 h3=>h2.2 (by rw [hown];rw [show k=g from h3])) (hR.mono (fun k _ h2=>⟨h2.1,fun e=>h2.2 (by rw [hown] at e;exact(Option.some.inj e).symm)⟩) hx)
   ·rw [List.getElem?_set_ne (by omega)] at hq hy
    exact hR.turned ht (fun k _ h2 h3=>h2.2 (by rw [hown];rw [show k=g from h3])) (k4 i q y hq hy)
end
def BS (w:World) (rb pb fb lo:Nat):Nat→Prop:=fun k=>w.heap.size≤k∧k<lo∧k≠rb∧k≠pb∧k≠fb
structure Zu (w0 w:World) (br rb pb fb lo:Nat) (a:Option Addr) (len cap:Nat) (bs:List Int) (u:Nat) (pa:Option Addr) (pc:Nat) (ps:List FnD) (fpa:Option Addr) (fpc:Nat) (fba:Option Addr) (fbc:Nat) (f:FnD) (wr:World):Prop where
 rd:∃q,q≤u∧Rd w0 wr br a len cap bs q
 t:Zd br w wr
 lt:br<w.heap.size∧w0.heap.size≤w.heap.size∧w.heap.size≤rb∧w.heap.size≤pb∧w.heap.size≤fb∧rb<lo∧pb<lo∧fb<lo∧rb≠pb∧rb≠fb∧pb≠fb∧lo≤wr.heap.size
 rrow:wr.heap[rb]? = some (.cells #[.slice none 0 0] 25 (0,0))
 prow:wr.heap[pb]? = some (.cells #[.slice pa ps.length pc] 25 (0,0))
 frow:wr.heap[fb]? = some (.cells #[.string f.name,.slice fpa f.params.length fpc,.slice fba f.body.length fbc] 42 (0,0))
 plist:Za 3 (FnP 20) (BS w rb pb fb lo) wr pa ps
 params:Za 1 Z1V (BS w rb pb fb lo) wr fpa f.params
 body:Za 5 (Zv 20) (BS w rb pb fb lo) wr fba f.body
 name:f.name.size≤maxLen
section
variable {w0 w:World} {br rb pb fb lo:Nat} {a:Option Addr} {len cap:Nat} {bs:List Int} {u u':Nat} {pa:Option Addr} {pc:Nat} {ps:List FnD} {fpa:Option Addr} {fpc:Nat} {fba:Option Addr} {fbc:Nat} {f:FnD} {wr w':World}
theorem Zu.more (h:Zu w0 w br rb pb fb lo a len cap bs u pa pc ps fpa fpc fba fbc f wr) (hu:u≤u'):Zu w0 w br rb pb fb lo a len cap bs u' pa pc ps fpa fpc fba fbc f wr:=by
 obtain⟨q,h1,h2⟩:=h.rd
 exact⟨⟨q,by omega,h2⟩,h.t,h.lt,h.rrow,h.prow,h.frow,h.plist,h.params,h.body,h.name⟩
theorem Zu.step {T:Nat→Prop} (h:Zu w0 w br rb pb fb lo a len cap bs u pa pc ps fpa fpc fba fbc f wr) (ht:Ze T wr w') (hT:∀k,k<wr.heap.size→T k→k=br∨lo≤k) (hr:∃q,q≤u'∧Rd w0 w' br a len cap bs q):Zu w0 w br rb pb fb lo a len cap bs u' pa pc ps fpa fpc fba fbc f w':=by
 have hl:=h.lt
 have hk:∀k,k<wr.heap.size→BS w rb pb fb lo k→¬T k:=fun k h1 h2 h3=>by have:=hT k h1 h3;obtain⟨g1,g2,-⟩:=h2;omega
 have hb:∀k,k<wr.heap.size→w.heap.size≤k→k<lo→w'.heap[k]? = wr.heap[k]?:=fun k h1 h2 h3=>ht.block k h1 (fun e=>by have:=hT k h1 e;omega)
 refine⟨hr,?_,⟨hl.1,hl.2.1,hl.2.2.1,hl.2.2.2.1,hl.2.2.2.2.1,hl.2.2.2.2.2.1,hl.2.2.2.2.2.2.1,hl.2.2.2.2.2.2.2.1,hl.2.2.2.2.2.2.2.2.1,hl.2.2.2.2.2.2.2.2.2.1,hl.2.2.2.2.2.2.2.2.2.2.1,by have:=ht.size;omega⟩,(hb rb (by omega) (by omega) (by omega)).trans h.rrow,(hb pb (by omega) (by omega) (by omega)).trans h.prow,(hb fb (by omega) (by omega) (by omega)).trans h.frow,h.plist.turned (Z2 20) ht hk,h.params.turned Z3 ht hk,h.body.turned (Z0 20) ht hk,h.name⟩
 have h1:Ze (fun k=>k=br∨w.heap.size≤k) w wr:=h.t
 have h2:=h1.size
 exact⟨ht.os.trans h1.os,ht.tape.trans h1.tape,ht.output.trans h1.output,Nat.le_trans h1.size ht.size,fun k hk hn=>(ht.block k (by omega) (fun e=>by have:=hT k (by omega) e;omega)).trans (h1.block k hk hn)⟩
theorem Zu.own {T:Nat→Prop} (h:Zu w0 w br rb pb fb lo a len cap bs u pa pc ps fpa fpc fba fbc f wr) (ht:Ze T wr w') (hT:∀k,k<wr.heap.size→T k→lo≤k):Zu w0 w br rb pb fb lo a len cap bs u pa pc ps fpa fpc fba fbc f w':=by
 obtain⟨q,hq,hp⟩:=h.rd
 have hl:=h.lt
 refine h.step ht (fun k h1 h2=>.inr (hT k h1 h2)) ⟨q,hq,hp.bytes,hp.below.trans (ht.below (B:=w0.heap.size) hp.below.size (fun k hk=>?_)),hp.base,(ht.block _ hp.lt (fun e=>by have:=hT _ hp.lt e;omega)).trans hp.blk⟩
 by_cases hk2:k<wr.heap.size
 ·have:=hT k hk2 hk;omega
 ·have:=hp.below.size;omega
theorem Zu.later (h:Zu w0 w br rb pb fb lo a len cap bs u pa pc ps fpa fpc fba fbc f wr) (hb:Below wr.heap.size wr w'):Zu w0 w br rb pb fb lo a len cap bs u pa pc ps fpa fpc fba fbc f w':=
 h.own (ZS hb (S:=fun k=>wr.heap.size≤k) (fun k h1 _=>h1)) (fun k h1 h2=>by have h2:wr.heap.size≤k:=h2;omega)
theorem Zu.alloc (o:Obj) (h:Zu w0 w br rb pb fb lo a len cap bs u pa pc ps fpa fpc fba fbc f wr):Zu w0 w br rb pb fb lo a len cap bs u pa pc ps fpa fpc fba fbc f (wr.alloc o):=h.later ((bRf _ _).alloc (Nat.le_refl _) _)
theorem Zu.call (h:Zu w0 w br rb pb fb lo a len cap bs u pa pc ps fpa fpc fba fbc f wr) (ht:Zd br wr w') (hr:∃q,q≤u'∧Rd w0 w' br a len cap bs q):Zu w0 w br rb pb fb lo a len cap bs u' pa pc ps fpa fpc fba fbc f w':=
 h.step (T:=fun k=>k=br∨wr.heap.size≤k) ht (fun k h1 h2=>by have h2:k=br∨wr.heap.size≤k:=h2;omega) hr
theorem Zu.up (h:Zu w0 w br rb pb fb lo a len cap bs u pa pc ps fpa fpc fba fbc f wr):Zu w0 w br rb pb fb wr.heap.size a len cap bs u pa pc ps fpa fpc fba fbc f wr:=by
 have hl:=h.lt
 have hm:∀k,k<wr.heap.size→BS w rb pb fb lo k→BS w rb pb fb wr.heap.size k:=fun k h1 h2=>⟨h2.1,h1,h2.2.2⟩
 exact⟨h.rd,h.t,⟨hl.1,hl.2.1,hl.2.2.1,hl.2.2.2.1,hl.2.2.2.2.1,by omega,by omega,by omega,hl.2.2.2.2.2.2.2.2.1,hl.2.2.2.2.2.2.2.2.2.1,hl.2.2.2.2.2.2.2.2.2.2.1,Nat.le_refl _⟩,h.rrow,h.prow,h.frow,h.plist.mono (Z2 20) hm,h.params.mono Z3 hm,h.body.mono (Z0 20) hm,h.name⟩
theorem ZaJ {k:Nat} (h:BS w rb pb fb lo k):¬k=fb:=h.2.2.2.2
theorem Zu.stored (h:Zu w0 w br rb pb fb lo a len cap bs u pa pc ps fpa fpc fba fbc f wr) (i:Nat) (v:Value) :
  (∃q,q≤u∧Rd w0 (wr.setCell ⟨fb,i,none⟩ v) br a len cap bs q)∧Zd br w (wr.setCell ⟨fb,i,none⟩ v)∧(wr.setCell ⟨fb,i,none⟩ v).heap[rb]? = some (.cells #[.slice none 0 0] 25 (0,0))∧(wr.setCell ⟨fb,i,none⟩ v).heap[pb]? = some (.cells #[.slice pa ps.length pc] 25 (0,0))∧
  (br<w.heap.size∧w0.heap.size≤w.heap.size∧w.heap.size≤rb∧w.heap.size≤pb∧w.heap.size≤fb∧rb<wr.heap.size∧pb<wr.heap.size∧fb<wr.heap.size∧rb≠pb∧rb≠fb∧pb≠fb∧wr.heap.size≤(wr.setCell ⟨fb,i,none⟩ v).heap.size)∧Za 3 (FnP 20) (BS w rb pb fb wr.heap.size) (wr.setCell ⟨fb,i,none⟩ v) pa ps∧Za 1 Z1V (BS w rb pb fb wr.heap.size) (wr.setCell ⟨fb,i,none⟩ v) fpa f.params∧Za 5 (Zv 20) (BS w rb pb fb wr.heap.size) (wr.setCell ⟨fb,i,none⟩ v) fba f.body:=by
 have ht:=Z4 wr fb i v
 have hl:=h.up.lt
 obtain⟨q,hq,hp⟩:=h.rd
 have hk:∀k,k<wr.heap.size→BS w rb pb fb wr.heap.size k→¬k=fb:=fun k _ h2=>ZaJ h2
 refine⟨⟨q,hq,hp.bytes,hp.below.trans (ht.below (B:=w0.heap.size) hp.below.size (fun k hk=>by have hk:k=fb:=hk;omega)),hp.base,(ht.block _ hp.lt (fun e=>by have e:br=fb:=e;omega)).trans hp.blk⟩,?_,(ht.block rb (by omega) (fun e=>by have e:rb=fb:=e;omega)).trans h.rrow,(ht.block pb (by omega) (fun e=>by have e:pb=fb:=e;omega)).trans h.prow,by rw [World.size_setCell];exact hl,h.up.plist.turned (Z2 20) ht hk,h.up.params.turned Z3 ht hk,h.up.body.turned (Z0 20) ht hk⟩
 exact Ze.trans (S:=fun k=>k=br∨w.heap.size≤k) h.t (ht.mono (fun k hk=>.inr (by have hk:k=fb:=hk;omega)))
theorem Zu.setName (h:Zu w0 w br rb pb fb lo a len cap bs u pa pc ps fpa fpc fba fbc f wr) {nm:ByteArray} (hn:nm.size≤maxLen):Zu w0 w br rb pb fb wr.heap.size a len cap bs u pa pc ps fpa fpc fba fbc ⟨nm,f.params,f.body⟩ (wr.setCell ⟨fb,0,none⟩ (.string nm)):=by
 obtain⟨h1,h2,h3,h4,h5,h6,h7,h8⟩:=h.stored 0 (.string nm)
 exact⟨h1,h2,h5,h3,h4,(hSs wr fb 0 _ _ _ h.frow).trans rfl,h6,h7,h8,hn⟩
theorem Zu.setParams (h:Zu w0 w br rb pb fb lo a len cap bs u pa pc ps fpa fpc fba fbc f wr) {fpa':Option Addr} {fpc' m:Nat} {qs:List ByteArray} (hq:Za 1 Z1V (fun k=>w.heap.size≤k∧k≠rb∧k≠pb∧k≠fb) wr fpa' qs) (hm:qs.length=m):Zu w0 w br rb pb fb wr.heap.size a len cap bs u pa pc ps fpa' fpc' fba fbc ⟨f.name,qs,f.body⟩ (wr.setCell ⟨fb,1,none⟩ (.slice fpa' m fpc')):=by
 obtain⟨h1,h2,h3,h4,h5,h6,h7,h8⟩:=h.stored 1 (.slice fpa' m fpc')
 refine⟨h1,h2,h5,h3,h4,?_,h6,?_,h8,h.name⟩
 ·rw [hm];exact(hSs wr fb 1 _ _ _ h.frow).trans rfl
 ·exact((hq.here Z3).mono Z3 (fun k _ h=>⟨h.1.1,h.2,h.1.2⟩)).turned Z3 (Z4 wr fb 1 (.slice fpa' m fpc')) (fun k _ h=>ZaJ h)
theorem Zu.setBody (h:Zu w0 w br rb pb fb lo a len cap bs u pa pc ps fpa fpc fba fbc f wr) {fba':Option Addr} {fbc' m:Nat} {ys:List Zb} (hq:Za 5 (Zv 20) (fun k=>w.heap.size≤k∧k≠rb∧k≠pb∧k≠fb) wr fba' ys) (hm:ys.length=m):Zu w0 w br rb pb fb wr.heap.size a len cap bs u pa pc ps fpa fpc fba' fbc' ⟨f.name,f.params,ys⟩ (wr.setCell ⟨fb,2,none⟩ (.slice fba' m fbc')):=by
 obtain⟨h1,h2,h3,h4,h5,h6,h7,h8⟩:=h.stored 2 (.slice fba' m fbc')
 refine⟨h1,h2,h5,h3,h4,?_,h6,h7,?_,h.name⟩
 ·rw [hm];exact(hSs wr fb 2 _ _ _ h.frow).trans rfl
 ·exact((hq.here (Z0 20)).mono (Z0 20) (fun k _ h=>⟨h.1.1,h.2,h.1.2⟩)).turned (Z0 20) (Z4 wr fb 2 (.slice fba' m fbc')) (fun k _ h=>ZaJ h)
theorem Zu.fP (h:Zu w0 w br rb pb fb lo a len cap bs u pa pc ps fpa fpc fba fbc f wr) (h1:f.params.length≤100) (h2:f.body.length≤100):FnP 20 (BS w rb pb fb lo) wr [.string f.name,.slice fpa f.params.length fpc,.slice fba f.body.length fbc] f:=
 ⟨fpa,fpc,fba,fbc,rfl,⟨h.name,h1,h2⟩,h.params,h.body⟩
end
theorem Z9D {ps:List FnD} (h:Z0C ps=true) {f:FnD} (hf:f∈ps):f.params.length≤3∧f.body.length≤40:=by
 have hs:∀xs:List Zb,xs.length≤ZY (Z07 4) xs:=fun xs=>by
  induction xs with
  | nil=>exact Nat.zero_le _
  | cons x xs ih=>
   show xs.length+1≤Z07 4 x+ZY (Z07 4) xs
   have:1≤Z07 4 x:=by show 1≤1+_+_;omega
   omega
 have hm:∀(qs:List FnD),f∈qs→ZY (Z07 4) f.body≤Z7M qs:=fun qs=>by
  induction qs with
  | nil=>intro h;cases h
  | cons q qs ih=>
   intro h
   show _≤ZY (Z07 4) q.body+Z7M qs
   rcases List.mem_cons.1 h with rfl|h
   ·omega
   ·have:=ih h;omega
 simp only [Z0C,Z3Z,Bool.and_eq_true,decide_eq_true_eq,List.all_eq_true] at h
 have h1:=h.1.2 f hf
 simp only [fnB,Bool.and_eq_true,decide_eq_true_eq] at h1
 have h2:=hs f.body
 have h3:=hm ps hf
 exact⟨h1.1.1.2,by omega⟩
def Z63 (v:Z7):List Value:=[.int .i64 v.kind,.string v.text]
structure Z8t (P:Nat→Prop) (w:World) (a:Option Addr) (c:Nat) (ws:List Z7):Prop where
 grow:ZM 2 Z3p 55 (fun _=>False) 0 w a ws.length c ws
 own:∀k,(Value.slice a ws.length c).ownBlock=some k→¬P k
structure Z0c (W0:World) (P:Nat→Prop) (w:World) (a:Option Addr) (c:Nat) (ws:List Z7):Prop where
 base:Below W0.heap.size W0 w
 low:∀k,k<W0.heap.size→P k
 lt:∀k,P k→k<w.heap.size
 lst:Z8t P w a c ws
abbrev Z1l (P:Nat→Prop) (w w':World):Prop:=Ze (fun k=>¬P k) w w'
section
variable {W0 w w':World} {P:Nat→Prop} {a a':Option Addr} {c c':Nat} {ws ws':List Z7}
theorem Z8 (hlt:∀k,P k→k<w.heap.size) (hb:Below w.heap.size w w'):Z1l P w w':=ZS hb (fun k h1 h2=>by omega)
theorem Z0c.step (h:Z0c W0 P w a c ws) (ht:Z1l P w w') (hl:Z8t P w' a' c' ws'):Z0c W0 P w' a' c' ws':=
 ⟨h.base.trans (Ze.below ht h.base.size (fun k hk=>by
  rcases Nat.lt_or_ge k W0.heap.size with h1|h1
  ·exact absurd (h.low k h1) hk
  ·exact h1)),h.low,fun k hk=>Nat.lt_of_lt_of_le (h.lt k hk) (Ze.size ht),hl⟩
theorem Z8t.lt (h:Z8t P w a c ws) {k:Nat} (hk:(Value.slice a ws.length c).ownBlock=some k):k<w.heap.size:=by
 obtain⟨cells,hr⟩:=h.grow.rows
 exact(hr.1.lt k hk).2
theorem Z8t.later (h:Z8t P w a c ws) (hb:Below w.heap.size w w'):Z8t P w' a c ws:=⟨h.grow.below ZC hb,h.own⟩
theorem Z0c.later (h:Z0c W0 P w a c ws) (hb:Below w.heap.size w w'):Z0c W0 P w' a c ws:=h.step (Z8 h.lt hb) (h.lst.later hb)
theorem Z0c.box (h:Z0c W0 P w a c ws) (o:Obj):Z0c W0 (fun k=>P k∨k=w.heap.size) (w.alloc o) a c ws:=by
 have hb:Below w.heap.size w (w.alloc o):=(bRf _ _).alloc (Nat.le_refl _) _
 have h1:=h.later hb
 have hs:=World.size_alloc w o
 exact⟨h1.base,fun k hk=>.inl (h1.low k hk),fun k hk=>by
  rcases hk with hk|hk
  ·exact h1.lt k hk
  ·omega,⟨h1.lst.grow,fun k hk h2=>by
   rcases h2 with h2|h2
   ·exact h1.lst.own k hk h2
   ·have:=h.lst.lt hk;omega⟩⟩
theorem Z0c.unbox {Q:Nat→Prop} (h:Z0c W0 Q w a c ws) (hQ:∀k,P k→Q k) (hl:∀k,k<W0.heap.size→P k):Z0c W0 P w a c ws:=
 ⟨h.base,hl,fun k hk=>h.lt k (hQ k hk),⟨h.lst.grow,fun k hk h2=>h.lst.own k hk (hQ k h2)⟩⟩
theorem Z1l.un {Q:Nat→Prop} (h:Z1l Q w w') (hQ:∀k,P k→Q k):Z1l P w w':=Ze.mono h (fun k hk h2=>hk (hQ k h2))
theorem Z1l.cell (h:Z1l P w w') {b o:Nat} {i:Option Nat} {v:Value} (hP:P b) (hb:b<w.heap.size) (hc:w.cell? ⟨b,o,i⟩=some v):w'.cell? ⟨b,o,i⟩=some v:=
 (World.cell?_of_block (h.block b hb (fun h2=>h2 hP))).trans hc
theorem Z0c.cell (h:Z0c W0 P w a c ws) (ht:Z1l P w w') {b o:Nat} {i:Option Nat} {v:Value} (hP:P b) (hc:w.cell? ⟨b,o,i⟩=some v):w'.cell? ⟨b,o,i⟩=some v:=Z1l.cell ht hP (h.lt b hP) hc
end
def Z3d (W0:World) (P:Nat→Prop) (w:World) (ws more:List Z7) (e:Ending) (w':World):Prop:=
 ∃(ws':List Z7) (a':Option Addr) (c':Nat),e=.returned (.slice a' ws'.length c')∧Hid (ws'=ws++more∧Z0c W0 P w' a' c' ws'∧Z1l P w w')
theorem Z41:∀more:List Z7,(more.map Z63).flatten.length=more.length*2
 | []=>rfl
 | v::vs=>by rw [List.map_cons,List.flatten_cons,List.length_append,Z41 vs,List.length_cons];show 2+_=_;omega
theorem Z6K {more:List Z7}:∀u∈(more.map Z63).flatten,u.oneCell'=true:=by
 intro u hu
 obtain⟨cl,h1,h2⟩:=List.mem_flatten.1 hu
 obtain⟨v,h3,rfl⟩:=List.mem_map.1 h1
 exact Z2V u h2
theorem Z0c.push {W0 w w':World} {P:Nat→Prop} {a a':Option Addr} {c c':Nat} {ws more:List Z7} {cells:List (List Value)} (h:Z0c W0 P w a c ws) (hr:Z1Y 2 Z3p 55 (fun _=>False) 0 w a ws.length c ws cells) (hsz:∀v∈more,v.text.size≤maxLen)
  (hown:w'.ownsRow 0 55 2 (.slice a' (ws.length+more.length) c') (ws.length+more.length) (cells.flatten++(more.map Z63).flatten)) (hg:w.grownBy w' (Value.slice a ws.length c).ownBlock)
  (hl:(Value.slice a' (ws.length+more.length) c').ownBlock=(Value.slice a ws.length c).ownBlock∨(Value.slice a' (ws.length+more.length) c').ownBlock=some w.heap.size) :
  Z0c W0 P w' a' c' (ws++more)∧Z1l P w w':=by
 have ht:Z1l P w w':=Zi hg (fun k hk=>h.lst.own k hk)
 have hG:=hr.pushes ZC rfl (cls:=more.map Z63) (ys:=more) (by simp) (by intro cl hcl;obtain⟨v,_,rfl⟩:=List.mem_map.1 hcl;rfl) (fun i cl x h1 h2=>by
  rw [List.getElem?_map,h2] at h1
  cases h1
  exact⟨rfl,hsz x (List.mem_of_getElem? h2)⟩) hown hg hl
 have hlen:(ws++more).length=ws.length+more.length:=List.length_append
 refine⟨h.step ht ⟨by rw [hlen];exact hG,fun k hk hP=>?_⟩,ht⟩
 rw [hlen] at hk
 rcases hl with h1|h1
 ·rw [h1] at hk;exact h.lst.own k hk hP
 ·rw [h1] at hk;cases hk;have:=h.lt _ hP;omega
section
variable {w:World} {ops:Array Oper} {rest:List Oper} {o:Oper} {act:Act} {Q:Exit→Act→World→Prop} {K:Act→World→Prop} {E:Prop}
theorem Z5g (hgd:o.guard=none) (s x:Operand) (ho:o.op=.call { callee:=.builtin .append,args:=#[s,x],argTypes:=#[53,53] })
  {W0:World} {P:Nat→Prop} {a:Option Addr} {c:Nat} {ws:List Z7} (hs:act.eval s=.slice a ws.length c) (hW:Z0c W0 P w a c ws) (more:List Z7) (ao:Option Addr) (m mc:Nat) (hx:act.eval x=.slice ao m mc) (hm:more.length=m) (h0:0<m)
  (hrow:Z0g w ao (more.map Z63).flatten) (hsz:∀v∈more,v.text.size≤maxLen) (hb:ws.length+m≤1099511627776)
  (h:∀(ws':List Z7) a' c' w',Hid (ws'=ws++more∧Z0c W0 P w' a' c' ws'∧Z1l P w w')→wpList Tryz.prog ops Q rest (act.put o.dst (.slice a' ws'.length c')) w'):wpList Tryz.prog ops Q (o::rest) act w:=by
 obtain⟨cells,hr⟩:=hW.lst.grow.rows
 subst hm
 refine Z4M hgd s x ho 0 _ ws.length _ hs hr.1 ao more.length mc _ hx hrow (Z41 more) h0 Z6K hb (Nat.zero_le _) ?_
 intro a' c' w' hown hg hl
 have hP:=hW.push hr hsz hown hg hl
 have:=h (ws++more) a' c' w' (hdd ⟨rfl,hP.1,hP.2⟩)
 rw [List.length_append] at this
 exact this
theorem Z9b (hgd:o.guard=none) (s x:Operand) (ho:o.op=.call { callee:=.builtin .append,args:=#[s,x],argTypes:=#[53,53] })
  {W0:World} {P:Nat→Prop} {a:Option Addr} {c:Nat} {ws:List Z7} (hs:act.eval s=.slice a ws.length c) (hW:Z0c W0 P w a c ws) (more:List Z7) (ao:Option Addr) (m mc:Nat) (hx:act.eval x=.slice ao m mc) (hm:more.length=m) (h0:0<m)
  (hrow:Z0g w ao (more.map Z63).flatten) (hsz:∀v∈more,v.text.size≤maxLen) (hb:ws.length+m≤1099511627776)
  (h:∀(ws':List Z7) a' c' w',Hid (ws'=ws++more∧Z0c W0 P w' a' c' ws'∧Z1l P w w')→K (act.put o.dst (.slice a' ws'.length c')) w'):if Region.wanted o (yielded ops act.tmps)=true then Oper.wp Tryz.prog o act w K Q else E:=by
 obtain⟨cells,hr⟩:=hW.lst.grow.rows
 subst hm
 obtain⟨i0,hi,hz0,hz1,hz2⟩:=info_parts Z60
 refine Z1r hgd s x 53 ho 0 55 i0 (.agg #[.int .i64 0,.string ⟨#[]⟩]) 2 24 Z5W hi hz0 hz1 hz2 rfl (by decide) _ ws.length _ hs hr.1 ao more.length mc _ hx (by simp [Z41 more]) hrow Z6K (by unfold maxLen;omega) (by omega) (Nat.zero_le _) ?_
 intro a' c' w' hown hg hl
 have hP:=hW.push hr hsz hown hg hl
 have:=h (ws++more) a' c' w' (hdd ⟨rfl,hP.1,hP.2⟩)
 rw [List.length_append] at this
 exact this
end
theorem Z6i (w:World) (k:Int) (s:ByteArray):(w.alloc (.cells #[.int .i64 k,.string s] 55)).heap[w.heap.size]? = some (.cells #[.int .i64 k,.string s] 55 (0,0)):=hAn _ _
theorem ZK (s:ByteArray) (w:World):Calls Tryz.prog 25 #[.string s] w fun e w'=>e=.returned (.agg #[.int .i64 3,.string s])∧Below w.heap.size w w':=by
 have hr:=Z6i w 3 s
 have HB:=hdd ((bRf w.heap.size w).alloc (Nat.le_refl _) (.cells #[.int .i64 3,.string s] 55))
 go_enter Tryz.func25,Tryz.ntmps25
 go_wp2
 refine bodyPost_ret (results_cell_row rfl _ _ w.heap.size 55 #[.int .i64 3,.string s] (0,0) _ rfl hr Tryz.underlying55 rfl (by kernel_rfl)) rfl ?_
 exact⟨rfl,HB.out⟩
theorem Z0K (s:ByteArray) (w:World):Calls Tryz.prog 23 #[.string s] w fun e w'=>e=.returned (.agg #[.int .i64 4,.string s])∧Below w.heap.size w w':=by
 have hr:=Z6i w 4 s
 have HB:=hdd ((bRf w.heap.size w).alloc (Nat.le_refl _) (.cells #[.int .i64 4,.string s] 55))
 go_enter Tryz.func23,Tryz.ntmps23
 go_wp2
 refine bodyPost_ret (results_cell_row rfl _ _ w.heap.size 55 #[.int .i64 4,.string s] (0,0) _ rfl hr Tryz.underlying55 rfl (by kernel_rfl)) rfl ?_
 exact⟨rfl,HB.out⟩
theorem Z10 (s:ByteArray) (w:World):Calls Tryz.prog 24 #[.string s] w fun e w'=>e=.returned (.agg #[.int .i64 1,.string s])∧Below w.heap.size w w':=by
 have hr:=Z6i w 1 s
 have HB:=hdd ((bRf w.heap.size w).alloc (Nat.le_refl _) (.cells #[.int .i64 1,.string s] 55))
 go_enter Tryz.func24,Tryz.ntmps24
 go_wp2
 refine bodyPost_ret (results_cell_row rfl _ _ w.heap.size 55 #[.int .i64 1,.string s] (0,0) _ rfl hr Tryz.underlying55 rfl (by kernel_rfl)) rfl ?_
 exact⟨rfl,HB.out⟩
def Z6u (w:World):Prop:=∃bm o,w.cell? ⟨1,0,none⟩=some (.map (some bm))∧w.heap[bm]? = some o∧
 ∀W:World,W.heap[bm]? = some o→∀op:Int,3≤op∧op≤10→(Instr.lookup 137 (.map (some bm)) (.int .i64 op) false).run Tryz.prog W=.ok (.agg #[.string ⟨#[opC op]⟩,.int .i64 (lvl op)]) W
theorem Z6u.later {w w':World} (h:Z6u w) (hb:Below w.heap.size w w'):Z6u w':=by
 obtain⟨bm,o,h1,h2,h3⟩:=h
 exact⟨bm,o,clT hb h1,(hb.block _ (gsI h2).1).trans h2,h3⟩
structure Z30 (w:World):Prop where
 ops:Z3P w
 signs:Z6u w
 keys:Z1F w
 pow:Lib.TabBelow Tryz.prog w.heap.size w "internal/strconv.uint64pow10" .u64 Lib.pow10Tab
theorem Z30.later {w w':World} (h:Z30 w) (hb:Below w.heap.size w w'):Z30 w':=⟨h.ops.later hb,h.signs.later hb,h.keys.later hb,fun w2 hb2=>h.pow w2 (hb.trans (hb2.mono hb.size))⟩
theorem Zb2:∀n:Nat,n≤255→(⟨(Lib.itoa (n:Int)).toArray⟩:ByteArray)=Z1f n:=by
 intro n hn
 have h1:∀u:Nat,Lib.decDigits u=if u<10 then [UInt8.ofNat (48+u)] else Lib.decDigits (u / 10)++[UInt8.ofNat (48+u % 10)]:=fun u=>by
  rw [Lib.decDigits]
  split<;>rfl
 show(⟨(Lib.itoa (n:Int)).toArray⟩:ByteArray)=⟨(Zbd n).toArray⟩
 have:Lib.itoa (n:Int)=Zbd n:=by
  rw [Lib.itoa,if_neg (by omega),Int.toNat_natCast]
  unfold Zbd
  by_cases h:n<10
  ·rw [h1,if_pos h,if_pos h]
  ·rw [h1,if_neg h,if_neg h,h1]
   by_cases h2:n<100
   ·rw [if_pos (by omega),if_pos h2];rfl
   ·rw [if_neg (by omega),if_neg h2,h1,if_pos (by omega)]
    rw [show n / 10 / 10=n / 100 by omega]
    rfl
 rw [this]
theorem ZbM (n:Nat) (hn:n≤255) (W0 w:World) (hT:Z30 W0) (hb:Below W0.heap.size W0 w):Calls Tryz.prog 97 #[.int .i64 n] w fun e w'=>e=.returned (.string (Z1f n))∧Below w.heap.size w w':=by
 refine(Go.Proofs.Any.strconv_Itoa Zbl (n:Int) (by omega) (by omega) w (hT.pow.on hb).here).mono ?_
 rintro e w' ⟨rfl,k,os,rfl⟩
 exact⟨by rw [Zb2 n hn],Go.Lib.below_grow _ _ (Nat.le_refl _) _ _⟩
structure Z0W (lo cb db:Nat) (n m:Nat) (w:World):Prop where
 lt:lo≤cb∧lo≤db∧cb≠db
 c:w.heap[cb]? = some (.cells #[.int .i64 (n:Int)] 3 (0,0))
 d:w.heap[db]? = some (.cells #[.int .i64 (m:Int)] 3 (0,0))
def Z1Q (cb db:Nat) (w w':World):Prop:=Ze (fun b=>b=cb∨b=db∨w.heap.size≤b) w w'
theorem Z1Q.refl (cb db:Nat) (w:World):Z1Q cb db w w:=Ze.refl _ w
theorem Z1Q.trans {cb db:Nat} {a b c:World} (h:Z1Q cb db a b) (k:Z1Q cb db b c):Z1Q cb db a c:=
 Ze.trans h (Ze.mono (T:=fun i=>i=cb∨i=db∨a.heap.size≤i) k (fun i hi=>by have:=h.size;omega))
theorem Z1Q.below {cb db:Nat} {w w':World} (hb:Below w.heap.size w w'):Z1Q cb db w w':=ZS hb (fun k h1 h2=>.inr (.inr h1))
section
variable {lo cb db n m:Nat} {w w':World}
theorem Z0W.lts (h:Z0W lo cb db n m w):cb<w.heap.size∧db<w.heap.size:=⟨(gsI h.c).1,(gsI h.d).1⟩
theorem Z0W.later (h:Z0W lo cb db n m w) (hb:Below w.heap.size w w'):Z0W lo cb db n m w':=
 ⟨h.lt,(hb.block _ h.lts.1).trans h.c,(hb.block _ h.lts.2).trans h.d⟩
theorem Z0W.putC (h:Z0W lo cb db n m w) (n':Nat):Z0W lo cb db n' m (w.setCell ⟨cb,0,none⟩ (.int .i64 (n':Int)))∧Z1Q cb db w (w.setCell ⟨cb,0,none⟩ (.int .i64 (n':Int))):=by
 have ht:=Z4 w cb 0 (.int .i64 (n':Int))
 refine⟨⟨h.lt,?_,(ht.block _ h.lts.2 (fun e=>h.lt.2.2 e.symm)).trans h.d⟩,ht.mono (fun b hb=>.inl hb)⟩
 have:=ZF (A:=[]) (B:=[.int .i64 (n:Int)]) (C:=[]) (vs:=[.int .i64 (n':Int)]) (o:=0) rfl rfl h.c
 rw [show w.setCells cb 0 [.int .i64 (n':Int)]=w.setCell ⟨cb,0,none⟩ (.int .i64 (n':Int)) from rfl] at this
 simpa using this
theorem Z0W.putD (h:Z0W lo cb db n m w) (m':Nat):Z0W lo cb db n m' (w.setCell ⟨db,0,none⟩ (.int .i64 (m':Int)))∧Z1Q cb db w (w.setCell ⟨db,0,none⟩ (.int .i64 (m':Int))):=by
 have ht:=Z4 w db 0 (.int .i64 (m':Int))
 refine⟨⟨h.lt,(ht.block _ h.lts.1 (fun e=>h.lt.2.2 e)).trans h.c,?_⟩,ht.mono (fun b hb=>.inr (.inl hb))⟩
 have:=ZF (A:=[]) (B:=[.int .i64 (m:Int)]) (C:=[]) (vs:=[.int .i64 (m':Int)]) (o:=0) rfl rfl h.d
 rw [show w.setCells db 0 [.int .i64 (m':Int)]=w.setCell ⟨db,0,none⟩ (.int .i64 (m':Int)) from rfl] at this
 simpa using this
end
theorem Zah (lo cb db n m k:Nat) (w:World) (v0 v1 v2 v3 v4:Value) (h:Z0W lo cb db n m w) (hn:n≤1000000000000000) (hm:m≤1000) (hk:k≤1000) :
  Calls Tryz.prog 74 (#[.agg #[v0,v1,v2,v3,v4],.int .i64 (k:Int)]++#[.pointer (some ⟨cb,0,none⟩),.pointer (some ⟨db,0,none⟩)]) w fun e w'=>e=.returned (.tuple #[])∧Z0W lo cb db (n+1) (max m k) w'∧Z1Q cb db w w':=by
 have hba:Below w.heap.size w (w.alloc (.cells #[v0,v1,v2,v3,v4] 48)):=(bRf _ _).alloc (Nat.le_refl _) _
 have HM:=hdd (aI (h.later hba) (show Z1Q cb db w (w.alloc (.cells #[v0,v1,v2,v3,v4] 48)) from Z1Q.below hba))
 clear hba h
 have HX:=hdd (aI (show((n+1:Nat):Int)=(n:Int)+1 by omega) (show((max m k:Nat):Int)=max (m:Int) (k:Int) by omega))
 show Calls _ _ #[.agg #[v0,v1,v2,v3,v4],.int .i64 (k:Int),.pointer (some ⟨cb,0,none⟩),.pointer (some ⟨db,0,none⟩)] w _
 go_enter Tryz.func74,Tryz.ntmps74
 go_upto_region 1 with fail
 generalize w.alloc (.cells #[v0,v1,v2,v3,v4] 48)=W1 at HM ⊢
 have c0:=coR _ _ 0 _ _ _ HM.out.1.c
 have f0:=frR _ _ 0 _ _ HM.out.1.c
 simp only [ga0,ga1] at c0
 have HM2:=hdd (show Z0W lo cb db (n+1) m (W1.setCell ⟨cb,0,none⟩ (.int .i64 ((n+1:Nat):Int)))∧Z1Q cb db w (W1.setCell ⟨cb,0,none⟩ (.int .i64 ((n+1:Nat):Int))) from⟨(HM.out.1.putC (n+1)).1,HM.out.2.trans (HM.out.1.putC (n+1)).2⟩)
 rw [HX.out.1] at HM2
 go_upto_region 2 with fail
 clear c0 f0
 generalize W1.setCell ⟨cb,0,none⟩ (.int .i64 ((n:Int)+1))=W2 at HM2 ⊢
 have d0:=coR _ _ 0 _ _ _ HM2.out.1.d
 have f0:=frR _ _ 0 _ _ HM2.out.1.d
 simp only [ga0,ga1] at d0
 have HM3:=hdd (show Z0W lo cb db (n+1) (max m k) (W2.setCell ⟨db,0,none⟩ (.int .i64 ((max m k:Nat):Int)))∧Z1Q cb db w (W2.setCell ⟨db,0,none⟩ (.int .i64 ((max m k:Nat):Int))) from⟨(HM2.out.1.putD (max m k)).1,HM2.out.2.trans (HM2.out.1.putD (max m k)).2⟩)
 rw [HX.out.2] at HM3
 go_wp2
 go_end0
 exact⟨rfl,HM3.out⟩
def Z2c (D k:Nat):List Zb→Nat:=Z24 (fun s=>k-1+Z1I D s)
theorem Z8L {D k:Nat} (xs:List Zb):Z2c D k xs≤k-1+D:=Z39.2 fun s _=>by have:=Z5b D s;omega
theorem ZaO {D k:Nat} (hk:1≤k) (s:Zb):k-1+Z1I (D+1) s=max k (max (Z2c D (k+1) s.body) (Z2c D (k+1) s.els)):=by
 have h:∀(k:Nat) (xs:List Zb),max k (Z24 (fun s=>k+1-1+Z1I D s) xs)=k+Z24 (Z1I D) xs:=by
  intro k xs
  induction xs with
  | nil=>simp [Z24]
  | cons x xs ih=>simp only [Z24];omega
 have h1:=h k s.body
 have h2:=h k s.els
 show k-1+(1+max (Z24 (Z1I D) s.body) (Z24 (Z1I D) s.els))=max k (max (Z24 (fun s=>k+1-1+Z1I D s) s.body) (Z24 (fun s=>k+1-1+Z1I D s) s.els))
 omega
def Zab (D:Nat):Prop:=∀(lo cb db n m k:Nat) (a:Option Addr) (c:Nat) (xs:List Zb) (w:World),Za 5 (Zv D) (fun b=>b<lo) w a xs→xs.length≤100→Z0W lo cb db n m w→1≤k→k+D≤100→m≤1000→n+ZY (Z07 D) xs≤100000000000000→
  Calls Tryz.prog 73 #[.slice a xs.length c,.int .i64 (k:Int),.func (.func 74) #[] #[.pointer (some ⟨cb,0,none⟩),.pointer (some ⟨db,0,none⟩)]] w fun e w'=>
   e=.returned (.tuple #[])∧Z0W lo cb db (n+ZY (Z07 D) xs) (max m (Z2c D k xs)) w'∧Z1Q cb db w w'
theorem Z5B (D:Nat) (hD:∀D',D=D'+1→Zab D'):Zab D:=by
 intro lo cb db n m k a c xs w h hl hM hk1 hkD hm hn
 have HI:=hdd (aI h (aI hD (aI hk1 (aI hkD (aI hm hn)))))
 have HM0:=hdd hM
 have hl2:xs.length≤9223372036854775807:=by omega
 have hen:∀v u W,(callFunc 74 (#[v,u]++#[.pointer (some ⟨cb,0,none⟩),.pointer (some ⟨db,0,none⟩)])).run Tryz.prog W=.ok (.enter 74 (#[v,u]++#[.pointer (some ⟨cb,0,none⟩),.pointer (some ⟨db,0,none⟩)])) W:=fun v u W=>by kernel_rfl
 have HKW:=hdd (show wrap64 ((k:Int)+1)=((k+1:Nat):Int) by rw [show(k:Int)+1=((k+1:Nat):Int) by omega];exact IntWalk.wrap64_in _ (by omega))
 clear h hD hM hk1 hkD hm hn
 obtain⟨q,hq⟩:∃q:Int,q=k:=⟨_,rfl⟩
 rw [← hq] at HKW ⊢
 have HQ:=hdd hq
 clear hq
 go_enter Tryz.func73,Tryz.ntmps73
 go_wp2_with fail
 go_loopg [10] xs.length (fun G i wr=>∃(j:Nat),j+G=xs.length∧i=.int .i64 j∧Hid (Z0W lo cb db (n+ZY (Z07 D) (xs.take j)) (max m (Z2c D k (xs.take j))) wr∧Z1Q cb db w wr))
 case atStart=>exact⟨0,by omega,rfl,hdd ⟨by simpa [ZY,Z2c,Z24] using HM0.out,Z1Q.refl _ _ _⟩⟩
 case round=>
  obtain⟨j,hj,rfl,HG⟩:=hrel
  clear HM0
  by_cases hlt:j<xs.length
  ·have hji:(j:Int)<(xs.length:Int):=by omega
   obtain⟨b,off,x,aa,ac,ba,bc,ea,ec,rfl,hx,hS,c0,c1,c2,c3,c4⟩:=Z1x (HI.out.1.turned (Z0 D) HG.out.2 (fun b hb h1 h2=>by have:=HG.out.1.lt;have h3:b<lo:=h1;have:=HI.out;omega)) hlt
   obtain⟨D,rfl⟩:∃D',D=D'+1:=by
    cases D with
    | zero=>exact hS.elim
    | succ D=>exact⟨D,rfl⟩
   obtain⟨aa',ac',ba',bc',ea',ec',he,hb,_,hB,hE⟩:=hS
   cases he
   obtain⟨op,name,args,body,els⟩:=x
   simp only [Zb.op,Zb.name,Zb.args,Zb.body,Zb.els] at c0 c1 c2 c3 c4 hb hB hE
   have hsum:ZY (Z07 (D+1)) (xs.take (j+1))=ZY (Z07 (D+1)) (xs.take j)+(1+ZY (Z07 D) body+ZY (Z07 D) els):=Z3U hx
   have hdeep:Z2c (D+1) k (xs.take (j+1))=max (Z2c (D+1) k (xs.take j)) (max k (max (Z2c D (k+1) body) (Z2c D (k+1) els))):=by
    have hmem:k-1+Z1I (D+1) (.mk op name args body els)=max k (max (Z2c D (k+1) body) (Z2c D (k+1) els)):=ZaO HI.out.2.2.1 (.mk op name args body els)
    rw [← hmem]
    exact Z7y (f:=fun s=>k-1+Z1I (D+1) s) hx
   have hle:ZY (Z07 (D+1)) (xs.take (j+1))≤ZY (Z07 (D+1)) xs:=by
    have h1:=Z2d (f:=Z07 (D+1)) (xs.take (j+1)) (xs.drop (j+1))
    rw [List.take_append_drop] at h1
    omega
   have hdl:=Z8L (D:=D+1) (k:=k) (xs.take j)
   obtain⟨n1,hn1⟩:∃n1,n1=n+ZY (Z07 (D+1)) (xs.take j):=⟨_,rfl⟩
   obtain⟨m1,hm1⟩:∃m1,m1=max m (Z2c (D+1) k (xs.take j)):=⟨_,rfl⟩
   have hG:=HG.out
   rw [← hn1,← hm1] at hG
   have hnn:=HI.out.2.2.2.2.2
   have hkD:=HI.out.2.2.2.1
   have hmm:=HI.out.2.2.2.2.1
   have hk1:=HI.out.2.2.1
   have hdb:=Z8L (D:=D) (k:=k+1) body
   have HBD:=hdd (show n1+1+ZY (Z07 D) body+ZY (Z07 D) els≤100000000000000∧m1≤1000∧k+1+D≤100∧max (max m1 k) (Z2c D (k+1) body)≤1000∧body.length≤100∧els.length≤100 by omega)
   have HFIN:=hdd (show n1+1+ZY (Z07 D) body+ZY (Z07 D) els=n+ZY (Z07 (D+1)) (xs.take (j+1))∧max (max (max m1 k) (Z2c D (k+1) body)) (Z2c D (k+1) els)=max m (Z2c (D+1) k (xs.take (j+1))) by
    rw [hsum,hdeep,hn1,hm1];omega)
   have hba:Below wr.heap.size wr (wr.alloc (.cells #[.int .i64 op,.string name,.slice aa args.length ac,.slice ba body.length bc,.slice ea els.length ec] 48)):=(bRf _ _).alloc (Nat.le_refl _) _
   have hrow:=hAn wr (.cells #[.int .i64 op,.string name,.slice aa args.length ac,.slice ba body.length bc,.slice ea els.length ec] 48)
   have HS:=hdd (aI (hB.below (Z0 D) hba) (hE.below (Z0 D) hba))
   have HM1:=hdd (aI (hG.1.later hba) (hG.2.trans (Z1Q.below hba)))
   have HSZ:=hdd (show cb≠wr.heap.size∧db≠wr.heap.size by have:=hG.1.lts;omega)
   have HC:=hdd (Zah lo cb db n1 m1 k _ (.int .i64 op) (.string name) (.slice aa args.length ac) (.slice ba body.length bc) (.slice ea els.length ec) HM1.out.1 (by omega) (by omega) (by omega))
   rw [← HQ.out] at HC
   clear hx hB hE hb hsum hdeep hle hdl hn1 hm1 hG HG hnn hkD hmm hk1 hdb hba
   obtain⟨bx,hbx⟩:∃b,b=wr.heap.size:=⟨_,rfl⟩
   go_upto_region 3 with fail
   rw [← hbx] at hrow HSZ ⊢
   clear hbx
   generalize wr.alloc (.cells #[.int .i64 op,.string name,.slice aa args.length ac,.slice ba body.length bc,.slice ea els.length ec] 48)=W1 at hrow HS HM1 HC ⊢
   have HROW:=hdd hrow
   clear c0 c1 c2 c3 c4 hrow
   have e0:=coR _ _ 0 _ _ _ HROW.out
   have e1:=coR _ _ 1 _ _ _ HROW.out
   have e2:=coR _ _ 2 _ _ _ HROW.out
   have e3:=coR _ _ 3 _ _ _ HROW.out
   have e4:=coR _ _ 4 _ _ _ HROW.out
   simp only [ga0,ga1,ga2] at e0 e1 e2 e3 e4
   go_wp2_with fail
   refine HC.out.mono ?_
   rintro e w2 ⟨rfl,hM2,hT2⟩
   have hlt1:=(gsI HROW.out).1
   have hrow2:=(hT2.block bx hlt1 (fun h=>by have:=HSZ.out;omega)).trans HROW.out
   have HM2:=hdd (aI hM2 (HM1.out.2.trans hT2))
   have HS2:=hdd (aI (HS.out.1.turned (Z0 D) hT2 (fun b hb h1 h2=>by have:=hM2.lt;have h3:b<lo:=h1;omega)) (HS.out.2.turned (Z0 D) hT2 (fun b hb h1 h2=>by have:=hM2.lt;have h3:b<lo:=h1;omega)))
   have HROW2:=hdd hrow2
   have HC2:=hdd (HI.out.2.1 D rfl lo cb db (n1+1) (max m1 k) (k+1) ba bc body w2 HS2.out.1 HBD.out.2.2.2.2.1 hM2 (by omega) HBD.out.2.2.1 (by have:=HBD.out;have:=HI.out.2.2.2.1;omega) (by have:=HBD.out;omega))
   clear hM2 hT2 hrow2 hlt1 e0 e1 e2 e3 e4 HC HS HM1
   have g3:=coR _ _ 3 _ _ _ HROW2.out
   simp only [ga0,ga1,ga2] at g3
   have hsub:wrap64 (q+1)=((k+1:Nat):Int):=HKW.out
   go_wp2_with fail
   refine HC2.out.mono ?_
   rintro e w3 ⟨rfl,hM3,hT3⟩
   have hlt1:=(gsI HROW2.out).1
   have hrow3:=(hT3.block bx hlt1 (fun h=>by have:=HSZ.out;omega)).trans HROW2.out
   have HM3:=hdd (aI hM3 (HM2.out.2.trans hT3))
   have HS3:=hdd (HS2.out.2.turned (Z0 D) hT3 (fun b hb h1 h2=>by have:=hM3.lt;have h3:b<lo:=h1;omega))
   have HROW3:=hdd hrow3
   have HC3:=hdd (HI.out.2.1 D rfl lo cb db (n1+1+ZY (Z07 D) body) (max (max m1 k) (Z2c D (k+1) body)) (k+1) ea ec els w3 HS3.out HBD.out.2.2.2.2.2 hM3 (by omega) HBD.out.2.2.1 HBD.out.2.2.2.1 HBD.out.1)
   clear hM3 hT3 hrow3 hlt1 g3 HC2 HS2 HM2
   have g4:=coR _ _ 4 _ _ _ HROW3.out
   simp only [ga0,ga1,ga2] at g4
   go_wp2_with fail
   refine HC3.out.mono ?_
   rintro e w4 ⟨rfl,hM4,hT4⟩
   have HM4:=hdd (show Z0W lo cb db (n+ZY (Z07 (D+1)) (xs.take (j+1))) (max m (Z2c (D+1) k (xs.take (j+1)))) w4∧Z1Q cb db w w4 by
    rw [← HFIN.out.1,← HFIN.out.2]
    exact⟨hM4,HM3.out.2.trans hT4⟩)
   clear hM4 hT4 g4 HC3 HS3 HM3 hsub
   go_wp2
   go_roundg (gk-1)
   case measure=>omega
   case rel=>exact⟨j+1,by omega,by go_num,HM4⟩
  ·obtain rfl:j=xs.length:=by omega
   have HF:=hdd (show Z0W lo cb db (n+ZY (Z07 D) xs) (max m (Z2c D k xs)) wr∧Z1Q cb db w wr by
    have h1:=HG.out
    rw [List.take_length] at h1
    exact h1)
   go_wp2
   go_end0
   exact⟨rfl,HF.out⟩
theorem Z77:∀D,Zab D
 | 0=>Z5B 0 (fun _ he=>by cases he)
 | D+1=>Z5B (D+1) (fun D' he=>by cases he;exact Z77 D)
theorem Z4N (g:Nat) (n:Int) (w:World) (h:w.cell? ⟨g,0,none⟩=some (.int .i64 n)):(loadVar 3 ⟨g,0,none⟩).run Tryz.prog w=.ok (.int .i64 n) w:=by
 have h1:(isAgg 3).run Tryz.prog w=.ok false w:=by kernel_rfl
 simp only [loadVar,Sem.run_bind,h1,Result.andThen_ok]
 simp [h]
theorem Z6L {fn:Func} {p q:Tmp} (h:fn.results=#[.cell p 3,.cell q 3]) (tmps:Array Value) (w:World) (g1 g2:Nat) (n m:Int)
  (hp:tmps.getD p undef=.pointer (some ⟨g1,0,none⟩)) (hq:tmps.getD q undef=.pointer (some ⟨g2,0,none⟩)) (h1:w.cell? ⟨g1,0,none⟩=some (.int .i64 n)) (h2:w.cell? ⟨g2,0,none⟩=some (.int .i64 m)) :
  (results fn tmps).run Tryz.prog w=.ok (.tuple #[.int .i64 n,.int .i64 m]) w:=by
 have hp':tmps[p]?.getD undef=.pointer (some ⟨g1,0,none⟩):=by simpa using hp
 have hq':tmps[q]?.getD undef=.pointer (some ⟨g2,0,none⟩):=by simpa using hq
 simp only [results,h]
 simp [hp',hq',asAddr,Z4N _ _ _ h1,Z4N _ _ _ h2]
theorem ZaY (w:World) (P Q R:Obj):(((w.alloc P).alloc Q).alloc R).heap[w.heap.size]? = some P∧(((w.alloc P).alloc Q).alloc R).heap[w.heap.size+1]? = some Q∧(((w.alloc P).alloc Q).alloc R).heap[w.heap.size+2]? = some R∧Below w.heap.size w (((w.alloc P).alloc Q).alloc R)∧(((w.alloc P).alloc Q).alloc R).heap.size=w.heap.size+3:=by
 obtain⟨ht,hs,hb⟩:=Z7C w P Q R
 exact⟨ht.p,ht.z,ht.u,hb,hs⟩
theorem Z81 (S:Nat→Prop) (a:Option Addr) (c:Nat) (p:List FnD) (w:World) (h:Za 3 (FnP 4) S w a p) (hl:p.length≤100) :
  Calls Tryz.prog 46 #[.agg #[.slice a p.length c]] w fun e w'=>e=.returned (.tuple #[.int .i64 (Z7M p:Nat),.int .i64 (Z8A p:Nat)])∧Below w.heap.size w w':=by
 obtain⟨t1,t2,t3,t4,t5⟩:=ZaY w (.cells #[.slice a p.length c] 25) (.cells #[.int .i64 0] 3) (.cells #[.int .i64 0] 3)
 have HB:=hdd (aI t1 (aI t4 (aI ((h.mono (Z2 4) (S':=fun b=>b<w.heap.size) (fun k hk _=>hk)).below (Z2 4) t4) (aI (Z5J h hl) t5))))
 have HM:=hdd (show Z0W w.heap.size (w.heap.size+1) (w.heap.size+1+1) 0 0 (((w.alloc (.cells #[.slice a p.length c] 25)).alloc (.cells #[.int .i64 0] 3)).alloc (.cells #[.int .i64 0] 3)) from⟨⟨by omega,by omega,by omega⟩,t2,t3⟩)
 have hl2:p.length≤9223372036854775807:=by omega
 clear h t1 t2 t3 t4 t5
 obtain⟨N,hN⟩:∃n,n=Z7M p:=⟨_,rfl⟩
 obtain⟨M,hM⟩:∃n,n=Z8A p:=⟨_,rfl⟩
 rw [← hN,← hM]
 have HNM:=hdd (aI hN hM)
 clear hN hM
 go_enter Tryz.func46,Tryz.ntmps46
 go_upto_region 1 with fail
 generalize ((w.alloc (.cells #[.slice a p.length c] 25)).alloc (.cells #[.int .i64 0] 3)).alloc (.cells #[.int .i64 0] 3)=W1 at HB HM ⊢
 obtain⟨cb,hcb⟩:∃b,b=w.heap.size+1:=⟨_,rfl⟩
 obtain⟨db,hdb⟩:∃b,b=w.heap.size+1+1:=⟨_,rfl⟩
 rw [← hdb,← hcb] at HM ⊢
 have HCD:=hdd (aI hcb hdb)
 clear hcb hdb
 have p0:=coR _ _ 0 _ _ _ HB.out.1
 simp only [ga0,ga1] at p0
 have hen:∀v u W,(callFunc 74 (#[v,u]++#[.pointer (some ⟨cb,0,none⟩),.pointer (some ⟨db,0,none⟩)])).run Tryz.prog W=.ok (.enter 74 (#[v,u]++#[.pointer (some ⟨cb,0,none⟩),.pointer (some ⟨db,0,none⟩)])) W:=fun v u W=>by kernel_rfl
 go_wp2_with fail
 go_loopg [9] p.length (fun G i wr=>∃(j:Nat),j+G=p.length∧i=.int .i64 j∧Hid (Z0W w.heap.size cb db (ZY (fun f=>ZY (Z07 4) f.body) (p.take j)) (Z24 (fun f=>Z24 (Z1I 4) f.body) (p.take j)) wr∧Z1Q cb db W1 wr))
 case atStart=>exact⟨0,by omega,rfl,hdd ⟨by simpa [ZY,Z24] using HM.out,Z1Q.refl _ _ _⟩⟩
 case round=>
  obtain⟨j,hj,rfl,HG⟩:=hrel
  clear HM p0
  by_cases hlt:j<p.length
  ·have hji:(j:Int)<(p.length:Int):=by omega
   obtain⟨b,off,x,pa,pc,ba,bc,rfl,hx,hF,c0,c1,c2⟩:=Z1q (HB.out.2.2.1.turned (Z2 4) HG.out.2 (fun b hb h1 h2=>by have:=HG.out.1.lt;have h3:b<w.heap.size:=h1;have:=HB.out.2.2.2.2;omega)) hlt
   obtain⟨pa',pc',ba',bc',he,hb,_,hBd⟩:=hF
   cases he
   obtain⟨name,params,body⟩:=x
   simp only at c0 c1 c2 hb hBd
   have hsum:ZY (fun f=>ZY (Z07 4) f.body) (p.take (j+1))=ZY (fun f=>ZY (Z07 4) f.body) (p.take j)+ZY (Z07 4) body:=Z3U (f:=fun f:FnD=>ZY (Z07 4) f.body) hx
   have hmax:Z24 (fun f=>Z24 (Z1I 4) f.body) (p.take (j+1))=max (Z24 (fun f=>Z24 (Z1I 4) f.body) (p.take j)) (Z2c 4 1 body):=by
    have h1:=Z7y (f:=fun f:FnD=>Z24 (Z1I 4) f.body) hx
    rw [h1]
    have h2:Z2c 4 1 body=Z24 (Z1I 4) body:=by unfold Z2c;congr 1;funext s;omega
    rw [h2]
   have hbd:=HB.out.2.2.2.1 (j+1)
   have hmd:Z24 (fun f=>Z24 (Z1I 4) f.body) (p.take j)≤4:=Z39.2 fun f _=>Z39.2 fun s _=>Z5b 4 s
   obtain⟨n,hn⟩:∃n,n=ZY (fun f:FnD=>ZY (Z07 4) f.body) (p.take j):=⟨_,rfl⟩
   obtain⟨m,hm⟩:∃n,n=Z24 (fun f:FnD=>Z24 (Z1I 4) f.body) (p.take j):=⟨_,rfl⟩
   have hG:=HG.out
   rw [← hn,← hm] at hG
   rw [← hn] at hsum
   rw [← hm] at hmax hmd
   have hba:Below wr.heap.size wr (wr.alloc (.cells #[.string name,.slice pa params.length pc,.slice ba body.length bc] 42)):=(bRf _ _).alloc (Nat.le_refl _) _
   have hrow:=hAn wr (.cells #[.string name,.slice pa params.length pc,.slice ba body.length bc] 42)
   have HT:=hdd (hG.2.trans (Z1Q.below hba))
   have HFIN:=hdd (aI hsum hmax)
   have HC:=hdd (Z77 4 w.heap.size cb db n m 1 ba bc body _ (hBd.below (Z0 4) hba) hb.2.2 (hG.1.later hba) (by omega) (by omega) (by omega) (by omega))
   have e2:=coR _ _ 2 _ _ _ hrow
   have e1:=coR _ _ 1 _ _ _ hrow
   have e0:=coR _ _ 0 _ _ _ hrow
   simp only [ga0,ga1,ga2] at e0 e1 e2
   clear hx hb hBd hsum hmax hbd hmd hn hm hG HG hba hrow
   go_wp2_with fail
   refine HC.out.mono ?_
   rintro e w5 ⟨rfl,hM5,hT5⟩
   have HM5:=hdd (show Z0W w.heap.size cb db (ZY (fun f=>ZY (Z07 4) f.body) (p.take (j+1))) (Z24 (fun f=>Z24 (Z1I 4) f.body) (p.take (j+1))) w5∧Z1Q cb db W1 w5 by
    rw [HFIN.out.1,HFIN.out.2]
    exact⟨hM5,HT.out.trans hT5⟩)
   clear hM5 hT5 c0 c1 c2 e0 e1 e2 HC
   go_wp2
   go_roundg (gk-1)
   case measure=>omega
   case rel=>exact⟨j+1,by omega,by go_num,HM5⟩
  ·obtain rfl:j=p.length:=by omega
   have hG:=HG.out
   rw [List.take_length] at hG
   have hBW:Below w.heap.size w wr:=by
    have ht:Ze (fun b=>b=cb∨b=db∨W1.heap.size≤b) W1 wr:=hG.2
    exact HB.out.2.1.trans (ht.below (B:=w.heap.size) HB.out.2.1.size (fun b hb=>by have:=HCD.out;have:=HB.out.2.1.size;omega))
   have hG1:Z0W w.heap.size cb db N M wr:=by rw [HNM.out.1,HNM.out.2];exact hG.1
   have c0:=coR _ _ 0 _ _ _ hG1.c
   have d0:=coR _ _ 0 _ _ _ hG1.d
   have cf:=frR _ _ 0 _ _ hG1.c
   have df:=frR _ _ 0 _ _ hG1.d
   simp only [ga0,ga1] at c0 d0
   have HG1:=hdd (aI hG1 hBW)
   have hne:¬cb=db:=hG1.lt.2.2
   have hne2:¬db=cb:=fun h=>hne h.symm
   clear hG HG hBW hG1 hen
   have HFW:=hdd (show(((wr.setCell ⟨cb,0,none⟩ (.int .i64 (N:Int))).setCell ⟨db,0,none⟩ (.int .i64 (M:Int))).drew).cell? ⟨cb,0,none⟩=some (.int .i64 (N:Int))∧(((wr.setCell ⟨cb,0,none⟩ (.int .i64 (N:Int))).setCell ⟨db,0,none⟩ (.int .i64 (M:Int))).drew).cell? ⟨db,0,none⟩=some (.int .i64 (M:Int))∧Below w.heap.size w (((wr.setCell ⟨cb,0,none⟩ (.int .i64 (N:Int))).setCell ⟨db,0,none⟩ (.int .i64 (M:Int))).drew) by
    have g1:=HG1.out.1.putC N
    have g2:=g1.1.putD M
    have g3:Below ((wr.setCell ⟨cb,0,none⟩ (.int .i64 (N:Int))).setCell ⟨db,0,none⟩ (.int .i64 (M:Int))).heap.size ((wr.setCell ⟨cb,0,none⟩ (.int .i64 (N:Int))).setCell ⟨db,0,none⟩ (.int .i64 (M:Int))) (((wr.setCell ⟨cb,0,none⟩ (.int .i64 (N:Int))).setCell ⟨db,0,none⟩ (.int .i64 (M:Int))).drew):=(bRf _ _).drew
    have g4:=g2.1.later g3
    have k1:=coR _ _ 0 _ _ _ g4.c
    have k2:=coR _ _ 0 _ _ _ g4.d
    have hT:Z1Q cb db wr _:=g1.2.trans g2.2
    have hT':Ze (fun b=>b=cb∨b=db∨wr.heap.size≤b) wr _:=hT
    have hsz:=HG1.out.2.size
    have hB:=HG1.out.2.trans (hT'.below (B:=w.heap.size) hsz (fun b hb=>by have:=HCD.out;omega))
    exact⟨by simpa using k1,by simpa using k2,hB.trans (g3.mono hB.size)⟩)
   go_upto_region 6 with fail
   go_region_law (fail)
   all_goals
    clear c0 d0 cf df hne hne2
    generalize ((wr.setCell ⟨cb,0,none⟩ (.int .i64 (N:Int))).setCell ⟨db,0,none⟩ (.int .i64 (M:Int))).drew=W9 at HFW ⊢
    go_wp2
    refine bodyPost_ret (Z6L rfl _ _ cb db N M rfl rfl HFW.out.1 HFW.out.2.1) rfl ?_
    exact⟨rfl,HFW.out.2.2⟩
theorem Z5j (s:ByteArray) (w:World) (hK:Z1F w):Calls Tryz.prog 44 (#[.string s]++#[]) w fun e w'=>e=.returned (.bool (!Zk s))∧Below w.heap.size w w':=by
 have HN:=hdd (Z2a s w hK)
 clear hK
 show Calls _ _ #[.string s] w _
 go_enter Tryz.func44,Tryz.ntmps44
 go_wp2_with fail
 refine HN.out.mono ?_
 rintro e w2 ⟨rfl,hb2⟩
 have HB:=hdd hb2
 clear hb2
 go_wp2
 go_ret
 exact⟨rfl,HB.out⟩
theorem Z5k (D:Nat) (S:Nat→Prop) (a:Option Addr) (c:Nat) (p:List FnD) (w:World) (hO:Z3P w) (hK:Z1F w) (h:Za 3 (FnP D) S w a p) (hl:p.length≤100) :
  Calls Tryz.prog 22 #[.agg #[.slice a p.length c]] w fun e w'=>e=.returned (.bool (Z0C p))∧Below w.heap.size w w':=by
 obtain⟨R,hR⟩:∃R,R=Z0C p:=⟨_,rfl⟩
 rw [← hR]
 have HR:=hdd (show R=(decide (1≤p.length∧p.length≤4)&&p.all fnB&&decide (Z7M p≤40)) from hR)
 have hba:Below w.heap.size w (w.alloc (.cells #[.slice a p.length c] 25)):=(bRf _ _).alloc (Nat.le_refl _) _
 have HB:=hdd (aI hba (aI (h.below (Z2 D) hba) (aI hl (aI (hO.later hba) (hK.later hba)))))
 have hrow:=hAn w (.cells #[.slice a p.length c] 25)
 have hl2:p.length≤9223372036854775807:=by omega
 clear hba h hR hO hK
 go_enter Tryz.func22,Tryz.ntmps22
 go_upto_region 1 with fail
 obtain⟨pb,hpb⟩:∃b,b=w.heap.size:=⟨_,rfl⟩
 rw [← hpb] at hrow ⊢
 generalize w.alloc (.cells #[.slice a p.length c] 25)=W1 at hrow HB ⊢
 have HBW:=hdd (show Below w.heap.size w W1 from HB.out.1)
 clear hpb
 have p0:=coR _ _ 0 _ _ _ hrow
 simp only [ga0,ga1] at p0
 clear hrow
 by_cases hin:1≤p.length∧p.length≤4
 ·have HIN:=hdd (show inE 1 (p.length:Int) 4=true by simp [inE];omega)
  have HIP:=hdd hin
  clear hin
  go_wp2_with fail
  refine(Z0S HIN.out _).mono ?_
  rintro e w2 ⟨rfl,rfl⟩
  go_wp2_with fail
  go_loopg [15] p.length (fun G i wr=>∃(j:Nat),j+G=p.length∧i=.int .i64 j∧Hid (Below w2.heap.size w2 wr∧(p.take j).all fnB=true))
  case atStart=>exact⟨0,by omega,rfl,hdd ⟨bRf _ _,rfl⟩⟩
  case round=>
   obtain⟨j,hj,rfl,HG⟩:=hrel
   have q0:=clT HG.out.1 p0
   clear p0
   by_cases hlt:j<p.length
   ·have hji:(j:Int)<(p.length:Int):=by omega
    obtain⟨b,off,x,pa,pc,ba,bc,rfl,hx,hF,c0,c1,c2⟩:=Z1q (HB.out.2.1.below (Z2 D) HG.out.1) hlt
    obtain⟨pa',pc',ba',bc',he,hb,hPd,hBd⟩:=hF
    cases he
    have hba:Below wr.heap.size wr (wr.alloc (.cells #[.string x.name,.slice pa x.params.length pc,.slice ba x.body.length bc] 42)):=(bRf _ _).alloc (Nat.le_refl _) _
    have hrow:=hAn wr (.cells #[.string x.name,.slice pa x.params.length pc,.slice ba x.body.length bc] 42)
    have e0:=coR _ _ 0 _ _ _ hrow
    have e1:=coR _ _ 1 _ _ _ hrow
    have e2:=coR _ _ 2 _ _ _ hrow
    simp only [ga0,ga1,ga2] at e0 e1 e2
    have hbW:=HG.out.1.trans (hba.mono HG.out.1.size)
    have HX:=hdd hx
    have HPB:=hdd (aI (hPd.below Z3 hba) (aI (hBd.below (Z0 D) hba) hb))
    have HBW2:=hdd hbW
    have HOK:=hdd (aI (HB.out.2.2.2.1.later hbW) (HB.out.2.2.2.2.later hbW))
    have HNM:=hdd (Z2a x.name _ HOK.out.2)
    have HFB:=hdd (show fnB x=(Zk x.name&&decide (x.params.length≤3)&&x.params.all Zk&&x.body.all (ZH 4)) from rfl)
    have HRF:=hdd (fun hv:fnB x=false=>(show false=R by rw [HR.out,Z49 HX.out hv];simp))
    clear hx hb hPd hBd hba hrow hbW
    go_upto_region 6 with fail
    clear c0 c1 c2
    generalize wr.alloc (.cells #[.string x.name,.slice pa x.params.length pc,.slice ba x.body.length bc] 42)=W3 at HPB HBW2 HOK HNM e0 e1 e2 ⊢
    cases hnm:Zk x.name with
    | false=>
     rw [hnm] at HNM
     have HF:=hdd (HRF.out (by rw [HFB.out,hnm];rfl))
     clear hnm
     go_wp2_with fail
     refine HNM.out.mono ?_
     rintro e w5 ⟨rfl,hb5⟩
     have HB5:=hdd (HBW.out.trans ((HBW2.out.trans (hb5.mono HBW2.out.size)).mono HBW.out.size))
     clear hb5 e0 e1 e2
     go_wp2
     go_ret
     exact⟨ZN HF.out,HB5.out⟩
    | true=>
     rw [hnm] at HNM
     by_cases h3:x.params.length≤3
     ·have h3i:¬(3:Int)<(x.params.length:Int):=by omega
      go_wp2_with fail
      refine HNM.out.mono ?_
      rintro e w5 ⟨rfl,hb5⟩
      have HB5:=hdd hb5
      have k1:=clT hb5 e1
      have k2:=clT hb5 e2
      have HHT:=hdd (Zbb 44 #[] S (fun s=>!Zk s) pa pc x.params w5 (HPB.out.1.below Z3 hb5) (by have:=HPB.out.2.2;omega) ⟨fun v W=>by kernel_rfl,fun s _ t W hW hs=>by
       obtain⟨rfl,_⟩:=hs
       exact Z5j t W (HOK.out.2.later (hb5.trans (hW.mono hb5.size)))⟩)
      have hall:x.params.any (fun s=>!Zk s) = !(x.params.all Zk):=by rw [Bool.eq_iff_iff];simp
      rw [hall] at HHT
      clear hb5 e0 e1 e2 hall
      cases hpa:x.params.all Zk with
      | false=>
       rw [hpa] at HHT
       have HF:=hdd (HRF.out (by rw [HFB.out,hpa];simp))
       clear hpa
       go_wp2_with fail
       refine HHT.out.mono ?_
       rintro e w6 ⟨rfl,hb6⟩
       have HB6:=hdd (HBW.out.trans ((HBW2.out.trans ((HB5.out.trans (hb6.mono HB5.out.size)).mono HBW2.out.size)).mono HBW.out.size))
       clear hb6 k1 k2
       go_wp2
       go_ret
       exact⟨ZN HF.out,HB6.out⟩
      | true=>
       rw [hpa] at HHT
       go_wp2_with fail
       refine HHT.out.mono ?_
       rintro e w6 ⟨rfl,hb6⟩
       have hb56:=HB5.out.trans (hb6.mono HB5.out.size)
       have HB6:=hdd hb56
       have l2:=clT hb6 k2
       have HBK:=hdd (Z3E D (stmtOk_any D) 4 S ba bc x.body w6 (Nat.le_refl 4) (HOK.out.1.later hb56) (HOK.out.2.later hb56) (HPB.out.2.1.below (Z0 D) hb56) HPB.out.2.2.2.2)
       clear hb6 hb56 k1 k2
       cases hbo:x.body.all (ZH 4) with
       | false=>
        rw [hbo] at HBK
        have HF:=hdd (HRF.out (by rw [HFB.out,hbo];simp))
        clear hbo
        go_wp2_with fail
        refine HBK.out.mono ?_
        rintro e w7 ⟨rfl,hb7⟩
        have HB7:=hdd (HBW.out.trans ((HBW2.out.trans ((HB6.out.trans (hb7.mono HB6.out.size)).mono HBW2.out.size)).mono HBW.out.size))
        clear hb7 l2
        go_wp2
        go_ret
        exact⟨ZN HF.out,HB7.out⟩
       | true=>
        rw [hbo] at HBK
        have HT:=hdd (show(p.take (j+1)).all fnB=true by rw [Z3b HX.out,HG.out.2,HFB.out,hnm,hpa,hbo,decide_eq_true h3];rfl)
        clear hbo
        go_wp2_with fail
        refine HBK.out.mono ?_
        rintro e w7 ⟨rfl,hb7⟩
        have HB7:=hdd (HBW2.out.trans ((HB6.out.trans (hb7.mono HB6.out.size)).mono HBW2.out.size))
        clear hb7 l2
        go_wp2
        go_roundg (gk-1)
        case measure=>omega
        case rel=>exact⟨j+1,by omega,by go_num,hdd ⟨HB7.out,HT.out⟩⟩
     ·have h3i:(3:Int)<(x.params.length:Int):=by omega
      have h3n:3<x.params.length:=by omega
      have HF:=hdd (HRF.out (by rw [HFB.out,decide_eq_false h3];simp))
      go_wp2_with fail
      refine HNM.out.mono ?_
      rintro e w5 ⟨rfl,hb5⟩
      have HB5:=hdd (HBW.out.trans ((HBW2.out.trans (hb5.mono HBW2.out.size)).mono HBW.out.size))
      have k1:=clT hb5 e1
      clear hb5 e0 e1 e2
      go_wp2
      go_ret
      exact⟨ZN HF.out,HB5.out⟩
   ·obtain rfl:j=p.length:=by omega
    have HALL:=hdd (show p.all fnB=true by have h1:=HG.out.2;rw [List.take_length] at h1;exact h1)
    have HP4:=hdd (Z73 HALL.out (HB.out.2.1.below (Z2 D) HG.out.1))
    have HC:=hdd (Z81 S a c p wr HP4.out HB.out.2.2.1)
    have HBr:=hdd (HBW.out.trans (HG.out.1.mono HBW.out.size))
    obtain⟨n,hn⟩:∃n,n=Z7M p:=⟨_,rfl⟩
    rw [← hn] at HC
    have HF:=hdd (show decide ((n:Int)≤40)=R by
     rw [HR.out,HALL.out,decide_eq_true HIP.out,← hn,Bool.eq_iff_iff]
     simp only [decide_eq_true_eq,Bool.and_eq_true,true_and]
     omega)
    clear hn
    by_cases h40:n≤40
    ·have h40i:(n:Int)≤40:=by omega
     have HF2:=hdd (show true=R by rw [← HF.out,decide_eq_true h40i])
     go_wp2_with fail
     refine HC.out.mono ?_
     rintro e w5 ⟨rfl,hb5⟩
     have HB5:=hdd (HBr.out.trans (hb5.mono HBr.out.size))
     clear hb5 q0
     go_wp2
     go_ret
     exact⟨ZN HF2.out,HB5.out⟩
    ·have h40i:¬(n:Int)≤40:=by omega
     go_wp2_with fail
     refine HC.out.mono ?_
     rintro e w5 ⟨rfl,hb5⟩
     have HB5:=hdd (HBr.out.trans (hb5.mono HBr.out.size))
     clear hb5 q0
     go_wp2
     go_ret
     exact⟨ZN HF.out,HB5.out⟩
 ·have HIN:=hdd (show inE 1 (p.length:Int) 4=false by rw [inE,Bool.and_eq_false_iff,decide_eq_false_iff_not,decide_eq_false_iff_not];omega)
  have HF:=hdd (show false=R by rw [HR.out,decide_eq_false hin];rfl)
  clear hin
  go_wp2_with fail
  refine(Z0S HIN.out _).mono ?_
  rintro e w2 ⟨rfl,rfl⟩
  clear p0
  go_wp2
  go_ret
  exact⟨ZN HF.out,HBW.out⟩
end Go.Proofs.YtloooebabieeeaaGreatDoor
