/-
  Expressions in memory of which it is known in which blocks they lie; lists of expressions that grow.
-/
import Derived.Test.YtloooebabieeeaaGreatDoorCp
import Derived.Test.YtloooebabieeeaaGreatDoorEx
import Derived.Test.YtloooebabieeeaaGreatDoorBase
set_option maxRecDepth 100000
set_option maxHeartbeats 16000000
set_option linter.unusedVariables false
namespace Go.Proofs.YtloooebabieeeaaGreatDoor
open Go.RowKit
structure Z5u (R:World→List Value→Z6→Prop) (S:Nat→Prop) (w:World) (a:Option Addr) (xs:List Z6):Prop where
 rd:Z03 4 R w a xs.length xs
 blk:xs≠[]→∃b off,a=some ⟨b,off,none⟩∧S b∧b<w.heap.size
def ZJ:Nat→(Nat→Prop)→World→List Value→Z6→Prop
 | 0,_,_,_,_=>False
 | d+1,S,w,cs,e=>∃a c,cs=[.int .i64 e.op,.int .i64 e.n,.string e.name,.slice a e.kids.length c]∧(e.kids.length≤maxLen∧-9223372036854775808≤e.op∧e.op≤9223372036854775807)∧Z5u (ZJ d S) S w a e.kids
theorem Z37 {R R':World→List Value→Z6→Prop} {w:World} {a:Option Addr} {n:Nat} {xs:List Z6} (h:Z03 4 R w a n xs) (hR:∀cs x,x∈xs→R w cs x→R' w cs x):Z03 4 R' w a n xs:=by
 obtain⟨h1,cells,h2,h3,h4,h5⟩:=h
 exact⟨h1,cells,h2,h3,h4,fun i c x hc hx=>hR c x (List.mem_of_getElem? hx) (h5 i c x hc hx)⟩
theorem Z5u.mono {R R':World→List Value→Z6→Prop} {S S':Nat→Prop} {w:World} {a:Option Addr} {xs:List Z6} (h:Z5u R S w a xs) (hR:∀cs x,x∈xs→R w cs x→R' w cs x) (hS:∀k,k<w.heap.size→S k→S' k):Z5u R' S' w a xs:=
 ⟨Z37 h.rd hR,fun hn=>by obtain⟨b,off,h1,h2,h3⟩:=h.blk hn;exact⟨b,off,h1,hS b h3 h2,h3⟩⟩
theorem Zh {S S':Nat→Prop} {w:World} (hS:∀k,k<w.heap.size→S k→S' k):∀{d:Nat} {cs:List Value} {e:Z6},ZJ d S w cs e→ZJ d S' w cs e
 | 0,_,_,h=>h.elim
 | d+1,cs,e,⟨a,c,h1,h2,h3⟩=>⟨a,c,h1,h2,h3.mono (fun _ _ _ h=>Zh hS h) hS⟩
theorem Z5N:∀{d:Nat} {S:Nat→Prop} {w:World} {cs:List Value} {e:Z6},ZJ d S w cs e→ZJ (d+1) S w cs e
 | 0,_,_,_,_,h=>h.elim
 | d+1,S,w,cs,e,⟨a,c,h1,h2,h3⟩=>⟨a,c,h1,h2,h3.mono (fun _ _ _ h=>Z5N h) (fun _ _ h=>h)⟩
theorem Z0x {d d':Nat} (hd:d≤d') {S:Nat→Prop} {w:World} {cs:List Value} {e:Z6} (h:ZJ d S w cs e):ZJ d' S w cs e:=by
 induction d' with
 | zero=>
   obtain rfl:d=0:=by omega
   exact h
 | succ n ih=>
  by_cases he:d=n+1
  ·subst he;exact h
  ·exact Z5N (ih (by omega))
theorem Z1a:∀{d:Nat} {S:Nat→Prop} {w:World} {cs:List Value} {e:Z6},ZJ d S w cs e→ZX d w cs e
 | 0,_,_,_,_,h=>h.elim
 | d+1,S,w,cs,e,⟨a,c,h1,h2,h3⟩=>⟨a,c,h1,h2,Z37 h3.rd (fun _ _ _ h=>Z1a h)⟩
theorem Z6Z {R:World→List Value→Z6→Prop} {S T:Nat→Prop} {w w':World} {a:Option Addr} {xs:List Z6} (h:Z5u R S w a xs) (ht:Ze T w w') (hS:∀k,k<w.heap.size→S k→¬T k)
  (hR:∀cs x,x∈xs→R w cs x→R w' cs x):Z5u R S w' a xs:=by
 refine⟨?_,fun hn=>by obtain⟨b,off,h1,h2,h3⟩:=h.blk hn;exact⟨b,off,h1,h2,Nat.lt_of_lt_of_le h3 ht.size⟩⟩
 obtain⟨h1,cells,h2,h3,h4,h5⟩:=h.rd
 refine⟨h1,cells,?_,h3,h4,fun i c x hc hx=>hR c x (List.mem_of_getElem? hx) (h5 i c x hc hx)⟩
 by_cases hn:xs=[]
 ·subst hn
  have:cells=[]:=List.length_eq_zero_iff.1 h3
  subst this
  exact .inl rfl
 ·obtain⟨b,off,rfl,hSb,hb⟩:=h.blk hn
  have hbl:=ht.block b hb (hS b hb hSb)
  rcases h2 with h0|⟨b',off',he,h2⟩
  ·exact .inl h0
  ·cases he
   exact .inr ⟨b,off,rfl,fun i v hv=>(World.cell?_of_block hbl).trans (h2 i v hv)⟩
theorem ZA {S T:Nat→Prop} {w w':World} (ht:Ze T w w') (hS:∀k,k<w.heap.size→S k→¬T k):∀{d:Nat} {cs:List Value} {e:Z6},ZJ d S w cs e→ZJ d S w' cs e
 | 0,_,_,h=>h.elim
 | d+1,cs,e,⟨a,c,h1,h2,h3⟩=>⟨a,c,h1,h2,Z6Z h3 ht hS (fun _ _ _ h=>ZA ht hS h)⟩
theorem Zz {S:Nat→Prop} {w w':World} (hb:Below w.heap.size w w') {d:Nat} {cs:List Value} {e:Z6} (h:ZJ d S w cs e):ZJ d S w' cs e:=
 ZA (T:=fun k=>w.heap.size≤k) (ZS hb (fun k h1 _=>h1)) (fun k h1 _ h2=>by omega) h
theorem Z4j {S:Nat→Prop} {w:World} {d:Nat} {cs:List Value} {e:Z6} (h:ZJ d S w cs e):ZJ d (fun k=>S k∧k<w.heap.size) w cs e:=
 Zh (fun _ h1 h2=>⟨h2,h1⟩) h
theorem Zj {d:Nat} {S:Nat→Prop} {w:World} {cs:List Value} {e:Z6} (h:ZJ d S w cs e):∃a c,cs=[.int .i64 e.op,.int .i64 e.n,.string e.name,.slice a e.kids.length c]:=by
 cases d with
 | zero=>exact h.elim
 | succ d=>obtain⟨a,c,h1,_⟩:=h;exact⟨a,c,h1⟩
theorem Z0L {d:Nat} {S:Nat→Prop} {w:World} {cs:List Value} {e:Z6} (h:ZJ d S w cs e):cs.length=4:=by
 obtain⟨a,c,rfl⟩:=Zj h;rfl
theorem Z88 {S:Nat→Prop} {w:World} (op n:Int) (s:ByteArray) (hop:-9223372036854775808≤op∧op≤9223372036854775807) (d:Nat):ZJ (d+1) S w [.int .i64 op,.int .i64 n,.string s,.slice none 0 0] (.mk op n s []):=
 ⟨none,0,rfl,⟨by show(0:Nat)≤maxLen;exact Nat.zero_le _,hop⟩,⟨rfl,[],.inl rfl,rfl,by simp,by simp⟩,fun h=>absurd rfl h⟩
theorem Z5Q:(Tryz.prog.info? 64).map (fun i=>(i.zero,i.size,i.bytes))=some (some (.agg #[.int .i64 0,.int .i64 0,.string ⟨#[]⟩,.slice none 0 0]),4,56):=by kernel_rfl
theorem Z5y:Tryz.prog.underlying 46=some (.slice 64):=by kernel_rfl
section
variable {w:World} {ops:Array Oper} {rest:List Oper} {o:Oper} {a:Act} {Q:Exit→Act→World→Prop}
theorem Zbf (hgd:o.guard=none) (s x:Operand) (ho:o.op=.call { callee:=.builtin .append,args:=#[s,x],argTypes:=#[46,46] })
  (base:Nat) (v:Value) (n:Nat) (xs:List Value) (hs:a.eval s=v) (hown:w.ownsRow base 64 4 v n xs)
  (ao:Option Addr) (c:Nat) (ys:List Value) (hx:a.eval x=.slice ao 1 c) (hrow:Z0g w ao ys) (hl:ys.length=4) (hone:∀u∈ys,u.oneCell'=true)
  (hb:n+1≤1099511627776) (hbase:base≤w.heap.size)
  (h:∀a' c' w',w'.ownsRow base 64 4 (.slice a' (n+1) c') (n+1) (xs++ys)→w.grownBy w' v.ownBlock→
   ((Value.slice a' (n+1) c').ownBlock=v.ownBlock∨(Value.slice a' (n+1) c').ownBlock=some w.heap.size)→wpList Tryz.prog ops Q rest (a.put o.dst (.slice a' (n+1) c')) w'):wpList Tryz.prog ops Q (o::rest) a w:=by
 obtain⟨i0,hi,hz0,hz1,hz2⟩:=info_parts Z5Q
 exact Z18 hgd s x 46 ho base 64 i0 (.agg #[.int .i64 0,.int .i64 0,.string ⟨#[]⟩,.slice none 0 0]) 4 56 Z5y hi hz0 hz1 hz2 rfl (by decide) v n xs hs hown ao 1 c _ hx (by simp [hl]) hrow (by
  rintro rfl
  rcases hrow with h|⟨_,_,h,_⟩
  ·rw [h] at hl;simp at hl
  ·cases h) hone (by unfold maxLen;omega) (by omega) hbase h
theorem Z21 {K:Act→World→Prop} {E:Prop} (hgd:o.guard=none) (s x:Operand) (ho:o.op=.call { callee:=.builtin .append,args:=#[s,x],argTypes:=#[46,46] })
  (base:Nat) (v:Value) (n:Nat) (xs:List Value) (hs:a.eval s=v) (hown:w.ownsRow base 64 4 v n xs)
  (ao:Option Addr) (c:Nat) (ys:List Value) (hx:a.eval x=.slice ao 1 c) (hrow:Z0g w ao ys) (hl:ys.length=4) (hone:∀u∈ys,u.oneCell'=true)
  (hb:n+1≤1099511627776) (hbase:base≤w.heap.size)
  (h:∀a' c' w',w'.ownsRow base 64 4 (.slice a' (n+1) c') (n+1) (xs++ys)→w.grownBy w' v.ownBlock→
   ((Value.slice a' (n+1) c').ownBlock=v.ownBlock∨(Value.slice a' (n+1) c').ownBlock=some w.heap.size)→K (a.put o.dst (.slice a' (n+1) c')) w') :
  if Region.wanted o (yielded ops a.tmps)=true then Oper.wp Tryz.prog o a w K Q else E:=by
 obtain⟨i0,hi,hz0,hz1,hz2⟩:=info_parts Z5Q
 exact Z2e hgd s x 46 ho base 64 i0 (.agg #[.int .i64 0,.int .i64 0,.string ⟨#[]⟩,.slice none 0 0]) 4 56 Z5y hi hz0 hz1 hz2 rfl (by decide) v n xs hs hown ao 1 c _ hx (by simp [hl]) hrow (by
  rintro rfl
  rcases hrow with h|⟨_,_,h,_⟩
  ·rw [h] at hl;simp at hl
  ·cases h) hone (by unfold maxLen;omega) (by omega) hbase h
end
theorem Z1T {a:Option Addr} {n c:Nat} {op k:Int} {s:ByteArray}:∀u∈[Value.int .i64 op,.int .i64 k,.string s,.slice a n c],u.oneCell'=true:=by
 intro u hu
 simp at hu
 rcases hu with rfl|rfl|rfl|rfl<;>rfl
structure Z1c (d:Nat) (S:Nat→Prop) (lo:Nat) (w:World) (a:Option Addr) (n c:Nat) (xs:List Z6):Prop where
 row:∃cells:List (List Value),w.ownsRow lo 64 4 (.slice a n c) n cells.flatten∧cells.length=n∧(∀cl∈cells,cl.length=4)∧
  ∀(i:Nat) cl x,cells[i]? = some cl→xs[i]? = some x→ZJ d (fun k=>S k∧¬(Value.slice a n c).ownBlock=some k) w cl x
 length:xs.length=n
theorem Z1c.nil (d:Nat) (S:Nat→Prop) (lo:Nat) (w:World):Z1c d S lo w none 0 0 []:=
 ⟨⟨[],World.ownsRow_nil _ _ _ _,rfl,by simp,by simp⟩,rfl⟩
theorem Z1c.turned {d:Nat} {S T:Nat→Prop} {lo:Nat} {w w':World} {a:Option Addr} {n c:Nat} {xs:List Z6} (h:Z1c d S lo w a n c xs) (ht:Ze T w w') (h1:∀k,(Value.slice a n c).ownBlock=some k→¬T k) (h2:∀k,k<w.heap.size→S k→¬T k):Z1c d S lo w' a n c xs:=by
 obtain⟨⟨cells,k1,k2,k3,k4⟩,k5⟩:=h
 exact⟨⟨cells,Z45 k1 ht h1,k2,k3,fun i cl x hc hx=>ZA ht (fun k hk hs=>h2 k hk hs.1) (k4 i cl x hc hx)⟩,k5⟩
theorem Z1c.below {d:Nat} {S:Nat→Prop} {lo:Nat} {w w':World} {a:Option Addr} {n c:Nat} {xs:List Z6} (h:Z1c d S lo w a n c xs) (hb:Below w.heap.size w w'):Z1c d S lo w' a n c xs:=by
 obtain⟨⟨cells,k1,k2,k3,k4⟩,k5⟩:=h
 exact⟨⟨cells,ZI k1 hb,k2,k3,fun i cl x hc hx=>Zz hb (k4 i cl x hc hx)⟩,k5⟩
theorem Z1c.wide {d d':Nat} (hd:d≤d') {S S':Nat→Prop} {lo:Nat} {w:World} {a:Option Addr} {n c:Nat} {xs:List Z6} (h:Z1c d S lo w a n c xs) (hS:∀k,k<w.heap.size→S k→S' k):Z1c d' S' lo w a n c xs:=by
 obtain⟨⟨cells,k1,k2,k3,k4⟩,k5⟩:=h
 exact⟨⟨cells,k1,k2,k3,fun i cl x hc hx=>Z0x hd (Zh (fun k h1 h2=>⟨hS k h1 h2.1,h2.2⟩) (k4 i cl x hc hx))⟩,k5⟩
def Z6f (d:Nat) (S:Nat→Prop) (lo:Nat) (w:World) (a:Option Addr) (n c:Nat) (xs:List Z6) (cells:List (List Value)):Prop:=
 w.ownsRow lo 64 4 (.slice a n c) n cells.flatten∧cells.length=n∧(∀cl∈cells,cl.length=4)∧
  ∀(i:Nat) cl x,cells[i]? = some cl→xs[i]? = some x→ZJ d (fun k=>S k∧¬(Value.slice a n c).ownBlock=some k) w cl x
theorem Z1c.rows {d:Nat} {S:Nat→Prop} {lo:Nat} {w:World} {a:Option Addr} {n c:Nat} {xs:List Z6} (h:Z1c d S lo w a n c xs):∃cells,Z6f d S lo w a n c xs cells:=h.row
theorem Z6f.below {d:Nat} {S:Nat→Prop} {lo:Nat} {w w':World} {a:Option Addr} {n c:Nat} {xs:List Z6} {cells:List (List Value)} (h:Z6f d S lo w a n c xs cells) (hb:Below w.heap.size w w'):Z6f d S lo w' a n c xs cells:=
 ⟨ZI h.1 hb,h.2.1,h.2.2.1,fun i cl x hc hx=>Zz hb (h.2.2.2 i cl x hc hx)⟩
theorem Z6f.push {d:Nat} {S:Nat→Prop} {lo:Nat} {w w':World} {a a':Option Addr} {n c c':Nat} {xs:List Z6} {cl:List Value} {x:Z6} {cells:List (List Value)} (h:Z6f d S lo w a n c xs cells) (k5:xs.length=n) (hx:ZJ d (fun k=>S k∧¬(Value.slice a n c).ownBlock=some k) w cl x)
  (hown:w'.ownsRow lo 64 4 (.slice a' (n+1) c') (n+1) (cells.flatten++cl)) (hg:w.grownBy w' (Value.slice a n c).ownBlock)
  (hl:(Value.slice a' (n+1) c').ownBlock=(Value.slice a n c).ownBlock∨(Value.slice a' (n+1) c').ownBlock=some w.heap.size):Z1c d S lo w' a' (n+1) c' (xs++[x]):=by
 obtain⟨k1,k2,k3,k4⟩:=h
 have ht:=Zi hg (S:=fun k=>(Value.slice a n c).ownBlock=some k) (fun k hk=>hk)
 have hkeep:∀{cl x},ZJ d (fun k=>S k∧¬(Value.slice a n c).ownBlock=some k) w cl x→ZJ d (fun k=>S k∧¬(Value.slice a' (n+1) c').ownBlock=some k) w' cl x:=fun {cl x} h=>by
  have h1:=ZA ht (fun k _ h1=>h1.1.2) (Z4j h)
  refine Zh (fun k _ h2=>⟨h2.1.1,fun e=>?_⟩) h1
  rcases hl with hl|hl
  ·exact h2.1.2 (hl▸e)
  ·rw [hl] at e
   have:=Option.some.inj e
   omega
 refine⟨⟨cells++[cl],?_,by simp [k2],?_,?_⟩,by simp [k5]⟩
 ·simpa using hown
 ·intro q hq
  rcases List.mem_append.1 hq with hq|hq
  ·exact k3 q hq
  ·simp at hq
   subst hq
   exact Z0L hx
 ·intro i q y hq hy
  rcases Nat.lt_trichotomy i n with hi|hi|hi
  ·rw [List.getElem?_append_left (by omega)] at hq hy
   exact hkeep (k4 i q y hq hy)
  ·subst hi
   rw [List.getElem?_append_right (by omega),k2,Nat.sub_self] at hq
   rw [List.getElem?_append_right (by omega),k5,Nat.sub_self] at hy
   simp at hq hy
   subst hq hy
   exact hkeep hx
  ·rw [List.getElem?_eq_none (by simp;omega)] at hq
   cases hq
theorem Zy {w W:World} (h:Below w.heap.size w W):Below w.heap.size w W.drew:=h.drew
theorem Zt {w W:World} (h:Below w.heap.size w W) (o:Obj):Below w.heap.size w (W.alloc o):=h.alloc h.size o
theorem Z1c.list {d:Nat} {S:Nat→Prop} {lo:Nat} {w:World} {a:Option Addr} {n c:Nat} {xs:List Z6} (h:Z1c d S lo w a n c xs):Z5u (ZJ d (fun k=>S k∨lo≤k)) (fun k=>S k∨lo≤k) w a xs:=by
 obtain⟨⟨cells,k1,k2,k3,k4⟩,k5⟩:=h
 refine⟨⟨rfl,cells,Z2k k1,by omega,k3,fun i cl x hc hx=>Zh (fun k _ h=>.inl h.1) (k4 i cl x hc hx)⟩,fun hn=>?_⟩
 rcases k1.2 with⟨hv,h0⟩|⟨g,cap,cur,hv,hbg,hgg,_⟩
 ·exfalso
  exact hn (List.length_eq_zero_iff.1 (by omega))
 ·simp only [Value.slice.injEq] at hv
  exact⟨g,0,hv.1,.inr hbg,(gsI hgg).1⟩
def Z2U (d lo hi:Nat) (w:World) (cs:List Value) (x:Z6):Prop:=
 ∃a c,cs=[.int .i64 x.op,.int .i64 x.n,.string x.name,.slice a x.kids.length c]∧Z1c d (fun b=>lo≤b∧b<hi) lo w a x.kids.length c x.kids∧(∀k,(Value.slice a x.kids.length c).ownBlock=some k→k<hi)∧x.kids.length≤d*10+10
theorem Z2U.leaf (d lo hi:Nat) (w:World) (op n:Int) (s:ByteArray):Z2U d lo hi w [.int .i64 op,.int .i64 n,.string s,.slice none 0 0] (.mk op n s []):=
 ⟨none,0,rfl,Z1c.nil _ _ _ _,(fun k hk=>by cases hk),Nat.zero_le _⟩
theorem Z1c.low {d:Nat} {S:Nat→Prop} {lo lo':Nat} {w:World} {a:Option Addr} {n c:Nat} {xs:List Z6} (h:Z1c d S lo w a n c xs) (hl:lo'≤lo):Z1c d S lo' w a n c xs:=by
 obtain⟨⟨cells,k1,k2⟩,k3⟩:=h
 exact⟨⟨cells,Zaa k1 (fun k hk=>by have:=(k1.lt k hk).1;omega),k2⟩,k3⟩
theorem Z2U.wide {d d' lo lo' hi hi':Nat} {w:World} {cs:List Value} {x:Z6} (h:Z2U d lo hi w cs x) (hd:d≤d') (h1:lo'≤lo) (h2:hi≤hi'):Z2U d' lo' hi' w cs x:=by
 obtain⟨a,c,k1,k2,k3⟩:=h
 exact⟨a,c,k1,(k2.low h1).wide hd (fun k _ h=>⟨Nat.le_trans h1 h.1,Nat.lt_of_lt_of_le h.2 h2⟩),(fun k hk=>Nat.lt_of_lt_of_le (k3.1 k hk) h2),by have:=k3.2;omega⟩
theorem Z2U.turned {d lo hi:Nat} {T:Nat→Prop} {w w':World} {cs:List Value} {x:Z6} (h:Z2U d lo hi w cs x) (ht:Ze T w w') (hT:∀k,k<w.heap.size→lo≤k→k<hi→¬T k):Z2U d lo hi w' cs x:=by
 obtain⟨a,c,k1,k2,k3⟩:=h
 refine⟨a,c,k1,k2.turned ht (fun k hk=>?_) (fun k hk hs=>hT k hk hs.1 hs.2),k3⟩
 obtain⟨⟨cells,g1,_⟩,_⟩:=k2
 have:=g1.lt k hk
 exact hT k this.2 this.1 (k3.1 k hk)
theorem Z2U.below {d lo hi:Nat} {w w':World} {cs:List Value} {x:Z6} (h:Z2U d lo hi w cs x) (hb:Below w.heap.size w w'):Z2U d lo hi w' cs x:=
 h.turned (T:=fun k=>w.heap.size≤k) (ZS hb (fun k h1 _=>h1)) (fun k h1 _ _ h2=>by omega)
theorem Z2U.of {d lo:Nat} {S:Nat→Prop} {w:World} {a:Option Addr} {c:Nat} {op n:Int} {s:ByteArray} {ks:List Z6} (h:Z1c d S lo w a ks.length c ks) (hS:∀k,k<w.heap.size→S k→lo≤k) (hk:ks.length≤d*10+10):Z2U d lo w.heap.size w [.int .i64 op,.int .i64 n,.string s,.slice a ks.length c] (.mk op n s ks):=by
 refine⟨a,c,rfl,h.wide (Nat.le_refl _) (fun k h1 h2=>⟨hS k h1 h2,h1⟩),(fun k hk=>?_),hk⟩
 obtain⟨⟨cells,g1,_⟩,_⟩:=h
 exact(g1.lt k hk).2
theorem Z72 {d lo:Nat} {w:World} {cells:List (List Value)} {xs:List Z6} (hlo:lo≤w.heap.size) (hc:∀c∈cells,c.length=4) (hl:xs.length=cells.length) (hm:cells.length≤maxLen) (hx:∀(i:Nat) cl x,cells[i]? = some cl→xs[i]? = some x→ZJ d (fun k=>lo≤k) w cl x) :
  Z1c d (fun k=>lo≤k) lo (w.alloc (.cells cells.flatten.toArray 64)) (some ⟨w.heap.size,0,none⟩) cells.length cells.length xs:=by
 have hf:=Z4O hc
 refine⟨⟨cells,⟨hf,.inr ⟨w.heap.size,cells.length,_,rfl,hlo,hAn w _,Nat.le_refl _,hm,by simpa using hf,?_⟩⟩,rfl,hc,fun i cl x h1 h2=>?_⟩,hl⟩
 ·show cells.flatten.take (cells.length*4)=cells.flatten
  rw [List.take_of_length_le (by omega)]
 ·have h3:=Z4j (hx i cl x h1 h2)
  exact Zh (fun k _ h=>⟨h.1,fun e=>by simp only [Value.ownBlock,Option.some.injEq] at e;omega⟩) (Zz ((bRf _ _).alloc (Nat.le_refl _) _) h3)
theorem Z2U.two {d lo:Nat} {w:World} {c1 c2:List Value} {x1 x2:Z6} {op n:Int} {s:ByteArray} (hlo:lo≤w.heap.size) (h1:ZJ d (fun k=>lo≤k) w c1 x1) (h2:ZJ d (fun k=>lo≤k) w c2 x2) :
  Z2U d lo (w.alloc (.cells (c1++c2).toArray 64)).heap.size (w.alloc (.cells (c1++c2).toArray 64)) [.int .i64 op,.int .i64 n,.string s,.slice (some ⟨w.heap.size,0,none⟩) 2 2] (.mk op n s [x1,x2]):=by
 have h:=Z72 (cells:=[c1,c2]) (xs:=[x1,x2]) hlo (by intro c hc;simp at hc;rcases hc with rfl|rfl<;>first|exact Z0L h1|exact Z0L h2) rfl (show 2≤maxLen by decide) (fun i cl x g1 g2=>by
  match i with
  | 0=>cases g1;cases g2;exact h1
  | 1=>cases g1;cases g2;exact h2
  | i+2=>cases g1)
 rw [show [c1,c2].flatten=c1++c2 by simp] at h
 exact Z2U.of (ks:=[x1,x2]) h (fun k _ h=>h) (show 2≤d*10+10 by omega)
theorem Z2U.one {d lo:Nat} {w:World} {c1:List Value} {x1:Z6} {op n:Int} {s:ByteArray} (hlo:lo≤w.heap.size) (h1:ZJ d (fun k=>lo≤k) w c1 x1) :
  Z2U d lo (w.alloc (.cells c1.toArray 64)).heap.size (w.alloc (.cells c1.toArray 64)) [.int .i64 op,.int .i64 n,.string s,.slice (some ⟨w.heap.size,0,none⟩) 1 1] (.mk op n s [x1]):=by
 have h:=Z72 (cells:=[c1]) (xs:=[x1]) hlo (by intro c hc;simp at hc;subst hc;exact Z0L h1) rfl (show 1≤maxLen by decide) (fun i cl x g1 g2=>by
  match i with
  | 0=>cases g1;cases g2;exact h1
  | i+1=>cases g1)
 rw [show [c1].flatten=c1 by simp] at h
 exact Z2U.of (ks:=[x1]) h (fun k _ h=>h) (show 1≤d*10+10 by omega)
end Go.Proofs.YtloooebabieeeaaGreatDoor
