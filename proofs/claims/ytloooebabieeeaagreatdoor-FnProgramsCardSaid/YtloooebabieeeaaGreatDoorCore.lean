/-
  Small facts about memory that name no type of the program: what it means that a slice value reads as a list, and how that carries over to a later world.
-/
import Derived.Test.YtloooebabieeeaaGreatDoorCp
import Derived.Test.YtloooebabieeeaaGreatDoorRows
import Derived.WalkKit
import Derived.WalkSpells
import Derived.WalkLawsBesides
import Derived.Lib.Hide
import Derived.Deep.QuietTactic
import Derived.BigQuiet
set_option maxRecDepth 100000
set_option maxHeartbeats 16000000
set_option linter.unusedVariables false
namespace Go.Proofs.YtloooebabieeeaaGreatDoor
open Go.RowKit
def Z0g (w:World) (a:Option Addr) (vs:List Value):Prop:=
 vs=[]∨∃b off,a=some ⟨b,off,none⟩∧∀i v,vs[i]? = some v→w.cell? ⟨b,off+i,none⟩=some v
structure Z2l (w:World) (a:Option Addr) (len:Nat) (xs:List Int):Prop where
 length:xs.length=len
 row:Z0g w a (xs.map (Value.int .i64))
theorem Z0g.later {w w':World} {a:Option Addr} {vs:List Value} (h:Z0g w a vs) (hb:Below w.heap.size w w'):Z0g w' a vs:=by
 rcases h with h|⟨b,off,rfl,h⟩
 ·exact .inl h
 ·exact .inr ⟨b,off,rfl,fun i v hv=>clT hb (h i v hv)⟩
theorem Z2l.later {w w':World} {a:Option Addr} {len:Nat} {xs:List Int} (h:Z2l w a len xs) (hb:Below w.heap.size w w'):Z2l w' a len xs:=
 ⟨h.length,h.row.later hb⟩
theorem Z2l.place {w:World} {a:Option Addr} {len:Nat} {xs:List Int} (h:Z2l w a len xs) {i:Nat} (hi:i<len) :
  ∃b off x,a=some ⟨b,off,none⟩∧xs[i]? = some x∧w.cell? ⟨b,off+i,none⟩=some (.int .i64 x):=by
 have hl:=h.length
 rcases h.row with h0|⟨b,off,rfl,hc⟩
 ·have:xs=[]:=by simpa using h0
  subst this;simp at hl;omega
 ·have hx:xs[i]? = some (xs[i]'(by omega)):=List.getElem?_eq_getElem _
  exact⟨b,off,_,rfl,hx,hc i _ (by rw [List.getElem?_map,hx];rfl)⟩
theorem ZI {w w':World} {base:Nat} {e:TypeId} {size:Nat} {v:Value} {n:Nat} {xs:List Value} (h:w.ownsRow base e size v n xs) (hb:Below w.heap.size w w') :
  w'.ownsRow base e size v n xs:=by
 refine⟨h.1,?_⟩
 rcases h.2 with hn|⟨g,cap,cur,rfl,hbg,hgg,rest⟩
 ·exact .inl hn
 ·exact .inr ⟨g,cap,cur,rfl,hbg,by rw [hb.block g (gsI hgg).1];exact hgg,rest⟩
theorem Z2k {w:World} {base:Nat} {e:TypeId} {a:Option Addr} {n cap m:Nat} {xs:List Value} {size:Nat} (h:w.ownsRow base e size (.slice a n cap) m xs):Z0g w a xs:=by
 rcases h.2 with⟨hv,rfl⟩|⟨g,cap',cur,hv,_,hgg,_,_,_,htake⟩
 ·have:=h.1;simp at this;exact .inl this
 ·simp only [Value.slice.injEq] at hv
  obtain⟨rfl,rfl,rfl⟩:=hv
  refine .inr ⟨g,0,rfl,fun i v hv=>?_⟩
  rw [coR w g (0+i) cur e (0,0) hgg]
  rw [← htake,List.getElem?_take] at hv
  split at hv
  ·simpa using hv
  ·cases hv
theorem Zcb {w:World} {base:Nat} {e:TypeId} {n cap m:Nat} {xs:List Value} {size:Nat} (h:w.ownsRow base e size (.slice none n cap) m xs):cap=0:=by
 rcases h.2 with⟨hv,rfl⟩|⟨g,cap',cur,hv,_⟩
 ·simp only [Value.slice.injEq] at hv
  exact hv.2.2
 ·simp at hv
theorem Z0g.pre {w:World} {a:Option Addr} {vs:List Value} (h:Z0g w a vs) (n:Nat):Z0g w a (vs.take n):=by
 rcases h with rfl|⟨b,off,rfl,h⟩
 ·exact .inl (by simp)
 ·refine .inr ⟨b,off,rfl,fun i v hv=>h i v ?_⟩
  rw [List.getElem?_take] at hv
  split at hv
  ·exact hv
  ·cases hv
theorem Z0g.cells {w:World} {ad:Addr} {vs:List Value} (h:Z0g w (some ad) vs):∀j u,vs[j]? = some u→w.cell? (ad.add j)=some u:=by
 rcases h with rfl|⟨b,off,hab,h⟩
 ·intro j u hu;simp at hu
 ·cases hab
  intro j u hu
  have hadd:(⟨b,off,none⟩:Addr).add j=⟨b,off+j,none⟩:=by unfold Addr.add;split<;>simp_all
  rw [hadd]
  exact h j u hu
theorem Z2m {k:IntKind} {a b:Int} (h:a=b):Ending.returned (.int k a)=.returned (.int k b):=by rw [h]
theorem ZN {a b:Bool} (h:a=b):Ending.returned (.bool a)=.returned (.bool b):=by rw [h]
theorem Z0n {α : Type} {xs:List α} {k:Nat} {x:α} (h:xs[k]? = some x):xs.take (k+1)=xs.take k++[x]:=by
 rw [List.take_add_one,h];rfl
theorem Z3v {α : Type} {s:Nat}:∀{cells:List (List α)} {i j:Nat} {c:List α},(∀c∈cells,c.length=s)→cells[i]? = some c→j<s→cells.flatten[i*s+j]? = c[j]?
 | [],_,_,_,_,h,_=>by simp at h
 | d::cells,0,j,c,hl,h,hj=>by
  simp at h
  subst h
  have h1:=hl d (by simp)
  rw [List.flatten_cons,Nat.zero_mul,Nat.zero_add,List.getElem?_append_left (by omega)]
 | d::cells,i+1,j,c,hl,h,hj=>by
  have h1:=hl d (by simp)
  rw [List.flatten_cons,List.getElem?_append_right (by rw [Nat.add_mul];omega),show(i+1)*s+j-d.length=i*s+j by rw [Nat.add_mul,h1];omega]
  exact Z3v (fun x hx=>hl x (by simp [hx])) (by simpa using h) hj
theorem Z4O {α : Type} {s:Nat}:∀{cells:List (List α)},(∀c∈cells,c.length=s)→cells.flatten.length=cells.length*s
 | [],_=>by simp
 | c::cells,h=>by
  rw [List.flatten_cons,List.length_append,h c (by simp),Z4O (fun x hx=>h x (by simp [hx])),List.length_cons,Nat.add_mul];omega
structure Z03 {α : Type} (s:Nat) (R:World→List Value→α→Prop) (w:World) (a:Option Addr) (len:Nat) (xs:List α):Prop where
 length:xs.length=len
 row:∃cells:List (List Value),Z0g w a cells.flatten∧cells.length=len∧(∀c∈cells,c.length=s)∧∀(i:Nat) c x,cells[i]? = some c→xs[i]? = some x→R w c x
def ZbJ {α : Type} (R:World→List Value→α→Prop):Prop:=∀w w' c x,Below w.heap.size w w'→R w c x→R w' c x
theorem Z03.later {α : Type} {s:Nat} {R:World→List Value→α→Prop} (hR:ZbJ R) {w w':World} {a:Option Addr} {len:Nat} {xs:List α} (h:Z03 s R w a len xs) (hb:Below w.heap.size w w'):Z03 s R w' a len xs:=by
 obtain⟨hl,cells,h1,h2,h3,h4⟩:=h
 exact⟨hl,cells,h1.later hb,h2,h3,fun i c x hc hx=>hR _ _ _ _ hb (h4 i c x hc hx)⟩
theorem Z03.place {α : Type} {s:Nat} {R:World→List Value→α→Prop} {w:World} {a:Option Addr} {len:Nat} {xs:List α} (h:Z03 s R w a len xs) (hs:0<s) {i:Nat} (hi:i<len) :
  ∃b off cs x,a=some ⟨b,off,none⟩∧xs[i]? = some x∧cs.length=s∧(∀j v,cs[j]? = some v→w.cell? ⟨b,off+i*s+j,none⟩=some v)∧R w cs x:=by
 obtain⟨hl,cells,h1,h2,h3,h4⟩:=h
 have hc:cells[i]? = some (cells[i]'(by omega)):=List.getElem?_eq_getElem _
 have hx:xs[i]? = some (xs[i]'(by omega)):=List.getElem?_eq_getElem _
 have hcl:=h3 _ (List.getElem_mem (show i<cells.length by omega))
 rcases h1 with h1|⟨b,off,rfl,h1⟩
 ·exfalso
  have h5:=Z3v (j:=0) h3 hc hs
  rw [h1,List.getElem?_nil,List.getElem?_eq_getElem (by omega)] at h5
  cases h5
 ·refine⟨b,off,_,_,rfl,hx,hcl,fun j v hv=>?_,h4 i _ _ hc hx⟩
  have hj:=(List.getElem?_eq_some_iff.1 hv).1
  rw [Nat.add_assoc]
  exact h1 _ _ (by rw [Z3v h3 hc (by omega)];exact hv)
structure Ze (S:Nat→Prop) (w w':World):Prop where
 os:w'.os=w.os
 tape:w'.tape=w.tape
 output:w'.output=w.output
 size:w.heap.size≤w'.heap.size
 block:∀k,k<w.heap.size→¬S k→w'.heap[k]? = w.heap[k]?
theorem Ze.refl (S:Nat→Prop) (w:World):Ze S w w:=⟨rfl,rfl,rfl,Nat.le_refl _,fun _ _ _=>rfl⟩
theorem Ze.trans {S:Nat→Prop} {a b c:World} (h:Ze S a b) (k:Ze S b c):Ze S a c:=
 ⟨k.os.trans h.os,k.tape.trans h.tape,k.output.trans h.output,Nat.le_trans h.size k.size,fun i hi hn=>(k.block i (Nat.lt_of_lt_of_le hi h.size) hn).trans (h.block i hi hn)⟩
theorem Ze.mono {S T:Nat→Prop} {w w':World} (h:Ze S w w') (hST:∀k,S k→T k):Ze T w w':=
 ⟨h.os,h.tape,h.output,h.size,fun k hk hn=>h.block k hk (fun hs=>hn (hST k hs))⟩
theorem Zi {w w':World} {row:Option Nat} (h:w.grownBy w' row) {S:Nat→Prop} (hS:∀k,row=some k→S k):Ze S w w':=
 ⟨h.os,h.tape,h.output,h.size,fun k hk hn=>h.block k hk (fun e=>hn (hS k e.symm))⟩
theorem ZS {B:Nat} {w w':World} (h:Below B w w') {S:Nat→Prop} (hS:∀k,B≤k→k<w.heap.size→S k):Ze S w w':=
 ⟨h.os,h.tape,h.output,h.size,fun k hk hn=>h.block k (by
  rcases Nat.lt_or_ge k B with h|h
  ·exact h
  ·exact absurd (hS k h hk) hn)⟩
theorem Ze.below {S:Nat→Prop} {w w':World} (h:Ze S w w') {B:Nat} (hB:B≤w.heap.size) (hS:∀k,S k→B≤k):Below B w w':=
 ⟨h.os,h.tape,h.output,h.size,fun k hk=>h.block k (by omega) (fun hs=>by have:=hS k hs;omega)⟩
theorem Z45 {S:Nat→Prop} {w w':World} {base:Nat} {e:TypeId} {size:Nat} {v:Value} {n:Nat} {xs:List Value} (h:w.ownsRow base e size v n xs) (ht:Ze S w w')
  (hS:∀k,v.ownBlock=some k→¬S k):w'.ownsRow base e size v n xs:=by
 refine⟨h.1,?_⟩
 rcases h.2 with hn|⟨g,cap,cur,rfl,hbg,hgg,rest⟩
 ·exact .inl hn
 ·exact .inr ⟨g,cap,cur,rfl,hbg,by rw [ht.block g (gsI hgg).1 (hS g rfl)];exact hgg,rest⟩
theorem Zaa {w:World} {base base':Nat} {e:TypeId} {size:Nat} {v:Value} {n:Nat} {xs:List Value} (h:w.ownsRow base e size v n xs) (hb:∀k,v.ownBlock=some k→base'≤k):w.ownsRow base' e size v n xs:=by
 refine⟨h.1,?_⟩
 rcases h.2 with hn|⟨g,cap,cur,rfl,hbg,hgg,rest⟩
 ·exact .inl hn
 ·exact .inr ⟨g,cap,cur,rfl,hb g rfl,hgg,rest⟩
theorem Z4n {base g cap n s:Nat} {e:TypeId}:∀{vs:List Value} {w:World} {A B C:List Value} {o:Nat},A.length=o→B.length=vs.length→w.ownsRow base e s (.slice (some ⟨g,0,none⟩) n cap) n (A++B++C)→
  (w.setCells g o vs).ownsRow base e s (.slice (some ⟨g,0,none⟩) n cap) n (A++vs++C)∧w.grownBy (w.setCells g o vs) (some g)
 | [],w,A,B,C,o,_,hB,h=>by
  have:B=[]:=List.length_eq_zero_iff.1 hB
  subst this
  exact⟨h,rfl,rfl,rfl,Nat.le_refl _,fun _ _ _=>rfl⟩
 | v::vs,w,A,b::B,C,o,hA,hB,h=>by
  have h1:=h.stored o v
  have h2:(A++b::B++C).set o v=(A++[v])++B++C:=by
   rw [List.append_assoc,List.set_append_right _ _ (by omega),hA,Nat.sub_self];simp
  rw [h2] at h1
  have h3:=Z4n (vs:=vs) (o:=o+1) (A:=A++[v]) (B:=B) (C:=C) (by simp [hA]) (by simpa using hB) h1.1
  refine⟨by have:=h3.1;rw [List.append_assoc A [v] vs] at this;exact this,?_⟩
  have h4:=h1.2
  have h5:=h3.2
  exact⟨h5.os.trans h4.os,h5.tape.trans h4.tape,h5.output.trans h4.output,Nat.le_trans h4.size h5.size,fun k hk hne=>(h5.block k (Nat.lt_of_lt_of_le hk h4.size) hne).trans (h4.block k hk hne)⟩
 | _::_,_,_,[],_,_,_,hB,_=>by simp at hB
theorem ZF {g:Nat} {t:TypeId}:∀{vs:List Value} {w:World} {A B C:List Value} {o:Nat},A.length=o→B.length=vs.length→w.heap[g]? = some (.cells (A++B++C).toArray t (0,0))→(w.setCells g o vs).heap[g]? = some (.cells (A++vs++C).toArray t (0,0))
 | [],_,_,B,_,_,_,hB,h=>by
  have:B=[]:=List.length_eq_zero_iff.1 hB
  subst this
  exact h
 | v::vs,w,A,b::B,C,o,hA,hB,h=>by
  have h1:=hSs w g o _ t v h
  have h3:=ZF (vs:=vs) (o:=o+1) (A:=A++[v]) (B:=B) (C:=C) (w:=w.setCell ⟨g,o,none⟩ v) (by simp [hA]) (by simpa using hB) (by
   rw [h1]
   congr 2
   rw [pu1,List.append_assoc,List.set_append_right _ _ (by omega),hA,Nat.sub_self]
   simp)
  rw [List.append_assoc A [v] vs] at h3
  exact h3
 | _::_,_,_,[],_,_,_,hB,_=>by simp at hB
theorem Z0o {g k:Nat} (hk:k≠g):∀(vs:List Value) (w:World) (o:Nat),(w.setCells g o vs).heap[k]? = w.heap[k]?
 | [],_,_=>rfl
 | v::vs,w,o=>(Z0o hk vs (w.setCell ⟨g,o,none⟩ v) (o+1)).trans (heap_setCell_other w ⟨g,o,none⟩ k v (fun e=>hk e))
theorem Z1E {g:Nat}:∀(vs:List Value) (w:World) (o:Nat),(w.setCells g o vs).heap.size=w.heap.size
 | [],_,_=>rfl
 | v::vs,w,o=>(Z1E vs (w.setCell ⟨g,o,none⟩ v) (o+1)).trans (World.size_setCell _ _ _)
theorem ZB {g:Nat}:∀(vs:List Value) (w:World) (o:Nat),Ze (fun k=>k=g) w (w.setCells g o vs)
 | [],w,_=>Ze.refl _ w
 | v::vs,w,o=>Ze.trans (b:=w.setCell ⟨g,o,none⟩ v) ⟨rfl,rfl,rfl,by simp,fun k _ hk=>heap_setCell_other w ⟨g,o,none⟩ k v (fun e=>hk e)⟩ (ZB vs (w.setCell ⟨g,o,none⟩ v) (o+1))
structure Zd5 (n:Nat) (P Z U:Obj) (w:World):Prop where
 p:w.heap[n]? = some P
 z:w.heap[n+1]? = some Z
 u:w.heap[n+2]? = some U
theorem Z7C (w:World) (P Z U:Obj):Zd5 w.heap.size P Z U (((w.alloc P).alloc Z).alloc U)∧(((w.alloc P).alloc Z).alloc U).heap.size=w.heap.size+3∧Below w.heap.size w (((w.alloc P).alloc Z).alloc U):=by
 have h1:=hAn w P
 have h2:=hAn (w.alloc P) Z
 have h3:=hAn ((w.alloc P).alloc Z) U
 simp only [World.size_alloc] at h2 h3
 refine⟨⟨?_,?_,h3⟩,by simp,(((bRf _ _).alloc (Nat.le_refl _) _).alloc (by simp) _).alloc (by simp;omega) _⟩
 ·rw [heap_alloc_old,heap_alloc_old]
  ·exact h1
  ·simp
  ·simp;omega
 ·rw [heap_alloc_old]
  ·exact h2
  ·simp
theorem Z4 (w:World) (g o:Nat) (v:Value):Ze (fun k=>k=g) w (w.setCell ⟨g,o,none⟩ v):=
 ⟨rfl,rfl,rfl,by rw [World.size_setCell];exact Nat.le_refl _,fun j _ hj=>heap_setCell_other w _ j _ (fun e=>hj e)⟩
end Go.Proofs.YtloooebabieeeaaGreatDoor
