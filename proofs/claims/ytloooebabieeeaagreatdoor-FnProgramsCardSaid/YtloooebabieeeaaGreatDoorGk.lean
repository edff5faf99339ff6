/-
  Lists of any kind of element in memory of which it is known in which blocks it lies; lists that grow.
-/
import Derived.Test.YtloooebabieeeaaGreatDoorCp
import Derived.Test.YtloooebabieeeaaGreatDoorEp
set_option maxRecDepth 100000
set_option maxHeartbeats 16000000
set_option linter.unusedVariables false
namespace Go.Proofs.YtloooebabieeeaaGreatDoor
open Go.RowKit
abbrev Z2u (α : Type):Type:=(Nat→Prop)→World→List Value→α→Prop
structure Z1g {α : Type} (s:Nat) (R:Z2u α):Prop where
 mono:∀{S S':Nat→Prop} {w:World} {c:List Value} {x:α},(∀k,k<w.heap.size→S k→S' k)→R S w c x→R S' w c x
 turned:∀{S T:Nat→Prop} {w w':World} {c:List Value} {x:α},Ze T w w'→(∀k,k<w.heap.size→S k→¬T k)→R S w c x→R S w' c x
 len:∀{S:Nat→Prop} {w:World} {c:List Value} {x:α},R S w c x→c.length=s
structure Za {α : Type} (s:Nat) (R:Z2u α) (S:Nat→Prop) (w:World) (a:Option Addr) (xs:List α):Prop where
 rd:Z03 s (R S) w a xs.length xs
 blk:xs≠[]→∃b off,a=some ⟨b,off,none⟩∧S b∧b<w.heap.size
section
variable {α : Type} {s:Nat} {R:Z2u α}
theorem Z1g.below (hR:Z1g s R) {S:Nat→Prop} {w w':World} {c:List Value} {x:α} (hb:Below w.heap.size w w') (h:R S w c x):R S w' c x:=
 hR.turned (T:=fun k=>w.heap.size≤k) (ZS hb (fun k h1 _=>h1)) (fun k h1 _ h2=>by omega) h
theorem Z1g.here (hR:Z1g s R) {S:Nat→Prop} {w:World} {c:List Value} {x:α} (h:R S w c x):R (fun k=>S k∧k<w.heap.size) w c x:=hR.mono (fun _ h1 h2=>⟨h2,h1⟩) h
theorem Z22 {R R':World→List Value→α→Prop} {w:World} {a:Option Addr} {n:Nat} {xs:List α} (h:Z03 s R w a n xs) (hR:∀cs x,x∈xs→R w cs x→R' w cs x):Z03 s R' w a n xs:=by
 obtain⟨h1,cells,h2,h3,h4,h5⟩:=h
 exact⟨h1,cells,h2,h3,h4,fun i c x hc hx=>hR c x (List.mem_of_getElem? hx) (h5 i c x hc hx)⟩
theorem Za.nil (S:Nat→Prop) (w:World) (a:Option Addr):Za s R S w a []:=⟨⟨rfl,[],.inl rfl,rfl,by simp,by simp⟩,fun h=>absurd rfl h⟩
theorem Za.mono (hR:Z1g s R) {S S':Nat→Prop} {w:World} {a:Option Addr} {xs:List α} (h:Za s R S w a xs) (hS:∀k,k<w.heap.size→S k→S' k):Za s R S' w a xs:=
 ⟨Z22 h.rd (fun _ _ _ h=>hR.mono hS h),fun hn=>by obtain⟨b,off,h1,h2,h3⟩:=h.blk hn;exact⟨b,off,h1,hS b h3 h2,h3⟩⟩
theorem Za.turned (hR:Z1g s R) {S T:Nat→Prop} {w w':World} {a:Option Addr} {xs:List α} (h:Za s R S w a xs) (ht:Ze T w w') (hS:∀k,k<w.heap.size→S k→¬T k):Za s R S w' a xs:=by
 refine⟨?_,fun hn=>by obtain⟨b,off,h1,h2,h3⟩:=h.blk hn;exact⟨b,off,h1,h2,Nat.lt_of_lt_of_le h3 ht.size⟩⟩
 obtain⟨h1,cells,h2,h3,h4,h5⟩:=h.rd
 refine⟨h1,cells,?_,h3,h4,fun i c x hc hx=>hR.turned ht hS (h5 i c x hc hx)⟩
 by_cases hn:xs=[]
 ·subst hn
  have:cells=[]:=List.length_eq_zero_iff.1 h3
  subst this
  exact .inl rfl
 ·obtain⟨b,off,rfl,hSb,hb⟩:=h.blk hn
  have hbl:=ht.block b hb (hS b hb hSb)
  rcases h2 with h0|⟨b',off',he,h2⟩
  ·exact .inl h0
  ·cases he
   exact .inr ⟨b,off,rfl,fun i v hv=>(World.cell?_of_block hbl).trans (h2 i v hv)⟩
theorem Za.below (hR:Z1g s R) {S:Nat→Prop} {w w':World} {a:Option Addr} {xs:List α} (h:Za s R S w a xs) (hb:Below w.heap.size w w'):Za s R S w' a xs:=
 h.turned hR (T:=fun k=>w.heap.size≤k) (ZS hb (fun k h1 _=>h1)) (fun k h1 _ h2=>by omega)
theorem Za.here (hR:Z1g s R) {S:Nat→Prop} {w:World} {a:Option Addr} {xs:List α} (h:Za s R S w a xs):Za s R (fun k=>S k∧k<w.heap.size) w a xs:=h.mono hR (fun _ h1 h2=>⟨h2,h1⟩)
theorem Za.place {S:Nat→Prop} {w:World} {a:Option Addr} {xs:List α} (h:Za s R S w a xs) (hs:0<s) {i:Nat} (hi:i<xs.length) :
  ∃b off cs x,a=some ⟨b,off,none⟩∧xs[i]? = some x∧cs.length=s∧(∀j v,cs[j]? = some v→w.cell? ⟨b,off+i*s+j,none⟩=some v)∧R S w cs x:=h.rd.place hs hi
theorem Za.laid {S:Nat→Prop} {w:World} {t:TypeId} {b:Nat} {cells:List (List Value)} {xs:List α} (hb:w.heap[b]? = some (.cells cells.flatten.toArray t (0,0))) (hS:S b) (hl:xs.length=cells.length) (hc:∀c∈cells,c.length=s)
  (hx:∀(i:Nat) cl x,cells[i]? = some cl→xs[i]? = some x→R S w cl x):Za s R S w (some ⟨b,0,none⟩) xs:=by
 refine⟨⟨rfl,cells,.inr ⟨b,0,rfl,fun i v hv=>?_⟩,hl.symm,hc,hx⟩,fun _=>⟨b,0,rfl,hS,(gsI hb).1⟩⟩
 rw [coR _ _ (0+i) _ _ _ hb]
 simpa using hv
theorem Za.one {S:Nat→Prop} {w:World} {t:TypeId} {b:Nat} {c:List Value} {x:α} (hR:Z1g s R) (hb:w.heap[b]? = some (.cells c.toArray t (0,0))) (hS:S b) (hx:R S w c x):Za s R S w (some ⟨b,0,none⟩) [x]:=
 Za.laid (cells:=[c]) (by simpa using hb) hS rfl (by intro d hd;simp at hd;subst hd;exact hR.len hx) (fun i cl y h1 h2=>by
  match i with
  | 0=>cases h1;cases h2;exact hx
  | i+1=>cases h1)
structure ZM (s:Nat) (R:Z2u α) (e:TypeId) (S:Nat→Prop) (lo:Nat) (w:World) (a:Option Addr) (n c:Nat) (xs:List α):Prop where
 row:∃cells:List (List Value),w.ownsRow lo e s (.slice a n c) n cells.flatten∧cells.length=n∧(∀cl∈cells,cl.length=s)∧
  ∀(i:Nat) cl x,cells[i]? = some cl→xs[i]? = some x→R (fun k=>S k∧¬(Value.slice a n c).ownBlock=some k) w cl x
 length:xs.length=n
variable {e:TypeId}
theorem ZM.nil (S:Nat→Prop) (lo:Nat) (w:World):ZM s R e S lo w none 0 0 []:=⟨⟨[],World.ownsRow_nil _ _ _ _,rfl,by simp,by simp⟩,rfl⟩
theorem ZM.empty (S:Nat→Prop) (lo:Nat) (w:World) (h:lo≤w.heap.size):ZM s R e S lo (w.alloc (.cells #[] e)) (some ⟨w.heap.size,0,none⟩) 0 0 []:=⟨⟨[],Z0i w lo e s h,rfl,by simp,by simp⟩,rfl⟩
theorem ZM.turned (hR:Z1g s R) {S T:Nat→Prop} {lo:Nat} {w w':World} {a:Option Addr} {n c:Nat} {xs:List α} (h:ZM s R e S lo w a n c xs) (ht:Ze T w w') (h1:∀k,(Value.slice a n c).ownBlock=some k→¬T k) (h2:∀k,k<w.heap.size→S k→¬T k):ZM s R e S lo w' a n c xs:=by
 obtain⟨⟨cells,k1,k2,k3,k4⟩,k5⟩:=h
 exact⟨⟨cells,Z45 k1 ht h1,k2,k3,fun i cl x hc hx=>hR.turned ht (fun k hk hs=>h2 k hk hs.1) (k4 i cl x hc hx)⟩,k5⟩
theorem ZM.below (hR:Z1g s R) {S:Nat→Prop} {lo:Nat} {w w':World} {a:Option Addr} {n c:Nat} {xs:List α} (h:ZM s R e S lo w a n c xs) (hb:Below w.heap.size w w'):ZM s R e S lo w' a n c xs:=by
 obtain⟨⟨cells,k1,k2,k3,k4⟩,k5⟩:=h
 exact⟨⟨cells,ZI k1 hb,k2,k3,fun i cl x hc hx=>hR.below hb (k4 i cl x hc hx)⟩,k5⟩
theorem ZM.list (hR:Z1g s R) {S:Nat→Prop} {lo:Nat} {w:World} {a:Option Addr} {n c:Nat} {xs:List α} (h:ZM s R e S lo w a n c xs):Za s R (fun k=>S k∨lo≤k) w a xs:=by
 obtain⟨⟨cells,k1,k2,k3,k4⟩,k5⟩:=h
 refine⟨⟨rfl,cells,Z2k k1,by omega,k3,fun i cl x hc hx=>hR.mono (fun k _ h=>.inl h.1) (k4 i cl x hc hx)⟩,fun hn=>?_⟩
 rcases k1.2 with⟨hv,h0⟩|⟨g,cap,cur,hv,hbg,hgg,_⟩
 ·exfalso
  exact hn (List.length_eq_zero_iff.1 (by omega))
 ·simp only [Value.slice.injEq] at hv
  exact⟨g,0,hv.1,.inr hbg,(gsI hgg).1⟩
def Z1Y (s:Nat) (R:Z2u α) (e:TypeId) (S:Nat→Prop) (lo:Nat) (w:World) (a:Option Addr) (n c:Nat) (xs:List α) (cells:List (List Value)):Prop:=
 w.ownsRow lo e s (.slice a n c) n cells.flatten∧cells.length=n∧(∀cl∈cells,cl.length=s)∧
  ∀(i:Nat) cl x,cells[i]? = some cl→xs[i]? = some x→R (fun k=>S k∧¬(Value.slice a n c).ownBlock=some k) w cl x
theorem ZM.rows {S:Nat→Prop} {lo:Nat} {w:World} {a:Option Addr} {n c:Nat} {xs:List α} (h:ZM s R e S lo w a n c xs):∃cells,Z1Y s R e S lo w a n c xs cells:=h.row
theorem Z1Y.pushes (hR:Z1g s R) {S:Nat→Prop} {lo:Nat} {w w':World} {a a':Option Addr} {n c c':Nat} {xs:List α} {cells:List (List Value)} (h:Z1Y s R e S lo w a n c xs cells) (k5:xs.length=n) {cls:List (List Value)} {ys:List α} (hn:cls.length=ys.length) (hc:∀cl∈cls,cl.length=s)
  (hx:∀(i:Nat) cl x,cls[i]? = some cl→ys[i]? = some x→R (fun k=>S k∧¬(Value.slice a n c).ownBlock=some k) w cl x)
  (hown:w'.ownsRow lo e s (.slice a' (n+ys.length) c') (n+ys.length) (cells.flatten++cls.flatten)) (hg:w.grownBy w' (Value.slice a n c).ownBlock)
  (hl:(Value.slice a' (n+ys.length) c').ownBlock=(Value.slice a n c).ownBlock∨(Value.slice a' (n+ys.length) c').ownBlock=some w.heap.size):ZM s R e S lo w' a' (n+ys.length) c' (xs++ys):=by
 obtain⟨k1,k2,k3,k4⟩:=h
 have ht:=Zi hg (S:=fun k=>(Value.slice a n c).ownBlock=some k) (fun k hk=>hk)
 have hkeep:∀{cl x},R (fun k=>S k∧¬(Value.slice a n c).ownBlock=some k) w cl x→R (fun k=>S k∧¬(Value.slice a' (n+ys.length) c').ownBlock=some k) w' cl x:=fun {cl x} h=>by
  have h1:=hR.turned ht (fun k _ h1=>h1.1.2) (hR.here h)
  refine hR.mono (fun k _ h2=>⟨h2.1.1,fun e=>?_⟩) h1
  rcases hl with hl|hl
  ·exact h2.1.2 (hl▸e)
  ·rw [hl] at e
   have:=Option.some.inj e
   omega
 refine⟨⟨cells++cls,?_,by simp [k2,hn],?_,?_⟩,by simp [k5]⟩
 ·simpa using hown
 ·intro q hq
  rcases List.mem_append.1 hq with hq|hq
  ·exact k3 q hq
  ·exact hc q hq
 ·intro i q y hq hy
  by_cases hi:i<n
  ·rw [List.getElem?_append_left (by omega)] at hq hy
   exact hkeep (k4 i q y hq hy)
  ·rw [List.getElem?_append_right (by omega),k2] at hq
   rw [List.getElem?_append_right (by omega),k5] at hy
   exact hkeep (hx _ _ _ hq hy)
theorem Z1Y.push (hR:Z1g s R) {S:Nat→Prop} {lo:Nat} {w w':World} {a a':Option Addr} {n c c':Nat} {xs:List α} {cl:List Value} {x:α} {cells:List (List Value)} (h:Z1Y s R e S lo w a n c xs cells) (k5:xs.length=n) (hx:R (fun k=>S k∧¬(Value.slice a n c).ownBlock=some k) w cl x)
  (hown:w'.ownsRow lo e s (.slice a' (n+1) c') (n+1) (cells.flatten++cl)) (hg:w.grownBy w' (Value.slice a n c).ownBlock)
  (hl:(Value.slice a' (n+1) c').ownBlock=(Value.slice a n c).ownBlock∨(Value.slice a' (n+1) c').ownBlock=some w.heap.size):ZM s R e S lo w' a' (n+1) c' (xs++[x]):=
 h.pushes hR k5 (cls:=[cl]) (ys:=[x]) rfl (by intro d hd;simp at hd;subst hd;exact hR.len hx) (fun i c y h1 h2=>by
  match i with
  | 0=>cases h1;cases h2;exact hx
  | i+1=>cases h1) (by simpa using hown) hg hl
theorem ZM.lit (hR:Z1g s R) {lo:Nat} {S:Nat→Prop} {w:World} {cells:List (List Value)} {xs:List α} (hlo:lo≤w.heap.size) (hc:∀c∈cells,c.length=s) (hl:xs.length=cells.length) (hm:cells.length≤maxLen) (hx:∀(i:Nat) cl x,cells[i]? = some cl→xs[i]? = some x→R S w cl x) :
  ZM s R e S lo (w.alloc (.cells cells.flatten.toArray e)) (some ⟨w.heap.size,0,none⟩) cells.length cells.length xs:=by
 have hf:cells.flatten.length=cells.length*s:=by
  clear hx hl hm
  induction cells with
  | nil=>simp
  | cons c cs ih=>rw [List.flatten_cons,List.length_append,ih (fun d hd=>hc d (List.mem_cons_of_mem _ hd)),hc c List.mem_cons_self,List.length_cons,Nat.add_mul];omega
 refine⟨⟨cells,⟨hf,.inr ⟨w.heap.size,cells.length,_,rfl,hlo,hAn w _,Nat.le_refl _,hm,by simpa using hf,?_⟩⟩,rfl,hc,fun i cl x h1 h2=>?_⟩,hl⟩
 ·show cells.flatten.take (cells.length*s)=cells.flatten
  rw [List.take_of_length_le (by omega)]
 ·have h3:=hR.here (hx i cl x h1 h2)
  exact hR.mono (fun k _ h=>⟨h.1,fun e=>by simp only [Value.ownBlock,Option.some.injEq] at e;omega⟩) (hR.below ((bRf _ _).alloc (Nat.le_refl _) _) h3)
end
end Go.Proofs.YtloooebabieeeaaGreatDoor
