/-
  (no filter) What the row's condition on the tables gives the walks: the table of the ops between two.
-/
import Derived.Test.YtloooebabieeeaaGreatDoorCp
import Derived.Test.YtloooebabieeeaaGreatDoorEx
import Derived.Test.YtloooebabieeeaaGreatDoorRows
import Derived.ProofKit
import Derived.LaidMore
import Derived.OpenShut
import Derived.Stop.Joined
import Derived.Maps.Keyed
import Derived.Test.YtloooebabieeeaaGreatDoorNm
set_option maxRecDepth 100000
set_option maxHeartbeats 16000000
set_option linter.unusedVariables false
namespace Go.Proofs.YtloooebabieeeaaGreatDoor
open Go.ChangeShapes Go.WideShapes Go.ChangeAt Go.RowKit Go.WideElems Go.Maps
theorem Zd6:Tryz.prog.globalNamed "loop.example/wholeway/impl.keys" = some 0:=by kernel_rfl
theorem Zdd:Tryz.prog.globalNamed "loop.example/wholeway/impl.opSign" = some 1:=by kernel_rfl
theorem Zd4:(Tryz.prog.globals[0]?).map (·.type)=some 104:=by kernel_rfl
theorem Zda:(Tryz.prog.globals[1]?).map (·.type)=some 137:=by kernel_rfl
theorem Zc4:Tryz.prog.cellsOf 9=1:=by kernel_rfl
theorem Zch:Tryz.prog.cellsOf 3=1:=by kernel_rfl
theorem ZcG:Tryz.prog.cellsOf 136=2:=by kernel_rfl
theorem ZcY (w:World):(zeroValue 136).run Tryz.prog w=.ok (.agg #[.string ⟨#[]⟩,.int .i64 0]) w:=by kernel_rfl
theorem Z3C {α : Type} {cs:List α} {k n:Nat} {x:α} (hn:n=1) (h:(cs.drop k).take n=[x]):cs[k]? = some x:=by
 subst hn
 have:=congrArg (fun l=>l[0]?) h
 simpa [List.getElem?_take,List.getElem?_drop] using this
theorem Zde {enc:TypeId×Value→Unit} {W:World} {sp:Nat→Bool} {hd:Bool} {n:Nat} {v:Value} {y:DataW Unit×List MemPlace}
  (h:elemAt enc Tryz.prog W 0 sp hd n 136 v=some y):∃s r,v=.agg #[.string s,.int .i64 r]∧y.1=.agg [.lit (.string s.data.toList),.lit (.int .i64 r)]:=by
 unfold elemAt at h
 split at h
 ·rename_i hf
  obtain⟨y0,y1,m,hy,hl,hs,hn2⟩:=trod_struct2 Tryz.underlying136 h
  obtain⟨s,e0,e1,_⟩:=DataW.trod_string Tryz.underlying9 hs
  obtain⟨r,f0,f1,_⟩:=DataW.trod_int Tryz.underlying3 hn2
  rw [ZcG] at hl
  have c0:=Z3C Zc4 e0
  have c1:=Z3C Zch f0
  refine⟨s,r,?_,by rw [hy,e1,f1]⟩
  clear hs hn2 h hf hy e0 f0 e1 f1
  cases v with
  | agg cs=>
   refine congrArg Value.agg (Array.toList_inj.1 (List.ext_getElem? fun i=>?_))
   match i with
   | 0=>exact c0
   | 1=>exact c1
   | i+2=>rw [List.getElem?_eq_none (by show cs.toList.length≤i+2;have h2:cs.toList.length=2:=hl;omega)];rfl
  | _=>simp [Value.cells] at hl
 ·cases h
theorem Zc1 (op:Int):(∃s,(Rows.laid_loop_example_wholeway_impl_opSign (H:=Unit)).atKey (.int .i64 op) .nil=.agg [.lit (.string s),.lit (.int .i64 (lvl op))])∨((Rows.laid_loop_example_wholeway_impl_opSign (H:=Unit)).atKey (.int .i64 op) .nil=.nil∧lvl op=0):=by
 by_cases h:3≤op∧op≤10
 ·have hc:op=3∨op=4∨op=5∨op=6∨op=7∨op=8∨op=9∨op=10:=by omega
  rcases hc with rfl|rfl|rfl|rfl|rfl|rfl|rfl|rfl<;>exact .inl ⟨_,rfl⟩
 ·have e3:¬3=op:=by omega
  have e4:¬4=op:=by omega
  have e5:¬5=op:=by omega
  have e6:¬6=op:=by omega
  have e7:¬7=op:=by omega
  have e8:¬8=op:=by omega
  have e9:¬9=op:=by omega
  have e10:¬10=op:=by omega
  refine .inr ⟨?_,?_⟩
  ·simp [Rows.laid_loop_example_wholeway_impl_opSign,DataW.atKey,Lit.sameKey,e3,e4,e5,e6,e7,e8,e9,e10]
  ·unfold lvl
   rw [if_neg (by omega),if_neg (by omega),if_neg (by omega),if_neg (by omega)]
end Go.Proofs.YtloooebabieeeaaGreatDoor
namespace Go.Proofs.YtloooebabieeeaaGreatDoor
open Go.ChangeShapes Go.WideShapes Go.ChangeAt Go.RowKit
def Z82:List (DataW Unit):=match (Rows.laid_loop_example_wholeway_impl_keys (H:=Unit)) with
 | .agg xs=>xs
 | _=>[]
theorem Z8s:(Rows.laid_loop_example_wholeway_impl_keys (H:=Unit))=.agg Z82:=rfl
theorem Z9a (i:Nat) (h:i<9):∃s,ZU[i]? = some s∧Z82[i]? = some (.lit (.string s.data.toList)):=by
 have hc:i=0∨i=1∨i=2∨i=3∨i=4∨i=5∨i=6∨i=7∨i=8:=by omega
 rcases hc with rfl|rfl|rfl|rfl|rfl|rfl|rfl|rfl|rfl
 ·exact⟨_,rfl,rfl⟩
 ·exact⟨_,rfl,rfl⟩
 ·exact⟨_,rfl,rfl⟩
 ·exact⟨_,rfl,rfl⟩
 ·exact⟨_,rfl,rfl⟩
 ·exact⟨_,rfl,rfl⟩
 ·exact⟨_,rfl,rfl⟩
 ·exact⟨_,rfl,rfl⟩
 ·exact⟨_,rfl,rfl⟩
theorem Z5a {s t:ByteArray} (h:s.data.toList=t.data.toList):s=t:=by
 cases s with
 | mk a=>cases t with
  | mk b=>
   have:a=b:=Array.toList_inj.1 h
   rw [this]
theorem Z9s {enc:TypeId×Value→Unit} {W:World} {sp:Nat→Bool} {hd:Bool} {fuel:Nat} {cs:List Value} {p:List MemPlace}
  (h:DataW.trod enc Tryz.prog W 0 sp hd fuel 104 cs=some (Rows.laid_loop_example_wholeway_impl_keys,p)) :
  ∀(i:Nat) s,ZU[i]? = some s→cs[i]? = some (.string s):=by
 obtain⟨xs,m,rfl,hx,hlen,hn,hel⟩:=DataW.trod_array Tryz.underlying104 h
 intro i s hs
 have hi:i<9:=(List.getElem?_eq_some_iff.1 hs).1
 have h1:=hel i hi
 rw [Zc4] at h1
 have hxi:xs[i]? = some (xs[i]'(by omega)):=List.getElem?_eq_getElem (by omega)
 rw [hxi] at h1
 obtain⟨s',e0,e1,_⟩:=DataW.trod_string Tryz.underlying9 h1
 have hd:xs.map (·.1)=Z82:=by
  have:=congrArg Prod.fst hx
  rw [Z8s] at this
  exact(DataW.agg.inj this).symm
 obtain⟨s2,k1,k2⟩:=Z9a i hi
 rw [hs] at k1
 cases k1
 have hdi:(xs.map (·.1))[i]? = some (xs[i]'(by omega)).1:=by rw [List.getElem?_map,hxi];rfl
 rw [hd,k2,e1] at hdi
 have h3:=Option.some.inj hdi
 simp only [DataW.lit.injEq,Lit.string.injEq] at h3
 have h4:=Z5a h3
 subst h4
 rw [Nat.mul_one] at e0
 exact Z3C rfl e0
end Go.Proofs.YtloooebabieeeaaGreatDoor
