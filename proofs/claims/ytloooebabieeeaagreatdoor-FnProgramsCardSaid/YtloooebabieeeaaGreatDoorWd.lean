/-
  The words of expressions, statements and programs, and the text that they make (plain).
-/
import Derived.Test.YtloooebabieeeaaGreatDoorCp
import Derived.Test.YtloooebabieeeaaGreatDoorSl
set_option maxRecDepth 100000
set_option maxHeartbeats 16000000
set_option linter.unusedVariables false
namespace Go.Proofs.YtloooebabieeeaaGreatDoor
open Go.RowKit
structure Z7 where
 kind:Int
 text:ByteArray
def Zbd (n:Nat):List UInt8:=
 if n<10 then [UInt8.ofNat (48+n)]
 else if n<100 then [UInt8.ofNat (48+n / 10),UInt8.ofNat (48+n % 10)]
 else [UInt8.ofNat (48+n / 100),UInt8.ofNat (48+n / 10 % 10),UInt8.ofNat (48+n % 10)]
def Z1f (n:Nat):ByteArray:=⟨(Zbd n).toArray⟩
def Z7z:List UInt8:=[40,41,123,125,59,44,43,45,42,47,37,60,61,38,33,64]
def sgW (c:UInt8):Z7:=⟨3,⟨#[c]⟩⟩
def nmW (s:ByteArray):Z7:=⟨1,s⟩
def nbW (n:Nat):Z7:=⟨2,Z1f n⟩
def kyW (i:Nat):Z7:=⟨4,ZU.getD i ⟨#[]⟩⟩
inductive ZV:Z7→Prop
 | name (s:ByteArray) (h:Zk s=true):ZV (nmW s)
 | num (n:Nat) (h:n≤255):ZV (nbW n)
 | sign (c:UInt8) (h:c∈Z7z):ZV (sgW c)
 | key (i:Nat) (h:i<9):ZV (kyW i)
def opC (op:Int):UInt8:=if op=3 then 43 else if op=4 then 45 else if op=5 then 42 else if op=6 then 47 else if op=7 then 37 else if op=8 then 60 else if op=9 then 61 else if op=10 then 38 else if op=11 then 33 else 64
def Zr:Nat→List (List Z7)→List Z7
 | _,[]=>[]
 | i,x::xs=>(if i=0 then [] else [sgW 44])++x++Zr (i+1) xs
def Zd1 (e:Z6) (i:Nat):Z6:=e.kids.getD i default
def Z3h (b:Bool) (ws:List Z7):List Z7:=if b then sgW 40::ws++[sgW 41] else ws
def Z9:Nat→Z6→Int→List Z7
 | 0,_,_=>[]
 | d+1,e,need=>Z3h (decide (ZL e.op<need)) (
   if e.op=1 then [nbW e.n.toNat]
   else if e.op=2 then [nmW e.name]
   else if e.op=13 then nmW e.name::sgW 40::Zr 0 (e.kids.map fun k=>Z9 d k 1)++[sgW 41]
   else if e.op=11∨e.op=12 then sgW (opC e.op)::Z9 d (Zd1 e 0) 5
   else Z9 d (Zd1 e 0) (lvl e.op)++sgW (opC e.op)::Z9 d (Zd1 e 1) (lvl e.op+1))
def Z1X (op:Int) (name:ByteArray):List Z7:=
 if op=1 then [kyW 1,nmW name,sgW 61] else if op=2 then [nmW name,sgW 61] else if op=3 then [kyW 2] else if op=4 then [kyW 3] else if op=5 then [kyW 4] else if op=6 then [kyW 6] else if op=7 then [kyW 7] else [kyW 8]
def Zx (ws:List Z7):List Z7:=sgW 123::ws++[sgW 125]
def Zm:Nat→Zb→List Z7
 | 0,_=>[]
 | d+1,s=>Z1X s.op s.name++Zr 0 (s.args.map fun e=>Z9 6 e 1)++
   (if s.op=5∨s.op=6 then Zx (s.body.flatMap (Zm d))++(if s.els.length=0 then [] else kyW 5::Zx (s.els.flatMap (Zm d))) else [sgW 59])
def Z0H (f:FnD):List Z7:=kyW 0::nmW f.name::sgW 40::Zr 0 (f.params.map fun s=>[nmW s])++sgW 41::Zx (f.body.flatMap (Zm 4))
def ZT (p:List FnD):List Z7:=p.flatMap Z0H
def Z1h:List Z7→List UInt8
 | []=>[]
 | w::ws=>32::w.text.data.toList++Z1h ws
def Z2T (ws:List Z7):List UInt8:=(Z1h ws).drop 1
def ofL (bs:List UInt8):ByteArray:=⟨bs.toArray⟩
def Zl (ws:List Z7):ByteArray:=ofL (Z2T ws)
def Zam (ws:List Z7):ByteArray:=ofL (Z1h ws)
theorem Z62 (a b:List UInt8):ofL (a++b)=ofL a++ofL b:=by
 apply ByteArray.ext
 simp [ofL,ByteArray.data_append]
theorem ZaV (s:ByteArray):ofL s.data.toList=s:=by
 apply ByteArray.ext;simp [ofL]
theorem Zcs {a b:List UInt8} (h:ofL a=ofL b):a=b:=by
 have:=congrArg (fun s:ByteArray=>s.data.toList) h
 simpa [ofL] using this
theorem Z4m:∀a b:List Z7,Z1h (a++b)=Z1h a++Z1h b
 | [],b=>rfl
 | w::a,b=>by simp [Z1h,Z4m a b]
theorem Z7j {a:List Z7} (h:a≠[]) (b:List Z7):Z2T (a++b)=Z2T a++Z1h b:=by
 cases a with
 | nil=>exact absurd rfl h
 | cons w a=>simp [Z2T,Z1h,Z4m]
theorem Z1S {a:List Z7} (h:a≠[]) (b:List Z7):Zl (a++b)=Zl a++Zam b:=by
 rw [Zl,Z7j h,Z62];rfl
theorem Z1J {a:List Z7} (h:a≠[]):Z1h a=32::Z2T a:=by
 cases a with
 | nil=>exact absurd rfl h
 | cons w a=>simp [Z2T,Z1h]
theorem Z5Z {a:List Z7} (h:a≠[]):Zam a=ofL [32]++Zl a:=by
 rw [Zam,Z1J h,Zl,← Z62];rfl
theorem Z0G (w:Z7):Zl [w]=w.text:=by
 have:Z2T [w]=w.text.data.toList:=by simp [Z2T,Z1h]
 rw [Zl,this,ZaV]
end Go.Proofs.YtloooebabieeeaaGreatDoor
