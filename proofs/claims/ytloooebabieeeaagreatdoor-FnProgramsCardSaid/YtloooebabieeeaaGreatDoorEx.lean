/-
  Expressions: what they are, how they lie, which are ones (plain).
-/
import Derived.Test.YtloooebabieeeaaGreatDoorCp
import Derived.Test.YtloooebabieeeaaGreatDoorCore
set_option maxRecDepth 100000
set_option maxHeartbeats 16000000
set_option linter.unusedVariables false
namespace Go.Proofs.YtloooebabieeeaaGreatDoor
open Go.RowKit
inductive Z6 where
 | mk (op n:Int) (name:ByteArray) (kids:List Z6)
deriving Inhabited
def Z6.op:Z6→Int|.mk op _ _ _=>op
def Z6.n:Z6→Int|.mk _ n _ _=>n
def Z6.name:Z6→ByteArray|.mk _ _ s _=>s
def Z6.kids:Z6→List Z6|.mk _ _ _ ks=>ks
def ZX:Nat→World→List Value→Z6→Prop
 | 0,_,_,_=>False
 | d+1,w,cs,e=>∃a c,cs=[.int .i64 e.op,.int .i64 e.n,.string e.name,.slice a e.kids.length c]∧(e.kids.length≤maxLen∧-9223372036854775808≤e.op∧e.op≤9223372036854775807)∧Z03 4 (ZX d) w a e.kids.length e.kids
theorem Zg:∀d,ZbJ (ZX d)
 | 0=>fun _ _ _ _ _ h=>h
 | d+1=>fun w w' c x hb h=>by
  obtain⟨a,n,h1,h2,h3⟩:=h
  exact⟨a,n,h1,h2,h3.later (Zg d) hb⟩
theorem Z0r {d:Nat} {w:World} {a:Option Addr} {n:Nat} {ks:List Z6} (h:Z03 4 (ZX d) w a n ks) {i:Nat} (hi:i<n) :
  ∃b off k cs,a=some ⟨b,off,none⟩∧ks[i]? = some k∧ZX d w cs k∧∃ka kc,cs=[.int .i64 k.op,.int .i64 k.n,.string k.name,.slice ka k.kids.length kc]∧
   w.cell? ⟨b,off+i*4,none⟩=some (.int .i64 k.op)∧w.cell? ⟨b,off+i*4+1,none⟩=some (.int .i64 k.n)∧w.cell? ⟨b,off+i*4+2,none⟩=some (.string k.name)∧w.cell? ⟨b,off+i*4+3,none⟩=some (.slice ka k.kids.length kc):=by
 obtain⟨b,off,cs,k,rfl,hk,hl,hc,hR⟩:=h.place (by decide) hi
 cases d with
 | zero=>exact hR.elim
 | succ d=>
  have hR2:=hR
  obtain⟨ka,kc,rfl,_,_⟩:=hR2
  exact⟨b,off,k,_,rfl,hk,hR,ka,kc,rfl,hc 0 _ rfl,hc 1 _ rfl,hc 2 _ rfl,hc 3 _ rfl⟩
def lvl (op:Int):Int:=if op=3∨op=4 then 3 else if op=5∨op=6∨op=7 then 4 else if op=8∨op=9 then 2 else if op=10 then 1 else 0
def ZL (op:Int):Int:=if 0<lvl op then lvl op else if op=11∨op=12 then 5 else 6
def inE (lo x hi:Int):Bool:=decide (lo≤x)&&decide (x≤hi)
def Z0v (nameB:ByteArray→Bool) (op n:Int) (name:ByteArray) (k:Nat):Bool:=
 if op=1 then inE 0 n 255&&(name.toList.isEmpty&&k==0)
 else if op=2 then nameB name&&(n==0&&k==0)
 else if op=13 then nameB name&&(n==0&&decide (k≤3))
 else if 0<lvl op then n==0&&(name.toList.isEmpty&&k==2)
 else if op=11∨op=12 then n==0&&(name.toList.isEmpty&&k==1)
 else false
def Z1b (f:Z6→Option (Nat×Nat)):List Z6→Nat→Nat→Option (Nat×Nat)
 | [],p,d=>if p≤30 then some (p,d) else none
 | k::ks,p,d=>match f k with
  | none=>none
  | some (n,d')=>Z1b f ks (p+n) (max d (d'+1))
def Z0M (nameB:ByteArray→Bool):Nat→Z6→Option (Nat×Nat)
 | 0,_=>none
 | m+1,e=>if Z0v nameB e.op e.n e.name e.kids.length then Z1b (Z0M nameB m) e.kids 1 1 else none
theorem Z4k {f:Z6→Option (Nat×Nat)}:∀(ks:List Z6) (p d:Nat) (q:Nat×Nat),Z1b f ks p d=some q→q.1≤30
 | [],p,d,q,h=>by
  rw [Z1b] at h
  split at h
  ·cases h;assumption
  ·cases h
 | k::ks,p,d,q,h=>by
  rw [Z1b] at h
  split at h
  ·cases h
  ·exact Z4k ks _ _ q h
theorem Z4U {nameB:ByteArray→Bool} {m:Nat} {e:Z6} {q:Nat×Nat} (h:Z0M nameB m e=some q):q.1≤30:=by
 cases m with
 | zero=>cases h
 | succ m=>
  rw [Z0M] at h
  split at h
  ·exact Z4k _ _ _ _ h
  ·cases h
theorem Z5e {f:Z6→Option (Nat×Nat)} {m:Nat} (hf:∀e q,f e=some q→q.2≤m):∀(ks:List Z6) (p d:Nat) (q:Nat×Nat),d≤m+1→Z1b f ks p d=some q→q.2≤m+1
 | [],p,d,q,hd,h=>by
  rw [Z1b] at h
  split at h
  ·cases h;exact hd
  ·cases h
 | k::ks,p,d,q,hd,h=>by
  rw [Z1b] at h
  split at h
  ·cases h
  ·rename_i x n d' hk
   have:=hf k _ hk
   exact Z5e hf ks _ _ q (by simp only at this;omega) h
theorem Z5R {nameB:ByteArray→Bool}:∀(m:Nat) (e:Z6) (q:Nat×Nat),Z0M nameB m e=some q→q.2≤m
 | 0,_,_,h=>by cases h
 | m+1,e,q,h=>by
  rw [Z0M] at h
  split at h
  ·exact Z5e (Z5R m) _ _ _ _ (by omega) h
  ·cases h
theorem Z9h {nameB:ByteArray→Bool} {m:Nat} {e:Z6} (h:Z0v nameB e.op e.n e.name e.kids.length=false):Z0M nameB m e=none:=by
 cases m with
 | zero=>rfl
 | succ m=>rw [Z0M,if_neg (by simp [h])]
def Z3P (w:World):Prop:=∃bm o,w.cell? ⟨1,0,none⟩=some (.map (some bm))∧w.heap[bm]? = some o∧
 ∀W:World,W.heap[bm]? = some o→∀op:Int,-9223372036854775808≤op∧op≤9223372036854775807→∃s,(Instr.lookup 137 (.map (some bm)) (.int .i64 op) false).run Tryz.prog W=.ok (.agg #[.string s,.int .i64 (lvl op)]) W
theorem Z3P.later {w w':World} (h:Z3P w) (hb:Below w.heap.size w w'):Z3P w':=by
 obtain⟨bm,o,h1,h2,h3⟩:=h
 exact⟨bm,o,clT hb h1,(hb.block _ (gsI h2).1).trans h2,h3⟩
end Go.Proofs.YtloooebabieeeaaGreatDoor
