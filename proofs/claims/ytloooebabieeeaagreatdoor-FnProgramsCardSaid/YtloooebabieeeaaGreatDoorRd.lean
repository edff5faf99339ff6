/-
  The drawing reader of the reference: l30Open makes one over some bytes, pick draws a number below n, num an element of a list. What is drawn does not matter to the laws: only that it is in range, and that nothing but the reader's own block has changed.
-/
import Derived.Test.YtloooebabieeeaaGreatDoorCp
import Derived.Test.YtloooebabieeeaaGreatDoorBase
set_option maxRecDepth 100000
set_option maxHeartbeats 16000000
set_option linter.unusedVariables false
namespace Go.Proofs.YtloooebabieeeaaGreatDoor
open Go.RowKit
theorem Z9g (a b:Int) (ha:0≤a) (ha':a<4611686018427387904) (hb:0≤b) (hb':b<4611686018427387904):0≤bits .xor .i64 a b:=by
 obtain⟨m,rfl⟩:=Int.eq_ofNat_of_zero_le ha
 obtain⟨n,rfl⟩:=Int.eq_ofNat_of_zero_le hb
 have hx:m ^^^ n<2 ^ 62:=Nat.xor_lt_two_pow (by omega) (by omega)
 have h1:(BitVec.ofInt 64 (m:Int)).toNat=m:=by
  rw [BitVec.ofInt_natCast,BitVec.toNat_ofNat];exact Nat.mod_eq_of_lt (by omega)
 have h2:(BitVec.ofInt 64 (n:Int)).toNat=n:=by
  rw [BitVec.ofInt_natCast,BitVec.toNat_ofNat];exact Nat.mod_eq_of_lt (by omega)
 show 0≤IntKind.i64.wrap ((BitVec.ofInt 64 (m:Int) ^^^ BitVec.ofInt 64 (n:Int)).toNat:Int)
 rw [BitVec.toNat_xor,h1,h2,IntWalk.i64_in _ (by omega)]
 omega
structure Z1N (w:World) (a:Option Addr) (len:Nat) (bs:List Int):Prop where
 length:bs.length=len
 row:Z0g w a (bs.map (Value.int .u8))
 byte:∀x∈bs,0≤x∧x<256
structure Rd (w0 w:World) (br:Nat) (a:Option Addr) (len cap:Nat) (bs:List Int) (p:Nat):Prop where
 bytes:Z1N w0 a len bs
 below:Below w0.heap.size w0 w
 base:w0.heap.size≤br
 blk:w.heap[br]? = some (.cells #[.slice a len cap,.int .i64 p] 61 (0,0))
theorem Z1N.place {w:World} {a:Option Addr} {len:Nat} {bs:List Int} (h:Z1N w a len bs) {i:Nat} (hi:i<len) :
  ∃b off x,a=some ⟨b,off,none⟩∧0≤x∧x<256∧w.cell? ⟨b,off+i,none⟩=some (.int .u8 x):=by
 have hl:=h.length
 rcases h.row with h0|⟨b,off,rfl,hc⟩
 ·have:bs=[]:=by simpa using h0
  subst this;simp at hl;omega
 ·have hx:bs[i]? = some (bs[i]'(by omega)):=List.getElem?_eq_getElem _
  have hm:bs[i]'(by omega)∈bs:=List.getElem_mem _
  exact⟨b,off,_,rfl,(h.byte _ hm).1,(h.byte _ hm).2,hc i _ (by rw [List.getElem?_map,hx];rfl)⟩
theorem Z2B {w0 w:World} {br:Nat} {a:Option Addr} {len cap:Nat} {bs:List Int} {p:Nat} (h:Rd w0 w br a len cap bs p) (nq:Nat) :
  Rd w0 ((w.setCell ⟨br,1,none⟩ (.int .i64 ((p:Int)+1))).drewN nq) br a len cap bs (p+1)∧w.grownBy ((w.setCell ⟨br,1,none⟩ (.int .i64 ((p:Int)+1))).drewN nq) (some br):=by
 refine⟨⟨h.bytes,below_drewN (h.below.setCell h.base _) _,h.base,?_⟩,⟨rfl,rfl,rfl,by simp [World.setCell],fun k hk hne=>?_⟩⟩
 ·show(w.setCell ⟨br,1,none⟩ (.int .i64 ((p:Int)+1))).heap[br]? = _
  rw [hSs w br 1 _ _ _ h.blk]
  rfl
 ·show(w.setCell ⟨br,1,none⟩ (.int .i64 ((p:Int)+1))).heap[k]? = _
  exact heap_setCell_other w _ k _ (by rintro rfl;exact hne rfl)
theorem Zc7 {w:World} {a:Option Addr} {len cap:Nat} {bs:List Int} (h:Z1N w a len bs):Rd w (w.alloc (.cells #[.slice a len cap,.int .i64 0] 61)) w.heap.size a len cap bs 0:=
 ⟨h,(bRf _ _).alloc (Nat.le_refl _) _,Nat.le_refl _,hAn w _⟩
theorem Rd.kept {w0 w w':World} {br:Nat} {a:Option Addr} {len cap:Nat} {bs:List Int} {p:Nat} {row:Option Nat} (h:Rd w0 w br a len cap bs p) (hg:w.grownBy w' row) (hr:∀k,row=some k→br<k):Rd w0 w' br a len cap bs p:=by
 refine⟨h.bytes,h.below.grown hg h.below.size (fun k hk=>by have:=hr k hk;have:=h.base;omega),h.base,?_⟩
 rw [hg.block br (gsI h.blk).1 (fun e=>by have:=hr br e.symm;omega)]
 exact h.blk
theorem Rd.alloc {w0 w:World} {br:Nat} {a:Option Addr} {len cap:Nat} {bs:List Int} {p:Nat} (h:Rd w0 w br a len cap bs p) (o:Obj):Rd w0 (w.alloc o) br a len cap bs p:=
 h.kept (World.grownBy_alloc w o none) (by simp)
theorem Rd.lt {w0 w:World} {br:Nat} {a:Option Addr} {len cap:Nat} {bs:List Int} {p:Nat} (h:Rd w0 w br a len cap bs p):br<w.heap.size:=(gsI h.blk).1
end Go.Proofs.YtloooebabieeeaaGreatDoor
