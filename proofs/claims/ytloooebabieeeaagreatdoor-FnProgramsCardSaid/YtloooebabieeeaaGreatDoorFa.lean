/-
  The reference's reader: what it gives as a function of its bytes.
-/
import Derived.Test.YtloooebabieeeaaGreatDoorCp
import Derived.Test.YtloooebabieeeaaGreatDoorRd
set_option maxRecDepth 100000
set_option maxHeartbeats 16000000
set_option linter.unusedVariables false
namespace Go.Proofs.YtloooebabieeeaaGreatDoor
open Go.RowKit
def Zd2 (bs:List Int) (p:Nat):Int:=bs.getD (p % bs.length) 0*131+bs.getD ((p*7+3) % bs.length) 0*1117+(p:Int)*29+((p / bs.length:Nat):Int)*53
def ZP (bs:List Int) (n:Int) (p:Nat):Int:=
 if bs.length=0 then 0 else if p<bs.length then bs.getD p 0 % n else bits .xor .i64 (Zd2 bs p) (Zd2 bs p / 64) % n
def Z2Y (bs:List Int) (xs:List Int) (p:Nat):Int:=xs.getD (ZP bs (xs.length:Int) p).toNat 0
def ofF (bs:List Int) (xs:List ByteArray) (p:Nat):ByteArray:=xs.getD (ZP bs (xs.length:Int) p).toNat ⟨#[]⟩
theorem Z1N.placeD {w:World} {a:Option Addr} {len:Nat} {bs:List Int} (h:Z1N w a len bs) {i:Nat} (hi:i<len) :
  ∃b off,a=some ⟨b,off,none⟩∧0≤bs.getD i 0∧bs.getD i 0<256∧w.cell? ⟨b,off+i,none⟩=some (.int .u8 (bs.getD i 0)):=by
 have hl:=h.length
 rcases h.row with h0|⟨b,off,rfl,hc⟩
 ·have:bs=[]:=by simpa using h0
  subst this;simp at hl;omega
 ·have hx:bs[i]? = some (bs[i]'(by omega)):=List.getElem?_eq_getElem _
  have hm:bs[i]'(by omega)∈bs:=List.getElem_mem _
  have hd:bs.getD i 0=bs[i]'(by omega):=by simp [List.getD,hx]
  rw [hd]
  exact⟨b,off,rfl,(h.byte _ hm).1,(h.byte _ hm).2,hc i _ (by rw [List.getElem?_map,hx];rfl)⟩
def Zcr (w0 w:World) (br:Nat) (a:Option Addr) (len cap:Nat) (bs:List Int) (p:Nat) (n:Int) (e:Ending) (w':World):Prop:=
 ∃v:Int,0≤v∧v<n∧e=.returned (.int .i64 v)∧Rd w0 w' br a len cap bs (p+1)∧w.grownBy w' (some br)∧ZP bs n p=v
def ZcJ (w0 w:World) (br:Nat) (a:Option Addr) (len cap:Nat) (bs:List Int) (p:Nat) (xs:List Int) (e:Ending) (w':World):Prop:=
 ∃x:Int,x∈xs∧e=.returned (.int .i64 x)∧Rd w0 w' br a len cap bs (p+1)∧w.grownBy w' (some br)∧Z2Y bs xs p=x
theorem Z01 (w0 w:World) (br:Nat) (a:Option Addr) (len cap:Nat) (bs:List Int) (p:Nat) (n:Int) (hrd:Rd w0 w br a len cap bs p) (hn:1≤n) (hlen:len≤2000) (hp:p≤1099511627776) :
  Calls Tryz.prog 10 #[.pointer (some ⟨br,0,none⟩),.int .i64 n] w fun e w'=>Zcr w0 w br a len cap bs p n e w':=by
 have hc0:w.cell? ⟨br,0,none⟩=some (.slice a len cap):=by rw [coR w br 0 _ _ _ hrd.blk];rfl
 have hc1:w.cell? ⟨br,1,none⟩=some (.int .i64 p):=by rw [coR w br 1 _ _ _ hrd.blk];rfl
 have hf1:w.frozen? ⟨br,1,none⟩=false:=frR w br 1 _ _ hrd.blk
 have hn0:decide (n<1)=false:=by simp;omega
 by_cases hl0:len=0
 ·subst hl0
  go_enter Tryz.func10,Tryz.ntmps10
  go_wp2
  go_ret
  exact⟨0,by omega,by omega,rfl,(Z2B hrd 0).1,(Z2B hrd 0).2,by have:=hrd.bytes.length;simp [ZP,this]⟩
 ·have hle:((len:Int)==0)=false:=by simp;omega
  by_cases hlt:p<len
  ·obtain⟨b,off,rfl,hx0,hx1,hcx⟩:=hrd.bytes.placeD hlt
   obtain⟨x,hx⟩:∃x,bs.getD p 0=x:=⟨_,rfl⟩
   rw [hx] at hx0 hx1 hcx
   have HF:=hdd (show ZP bs n p=x % n from by have:=hrd.bytes.length;rw [ZP,if_neg (by omega),if_pos (by omega),hx])
   clear hx
   have hb:b<w0.heap.size:=World.block_lt_of_cell? w0 _ hcx
   have hcx':∀v,(w.setCell ⟨br,1,none⟩ v).cell? ⟨b,off+p,none⟩=some (.int .u8 x):=fun v=>by
    rw [World.cell?_of_block (w:=w) (Below.heap_setCell _ _ _ _ (by have:=hrd.base;show b≠br;omega)),hrd.below.cell hb]
    exact hcx
   clear hcx
   go_enter Tryz.func10,Tryz.ntmps10
   go_wp2
   go_ret
   exact⟨_,Int.emod_nonneg _ (by omega),Int.emod_lt_of_pos _ (by omega),rfl,(Z2B hrd 0).1,(Z2B hrd 0).2,HF.out⟩
  ·have hle':decide ((p:Int)<(len:Int))=false:=by simp;omega
   have hq1:p % len<len:=Nat.mod_lt _ (by omega)
   have hq2:(p*7+3) % len<len:=Nat.mod_lt _ (by omega)
   have hd:p / len≤p:=Nat.div_le_self _ _
   have e1:(p:Int).tmod (len:Int)=((p % len:Nat):Int):=by rw [Int.tmod_eq_emod_of_nonneg (by omega),Int.natCast_emod]
   have e2:((p:Int)*7+3).tmod (len:Int)=(((p*7+3) % len:Nat):Int):=by rw [Int.tmod_eq_emod_of_nonneg (by omega)];simp
   have e3:(p:Int).tdiv (len:Int)=((p / len:Nat):Int):=by rw [Int.tdiv_eq_ediv_of_nonneg (by omega),Int.natCast_ediv]
   obtain⟨b,off,rfl,hx0,hx1,hcx⟩:=hrd.bytes.placeD hq1
   obtain⟨b',off',hab,hy0,hy1,hcy⟩:=hrd.bytes.placeD hq2
   obtain⟨x,hx⟩:∃x,bs.getD (p % len) 0=x:=⟨_,rfl⟩
   obtain⟨y,hy⟩:∃y,bs.getD ((p*7+3) % len) 0=y:=⟨_,rfl⟩
   have HF:=hdd (show ZP bs n p=bits .xor .i64 (x*131+y*1117+(p:Int)*29+((p / len:Nat):Int)*53) ((x*131+y*1117+(p:Int)*29+((p / len:Nat):Int)*53) / 64) % n from by
    have h:=hrd.bytes.length
    rw [ZP,if_neg (by omega),if_neg (by omega),Zd2,h,hx,hy])
   rw [hx] at hx0 hx1 hcx
   rw [hy] at hy0 hy1 hcy
   clear hx hy
   simp only [Option.some.injEq,Addr.mk.injEq,and_true] at hab
   obtain⟨rfl,rfl⟩:=hab
   have hb:b<w0.heap.size:=World.block_lt_of_cell? w0 _ hcx
   have hst:∀v i,(w.setCell ⟨br,1,none⟩ v).cell? ⟨b,i,none⟩=w0.cell? ⟨b,i,none⟩:=fun v i=>by
    rw [World.cell?_of_block (w:=w) (Below.heap_setCell _ _ _ _ (by have:=hrd.base;show b≠br;omega)),hrd.below.cell hb]
   have hcx':=fun v=>(hst v _).trans hcx
   have hcy':=fun v=>(hst v _).trans hcy
   clear hst hcx hcy
   generalize p % len=q1 at *
   generalize (p*7+3) % len=q2 at *
   generalize p / len=d at *
   have k0:IntKind.i64.wrap ((p:Int)*7)=(p:Int)*7:=IntWalk.i64_in _ (by omega)
   have k1:IntKind.i64.wrap ((p:Int)*7+3)=(p:Int)*7+3:=IntWalk.i64_in _ (by omega)
   have k2:IntKind.i64.wrap x=x:=IntWalk.i64_in _ (by omega)
   have k3:IntKind.i64.wrap y=y:=IntWalk.i64_in _ (by omega)
   have k4:IntKind.i64.wrap (x*131)=x*131:=IntWalk.i64_in _ (by omega)
   have k5:IntKind.i64.wrap (y*1117)=y*1117:=IntWalk.i64_in _ (by omega)
   have k6:IntKind.i64.wrap (x*131+y*1117)=x*131+y*1117:=IntWalk.i64_in _ (by omega)
   have k7:IntKind.i64.wrap ((p:Int)*29)=(p:Int)*29:=IntWalk.i64_in _ (by omega)
   have k8:IntKind.i64.wrap (x*131+y*1117+(p:Int)*29)=x*131+y*1117+(p:Int)*29:=IntWalk.i64_in _ (by omega)
   have k9:IntKind.i64.wrap ((d:Int)*53)=(d:Int)*53:=IntWalk.i64_in _ (by omega)
   have k10:IntKind.i64.wrap (x*131+y*1117+(p:Int)*29+(d:Int)*53)=x*131+y*1117+(p:Int)*29+(d:Int)*53:=IntWalk.i64_in _ (by omega)
   have k11:IntKind.i64.wrap (d:Int)=(d:Int):=IntWalk.i64_in _ (by omega)
   go_enter Tryz.func10,Tryz.ntmps10
   go_wp2
   go_quiet (fail)
   rename_i nq
   clear k0 k1 k2 k3 k4 k5 k6 k7 k8 k9 k10 k11 e1 e2 e3 hcx' hcy'
   obtain⟨X,hX⟩:∃X,x*131+y*1117+(p:Int)*29+(d:Int)*53=X:=⟨_,rfl⟩
   have hX0:0≤X:=by omega
   have hX1:X<4611686018427387904:=by omega
   rw [hX] at HF ⊢
   clear hX
   have hxor:=Z9g X (X / 64) hX0 hX1 (by omega) (by omega)
   go_wp2
   go_ret
   exact⟨_,Int.emod_nonneg _ (by omega),Int.emod_lt_of_pos _ (by omega),rfl,(Z2B hrd _).1,(Z2B hrd _).2,HF.out⟩
theorem Z1e (w0 w:World) (br:Nat) (a:Option Addr) (len cap:Nat) (bs:List Int) (p:Nat) (g n c:Nat) (xs:List Int) (hrd:Rd w0 w br a len cap bs p) (hin:Z2l w (some ⟨g,0,none⟩) n xs) (hg:g≠br)
  (hn:1≤n) (hlen:len≤2000) (hp:p≤1099511627776) :
  Calls Tryz.prog 33 #[.pointer (some ⟨br,0,none⟩),.slice (some ⟨g,0,none⟩) n c] w fun e w'=>ZcJ w0 w br a len cap bs p xs e w':=by
 go_enter Tryz.func33,Tryz.ntmps33
 go_wp2_with fail
 refine(Z01 w0 w br a len cap bs p n hrd (by omega) hlen hp).mono ?_
 rintro e w1 ⟨v,hv0,hv1,rfl,hrd1,hg1,hF⟩
 obtain⟨j,rfl⟩:=Int.eq_ofNat_of_zero_le hv0
 obtain⟨b,off,x,hab,hx,hc⟩:=hin.place (show j<n by omega)
 simp only [Option.some.injEq,Addr.mk.injEq,and_true] at hab
 obtain⟨rfl,rfl⟩:=hab
 have hc1:w1.cell? ⟨g,0+j,none⟩=some (.int .i64 x):=hg1.cell hc (by simpa using hg)
 rw [Nat.zero_add] at hc1
 have hjn:j<n:=by omega
 have HX:=hdd hx
 have HF:=hdd (show Z2Y bs xs p=x from by rw [Z2Y,show(xs.length:Int)=n by have:=hin.length;omega,hF];simp [List.getD,hx])
 clear hF
 clear hx hc hv0
 go_wp2
 go_ret
 exact⟨x,List.mem_of_getElem? HX.out,rfl,hrd1,hg1,HF.out⟩
end Go.Proofs.YtloooebabieeeaaGreatDoor
