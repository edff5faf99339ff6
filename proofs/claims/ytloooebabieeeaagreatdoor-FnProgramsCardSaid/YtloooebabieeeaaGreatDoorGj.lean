/-
  The reference draws programs, one in some bent (l3Bent): its walk.
-/
import Derived.Test.YtloooebabieeeaaGreatDoorCp
import Derived.Test.YtloooebabieeeaaGreatDoorCq
import Derived.Test.YtloooebabieeeaaGreatDoorGg
import Derived.Test.YtloooebabieeeaaGreatDoorVk
import Derived.Test.YtloooebabieeeaaGreatDoorHl
set_option maxRecDepth 100000
set_option maxHeartbeats 16000000
set_option linter.unusedVariables false
namespace Go.Proofs.YtloooebabieeeaaGreatDoor
open Go.RowKit
theorem Z9v (w:World) (g o:Nat) (v0 v1 v2:Value):w.setCells g o [v0,v1,v2]=((w.setCell ⟨g,o,none⟩ v0).setCell ⟨g,o+1,none⟩ v1).setCell ⟨g,o+2,none⟩ v2:=rfl
def Z8m (bs:List Int):Nat→Zb→Nat→Zb
 | 0,s,_=>s
 | k+1,s,p=>Z8m bs k (.mk (Z2Y bs [5,6] p) ⟨#[]⟩ s.args [s] []) (p+1)
theorem Z99 {bs:List Int} {k p:Nat} {s:Zb} {n:Int} (hk:0<k) (hn:Z2Y bs [5,6] p=n):Z8m bs k s p=Z8m bs (k-1) (.mk n ⟨#[]⟩ s.args [s] []) (p+1):=by
 obtain⟨j,rfl⟩:∃j,k=j+1:=⟨k-1,by omega⟩
 subst hn
 rfl
def Z80:Nat→List Zb→List Zb
 | 0,ys=>ys
 | k+1,ys=>Z80 k (ys++[.mk 3 ⟨#[]⟩ [.mk 1 ((k+1:Nat):Int) ⟨#[]⟩ []] [] []])
theorem Z9I {k:Nat} {ys:List Zb} (hk:0<k):Z80 k ys=Z80 (k-1) (ys++[.mk 3 ⟨#[]⟩ [.mk 1 (k:Int) ⟨#[]⟩ []] [] []]):=by
 obtain⟨j,rfl⟩:∃j,k=j+1:=⟨k-1,by omega⟩
 rfl
def Z6v (bs:List Int) (f:FnD) (v:Int) (p:Nat):FnD:=
 if v=0 then ⟨ofF bs [⟨#[102]⟩,⟨#[100,111]⟩,⟨#[]⟩,⟨#[103]⟩] p,f.params,f.body⟩
 else if v=1 then ⟨f.name,f.params++[ofF bs [⟨#[97]⟩,⟨#[120]⟩,⟨#[105,102]⟩] p],f.body⟩
 else if v=2 then ⟨f.name,f.params,f.body++[.mk 3 ⟨#[]⟩ [(Z2S bs p).1] [] []]⟩
 else if v=3 then ⟨f.name,f.params,f.body++[.mk (ZP bs 10 p) (ofF bs [⟨#[]⟩,⟨#[97]⟩,⟨#[122,122]⟩] (p+1)) [(Z7K bs 2 (p+1+1)).1] [] []]⟩
 else if v=4 then ⟨f.name,f.params,f.body++[Z8m bs (ZP bs 5 p).toNat (.mk 6 ⟨#[]⟩ [.mk 1 0 ⟨#[]⟩ []] [] []) (p+1)]⟩
 else if v=6 then ⟨f.name,f.params,Z80 (Z2Y bs [20,40,41] p).toNat f.body⟩
 else f
def Z3F (bs:List Int) (p:Nat):List FnD:=
 if ZP bs 32 (Z2M bs p).2=5 then []
 else if ZP bs 32 (Z2M bs p).2=7 then (Z2M bs p).1++[(Z2M bs p).1.getD 0 ⟨⟨#[]⟩,[],[]⟩]
 else (Z2M bs p).1.set ((Z2M bs p).1.length-1) (Z6v bs ((Z2M bs p).1.getD ((Z2M bs p).1.length-1) ⟨⟨#[]⟩,[],[]⟩) (ZP bs 32 (Z2M bs p).2) ((Z2M bs p).2+1))
theorem Z9Y {bs:List Int} {p q j P:Nat} {v:Int} {ps:List FnD} {f g:FnD} (hp:Z2M bs p=(ps,q)) (hv:ZP bs 32 q=v∧P=q+1) (hf:ps.getD (ps.length-1) ⟨⟨#[]⟩,[],[]⟩=f) (h:g=Z6v bs f v P∧v≠5∧v≠7) (hj:ps.length=j+1):Z3F bs p=ps.set j g:=by
 have hj1:ps.length-1=j:=by omega
 rw [hj1] at hf
 simp only [Z3F,hp,hv.1,if_neg h.2.1,if_neg h.2.2,hj1,hf,h.1,hv.2]
theorem Z8b {bs:List Int} {p q:Nat} {ps:List FnD} (hp:Z2M bs p=(ps,q)) (hv:ZP bs 32 q=5):Z3F bs p=[]:=by
 simp only [Z3F,hp,hv];rfl
theorem Z7g {bs:List Int} {p q:Nat} {ps:List FnD} {f:FnD} (hp:Z2M bs p=(ps,q)) (hv:ZP bs 32 q=7) (hf:ps[0]? = some f):Z3F bs p=ps++[f]:=by
 have hg:ps.getD 0 ⟨⟨#[]⟩,[],[]⟩=f:=by simp [List.getD,hf]
 simp only [Z3F,hp,hv,hg];rfl
def BQ (w:World) (rb pb fb:Nat):Nat→Prop:=fun k=>w.heap.size≤k∧k≠rb∧k≠pb∧k≠fb
section
variable {α : Type} {s n:Nat} {R:Z2u α} {e:TypeId} {w0 w W w5 w9:World} {br rb pb fb lo lo5:Nat} {a:Option Addr} {len cap:Nat} {bs:List Int} {u u':Nat} {pa:Option Addr} {pc:Nat} {ps:List FnD} {fpa:Option Addr} {fpc:Nat} {fba:Option Addr} {fbc:Nat} {f:FnD}
 {xs:List α} {x:α} {cells:List (List Value)} {cl:List Value} {a6 a9:Option Addr} {c6 c9:Nat}
theorem Zu.copied (hR:Z1g s R) (h:Zu w0 w br rb pb fb W.heap.size a len cap bs u pa pc ps fpa fpc fba fbc f W) (r2:cells.length=xs.length) (r3:∀cl∈cells,cl.length=s) (r4:∀(i:Nat) cl x,cells[i]? = some cl→xs[i]? = some x→R (BS w rb pb fb W.heap.size) W cl x)
  (hown:w9.ownsRow W.heap.size e s (.slice a9 xs.length c9) xs.length cells.flatten) (hg:(W.alloc (.cells #[] e)).grownBy w9 (Value.slice (some ⟨W.heap.size,0,none⟩) 0 0).ownBlock)
  (hl:(Value.slice a9 xs.length c9).ownBlock=(Value.slice (some ⟨W.heap.size,0,none⟩) 0 0).ownBlock∨(Value.slice a9 xs.length c9).ownBlock=some (W.alloc (.cells #[] e)).heap.size) :
  Zu w0 w br rb pb fb W.heap.size a len cap bs u pa pc ps fpa fpc fba fbc f w9∧ZM s R e (BQ w rb pb fb) W.heap.size w9 a9 xs.length c9 xs:=by
 have hba:Below W.heap.size W (W.alloc (.cells #[] e)):=(bRf _ _).alloc (Nat.le_refl _) _
 refine⟨(h.alloc (.cells #[] e)).own (Zi hg (S:=fun k=>(Value.slice (some ⟨W.heap.size,0,none⟩) 0 0).ownBlock=some k) (fun k hk=>hk)) (fun k _ hk=>by simp only [Value.ownBlock,Option.some.injEq] at hk;omega),?_⟩
 exact ZM.copied hR (Z0i W _ e s (Nat.le_refl _)) r2 r3 (fun i cl x h1 h2=>hR.below hba (r4 i cl x h1 h2)) (fun k hk=>⟨⟨hk.1,hk.2.2⟩,hk.2.1⟩) hown hg hl
theorem Zu.copiedPos {o:Obj} (h:Zu w0 w br rb pb fb W.heap.size a len cap bs u pa pc ps fpa fpc fba fbc f W) (hg:(W.alloc o).grownBy w9 (Value.slice (some ⟨W.heap.size,0,none⟩) 0 0).ownBlock):Z5 w9 br=Z5 W br:=by
 have hl:=h.lt
 have ht:=Zi hg (S:=fun k=>(Value.slice (some ⟨W.heap.size,0,none⟩) 0 0).ownBlock=some k) (fun k hk=>hk)
 rw [Z1u ht (by rw [World.size_alloc];omega) (fun e=>by simp only [Value.ownBlock,Option.some.injEq] at e;omega),Zo (by omega)]
theorem Zu.callG (hR:Z1g s R) (h:Zu w0 w br rb pb fb lo a len cap bs u pa pc ps fpa fpc fba fbc f W) (hk:ZM s R e (BQ w rb pb fb) lo W a6 n c6 xs) (ht:Zd br W w9) (hr:∃q,q≤u'∧Rd w0 w9 br a len cap bs q) :
  Zu w0 w br rb pb fb lo a len cap bs u' pa pc ps fpa fpc fba fbc f w9∧ZM s R e (BQ w rb pb fb) lo w9 a6 n c6 xs:=by
 have hl:=h.lt
 refine⟨h.call ht hr,hk.turned hR (T:=fun k=>k=br∨W.heap.size≤k) ht (fun k h1 h2=>?_) (fun k h0 h1 h2=>?_)⟩
 ·obtain⟨cells,k1,-⟩:=hk.row
  have:=k1.lt k h1
  omega
 ·have:=h1.1
  omega
theorem Zu.allocG (hR:Z1g s R) (o:Obj) (h:Zu w0 w br rb pb fb lo a len cap bs u pa pc ps fpa fpc fba fbc f W) (hk:ZM s R e (BQ w rb pb fb) lo W a6 n c6 xs) :
  Zu w0 w br rb pb fb lo a len cap bs u pa pc ps fpa fpc fba fbc f (W.alloc o)∧ZM s R e (BQ w rb pb fb) lo (W.alloc o) a6 n c6 xs:=
 ⟨h.alloc o,hk.below hR ((bRf _ _).alloc (Nat.le_refl _) _)⟩
theorem Zu.pushed (hR:Z1g s R) (h:Zu w0 w br rb pb fb lo a len cap bs u pa pc ps fpa fpc fba fbc f W) (hk:Z1Y s R e (BQ w rb pb fb) lo W a6 xs.length c6 xs cells) (hx:R (fun k=>lo5≤k) W cl x) (ho:∀k,(Value.slice a6 xs.length c6).ownBlock=some k→k<lo5) (h5:lo≤lo5)
  (hown:w9.ownsRow lo e s (.slice a9 (xs.length+1) c9) (xs.length+1) (cells.flatten++[cl].flatten)) (hg:W.grownBy w9 (Value.slice a6 xs.length c6).ownBlock)
  (hl:(Value.slice a9 (xs.length+1) c9).ownBlock=(Value.slice a6 xs.length c6).ownBlock∨(Value.slice a9 (xs.length+1) c9).ownBlock=some W.heap.size) :
  Zu w0 w br rb pb fb lo a len cap bs u pa pc ps fpa fpc fba fbc f w9∧Za s R (BQ w rb pb fb) w9 a9 (xs++[x]):=by
 have hlt:=h.lt
 refine⟨h.own (Zi hg (S:=fun k=>(Value.slice a6 xs.length c6).ownBlock=some k) (fun k hk=>hk)) (fun k _ h1=>(hk.1.lt k h1).1),?_⟩
 have hg9:=ZM.one hR hk (hR.mono (fun k _ h1=>by have h1:lo5≤k:=h1;exact⟨⟨by omega,by omega,by omega,by omega⟩,fun e=>by have:=ho k e;omega⟩) hx) hown hg hl
 exact(hg9.list hR).mono hR (fun k _ h1=>by
  rcases h1 with h1|h1
  ·exact h1
  ·exact⟨by omega,by omega,by omega,by omega⟩)
theorem Zu.two (hR:Z1g s R) (h:Zu w0 w br rb pb fb lo a len cap bs u pa pc ps fpa fpc fba fbc f W) (hk:ZM s R e (BQ w rb pb fb) lo W a6 n c6 xs) (o1 o2:Obj) :
  Zu w0 w br rb pb fb lo a len cap bs u pa pc ps fpa fpc fba fbc f ((W.alloc o1).alloc o2)∧ZM s R e (BQ w rb pb fb) lo ((W.alloc o1).alloc o2) a6 n c6 xs∧(∀k,(Value.slice a6 n c6).ownBlock=some k→k<W.heap.size):=by
 refine⟨(h.alloc o1).alloc o2,(hk.below hR ((bRf _ _).alloc (Nat.le_refl _) _)).below hR ((bRf _ _).alloc (Nat.le_refl _) _),fun k hk2=>?_⟩
 obtain⟨cells,k1,-⟩:=hk.row
 exact(k1.lt k hk2).2
theorem Zu.chained (hR:Z1g s R) (h:Zu w0 w br rb pb fb W.heap.size a len cap bs u pa pc ps fpa fpc fba fbc f W) {B D:Option Nat} (hc:Cat e s W cl (some (.slice a9 (xs.length+1) c9,xs.length+1,cells.flatten++[cl].flatten)) B D w9)
  (r2:cells.length=xs.length) (r3:∀cl∈cells,cl.length=s) (r4:∀(i:Nat) cl x,cells[i]? = some cl→xs[i]? = some x→R (BS w rb pb fb W.heap.size) W cl x) {F:Nat→Prop} (hx:R F W cl x) (hF:∀k,F k→BQ w rb pb fb k) :
  Zu w0 w br rb pb fb W.heap.size a len cap bs u pa pc ps fpa fpc fba fbc f w9∧Za s R (BQ w rb pb fb) w9 a9 (xs++[x]):=by
 obtain⟨h1,h2⟩:=hc.list _ _ _ rfl
 have hlt:=h.lt
 refine⟨h.later hc.below,?_⟩
 have h3:=Z7B hR (S:=BQ w rb pb fb) (cells:=cells++[cl]) (xs:=xs++[x]) (by simpa using h1) hc.below (by simp) (by simp [r2]) (fun c hc=>by
  rcases List.mem_append.1 hc with hc|hc
  ·exact r3 c hc
  ·rw [List.mem_singleton.1 hc];exact hR.len hx) (fun i c y k1 k2=>by
  by_cases hi:i<xs.length
  ·rw [List.getElem?_append_left (by omega)] at k1 k2
   exact hR.mono (fun k _ hk=>⟨hk.1,hk.2.2⟩) (r4 i c y k1 k2)
  ·rw [List.getElem?_append_right (by omega)] at k1 k2
   have hi0:i-xs.length=0:=by
    have:=(List.getElem?_eq_some_iff.1 k2).1
    simp at this;omega
   rw [r2,hi0] at k1
   rw [hi0] at k2
   cases k1;cases k2
   exact hR.mono (fun k _ hk=>hF k hk) hx)
 exact h3.mono hR (fun k _ hk=>by
  rcases hk with hk|hk
  ·exact hk
  ·have:=(h1.lt k hk).1
   exact⟨by omega,by omega,by omega,by omega⟩)
theorem Zu.ret {m c' p0:Nat} {a':Option Addr} {qs:List FnD} (h:Zu w0 w br rb pb fb lo a len cap bs u pa pc ps fpa fpc fba fbc f W) (hF:Z3F bs p0=qs) (hu:u≤m) (hl:Za 3 (FnP 20) (fun k=>w.heap.size≤k∧k≠rb) W a' qs) (h4:qs.length≤4) :
  ∃(pa:Option Addr) (pc:Nat) (ps:List FnD) (q:Nat),Ending.returned (.agg (List.toArray [.slice a' qs.length c']))=.returned (.agg (List.toArray [.slice pa ps.length pc]))∧ps.length≤4∧Za 3 (FnP 20) (fun k=>w.heap.size≤k) (W.setCell ⟨rb,0,none⟩ (.slice a' qs.length c')) pa ps∧q≤m∧Rd w0 (W.setCell ⟨rb,0,none⟩ (.slice a' qs.length c')) br a len cap bs q∧Zd br w (W.setCell ⟨rb,0,none⟩ (.slice a' qs.length c'))∧Z3F bs p0=ps:=by
 obtain⟨q,hq,hrd⟩:=h.rd
 have hlt:=h.lt
 have hts:=Z4 W rb 0 (.slice a' qs.length c')
 refine⟨a',c',qs,q,rfl,h4,(hl.turned (Z2 20) hts (fun k _ h=>h.2)).mono (Z2 20) (fun k _ h=>h.1),by omega,⟨hrd.bytes,hrd.below.trans (hts.below (B:=w0.heap.size) hrd.below.size (fun k hk=>by have hk:k=rb:=hk;omega)),hrd.base,(hts.block _ hrd.lt (fun e=>by have e:br=rb:=e;omega)).trans hrd.blk⟩,?_,hF⟩
 exact Ze.trans (S:=fun k=>k=br∨w.heap.size≤k) h.t (hts.mono (fun k hk=>.inr (by have hk:k=rb:=hk;omega)))
end
structure Z6d (w0 w:World) (br rb pb fb lo:Nat) (a:Option Addr) (len cap:Nat) (bs:List Int) (u:Nat) (pa:Option Addr) (pc:Nat) (ps:List FnD) (fpa:Option Addr) (fpc:Nat) (fba:Option Addr) (fbc:Nat) (f:FnD) (sb d:Nat) (cs:List Value) (s:Zb) (B:Option Nat) (W:World):Prop where
 bent:Zu w0 w br rb pb fb lo a len cap bs u pa pc ps fpa fpc fba fbc f W
 row:W.heap[sb]? = some (.cells cs.toArray 48 (0,0))
 lt:lo≤sb
 stmt:Zv d (fun k=>lo≤k∧k≠sb) W cs s
 blk:∀b,B=some b→W.heap[b]? = some (.cells cs.toArray 48 (0,0))∧lo≤b∧b≠sb
section
variable {w0 w W W':World} {br rb pb fb lo:Nat} {a:Option Addr} {len cap:Nat} {bs:List Int} {u u':Nat} {pa:Option Addr} {pc:Nat} {ps:List FnD} {fpa:Option Addr} {fpc:Nat} {fba:Option Addr} {fbc:Nat} {f:FnD} {sb d:Nat} {cs:List Value} {s:Zb} {B:Option Nat}
theorem Z6d.more (h:Z6d w0 w br rb pb fb lo a len cap bs u pa pc ps fpa fpc fba fbc f sb d cs s B W) (hu:u≤u'):Z6d w0 w br rb pb fb lo a len cap bs u' pa pc ps fpa fpc fba fbc f sb d cs s B W:=⟨h.bent.more hu,h.row,h.lt,h.stmt,h.blk⟩
theorem Z6d.call (h:Z6d w0 w br rb pb fb lo a len cap bs u pa pc ps fpa fpc fba fbc f sb d cs s B W) (ht:Zd br W W') (hr:∃q,q≤u'∧Rd w0 W' br a len cap bs q):Z6d w0 w br rb pb fb lo a len cap bs u' pa pc ps fpa fpc fba fbc f sb d cs s B W':=by
 have hl:=h.bent.lt
 have hlt:=h.lt
 refine⟨h.bent.call ht hr,(ht.block (gsI h.row).1 (by omega)).trans h.row,h.lt,(Z0 d).turned (T:=fun k=>k=br∨W.heap.size≤k) ht (fun k h1 h2 h3=>by omega) h.stmt,fun b hb=>?_⟩
 obtain⟨k1,k2,k3⟩:=h.blk b hb
 exact⟨(ht.block (gsI k1).1 (by omega)).trans k1,k2,k3⟩
theorem Z6d.later (h:Z6d w0 w br rb pb fb lo a len cap bs u pa pc ps fpa fpc fba fbc f sb d cs s B W) (hb:Below W.heap.size W W'):Z6d w0 w br rb pb fb lo a len cap bs u pa pc ps fpa fpc fba fbc f sb d cs s B W':=by
 obtain⟨q,hq,hrd⟩:=h.bent.rd
 exact h.call (Zd.below hb) ⟨q,hq,hrd.later' hb⟩
theorem Z6d.allocB (h:Z6d w0 w br rb pb fb lo a len cap bs u pa pc ps fpa fpc fba fbc f sb d cs s none W):Z6d w0 w br rb pb fb lo a len cap bs u pa pc ps fpa fpc fba fbc f sb d cs s (some W.heap.size) (W.alloc (.cells cs.toArray 48)):=by
 have h2:=h.later ((bRf _ _).alloc (Nat.le_refl _) (.cells cs.toArray 48))
 have h3:=(gsI h.row).1
 refine⟨h2.bent,h2.row,h2.lt,h2.stmt,?_⟩
 rintro b ⟨⟩
 exact⟨hAn W _,by have:=h.bent.lt;omega,by omega⟩
theorem Z6d.held {aa ba ea:Option Addr} {ac bc ec:Nat} (h:Z6d w0 w br rb pb fb lo a len cap bs u pa pc ps fpa fpc fba fbc f sb d [.int .i64 s.op,.string s.name,.slice aa s.args.length ac,.slice ba s.body.length bc,.slice ea s.els.length ec] s B W) :
  W.cell? ⟨sb,0,none⟩=some (.int .i64 s.op)∧W.cell? ⟨sb,1,none⟩=some (.string s.name)∧W.cell? ⟨sb,2,none⟩=some (.slice aa s.args.length ac)∧W.cell? ⟨sb,3,none⟩=some (.slice ba s.body.length bc)∧W.cell? ⟨sb,4,none⟩=some (.slice ea s.els.length ec):=
 ⟨coR _ _ 0 _ _ _ h.row,coR _ _ 1 _ _ _ h.row,coR _ _ 2 _ _ _ h.row,coR _ _ 3 _ _ _ h.row,coR _ _ 4 _ _ _ h.row⟩
theorem Z6d.store {aa ba ea:Option Addr} {ac bc ec bb:Nat} {n:Int} (h:Z6d w0 w br rb pb fb lo a len cap bs u pa pc ps fpa fpc fba fbc f sb d [.int .i64 s.op,.string s.name,.slice aa s.args.length ac,.slice ba s.body.length bc,.slice ea s.els.length ec] s (some bb) W) (hn:-9223372036854775808≤n∧n≤9223372036854775807) :
  Z6d w0 w br rb pb fb lo a len cap bs u pa pc ps fpa fpc fba fbc f sb (d+1) [.int .i64 n,.string ⟨#[]⟩,.slice aa s.args.length ac,.slice (some ⟨bb,0,none⟩) 1 1,.slice none 0 0] (.mk n ⟨#[]⟩ s.args [s] []) none (W.setCells sb 0 [.int .i64 n,.string ⟨#[]⟩,.slice aa s.args.length ac,.slice (some ⟨bb,0,none⟩) 1 1,.slice none 0 0]):=by
 obtain⟨k1,k2,k3⟩:=h.blk bb rfl
 have hl:=h.bent.lt
 have hlt:=h.lt
 have ht:=ZB (g:=sb) [.int .i64 n,.string ⟨#[]⟩,.slice aa s.args.length ac,.slice (some ⟨bb,0,none⟩) 1 1,.slice none 0 0] W 0
 have hs:=h.stmt
 refine⟨h.bent.own ht (fun k _ hk=>by have hk:k=sb:=hk;omega),?_,h.lt,?_,by rintro b ⟨⟩⟩
 ·have:=ZF (w:=W) (A:=[]) (B:=[.int .i64 s.op,.string s.name,.slice aa s.args.length ac,.slice ba s.body.length bc,.slice ea s.els.length ec]) (C:=[]) (vs:=[.int .i64 n,.string ⟨#[]⟩,.slice aa s.args.length ac,.slice (some ⟨bb,0,none⟩) 1 1,.slice none 0 0]) (o:=0) rfl (by simp) (by simpa using h.row)
  simpa using this
 ·have hone:Za 5 (Zv d) (fun k=>lo≤k∧k≠sb) W (some ⟨bb,0,none⟩) [s]:=Za.one (Z0 d) k1 ⟨k2,k3⟩ hs
  have hno:∀k:Nat,k<W.heap.size→(lo≤k∧k≠sb)→¬k=sb:=fun k _ h=>h.2
  match d,hs,hone with
  | d+1,hs,hone=>
   obtain⟨aa',ac',ba',bc',ea',ec',he,hb,hA,hB,hE⟩:=hs
   simp only [List.cons.injEq,Value.slice.injEq,and_true,true_and] at he
   obtain⟨⟨rfl,rfl⟩,-,-⟩:=he
   exact⟨aa,ac,some ⟨bb,0,none⟩,1,none,0,rfl,⟨Nat.zero_le _,hn.1,hn.2,hb.2.2.2.1,(by decide:(1:Nat)≤100),(by decide:(0:Nat)≤100)⟩,hA.turned (Z1 12) ht hno,hone.turned (Z0 (d+1)) ht hno,Za.nil _ _ _⟩
end
section
variable {w0:World} {br:Nat} {a:Option Addr} {len cap:Nat} {bs:List Int}
theorem Z5V (hlen:len≤2000) (p:Nat) (w:World) (h:Rd w0 w br a len cap bs p) (hp:p≤1300000) :
  Calls Tryz.prog 11 #[.pointer (some ⟨br,0,none⟩)] w fun e w'=>∃(pa:Option Addr) (pc:Nat) (ps:List FnD) (q:Nat),e=.returned (.agg (List.toArray [.slice pa ps.length pc]))∧ps.length≤4∧Za 3 (FnP 20) (fun k=>w.heap.size≤k) w' pa ps∧q≤p+640000∧Rd w0 w' br a len cap bs q∧Zd br w w'∧Z3F bs p=ps:=by
 have HP:=hdd hp
 have hba:Below w.heap.size w (w.alloc (.cells #[.slice none 0 0] 25)):=(bRf _ _).alloc (Nat.le_refl _) _
 have H1:=hdd (show Rd w0 (w.alloc (.cells #[.slice none 0 0] 25)) br a len cap bs p∧(w.alloc (.cells #[.slice none 0 0] 25)).heap[w.heap.size]? = some (.cells #[.slice none 0 0] 25 (0,0))∧(w.alloc (.cells #[.slice none 0 0] 25)).heap.size=w.heap.size+1∧Zd br w (w.alloc (.cells #[.slice none 0 0] 25))∧br<w.heap.size∧w0.heap.size≤w.heap.size from
  ⟨h.later' hba,hAn w _,World.size_alloc w _,Zd.below hba,h.lt,h.below.size⟩)
 clear hp h hba
 go_enter Tryz.func11,Tryz.ntmps11
 go_upto_region 1 with fail
 obtain⟨rb,hrb⟩:∃n,n=w.heap.size:=⟨_,rfl⟩
 have HL:=hdd (aI H1.out.2.2.2.2.1 H1.out.2.2.2.2.2)
 generalize w.alloc (.cells #[.slice none 0 0] 25)=w1 at H1 ⊢
 rw [← hrb] at H1 ⊢
 have HRB:=hdd hrb
 clear hrb
 go_wp2_with fail
 refine(Z5S hlen p (p+620000) w1 H1.out.1 (Nat.le_refl _) (by have:=HP.out;omega)).mono ?_
 rintro e w2 ⟨pa,pc,ps,q,rfl,hl1,hl3,hok,hx,hq,hrd,ht,hpf⟩
 have HPF:=hdd hpf
 have hba:Below w2.heap.size w2 (w2.alloc (.cells #[.slice pa ps.length pc] 25)):=(bRf _ _).alloc (Nat.le_refl _) _
 have H3:=hdd (show Rd w0 (w2.alloc (.cells #[.slice pa ps.length pc] 25)) br a len cap bs q∧Zd br w (w2.alloc (.cells #[.slice pa ps.length pc] 25))∧(w2.alloc (.cells #[.slice pa ps.length pc] 25)).heap[rb]? = some (.cells #[.slice none 0 0] 25 (0,0))∧(w2.alloc (.cells #[.slice pa ps.length pc] 25)).heap[w2.heap.size]? = some (.cells #[.slice pa ps.length pc] 25 (0,0))∧
   Za 3 (FnP 20) (fun k=>w.heap.size<k∧k<w2.heap.size) (w2.alloc (.cells #[.slice pa ps.length pc] 25)) pa ps∧rb=w.heap.size∧rb<w2.heap.size∧(w2.alloc (.cells #[.slice pa ps.length pc] 25)).heap.size=w2.heap.size+1 from by
  have hs2:w1.heap.size≤w2.heap.size:=Ze.size (S:=fun k=>k=br∨w1.heap.size≤k) ht
  have hr:=H1.out.2.2.1
  have hrb:=HRB.out
  have hl9:=HL.out.1
  exact⟨hrd.later' hba,(H1.out.2.2.2.1.trans ht).trans (Zd.below hba),(hba.block rb (by omega)).trans ((ht.block (by omega) (by omega)).trans H1.out.2.1),hAn w2 _,((hx.here (Z2 20)).mono (Z2 20) (fun k _ h=>⟨by have:=h.1;omega,h.2⟩)).below (Z2 20) hba,hrb,by omega,World.size_alloc w2 _⟩)
 have HPS:=hdd (aI hok (aI hl1 (aI hl3 hq)))
 have HQ3:=hdd (show Z5 (w2.alloc (.cells #[.slice pa ps.length pc] 25)) br=q from by rw [Zo hrd.lt,hrd.pos])
 clear hpf hba hok hl1 hl3 hq hx hrd ht H1 HRB
 go_upto_region 2 with fail
 obtain⟨pb,hpb⟩:∃n,n=w2.heap.size:=⟨_,rfl⟩
 generalize w2.alloc (.cells #[.slice pa ps.length pc] 25)=w3 at H3 HQ3 ⊢
 rw [← hpb] at H3 ⊢
 clear hpb
 obtain⟨j,hj⟩:∃j,ps.length=j+1:=⟨ps.length-1,by have:=HPS.out.2.1;omega⟩
 obtain⟨b,off,f,fpa,fpc,fba,fbc,rfl,hf,hF,c0,c1,c2⟩:=Z1q H3.out.2.2.2.2.1 (show j<ps.length by omega)
 have t0:=coR _ _ 0 _ _ _ H3.out.2.2.2.1
 simp only [ga0,ga1] at t0
 obtain⟨L,hL⟩:∃L,L=ps.length:=⟨_,rfl⟩
 rw [← hL] at t0
 have hqw:wrap64 ((L:Int)-1)=(j:Int):=by rw [IntWalk.wrap64_in _ (by have:=HPS.out;omega)];omega
 have hq0:(0:Int)≤(j:Int):=by omega
 have hq1:(j:Int)<(L:Int):=by omega
 have hq2:j<L:=by omega
 have hFL:=Z9D HPS.out.1 (List.mem_of_getElem? hf)
 have HB:=hdd (show Zu w0 w br rb pb w3.heap.size (w3.alloc (.cells #[.string f.name,.slice fpa f.params.length fpc,.slice fba f.body.length fbc] 42)).heap.size a len cap bs (p+620000) (some ⟨b,off,none⟩) pc ps fpa fpc fba fbc f (w3.alloc (.cells #[.string f.name,.slice fpa f.params.length fpc,.slice fba f.body.length fbc] 42))∧f.params.length≤3∧f.body.length≤40∧ps.length≤3∧1≤ps.length from by
  have hba:Below w3.heap.size w3 (w3.alloc (.cells #[.string f.name,.slice fpa f.params.length fpc,.slice fba f.body.length fbc] 42)):=(bRf _ _).alloc (Nat.le_refl _) _
  have hsz:(w3.alloc (.cells #[.string f.name,.slice fpa f.params.length fpc,.slice fba f.body.length fbc] 42)).heap.size=w3.heap.size+1:=World.size_alloc w3 _
  have hrb:=H3.out.2.2.2.2.2.1
  have hrb2:=H3.out.2.2.2.2.2.2.1
  have hs3:=H3.out.2.2.2.2.2.2.2
  have hpb:pb<w3.heap.size:=by omega
  have hm:∀k:Nat,k<w3.heap.size→(w.heap.size<k∧k<pb)→BS w rb pb w3.heap.size (w3.alloc (.cells #[.string f.name,.slice fpa f.params.length fpc,.slice fba f.body.length fbc] 42)).heap.size k:=fun k h1 h2=>⟨by omega,by omega,by omega,by omega,by omega⟩
  obtain⟨fpa',fpc',fba',fbc',he,hbd,hPa,hBd⟩:=hF
  cases he
  exact⟨⟨⟨q,HPS.out.2.2.2,H3.out.1.later' hba⟩,H3.out.2.1.trans (Zd.below hba),⟨HL.out.1,HL.out.2,by omega,by omega,by omega,by omega,by omega,by omega,by omega,by omega,by omega,Nat.le_refl _⟩,(hba.block rb (by omega)).trans H3.out.2.2.1,(hba.block pb hpb).trans H3.out.2.2.2.1,hAn w3 _,
   (H3.out.2.2.2.2.1.mono (Z2 20) hm).below (Z2 20) hba,(hPa.mono Z3 hm).below Z3 hba,(hBd.mono (Z0 20) hm).below (Z0 20) hba,hbd.1⟩,hFL.1,hFL.2,HPS.out.2.2.1,HPS.out.2.1⟩)
 have HJ:=hdd hj
 have HFJ:=hdd (show ps.getD (ps.length-1) ⟨⟨#[]⟩,[],[]⟩=f from by rw [show ps.length-1=j from by omega];simp [List.getD,hf])
 have HQ4:=hdd (show Z5 (w3.alloc (.cells #[.string f.name,.slice fpa f.params.length fpc,.slice fba f.body.length fbc] 42)) br=q from by rw [Zo H3.out.1.lt,HQ3.out])
 clear hF hf hFL HL H3 hj hL HQ3
 go_upto_region 3 with fail
 clear t0 c0 c1 c2 hqw hq0 hq1 hq2
 obtain⟨fb,hfb⟩:∃n,n=w3.heap.size:=⟨_,rfl⟩
 generalize w3.alloc (.cells #[.string f.name,.slice fpa f.params.length fpc,.slice fba f.body.length fbc] 42)=w4 at HB HQ4 ⊢
 rw [← hfb] at HB ⊢
 clear hfb
 obtain⟨q4,hq4,hrd4⟩:=HB.out.1.rd
 go_wp2_with fail
 refine(Z01 w0 _ br a len cap bs q4 32 hrd4 (by omega) hlen (by have:=HP.out;omega)).mono ?_
 rintro e w5 ⟨v,_,_,rfl,hrd5,hg5,hF5⟩
 have HVF:=hdd (show ZP bs 32 q=v∧Z5 w5 br=q+1 from by
  have e1:=hrd4.pos
  rw [HQ4.out] at e1
  rw [hrd5.pos,e1]
  exact⟨hF5,rfl⟩)
 have HB5:=hdd (show Zu w0 w br rb pb fb w5.heap.size a len cap bs (p+620001) (some ⟨b,off,none⟩) pc ps fpa fpc fba fbc f w5∧f.params.length≤3∧f.body.length≤40 from⟨(HB.out.1.call (Zd.grown hg5) ⟨_,by omega,hrd5⟩).up,HB.out.2.1,HB.out.2.2.1⟩)
 have HPL:=hdd HB.out.2.2.2
 clear hF5 hrd4 hrd5 hg5 hq4 HB HPS HJ HQ4
 go_upto_block 0 with fail
 go_cut [7] (fun _ wx=>∃(lo:Nat) (gpa gba:Option Addr) (gpc gbc:Nat) (g:FnD),Hid (Zu w0 w br rb pb fb lo a len cap bs (p+640000) (some ⟨b,off,none⟩) pc ps gpa gpc gba gbc g wx∧g.params.length≤100∧g.body.length≤100∧g=Z6v bs f v (Z5 w5 br)∧v≠5∧v≠7))
 case first=>
  have HBX:=hdd (show p+620001≤1990000 from by have:=HP.out;omega)
  have k0:=coR _ _ 0 _ _ _ HB5.out.1.frow
  have k1:=coR _ _ 1 _ _ _ HB5.out.1.frow
  have k2:=coR _ _ 2 _ _ _ HB5.out.1.frow
  simp only [ga0,ga1,ga2] at k0 k1 k2
  have HK:=hdd (aI k0 (aI k1 k2))
  have hba:∀o,Below w5.heap.size w5 (w5.alloc o):=fun o=>(bRf _ _).alloc (Nat.le_refl _) _
  have HBA:=hdd hba
  clear k0 k1 k2 hba
  obtain⟨q5,hq5,hrd5⟩:=HB5.out.1.rd
  have HR5:=hdd (aI hq5 hrd5)
  clear hq5 hrd5
  by_cases h0:v=0
  ·subst h0
   go_wp2_with fail
   refine(Z4u w0 _ br a len cap bs q5 (some ⟨w5.heap.size,0,none⟩) 4 4 [⟨#[102]⟩,⟨#[100,111]⟩,⟨#[]⟩,⟨#[103]⟩] (HR5.out.2.later' (HBA.out _)) (Z2f.lit w5 [⟨#[102]⟩,⟨#[100,111]⟩,⟨#[]⟩,⟨#[103]⟩] HR5.out.2.lt) (by omega) hlen (by have:=HR5.out.1;have:=HBX.out;omega)).mono ?_
   rintro e w6 ⟨nm,hnm,rfl,hrd6,hg6,hF6⟩
   have HF6:=hdd hF6
   clear hF6
   have HN:=hdd (show nm.size≤maxLen from(by decide:∀s∈([⟨#[102]⟩,⟨#[100,111]⟩,⟨#[]⟩,⟨#[103]⟩]:List ByteArray),s.size≤maxLen) nm hnm)
   have HB6:=hdd ((HB5.out.1.alloc (.cells ([⟨#[102]⟩,⟨#[100,111]⟩,⟨#[]⟩,⟨#[103]⟩].map Value.string).toArray 9)).call (u':=p+620002) (Zd.grown hg6) ⟨_,by have:=HR5.out.1;omega,hrd6⟩)
   have k0:=coR _ _ 0 _ _ _ HB6.out.frow
   have y0:=frR _ _ 0 _ _ HB6.out.frow
   simp only [ga0,ga1] at k0
   clear hnm hrd6 hg6
   go_wp2_with fail
   go_meet
   exact⟨_,_,_,_,_,_,hdd ⟨(HB6.out.setName HN.out).more (by omega),by have:=HB5.out.2.1;show f.params.length≤100;omega,by have:=HB5.out.2.2;show f.body.length≤100;omega,by rw [HR5.out.2.pos,← HF6.out];rfl,by decide,by decide⟩⟩
  have e0:(v==0)=false:=by simpa using h0
  clear h0
  by_cases h1:v=1
  ·subst h1
   clear e0
   obtain⟨cells,r1,r2,r3,r4⟩:=HB5.out.1.params.rows
   have HR4:=hdd (aI r1 (aI r2 (aI r3 r4)))
   have HONE:=hdd (show ∀cl∈cells,∀u∈cl,u.oneCell'=true from fun cl hcl u hu=>by
    obtain⟨i,hi,he⟩:=List.getElem_of_mem hcl
    have:=(r4 i cl _ (by rw [List.getElem?_eq_getElem hi,he]) (List.getElem?_eq_getElem (by omega))).1
    rw [this] at hu
    rw [List.mem_singleton.1 hu];rfl)
   clear r1 r2 r3 r4
   have k1:=clT (HBA.out (.cells #[] 9)) HK.out.2.1
   go_wp2_with (at_builtin;refine Z8F rfl (.tmp 29) (.tmp 31) rfl w5.heap.size _ 0 [] rfl (Z0i _ _ _ _ (Nat.le_refl _)) _ f.params.length fpc cells rfl (HR4.out.1.later (HBA.out _)) HR4.out.2.1 HR4.out.2.2.1 HONE.out (by have:=HB5.out.2.1;omega) (HBA.out _).size ?_;intro a6 c6 w6 hown6 hg6 hlies6;(simp only [Nat.zero_add,List.nil_append] at hown6 hlies6 ⊢);(have HG6:=hdd (HB5.out.1.copied Z3 HR4.out.2.1 HR4.out.2.2.1 HR4.out.2.2.2 hown6 hg6 hlies6));(have HP6:=hdd (HB5.out.1.copiedPos hg6));clear hown6 hg6 hlies6 k1)
   obtain⟨q6,hq6,hrd6⟩:=HG6.out.1.rd
   have HR6:=hdd (aI hq6 hrd6)
   clear hq6 hrd6
   refine(Z4u w0 _ br a len cap bs q6 (some ⟨w6.heap.size,0,none⟩) 3 3 [⟨#[97]⟩,⟨#[120]⟩,⟨#[105,102]⟩] (HR6.out.2.later' ((bRf _ _).alloc (Nat.le_refl _) _)) (Z2f.lit w6 [⟨#[97]⟩,⟨#[120]⟩,⟨#[105,102]⟩] HR6.out.2.lt) (by omega) hlen (by have:=HR6.out.1;have:=HBX.out;omega)).mono ?_
   rintro e w7 ⟨nm,hnm,rfl,hrd7,hg7,hF7⟩
   have HF7:=hdd (show ofF bs [⟨#[97]⟩,⟨#[120]⟩,⟨#[105,102]⟩] (Z5 w5 br)=nm from by rw [← HP6.out,HR6.out.2.pos];exact hF7)
   clear hF7
   have HN:=hdd (show nm.size≤maxLen from(by decide:∀s∈([⟨#[97]⟩,⟨#[120]⟩,⟨#[105,102]⟩]:List ByteArray),s.size≤maxLen) nm hnm)
   have HG7:=hdd (Zu.allocG Z3 (.cells #[.string nm] 9) (Zu.callG (u':=p+620003) Z3 (Zu.allocG Z3 (.cells ([⟨#[97]⟩,⟨#[120]⟩,⟨#[105,102]⟩].map Value.string).toArray 9) HG6.out.1 HG6.out.2).1 (Zu.allocG Z3 (.cells ([⟨#[97]⟩,⟨#[120]⟩,⟨#[105,102]⟩].map Value.string).toArray 9) HG6.out.1 HG6.out.2).2 (Zd.grown hg7) ⟨_,by have:=HR6.out.1;omega,hrd7⟩).1 (Zu.callG (u':=p+620003) Z3 (Zu.allocG Z3 (.cells ([⟨#[97]⟩,⟨#[120]⟩,⟨#[105,102]⟩].map Value.string).toArray 9) HG6.out.1 HG6.out.2).1 (Zu.allocG Z3 (.cells ([⟨#[97]⟩,⟨#[120]⟩,⟨#[105,102]⟩].map Value.string).toArray 9) HG6.out.1 HG6.out.2).2 (Zd.grown hg7) ⟨_,by have:=HR6.out.1;omega,hrd7⟩).2)
   obtain⟨cells7,hrows7⟩:=HG7.out.2.rows
   have HRW7:=hdd hrows7
   have HSZ7:=hdd (show w5.heap.size≤w7.heap.size∧(∀k,(Value.slice a6 f.params.length c6).ownBlock=some k→k<w7.heap.size) from by
    have h1:=HG6.out.1.lt
    have h2:w6.heap.size≤(w6.alloc (.cells ([⟨#[97]⟩,⟨#[120]⟩,⟨#[105,102]⟩].map Value.string).toArray 9)).heap.size:=by rw [World.size_alloc];omega
    have h3:(w6.alloc (.cells ([⟨#[97]⟩,⟨#[120]⟩,⟨#[105,102]⟩].map Value.string).toArray 9)).heap.size≤w7.heap.size:=hg7.size
    obtain⟨cells6,k6,-⟩:=HG6.out.2.row
    exact⟨by omega,fun k hk=>by have:=(k6.lt k hk).2;omega⟩)
   clear hnm hrd7 hg7 hrows7
   go_wp2_with (at_builtin;refine Z8F rfl (.tmp 32) (.tmp 36) rfl w5.heap.size _ f.params.length _ rfl HRW7.out.1 _ 1 1 [[.string nm]] rfl (Z51 (hAn w7 _)) rfl (by intro cl hcl;rw [List.mem_singleton.1 hcl];rfl) (by intro cl hcl u hu;rw [List.mem_singleton.1 hcl] at hu;rw [List.mem_singleton.1 hu];rfl) (by have:=HB5.out.2.1;omega) HG7.out.1.lt.2.2.2.2.2.2.2.2.2.2.2 ?_;intro a9 c9 w9 hown9 hg9 hlies9;(have HG9:=hdd (HG7.out.1.pushed Z3 (lo5:=w7.heap.size) (x:=nm) HRW7.out ⟨rfl,HN.out⟩ HSZ7.out.2 HSZ7.out.1 hown9 hg9 hlies9));clear hown9 hg9 hlies9;(have k9:=coR _ _ 1 _ _ _ HG9.out.1.frow);(have y9:=frR _ _ 1 _ _ HG9.out.1.frow))
   go_meet
   exact⟨_,_,_,_,_,_,hdd ⟨(HG9.out.1.setParams HG9.out.2 (by simp)).more (by omega),by have:=HB5.out.2.1;show(f.params++[nm]).length≤100;simp;omega,by have:=HB5.out.2.2;show f.body.length≤100;omega,by rw [← HF7.out];rfl,by decide,by decide⟩⟩
  have e1:(v==1)=false:=by simpa using h1
  clear h1
  by_cases h2:v=2
  ·subst h2
   clear e0 e1
   obtain⟨cells0,r1,r2,r3,r4⟩:=HB5.out.1.body.rows
   have HROW0:=hdd r1
   have HC0N:=hdd r2
   have HCL0:=hdd r3
   have HEL0:=hdd r4
   have HONE0:=hdd (show ∀cl∈cells0,∀u∈cl,u.oneCell'=true from fun cl hcl=>by
    obtain⟨i,hi,he⟩:=List.getElem_of_mem hcl
    exact Z0a (r4 i cl _ (by rw [List.getElem?_eq_getElem hi,he]) (List.getElem?_eq_getElem (by omega))))
   clear r1 r2 r3 r4
   have k2:=clT ((bRf w5.heap.size w5).alloc (Nat.le_refl _) (.cells #[] 48)) HK.out.2.2
   go_wp2_with (at_builtin;refine Z2J rfl (.tmp 41) (.tmp 43) rfl w5.heap.size _ 0 [] rfl (Z0i _ _ _ _ (Nat.le_refl _)) _ f.body.length _ cells0 rfl (HROW0.out.later ((bRf _ _).alloc (Nat.le_refl _) _)) HC0N.out HCL0.out HONE0.out (by have:=HB5.out.2.2;omega) ((bRf w5.heap.size w5).alloc (Nat.le_refl _) _).size ?_;intro a6 c6 w6 hown6 hg6 hlies6;(simp only [Nat.zero_add,List.nil_append] at hown6 hlies6 ⊢);(have HG6:=hdd (HB5.out.1.copied (Z0 20) HC0N.out HCL0.out HEL0.out hown6 hg6 hlies6));(have HP6:=hdd (HB5.out.1.copiedPos hg6));clear hown6 hg6 hlies6 k2)
   obtain⟨q6,hq6,hrd6⟩:=HG6.out.1.rd
   have HR6:=hdd (aI hq6 hrd6)
   clear hq6 hrd6
   refine(Z9F w0 w6 br a len cap bs hlen q6 HR6.out.2 (by have:=HR6.out.1;have:=HBX.out;omega)).mono ?_
   rintro e w7 ⟨cs7,y,q7,rfl,hrd7,hq7,ht7,hy7,hlg7,-,hF7⟩
   have HF7:=hdd (show(Z2S bs (Z5 w5 br)).1=y from by rw [← HP6.out,HR6.out.2.pos,hF7])
   clear hF7
   obtain⟨ya,yc,rfl⟩:=Zj hy7
   have HG7B:=hdd (Zu.callG (u':=p+622001) (Z0 20) HG6.out.1 HG6.out.2 ht7 ⟨q7,(by have:=HR6.out.1;omega),hrd7⟩)
   have HOWN:=hdd (show ∀k,(Value.slice a6 f.body.length c6).ownBlock=some k→k<w6.heap.size from(fun k hk=>by obtain⟨cells6,k6,-⟩:=HG6.out.2.row;exact(k6.lt k hk).2))
   have HST:=hdd (show Zv 20 (fun k=>w6.heap.size≤k) (w7.alloc (.cells #[.int .i64 y.op,.int .i64 y.n,.string y.name,.slice ya y.kids.length yc] 64)) [.int .i64 3,.string ⟨#[]⟩,.slice (some ⟨w7.heap.size,0,none⟩) 1 1,.slice none 0 0,.slice none 0 0] (.mk 3 ⟨#[]⟩ [y] [] []) from by
    have h1:=Z1W (w:=w7) (S:=fun k=>w6.heap.size≤k) ⟨hy7,hlg7⟩
    have h2:=Z2A (c:=1) h1 (by simp) 3 ⟨#[]⟩ (by decide) (Nat.zero_le _)
    have h3:w6.heap.size≤w7.heap.size:=Ze.size (S:=fun k=>k=br∨w6.heap.size≤k) ht7
    exact Z1O (by omega:1≤20) ((Z0 1).mono (fun k _ h=>by rcases h with h|h;exact h;exact Nat.le_trans h3 h) h2))
   have HG9A:=hdd (HG7B.out.1.two (Z0 20) HG7B.out.2 (.cells #[.int .i64 y.op,.int .i64 y.n,.string y.name,.slice ya y.kids.length yc] 64) (.cells #[.int .i64 3,.string ⟨#[]⟩,.slice (some ⟨w7.heap.size,0,none⟩) 1 1,.slice none 0 0,.slice none 0 0] 48))
   obtain⟨cells7,hrows7⟩:=HG9A.out.2.1.rows
   have HRW7:=hdd hrows7
   have HL6:=hdd (show w5.heap.size≤w6.heap.size from HG6.out.1.lt.2.2.2.2.2.2.2.2.2.2.2)
   clear hrd7 hq7 ht7 hy7 hlg7 hrows7
   go_wp2_with (at_builtin;refine Z2J rfl (.tmp 44) (.tmp 49) rfl w5.heap.size _ f.body.length _ rfl HRW7.out.1 _ 1 1 [[.int .i64 3,.string ⟨#[]⟩,.slice (some ⟨w7.heap.size,0,none⟩) 1 1,.slice none 0 0,.slice none 0 0]] rfl (Z3T _ _ _) rfl (by intro cl hcl;rw [List.mem_singleton.1 hcl];rfl) (by intro cl hcl;rw [List.mem_singleton.1 hcl];exact Z0a HST.out) (by have:=HB5.out.2.2;omega) HG9A.out.1.lt.2.2.2.2.2.2.2.2.2.2.2 ?_;intro a9 c9 w9 hown9 hg9 hlies9;(have HG9:=hdd (HG9A.out.1.pushed (Z0 20) (lo5:=w6.heap.size) (x:=.mk 3 ⟨#[]⟩ [y] [] []) HRW7.out ((Z0 20).below ((bRf _ _).alloc (Nat.le_refl _) _) HST.out) HOWN.out HL6.out hown9 hg9 hlies9));clear hown9 hg9 hlies9;(have k9:=coR _ _ 2 _ _ _ HG9.out.1.frow);(have y9:=frR _ _ 2 _ _ HG9.out.1.frow))
   go_meet
   exact⟨_,_,_,_,_,_,hdd ⟨(HG9.out.1.setBody HG9.out.2 (by simp)).more (by omega),by have:=HB5.out.2.1;show f.params.length≤100;omega,by have:=HB5.out.2.2;show(f.body++[Zb.mk 3 ⟨#[]⟩ [y] [] []]).length≤100;simp;omega,by rw [← HF7.out];rfl,by decide,by decide⟩⟩
  have e2:(v==2)=false:=by simpa using h2
  clear h2
  by_cases h3:v=3
  ·subst h3
   clear e0 e1 e2
   obtain⟨cells0,r1,r2,r3,r4⟩:=HB5.out.1.body.rows
   have HROW0:=hdd r1
   have HC0N:=hdd r2
   have HCL0:=hdd r3
   have HEL0:=hdd r4
   have HONE0:=hdd (show ∀cl∈cells0,∀u∈cl,u.oneCell'=true from fun cl hcl=>by
    obtain⟨i,hi,he⟩:=List.getElem_of_mem hcl
    exact Z0a (r4 i cl _ (by rw [List.getElem?_eq_getElem hi,he]) (List.getElem?_eq_getElem (by omega))))
   clear r1 r2 r3 r4
   have k2:=clT ((bRf w5.heap.size w5).alloc (Nat.le_refl _) (.cells #[] 48)) HK.out.2.2
   go_wp2_with (at_builtin;refine Z2J rfl (.tmp 54) (.tmp 56) rfl w5.heap.size _ 0 [] rfl (Z0i _ _ _ _ (Nat.le_refl _)) _ f.body.length _ cells0 rfl (HROW0.out.later ((bRf _ _).alloc (Nat.le_refl _) _)) HC0N.out HCL0.out HONE0.out (by have:=HB5.out.2.2;omega) ((bRf w5.heap.size w5).alloc (Nat.le_refl _) _).size ?_;intro a6 c6 w6 hown6 hg6 hlies6;(simp only [Nat.zero_add,List.nil_append] at hown6 hlies6 ⊢);(have HG6:=hdd (HB5.out.1.copied (Z0 20) HC0N.out HCL0.out HEL0.out hown6 hg6 hlies6));(have HP6:=hdd (HB5.out.1.copiedPos hg6));clear hown6 hg6 hlies6 k2)
   obtain⟨q6,hq6,hrd6⟩:=HG6.out.1.rd
   have HR6:=hdd (aI hq6 hrd6)
   clear hq6 hrd6
   refine(Z01 w0 w6 br a len cap bs q6 10 HR6.out.2 (by omega) hlen (by have:=HR6.out.1;have:=HBX.out;omega)).mono ?_
   rintro e w7 ⟨n7,hn70,hn71,rfl,hrd7,hg7,hF7⟩
   have HF7:=hdd hF7
   clear hF7
   have HN7:=hdd (aI hn70 hn71)
   have HG7:=hdd (Zu.callG (u':=p+620002) (Z0 20) HG6.out.1 HG6.out.2 (Zd.grown hg7) ⟨_,by have:=HR6.out.1;omega,hrd7⟩)
   have HR7:=hdd hrd7
   have HSZ7:=hdd (show w6.heap.size≤w7.heap.size from hg7.size)
   clear hn70 hn71 hrd7 hg7
   go_wp2_with fail
   refine(Z4u w0 _ br a len cap bs (q6+1) (some ⟨w7.heap.size,0,none⟩) 3 3 [⟨#[]⟩,⟨#[97]⟩,⟨#[122,122]⟩] (HR7.out.later' ((bRf _ _).alloc (Nat.le_refl _) _)) (Z2f.lit w7 [⟨#[]⟩,⟨#[97]⟩,⟨#[122,122]⟩] HR7.out.lt) (by omega) hlen (by have:=HR6.out.1;have:=HBX.out;omega)).mono ?_
   rintro e w8 ⟨nm,hnm,rfl,hrd8,hg8,hF8⟩
   have HF8:=hdd hF8
   clear hF8
   have HN:=hdd (show nm.size≤maxLen from(by decide:∀s∈([⟨#[]⟩,⟨#[97]⟩,⟨#[122,122]⟩]:List ByteArray),s.size≤maxLen) nm hnm)
   have HG8:=hdd (Zu.callG (u':=p+620003) (Z0 20) (Zu.allocG (Z0 20) (.cells ([⟨#[]⟩,⟨#[97]⟩,⟨#[122,122]⟩].map Value.string).toArray 9) HG7.out.1 HG7.out.2).1 (Zu.allocG (Z0 20) (.cells ([⟨#[]⟩,⟨#[97]⟩,⟨#[122,122]⟩].map Value.string).toArray 9) HG7.out.1 HG7.out.2).2 (Zd.grown hg8) ⟨_,by have:=HR6.out.1;omega,hrd8⟩)
   have HR8:=hdd hrd8
   have HSZ8:=hdd (show w6.heap.size≤w8.heap.size from by
    have h1:(w7.alloc (.cells ([⟨#[]⟩,⟨#[97]⟩,⟨#[122,122]⟩].map Value.string).toArray 9)).heap.size≤w8.heap.size:=hg8.size
    rw [World.size_alloc] at h1
    have:=HSZ7.out
    omega)
   have HOW8:=hdd (show ∀k,(Value.slice a6 f.body.length c6).ownBlock=some k→k<w8.heap.size from by
    obtain⟨cells6,k6,-⟩:=HG6.out.2.row
    exact fun k hk=>by have:=(k6.lt k hk).2;have:=HSZ8.out;omega)
   clear hnm hrd8 hg8 HG6 HG7
   go_wp2_with fail
   refine(Z52 w0 w8 br a len cap bs hlen 2 (by omega) (q6+1+1) HR8.out (by have:=HR6.out.1;have:=HBX.out;have:Z1d 2=28:=rfl;omega)).mono ?_
   rintro e w9x ⟨cs7,y,q9,rfl,hrd9,hq9,ht9,hy9,hlg9,-,hF9⟩
   have HF9:=hdd (show ZP bs 10 (Z5 w5 br)=n7∧ofF bs [⟨#[]⟩,⟨#[97]⟩,⟨#[122,122]⟩] (Z5 w5 br+1)=nm∧(Z7K bs 2 (Z5 w5 br+1+1)).1=y from by
    rw [← HP6.out,HR6.out.2.pos]
    exact⟨HF7.out,HF8.out,by rw [hF9]⟩)
   clear hF9
   obtain⟨ya,yc,rfl⟩:=Zj hy9
   have HG7B:=hdd (Zu.callG (u':=p+622001) (Z0 20) HG8.out.1 HG8.out.2 ht9 ⟨q9,(by have:=HR6.out.1;have:Z1d 2=28:=rfl;omega),hrd9⟩)
   have HOWN:=hdd (show ∀k,(Value.slice a6 f.body.length c6).ownBlock=some k→k<w8.heap.size from HOW8.out)
   have HST:=hdd (show Zv 20 (fun k=>w8.heap.size≤k) (w9x.alloc (.cells #[.int .i64 y.op,.int .i64 y.n,.string y.name,.slice ya y.kids.length yc] 64)) [.int .i64 n7,.string nm,.slice (some ⟨w9x.heap.size,0,none⟩) 1 1,.slice none 0 0,.slice none 0 0] (.mk n7 nm [y] [] []) from by
    have h1:=Z1W (w:=w9x) (S:=fun k=>w8.heap.size≤k) (Z0j (by omega:7≤12) ⟨hy9,hlg9⟩)
    have h2:=Z2A (c:=1) h1 (by simp) n7 nm (by have:=HN7.out;omega) HN.out
    have h3:w8.heap.size≤w9x.heap.size:=Ze.size (S:=fun k=>k=br∨w8.heap.size≤k) ht9
    exact Z1O (by omega:1≤20) ((Z0 1).mono (fun k _ h=>by rcases h with h|h;exact h;exact Nat.le_trans h3 h) h2))
   have HG9A:=hdd (HG7B.out.1.two (Z0 20) HG7B.out.2 (.cells #[.int .i64 y.op,.int .i64 y.n,.string y.name,.slice ya y.kids.length yc] 64) (.cells #[.int .i64 n7,.string nm,.slice (some ⟨w9x.heap.size,0,none⟩) 1 1,.slice none 0 0,.slice none 0 0] 48))
   obtain⟨cells7,hrows7⟩:=HG9A.out.2.1.rows
   have HRW7:=hdd hrows7
   have HL6:=hdd (show w5.heap.size≤w8.heap.size from HG8.out.1.lt.2.2.2.2.2.2.2.2.2.2.2)
   clear hrd9 hq9 ht9 hy9 hlg9 hrows7
   go_wp2_with (at_builtin;refine Z2J rfl (.tmp 57) (.tmp 67) rfl w5.heap.size _ f.body.length _ rfl HRW7.out.1 _ 1 1 [[.int .i64 n7,.string nm,.slice (some ⟨w9x.heap.size,0,none⟩) 1 1,.slice none 0 0,.slice none 0 0]] rfl (Z3T _ _ _) rfl (by intro cl hcl;rw [List.mem_singleton.1 hcl];rfl) (by intro cl hcl;rw [List.mem_singleton.1 hcl];exact Z0a HST.out) (by have:=HB5.out.2.2;omega) HG9A.out.1.lt.2.2.2.2.2.2.2.2.2.2.2 ?_;intro a9 c9 w9 hown9 hg9 hlies9;(have HG9:=hdd (HG9A.out.1.pushed (Z0 20) (lo5:=w8.heap.size) (x:=.mk n7 nm [y] [] []) HRW7.out ((Z0 20).below ((bRf _ _).alloc (Nat.le_refl _) _) HST.out) HOWN.out HL6.out hown9 hg9 hlies9));clear hown9 hg9 hlies9;(have k9:=coR _ _ 2 _ _ _ HG9.out.1.frow);(have y9:=frR _ _ 2 _ _ HG9.out.1.frow))
   go_meet
   exact⟨_,_,_,_,_,_,hdd ⟨(HG9.out.1.setBody HG9.out.2 (by simp)).more (by omega),by have:=HB5.out.2.1;show f.params.length≤100;omega,by have:=HB5.out.2.2;show(f.body++[Zb.mk n7 nm [y] [] []]).length≤100;simp;omega,by rw [← HF9.out.1,← HF9.out.2.1,← HF9.out.2.2];rfl,by decide,by decide⟩⟩
  have e3:(v==3)=false:=by simpa using h3
  clear h3
  by_cases h4:v=4
  ·subst h4
   clear e0 e1 e2 e3
   have HLP0:=hdd (show Z6d w0 w br rb pb fb w5.heap.size a len cap bs (p+620001) (some ⟨b,off,none⟩) pc ps fpa fpc fba fbc f (w5.heap.size+1) 1 [.int .i64 6,.string ⟨#[]⟩,.slice (some ⟨w5.heap.size,0,none⟩) 1 1,.slice none 0 0,.slice none 0 0] (.mk 6 ⟨#[]⟩ [.mk 1 0 ⟨#[]⟩ []] [] []) none ((w5.alloc (.cells #[.int .i64 1,.int .i64 0,.string ⟨#[]⟩,.slice none 0 0] 64)).alloc (.cells #[.int .i64 6,.string ⟨#[]⟩,.slice (some ⟨w5.heap.size,0,none⟩) 1 1,.slice none 0 0,.slice none 0 0] 48)) from by
    have h1:=Z1W (S:=fun _=>False) (w:=w5) (Z9G 1 0 (by decide) 11)
    have h2:=Z2A (c:=1) h1 (by simp) 6 ⟨#[]⟩ (by decide) (Nat.zero_le _)
    have h3:=hAn (w5.alloc (.cells #[.int .i64 1,.int .i64 0,.string ⟨#[]⟩,.slice none 0 0] 64)) (.cells #[.int .i64 6,.string ⟨#[]⟩,.slice (some ⟨w5.heap.size,0,none⟩) 1 1,.slice none 0 0,.slice none 0 0] 48)
    rw [World.size_alloc] at h3
    refine⟨(HB5.out.1.alloc _).alloc _,h3,by omega,?_,by rintro b ⟨⟩⟩
    exact(Z0 1).below ((bRf _ _).alloc (Nat.le_refl _) _) ((Z0 1).mono (fun k hk h=>by rw [World.size_alloc] at hk;have h:w5.heap.size≤k:=h.elim False.elim id;exact⟨h,by omega⟩) h2))
   have HQ6:=hdd (show Z5 ((w5.alloc (.cells #[.int .i64 1,.int .i64 0,.string ⟨#[]⟩,.slice none 0 0] 64)).alloc (.cells #[.int .i64 6,.string ⟨#[]⟩,.slice (some ⟨w5.heap.size,0,none⟩) 1 1,.slice none 0 0,.slice none 0 0] 48)) br=Z5 w5 br from Z0A HR5.out.2.lt)
   go_upto_region 14 with fail
   obtain⟨sb,hsb⟩:∃n,n=w5.heap.size+1:=⟨_,rfl⟩
   generalize ((w5.alloc (.cells #[.int .i64 1,.int .i64 0,.string ⟨#[]⟩,.slice none 0 0] 64)).alloc (.cells #[.int .i64 6,.string ⟨#[]⟩,.slice (some ⟨w5.heap.size,0,none⟩) 1 1,.slice none 0 0,.slice none 0 0] 48))=w6 at HLP0 HQ6 ⊢
   rw [← hsb] at HLP0 ⊢
   clear hsb
   obtain⟨q6,hq6,hrd6⟩:=HLP0.out.bent.rd
   go_wp2_with fail
   refine(Z01 w0 _ br a len cap bs q6 5 hrd6 (by omega) hlen (by have:=HBX.out;omega)).mono ?_
   rintro e w7 ⟨i7,hi70,hi71,rfl,hrd7,hg7,hF7⟩
   have hV7:ZP bs 5 (Z5 w5 br)=i7∧Z5 w7 br=Z5 w5 br+1:=by rw [← HQ6.out,hrd6.pos,hrd7.pos];exact⟨hF7,rfl⟩
   clear hF7
   have HLP1:=hdd (HLP0.out.call (u':=p+620002) (Zd.grown hg7) ⟨_,by omega,hrd7⟩)
   obtain⟨k0,rfl,hk0⟩:∃k0:Nat,i7=(k0:Int)∧k0≤4:=⟨i7.toNat,by omega,by omega⟩
   have HK0:=hdd hk0
   have HV7:=hdd hV7
   clear hi70 hi71 hrd7 hg7 hrd6 hq6 hk0 hV7 HQ6
   go_wp2_with fail
   go_loopg [6] k0 (fun G i wr=>∃(k:Nat) (s:Zb) (aa ba ea:Option Addr) (ac bc ec d:Nat),k=G∧i=.int .i64 k∧Hid (k≤4∧d+k≤5∧Z6d w0 w br rb pb fb w5.heap.size a len cap bs (p+620010-k) (some ⟨b,off,none⟩) pc ps fpa fpc fba fbc f sb d [.int .i64 s.op,.string s.name,.slice aa s.args.length ac,.slice ba s.body.length bc,.slice ea s.els.length ec] s none wr∧Z8m bs k s (Z5 wr br)=Z8m bs k0 (.mk 6 ⟨#[]⟩ [.mk 1 0 ⟨#[]⟩ []] [] []) (Z5 w7 br)))
   case atStart=>exact⟨k0,.mk 6 ⟨#[]⟩ [.mk 1 0 ⟨#[]⟩ []] [] [],some ⟨w5.heap.size,0,none⟩,none,none,1,0,0,1,rfl,rfl,hdd ⟨HK0.out,by have:=HK0.out;omega,HLP1.out.more (by have:=HK0.out;omega),rfl⟩⟩
   case round=>
    obtain⟨k,s,aa,ba,ea,ac,bc,ec,d,rfl,rfl,HR⟩:=hrel
    have HLP:=hdd HR.out.2.2.1
    have HWR:=hdd HR.out.2.2.2
    by_cases hk:k=0
    ·have hkI:decide ((0:Int)<(k:Int))=false:=decide_eq_false (by omega)
     have hkd:decide (0<k)=false:=decide_eq_false (by omega)
     have hkn:¬0<k:=by omega
     have HSF:=hdd (show Z8m bs (ZP bs 5 (Z5 w5 br)).toNat (.mk 6 ⟨#[]⟩ [.mk 1 0 ⟨#[]⟩ []] [] []) (Z5 w5 br+1)=s from by rw [HV7.out.1,← HV7.out.2,Int.toNat_natCast,← HWR.out,hk];rfl)
     clear hk HWR
     have HB9:=hdd HLP.out.bent.up
     have HST:=hdd (show Zv 20 (fun k=>w5.heap.size≤k∧k<wr.heap.size) wr [.int .i64 s.op,.string s.name,.slice aa s.args.length ac,.slice ba s.body.length bc,.slice ea s.els.length ec] s from(Z0 20).mono (fun k hk h=>⟨h.1,hk⟩) (Z1O (by have:=HR.out;omega) HLP.out.stmt))
     obtain⟨cells0,r1,r2,r3,r4⟩:=HB9.out.body.rows
     have HROW0:=hdd r1
     have HC0N:=hdd r2
     have HCL0:=hdd r3
     have HEL0:=hdd r4
     have HONE0:=hdd (show ∀cl∈cells0,∀u∈cl,u.oneCell'=true from fun cl hcl=>by
      obtain⟨i,hi,he⟩:=List.getElem_of_mem hcl
      exact Z0a (r4 i cl _ (by rw [List.getElem?_eq_getElem hi,he]) (List.getElem?_eq_getElem (by omega))))
     have HCL1:=hdd (show ∀cl∈([[.int .i64 s.op,.string s.name,.slice aa s.args.length ac,.slice ba s.body.length bc,.slice ea s.els.length ec]]:List (List Value)),cl.length=5 from fun cl hcl=>by rw [List.mem_singleton.1 hcl];rfl)
     have HONE1:=hdd (show ∀cl∈([[.int .i64 s.op,.string s.name,.slice aa s.args.length ac,.slice ba s.body.length bc,.slice ea s.els.length ec]]:List (List Value)),∀u∈cl,u.oneCell'=true from fun cl hcl=>by rw [List.mem_singleton.1 hcl];exact Z0a HST.out)
     have HN0:=hdd (show 0+f.body.length≤1099511627776 from by have:=HB5.out.2.2;omega)
     have HN1:=hdd (show f.body.length+1≤1099511627776 from by have:=HB5.out.2.2;omega)
     have HRW:=hdd (show ∀W,Below wr.heap.size wr W→W.heap[fb]? = some (.cells #[.string f.name,.slice fpa f.params.length fpc,.slice fba f.body.length fbc] 42 (0,0)) from fun W hW=>(hW.block fb HB9.out.lt.2.2.2.2.2.2.2.1).trans HB9.out.frow)
     have HKP:=hdd (show ∀W,Below wr.heap.size wr W→(W.cell? ⟨fb,2,none⟩=some (.slice fba f.body.length fbc)∧W.cell? ⟨sb,0,none⟩=some (.int .i64 s.op)∧W.cell? ⟨sb,1,none⟩=some (.string s.name)∧W.cell? ⟨sb,2,none⟩=some (.slice aa s.args.length ac)∧W.cell? ⟨sb,3,none⟩=some (.slice ba s.body.length bc)∧W.cell? ⟨sb,4,none⟩=some (.slice ea s.els.length ec)) from fun W hW=>by
      have t0:=coR _ _ 0 _ _ _ HLP.out.row
      have t1:=coR _ _ 1 _ _ _ HLP.out.row
      have t2:=coR _ _ 2 _ _ _ HLP.out.row
      have t3:=coR _ _ 3 _ _ _ HLP.out.row
      have t4:=coR _ _ 4 _ _ _ HLP.out.row
      exact⟨coR _ _ 2 _ _ _ (HRW.out W hW),clT hW t0,clT hW t1,clT hW t2,clT hW t3,clT hW t4⟩)
     have HLT:=hdd (show w.heap.size≤w5.heap.size∧rb<w5.heap.size∧pb<w5.heap.size∧fb<w5.heap.size∧w5.heap.size≤wr.heap.size from by have:=HB5.out.1.lt;have:=HLP.out.bent.lt;omega)
     clear r1 r2 r3 r4 HR HLP0 HLP1 HLP
     go_upto_region 18 with fail
     clear hkI hkd hkn
     refine Zw (S:=(fun W=>W.cell? ⟨fb,2,none⟩=some (.slice fba f.body.length fbc)∧W.cell? ⟨sb,0,none⟩=some (.int .i64 s.op)∧W.cell? ⟨sb,1,none⟩=some (.string s.name)∧W.cell? ⟨sb,2,none⟩=some (.slice aa s.args.length ac)∧W.cell? ⟨sb,3,none⟩=some (.slice ba s.body.length bc)∧W.cell? ⟨sb,4,none⟩=some (.slice ea s.els.length ec))) (by kernel_rfl) ?_
     have hHeld:=HKP.out _ ((bRf wr.heap.size wr).drew)
     refine tkL 2 1 (some 90) hHeld ?_
     (try simp only [Act.put,pu1,pu2,pu3])
     refine tkL 3 2 (some 91) hHeld ?_
     (try simp only [Act.put,pu1,pu2,pu3])
     refine tkL 5 4 (some 93) hHeld ?_
     (try simp only [Act.put,pu1,pu2,pu3])
     have HC0:=hdd (Cat.start 48 5 wr [.int .i64 s.op,.string s.name,.slice aa s.args.length ac,.slice ba s.body.length bc,.slice ea s.els.length ec])
     generalize wr.drew=w0y at HC0 hHeld ⊢
     refine Z0y (rs:=[0,5]) (by kernel_rfl) (by simp) ?_
     refine(ZD.cons (o:=⟨some 89,_,_,_,_,_⟩) rfl (fun K hK=>?_) (ZD.cons (o:=⟨some 94,_,_,_,_,_⟩) rfl (fun K hK=>?_) ZD.nil))
     focus
      go_simp
      have HC1:=hdd (HC0.out.allocA)
      refine kpL hK (HKP.out _ HC1.out.below) ?_
      clear hK K hHeld;intro hHeld
      (try simp only [Act.put,pu1,pu2,pu3])
      generalize w0y.alloc (.cells #[] 48)=w1y at HC1 hHeld ⊢
      generalize w0y.heap.size=ab at HC1 ⊢
      have hs:=hdd (show(1:Nat)=1 from rfl)
     rotate_left
     focus
      go_simp
      have HC1:=hdd (HC0.out.allocB)
      refine kpL hK (HKP.out _ HC1.out.below) ?_
      clear hK K hHeld;intro hHeld
      (try simp only [Act.put,pu1,pu2,pu3])
      generalize w0y.alloc (.cells #[.int .i64 s.op,.string s.name,.slice aa s.args.length ac,.slice ba s.body.length bc,.slice ea s.els.length ec] 48)=w1y at HC1 hHeld ⊢
      generalize w0y.heap.size=bb at HC1 ⊢
      have hs:=hdd (show(2:Nat)=2 from rfl)
     rotate_left
     all_goals
      first
      |
       guard_hyp hs:Hid ((1:Nat)=1)
       clear hs
       refine Z0y (rs:=[3,5]) (by kernel_rfl) (by simp) ?_
       refine(ZD.cons (o:=⟨some 92,_,_,_,_,_⟩) rfl (fun K hK=>?_) (ZD.cons (o:=⟨some 94,_,_,_,_,_⟩) rfl (fun K hK=>?_) ZD.nil))
       focus
        refine Z44 rfl (.tmp 89) (.tmp 91) rfl wr.heap.size _ 0 [] rfl (HC1.out.list _ _ _ rfl).1 _ f.body.length _ cells0 rfl (HROW0.out.later HC1.out.below) HC0N.out HCL0.out HONE0.out HN0.out HC1.out.below.size ?_
        intro a5 c5 w2y hown5 hg5 hlies5
        simp only [Nat.zero_add,List.nil_append] at hown5 hlies5 ⊢
        have HC2:=hdd (HC1.out.app hown5 hg5 hlies5)
        clear hown5 hg5 hlies5
        refine kpL hK (HKP.out _ HC2.out.below) ?_
        clear hK K hHeld;intro hHeld
        (try simp only [Act.put,pu1,pu2,pu3])
        have hs:=hdd (show(3:Nat)=3 from rfl)
       rotate_left
       focus
        go_simp
        have HC2:=hdd (HC1.out.allocB)
        refine kpL hK (HKP.out _ HC2.out.below) ?_
        clear hK K hHeld;intro hHeld
        (try simp only [Act.put,pu1,pu2,pu3])
        generalize w1y.alloc (.cells #[.int .i64 s.op,.string s.name,.slice aa s.args.length ac,.slice ba s.body.length bc,.slice ea s.els.length ec] 48)=w2y at HC2 hHeld ⊢
        generalize w1y.heap.size=bb at HC2 ⊢
        have hs:=hdd (show(4:Nat)=4 from rfl)
       rotate_left
      |
       guard_hyp hs:Hid ((2:Nat)=2)
       clear hs
       refine Z06 0 (some 89) fun K hK=>?_
       go_simp
       have HC2:=hdd (HC1.out.allocA)
       refine kpL hK (HKP.out _ HC2.out.below) ?_
       clear hK K hHeld;intro hHeld
       (try simp only [Act.put,pu1,pu2,pu3])
       generalize w1y.alloc (.cells #[] 48)=w2y at HC2 hHeld ⊢
       generalize w1y.heap.size=ab at HC2 ⊢
       have hs:=hdd (show(4:Nat)=4 from rfl)
     all_goals
      first
      |
       guard_hyp hs:Hid ((3:Nat)=3)
       clear hs
       refine Z06 5 (some 94) fun K hK=>?_
       go_simp
       have HC3:=hdd (HC2.out.allocB)
       refine kpL hK (HKP.out _ HC3.out.below) ?_
       clear hK K hHeld;intro hHeld
       (try simp only [Act.put,pu1,pu2,pu3])
       generalize w2y.alloc (.cells #[.int .i64 s.op,.string s.name,.slice aa s.args.length ac,.slice ba s.body.length bc,.slice ea s.els.length ec] 48)=w3y at HC3 hHeld ⊢
       generalize w2y.heap.size=bb at HC3 ⊢
       have hs:=hdd (show(5:Nat)=5 from rfl)
      |
       guard_hyp hs:Hid ((4:Nat)=4)
       clear hs
       refine Z06 3 (some 92) fun K hK=>?_
       refine Z44 rfl (.tmp 89) (.tmp 91) rfl wr.heap.size _ 0 [] rfl (HC2.out.list _ _ _ rfl).1 _ f.body.length _ cells0 rfl (HROW0.out.later HC2.out.below) HC0N.out HCL0.out HONE0.out HN0.out HC2.out.below.size ?_
       intro a5 c5 w3y hown5 hg5 hlies5
       simp only [Nat.zero_add,List.nil_append] at hown5 hlies5 ⊢
       have HC3:=hdd (HC2.out.app hown5 hg5 hlies5)
       clear hown5 hg5 hlies5
       refine kpL hK (HKP.out _ HC3.out.below) ?_
       clear hK K hHeld;intro hHeld
       (try simp only [Act.put,pu1,pu2,pu3])
       have hs:=hdd (show(5:Nat)=5 from rfl)
     all_goals
      clear hs
      refine Z06 6 (some 95) fun K hK=>?_
      refine Z44 rfl (.tmp 92) (.tmp 94) rfl wr.heap.size _ f.body.length _ rfl (HC3.out.list _ _ _ rfl).1 _ 1 1 [[.int .i64 s.op,.string s.name,.slice aa s.args.length ac,.slice ba s.body.length bc,.slice ea s.els.length ec]] rfl (Z51 (HC3.out.one _ rfl).1) rfl HCL1.out HONE1.out HN1.out HC3.out.below.size ?_
      intro a9 c9 w4y hown9 hg9 hlies9
      have HC4:=hdd (HC3.out.app hown9 hg9 hlies9)
      clear hown9 hg9 hlies9
      refine kpL hK (HKP.out _ HC4.out.below) ?_
      clear hK K hHeld;intro hHeld
      (try simp only [Act.put,pu1,pu2,pu3])
      refine tkL 8 7 (some 96) hHeld ?_
      (try simp only [Act.put,pu1,pu2,pu3])
      have hs:=hdd (show(6:Nat)=6 from rfl)
     all_goals
      clear hs
      refine Z06 8 none fun K hK=>?_
      have hRow:=HRW.out _ HC4.out.below
      have y0:=frR _ _ 2 _ _ hRow
      have r0:=coR _ _ 2 _ _ _ hRow
      simp only [ga0,ga1,ga2] at r0
      go_simp
      clear y0 r0 hRow
      refine hK.out _ _ (Z15 (by kernel_rfl)) ?_
      clear hK K hHeld
      (try simp only [Act.put,pu1,pu2,pu3])
      have hs:=hdd (show(7:Nat)=7 from rfl)
     all_goals
      clear hs
      refine Zq (by kernel_rfl) ?_ _
      go_wp2_with fail
      go_meet
      have hfin:=Zu.chained (Z0 20) HB9.out HC4.out HC0N.out HCL0.out HEL0.out HST.out (fun k h=>by have:=HLT.out;have h2:=h.1;have h3:=h.2;exact⟨by omega,by omega,by omega,by omega⟩)
      exact⟨_,_,_,_,_,_,hdd ⟨(hfin.1.setBody hfin.2 (by simp)).more (by have:=HBX.out;omega),by have:=HB5.out.2.1;show f.params.length≤100;omega,by have:=HB5.out.2.2;show(f.body++[s]).length≤100;simp;omega,by rw [← HSF.out];rfl,by decide,by decide⟩⟩
    ·have hkI:decide ((0:Int)<(k:Int))=true:=decide_eq_true (by omega)
     have hkd:decide (0<k)=true:=decide_eq_true (by omega)
     have hkn:0<k:=by omega
     have HKK:=hdd (show 0<k∧k≤4∧d+k≤5 from⟨hkn,HR.out.1,HR.out.2.1⟩)
     clear hk
     go_upto_region 17 with fail
     clear hkI hkd hkn HLP0 HLP1 HR
     refine Zw (S:=(fun W=>W.cell? ⟨sb,0,none⟩=some (.int .i64 s.op)∧W.cell? ⟨sb,1,none⟩=some (.string s.name)∧W.cell? ⟨sb,2,none⟩=some (.slice aa s.args.length ac)∧W.cell? ⟨sb,3,none⟩=some (.slice ba s.body.length bc)∧W.cell? ⟨sb,4,none⟩=some (.slice ea s.els.length ec))) (by kernel_rfl) ?_
     have HS0:=hdd (HLP.out.later ((bRf wr.heap.size wr).drew))
     have hHeld:=HS0.out.held
     have HQ0:=hdd (show Z5 wr.drew br=Z5 wr br from rfl)
     refine tkL 2 0 (some 81) hHeld ?_
     (try simp only [Act.put,pu1,pu2,pu3])
     refine tkL 4 3 (some 84) hHeld ?_
     (try simp only [Act.put,pu1,pu2,pu3])
     refine tkL 7 4 (some 85) hHeld ?_
     (try simp only [Act.put,pu1,pu2,pu3])
     refine tkL 6 5 (some 86) hHeld ?_
     (try simp only [Act.put,pu1,pu2,pu3])
     generalize wr.drew=w0z at HS0 HQ0 hHeld ⊢
     refine Z0y (rs:=[1,6]) (by kernel_rfl) (by simp) ?_
     refine(ZD.cons (o:=⟨some 82,_,_,_,_,_⟩) rfl (fun K hK=>?_) (ZD.cons (o:=⟨some 87,_,_,_,_,_⟩) rfl (fun K hK=>?_) ZD.nil))
     focus
      go_simp
      have HS1:=hdd (HS0.out.later ((bRf _ _).alloc (Nat.le_refl _) (.cells ([5,6].map (Value.int .i64)).toArray 3)))
      have HI1:=hdd (aI (Z7w w0z [5,6]) (show w0z.heap.size≠br from by have:=HS0.out.bent.lt;omega))
      have HQ1:=hdd ((Zo (o:=.cells ([5,6].map (Value.int .i64)).toArray 3) (show br<w0z.heap.size from by have:=HS0.out.bent.lt;omega)).trans HQ0.out)
      refine kpL hK (HS1.out.held) ?_
      clear hK K hHeld;intro hHeld
      (try simp only [Act.put,pu1,pu2,pu3])
      change Z1i _ _ _ _ _ _ _ _ (w0z.alloc (.cells ([5,6].map (Value.int .i64)).toArray 3))
      generalize w0z.alloc (.cells ([5,6].map (Value.int .i64)).toArray 3)=w1z at HS1 HI1 HQ1 hHeld ⊢
      generalize w0z.heap.size=nb at HI1 ⊢
      have hs:=hdd (show(1:Nat)=1 from rfl)
     rotate_left
     focus
      go_simp
      have HS1:=hdd HS0.out.allocB
      have HQ1:=hdd ((Zo (o:=.cells #[.int .i64 s.op,.string s.name,.slice aa s.args.length ac,.slice ba s.body.length bc,.slice ea s.els.length ec] 48) (show br<w0z.heap.size from by have:=HS0.out.bent.lt;omega)).trans HQ0.out)
      refine kpL hK (HS1.out.held) ?_
      clear hK K hHeld;intro hHeld
      (try simp only [Act.put,pu1,pu2,pu3])
      generalize w0z.alloc (.cells #[.int .i64 s.op,.string s.name,.slice aa s.args.length ac,.slice ba s.body.length bc,.slice ea s.els.length ec] 48)=w1z at HS1 HQ1 hHeld ⊢
      generalize w0z.heap.size=bb at HS1 ⊢
      have hs:=hdd (show(2:Nat)=2 from rfl)
     rotate_left
     all_goals
      first
      |
       guard_hyp hs:Hid ((1:Nat)=1)
       clear hs
       refine Z0y (rs:=[2,6]) (by kernel_rfl) (by simp) ?_
       refine(ZD.cons (o:=⟨some 83,_,_,_,_,_⟩) rfl (fun K hK=>?_) (ZD.cons (o:=⟨some 87,_,_,_,_,_⟩) rfl (fun K hK=>?_) ZD.nil))
       focus
        go_simp
        go_at_call 33
        obtain⟨q9,hq9,hrd9⟩:=HS1.out.bent.rd
        refine(Z1e w0 _ br a len cap bs q9 nb 2 2 [5,6] hrd9 HI1.out.1 HI1.out.2 (by omega) hlen (by have:=HBX.out;omega)).mono ?_
        rintro e w2z ⟨n9,hn9,rfl,hrd10,hg10,hF10⟩
        have HNF:=hdd (show Z2Y bs [5,6] (Z5 wr br)=n9 from by rw [← HQ1.out,hrd9.pos];exact hF10)
        have HQ2:=hdd (show Z5 w2z br=Z5 wr br+1 from by rw [← HQ1.out,hrd9.pos,hrd10.pos])
        have HS2:=hdd (HS1.out.call (u':=p+620011-k) (Zd.grown hg10) ⟨q9+1,by have:=HKK.out;omega,hrd10⟩)
        have HN9:=hdd (show -9223372036854775808≤n9∧n9≤9223372036854775807 from by simp only [List.mem_cons,List.not_mem_nil,or_false] at hn9;omega)
        clear hF10 hn9 hrd10 hg10 hrd9 hq9
        refine kpL hK (HS2.out.held) ?_
        clear hK K hHeld;intro hHeld
        (try simp only [Act.put,pu1,pu2,pu3])
        have hs:=hdd (show(3:Nat)=3 from rfl)
       rotate_left
       focus
        go_simp
        have HS2:=hdd HS1.out.allocB
        have HQ2:=hdd ((Zo (o:=.cells #[.int .i64 s.op,.string s.name,.slice aa s.args.length ac,.slice ba s.body.length bc,.slice ea s.els.length ec] 48) (show br<w1z.heap.size from by have:=HS1.out.bent.lt;omega)).trans HQ1.out)
        have HI2:=hdd (aI (HI1.out.1.later ((bRf _ _).alloc (Nat.le_refl _) (.cells #[.int .i64 s.op,.string s.name,.slice aa s.args.length ac,.slice ba s.body.length bc,.slice ea s.els.length ec] 48))) HI1.out.2)
        refine kpL hK (HS2.out.held) ?_
        clear hK K hHeld;intro hHeld
        (try simp only [Act.put,pu1,pu2,pu3])
        generalize w1z.alloc (.cells #[.int .i64 s.op,.string s.name,.slice aa s.args.length ac,.slice ba s.body.length bc,.slice ea s.els.length ec] 48)=w2z at HS2 HQ2 HI2 hHeld ⊢
        generalize w1z.heap.size=bb at HS2 ⊢
        have hs:=hdd (show(4:Nat)=4 from rfl)
       rotate_left
      |
       guard_hyp hs:Hid ((2:Nat)=2)
       clear hs
       refine Z06 1 (some 82) fun K hK=>?_
       go_simp
       have HS2:=hdd (HS1.out.later ((bRf _ _).alloc (Nat.le_refl _) (.cells ([5,6].map (Value.int .i64)).toArray 3)))
       have HI2:=hdd (aI (Z7w w1z [5,6]) (show w1z.heap.size≠br from by have:=HS1.out.bent.lt;omega))
       have HQ2:=hdd ((Zo (o:=.cells ([5,6].map (Value.int .i64)).toArray 3) (show br<w1z.heap.size from by have:=HS1.out.bent.lt;omega)).trans HQ1.out)
       refine kpL hK (HS2.out.held) ?_
       clear hK K hHeld;intro hHeld
       (try simp only [Act.put,pu1,pu2,pu3])
       change Z1i _ _ _ _ _ _ _ _ (w1z.alloc (.cells ([5,6].map (Value.int .i64)).toArray 3))
       generalize w1z.alloc (.cells ([5,6].map (Value.int .i64)).toArray 3)=w2z at HS2 HI2 HQ2 hHeld ⊢
       generalize w1z.heap.size=nb at HI2 ⊢
       have hs:=hdd (show(4:Nat)=4 from rfl)
     all_goals
      first
      |
       guard_hyp hs:Hid ((3:Nat)=3)
       clear hs
       refine Z06 6 (some 87) fun K hK=>?_
       go_simp
       have HS3:=hdd HS2.out.allocB
       have HQ3:=hdd ((Zo (o:=.cells #[.int .i64 s.op,.string s.name,.slice aa s.args.length ac,.slice ba s.body.length bc,.slice ea s.els.length ec] 48) (show br<w2z.heap.size from by have:=HS2.out.bent.lt;omega)).trans HQ2.out)
       refine kpL hK (HS3.out.held) ?_
       clear hK K hHeld;intro hHeld
       (try simp only [Act.put,pu1,pu2,pu3])
       generalize w2z.alloc (.cells #[.int .i64 s.op,.string s.name,.slice aa s.args.length ac,.slice ba s.body.length bc,.slice ea s.els.length ec] 48)=w3z at HS3 HQ3 hHeld ⊢
       generalize w2z.heap.size=bb at HS3 ⊢
       refine tkL 8 7 (some 88) hHeld ?_
       (try simp only [Act.put,pu1,pu2,pu3])
       have hs:=hdd (show(5:Nat)=5 from rfl)
      |
       guard_hyp hs:Hid ((4:Nat)=4)
       clear hs
       refine Z06 2 (some 83) fun K hK=>?_
       go_simp
       go_at_call 33
       obtain⟨q9,hq9,hrd9⟩:=HS2.out.bent.rd
       refine(Z1e w0 _ br a len cap bs q9 nb 2 2 [5,6] hrd9 HI2.out.1 HI2.out.2 (by omega) hlen (by have:=HBX.out;omega)).mono ?_
       rintro e w3z ⟨n9,hn9,rfl,hrd10,hg10,hF10⟩
       have HNF:=hdd (show Z2Y bs [5,6] (Z5 wr br)=n9 from by rw [← HQ2.out,hrd9.pos];exact hF10)
       have HQ3:=hdd (show Z5 w3z br=Z5 wr br+1 from by rw [← HQ2.out,hrd9.pos,hrd10.pos])
       have HS3:=hdd (HS2.out.call (u':=p+620011-k) (Zd.grown hg10) ⟨q9+1,by have:=HKK.out;omega,hrd10⟩)
       have HN9:=hdd (show -9223372036854775808≤n9∧n9≤9223372036854775807 from by simp only [List.mem_cons,List.not_mem_nil,or_false] at hn9;omega)
       clear hF10 hn9 hrd10 hg10 hrd9 hq9
       refine kpL hK (HS3.out.held) ?_
       clear hK K hHeld;intro hHeld
       (try simp only [Act.put,pu1,pu2,pu3])
       refine tkL 8 7 (some 88) hHeld ?_
       (try simp only [Act.put,pu1,pu2,pu3])
       have hs:=hdd (show(5:Nat)=5 from rfl)
     all_goals
      clear hs
      refine Z06 8 none fun K hK=>?_
      have hRow:=HS3.out.row
      have y0:=frR _ _ 0 _ _ hRow
      have y1:=frR _ _ 1 _ _ hRow
      have y2:=frR _ _ 2 _ _ hRow
      have y3:=frR _ _ 3 _ _ hRow
      have y4:=frR _ _ 4 _ _ hRow
      have r0:=coR _ _ 0 _ _ _ hRow
      have r1:=coR _ _ 1 _ _ _ hRow
      have r2:=coR _ _ 2 _ _ _ hRow
      have r3:=coR _ _ 3 _ _ _ hRow
      have r4:=coR _ _ 4 _ _ _ hRow
      simp only [ga0,ga1,ga2] at r0 r1 r2 r3 r4
      go_simp
      clear y0 y1 y2 y3 y4 r0 r1 r2 r3 r4 hRow
      have HF:=hdd (HS3.out.store HN9.out)
      have HFQ:=hdd (show Z5 (w3z.setCells sb 0 [.int .i64 n9,.string ⟨#[]⟩,.slice aa s.args.length ac,.slice (some ⟨bb,0,none⟩) 1 1,.slice none 0 0]) br=Z5 wr br+1 from by rw [Z0P (by have h1:=HS3.out.bent.lt;have h2:=HS3.out.lt;omega)];exact HQ3.out)
      refine hK.out _ _ (Z15 (by kernel_rfl)) ?_
      clear hK K hHeld
      (try simp only [Act.put,pu1,pu2,pu3])
      have hs:=hdd (show(6:Nat)=6 from rfl)
     all_goals
      clear hs
      refine Zq (by kernel_rfl) ?_ _
      go_wp2
      go_roundg (k-1)
      case measure=>have:=HKK.out;omega
      case rel=>
       have HF2:=HF.out
       have HFQ2:=HFQ.out
       rw [Z9H] at HF2 HFQ2
       exact⟨k-1,.mk n9 ⟨#[]⟩ s.args [s] [],aa,some ⟨bb,0,none⟩,none,ac,1,0,d+1,rfl,by(rw [show((k-1:Nat):Int)=(k:Int)-1 from by have:=HKK.out;omega,IntWalk.wrap64_in _ (by have:=HKK.out;omega)]),hdd ⟨by have:=HKK.out;omega,by have:=HKK.out;omega,HF2.more (by have:=HKK.out;omega),by rw [HFQ2,← HWR.out];exact(Z99 HKK.out.1 HNF.out).symm⟩⟩
  have e4:(v==4)=false:=by simpa using h4
  clear h4
  by_cases h5:v=5
  ·subst h5
   clear e0 e1 e2 e3 e4
   have r0:=coR _ _ 0 _ _ _ HB5.out.1.rrow
   have y0:=frR _ _ 0 _ _ HB5.out.1.rrow
   simp only [ga0,ga1] at r0
   go_wp2
   refine bodyPost_ret (results_cell_row rfl _ _ rb 25 (List.toArray [.slice none 0 0]) (0,0) _ rfl ?_ Tryz.underlying25 rfl (by kernel_rfl)) rfl ?_
   ·exact(hSs w5 rb 0 _ _ _ HB5.out.1.rrow).trans rfl
   exact HB5.out.1.ret (Z8b HPF.out HVF.out.1) (by have:=HR5.out.1;omega) (Za.nil _ _ _) (by simp)
  have e5:(v==5)=false:=by simpa using h5
  clear h5
  by_cases h6:v=6
  ·subst h6
   clear e0 e1 e2 e3 e4 e5
   go_wp2_with fail
   refine(Z1e w0 _ br a len cap bs q5 w5.heap.size 3 3 [20,40,41] (HR5.out.2.later' (HBA.out _)) (Z7w w5 [20,40,41]) (by have:=HR5.out.2.lt;omega) (by omega) hlen (by have:=HR5.out.1;have:=HBX.out;omega)).mono ?_
   rintro e w6 ⟨i6,hi6,rfl,hrd6,hg6,hF6⟩
   have HB6:=hdd ((HB5.out.1.alloc (.cells ([20,40,41].map (Value.int .i64)).toArray 3)).call (u':=p+620002) (Zd.grown hg6) ⟨_,by have:=HR5.out.1;omega,hrd6⟩)
   obtain⟨k0,rfl,hk0⟩:∃k0:Nat,i6=(k0:Int)∧k0≤41:=by
    simp only [List.mem_cons,List.not_mem_nil,or_false] at hi6
    exact⟨i6.toNat,by omega,by omega⟩
   have HK0:=hdd hk0
   have HV6:=hdd (show Z2Y bs [20,40,41] (Z5 w5 br)=(k0:Int) from by rw [HR5.out.2.pos];exact hF6)
   clear hF6 hi6 hrd6 hg6 hk0
   go_wp2_with fail
   go_loopg [7] k0 (fun G i wr=>∃(k lo:Nat) (gba:Option Addr) (gbc:Nat) (ys:List Zb),k=G∧i=.int .i64 k∧Hid (k≤41∧ys.length+k≤81∧Zu w0 w br rb pb fb lo a len cap bs (p+620002) (some ⟨b,off,none⟩) pc ps fpa fpc gba gbc ⟨f.name,f.params,ys⟩ wr∧Z80 k ys=Z80 k0 f.body))
   case atStart=>exact⟨k0,_,_,_,f.body,rfl,rfl,hdd ⟨HK0.out,by have:=HK0.out;have:=HB5.out.2.2;omega,HB6.out,rfl⟩⟩
   case round=>
    obtain⟨k,lo,gba,gbc,ys,rfl,rfl,HR⟩:=hrel
    by_cases hk:k=0
    ·have hkI:decide ((0:Int)<(k:Int))=false:=decide_eq_false (by omega)
     have hkd:decide (0<k)=false:=decide_eq_false (by omega)
     have hkn:¬0<k:=by omega
     have HSF:=hdd (show Z80 (Z2Y bs [20,40,41] (Z5 w5 br)).toNat f.body=ys from by rw [HV6.out,Int.toNat_natCast,← HR.out.2.2.2,hk];rfl)
     clear hk
     go_wp2_with fail
     go_meet
     exact⟨_,_,_,_,_,_,hdd ⟨HR.out.2.2.1.more (by omega),by have:=HB5.out.2.1;show f.params.length≤100;omega,by have:=HR.out.2.1;show ys.length≤100;omega,by rw [← HSF.out];rfl,by decide,by decide⟩⟩
    ·have hkI:decide ((0:Int)<(k:Int))=true:=decide_eq_true (by omega)
     have hkd:decide (0<k)=true:=decide_eq_true (by omega)
     have hkn:0<k:=by omega
     have HKK:=hdd (show 0<k∧k≤41∧ys.length+k≤81 from⟨hkn,HR.out.1,HR.out.2.1⟩)
     have HB9:=hdd HR.out.2.2.1.up
     have HSY:=hdd HR.out.2.2.2
     clear hk HR HB6 HK0
     obtain⟨cells0,r1,r2,r3,r4⟩:=HB9.out.body.rows
     have HROW0:=hdd r1
     have HC0N:=hdd r2
     have HCL0:=hdd r3
     have HEL0:=hdd r4
     have HONE0:=hdd (show ∀cl∈cells0,∀u∈cl,u.oneCell'=true from fun cl hcl=>by
      obtain⟨i,hi,he⟩:=List.getElem_of_mem hcl
      exact Z0a (r4 i cl _ (by rw [List.getElem?_eq_getElem hi,he]) (List.getElem?_eq_getElem (by omega))))
     have HST:=hdd (show ∀W:World,Zv 20 (fun k=>W.heap.size≤k) (W.alloc (.cells #[.int .i64 1,.int .i64 (k:Int),.string ⟨#[]⟩,.slice none 0 0] 64)) [.int .i64 3,.string ⟨#[]⟩,.slice (some ⟨W.heap.size,0,none⟩) 1 1,.slice none 0 0,.slice none 0 0] (.mk 3 ⟨#[]⟩ [.mk 1 (k:Int) ⟨#[]⟩ []] [] []) from fun W=>by
      have h1:=Z1W (S:=fun _=>False) (w:=W) (Z9G 1 (k:Int) (by decide) 11)
      have h2:=Z2A (c:=1) h1 (by simp) 3 ⟨#[]⟩ (by decide) (Nat.zero_le _)
      exact Z1O (by omega:1≤20) ((Z0 1).mono (fun k _ h=>h.elim False.elim id) h2))
     have k2:(wr.alloc (.cells #[] 48)).cell? ⟨fb,2,none⟩=some (.slice gba ys.length gbc):=clT ((bRf wr.heap.size wr).alloc (Nat.le_refl _) (.cells #[] 48)) (coR _ _ 2 _ _ _ HB9.out.frow)
     clear r1 r2 r3 r4
     go_wp2_with (first|(at_builtin;refine Z2J rfl (.tmp 109) (.tmp 111) rfl wr.heap.size _ 0 [] rfl (Z0i _ _ _ _ (Nat.le_refl _)) _ ys.length _ cells0 rfl (HROW0.out.later ((bRf _ _).alloc (Nat.le_refl _) _)) HC0N.out HCL0.out HONE0.out (by have:=HKK.out;omega) ((bRf wr.heap.size wr).alloc (Nat.le_refl _) _).size ?_;intro a6 c6 w6 hown6 hg6 hlies6;(simp only [Nat.zero_add,List.nil_append] at hown6 hlies6 ⊢);(have HG6:=hdd (HB9.out.copied (Z0 20) HC0N.out HCL0.out HEL0.out hown6 hg6 hlies6));(have HG7:=hdd (HG6.out.1.two (Z0 20) HG6.out.2 (.cells #[.int .i64 1,.int .i64 (k:Int),.string ⟨#[]⟩,.slice none 0 0] 64) (.cells #[.int .i64 3,.string ⟨#[]⟩,.slice (some ⟨w6.heap.size,0,none⟩) 1 1,.slice none 0 0,.slice none 0 0] 48)));(obtain⟨cells7,hrows7⟩:=HG7.out.2.1.rows);(have HRW7:=hdd hrows7);clear hown6 hg6 hlies6 k2 hrows7)|(at_builtin;refine Z2J rfl (.tmp 112) (.tmp 117) rfl wr.heap.size _ ys.length _ rfl HRW7.out.1 _ 1 1 [[.int .i64 3,.string ⟨#[]⟩,.slice (some ⟨w6.heap.size,0,none⟩) 1 1,.slice none 0 0,.slice none 0 0]] rfl (Z3T _ _ _) rfl (by intro cl hcl;rw [List.mem_singleton.1 hcl];rfl) (by intro cl hcl;rw [List.mem_singleton.1 hcl];exact Z0a (HST.out w6)) (by have:=HKK.out;omega) HG7.out.1.lt.2.2.2.2.2.2.2.2.2.2.2 ?_;intro a9 c9 w9 hown9 hg9 hlies9;(have HG9:=hdd (HG7.out.1.pushed (Z0 20) (lo5:=w6.heap.size) (x:=.mk 3 ⟨#[]⟩ [.mk 1 (k:Int) ⟨#[]⟩ []] [] []) HRW7.out ((Z0 20).below ((bRf _ _).alloc (Nat.le_refl _) _) (HST.out w6)) HG7.out.2.2 HG6.out.1.lt.2.2.2.2.2.2.2.2.2.2.2 hown9 hg9 hlies9));clear hown9 hg9 hlies9;(have k9:=coR _ _ 2 _ _ _ HG9.out.1.frow);(have y9:=frR _ _ 2 _ _ HG9.out.1.frow)))
     clear k9 y9
     go_roundg (k-1)
     case measure=>omega
     case rel=>exact⟨k-1,_,_,_,_,rfl,(by
      have hkv:=HKK.out
      rw [show((k-1:Nat):Int)=(k:Int)-1 from by omega,IntWalk.wrap64_in _ (by omega)]),hdd ⟨by have:=HKK.out;omega,by have:=HKK.out;simp;omega,HG9.out.1.setBody HG9.out.2 (by simp),by rw [← HSY.out];exact(Z9I HKK.out.1).symm⟩⟩
  have e6:(v==6)=false:=by simpa using h6
  clear h6
  by_cases h7:v=7
  ·subst h7
   clear e0 e1 e2 e3 e4 e5 e6
   obtain⟨b1,off1,f1,fa1,fc1,ba1,bc1,hab,hf1,hF1,c10,c11,c12⟩:=Z1q HB5.out.1.plist (show 0<ps.length by have:=HPL.out;omega)
   cases hab
   simp only [Nat.zero_mul,Nat.add_zero] at c10 c11 c12
   have HST:=hdd (show FnP 20 (fun k=>w.heap.size≤k∧k≠rb∧k≠pb∧k≠fb) w5 [.string f1.name,.slice fa1 f1.params.length fc1,.slice ba1 f1.body.length bc1] f1 from(Z2 20).mono (fun k _ h=>⟨h.1,h.2.2⟩) hF1)
   obtain⟨cells0,r1,r2,r3,r4⟩:=HB5.out.1.plist.rows
   have HROW0:=hdd r1
   have HC0N:=hdd r2
   have HCL0:=hdd r3
   have HEL0:=hdd r4
   have HONE0:=hdd (show ∀cl∈cells0,∀u∈cl,u.oneCell'=true from fun cl hcl=>by
    obtain⟨i,hi,he⟩:=List.getElem_of_mem hcl
    exact Z28 (r4 i cl _ (by rw [List.getElem?_eq_getElem hi,he]) (List.getElem?_eq_getElem (by omega))))
   have HCL1:=hdd (show ∀cl∈([[.string f1.name,.slice fa1 f1.params.length fc1,.slice ba1 f1.body.length bc1]]:List (List Value)),cl.length=3 from fun cl hcl=>by rw [List.mem_singleton.1 hcl];rfl)
   have HONE1:=hdd (show ∀cl∈([[.string f1.name,.slice fa1 f1.params.length fc1,.slice ba1 f1.body.length bc1]]:List (List Value)),∀u∈cl,u.oneCell'=true from fun cl hcl=>by rw [List.mem_singleton.1 hcl];exact Z28 HST.out)
   have HN0:=hdd (show 0+ps.length≤1099511627776 from by have:=HPL.out;omega)
   have HN1:=hdd (show ps.length+1≤1099511627776 from by have:=HPL.out;omega)
   have HRW:=hdd (show ∀W,Below w5.heap.size w5 W→W.heap[rb]? = some (.cells #[.slice none 0 0] 25 (0,0)) from fun W hW=>(hW.block rb HB5.out.1.lt.2.2.2.2.2.1).trans HB5.out.1.rrow)
   have HKP:=hdd (show ∀W,Below w5.heap.size w5 W→(W.cell? ⟨pb,0,none⟩=some (.slice (some ⟨b,off,none⟩) ps.length pc)∧W.cell? ⟨b,off,none⟩=some (.string f1.name)∧W.cell? ⟨b,off+1,none⟩=some (.slice fa1 f1.params.length fc1)∧W.cell? ⟨b,off+2,none⟩=some (.slice ba1 f1.body.length bc1)) from fun W hW=>
    ⟨clT hW (coR _ _ 0 _ _ _ HB5.out.1.prow),clT hW c10,clT hW c11,clT hW c12⟩)
   have hpos:0<ps.length:=by have:=HPL.out;omega
   have hposI:(0:Int)<(ps.length:Int):=by omega
   have HF1:=hdd hf1
   clear r1 r2 r3 r4 hF1 hf1 c10 c11 c12
   go_upto_region 27 with fail
   refine Zw (S:=(fun W=>W.cell? ⟨pb,0,none⟩=some (.slice (some ⟨b,off,none⟩) ps.length pc)∧W.cell? ⟨b,off,none⟩=some (.string f1.name)∧W.cell? ⟨b,off+1,none⟩=some (.slice fa1 f1.params.length fc1)∧W.cell? ⟨b,off+2,none⟩=some (.slice ba1 f1.body.length bc1))) (by kernel_rfl) ?_
   have hHeld:=HKP.out _ ((bRf w5.heap.size w5).drew)
   refine tkL 2 1 (some 123) hHeld ?_
   (try simp only [Act.put,pu1,pu2,pu3])
   refine tkL 3 2 (some 124) hHeld ?_
   (try simp only [Act.put,pu1,pu2,pu3])
   refine tkL 5 4 (some 126) hHeld ?_
   (try simp only [Act.put,pu1,pu2,pu3])
   refine tkL 6 5 (some 127) hHeld ?_
   (try simp only [Act.put,pu1,pu2,pu3])
   refine tkL 7 6 (some 128) hHeld ?_
   (try simp only [Act.put,pu1,pu2,pu3])
   refine tkL 8 7 (some 129) hHeld ?_
   (try simp only [Act.put,pu1,pu2,pu3])
   have HC0:=hdd (Cat.start 42 3 w5 [.string f1.name,.slice fa1 f1.params.length fc1,.slice ba1 f1.body.length bc1])
   generalize w5.drew=w0y at HC0 hHeld ⊢
   refine Z0y (rs:=[0,8]) (by kernel_rfl) (by simp) ?_
   refine(ZD.cons (o:=⟨some 122,_,_,_,_,_⟩) rfl (fun K hK=>?_) (ZD.cons (o:=⟨some 130,_,_,_,_,_⟩) rfl (fun K hK=>?_) ZD.nil))
   focus
    go_simp
    have HC1:=hdd (HC0.out.allocA)
    refine kpL hK (HKP.out _ HC1.out.below) ?_
    clear hK K hHeld;intro hHeld
    (try simp only [Act.put,pu1,pu2,pu3])
    generalize w0y.alloc (.cells #[] 42)=w1y at HC1 hHeld ⊢
    generalize w0y.heap.size=ab at HC1 ⊢
    have hs:=hdd (show(1:Nat)=1 from rfl)
   rotate_left
   focus
    go_simp
    have HC1:=hdd (HC0.out.allocB)
    refine kpL hK (HKP.out _ HC1.out.below) ?_
    clear hK K hHeld;intro hHeld
    (try simp only [Act.put,pu1,pu2,pu3])
    generalize w0y.alloc (.cells #[.string f1.name,.slice fa1 f1.params.length fc1,.slice ba1 f1.body.length bc1] 42)=w1y at HC1 hHeld ⊢
    generalize w0y.heap.size=bb at HC1 ⊢
    have hs:=hdd (show(2:Nat)=2 from rfl)
   rotate_left
   all_goals
    first
    |
     guard_hyp hs:Hid ((1:Nat)=1)
     clear hs
     refine Z0y (rs:=[3,8]) (by kernel_rfl) (by simp) ?_
     refine(ZD.cons (o:=⟨some 125,_,_,_,_,_⟩) rfl (fun K hK=>?_) (ZD.cons (o:=⟨some 130,_,_,_,_,_⟩) rfl (fun K hK=>?_) ZD.nil))
     focus
      refine Z4A rfl (.tmp 122) (.tmp 124) rfl w5.heap.size _ 0 [] rfl (HC1.out.list _ _ _ rfl).1 _ ps.length _ cells0 rfl (HROW0.out.later HC1.out.below) HC0N.out HCL0.out HONE0.out HN0.out HC1.out.below.size ?_
      intro a5 c5 w2y hown5 hg5 hlies5
      simp only [Nat.zero_add,List.nil_append] at hown5 hlies5 ⊢
      have HC2:=hdd (HC1.out.app hown5 hg5 hlies5)
      clear hown5 hg5 hlies5
      refine kpL hK (HKP.out _ HC2.out.below) ?_
      clear hK K hHeld;intro hHeld
      (try simp only [Act.put,pu1,pu2,pu3])
      have hs:=hdd (show(3:Nat)=3 from rfl)
     rotate_left
     focus
      go_simp
      have HC2:=hdd (HC1.out.allocB)
      refine kpL hK (HKP.out _ HC2.out.below) ?_
      clear hK K hHeld;intro hHeld
      (try simp only [Act.put,pu1,pu2,pu3])
      generalize w1y.alloc (.cells #[.string f1.name,.slice fa1 f1.params.length fc1,.slice ba1 f1.body.length bc1] 42)=w2y at HC2 hHeld ⊢
      generalize w1y.heap.size=bb at HC2 ⊢
      have hs:=hdd (show(4:Nat)=4 from rfl)
     rotate_left
    |
     guard_hyp hs:Hid ((2:Nat)=2)
     clear hs
     refine Z06 0 (some 122) fun K hK=>?_
     go_simp
     have HC2:=hdd (HC1.out.allocA)
     refine kpL hK (HKP.out _ HC2.out.below) ?_
     clear hK K hHeld;intro hHeld
     (try simp only [Act.put,pu1,pu2,pu3])
     generalize w1y.alloc (.cells #[] 42)=w2y at HC2 hHeld ⊢
     generalize w1y.heap.size=ab at HC2 ⊢
     have hs:=hdd (show(4:Nat)=4 from rfl)
   all_goals
    first
    |
     guard_hyp hs:Hid ((3:Nat)=3)
     clear hs
     refine Z06 8 (some 130) fun K hK=>?_
     go_simp
     have HC3:=hdd (HC2.out.allocB)
     refine kpL hK (HKP.out _ HC3.out.below) ?_
     clear hK K hHeld;intro hHeld
     (try simp only [Act.put,pu1,pu2,pu3])
     generalize w2y.alloc (.cells #[.string f1.name,.slice fa1 f1.params.length fc1,.slice ba1 f1.body.length bc1] 42)=w3y at HC3 hHeld ⊢
     generalize w2y.heap.size=bb at HC3 ⊢
     have hs:=hdd (show(5:Nat)=5 from rfl)
    |
     guard_hyp hs:Hid ((4:Nat)=4)
     clear hs
     refine Z06 3 (some 125) fun K hK=>?_
     refine Z4A rfl (.tmp 122) (.tmp 124) rfl w5.heap.size _ 0 [] rfl (HC2.out.list _ _ _ rfl).1 _ ps.length _ cells0 rfl (HROW0.out.later HC2.out.below) HC0N.out HCL0.out HONE0.out HN0.out HC2.out.below.size ?_
     intro a5 c5 w3y hown5 hg5 hlies5
     simp only [Nat.zero_add,List.nil_append] at hown5 hlies5 ⊢
     have HC3:=hdd (HC2.out.app hown5 hg5 hlies5)
     clear hown5 hg5 hlies5
     refine kpL hK (HKP.out _ HC3.out.below) ?_
     clear hK K hHeld;intro hHeld
     (try simp only [Act.put,pu1,pu2,pu3])
     have hs:=hdd (show(5:Nat)=5 from rfl)
   all_goals
    clear hs
    refine Z06 9 (some 131) fun K hK=>?_
    refine Z4A rfl (.tmp 125) (.tmp 130) rfl w5.heap.size _ ps.length _ rfl (HC3.out.list _ _ _ rfl).1 _ 1 1 [[.string f1.name,.slice fa1 f1.params.length fc1,.slice ba1 f1.body.length bc1]] rfl (Z51 (HC3.out.one _ rfl).1) rfl HCL1.out HONE1.out HN1.out HC3.out.below.size ?_
    intro a9 c9 w4y hown9 hg9 hlies9
    have HC4:=hdd (HC3.out.app hown9 hg9 hlies9)
    clear hown9 hg9 hlies9
    refine kpL hK (HKP.out _ HC4.out.below) ?_
    clear hK K hHeld;intro hHeld
    (try simp only [Act.put,pu1,pu2,pu3])
    refine tkL 11 10 (some 132) hHeld ?_
    (try simp only [Act.put,pu1,pu2,pu3])
    have hs:=hdd (show(6:Nat)=6 from rfl)
   all_goals
    clear hs
    refine Z06 11 none fun K hK=>?_
    have hRow:=HRW.out _ HC4.out.below
    have y0:=frR _ _ 0 _ _ hRow
    have r0:=coR _ _ 0 _ _ _ hRow
    simp only [ga0,ga1] at r0
    go_simp
    clear y0 r0 hRow
    refine hK.out _ _ (Z15 (by kernel_rfl)) ?_
    clear hK K hHeld
    (try simp only [Act.put,pu1,pu2,pu3])
    have hs:=hdd (show(7:Nat)=7 from rfl)
   all_goals
    clear hs
    refine Zq (by kernel_rfl) ?_ _
    have hfin:=Zu.chained (Z2 20) HB5.out.1 HC4.out HC0N.out HCL0.out HEL0.out HST.out (fun k h=>h)
    have HFIN:=hdd hfin
    clear hfin hpos hposI
    go_wp2_with fail
    refine bodyPost_ret (results_cell_row rfl _ _ rb 25 (List.toArray [.slice a9 (ps.length+1) c9]) (0,0) _ rfl ?_ Tryz.underlying25 rfl (by kernel_rfl)) rfl ?_
    ·exact(hSs _ rb 0 _ _ _ HFIN.out.1.rrow).trans rfl
    have hlen9:(ps++[f1]).length=ps.length+1:=by simp
    rw [← hlen9]
    exact HFIN.out.1.ret (Z7g HPF.out HVF.out.1 HF1.out) (by have:=HR5.out.1;omega) (HFIN.out.2.mono (Z2 20) (fun k _ h=>⟨h.1,h.2.1⟩)) (by have:=HPL.out;simp;omega)
  have e7:(v==7)=false:=by simpa using h7
  clear h7
  go_wp2_with fail
  go_meet
  exact⟨_,_,_,_,_,_,hdd ⟨HB5.out.1.more (by omega),by have:=HB5.out.2.1;omega,by have:=HB5.out.2.2;omega,by
   have n0:¬v=0:=by simpa using e0
   have n1:¬v=1:=by simpa using e1
   have n2:¬v=2:=by simpa using e2
   have n3:¬v=3:=by simpa using e3
   have n4:¬v=4:=by simpa using e4
   have n6:¬v=6:=by simpa using e6
   simp only [Z6v,if_neg n0,if_neg n1,if_neg n2,if_neg n3,if_neg n4,if_neg n6],by simpa using e5,by simpa using e7⟩⟩
 case rest=>
  obtain⟨lo,gpa,gba,gpc,gbc,g,HG⟩:=hcut
  have HU:=hdd HG.out.1.up
  have HGL:=hdd (show g.params.length≤100∧g.body.length≤100 from⟨HG.out.2.1,HG.out.2.2.1⟩)
  have HGF:=hdd HG.out.2.2.2
  obtain⟨cells,r1,r2,r3,r4⟩:=HU.out.plist.rows
  have HR4:=hdd r4
  have HR1:=hdd r1
  have HR23:=hdd (aI r2 r3)
  have hone:∀cl∈cells,∀u∈cl,u.oneCell'=true:=fun cl hcl=>by
   obtain⟨i,hi,he⟩:=List.getElem_of_mem hcl
   have hi2:i<ps.length:=by omega
   exact Z28 (r4 i cl _ (by rw [List.getElem?_eq_getElem hi,he]) (List.getElem?_eq_getElem hi2))
  have HONE:=hdd hone
  have hba:Below wc.heap.size wc (wc.alloc (.cells #[] 42)):=(bRf _ _).alloc (Nat.le_refl _) _
  have p0:(wc.alloc (.cells #[] 42)).cell? ⟨pb,0,none⟩=some (.slice (some ⟨b,off,none⟩) ps.length pc):=clT hba (coR _ _ 0 _ _ _ HU.out.prow)
  have HBA:=hdd hba
  clear r1 r2 r3 r4 hone hba
  go_upto_region 29 with(at_builtin;refine Z8u rfl (.tmp 133) (.tmp 135) rfl wc.heap.size _ 0 [] rfl (Z0i _ _ _ _ (Nat.le_refl _)) _ ps.length pc cells rfl (HR1.out.later HBA.out) HR23.out.1 HR23.out.2 HONE.out (by have:=HPL.out;omega) HBA.out.size ?_;intro a6 c6 w6 hown6 hg6 hlies6;(simp only [Nat.zero_add,List.nil_append] at hown6 hlies6 ⊢);(have HG6:=hdd (HU.out.copied (Z2 20) HR23.out.1 HR23.out.2 HR4.out hown6 hg6 hlies6));clear hown6 hg6 hlies6)
  obtain⟨g6,rfl,hg6⟩:=HG6.out.2.addr (by have:=HPL.out;omega)
  obtain⟨j,hj⟩:∃j,ps.length=j+1:=⟨ps.length-1,by have:=HPL.out;omega⟩
  obtain⟨⟨d,hd,hcell⟩,hfz,hput⟩:=HG6.out.2.put (Z2 20) (j:=j) (by omega)
  obtain⟨d0,d1,d2,rfl⟩:∃d0 d1 d2,d=[d0,d1,d2]:=by
   match d,hd with
   | [d0,d1,d2],_=>exact⟨d0,d1,d2,rfl⟩
  have z0:w6.cell? ⟨g6,j*3,none⟩=some d0:=hcell 0 _ rfl
  have z1:w6.cell? ⟨g6,j*3+1,none⟩=some d1:=hcell 1 _ rfl
  have z2:w6.cell? ⟨g6,j*3+2,none⟩=some d2:=hcell 2 _ rfl
  have y0:=hfz (j*3)
  have y1:=hfz (j*3+1)
  have y2:=hfz (j*3+2)
  have k0:=coR _ _ 0 _ _ _ HG6.out.1.frow
  have k1:=coR _ _ 1 _ _ _ HG6.out.1.frow
  have k2:=coR _ _ 2 _ _ _ HG6.out.1.frow
  simp only [ga0,ga1,ga2] at k0 k1 k2
  have HPUT:=hdd (hput [.string g.name,.slice gpa g.params.length gpc,.slice gba g.body.length gbc] g ((Z2 20).mono (fun k _ h=>⟨⟨h.1,h.2.2⟩,fun e=>by have:=h.2.1;omega⟩) (HG6.out.1.fP HGL.out.1 HGL.out.2)))
  have HOWN:=hdd hg6
  obtain⟨L,hL⟩:∃L,L=ps.length:=⟨_,rfl⟩
  have hqw:wrap64 ((L:Int)-1)=(j:Int):=by rw [IntWalk.wrap64_in _ (by have:=HPL.out;omega)];omega
  have hq0:(0:Int)≤(j:Int):=by omega
  have hq1:(j:Int)<(L:Int):=by omega
  have hq2:j<L:=by omega
  rw [← hL]
  have HLL:=hdd (aI hL hj)
  clear hL hj hcell hfz hput hg6 p0
  go_upto_region 30 with fail
  clear z0 z1 z2 y0 y1 y2 k0 k1 k2 hqw hq0 hq1 hq2
  have HE:=hdd (show ∃q,q≤p+640000∧(w6.setCells g6 (j*3) [.string g.name,.slice gpa g.params.length gpc,.slice gba g.body.length gbc]).heap[rb]? = some (.cells #[.slice none 0 0] 25 (0,0))∧Rd w0 (w6.setCells g6 (j*3) [.string g.name,.slice gpa g.params.length gpc,.slice gba g.body.length gbc]) br a len cap bs q∧Zd br w (w6.setCells g6 (j*3) [.string g.name,.slice gpa g.params.length gpc,.slice gba g.body.length gbc])∧Za 3 (FnP 20) (fun k=>w.heap.size≤k∧k≠rb) (w6.setCells g6 (j*3) [.string g.name,.slice gpa g.params.length gpc,.slice gba g.body.length gbc]) (some ⟨g6,0,none⟩) (ps.set j g)∧(ps.set j g).length=L∧L≤4∧w.heap.size≤rb∧br<w.heap.size∧w0.heap.size≤w.heap.size from by
   have h9:=HG6.out.1.own (T:=fun k=>k=g6) HPUT.out.2 (fun k _ h=>by have h:k=g6:=h;have:=HOWN.out;omega)
   obtain⟨q,hq,hrd⟩:=h9.rd
   have hlt:=h9.lt
   refine⟨q,hq,h9.rrow,hrd,h9.t,(HPUT.out.1.list (Z2 20)).mono (Z2 20) (fun k _ h=>?_),by rw [List.length_set];exact HLL.out.1.symm,by have:=HPL.out;have:=HLL.out.1;omega,hlt.2.2.1,hlt.1,hlt.2.1⟩
   rcases h with h|h
   ·exact⟨h.1,h.2.1⟩
   ·exact⟨by omega,by omega⟩)
  rw [Z9v] at HE
  clear HPUT HG6 HU HG HR4 HR1 HR23 HONE HBA
  generalize ((w6.setCell ⟨g6,j*3,none⟩ (.string g.name)).setCell ⟨g6,j*3+1,none⟩ (.slice gpa g.params.length gpc)).setCell ⟨g6,j*3+2,none⟩ (.slice gba g.body.length gbc)=w7 at HE ⊢
  obtain⟨q,hq,hrow,hrd,ht,hl,hlen9,hL4,hrb,hbr⟩:=HE.out
  have HF:=hdd (aI hq (aI hrow (aI hrd (aI ht (aI hl (aI hlen9 (aI hL4 (aI hrb hbr))))))))
  have r0:=coR _ _ 0 _ _ _ hrow
  have y0:=frR _ _ 0 _ _ hrow
  simp only [ga0,ga1] at r0
  clear hq hrow hrd ht hl hlen9 hL4 hrb hbr HE
  go_wp2
  refine bodyPost_ret (results_cell_row rfl _ _ rb 25 (List.toArray [.slice (some ⟨g6,0,none⟩) L c6]) (0,0) _ rfl ?_ Tryz.underlying25 rfl (by kernel_rfl)) rfl ?_
  ·exact(hSs w7 rb 0 _ _ _ HF.out.2.1).trans rfl
  obtain⟨hq,hrow,hrd,ht,hl,hlen9,hL4,hrb,hbr,hw0⟩:=HF.out
  have hts:=Z4 w7 rb 0 (.slice (some ⟨g6,0,none⟩) L c6)
  refine⟨some ⟨g6,0,none⟩,c6,ps.set j g,q,by rw [hlen9],by omega,(hl.turned (Z2 20) hts (fun k _ h=>h.2)).mono (Z2 20) (fun k _ h=>h.1),hq,⟨hrd.bytes,hrd.below.trans (hts.below (B:=w0.heap.size) hrd.below.size (fun k hk=>by have hk:k=rb:=hk;omega)),hrd.base,(hts.block _ hrd.lt (fun e=>by have e:br=rb:=e;omega)).trans hrd.blk⟩,?_,Z9Y HPF.out ⟨HVF.out.1,HVF.out.2⟩ HFJ.out HGF.out HLL.out.2⟩
  exact Ze.trans (S:=fun k=>k=br∨w.heap.size≤k) ht (hts.mono (fun k hk=>.inr (by have hk:k=rb:=hk;omega)))
end
end Go.Proofs.YtloooebabieeeaaGreatDoor
