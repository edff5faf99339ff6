/-
  The reference draws programs: the ladder of blocks; a function.
-/
import Derived.Test.YtloooebabieeeaaGreatDoorCp
import Derived.Test.YtloooebabieeeaaGreatDoorGo
import Derived.Test.YtloooebabieeeaaGreatDoorGw
set_option maxRecDepth 100000
set_option maxHeartbeats 16000000
set_option linter.unusedVariables false
namespace Go.Proofs.YtloooebabieeeaaGreatDoor
open Go.RowKit
theorem Za.pre {α : Type} {s:Nat} {R:Z2u α} {S:Nat→Prop} {w:World} {a:Option Addr} {xs:List α} (h:Za s R S w a xs) (n:Nat):Za s R S w a (xs.take n):=by
 obtain⟨h1,cells,h2,h3,h4,h5⟩:=h.rd
 refine⟨⟨rfl,cells.take n,?_,by simp [h3],fun c hc=>h4 c (List.mem_of_mem_take hc),fun i c x hc hx=>?_⟩,fun hn=>h.blk (fun e=>hn (by rw [e];simp))⟩
 ·have hf:cells.flatten=(cells.take n).flatten++(cells.drop n).flatten:=by rw [← List.flatten_append,List.take_append_drop]
  rcases h2 with h2|⟨b,off,he,h2⟩
  ·rw [hf] at h2
   exact .inl (List.append_eq_nil_iff.1 h2).1
  ·refine .inr ⟨b,off,he,fun i v hv=>h2 i v ?_⟩
   rw [hf,List.getElem?_append_left (List.getElem?_eq_some_iff.1 hv).1]
   exact hv
 ·have hi:=(List.getElem?_eq_some_iff.1 hc).1
  rw [List.length_take] at hi
  rw [List.getElem?_take_of_lt (by omega)] at hc hx
  exact h5 i c x hc hx
def Z4c (bs:List Int) (fns:List FnD):GS→List Zb×GS:=Z5D bs (Z6x bs fns (fun s=>([],s)) (fun s=>([],s)) 1)
def Z48 (bs:List Int) (fns:List FnD):GS→List Zb×GS:=Z5D bs (Z6x bs fns (Z4c bs fns) (Z6n bs (Z4c bs fns)) 2)
def Za9 (bs:List Int) (fns:List FnD):GS→List Zb×GS:=Z5D bs (Z6x bs fns (Z48 bs fns) (Z6n bs (Z48 bs fns)) 3)
def fnF (bs:List Int) (fns:List FnD) (name:ByteArray) (n:Nat) (p:Nat) (left:Int):FnD×GS:=
 let vs:List ByteArray:=([⟨#[97]⟩,⟨#[98]⟩,⟨#[99]⟩]:List ByteArray).take n
 let r:=Za9 bs fns ⟨p,vs,(n:Int)-1,left⟩
 if 0<r.2.left then
  if 0<ZP bs 4 r.2.p then
   let e:=Z0f bs fns vs 2 (r.2.p+1)
   (⟨name,vs,r.1++[.mk 7 ⟨#[]⟩ [e.1] [] []]⟩,⟨e.2,vs,r.2.next,r.2.left-1⟩)
  else (⟨name,vs,r.1⟩,⟨r.2.p+1,vs,r.2.next,r.2.left⟩)
 else (⟨name,vs,r.1⟩,⟨r.2.p,vs,r.2.next,r.2.left⟩)
theorem Z4d {w:World} {br g:Nat} {x0 x1 x2:Value} (h:br≠g):Z5 (((w.setCell ⟨g,0,none⟩ x0).setCell ⟨g,1,none⟩ x1).setCell ⟨g,2,none⟩ x2) br=Z5 w br:=by rw [Z0b h,Z0b h,Z0b h]
section
variable {w0:World} {br bg:Nat} {a:Option Addr} {len cap:Nat} {bs:List Int} {fa:Option Addr} {fc:Nat} {fns:List FnD}
theorem Z9y (hlen:len≤2000):Z64 w0 br bg a len cap bs fa fc fns 3 3 204473 (Za9 bs fns):=by
 have s1:Zag w0 br bg a len cap bs fa fc fns 1 1 700 (Z6x bs fns (fun s=>([],s)) (fun s=>([],s)) 1):=Z5c hlen 1 1 0 (by omega) (by omega) _ _ (fun h=>absurd h (by omega)) (fun h=>absurd h (by omega))
 have b1:Z64 w0 br bg a len cap bs fa fc fns 1 1 2801 (Z4c bs fns):=Z40 hlen 1 1 700 _ s1
 have l2:Zb0 w0 br bg a len cap bs fa fc fns 2 2 3401 (Z6n bs (Z4c bs fns)):=Z7k hlen 2 (by omega) 1 2801 (by omega) _ b1
 have s2:Zag w0 br bg a len cap bs fa fc fns 2 2 6302 (Z6x bs fns (Z4c bs fns) (Z6n bs (Z4c bs fns)) 2):=Z5c hlen 2 2 2801 (by omega) (by omega) _ _ (fun _=>⟨1,rfl,b1⟩) (fun _=>l2)
 have b2:Z64 w0 br bg a len cap bs fa fc fns 2 2 25209 (Z48 bs fns):=Z40 hlen 2 2 6302 _ s2
 have l3:Zb0 w0 br bg a len cap bs fa fc fns 3 3 25809 (Z6n bs (Z48 bs fns)):=Z7k hlen 3 (by omega) 2 25209 (by omega) _ b2
 have s3:Zag w0 br bg a len cap bs fa fc fns 3 3 51118 (Z6x bs fns (Z48 bs fns) (Z6n bs (Z48 bs fns)) 3):=Z5c hlen 3 3 25209 (by omega) (by omega) _ _ (fun _=>⟨2,rfl,b2⟩) (fun _=>l3)
 exact Z40 hlen 3 3 51118 _ s3
variable {w wb:World} {va:Option Addr} {vc:Nat} {vars:List ByteArray} {next left next' left':Int}
structure FnA (w0 w wb:World) (br bg:Nat) (a:Option Addr) (len cap:Nat) (bs:List Int) (fa:Option Addr) (fc:Nat) (fns:List FnD) (va:Option Addr) (vc:Nat) (vars:List ByteArray) (next left:Int) (u rb tb:Nat) (name:ByteArray) (pa:Option Addr) (pc:Nat) (ps:List ByteArray) (ba:Option Addr) (bc m:Nat) (wr:World):Prop where
 g:GSt w0 br bg a len cap bs fa fc fns u va vc vars next left wr
 t:Zf br bg w wr
 lt:br<w.heap.size∧bg<w.heap.size∧w0.heap.size≤w.heap.size∧w.heap.size≤rb∧rb<wb.heap.size∧w.heap.size≤tb∧tb<wb.heap.size∧rb≠tb
 rrow:wr.heap[rb]? = some (.cells #[.string ⟨#[]⟩,.slice none 0 0,.slice none 0 0] 42 (0,0))
 trow:wr.heap[tb]? = some (.cells #[.string name,.slice pa ps.length pc,.slice ba m bc] 42 (0,0))
 params:Za 1 Z1V (fun k=>w.heap.size≤k∧k<wb.heap.size∧k≠rb∧k≠tb) wr pa ps
 vlow:Za 1 Z1V (fun k=>w.heap.size≤k∧k<wb.heap.size∧k≠rb∧k≠tb) wr va vars
 flow:Za 3 (FnP 20) (fun k=>k≠br∧k≠bg∧k<wb.heap.size∧k≠rb∧k≠tb) wr fa fns
 up:wb.heap.size≤wr.heap.size
variable {u u' rb tb:Nat} {name:ByteArray} {pa ba ba':Option Addr} {pc bc m bc' m':Nat} {ps:List ByteArray} {wr w':World}
theorem FnA.step2 (h:FnA w0 w wb br bg a len cap bs fa fc fns va vc vars next left u rb tb name pa pc ps ba bc m wr) (ht:Zf br bg wr w') (hg:GSt w0 br bg a len cap bs fa fc fns u' va vc vars next' left' w'):FnA w0 w wb br bg a len cap bs fa fc fns va vc vars next' left' u' rb tb name pa pc ps ba bc m w':=by
 have hl:=h.lt
 have hne:∀k,(w.heap.size≤k∧k<wb.heap.size∧k≠rb∧k≠tb)→k≠br∧k≠bg:=fun k hk=>⟨by omega,by omega⟩
 exact⟨hg,h.t.trans ht,hl,(ht.block (gsI h.rrow).1 (by omega) (by omega)).trans h.rrow,(ht.block (gsI h.trow).1 (by omega) (by omega)).trans h.trow,ht.list Z3 h.params hne,ht.list Z3 h.vlow hne,ht.list (Z2 20) h.flow (fun k h=>⟨h.1,h.2.1⟩),Nat.le_trans h.up ht.size⟩
theorem FnA.later (h:FnA w0 w wb br bg a len cap bs fa fc fns va vc vars next left u rb tb name pa pc ps ba bc m wr) (hb:Below wr.heap.size wr w'):FnA w0 w wb br bg a len cap bs fa fc fns va vc vars next left u rb tb name pa pc ps ba bc m w':=h.step2 (Zf.below hb) (h.g.later hb)
theorem FnA.own (h:FnA w0 w wb br bg a len cap bs fa fc fns va vc vars next left u rb tb name pa pc ps ba bc m wr) {T:Nat→Prop} (ht:Ze T wr w') (hT:∀k,k<wr.heap.size→T k→wb.heap.size≤k):FnA w0 w wb br bg a len cap bs fa fc fns va vc vars next left u rb tb name pa pc ps ba bc m w':=by
 have hl:=h.lt
 have hv:=h.vlow.turned Z3 ht (fun k hk h1 h2=>by have:=hT k hk h2;omega)
 have hp:=h.params.turned Z3 ht (fun k hk h1 h2=>by have:=hT k hk h2;omega)
 have hf:=h.flow.turned (Z2 20) ht (fun k hk h1 h2=>by have:=hT k hk h2;omega)
 refine⟨h.g.other ht (fun k hk h1=>by have:=hT k hk h1;omega) (hv.mono Z3 (fun k _ h=>by have h:w.heap.size≤k∧_:=h;omega)) (hf.mono (Z2 20) (fun k _ h=>⟨h.1,h.2.1⟩)),?_,hl,(ht.block rb (gsI h.rrow).1 (fun e=>by have:=hT rb (gsI h.rrow).1 e;omega)).trans h.rrow,(ht.block tb (gsI h.trow).1 (fun e=>by have:=hT tb (gsI h.trow).1 e;omega)).trans h.trow,hp,hv,hf,Nat.le_trans h.up ht.size⟩
 have h1:Ze (fun k=>k=br∨k=bg∨w.heap.size≤k) w wr:=h.t
 have h2:=h.t.size
 exact⟨ht.os.trans h1.os,ht.tape.trans h1.tape,ht.output.trans h1.output,Nat.le_trans h1.size ht.size,fun k hk hn=>(ht.block k (by omega) (fun e=>by have:=hT k (by omega) e;omega)).trans (h1.block k hk hn)⟩
theorem FnA.put (h:FnA w0 w wb br bg a len cap bs fa fc fns va vc vars next left u rb tb name pa pc ps ba bc m wr):FnA w0 w wb br bg a len cap bs fa fc fns va vc vars next left u rb tb name pa pc ps ba' bc' m' (wr.setCell ⟨tb,2,none⟩ (.slice ba' m' bc'))∧Ze (fun k=>k=tb) wr (wr.setCell ⟨tb,2,none⟩ (.slice ba' m' bc')):=by
 have ht:=Z4 wr tb 2 (.slice ba' m' bc')
 have hl:=h.lt
 have hv:=h.vlow.turned Z3 ht (fun k hk h1 h2=>by have h2:k=tb:=h2;omega)
 have hp:=h.params.turned Z3 ht (fun k hk h1 h2=>by have h2:k=tb:=h2;omega)
 have hf:=h.flow.turned (Z2 20) ht (fun k hk h1 h2=>by have h2:k=tb:=h2;omega)
 refine⟨⟨h.g.other ht (fun k hk h1=>by have h1:k=tb:=h1;omega) (hv.mono Z3 (fun k _ h=>by have h:w.heap.size≤k∧_:=h;omega)) (hf.mono (Z2 20) (fun k _ h=>⟨h.1,h.2.1⟩)),?_,hl,(ht.block rb (gsI h.rrow).1 (fun e=>by omega)).trans h.rrow,(hSs wr tb 2 _ _ _ h.trow).trans rfl,hp,hv,hf,Nat.le_trans h.up ht.size⟩,ht⟩
 exact Ze.trans (S:=fun k=>k=br∨k=bg∨w.heap.size≤k) h.t (ht.mono (fun k hk=>by omega))
theorem FnA.push {lb:Nat} {ba2 a9:Option Addr} {bc2 c9:Nat} {xs:List Zb} {cells:List (List Value)} {lc:List Value} {less:Zb} {W w9:World} (h:FnA w0 w wb br bg a len cap bs fa fc fns va vc vars next left u rb tb name pa pc ps ba bc m wr) (hb:Below wr.heap.size wr W)
  (hr:Z1Y 5 (Zv 3) 48 (fun k=>wb.heap.size≤k) wb.heap.size wr ba2 xs.length bc2 xs cells) (hl:Zv 1 (fun k=>lb≤k) W lc less) (ho:∀k,(Value.slice ba2 xs.length bc2).ownBlock=some k→wb.heap.size≤k∧k<lb) (hlb:wb.heap.size≤lb)
  (hown:w9.ownsRow wb.heap.size 48 5 (.slice a9 (xs.length+1) c9) (xs.length+1) (cells.flatten++[lc].flatten)) (hg:W.grownBy w9 (Value.slice ba2 xs.length bc2).ownBlock)
  (hlies:(Value.slice a9 (xs.length+1) c9).ownBlock=(Value.slice ba2 xs.length bc2).ownBlock∨(Value.slice a9 (xs.length+1) c9).ownBlock=some W.heap.size) :
  FnA w0 w wb br bg a len cap bs fa fc fns va vc vars next left u rb tb name pa pc ps ba bc m w9∧Za 5 (Zv 3) (fun k=>wb.heap.size≤k) w9 a9 (xs++[less])∧Z5 w9 br=Z5 wr br:=by
 have ht:=Zi hg (S:=fun k=>(Value.slice ba2 xs.length bc2).ownBlock=some k) (fun k hk=>hk)
 refine⟨(h.later hb).own ht (fun k _ hk=>(ho k hk).1),?_,by
  have hl1:=h.g.lts.1
  have hs1:=hb.size
  have hlt2:=h.lt
  rw [Z1u ht (by omega) (fun e=>by have:=(ho br e).1;omega),Zs hb hl1]⟩
 have hk:=Z1Y.pushes (Z0 3) (hr.below (Z0 3) hb) rfl (cls:=[lc]) (ys:=[less]) rfl (by intro cl hcl;simp at hcl;subst hcl;exact Z4X hl) (fun i cl y h1 h2=>by
  match i with
  | 0=>
   cases h1;cases h2
   exact(Z0 3).mono (fun k _ hk=>⟨Nat.le_trans hlb hk,fun e=>by have:=(ho k e).2;have hk:lb≤k:=hk;omega⟩) (Z1O (by omega:1≤3) hl)
  | i+1=>cases h1) hown hg hlies
 exact(hk.list (Z0 3)).mono (Z0 3) (fun k _ h=>h.elim id id)
theorem Z3T (w:World) (A:Obj) (lc:List Value):Z0g ((w.alloc A).alloc (.cells lc.toArray 48)) (some ⟨w.heap.size+1,0,none⟩) [lc].flatten:=by
 rw [show [lc].flatten=lc by simp]
 have h:=Zc (w.alloc A) lc 48
 rw [World.size_alloc] at h
 exact h
theorem FnA.fin (h:FnA w0 w wb br bg a len cap bs fa fc fns va vc vars next left u rb tb name pa pc ps ba bc m wr) {ys:List Zb} (hy:Za 5 (Zv 3) (fun k=>wb.heap.size≤k) wr ba ys) (hm:ys.length=m) (hl9:ys.length≤9) (hp3:ps.length≤3) (hn:name.size≤maxLen) :
  (((wr.setCell ⟨rb,0,none⟩ (.string name)).setCell ⟨rb,1,none⟩ (.slice pa ps.length pc)).setCell ⟨rb,2,none⟩ (.slice ba m bc)).heap[rb]? = some (.cells (List.toArray [.string name,.slice pa ps.length pc,.slice ba m bc]) 42 (0,0))∧FnP 3 (fun k=>w.heap.size≤k) (((wr.setCell ⟨rb,0,none⟩ (.string name)).setCell ⟨rb,1,none⟩ (.slice pa ps.length pc)).setCell ⟨rb,2,none⟩ (.slice ba m bc)) [.string name,.slice pa ps.length pc,.slice ba m bc] ⟨name,ps,ys⟩∧GSt w0 br bg a len cap bs fa fc fns u va vc vars next left (((wr.setCell ⟨rb,0,none⟩ (.string name)).setCell ⟨rb,1,none⟩ (.slice pa ps.length pc)).setCell ⟨rb,2,none⟩ (.slice ba m bc))∧Za 1 Z1V (fun k=>w.heap.size≤k) (((wr.setCell ⟨rb,0,none⟩ (.string name)).setCell ⟨rb,1,none⟩ (.slice pa ps.length pc)).setCell ⟨rb,2,none⟩ (.slice ba m bc)) va vars∧Zf br bg w (((wr.setCell ⟨rb,0,none⟩ (.string name)).setCell ⟨rb,1,none⟩ (.slice pa ps.length pc)).setCell ⟨rb,2,none⟩ (.slice ba m bc)):=by
 have hs3:(((wr.setCell ⟨rb,0,none⟩ (.string name)).setCell ⟨rb,1,none⟩ (.slice pa ps.length pc)).setCell ⟨rb,2,none⟩ (.slice ba m bc))=wr.setCells rb 0 [.string name,.slice pa ps.length pc,.slice ba m bc]:=rfl
 rw [hs3]
 have ht:=ZB (g:=rb) [.string name,.slice pa ps.length pc,.slice ba m bc] wr 0
 have hl:=h.lt
 have hv:=h.vlow.turned Z3 ht (fun k hk h1 h2=>by have h2:k=rb:=h2;omega)
 have hp:=h.params.turned Z3 ht (fun k hk h1 h2=>by have h2:k=rb:=h2;omega)
 have hf:=h.flow.turned (Z2 20) ht (fun k hk h1 h2=>by have h2:k=rb:=h2;omega)
 have hy2:=hy.turned (Z0 3) ht (fun k hk h1 h2=>by have h1:wb.heap.size≤k:=h1;have h2:k=rb:=h2;omega)
 refine⟨?_,⟨pa,pc,ba,bc,by rw [hm],⟨hn,Nat.le_trans hp3 (by decide),Nat.le_trans hl9 (by decide)⟩,hp.mono Z3 (fun k _ h=>h.1),hy2.mono (Z0 3) (fun k _ h=>by have h:wb.heap.size≤k:=h;omega)⟩,h.g.other ht (fun k hk h1=>by have h1:k=rb:=h1;omega) (hv.mono Z3 (fun k _ h=>by have h:w.heap.size≤k∧_:=h;omega)) (hf.mono (Z2 20) (fun k _ h=>⟨h.1,h.2.1⟩)),hv.mono Z3 (fun k _ h=>h.1),Ze.trans (S:=fun k=>k=br∨k=bg∨w.heap.size≤k) h.t (ht.mono (fun k hk=>by omega))⟩
 have:=ZF (w:=wr) (A:=[]) (B:=[.string ⟨#[]⟩,.slice none 0 0,.slice none 0 0]) (C:=[]) (vs:=[.string name,.slice pa ps.length pc,.slice ba m bc]) (o:=0) rfl (by simp) (by simpa using h.rrow)
 simpa using this
theorem Za2 (hlen:len≤2000) (name:ByteArray) (hname:name.size≤maxLen) (n:Nat) (hn:n≤3) (u:Nat) (w:World) (h:GSt w0 br bg a len cap bs fa fc fns u va vc vars next left w) (hu:u+204800≤1990000) :
  Calls Tryz.prog 34 #[.pointer (some ⟨bg,0,none⟩),.string name,.int .i64 (n:Int)] w fun e w'=>∃(pa ba va':Option Addr) (pc bc vc':Nat) (f:FnD) (vars':List ByteArray) (next' left':Int),e=.returned (.agg (List.toArray [.string f.name,.slice pa f.params.length pc,.slice ba f.body.length bc]))∧
   FnP 3 (fun k=>w.heap.size≤k) w' [.string f.name,.slice pa f.params.length pc,.slice ba f.body.length bc] f∧f.params.length≤3∧GSt w0 br bg a len cap bs fa fc fns (u+204800) va' vc' vars' next' left' w'∧Za 1 Z1V (fun k=>w.heap.size≤k) w' va' vars'∧Zf br bg w w'∧fnF bs fns name n (Z5 w br) left=(f,⟨Z5 w' br,vars',next',left'⟩):=by
 have HU:=hdd hu
 have HL:=hdd (show br<w.heap.size∧bg<w.heap.size∧w0.heap.size≤w.heap.size from⟨h.lts.1,h.lts.2,by obtain⟨p,_,hp⟩:=h.rd;exact hp.below.size⟩)
 have HNM:=hdd hname
 have HFL:=hdd h.flist
 have hn3:(n:Int)≤3:=by omega
 have hn0:(0:Int)≤(n:Int):=by omega
 have hnw:wrap64 ((n:Int)-1)=(n:Int)-1:=IntWalk.wrap64_in _ (by omega)
 have H1:=hdd (h.alloc (.cells #[.string ⟨#[]⟩,.slice none 0 0,.slice none 0 0] 42))
 have HR1:=hdd (aI (hAn w (.cells #[.string ⟨#[]⟩,.slice none 0 0,.slice none 0 0] 42)) (World.size_alloc w (.cells #[.string ⟨#[]⟩,.slice none 0 0,.slice none 0 0] 42)))
 have HT1:=hdd (Zf.alloc (br:=br) (bg:=bg) w (.cells #[.string ⟨#[]⟩,.slice none 0 0,.slice none 0 0] 42))
 have HBG:=hdd (show br≠bg by have:=h.base;omega)
 have HQ1:=hdd (show Z5 (w.alloc (.cells #[.string ⟨#[]⟩,.slice none 0 0,.slice none 0 0] 42)) br=Z5 w br from Zo h.lts.1)
 clear hu h hname
 go_enter Tryz.func34,Tryz.ntmps34
 go_upto_region 1 with fail
 obtain⟨rb,hrb⟩:∃n,n=w.heap.size:=⟨_,rfl⟩
 generalize w.alloc (.cells #[.string ⟨#[]⟩,.slice none 0 0,.slice none 0 0] 42)=w1 at H1 HR1 HT1 HQ1 ⊢
 rw [← hrb] at HR1 ⊢
 have HRB:=hdd hrb
 clear hrb
 have H2:=hdd (H1.out.alloc (.cells #[.string ⟨#[97]⟩,.string ⟨#[98]⟩,.string ⟨#[99]⟩] 9))
 have c2:=H2.out.c2
 have f2:=H2.out.f 2
 go_upto_region 2 with fail
 clear c2 f2
 obtain⟨vs,hvs⟩:∃vs:List ByteArray,vs=([⟨#[97]⟩,⟨#[98]⟩,⟨#[99]⟩]:List ByteArray).take n:=⟨_,rfl⟩
 have hvl:vs.length=n:=by rw [hvs,List.length_take];simp;omega
 have HVS:=hdd (show Za 1 Z1V (fun k=>k=w1.heap.size) (w1.alloc (.cells #[.string ⟨#[97]⟩,.string ⟨#[98]⟩,.string ⟨#[99]⟩] 9)) (some ⟨w1.heap.size,0,none⟩) vs from by
  rw [hvs]
  exact(Z9n (S:=fun k=>k=w1.heap.size) (xs:=[⟨#[97]⟩,⟨#[98]⟩,⟨#[99]⟩]) (t:=9) (hAn w1 _) rfl (by decide)).pre n)
 have HR2:=hdd (show(w1.alloc (.cells #[.string ⟨#[97]⟩,.string ⟨#[98]⟩,.string ⟨#[99]⟩] 9)).heap[rb]? = some (.cells #[.string ⟨#[]⟩,.slice none 0 0,.slice none 0 0] 42 (0,0)) from((bRf _ _:Below w1.heap.size w1 w1).alloc (Nat.le_refl _) _).block rb (gsI HR1.out.1).1 |>.trans HR1.out.1)
 have HT2:=hdd (HT1.out.trans (Zf.alloc w1 (.cells #[.string ⟨#[97]⟩,.string ⟨#[98]⟩,.string ⟨#[99]⟩] 9)))
 have HSZ2:=hdd (show(w1.alloc (.cells #[.string ⟨#[97]⟩,.string ⟨#[98]⟩,.string ⟨#[99]⟩] 9)).heap.size=w1.heap.size+1 from World.size_alloc _ _)
 have HLV:=hdd hvl
 have HVD:=hdd hvs
 have HQ2:=hdd (show Z5 (w1.alloc (.cells #[.string ⟨#[97]⟩,.string ⟨#[98]⟩,.string ⟨#[99]⟩] 9)) br=Z5 w br by rw [Zo H1.out.lts.1,HQ1.out])
 obtain⟨gb,hgb⟩:∃n,n=w1.heap.size:=⟨_,rfl⟩
 generalize (w1.alloc (.cells #[.string ⟨#[97]⟩,.string ⟨#[98]⟩,.string ⟨#[99]⟩] 9))=w2 at H2 HVS HR2 HT2 HSZ2 HQ2 ⊢
 have HGB:=hdd (show gb=w.heap.size+1 from by rw [hgb,HR1.out.2,HRB.out])
 rw [← hgb] at HVS HSZ2 ⊢
 clear hgb hvs
 have HS3:=hdd (H2.out.setVars (vc':=3) (HVS.out.mono Z3 (fun k _ hk=>by have hk:k=gb:=hk;have:=HGB.out;have:=HL.out;exact⟨by omega,by omega⟩)) (by rw [HLV.out];omega))
 rw [hvl] at HS3
 have HV3:=hdd (HVS.out.turned Z3 (Z4 w2 bg 2 (.slice (some ⟨gb,0,none⟩) n 3)) (fun k _ h1 h2=>by have h1:k=gb:=h1;have h2:k=bg:=h2;have:=HGB.out;have:=HL.out;omega))
 have HR3:=hdd (((Z4 w2 bg 2 (.slice (some ⟨gb,0,none⟩) n 3)).block rb (gsI HR2.out).1 (by have:=HRB.out;have:=HL.out;omega)).trans HR2.out)
 have HQ3:=hdd (show Z5 (w2.setCell ⟨bg,2,none⟩ (.slice (some ⟨gb,0,none⟩) n 3)) br=Z5 w br by rw [Z0b HBG.out,HQ2.out])
 clear hvl H2 HVS HR2
 generalize w2.setCell ⟨bg,2,none⟩ (.slice (some ⟨gb,0,none⟩) n 3)=w3 at HS3 HV3 HR3 HQ3 ⊢
 have c3:=HS3.out.1.c3
 have f3:=HS3.out.1.f 3
 go_upto_region 3 with fail
 clear c3 f3
 have HS4:=hdd (HS3.out.1.setNext (n':=(n:Int)-1) (by omega))
 have HV4:=hdd (HV3.out.turned Z3 (Z4 w3 bg 3 (.int .i64 ((n:Int)-1))) (fun k _ h1 h2=>by have h1:k=gb:=h1;have h2:k=bg:=h2;have:=HGB.out;have:=HL.out;omega))
 have HR4:=hdd (((Z4 w3 bg 3 (.int .i64 ((n:Int)-1))).block rb (gsI HR3.out).1 (by have:=HRB.out;have:=HL.out;omega)).trans HR3.out)
 have HSZ4:=hdd (show gb<(w3.setCell ⟨bg,3,none⟩ (.int .i64 ((n:Int)-1))).heap.size from by have:=HS4.out.2.size;have:=HS3.out.2.size;have:=HSZ2.out;omega)
 have HT4:=hdd ((HT2.out.trans HS3.out.2).trans HS4.out.2)
 have HQ4:=hdd (show Z5 (w3.setCell ⟨bg,3,none⟩ (.int .i64 ((n:Int)-1))) br=Z5 w br by rw [Z0b HBG.out,HQ3.out])
 clear HV3 HR3
 generalize w3.setCell ⟨bg,3,none⟩ (.int .i64 ((n:Int)-1))=w4 at HS4 HV4 HR4 HT4 HSZ4 HQ4 ⊢
 have HLB:=hdd (show Below w4.heap.size w4 (w4.alloc (.cells #[] 9)) from(bRf _ _).alloc (Nat.le_refl _) _)
 have c2:(w4.alloc (.cells #[] 9)).cell? ⟨bg,2,none⟩=some (.slice (some ⟨gb,0,none⟩) n 3):=by
  have h:=(HS4.out.1.later HLB.out).c2
  rw [HLV.out] at h
  exact h
 have hn9:0+n≤1099511627776:=by omega
 have HROW:=hdd ((HS4.out.1.later HLB.out).strs.rd.row)
 have hsz4:w4.heap.size≤(w4.alloc (.cells #[] 9)).heap.size:=by rw [World.size_alloc];omega
 go_upto_region 4 with(at_builtin;refine Z6h rfl (.tmp 20) (.tmp 24) rfl w4.heap.size _ 0 [] rfl (Z0i _ _ _ _ (Nat.le_refl _)) (some ⟨gb,0,none⟩) n 3 vs rfl HLV.out HROW.out (by rintro⟨⟩) hn9 hsz4 ?_;intro a5 c5 w5 hown5 hg5 hlies5;(simp only [Nat.zero_add,List.nil_append] at hown5 hlies5 ⊢))
 have hb5:Below w4.heap.size w4 w5:=HLB.out.grown hg5 (by simp) (fun j hj=>((Z0i w4 w4.heap.size 9 1 (Nat.le_refl _)).lt j hj).1)
 have HLW:=hdd (show w.heap.size≤w4.heap.size∧gb<w4.heap.size∧rb<w4.heap.size from⟨HT4.out.size,HSZ4.out,(gsI HR4.out).1⟩)
 have HP5:=hdd (Z6b (S:=fun k=>w4.heap.size≤k) hown5 HLV.out (Z0Y HV4.out) (fun k hk=>hk))
 have hsz5:=hb5.size
 have HA:=hdd (show FnA w0 w (w5.alloc (.cells #[.string name,.slice a5 n c5,.slice none 0 0] 42)) br bg a len cap bs fa fc fns (some ⟨gb,0,none⟩) 3 vs ((n:Int)-1) left u rb w5.heap.size name a5 c5 vs none 0 0 (w5.alloc (.cells #[.string name,.slice a5 n c5,.slice none 0 0] 42)) from by
  have hba:Below w5.heap.size w5 (w5.alloc (.cells #[.string name,.slice a5 n c5,.slice none 0 0] 42)):=(bRf _ _).alloc (Nat.le_refl _) _
  have hs6:(w5.alloc (.cells #[.string name,.slice a5 n c5,.slice none 0 0] 42)).heap.size=w5.heap.size+1:=World.size_alloc _ _
  have hb6:=hb5.trans (hba.mono hb5.size)
  have hl:=HL.out
  have hw:=HLW.out
  have hr:=HRB.out
  have hg:=HGB.out
  refine⟨HS4.out.1.later hb6,HT4.out.trans (Zf.below hb6),⟨hl.1,hl.2.1,hl.2.2,by omega,by omega,by omega,by omega,by omega⟩,(hb6.block rb hw.2.2).trans HR4.out,by rw [HLV.out];exact hAn w5 _,?_,?_,?_,Nat.le_refl _⟩
  ·exact((HP5.out.here Z3).mono Z3 (fun k _ h=>by have h1:w4.heap.size≤k:=h.1;have h2:=h.2;exact⟨by omega,by omega,by omega,by omega⟩)).below Z3 hba
  ·exact(HV4.out.mono Z3 (fun k _ h=>by have h1:k=gb:=h;exact⟨by omega,by omega,by omega,by omega⟩)).below Z3 hb6
  ·exact(HT4.out.trans (Zf.below hb6)).list (Z2 20) ((HFL.out.here (Z2 20)).mono (Z2 20) (fun k _ h=>⟨h.1.1,h.1.2,by have:=h.2;omega,by have:=h.2;omega,by have:=h.2;omega⟩)) (fun k h=>⟨h.1,h.2.1⟩))
 have HQ6:=hdd (show Z5 (w5.alloc (.cells #[.string name,.slice a5 n c5,.slice none 0 0] 42)) br=Z5 w br by rw [Zo (by have:=HS4.out.1.lts.1;omega),Zs hb5 HS4.out.1.lts.1,HQ4.out])
 clear hown5 hg5 hlies5 hb5 hsz5 c2 hn9 hsz4 HLB HROW HP5 HV4 HR4 HT4 HS4 HS3 HT2 H1 HT1 HR1 HSZ4 HSZ2
 obtain⟨tb,htb⟩:∃n,n=w5.heap.size:=⟨_,rfl⟩
 generalize w5.alloc (.cells #[.string name,.slice a5 n c5,.slice none 0 0] 42)=w6 at HA HQ6 ⊢
 rw [← htb] at HA ⊢
 clear htb
 go_wp2_with fail
 refine(Z9y hlen u (some ⟨gb,0,none⟩) 3 vs ((n:Int)-1) left w6 HA.out.g (by rintro⟨⟩) (by have:=HU.out;omega)).mono ?_
 rintro e w7 ⟨ba,bc,xs,next7,left7,rfl,hl7,hgk7,hg7,ht7,hF7⟩
 rw [HQ6.out] at hF7
 have HF7:=hdd hF7
 clear hF7
 have HA7:=hdd (HA.out.step2 ht7 hg7)
 have HK7:=hdd (aI hgk7 hl7)
 clear hgk7 hg7 ht7 hl7
 have t2:=coR _ _ 2 _ _ _ HA7.out.trow
 have z2:=frR _ _ 2 _ _ HA7.out.trow
 simp only [ga0,ga1,ga2] at t2
 go_upto_region 5 with fail
 clear t2 z2
 have HPU:=hdd (HA7.out.put (ba':=ba) (m':=xs.length) (bc':=bc))
 have HK8:=hdd (HK7.out.1.keep (Z0 3) HPU.out.2 (fun k h1 h2 h3=>by have:=HA7.out.lt;have h3:k=tb:=h3;omega) (fun k h=>h))
 have HXL:=hdd HK7.out.2
 have HQ8:=hdd (show Z5 (w7.setCell ⟨tb,2,none⟩ (.slice ba xs.length bc)) br=Z5 w7 br from Z0b (by have:=HA7.out.lt;omega))
 clear HK7 HA7 HA
 generalize w7.setCell ⟨tb,2,none⟩ (.slice ba xs.length bc)=w8 at HPU HK8 HQ8 ⊢
 have HA8:=hdd HPU.out.1
 clear HPU
 have c4:=HA8.out.g.c4
 by_cases hleft:left7≤0
 ·have hd4:decide (0<left7)=false:=decide_eq_false (by omega)
  have HFI:=hdd (HA8.out.fin (ys:=xs) (HK8.out.list (Z0 3) |>.mono (Z0 3) (fun k _ h=>h.elim id id)) rfl (by have:=HXL.out;omega) (by rw [HLV.out];exact hn) HNM.out)
  have t0:=coR _ _ 0 _ _ _ HA8.out.trow
  have t1:=coR _ _ 1 _ _ _ HA8.out.trow
  have t2:=coR _ _ 2 _ _ _ HA8.out.trow
  have r0:=coR _ _ 0 _ _ _ HA8.out.rrow
  have r1:=coR _ _ 1 _ _ _ HA8.out.rrow
  have r2:=coR _ _ 2 _ _ _ HA8.out.rrow
  have y0:=frR _ _ 0 _ _ HA8.out.rrow
  have y1:=frR _ _ 1 _ _ HA8.out.rrow
  have y2:=frR _ _ 2 _ _ HA8.out.rrow
  simp only [ga0,ga1,ga2] at t0 t1 t2 r0 r1 r2
  go_wp2
  refine bodyPost_ret (results_cell_row rfl _ _ rb 42 (List.toArray [.string name,.slice a5 vs.length c5,.slice ba xs.length bc]) (0,0) _ rfl ?_ Tryz.underlying42 rfl (by kernel_rfl)) rfl ?_
  ·exact HFI.out.1
  exact⟨a5,_,_,c5,_,_,⟨name,vs,xs⟩,vs,_,_,rfl,HFI.out.2.1,by rw [HLV.out];exact hn,HFI.out.2.2.1.more (by omega),HFI.out.2.2.2.1,HFI.out.2.2.2.2,by rw [Z4d (by have:=HA8.out.lt;omega)];simp only [fnF,← HVD.out,HF7.out,HQ8.out];rw [if_neg (by omega)]⟩
 ·have hd4:decide (0<left7)=true:=decide_eq_true (by omega)
  obtain⟨p,hp,hrd⟩:=HA8.out.g.rd
  have HP:=hdd hp
  have c0:=HA8.out.g.c0
  go_wp2_with fail
  refine(Z01 w0 _ br a len cap bs p 4 hrd (by omega) hlen (by have:=HP.out;have:=HU.out;omega)).mono ?_
  rintro e w9 ⟨x,hx0,hx1,rfl,hrd9,hg9,hV9⟩
  have HV9:=hdd (show ZP bs 4 (Z5 w7 br)=x∧Z5 w9 br=Z5 w7 br+1 by rw [← HQ8.out,hrd.pos,hrd9.pos];exact⟨hV9,rfl⟩)
  clear hV9
  have HA9:=hdd (HA8.out.step2 (Zf.of (Zd.grown hg9)) (HA8.out.g.step (u':=u+204473+1) (Zd.grown hg9) hrd9 (by have:=HP.out;omega) (by omega)))
  have HK9:=hdd (HK8.out.keep (Z0 3) (T:=fun k=>k=br∨w8.heap.size≤k) (Zd.grown hg9) (fun k h1 h2 h3=>by have:=HA8.out.lt;omega) (fun k h=>h))
  clear hrd hp hrd9 hg9 c0 c4 HA8 HK8 HP
  by_cases ex:x=0
  ·subst ex
   have HFI:=hdd (HA9.out.fin (ys:=xs) (HK9.out.list (Z0 3) |>.mono (Z0 3) (fun k _ h=>h.elim id id)) rfl (by have:=HXL.out;omega) (by rw [HLV.out];exact hn) HNM.out)
   have t0:=coR _ _ 0 _ _ _ HA9.out.trow
   have t1:=coR _ _ 1 _ _ _ HA9.out.trow
   have t2:=coR _ _ 2 _ _ _ HA9.out.trow
   have r0:=coR _ _ 0 _ _ _ HA9.out.rrow
   have r1:=coR _ _ 1 _ _ _ HA9.out.rrow
   have r2:=coR _ _ 2 _ _ _ HA9.out.rrow
   have y0:=frR _ _ 0 _ _ HA9.out.rrow
   have y1:=frR _ _ 1 _ _ HA9.out.rrow
   have y2:=frR _ _ 2 _ _ HA9.out.rrow
   simp only [ga0,ga1,ga2] at t0 t1 t2 r0 r1 r2
   go_wp2
   refine bodyPost_ret (results_cell_row rfl _ _ rb 42 (List.toArray [.string name,.slice a5 vs.length c5,.slice ba xs.length bc]) (0,0) _ rfl ?_ Tryz.underlying42 rfl (by kernel_rfl)) rfl ?_
   ·exact HFI.out.1
   exact⟨a5,_,_,c5,_,_,⟨name,vs,xs⟩,vs,_,_,rfl,HFI.out.2.1,by rw [HLV.out];exact hn,HFI.out.2.2.1.more (by omega),HFI.out.2.2.2.1,HFI.out.2.2.2.2,by rw [Z4d (by have:=HA9.out.lt;omega)];simp only [fnF,← HVD.out,HF7.out,HV9.out.1,HV9.out.2];rw [if_pos (by omega),if_neg (by omega)]⟩
  ·have hdx:decide (0<x)=true:=decide_eq_true (by omega)
   have c4:=HA9.out.g.c4
   have f4:=HA9.out.g.f 4
   have hlw:wrap64 (left7-1)=left7-1:=IntWalk.wrap64_in _ (by have:=HA9.out.g.bnd;have:=HU.out;omega)
   have HSL:=hdd ((HA9.out.g.more (show u+204473+1≤u+204473+2 by omega)).setLeft (n':=left7-1) (by have:=HA9.out.g.bnd;omega))
   go_upto_region 7 with fail
   clear c4 f4 hlw
   have HA10:=hdd (HA9.out.step2 HSL.out.2 HSL.out.1)
   have HK10:=hdd (HK9.out.keep (Z0 3) (T:=fun k=>k=bg) (Z4 w9 bg 4 (.int .i64 (left7-1))) (fun k h1 h2 h3=>by have:=HA9.out.lt;have h3:k=bg:=h3;omega) (fun k h=>h))
   have HQ10:=hdd (show Z5 (w9.setCell ⟨bg,4,none⟩ (.int .i64 (left7-1))) br=Z5 w9 br from Z0b HBG.out)
   clear HSL HA9 HK9
   generalize w9.setCell ⟨bg,4,none⟩ (.int .i64 (left7-1))=w10 at HA10 HK10 HQ10 ⊢
   have HOWN:=hdd (show ∀k,(Value.slice ba xs.length bc).ownBlock=some k→w6.heap.size≤k∧k<w10.heap.size from by
    obtain⟨cells,k1,-⟩:=HK10.out.row
    exact fun k hk=>k1.lt k hk)
   have HLB:=hdd (show w6.heap.size≤w10.heap.size from HA10.out.up)
   have HXB:=hdd (show xs.length+1≤1099511627776 from by have:=HXL.out;omega)
   have HX:=hdd (show Calls Tryz.prog 57 #[.pointer (some ⟨bg,0,none⟩),.int .i64 2] w10.drew fun e w11=>∃(y:Z6) (ya:Option Addr) (yc:Nat) (cells:List (List Value)),e=.returned (.agg #[.int .i64 y.op,.int .i64 y.n,.string y.name,.slice ya y.kids.length yc])∧Hid (FnA w0 w w6 br bg a len cap bs fa fc fns (some ⟨gb,0,none⟩) 3 vs next7 (left7-1) (u+204473+2+300) rb tb name a5 c5 vs ba bc xs.length w11∧Z1Y 5 (Zv 3) 48 (fun k=>w6.heap.size≤k) w6.heap.size w11 ba xs.length bc xs cells∧Zv 1 (fun k=>w10.heap.size≤k) (w11.alloc (.cells #[.int .i64 y.op,.int .i64 y.n,.string y.name,.slice ya y.kids.length yc] 64)) [.int .i64 7,.string ⟨#[]⟩,.slice (some ⟨w11.heap.size,0,none⟩) 1 1,.slice none 0 0,.slice none 0 0] (.mk 7 ⟨#[]⟩ [y] [] [])∧w6.heap.size≤w11.heap.size∧(∀cl∈([[.int .i64 7,.string ⟨#[]⟩,.slice (some ⟨w11.heap.size,0,none⟩) 1 1,.slice none 0 0,.slice none 0 0]]:List (List Value)),∀v∈cl,v.oneCell'=true)∧Z0f bs fns vs 2 (Z5 w10 br)=(y,Z5 w11 br)) from by
    refine(Z1j hlen 2 (by omega) (u+204473+2) w10.drew (HA10.out.g.drew) (by have:=HU.out;omega)).mono ?_
    rintro e w11 ⟨cs,y,rfl,hy,hg11,ht11,hF11⟩
    obtain⟨ya,yc,rfl⟩:=Zj hy.1
    have ht:Zf br bg w10 w11:=(Zf.drewN w10 1).trans ht11
    obtain⟨cells,hrows⟩:=(HK10.out.keep (Z0 3) (T:=fun k=>k=br∨k=bg∨w10.heap.size≤k) ht (fun k h1 h2 h3=>by have:=HA10.out.lt;omega) (fun k h=>h)).rows
    have hst:Zv 1 (fun k=>w10.heap.size≤k) (w11.alloc (.cells #[.int .i64 y.op,.int .i64 y.n,.string y.name,.slice ya y.kids.length yc] 64)) [.int .i64 7,.string ⟨#[]⟩,.slice (some ⟨w11.heap.size,0,none⟩) 1 1,.slice none 0 0,.slice none 0 0] (.mk 7 ⟨#[]⟩ [y] [] []):=Z2A (args:=[y]) ((Z1W (Z0j (by omega:8≤12) hy)).mono (Z1 12) (fun k _ h=>h.elim id (fun h=>Nat.le_trans ht.size h))) (by simp) 7 ⟨#[]⟩ (by decide) (Nat.zero_le _)
    exact⟨y,ya,yc,cells,rfl,hdd ⟨HA10.out.step2 ht hg11,hrows,hst,Nat.le_trans HLB.out ht.size,fun cl hcl v hv=>by
     rw [List.mem_singleton.1 hcl] at hv
     exact Z0a hst v hv,hF11⟩⟩)
   have t2:=coR _ _ 2 _ _ _ HA10.out.trow
   simp only [ga0,ga1,ga2] at t2
   have HEND:=hdd (aI HU.out (aI HXL.out (aI HLV.out HNM.out)))
   clear HU HK10 HRB HGB HFL HL
   go_region_law (first|(go_simp;go_at_call 57;refine HX.out.mono ?_;rintro e w11 ⟨y,ya,yc,cells,rfl,hx11⟩;(have t11:=coR _ _ 2 _ _ _ hx11.out.1.trow);(simp only [ga0,ga1,ga2] at t11);(have t12:=fun o=>clT ((bRf w11.heap.size w11).alloc (Nat.le_refl _) o) t11);(have t13:=fun o o'=>clT ((bRf (w11.alloc o).heap.size (w11.alloc o)).alloc (Nat.le_refl _) o') (t12 o)))|(refine Z3j rfl (.tmp 52) (.tmp 57) rfl w6.heap.size _ xs.length _ rfl (ZI hx11.out.2.1.1 (by repeat (first|exact bRf _ _|apply Zy|apply Zt))) _ 1 1 [[.int .i64 7,.string ⟨#[]⟩,.slice (some ⟨w11.heap.size,0,none⟩) 1 1,.slice none 0 0,.slice none 0 0]] rfl (by first|exact Z3T _ _ _|exact Z0g.later (Z3T _ _ _) ((bRf _ _).drew)) rfl (by simp) (by rintro⟨⟩) hx11.out.2.2.2.2.1 HXB.out (by have:=hx11.out.2.2.2.1;simp;omega) ?_;intro a9 c9 w9 hown9 hg9 hlies9;(have HP9:=hdd (hx11.out.1.push (by repeat (first|exact bRf _ _|apply Zy|apply Zt)) hx11.out.2.1 (lb:=w10.heap.size) (less:=.mk 7 ⟨#[]⟩ [y] [] []) ((Z0 1).below (by repeat (first|exact bRf _ _|apply Zy|apply Zt)) hx11.out.2.2.1) HOWN.out HLB.out hown9 hg9 hlies9));(have t9:=coR _ _ 2 _ _ _ HP9.out.1.trow);(have z9:=frR _ _ 2 _ _ HP9.out.1.trow)))
   all_goals
    clear t2 t11 t12 t13 t9 z9
    have HPU:=hdd (HP9.out.1.put (ba':=a9) (m':=xs.length+1) (bc':=c9))
    have HBL:=hdd (HP9.out.2.1.turned (Z0 3) HPU.out.2 (fun k _ h1 h2=>by have:=HP9.out.1.lt;have h1:w6.heap.size≤k:=h1;have h2:k=tb:=h2;omega))
    have HQ12:=hdd (show Z5 (w9.setCell ⟨tb,2,none⟩ (.slice a9 (xs.length+1) c9)) br=Z5 w11 br by rw [Z0b (by have:=HP9.out.1.lt;omega)];first|exact HP9.out.2.2|exact HP9.out.2.2.trans (Zo hx11.out.1.g.lts.1))
    generalize w9.setCell ⟨tb,2,none⟩ (.slice a9 (xs.length+1) c9)=w12 at HPU HBL HQ12 ⊢
    have HA12:=hdd HPU.out.1
    have HYL:=hdd (show(xs++[Zb.mk 7 ⟨#[]⟩ [y] [] []]).length=xs.length+1∧(xs++[Zb.mk 7 ⟨#[]⟩ [y] [] []]).length≤9 from⟨by simp,by have:=HXL.out;simp;omega⟩)
    have HFI:=hdd (HA12.out.fin (ys:=(xs++[Zb.mk 7 ⟨#[]⟩ [y] [] []])) HBL.out HYL.out.1 HYL.out.2 (by rw [HLV.out];exact hn) HNM.out)
    have t0:=coR _ _ 0 _ _ _ HA12.out.trow
    have t1:=coR _ _ 1 _ _ _ HA12.out.trow
    have t2:=coR _ _ 2 _ _ _ HA12.out.trow
    have r0:=coR _ _ 0 _ _ _ HA12.out.rrow
    have r1:=coR _ _ 1 _ _ _ HA12.out.rrow
    have r2:=coR _ _ 2 _ _ _ HA12.out.rrow
    have y0:=frR _ _ 0 _ _ HA12.out.rrow
    have y1:=frR _ _ 1 _ _ HA12.out.rrow
    have y2:=frR _ _ 2 _ _ HA12.out.rrow
    simp only [ga0,ga1,ga2] at t0 t1 t2 r0 r1 r2
    go_wp2
    refine bodyPost_ret (results_cell_row rfl _ _ rb 42 (List.toArray [.string name,.slice a5 vs.length c5,.slice a9 (xs.length+1) c9]) (0,0) _ rfl ?_ Tryz.underlying42 rfl (by kernel_rfl)) rfl ?_
    ·exact HFI.out.1
    exact⟨a5,_,_,c5,_,_,⟨name,vs,(xs++[Zb.mk 7 ⟨#[]⟩ [y] [] []])⟩,vs,_,_,(by rw [HYL.out.1]),(by show FnP 3 _ _ [.string name,.slice a5 vs.length c5,.slice a9 (xs++[Zb.mk 7 ⟨#[]⟩ [y] [] []]).length c9] _;rw [HYL.out.1];exact HFI.out.2.1),by rw [HLV.out];exact hn,HFI.out.2.2.1.more (by omega),HFI.out.2.2.2.1,HFI.out.2.2.2.2,by
     have hF11:=hx11.out.2.2.2.2.2
     rw [HQ10.out,HV9.out.2] at hF11
     rw [Z4d (by have:=HA12.out.lt;omega)];simp only [fnF,← HVD.out,HF7.out,HV9.out.1,hF11,HQ12.out];rw [if_pos (by omega),if_pos (by omega)]⟩
end
end Go.Proofs.YtloooebabieeeaaGreatDoor
