/-
  What lies in memory while the reference draws two programs.
-/
import Derived.Test.YtloooebabieeeaaGreatDoorCp
import Derived.Test.YtloooebabieeeaaGreatDoorCq
import Derived.Test.YtloooebabieeeaaGreatDoorT22
import Derived.Test.YtloooebabieeeaaGreatDoorGi
import Derived.Test.YtloooebabieeeaaGreatDoorGj
import Derived.Test.YtloooebabieeeaaGreatDoorHl
import Derived.Test.YtloooebabieeeaaGreatDoorLaid7
set_option maxRecDepth 100000
set_option maxHeartbeats 16000000
set_option linter.unusedVariables false
namespace Go.Proofs.YtloooebabieeeaaGreatDoor
open Go.RowKit
theorem Z1o {P:Program} {fn:Func} {p u:Tmp} {ty:TypeId} (h:fn.results=#[.cell p ty,.cell u ty]) (tmps:Array Value) (w:World) (g g':Nat) (t t':TypeId) (cs cs':Array Value) (fr fr':Nat×Nat) (d:TypeDesc)
  (hp:tmps.getD p undef=.pointer (some ⟨g,0,none⟩)) (hg:w.heap[g]? = some (.cells cs t fr)) (hp':tmps.getD u undef=.pointer (some ⟨g',0,none⟩)) (hg':w.heap[g']? = some (.cells cs' t' fr'))
  (hu:P.underlying ty=some d) (hd:(match d with|.struct _|.array _ _=>true|_=>false)=true) (hi:(P.info? ty).map (·.size)=some cs.size) (hi':(P.info? ty).map (·.size)=some cs'.size) :
  (results fn tmps).run P w=.ok (.tuple #[.agg cs,.agg cs']) w:=by
 have e1:tmps[p]?.getD undef=.pointer (some ⟨g,0,none⟩):=by simpa using hp
 have e2:tmps[u]?.getD undef=.pointer (some ⟨g',0,none⟩):=by simpa using hp'
 simp only [results,h]
 simp [e1,e2,asAddr,run_loadVar_row w g t ty cs fr d hg hu hd hi,run_loadVar_row w g' t' ty cs' fr' d hg' hu hd hi']
def Z8c (w:World) (e:Ending) (w':World):Prop:=
 ∃(pa:Option Addr) (pc:Nat) (ps:List FnD) (xa:Option Addr) (xc:Nat) (xs:List FnD),e=.returned (.tuple #[.agg (List.toArray [.slice pa ps.length pc]),.agg (List.toArray [.slice xa xs.length xc])])∧ps.length≤4∧xs.length≤4∧
  Za 3 (FnP 20) (fun _=>True) w' pa ps∧Za 3 (FnP 20) (fun _=>True) w' xa xs∧Below w.heap.size w w'
def DR (rb:Nat) (k:Nat):Prop:=k≠rb∧k≠rb+1
theorem Zc5 {w wr:World} {rb:Nat} {v1 v2:Value} {pa:Option Addr} {pc:Nat} {ps:List FnD} {xa:Option Addr} {xc:Nat} {xs:List FnD} (r1:wr.heap[rb]? = some (.cells #[v1] 25 (0,0))) (r2:wr.heap[rb+1]? = some (.cells #[v2] 25 (0,0)))
  (hb:Below w.heap.size w wr) (hrb:rb=w.heap.size) (hps:Za 3 (FnP 20) (DR rb) wr pa ps) (hxs:Za 3 (FnP 20) (DR rb) wr xa xs) (hl1:ps.length≤4) (hl2:xs.length≤4) :
  ((wr.setCell ⟨rb,0,none⟩ (.slice pa ps.length pc)).setCell ⟨rb+1,0,none⟩ (.slice xa xs.length xc)).heap[rb]? = some (.cells (List.toArray [.slice pa ps.length pc]) 25 (0,0))∧
  ((wr.setCell ⟨rb,0,none⟩ (.slice pa ps.length pc)).setCell ⟨rb+1,0,none⟩ (.slice xa xs.length xc)).heap[rb+1]? = some (.cells (List.toArray [.slice xa xs.length xc]) 25 (0,0))∧
  Z8c w (.returned (.tuple #[.agg (List.toArray [.slice pa ps.length pc]),.agg (List.toArray [.slice xa xs.length xc])])) ((wr.setCell ⟨rb,0,none⟩ (.slice pa ps.length pc)).setCell ⟨rb+1,0,none⟩ (.slice xa xs.length xc)):=by
 have t1:=Z4 wr rb 0 (.slice pa ps.length pc)
 have s1:=(gsI r1).1
 have s2:=(gsI r2).1
 have e1:(wr.setCell ⟨rb,0,none⟩ (.slice pa ps.length pc)).heap[rb]? = some (.cells (List.toArray [.slice pa ps.length pc]) 25 (0,0)):=(hSs wr rb 0 _ _ _ r1).trans rfl
 have e2:=(t1.block (rb+1) s2 (fun h=>by have h:rb+1=rb:=h;omega)).trans r2
 have p1:=hps.turned (Z2 20) t1 (fun k _ h1 h2=>h1.1 h2)
 have x1:=hxs.turned (Z2 20) t1 (fun k _ h1 h2=>h1.1 h2)
 have b1:=hb.trans (t1.below (B:=w.heap.size) hb.size (fun k h=>by have h:k=rb:=h;omega))
 clear t1
 generalize wr.setCell ⟨rb,0,none⟩ (.slice pa ps.length pc)=w2 at e1 e2 p1 x1 b1 ⊢
 have t2:=Z4 w2 (rb+1) 0 (.slice xa xs.length xc)
 have s3:=(gsI e1).1
 refine⟨(t2.block rb s3 (fun h=>by have h:rb=rb+1:=h;omega)).trans e1,(hSs w2 (rb+1) 0 _ _ _ e2).trans rfl,pa,pc,ps,xa,xc,xs,rfl,hl1,hl2,?_,?_,b1.trans (t2.below (B:=w.heap.size) b1.size (fun k h=>by have h:k=rb+1:=h;omega))⟩
 ·exact(p1.turned (Z2 20) t2 (fun k _ h1 h2=>h1.2 h2)).mono (Z2 20) (fun _ _ _=>trivial)
 ·exact(x1.turned (Z2 20) t2 (fun k _ h1 h2=>h1.2 h2)).mono (Z2 20) (fun _ _ _=>trivial)
structure ZbE (w w1 wr:World) (rb pb:Nat) (a:Option Addr) (len cap:Nat) (bs:List Int) (q:Nat) (pa:Option Addr) (pc:Nat) (ps:List FnD):Prop where
 rd:Rd w1 wr (rb+2) a len cap bs q
 r1:wr.heap[rb]? = some (.cells #[.slice none 0 0] 25 (0,0))
 r2:wr.heap[rb+1]? = some (.cells #[.slice none 0 0] 25 (0,0))
 prow:wr.heap[pb]? = some (.cells #[.slice pa ps.length pc] 25 (0,0))
 hps:Za 3 (FnP 20) (fun k=>rb+2<k∧k≠pb) wr pa ps
 below:Below w.heap.size w wr
 blocks:rb=w.heap.size∧rb+2<pb
structure Z95 (w w1 wr:World) (rb pb xb:Nat) (a:Option Addr) (len cap:Nat) (bs:List Int) (q:Nat) (pa:Option Addr) (pc:Nat) (ps:List FnD) (xa:Option Addr) (xc:Nat) (xs:List FnD):Prop where
 rd:Rd w1 wr (rb+2) a len cap bs q
 r1:wr.heap[rb]? = some (.cells #[.slice none 0 0] 25 (0,0))
 r2:wr.heap[rb+1]? = some (.cells #[.slice none 0 0] 25 (0,0))
 prow:wr.heap[pb]? = some (.cells #[.slice pa ps.length pc] 25 (0,0))
 xrow:wr.heap[xb]? = some (.cells #[.slice xa xs.length xc] 25 (0,0))
 hps:Za 3 (FnP 20) (fun k=>rb+2<k∧k≠pb∧k≠xb) wr pa ps
 hxs:Za 3 (FnP 20) (fun k=>rb+2<k∧k≠pb∧k≠xb) wr xa xs
 below:Below w.heap.size w wr
 blocks:rb=w.heap.size∧rb+2<pb∧pb<xb
section
variable {w w1 wr w':World} {rb pb xb:Nat} {a:Option Addr} {len cap:Nat} {bs:List Int} {q q':Nat} {pa:Option Addr} {pc:Nat} {ps:List FnD} {xa:Option Addr} {xc:Nat} {xs:List FnD}
theorem ZbE.start {w4:World} (hr1:w4.heap[rb]? = some (.cells #[.slice none 0 0] 25 (0,0))) (hr2:w4.heap[rb+1]? = some (.cells #[.slice none 0 0] 25 (0,0))) (hrd:Rd w1 w4 (rb+2) a len cap bs q) (hb:Below w.heap.size w w4) (hrb:rb=w.heap.size) (hps:Za 3 (FnP 20) (fun k=>rb+2<k) w4 pa ps) :
  ZbE w w1 (w4.alloc (.cells #[.slice pa ps.length pc] 25)) rb w4.heap.size a len cap bs q pa pc ps:=by
 have hba:Below w4.heap.size w4 (w4.alloc (.cells #[.slice pa ps.length pc] 25)):=(bRf _ _).alloc (Nat.le_refl _) _
 have s2:=(gsI hrd.blk).1
 exact⟨hrd.later' hba,(hba.block rb (by omega)).trans hr1,(hba.block (rb+1) (by omega)).trans hr2,hAn w4 _,(hps.mono (Z2 20) (fun k hk h=>⟨h,by omega⟩)).below (Z2 20) hba,hb.trans (hba.mono hb.size),hrb,s2⟩
theorem ZbE.later (h:ZbE w w1 wr rb pb a len cap bs q pa pc ps) (hb:Below wr.heap.size wr w'):ZbE w w1 w' rb pb a len cap bs q pa pc ps:=by
 have s1:=(gsI h.r1).1
 have s2:=(gsI h.r2).1
 have s3:=(gsI h.prow).1
 exact⟨h.rd.later' hb,(hb.block rb s1).trans h.r1,(hb.block _ s2).trans h.r2,(hb.block pb s3).trans h.prow,h.hps.below (Z2 20) hb,h.below.trans (hb.mono h.below.size),h.blocks⟩
theorem ZbE.other (h:ZbE w w1 wr rb pb a len cap bs q pa pc ps) (hx:Za 3 (FnP 20) (fun k=>pb<k) wr xa xs) :
  Z95 w w1 (wr.alloc (.cells #[.slice xa xs.length xc] 25)) rb pb wr.heap.size a len cap bs q pa pc ps xa xc xs:=by
 have hba:Below wr.heap.size wr (wr.alloc (.cells #[.slice xa xs.length xc] 25)):=(bRf _ _).alloc (Nat.le_refl _) _
 have h2:=h.later hba
 have s3:=(gsI h.prow).1
 have hbl:=h.blocks
 exact⟨h2.rd,h2.r1,h2.r2,h2.prow,hAn wr _,(h.hps.mono (Z2 20) (S':=fun k=>rb+2<k∧k≠pb∧k≠wr.heap.size) (fun k hk h1=>⟨h1.1,h1.2,by omega⟩)).below (Z2 20) hba,(hx.mono (Z2 20) (S':=fun k=>rb+2<k∧k≠pb∧k≠wr.heap.size) (fun k hk h1=>by have h1:pb<k:=h1;exact⟨by omega,by omega,by omega⟩)).below (Z2 20) hba,h2.below,hbl.1,hbl.2,s3⟩
theorem Z95.turn (h:Z95 w w1 wr rb pb xb a len cap bs q pa pc ps xa xc xs) (ht:Zd (rb+2) wr w') (hr:Rd w1 w' (rb+2) a len cap bs q'):Z95 w w1 w' rb pb xb a len cap bs q' pa pc ps xa xc xs:=by
 have s1:=(gsI h.r1).1
 have s2:=(gsI h.r2).1
 have s3:=(gsI h.prow).1
 have s4:=(gsI h.xrow).1
 have hbl:=h.blocks
 have hS:∀k,k<wr.heap.size→(rb+2<k∧k≠pb∧k≠xb)→¬(k=rb+2∨wr.heap.size≤k):=fun k h1 h2 h3=>by rcases h3 with h3|h3<;>omega
 exact⟨hr,(ht.block s1 (by omega)).trans h.r1,(ht.block s2 (by omega)).trans h.r2,(ht.block s3 (by omega)).trans h.prow,(ht.block s4 (by omega)).trans h.xrow,h.hps.turned (Z2 20) ht hS,h.hxs.turned (Z2 20) ht hS,h.below.trans (Ze.below (S:=fun k=>k=rb+2∨wr.heap.size≤k) (B:=w.heap.size) ht h.below.size (fun k hk=>by have:=h.below.size;rcases hk with hk|hk<;>omega)),hbl⟩
theorem Z95.later (h:Z95 w w1 wr rb pb xb a len cap bs q pa pc ps xa xc xs) (hb:Below wr.heap.size wr w'):Z95 w w1 w' rb pb xb a len cap bs q pa pc ps xa xc xs:=h.turn (Zd.below hb) (h.rd.later' hb)
theorem Z95.cells (h:Z95 w w1 wr rb pb xb a len cap bs q pa pc ps xa xc xs):wr.cell? ⟨pb,0,none⟩=some (.slice pa ps.length pc)∧wr.cell? ⟨xb,0,none⟩=some (.slice xa xs.length xc)∧wr.frozen? ⟨xb,0,none⟩=false∧(wr.cell? ⟨rb,0,none⟩=some (.slice none 0 0)∧wr.frozen? ⟨rb,0,none⟩=false)∧wr.cell? ⟨rb+1,0,none⟩=some (.slice none 0 0)∧wr.frozen? ⟨rb+1,0,none⟩=false:=
 ⟨(coR _ _ 0 _ _ _ h.prow).trans rfl,(coR _ _ 0 _ _ _ h.xrow).trans rfl,frR _ _ 0 _ _ h.xrow,⟨(coR _ _ 0 _ _ _ h.r1).trans rfl,frR _ _ 0 _ _ h.r1⟩,(coR _ _ 0 _ _ _ h.r2).trans rfl,frR _ _ 0 _ _ h.r2⟩
end
structure Z6s (w wr:World) (rb pb xb lo:Nat) (pa:Option Addr) (pc:Nat) (ps:List FnD) (g gc:Nat):Prop where
 r1:wr.heap[rb]? = some (.cells #[.slice none 0 0] 25 (0,0))
 r2:wr.heap[rb+1]? = some (.cells #[.slice none 0 0] 25 (0,0))
 prow:wr.heap[pb]? = some (.cells #[.slice pa ps.length pc] 25 (0,0))
 xrow:wr.heap[xb]? = some (.cells #[.slice (some ⟨g,0,none⟩) ps.length gc] 25 (0,0))
 hps:Za 3 (FnP 20) (fun k=>rb+2<k∧k≠pb∧k≠xb∧k<lo) wr pa ps
 hg:ZM 3 (FnP 20) 42 (fun k=>rb+2<k∧k≠pb∧k≠xb∧k<lo) lo wr (some ⟨g,0,none⟩) ps.length gc ps
 below:Below w.heap.size w wr
 blocks:rb=w.heap.size∧rb+2<pb∧pb<xb∧xb<lo∧lo≤g
section
variable {w w1 W w9 wr w':World} {rb pb xb:Nat} {a:Option Addr} {len cap:Nat} {bs:List Int} {q q':Nat} {pa:Option Addr} {pc:Nat} {ps:List FnD} {xa:Option Addr} {xc:Nat} {xs:List FnD} {a9:Option Addr} {c9 g gc lo:Nat}
theorem ZM.headAt {α : Type} {s:Nat} {R:Z2u α} {e:TypeId} {S:Nat→Prop} {lo:Nat} {w:World} {a:Option Addr} {n c:Nat} {xs:List α} (h:ZM s R e S lo w a n c xs) (hn:0<n):∃g,a=some ⟨g,0,none⟩∧lo≤g∧g<w.heap.size:=by
 obtain⟨cells,k1,k2,k3,k4⟩:=h.rows
 rcases k1.2 with⟨hv,h0⟩|⟨g,cap,cur,hv,hbg,hgg,_⟩
 ·simp only [Value.slice.injEq] at hv;omega
 ·simp only [Value.slice.injEq] at hv
  exact⟨g,hv.1,hbg,(gsI hgg).1⟩
theorem Z95.copied (h:Z95 w w1 W rb pb xb a len cap bs q pa pc ps xa xc xs) (h1:1≤ps.length) {cells:List (List Value)} (r2:cells.length=ps.length) (r3:∀cl∈cells,cl.length=3) (r4:∀(i:Nat) cl x,cells[i]? = some cl→ps[i]? = some x→FnP 20 (fun k=>rb+2<k∧k≠pb∧k≠xb) W cl x)
  (hown:w9.ownsRow W.heap.size 42 3 (.slice a9 ps.length c9) ps.length cells.flatten) (hg:(W.alloc (.cells #[] 42)).grownBy w9 (Value.slice (some ⟨W.heap.size,0,none⟩) 0 0).ownBlock)
  (hl:(Value.slice a9 ps.length c9).ownBlock=(Value.slice (some ⟨W.heap.size,0,none⟩) 0 0).ownBlock∨(Value.slice a9 ps.length c9).ownBlock=some (W.alloc (.cells #[] 42)).heap.size) :
  (w9.cell? ⟨xb,0,none⟩=some (.slice xa xs.length xc)∧w9.frozen? ⟨xb,0,none⟩=false)∧∃g,a9=some ⟨g,0,none⟩∧Z6s w (w9.setCell ⟨xb,0,none⟩ (.slice (some ⟨g,0,none⟩) ps.length c9)) rb pb xb W.heap.size pa pc ps g c9:=by
 have hba:Below W.heap.size W (W.alloc (.cells #[] 42)):=(bRf _ _).alloc (Nat.le_refl _) _
 have hbg:Below W.heap.size W w9:=hba.trans (Ze.below (Zi hg (S:=fun k=>k=W.heap.size) (fun k hk=>by simp only [Value.ownBlock,Option.some.injEq] at hk;exact hk.symm)) (B:=W.heap.size) (by have:=World.size_alloc W (.cells #[] 42);omega) (fun k hk=>by omega))
 have hG:=ZM.copied (S:=fun k=>rb+2<k∧k≠pb∧k≠xb∧k<W.heap.size) (S0:=fun k=>(rb+2<k∧k≠pb∧k≠xb)∧k<W.heap.size) (Z2 20) (Z0i W _ 42 3 (Nat.le_refl _)) r2 r3 (fun i cl x h1 h2=>(Z2 20).below hba ((Z2 20).here (r4 i cl x h1 h2))) (fun k hk=>⟨⟨hk.1.1,hk.1.2.1,hk.1.2.2,hk.2⟩,hk.2⟩) hown hg hl
 have h9:=h.later hbg
 obtain⟨g,rfl,hg1,hg2⟩:=hG.headAt h1
 have hbl:=h.blocks
 have s4:=(gsI h.xrow).1
 have ht:=Z4 w9 xb 0 (.slice (some ⟨g,0,none⟩) ps.length c9)
 have s1:=(gsI h9.r1).1
 have s2:=(gsI h9.r2).1
 have s3:=(gsI h9.prow).1
 refine⟨⟨h9.cells.2.1,h9.cells.2.2.1⟩,g,rfl,(ht.block rb s1 (by omega)).trans h9.r1,(ht.block (rb+1) s2 (by omega)).trans h9.r2,(ht.block pb s3 (by omega)).trans h9.prow,(hSs w9 xb 0 _ _ _ h9.xrow).trans rfl,?_,?_,h9.below.trans (ht.below (B:=w.heap.size) h9.below.size (fun k h=>by have h:k=xb:=h;omega)),hbl.1,hbl.2.1,hbl.2.2,s4,hg1⟩
 ·exact((h.hps.mono (Z2 20) (S':=fun k=>rb+2<k∧k≠pb∧k≠xb∧k<W.heap.size) (fun k hk h=>⟨h.1,h.2.1,h.2.2,hk⟩)).below (Z2 20) hbg).turned (Z2 20) ht (fun k _ h1 h2=>h1.2.2.1 h2)
 ·exact hG.turned (Z2 20) ht (fun k hk h2=>by simp only [Value.ownBlock,Option.some.injEq] at hk;have h2:k=xb:=h2;omega) (fun k _ h1 h2=>h1.2.2.1 h2)
theorem Z6s.later (h:Z6s w wr rb pb xb lo pa pc ps g gc) (hb:Below wr.heap.size wr w'):Z6s w w' rb pb xb lo pa pc ps g gc:=by
 have s1:=(gsI h.r1).1
 have s2:=(gsI h.r2).1
 have s3:=(gsI h.prow).1
 have s4:=(gsI h.xrow).1
 exact⟨(hb.block rb s1).trans h.r1,(hb.block _ s2).trans h.r2,(hb.block pb s3).trans h.prow,(hb.block xb s4).trans h.xrow,h.hps.below (Z2 20) hb,h.hg.below (Z2 20) hb,h.below.trans (hb.mono h.below.size),h.blocks⟩
theorem Z6s.first (h:Z6s w wr rb pb xb lo pa pc ps g gc) (h1:1≤ps.length):∃(x:FnD) (qa:Option Addr) (qc:Nat) (ba:Option Addr) (bc:Nat),ps[0]? = some x∧wr.cell? ⟨g,1,none⟩=some (.slice qa x.params.length qc)∧wr.frozen? ⟨g,1,none⟩=false∧x.params.length≤100∧Za 1 Z1V (fun k=>rb+2<k∧k≠pb∧k≠xb∧k<lo) wr qa x.params∧
  ∀(w':World) (qa':Option Addr) (qc':Nat) (ss:List ByteArray),Below wr.heap.size wr w'→Za 1 Z1V (fun k=>k≠g∧rb+2<k∧k≠pb∧k≠xb) w' qa' ss→ss.length≤100→
   Z6s w w' rb pb xb lo pa pc ps g gc∧w'.cell? ⟨g,1,none⟩=some (.slice qa x.params.length qc)∧w'.frozen? ⟨g,1,none⟩=false∧
   ∃xs:List FnD,xs.length=ps.length∧Za 3 (FnP 20) (fun k=>rb+2<k∧k≠pb∧k≠xb) (w'.setCell ⟨g,1,none⟩ (.slice qa' ss.length qc')) (some ⟨g,0,none⟩) xs:=by
 obtain⟨cells,k1,k2,k3,k4⟩:=h.hg.rows
 obtain⟨x,hx⟩:∃x,ps[0]? = some x:=⟨_,List.getElem?_eq_getElem (by omega)⟩
 cases cells with
 | nil=>simp at k2;omega
 | cons c0 rest=>
 have hP:=k4 0 c0 x rfl hx
 obtain⟨qa,qc,ba,bc,rfl,⟨hl0,hl1,hl2⟩,hA,hB⟩:=hP
 have hbl:=h.blocks
 have hflat:([Value.string x.name,Value.slice qa x.params.length qc,Value.slice ba x.body.length bc]::rest).flatten.length=ps.length*3:=k1.1
 have hc1:=k1.cellAt 1 (by omega)
 refine⟨x,qa,qc,ba,bc,hx,hc1.trans rfl,k1.frozenAt 1,hl1,hA.mono Z3 (fun k _ h=>h.1),fun w' qa' qc' ss hb hss hsl=>?_⟩
 have h':=h.later hb
 have k1':=ZI k1 hb
 have hc1':=k1'.cellAt 1 (by omega)
 refine⟨h',hc1'.trans rfl,k1'.frozenAt 1,ps.set 0 ⟨x.name,ss,x.body⟩,by simp,?_⟩
 have ht:=Z4 w' g 1 (.slice qa' ss.length qc')
 have hst:=(k1'.stored 1 (.slice qa' ss.length qc')).1
 have hst2:(w'.setCell ⟨g,1,none⟩ (.slice qa' ss.length qc')).ownsRow lo 42 3 (.slice (some ⟨g,0,none⟩) ps.length gc) ps.length ([Value.string x.name,Value.slice qa' ss.length qc',Value.slice ba x.body.length bc]::rest).flatten:=hst
 have hsub:∀k,k<w'.heap.size→((rb+2<k∧k≠pb∧k≠xb∧k<lo)∧¬(Value.slice (some ⟨g,0,none⟩) ps.length gc).ownBlock=some k)→¬k=g:=fun k _ h1 h2=>h1.2 (by rw [h2];rfl)
 have hrow:=Z2k hst2
 refine⟨⟨rfl,[Value.string x.name,Value.slice qa' ss.length qc',Value.slice ba x.body.length bc]::rest,by simpa using hrow,by simpa using k2,?_,fun i cl y hc hy=>?_⟩,fun _=>⟨g,0,rfl,⟨by omega,by omega,by omega⟩,?_⟩⟩
 ·intro cl hcl
  rcases List.mem_cons.1 hcl with rfl|hcl
  ·rfl
  ·exact k3 cl (List.mem_cons_of_mem _ hcl)
 ·cases i with
  | zero=>
   simp only [ga1,Option.some.injEq] at hc
   rw [List.getElem?_set_self (by omega)] at hy
   cases hy
   subst hc
   refine⟨qa',qc',ba,bc,rfl,⟨hl0,hsl,hl2⟩,(hss.turned Z3 ht (fun k _ h1 h2=>h1.1 h2)).mono Z3 (fun k _ h1=>h1.2),?_⟩
   exact((hB.below (Z0 20) hb).turned (Z0 20) ht hsub).mono (Z0 20) (fun k _ h1=>⟨h1.1.1,h1.1.2.1,h1.1.2.2.1⟩)
  | succ i=>
   rw [List.getElem?_set_ne (by omega)] at hy
   have hr:=k4 (i+1) cl y hc hy
   exact(Z2 20).mono (fun k _ h1=>⟨h1.1.1,h1.1.2.1,h1.1.2.2.1⟩) ((Z2 20).turned ht hsub ((Z2 20).below hb hr))
 ·have:=(k1'.lt g rfl).2
  exact Nat.lt_of_lt_of_le this ht.size
end
structure Z9R (w wr:World) (rb pb xb:Nat) (pa:Option Addr) (pc:Nat) (ps:List FnD) (xa:Option Addr) (xc:Nat) (xs:List FnD):Prop where
 r1:wr.heap[rb]? = some (.cells #[.slice none 0 0] 25 (0,0))
 r2:wr.heap[rb+1]? = some (.cells #[.slice none 0 0] 25 (0,0))
 prow:wr.heap[pb]? = some (.cells #[.slice pa ps.length pc] 25 (0,0))
 xrow:wr.heap[xb]? = some (.cells #[.slice xa xs.length xc] 25 (0,0))
 hps:Za 3 (FnP 20) (fun k=>rb+2<k) wr pa ps
 hxs:Za 3 (FnP 20) (fun k=>rb+2<k) wr xa xs
 below:Below w.heap.size w wr
 blocks:rb=w.heap.size∧rb+2<pb∧pb<xb
section
variable {w w1 wr w':World} {rb pb xb:Nat} {a:Option Addr} {len cap:Nat} {bs:List Int} {q:Nat} {pa:Option Addr} {pc:Nat} {ps:List FnD} {xa:Option Addr} {xc:Nat} {xs:List FnD} {g gc lo:Nat}
theorem Z95.df (h:Z95 w w1 wr rb pb xb a len cap bs q pa pc ps xa xc xs):Z9R w wr rb pb xb pa pc ps xa xc xs:=
 ⟨h.r1,h.r2,h.prow,h.xrow,h.hps.mono (Z2 20) (fun _ _ h=>h.1),h.hxs.mono (Z2 20) (fun _ _ h=>h.1),h.below,h.blocks⟩
theorem Z6s.df (h:Z6s w wr rb pb xb lo pa pc ps g gc) {v:Value} (hx:Za 3 (FnP 20) (fun k=>rb+2<k∧k≠pb∧k≠xb) (wr.setCell ⟨g,1,none⟩ v) (some ⟨g,0,none⟩) xs) (hl:xs.length=ps.length) :
  Z9R w (wr.setCell ⟨g,1,none⟩ v) rb pb xb pa pc ps (some ⟨g,0,none⟩) gc xs:=by
 have hbl:=h.blocks
 have s1:=(gsI h.r1).1
 have s2:=(gsI h.r2).1
 have s3:=(gsI h.prow).1
 have s4:=(gsI h.xrow).1
 have ht:=Z4 wr g 1 v
 exact⟨(ht.block rb s1 (by omega)).trans h.r1,(ht.block (rb+1) s2 (by omega)).trans h.r2,(ht.block pb s3 (by omega)).trans h.prow,by rw [hl];exact(ht.block xb s4 (by omega)).trans h.xrow,(h.hps.turned (Z2 20) ht (fun k _ h1 h2=>by have h2:k=g:=h2;omega)).mono (Z2 20) (fun _ _ h=>h.1),hx.mono (Z2 20) (fun _ _ h=>h.1),
  h.below.trans (ht.below (B:=w.heap.size) h.below.size (fun k h=>by have h:k=g:=h;omega)),hbl.1,hbl.2.1,hbl.2.2.1⟩
theorem Z9R.later (h:Z9R w wr rb pb xb pa pc ps xa xc xs) (hb:Below wr.heap.size wr w'):Z9R w w' rb pb xb pa pc ps xa xc xs:=
 ⟨(hb.block rb (gsI h.r1).1).trans h.r1,(hb.block _ (gsI h.r2).1).trans h.r2,(hb.block pb (gsI h.prow).1).trans h.prow,(hb.block xb (gsI h.xrow).1).trans h.xrow,h.hps.below (Z2 20) hb,h.hxs.below (Z2 20) hb,h.below.trans (hb.mono h.below.size),h.blocks⟩
theorem Z9R.cells (h:Z9R w wr rb pb xb pa pc ps xa xc xs):(wr.cell? ⟨pb,0,none⟩=some (.slice pa ps.length pc)∧wr.cell? ⟨xb,0,none⟩=some (.slice xa xs.length xc))∧(wr.cell? ⟨rb,0,none⟩=some (.slice none 0 0)∧wr.frozen? ⟨rb,0,none⟩=false)∧wr.cell? ⟨rb+1,0,none⟩=some (.slice none 0 0)∧wr.frozen? ⟨rb+1,0,none⟩=false:=
 ⟨⟨(coR _ _ 0 _ _ _ h.prow).trans rfl,(coR _ _ 0 _ _ _ h.xrow).trans rfl⟩,⟨(coR _ _ 0 _ _ _ h.r1).trans rfl,frR _ _ 0 _ _ h.r1⟩,(coR _ _ 0 _ _ _ h.r2).trans rfl,frR _ _ 0 _ _ h.r2⟩
theorem Z9R.one (h:Z9R w wr rb pb xb pa pc ps xa xc xs) (v:Value):(wr.setCell ⟨rb,0,none⟩ v).cell? ⟨pb,0,none⟩=some (.slice pa ps.length pc)∧(wr.setCell ⟨rb,0,none⟩ v).cell? ⟨xb,0,none⟩=some (.slice xa xs.length xc)∧(wr.setCell ⟨rb,0,none⟩ v).cell? ⟨rb+1,0,none⟩=some (.slice none 0 0)∧(wr.setCell ⟨rb,0,none⟩ v).frozen? ⟨rb+1,0,none⟩=false:=by
 have hbl:=h.blocks
 have ht:=Z4 wr rb 0 v
 have e1:=(ht.block pb (gsI h.prow).1 (by omega)).trans h.prow
 have e2:=(ht.block xb (gsI h.xrow).1 (by omega)).trans h.xrow
 have e3:=(ht.block (rb+1) (gsI h.r2).1 (by omega)).trans h.r2
 exact⟨(coR _ _ 0 _ _ _ e1).trans rfl,(coR _ _ 0 _ _ _ e2).trans rfl,(coR _ _ 0 _ _ _ e3).trans rfl,frR _ _ 0 _ _ e3⟩
theorem Z9R.fin (h:Z9R w wr rb pb xb pa pc ps xa xc xs) (hl1:ps.length≤4) (hl2:xs.length≤4) :
  ((wr.setCell ⟨rb,0,none⟩ (.slice pa ps.length pc)).setCell ⟨rb+1,0,none⟩ (.slice xa xs.length xc)).heap[rb]? = some (.cells (List.toArray [.slice pa ps.length pc]) 25 (0,0))∧
  ((wr.setCell ⟨rb,0,none⟩ (.slice pa ps.length pc)).setCell ⟨rb+1,0,none⟩ (.slice xa xs.length xc)).heap[rb+1]? = some (.cells (List.toArray [.slice xa xs.length xc]) 25 (0,0))∧
  Z8c w (.returned (.tuple #[.agg (List.toArray [.slice pa ps.length pc]),.agg (List.toArray [.slice xa xs.length xc])])) ((wr.setCell ⟨rb,0,none⟩ (.slice pa ps.length pc)).setCell ⟨rb+1,0,none⟩ (.slice xa xs.length xc)):=
 Zc5 (pc:=pc) (xc:=xc) h.r1 h.r2 h.below h.blocks.1 (h.hps.mono (Z2 20) (S':=DR rb) (fun k _ h=>⟨by omega,by omega⟩)) (h.hxs.mono (Z2 20) (S':=DR rb) (fun k _ h=>⟨by omega,by omega⟩)) hl1 hl2
end
theorem Z9S (w:World) (a:Option Addr) (len cap:Nat) (bs:List Int) (hin:Z1N w a len bs) (hcap:len≤cap) :
  Calls Tryz.prog 9 #[.slice a len cap] w fun e w'=>∃a len cap,e=.returned (.pointer (some ⟨w.heap.size,0,none⟩))∧Rd w w' w.heap.size a len cap (bs.take 2000) 0∧len≤2000∧w.heap.size<w'.heap.size:=by
 by_cases hbig:2000<len
 ·obtain⟨b,off,x,rfl,_⟩:=hin.place (show 0<len by omega)
  have hcz:¬cap=0:=by omega
  go_enter Tryz.func9,Tryz.ntmps9
  go_wp2
  go_ret
  refine⟨_,_,_,rfl,Zc7 ⟨by have:=hin.length;simp;omega,by rw [List.map_take];exact hin.row.pre 2000,fun x hx=>hin.byte x (List.mem_of_mem_take hx)⟩,by omega,by simp⟩
 ·have HBS:=hdd (show bs.take 2000=bs from List.take_of_length_le (by have:=hin.length;omega))
  go_enter Tryz.func9,Tryz.ntmps9
  go_wp2
  go_ret
  exact⟨_,_,_,rfl,by rw [HBS.out];exact Zc7 hin,by omega,by simp⟩
theorem ZbZ {S:Nat→Prop} {W:World} {cells:List (List Value)} {ps:List FnD} (h1:cells.length=ps.length) (h2:∀(i:Nat) cl x,cells[i]? = some cl→ps[i]? = some x→FnP 20 S W cl x):∀cl∈cells,∀u∈cl,u.oneCell'=true:=by
 intro cl hcl u hu
 obtain⟨i,hi⟩:=List.getElem?_of_mem hcl
 have hil:i<ps.length:=by have:=(List.getElem?_eq_some_iff.1 hi).1;omega
 obtain⟨pa,pc,ba,bc,rfl,-⟩:=h2 i cl _ hi (List.getElem?_eq_getElem hil)
 simp at hu
 rcases hu with rfl|rfl|rfl<;>rfl
theorem ZaI {S:Nat→Prop} {W:World} {cells:List (List Value)} {ss:List ByteArray} (h1:cells.length=ss.length) (h2:∀(i:Nat) cl x,cells[i]? = some cl→ss[i]? = some x→Z1V S W cl x):∀cl∈cells,∀u∈cl,u.oneCell'=true:=by
 intro cl hcl u hu
 obtain⟨i,hi⟩:=List.getElem?_of_mem hcl
 have hil:i<ss.length:=by have:=(List.getElem?_eq_some_iff.1 hi).1;omega
 have hr:=h2 i cl _ hi (List.getElem?_eq_getElem hil)
 rw [hr.1] at hu
 simp at hu
 subst hu
 rfl
theorem Z6B {w w':World} {p:List FnD} {e:Ending} (h:Z8w w p e w'):Below w.heap.size w w'∧((∃a c,e=.returned (.tuple #[.agg #[.slice a p.length c],.bool true])∧Za 3 (FnP 4) (fun k=>w.heap.size≤k) w' a p)∨∃a c,e=.returned (.tuple #[.agg #[.slice a 0 c],.bool false])):=by
 obtain⟨⟨a,c,b,h1,h2⟩,hb⟩:=h
 refine⟨hb,?_⟩
 cases b with
 | true=>exact .inl ⟨a,c,h1,h2 rfl⟩
 | false=>exact .inr ⟨a,c,h1⟩
theorem Z76 (w:World) (a:Option Addr) (len cap:Nat) (bs:List Int) (hin:Z1N w a len bs) (hcap:len≤cap) :
  Calls Tryz.prog 4 #[.slice a len cap] w (Z8c w):=by
 have HB:=hdd (Z1R w (.cells #[.slice none 0 0] 25) (.cells #[.slice none 0 0] 25))
 have HIN:=hdd (hin.later HB.out.2.2.1)
 clear hin
 go_enter Tryz.func4,Tryz.ntmps4
 go_upto_region 1 with fail
 generalize (w.alloc (.cells #[.slice none 0 0] 25)).alloc (.cells #[.slice none 0 0] 25)=W1 at HB HIN ⊢
 obtain⟨rb,hrb⟩:∃b,b=w.heap.size:=⟨_,rfl⟩
 have HRB:=hdd hrb
 rw [← hrb] at HB ⊢
 clear hrb
 have HO:=hdd (Z9S W1 a len cap bs HIN.out hcap)
 rw [HB.out.2.2.2] at HO
 clear hcap
 obtain⟨B,hB⟩:∃B,B=bs.take 2000:=⟨_,rfl⟩
 rw [← hB] at HO
 clear hB
 go_wp2_with fail
 refine HO.out.mono ?_
 rintro e w2 ⟨a1,len1,cap1,rfl,hrd2,hlen1,-⟩
 have HR2:=hdd hrd2
 have HLE:=hdd hlen1
 clear hrd2 hlen1 HO
 go_wp2_with fail
 refine(Z01 W1 w2 (rb+2) a1 len1 cap1 B 0 3 HR2.out (by omega) HLE.out (by omega)).mono ?_
 rintro e w3 ⟨v,hv0,hv1,rfl,hrd3,hg3,-⟩
 have H3:=hdd (show Rd W1 w3 (rb+2) a1 len1 cap1 B 1∧w3.heap[rb]? = some (.cells #[.slice none 0 0] 25 (0,0))∧w3.heap[rb+1]? = some (.cells #[.slice none 0 0] 25 (0,0))∧Below w.heap.size w w3∧rb+2<w3.heap.size from by
  have s1:=(gsI HB.out.1).1
  have s2:=(gsI HB.out.2.1).1
  have hb:Below W1.heap.size W1 w3:=hrd3.below
  have hb0:=HB.out.2.2.1
  rw [HRB.out] at hb0 ⊢
  refine⟨by rw [← HRB.out];exact hrd3,?_,?_,hb0.trans (hb.mono hb0.size),by rw [← HRB.out];exact(gsI hrd3.blk).1⟩
  ·rw [← HRB.out];exact(hb.block rb s1).trans HB.out.1
  ·rw [← HRB.out];exact(hb.block (rb+1) s2).trans HB.out.2.1)
 clear hrd3 hg3 HR2 HB HIN
 by_cases hv:v=0
 ·have i0:(v==0)=true:=by rw [hv];rfl
  clear hv hv0 hv1
  go_wp2_with fail
  refine(Z5V HLE.out 1 w3 H3.out.1 (by omega)).mono ?_
  rintro e w4 ⟨pa,pc,ps,q,rfl,hl4,hps,hq,hrd4,ht4,-⟩
  have H4:=hdd (aI hl4 (aI hps (aI hrd4 ht4)))
  have HQ:=hdd hq
  clear hl4 hps hrd4 ht4 hq
  go_wp2_with fail
  refine(Z5V HLE.out q w4 H4.out.2.2.1 (by have:=HQ.out;omega)).mono ?_
  rintro e w5 ⟨xa,xc,xs,q2,rfl,hl5,hxs,-,hrd5,ht5,-⟩
  have hs4:w3.heap.size≤w4.heap.size:=Ze.size (S:=fun k=>k=rb+2∨w3.heap.size≤k) H4.out.2.2.2
  have hs5:w4.heap.size≤w5.heap.size:=Ze.size (S:=fun k=>k=rb+2∨w4.heap.size≤k) ht5
  have hsz:=H3.out.2.2.2.2
  have e1:=(ht5.block (b:=rb) (by omega) (by omega)).trans ((H4.out.2.2.2.block (b:=rb) (by omega) (by omega)).trans H3.out.2.1)
  have e2:=(ht5.block (b:=rb+1) (by omega) (by omega)).trans ((H4.out.2.2.2.block (b:=rb+1) (by omega) (by omega)).trans H3.out.2.2.1)
  have hsw:=H3.out.2.2.2.1.size
  have hb5:Below w.heap.size w w5:=H3.out.2.2.2.1.trans ((Ze.below (S:=fun k=>k=rb+2∨w3.heap.size≤k) (B:=w.heap.size) H4.out.2.2.2 hsw (fun k hk=>by have:=HRB.out;rcases hk with hk|hk<;>omega)).trans (Ze.below (S:=fun k=>k=rb+2∨w4.heap.size≤k) (B:=w.heap.size) ht5 (by omega) (fun k hk=>by have:=HRB.out;rcases hk with hk|hk<;>omega)))
  have hp5:Za 3 (FnP 20) (DR rb) w5 pa ps:=(H4.out.2.1.turned (Z2 20) (T:=fun k=>k=rb+2∨w4.heap.size≤k) ht5 (fun k h1 h2 h3=>by have h2:w3.heap.size≤k:=h2;rcases h3 with h3|h3<;>omega)).mono (Z2 20) (fun k _ h=>by have h:w3.heap.size≤k:=h;exact⟨by omega,by omega⟩)
  have hx5:Za 3 (FnP 20) (DR rb) w5 xa xs:=hxs.mono (Z2 20) (fun k _ h=>by have h:w4.heap.size≤k:=h;exact⟨by omega,by omega⟩)
  have HF:=hdd (Zc5 (pc:=pc) (xc:=xc) e1 e2 hb5 HRB.out hp5 hx5 H4.out.1 hl5)
  have k1:=coR _ _ 0 _ _ _ e1
  have z1:=frR _ _ 0 _ _ e1
  have t1:=Z4 w5 rb 0 (.slice pa ps.length pc)
  have e2':=(t1.block (rb+1) (gsI e2).1 (fun h=>by have h:rb+1=rb:=h;omega)).trans e2
  have k2:=coR _ _ 0 _ _ _ e2'
  have z2:=frR _ _ 0 _ _ e2'
  simp only [ga0,ga1] at k1 k2
  clear hs4 hs5 hsz e1 e2 hsw hb5 hp5 hx5 t1 e2' hl5 hxs hrd5 ht5
  go_wp2
  refine bodyPost_ret (Z1o rfl _ _ rb (rb+1) 25 25 (List.toArray [.slice pa ps.length pc]) (List.toArray [.slice xa xs.length xc]) (0,0) (0,0) _ rfl HF.out.1 rfl HF.out.2.1 Tryz.underlying25 rfl (by kernel_rfl) (by kernel_rfl)) rfl ?_
  exact HF.out.2.2
 ·have i0:(v==0)=false:=by rw [beq_eq_false_iff_ne];exact hv
  clear hv hv0 hv1
  go_wp2_with fail
  refine(Z5S HLE.out 1 620001 w3 H3.out.1 (by omega) (by omega)).mono ?_
  rintro e w4 ⟨pa,pc,ps,q,rfl,hl1,hl3,hvp,hps,hq,hrd4,ht4,-⟩
  have HPL:=hdd (show 1≤ps.length∧ps.length≤4 from⟨hl1,by omega⟩)
  have HDP:=hdd (show ZbE w W1 (w4.alloc (.cells #[.slice pa ps.length pc] 25)) rb w4.heap.size a1 len1 cap1 B q pa pc ps from by
   have hsz:=H3.out.2.2.2.2
   have hsw:=H3.out.2.2.2.1.size
   exact ZbE.start ((ht4.block (b:=rb) (by omega) (by omega)).trans H3.out.2.1) ((ht4.block (b:=rb+1) (by omega) (by omega)).trans H3.out.2.2.1) hrd4
    (H3.out.2.2.2.1.trans (Ze.below (S:=fun k=>k=rb+2∨w3.heap.size≤k) (B:=w.heap.size) ht4 hsw (fun k hk=>by have:=HRB.out;rcases hk with hk|hk<;>omega))) HRB.out (hps.mono (Z2 20) (fun k _ h=>by have h:w3.heap.size≤k:=h;omega)))
  have HQ:=hdd hq
  have HVP:=hdd hvp
  clear hl1 hl3 hps hq hrd4 ht4 hvp
  go_upto_region 5 with fail
  obtain⟨pb,hpb⟩:∃n,n=w4.heap.size:=⟨_,rfl⟩
  generalize w4.alloc (.cells #[.slice pa ps.length pc] 25)=w5 at HDP ⊢
  rw [← hpb] at HDP ⊢
  clear hpb
  have p0:w5.cell? ⟨pb,0,none⟩=some (.slice pa ps.length pc):=(coR _ _ 0 _ _ _ HDP.out.prow).trans rfl
  have HTX:=hdd (Z5T 20 _ pa pc ps w5 HDP.out.hps HVP.out)
  have hfn:∀g∈ps,fnB g=true:=fun g hg=>((Z2w HVP.out).2 g hg).1
  have HRP:=hdd (show ∀W,Calls Tryz.prog 13 #[.string (Zl (ZT ps))] W (Z8w W ps) from fun W=>by
   obtain⟨f,hf⟩:=(Z4B ps [] hfn).some
   exact Z4J ps (ZT ps) f (by simpa using hf) (Z3x hfn) (Nat.le_trans (Z4y HVP.out) (by omega)) HVP.out W)
  generalize Zl (ZT ps)=T at HTX HRP
  clear hfn
  go_wp2_with fail
  refine HTX.out.mono ?_
  rintro e w6 ⟨rfl,hb6⟩
  have HD6:=hdd (HDP.out.later hb6)
  clear hb6 p0
  go_wp2_with fail
  refine(HRP.out w6).mono ?_
  intro e w7 hans
  obtain⟨hb7,⟨xa,xc,rfl,hx⟩|⟨xa,xc,rfl⟩⟩:=Z6B hans
  ·have hpb6:pb<w6.heap.size:=(gsI HD6.out.prow).1
   have HD8:=hdd ((HD6.out.later hb7).other (xc:=xc) ((hx.mono (Z2 4) (S':=fun k=>pb<k) (fun k _ h=>by have h:w6.heap.size≤k:=h;show pb<k;omega)).rel (fun c x _ h=>ZaD (by omega) h)))
   clear hb7 hx hans hpb6
   go_upto_region 6 with fail
   obtain⟨xb,hxb⟩:∃n,n=w7.heap.size:=⟨_,rfl⟩
   generalize w7.alloc (.cells #[.slice xa ps.length xc] 25)=w8 at HD8 ⊢
   rw [← hxb] at HD8 ⊢
   clear hxb
   go_wp2_with fail
   refine(Z01 W1 w8 (rb+2) a1 len1 cap1 B q 2 HD8.out.rd (by omega) HLE.out (by have:=HQ.out;omega)).mono ?_
   rintro e w9 ⟨v,hv0,hv1,rfl,hrd9,hg9,-⟩
   have HD9:=hdd (HD8.out.turn (Zd.grown hg9) hrd9)
   clear hrd9 hg9
   by_cases hv:v=0
   ·have i0:(v==0)=true:=by rw [hv];rfl
    clear hv hv0 hv1
    obtain⟨gx,ox,x,fa,fc,ba,bc,hxa,hx0,-,f0,f1,f2⟩:=Z1q HD9.out.hxs (show 0<ps.length by have:=HPL.out.1;omega)
    subst hxa
    simp only [Nat.zero_mul,Nat.add_zero] at f0 f1 f2
    have hps0:(0:Int)<(ps.length:Int):=by have:=HPL.out.1;omega
    have x0:=HD9.out.cells.2.1
    by_cases hbl:0<x.body.length
    ·have hbi:(0:Int)<(x.body.length:Int):=by omega
     have hdb:decide ((0:Int)<(x.body.length:Int))=true:=decide_eq_true hbi
     clear hbl
     go_upto_region 7 with fail
     clear f0 f1 f2 x0 hx0 hbi hdb i0 hps0
     obtain⟨cells,m1,m2,m3,m4⟩:=HD9.out.hps.rows
     have hba7:Below w9.heap.size w9 (w9.alloc (.cells #[] 42)):=(bRf _ _).alloc (Nat.le_refl _) _
     have hpl1:=HPL.out.1
     have hpl4:=HPL.out.2
     have HRW:=hdd (show Z0g (w9.alloc (.cells #[] 42)) pa cells.flatten from m1.later hba7)
     have HONE:=hdd (ZbZ m2 m4)
     have HCP:=hdd (fun (w9:World) (a9:Option Addr) (c9:Nat) h1 h2 h3=>HD9.out.copied (w9:=w9) (a9:=a9) (c9:=c9) HPL.out.1 m2 m3 m4 h1 h2 h3)
     have HM:=hdd (aI m2 m3)
     have p0:=clT hba7 HD9.out.cells.1
     have hszx:xb<w9.heap.size:=(gsI HD9.out.xrow).1
     clear m1 m2 m3 m4 hba7
     go_upto_region 8 with(at_builtin;refine Z8u rfl (.tmp 41) (.tmp 43) rfl w9.heap.size _ 0 [] rfl (Z0i _ _ _ _ (Nat.le_refl _)) pa ps.length pc cells rfl HRW.out HM.out.1 HM.out.2 HONE.out (by omega) (by simp) ?_;intro a10 c10 w10 hown10 hg10 hl10;rw [Nat.zero_add] at hown10 hl10 ⊢;obtain⟨⟨k0,z0⟩,g,rfl,hcp⟩:=HCP.out w10 a10 c10 hown10 hg10 hl10;have HC0:=hdd hcp;clear hcp hown10 hg10 hl10)
     clear p0 k0 z0 hszx HCP HRW HONE HM
     generalize w10.setCell ⟨xb,0,none⟩ (.slice (some ⟨g,0,none⟩) ps.length c10)=w11 at HC0 ⊢
     obtain⟨gc,hgc⟩:∃gc,gc=c10:=⟨_,rfl⟩
     rw [← hgc] at HC0
     have HC:=hdd HC0.out
     clear hgc HC0
     obtain⟨x,qa,qc,ba,bc,hx0,g1,z1,hpr,hqs,hnext⟩:=HC.out.first HPL.out.1
     have hpr3:x.params.length≤3:=(Z3Y ((Z2w HVP.out).2 x (List.mem_of_getElem? hx0)).1).2.1
     have HQS:=hdd hqs
     have HNEXT:=hdd hnext
     have HGL:=hdd (show g<w11.heap.size from World.block_lt_of_cell? w11 _ g1)
     have hps0:(0:Int)<(ps.length:Int):=by omega
     have hBd:Below w11.heap.size w11 w11.drew:=(bRf _ _).drew
     have HH0:=hdd (show(fun W:World=>W.cell? ⟨xb,0,none⟩=some (.slice (some ⟨g,0,none⟩) ps.length gc)∧W.cell? ⟨g,1,none⟩=some (.slice qa x.params.length qc)) w11.drew from⟨clT hBd ((coR _ _ 0 _ _ _ HC.out.xrow).trans rfl),clT hBd g1⟩)
     clear hqs hnext g1 z1 hx0
     refine Zw (S:=fun W:World=>W.cell? ⟨xb,0,none⟩=some (.slice (some ⟨g,0,none⟩) ps.length gc)∧W.cell? ⟨g,1,none⟩=some (.slice qa x.params.length qc)) (by kernel_rfl) ?_
     generalize w11.drew=wd at HH0 hBd ⊢
     have hHeld:(fun W:World=>W.cell? ⟨xb,0,none⟩=some (.slice (some ⟨g,0,none⟩) ps.length gc)∧W.cell? ⟨g,1,none⟩=some (.slice qa x.params.length qc)) wd:=HH0.out
     clear HH0
     refine tkL 1 0 (some 46) hHeld ?_
     (try simp only [Act.put,pu1,pu2,pu3])
     refine tkL 9 1 (some 47) hHeld ?_
     (try simp only [Act.put,pu1,pu2,pu3])
     refine tkL 4 3 (some 49) hHeld ?_
     (try simp only [Act.put,pu1,pu2,pu3])
     refine tkL 5 4 (some 50) hHeld ?_
     (try simp only [Act.put,pu1,pu2,pu3])
     refine tkL 6 5 (some 51) hHeld ?_
     (try simp only [Act.put,pu1,pu2,pu3])
     refine tkL 7 6 (some 52) hHeld ?_
     (try simp only [Act.put,pu1,pu2,pu3])
     refine tkL 8 7 (some 53) hHeld ?_
     (try simp only [Act.put,pu1,pu2,pu3])
     refine Z06 2 (some 48) fun K hK=>?_
     go_simp
     have hb12:Below wd.heap.size wd (wd.alloc (.cells (List.toArray [.string ⟨#[113]⟩]) 9)):=(bRf _ _).alloc (Nat.le_refl _) _
     have HG12:=hdd (ZM.lit (lo:=wd.heap.size) (S:=fun _=>False) (w:=wd) (e:=9) Z3 (cells:=[[.string ⟨#[113]⟩]]) (xs:=[⟨#[113]⟩]) (Nat.le_refl _) (by intro c hc;simp at hc;subst hc;rfl) rfl (by decide) (by intro i cl y h1 h2;cases i with|zero=>cases h1;cases h2;exact⟨rfl,by decide⟩|succ i=>cases h1))
     have hB12:=hBd.trans (hb12.mono hBd.size)
     have hsz12:wd.heap.size<(wd.alloc (.cells (List.toArray [.string ⟨#[113]⟩]) 9)).heap.size:=by rw [World.size_alloc];omega
     replace HG12:=hdd (show ZM 1 Z1V 9 (fun _=>False) wd.heap.size (wd.alloc (.cells (List.toArray [.string ⟨#[113]⟩]) 9)) (some ⟨wd.heap.size,0,none⟩) 1 1 [⟨#[113]⟩] from HG12.out)
     generalize wd.alloc (.cells (List.toArray [.string ⟨#[113]⟩]) 9)=w12 at HG12 hb12 hB12 hsz12 ⊢
     refine kpL hK (⟨clT hb12 hHeld.1,clT hb12 hHeld.2⟩) ?_
     clear hK K hHeld;intro hHeld
     (try simp only [Act.put,pu1,pu2,pu3])
     refine Z06 8 (some 54) fun K hK=>?_
     obtain⟨cells2,hrows2⟩:=HG12.out.rows
     obtain⟨pcells,n1,n2,n3,n4⟩:=(HQS.out.below Z3 hB12).rows
     refine Z3W rfl (.tmp 48) (.tmp 53) rfl wd.heap.size (.slice (some ⟨wd.heap.size,0,none⟩) 1 1) 1 _ rfl hrows2.1 qa x.params.length qc pcells rfl n1 n2 n3 (ZaI n2 n4) (by omega) (by omega) ?_
     intro a13 c13 w13 hown13 hg13 hl13
     have hP:=hrows2.pushes Z3 rfl (cls:=pcells) (ys:=x.params) n2 n3 (fun i cl y h1 h2=>⟨(n4 i cl y h1 h2).1,(n4 i cl y h1 h2).2⟩) hown13 hg13 hl13
     obtain⟨ss,hss⟩:∃ss:List ByteArray,ss=[(⟨#[113]⟩:ByteArray)]++x.params:=⟨_,rfl⟩
     rw [← hss] at hP
     have hlen:1+x.params.length=ss.length:=by rw [hss];simp;omega
     clear hss
     rw [hlen] at hP ⊢
     have hB13:Below w11.heap.size w11 w13:=hB12.trans (Ze.below (Zi hg13 (S:=fun k=>k=wd.heap.size) (fun k hk=>by simp only [Value.ownBlock,Option.some.injEq] at hk;exact hk.symm)) (B:=w11.heap.size) hB12.size (fun k hk=>by have hk:k=wd.heap.size:=hk;have:=hBd.size;omega))
     have HNX:=hdd (HNEXT.out w13 a13 c13 ss hB13 ((hP.list Z3).mono Z3 (fun k _ hk=>by
      rcases hk with hk|hk
      ·exact hk.elim
      ·have hk:wd.heap.size≤k:=hk
       have h1:=HC.out.blocks
       have h2:=hBd.size
       have h3:=HGL.out
       exact⟨by omega,by omega,by omega,by omega⟩)) (by omega))
     clear hrows2 n1 n2 n3 n4 hown13 hg13 hl13 hP hlen
     refine kpL hK (⟨(coR _ _ 0 _ _ _ HNX.out.1.xrow).trans rfl,HNX.out.2.1⟩) ?_
     clear hK K hHeld;intro hHeld
     (try simp only [Act.put,pu1,pu2,pu3])
     refine tkL 10 9 (some 55) hHeld ?_
     (try simp only [Act.put,pu1,pu2,pu3])
     refine tkL 11 10 (some 56) hHeld ?_
     (try simp only [Act.put,pu1,pu2,pu3])
     refine Z06 11 none fun K hK=>?_
     obtain⟨-,k1,z1,-⟩:=HNX.out
     go_simp
     clear k1 z1
     refine hK.out _ _ (Z15 (by kernel_rfl)) ?_
     clear hK K hHeld
     (try simp only [Act.put,pu1,pu2,pu3])
     refine Zq (by kernel_rfl) ?_ _
     obtain⟨-,-,-,ys,hyl,hys⟩:=HNX.out
     have HF:=hdd (HNX.out.1.df hys hyl)
     have HXL:=hdd (show ys.length≤4 from by rw [hyl];exact HPL.out.2)
     generalize w13.setCell ⟨g,1,none⟩ (.slice a13 ss.length c13)=w14 at HF ⊢
     clear HNX hyl hys HNEXT HQS HG12 hb12 hB12 hsz12 hBd hB13
     go_upto_region 9 with fail
     have HFD:=hdd (HF.out.later (bRf w14.heap.size w14).drew)
     refine Zw (S:=fun W:World=>W.cell? ⟨pb,0,none⟩=some (.slice pa ps.length pc)∧W.cell? ⟨xb,0,none⟩=some (.slice (some ⟨g,0,none⟩) ys.length gc)) (by kernel_rfl) ?_
     generalize w14.drew=wz at HFD ⊢
     have hHeld:(fun W:World=>W.cell? ⟨pb,0,none⟩=some (.slice pa ps.length pc)∧W.cell? ⟨xb,0,none⟩=some (.slice (some ⟨g,0,none⟩) ys.length gc)) wz:=HFD.out.cells.1
     refine tkL 2 0 (some 57) hHeld ?_
     (try simp only [Act.put,pu1,pu2,pu3])
     refine tkL 3 1 (some 58) hHeld ?_
     (try simp only [Act.put,pu1,pu2,pu3])
     refine Z06 2 none fun K hK=>?_
     obtain⟨-,⟨k0,z0⟩,-⟩:=HFD.out.cells
     go_simp
     clear k0 z0
     refine kpL hK (⟨(HFD.out.one (.slice pa ps.length pc)).1,(HFD.out.one (.slice pa ps.length pc)).2.1⟩) ?_
     clear hK K hHeld;intro hHeld
     (try simp only [Act.put,pu1,pu2,pu3])
     refine Z06 3 none fun K hK=>?_
     obtain⟨-,-,k0,z0⟩:=HFD.out.one (.slice pa ps.length pc)
     go_simp
     clear k0 z0
     refine hK.out _ _ (Z15 (by kernel_rfl)) ?_
     clear hK K hHeld
     (try simp only [Act.put,pu1,pu2,pu3])
     refine Zq (by kernel_rfl) ?_ _
     have HZ:=hdd (HFD.out.fin HPL.out.2 HXL.out)
     clear HFD
     go_wp2
     refine bodyPost_ret (Z1o rfl _ _ rb (rb+1) 25 25 (List.toArray [.slice pa ps.length pc]) (List.toArray [.slice (some ⟨g,0,none⟩) ys.length gc]) (0,0) (0,0) _ rfl HZ.out.1 rfl HZ.out.2.1 Tryz.underlying25 rfl (by kernel_rfl) (by kernel_rfl)) rfl ?_
     exact HZ.out.2.2
    ·have hbi:¬(0:Int)<(x.body.length:Int):=by omega
     have hdb:decide ((0:Int)<(x.body.length:Int))=false:=decide_eq_false hbi
     have HF:=hdd HD9.out.df
     have HXL:=hdd HPL.out.2
     clear hbl
     go_upto_region 9 with fail
     clear f0 f1 f2 x0 hx0 hbi hdb i0 hps0
     obtain⟨xa,hxa⟩:∃xa:Option Addr,xa=some ⟨gx,ox,none⟩:=⟨_,rfl⟩
     rw [← hxa] at HF
     clear hxa
     have HFD:=hdd (HF.out.later (bRf w9.heap.size w9).drew)
     refine Zw (S:=fun W:World=>W.cell? ⟨pb,0,none⟩=some (.slice pa ps.length pc)∧W.cell? ⟨xb,0,none⟩=some (.slice xa ps.length xc)) (by kernel_rfl) ?_
     generalize w9.drew=wz at HFD ⊢
     have hHeld:(fun W:World=>W.cell? ⟨pb,0,none⟩=some (.slice pa ps.length pc)∧W.cell? ⟨xb,0,none⟩=some (.slice xa ps.length xc)) wz:=HFD.out.cells.1
     refine tkL 2 0 (some 57) hHeld ?_
     (try simp only [Act.put,pu1,pu2,pu3])
     refine tkL 3 1 (some 58) hHeld ?_
     (try simp only [Act.put,pu1,pu2,pu3])
     refine Z06 2 none fun K hK=>?_
     obtain⟨-,⟨k0,z0⟩,-⟩:=HFD.out.cells
     go_simp
     clear k0 z0
     refine kpL hK (⟨(HFD.out.one (.slice pa ps.length pc)).1,(HFD.out.one (.slice pa ps.length pc)).2.1⟩) ?_
     clear hK K hHeld;intro hHeld
     (try simp only [Act.put,pu1,pu2,pu3])
     refine Z06 3 none fun K hK=>?_
     obtain⟨-,-,k0,z0⟩:=HFD.out.one (.slice pa ps.length pc)
     go_simp
     clear k0 z0
     refine hK.out _ _ (Z15 (by kernel_rfl)) ?_
     clear hK K hHeld
     (try simp only [Act.put,pu1,pu2,pu3])
     refine Zq (by kernel_rfl) ?_ _
     have HZ:=hdd (HFD.out.fin HPL.out.2 HXL.out)
     clear HFD
     go_wp2
     refine bodyPost_ret (Z1o rfl _ _ rb (rb+1) 25 25 (List.toArray [.slice pa ps.length pc]) (List.toArray [.slice xa ps.length xc]) (0,0) (0,0) _ rfl HZ.out.1 rfl HZ.out.2.1 Tryz.underlying25 rfl (by kernel_rfl) (by kernel_rfl)) rfl ?_
     exact HZ.out.2.2
   ·have i0:(v==0)=false:=by rw [beq_eq_false_iff_ne];exact hv
    clear hv hv0 hv1
    have HF:=hdd HD9.out.df
    have HXL:=hdd HPL.out.2
    go_upto_region 9 with fail
    clear i0
    have HFD:=hdd (HF.out.later (bRf w9.heap.size w9).drew)
    refine Zw (S:=fun W:World=>W.cell? ⟨pb,0,none⟩=some (.slice pa ps.length pc)∧W.cell? ⟨xb,0,none⟩=some (.slice xa ps.length xc)) (by kernel_rfl) ?_
    generalize w9.drew=wz at HFD ⊢
    have hHeld:(fun W:World=>W.cell? ⟨pb,0,none⟩=some (.slice pa ps.length pc)∧W.cell? ⟨xb,0,none⟩=some (.slice xa ps.length xc)) wz:=HFD.out.cells.1
    refine tkL 2 0 (some 57) hHeld ?_
    (try simp only [Act.put,pu1,pu2,pu3])
    refine tkL 3 1 (some 58) hHeld ?_
    (try simp only [Act.put,pu1,pu2,pu3])
    refine Z06 2 none fun K hK=>?_
    obtain⟨-,⟨k0,z0⟩,-⟩:=HFD.out.cells
    go_simp
    clear k0 z0
    refine kpL hK (⟨(HFD.out.one (.slice pa ps.length pc)).1,(HFD.out.one (.slice pa ps.length pc)).2.1⟩) ?_
    clear hK K hHeld;intro hHeld
    (try simp only [Act.put,pu1,pu2,pu3])
    refine Z06 3 none fun K hK=>?_
    obtain⟨-,-,k0,z0⟩:=HFD.out.one (.slice pa ps.length pc)
    go_simp
    clear k0 z0
    refine hK.out _ _ (Z15 (by kernel_rfl)) ?_
    clear hK K hHeld
    (try simp only [Act.put,pu1,pu2,pu3])
    refine Zq (by kernel_rfl) ?_ _
    have HZ:=hdd (HFD.out.fin HPL.out.2 HXL.out)
    clear HFD
    go_wp2
    refine bodyPost_ret (Z1o rfl _ _ rb (rb+1) 25 25 (List.toArray [.slice pa ps.length pc]) (List.toArray [.slice xa ps.length xc]) (0,0) (0,0) _ rfl HZ.out.1 rfl HZ.out.2.1 Tryz.underlying25 rfl (by kernel_rfl) (by kernel_rfl)) rfl ?_
    exact HZ.out.2.2
  ·have HD8:=hdd ((HD6.out.later hb7).other (xa:=xa) (xc:=xc) (xs:=[]) (Za.nil _ _ _))
   clear hb7 hans
   go_upto_region 6 with fail
   obtain⟨xb,hxb⟩:∃n,n=w7.heap.size:=⟨_,rfl⟩
   replace HD8:=hdd (show Z95 w W1 (w7.alloc (.cells #[.slice xa 0 xc] 25)) rb pb w7.heap.size a1 len1 cap1 B q pa pc ps xa xc [] from HD8.out)
   generalize w7.alloc (.cells #[.slice xa 0 xc] 25)=w8 at HD8 ⊢
   rw [← hxb] at HD8 ⊢
   clear hxb
   go_upto_region 7 with fail
   obtain⟨cells,m1,m2,m3,m4⟩:=HD8.out.hps.rows
   have hba7:Below w8.heap.size w8 (w8.alloc (.cells #[] 42)):=(bRf _ _).alloc (Nat.le_refl _) _
   have hpl1:=HPL.out.1
   have hpl4:=HPL.out.2
   have HRW:=hdd (show Z0g (w8.alloc (.cells #[] 42)) pa cells.flatten from m1.later hba7)
   have HONE:=hdd (ZbZ m2 m4)
   have HCP:=hdd (fun (w9:World) (a9:Option Addr) (c9:Nat) h1 h2 h3=>HD8.out.copied (w9:=w9) (a9:=a9) (c9:=c9) HPL.out.1 m2 m3 m4 h1 h2 h3)
   have HM:=hdd (aI m2 m3)
   have p0:=clT hba7 HD8.out.cells.1
   have hszx:xb<w8.heap.size:=(gsI HD8.out.xrow).1
   clear m1 m2 m3 m4 hba7
   go_upto_region 8 with(at_builtin;refine Z8u rfl (.tmp 41) (.tmp 43) rfl w8.heap.size _ 0 [] rfl (Z0i _ _ _ _ (Nat.le_refl _)) pa ps.length pc cells rfl HRW.out HM.out.1 HM.out.2 HONE.out (by omega) (by simp) ?_;intro a10 c10 w10 hown10 hg10 hl10;rw [Nat.zero_add] at hown10 hl10 ⊢;obtain⟨⟨k0,z0⟩,g,rfl,hcp⟩:=HCP.out w10 a10 c10 hown10 hg10 hl10;have HC0:=hdd hcp;clear hcp hown10 hg10 hl10)
   clear p0 k0 z0 hszx HCP HRW HONE HM
   generalize w10.setCell ⟨xb,0,none⟩ (.slice (some ⟨g,0,none⟩) ps.length c10)=w11 at HC0 ⊢
   obtain⟨gc,hgc⟩:∃gc,gc=c10:=⟨_,rfl⟩
   rw [← hgc] at HC0
   have HC:=hdd HC0.out
   clear hgc HC0
   obtain⟨x,qa,qc,ba,bc,hx0,g1,z1,hpr,hqs,hnext⟩:=HC.out.first HPL.out.1
   have hpr3:x.params.length≤3:=(Z3Y ((Z2w HVP.out).2 x (List.mem_of_getElem? hx0)).1).2.1
   have HQS:=hdd hqs
   have HNEXT:=hdd hnext
   have HGL:=hdd (show g<w11.heap.size from World.block_lt_of_cell? w11 _ g1)
   have hps0:(0:Int)<(ps.length:Int):=by omega
   have hBd:Below w11.heap.size w11 w11.drew:=(bRf _ _).drew
   have HH0:=hdd (show(fun W:World=>W.cell? ⟨xb,0,none⟩=some (.slice (some ⟨g,0,none⟩) ps.length gc)∧W.cell? ⟨g,1,none⟩=some (.slice qa x.params.length qc)) w11.drew from⟨clT hBd ((coR _ _ 0 _ _ _ HC.out.xrow).trans rfl),clT hBd g1⟩)
   clear hqs hnext g1 z1 hx0
   refine Zw (S:=fun W:World=>W.cell? ⟨xb,0,none⟩=some (.slice (some ⟨g,0,none⟩) ps.length gc)∧W.cell? ⟨g,1,none⟩=some (.slice qa x.params.length qc)) (by kernel_rfl) ?_
   generalize w11.drew=wd at HH0 hBd ⊢
   have hHeld:(fun W:World=>W.cell? ⟨xb,0,none⟩=some (.slice (some ⟨g,0,none⟩) ps.length gc)∧W.cell? ⟨g,1,none⟩=some (.slice qa x.params.length qc)) wd:=HH0.out
   clear HH0
   refine tkL 1 0 (some 46) hHeld ?_
   (try simp only [Act.put,pu1,pu2,pu3])
   refine tkL 9 1 (some 47) hHeld ?_
   (try simp only [Act.put,pu1,pu2,pu3])
   refine tkL 4 3 (some 49) hHeld ?_
   (try simp only [Act.put,pu1,pu2,pu3])
   refine tkL 5 4 (some 50) hHeld ?_
   (try simp only [Act.put,pu1,pu2,pu3])
   refine tkL 6 5 (some 51) hHeld ?_
   (try simp only [Act.put,pu1,pu2,pu3])
   refine tkL 7 6 (some 52) hHeld ?_
   (try simp only [Act.put,pu1,pu2,pu3])
   refine tkL 8 7 (some 53) hHeld ?_
   (try simp only [Act.put,pu1,pu2,pu3])
   refine Z06 2 (some 48) fun K hK=>?_
   go_simp
   have hb12:Below wd.heap.size wd (wd.alloc (.cells (List.toArray [.string ⟨#[113]⟩]) 9)):=(bRf _ _).alloc (Nat.le_refl _) _
   have HG12:=hdd (ZM.lit (lo:=wd.heap.size) (S:=fun _=>False) (w:=wd) (e:=9) Z3 (cells:=[[.string ⟨#[113]⟩]]) (xs:=[⟨#[113]⟩]) (Nat.le_refl _) (by intro c hc;simp at hc;subst hc;rfl) rfl (by decide) (by intro i cl y h1 h2;cases i with|zero=>cases h1;cases h2;exact⟨rfl,by decide⟩|succ i=>cases h1))
   have hB12:=hBd.trans (hb12.mono hBd.size)
   have hsz12:wd.heap.size<(wd.alloc (.cells (List.toArray [.string ⟨#[113]⟩]) 9)).heap.size:=by rw [World.size_alloc];omega
   replace HG12:=hdd (show ZM 1 Z1V 9 (fun _=>False) wd.heap.size (wd.alloc (.cells (List.toArray [.string ⟨#[113]⟩]) 9)) (some ⟨wd.heap.size,0,none⟩) 1 1 [⟨#[113]⟩] from HG12.out)
   generalize wd.alloc (.cells (List.toArray [.string ⟨#[113]⟩]) 9)=w12 at HG12 hb12 hB12 hsz12 ⊢
   refine kpL hK (⟨clT hb12 hHeld.1,clT hb12 hHeld.2⟩) ?_
   clear hK K hHeld;intro hHeld
   (try simp only [Act.put,pu1,pu2,pu3])
   refine Z06 8 (some 54) fun K hK=>?_
   obtain⟨cells2,hrows2⟩:=HG12.out.rows
   obtain⟨pcells,n1,n2,n3,n4⟩:=(HQS.out.below Z3 hB12).rows
   refine Z3W rfl (.tmp 48) (.tmp 53) rfl wd.heap.size (.slice (some ⟨wd.heap.size,0,none⟩) 1 1) 1 _ rfl hrows2.1 qa x.params.length qc pcells rfl n1 n2 n3 (ZaI n2 n4) (by omega) (by omega) ?_
   intro a13 c13 w13 hown13 hg13 hl13
   have hP:=hrows2.pushes Z3 rfl (cls:=pcells) (ys:=x.params) n2 n3 (fun i cl y h1 h2=>⟨(n4 i cl y h1 h2).1,(n4 i cl y h1 h2).2⟩) hown13 hg13 hl13
   obtain⟨ss,hss⟩:∃ss:List ByteArray,ss=[(⟨#[113]⟩:ByteArray)]++x.params:=⟨_,rfl⟩
   rw [← hss] at hP
   have hlen:1+x.params.length=ss.length:=by rw [hss];simp;omega
   clear hss
   rw [hlen] at hP ⊢
   have hB13:Below w11.heap.size w11 w13:=hB12.trans (Ze.below (Zi hg13 (S:=fun k=>k=wd.heap.size) (fun k hk=>by simp only [Value.ownBlock,Option.some.injEq] at hk;exact hk.symm)) (B:=w11.heap.size) hB12.size (fun k hk=>by have hk:k=wd.heap.size:=hk;have:=hBd.size;omega))
   have HNX:=hdd (HNEXT.out w13 a13 c13 ss hB13 ((hP.list Z3).mono Z3 (fun k _ hk=>by
    rcases hk with hk|hk
    ·exact hk.elim
    ·have hk:wd.heap.size≤k:=hk
     have h1:=HC.out.blocks
     have h2:=hBd.size
     have h3:=HGL.out
     exact⟨by omega,by omega,by omega,by omega⟩)) (by omega))
   clear hrows2 n1 n2 n3 n4 hown13 hg13 hl13 hP hlen
   refine kpL hK (⟨(coR _ _ 0 _ _ _ HNX.out.1.xrow).trans rfl,HNX.out.2.1⟩) ?_
   clear hK K hHeld;intro hHeld
   (try simp only [Act.put,pu1,pu2,pu3])
   refine tkL 10 9 (some 55) hHeld ?_
   (try simp only [Act.put,pu1,pu2,pu3])
   refine tkL 11 10 (some 56) hHeld ?_
   (try simp only [Act.put,pu1,pu2,pu3])
   refine Z06 11 none fun K hK=>?_
   obtain⟨-,k1,z1,-⟩:=HNX.out
   go_simp
   clear k1 z1
   refine hK.out _ _ (Z15 (by kernel_rfl)) ?_
   clear hK K hHeld
   (try simp only [Act.put,pu1,pu2,pu3])
   refine Zq (by kernel_rfl) ?_ _
   obtain⟨-,-,-,ys,hyl,hys⟩:=HNX.out
   have HF:=hdd (HNX.out.1.df hys hyl)
   have HXL:=hdd (show ys.length≤4 from by rw [hyl];exact HPL.out.2)
   generalize w13.setCell ⟨g,1,none⟩ (.slice a13 ss.length c13)=w14 at HF ⊢
   clear HNX hyl hys HNEXT HQS HG12 hb12 hB12 hsz12 hBd hB13
   go_upto_region 9 with fail
   have HFD:=hdd (HF.out.later (bRf w14.heap.size w14).drew)
   refine Zw (S:=fun W:World=>W.cell? ⟨pb,0,none⟩=some (.slice pa ps.length pc)∧W.cell? ⟨xb,0,none⟩=some (.slice (some ⟨g,0,none⟩) ys.length gc)) (by kernel_rfl) ?_
   generalize w14.drew=wz at HFD ⊢
   have hHeld:(fun W:World=>W.cell? ⟨pb,0,none⟩=some (.slice pa ps.length pc)∧W.cell? ⟨xb,0,none⟩=some (.slice (some ⟨g,0,none⟩) ys.length gc)) wz:=HFD.out.cells.1
   refine tkL 2 0 (some 57) hHeld ?_
   (try simp only [Act.put,pu1,pu2,pu3])
   refine tkL 3 1 (some 58) hHeld ?_
   (try simp only [Act.put,pu1,pu2,pu3])
   refine Z06 2 none fun K hK=>?_
   obtain⟨-,⟨k0,z0⟩,-⟩:=HFD.out.cells
   go_simp
   clear k0 z0
   refine kpL hK (⟨(HFD.out.one (.slice pa ps.length pc)).1,(HFD.out.one (.slice pa ps.length pc)).2.1⟩) ?_
   clear hK K hHeld;intro hHeld
   (try simp only [Act.put,pu1,pu2,pu3])
   refine Z06 3 none fun K hK=>?_
   obtain⟨-,-,k0,z0⟩:=HFD.out.one (.slice pa ps.length pc)
   go_simp
   clear k0 z0
   refine hK.out _ _ (Z15 (by kernel_rfl)) ?_
   clear hK K hHeld
   (try simp only [Act.put,pu1,pu2,pu3])
   refine Zq (by kernel_rfl) ?_ _
   have HZ:=hdd (HFD.out.fin HPL.out.2 HXL.out)
   clear HFD
   go_wp2
   refine bodyPost_ret (Z1o rfl _ _ rb (rb+1) 25 25 (List.toArray [.slice pa ps.length pc]) (List.toArray [.slice (some ⟨g,0,none⟩) ys.length gc]) (0,0) (0,0) _ rfl HZ.out.1 rfl HZ.out.2.1 Tryz.underlying25 rfl (by kernel_rfl) (by kernel_rfl)) rfl ?_
   exact HZ.out.2.2
theorem Za1 {p:List FnD} (h:(Z4K p).2=true):Z0C p=true∧(Z4K p).1=Zl (ZT p):=by
 unfold Z4K at h ⊢
 cases hp:Z0C p with
 | false=>rw [hp] at h;cases h
 | true=>
  rw [hp,if_pos rfl] at h
  rw [if_pos rfl]
  unfold Z7L at h ⊢
  by_cases hc:(Zl (ZT p)).size≤3000∧(ZT p).length≤600
  ·rw [if_pos hc];exact⟨rfl,rfl⟩
  ·rw [if_neg hc] at h;cases h
theorem ZbQ {p q:List FnD} (hp:(Z4K p).2=true) (hq:(Z4K q).2=true):((Z4K p).1.toList==(Z4K q).1.toList)=eqB p q:=by
 obtain⟨v1,t1⟩:=Za1 hp
 obtain⟨v2,t2⟩:=Za1 hq
 cases he:eqB p q with
 | true=>rw [Z1t.1 he];simp
 | false=>exact Z1m fun h=>Z2v he (Z6z v1 v2 (by rw [← t1,← t2];exact h))
theorem Z58 (a:Option Addr) (len cap:Nat) (zs:List Int) (w:World) (hT:Z30 w) (hin:Z1N w a len (zs.take len)) (hcap:len≤cap) :
  Calls Tryz.prog 3 #[.slice a len cap] w fun e w'=>e=.returned (.bool true)∧Below w.heap.size w w':=by
 by_cases hbig:1048576<len
 ·go_enter Tryz.func3,Tryz.ntmps3
  go_wp2
  go_ret
  exact⟨rfl,bRf _ _⟩
 have HDW:=hdd (Z76 w a len cap (zs.take len) hin hcap)
 have HT:=hdd hT
 clear hin hcap hT
 go_enter Tryz.func3,Tryz.ntmps3
 go_wp2_with fail
 refine HDW.out.mono ?_
 rintro e w1 ⟨pa,pc,ps,xa,xc,xs,rfl,hl1,hl2,hps,hxs,hb1⟩
 have HB:=hdd (Z1R w1 (.cells #[.slice pa ps.length pc] 25) (.cells #[.slice xa xs.length xc] 25))
 have HW:=hdd (show Below w.heap.size w ((w1.alloc (.cells #[.slice pa ps.length pc] 25)).alloc (.cells #[.slice xa xs.length xc] 25))∧Za 3 (FnP 20) (fun _=>True) ((w1.alloc (.cells #[.slice pa ps.length pc] 25)).alloc (.cells #[.slice xa xs.length xc] 25)) pa ps∧Za 3 (FnP 20) (fun _=>True) ((w1.alloc (.cells #[.slice pa ps.length pc] 25)).alloc (.cells #[.slice xa xs.length xc] 25)) xa xs from
  ⟨hb1.trans (HB.out.2.2.1.mono hb1.size),hps.below (Z2 20) HB.out.2.2.1,hxs.below (Z2 20) HB.out.2.2.1⟩)
 have HL:=hdd (show ps.length≤100∧xs.length≤100 from⟨by omega,by omega⟩)
 clear hl1 hl2 hps hxs hb1 HDW
 go_upto_region 4 with fail
 generalize (w1.alloc (.cells #[.slice pa ps.length pc] 25)).alloc (.cells #[.slice xa xs.length xc] 25)=w2 at HB HW ⊢
 obtain⟨pb,hpb⟩:∃b,b=w1.heap.size:=⟨_,rfl⟩
 obtain⟨qb,hqb⟩:∃b,b=pb+1:=⟨_,rfl⟩
 have p0:=coR _ _ 0 _ _ _ HB.out.1
 have q0:=coR _ _ 0 _ _ _ HB.out.2.1
 simp only [ga0,ga1] at p0 q0
 rw [← hpb] at p0 q0 ⊢
 rw [← hqb] at q0 ⊢
 clear hpb hqb HB
 have HP:=hdd (aI p0 q0)
 have HT2:=hdd (HT.out.later HW.out.1)
 have HSI:=hdd (fun (W:World) (hW:Below w2.heap.size w2 W)=>Z2p 20 pa xa pc xc ps xs W (HW.out.2.1.below (Z2 20) hW) (HW.out.2.2.below (Z2 20) hW) HL.out.1 HL.out.2)
 have HSR:=hdd (fun (W:World) (hW:Below w2.heap.size w2 W)=>Z2p 20 xa pa xc pc xs ps W (HW.out.2.2.below (Z2 20) hW) (HW.out.2.1.below (Z2 20) hW) HL.out.2 HL.out.1)
 have HSO:=hdd (fun (W:World) (hW:Below w2.heap.size w2 W)=>Z2p 20 pa pa pc pc ps ps W (HW.out.2.1.below (Z2 20) hW) (HW.out.2.1.below (Z2 20) hW) HL.out.1 HL.out.1)
 have HSS:=hdd (fun (W:World) (hW:Below w2.heap.size w2 W)=>Z5p 20 pa xa pc xc ps xs W (HW.out.2.1.below (Z2 20) hW) (HW.out.2.2.below (Z2 20) hW) HL.out.1 HL.out.2)
 have HT1:=hdd (fun (W:World) (hW:Below w2.heap.size w2 W)=>Z2R 20 pa pc ps W (HT2.out.later hW) (HW.out.2.1.below (Z2 20) hW) HL.out.1)
 have HTX:=hdd (fun (W:World) (hW:Below w2.heap.size w2 W)=>Z2R 20 xa xc xs W (HT2.out.later hW) (HW.out.2.2.below (Z2 20) hW) HL.out.2)
 have HTS:=hdd (fun (W:World) (hW:Below w2.heap.size w2 W)=>Z4w 20 _ pa pc ps W (HW.out.2.1.below (Z2 20) hW) HL.out.1)
 have HLAW:=hdd (fun (h1:(Z4K ps).2=true) (h2:(Z4K xs).2=true)=>ZbQ h1 h2)
 rw [ZbB xs ps] at HSR
 rw [Z0s (rfl:ps=ps)] at HSO
 generalize eqB ps xs=E at HSI HSR HSS HLAW
 generalize (Z4K ps).1=S1 at HT1 HTS HLAW
 generalize (Z4K ps).2=b1 at HT1 HTS HLAW
 generalize (Z4K xs).1=S2 at HTX HLAW
 generalize (Z4K xs).2=b2 at HTX HLAW
 have hE:(E != E)=false:=by cases E<;>rfl
 have hb1:(b1==b1)=true:=by cases b1<;>rfl
 have hS1:(S1.toList==S1.toList)=true:=by simp
 go_wp2_with fail
 refine(HSI.out w2 (bRf _ _)).mono ?_
 rintro e w3 ⟨rfl,hb3⟩
 have HB3:=hdd hb3
 have p1:=clT HB3.out HP.out.1
 have q1:=clT HB3.out HP.out.2
 clear hb3 p0 q0
 go_wp2_with fail
 refine(HSS.out w3 HB3.out).mono ?_
 rintro e w4 ⟨rfl,hb4⟩
 have HB4:=hdd (HB3.out.trans (hb4.mono HB3.out.size))
 have p0:=clT HB4.out HP.out.1
 have q0:=clT HB4.out HP.out.2
 clear hb4 p1 q1
 go_wp2_with fail
 refine(HSR.out w4 HB4.out).mono ?_
 rintro e w5 ⟨rfl,hb5⟩
 have HB5:=hdd (HB4.out.trans (hb5.mono HB4.out.size))
 have p1:=clT HB5.out HP.out.1
 have q1:=clT HB5.out HP.out.2
 clear hb5 p0 q0
 go_wp2_with fail
 refine(HSO.out w5 HB5.out).mono ?_
 rintro e w6 ⟨rfl,hb6⟩
 have HB6:=hdd (HB5.out.trans (hb6.mono HB5.out.size))
 have p0:=clT HB6.out HP.out.1
 have q0:=clT HB6.out HP.out.2
 clear hb6 p1 q1
 go_wp2_with fail
 refine(HT1.out w6 HB6.out).mono ?_
 rintro e w7 ⟨rfl,hb7⟩
 have HB7:=hdd (HB6.out.trans (hb7.mono HB6.out.size))
 have p1:=clT HB7.out HP.out.1
 have q1:=clT HB7.out HP.out.2
 clear hb7 p0 q0
 go_wp2_with fail
 refine(HTX.out w7 HB7.out).mono ?_
 rintro e w8 ⟨rfl,hb8⟩
 have HB8:=hdd (HB7.out.trans (hb8.mono HB7.out.size))
 have p0:=clT HB8.out HP.out.1
 have q0:=clT HB8.out HP.out.2
 clear hb8 p1 q1
 go_wp2_with fail
 refine(HTS.out w8 HB8.out).mono ?_
 rintro e w9 ⟨rfl,hb9⟩
 have HB9:=hdd (show Below w.heap.size w w9 from HW.out.1.trans ((HB8.out.trans (hb9.mono HB8.out.size)).mono HW.out.1.size))
 clear hb9 p0 q0
 cases b1 with
 | false=>
  go_wp2
  go_ret
  exact⟨rfl,HB9.out⟩
 | true=>
  cases b2 with
  | false=>
   go_wp2
   go_ret
   exact⟨rfl,HB9.out⟩
  | true=>
   have hlaw:=HLAW.out rfl rfl
   have hEE:(E==E)=true:=by cases E<;>rfl
   go_wp2
   go_ret
   exact⟨rfl,HB9.out⟩
end Go.Proofs.YtloooebabieeeaaGreatDoor
