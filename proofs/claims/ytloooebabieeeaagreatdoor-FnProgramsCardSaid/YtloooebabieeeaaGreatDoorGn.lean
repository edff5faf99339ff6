/-
  The reference draws programs: an address of a cell (cell).
-/
import Derived.Test.YtloooebabieeeaaGreatDoorCp
import Derived.Test.YtloooebabieeeaaGreatDoorGz
import Derived.Test.YtloooebabieeeaaGreatDoorGi
set_option maxRecDepth 100000
set_option maxHeartbeats 16000000
set_option linter.unusedVariables false
namespace Go.Proofs.YtloooebabieeeaaGreatDoor
open Go.RowKit
section
variable {w0 w:World} {br bg:Nat} {a:Option Addr} {len cap:Nat} {bs:List Int} {fa:Option Addr} {fc:Nat} {fns:List FnD} {va:Option Addr} {vc:Nat} {vars:List ByteArray} {next left next' left':Int}
variable {z:List Value} {ty:TypeId} {u u':Nat} {wr w':World}
theorem BSt.step2 (h:BSt w0 w br bg a len cap bs fa fc fns va vc vars next left z ty u wr) (ht:Zf br bg wr w') (hg:GSt w0 br bg a len cap bs fa fc fns u' va vc vars next' left' w'):BSt w0 w br bg a len cap bs fa fc fns va vc vars next' left' z ty u' w':=
 ⟨hg,h.t.trans ht,h.lt,(Ze.block (S:=fun k=>k=br∨k=bg∨wr.heap.size≤k) ht _ h.size (by have:=h.lt;have:=h.size;omega)).trans h.rrow,ht.list Z3 h.vlow (fun k h=>⟨h.1,h.2.1⟩),ht.list (Z2 20) h.flow (fun k h=>⟨h.1,h.2.1⟩)⟩
theorem Z2l.blockC {w w':World} {g n:Nat} {xs:List Int} (h:Z2l w (some ⟨g,0,none⟩) n xs) (hb:w'.heap[g]? = w.heap[g]?):Z2l w' (some ⟨g,0,none⟩) n xs:=by
 refine⟨h.length,?_⟩
 rcases h.row with h0|⟨b,off,he,h1⟩
 ·exact .inl h0
 ·cases he
  exact .inr ⟨g,0,rfl,fun i v hv=>(World.cell?_of_block hb).trans (h1 i v hv)⟩
theorem Zf.block {b:Nat} (h:Zf br bg w w') (hb:b<w.heap.size) (h1:b≠br) (h2:b≠bg):w'.heap[b]? = w.heap[b]?:=
 Ze.block (S:=fun k=>k=br∨k=bg∨w.heap.size≤k) h _ hb (by omega)
theorem Z9G (op n:Int) (hop:-9223372036854775808≤op∧op≤9223372036854775807) (d:Nat) {S:Nat→Prop} {w:World}:ZG (d+1) S w [.int .i64 op,.int .i64 n,.string ⟨#[]⟩,.slice none 0 0] (.mk op n ⟨#[]⟩ []):=
 ⟨Z88 op n ⟨#[]⟩ hop d,by show(decide (maxLen<(⟨#[]⟩:ByteArray).size)||List.any [] _)=false;rw [decide_eq_false (Nat.not_lt.2 (show(⟨#[]⟩:ByteArray).size≤maxLen from Nat.zero_le _))];rfl⟩
theorem Z7x (hlen:len≤2000) (u:Nat) (w:World) (h:GSt w0 br bg a len cap bs fa fc fns u va vc vars next left w) (hu:u+310≤1990000) :
  Calls Tryz.prog 106 #[.pointer (some ⟨bg,0,none⟩)] w fun e w'=>∃cs x,e=.returned (.agg (List.toArray cs))∧ZG 9 (fun k=>w.heap.size≤k) w' cs x∧GSt w0 br bg a len cap bs fa fc fns (u+310) va vc vars next left w'∧Zf br bg w w'∧Z7t bs fns vars (Z5 w br)=(x,Z5 w' br):=by
 have HU:=hdd hu
 have HPW0:=hdd (show Z5 (w.alloc (.cells #[.int .i64 0,.int .i64 0,.string ⟨#[]⟩,.slice none 0 0] 64)) br=Z5 w br from Zs ((bRf _ _).alloc (Nat.le_refl _) _) h.lts.1)
 have HLT:=hdd h.lts
 have HB:=hdd (BSt.start [.int .i64 0,.int .i64 0,.string ⟨#[]⟩,.slice none 0 0] 64 h)
 clear h hu
 go_enter Tryz.func106,Tryz.ntmps106
 go_upto_region 1 with fail
 change Hid (BSt w0 w br bg a len cap bs fa fc fns va vc vars next left [.int .i64 0,.int .i64 0,.string ⟨#[]⟩,.slice none 0 0] 64 u (w.alloc (.cells #[.int .i64 0,.int .i64 0,.string ⟨#[]⟩,.slice none 0 0] 64))) at HB
 generalize w.alloc (.cells #[.int .i64 0,.int .i64 0,.string ⟨#[]⟩,.slice none 0 0] 64)=wr at HB HPW0 ⊢
 have HL:=hdd (show ∀W,BSt w0 w br bg a len cap bs fa fc fns va vc vars next left [.int .i64 0,.int .i64 0,.string ⟨#[]⟩,.slice none 0 0] 64 u W→Calls Tryz.prog 57 #[.pointer (some ⟨bg,0,none⟩),.int .i64 2] W fun e W'=>∃(y:Z6) (ya:Option Addr) (yc:Nat),e=.returned (.agg (List.toArray [.int .i64 y.op,.int .i64 y.n,.string y.name,.slice ya y.kids.length yc]))∧Hid (BSt w0 w br bg a len cap bs fa fc fns va vc vars next left [.int .i64 0,.int .i64 0,.string ⟨#[]⟩,.slice none 0 0] 64 (u+300) W'∧ZG 8 (fun b=>W.heap.size≤b) W' [.int .i64 y.op,.int .i64 y.n,.string y.name,.slice ya y.kids.length yc] y∧Zf br bg W W'∧Z0f bs fns vars 2 (Z5 W br)=(y,Z5 W' br)) from fun W hW=>by
  refine(Z1j hlen 2 (by omega) u W hW.g (by have:=HU.out;omega)).mono ?_
  rintro e W' ⟨cs,y,rfl,hy,hg,ht,hF⟩
  obtain⟨ya,yc,rfl⟩:=Zj hy.1
  exact⟨y,ya,yc,rfl,hdd ⟨hW.step2 ht hg,hy,ht,hF⟩⟩)
 have HA:=hdd (show ∀W,Below (wr.alloc (.cells #[.int .i64 16,.int .i64 16,.int .i64 16,.int .i64 8,.int .i64 17,.int .i64 0] 3)).heap.size (wr.alloc (.cells #[.int .i64 16,.int .i64 16,.int .i64 16,.int .i64 8,.int .i64 17,.int .i64 0] 3)) W→Calls Tryz.prog 57 #[.pointer (some ⟨bg,0,none⟩),.int .i64 2] W fun e W'=>∃(y:Z6) (ya:Option Addr) (yc:Nat),e=.returned (.agg (List.toArray [.int .i64 y.op,.int .i64 y.n,.string y.name,.slice ya y.kids.length yc]))∧Hid (BSt w0 w br bg a len cap bs fa fc fns va vc vars next left [.int .i64 0,.int .i64 0,.string ⟨#[]⟩,.slice none 0 0] 64 (u+300) W'∧ZG 8 (fun b=>w.heap.size<b) W' [.int .i64 y.op,.int .i64 y.n,.string y.name,.slice ya y.kids.length yc] y∧Z2l W' (some ⟨wr.heap.size,0,none⟩) 6 [16,16,16,8,17,0]∧Z0f bs fns vars 2 (Z5 wr br)=(y,Z5 W' br)) from fun W hW=>by
  refine(HL.out W ((HB.out.alloc _).later hW)).mono ?_
  rintro e W' ⟨y,ya,yc,rfl,hx⟩
  have hsz:=hW.size
  rw [World.size_alloc] at hsz
  have hws:=HB.out.size
  have hwl:=HB.out.lt
  exact⟨y,ya,yc,rfl,hdd ⟨hx.out.1,(Z1 8).mono (fun b _ h=>by omega) hx.out.2.1,((Z7w wr [16,16,16,8,17,0]).later hW).blockC (hx.out.2.2.1.block (by omega) (by omega) (by omega)),by rw [← hx.out.2.2.2,Zs hW (by have:=HB.out.g.lts.1;rw [World.size_alloc];omega),Zs ((bRf _ _).alloc (Nat.le_refl _) _) HB.out.g.lts.1]⟩⟩)
 have HV:=hdd (show ∀W,Below wr.heap.size wr W→Calls Tryz.prog 57 #[.pointer (some ⟨bg,0,none⟩),.int .i64 2] W fun e W'=>∃(y:Z6) (ya:Option Addr) (yc:Nat),e=.returned (.agg (List.toArray [.int .i64 y.op,.int .i64 y.n,.string y.name,.slice ya y.kids.length yc]))∧Hid (BSt w0 w br bg a len cap bs fa fc fns va vc vars next left [.int .i64 0,.int .i64 0,.string ⟨#[]⟩,.slice none 0 0] 64 (u+300) W'∧ZG 8 (fun b=>w.heap.size<b) W' [.int .i64 y.op,.int .i64 y.n,.string y.name,.slice ya y.kids.length yc] y∧True∧Z0f bs fns vars 2 (Z5 wr br)=(y,Z5 W' br)) from fun W hW=>by
  refine(HL.out W (HB.out.later hW)).mono ?_
  rintro e W' ⟨y,ya,yc,rfl,hx⟩
  have hsz:=hW.size
  have hws:=HB.out.size
  exact⟨y,ya,yc,rfl,hdd ⟨hx.out.1,(Z1 8).mono (fun b _ h=>by omega) hx.out.2.1,trivial,by rw [← hx.out.2.2.2,Zs hW HB.out.g.lts.1]⟩⟩)
 have HA0:=hdd (fun nq=>HA.out ((wr.alloc (.cells #[.int .i64 16,.int .i64 16,.int .i64 16,.int .i64 8,.int .i64 17,.int .i64 0] 3)).drewN nq) (below_drewN (bRf _ _) nq))
 have HA2:=hdd (fun nq nr=>HA.out (((wr.drewN nq).alloc (.cells #[.int .i64 16,.int .i64 16,.int .i64 16,.int .i64 8,.int .i64 17,.int .i64 0] 3)).drewN nr) ⟨rfl,rfl,rfl,Nat.le_refl _,fun _ _=>rfl⟩)
 have HV0:=hdd (fun nq=>HV.out (wr.drewN nq) (below_drewN (bRf _ _) nq))
 have HN:=hdd (show ∀(W:World) (g:Nat) (cs:List Value) (y:Z6),BSt w0 w br bg a len cap bs fa fc fns va vc vars next left [.int .i64 0,.int .i64 0,.string ⟨#[]⟩,.slice none 0 0] 64 (u+300) W→ZG 8 (fun b=>w.heap.size<b) W cs y→Z2l W (some ⟨g,0,none⟩) 6 [16,16,16,8,17,0]→g≠br→Calls Tryz.prog 33 #[.pointer (some ⟨br,0,none⟩),.slice (some ⟨g,0,none⟩) 6 6] W fun e W'=>∃v:Int,e=.returned (.int .i64 v)∧(0≤v∧v≤17)∧Hid (BSt w0 w br bg a len cap bs fa fc fns va vc vars next left [.int .i64 0,.int .i64 0,.string ⟨#[]⟩,.slice none 0 0] 64 (u+301) W'∧ZG 8 (fun b=>w.heap.size<b) W' cs y∧∀q,Z5 W br=q→Z2Y bs [16,16,16,8,17,0] q=v∧Z5 W' br=q+1) from fun W g cs y hW hy hi hg=>by
  obtain⟨p,hp,hrd⟩:=hW.g.rd
  refine(Z1e w0 _ br a len cap bs p g 6 6 [16,16,16,8,17,0] hrd hi hg (by omega) hlen (by have:=HU.out;omega)).mono ?_
  rintro e W' ⟨v,hv,rfl,hrd',hg',hFv⟩
  have hl:=hW.lt
  refine⟨v,rfl,?_,hdd ⟨hW.step (u':=u+301) (Zd.grown hg') hrd' (by omega) (by omega),(Z1 8).turned (Zd.grown hg') (fun k h1 h2 h3=>by omega) hy,fun q hq=>by rw [← hq,hrd.pos,hrd'.pos];exact⟨hFv,rfl⟩⟩⟩
  simp only [List.mem_cons,List.not_mem_nil,or_false] at hv
  omega)
 have HS:=hdd (fun (u9:Nat) (W:World) (v0 v1 v2 v3:Value) (h:BSt w0 w br bg a len cap bs fa fc fns va vc vars next left [.int .i64 0,.int .i64 0,.string ⟨#[]⟩,.slice none 0 0] 64 u9 W)=>(show((((W.setCell ⟨w.heap.size,0,none⟩ v0).setCell ⟨w.heap.size,1,none⟩ v1).setCell ⟨w.heap.size,2,none⟩ v2).setCell ⟨w.heap.size,3,none⟩ v3).cell? ⟨bg,0,none⟩=some (.pointer (some ⟨br,0,none⟩)) from by
  rw [← ZW]
  have hl:=h.lt
  have hs:=h.size
  have hlt:=h.g.lts
  exact(World.cell?_of_block ((ZB (g:=w.heap.size) [v0,v1,v2,v3] W 0).block bg (by omega) (by omega))).trans h.g.c0))
 go_region_held3 (fun W=>W.cell? ⟨bg,0,none⟩=some (.pointer (some ⟨br,0,none⟩))) (first|exact GSt.c0 (BSt.g (by repeat (first|exact HB.out|exact hx8.out.1|exact hx10.out.1|apply BSt.alloc|apply BSt.drewN|apply BSt.drew)))|exact HS.out _ _ _ _ _ _ (hx10.out.1.alloc _)) (first|(go_at_call 57;(first|refine(HV0.out _).mono ?_|refine(HA0.out _).mono ?_|refine(HA2.out _ _).mono ?_);rintro e w8 ⟨y,ya,yc,rfl,hx8⟩)|(go_at_call 33;refine(HN.out _ _ [.int .i64 y.op,.int .i64 y.n,.string y.name,.slice ya y.kids.length yc] y (by repeat (first|exact HB.out|exact hx8.out.1|exact hx10.out.1|apply BSt.alloc|apply BSt.drewN|apply BSt.drew)) ((Z1 8).below (by repeat (first|exact bRf _ _|apply Zy|apply later_drewN|apply Zt)) hx8.out.2.1) (by first|exact Z2l.later hx8.out.2.2.1 (by repeat (first|exact bRf _ _|apply Zy|apply later_drewN|apply Zt))|exact Z2l.later (Z7w _ [16,16,16,8,17,0]) (by repeat (first|exact bRf _ _|apply Zy|apply later_drewN|apply Zt))) (by have:=HB.out.lt;have:=HB.out.size;have:=hx8.out.1.size;have:=hx8.out.1.lt;first|exact(by omega:wr.heap.size≠br)|exact(by omega:w8.heap.size≠br))).mono ?_;rintro e w10 ⟨v,rfl,hv,hx10⟩;(have hE10:=hx10.out.2.2 (Z5 w8 br) (by first|rfl|exact Zs (by repeat (first|exact bRf _ _|apply Zy|apply later_drewN|apply Zt)) hx8.out.1.g.lts.1));(have hr8:=(hx10.out.1.alloc (.cells #[.int .i64 y.op,.int .i64 y.n,.string y.name,.slice ya y.kids.length yc,.int .i64 1,.int .i64 v,.string ⟨#[]⟩,.slice none 0 0] 64)).rrow);(have z0:=coR _ _ 0 _ _ _ hr8);(have z1:=coR _ _ 1 _ _ _ hr8);(have z2:=coR _ _ 2 _ _ _ hr8);(have z3:=coR _ _ 3 _ _ _ hr8);(simp only [ga0,ga1,ga2] at z0 z1 z2 z3);(have g0:=frR _ _ 0 _ _ hr8);(have g1:=frR _ _ 1 _ _ hr8);(have g2:=frR _ _ 2 _ _ hr8);(have g3:=frR _ _ 3 _ _ hr8)))
 all_goals
  have HFZ:=hdd (show Z7t bs fns vars (Z5 w br)=(.mk 7 0 ⟨#[]⟩ [y,.mk 1 v ⟨#[]⟩ []],Z5 ((w10.alloc (.cells #[.int .i64 y.op,.int .i64 y.n,.string y.name,.slice ya y.kids.length yc,.int .i64 1,.int .i64 v,.string ⟨#[]⟩,.slice none 0 0] 64)).setCells w.heap.size 0 [.int .i64 7,.int .i64 0,.string ⟨#[]⟩,.slice (some ⟨w10.heap.size,0,none⟩) 2 2]) br) by
   rw [Z0P (by have:=HLT.out.1;omega),Zs ((bRf _ _).alloc (Nat.le_refl _) _) hx10.out.1.g.lts.1,Z7t,← HPW0.out,hx8.out.2.2.2,hE10.1,hE10.2])
  have HZ:=hdd (show((w10.alloc (.cells #[.int .i64 y.op,.int .i64 y.n,.string y.name,.slice ya y.kids.length yc,.int .i64 1,.int .i64 v,.string ⟨#[]⟩,.slice none 0 0] 64)).setCells w.heap.size 0 [.int .i64 7,.int .i64 0,.string ⟨#[]⟩,.slice (some ⟨w10.heap.size,0,none⟩) 2 2]).heap[w.heap.size]? = some (.cells (List.toArray [.int .i64 7,.int .i64 0,.string ⟨#[]⟩,.slice (some ⟨w10.heap.size,0,none⟩) 2 2]) 64 (0,0))∧ZG 9 (fun k=>w.heap.size≤k) ((w10.alloc (.cells #[.int .i64 y.op,.int .i64 y.n,.string y.name,.slice ya y.kids.length yc,.int .i64 1,.int .i64 v,.string ⟨#[]⟩,.slice none 0 0] 64)).setCells w.heap.size 0 [.int .i64 7,.int .i64 0,.string ⟨#[]⟩,.slice (some ⟨w10.heap.size,0,none⟩) 2 2]) [.int .i64 7,.int .i64 0,.string ⟨#[]⟩,.slice (some ⟨w10.heap.size,0,none⟩) 2 2] (.mk 7 0 ⟨#[]⟩ [y,.mk 1 v ⟨#[]⟩ []])∧GSt w0 br bg a len cap bs fa fc fns (u+310) va vc vars next left ((w10.alloc (.cells #[.int .i64 y.op,.int .i64 y.n,.string y.name,.slice ya y.kids.length yc,.int .i64 1,.int .i64 v,.string ⟨#[]⟩,.slice none 0 0] 64)).setCells w.heap.size 0 [.int .i64 7,.int .i64 0,.string ⟨#[]⟩,.slice (some ⟨w10.heap.size,0,none⟩) 2 2])∧Zf br bg w ((w10.alloc (.cells #[.int .i64 y.op,.int .i64 y.n,.string y.name,.slice ya y.kids.length yc,.int .i64 1,.int .i64 v,.string ⟨#[]⟩,.slice none 0 0] 64)).setCells w.heap.size 0 [.int .i64 7,.int .i64 0,.string ⟨#[]⟩,.slice (some ⟨w10.heap.size,0,none⟩) 2 2]) by
   have hA:=hx10.out.1.alloc (.cells #[.int .i64 y.op,.int .i64 y.n,.string y.name,.slice ya y.kids.length yc,.int .i64 1,.int .i64 v,.string ⟨#[]⟩,.slice none 0 0] 64)
   obtain⟨k1,k2,k3,k4⟩:=hA.put (cs:=[.int .i64 7,.int .i64 0,.string ⟨#[]⟩,.slice (some ⟨w10.heap.size,0,none⟩) 2 2]) rfl
   have hy1:=(Z1 8).below ((bRf w10.heap.size w10).alloc (Nat.le_refl _) (.cells #[.int .i64 y.op,.int .i64 y.n,.string y.name,.slice ya y.kids.length yc,.int .i64 1,.int .i64 v,.string ⟨#[]⟩,.slice none 0 0] 64)) hx10.out.2.1
   have htwo:=Z4P (op:=7) (by decide) (S:=fun b=>w.heap.size<b) (c:=2) (t:=64) (b:=w10.heap.size) (hAn w10 (.cells #[.int .i64 y.op,.int .i64 y.n,.string y.name,.slice ya y.kids.length yc,.int .i64 1,.int .i64 v,.string ⟨#[]⟩,.slice none 0 0] 64)) (by have:=hx10.out.1.size;omega) hy1 (Z9G 1 v (by decide) 7)
   exact⟨k1,(Z1 9).mono (fun k _ h=>Nat.le_of_lt h) ((Z1 9).turned k2 (fun k _ h1 h2=>by have h1:w.heap.size<k:=h1;omega) htwo),k3.more (by omega),k4⟩)
  rw [ZW] at HZ HFZ
  go_wp2
  refine bodyPost_ret (results_cell_row rfl _ _ w.heap.size 64 (List.toArray [.int .i64 7,.int .i64 0,.string ⟨#[]⟩,.slice (some ⟨w10.heap.size,0,none⟩) 2 2]) (0,0) _ rfl ?_ Tryz.underlying64 rfl (by kernel_rfl)) rfl ?_
  ·exact HZ.out.1
  exact⟨_,_,rfl,HZ.out.2.1,HZ.out.2.2.1,HZ.out.2.2.2,HFZ.out⟩
end
theorem Z6h {w:World} {ops:Array Oper} {rest:List Oper} {o:Oper} {a:Act} {Q:Exit→Act→World→Prop} (hgd:o.guard=none) (s x:Operand) (ho:o.op=.call { callee:=.builtin .append,args:=#[s,x],argTypes:=#[39,39] })
  (base:Nat) (v:Value) (n:Nat) (xs:List Value) (hs:a.eval s=v) (hown:w.ownsRow base 9 1 v n xs)
  (ao:Option Addr) (m c:Nat) (ys:List ByteArray) (hx:a.eval x=.slice ao m c) (hl:ys.length=m) (hrow:Z0g w ao (ys.map Value.string)) (hnil:ao=none→c=0)
  (hb:n+m≤1099511627776) (hbase:base≤w.heap.size)
  (h:∀a' c' w',w'.ownsRow base 9 1 (.slice a' (n+m) c') (n+m) (xs++ys.map Value.string)→w.grownBy w' v.ownBlock→
   ((Value.slice a' (n+m) c').ownBlock=v.ownBlock∨(Value.slice a' (n+m) c').ownBlock=some w.heap.size)→wpList Tryz.prog ops Q rest (a.put o.dst (.slice a' (n+m) c')) w'):wpList Tryz.prog ops Q (o::rest) a w:=by
 obtain⟨i0,hi,hz0,hz1,hz2⟩:=info_parts Z9T
 exact Z18 hgd s x 39 ho base 9 i0 (.string ByteArray.empty) 1 16 Z9Z hi hz0 hz1 hz2 rfl (by decide) v n xs hs hown ao m c _ hx (by simp [hl]) hrow hnil (by intro u hu;obtain⟨x,_,rfl⟩:=List.mem_map.1 hu;rfl) (by unfold maxLen;omega) (by omega) hbase h
theorem ZaA (w:World) (g:Nat) (v0 v1 v2 v3 v4:Value):w.setCells g 0 [v0,v1,v2,v3,v4]=((((w.setCell ⟨g,0,none⟩ v0).setCell ⟨g,1,none⟩ v1).setCell ⟨g,2,none⟩ v2).setCell ⟨g,3,none⟩ v3).setCell ⟨g,4,none⟩ v4:=rfl
theorem Z6b {S:Nat→Prop} {lo n c:Nat} {w:World} {a:Option Addr} {xs:List ByteArray} (hown:w.ownsRow lo 9 1 (.slice a n c) n (xs.map Value.string)) (hl:xs.length=n) (hx:∀s∈xs,s.size≤maxLen) (hS:∀k,lo≤k→S k):Za 1 Z1V S w a xs:=by
 have hf:∀ys:List ByteArray,(ys.map fun s=>[Value.string s]).flatten=ys.map Value.string:=fun ys=>by
  induction ys with
  | nil=>rfl
  | cons y ys ih=>rw [List.map_cons,List.flatten_cons,ih];rfl
 have hg:ZM 1 Z1V 9 (fun _=>False) lo w a n c xs:=⟨⟨xs.map fun s=>[Value.string s],by rw [hf];exact hown,by simpa using hl,by intro c hc;obtain⟨s,_,rfl⟩:=List.mem_map.1 hc;rfl,fun i cl x hc hx'=>by
  rw [List.getElem?_map] at hc
  rw [hx'] at hc
  cases hc
  exact⟨rfl,hx _ (List.mem_of_getElem? hx')⟩⟩,hl⟩
 exact(hg.list Z3).mono Z3 (fun k _ h=>hS k (h.resolve_left id))
section
variable {S:Nat→Prop} {w0 w:World} {br bg:Nat} {a:Option Addr} {len cap:Nat} {bs:List Int} {fa:Option Addr} {fc:Nat} {fns:List FnD} {va va':Option Addr} {vc vc':Nat} {vars vars':List ByteArray} {next left next' left':Int}
structure LSt (S:Nat→Prop) (w0 w:World) (br bg:Nat) (a:Option Addr) (len cap:Nat) (bs:List Int) (fa:Option Addr) (fc:Nat) (fns:List FnD) (va:Option Addr) (vc:Nat) (vars:List ByteArray) (next left:Int) (cs:List Value) (x:Z6) (u:Nat) (wr:World):Prop where
 g:GSt w0 br bg a len cap bs fa fc fns u va vc vars next left wr
 t:Zf br bg w wr
 lt:br<w.heap.size∧bg<w.heap.size∧w0.heap.size≤w.heap.size
 brow:wr.heap[w.heap.size]? = some (.cells cs.toArray 64 (0,0))
 rrow:wr.heap[w.heap.size+1]? = some (.cells #[.int .i64 0,.string ⟨#[]⟩,.slice none 0 0,.slice none 0 0,.slice none 0 0] 48 (0,0))
 ex:ZG 12 (fun k=>S k∧k<w.heap.size) wr cs x
 vlow:Za 1 Z1V (fun k=>k≠br∧k≠bg∧k≠w.heap.size+1) wr va vars
 flow:Za 3 (FnP 20) (fun k=>k≠br∧k≠bg∧k≠w.heap.size+1) wr fa fns
variable {cs:List Value} {x:Z6} {u u':Nat} {wr w':World}
theorem LSt.size (h:LSt S w0 w br bg a len cap bs fa fc fns va vc vars next left cs x u wr):w.heap.size+1<wr.heap.size:=(gsI h.rrow).1
theorem LSt.lay (h:LSt S w0 w br bg a len cap bs fa fc fns va vc vars next left cs x u wr) (hS:∀k,S k→k≠br∧k≠bg) (ht:Zf br bg wr w') (hv:Za 1 Z1V (fun k=>k≠br∧k≠bg∧k≠w.heap.size+1) w' va' vars') (hg:GSt w0 br bg a len cap bs fa fc fns u' va' vc' vars' next' left' w'):LSt S w0 w br bg a len cap bs fa fc fns va' vc' vars' next' left' cs x u' w':=
 ⟨hg,h.t.trans ht,h.lt,(ht.block (by have:=h.size;omega) (by have:=h.lt;omega) (by have:=h.lt;omega)).trans h.brow,(ht.block h.size (by have:=h.lt;omega) (by have:=h.lt;omega)).trans h.rrow,
   (Z1 12).turned (T:=fun k=>k=br∨k=bg∨wr.heap.size≤k) ht (fun k _ h1 h2=>by have:=hS k h1.1;have:=h.size;omega) h.ex,hv,ht.list (Z2 20) h.flow (fun k h=>⟨h.1,h.2.1⟩)⟩
theorem LSt.step2 (h:LSt S w0 w br bg a len cap bs fa fc fns va vc vars next left cs x u wr) (hS:∀k,S k→k≠br∧k≠bg) (ht:Zf br bg wr w') (hg:GSt w0 br bg a len cap bs fa fc fns u' va vc vars next' left' w'):LSt S w0 w br bg a len cap bs fa fc fns va vc vars next' left' cs x u' w':=
 h.lay hS ht (ht.list Z3 h.vlow (fun k h=>⟨h.1,h.2.1⟩)) hg
theorem LSt.put (h:LSt S w0 w br bg a len cap bs fa fc fns va vc vars next left cs x u wr) {vs:List Value} (hl:vs.length=5) :
  (wr.setCells (w.heap.size+1) 0 vs).heap[w.heap.size+1]? = some (.cells vs.toArray 48 (0,0))∧Ze (fun k=>k=w.heap.size+1) wr (wr.setCells (w.heap.size+1) 0 vs)∧GSt w0 br bg a len cap bs fa fc fns u va vc vars next left (wr.setCells (w.heap.size+1) 0 vs)∧Zf br bg w (wr.setCells (w.heap.size+1) 0 vs):=by
 have ht:=ZB (g:=w.heap.size+1) vs wr 0
 have hlt:=h.lt
 refine⟨?_,ht,h.g.other ht (fun k _ hk=>by omega) ((h.vlow.turned Z3 ht (fun k _ h1 h2=>by omega)).mono Z3 (fun k _ h=>⟨h.1,h.2.1⟩)) ((h.flow.turned (Z2 20) ht (fun k _ h1 h2=>by omega)).mono (Z2 20) (fun k _ h=>⟨h.1,h.2.1⟩)),Ze.trans (S:=fun k=>k=br∨k=bg∨w.heap.size≤k) h.t (ht.mono (fun k hk=>by omega))⟩
 have:=ZF (A:=[]) (B:=[.int .i64 0,.string ⟨#[]⟩,.slice none 0 0,.slice none 0 0,.slice none 0 0]) (C:=[]) (vs:=vs) (o:=0) rfl (by simp [hl]) (by simpa using h.rrow)
 simpa using this
theorem LSt.later (h:LSt S w0 w br bg a len cap bs fa fc fns va vc vars next left cs x u wr) (hS:∀k,S k→k≠br∧k≠bg) (hb:Below wr.heap.size wr w'):LSt S w0 w br bg a len cap bs fa fc fns va vc vars next left cs x u w':=h.step2 hS (Zf.below hb) (h.g.later hb)
theorem LSt.start (h:GSt w0 br bg a len cap bs fa fc fns u va vc vars next left w) (hx:ZG 12 S w cs x):LSt S w0 w br bg a len cap bs fa fc fns va vc vars next left cs x u ((w.alloc (.cells cs.toArray 64)).alloc (.cells #[.int .i64 0,.string ⟨#[]⟩,.slice none 0 0,.slice none 0 0,.slice none 0 0] 48)):=by
 have hb:Below w.heap.size w ((w.alloc (.cells cs.toArray 64)).alloc (.cells #[.int .i64 0,.string ⟨#[]⟩,.slice none 0 0,.slice none 0 0,.slice none 0 0] 48)):=((bRf _ _).alloc (Nat.le_refl _) _).alloc (by rw [World.size_alloc];omega) _
 refine⟨(h.alloc _).alloc _,Zf.below hb,⟨h.lts.1,h.lts.2,by obtain⟨p,_,hp⟩:=h.rd;exact hp.below.size⟩,?_,?_,(Z1 12).below hb ((Z1 12).here hx),(((h.vlist.here Z3).mono Z3 (fun k _ h=>⟨h.1.1,h.1.2,by have:=h.2;omega⟩)).below Z3 hb),(((h.flist.here (Z2 20)).mono (Z2 20) (fun k _ h=>⟨h.1.1,h.1.2,by have:=h.2;omega⟩)).below (Z2 20) hb)⟩
 ·exact(((bRf _ _).alloc (Nat.le_refl _) _:Below (w.alloc (.cells cs.toArray 64)).heap.size (w.alloc (.cells cs.toArray 64)) _).block _ (by simp)).trans (hAn w _)
 ·have:=hAn (w.alloc (.cells cs.toArray 64)) (.cells #[.int .i64 0,.string ⟨#[]⟩,.slice none 0 0,.slice none 0 0,.slice none 0 0] 48)
  rwa [World.size_alloc] at this
theorem Z6y (hlen:len≤2000) (u:Nat) (S:Nat→Prop) (w:World) (ca:Option Addr) (cc:Nat) (x:Z6) (h:GSt w0 br bg a len cap bs fa fc fns u va vc vars next left w) (hv:va=none→vc=0) (hu:u+4≤1990000) (hS:∀k,S k→k≠br∧k≠bg)
  (hx:ZG 12 S w [.int .i64 x.op,.int .i64 x.n,.string x.name,.slice ca x.kids.length cc] x) :
  Calls Tryz.prog 105 #[.pointer (some ⟨bg,0,none⟩),.agg #[.int .i64 x.op,.int .i64 x.n,.string x.name,.slice ca x.kids.length cc]] w fun e w'=>∃(s:ByteArray) (b c:Nat) (va':Option Addr) (vc':Nat) (n':Int),e=.returned (.agg (List.toArray [.int .i64 1,.string s,.slice (some ⟨b,0,none⟩) 1 c,.slice none 0 0,.slice none 0 0]))∧
   Zv 1 (fun k=>S k∨w.heap.size≤k) w' [.int .i64 1,.string s,.slice (some ⟨b,0,none⟩) 1 c,.slice none 0 0,.slice none 0 0] (.mk 1 s [x] [] [])∧GSt w0 br bg a len cap bs fa fc fns (u+4) va' vc' (vars++[s]) n' left w'∧(va'=none→vc'=0)∧Za 1 Z1V (fun k=>w.heap.size≤k) w' va' (vars++[s])∧Zf br bg w w'∧n'=next+1∧Z4l bs vars (next+1) (Z5 w br)=(s,Z5 w' br):=by
 have HU:=hdd hu
 have HSS:=hdd hS
 have HVC:=hdd hv
 have HPW0:=hdd (show Z5 ((w.alloc (.cells #[.int .i64 x.op,.int .i64 x.n,.string x.name,.slice ca x.kids.length cc] 64)).alloc (.cells #[.int .i64 0,.string ⟨#[]⟩,.slice none 0 0,.slice none 0 0,.slice none 0 0] 48)) br=Z5 w br from Zs (((bRf _ _).alloc (Nat.le_refl _) _).alloc (by rw [World.size_alloc];omega) _) h.lts.1)
 have HLT:=hdd h.lts
 have HBG:=hdd (show br≠bg by have:=h.base;omega)
 have HB:=hdd (LSt.start h hx)
 clear h hu hx hv hS
 go_enter Tryz.func105,Tryz.ntmps105
 go_upto_region 1 with fail
 change Hid (LSt S w0 w br bg a len cap bs fa fc fns va vc vars next left [.int .i64 x.op,.int .i64 x.n,.string x.name,.slice ca x.kids.length cc] x u ((w.alloc (.cells #[.int .i64 x.op,.int .i64 x.n,.string x.name,.slice ca x.kids.length cc] 64)).alloc (.cells #[.int .i64 0,.string ⟨#[]⟩,.slice none 0 0,.slice none 0 0,.slice none 0 0] 48))) at HB
 generalize (w.alloc (.cells #[.int .i64 x.op,.int .i64 x.n,.string x.name,.slice ca x.kids.length cc] 64)).alloc (.cells #[.int .i64 0,.string ⟨#[]⟩,.slice none 0 0,.slice none 0 0,.slice none 0 0] 48)=wr at HB HPW0 ⊢
 go_wp2_with fail
 refine(Zai hlen u va vc vars next left wr HB.out.g (by have:=HU.out;omega)).mono ?_
 rintro e w2 ⟨s,n',rfl,hs,hg2,ht2,hn',hF⟩
 have HF:=hdd (show n'=next+1∧Z4l bs vars (next+1) (Z5 w br)=(s,Z5 w2 br) from⟨hn',by rw [← HPW0.out];exact hF⟩)
 clear hn' hF
 have HB2:=hdd (HB.out.step2 HSS.out ht2 hg2)
 have HSZ:=hdd hs
 have HLB:=hdd (show Below w2.heap.size w2 (w2.alloc (.cells #[] 9)) from(bRf _ _).alloc (Nat.le_refl _) _)
 clear hs hg2 ht2 HB
 have hvl:=HB2.out.g.bnd.1
 have hlu:=HU.out
 have hvn:=HVC.out
 have c2:=HB2.out.g.c2
 have c2':=(HB2.out.g.alloc (.cells #[] 9)).c2
 have f2:=HB2.out.g.f 2
 go_upto_region 2 with fail
 go_upto_region 3 with(at_builtin;first|(refine Z6h rfl (.tmp 9) (.tmp 13) rfl (w2.heap.size) _ 0 [] rfl (Z0i _ _ _ _ (Nat.le_refl _)) va vars.length vc vars rfl rfl ((HB2.out.later HSS.out HLB.out).g.strs.rd.row) hvn (by omega) (by rw [World.size_alloc];omega) ?_;intro a5 c5 w5 hown5 hg5 hlies5;(simp only [Nat.zero_add,List.nil_append] at hown5 hlies5 ⊢);(have hb5:Below w2.heap.size w2 w5:=HLB.out.grown hg5 (by simp) (fun j hj=>((Z0i w2 w2.heap.size 9 1 (Nat.le_refl _)).lt j hj).1)))|(refine Z6h rfl (.tmp 14) (.tmp 16) rfl (w2.heap.size) _ vars.length _ rfl (ZI hown5 ((bRf _ _).alloc (Nat.le_refl _) _)) _ 1 _ [s] rfl rfl (Zc _ _ _) (by rintro⟨⟩) (by omega) (by rw [World.size_alloc];have:=hb5.size;omega) ?_;intro a9 c9 w9 hown9 hg9 hlies9;(rw [← List.map_append] at hown9);(have hb9:Below w2.heap.size w2 w9:=(hb5.alloc hb5.size _).grown hg9 (by rw [World.size_alloc];have:=hb5.size;omega) (fun j hj=>(hown5.lt j hj).1));(have hL9:=HB2.out.later HSS.out hb9);(have c29:=hL9.g.c2);(have f29:=hL9.g.f 2)))
 have HV9:=hdd (Z6b (S:=fun k=>k≠br∧k≠bg∧k≠w.heap.size+1) hown9 (by simp) (fun t ht=>by
  rcases List.mem_append.1 ht with h|h
  ·exact Z0Y HB2.out.g.vlist t h
  ·rw [List.mem_singleton.1 h];exact HSZ.out) (fun k hk=>by have:=HB2.out.size;have:=HB2.out.lt;omega))
 have HVN:=hdd ((Z6b (S:=fun k=>w.heap.size+1<k) hown9 (by simp) (fun t ht=>by
  rcases List.mem_append.1 ht with h|h
  ·exact Z0Y HB2.out.g.vlist t h
  ·rw [List.mem_singleton.1 h];exact HSZ.out) (fun k hk=>by have:=HB2.out.size;omega)).turned Z3 (Z4 w9 bg 2 (.slice a9 (vars.length+1) c9)) (fun k _ h1 h2=>by have:=HB2.out.lt;have h1:w.heap.size+1<k:=h1;have h2:k=bg:=h2;omega))
 have hlen1:(vars++[s]).length=vars.length+1:=by simp
 have HG:=hdd ((hL9.g.more (show u+3≤u+4 by omega)).setVars (vc':=c9) (HV9.out.mono Z3 (fun k _ h=>⟨h.1,h.2.1⟩)) (by have:=hL9.g.bnd;omega))
 have HB3:=hdd (hL9.lay HSS.out HG.out.2 (HG.out.2.list Z3 HV9.out (fun k h=>⟨h.1,h.2.1⟩)) HG.out.1)
 rw [hlen1] at HB3
 have HN9:Hid (a9=none→c9=0):=hdd (fun e=>by
  rcases hown9.2 with⟨hh,_⟩|⟨_,_,_,hh,_⟩
  ·injection hh
  ·rw [e] at hh;cases hh)
 have HP9:=hdd (show Z5 (w9.setCell ⟨bg,2,none⟩ (.slice a9 (vars.length+1) c9)) br=Z5 w2 br by rw [Z0b HBG.out,Zs hb9 HB2.out.g.lts.1])
 clear hown5 hg5 hlies5 hb5 hown9 hg9 hlies9 hb9 hL9 c29 f29 HG HV9 c2 c2' f2 hvn hvl HLB HB2
 generalize w9.setCell ⟨bg,2,none⟩ (.slice a9 (vars.length+1) c9)=w10 at HB3 HVN HP9 ⊢
 have e0:=coR _ _ 0 _ _ _ HB3.out.brow
 have e1:=coR _ _ 1 _ _ _ HB3.out.brow
 have e2:=coR _ _ 2 _ _ _ HB3.out.brow
 have e3:=coR _ _ 3 _ _ _ HB3.out.brow
 simp only [ga0,ga1,ga2] at e0 e1 e2 e3
 have HBA:=hdd (HB3.out.later HSS.out (w':=(w10.alloc (.cells #[.int .i64 x.op,.int .i64 x.n,.string x.name,.slice ca x.kids.length cc] 64))) ((bRf _ _).alloc (Nat.le_refl _) _))
 have z0:=coR _ _ 0 _ _ _ HBA.out.rrow
 have z1:=coR _ _ 1 _ _ _ HBA.out.rrow
 have z2:=coR _ _ 2 _ _ _ HBA.out.rrow
 have z3:=coR _ _ 3 _ _ _ HBA.out.rrow
 have z4:=coR _ _ 4 _ _ _ HBA.out.rrow
 have f0:=frR _ _ 0 _ _ HBA.out.rrow
 have f1:=frR _ _ 1 _ _ HBA.out.rrow
 have f2:=frR _ _ 2 _ _ HBA.out.rrow
 have f3:=frR _ _ 3 _ _ HBA.out.rrow
 have f4:=frR _ _ 4 _ _ HBA.out.rrow
 have HZ:=hdd (show((w10.alloc (.cells #[.int .i64 x.op,.int .i64 x.n,.string x.name,.slice ca x.kids.length cc] 64)).setCells (w.heap.size+1) 0 [.int .i64 1,.string s,.slice (some ⟨w10.heap.size,0,none⟩) 1 1,.slice none 0 0,.slice none 0 0]).heap[w.heap.size+1]? = some (.cells (List.toArray [.int .i64 1,.string s,.slice (some ⟨w10.heap.size,0,none⟩) 1 1,.slice none 0 0,.slice none 0 0]) 48 (0,0))∧Zv 1 (fun k=>S k∨w.heap.size≤k) ((w10.alloc (.cells #[.int .i64 x.op,.int .i64 x.n,.string x.name,.slice ca x.kids.length cc] 64)).setCells (w.heap.size+1) 0 [.int .i64 1,.string s,.slice (some ⟨w10.heap.size,0,none⟩) 1 1,.slice none 0 0,.slice none 0 0]) [.int .i64 1,.string s,.slice (some ⟨w10.heap.size,0,none⟩) 1 1,.slice none 0 0,.slice none 0 0] (.mk 1 s [x] [] [])∧GSt w0 br bg a len cap bs fa fc fns (u+4) a9 c9 (vars++[s]) n' left ((w10.alloc (.cells #[.int .i64 x.op,.int .i64 x.n,.string x.name,.slice ca x.kids.length cc] 64)).setCells (w.heap.size+1) 0 [.int .i64 1,.string s,.slice (some ⟨w10.heap.size,0,none⟩) 1 1,.slice none 0 0,.slice none 0 0])∧Zf br bg w ((w10.alloc (.cells #[.int .i64 x.op,.int .i64 x.n,.string x.name,.slice ca x.kids.length cc] 64)).setCells (w.heap.size+1) 0 [.int .i64 1,.string s,.slice (some ⟨w10.heap.size,0,none⟩) 1 1,.slice none 0 0,.slice none 0 0]) by
  obtain⟨k1,k2,k3,k4⟩:=HBA.out.put (vs:=[.int .i64 1,.string s,.slice (some ⟨w10.heap.size,0,none⟩) 1 1,.slice none 0 0,.slice none 0 0]) rfl
  have hsz:=HB3.out.size
  have hone:Za 4 (ZG 12) (fun k=>(S k∧k<w.heap.size)∨w.heap.size+1<k) (w10.alloc (.cells #[.int .i64 x.op,.int .i64 x.n,.string x.name,.slice ca x.kids.length cc] 64)) (some ⟨w10.heap.size,0,none⟩) [x]:=
   Za.one (Z1 12) (c:=[.int .i64 x.op,.int .i64 x.n,.string x.name,.slice ca x.kids.length cc]) (hAn w10 _) (by right;omega) ((Z1 12).mono (fun k _ h=>.inl h) HBA.out.ex)
  refine⟨k1,⟨_,_,none,0,none,0,rfl,⟨HSZ.out,(by decide:(-9223372036854775808:Int)≤1),(by decide:(1:Int)≤9223372036854775807),(by decide:(1:Nat)≤100),(by decide:(0:Nat)≤100),(by decide:(0:Nat)≤100)⟩,(hone.turned (Z1 12) k2 (fun k _ h1 h2=>by have h2:k=w.heap.size+1:=h2;rcases h1 with h1|h1<;>omega)).mono (Z1 12) (fun k _ h=>by rcases h with h|h;exact .inl h.1;right;omega),Za.nil _ _ _,Za.nil _ _ _⟩,k3,k4⟩)
 have HVZ:=hdd (show Za 1 Z1V (fun k=>w.heap.size≤k) ((w10.alloc (.cells #[.int .i64 x.op,.int .i64 x.n,.string x.name,.slice ca x.kids.length cc] 64)).setCells (w.heap.size+1) 0 [.int .i64 1,.string s,.slice (some ⟨w10.heap.size,0,none⟩) 1 1,.slice none 0 0,.slice none 0 0]) a9 (vars++[s]) from
  ((HVN.out.below Z3 ((bRf _ _).alloc (Nat.le_refl _) _)).turned Z3 (ZB (g:=w.heap.size+1) _ _ 0) (fun k _ h1 h2=>by have h1:w.heap.size+1<k:=h1;omega)).mono Z3 (fun k _ h=>by have h:w.heap.size+1<k:=h;show w.heap.size≤k;omega))
 have HFZ:=hdd (show Z5 ((w10.alloc (.cells #[.int .i64 x.op,.int .i64 x.n,.string x.name,.slice ca x.kids.length cc] 64)).setCells (w.heap.size+1) 0 [.int .i64 1,.string s,.slice (some ⟨w10.heap.size,0,none⟩) 1 1,.slice none 0 0,.slice none 0 0]) br=Z5 w2 br by rw [Z0P (by have:=HLT.out.1;omega),Zs ((bRf _ _).alloc (Nat.le_refl _) _) HB3.out.g.lts.1,HP9.out])
 rw [ZaA] at HZ HVZ HFZ
 go_wp2
 refine bodyPost_ret (results_cell_row rfl _ _ (w.heap.size+1) 48 (List.toArray [.int .i64 1,.string s,.slice (some ⟨w10.heap.size,0,none⟩) 1 1,.slice none 0 0,.slice none 0 0]) (0,0) _ rfl ?_ Tryz.underlying48 rfl (by kernel_rfl)) rfl ?_
 ·exact HZ.out.1
 exact⟨s,_,_,a9,c9,n',rfl,HZ.out.2.1,HZ.out.2.2.1,HN9.out,HVZ.out,HZ.out.2.2.2,HF.out.1,by rw [HFZ.out];exact HF.out.2⟩
end
theorem Z3g {S:Nat→Prop} {w:World} {cs:List Value} {x:Z6} (hx:ZG 12 S w cs x) (op:Int) (nm:ByteArray) (hop:-9223372036854775808≤op∧op≤9223372036854775807) (hn:nm.size≤maxLen) :
  Za 5 (Zv 1) (fun k=>S k∨w.heap.size≤k) ((w.alloc (.cells cs.toArray 64)).alloc (.cells #[.int .i64 op,.string nm,.slice (some ⟨w.heap.size,0,none⟩) 1 1,.slice none 0 0,.slice none 0 0] 48)) (some ⟨w.heap.size+1,0,none⟩) [.mk op nm [x] [] []]:=by
 have hb1:Below w.heap.size w (w.alloc (.cells cs.toArray 64)):=(bRf _ _).alloc (Nat.le_refl _) _
 have hsz:(w.alloc (.cells cs.toArray 64)).heap.size=w.heap.size+1:=World.size_alloc _ _
 have hb2:Below (w.alloc (.cells cs.toArray 64)).heap.size (w.alloc (.cells cs.toArray 64)) ((w.alloc (.cells cs.toArray 64)).alloc (.cells #[.int .i64 op,.string nm,.slice (some ⟨w.heap.size,0,none⟩) 1 1,.slice none 0 0,.slice none 0 0] 48)):=(bRf _ _).alloc (Nat.le_refl _) _
 have hone:Za 4 (ZG 12) (fun k=>S k∨w.heap.size≤k) (w.alloc (.cells cs.toArray 64)) (some ⟨w.heap.size,0,none⟩) [x]:=
  Za.one (Z1 12) (hAn w _) (.inr (Nat.le_refl _)) ((Z1 12).mono (fun k _ h=>.inl h) ((Z1 12).below hb1 hx))
 have hnew:=hAn (w.alloc (.cells cs.toArray 64)) (.cells #[.int .i64 op,.string nm,.slice (some ⟨w.heap.size,0,none⟩) 1 1,.slice none 0 0,.slice none 0 0] 48)
 rw [hsz] at hnew
 exact Za.one (Z0 1) (c:=[.int .i64 op,.string nm,.slice (some ⟨w.heap.size,0,none⟩) 1 1,.slice none 0 0,.slice none 0 0]) hnew (.inr (by omega))
  ⟨_,_,none,0,none,0,rfl,⟨hn,hop.1,hop.2,(by decide:(1:Nat)≤100),(by decide:(0:Nat)≤100),(by decide:(0:Nat)≤100)⟩,hone.below (Z1 12) hb2,Za.nil _ _ _,Za.nil _ _ _⟩
theorem Zbx {S:Nat→Prop} {w:World} {c1 c2:List Value} {x1 x2:Z6} (h1:ZG 12 S w c1 x1) (h2:ZG 12 S w c2 x2) (op:Int) (nm:ByteArray) (hop:-9223372036854775808≤op∧op≤9223372036854775807) (hn:nm.size≤maxLen) :
  Za 5 (Zv 1) (fun k=>S k∨w.heap.size≤k) ((w.alloc (.cells (c1++c2).toArray 64)).alloc (.cells #[.int .i64 op,.string nm,.slice (some ⟨w.heap.size,0,none⟩) 2 2,.slice none 0 0,.slice none 0 0] 48)) (some ⟨w.heap.size+1,0,none⟩) [.mk op nm [x1,x2] [] []]:=by
 have hb1:Below w.heap.size w (w.alloc (.cells (c1++c2).toArray 64)):=(bRf _ _).alloc (Nat.le_refl _) _
 have hsz:(w.alloc (.cells (c1++c2).toArray 64)).heap.size=w.heap.size+1:=World.size_alloc _ _
 have hb2:Below (w.alloc (.cells (c1++c2).toArray 64)).heap.size (w.alloc (.cells (c1++c2).toArray 64)) ((w.alloc (.cells (c1++c2).toArray 64)).alloc (.cells #[.int .i64 op,.string nm,.slice (some ⟨w.heap.size,0,none⟩) 2 2,.slice none 0 0,.slice none 0 0] 48)):=(bRf _ _).alloc (Nat.le_refl _) _
 have g1:=(Z1 12).mono (S':=fun k=>S k∨w.heap.size≤k) (fun k _ h=>.inl h) ((Z1 12).below hb1 h1)
 have g2:=(Z1 12).mono (S':=fun k=>S k∨w.heap.size≤k) (fun k _ h=>.inl h) ((Z1 12).below hb1 h2)
 have htwo:Za 4 (ZG 12) (fun k=>S k∨w.heap.size≤k) (w.alloc (.cells (c1++c2).toArray 64)) (some ⟨w.heap.size,0,none⟩) [x1,x2]:=
  Za.laid (cells:=[c1,c2]) (by simpa using hAn w (.cells (c1++c2).toArray 64)) (.inr (Nat.le_refl _)) rfl (by intro d hd;simp at hd;rcases hd with rfl|rfl;exact(Z1 _).len g1;exact(Z1 _).len g2) (fun i cl y k1 k2=>by
   match i with
   | 0=>cases k1;cases k2;exact g1
   | 1=>cases k1;cases k2;exact g2
   | i+2=>cases k1)
 have hnew:=hAn (w.alloc (.cells (c1++c2).toArray 64)) (.cells #[.int .i64 op,.string nm,.slice (some ⟨w.heap.size,0,none⟩) 2 2,.slice none 0 0,.slice none 0 0] 48)
 rw [hsz] at hnew
 exact Za.one (Z0 1) (c:=[.int .i64 op,.string nm,.slice (some ⟨w.heap.size,0,none⟩) 2 2,.slice none 0 0,.slice none 0 0]) hnew (.inr (by omega))
  ⟨_,_,none,0,none,0,rfl,⟨hn,hop.1,hop.2,(by decide:(2:Nat)≤100),(by decide:(0:Nat)≤100),(by decide:(0:Nat)≤100)⟩,htwo.below (Z1 12) hb2,Za.nil _ _ _,Za.nil _ _ _⟩
theorem Za.deeper {d d':Nat} (hd:d≤d') {S:Nat→Prop} {w:World} {a:Option Addr} {xs:List Zb} (h:Za 5 (Zv d) S w a xs):Za 5 (Zv d') S w a xs:=h.rel (fun _ _ _ h=>Z1O hd h)
theorem Z1W {S:Nat→Prop} {w:World} {cs:List Value} {y:Z6} (h:ZG 12 S w cs y):Za 4 (ZG 12) (fun k=>S k∨w.heap.size≤k) (w.alloc (.cells cs.toArray 64)) (some ⟨w.heap.size,0,none⟩) [y]:=
 Za.one (Z1 12) (hAn w _) (.inr (Nat.le_refl _)) ((Z1 12).mono (fun k _ h=>.inl h) ((Z1 12).below ((bRf _ _).alloc (Nat.le_refl _) _) h))
theorem Zb3 {d:Nat} {S:Nat→Prop} {w:World} {cs:List Value} {y:Z6} (h:ZG d S w cs y):Za 4 (ZG d) (fun k=>S k∨w.heap.size≤k) (w.alloc (.cells cs.toArray 64)) (some ⟨w.heap.size,0,none⟩) [y]:=
 Za.one (Z1 d) (hAn w _) (.inr (Nat.le_refl _)) ((Z1 d).mono (fun k _ h=>.inl h) ((Z1 d).below ((bRf _ _).alloc (Nat.le_refl _) _) h))
theorem Z3I {d:Nat} {S:Nat→Prop} {w:World} {cs:List Value} {s:Zb} (h:Zv d S w cs s):Za 5 (Zv d) (fun k=>S k∨w.heap.size≤k) (w.alloc (.cells cs.toArray 48)) (some ⟨w.heap.size,0,none⟩) [s]:=
 Za.one (Z0 d) (hAn w _) (.inr (Nat.le_refl _)) ((Z0 d).mono (fun k _ h=>.inl h) ((Z0 d).below ((bRf _ _).alloc (Nat.le_refl _) _) h))
theorem Z2A {S:Nat→Prop} {w:World} {a:Option Addr} {c:Nat} {args:List Z6} (h:Za 4 (ZG 12) S w a args) (hl:args.length≤100) (op:Int) (nm:ByteArray) (hop:-9223372036854775808≤op∧op≤9223372036854775807) (hn:nm.size≤maxLen) :
  Zv 1 S w [.int .i64 op,.string nm,.slice a args.length c,.slice none 0 0,.slice none 0 0] (.mk op nm args [] []):=
 ⟨_,_,none,0,none,0,rfl,⟨hn,hop.1,hop.2,hl,(by decide:(0:Nat)≤100),(by decide:(0:Nat)≤100)⟩,h,Za.nil _ _ _,Za.nil _ _ _⟩
theorem Zo {w:World} {br:Nat} {o:Obj} (h:br<w.heap.size):Z5 (w.alloc o) br=Z5 w br:=Zs ((bRf _ _).alloc (Nat.le_refl _) _) h
theorem Z0A {w:World} {br:Nat} {o o2:Obj} (h:br<w.heap.size):Z5 ((w.alloc o).alloc o2) br=Z5 w br:=by rw [Zo (by rw [World.size_alloc];omega),Zo h]
theorem Z7o {w:World} {br:Nat} {o o2 o3:Obj} (h:br<w.heap.size):Z5 (((w.alloc o).alloc o2).alloc o3) br=Z5 w br:=by rw [Zo (by rw [World.size_alloc,World.size_alloc];omega),Z0A h]
def Z3X (bs:List Int) (fns:List FnD) (blk loop:GS→List Zb×GS) (dq v:Int) (vars:List ByteArray) (next left:Int) (p:Nat):List Zb×GS:=
 if v<3∧0<vars.length then ([.mk 2 (ofF bs vars p) [(Z0f bs fns vars 3 (p+1)).1] [] []],⟨(Z0f bs fns vars 3 (p+1)).2,vars,next,left⟩)
 else if v<5 then ([(ZcA bs (Z0f bs fns vars 3 p).1 ⟨(Z0f bs fns vars 3 p).2,vars,next,left⟩).1],(ZcA bs (Z0f bs fns vars 3 p).1 ⟨(Z0f bs fns vars 3 p).2,vars,next,left⟩).2)
 else if v<7∨dq<2 then ([.mk 3 ⟨#[]⟩ [(Z0f bs fns vars 3 p).1] [] []],⟨(Z0f bs fns vars 3 p).2,vars,next,left⟩)
 else if v=7 then ([.mk 4 ⟨#[]⟩ [(Z7t bs fns vars p).1,(Z0f bs fns vars 2 (Z7t bs fns vars p).2).1] [] []],⟨(Z0f bs fns vars 2 (Z7t bs fns vars p).2).2,vars,next,left⟩)
 else if v=8 then ([.mk 3 ⟨#[]⟩ [.mk 12 0 ⟨#[]⟩ [(Z7t bs fns vars p).1]] [] []],⟨(Z7t bs fns vars p).2,vars,next,left⟩)
 else if v<11 then
  let e:=Z0f bs fns vars 3 p
  let b:=blk ⟨e.2,vars,next,left⟩
  if ZP bs 2 b.2.p=0 then
   let b2:=blk ⟨b.2.p+1,b.2.vars,b.2.next,b.2.left⟩
   ([.mk 5 ⟨#[]⟩ [e.1] b.1 b2.1],b2.2)
  else ([.mk 5 ⟨#[]⟩ [e.1] b.1 []],⟨b.2.p+1,b.2.vars,b.2.next,b.2.left⟩)
 else if v=11 then
  if ZP bs 3 p=0 then ([.mk 7 ⟨#[]⟩ [(Z0f bs fns vars 2 (p+1)).1] [] []],⟨(Z0f bs fns vars 2 (p+1)).2,vars,next,left⟩)
  else loop ⟨p+1,vars,next,left⟩
 else loop ⟨p,vars,next,left⟩
def Z6x (bs:List Int) (fns:List FnD) (blk loop:GS→List Zb×GS) (dq:Int) (s:GS):List Zb×GS:=Z3X bs fns blk loop dq (ZP bs 13 s.p) s.vars s.next (s.left-1) (s.p+1)
def Z35 (br bg:Nat) (w:World) (va:Option Addr) (vars:List ByteArray) (w':World) (va':Option Addr) (vars':List ByteArray):Prop:=
 ∀Z:Nat→Prop,(∀k,Z k→k<w.heap.size)→Za 1 Z1V (fun k=>k≠br∧k≠bg∧¬Z k) w va vars→Za 1 Z1V (fun k=>k≠br∧k≠bg∧¬Z k) w' va' vars'
section
variable {br bg:Nat} {w w' w'':World} {va va' va'':Option Addr} {vars vars' vars'':List ByteArray}
theorem Z35.same (ht:Zf br bg w w'):Z35 br bg w va vars w' va vars:=fun Z hZ h=>ht.list Z3 h (fun k h=>⟨h.1,h.2.1⟩)
theorem Z35.trans (h:Z35 br bg w va vars w' va' vars') (hs:w.heap.size≤w'.heap.size) (k:Z35 br bg w' va' vars' w'' va'' vars''):Z35 br bg w va vars w'' va'' vars'':=fun Z hZ hv=>k Z (fun i hi=>Nat.lt_of_lt_of_le (hZ i hi) hs) (h Z hZ hv)
theorem Z35.new (h:Za 1 Z1V (fun k=>w.heap.size≤k) w' va' vars') (hl:br<w.heap.size∧bg<w.heap.size):Z35 br bg w va vars w' va' vars':=fun Z hZ _=>h.mono Z3 (fun k _ hk=>⟨by have hk:w.heap.size≤k:=hk;omega,by have hk:w.heap.size≤k:=hk;omega,fun hz=>by have:=hZ k hz;have hk:w.heap.size≤k:=hk;omega⟩)
theorem Z3i (ht:Zf br bg w w'):Z35 br bg w va vars w' va vars∧Zf br bg w w':=⟨Z35.same ht,ht⟩
end
section
variable (w0 w:World) (br bg:Nat) (a:Option Addr) (len cap:Nat) (bs:List Int) (fa:Option Addr) (fc:Nat) (fns:List FnD)
def ZcN (va:Option Addr) (vars:List ByteArray) (next left:Int) (F:GS→List Zb×GS) (u d:Nat) (e:Ending) (w':World):Prop:=
 ∃(b':Option Addr) (c:Nat) (xs:List Zb) (va':Option Addr) (vc':Nat) (vars':List ByteArray) (next' left':Int),e=.returned (.slice b' xs.length c)∧xs.length≤2∧(b'=none→c=0)∧Za 5 (Zv d) (fun k=>w.heap.size≤k) w' b' xs∧GSt w0 br bg a len cap bs fa fc fns u va' vc' vars' next' left' w'∧(va'=none→vc'=0)∧Z35 br bg w va vars w' va' vars'∧Zf br bg w w'∧F ⟨Z5 w br,vars,next,left⟩=(xs,⟨Z5 w' br,vars',next',left'⟩)
def ZcH (u d:Nat) (va:Option Addr) (vc:Nat) (vars:List ByteArray) (next left:Int) (F:GS→List Zb×GS) (e:Ending) (w':World):Prop:=
 ∃(b':Option Addr) (c:Nat) (xs:List Zb) (next' left':Int),e=.returned (.slice b' xs.length c)∧xs.length≤8∧ZM 5 (Zv d) 48 (fun k=>w.heap.size≤k) w.heap.size w' b' xs.length c xs∧GSt w0 br bg a len cap bs fa fc fns u va vc vars next' left' w'∧Zf br bg w w'∧F ⟨Z5 w br,vars,next,left⟩=(xs,⟨Z5 w' br,vars,next',left'⟩)
end
section
variable (w0:World) (br bg:Nat) (a:Option Addr) (len cap:Nat) (bs:List Int) (fa:Option Addr) (fc:Nat) (fns:List FnD)
def Zag (dq:Int) (d cost:Nat) (F:GS→List Zb×GS):Prop:=∀(u:Nat) (va:Option Addr) (vc:Nat) (vars:List ByteArray) (next left:Int) (w:World),GSt w0 br bg a len cap bs fa fc fns u va vc vars next left w→(va=none→vc=0)→u+cost≤1990000→
 Calls Tryz.prog 84 #[.pointer (some ⟨bg,0,none⟩),.int .i64 dq] w (ZcN w0 w br bg a len cap bs fa fc fns va vars next left F (u+cost) d)
def Z64 (dq:Int) (d cost:Nat) (F:GS→List Zb×GS):Prop:=∀(u:Nat) (va:Option Addr) (vc:Nat) (vars:List ByteArray) (next left:Int) (w:World),GSt w0 br bg a len cap bs fa fc fns u va vc vars next left w→(va=none→vc=0)→u+cost≤1990000→
 Calls Tryz.prog 56 #[.pointer (some ⟨bg,0,none⟩),.int .i64 dq] w (ZcH w0 w br bg a len cap bs fa fc fns (u+cost) d va vc vars next left F)
def Zb0 (dq:Int) (d cost:Nat) (F:GS→List Zb×GS):Prop:=∀(u:Nat) (va:Option Addr) (vc:Nat) (vars:List ByteArray) (next left:Int) (w:World),GSt w0 br bg a len cap bs fa fc fns u va vc vars next left w→(va=none→vc=0)→u+cost≤1990000→
 Calls Tryz.prog 107 #[.pointer (some ⟨bg,0,none⟩),.int .i64 dq] w (ZcN w0 w br bg a len cap bs fa fc fns va vars next left F (u+cost) d)
end
section
variable {w0 w:World} {br bg:Nat} {a:Option Addr} {len cap:Nat} {bs:List Int} {fa:Option Addr} {fc:Nat} {fns:List FnD} {va:Option Addr} {vc:Nat} {vars:List ByteArray} {next left next' left':Int}
structure Zap (w0 w:World) (br bg:Nat) (a:Option Addr) (len cap:Nat) (bs:List Int) (fa:Option Addr) (fc:Nat) (fns:List FnD) (va:Option Addr) (vc:Nat) (vars:List ByteArray) (next left:Int) (d u sb ab:Nat) (y:Z6) (ba ea:Option Addr) (bc ec:Nat) (xs ys:List Zb) (wr:World):Prop where
 g:GSt w0 br bg a len cap bs fa fc fns u va vc vars next left wr
 t:Zf br bg w wr
 lt:br<w.heap.size∧bg<w.heap.size∧w0.heap.size≤w.heap.size∧w.heap.size≤sb
 row:wr.heap[sb]? = some (.cells #[.int .i64 5,.string ⟨#[]⟩,.slice (some ⟨ab,0,none⟩) 1 1,.slice ba xs.length bc,.slice ea ys.length ec] 48 (0,0))
 args:Za 4 (ZG 12) (fun k=>w.heap.size≤k∧k≠sb) wr (some ⟨ab,0,none⟩) [y]
 body:Za 5 (Zv d) (fun k=>w.heap.size≤k∧k≠sb) wr ba xs
 els:Za 5 (Zv d) (fun k=>w.heap.size≤k∧k≠sb) wr ea ys
 vlow:Za 1 Z1V (fun k=>k≠br∧k≠bg∧k≠sb) wr va vars
 flow:Za 3 (FnP 20) (fun k=>k≠br∧k≠bg∧k≠sb) wr fa fns
 small:xs.length≤8∧ys.length≤8
variable {d u u' sb ab:Nat} {y:Z6} {ba ea ea':Option Addr} {bc ec ec':Nat} {xs ys ys':List Zb} {wr w':World}
theorem Zap.start (hg:GSt w0 br bg a len cap bs fa fc fns u va vc vars next left wr) (hw:br<w.heap.size∧bg<w.heap.size) (ht:Zf br bg w wr) (ha:Za 4 (ZG 12) (fun k=>w.heap.size≤k) wr (some ⟨ab,0,none⟩) [y]) (hb:Za 5 (Zv d) (fun k=>w.heap.size≤k) wr ba xs) (hl:xs.length≤8) (hw0:w0.heap.size≤w.heap.size) :
  Zap w0 w br bg a len cap bs fa fc fns va vc vars next left d u wr.heap.size ab y ba none bc 0 xs [] (wr.alloc (.cells #[.int .i64 5,.string ⟨#[]⟩,.slice (some ⟨ab,0,none⟩) 1 1,.slice ba xs.length bc,.slice none 0 0] 48)):=by
 have hba:Below wr.heap.size wr (wr.alloc (.cells #[.int .i64 5,.string ⟨#[]⟩,.slice (some ⟨ab,0,none⟩) 1 1,.slice ba xs.length bc,.slice none 0 0] 48)):=(bRf _ _).alloc (Nat.le_refl _) _
 refine⟨hg.alloc _,ht.trans (Zf.alloc _ _),⟨hw.1,hw.2,hw0,ht.size⟩,hAn wr _,?_,?_,Za.nil _ _ _,?_,?_,hl,Nat.zero_le _⟩
 ·exact((ha.here (Z1 12)).mono (Z1 12) (fun k _ h=>⟨h.1,by have:=h.2;omega⟩)).below (Z1 12) hba
 ·exact((hb.here (Z0 d)).mono (Z0 d) (fun k _ h=>⟨h.1,by have:=h.2;omega⟩)).below (Z0 d) hba
 ·exact((hg.vlist.here Z3).mono Z3 (fun k _ h=>⟨h.1.1,h.1.2,by have:=h.2;omega⟩)).below Z3 hba
 ·exact((hg.flist.here (Z2 20)).mono (Z2 20) (fun k _ h=>⟨h.1.1,h.1.2,by have:=h.2;omega⟩)).below (Z2 20) hba
theorem Zap.step2 (h:Zap w0 w br bg a len cap bs fa fc fns va vc vars next left d u sb ab y ba ea bc ec xs ys wr) (ht:Zf br bg wr w') (hg:GSt w0 br bg a len cap bs fa fc fns u' va vc vars next' left' w'):Zap w0 w br bg a len cap bs fa fc fns va vc vars next' left' d u' sb ab y ba ea bc ec xs ys w':=by
 have hl:=h.lt
 have hs:sb<wr.heap.size:=(gsI h.row).1
 have hne:∀k,(w.heap.size≤k∧k≠sb)→k≠br∧k≠bg:=fun k hk=>⟨by omega,by omega⟩
 exact⟨hg,h.t.trans ht,hl,(ht.block hs (by omega) (by omega)).trans h.row,ht.list (Z1 12) h.args hne,ht.list (Z0 d) h.body hne,ht.list (Z0 d) h.els hne,ht.list Z3 h.vlow (fun k h=>⟨h.1,h.2.1⟩),ht.list (Z2 20) h.flow (fun k h=>⟨h.1,h.2.1⟩),h.small⟩
theorem Zap.put (h:Zap w0 w br bg a len cap bs fa fc fns va vc vars next left d u sb ab y ba ea bc ec xs ys wr) (he:Za 5 (Zv d) (fun k=>w.heap.size≤k∧k≠sb) wr ea' ys') (hl:ys'.length≤8):Zap w0 w br bg a len cap bs fa fc fns va vc vars next left d u sb ab y ba ea' bc ec' xs ys' (wr.setCell ⟨sb,4,none⟩ (.slice ea' ys'.length ec')):=by
 have ht:=Z4 wr sb 4 (.slice ea' ys'.length ec')
 have hlt:=h.lt
 have hn:∀k,k<wr.heap.size→(w.heap.size≤k∧k≠sb)→¬k=sb:=fun k _ hk=>hk.2
 have hv:=h.vlow.turned Z3 ht (fun k _ h1=>h1.2.2)
 have hf:=h.flow.turned (Z2 20) ht (fun k _ h1=>h1.2.2)
 exact⟨h.g.other ht (fun k _ hk=>by omega) (hv.mono Z3 (fun k _ h=>⟨h.1,h.2.1⟩)) (hf.mono (Z2 20) (fun k _ h=>⟨h.1,h.2.1⟩)),Ze.trans (S:=fun k=>k=br∨k=bg∨w.heap.size≤k) h.t (ht.mono (fun k hk=>by omega)),hlt,(hSs wr sb 4 _ _ _ h.row).trans rfl,h.args.turned (Z1 12) ht hn,h.body.turned (Z0 d) ht hn,he.turned (Z0 d) ht hn,hv,hf,h.small.1,hl⟩
theorem Zap.fin (h:Zap w0 w br bg a len cap bs fa fc fns va vc vars next left d u sb ab y ba ea bc ec xs ys wr) :
  Zv (d+1) (fun k=>w.heap.size≤k) wr [.int .i64 5,.string ⟨#[]⟩,.slice (some ⟨ab,0,none⟩) 1 1,.slice ba xs.length bc,.slice ea ys.length ec] (.mk 5 ⟨#[]⟩ [y] xs ys):=
 ⟨_,_,_,_,_,_,rfl,⟨Nat.zero_le _,(by decide:(-9223372036854775808:Int)≤5),(by decide:(5:Int)≤9223372036854775807),(by decide:(1:Nat)≤100),Nat.le_trans h.small.1 (by decide),Nat.le_trans h.small.2 (by decide)⟩,h.args.mono (Z1 12) (fun k _ h=>h.1),h.body.mono (Z0 d) (fun k _ h=>h.1),h.els.mono (Z0 d) (fun k _ h=>h.1)⟩
end
end Go.Proofs.YtloooebabieeeaaGreatDoor
