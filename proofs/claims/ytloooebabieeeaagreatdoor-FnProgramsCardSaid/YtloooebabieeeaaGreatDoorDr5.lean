/-
  The program's SameExpr, sameStmt and SamePrograms: they answer whether two are one. (printed by mksame.py)
-/
import Derived.Test.YtloooebabieeeaaGreatDoorCp
import Derived.Test.YtloooebabieeeaaGreatDoorSm
import Derived.Test.YtloooebabieeeaaGreatDoorVs
import Derived.Deep.QuietTactic
import Derived.BigQuiet
import Derived.Test.YtloooebabieeeaaGreatDoorDr4
import Derived.Test.YtloooebabieeeaaGreatDoorLaw
set_option maxRecDepth 100000
set_option maxHeartbeats 16000000
set_option linter.unusedVariables false
namespace Go.Proofs.YtloooebabieeeaaGreatDoor
open Go.RowKit
theorem Z0B (d:Nat):ZbJ (Zv d (fun _=>True)):=fun _ _ _ _ hb h=>(Z0 d).below hb h
theorem Z2F (d:Nat):ZbJ (FnP d (fun _=>True)):=fun _ _ _ _ hb h=>(Z2 d).below hb h
theorem Z8K {d:Nat} {S:Nat→Prop} {w:World} {cs:List Value} {f:FnD} (h:FnP d S w cs f):∃pa pc ba bc,cs=[.string f.name,.slice pa f.params.length pc,.slice ba f.body.length bc]:=by
 obtain⟨pa,pc,ba,bc,h1,_⟩:=h;exact⟨pa,pc,ba,bc,h1⟩
theorem Z6H {x y:Zb} (h1:x.op=y.op) (h2:x.name=y.name) (h3:x.args=y.args) (h4:x.body=y.body) (h5:x.els=y.els):x=y:=by
 cases x;cases y
 simp only [Zb.op,Zb.name,Zb.args,Zb.body,Zb.els] at h1 h2 h3 h4 h5
 rw [h1,h2,h3,h4,h5]
theorem Z4S {S:Nat→Prop} {w:World} {a:Option Addr} {xs:List Z6} (h:Za 4 (ZG 12) S w a xs):Z03 4 (ZX 12) w a xs.length xs:=Z37 h.rd (fun _ _ _ h=>Z1a h.1)
theorem Z8D {w:World} {a:Option Addr} {n m:Nat} {xs:List Z6} (h:Z03 4 (ZX m) w a n xs) {i:Nat} (hi:i<n) :
  ∃b off x ka kc,a=some ⟨b,off,none⟩∧xs[i]? = some x∧(ZX m) w [.int .i64 x.op,.int .i64 x.n,.string x.name,.slice ka x.kids.length kc] x∧w.cell? ⟨b,off+i*4,none⟩=some (.int .i64 x.op)∧w.cell? ⟨b,off+i*4+1,none⟩=some (.int .i64 x.n)∧w.cell? ⟨b,off+i*4+2,none⟩=some (.string x.name)∧w.cell? ⟨b,off+i*4+3,none⟩=some (.slice ka x.kids.length kc):=by
 obtain⟨b,off,cs,x,rfl,hx,hl,hc,hR⟩:=h.place (by decide) hi
 obtain⟨ka,kc,rfl⟩:=Z8v hR
 exact⟨b,off,x,ka,kc,rfl,hx,hR,hc 0 _ rfl,hc 1 _ rfl,hc 2 _ rfl,hc 3 _ rfl⟩
theorem Z4D (m:Nat) (hf:∀(cs ds:List Value) (x y:Z6) (W:World),(ZX m) W cs x→(ZX m) W ds y→Calls Tryz.prog 39 #[.agg cs.toArray,.agg ds.toArray] W fun e w'=>e=.returned (.bool (eqB x y))∧Below W.heap.size W w')
  (a a':Option Addr) (cap cap':Nat) (xs ys:List Z6) (w:World) (hin:Z03 4 (ZX m) w a xs.length xs) (hin':Z03 4 (ZX m) w a' ys.length ys) (hs:xs.length≤9223372036854775807) (hs':ys.length≤9223372036854775807) :
  Calls Tryz.prog 38 #[.slice a xs.length cap,.slice a' ys.length cap',.func (.func 39) #[] #[]] w fun e w'=>e=.returned (.bool (eqB xs ys))∧Below w.heap.size w w':=by
 obtain⟨RB,hRB⟩:∃RB,RB=eqB xs ys:=⟨_,rfl⟩
 rw [← hRB]
 have HRB:=hdd hRB
 have HF:=hdd hf
 clear hRB hf
 by_cases hl:xs.length=ys.length
 ·have hb:((xs.length:Int) != (ys.length:Int))=false:=by simp [hl]
  have HL:=hdd hl
  clear hl
  go_enter Tryz.func38,Tryz.ntmps38
  go_wp2_with fail
  go_loopg [17] xs.length (fun F i wr=>∃k:Nat,k+F=xs.length∧i=.int .i64 k∧Hid (Z3B xs ys k∧Below w.heap.size w wr))
  case atStart=>exact⟨0,by omega,rfl,hdd ⟨Z17 _ _,bRf _ _⟩⟩
  case round=>
   obtain⟨k,hk,rfl,HK⟩:=hrel
   by_cases hlt:k<xs.length
   ·have hlt':k<ys.length:=by have:=HL.out;omega
    obtain⟨b1,o1,x,ka,kc,rfl,hx,hR,c0,c1,c2,c3⟩:=Z8D (m:=m) (hin.later (Zg m) HK.out.2) hlt
    obtain⟨b2,o2,y,ka',kc',rfl,hy,hR',d0,d1,d2,d3⟩:=Z8D (m:=m) (hin'.later (Zg m) HK.out.2) hlt'
    have hki:(k:Int)<(xs.length:Int):=by omega
    have hki':(k:Int)<(ys.length:Int):=by omega
    have HXY:=hdd (aI hx hy)
    have hb1:Below wr.heap.size wr (wr.alloc (.cells #[.int .i64 x.op,.int .i64 x.n,.string x.name,.slice ka x.kids.length kc] 64)):=(bRf _ _).alloc (Nat.le_refl _) _
    have hb2:Below wr.heap.size wr ((wr.alloc (.cells #[.int .i64 x.op,.int .i64 x.n,.string x.name,.slice ka x.kids.length kc] 64)).alloc (.cells #[.int .i64 y.op,.int .i64 y.n,.string y.name,.slice ka' y.kids.length kc'] 64)):=hb1.alloc (by simp) _
    have h1:=heap_alloc2_old wr (.cells #[.int .i64 x.op,.int .i64 x.n,.string x.name,.slice ka x.kids.length kc] 64) (.cells #[.int .i64 y.op,.int .i64 y.n,.string y.name,.slice ka' y.kids.length kc'] 64)
    have h2:=heap_alloc2_new wr (.cells #[.int .i64 x.op,.int .i64 x.n,.string x.name,.slice ka x.kids.length kc] 64) (.cells #[.int .i64 y.op,.int .i64 y.n,.string y.name,.slice ka' y.kids.length kc'] 64)
    have k0:=coR _ _ 0 _ _ _ h1
    have k1:=coR _ _ 1 _ _ _ h1
    have k2:=coR _ _ 2 _ _ _ h1
    have k3:=coR _ _ 3 _ _ _ h1
    have m0:=coR _ _ 0 _ _ _ h2
    have m1:=coR _ _ 1 _ _ _ h2
    have m2:=coR _ _ 2 _ _ _ h2
    have m3:=coR _ _ 3 _ _ _ h2
    simp only [ga0,ga1,ga2] at k0 k1 k2 k3 m0 m1 m2 m3
    have e0:=clT hb1 d0
    have e1:=clT hb1 d1
    have e2:=clT hb1 d2
    have e3:=clT hb1 d3
    have HSM:=hdd (aI (HK.out.2.trans (hb2.mono HK.out.2.size)) (HF.out _ _ x y _ ((Zg m) _ _ _ _ hb2 hR) ((Zg m) _ _ _ _ hb2 hR')))
    have hen:∀v W,(callFunc 39 (v++#[])).run Tryz.prog W=.ok (.enter 39 (v++#[])) W:=fun _ _=>rfl
    clear hx hy hR hR' hb1 hb2 h1 h2 d0 d1 d2 d3
    go_wp2_with fail
    refine HSM.out.2.mono ?_
    cases hv:eqB x y with
    | true=>
     rintro e w2 ⟨rfl,hb2⟩
     have HN:=hdd (aI (Z16 HK.out.1 HXY.out.1 HXY.out.2 hv) (HSM.out.1.trans (hb2.mono HSM.out.1.size)))
     clear hv hb2
     go_wp2
     go_roundg (gk-1)
     case measure=>omega
     case rel=>exact⟨k+1,by omega,by go_num,HN⟩
    | false=>
     rintro e w2 ⟨rfl,hb2⟩
     have HN:=hdd (show RB=false∧Below w.heap.size w w2 from⟨by rw [HRB.out];exact Zn (Z0h HXY.out.1 HXY.out.2 hv),HSM.out.1.trans (hb2.mono HSM.out.1.size)⟩)
     clear hv hb2
     go_wp2
     go_ret
     exact⟨by rw [HN.out.1];rfl,HN.out.2⟩
   ·obtain rfl:k=xs.length:=by omega
    have HN:=hdd (show RB=true by rw [HRB.out];exact Z0s (Z1G HL.out HK.out.1))
    go_wp2
    go_ret
    exact⟨by rw [HN.out];rfl,HK.out.2⟩
 ·have hb:((xs.length:Int) != (ys.length:Int))=true:=by simp;omega
  have HN:=hdd (show RB=false by rw [HRB.out];exact Zn fun e=>hl (by rw [e]))
  clear hl
  go_enter Tryz.func38,Tryz.ntmps38
  go_wp2
  go_ret
  exact⟨by rw [HN.out];rfl,bRf _ _⟩
theorem ZbW {w:World} {a:Option Addr} {n m:Nat} {xs:List Zb} (h:Z03 5 (Zv m (fun _=>True)) w a n xs) {i:Nat} (hi:i<n) :
  ∃b off x aa ac ba bc ea ec,a=some ⟨b,off,none⟩∧xs[i]? = some x∧(Zv m (fun _=>True)) w [.int .i64 x.op,.string x.name,.slice aa x.args.length ac,.slice ba x.body.length bc,.slice ea x.els.length ec] x∧w.cell? ⟨b,off+i*5,none⟩=some (.int .i64 x.op)∧w.cell? ⟨b,off+i*5+1,none⟩=some (.string x.name)∧w.cell? ⟨b,off+i*5+2,none⟩=some (.slice aa x.args.length ac)∧w.cell? ⟨b,off+i*5+3,none⟩=some (.slice ba x.body.length bc)∧w.cell? ⟨b,off+i*5+4,none⟩=some (.slice ea x.els.length ec):=by
 obtain⟨b,off,cs,x,rfl,hx,hl,hc,hR⟩:=h.place (by decide) hi
 obtain⟨aa,ac,ba,bc,ea,ec,rfl⟩:=Z2C hR
 exact⟨b,off,x,aa,ac,ba,bc,ea,ec,rfl,hx,hR,hc 0 _ rfl,hc 1 _ rfl,hc 2 _ rfl,hc 3 _ rfl,hc 4 _ rfl⟩
theorem Z3y (m:Nat) (hf:∀(cs ds:List Value) (x y:Zb) (W:World),(Zv m (fun _=>True)) W cs x→(Zv m (fun _=>True)) W ds y→Calls Tryz.prog 19 #[.agg cs.toArray,.agg ds.toArray] W fun e w'=>e=.returned (.bool (eqB x y))∧Below W.heap.size W w')
  (a a':Option Addr) (cap cap':Nat) (xs ys:List Zb) (w:World) (hin:Z03 5 (Zv m (fun _=>True)) w a xs.length xs) (hin':Z03 5 (Zv m (fun _=>True)) w a' ys.length ys) (hs:xs.length≤9223372036854775807) (hs':ys.length≤9223372036854775807) :
  Calls Tryz.prog 18 #[.slice a xs.length cap,.slice a' ys.length cap',.func (.func 19) #[] #[]] w fun e w'=>e=.returned (.bool (eqB xs ys))∧Below w.heap.size w w':=by
 obtain⟨RB,hRB⟩:∃RB,RB=eqB xs ys:=⟨_,rfl⟩
 rw [← hRB]
 have HRB:=hdd hRB
 have HF:=hdd hf
 clear hRB hf
 by_cases hl:xs.length=ys.length
 ·have hb:((xs.length:Int) != (ys.length:Int))=false:=by simp [hl]
  have HL:=hdd hl
  clear hl
  go_enter Tryz.func18,Tryz.ntmps18
  go_wp2_with fail
  go_loopg [17] xs.length (fun F i wr=>∃k:Nat,k+F=xs.length∧i=.int .i64 k∧Hid (Z3B xs ys k∧Below w.heap.size w wr))
  case atStart=>exact⟨0,by omega,rfl,hdd ⟨Z17 _ _,bRf _ _⟩⟩
  case round=>
   obtain⟨k,hk,rfl,HK⟩:=hrel
   by_cases hlt:k<xs.length
   ·have hlt':k<ys.length:=by have:=HL.out;omega
    obtain⟨b1,o1,x,aa,ac,ba,bc,ea,ec,rfl,hx,hR,c0,c1,c2,c3,c4⟩:=ZbW (m:=m) (hin.later (Z0B m) HK.out.2) hlt
    obtain⟨b2,o2,y,aa',ac',ba',bc',ea',ec',rfl,hy,hR',d0,d1,d2,d3,d4⟩:=ZbW (m:=m) (hin'.later (Z0B m) HK.out.2) hlt'
    have hki:(k:Int)<(xs.length:Int):=by omega
    have hki':(k:Int)<(ys.length:Int):=by omega
    have HXY:=hdd (aI hx hy)
    have hb1:Below wr.heap.size wr (wr.alloc (.cells #[.int .i64 x.op,.string x.name,.slice aa x.args.length ac,.slice ba x.body.length bc,.slice ea x.els.length ec] 48)):=(bRf _ _).alloc (Nat.le_refl _) _
    have hb2:Below wr.heap.size wr ((wr.alloc (.cells #[.int .i64 x.op,.string x.name,.slice aa x.args.length ac,.slice ba x.body.length bc,.slice ea x.els.length ec] 48)).alloc (.cells #[.int .i64 y.op,.string y.name,.slice aa' y.args.length ac',.slice ba' y.body.length bc',.slice ea' y.els.length ec'] 48)):=hb1.alloc (by simp) _
    have h1:=heap_alloc2_old wr (.cells #[.int .i64 x.op,.string x.name,.slice aa x.args.length ac,.slice ba x.body.length bc,.slice ea x.els.length ec] 48) (.cells #[.int .i64 y.op,.string y.name,.slice aa' y.args.length ac',.slice ba' y.body.length bc',.slice ea' y.els.length ec'] 48)
    have h2:=heap_alloc2_new wr (.cells #[.int .i64 x.op,.string x.name,.slice aa x.args.length ac,.slice ba x.body.length bc,.slice ea x.els.length ec] 48) (.cells #[.int .i64 y.op,.string y.name,.slice aa' y.args.length ac',.slice ba' y.body.length bc',.slice ea' y.els.length ec'] 48)
    have k0:=coR _ _ 0 _ _ _ h1
    have k1:=coR _ _ 1 _ _ _ h1
    have k2:=coR _ _ 2 _ _ _ h1
    have k3:=coR _ _ 3 _ _ _ h1
    have k4:=coR _ _ 4 _ _ _ h1
    have m0:=coR _ _ 0 _ _ _ h2
    have m1:=coR _ _ 1 _ _ _ h2
    have m2:=coR _ _ 2 _ _ _ h2
    have m3:=coR _ _ 3 _ _ _ h2
    have m4:=coR _ _ 4 _ _ _ h2
    simp only [ga0,ga1,ga2] at k0 k1 k2 k3 k4 m0 m1 m2 m3 m4
    have e0:=clT hb1 d0
    have e1:=clT hb1 d1
    have e2:=clT hb1 d2
    have e3:=clT hb1 d3
    have e4:=clT hb1 d4
    have HSM:=hdd (aI (HK.out.2.trans (hb2.mono HK.out.2.size)) (HF.out _ _ x y _ ((Z0B m) _ _ _ _ hb2 hR) ((Z0B m) _ _ _ _ hb2 hR')))
    have hen:∀v W,(callFunc 19 (v++#[])).run Tryz.prog W=.ok (.enter 19 (v++#[])) W:=fun _ _=>rfl
    clear hx hy hR hR' hb1 hb2 h1 h2 d0 d1 d2 d3 d4
    go_wp2_with fail
    refine HSM.out.2.mono ?_
    cases hv:eqB x y with
    | true=>
     rintro e w2 ⟨rfl,hb2⟩
     have HN:=hdd (aI (Z16 HK.out.1 HXY.out.1 HXY.out.2 hv) (HSM.out.1.trans (hb2.mono HSM.out.1.size)))
     clear hv hb2
     go_wp2
     go_roundg (gk-1)
     case measure=>omega
     case rel=>exact⟨k+1,by omega,by go_num,HN⟩
    | false=>
     rintro e w2 ⟨rfl,hb2⟩
     have HN:=hdd (show RB=false∧Below w.heap.size w w2 from⟨by rw [HRB.out];exact Zn (Z0h HXY.out.1 HXY.out.2 hv),HSM.out.1.trans (hb2.mono HSM.out.1.size)⟩)
     clear hv hb2
     go_wp2
     go_ret
     exact⟨by rw [HN.out.1];rfl,HN.out.2⟩
   ·obtain rfl:k=xs.length:=by omega
    have HN:=hdd (show RB=true by rw [HRB.out];exact Z0s (Z1G HL.out HK.out.1))
    go_wp2
    go_ret
    exact⟨by rw [HN.out];rfl,HK.out.2⟩
 ·have hb:((xs.length:Int) != (ys.length:Int))=true:=by simp;omega
  have HN:=hdd (show RB=false by rw [HRB.out];exact Zn fun e=>hl (by rw [e]))
  clear hl
  go_enter Tryz.func18,Tryz.ntmps18
  go_wp2
  go_ret
  exact⟨by rw [HN.out];rfl,bRf _ _⟩
theorem Zd8 {w:World} {a:Option Addr} {n m:Nat} {xs:List FnD} (h:Z03 3 (FnP m (fun _=>True)) w a n xs) {i:Nat} (hi:i<n) :
  ∃b off x pa pc ba bc,a=some ⟨b,off,none⟩∧xs[i]? = some x∧(FnP m (fun _=>True)) w [.string x.name,.slice pa x.params.length pc,.slice ba x.body.length bc] x∧w.cell? ⟨b,off+i*3,none⟩=some (.string x.name)∧w.cell? ⟨b,off+i*3+1,none⟩=some (.slice pa x.params.length pc)∧w.cell? ⟨b,off+i*3+2,none⟩=some (.slice ba x.body.length bc):=by
 obtain⟨b,off,cs,x,rfl,hx,hl,hc,hR⟩:=h.place (by decide) hi
 obtain⟨pa,pc,ba,bc,rfl⟩:=Z8K hR
 exact⟨b,off,x,pa,pc,ba,bc,rfl,hx,hR,hc 0 _ rfl,hc 1 _ rfl,hc 2 _ rfl⟩
theorem Zak (m:Nat) (hf:∀(cs ds:List Value) (x y:FnD) (W:World),(FnP m (fun _=>True)) W cs x→(FnP m (fun _=>True)) W ds y→Calls Tryz.prog 16 #[.agg cs.toArray,.agg ds.toArray] W fun e w'=>e=.returned (.bool (eqB x y))∧Below W.heap.size W w')
  (a a':Option Addr) (cap cap':Nat) (xs ys:List FnD) (w:World) (hin:Z03 3 (FnP m (fun _=>True)) w a xs.length xs) (hin':Z03 3 (FnP m (fun _=>True)) w a' ys.length ys) (hs:xs.length≤9223372036854775807) (hs':ys.length≤9223372036854775807) :
  Calls Tryz.prog 15 #[.slice a xs.length cap,.slice a' ys.length cap',.func (.func 16) #[] #[]] w fun e w'=>e=.returned (.bool (eqB xs ys))∧Below w.heap.size w w':=by
 obtain⟨RB,hRB⟩:∃RB,RB=eqB xs ys:=⟨_,rfl⟩
 rw [← hRB]
 have HRB:=hdd hRB
 have HF:=hdd hf
 clear hRB hf
 by_cases hl:xs.length=ys.length
 ·have hb:((xs.length:Int) != (ys.length:Int))=false:=by simp [hl]
  have HL:=hdd hl
  clear hl
  go_enter Tryz.func15,Tryz.ntmps15
  go_wp2_with fail
  go_loopg [17] xs.length (fun F i wr=>∃k:Nat,k+F=xs.length∧i=.int .i64 k∧Hid (Z3B xs ys k∧Below w.heap.size w wr))
  case atStart=>exact⟨0,by omega,rfl,hdd ⟨Z17 _ _,bRf _ _⟩⟩
  case round=>
   obtain⟨k,hk,rfl,HK⟩:=hrel
   by_cases hlt:k<xs.length
   ·have hlt':k<ys.length:=by have:=HL.out;omega
    obtain⟨b1,o1,x,pa,pc,ba,bc,rfl,hx,hR,c0,c1,c2⟩:=Zd8 (m:=m) (hin.later (Z2F m) HK.out.2) hlt
    obtain⟨b2,o2,y,pa',pc',ba',bc',rfl,hy,hR',d0,d1,d2⟩:=Zd8 (m:=m) (hin'.later (Z2F m) HK.out.2) hlt'
    have hki:(k:Int)<(xs.length:Int):=by omega
    have hki':(k:Int)<(ys.length:Int):=by omega
    have HXY:=hdd (aI hx hy)
    have hb1:Below wr.heap.size wr (wr.alloc (.cells #[.string x.name,.slice pa x.params.length pc,.slice ba x.body.length bc] 42)):=(bRf _ _).alloc (Nat.le_refl _) _
    have hb2:Below wr.heap.size wr ((wr.alloc (.cells #[.string x.name,.slice pa x.params.length pc,.slice ba x.body.length bc] 42)).alloc (.cells #[.string y.name,.slice pa' y.params.length pc',.slice ba' y.body.length bc'] 42)):=hb1.alloc (by simp) _
    have h1:=heap_alloc2_old wr (.cells #[.string x.name,.slice pa x.params.length pc,.slice ba x.body.length bc] 42) (.cells #[.string y.name,.slice pa' y.params.length pc',.slice ba' y.body.length bc'] 42)
    have h2:=heap_alloc2_new wr (.cells #[.string x.name,.slice pa x.params.length pc,.slice ba x.body.length bc] 42) (.cells #[.string y.name,.slice pa' y.params.length pc',.slice ba' y.body.length bc'] 42)
    have k0:=coR _ _ 0 _ _ _ h1
    have k1:=coR _ _ 1 _ _ _ h1
    have k2:=coR _ _ 2 _ _ _ h1
    have m0:=coR _ _ 0 _ _ _ h2
    have m1:=coR _ _ 1 _ _ _ h2
    have m2:=coR _ _ 2 _ _ _ h2
    simp only [ga0,ga1,ga2] at k0 k1 k2 m0 m1 m2
    have e0:=clT hb1 d0
    have e1:=clT hb1 d1
    have e2:=clT hb1 d2
    have HSM:=hdd (aI (HK.out.2.trans (hb2.mono HK.out.2.size)) (HF.out _ _ x y _ ((Z2F m) _ _ _ _ hb2 hR) ((Z2F m) _ _ _ _ hb2 hR')))
    have hen:∀v W,(callFunc 16 (v++#[])).run Tryz.prog W=.ok (.enter 16 (v++#[])) W:=fun _ _=>rfl
    clear hx hy hR hR' hb1 hb2 h1 h2 d0 d1 d2
    go_wp2_with fail
    refine HSM.out.2.mono ?_
    cases hv:eqB x y with
    | true=>
     rintro e w2 ⟨rfl,hb2⟩
     have HN:=hdd (aI (Z16 HK.out.1 HXY.out.1 HXY.out.2 hv) (HSM.out.1.trans (hb2.mono HSM.out.1.size)))
     clear hv hb2
     go_wp2
     go_roundg (gk-1)
     case measure=>omega
     case rel=>exact⟨k+1,by omega,by go_num,HN⟩
    | false=>
     rintro e w2 ⟨rfl,hb2⟩
     have HN:=hdd (show RB=false∧Below w.heap.size w w2 from⟨by rw [HRB.out];exact Zn (Z0h HXY.out.1 HXY.out.2 hv),HSM.out.1.trans (hb2.mono HSM.out.1.size)⟩)
     clear hv hb2
     go_wp2
     go_ret
     exact⟨by rw [HN.out.1];rfl,HN.out.2⟩
   ·obtain rfl:k=xs.length:=by omega
    have HN:=hdd (show RB=true by rw [HRB.out];exact Z0s (Z1G HL.out HK.out.1))
    go_wp2
    go_ret
    exact⟨by rw [HN.out];rfl,HK.out.2⟩
 ·have hb:((xs.length:Int) != (ys.length:Int))=true:=by simp;omega
  have HN:=hdd (show RB=false by rw [HRB.out];exact Zn fun e=>hl (by rw [e]))
  clear hl
  go_enter Tryz.func15,Tryz.ntmps15
  go_wp2
  go_ret
  exact⟨by rw [HN.out];rfl,bRf _ _⟩
theorem Z9c:∀(m:Nat) (cs ds:List Value) (x y:Z6) (w:World),ZX m w cs x→ZX m w ds y→
  Calls Tryz.prog 39 #[.agg cs.toArray,.agg ds.toArray] w fun e w'=>e=.returned (.bool (eqB x y))∧Below w.heap.size w w':=by
 intro m
 induction m with
 | zero=>exact fun _ _ _ _ _ h=>h.elim
 | succ m ih=>
 intro cs ds x y w hx hy
 obtain⟨ka,kc,rfl,⟨hkl,-⟩,hks⟩:=hx
 obtain⟨ja,jc,rfl,⟨hjl,-⟩,hjs⟩:=hy
 have HB:=hdd (Z1R w (.cells #[.int .i64 x.op,.int .i64 x.n,.string x.name,.slice ka x.kids.length kc] 64) (.cells #[.int .i64 y.op,.int .i64 y.n,.string y.name,.slice ja y.kids.length jc] 64))
 have HEF:=hdd (Z4D m ih ka ja kc jc x.kids y.kids _ (hks.later (Zg m) HB.out.2.2.1) (hjs.later (Zg m) HB.out.2.2.1) (by unfold maxLen at hkl;omega) (by unfold maxLen at hjl;omega))
 clear hks hjs ih hkl hjl
 obtain⟨R,hR⟩:∃R,R=eqB x y:=⟨_,rfl⟩
 rw [← hR]
 have HR0:=hdd hR
 clear hR
 go_enter Tryz.func39,Tryz.ntmps39
 go_upto_region 1 with fail
 generalize (w.alloc (.cells #[.int .i64 x.op,.int .i64 x.n,.string x.name,.slice ka x.kids.length kc] 64)).alloc (.cells #[.int .i64 y.op,.int .i64 y.n,.string y.name,.slice ja y.kids.length jc] 64)=W1 at HB HEF ⊢
 have p0:=coR _ _ 0 _ _ _ HB.out.1
 have p1:=coR _ _ 1 _ _ _ HB.out.1
 have p2:=coR _ _ 2 _ _ _ HB.out.1
 have p3:=coR _ _ 3 _ _ _ HB.out.1
 have q0:=coR _ _ 0 _ _ _ HB.out.2.1
 have q1:=coR _ _ 1 _ _ _ HB.out.2.1
 have q2:=coR _ _ 2 _ _ _ HB.out.2.1
 have q3:=coR _ _ 3 _ _ _ HB.out.2.1
 simp only [ga0,ga1,ga2] at p0 p1 p2 p3 q0 q1 q2 q3
 have HBW:=hdd HB.out.2.2.1
 obtain⟨b0,hb0⟩:∃b,b=w.heap.size:=⟨_,rfl⟩
 rw [← hb0] at p0 p1 p2 p3 q0 q1 q2 q3 ⊢
 clear hb0
 by_cases h1:x.op=y.op
 rotate_left
 ·have HF:=hdd (show R=false by rw [HR0.out];exact Zn fun e=>h1 (by rw [e]))
  have i2:(x.op==y.op)=false:=by simpa using h1
  clear h1
  go_wp2
  go_ret
  exact⟨by rw [HF.out];rfl,HBW.out⟩
 have i2:(x.op==y.op)=true:=by simpa using h1
 by_cases h2:x.n=y.n
 rotate_left
 ·have HF:=hdd (show R=false by rw [HR0.out];exact Zn fun e=>h2 (by rw [e]))
  have i4:(x.n==y.n)=false:=by simpa using h2
  clear h1 h2
  go_wp2
  go_ret
  exact⟨by rw [HF.out];rfl,HBW.out⟩
 have i4:(x.n==y.n)=true:=by simpa using h2
 by_cases h3:x.name=y.name
 rotate_left
 ·have HF:=hdd (show R=false by rw [HR0.out];exact Zn fun e=>h3 (by rw [e]))
  have i5:(x.name.toList==y.name.toList)=false:=Z1m h3
  clear h1 h2 h3
  go_wp2
  go_ret
  exact⟨by rw [HF.out];rfl,HBW.out⟩
 have i5:(x.name.toList==y.name.toList)=true:=by rw [h3];simp
 have HEQ:=hdd (show R=eqB x.kids y.kids by
  rw [HR0.out]
  cases hv:eqB x.kids y.kids with
  | true=>exact Z0s (Z6O h1 h2 h3 (Z1t.1 hv))
  | false=>exact Zn fun e=>Z2v hv (by rw [e]))
 clear h1 h2 h3
 go_wp2_with fail
 refine HEF.out.mono ?_
 rintro e w5 ⟨rfl,hb5⟩
 have HB5:=hdd (HBW.out.trans (hb5.mono HBW.out.size))
 clear hb5
 go_wp2
 go_ret
 exact⟨by rw [HEQ.out];rfl,HB5.out⟩
theorem Z6g:∀(m:Nat) (cs ds:List Value) (x y:Zb) (w:World),Zv m (fun _=>True) w cs x→Zv m (fun _=>True) w ds y→
  Calls Tryz.prog 19 #[.agg cs.toArray,.agg ds.toArray] w fun e w'=>e=.returned (.bool (eqB x y))∧Below w.heap.size w w':=by
 intro m
 induction m with
 | zero=>exact fun _ _ _ _ _ h=>h.elim
 | succ m ih=>
 intro cs ds x y w hx hy
 obtain⟨aa,ac,ba,bc,ea,ec,rfl,⟨-,-,-,hl1,hl2,hl3⟩,hA,hB,hE⟩:=hx
 obtain⟨aa',ac',ba',bc',ea',ec',rfl,⟨-,-,-,hl1',hl2',hl3'⟩,hA',hB',hE'⟩:=hy
 have HB:=hdd (Z1R w (.cells #[.int .i64 x.op,.string x.name,.slice aa x.args.length ac,.slice ba x.body.length bc,.slice ea x.els.length ec] 48) (.cells #[.int .i64 y.op,.string y.name,.slice aa' y.args.length ac',.slice ba' y.body.length bc',.slice ea' y.els.length ec'] 48))
 have HEA:=hdd (fun (W:World) (hW:Below w.heap.size w W)=>Z4D 12 (Z9c 12) aa aa' ac ac' x.args y.args W ((Z4S hA).later (Zg 12) hW) ((Z4S hA').later (Zg 12) hW) (by omega) (by omega))
 have HEB:=hdd (fun (W:World) (hW:Below w.heap.size w W)=>Z3y m ih ba ba' bc bc' x.body y.body W (hB.rd.later (Z0B m) hW) (hB'.rd.later (Z0B m) hW) (by omega) (by omega))
 have HEE:=hdd (fun (W:World) (hW:Below w.heap.size w W)=>Z3y m ih ea ea' ec ec' x.els y.els W (hE.rd.later (Z0B m) hW) (hE'.rd.later (Z0B m) hW) (by omega) (by omega))
 clear hA hB hE hA' hB' hE' ih hl1 hl2 hl3 hl1' hl2' hl3'
 obtain⟨R,hR⟩:∃R,R=eqB x y:=⟨_,rfl⟩
 rw [← hR]
 have HR0:=hdd hR
 clear hR
 go_enter Tryz.func19,Tryz.ntmps19
 go_upto_region 1 with fail
 generalize (w.alloc (.cells #[.int .i64 x.op,.string x.name,.slice aa x.args.length ac,.slice ba x.body.length bc,.slice ea x.els.length ec] 48)).alloc (.cells #[.int .i64 y.op,.string y.name,.slice aa' y.args.length ac',.slice ba' y.body.length bc',.slice ea' y.els.length ec'] 48)=W1 at HB ⊢
 have p0:=coR _ _ 0 _ _ _ HB.out.1
 have p1:=coR _ _ 1 _ _ _ HB.out.1
 have p2:=coR _ _ 2 _ _ _ HB.out.1
 have p3:=coR _ _ 3 _ _ _ HB.out.1
 have p4:=coR _ _ 4 _ _ _ HB.out.1
 have q0:=coR _ _ 0 _ _ _ HB.out.2.1
 have q1:=coR _ _ 1 _ _ _ HB.out.2.1
 have q2:=coR _ _ 2 _ _ _ HB.out.2.1
 have q3:=coR _ _ 3 _ _ _ HB.out.2.1
 have q4:=coR _ _ 4 _ _ _ HB.out.2.1
 simp only [ga0,ga1,ga2] at p0 p1 p2 p3 p4 q0 q1 q2 q3 q4
 have HBW:=hdd HB.out.2.2.1
 obtain⟨b0,hb0⟩:∃b,b=w.heap.size:=⟨_,rfl⟩
 rw [← hb0] at p0 p1 p2 p3 p4 q0 q1 q2 q3 q4 ⊢
 clear hb0
 by_cases h1:x.op=y.op
 rotate_left
 ·have HF:=hdd (show R=false by rw [HR0.out];exact Zn fun e=>h1 (by rw [e]))
  have i2:(x.op==y.op)=false:=by simpa using h1
  clear h1
  go_wp2
  go_ret
  exact⟨by rw [HF.out];rfl,HBW.out⟩
 have i2:(x.op==y.op)=true:=by simpa using h1
 by_cases h3:x.name=y.name
 rotate_left
 ·have HF:=hdd (show R=false by rw [HR0.out];exact Zn fun e=>h3 (by rw [e]))
  have i5:(x.name.toList==y.name.toList)=false:=Z1m h3
  clear h1 h3
  go_wp2
  go_ret
  exact⟨by rw [HF.out];rfl,HBW.out⟩
 have i5:(x.name.toList==y.name.toList)=true:=by rw [h3];simp
 have HEQ:=hdd (show x.op=y.op∧x.name=y.name from⟨h1,h3⟩)
 have HP:=hdd (aI p2 (aI p3 (aI p4 (aI q2 (aI q3 q4)))))
 clear h1 h3
 go_wp2_with fail
 refine(HEA.out _ HBW.out).mono ?_
 cases hv:eqB x.args y.args with
 | false=>
  rintro e w5 ⟨rfl,hb5⟩
  have HF:=hdd (show R=false∧Below w.heap.size w w5 from⟨by rw [HR0.out];exact Zn fun e=>Z2v hv (by rw [e]),HBW.out.trans (hb5.mono HBW.out.size)⟩)
  clear hb5 hv p0 p1 p2 p3 p4 q0 q1 q2 q3 q4
  go_wp2
  go_ret
  exact⟨by rw [HF.out.1];rfl,HF.out.2⟩
 | true=>
  rintro e w5 ⟨rfl,hb5⟩
  have HW5:=hdd (aI (Z1t.1 hv) (HBW.out.trans (hb5.mono HBW.out.size)))
  have g3:=clT hb5 p3
  have g4:=clT hb5 p4
  have h3:=clT hb5 q3
  have h4:=clT hb5 q4
  clear hb5 hv p0 p1 p2 p3 p4 q0 q1 q2 q3 q4 i2 i5
  go_wp2_with fail
  refine(HEB.out _ HW5.out.2).mono ?_
  cases hv2:eqB x.body y.body with
  | false=>
   rintro e w6 ⟨rfl,hb6⟩
   have HF:=hdd (show R=false∧Below w.heap.size w w6 from⟨by rw [HR0.out];exact Zn fun e=>Z2v hv2 (by rw [e]),HW5.out.2.trans (hb6.mono HW5.out.2.size)⟩)
   clear hb6 hv2 g3 g4 h3 h4
   go_wp2
   go_ret
   exact⟨by rw [HF.out.1];rfl,HF.out.2⟩
  | true=>
   rintro e w6 ⟨rfl,hb6⟩
   have HW6:=hdd (aI (Z1t.1 hv2) (HW5.out.2.trans (hb6.mono HW5.out.2.size)))
   have g4':=clT hb6 g4
   have h4':=clT hb6 h4
   clear hb6 hv2 g3 g4 h3 h4
   go_wp2_with fail
   refine(HEE.out _ HW6.out.2).mono ?_
   rintro e w7 ⟨rfl,hb7⟩
   have HF:=hdd (show R=eqB x.els y.els∧Below w.heap.size w w7 from⟨by
    rw [HR0.out]
    cases hv3:eqB x.els y.els with
    | true=>exact Z0s (Z6H HEQ.out.1 HEQ.out.2 HW5.out.1 HW6.out.1 (Z1t.1 hv3))
    | false=>exact Zn fun e=>Z2v hv3 (by rw [e]),HW6.out.2.trans (hb7.mono HW6.out.2.size)⟩)
   clear hb7 g4' h4'
   go_wp2
   go_ret
   exact⟨by rw [HF.out.1];rfl,HF.out.2⟩
theorem Z4e {α : Type} {f:α→Nat} {n:Nat}:∀{xs:List α},(∀x∈xs,f x≤n)→ZY f xs≤xs.length*n
 | [],_=>by simp [ZY]
 | x::xs,h=>by
  rw [ZY,List.length_cons,Nat.add_mul]
  have:=Z4e (f:=f) (n:=n) (xs:=xs) (fun y hy=>h y (List.mem_cons_of_mem _ hy))
  have:=h x List.mem_cons_self
  omega
theorem Z32 {α : Type} {s:Nat} {R:Z2u α} {S:Nat→Prop} {w:World} {a:Option Addr} {xs:List α} (h:Za s R S w a xs) {x:α} (hx:x∈xs):∃c,R S w c x:=by
 obtain⟨h1,cells,h2,h3,h4,h5⟩:=h.rd
 obtain⟨i,hi,rfl⟩:=List.getElem_of_mem hx
 exact⟨cells[i]'(by omega),h5 i _ _ (List.getElem?_eq_getElem _) (List.getElem?_eq_getElem _)⟩
theorem Z4I:∀{d:Nat} {S:Nat→Prop} {w:World} {c:List Value} {x:Zb},Zv d S w c x→Z07 d x≤201 ^ d
 | 0,_,_,_,_,h=>h.elim
 | d+1,S,w,c,x,⟨aa,ac,ba,bc,ea,ec,_,hb,_,hB,hE⟩=>by
  have h1:ZY (Z07 d) x.body≤x.body.length*201 ^ d:=Z4e fun y hy=>by obtain⟨c,hc⟩:=Z32 hB hy;exact Z4I hc
  have h2:ZY (Z07 d) x.els≤x.els.length*201 ^ d:=Z4e fun y hy=>by obtain⟨c,hc⟩:=Z32 hE hy;exact Z4I hc
  have h3:x.body.length*201 ^ d≤100*201 ^ d:=Nat.mul_le_mul_right _ (by omega)
  have h4:x.els.length*201 ^ d≤100*201 ^ d:=Nat.mul_le_mul_right _ (by omega)
  have h5:1≤201 ^ d:=Nat.one_le_pow _ _ (by omega)
  rw [Z07,Nat.pow_succ]
  omega
theorem ZaB {d:Nat} {S:Nat→Prop} {w:World} {a:Option Addr} {xs:List Zb} (h:Za 5 (Zv d) S w a xs) (hl:xs.length≤100):ZY (Z07 d) xs≤100*201 ^ d:=by
 have h1:ZY (Z07 d) xs≤xs.length*201 ^ d:=Z4e fun y hy=>by obtain⟨c,hc⟩:=Z32 h hy;exact Z4I hc
 have h3:xs.length*201 ^ d≤100*201 ^ d:=Nat.mul_le_mul_right _ (by omega)
 omega
theorem Zc8 {d:Nat} (h:d≤4):100*201 ^ d≤163224080100:=by
 have h1:201 ^ d≤201 ^ 4:=Nat.pow_le_pow_right (by omega) h
 have h2:(201:Nat) ^ 4=1632240801:=by decide
 omega
theorem Z38:∀{m D:Nat} {S:Nat→Prop} {w:World} {c:List Value} {x:Zb},ZH m x=true→Zv D S w c x→Zv m S w c x
 | 0,_,_,_,_,_,h,_=>by simp [ZH] at h
 | _+1,0,_,_,_,_,_,h=>h.elim
 | m+1,D+1,S,w,c,x,h,⟨aa,ac,ba,bc,ea,ec,h1,h2,h3,h4,h5⟩=>by
  obtain⟨_,k2,k3⟩:=ZR h
  exact⟨aa,ac,ba,bc,ea,ec,h1,h2,h3,h4.rel (fun _ y hy h=>Z38 (k2 y hy) h),h5.rel (fun _ y hy h=>Z38 (k3 y hy) h)⟩
def Z8x (D:Nat):Prop:=∀(S:Nat→Prop) (a:Option Addr) (len cap:Nat) (xs:List Zb) (w:World),Za 5 (Zv D) S w a xs→xs.length=len→len≤100→
  Calls Tryz.prog 83 #[.slice a len cap] w fun e w'=>e=.returned (.int .i64 (ZY (Z07 D) xs:Nat))∧∃m,w'=w.drewN m
theorem Z6o {a b:Int} (h:a=b):Value.int .i64 a=.int .i64 b:=by rw [h]
theorem Z4s (D:Nat) (hD4:D≤4) (hD:∀D',D=D'+1→Z8x D'):Z8x D:=by
 intro S a len cap xs w h hl hlen
 have HI:=hdd (aI h (aI hl (aI hD (aI hD4 (ZaB h (by omega))))))
 obtain⟨R,hR⟩:∃R,R=ZY (Z07 D) xs:=⟨_,rfl⟩
 rw [← hR]
 have HR:=hdd hR
 have hl2:len≤9223372036854775807:=by omega
 clear h hl hD hD4 hR
 go_enter Tryz.func83,Tryz.ntmps83
 go_wp2_with fail
 go_loopg [3,4] len (fun G c i wr=>∃(j:Nat),j+G=len∧i=.int .i64 j∧c=.int .i64 ((len-j:Int)+(ZY (Z07 D) (xs.take j):Nat))∧Hid (∃m,wr=w.drewN m))
 case atStart=>exact⟨0,by omega,rfl,Z6o (by simp [ZY]),hdd ⟨0,rfl⟩⟩
 case round=>
  obtain⟨j,hj,rfl,rfl,HB⟩:=hrel
  obtain⟨m0,hm0⟩:=HB.out
  have HBB:=hdd (show Below w.heap.size w wr by rw [hm0];exact below_drewN (bRf _ _) _)
  have HM:=hdd hm0
  clear hm0 HB
  by_cases hlt:j<len
  ·have hji:(j:Int)<(len:Int):=by omega
   obtain⟨b,off,x,aa,ac,ba,bc,ea,ec,rfl,hx,hS,c0,c1,c2,c3,c4⟩:=Z1x (HI.out.1.below (Z0 D) HBB.out) (by have:=HI.out.2.1;omega:j<xs.length)
   obtain⟨D,rfl⟩:∃D',D=D'+1:=by
    cases D with
    | zero=>exact hS.elim
    | succ D=>exact⟨D,rfl⟩
   obtain⟨aa',ac',ba',bc',ea',ec',he,hb,_,hB,hE⟩:=hS
   cases he
   obtain⟨op,name,args,body,els⟩:=x
   simp only [Zb.op,Zb.name,Zb.args,Zb.body,Zb.els] at c0 c1 c2 c3 c4 hb hB hE
   have H1:=hdd (fun n=>HI.out.2.2.1 D rfl S ba body.length bc body (wr.drewN n) (hB.below (Z0 D) (below_drewN (bRf _ _) n)) rfl hb.2.2.2.2.1)
   have H2:=hdd (fun n=>HI.out.2.2.1 D rfl S ea els.length ec els (wr.drewN n) (hE.below (Z0 D) (below_drewN (bRf _ _) n)) rfl hb.2.2.2.2.2)
   have h201:=Zc8 HI.out.2.2.2.1
   have hall:=HI.out.2.2.2.2
   have htk:ZY (Z07 (D+1)) (xs.take (j+1))=ZY (Z07 (D+1)) (xs.take j)+(1+ZY (Z07 D) body+ZY (Z07 D) els):=Z3U hx
   have hle:ZY (Z07 (D+1)) (xs.take (j+1))≤ZY (Z07 (D+1)) xs:=by
    have h1:=Z2d (f:=Z07 (D+1)) (xs.take (j+1)) (xs.drop (j+1))
    rw [List.take_append_drop] at h1
    omega
   obtain⟨s1,hs1⟩:∃s1,s1=ZY (Z07 D) body:=⟨_,rfl⟩
   obtain⟨s2,hs2⟩:∃s2,s2=ZY (Z07 D) els:=⟨_,rfl⟩
   obtain⟨c,hc⟩:∃c:Int,c=(len-j:Int)+(ZY (Z07 (D+1)) (xs.take j):Nat):=⟨_,rfl⟩
   obtain⟨lb,hlb⟩:∃n,n=body.length:=⟨_,rfl⟩
   obtain⟨le,hle2⟩:∃n,n=els.length:=⟨_,rfl⟩
   rw [← hlb] at c3 H1
   rw [← hle2] at c4 H2
   rw [← hs1] at H1 htk
   rw [← hs2] at H2 htk
   rw [← hc]
   have HC:=hdd (show c+(s1:Int)+(s2:Int)=(len-(j+1:Nat):Int)+(ZY (Z07 (D+1)) (xs.take (j+1)):Nat) by omega)
   have w1:IntKind.i64.wrap (c+(s1:Int))=c+(s1:Int):=IntWalk.i64_in _ (by omega)
   have w2:IntKind.i64.wrap (c+(s1:Int)+(s2:Int))=c+(s1:Int)+(s2:Int):=IntWalk.i64_in _ (by omega)
   clear hx hB hE hb hlb hle2 h201 hall htk hle hs1 hs2 hc
   go_wp2_with fail
   go_quiet (first|with_reducible exact Calls.quiet_of (H1.out _)|with_reducible exact Calls.quiet_of (H2.out _))
   go_wp2
   go_roundg (gk-1)
   case measure=>omega
   case rel=>exact⟨j+1,by omega,by go_num,Z6o (by rw [HC.out]),hdd (by have:=HM.out;subst this;exact⟨_,World.drewN_drewN _ _ _⟩)⟩
  ·obtain rfl:j=len:=by omega
   have HF:=hdd (show((j-j:Int)+(ZY (Z07 D) (xs.take j):Nat))=(R:Int) by
    rw [HR.out,List.take_of_length_le (by have:=HI.out.2.1;omega)];omega)
   go_wp2
   go_ret
   exact⟨Z2m HF.out,_,HM.out⟩
theorem Z4C:∀D,D≤4→Z8x D
 | 0,h=>Z4s 0 h (fun _ he=>by cases he)
 | D+1,h=>Z4s (D+1) h (fun D' he=>by cases he;exact Z4C D (by omega))
theorem Zb4 (D:Nat) (S:Nat→Prop) (cs:List Value) (f:FnD) (w:World) (h:FnP D S w cs f) :
  Calls Tryz.prog 51 #[.agg cs.toArray] w fun e w'=>e=.returned (.bool (fnB f))∧Below w.heap.size w w':=by
 obtain⟨pa,pc,ba,bc,rfl,hb,hP,hB⟩:=h
 obtain⟨name,params,body⟩:=f
 simp only at hb hP hB
 obtain⟨R,hR⟩:∃R,R=fnB ⟨name,params,body⟩:=⟨_,rfl⟩
 rw [← hR]
 have HR:=hdd (show R=(Zk name&&decide (params.length≤3)&&params.all Zk&&body.all (ZH 4)) from hR)
 have hba:Below w.heap.size w (w.alloc (.cells #[.string name,.slice pa params.length pc,.slice ba body.length bc] 42)):=(bRf _ _).alloc (Nat.le_refl _) _
 have HB:=hdd (aI hba (aI (hP.below Z3 hba) (hB.below (Z0 D) hba)))
 have hrow:=hAn w (.cells #[.string name,.slice pa params.length pc,.slice ba body.length bc] 42)
 have HL:=hdd hb
 have hl2:params.length≤9223372036854775807:=by omega
 clear hR hba hP hB hb
 show Calls _ _ #[.agg #[.string name,.slice pa params.length pc,.slice ba body.length bc]] w _
 go_enter Tryz.func51,Tryz.ntmps51
 go_upto_region 1 with fail
 obtain⟨pb,hpb⟩:∃b,b=w.heap.size:=⟨_,rfl⟩
 rw [← hpb] at hrow ⊢
 generalize w.alloc (.cells #[.string name,.slice pa params.length pc,.slice ba body.length bc] 42)=W1 at hrow HB ⊢
 have HBW:=hdd (show Below w.heap.size w W1 from HB.out.1)
 clear hpb
 have p0:=coR _ _ 0 _ _ _ hrow
 have p1:=coR _ _ 1 _ _ _ hrow
 have p2:=coR _ _ 2 _ _ _ hrow
 simp only [ga0,ga1,ga2] at p0 p1 p2
 clear hrow
 go_wp2_with fail
 go_loopg [3] params.length (fun G i wr=>∃(j:Nat),j+G=params.length∧i=.int .i64 j∧Hid (Below W1.heap.size W1 wr∧(params.take j).all Zk=true))
 case atStart=>exact⟨0,by omega,rfl,hdd ⟨bRf _ _,rfl⟩⟩
 case round=>
  obtain⟨j,hj,rfl,HG⟩:=hrel
  have q0:=clT HG.out.1 p0
  have q1:=clT HG.out.1 p1
  have q2:=clT HG.out.1 p2
  clear p0 p1 p2
  by_cases hlt:j<params.length
  ·have hji:(j:Int)<(params.length:Int):=by omega
   obtain⟨b,off,x,rfl,hx,hs,c0⟩:=Z1B (HB.out.2.1.below Z3 HG.out.1) hlt
   have HC:=hdd (Z2g x hs wr)
   have HX:=hdd hx
   clear hx hs
   cases hv:Zk x with
   | false=>
    rw [hv] at HC
    have HF:=hdd (show false=R by rw [HR.out,Z49 HX.out hv];simp)
    clear hv
    go_wp2_with fail
    refine HC.out.mono ?_
    rintro e w5 ⟨rfl,hb5⟩
    have HB5:=hdd (HBW.out.trans ((HG.out.1.trans (hb5.mono HG.out.1.size)).mono HBW.out.size))
    clear hb5 c0 q0 q1 q2
    go_wp2
    go_ret
    exact⟨ZN HF.out,HB5.out⟩
   | true=>
    rw [hv] at HC
    have HT:=hdd (show(params.take (j+1)).all Zk=true by rw [Z3b HX.out,HG.out.2,hv];rfl)
    clear hv
    go_wp2_with fail
    refine HC.out.mono ?_
    rintro e w5 ⟨rfl,hb5⟩
    have HB5:=hdd (HG.out.1.trans (hb5.mono HG.out.1.size))
    clear hb5 c0 q0 q1 q2
    go_wp2
    go_roundg (gk-1)
    case measure=>omega
    case rel=>exact⟨j+1,by omega,by go_num,hdd ⟨HB5.out,HT.out⟩⟩
  ·obtain rfl:j=params.length:=by omega
   have HRR:=hdd (show R=(Zk name&&(decide (params.length≤3)&&body.all (ZH 4))) by
    have h1:=HG.out.2
    rw [List.take_length] at h1
    rw [HR.out,h1]
    cases Zk name<;>cases decide (params.length≤3)<;>rfl)
   have HN:=hdd (Z2g name HL.out.1 wr)
   have HBr:=hdd (HBW.out.trans (HG.out.1.mono HBW.out.size))
   have HBD:=hdd (HB.out.2.2.below (Z0 D) HG.out.1)
   cases hv:Zk name with
   | false=>
    rw [hv] at HN
    have HF:=hdd (show false=R by rw [HRR.out,hv];rfl)
    clear hv
    go_wp2_with fail
    refine HN.out.mono ?_
    rintro e w5 ⟨rfl,hb5⟩
    have HB5:=hdd (HBr.out.trans (hb5.mono HBr.out.size))
    clear hb5 q0 q1 q2
    go_wp2
    go_ret
    exact⟨ZN HF.out,HB5.out⟩
   | true=>
    rw [hv] at HN
    by_cases h3:params.length≤3
    ·have h3i:(params.length:Int)≤3:=by omega
     have HF:=hdd (show body.all (ZH 4)=R by rw [HRR.out,hv,decide_eq_true h3];rfl)
     clear hv
     go_wp2_with fail
     refine HN.out.mono ?_
     rintro e w5 ⟨rfl,hb5⟩
     have k1:=clT hb5 q1
     have k2:=clT hb5 q2
     have HB5:=hdd (HBr.out.trans (hb5.mono HBr.out.size))
     have HS:=hdd (Z3r D (Z66 D) 4 S ba body.length bc body w5 (by omega) (HBD.out.below (Z0 D) hb5) rfl (by have:=HL.out;omega))
     rw [HF.out] at HS
     clear hb5 q0 q1 q2
     go_wp2_with fail
     refine HS.out.mono ?_
     rintro e w6 ⟨rfl,hb6⟩
     have HB6:=hdd (HB5.out.trans (hb6.mono HB5.out.size))
     clear hb6 k1 k2
     go_wp2
     go_ret
     exact⟨rfl,HB6.out⟩
    ·have h3i:¬(params.length:Int)≤3:=by omega
     have HF:=hdd (show false=R by rw [HRR.out,hv,decide_eq_false h3];rfl)
     clear hv
     go_wp2_with fail
     refine HN.out.mono ?_
     rintro e w5 ⟨rfl,hb5⟩
     have k1:=clT hb5 q1
     have HB5:=hdd (HBr.out.trans (hb5.mono HBr.out.size))
     clear hb5 q0 q1 q2
     go_wp2
     go_ret
     exact⟨ZN HF.out,HB5.out⟩
theorem Zcy {D:Nat} {S:Nat→Prop} {w:World} {c:List Value} {f:FnD} (hf:fnB f=true) (h:FnP D S w c f):FnP 4 S w c f:=by
 obtain⟨pa,pc,ba,bc,h1,h2,h3,h4⟩:=h
 simp only [fnB,Bool.and_eq_true,List.all_eq_true] at hf
 exact⟨pa,pc,ba,bc,h1,h2,h3,h4.rel (fun _ y hy h=>Z38 (hf.2 y hy) h)⟩
theorem Z73 {D:Nat} {S:Nat→Prop} {w:World} {a:Option Addr} {p:List FnD} (hf:p.all fnB=true) (h:Za 3 (FnP D) S w a p):Za 3 (FnP 4) S w a p:=
 h.rel (fun _ y hy h=>Zcy (List.all_eq_true.1 hf y hy) h)
theorem Z5J {S:Nat→Prop} {w:World} {a:Option Addr} {p:List FnD} (h:Za 3 (FnP 4) S w a p) (hl:p.length≤100) (j:Nat):ZY (fun f=>ZY (Z07 4) f.body) (p.take j)≤100*163224080100:=by
 have h1:ZY (fun f:FnD=>ZY (Z07 4) f.body) p≤p.length*163224080100:=Z4e fun f hf=>by
  obtain⟨c,pa,pc,ba,bc,_,h2,_,h4⟩:=Z32 h hf
  exact Nat.le_trans (ZaB h4 h2.2.2) (Zc8 (Nat.le_refl 4))
 have h2:=Z2d (f:=fun f:FnD=>ZY (Z07 4) f.body) (p.take j) (p.drop j)
 rw [List.take_append_drop] at h2
 have h3:p.length*163224080100≤100*163224080100:=Nat.mul_le_mul_right _ hl
 omega
theorem Zae (S:Nat→Prop) (a:Option Addr) (c:Nat) (p:List FnD) (w:World) (h:Za 3 (FnP 4) S w a p) (hl:p.length≤100) :
  Calls Tryz.prog 52 #[.agg #[.slice a p.length c]] w fun e w'=>e=.returned (.int .i64 (Z7M p:Nat))∧Below w.heap.size w w':=by
 obtain⟨R,hR⟩:∃R,R=Z7M p:=⟨_,rfl⟩
 rw [← hR]
 have hba:Below w.heap.size w (w.alloc (.cells #[.slice a p.length c] 25)):=(bRf _ _).alloc (Nat.le_refl _) _
 have HB:=hdd (aI hba (aI (h.below (Z2 4) hba) (aI (Z5J h hl) hR)))
 have hrow:=hAn w (.cells #[.slice a p.length c] 25)
 have hl2:p.length≤9223372036854775807:=by omega
 clear hba h hR
 go_enter Tryz.func52,Tryz.ntmps52
 go_upto_region 1 with fail
 obtain⟨pb,hpb⟩:∃b,b=w.heap.size:=⟨_,rfl⟩
 rw [← hpb] at hrow ⊢
 generalize w.alloc (.cells #[.slice a p.length c] 25)=W1 at hrow HB ⊢
 have HBW:=hdd (show Below w.heap.size w W1 from HB.out.1)
 clear hpb
 have p0:=coR _ _ 0 _ _ _ hrow
 simp only [ga0,ga1] at p0
 clear hrow
 go_wp2_with fail
 go_loopg [3,4] p.length (fun G n i wr=>∃(j:Nat),j+G=p.length∧i=.int .i64 j∧n=.int .i64 (ZY (fun f=>ZY (Z07 4) f.body) (p.take j):Nat)∧Hid (Below W1.heap.size W1 wr))
 case atStart=>exact⟨0,by omega,rfl,Z6o (by simp [ZY]),hdd (bRf _ _)⟩
 case round=>
  obtain⟨j,hj,rfl,rfl,HG⟩:=hrel
  have q0:=clT HG.out p0
  clear p0
  by_cases hlt:j<p.length
  ·have hji:(j:Int)<(p.length:Int):=by omega
   obtain⟨b,off,x,pa,pc,ba,bc,rfl,hx,hF,c0,c1,c2⟩:=Z1q (HB.out.2.1.below (Z2 4) HG.out) hlt
   obtain⟨pa',pc',ba',bc',he,hb,_,hBd⟩:=hF
   cases he
   have HC:=hdd (Z4C 4 (Nat.le_refl 4) S ba x.body.length bc x.body wr hBd rfl hb.2.2)
   have hs1:ZY (fun f=>ZY (Z07 4) f.body) (p.take (j+1))=ZY (fun f=>ZY (Z07 4) f.body) (p.take j)+ZY (Z07 4) x.body:=Z3U (f:=fun f:FnD=>ZY (Z07 4) f.body) hx
   have hbd:=HB.out.2.2.1 (j+1)
   obtain⟨s,hs⟩:∃s,s=ZY (Z07 4) x.body:=⟨_,rfl⟩
   obtain⟨t,ht⟩:∃t,t=ZY (fun f:FnD=>ZY (Z07 4) f.body) (p.take j):=⟨_,rfl⟩
   rw [← hs] at HC hs1
   rw [← ht] at hs1
   have hw:wrap64 ((t:Int)+(s:Int))=(t:Int)+(s:Int):=IntWalk.wrap64_in _ (by omega)
   have HT:=hdd (show(t:Int)+(s:Int)=(ZY (fun f:FnD=>ZY (Z07 4) f.body) (p.take (j+1)):Nat) by omega)
   rw [← ht]
   clear hx hb hBd hs1 hbd hs ht
   go_wp2_with fail
   refine HC.out.mono ?_
   rintro e w5 ⟨rfl,hm5⟩
   have HB5:=hdd (HG.out.trans (show Below W1.heap.size wr w5 by obtain⟨m,rfl⟩:=hm5;exact below_drewN (bRf _ _) m))
   clear hm5 c0 c1 c2 q0
   go_wp2
   go_roundg (gk-1)
   case measure=>omega
   case rel=>exact⟨j+1,by omega,by go_num,Z6o (hw.trans HT.out),HB5⟩
  ·obtain rfl:j=p.length:=by omega
   have HF:=hdd (show((ZY (fun f=>ZY (Z07 4) f.body) (p.take p.length):Nat):Int)=(R:Int) by
    rw [List.take_length,HB.out.2.2.2];rfl)
   go_wp2
   go_ret
   exact⟨Z2m HF.out,HBW.out.trans (HG.out.mono HBW.out.size)⟩
theorem Z2q (D:Nat) (S:Nat→Prop) (a:Option Addr) (c:Nat) (p:List FnD) (w:World) (h:Za 3 (FnP D) S w a p) (hl:p.length≤100) :
  Calls Tryz.prog 28 #[.agg #[.slice a p.length c]] w fun e w'=>e=.returned (.bool (Z0C p))∧Below w.heap.size w w':=by
 obtain⟨R,hR⟩:∃R,R=Z0C p:=⟨_,rfl⟩
 rw [← hR]
 have HR:=hdd (show R=(decide (1≤p.length∧p.length≤4)&&p.all fnB&&decide (Z7M p≤40)) from hR)
 have hba:Below w.heap.size w (w.alloc (.cells #[.slice a p.length c] 25)):=(bRf _ _).alloc (Nat.le_refl _) _
 have HB:=hdd (aI hba (aI (h.below (Z2 D) hba) hl))
 have hrow:=hAn w (.cells #[.slice a p.length c] 25)
 have hl2:p.length≤9223372036854775807:=by omega
 clear hba h hR
 go_enter Tryz.func28,Tryz.ntmps28
 go_upto_region 1 with fail
 obtain⟨pb,hpb⟩:∃b,b=w.heap.size:=⟨_,rfl⟩
 rw [← hpb] at hrow ⊢
 generalize w.alloc (.cells #[.slice a p.length c] 25)=W1 at hrow HB ⊢
 have HBW:=hdd (show Below w.heap.size w W1 from HB.out.1)
 clear hpb
 have p0:=coR _ _ 0 _ _ _ hrow
 simp only [ga0,ga1] at p0
 clear hrow
 by_cases hin:1≤p.length∧p.length≤4
 ·have HIN:=hdd (show inE 1 (p.length:Int) 4=true by simp [inE];omega)
  have HIP:=hdd hin
  clear hin
  go_wp2_with fail
  refine(Z0m HIN.out _).mono ?_
  rintro e w2 ⟨rfl,rfl⟩
  go_wp2_with fail
  go_loopg [3] p.length (fun G i wr=>∃(j:Nat),j+G=p.length∧i=.int .i64 j∧Hid (Below w2.heap.size w2 wr∧(p.take j).all fnB=true))
  case atStart=>exact⟨0,by omega,rfl,hdd ⟨bRf _ _,rfl⟩⟩
  case round=>
   obtain⟨j,hj,rfl,HG⟩:=hrel
   have q0:=clT HG.out.1 p0
   clear p0
   by_cases hlt:j<p.length
   ·have hji:(j:Int)<(p.length:Int):=by omega
    obtain⟨b,off,x,pa,pc,ba,bc,rfl,hx,hF,c0,c1,c2⟩:=Z1q (HB.out.2.1.below (Z2 D) HG.out.1) hlt
    have HC:=hdd (Zb4 D S _ x wr hF)
    have HX:=hdd hx
    clear hx hF
    cases hv:fnB x with
    | false=>
     rw [hv] at HC
     have HF:=hdd (show false=R by rw [HR.out,Z49 HX.out hv];simp)
     clear hv
     go_wp2_with fail
     refine HC.out.mono ?_
     rintro e w5 ⟨rfl,hb5⟩
     have HB5:=hdd (HBW.out.trans ((HG.out.1.trans (hb5.mono HG.out.1.size)).mono HBW.out.size))
     clear hb5 c0 c1 c2 q0
     go_wp2
     go_ret
     exact⟨ZN HF.out,HB5.out⟩
    | true=>
     rw [hv] at HC
     have HT:=hdd (show(p.take (j+1)).all fnB=true by rw [Z3b HX.out,HG.out.2,hv];rfl)
     clear hv
     go_wp2_with fail
     refine HC.out.mono ?_
     rintro e w5 ⟨rfl,hb5⟩
     have HB5:=hdd (HG.out.1.trans (hb5.mono HG.out.1.size))
     clear hb5 c0 c1 c2 q0
     go_wp2
     go_roundg (gk-1)
     case measure=>omega
     case rel=>exact⟨j+1,by omega,by go_num,hdd ⟨HB5.out,HT.out⟩⟩
   ·obtain rfl:j=p.length:=by omega
    have HALL:=hdd (show p.all fnB=true by have h1:=HG.out.2;rw [List.take_length] at h1;exact h1)
    have HP4:=hdd (Z73 HALL.out (HB.out.2.1.below (Z2 D) HG.out.1))
    have HC:=hdd (Zae S a c p wr HP4.out HB.out.2.2)
    have HBr:=hdd (HBW.out.trans (HG.out.1.mono HBW.out.size))
    obtain⟨n,hn⟩:∃n,n=Z7M p:=⟨_,rfl⟩
    rw [← hn] at HC
    by_cases h40:n≤40
    ·have h40i:(n:Int)≤40:=by omega
     have HF:=hdd (show true=R by rw [HR.out,HALL.out,decide_eq_true HIP.out,← hn,decide_eq_true h40];rfl)
     clear hn
     go_wp2_with fail
     refine HC.out.mono ?_
     rintro e w5 ⟨rfl,hb5⟩
     have HB5:=hdd (HBr.out.trans (hb5.mono HBr.out.size))
     clear hb5 q0
     go_wp2
     go_ret
     exact⟨ZN HF.out,HB5.out⟩
    ·have h40i:¬(n:Int)≤40:=by omega
     have HF:=hdd (show decide ((n:Int)≤40)=R by rw [HR.out,HALL.out,decide_eq_true HIP.out,← hn,decide_eq_false h40,decide_eq_false h40i];rfl)
     clear hn
     go_wp2_with fail
     refine HC.out.mono ?_
     rintro e w5 ⟨rfl,hb5⟩
     have HB5:=hdd (HBr.out.trans (hb5.mono HBr.out.size))
     clear hb5 q0
     go_wp2
     go_ret
     exact⟨ZN HF.out,HB5.out⟩
 ·have HIN:=hdd (show inE 1 (p.length:Int) 4=false by rw [inE,Bool.and_eq_false_iff,decide_eq_false_iff_not,decide_eq_false_iff_not];omega)
  have HF:=hdd (show false=R by rw [HR.out,decide_eq_false hin];rfl)
  clear hin
  go_wp2_with fail
  refine(Z0m HIN.out _).mono ?_
  rintro e w2 ⟨rfl,rfl⟩
  clear p0
  go_wp2
  go_ret
  exact⟨ZN HF.out,HBW.out⟩
theorem Z1N.later {w w':World} {a:Option Addr} {len:Nat} {bs:List Int} (h:Z1N w a len bs) (hb:Below w.heap.size w w'):Z1N w' a len bs:=⟨h.length,h.row.later hb,h.byte⟩
section
variable {W0 wr w':World} {br:Nat} {a:Option Addr} {len cap:Nat} {bs:List Int} {nb p q:Nat} {ia:Option Addr} {k ic:Nat} {is:List Int}
variable {rb eb:Nat} {cs:List Value} {x:Z6}
end
end Go.Proofs.YtloooebabieeeaaGreatDoor
