
/-
  A program of one function that gives an expression's value: the program's RunProgram gives it as its outcome.
-/
import Derived.Test.YtccfbnhlhjlmgaaDoorEr1
import Derived.Test.YtccfbnhlhjlmgaaDoorIntClone
import Derived.Deep.RegionHeld3
namespace Go.Proofs.YtccfbnhlhjlmgaaDoor
open Go.RowKit
set_option linter.unusedVariables false

theorem results_cellR {P : Program} {fn : Func} {p u : Tmp} {ty : TypeId} (h : fn.results = #[.cell p ty, .tmp u]) (tmps : Array Value) (w : World) (g : Nat) (t : TypeId) (cs : Array Value) (fr : Nat × Nat) (d : TypeDesc)
    (hp : tmps.getD p undef = .pointer (some ⟨g, 0, none⟩)) (hg : w.heap[g]? = some (.cells cs t fr))
    (hu : P.underlying ty = some d) (hd : (match d with | .struct _ | .array _ _ => true | _ => false) = true) (hi : (P.info? ty).map (·.size) = some cs.size) :
    (results fn tmps).run P w = .ok (.tuple #[.agg cs, tmps.getD u undef]) w := by
  rw [results_cell_tmp h, hp]
  simp [asAddr, run_loadVar_row w g t ty cs fr d hg hu hd hi]

theorem setCells4R (w : World) (g : Nat) (v0 v1 v2 v3 : Value) : w.setCells g 0 [v0, v1, v2, v3] = (((w.setCell ⟨g, 0, none⟩ v0).setCell ⟨g, 1, none⟩ v1).setCell ⟨g, 2, none⟩ v2).setCell ⟨g, 3, none⟩ v3 := rfl
/-- An outcome's cells. -/
def oCells (n v : Int) : Array Value := #[.slice none 0 0, .int .i64 n, .int .i64 v, .slice none 0 0]
/-- What the run gives: its value, its end. -/
def outP (V : Option Int) : Int × Int := match V with
  | some v => (v, 0)
  | none => (0, 1)
/-- Where the run and its program, input and outcome lie. -/
structure RunSt (ns : List ByteArray) (x : ExprD) (D mb mpb pb ib ob : Nat) (fa : Option Addr) (fc : Nat) (vs : List Int) (va : Option Addr) (vc : Nat) (w : World) : Prop where
  m : w.heap[mb]? = some (.cells (mCells fa fc 0) 95 (0, 0))
  mp : w.cell? ⟨mpb, 0, none⟩ = some (.pointer (some ⟨mb, 0, none⟩))
  p : w.cell? ⟨pb, 0, none⟩ = some (.slice fa 1 fc)
  i : w.cell? ⟨ib, 0, none⟩ = some (.slice va ns.length vc)
  o : w.heap[ob]? = some (.cells (oCells 0 0) 72 (0, 0))
  ne : mb ≠ ob
  list : ListK 3 (FnP (D + 1)) (fun k => k ≠ mb) w fa [retF ns x]
  ints : IntsRd w va ns.length vs
theorem RunSt.later {ns : List ByteArray} {x : ExprD} {D mb mpb pb ib ob : Nat} {fa : Option Addr} {fc : Nat} {vs : List Int} {va : Option Addr} {vc : Nat} {w w' : World} (h : RunSt ns x D mb mpb pb ib ob fa fc vs va vc w) (hb : Below w.heap.size w w') : RunSt ns x D mb mpb pb ib ob fa fc vs va vc w' :=
  ⟨(hb.block _ (Array.getElem?_eq_some_iff.1 h.m).1).trans h.m, cell_later hb h.mp, cell_later hb h.p, cell_later hb h.i, (hb.block _ (Array.getElem?_eq_some_iff.1 h.o).1).trans h.o, h.ne, h.list.below (fnP_stays (D + 1)) hb, h.ints.later hb⟩
/-- What is fixed of it. -/
structure RunFx (ns : List ByteArray) (x : ExprD) (vs : List Int) : Prop where
  short : ns.length ≤ 3
  names : ∀ s ∈ ns, nameD s = true
  sizes : ∀ s ∈ ns, s.size ≤ maxLen
  apart : ∀ j s, ns[j]? = some s → s ∉ ns.take j
  bytes : bytesB vs = true
  valid : sizeD nameD 6 x ≠ none
  fits : anyE (badP ns) 12 x = false
section
variable {ns : List ByteArray} {x : ExprD} {D mb mpb pb ib ob : Nat} {fa : Option Addr} {fc : Nat} {vs : List Int} {va : Option Addr} {vc : Nat}
set_option maxRecDepth 100000 in
set_option maxHeartbeats 2000000 in
theorem runM1_any (w : World) (hF : RunFx ns x vs) (h : RunSt ns x D mb mpb pb ib ob fa fc vs va vc w) :
    Calls Tryd.prog 141 #[.pointer (some ⟨mpb, 0, none⟩), .pointer (some ⟨pb, 0, none⟩), .pointer (some ⟨ib, 0, none⟩), .pointer (some ⟨ob, 0, none⟩)] w fun e w' =>
      (w'.heap[mb]? = some (.cells (mCells fa fc 1) 95 (0, 0)) ∧ Turned (fun k => k = mb ∨ k = ob) w w' ∧ w'.heap[ob]? = some (.cells (oCells 0 (outP (evalV (valV ns vs) 12 x)).1) 72 (0, 0))) ∧
      ((evalV (valV ns vs) 12 x = none ∧ e = divPanic) ∨ (∃ v, evalV (valV ns vs) 12 x = some v ∧ e = .returned (.tuple #[]))) := by
  have mp := h.mp
  have p0 := h.p
  have i0 := h.i
  have HC := Lib.hid (callR_any (m := 6) mb fa fc vs va vc w h.list hF.sizes hF.short hF.apart hF.bytes h.ints hF.valid hF.fits h.m)
  have HS := Lib.hid h
  clear h hF
  go_enter Tryd.func141, Tryd.ntmps141
  go_wp2_with fail
  refine HC.out.mono ?_
  rintro e w2 ⟨⟨hm2, ht2⟩, he⟩
  have holt := (Array.getElem?_eq_some_iff.1 HS.out.o).1
  have ho2 := (ht2.block ob holt (fun e => HS.out.ne e.symm)).trans HS.out.o
  have H2 := Lib.hid (And.intro hm2 (And.intro ht2 ho2))
  clear hm2 ht2 mp p0 i0
  obtain ⟨V, hV⟩ : ∃ V, V = evalV (valV ns vs) 12 x := ⟨_, rfl⟩
  rw [← hV] at he
  have HV := Lib.hid hV
  clear hV holt
  cases V with
  | none =>
    obtain rfl : e = divPanic := he
    clear ho2
    exact ⟨rfl, ⟨H2.out.1, H2.out.2.1.mono (fun k hk => .inl hk), by rw [← HV.out]; exact H2.out.2.2⟩, .inl ⟨HV.out.symm, rfl⟩⟩
  | some v =>
    obtain rfl : e = .returned (.int .i64 v) := he
    have o2 := cell_of_row _ _ 2 _ _ _ ho2
    have z2 := frozen_of_row _ _ 2 _ _ ho2
    simp only [oCells, List.getElem?_toArray, List.getElem?_cons_zero, List.getElem?_cons_succ] at o2
    clear ho2
    have HE := Lib.hid (show (w2.setCell ⟨ob, 2, none⟩ (.int .i64 v)).heap[mb]? = some (.cells (mCells fa fc 1) 95 (0, 0)) ∧ Turned (fun k => k = mb ∨ k = ob) w (w2.setCell ⟨ob, 2, none⟩ (.int .i64 v)) ∧ (w2.setCell ⟨ob, 2, none⟩ (.int .i64 v)).heap[ob]? = some (.cells (oCells 0 v) 72 (0, 0)) from by
      have ht := turned_store w2 ob 2 (.int .i64 v)
      refine ⟨(ht.block mb (Array.getElem?_eq_some_iff.1 H2.out.1).1 HS.out.ne).trans H2.out.1, (H2.out.2.1.mono (fun k hk => .inl hk)).trans (ht.mono (fun k hk => .inr hk)), ?_⟩
      rw [heap_setCell_same w2 ob 2 _ _ _ H2.out.2.2]
      rfl)
    go_wp2
    go_end0
    exact ⟨⟨HE.out.1, HE.out.2.1, by rw [← HV.out]; exact HE.out.2.2⟩, .inr ⟨v, HV.out.symm, rfl⟩⟩

set_option maxRecDepth 100000 in
set_option maxHeartbeats 2000000 in
/-- The run is caught. -/
theorem caughtR_any (w : World) (hF : RunFx ns x vs) (h : RunSt ns x D mb mpb pb ib ob fa fc vs va vc w) :
    Calls Tryd.prog 67 #[.func (.func 141) #[] #[.pointer (some ⟨mpb, 0, none⟩), .pointer (some ⟨pb, 0, none⟩), .pointer (some ⟨ib, 0, none⟩), .pointer (some ⟨ob, 0, none⟩)]] w fun e w' =>
      e = .returned (.int .i64 (outP (evalV (valV ns vs) 12 x)).2) ∧ w'.heap[mb]? = some (.cells (mCells fa fc 1) 95 (0, 0)) ∧ Turned (fun k => k = mb ∨ k = ob) w w' ∧ w'.heap[ob]? = some (.cells (oCells 0 (outP (evalV (valV ns vs) 12 x)).1) 72 (0, 0)) := by
  have hmf : ∀ (fn : Fn) (first cap : Array Value) (w : World), (Instr.makeFunc fn first cap).run Tryd.prog w = .ok (.func fn first cap) w := fun _ _ _ _ => rfl
  have hen : ∀ W, (callFunc 141 #[.pointer (some ⟨mpb, 0, none⟩), .pointer (some ⟨pb, 0, none⟩), .pointer (some ⟨ib, 0, none⟩), .pointer (some ⟨ob, 0, none⟩)]).run Tryd.prog W = .ok (.enter 141 #[.pointer (some ⟨mpb, 0, none⟩), .pointer (some ⟨pb, 0, none⟩), .pointer (some ⟨ib, 0, none⟩), .pointer (some ⟨ob, 0, none⟩)]) W := fun W => by kernel_rfl
  have hba : Below w.heap.size w (w.alloc (.cells #[.int .i64 0] 3)) := (Below.refl _ _).alloc (Nat.le_refl _) _
  have hrow := heap_alloc_new w (.cells #[.int .i64 0] 3)
  have hmlt := (Array.getElem?_eq_some_iff.1 h.m).1
  have holt := (Array.getElem?_eq_some_iff.1 h.o).1
  have HR := Lib.hid (runM1_any _ hF (h.later hba))
  have HB := Lib.hid (And.intro hba (And.intro hrow (And.intro hmlt holt)))
  clear hba hrow hmlt holt h hF
  go_enter_defers Tryd.func67, Tryd.ntmps67
  go_wp2_with fail
  obtain ⟨q, hq⟩ : ∃ q, q = w.heap.size := ⟨_, rfl⟩
  generalize w.alloc (.cells #[.int .i64 0] 3) = W1 at HR HB ⊢
  have HQ := Lib.hid hq
  have HBW := Lib.hid (show Below w.heap.size w W1 ∧ W1.heap[q]? = some (.cells #[.int .i64 0] 3 (0, 0)) ∧ mb < w.heap.size ∧ ob < w.heap.size from by rw [hq]; exact HB.out)
  rw [← hq]
  clear HB hq
  refine HR.out.mono ?_
  rintro e w2 ⟨⟨hm2, ht2, ho2⟩, hr⟩
  have HE := Lib.hid (fun (n : Int) => show (w2.setCell ⟨q, 0, none⟩ (.int .i64 n)).heap[mb]? = some (.cells (mCells fa fc 1) 95 (0, 0)) ∧ Turned (fun k => k = mb ∨ k = ob) w (w2.setCell ⟨q, 0, none⟩ (.int .i64 n)) ∧ (w2.setCell ⟨q, 0, none⟩ (.int .i64 n)).heap[ob]? = some (.cells (oCells 0 (outP (evalV (valV ns vs) 12 x)).1) 72 (0, 0)) from by
    have hts := turned_store w2 q 0 (.int .i64 n)
    have hmq : ¬ mb = q := by have := HBW.out; have := HQ.out; omega
    have hoq : ¬ ob = q := by have := HBW.out; have := HQ.out; omega
    have h1 := turned_of_below (S := fun k => k = mb ∨ k = ob) HBW.out.1 (fun k h1 h2 => by omega)
    have h2 := h1.trans ht2
    exact ⟨(hts.block mb (Array.getElem?_eq_some_iff.1 hm2).1 hmq).trans hm2, ⟨hts.os.trans h2.os, hts.tape.trans h2.tape, hts.output.trans h2.output, Nat.le_trans h2.size hts.size, fun k hk hs => (hts.block k (Nat.lt_of_lt_of_le hk h2.size) (by have := HQ.out; omega)).trans (h2.block k hk hs)⟩, (hts.block ob (Array.getElem?_eq_some_iff.1 ho2).1 hoq).trans ho2⟩)
  have hrow2 := (ht2.block q (Array.getElem?_eq_some_iff.1 HBW.out.2.1).1 (by have := HBW.out; have := HQ.out; omega)).trans HBW.out.2.1
  clear hm2 ho2 ht2
  rcases hr with ⟨hev, rfl⟩ | ⟨v, hev, rfl⟩
  · have HO := Lib.hid (show (outP (evalV (valV ns vs) 12 x)).2 = 1 by rw [hev]; rfl)
    have k0 := cell_of_row _ _ 0 _ _ _ hrow2
    have z0 := frozen_of_row _ _ 0 _ _ hrow2
    simp only [List.getElem?_toArray, List.getElem?_cons_zero] at k0
    clear hev
    show bodyPostD _ _ _ (Exit.panic _) _ _
    refine leaves_cons (f := 112) (args := #[.pointer (some ⟨q, 0, none⟩)]) (by simp) (by simp [go_sem]) ?_
    refine (catch_panicking q 0 [] w2 k0 z0).mono ?_
    rintro e u' w'' ⟨rfl, rfl, rfl⟩
    simp [Leaves, settle, results, Tryd.results67, go_sem]
    have hr3 := heap_setCell_same w2 q 0 _ _ (.int .i64 1) hrow2
    have kq := cell_of_row _ _ 0 _ _ _ hr3
    exact ⟨.int .i64 1, by rw [kq]; rfl, by rw [HO.out], HE.out 1⟩
  · have HO := Lib.hid (show (outP (evalV (valV ns vs) 12 x)).2 = 0 by rw [hev]; rfl)
    have k0 := cell_of_row _ _ 0 _ _ _ hrow2
    have z0 := frozen_of_row _ _ 0 _ _ hrow2
    simp only [List.getElem?_toArray, List.getElem?_cons_zero] at k0
    clear hev
    go_wp2
    refine leaves_cons (f := 112) (args := #[.pointer (some ⟨q, 0, none⟩)]) (by simp) (by simp [go_sem]) ?_
    refine (catch_idle q _).mono ?_
    rintro e u' w'' ⟨rfl, rfl, rfl⟩
    simp [Leaves, settle, results, Tryd.results67, go_sem]
    have hr3 := heap_setCell_same w2 q 0 _ _ (.int .i64 0) hrow2
    have kq := cell_of_row _ _ 0 _ _ _ hr3
    exact ⟨.int .i64 0, by rw [kq]; rfl, by rw [HO.out], HE.out 0⟩

set_option maxRecDepth 100000 in
theorem fineR_any (S : Nat → Prop) (w : World) (hF : RunFx ns x vs) (hO : OpsAt w) (hK : KeysAt w) (h : ListK 3 (FnP (D + 1)) S w fa [retF ns x]) :
    Calls Tryd.prog 140 #[.agg #[.slice fa 1 fc]] w fun e w' => e = .returned (.bool true) ∧ Below w.heap.size w w' := by
  have hba : Below w.heap.size w (w.alloc (.cells #[.slice fa 1 fc] 34)) := (Below.refl _ _).alloc (Nat.le_refl _) _
  have p0 := cell_of_row _ _ 0 _ _ _ (heap_alloc_new w (.cells #[.slice fa 1 fc] 34))
  simp only [List.getElem?_toArray, List.getElem?_cons_zero] at p0
  have HC := Lib.hid (checkProgram_any ns x D S fa fc _ (hO.later hba) (hK.later hba) (h.below (fnP_stays (D + 1)) hba) hF.short hF.names hF.sizes hF.apart hF.valid hF.fits)
  have HB := Lib.hid hba
  clear h hF hba hO hK
  go_enter Tryd.func140, Tryd.ntmps140
  go_wp2_with fail
  refine HC.out.mono ?_
  rintro e w2 ⟨rfl, hb2⟩
  have HE := Lib.hid (HB.out.trans (hb2.mono HB.out.size))
  clear hb2 p0
  go_wp2
  go_ret
  exact ⟨rfl, HE.out⟩
set_option maxRecDepth 100000 in
set_option maxHeartbeats 2000000 in
theorem canRunR_any (S : Nat → Prop) (w : World) (hF : RunFx ns x vs) (hO : OpsAt w) (hK : KeysAt w) (h : ListK 3 (FnP (D + 1)) S w fa [retF ns x]) (hvs : IntsRd w va ns.length vs) :
    Calls Tryd.prog 103 #[.agg #[.slice fa 1 fc], .slice va ns.length vc] w fun e w' => e = .returned (.bool true) ∧ Below w.heap.size w w' := by
  obtain ⟨b, off, f, pa, pc, ba, bc, rfl, hx, -, -, c1, -⟩ := fn_place h (show 0 < [retF ns x].length by simp)
  obtain rfl : f = retF ns x := by simpa using hx.symm
  simp only [Nat.zero_mul, Nat.add_zero] at c1
  change w.cell? _ = some (.slice pa ns.length pc) at c1
  have hba : Below w.heap.size w (w.alloc (.cells #[.slice (some ⟨b, off, none⟩) 1 fc] 34)) := (Below.refl _ _).alloc (Nat.le_refl _) _
  have p0 := cell_of_row _ _ 0 _ _ _ (heap_alloc_new w (.cells #[.slice (some ⟨b, off, none⟩) 1 fc] 34))
  simp only [List.getElem?_toArray, List.getElem?_cons_zero] at p0
  have HC := Lib.hid (fineR_any (fc := fc) S _ hF (hO.later hba) (hK.later hba) (h.below (fnP_stays (D + 1)) hba))
  have HB := Lib.hid hba
  have HI := Lib.hid (And.intro hvs (And.intro c1 hF))
  clear h hba hO hK hvs c1 hx hF
  go_enter Tryd.func103, Tryd.ntmps103
  go_wp2_with fail
  refine HC.out.mono ?_
  rintro e w2 ⟨rfl, hb2⟩
  have H2 := Lib.hid (HB.out.trans (hb2.mono HB.out.size))
  have p1 := cell_later hb2 p0
  have c1 := cell_later H2.out HI.out.2.1
  have HY := Lib.hid (show Calls Tryd.prog 63 #[.slice va ns.length vc, .int .i64 (ns.length : Int)] w2 fun e w' => e = .returned (.bool true) ∧ Below w2.heap.size w2 w' from by
    have h1 := bytesOk_any va ns.length vc vs ns.length w2 (HI.out.1.later H2.out) (by have := HI.out.2.2.short; omega)
    rw [decide_eq_true rfl, HI.out.2.2.bytes] at h1
    exact h1)
  clear hb2 p0 HC
  go_wp2_with fail
  refine HY.out.mono ?_
  rintro e w3 ⟨rfl, hb3⟩
  have HE := Lib.hid (H2.out.trans (hb3.mono H2.out.size))
  clear hb3 p1 c1
  go_wp2
  go_ret
  exact ⟨rfl, HE.out⟩

theorem alloc3_blocks (w : World) (P Q R : Obj) : (((w.alloc P).alloc Q).alloc R).heap[w.heap.size]? = some P ∧ (((w.alloc P).alloc Q).alloc R).heap[w.heap.size + 1]? = some Q ∧ (((w.alloc P).alloc Q).alloc R).heap[w.heap.size + 2]? = some R ∧ Below w.heap.size w (((w.alloc P).alloc Q).alloc R) ∧ (((w.alloc P).alloc Q).alloc R).heap.size = w.heap.size + 3 := by
  have hb : Below ((w.alloc P).alloc Q).heap.size ((w.alloc P).alloc Q) (((w.alloc P).alloc Q).alloc R) := (Below.refl _ _).alloc (Nat.le_refl _) _
  have hr := heap_alloc_new ((w.alloc P).alloc Q) R
  rw [World.size_alloc, World.size_alloc] at hr
  exact ⟨(hb.block _ (by simp; omega)).trans (heap_alloc2_old w P Q), (hb.block _ (by simp)).trans (heap_alloc2_new w P Q), hr, ((((Below.refl _ _).alloc (Nat.le_refl _) _).alloc (by simp) _).alloc (by simp; omega) _), by simp⟩
/-- Behind the run. -/
structure RunM (w : World) (mb n : Nat) (fa : Option Addr) (fc : Nat) (en v : Int) (W : World) : Prop where
  m : W.heap[mb]? = some (.cells (mCells fa fc 1) 95 (0, 0))
  p : W.heap[mb + 1]? = some (.cells #[.pointer (some ⟨mb, 0, none⟩)] 92 (0, 0))
  o : W.heap[mb + 1 + 1]? = some (.cells #[.slice none 0 0, .int .i64 en, .int .i64 v, .slice none 0 0] 72 (0, 0))
  r : W.heap[n + 1 + 1]? = some (.cells #[.slice none 0 0, .int .i64 0, .int .i64 0, .slice none 0 0] 72 (0, 0))
  b : Below w.heap.size w W
  lt : w.heap.size = n ∧ mb = n + 3
section
variable {w W W' : World} {n : Nat} {en v : Int}
theorem RunM.later (h : RunM w mb n fa fc en v W) (hb : Below W.heap.size W W') : RunM w mb n fa fc en v W' :=
  ⟨(hb.block _ (Array.getElem?_eq_some_iff.1 h.m).1).trans h.m, (hb.block _ (Array.getElem?_eq_some_iff.1 h.p).1).trans h.p, (hb.block _ (Array.getElem?_eq_some_iff.1 h.o).1).trans h.o, (hb.block _ (Array.getElem?_eq_some_iff.1 h.r).1).trans h.r, h.b.trans (hb.mono h.b.size), h.lt⟩
theorem RunM.put (h : RunM w mb n fa fc en v W) : RunM w mb n fa fc en v (W.setCell ⟨mb + 1 + 1, 0, none⟩ (.slice none 0 0)) := by
  have ht := turned_store W (mb + 1 + 1) 0 (.slice none 0 0)
  have hl := h.lt
  exact ⟨(ht.block _ (Array.getElem?_eq_some_iff.1 h.m).1 (by omega)).trans h.m, (ht.block _ (Array.getElem?_eq_some_iff.1 h.p).1 (by omega)).trans h.p, (heap_setCell_same W (mb + 1 + 1) 0 _ _ _ h.o).trans rfl, (ht.block _ (Array.getElem?_eq_some_iff.1 h.r).1 (by omega)).trans h.r, h.b.trans (ht.below (B := w.heap.size) h.b.size (fun k hk => by omega)), h.lt⟩
theorem RunM.said (h : RunM w mb n fa fc en v W) : W.cell? ⟨mb, 3, none⟩ = some (.slice none 0 0) := cell_of_row _ _ 3 _ _ _ h.m
theorem RunM.used (h : RunM w mb n fa fc en v W) : W.cell? ⟨mb, 2, none⟩ = some (.int .i64 1) := cell_of_row _ _ 2 _ _ _ h.m
theorem RunM.ptr (h : RunM w mb n fa fc en v W) : W.cell? ⟨mb + 1, 0, none⟩ = some (.pointer (some ⟨mb, 0, none⟩)) := cell_of_row _ _ 0 _ _ _ h.p
theorem RunM.o0 (h : RunM w mb n fa fc en v W) : W.cell? ⟨mb + 1 + 1, 0, none⟩ = some (.slice none 0 0) := cell_of_row _ _ 0 _ _ _ h.o
theorem RunM.o3 (h : RunM w mb n fa fc en v W) : W.cell? ⟨mb + 1 + 1, 3, none⟩ = some (.slice none 0 0) := cell_of_row _ _ 3 _ _ _ h.o
theorem RunM.f (h : RunM w mb n fa fc en v W) (i : Nat) : W.frozen? ⟨mb + 1 + 1, i, none⟩ = false := frozen_of_row _ _ i _ _ h.o
theorem RunM.put3 (h : RunM w mb n fa fc en v W) (x : Value) : ((W.setCell ⟨mb + 1 + 1, 3, none⟩ x).cell? ⟨mb + 1, 0, none⟩ = some (.pointer (some ⟨mb, 0, none⟩)) ∧ (W.setCell ⟨mb + 1 + 1, 3, none⟩ x).cell? ⟨mb, 3, none⟩ = some (.slice none 0 0)) ∧
    (W.setCell ⟨mb + 1 + 1, 3, none⟩ x).cell? ⟨mb, 2, none⟩ = some (.int .i64 1) ∧ (W.setCell ⟨mb + 1 + 1, 3, none⟩ x).heap[mb + 1 + 1]? = some (.cells #[.slice none 0 0, .int .i64 en, .int .i64 v, x] 72 (0, 0)) ∧ (W.setCell ⟨mb + 1 + 1, 3, none⟩ x).heap[n + 1 + 1]? = some (.cells #[.slice none 0 0, .int .i64 0, .int .i64 0, .slice none 0 0] 72 (0, 0)) ∧ Below w.heap.size w (W.setCell ⟨mb + 1 + 1, 3, none⟩ x) := by
  have ht := turned_store W (mb + 1 + 1) 3 x
  have hl := h.lt
  have hm := (ht.block _ (Array.getElem?_eq_some_iff.1 h.m).1 (by omega)).trans h.m
  exact ⟨⟨cell_of_row _ _ 0 _ _ _ ((ht.block _ (Array.getElem?_eq_some_iff.1 h.p).1 (by omega)).trans h.p), cell_of_row _ _ 3 _ _ _ hm⟩, cell_of_row _ _ 2 _ _ _ hm, (heap_setCell_same W (mb + 1 + 1) 3 _ _ _ h.o).trans rfl, (ht.block _ (Array.getElem?_eq_some_iff.1 h.r).1 (by omega)).trans h.r, h.b.trans (ht.below (B := w.heap.size) h.b.size (fun k hk => by omega))⟩
theorem RunM.cells (h : RunM w mb n fa fc en v W) : IntsRd W (some ⟨mb, 4, none⟩) 16 (List.replicate 16 0) := by
  refine ⟨rfl, .inr ⟨mb, 4, rfl, fun i v hv => ?_⟩⟩
  rw [cell_of_row _ _ (4 + i) _ _ _ h.m]
  rw [List.map_replicate] at hv
  obtain ⟨hi, rfl⟩ := List.getElem?_eq_some_iff.1 hv
  rw [List.length_replicate] at hi
  match i, hi with
  | 0, _ | 1, _ | 2, _ | 3, _ | 4, _ | 5, _ | 6, _ | 7, _ | 8, _ | 9, _ | 10, _ | 11, _ | 12, _ | 13, _ | 14, _ | 15, _ => rfl
end
set_option maxRecDepth 100000 in
set_option maxHeartbeats 4000000 in
theorem runMeaning_any (S : Nat → Prop) (w : World) (hF : RunFx ns x vs) (h : ListK 3 (FnP (D + 1)) S w fa [retF ns x]) (hvs : IntsRd w va ns.length vs) :
    Calls Tryd.prog 104 #[.agg #[.slice fa 1 fc], .slice va ns.length vc, .int .i64 1] w fun e w' => ∃ a c, e = .returned (.tuple #[.agg #[.slice none 0 0, .int .i64 (outP (evalV (valV ns vs) 12 x)).2, .int .i64 (outP (evalV (valV ns vs) 12 x)).1, .slice a 16 c], .int .i64 1]) ∧ Below w.heap.size w w' := by
  have hmf : ∀ (fn : Fn) (first cap : Array Value) (w : World), (Instr.makeFunc fn first cap).run Tryd.prog w = .ok (.func fn first cap) w := fun _ _ _ _ => rfl
  have H0 := Lib.hid (alloc3_blocks w (.cells #[.slice fa 1 fc] 34) (.cells #[.slice va ns.length vc] 50) (.cells #[.slice none 0 0, .int .i64 0, .int .i64 0, .slice none 0 0] 72))
  have HL := Lib.hid (And.intro hF (And.intro h hvs))
  clear h hvs hF
  go_enter Tryd.func104, Tryd.ntmps104
  go_upto_region 1 with fail
  obtain ⟨n, hn⟩ : ∃ n, n = w.heap.size := ⟨_, rfl⟩
  generalize ((w.alloc (.cells #[.slice fa 1 fc] 34)).alloc (.cells #[.slice va ns.length vc] 50)).alloc (.cells #[.slice none 0 0, .int .i64 0, .int .i64 0, .slice none 0 0] 72) = W3 at H0 ⊢
  rw [← hn] at H0 ⊢
  have H3 := Lib.hid (show W3.heap[n]? = some (.cells #[.slice fa 1 fc] 34 (0, 0)) ∧ W3.heap[n + 1]? = some (.cells #[.slice va ns.length vc] 50 (0, 0)) ∧ W3.heap[n + 1 + 1]? = some (.cells #[.slice none 0 0, .int .i64 0, .int .i64 0, .slice none 0 0] 72 (0, 0)) ∧ Below w.heap.size w W3 ∧ W3.heap.size = n + 3 ∧ w.heap.size = n from ⟨H0.out.1, H0.out.2.1, H0.out.2.2.1, by rw [← hn]; exact H0.out.2.2.2.1, H0.out.2.2.2.2, hn.symm⟩)
  clear H0 hn
  have p0 := cell_of_row _ _ 0 _ _ _ H3.out.1
  simp only [List.getElem?_toArray, List.getElem?_cons_zero] at p0
  go_upto_region 3 with fail
  clear p0
  have H4 := Lib.hid (alloc3_blocks W3 (.cells #[.slice fa 1 fc, .int .i64 1, .int .i64 0, .slice none 0 0, .int .i64 0, .int .i64 0, .int .i64 0, .int .i64 0, .int .i64 0, .int .i64 0, .int .i64 0, .int .i64 0, .int .i64 0, .int .i64 0, .int .i64 0, .int .i64 0, .int .i64 0, .int .i64 0, .int .i64 0, .int .i64 0] 95) (.cells #[.pointer (some ⟨W3.heap.size, 0, none⟩)] 92) (.cells #[.slice none 0 0, .int .i64 0, .int .i64 0, .slice none 0 0] 72))
  obtain ⟨mb, hmb⟩ : ∃ n, n = W3.heap.size := ⟨_, rfl⟩
  generalize ((W3.alloc (.cells #[.slice fa 1 fc, .int .i64 1, .int .i64 0, .slice none 0 0, .int .i64 0, .int .i64 0, .int .i64 0, .int .i64 0, .int .i64 0, .int .i64 0, .int .i64 0, .int .i64 0, .int .i64 0, .int .i64 0, .int .i64 0, .int .i64 0, .int .i64 0, .int .i64 0, .int .i64 0, .int .i64 0] 95)).alloc (.cells #[.pointer (some ⟨W3.heap.size, 0, none⟩)] 92)).alloc (.cells #[.slice none 0 0, .int .i64 0, .int .i64 0, .slice none 0 0] 72) = W6 at H4 ⊢
  rw [← hmb] at H4 ⊢
  have HS := Lib.hid (show RunSt ns x D mb (mb + 1) n (n + 1) (mb + 1 + 1) fa fc vs va vc W6 from by
    have hb : Below W3.heap.size W3 W6 := by rw [← hmb]; exact H4.out.2.2.2.1
    have h3 := H3.out
    have hw := h3.2.2.2.1.trans (hb.mono h3.2.2.2.1.size)
    exact ⟨H4.out.1, cell_of_row _ _ 0 _ _ _ H4.out.2.1, cell_of_row _ _ 0 _ _ _ ((hb.block n (by omega)).trans h3.1), cell_of_row _ _ 0 _ _ _ ((hb.block (n + 1) (by omega)).trans h3.2.1), H4.out.2.2.1, by omega, ((HL.out.2.1.here (fnP_stays (D + 1))).mono (fnP_stays (D + 1)) (fun k _ hk => by have := hk.2; omega)).below (fnP_stays (D + 1)) hw, HL.out.2.2.later hw⟩)
  have HW := Lib.hid (show Below w.heap.size w W6 ∧ W6.heap[n + 1 + 1]? = some (.cells #[.slice none 0 0, .int .i64 0, .int .i64 0, .slice none 0 0] 72 (0, 0)) ∧ w.heap.size = n ∧ mb = n + 3 ∧ W6.heap[mb + 1]? = some (.cells #[.pointer (some ⟨mb, 0, none⟩)] 92 (0, 0)) from by
    have hb : Below W3.heap.size W3 W6 := by rw [← hmb]; exact H4.out.2.2.2.1
    have h3 := H3.out
    exact ⟨h3.2.2.2.1.trans (hb.mono h3.2.2.2.1.size), (hb.block (n + 1 + 1) (by omega)).trans h3.2.2.1, h3.2.2.2.2.2, by omega, H4.out.2.1⟩)
  clear hmb H3 H4
  go_wp2_with fail
  refine (caughtR_any W6 HL.out.1 HS.out).mono ?_
  rintro e w7 ⟨rfl, hm7, ht7, ho7⟩
  obtain ⟨en, hen⟩ : ∃ n, n = (outP (evalV (valV ns vs) 12 x)).2 := ⟨_, rfl⟩
  obtain ⟨v, hv⟩ : ∃ n, n = (outP (evalV (valV ns vs) 12 x)).1 := ⟨_, rfl⟩
  rw [← hv] at ho7
  rw [← hen]
  have HEV := Lib.hid (And.intro hen hv)
  have H7 := Lib.hid (show w7.heap[mb]? = some (.cells (mCells fa fc 1) 95 (0, 0)) ∧ w7.heap[mb + 1 + 1]? = some (.cells (oCells 0 v) 72 (0, 0)) ∧ w7.heap[n + 1 + 1]? = some (.cells #[.slice none 0 0, .int .i64 0, .int .i64 0, .slice none 0 0] 72 (0, 0)) ∧ w7.heap[mb + 1]? = some (.cells #[.pointer (some ⟨mb, 0, none⟩)] 92 (0, 0)) ∧ Below w.heap.size w w7 from by
    have h := HW.out
    have h1 := (Array.getElem?_eq_some_iff.1 h.2.2.2.2).1
    exact ⟨hm7, ho7, (ht7.block (n + 1 + 1) (by omega) (by omega)).trans h.2.1, (ht7.block (mb + 1) (by omega) (by omega)).trans h.2.2.2.2, h.1.trans (ht7.below (B := w.heap.size) h.1.size (fun k hk => by omega))⟩)
  clear hm7 ht7 ho7 hen hv
  have o1 := cell_of_row _ _ 1 _ _ _ H7.out.2.1
  have z1 := frozen_of_row _ _ 1 _ _ H7.out.2.1
  simp only [oCells, List.getElem?_toArray, List.getElem?_cons_zero, List.getElem?_cons_succ] at o1
  go_upto_region 4 with fail
  clear o1 z1
  have H8 := Lib.hid (show (w7.setCell ⟨mb + 1 + 1, 1, none⟩ (.int .i64 en)).heap[mb]? = some (.cells (mCells fa fc 1) 95 (0, 0)) ∧ (w7.setCell ⟨mb + 1 + 1, 1, none⟩ (.int .i64 en)).heap[mb + 1 + 1]? = some (.cells #[.slice none 0 0, .int .i64 en, .int .i64 v, .slice none 0 0] 72 (0, 0)) ∧ (w7.setCell ⟨mb + 1 + 1, 1, none⟩ (.int .i64 en)).heap[n + 1 + 1]? = some (.cells #[.slice none 0 0, .int .i64 0, .int .i64 0, .slice none 0 0] 72 (0, 0)) ∧ (w7.setCell ⟨mb + 1 + 1, 1, none⟩ (.int .i64 en)).heap[mb + 1]? = some (.cells #[.pointer (some ⟨mb, 0, none⟩)] 92 (0, 0)) ∧ Below w.heap.size w (w7.setCell ⟨mb + 1 + 1, 1, none⟩ (.int .i64 en)) from by
    obtain ⟨c1, c2, c3, c4, c5⟩ := H7.out
    have ht := turned_store w7 (mb + 1 + 1) 1 (.int .i64 en)
    have hw := HW.out
    refine ⟨(ht.block mb (Array.getElem?_eq_some_iff.1 c1).1 (by omega)).trans c1, ?_, (ht.block (n + 1 + 1) (Array.getElem?_eq_some_iff.1 c3).1 (by omega)).trans c3, (ht.block (mb + 1) (Array.getElem?_eq_some_iff.1 c4).1 (by omega)).trans c4, c5.trans (ht.below (B := w.heap.size) c5.size (fun k hk => by omega))⟩
    exact (heap_setCell_same w7 (mb + 1 + 1) 1 _ _ _ c2).trans rfl)
  have H8' := Lib.hid (show RunM w mb n fa fc en v (w7.setCell ⟨mb + 1 + 1, 1, none⟩ (.int .i64 en)) from ⟨H8.out.1, H8.out.2.2.2.1, H8.out.2.1, H8.out.2.2.1, H8.out.2.2.2.2, HW.out.2.2.1, HW.out.2.2.2.1⟩)
  clear H7 H8
  generalize w7.setCell ⟨mb + 1 + 1, 1, none⟩ (.int .i64 en) = W8 at H8' ⊢
  have HC := Lib.hid (show ∀ W, RunM w mb n fa fc en v W → Calls Tryd.prog 142 #[.slice (some ⟨mb, 4, none⟩) 16 16] W fun e w' => ∃ a c, e = .returned (.slice a 16 c) ∧ Hid (RunM w mb n fa fc en v w') from fun W hW => by
    refine (clone_any mb 4 16 16 (List.replicate 16 0) W hW.cells (by omega)).mono ?_
    rintro e w' ⟨a, c, rfl, -, hb⟩
    exact ⟨a, c, rfl, Lib.hid (hW.later hb)⟩)
  have mm := H8'.out.said
  have mp := H8'.out.ptr
  have o0 := H8'.out.o0
  have o3 := H8'.out.o3
  have f0 := H8'.out.f 0
  have f3 := H8'.out.f 3
  have H9 := Lib.hid (H8'.out.later ((Below.refl W8.heap.size W8).drew))
  have H9p := Lib.hid H9.out.put
  go_region_held3 (fun W => W.cell? ⟨mb + 1, 0, none⟩ = some (.pointer (some ⟨mb, 0, none⟩)) ∧ W.cell? ⟨mb, 3, none⟩ = some (.slice none 0 0)) (first | exact ⟨H9.out.ptr, H9.out.said⟩ | exact ⟨H9p.out.ptr, H9p.out.said⟩ | exact ⟨hw10.out.ptr, hw10.out.said⟩ | exact ⟨hw10.out.put.ptr, hw10.out.put.said⟩ | exact (hw10.out.put.put3 _).1 | exact (hw10.out.put3 _).1) (first | (go_at_call 142; (first | refine (HC.out _ H9.out).mono ?_ | refine (HC.out _ H9p.out).mono ?_); rintro e w10 ⟨ca, cc, rfl, hw10⟩; (have q0 := hw10.out.o0); (have q3 := hw10.out.o3); (have g0 := hw10.out.f 0); (have g3 := hw10.out.f 3)))
  all_goals
    first
    | have HF := Lib.hid (hw10.out.put.put3 (.slice ca 16 cc))
      generalize (w10.setCell ⟨mb + 1 + 1, 0, none⟩ (.slice none 0 0)).setCell ⟨mb + 1 + 1, 3, none⟩ (.slice ca 16 cc) = W11 at HF ⊢
    | have HF := Lib.hid (hw10.out.put3 (.slice ca 16 cc))
      generalize w10.setCell ⟨mb + 1 + 1, 3, none⟩ (.slice ca 16 cc) = W11 at HF ⊢
    clear mm mp o0 o3 f0 f3 q0 q3 g0 g3
    have HS := Lib.hid (show (W11.cell? ⟨mb + 1, 0, none⟩ = some (.pointer (some ⟨mb, 0, none⟩)) ∧ W11.cell? ⟨mb, 2, none⟩ = some (.int .i64 1) ∧ W11.cell? ⟨mb + 1 + 1, 0, none⟩ = some (.slice none 0 0) ∧ W11.cell? ⟨mb + 1 + 1, 1, none⟩ = some (.int .i64 en) ∧ W11.cell? ⟨mb + 1 + 1, 2, none⟩ = some (.int .i64 v) ∧ W11.cell? ⟨mb + 1 + 1, 3, none⟩ = some (.slice ca 16 cc)) from ⟨HF.out.1.1, HF.out.2.1, cell_of_row _ _ 0 _ _ _ HF.out.2.2.1, cell_of_row _ _ 1 _ _ _ HF.out.2.2.1, cell_of_row _ _ 2 _ _ _ HF.out.2.2.1, cell_of_row _ _ 3 _ _ _ HF.out.2.2.1⟩)
    have HSD := Lib.hid (show (W11.drew.cell? ⟨mb + 1, 0, none⟩ = some (.pointer (some ⟨mb, 0, none⟩)) ∧ W11.drew.cell? ⟨mb, 2, none⟩ = some (.int .i64 1) ∧ W11.drew.cell? ⟨mb + 1 + 1, 0, none⟩ = some (.slice none 0 0) ∧ W11.drew.cell? ⟨mb + 1 + 1, 1, none⟩ = some (.int .i64 en) ∧ W11.drew.cell? ⟨mb + 1 + 1, 2, none⟩ = some (.int .i64 v) ∧ W11.drew.cell? ⟨mb + 1 + 1, 3, none⟩ = some (.slice ca 16 cc)) from HS.out)
    have HZ := Lib.hid (show (((((W11.setCell ⟨n + 1 + 1, 0, none⟩ (.slice none 0 0)).setCell ⟨n + 1 + 1, 1, none⟩ (.int .i64 en)).setCell ⟨n + 1 + 1, 2, none⟩ (.int .i64 v)).setCell ⟨n + 1 + 1, 3, none⟩ (.slice ca 16 cc)).cell? ⟨mb + 1, 0, none⟩ = some (.pointer (some ⟨mb, 0, none⟩)) ∧ ((((W11.setCell ⟨n + 1 + 1, 0, none⟩ (.slice none 0 0)).setCell ⟨n + 1 + 1, 1, none⟩ (.int .i64 en)).setCell ⟨n + 1 + 1, 2, none⟩ (.int .i64 v)).setCell ⟨n + 1 + 1, 3, none⟩ (.slice ca 16 cc)).cell? ⟨mb, 2, none⟩ = some (.int .i64 1) ∧ ((((W11.setCell ⟨n + 1 + 1, 0, none⟩ (.slice none 0 0)).setCell ⟨n + 1 + 1, 1, none⟩ (.int .i64 en)).setCell ⟨n + 1 + 1, 2, none⟩ (.int .i64 v)).setCell ⟨n + 1 + 1, 3, none⟩ (.slice ca 16 cc)).cell? ⟨mb + 1 + 1, 0, none⟩ = some (.slice none 0 0) ∧ ((((W11.setCell ⟨n + 1 + 1, 0, none⟩ (.slice none 0 0)).setCell ⟨n + 1 + 1, 1, none⟩ (.int .i64 en)).setCell ⟨n + 1 + 1, 2, none⟩ (.int .i64 v)).setCell ⟨n + 1 + 1, 3, none⟩ (.slice ca 16 cc)).cell? ⟨mb + 1 + 1, 1, none⟩ = some (.int .i64 en) ∧ ((((W11.setCell ⟨n + 1 + 1, 0, none⟩ (.slice none 0 0)).setCell ⟨n + 1 + 1, 1, none⟩ (.int .i64 en)).setCell ⟨n + 1 + 1, 2, none⟩ (.int .i64 v)).setCell ⟨n + 1 + 1, 3, none⟩ (.slice ca 16 cc)).cell? ⟨mb + 1 + 1, 2, none⟩ = some (.int .i64 v) ∧ ((((W11.setCell ⟨n + 1 + 1, 0, none⟩ (.slice none 0 0)).setCell ⟨n + 1 + 1, 1, none⟩ (.int .i64 en)).setCell ⟨n + 1 + 1, 2, none⟩ (.int .i64 v)).setCell ⟨n + 1 + 1, 3, none⟩ (.slice ca 16 cc)).cell? ⟨mb + 1 + 1, 3, none⟩ = some (.slice ca 16 cc)) ∧ ((((W11.setCell ⟨n + 1 + 1, 0, none⟩ (.slice none 0 0)).setCell ⟨n + 1 + 1, 1, none⟩ (.int .i64 en)).setCell ⟨n + 1 + 1, 2, none⟩ (.int .i64 v)).setCell ⟨n + 1 + 1, 3, none⟩ (.slice ca 16 cc)).heap[n + 1 + 1]? = some (.cells #[.slice none 0 0, .int .i64 en, .int .i64 v, .slice ca 16 cc] 72 (0, 0)) ∧ Below w.heap.size w ((((W11.setCell ⟨n + 1 + 1, 0, none⟩ (.slice none 0 0)).setCell ⟨n + 1 + 1, 1, none⟩ (.int .i64 en)).setCell ⟨n + 1 + 1, 2, none⟩ (.int .i64 v)).setCell ⟨n + 1 + 1, 3, none⟩ (.slice ca 16 cc)) from by
      have ht := turned_setCells (g := n + 1 + 1) [.slice none 0 0, .int .i64 en, .int .i64 v, .slice ca 16 cc] W11 0
      have hw := HW.out
      have hs := HS.out
      have hk : ∀ {q i : Nat} {x : Value}, W11.cell? ⟨q, i, none⟩ = some x → q ≠ n + 1 + 1 → ((((W11.setCell ⟨n + 1 + 1, 0, none⟩ (.slice none 0 0)).setCell ⟨n + 1 + 1, 1, none⟩ (.int .i64 en)).setCell ⟨n + 1 + 1, 2, none⟩ (.int .i64 v)).setCell ⟨n + 1 + 1, 3, none⟩ (.slice ca 16 cc)).cell? ⟨q, i, none⟩ = some x := fun {q i x} h hq => (World.cell?_of_block (ht.block q (World.block_lt_of_cell? W11 _ h) hq)).trans h
      refine ⟨⟨hk hs.1 (by omega), hk hs.2.1 (by omega), hk hs.2.2.1 (by omega), hk hs.2.2.2.1 (by omega), hk hs.2.2.2.2.1 (by omega), hk hs.2.2.2.2.2 (by omega)⟩, ?_, HF.out.2.2.2.2.trans (ht.below (B := w.heap.size) HF.out.2.2.2.2.size (fun k hk => by omega))⟩
      have := heap_setCells_mid (w := W11) (A := []) (B := [.slice none 0 0, .int .i64 0, .int .i64 0, .slice none 0 0]) (C := []) (vs := [.slice none 0 0, .int .i64 en, .int .i64 v, .slice ca 16 cc]) (o := 0) rfl (by simp) (by simpa using HF.out.2.2.2.1)
      rw [← setCells4R]
      simpa using this)
    have r0 := cell_of_row _ _ 0 _ _ _ HF.out.2.2.2.1
    have r1 := cell_of_row _ _ 1 _ _ _ HF.out.2.2.2.1
    have r2 := cell_of_row _ _ 2 _ _ _ HF.out.2.2.2.1
    have r3 := cell_of_row _ _ 3 _ _ _ HF.out.2.2.2.1
    have y0 := frozen_of_row _ _ 0 _ _ HF.out.2.2.2.1
    have y1 := frozen_of_row _ _ 1 _ _ HF.out.2.2.2.1
    have y2 := frozen_of_row _ _ 2 _ _ HF.out.2.2.2.1
    have y3 := frozen_of_row _ _ 3 _ _ HF.out.2.2.2.1
    simp only [List.getElem?_toArray, List.getElem?_cons_zero, List.getElem?_cons_succ] at r0 r1 r2 r3
    go_upto_region 5 with fail
    go_region_held3 (fun W => (W.cell? ⟨mb + 1, 0, none⟩ = some (.pointer (some ⟨mb, 0, none⟩)) ∧ W.cell? ⟨mb, 2, none⟩ = some (.int .i64 1) ∧ W.cell? ⟨mb + 1 + 1, 0, none⟩ = some (.slice none 0 0) ∧ W.cell? ⟨mb + 1 + 1, 1, none⟩ = some (.int .i64 en) ∧ W.cell? ⟨mb + 1 + 1, 2, none⟩ = some (.int .i64 v) ∧ W.cell? ⟨mb + 1 + 1, 3, none⟩ = some (.slice ca 16 cc))) (first | exact HSD.out | exact HZ.out.1) (fail)
    all_goals
      have HE := Lib.hid (And.intro HZ.out.2.1 HZ.out.2.2)
      clear r0 r1 r2 r3 y0 y1 y2 y3
      generalize (((W11.setCell ⟨n + 1 + 1, 0, none⟩ (.slice none 0 0)).setCell ⟨n + 1 + 1, 1, none⟩ (.int .i64 en)).setCell ⟨n + 1 + 1, 2, none⟩ (.int .i64 v)).setCell ⟨n + 1 + 1, 3, none⟩ (.slice ca 16 cc) = W13 at HE ⊢
      go_wp2
      refine bodyPost_ret (results_cellR rfl _ _ (n + 1 + 1) 72 #[.slice none 0 0, .int .i64 en, .int .i64 v, .slice ca 16 cc] (0, 0) _ rfl ?_ Tryd.underlying72 rfl (by kernel_rfl)) rfl ?_
      · exact HE.out.1
      exact ⟨ca, cc, by rw [← HEV.out.1, ← HEV.out.2]; rfl, HE.out.2.drew⟩

set_option maxRecDepth 100000 in
set_option maxHeartbeats 4000000 in
theorem runProgram_any (S : Nat → Prop) (w : World) (hF : RunFx ns x vs) (hO : OpsAt w) (hK : KeysAt w) (h : ListK 3 (FnP (D + 1)) S w fa [retF ns x]) (hvs : IntsRd w va ns.length vs) :
    Calls Tryd.prog 52 #[.agg #[.slice fa 1 fc], .slice va ns.length vc, .int .i64 1] w fun e w' => ∃ a c, e = .returned (.tuple #[.agg #[.slice none 0 0, .int .i64 (outP (evalV (valV ns vs) 12 x)).2, .int .i64 (outP (evalV (valV ns vs) 12 x)).1, .slice a 16 c], .bool true]) ∧ Below w.heap.size w w' := by
  have hb1 : Below w.heap.size w ((w.alloc (.cells #[.slice fa 1 fc] 34)).alloc (.cells #[.slice none 0 0, .int .i64 0, .int .i64 0, .slice none 0 0] 72)) := ((Below.refl _ _).alloc (Nat.le_refl _) _).alloc (by simp) _
  have H1 := Lib.hid (And.intro hb1 (And.intro (heap_alloc2_old w (.cells #[.slice fa 1 fc] 34) (.cells #[.slice none 0 0, .int .i64 0, .int .i64 0, .slice none 0 0] 72)) (heap_alloc2_new w (.cells #[.slice fa 1 fc] 34) (.cells #[.slice none 0 0, .int .i64 0, .int .i64 0, .slice none 0 0] 72))))
  have HL := Lib.hid (And.intro hF (And.intro h (And.intro hvs (And.intro hO hK))))
  clear h hvs hF hO hK hb1
  go_enter Tryd.func52, Tryd.ntmps52
  go_upto_region 1 with fail
  obtain ⟨n, hn⟩ : ∃ n, n = w.heap.size := ⟨_, rfl⟩
  generalize (w.alloc (.cells #[.slice fa 1 fc] 34)).alloc (.cells #[.slice none 0 0, .int .i64 0, .int .i64 0, .slice none 0 0] 72) = W1 at H1 ⊢
  have HW := Lib.hid H1.out.1
  have HR := Lib.hid H1.out.2
  rw [← hn] at HR ⊢
  have HN := Lib.hid hn
  clear H1 hn
  have p0 := cell_of_row _ _ 0 _ _ _ HR.out.1
  simp only [List.getElem?_toArray, List.getElem?_cons_zero] at p0
  have HWI := Lib.hid (show inE 0 1 4000 = true by decide)
  go_upto_region 4 with (first | (go_at_call 103; refine (canRunR_any (fc := fc) S W1 HL.out.1 (HL.out.2.2.2.1.later HW.out) (HL.out.2.2.2.2.later HW.out) (HL.out.2.1.below (fnP_stays (D + 1)) HW.out) (HL.out.2.2.1.later HW.out)).mono ?_; rintro e w2 ⟨rfl, hb2⟩; (have p1 := cell_later hb2 p0)) | (go_at_call 59; refine (withinE_is HWI.out _).mono ?_; rintro e w3 ⟨rfl, rfl⟩) | (go_at_call 104; refine (runMeaning_any (fc := fc) S _ HL.out.1 (HL.out.2.1.below (fnP_stays (D + 1)) (HW.out.trans (hb2.mono HW.out.size))) (HL.out.2.2.1.later (HW.out.trans (hb2.mono HW.out.size)))).mono ?_; rintro e w4 ⟨ca, cc, rfl, hb4⟩))
  have hbw := HW.out.trans ((hb2.mono HW.out.size).trans (hb4.mono (Nat.le_trans HW.out.size hb2.size)))
  have hrow4 := (hb4.block (n + 1) (Nat.lt_of_lt_of_le (Array.getElem?_eq_some_iff.1 HR.out.2).1 hb2.size)).trans ((hb2.block (n + 1) (Array.getElem?_eq_some_iff.1 HR.out.2).1).trans HR.out.2)
  have hba : Below w4.heap.size w4 (w4.alloc (.cells #[.slice none 0 0, .int .i64 (outP (evalV (valV ns vs) 12 x)).2, .int .i64 (outP (evalV (valV ns vs) 12 x)).1, .slice ca 16 cc] 72)) := (Below.refl _ _).alloc (Nat.le_refl _) _
  have H5 := Lib.hid (show Below w.heap.size w (w4.alloc (.cells #[.slice none 0 0, .int .i64 (outP (evalV (valV ns vs) 12 x)).2, .int .i64 (outP (evalV (valV ns vs) 12 x)).1, .slice ca 16 cc] 72)) ∧ (w4.alloc (.cells #[.slice none 0 0, .int .i64 (outP (evalV (valV ns vs) 12 x)).2, .int .i64 (outP (evalV (valV ns vs) 12 x)).1, .slice ca 16 cc] 72)).heap[n + 1]? = some (.cells #[.slice none 0 0, .int .i64 0, .int .i64 0, .slice none 0 0] 72 (0, 0)) from
    ⟨hbw.trans (hba.mono hbw.size), (hba.block (n + 1) (Array.getElem?_eq_some_iff.1 hrow4).1).trans hrow4⟩)
  have q := heap_alloc_new w4 (.cells #[.slice none 0 0, .int .i64 (outP (evalV (valV ns vs) 12 x)).2, .int .i64 (outP (evalV (valV ns vs) 12 x)).1, .slice ca 16 cc] 72)
  have q0 := cell_of_row _ _ 0 _ _ _ q
  have q1 := cell_of_row _ _ 1 _ _ _ q
  have q2 := cell_of_row _ _ 2 _ _ _ q
  have q3 := cell_of_row _ _ 3 _ _ _ q
  simp only [List.getElem?_toArray, List.getElem?_cons_zero, List.getElem?_cons_succ] at q0 q1 q2 q3
  clear hbw hrow4 hba q hb2 hb4 p0 p1
  obtain ⟨ob, hob⟩ : ∃ n, n = w4.heap.size := ⟨_, rfl⟩
  rw [← hob] at q0 q1 q2 q3 ⊢
  clear hob
  generalize w4.alloc (.cells #[.slice none 0 0, .int .i64 (outP (evalV (valV ns vs) 12 x)).2, .int .i64 (outP (evalV (valV ns vs) 12 x)).1, .slice ca 16 cc] 72) = W5 at H5 q0 q1 q2 q3 ⊢
  obtain ⟨en, hen⟩ : ∃ n, n = (outP (evalV (valV ns vs) 12 x)).2 := ⟨_, rfl⟩
  obtain ⟨v, hv⟩ : ∃ n, n = (outP (evalV (valV ns vs) 12 x)).1 := ⟨_, rfl⟩
  rw [← hen] at q1 ⊢
  rw [← hv] at q2 ⊢
  have HEV := Lib.hid (And.intro hen hv)
  clear hen hv
  have r0 := cell_of_row _ _ 0 _ _ _ H5.out.2
  have r1 := cell_of_row _ _ 1 _ _ _ H5.out.2
  have r2 := cell_of_row _ _ 2 _ _ _ H5.out.2
  have r3 := cell_of_row _ _ 3 _ _ _ H5.out.2
  have y0 := frozen_of_row _ _ 0 _ _ H5.out.2
  have y1 := frozen_of_row _ _ 1 _ _ H5.out.2
  have y2 := frozen_of_row _ _ 2 _ _ H5.out.2
  have y3 := frozen_of_row _ _ 3 _ _ H5.out.2
  simp only [List.getElem?_toArray, List.getElem?_cons_zero, List.getElem?_cons_succ] at r0 r1 r2 r3
  have HE := Lib.hid (show ((((W5.setCell ⟨n + 1, 0, none⟩ (.slice none 0 0)).setCell ⟨n + 1, 1, none⟩ (.int .i64 en)).setCell ⟨n + 1, 2, none⟩ (.int .i64 v)).setCell ⟨n + 1, 3, none⟩ (.slice ca 16 cc)).heap[n + 1]? = some (.cells #[.slice none 0 0, .int .i64 en, .int .i64 v, .slice ca 16 cc] 72 (0, 0)) ∧ Below w.heap.size w ((((W5.setCell ⟨n + 1, 0, none⟩ (.slice none 0 0)).setCell ⟨n + 1, 1, none⟩ (.int .i64 en)).setCell ⟨n + 1, 2, none⟩ (.int .i64 v)).setCell ⟨n + 1, 3, none⟩ (.slice ca 16 cc)) from by
    have ht := turned_setCells (g := n + 1) [.slice none 0 0, .int .i64 en, .int .i64 v, .slice ca 16 cc] W5 0
    refine ⟨?_, H5.out.1.trans (ht.below (B := w.heap.size) H5.out.1.size (fun k hk => by have := HN.out; omega))⟩
    have := heap_setCells_mid (w := W5) (A := []) (B := [.slice none 0 0, .int .i64 0, .int .i64 0, .slice none 0 0]) (C := []) (vs := [.slice none 0 0, .int .i64 en, .int .i64 v, .slice ca 16 cc]) (o := 0) rfl (by simp) (by simpa using H5.out.2)
    rw [← setCells4R]
    simpa using this)
  go_wp2
  refine bodyPost_ret (results_cellR rfl _ _ (n + 1) 72 #[.slice none 0 0, .int .i64 en, .int .i64 v, .slice ca 16 cc] (0, 0) _ rfl ?_ Tryd.underlying72 rfl (by kernel_rfl)) rfl ?_
  · exact HE.out.1
  exact ⟨ca, cc, by rw [← HEV.out.1, ← HEV.out.2]; rfl, HE.out.2⟩
end

end Go.Proofs.YtccfbnhlhjlmgaaDoor
