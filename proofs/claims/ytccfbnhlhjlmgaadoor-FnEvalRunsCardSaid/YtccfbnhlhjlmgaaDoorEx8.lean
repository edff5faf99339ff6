
/-
  Expressions: a run that may end by a panic is caught.
-/
import Derived.Test.YtccfbnhlhjlmgaaDoorEx7
import Derived.Defers
import Derived.Recover
import Derived.Tactics2
import Derived.Laws.Pointers
namespace Go.Proofs.YtccfbnhlhjlmgaaDoor
open Go.RowKit

theorem assert_end (n : Int) (w : World) : (Instr.typeAssert (.iface 129 (.int .i64 n)) 20 129 true).run Tryd.prog w = .ok (.tuple #[.int .i64 n, .bool true]) w := by kernel_rfl
set_option maxRecDepth 100000 in
set_option maxHeartbeats 1000000 in
theorem catch_panicking (pb : Nat) (x : Int) (older : List PanicEntry) (w : World) (hc : w.cell? ⟨pb, 0, none⟩ = some (.int .i64 x)) (hz : w.frozen? ⟨pb, 0, none⟩ = false) :
    CallsD Tryd.prog 112 #[.pointer (some ⟨pb, 0, none⟩)] (.panicking ({ v := .iface 129 (.int .i64 1), recovered := false } :: older)) w fun e u' w' =>
      e = .returned (.tuple #[]) ∧ u' = .panicking ({ v := .iface 129 (.int .i64 1), recovered := true } :: older) ∧ w' = w.setCell ⟨pb, 0, none⟩ (.int .i64 1) := by
  refine callsD_of_wpS Tryd.func112 rfl fun c₀ cs hu => ?_
  apply wpS_seq
  apply wpS_region
  simp [wpOpsS, go_sem, recoverD, hu, Tryd.ntmps112, Exit.thenS]
  refine wpS_of_wp ?_
  refine Code.wp_mono (Q := fun e a' w' => e = .normal ∧ a'.defers = [] ∧ w' = w.setCell ⟨pb, 0, none⟩ (.int .i64 1)) ?_ ?_
  · rintro e a' w' ⟨rfl, hd, rfl⟩
    exact ⟨hd, _, rfl, .tuple #[], by simp [results, Tryd.results112], rfl, rfl, rfl⟩
  · clear hu
    simp only [Array.replicate_succ, Array.replicate_zero, List.push_toArray, List.append_toArray, List.nil_append, List.cons_append, List.setIfInBounds_toArray, List.set_cons_succ, List.set_cons_zero]
    have hta := fun W => assert_end 1 W
    go_wp2

set_option maxRecDepth 100000 in
set_option maxHeartbeats 1000000 in
theorem catch_idle (pb : Nat) (w : World) :
    CallsD Tryd.prog 112 #[.pointer (some ⟨pb, 0, none⟩)] .returning w fun e u' w' => e = .returned (.tuple #[]) ∧ u' = .returning ∧ w' = w := by
  refine callsD_of_wpS Tryd.func112 rfl fun c₀ cs hu => ?_
  apply wpS_seq
  apply wpS_region
  simp [wpOpsS, go_sem, recoverD, hu, Tryd.ntmps112, Exit.thenS]
  refine wpS_of_wp ?_
  refine Code.wp_mono (Q := fun e a' w' => e = .normal ∧ a'.defers = [] ∧ w' = w) ?_ ?_
  · rintro e a' w' ⟨rfl, hd, rfl⟩
    exact ⟨hd, _, by cases c₀; simp_all, .tuple #[], by simp [results, Tryd.results112], rfl, hu, rfl⟩
  · clear hu
    simp only [Array.replicate_succ, Array.replicate_zero, List.push_toArray, List.append_toArray, List.nil_append, List.cons_append, List.setIfInBounds_toArray, List.set_cons_succ, List.set_cons_zero]
    go_wp2

set_option maxRecDepth 100000 in
set_option maxHeartbeats 2000000 in
/-- The run: an expression's value goes into a box. -/
theorem run2_any (nameB : ByteArray → Bool) (be bv bn d m : Nat) (cs : List Value) (x : ExprD) (vp : Value) (n0 : Int) (w : World) (hx : ExprAt d w cs x) (hs : sizeD nameB m x ≠ none) (hN : anyOp namedOp d x = false) (hA : anyOp atOp d x = false)
    (he : w.heap[be]? = some (.cells cs.toArray 29 (0, 0))) (hv : w.cell? ⟨bv, 0, none⟩ = some vp) (hn : w.heap[bn]? = some (.cells #[.int .i64 n0] 3 (0, 0))) :
    Calls Tryd.prog 68 #[.pointer (some ⟨be, 0, none⟩), .pointer (some ⟨bv, 0, none⟩), .pointer (some ⟨bn, 0, none⟩)] w fun e w' =>
      (evalD d x = none ∧ e = divPanic ∧ Below w.heap.size w w') ∨ (∃ v, evalD d x = some v ∧ e = .returned (.tuple #[]) ∧ w'.heap[bn]? = some (.cells #[.int .i64 v] 3 (0, 0)) ∧ Turned (fun k => k = bn) w w') := by
  cases d with
  | zero => exact hx.elim
  | succ d =>
  have hx2 := hx
  obtain ⟨ka, kc, rfl, _, _⟩ := hx2
  have hba : Below w.heap.size w (w.alloc (.cells #[.slice none 0 0, .int .i64 0, .int .i64 0, .slice none 0 0, .int .i64 0, .int .i64 0, .int .i64 0, .int .i64 0, .int .i64 0, .int .i64 0, .int .i64 0, .int .i64 0, .int .i64 0, .int .i64 0, .int .i64 0, .int .i64 0, .int .i64 0, .int .i64 0, .int .i64 0, .int .i64 0] 95)) := (Below.refl _ _).alloc (Nat.le_refl _) _
  have he1 := (hba.block _ (Array.getElem?_eq_some_iff.1 he).1).trans he
  have hn1 := (hba.block _ (Array.getElem?_eq_some_iff.1 hn).1).trans hn
  have v0 := cell_later hba hv
  have e0 := cell_of_row _ _ 0 _ _ _ he1
  have e1 := cell_of_row _ _ 1 _ _ _ he1
  have e2 := cell_of_row _ _ 2 _ _ _ he1
  have e3 := cell_of_row _ _ 3 _ _ _ he1
  simp only [List.getElem?_toArray, List.getElem?_cons_zero, List.getElem?_cons_succ] at e0 e1 e2 e3
  have HE := Lib.hid (eval_any nameB (.pointer (some ⟨w.heap.size, 0, none⟩)) vp (d + 1) m _ x _ ((exprAt_lasts (d + 1)) _ _ _ _ hba hx) hs hN hA)
  have HB := Lib.hid (And.intro hba hn1)
  clear hba he1 hn1 hx hs hN hA he hv hn
  go_enter Tryd.func68, Tryd.ntmps68
  go_wp2_with fail
  refine HE.out.mono ?_
  rintro e w2 ⟨hev, hb2⟩
  have HX := Lib.hid (And.intro (HB.out.1.trans (hb2.mono HB.out.1.size)) ((hb2.block _ (Array.getElem?_eq_some_iff.1 HB.out.2).1).trans HB.out.2))
  clear hb2 e0 e1 e2 e3 v0
  obtain ⟨r, hr⟩ : ∃ r, r = evalD (d + 1) x := ⟨_, rfl⟩
  rw [← hr] at hev
  have HR := Lib.hid hr
  clear hr
  cases r with
  | none =>
    obtain rfl : e = divPanic := hev
    exact ⟨rfl, .inl ⟨HR.out.symm, rfl, HX.out.1⟩⟩
  | some v =>
    obtain rfl : e = .returned (.int .i64 v) := hev
    have k0 := cell_of_row _ _ 0 _ _ _ HX.out.2
    have z0 := frozen_of_row _ _ 0 _ _ HX.out.2
    have HS := Lib.hid (show (w2.setCell ⟨bn, 0, none⟩ (.int .i64 v)).heap[bn]? = some (.cells #[.int .i64 v] 3 (0, 0)) ∧ Turned (fun k => k = bn) w (w2.setCell ⟨bn, 0, none⟩ (.int .i64 v)) from
      ⟨by rw [heap_setCell_same w2 bn 0 _ _ _ HX.out.2]; rfl, (turned_of_below HX.out.1 (fun k h1 h2 => by omega)).trans (turned_store w2 bn 0 (.int .i64 v))⟩)
    go_wp2
    go_end0
    exact .inr ⟨v, HR.out.symm, rfl, HS.out.1, HS.out.2⟩

set_option maxRecDepth 100000 in
set_option maxHeartbeats 2000000 in
/-- The run is caught. -/
theorem caught_any (nameB : ByteArray → Bool) (be bv bn d m : Nat) (cs : List Value) (x : ExprD) (vp : Value) (n0 : Int) (w : World) (hx : ExprAt d w cs x) (hs : sizeD nameB m x ≠ none) (hN : anyOp namedOp d x = false) (hA : anyOp atOp d x = false)
    (he : w.heap[be]? = some (.cells cs.toArray 29 (0, 0))) (hv : w.cell? ⟨bv, 0, none⟩ = some vp) (hn : w.heap[bn]? = some (.cells #[.int .i64 n0] 3 (0, 0))) :
    Calls Tryd.prog 67 #[.func (.func 68) #[] #[.pointer (some ⟨be, 0, none⟩), .pointer (some ⟨bv, 0, none⟩), .pointer (some ⟨bn, 0, none⟩)]] w fun e w' =>
      (evalD d x = none ∧ e = .returned (.int .i64 1) ∧ Below w.heap.size w w') ∨ (∃ v, evalD d x = some v ∧ e = .returned (.int .i64 0) ∧ w'.heap[bn]? = some (.cells #[.int .i64 v] 3 (0, 0)) ∧ Turned (fun k => k = bn) w w') := by
  have hmf : ∀ (fn : Fn) (first cap : Array Value) (w : World), (Instr.makeFunc fn first cap).run Tryd.prog w = .ok (.func fn first cap) w := fun _ _ _ _ => rfl
  have hen : ∀ W, (callFunc 68 #[.pointer (some ⟨be, 0, none⟩), .pointer (some ⟨bv, 0, none⟩), .pointer (some ⟨bn, 0, none⟩)]).run Tryd.prog W = .ok (.enter 68 #[.pointer (some ⟨be, 0, none⟩), .pointer (some ⟨bv, 0, none⟩), .pointer (some ⟨bn, 0, none⟩)]) W := fun W => by kernel_rfl
  have hba : Below w.heap.size w (w.alloc (.cells #[.int .i64 0] 3)) := (Below.refl _ _).alloc (Nat.le_refl _) _
  have hrow := heap_alloc_new w (.cells #[.int .i64 0] 3)
  have hblt := (Array.getElem?_eq_some_iff.1 hn).1
  have HR := Lib.hid (run2_any nameB be bv bn d m cs x vp n0 _ (exprAt_lasts d _ _ _ _ hba hx) hs hN hA ((hba.block _ (Array.getElem?_eq_some_iff.1 he).1).trans he) (cell_later hba hv) ((hba.block _ hblt).trans hn))
  have HB := Lib.hid (And.intro hba (And.intro hrow hblt))
  clear hba hrow hblt hx hs hN hA he hv hn
  go_enter_defers Tryd.func67, Tryd.ntmps67
  go_wp2_with fail
  obtain ⟨q, hq⟩ : ∃ q, q = w.heap.size := ⟨_, rfl⟩
  generalize w.alloc (.cells #[.int .i64 0] 3) = W1 at HR HB ⊢
  have HQ := Lib.hid hq
  have HBW := Lib.hid (show Below w.heap.size w W1 ∧ W1.heap[q]? = some (.cells #[.int .i64 0] 3 (0, 0)) ∧ bn < w.heap.size from by rw [hq]; exact HB.out)
  rw [← hq]
  clear HB hq
  refine HR.out.mono ?_
  rintro e w2 (⟨hev, rfl, hb2⟩ | ⟨v, hev, rfl, hn2, ht⟩)
  · have hrow2 := (hb2.block _ (Array.getElem?_eq_some_iff.1 HBW.out.2.1).1).trans HBW.out.2.1
    have k0 := cell_of_row _ _ 0 _ _ _ hrow2
    have z0 := frozen_of_row _ _ 0 _ _ hrow2
    simp only [List.getElem?_toArray, List.getElem?_cons_zero] at k0
    show bodyPostD _ _ _ (Exit.panic _) _ _
    refine leaves_cons (f := 112) (args := #[.pointer (some ⟨q, 0, none⟩)]) (by simp) (by simp [go_sem]) ?_
    refine (catch_panicking q 0 [] w2 k0 z0).mono ?_
    rintro e u' w'' ⟨rfl, rfl, rfl⟩
    simp [Leaves, settle, results, Tryd.results67, go_sem]
    have hr3 := heap_setCell_same w2 q 0 _ _ (.int .i64 1) hrow2
    have kq := cell_of_row _ _ 0 _ _ _ hr3
    refine ⟨.int .i64 1, by rw [kq]; rfl, .inl ⟨hev, rfl, HBW.out.1.trans (hb2.mono HBW.out.1.size |>.trans ((turned_store w2 q 0 (.int .i64 1)).below (Nat.le_trans HBW.out.1.size hb2.size) (fun k hk => by have := HQ.out; omega)))⟩⟩
  · have hrow2 := (ht.block q (Array.getElem?_eq_some_iff.1 HBW.out.2.1).1 (by have := HBW.out.2.2; have := HQ.out; omega)).trans HBW.out.2.1
    have k0 := cell_of_row _ _ 0 _ _ _ hrow2
    have z0 := frozen_of_row _ _ 0 _ _ hrow2
    simp only [List.getElem?_toArray, List.getElem?_cons_zero] at k0
    go_wp2
    refine leaves_cons (f := 112) (args := #[.pointer (some ⟨q, 0, none⟩)]) (by simp) (by simp [go_sem]) ?_
    refine (catch_idle q _).mono ?_
    rintro e u' w'' ⟨rfl, rfl, rfl⟩
    simp [Leaves, settle, results, Tryd.results67, go_sem]
    have hr3 := heap_setCell_same w2 q 0 _ _ (.int .i64 0) hrow2
    have kq := cell_of_row _ _ 0 _ _ _ hr3
    have hbq : bn ≠ q := by have := HBW.out.2.2; have := HQ.out; omega
    refine ⟨.int .i64 0, by rw [kq]; rfl, .inr ⟨v, hev, rfl, (heap_setCell_other w2 ⟨q, 0, none⟩ bn _ (fun e => hbq e)).trans hn2, ?_⟩⟩
    have hts := turned_store w2 q 0 (.int .i64 0)
    have h1 := turned_of_below (S := fun k => k = bn) HBW.out.1 (fun k h1 h2 => by omega)
    have h2 := h1.trans ht
    exact ⟨hts.os.trans h2.os, hts.tape.trans h2.tape, hts.output.trans h2.output, Nat.le_trans h2.size hts.size, fun k hk hs => (hts.block k (Nat.lt_of_lt_of_le hk h2.size) (by have := HQ.out; omega)).trans (h2.block k hk hs)⟩

end Go.Proofs.YtccfbnhlhjlmgaaDoor
