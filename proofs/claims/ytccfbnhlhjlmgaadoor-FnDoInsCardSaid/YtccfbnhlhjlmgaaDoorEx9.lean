
/-
  Expressions: the program's EvalExpr, no names.
-/
import Derived.Test.YtccfbnhlhjlmgaaDoorEx8
import Derived.Carry
import Derived.Deep.DeepCutAuto
namespace Go.Proofs.YtccfbnhlhjlmgaaDoor
open Go.RowKit

theorem idxNil_any (f : Value) (w : World) : Calls Tryd.prog 143 #[.slice none 0 0, f] w fun e w' => e = .returned (.int .i64 (-1)) ∧ w' = w := by
  go_enter Tryd.func143, Tryd.ntmps143
  go_wp2
  refine wp_loop_rounds 1 ?_
  rw [rounds_succ]
  go_wp2
  go_ret
  exact ⟨rfl, rfl⟩
theorem conNil_any (f : Value) (w : World) : Calls Tryd.prog 109 #[.slice none 0 0, f] w fun e w' => e = .returned (.bool false) ∧ w' = w := by
  go_enter Tryd.func109, Tryd.ntmps109
  go_wp2_with fail
  refine (idxNil_any f w).mono ?_
  rintro e w1 ⟨rfl, rfl⟩
  go_wp2
  go_ret
  exact ⟨rfl, rfl⟩
theorem bytesNil_any (w : World) : Calls Tryd.prog 63 #[.slice none 0 0, .int .i64 0] w fun e w' => e = .returned (.bool true) ∧ w' = w := by
  go_enter Tryd.func63, Tryd.ntmps63
  go_wp2_with fail
  refine (conNil_any _ w).mono ?_
  rintro e w1 ⟨rfl, rfl⟩
  go_wp2
  go_ret
  exact ⟨rfl, rfl⟩

/-- What EvalExpr answers of an expression that names nothing. -/
def evalR (nameB : ByteArray → Bool) (d : Nat) (x : ExprD) : Int × Int :=
  if (sizeD nameB 6 x).isSome && !anyOp atOp d x then (match evalD d x with | some v => (v, 0) | none => (0, 1)) else (-1, -1)

set_option maxRecDepth 100000 in
set_option maxHeartbeats 4000000 in
theorem evalExpr_nil (nameB : ByteArray → Bool) (d : Nat) (cs : List Value) (x : ExprD) (w : World) (hO : OpsAt w) (hx : ExprAt d w cs x) (hN : anyOp namedOp d x = false) :
    Calls Tryd.prog 17 #[.agg cs.toArray, .slice none 0 0, .slice none 0 0] w fun e w' => e = .returned (.tuple #[.int .i64 (evalR nameB d x).1, .int .i64 (evalR nameB d x).2]) ∧ Below w.heap.size w w' := by
  cases d with
  | zero => exact hx.elim
  | succ d =>
  have hx2 := hx
  obtain ⟨ka, kc, rfl, _, _⟩ := hx2
  have hba : Below w.heap.size w ((w.alloc (.cells #[.int .i64 x.op, .int .i64 x.n, .string x.name, .slice ka x.kids.length kc] 29)).alloc (.cells #[.slice none 0 0] 38)) := ((Below.refl _ _).alloc (Nat.le_refl _) _).alloc (by simp) _
  have hE := heap_alloc2_old w (.cells #[.int .i64 x.op, .int .i64 x.n, .string x.name, .slice ka x.kids.length kc] 29) (.cells #[.slice none 0 0] 38)
  have hS := heap_alloc2_new w (.cells #[.int .i64 x.op, .int .i64 x.n, .string x.name, .slice ka x.kids.length kc] 29) (.cells #[.slice none 0 0] 38)
  obtain ⟨R, hR⟩ : ∃ R, R = evalR nameB (d + 1) x := ⟨_, rfl⟩
  rw [← hR]
  have HR := Lib.hid hR
  have H1 := Lib.hid (And.intro hba (And.intro hE (And.intro hS (And.intro (exprAt_lasts (d + 1) _ _ _ _ hba hx) (hO.later hba)))))
  clear hba hE hS hx hO hR
  go_enter Tryd.func17, Tryd.ntmps17
  go_upto_region 1 with fail
  generalize (w.alloc (.cells #[.int .i64 x.op, .int .i64 x.n, .string x.name, .slice ka x.kids.length kc] 29)).alloc (.cells #[.slice none 0 0] 38) = W1 at H1 ⊢
  obtain ⟨be, hbe⟩ : ∃ b, b = w.heap.size := ⟨_, rfl⟩
  have HW := Lib.hid (show Below w.heap.size w W1 from H1.out.1)
  have H2 := Lib.hid (show W1.heap[be]? = some (.cells #[.int .i64 x.op, .int .i64 x.n, .string x.name, .slice ka x.kids.length kc] 29 (0, 0)) ∧ W1.heap[be + 1]? = some (.cells #[.slice none 0 0] 38 (0, 0)) ∧ w.heap.size ≤ be from by rw [hbe]; exact ⟨H1.out.2.1, H1.out.2.2.1, Nat.le_refl _⟩)
  have HX := Lib.hid H1.out.2.2.2
  rw [← hbe]
  clear H1 hbe
  have HWL := Lib.hid (show be + 1 < W1.heap.size from (Array.getElem?_eq_some_iff.1 H2.out.2.1).1)
  go_cut [8] (fun s wx => ∃ bo : Nat, s = .pointer (some ⟨bo, 0, none⟩) ∧ Hid (Below w.heap.size w wx ∧ Below (be + 2) W1 wx ∧ wx.heap[bo]? = some (.cells #[.bool (sizeD nameB 6 x).isSome] 4 (0, 0)) ∧ be + 1 < bo ∧ ∃ w0, ExprAt (d + 1) w0 [.int .i64 x.op, .int .i64 x.n, .string x.name, .slice ka x.kids.length kc] x ∧ w0.heap.size ≤ bo ∧ Below w0.heap.size w0 wx))
  case first =>
    have e0 := cell_of_row _ _ 0 _ _ _ H2.out.1
    have e1 := cell_of_row _ _ 1 _ _ _ H2.out.1
    have e2 := cell_of_row _ _ 2 _ _ _ H2.out.1
    have e3 := cell_of_row _ _ 3 _ _ _ H2.out.1
    have s0 := cell_of_row _ _ 0 _ _ _ H2.out.2.1
    simp only [List.getElem?_toArray, List.getElem?_cons_zero, List.getElem?_cons_succ] at e0 e1 e2 e3 s0
    go_wp2_with fail
    refine (exprValid_any nameB (d + 1) _ x W1 HX.out.2 HX.out.1 hN).mono ?_
    rintro e w2 ⟨rfl, hb2⟩
    have s1 := cell_later hb2 s0
    have H3 := Lib.hid (And.intro hb2 (exprAt_lasts (d + 1) _ _ _ _ hb2 HX.out.1))
    clear e0 e1 e2 e3 s0 hb2
    have HZ := Lib.hid (fun b : Bool => show Below w.heap.size w (w2.alloc (.cells #[.bool b] 4)) ∧ Below (be + 2) W1 (w2.alloc (.cells #[.bool b] 4)) ∧ (w2.alloc (.cells #[.bool b] 4)).heap[w2.heap.size]? = some (.cells #[.bool b] 4 (0, 0)) ∧ be + 1 < w2.heap.size ∧ Below w2.heap.size w2 (w2.alloc (.cells #[.bool b] 4)) from by
      have hba : Below w2.heap.size w2 (w2.alloc (.cells #[.bool b] 4)) := (Below.refl _ _).alloc (Nat.le_refl _) _
      have h1 := H3.out.1.trans (hba.mono H3.out.1.size)
      exact ⟨HW.out.trans (h1.mono HW.out.size), h1.mono (by have := HWL.out; omega), heap_alloc_new w2 _, by have := HWL.out; have := H3.out.1.size; omega, hba⟩)
    cases hv : (sizeD nameB 6 x).isSome with
    | false =>
      go_wp2_with fail
      go_meet
      exact ⟨w2.heap.size, rfl, Lib.hid ⟨(HZ.out false).1, (HZ.out false).2.1, by rw [hv]; exact (HZ.out false).2.2.1, (HZ.out false).2.2.2.1, w2, H3.out.2, Nat.le_refl _, (HZ.out false).2.2.2.2⟩⟩
    | true =>
      go_wp2_with fail
      refine (bytesNil_any w2).mono ?_
      rintro e w3 ⟨rfl, rfl⟩
      go_wp2_with fail
      go_meet
      exact ⟨_, rfl, Lib.hid ⟨(HZ.out true).1, (HZ.out true).2.1, by rw [hv]; exact (HZ.out true).2.2.1, (HZ.out true).2.2.2.1, _, H3.out.2, Nat.le_refl _, (HZ.out true).2.2.2.2⟩⟩
  case rest =>
  obtain ⟨bo, rfl, HC⟩ := hcut
  have hmm := @run_makeMap Tryd.prog
  have hmf : ∀ (fn : Fn) (first cap : Array Value) (w : World), (Instr.makeFunc fn first cap).run Tryd.prog w = .ok (.func fn first cap) w := fun _ _ _ _ => rfl
  go_upto_region 3 with fail
  have HV5 := Lib.hid (show Below wc.heap.size wc (((wc.alloc (.map #[] 0)).alloc (.cells #[.map (some wc.heap.size), .pointer none] 87)).alloc (.cells #[.pointer (some ⟨wc.heap.size + 1, 0, none⟩)] 84)) ∧ (((wc.alloc (.map #[] 0)).alloc (.cells #[.map (some wc.heap.size), .pointer none] 87)).alloc (.cells #[.pointer (some ⟨wc.heap.size + 1, 0, none⟩)] 84)).heap[wc.heap.size + 1 + 1]? = some (.cells #[.pointer (some ⟨wc.heap.size + 1, 0, none⟩)] 84 (0, 0)) from by
    have hnew := heap_alloc_new ((wc.alloc (.map #[] 0)).alloc (.cells #[.map (some wc.heap.size), .pointer none] 87)) (.cells #[.pointer (some ⟨wc.heap.size + 1, 0, none⟩)] 84)
    rw [World.size_alloc, World.size_alloc] at hnew
    exact ⟨(((Below.refl _ _).alloc (Nat.le_refl _) _).alloc (by simp) _).alloc (by simp; omega) _, hnew⟩)
  generalize ((wc.alloc (.map #[] 0)).alloc (.cells #[.map (some wc.heap.size), .pointer none] 87)).alloc (.cells #[.pointer (some ⟨wc.heap.size + 1, 0, none⟩)] 84) = W5 at HV5 ⊢
  obtain ⟨bv, hbv⟩ : ∃ b, b = wc.heap.size + 1 + 1 := ⟨_, rfl⟩
  have HBV := Lib.hid hbv
  obtain ⟨vp, hvp⟩ : ∃ v, v = Value.pointer (some ⟨wc.heap.size + 1, 0, none⟩) := ⟨_, rfl⟩
  have H5 := Lib.hid (show Below w.heap.size w W5 ∧ W5.heap[be]? = some (.cells #[.int .i64 x.op, .int .i64 x.n, .string x.name, .slice ka x.kids.length kc] 29 (0, 0)) ∧ W5.heap[be + 1]? = some (.cells #[.slice none 0 0] 38 (0, 0)) ∧ W5.heap[bo]? = some (.cells #[.bool (sizeD nameB 6 x).isSome] 4 (0, 0)) ∧ W5.heap[bv]? = some (.cells #[vp] 84 (0, 0)) ∧ (∃ w0, ExprAt (d + 1) w0 [.int .i64 x.op, .int .i64 x.n, .string x.name, .slice ka x.kids.length kc] x ∧ w0.heap.size ≤ bo ∧ Below w0.heap.size w0 W5) ∧ be + 1 < bo ∧ w.heap.size ≤ be ∧ bo < bv from by
    obtain ⟨c1, c2, c3, c4, w0, c5, c6, c7⟩ := HC.out
    have b5 := HV5.out.1
    have hbo := (Array.getElem?_eq_some_iff.1 c3).1
    refine ⟨c1.trans (b5.mono c1.size), (b5.block _ (by omega)).trans ((c2.block _ (by omega)).trans H2.out.1), (b5.block _ (by omega)).trans ((c2.block _ (by omega)).trans H2.out.2.1), (b5.block _ hbo).trans c3, by rw [hbv, hvp]; exact HV5.out.2, ⟨w0, c5, c6, c7.trans (b5.mono c7.size)⟩, c4, H2.out.2.2, by omega⟩)
  rw [← hbv, ← hvp]
  clear hvp hbv HV5 HC HBV H2 HX HW HWL
  have e0 := cell_of_row _ _ 0 _ _ _ H5.out.2.1
  have e1 := cell_of_row _ _ 1 _ _ _ H5.out.2.1
  have e2 := cell_of_row _ _ 2 _ _ _ H5.out.2.1
  have e3 := cell_of_row _ _ 3 _ _ _ H5.out.2.1
  have s0 := cell_of_row _ _ 0 _ _ _ H5.out.2.2.1
  simp only [List.getElem?_toArray, List.getElem?_cons_zero, List.getElem?_cons_succ] at e0 e1 e2 e3 s0
  have o0 := cell_of_row _ _ 0 _ _ _ H5.out.2.2.2.1
  have v0 := cell_of_row _ _ 0 _ _ _ H5.out.2.2.2.2.1
  simp only [List.getElem?_toArray, List.getElem?_cons_zero] at o0 v0
  cases hv : (sizeD nameB 6 x).isSome with
  | false =>
    have HN := Lib.hid (show R = (-1, -1) by rw [HR.out, evalR, hv]; rfl)
    rw [hv] at o0
    clear hv
    go_wp2
    go_ret2
    exact ⟨by rw [HN.out]; rfl, H5.out.1⟩
  | true =>
    have HSZ := Lib.hid (show sizeD nameB 6 x ≠ none by intro h; rw [h] at hv; cases hv)
    have HO5 := Lib.hid (show W5.heap[bo]? = some (.cells #[.bool true] 4 (0, 0)) from by rw [← hv]; exact H5.out.2.2.2.1)
    rw [hv] at o0
    have HRV := Lib.hid hv
    clear hv
    obtain ⟨w0, hx0, hw0, hb0⟩ := H5.out.2.2.2.2.2.1
    have HP := Lib.hid (parts_any bo (be + 1) w0 hw0 (d + 1) true _ x W5 hx0 hN hb0 HO5.out)
    have HX0 := Lib.hid (And.intro hx0 (And.intro hw0 hb0))
    clear hx0 hw0 hb0
    go_wp2_with fail
    refine HP.out.mono ?_
    rintro e w6 ⟨rfl, ho6, ht6⟩
    have H6 := Lib.hid (show Below w.heap.size w w6 ∧ w6.heap[be]? = some (.cells #[.int .i64 x.op, .int .i64 x.n, .string x.name, .slice ka x.kids.length kc] 29 (0, 0)) ∧ w6.heap[be + 1]? = some (.cells #[.slice none 0 0] 38 (0, 0)) ∧ w6.heap[bv]? = some (.cells #[vp] 84 (0, 0)) ∧ ExprAt (d + 1) w6 [.int .i64 x.op, .int .i64 x.n, .string x.name, .slice ka x.kids.length kc] x from by
      obtain ⟨c1, c2, c3, c4, c5, -, c6, c7, c8⟩ := H5.out
      obtain ⟨hx0, hw0, hb0⟩ := HX0.out
      have b6 := ht6.below (B := w0.heap.size) hb0.size (fun k hk => by omega)
      have b6w := ht6.below (B := w.heap.size) c1.size (fun k hk => by omega)
      refine ⟨c1.trans b6w, (ht6.block _ (Array.getElem?_eq_some_iff.1 c2).1 (by omega)).trans c2, (ht6.block _ (Array.getElem?_eq_some_iff.1 c3).1 (by omega)).trans c3, (ht6.block _ (Array.getElem?_eq_some_iff.1 c5).1 (by omega)).trans c5, exprAt_lasts (d + 1) _ _ _ _ (hb0.trans b6) hx0⟩)
    have HO6 := Lib.hid ho6
    have o6 := cell_of_row _ _ 0 _ _ _ ho6
    simp only [List.getElem?_toArray, List.getElem?_cons_zero, Bool.true_and] at o6
    clear ht6 ho6 HX0 H5 HO5 e0 e1 e2 e3 s0 o0 v0
    cases ha : anyOp atOp (d + 1) x with
    | true =>
      have HN := Lib.hid (show R = (-1, -1) by rw [HR.out, evalR, HRV.out, ha]; rfl)
      rw [ha] at o6
      simp only [Bool.not_true] at o6
      clear ha
      go_wp2
      go_ret2
      exact ⟨by rw [HN.out]; rfl, H6.out.1⟩
    | false =>
      have HNN := Lib.hid (show R = (match evalD (d + 1) x with | some v => (v, 0) | none => (0, 1)) by rw [HR.out, evalR, HRV.out, ha]; rfl)
      have HA := Lib.hid ha
      rw [ha] at o6
      simp only [Bool.not_false] at o6
      clear ha
      have e0 := cell_of_row _ _ 0 _ _ _ H6.out.2.1
      have e1 := cell_of_row _ _ 1 _ _ _ H6.out.2.1
      have e2 := cell_of_row _ _ 2 _ _ _ H6.out.2.1
      have e3 := cell_of_row _ _ 3 _ _ _ H6.out.2.1
      have s0 := cell_of_row _ _ 0 _ _ _ H6.out.2.2.1
      simp only [List.getElem?_toArray, List.getElem?_cons_zero, List.getElem?_cons_succ] at e0 e1 e2 e3 s0
      go_wp2_with fail
      refine wp_loop_rounds 1 ?_
      rw [rounds_succ]
      go_upto_region 15 with fail
      have hba : Below w6.heap.size w6 (w6.alloc (.cells #[.int .i64 0] 3)) := (Below.refl _ _).alloc (Nat.le_refl _) _
      have H7 := Lib.hid (show Below w.heap.size w (w6.alloc (.cells #[.int .i64 0] 3)) ∧ w.heap.size ≤ w6.heap.size from ⟨H6.out.1.trans (hba.mono H6.out.1.size), H6.out.1.size⟩)
      have HCA := Lib.hid (caught_any nameB be bv w6.heap.size (d + 1) 6 _ x vp 0 _ (exprAt_lasts (d + 1) _ _ _ _ hba H6.out.2.2.2.2) HSZ.out hN HA.out ((hba.block _ (Array.getElem?_eq_some_iff.1 H6.out.2.1).1).trans H6.out.2.1) (cell_of_row _ _ 0 _ _ _ ((hba.block _ (Array.getElem?_eq_some_iff.1 H6.out.2.2.2.1).1).trans H6.out.2.2.2.1)) (heap_alloc_new w6 (.cells #[.int .i64 0] 3)))
      clear hba o6 e0 e1 e2 e3 s0
      go_wp2_with fail
      refine HCA.out.mono ?_
      rintro e w8 (⟨hev, rfl, hb8⟩ | ⟨v, hev, rfl, hn8, ht8⟩)
      · have HN := Lib.hid (show R = (0, 1) by rw [HNN.out, hev])
        have HE := Lib.hid (H7.out.1.trans (hb8.mono H7.out.1.size))
        clear hev hb8
        go_wp2
        go_ret2
        exact ⟨by rw [HN.out]; rfl, HE.out⟩
      · have HN := Lib.hid (show R = (v, 0) by rw [HNN.out, hev])
        have HE := Lib.hid (H7.out.1.trans (ht8.below (B := w.heap.size) H7.out.1.size (fun k hk => by have := H7.out.2; omega)))
        have n8 := cell_of_row _ _ 0 _ _ _ hn8
        simp only [List.getElem?_toArray, List.getElem?_cons_zero] at n8
        clear hev ht8 hn8
        go_wp2
        go_ret2
        exact ⟨by rw [HN.out]; rfl, HE.out⟩

end Go.Proofs.YtccfbnhlhjlmgaaDoor
