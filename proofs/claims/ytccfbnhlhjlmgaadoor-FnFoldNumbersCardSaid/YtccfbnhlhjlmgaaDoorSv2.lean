
/-
  SafeExpr (the program's): the walk.
-/
import Derived.Test.YtccfbnhlhjlmgaaDoorSv
import Derived.Test.YtccfbnhlhjlmgaaDoorPt
namespace Go.Proofs.YtccfbnhlhjlmgaaDoor
open Go.RowKit
set_option linter.unusedVariables false

/-- A part is found unsafe, or not. -/
def stepS (x : ExprD) (b : Bool) : Bool := b && !unsafeP x
structure SafeSt (w0 : World) (bo : Nat) (w : World) (b : Bool) : Prop where
  lo : w0.heap.size ≤ bo
  row : w.heap[bo]? = some (.cells #[.bool b] 4 (0, 0))
theorem SafeSt.later {w0 : World} {bo : Nat} {w w' : World} {b : Bool} (h : SafeSt w0 bo w b) (hb : Below w.heap.size w w') : SafeSt w0 bo w' b :=
  ⟨h.lo, (hb.block _ (Array.getElem?_eq_some_iff.1 h.row).1).trans h.row⟩
theorem SafeSt.put {w0 : World} {bo : Nat} {w : World} {b : Bool} (h : SafeSt w0 bo w b) (hsz : w0.heap.size ≤ w.heap.size) (c : Bool) : SafeSt w0 bo (w.setCell ⟨bo, 0, none⟩ (.bool c)) c ∧ Below w0.heap.size w (w.setCell ⟨bo, 0, none⟩ (.bool c)) ∧ KeepE w (w.setCell ⟨bo, 0, none⟩ (.bool c)) := by
  refine ⟨⟨h.lo, ?_⟩, (Below.refl _ _).setCell h.lo _, fun i cs hi => ?_⟩
  · rw [heap_setCell_same _ _ _ _ _ _ h.row]; rfl
  · refine (heap_setCell_other _ _ _ _ (by
      show i ≠ bo
      rintro rfl
      rw [h.row] at hi
      simp at hi)).trans hi

set_option maxRecDepth 100000 in
set_option maxHeartbeats 4000000 in
theorem safeC_any (w0 : World) (bo : Nat) (d : Nat) (cs : List Value) (x : ExprD) (w : World) (b : Bool) (hs : sizeD nameD d x ≠ none) (hx : ExprAt d w0 cs x) (hB : Below w0.heap.size w0 w) (hI : SafeSt w0 bo w b) :
    Calls Tryd.prog 92 (#[.agg cs.toArray] ++ #[.pointer (some ⟨bo, 0, none⟩)]) w fun e w' => e = .returned (.tuple #[]) ∧ SafeSt w0 bo w' (stepS x b) ∧ Below w0.heap.size w w' ∧ KeepE w w' := by
  obtain ⟨R, hR⟩ : ∃ R, R = stepS x b := ⟨_, rfl⟩
  rw [← hR]
  have HR := Lib.hid hR
  clear hR
  cases d with
  | zero => exact hx.elim
  | succ d =>
  obtain ⟨ka, kc, rfl, -, hks⟩ := hx
  have hba : Below w.heap.size w (w.alloc (.cells #[.int .i64 x.op, .int .i64 x.n, .string x.name, .slice ka x.kids.length kc] 29)) := (Below.refl _ _).alloc (Nat.le_refl _) _
  have HB := Lib.hid (show Below w0.heap.size w (w.alloc (.cells #[.int .i64 x.op, .int .i64 x.n, .string x.name, .slice ka x.kids.length kc] 29)) ∧ KeepE w (w.alloc (.cells #[.int .i64 x.op, .int .i64 x.n, .string x.name, .slice ka x.kids.length kc] 29)) from ⟨hba.mono hB.size, KeepE.below hba⟩)
  have HI := Lib.hid (And.intro (hI.later hba) (show w0.heap.size ≤ (w.alloc (.cells #[.int .i64 x.op, .int .i64 x.n, .string x.name, .slice ka x.kids.length kc] 29)).heap.size from Nat.le_trans hB.size hba.size))
  have hrow := heap_alloc_new w (.cells #[.int .i64 x.op, .int .i64 x.n, .string x.name, .slice ka x.kids.length kc] 29)
  have HK := Lib.hid (And.intro hks (And.intro hs (hB.trans (hba.mono hB.size))))
  clear hI hba hB hks hs
  go_enter Tryd.func92, Tryd.ntmps92
  go_upto_region 1 with fail
  generalize w.alloc (.cells #[.int .i64 x.op, .int .i64 x.n, .string x.name, .slice ka x.kids.length kc] 29) = W1 at HB HI HK hrow ⊢
  have k0 := cell_of_row _ _ 0 _ _ _ HI.out.1.row
  have k1 := frozen_of_row _ _ 0 _ _ HI.out.1.row
  have e0 := cell_of_row _ _ 0 _ _ _ hrow
  have e3 := cell_of_row _ _ 3 _ _ _ hrow
  simp only [List.getElem?_toArray, List.getElem?_cons_zero, List.getElem?_cons_succ] at k0 e0 e3
  clear hrow
  have fin : ∀ c : Bool, c = R → (SafeSt w0 bo (W1.setCell ⟨bo, 0, none⟩ (.bool c)) R ∧ Below w0.heap.size w (W1.setCell ⟨bo, 0, none⟩ (.bool c)) ∧ KeepE w (W1.setCell ⟨bo, 0, none⟩ (.bool c))) := fun c hc => by
    obtain ⟨g1, g2, g3⟩ := HI.out.1.put HI.out.2 c
    subst hc
    exact ⟨g1, HB.out.1.trans g2, HB.out.2.trans g3⟩
  have HFN := Lib.hid fin
  clear fin
  cases b with
  | false =>
    have HC := Lib.hid (HFN.out false (by rw [HR.out, stepS]; rfl))
    go_wp2
    go_end0
    exact ⟨rfl, HC.out⟩
  | true =>
  by_cases h12 : x.op = 12
  · have HC := Lib.hid (HFN.out false (by rw [HR.out, stepS, unsafeP, h12]; rfl))
    rw [h12] at e0
    clear h12
    go_wp2
    go_end0
    exact ⟨rfl, HC.out⟩
  by_cases h13 : x.op = 13
  · have HC := Lib.hid (HFN.out false (by rw [HR.out, stepS, unsafeP, h13]; rfl))
    rw [h13] at e0
    clear h13 h12
    go_wp2
    go_end0
    exact ⟨rfl, HC.out⟩
  have a1 : (x.op == 12) = false := by simpa using h12
  have a2 : (x.op != 12) = true := by simpa using h12
  have a3 : (x.op == 13) = false := by simpa using h13
  have a4 : (x.op != 13) = true := by simpa using h13
  by_cases h67 : x.op = 6 ∨ x.op = 7
  · have hl := unsafe_two HK.out.2.1 h67
    obtain ⟨b1, o1, k, cs1, rfl, hk, hkR, k1', k2', rfl, c0, c1, c2, c3⟩ := kid_place HK.out.1 (show 1 < x.kids.length by omega)
    have d0 := cell_later HK.out.2.2 c0
    have d1 := cell_later HK.out.2.2 c1
    have hkd : x.kids.getD 1 default = k := by rw [List.getD_eq_getElem?_getD, hk]; rfl
    have hu : stepS x true = ((k.op == 1) && !(k.n == 0)) := by
      rw [stepS, unsafeP, hkd, a1, a3]
      rcases h67 with h | h <;> (rw [h]; simp)
    have hix : (1 : Int) < (x.kids.length : Int) := by omega
    clear c0 c1 c2 c3 hkR hk
    by_cases hk1 : k.op = 1
    · by_cases hk0 : k.n = 0
      · have HC := Lib.hid (HFN.out false (by rw [HR.out, hu, hk1, hk0]; rfl))
        rw [hk1] at d0
        rw [hk0] at d1
        clear hu hkd hl
        rcases h67 with h | h
        · rw [h] at e0
          clear h a1 a2 a3 a4 h12 h13 hk1 hk0
          go_wp2
          go_end0
          exact ⟨rfl, HC.out⟩
        · rw [h] at e0
          clear h a1 a2 a3 a4 h12 h13 hk1 hk0
          go_wp2
          go_end0
          exact ⟨rfl, HC.out⟩
      · have HC := Lib.hid (HFN.out true (by rw [HR.out, hu, hk1]; simpa using hk0))
        have b1' : (k.n == 0) = false := by simpa using hk0
        have b2' : (k.n != 0) = true := by simpa using hk0
        rw [hk1] at d0
        clear hu hkd hl hk0
        rcases h67 with h | h
        · rw [h] at e0
          clear h a1 a2 a3 a4 h12 h13 hk1
          go_wp2
          go_end0
          exact ⟨rfl, HC.out⟩
        · rw [h] at e0
          clear h a1 a2 a3 a4 h12 h13 hk1
          go_wp2
          go_end0
          exact ⟨rfl, HC.out⟩
    · have b1' : (k.op == 1) = false := by simpa using hk1
      have HC := Lib.hid (HFN.out false (by rw [HR.out, hu, b1']; rfl))
      clear hu hkd hl hk1
      rcases h67 with h | h
      · rw [h] at e0
        clear h a1 a2 a3 a4 h12 h13
        go_wp2
        go_end0
        exact ⟨rfl, HC.out⟩
      · rw [h] at e0
        clear h a1 a2 a3 a4 h12 h13
        go_wp2
        go_end0
        exact ⟨rfl, HC.out⟩
  · have a5 : (x.op == 6) = false := by simpa using (fun h => h67 (.inl h))
    have a6 : (x.op != 6) = true := by simpa using (fun h => h67 (.inl h))
    have a7 : (x.op == 7) = false := by simpa using (fun h => h67 (.inr h))
    have a8 : (x.op != 7) = true := by simpa using (fun h => h67 (.inr h))
    have HC := Lib.hid (HFN.out true (by rw [HR.out, stepS, unsafeP, a1, a3, a5, a7]; rfl))
    clear h67 h12 h13
    go_wp2
    go_end0
    exact ⟨rfl, HC.out⟩

theorem stepS_fold : ∀ (m : Nat) (x : ExprD) (b : Bool), visitD stepS m x b = (b && !anyE unsafeP m x)
  | 0, x, b => by cases b <;> rfl
  | m + 1, x, b => by
    have hf : ∀ (ks : List ExprD) (c : Bool), ks.foldl (fun st k => visitD stepS m k st) c = (c && !ks.any (anyE unsafeP m)) := by
      intro ks
      induction ks with
      | nil => intro c; simp
      | cons k ks ih =>
        intro c
        rw [List.foldl_cons, ih, stepS_fold m k c, List.any_cons]
        cases c <;> cases anyE unsafeP m k <;> simp
    show x.kids.foldl (fun st k => visitD stepS m k st) (stepS x b) = _
    rw [hf, stepS, anyE]
    cases b <;> cases unsafeP x <;> simp

set_option maxRecDepth 100000 in
set_option maxHeartbeats 4000000 in
theorem safeExpr_any (d : Nat) (cs : List Value) (x : ExprD) (w : World) (hO : OpsAt w) (hK : KeysAt w) (hx : ExprAt d w cs x) :
    Calls Tryd.prog 36 #[.agg cs.toArray] w fun e w' => e = .returned (.bool (safeD x)) ∧ Below w.heap.size w w' := by
  obtain ⟨xa, xc, rfl⟩ := exprAt_form hx
  obtain ⟨R, hR⟩ : ∃ R, R = safeD x := ⟨_, rfl⟩
  rw [← hR]
  have HR := Lib.hid hR
  clear hR
  have hba : Below w.heap.size w (w.alloc (.cells #[.int .i64 x.op, .int .i64 x.n, .string x.name, .slice xa x.kids.length xc] 29)) := (Below.refl _ _).alloc (Nat.le_refl _) _
  have hrow := heap_alloc_new w (.cells #[.int .i64 x.op, .int .i64 x.n, .string x.name, .slice xa x.kids.length xc] 29)
  have HB := Lib.hid (And.intro hba (And.intro hrow hx))
  have hV := exprValidN_any d _ x _ (hO.later hba) (hK.later hba) (exprAt_lasts d _ _ _ _ hba hx)
  clear hba hrow hO hK hx
  go_enter Tryd.func36, Tryd.ntmps36
  go_upto_region 1 with fail
  generalize w.alloc (.cells #[.int .i64 x.op, .int .i64 x.n, .string x.name, .slice xa x.kids.length xc] 29) = W1 at HB hV ⊢
  have e0 := cell_of_row _ _ 0 _ _ _ HB.out.2.1
  have e1 := cell_of_row _ _ 1 _ _ _ HB.out.2.1
  have e2 := cell_of_row _ _ 2 _ _ _ HB.out.2.1
  have e3 := cell_of_row _ _ 3 _ _ _ HB.out.2.1
  simp only [List.getElem?_toArray, List.getElem?_cons_zero, List.getElem?_cons_succ] at e0 e1 e2 e3
  cases hv : (sizeD nameD 6 x).isSome with
  | false =>
    rw [hv] at hV
    have HV := Lib.hid hV
    have HR2 := Lib.hid (show false = R by rw [HR.out, safeD, hv]; rfl)
    clear hV hv
    go_wp2_with fail
    refine HV.out.mono ?_
    rintro e w2 ⟨rfl, hb2⟩
    have HB2 := Lib.hid (HB.out.1.trans (hb2.mono HB.out.1.size))
    have HZ := Lib.hid (show Below w2.heap.size w2 (w2.alloc (.cells #[.bool false] 4)) from (Below.refl _ _).alloc (Nat.le_refl _) _)
    have hsf : (store ⟨w2.heap.size, 0, none⟩ (.bool false)).run Tryd.prog (w2.alloc (.cells #[.bool false] 4)) = .ok () (w2.alloc (.cells #[.bool false] 4)) := store_newE _ _ _ _ _ rfl rfl
    clear hb2 e0 e1 e2 e3
    go_wp2
    go_ret
    exact ⟨ret_bool HR2.out, HB2.out.trans (HZ.out.mono HB2.out.size)⟩
  | true =>
    rw [hv] at hV
    have HV := Lib.hid hV
    have hs : sizeD nameD 6 x ≠ none := fun h => by rw [h] at hv; cases hv
    have HR2 := Lib.hid (And.intro (show visitD stepS 6 x true = R by rw [HR.out, safeD, hv, stepS_fold]) (And.intro hs (exprAt_fit hs HB.out.2.2)))
    clear hV hv hs
    go_wp2_with fail
    refine HV.out.mono ?_
    rintro e w2 ⟨rfl, hb2⟩
    have HB2 := Lib.hid (HB.out.1.trans (hb2.mono HB.out.1.size))
    have k0 := cell_later hb2 e0
    have k1 := cell_later hb2 e1
    have k2 := cell_later hb2 e2
    have k3 := cell_later hb2 e3
    have hsf : (store ⟨w2.heap.size, 0, none⟩ (.bool true)).run Tryd.prog (w2.alloc (.cells #[.bool false] 4)) = .ok () (w2.alloc (.cells #[.bool true] 4)) := store_newE _ _ _ _ _ rfl rfl
    have HZ := Lib.hid (And.intro (show Below w2.heap.size w2 (w2.alloc (.cells #[.bool true] 4)) from (Below.refl _ _).alloc (Nat.le_refl _) _) (heap_alloc_new w2 (.cells #[.bool true] 4)))
    clear hb2 e0 e1 e2 e3 HV
    go_upto_region 2 with fail
    obtain ⟨bo, hbo⟩ : ∃ b, b = w2.heap.size := ⟨_, rfl⟩
    clear hsf
    rw [← hbo] at HZ ⊢
    generalize w2.alloc (.cells #[.bool true] 4) = W3 at HZ ⊢
    rw [hbo] at HZ
    have H3 := Lib.hid (show SafeSt w bo W3 true ∧ Below w.heap.size w W3 by
      rw [hbo]
      exact ⟨⟨HB2.out.size, HZ.out.2⟩, HB2.out.trans (HZ.out.1.mono HB2.out.size)⟩)
    have m0 := cell_later HZ.out.1 k0
    have m1 := cell_later HZ.out.1 k1
    have m2 := cell_later HZ.out.1 k2
    have m3 := cell_later HZ.out.1 k3
    clear hbo k0 k1 k2 k3 HZ
    have k0 := cell_of_row _ _ 0 _ _ _ H3.out.1.row
    simp only [List.getElem?_toArray, List.getElem?_cons_zero] at k0
    have hen : ∀ v W, (callFunc 92 (#[v] ++ #[.pointer (some ⟨bo, 0, none⟩)])).run Tryd.prog W = .ok (.enter 92 (#[v] ++ #[.pointer (some ⟨bo, 0, none⟩)])) W := fun v W => by kernel_rfl
    have HP := Lib.hid (parts_ok w 92 #[.pointer (some ⟨bo, 0, none⟩)] (SafeSt w bo) stepS (fun _ => 0)
      ⟨hen, fun d cs x W b hs hx hW hI _ => safeC_any w bo d cs x W b hs hx hW hI, fun _ _ _ h hb => h.later hb, fun x st => by omega⟩ 6 true _ x W3 HR2.out.2.1 HR2.out.2.2 H3.out.2 H3.out.1 (by decide))
    clear hen
    go_wp2_with fail
    refine HP.out.mono ?_
    rintro e w4 ⟨rfl, hI4, hb4, -⟩
    rw [HR2.out.1] at hI4
    have s0 := cell_of_row _ _ 0 _ _ _ hI4.row
    simp only [List.getElem?_toArray, List.getElem?_cons_zero] at s0
    have HF := Lib.hid (H3.out.2.trans hb4)
    clear hI4 hb4 k0 m0 m1 m2 m3 HP
    go_wp2
    go_ret
    exact ⟨rfl, HF.out⟩

end Go.Proofs.YtccfbnhlhjlmgaaDoor
