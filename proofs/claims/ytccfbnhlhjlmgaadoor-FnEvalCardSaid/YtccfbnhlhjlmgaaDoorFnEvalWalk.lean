
/-
  The walk of the law FnEval.
-/
import Derived.Test.YtccfbnhlhjlmgaaDoorDr5
import Derived.Test.YtccfbnhlhjlmgaaDoorEs5
import Derived.Test.YtccfbnhlhjlmgaaDoorNumbers
namespace Go.Proofs.YtccfbnhlhjlmgaaDoor
open Go.RowKit
set_option linter.unusedVariables false

theorem nms_size {n : Nat} : ∀ s ∈ nms.take n, s.size ≤ maxLen := fun s hs => by
  have h : ∀ s ∈ nms, s.size ≤ maxLen := by decide
  exact h s (List.mem_of_mem_take hs)
theorem alloc2_blocks (w : World) (P Q : Obj) : ((w.alloc P).alloc Q).heap[w.heap.size]? = some P ∧ ((w.alloc P).alloc Q).heap[w.heap.size + 1]? = some Q ∧ Below w.heap.size w ((w.alloc P).alloc Q) :=
  ⟨heap_alloc2_old w P Q, heap_alloc2_new w P Q, ((Below.refl _ _).alloc (Nat.le_refl _) _).alloc (by simp) _⟩

set_option maxRecDepth 100000 in
set_option maxHeartbeats 8000000 in
theorem fnEval_walk (a : Option Addr) (len cap : Nat) (zs : List Int) (w : World) (hO : OpsAt w) (hK : KeysAt w) (hrow : IsRow .u8 w a len cap zs) :
    Calls Tryd.prog 6 #[.slice a len cap] w fun e w' => e = .returned (.bool true) ∧ Below w.heap.size w w' := by
  have hin := bytes_of_row hrow
  have hcap := cap_of_row hrow
  clear hrow
  by_cases hbig : 1048576 < len
  · go_enter Tryd.func6, Tryd.ntmps6
    go_wp2
    go_ret
    exact ⟨rfl, Below.refl _ _⟩
  go_enter Tryd.func6, Tryd.ntmps6
  go_wp2_with fail
  refine (drawEvalExpr_any w a len cap _ hin hcap).mono ?_
  rintro e w1 ⟨cs, x, na, nn, nc, va, vn, vc, vs, rfl, hx, hL, hns, hnn, hvs, hvn, hb1⟩
  obtain ⟨xa, xc, rfl⟩ := exprAt_form hx
  have HD := Lib.hid (And.intro (And.intro hx hL) (And.intro (And.intro hns hnn) (And.intro hvs hvn)))
  have HW := Lib.hid (And.intro hb1 (And.intro (hO.later hb1) (hK.later hb1)))
  clear hx hL hns hnn hvs hvn hb1 hO hK hin hcap hbig
  have hba : Below w1.heap.size w1 (w1.alloc (.cells #[.int .i64 x.op, .int .i64 x.n, .string x.name, .slice xa x.kids.length xc] 29)) := (Below.refl _ _).alloc (Nat.le_refl _) _
  have HE := Lib.hid (And.intro hba (heap_alloc_new w1 (.cells #[.int .i64 x.op, .int .i64 x.n, .string x.name, .slice xa x.kids.length xc] 29)))
  clear hba
  go_upto_region 4 with fail
  obtain ⟨eb, heb⟩ : ∃ b, b = w1.heap.size := ⟨_, rfl⟩
  rw [← heb] at HE ⊢
  generalize w1.alloc (.cells #[.int .i64 x.op, .int .i64 x.n, .string x.name, .slice xa x.kids.length xc] 29) = W2 at HE ⊢
  have HE1 := Lib.hid (show Below w1.heap.size w1 W2 from by rw [← heb]; exact HE.out.1)
  clear heb
  obtain ⟨r1, r2, hr⟩ : ∃ r1 r2, evalR2 (nms.take nn) vs 12 x = (r1, r2) := ⟨_, _, rfl⟩
  have HIM := Lib.hid (evalExprN_any 12 _ x (nms.take nn) vs na va nn nc vn vc W2 (HW.out.2.1.later HE1.out) (HW.out.2.2.later HE1.out) (exprAt_lasts 12 _ _ _ _ HE1.out HD.out.1.1) (HD.out.2.1.1.later HE1.out) (by have := HD.out.2.1.2; omega) nms_size (HD.out.2.2.1.later HE1.out) (by have := HD.out.2.2.2; omega))
  rw [hr] at HIM
  have HR := Lib.hid hr
  clear hr
  have e0 := cell_of_row _ _ 0 _ _ _ HE.out.2
  have e1 := cell_of_row _ _ 1 _ _ _ HE.out.2
  have e2 := cell_of_row _ _ 2 _ _ _ HE.out.2
  have e3 := cell_of_row _ _ 3 _ _ _ HE.out.2
  simp only [List.getElem?_toArray, List.getElem?_cons_zero, List.getElem?_cons_succ] at e0 e1 e2 e3
  go_wp2_with fail
  refine HIM.out.mono ?_
  rintro e w3 ⟨rfl, hb3⟩
  have H3 := Lib.hid (HE1.out.trans (hb3.mono HE1.out.size))
  have k0 := cell_later hb3 e0
  have k1 := cell_later hb3 e1
  have k2 := cell_later hb3 e2
  have k3 := cell_later hb3 e3
  clear hb3 HIM e0 e1 e2 e3
  have HSP := Lib.hid (evalExprS_any 12 _ x (nms.take nn) vs na va nn nc vn vc w3 (exprAt_lasts 12 _ _ _ _ H3.out HD.out.1.1) HD.out.1.2 (HD.out.2.1.1.later H3.out) (by have := HD.out.2.1.2; omega) (HD.out.2.2.1.later H3.out) (by have := HD.out.2.2.2; omega))
  rw [HR.out] at HSP
  go_wp2_with fail
  refine HSP.out.mono ?_
  rintro e w4 ⟨rfl, hb4⟩
  have H4 := Lib.hid (H3.out.trans (hb4.mono H3.out.size))
  have l0 := cell_later hb4 k0
  have l1 := cell_later hb4 k1
  have l2 := cell_later hb4 k2
  have l3 := cell_later hb4 k3
  clear hb4 HSP k0 k1 k2 k3 H3
  have hne1 : (r1 != r1) = false := by simp
  have hne2 : (r2 != r2) = false := by simp
  have heq1 : (r1 == r1) = true := by simp
  have heq2 : (r2 == r2) = true := by simp
  have hcase := evalR2_cases (nms.take nn) vs 12 x
  rw [HR.out] at hcase
  rcases hcase with hc | ⟨hv, hvl, hvb, hva, hc⟩
  · simp only [Prod.mk.injEq] at hc
    obtain ⟨rfl, rfl⟩ := hc
    go_wp2
    go_ret
    exact ⟨rfl, HW.out.1.trans (H4.out.mono HW.out.1.size)⟩
  have HV := Lib.hid (And.intro hv (And.intro hvl (And.intro hvb hva)))
  have HC := Lib.hid hc
  have hend : ¬ r2 < 0 := by
    cases hg : evalV (valV (nms.take nn) vs) 12 x with
    | none => rw [hg] at hc; cases hc; omega
    | some v => rw [hg] at hc; cases hc; omega
  have hd2 : decide (r2 < 0) = false := decide_eq_false hend
  clear hv hvl hvb hva hc
  have hx4 := exprAt_lasts 12 _ _ _ _ H4.out HD.out.1.1
  have HA := Lib.hid (alloc2_blocks w4 (.cells #[.int .i64 x.op, .int .i64 x.n, .string x.name, .slice xa x.kids.length xc, .int .i64 1, .int .i64 r1, .string ⟨#[]⟩, .slice none 0 0] 29) (.cells #[.int .i64 9, .int .i64 0, .string ⟨#[]⟩, .slice (some ⟨w4.heap.size, 0, none⟩) 2 2] 29))
  have HX4 := Lib.hid hx4
  clear hx4 hend
  go_upto_region 9 with fail
  obtain ⟨kb, hkb⟩ : ∃ b, b = w4.heap.size := ⟨_, rfl⟩
  have m0 := cell_later HA.out.2.2 l0
  have m1 := cell_later HA.out.2.2 l1
  have m2 := cell_later HA.out.2.2 l2
  have m3 := cell_later HA.out.2.2 l3
  have H5 := Lib.hid (H4.out.trans (HA.out.2.2.mono H4.out.size))
  clear l0 l1 l2 l3
  generalize (w4.alloc (.cells #[.int .i64 x.op, .int .i64 x.n, .string x.name, .slice xa x.kids.length xc, .int .i64 1, .int .i64 r1, .string ⟨#[]⟩, .slice none 0 0] 29)).alloc (.cells #[.int .i64 9, .int .i64 0, .string ⟨#[]⟩, .slice (some ⟨w4.heap.size, 0, none⟩) 2 2] 29) = W5 at HA H5 m0 m1 m2 m3 ⊢
  have HX5 := Lib.hid (show ExprAt 13 W5 [.int .i64 9, .int .i64 0, .string ⟨#[]⟩, .slice (some ⟨kb, 0, none⟩) 2 2] (.mk 9 0 ⟨#[]⟩ [x, numE r1]) ∧ W5.heap[kb + 1]? = some (.cells #[.int .i64 9, .int .i64 0, .string ⟨#[]⟩, .slice (some ⟨kb, 0, none⟩) 2 2] 29 (0, 0)) by
    rw [hkb]
    exact ⟨two_exprAt (d := 12) (by omega) (c1 := [.int .i64 x.op, .int .i64 x.n, .string x.name, .slice xa x.kids.length xc]) HA.out.1 rfl rfl (exprAt_lasts 12 _ _ _ _ HA.out.2.2 HX4.out) (exprAt_num 11 r1), HA.out.2.1⟩)
  rw [← hkb]
  clear HA HX4 hkb
  have HA2 := Lib.hid (alloc2_blocks W5 (.cells #[.int .i64 x.op, .int .i64 x.n, .string x.name, .slice xa x.kids.length xc, .int .i64 x.op, .int .i64 x.n, .string x.name, .slice xa x.kids.length xc] 29) (.cells #[.int .i64 4, .int .i64 0, .string ⟨#[]⟩, .slice (some ⟨W5.heap.size, 0, none⟩) 2 2] 29))
  go_upto_region 10 with fail
  obtain ⟨yb, hyb⟩ : ∃ b, b = W5.heap.size := ⟨_, rfl⟩
  have H6 := Lib.hid (H5.out.trans (HA2.out.2.2.mono H5.out.size))
  have x0 := cell_later HA2.out.2.2 (cell_of_row _ _ 0 _ _ _ HX5.out.2)
  have x1 := cell_later HA2.out.2.2 (cell_of_row _ _ 1 _ _ _ HX5.out.2)
  have x2 := cell_later HA2.out.2.2 (cell_of_row _ _ 2 _ _ _ HX5.out.2)
  have x3 := cell_later HA2.out.2.2 (cell_of_row _ _ 3 _ _ _ HX5.out.2)
  have HX6 := Lib.hid (exprAt_lasts 13 _ _ _ _ HA2.out.2.2 HX5.out.1)
  clear m0 m1 m2 m3
  generalize (W5.alloc (.cells #[.int .i64 x.op, .int .i64 x.n, .string x.name, .slice xa x.kids.length xc, .int .i64 x.op, .int .i64 x.n, .string x.name, .slice xa x.kids.length xc] 29)).alloc (.cells #[.int .i64 4, .int .i64 0, .string ⟨#[]⟩, .slice (some ⟨W5.heap.size, 0, none⟩) 2 2] 29) = W6 at HA2 H6 HX6 x0 x1 x2 x3 ⊢
  have HY6 := Lib.hid (show ExprAt 13 W6 [.int .i64 4, .int .i64 0, .string ⟨#[]⟩, .slice (some ⟨yb, 0, none⟩) 2 2] (.mk 4 0 ⟨#[]⟩ [x, x]) ∧ W6.heap[yb + 1]? = some (.cells #[.int .i64 4, .int .i64 0, .string ⟨#[]⟩, .slice (some ⟨yb, 0, none⟩) 2 2] 29 (0, 0)) by
    rw [hyb]
    exact ⟨two_exprAt (d := 12) (by omega) (c1 := [.int .i64 x.op, .int .i64 x.n, .string x.name, .slice xa x.kids.length xc]) HA2.out.1 rfl rfl (exprAt_lasts 12 _ _ _ _ H6.out HD.out.1.1) (exprAt_lasts 12 _ _ _ _ H6.out HD.out.1.1), HA2.out.2.1⟩)
  rw [← hyb]
  clear HA2 hyb HX5 H5
  have y0 := cell_of_row _ _ 0 _ _ _ HY6.out.2
  have y1 := cell_of_row _ _ 1 _ _ _ HY6.out.2
  have y2 := cell_of_row _ _ 2 _ _ _ HY6.out.2
  have y3 := cell_of_row _ _ 3 _ _ _ HY6.out.2
  simp only [List.getElem?_toArray, List.getElem?_cons_zero, List.getElem?_cons_succ] at y0 y1 y2 y3
  have HRG := Lib.hid (show ∀ v, evalV (valV (nms.take nn) vs) 12 x = some v → 0 ≤ v ∧ v ≤ 255 from fun v hg => evalV_range (fun s v h => valV_range HV.out.2.2.1 h) 12 6 x v HV.out.1 HV.out.2.2.2 hg)
  have HIMF := Lib.hid (show ∀ (W : World) (cs' : List Value) (y : ExprD), Below w1.heap.size w1 W → ExprAt 13 W cs' y → Calls Tryd.prog 17 #[.agg cs'.toArray, .slice na nn nc, .slice va vn vc] W fun e w' => e = .returned (.tuple #[.int .i64 (evalR2 (nms.take nn) vs 13 y).1, .int .i64 (evalR2 (nms.take nn) vs 13 y).2]) ∧ Below W.heap.size W w' from fun W cs' y hW hy =>
    evalExprN_any 13 cs' y (nms.take nn) vs na va nn nc vn vc W (HW.out.2.1.later hW) (HW.out.2.2.later hW) hy (HD.out.2.1.1.later hW) (by have := HD.out.2.1.2; omega) nms_size (HD.out.2.2.1.later hW) (by have := HD.out.2.2.2; omega))
  have HVAL := Lib.hid (show ∀ (W : World) (cs' : List Value) (y : ExprD), Below w1.heap.size w1 W → ExprAt 13 W cs' y → Calls Tryd.prog 31 #[.agg cs'.toArray] W fun e w' => e = .returned (.bool (sizeD nameD 6 y).isSome) ∧ Below W.heap.size W w' from fun W cs' y hW hy =>
    exprValidN_any 13 cs' y W (HW.out.2.1.later hW) (HW.out.2.2.later hW) hy)
  have HYV := Lib.hid (show sizeD nameD 6 (.mk 4 0 ⟨#[]⟩ [x, x]) ≠ none → evalR2 (nms.take nn) vs 13 (.mk 4 0 ⟨#[]⟩ [x, x]) = (0, r2) from fun h => by
    rw [sub_value (d := 11) h HV.out.2.1 HV.out.2.2.1 HV.out.2.2.2, ← HC.out])
  cases hg : evalV (valV (nms.take nn) vs) 12 x with
  | none =>
    have hcc := HC.out
    rw [hg] at hcc
    simp only [arithP, Prod.mk.injEq] at hcc
    obtain ⟨rfl, rfl⟩ := hcc
    clear hg x0 x1 x2 x3
    have HVY := Lib.hid (HVAL.out W6 _ _ H6.out HY6.out.1)
    cases hsy : sizeD nameD 6 (.mk 4 0 ⟨#[]⟩ [x, x]) with
    | none =>
      rw [hsy] at HVY
      clear hsy
      go_wp2_with fail
      refine HVY.out.mono ?_
      rintro e w8 ⟨he, hb8⟩
      obtain rfl : e = .returned (.bool false) := he
      have HB8 := Lib.hid (H6.out.trans (hb8.mono (Below.size H6.out)))
      clear hb8 y0 y1 y2 y3
      go_wp2
      go_ret
      exact ⟨rfl, HW.out.1.trans (HB8.out.mono HW.out.1.size)⟩
    | some qy =>
      have HQY := Lib.hid (HYV.out (by rw [hsy]; simp))
      rw [hsy] at HVY
      clear hsy
      go_wp2_with fail
      refine HVY.out.mono ?_
      rintro e w8 ⟨he, hb8⟩
      obtain rfl : e = .returned (.bool true) := he
      have HB8 := Lib.hid (H6.out.trans (hb8.mono (Below.size H6.out)))
      have HEY := Lib.hid (HIMF.out w8 _ _ HB8.out (exprAt_lasts 13 _ _ _ _ hb8 HY6.out.1))
      rw [HQY.out] at HEY
      have z0 := cell_later hb8 y0
      have z1 := cell_later hb8 y1
      have z2 := cell_later hb8 y2
      have z3 := cell_later hb8 y3
      clear hb8 y0 y1 y2 y3
      go_wp2_with fail
      refine HEY.out.mono ?_
      rintro e w9 ⟨he, hb9⟩
      obtain rfl : e = .returned (.tuple #[.int .i64 0, .int .i64 1]) := he
      have HB9 := Lib.hid (HB8.out.trans (hb9.mono HB8.out.size))
      clear hb9 z0 z1 z2 z3
      go_wp2
      go_ret
      exact ⟨rfl, HW.out.1.trans (HB9.out.mono HW.out.1.size)⟩
  | some v =>
    have hcc := HC.out
    rw [hg] at hcc
    simp only [arithP, Prod.mk.injEq] at hcc
    obtain ⟨rfl, rfl⟩ := hcc
    have hr := HRG.out r1 hg
    obtain ⟨hr0, hr1⟩ := hr
    have HG := Lib.hid hg
    clear hg
    have HVX := Lib.hid (HVAL.out W6 _ _ H6.out HX6.out)
    cases hsx : sizeD nameD 6 (.mk 9 0 ⟨#[]⟩ [x, numE r1]) with
    | none =>
      rw [hsx] at HVX
      clear hsx
      go_wp2_with fail
      refine HVX.out.mono ?_
      rintro e w7 ⟨he, hb7⟩
      obtain rfl : e = .returned (.bool false) := he
      have H7 := Lib.hid (H6.out.trans (hb7.mono H6.out.size))
      have HY7 := Lib.hid (exprAt_lasts 13 _ _ _ _ hb7 HY6.out.1)
      have u0 := cell_later hb7 y0
      have u1 := cell_later hb7 y1
      have u2 := cell_later hb7 y2
      have u3 := cell_later hb7 y3
      clear hb7 x0 x1 x2 x3 y0 y1 y2 y3
      have HVY := Lib.hid (HVAL.out w7 _ _ H7.out HY7.out)
      cases hsy : sizeD nameD 6 (.mk 4 0 ⟨#[]⟩ [x, x]) with
      | none =>
        rw [hsy] at HVY
        clear hsy
        go_wp2_with fail
        refine HVY.out.mono ?_
        rintro e w8 ⟨he, hb8⟩
        obtain rfl : e = .returned (.bool false) := he
        have HB8 := Lib.hid (H7.out.trans (hb8.mono (Below.size H7.out)))
        clear hb8 u0 u1 u2 u3
        go_wp2
        go_ret
        exact ⟨rfl, HW.out.1.trans (HB8.out.mono HW.out.1.size)⟩
      | some qy =>
        have HQY := Lib.hid (HYV.out (by rw [hsy]; simp))
        rw [hsy] at HVY
        clear hsy
        go_wp2_with fail
        refine HVY.out.mono ?_
        rintro e w8 ⟨he, hb8⟩
        obtain rfl : e = .returned (.bool true) := he
        have HB8 := Lib.hid (H7.out.trans (hb8.mono (Below.size H7.out)))
        have HEY := Lib.hid (HIMF.out w8 _ _ HB8.out (exprAt_lasts 13 _ _ _ _ hb8 HY7.out))
        rw [HQY.out] at HEY
        have z0 := cell_later hb8 u0
        have z1 := cell_later hb8 u1
        have z2 := cell_later hb8 u2
        have z3 := cell_later hb8 u3
        clear hb8 u0 u1 u2 u3
        go_wp2_with fail
        refine HEY.out.mono ?_
        rintro e w9 ⟨he, hb9⟩
        obtain rfl : e = .returned (.tuple #[.int .i64 0, .int .i64 0]) := he
        have HB9 := Lib.hid (HB8.out.trans (hb9.mono HB8.out.size))
        clear hb9 z0 z1 z2 z3
        go_wp2
        go_ret
        exact ⟨rfl, HW.out.1.trans (HB9.out.mono HW.out.1.size)⟩
    | some qx =>
      have HQX := Lib.hid (same_value (d := 11) (ns := nms.take nn) (vs := vs) (by rw [hsx]; simp) HV.out.2.1 HV.out.2.2.1 HV.out.2.2.2 HG.out)
      rw [hsx] at HVX
      clear hsx
      go_wp2_with fail
      refine HVX.out.mono ?_
      rintro e w7 ⟨he, hb7⟩
      obtain rfl : e = .returned (.bool true) := he
      have H7 := Lib.hid (H6.out.trans (hb7.mono H6.out.size))
      have HY7 := Lib.hid (exprAt_lasts 13 _ _ _ _ hb7 HY6.out.1)
      have HEX := Lib.hid (HIMF.out w7 _ _ H7.out (exprAt_lasts 13 _ _ _ _ hb7 HX6.out))
      rw [HQX.out] at HEX
      have u0 := cell_later hb7 y0
      have u1 := cell_later hb7 y1
      have u2 := cell_later hb7 y2
      have u3 := cell_later hb7 y3
      have t0 := cell_later hb7 x0
      have t1 := cell_later hb7 x1
      have t2 := cell_later hb7 x2
      have t3 := cell_later hb7 x3
      clear hb7 x0 x1 x2 x3 y0 y1 y2 y3
      go_wp2_with fail
      refine HEX.out.mono ?_
      rintro e w7b ⟨he, hb7⟩
      obtain rfl : e = .returned (.tuple #[.int .i64 1, .int .i64 0]) := he
      have H7b := Lib.hid (H7.out.trans (hb7.mono H7.out.size))
      have HY7b := Lib.hid (exprAt_lasts 13 _ _ _ _ hb7 HY7.out)
      have s0 := cell_later hb7 u0
      have s1 := cell_later hb7 u1
      have s2 := cell_later hb7 u2
      have s3 := cell_later hb7 u3
      clear hb7 t0 t1 t2 t3 u0 u1 u2 u3
      have HVY := Lib.hid (HVAL.out w7b _ _ H7b.out HY7b.out)
      cases hsy : sizeD nameD 6 (.mk 4 0 ⟨#[]⟩ [x, x]) with
      | none =>
        rw [hsy] at HVY
        clear hsy
        go_wp2_with fail
        refine HVY.out.mono ?_
        rintro e w8 ⟨he, hb8⟩
        obtain rfl : e = .returned (.bool false) := he
        have HB8 := Lib.hid (H7b.out.trans (hb8.mono (Below.size H7b.out)))
        clear hb8 s0 s1 s2 s3
        go_wp2
        go_ret
        exact ⟨rfl, HW.out.1.trans (HB8.out.mono HW.out.1.size)⟩
      | some qy =>
        have HQY := Lib.hid (HYV.out (by rw [hsy]; simp))
        rw [hsy] at HVY
        clear hsy
        go_wp2_with fail
        refine HVY.out.mono ?_
        rintro e w8 ⟨he, hb8⟩
        obtain rfl : e = .returned (.bool true) := he
        have HB8 := Lib.hid (H7b.out.trans (hb8.mono (Below.size H7b.out)))
        have HEY := Lib.hid (HIMF.out w8 _ _ HB8.out (exprAt_lasts 13 _ _ _ _ hb8 HY7b.out))
        rw [HQY.out] at HEY
        have z0 := cell_later hb8 s0
        have z1 := cell_later hb8 s1
        have z2 := cell_later hb8 s2
        have z3 := cell_later hb8 s3
        clear hb8 s0 s1 s2 s3
        go_wp2_with fail
        refine HEY.out.mono ?_
        rintro e w9 ⟨he, hb9⟩
        obtain rfl : e = .returned (.tuple #[.int .i64 0, .int .i64 0]) := he
        have HB9 := Lib.hid (HB8.out.trans (hb9.mono HB8.out.size))
        clear hb9 z0 z1 z2 z3
        go_wp2
        go_ret
        exact ⟨rfl, HW.out.1.trans (HB9.out.mono HW.out.1.size)⟩

end Go.Proofs.YtccfbnhlhjlmgaaDoor
