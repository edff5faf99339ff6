
/-
  The walk of the law FnExactEvalExpr.
-/
import Derived.Test.YtccfbnhlhjlmgaaDoorEd2
import Derived.Test.YtccfbnhlhjlmgaaDoorEd3
import Derived.Test.YtccfbnhlhjlmgaaDoorEy9
import Derived.Test.YtccfbnhlhjlmgaaDoorEs5
import Derived.Test.YtccfbnhlhjlmgaaDoorLaw
import Derived.Deep.RegionLaw
namespace Go.Proofs.YtccfbnhlhjlmgaaDoor
open Go.RowKit

theorem exprO_form {d : Nat} {lo hi : Nat} {w : World} {cs : List Value} {x : ExprD} (h : ExprO d lo hi w cs x) : ∃ a c, cs = [.int .i64 x.op, .int .i64 x.n, .string x.name, .slice a x.kids.length c] := by
  cases d with
  | zero => exact h.elim
  | succ d => obtain ⟨a, c, h1, _⟩ := h; exact ⟨a, c, h1⟩
/-- A copy, as it reads. -/
theorem toExprC_any (d : Nat) (cs : List Value) (x : ExprD) (w : World) (hx : ExprAt d w cs x) (hs : szE d x ≤ 1048576) :
    Calls Tryd.prog 42 #[.agg cs.toArray] w fun e w' => ∃ a' c', e = .returned (.agg #[.int .i64 x.op, .int .i64 x.n, .string x.name, .slice a' x.kids.length c']) ∧ ExprAt d w' [.int .i64 x.op, .int .i64 x.n, .string x.name, .slice a' x.kids.length c'] x ∧ Below w.heap.size w w' := by
  refine (toExpr_any d cs x w hx hs).mono ?_
  rintro e w' ⟨cs', rfl, hO, hb⟩
  obtain ⟨a', c', rfl⟩ := exprO_form hO
  exact ⟨a', c', rfl, exprO_rd d _ _ _ _ _ hO, hb⟩
theorem toIntC_any (a : Option Addr) (len cap : Nat) (xs : List Int) (w : World) (h : IntsRd w a len xs) (hs : len ≤ 1048576) :
    Calls Tryd.prog 44 #[.slice a len cap] w fun e w' => ∃ a' c', e = .returned (.slice a' len c') ∧ IntsRd w' a' len xs ∧ Below w.heap.size w w' := by
  refine (toIntS_any a len cap xs w h (by omega)).mono ?_
  rintro e w' ⟨a', c', rfl, ho, hb⟩
  exact ⟨a', c', rfl, (ints_of_own ho).toIntsRd, hb⟩

set_option maxRecDepth 100000 in
set_option maxHeartbeats 8000000 in
theorem fnExactEvalExpr_walk (d : Nat) (cs : List Value) (x : ExprD) (na : Option Addr) (nn nc : Nat) (ns : List ByteArray) (va : Option Addr) (vn vc : Nat) (zs : List Int) (w : World) (hO : OpsAt w) (hK : KeysAt w)
    (hx : ExprAt d w cs x) (hL : anyE longP d x = false) (hnn : nn ≤ maxLen) (hns : StrsE w na nn ns) (hsz : ∀ s ∈ ns, s.size ≤ maxLen) (hrow : IsRow .i64 w va vn vc zs) :
    Calls Tryd.prog 9 #[.agg cs.toArray, .slice na nn nc, .slice va vn vc] w fun e w' => e = .returned (.bool true) ∧ Below w.heap.size w w' := by
  have hvs := ints_of_row hrow
  clear hrow
  generalize zs.take vn = vs at hvs
  have hx2 := hx
  obtain ⟨ka, kc, rfl⟩ : ∃ ka kc, cs = [.int .i64 x.op, .int .i64 x.n, .string x.name, .slice ka x.kids.length kc] := by
    cases d with
    | zero => exact hx.elim
    | succ d => obtain ⟨a, c, h, _⟩ := hx2; exact ⟨a, c, h⟩
  clear hx2
  show Calls _ _ #[.agg #[.int .i64 x.op, .int .i64 x.n, .string x.name, .slice ka x.kids.length kc], _, _] w _
  have hnn2 : nn ≤ 9223372036854775807 := by unfold maxLen at hnn; omega
  have hb0 : Below w.heap.size w (w.alloc (.cells #[.int .i64 x.op, .int .i64 x.n, .string x.name, .slice ka x.kids.length kc] 60)) := (Below.refl _ _).alloc (Nat.le_refl _) _
  have hA0 := heap_alloc_new w (.cells #[.int .i64 x.op, .int .i64 x.n, .string x.name, .slice ka x.kids.length kc] 60)
  have HW := Lib.hid (And.intro (And.intro hO hK) (And.intro (And.intro hx hL) (And.intro (And.intro hns hsz) hvs)))
  clear hO hK hx hL hns hsz hvs hnn
  go_enter Tryd.func9, Tryd.ntmps9
  by_cases hbig : 1048576 < vn
  · go_wp2
    go_ret
    exact ⟨rfl, hb0⟩
  have k0 := cell_of_row _ _ 0 _ _ _ hA0
  have k1 := cell_of_row _ _ 1 _ _ _ hA0
  have k2 := cell_of_row _ _ 2 _ _ _ hA0
  have k3 := cell_of_row _ _ 3 _ _ _ hA0
  simp only [List.getElem?_toArray, List.getElem?_cons_zero, List.getElem?_cons_succ] at k0 k1 k2 k3
  have H0 := Lib.hid hb0
  have HV := Lib.hid (show vn ≤ 1048576 by omega)
  clear hb0 hA0
  go_wp2_with fail
  clear hbig
  generalize (w.alloc (.cells #[.int .i64 x.op, .int .i64 x.n, .string x.name, .slice ka x.kids.length kc] 60)) = W0 at H0 k0 k1 k2 k3 ⊢
  refine (szExpr_any d _ x 1048576 W0 (exprAt_lasts d _ _ _ _ H0.out HW.out.2.1.1) HW.out.2.1.2 (by omega) (by omega)).mono ?_
  rintro e w1 ⟨hsz, hb1⟩
  have k01 := cell_later hb1 k0
  have k11 := cell_later hb1 k1
  have k21 := cell_later hb1 k2
  have k31 := cell_later hb1 k3
  have H1 := Lib.hid (H0.out.trans (hb1.mono H0.out.size))
  clear k0 k1 k2 k3 hb1 H0
  rcases hsz with ⟨hsz, rfl⟩ | ⟨hsz, rfl⟩
  · go_wp2
    go_ret
    exact ⟨rfl, H1.out⟩
  have hneg : decide (1048576 - (szE d x : Int) < 0) = false := decide_eq_false (by omega)
  have HS := Lib.hid (show szE d x ≤ 1048576 by omega)
  have hl0 : 0 ≤ (1048576 - (szE d x : Int)) := by omega
  have hl1 : (1048576 - (szE d x : Int)) ≤ 1048576 := by omega
  clear hsz
  generalize (1048576 - (szE d x : Int)) = left at hneg hl0 hl1 ⊢
  have HSZ := Lib.hid (szStringS_any na nn nc ns left w1 (HW.out.2.2.1.1.later H1.out) HW.out.2.2.1.2 hl0 hl1 hnn2)
  go_wp2_with fail
  refine HSZ.out.mono ?_
  rintro e w2 ⟨hsz, rfl⟩
  clear HSZ hneg
  rcases hsz with ⟨hsz, rfl⟩ | ⟨hsz, rfl⟩
  · go_wp2
    go_ret
    exact ⟨rfl, H1.out⟩
  have hneg : decide (left - (szS ByteArray.size ns : Int) < 0) = false := decide_eq_false (by omega)
  have HN := Lib.hid (show nn ≤ 1048576 by have := szS_len ByteArray.size ns; have := HW.out.2.2.1.1.length; omega)
  clear hsz hl0 hl1
  generalize (left - (szS ByteArray.size ns : Int)) = left2 at hneg ⊢
  have HTE := Lib.hid (fun (W : World) (hW : Below w2.heap.size w2 W) => toExprC_any d _ x W (exprAt_lasts d _ _ _ _ (H1.out.trans (hW.mono H1.out.size)) HW.out.2.1.1) HS.out)
  have HTS := Lib.hid (fun (W : World) (hW : Below w2.heap.size w2 W) => toStringS_any na nn nc ns W (HW.out.2.2.1.1.later (H1.out.trans (hW.mono H1.out.size))) HN.out)
  have HTI := Lib.hid (fun (W : World) (hW : Below w2.heap.size w2 W) => toIntC_any va vn vc vs W (HW.out.2.2.2.later (H1.out.trans (hW.mono H1.out.size))) HV.out)
  go_wp2_with fail
  clear hneg
  refine (HTE.out _ (Below.refl _ _)).mono ?_
  rintro e w3 ⟨ea, ec, rfl, hE3, hb3⟩
  have HB3 := Lib.hid (And.intro hb3 hE3)
  have k03 := cell_later hb3 k01
  have k13 := cell_later hb3 k11
  have k23 := cell_later hb3 k21
  have k33 := cell_later hb3 k31
  clear k01 k11 k21 k31 hb3 hE3
  go_wp2_with fail
  refine (HTS.out _ HB3.out.1).mono ?_
  rintro e w4 ⟨sa, sc, rfl, hS4, hb4⟩
  have HB4 := Lib.hid (And.intro (HB3.out.1.trans (hb4.mono HB3.out.1.size)) (And.intro (exprAt_lasts d _ _ _ _ hb4 HB3.out.2) hS4))
  have k04 := cell_later hb4 k03
  have k14 := cell_later hb4 k13
  have k24 := cell_later hb4 k23
  have k34 := cell_later hb4 k33
  clear k03 k13 k23 k33 hb4 hS4 HB3
  go_wp2_with fail
  refine (HTI.out _ HB4.out.1).mono ?_
  rintro e w5 ⟨ia, ic, rfl, hI5, hb5⟩
  have HB5 := Lib.hid (And.intro (HB4.out.1.trans (hb5.mono HB4.out.1.size)) (And.intro (exprAt_lasts d _ _ _ _ hb5 HB4.out.2.1) (And.intro (HB4.out.2.2.later hb5) hI5)))
  have k05 := cell_later hb5 k04
  have k15 := cell_later hb5 k14
  have k25 := cell_later hb5 k24
  have k35 := cell_later hb5 k34
  clear k04 k14 k24 k34 hb5 hI5 HB4
  have HSP := Lib.hid (evalExprS_any d _ x ns vs sa ia nn sc vn ic w5 HB5.out.2.1 HW.out.2.1.2 HB5.out.2.2.1 (by have := HN.out; omega) HB5.out.2.2.2 (by have := HV.out; omega))
  obtain ⟨r1, r2, hr⟩ : ∃ r1 r2, evalR2 ns vs d x = (r1, r2) := ⟨_, _, rfl⟩
  rw [hr] at HSP
  have HR := Lib.hid hr
  clear hr
  go_wp2_with fail
  refine HSP.out.mono ?_
  rintro e w6 ⟨rfl, hb6⟩
  have HB6 := Lib.hid (HB5.out.1.trans (hb6.mono HB5.out.1.size))
  have k06 := cell_later hb6 k05
  have k16 := cell_later hb6 k15
  have k26 := cell_later hb6 k25
  have k36 := cell_later hb6 k35
  clear k05 k15 k25 k35 hb6 HSP HB5
  go_wp2_with fail
  refine (HTE.out _ HB6.out).mono ?_
  rintro e w7 ⟨ya, yc, rfl, hE7, hb7⟩
  have hba : Below w7.heap.size w7 (w7.alloc (.cells #[.int .i64 x.op, .int .i64 x.n, .string x.name, .slice ya x.kids.length yc] 29)) := (Below.refl _ _).alloc (Nat.le_refl _) _
  have hb78 := hb7.trans (hba.mono hb7.size)
  have HB7 := Lib.hid (And.intro (HB6.out.trans (hb78.mono HB6.out.size)) (And.intro (heap_alloc_new w7 (.cells #[.int .i64 x.op, .int .i64 x.n, .string x.name, .slice ya x.kids.length yc] 29)) (exprAt_lasts d _ _ _ _ hba hE7)))
  have k07 := cell_later hb78 k06
  have k17 := cell_later hb78 k16
  have k27 := cell_later hb78 k26
  have k37 := cell_later hb78 k36
  have y0 := cell_of_row _ _ 0 _ _ _ HB7.out.2.1
  have y1 := cell_of_row _ _ 1 _ _ _ HB7.out.2.1
  have y2 := cell_of_row _ _ 2 _ _ _ HB7.out.2.1
  have y3 := cell_of_row _ _ 3 _ _ _ HB7.out.2.1
  simp only [List.getElem?_toArray, List.getElem?_cons_zero, List.getElem?_cons_succ] at y0 y1 y2 y3
  clear k06 k16 k26 k36 hba hb7 hb78 hE7 HB6
  go_wp2_with fail
  generalize w7.alloc (.cells #[.int .i64 x.op, .int .i64 x.n, .string x.name, .slice ya x.kids.length yc] 29) = W8 at HB7 k07 k17 k27 k37 y0 y1 y2 y3 ⊢
  obtain ⟨by1, hby⟩ : ∃ b, b = w7.heap.size := ⟨_, rfl⟩
  rw [← hby] at HB7 y0 y1 y2 y3 ⊢
  clear hby
  refine (HTS.out _ HB7.out.1).mono ?_
  rintro e w9 ⟨ta, tc, rfl, hS9, hb9⟩
  have HB9 := Lib.hid (And.intro (HB7.out.1.trans (hb9.mono HB7.out.1.size)) (And.intro (exprAt_lasts d _ _ _ _ hb9 HB7.out.2.2) hS9))
  have k09 := cell_later hb9 k07
  have k19 := cell_later hb9 k17
  have k29 := cell_later hb9 k27
  have k39 := cell_later hb9 k37
  have y09 := cell_later hb9 y0
  have y19 := cell_later hb9 y1
  have y29 := cell_later hb9 y2
  have y39 := cell_later hb9 y3
  clear k07 k17 k27 k37 y0 y1 y2 y3 hb9 hS9 HB7
  go_wp2_with fail
  refine (HTI.out _ HB9.out.1).mono ?_
  rintro e w10 ⟨ja, jc, rfl, hI10, hb10⟩
  have HB10 := Lib.hid (And.intro (HB9.out.1.trans (hb10.mono HB9.out.1.size)) (And.intro (exprAt_lasts d _ _ _ _ hb10 HB9.out.2.1) (And.intro (HB9.out.2.2.later hb10) hI10)))
  have k010 := cell_later hb10 k09
  have k110 := cell_later hb10 k19
  have k210 := cell_later hb10 k29
  have k310 := cell_later hb10 k39
  have y010 := cell_later hb10 y09
  have y110 := cell_later hb10 y19
  have y210 := cell_later hb10 y29
  have y310 := cell_later hb10 y39
  clear k09 k19 k29 k39 y09 y19 y29 y39 hb10 hI10 HB9
  have HIM := Lib.hid (evalExprN_any d _ x ns vs ta ja nn tc vn jc w10 (HW.out.1.1.later (H1.out.trans (HB10.out.1.mono H1.out.size))) (HW.out.1.2.later (H1.out.trans (HB10.out.1.mono H1.out.size))) HB10.out.2.1 HB10.out.2.2.1 (by have := HN.out; omega) HW.out.2.2.1.2 HB10.out.2.2.2 (by have := HV.out; omega))
  rw [HR.out] at HIM
  go_wp2_with fail
  refine HIM.out.mono ?_
  rintro e w11 ⟨rfl, hb11⟩
  have HB11 := Lib.hid (And.intro (HB10.out.1.trans (hb11.mono HB10.out.1.size)) (And.intro (exprAt_lasts d _ _ _ _ hb11 HB10.out.2.1) (And.intro (HB10.out.2.2.1.later hb11) (HB10.out.2.2.2.later hb11))))
  have k011 := cell_later hb11 k010
  have k111 := cell_later hb11 k110
  have k211 := cell_later hb11 k210
  have k311 := cell_later hb11 k310
  have y011 := cell_later hb11 y010
  have y111 := cell_later hb11 y110
  have y211 := cell_later hb11 y210
  have y311 := cell_later hb11 y310
  clear k010 k110 k210 k310 y010 y110 y210 y310 hb11 HIM HB10
  have hne1 : (r1 != r1) = false := by simp
  have hne2 : (r2 != r2) = false := by simp
  go_upto_region 17 with fail
  clear hne1 hne2
  have HT := Lib.hid (fun q : Nat => HTE.out (w11.drewN q) (below_drewN HB11.out.1 q))
  go_region_law (first | (go_simp; go_at_call 42; refine (HT.out _).mono ?_; rintro e w12 ⟨ta2, tc2, rfl, hU12, hb12⟩; (have hb1112 : Below w11.heap.size w11 w12 := ⟨hb12.os, hb12.tape, hb12.output, hb12.size, hb12.block⟩); (have hX12 := exprAt_lasts d _ _ _ _ hb1112 HB11.out.2.1); (have k012 := cell_later hb1112 k011); (have k112 := cell_later hb1112 k111); (have k212 := cell_later hb1112 k211); (have k312 := cell_later hb1112 k311); (have y012 := cell_later hb1112 y011); (have y112 := cell_later hb1112 y111); (have y212 := cell_later hb1112 y211); (have y312 := cell_later hb1112 y311)) | (go_simp; go_at_call 45; refine (eqExpr_any d _ _ x w12 hX12 hU12).mono ?_; rintro e w13 ⟨rfl, hb13⟩))
  all_goals
    have HB13 := Lib.hid (show Below w2.heap.size w2 w13 ∧ StrsE w13 ta nn ns ∧ IntsRd w13 ja vn vs from
      have hb := hb1112.trans (hb13.mono hb1112.size)
      ⟨HB11.out.1.trans (hb.mono HB11.out.1.size), HB11.out.2.2.1.later hb, HB11.out.2.2.2.later hb⟩)
    clear hb1112 hb13 hb12 hU12 hX12 k012 k112 k212 k312 y012 y112 y212 y312 k011 k111 k211 k311 y011 y111 y211 y311
    go_wp2_with fail
    refine (HTS.out _ HB13.out.1).mono ?_
    rintro e w14 ⟨ua, uc, rfl, hS14, hb14⟩
    have HB14 := Lib.hid (show Below w2.heap.size w2 w14 ∧ IntsRd w14 ja vn vs from ⟨HB13.out.1.trans (hb14.mono HB13.out.1.size), HB13.out.2.2.later hb14⟩)
    have HES := Lib.hid (eqStringS_any ta ua nn tc uc ns w14 (HB13.out.2.1.later hb14) hS14 HN.out)
    clear hS14 hb14
    go_wp2_with fail
    refine HES.out.mono ?_
    rintro e w15 ⟨rfl, hb15⟩
    have HB15 := Lib.hid (show Below w2.heap.size w2 w15 ∧ IntsRd w15 ja vn vs from ⟨HB14.out.1.trans (hb15.mono HB14.out.1.size), HB14.out.2.later hb15⟩)
    clear hb15 HES
    go_wp2_with fail
    refine (HTI.out _ HB15.out.1).mono ?_
    rintro e w16 ⟨va2, vc2, rfl, hI16, hb16⟩
    have HEI := Lib.hid (eqIntS_true ja va2 vn jc vc2 vs w16 (HB15.out.2.later hb16) hI16 (by have := HV.out; omega))
    have HB16 := Lib.hid (HB15.out.1.trans (hb16.mono HB15.out.1.size))
    clear hI16 hb16
    go_wp2_with fail
    refine HEI.out.mono ?_
    rintro e w17 ⟨rfl, hb17⟩
    have HE := Lib.hid (H1.out.trans ((HB16.out.trans (hb17.mono HB16.out.size)).mono H1.out.size))
    clear hb17
    go_wp2
    go_ret
    exact ⟨rfl, HE.out⟩

end Go.Proofs.YtccfbnhlhjlmgaaDoor
