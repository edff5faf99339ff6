
/-
  SameExpr of two that read alike (the reference's).
-/
import Derived.Test.YtccfbnhlhjlmgaaDoorPe1
import Derived.Test.YtccfbnhlhjlmgaaDoorEp
import Derived.Test.YtccfbnhlhjlmgaaDoorPt
import Derived.Deep.LoopGhost
import Derived.StillTailTactics
namespace Go.Proofs.YtccfbnhlhjlmgaaDoor
open Go.RowKit
set_option linter.unusedVariables false

set_option maxRecDepth 100000 in
set_option maxHeartbeats 4000000 in
theorem sameS_any : ∀ (m : Nat) (cs ds : List Value) (x : ExprD) (w : World), ExprAt m w cs x → ExprAt m w ds x →
    Calls Tryd.prog 51 #[.agg cs.toArray, .agg ds.toArray] w fun e w' => e = .returned (.bool true) ∧ Below w.heap.size w w' := by
  intro m
  induction m with
  | zero => exact fun _ _ _ _ h => h.elim
  | succ m ih =>
  intro cs ds x w hx hy
  obtain ⟨ka, kc, rfl, ⟨hkl, -⟩, hks⟩ := hx
  obtain ⟨ja, jc, rfl, -, hjs⟩ := hy
  have hkl2 : x.kids.length ≤ 9223372036854775807 := by unfold maxLen at hkl; omega
  have HB := Lib.hid (blocks2 w (.cells #[.int .i64 x.op, .int .i64 x.n, .string x.name, .slice ka x.kids.length kc] 29) (.cells #[.int .i64 x.op, .int .i64 x.n, .string x.name, .slice ja x.kids.length jc] 29))
  have HK := Lib.hid (And.intro hks hjs)
  have HIH := Lib.hid ih
  clear hks hjs ih hkl
  go_enter Tryd.func51, Tryd.ntmps51
  go_upto_region 1 with fail
  generalize (w.alloc (.cells #[.int .i64 x.op, .int .i64 x.n, .string x.name, .slice ka x.kids.length kc] 29)).alloc (.cells #[.int .i64 x.op, .int .i64 x.n, .string x.name, .slice ja x.kids.length jc] 29) = W1 at HB ⊢
  have p0 := cell_of_row _ _ 0 _ _ _ HB.out.1
  have p1 := cell_of_row _ _ 1 _ _ _ HB.out.1
  have p2 := cell_of_row _ _ 2 _ _ _ HB.out.1
  have p3 := cell_of_row _ _ 3 _ _ _ HB.out.1
  have q0 := cell_of_row _ _ 0 _ _ _ HB.out.2.1
  have q1 := cell_of_row _ _ 1 _ _ _ HB.out.2.1
  have q2 := cell_of_row _ _ 2 _ _ _ HB.out.2.1
  have q3 := cell_of_row _ _ 3 _ _ _ HB.out.2.1
  simp only [List.getElem?_toArray, List.getElem?_cons_zero, List.getElem?_cons_succ] at p0 p1 p2 p3 q0 q1 q2 q3
  have HBW := Lib.hid HB.out.2.2.1
  have i1 : (x.op != x.op) = false := by simp
  have i2 : (x.op == x.op) = true := by simp
  have i3 : (x.n != x.n) = false := by simp
  have i4 : (x.n == x.n) = true := by simp
  have i5 : (x.name.toList == x.name.toList) = true := by simp
  have i6 : ((x.kids.length : Int) != (x.kids.length : Int)) = false := by simp
  have i7 : ((x.kids.length : Int) == (x.kids.length : Int)) = true := by simp
  obtain ⟨b0, hb0⟩ : ∃ b, b = w.heap.size := ⟨_, rfl⟩
  rw [← hb0] at p0 p1 p2 p3 q0 q1 q2 q3 ⊢
  clear hb0
  go_wp2_with fail
  go_loopg [5] x.kids.length (fun G i wr => ∃ (j : Nat), j + G = x.kids.length ∧ i = .int .i64 j ∧ Hid (Below W1.heap.size W1 wr))
  case atStart => exact ⟨0, by omega, rfl, Lib.hid (Below.refl _ _)⟩
  case round =>
    obtain ⟨j, hj, rfl, HR⟩ := hrel
    have g3 := cell_later HR.out p3
    have h3 := cell_later HR.out q3
    clear i1 i2 i3 i4 i5 i6 i7 p0 p1 p2 p3 q0 q1 q2 q3
    by_cases hlt : j < x.kids.length
    · have HBr := Lib.hid (HBW.out.trans (HR.out.mono HBW.out.size))
      obtain ⟨b1, o1, k, cs1, rfl, hk, hkR, k1, k2, rfl, c0, c1, c2, c3⟩ := kid_place (HK.out.1.later (exprAt_lasts m) HBr.out) hlt
      obtain ⟨b2, o2, k', cs2, rfl, hk', hkR', l1, l2, rfl, d0, d1, d2, d3⟩ := kid_place (HK.out.2.later (exprAt_lasts m) HBr.out) hlt
      obtain rfl : k = k' := Option.some.inj (hk.symm.trans hk')
      have hki : (j : Int) < (x.kids.length : Int) := by omega
      have HZ := Lib.hid (And.intro hkR hkR')
      have HRD := Lib.hid HR.out.drew
      clear hk hk' hkR hkR'
      go_wp2_with fail
      go_still_tail 10, (by kernel_rfl)
      change wpList _ _ _ _ _ wr.drew
      have HZD := Lib.hid (show ExprAt m wr.drew _ k ∧ ExprAt m wr.drew _ k from ⟨exprAt_lasts m _ _ _ _ (Below.refl _ _).drew HZ.out.1, exprAt_lasts m _ _ _ _ (Below.refl _ _).drew HZ.out.2⟩)
      clear HZ
      generalize wr.drew = wd at HRD HZD ⊢
      go_wp2_with fail
      refine (HIH.out _ _ k wd HZD.out.1 HZD.out.2).mono ?_
      rintro e w5 ⟨rfl, hb5⟩
      have HB5 := Lib.hid (HRD.out.trans (hb5.mono HRD.out.size))
      clear hb5 g3 h3 c0 c1 c2 c3 d0 d1 d2 d3
      go_wp2
      go_roundg (gk - 1)
      case measure => omega
      case rel => exact ⟨j + 1, by omega, by go_num, HB5⟩
    · obtain rfl : j = x.kids.length := by omega
      have HB5 := Lib.hid (HBW.out.trans (HR.out.mono HBW.out.size))
      go_wp2
      go_ret
      exact ⟨rfl, HB5.out⟩

end Go.Proofs.YtccfbnhlhjlmgaaDoor
