
/-
  The walk of the law FnEvalPut.
-/
import Derived.Test.YtccfbnhlhjlmgaaDoorDr5
import Derived.Test.YtccfbnhlhjlmgaaDoorEs5
import Derived.Test.YtccfbnhlhjlmgaaDoorNumbers
import Derived.Test.YtccfbnhlhjlmgaaDoorPt
import Derived.Test.YtccfbnhlhjlmgaaDoorPe3
import Derived.Test.YtccfbnhlhjlmgaaDoorNv3
namespace Go.Proofs.YtccfbnhlhjlmgaaDoor
open Go.RowKit
set_option linter.unusedVariables false

theorem nms_size {n : Nat} : ∀ s ∈ nms.take n, s.size ≤ maxLen := fun s hs => by
  have h : ∀ s ∈ nms, s.size ≤ maxLen := by decide
  exact h s (List.mem_of_mem_take hs)
/-- An expression in its block, some names put. -/
structure PutSt (w1 : World) (xb : Nat) (ns : List ByteArray) (vs : List Int) (k : Nat) (o : Option Int) (cx : List Value) (y : ExprD) (wr : World) : Prop where
  below : Below w1.heap.size w1 wr
  lt : w1.heap.size ≤ xb
  row : wr.heap[xb]? = some (.cells cx.toArray 29 (0, 0))
  ex : ExprP 6 (fun b => b ≠ xb) wr cx y
  valid : sizeD nameD 6 y ≠ none
  bad : anyE (badP (ns.drop k)) 6 y = false
  val : evalV (valV (ns.drop k) (vs.drop k)) 6 y = o

set_option maxRecDepth 100000 in
set_option maxHeartbeats 8000000 in
theorem fnEvalPut_walk (a : Option Addr) (len cap : Nat) (zs : List Int) (w : World) (hO : OpsAt w) (hK : KeysAt w) (hrow : IsRow .u8 w a len cap zs) :
    Calls Tryd.prog 10 #[.slice a len cap] w fun e w' => e = .returned (.bool true) ∧ Below w.heap.size w w' := by
  have hin := bytes_of_row hrow
  have hcap := cap_of_row hrow
  clear hrow
  by_cases hbig : 1048576 < len
  · go_enter Tryd.func10, Tryd.ntmps10
    go_wp2
    go_ret
    exact ⟨rfl, Below.refl _ _⟩
  go_enter Tryd.func10, Tryd.ntmps10
  go_wp2_with fail
  refine (drawEvalExpr_any w a len cap _ hin hcap).mono ?_
  rintro e w1 ⟨cs, x, na, nn, nc, va, vn, vc, vs, rfl, hx, hL, hns, hnn, hvs, hvn, hb1⟩
  obtain ⟨xa, xc, rfl⟩ := exprAt_form hx
  have HD := Lib.hid (And.intro (And.intro hx hL) (And.intro (And.intro hns hnn) (And.intro hvs hvn)))
  have HW := Lib.hid (And.intro hb1 (And.intro (hO.later hb1) (hK.later hb1)))
  clear hx hL hns hnn hvs hvn hb1 hO hK hin hcap hbig
  have hba : Below w1.heap.size w1 (w1.alloc (.cells #[.int .i64 x.op, .int .i64 x.n, .string x.name, .slice xa x.kids.length xc] 29)) := (Below.refl _ _).alloc (Nat.le_refl _) _
  have HE := Lib.hid (And.intro hba (heap_alloc_new w1 (.cells #[.int .i64 x.op, .int .i64 x.n, .string x.name, .slice xa x.kids.length xc] 29)))
  clear hba
  go_upto_region 4 with fail
  obtain ⟨eb, heb⟩ : ∃ b, b = w1.heap.size := ⟨_, rfl⟩
  rw [← heb] at HE ⊢
  generalize w1.alloc (.cells #[.int .i64 x.op, .int .i64 x.n, .string x.name, .slice xa x.kids.length xc] 29) = W2 at HE ⊢
  have HE1 := Lib.hid (show Below w1.heap.size w1 W2 from by rw [← heb]; exact HE.out.1)
  clear heb
  obtain ⟨r1, r2, hr⟩ : ∃ r1 r2, evalR2 (nms.take nn) vs 12 x = (r1, r2) := ⟨_, _, rfl⟩
  have HIM := Lib.hid (evalExprN_any 12 _ x (nms.take nn) vs na va nn nc vn vc W2 (HW.out.2.1.later HE1.out) (HW.out.2.2.later HE1.out) (exprAt_lasts 12 _ _ _ _ HE1.out HD.out.1.1) (HD.out.2.1.1.later HE1.out) (by have := HD.out.2.1.2; omega) nms_size (HD.out.2.2.1.later HE1.out) (by have := HD.out.2.2.2; omega))
  rw [hr] at HIM
  have HR := Lib.hid hr
  clear hr
  have e0 := cell_of_row _ _ 0 _ _ _ HE.out.2
  have e1 := cell_of_row _ _ 1 _ _ _ HE.out.2
  have e2 := cell_of_row _ _ 2 _ _ _ HE.out.2
  have e3 := cell_of_row _ _ 3 _ _ _ HE.out.2
  simp only [List.getElem?_toArray, List.getElem?_cons_zero, List.getElem?_cons_succ] at e0 e1 e2 e3
  go_wp2_with fail
  refine HIM.out.mono ?_
  rintro e w3 ⟨rfl, hb3⟩
  have H3 := Lib.hid (HE1.out.trans (hb3.mono HE1.out.size))
  have k0 := cell_later hb3 e0
  have k1 := cell_later hb3 e1
  have k2 := cell_later hb3 e2
  have k3 := cell_later hb3 e3
  clear hb3 HIM e0 e1 e2 e3
  have HSP := Lib.hid (evalExprS_any 12 _ x (nms.take nn) vs na va nn nc vn vc w3 (exprAt_lasts 12 _ _ _ _ H3.out HD.out.1.1) HD.out.1.2 (HD.out.2.1.1.later H3.out) (by have := HD.out.2.1.2; omega) (HD.out.2.2.1.later H3.out) (by have := HD.out.2.2.2; omega))
  rw [HR.out] at HSP
  go_wp2_with fail
  refine HSP.out.mono ?_
  rintro e w4 ⟨rfl, hb4⟩
  have H4 := Lib.hid (H3.out.trans (hb4.mono H3.out.size))
  have l0 := cell_later hb4 k0
  have l1 := cell_later hb4 k1
  have l2 := cell_later hb4 k2
  have l3 := cell_later hb4 k3
  clear hb4 HSP k0 k1 k2 k3 H3
  have hne1 : (r1 != r1) = false := by simp
  have hne2 : (r2 != r2) = false := by simp
  have heq1 : (r1 == r1) = true := by simp
  have heq2 : (r2 == r2) = true := by simp
  have hcase := evalR2_cases (nms.take nn) vs 12 x
  rw [HR.out] at hcase
  rcases hcase with hc | ⟨hv, hvl, hvb, hva, hc⟩
  · simp only [Prod.mk.injEq] at hc
    obtain ⟨rfl, rfl⟩ := hc
    go_wp2
    go_ret
    exact ⟨rfl, HW.out.1.trans (H4.out.mono HW.out.1.size)⟩
  have HV := Lib.hid (And.intro hv (And.intro hvl (And.intro hvb hva)))
  have HC := Lib.hid hc
  have hend : ¬ r2 < 0 := by
    cases hg : evalV (valV (nms.take nn) vs) 12 x with
    | none => rw [hg] at hc; cases hc; omega
    | some v => rw [hg] at hc; cases hc; omega
  have hd2 : decide (r2 < 0) = false := decide_eq_false hend
  clear hv hvl hvb hva hc
  have HP := Lib.hid (show PutSt w1 w4.heap.size (nms.take nn) vs 0 (evalV (valV (nms.take nn) vs) 6 x) [.int .i64 x.op, .int .i64 x.n, .string x.name, .slice xa x.kids.length xc] x (w4.alloc (.cells #[.int .i64 x.op, .int .i64 x.n, .string x.name, .slice xa x.kids.length xc] 29)) from
    ⟨H4.out.trans (((Below.refl w4.heap.size w4).alloc (Nat.le_refl _) _).mono H4.out.size), H4.out.size, heap_alloc_new w4 _, exprP_below ((Below.refl _ _).alloc (Nat.le_refl _) _) (exprP_mono (fun k h1 _ => by omega) (exprP_here (exprP_fit HV.out.1 (exprAt_P (exprAt_lasts 12 _ _ _ _ H4.out HD.out.1.1))))), HV.out.1, by rw [List.drop_zero, anyE_fit HV.out.1 (Nat.le_refl 6) (by omega : 6 ≤ 12)]; exact HV.out.2.2.2, by rw [List.drop_zero, List.drop_zero]⟩)
  have HC6 := Lib.hid (show (r1, r2) = arithP (evalV (valV (nms.take nn) vs) 6 x) by rw [HC.out, evalV_fit HV.out.1 (by omega : 6 ≤ 12) (Nat.le_refl 6) HV.out.2.2.2])
  have HLN := Lib.hid (show (nms.take nn).length = nn ∧ vs.length = nn by have h1 := HD.out.2.1.1.length; have := HV.out.2.1; omega)
  have HVN := Lib.hid (show vn = nn by have := HD.out.2.2.1.length; have := HLN.out.2; omega)
  go_upto_region 9 with fail
  obtain ⟨xb, hxb⟩ : ∃ b, b = w4.heap.size := ⟨_, rfl⟩
  rw [← hxb] at HP ⊢
  generalize w4.alloc (.cells #[.int .i64 x.op, .int .i64 x.n, .string x.name, .slice xa x.kids.length xc] 29) = W5 at HP ⊢
  clear hxb l0 l1 l2 l3
  go_wp2_with fail
  go_loopg [63] nn (fun G i wr => ∃ (k : Nat) (cx : List Value) (y : ExprD), k + G = nn ∧ i = .int .i64 k ∧ Hid (PutSt w1 xb (nms.take nn) vs k (evalV (valV (nms.take nn) vs) 6 x) cx y wr))
  case atStart => exact ⟨0, _, _, by omega, rfl, HP⟩
  case round =>
    obtain ⟨k, cx, y, hk, rfl, HB⟩ := hrel
    clear HP
    obtain ⟨ya, yc, hcx⟩ := exprP_form HB.out.ex
    subst hcx
    have b0 := cell_of_row _ _ 0 _ _ _ HB.out.row
    have b1 := cell_of_row _ _ 1 _ _ _ HB.out.row
    have b2 := cell_of_row _ _ 2 _ _ _ HB.out.row
    have b3 := cell_of_row _ _ 3 _ _ _ HB.out.row
    simp only [List.getElem?_toArray, List.getElem?_cons_zero, List.getElem?_cons_succ] at b0 b1 b2 b3
    have hnn4 := HD.out.2.1.2
    by_cases hlt : k < nn
    · have hki : (k : Int) < (nn : Int) := by omega
      obtain ⟨nb, noff, s, rfl, hs, cs0⟩ := (HD.out.2.1.1.later HB.out.below).place hlt
      obtain ⟨vb, voff, u, rfl, hu, cu0⟩ := (HD.out.2.2.1.later HB.out.below).place (show k < vn by have := HVN.out; omega)
      have hkv : (k : Int) < (vn : Int) := by have := HVN.out; omega
      have HSU := Lib.hid (And.intro hs hu)
      have HUR := Lib.hid (show inE 0 u 255 = true from List.all_eq_true.1 HV.out.2.2.1 u (List.mem_of_getElem? hu))
      clear hs hu
      go_upto_region 12 with fail
      have HPV := Lib.hid (show ∀ (W : World), Below wr.heap.size wr W → Calls Tryd.prog 48 #[.agg #[.int .i64 y.op, .int .i64 y.n, .string y.name, .slice ya y.kids.length yc], .string s, .agg #[.int .i64 1, .int .i64 u, .string ⟨#[]⟩, .slice none 0 0]] W fun e w' => ∃ z za zc, e = .returned (.tuple #[.agg #[.int .i64 z.op, .int .i64 z.n, .string z.name, .slice za z.kids.length zc], .bool true]) ∧ Hid (z = putD s (numE u) 6 y) ∧ Hid (ExprP 6 (fun b => b ≠ xb ∧ (b < wr.heap.size ∨ W.heap.size ≤ b)) w' [.int .i64 z.op, .int .i64 z.n, .string z.name, .slice za z.kids.length zc] z ∧ Below W.heap.size W w' ∧ Below wr.heap.size wr W) from fun W hW => by
        have hbW := HB.out.below.trans (hW.mono HB.out.below.size)
        refine (putVar_any (fun b => b ≠ xb ∧ b < wr.heap.size) _ y s u W (HW.out.2.1.later hbW) (HW.out.2.2.later hbW) HUR.out HB.out.valid (exprP_below hW (exprP_here HB.out.ex)) (fun _ h => Nat.lt_of_lt_of_le h.2 hW.size)).mono ?_
        rintro e w' ⟨cs', rfl, hz, hb'⟩
        obtain ⟨za, zc, hcs⟩ := exprP_form hz
        subst hcs
        exact ⟨_, za, zc, rfl, Lib.hid rfl, Lib.hid ⟨exprP_mono (fun b _ h => h.elim (fun h => ⟨h.1, .inl h.2⟩) (fun h => ⟨by have := (Array.getElem?_eq_some_iff.1 HB.out.row).1; have := hW.size; omega, .inr h⟩)) hz, hb', hW⟩⟩)
      have HPA := Lib.hid (show ∀ (W : World), Below (wr.alloc (.cells #[.int .i64 0, .int .i64 0, .string ⟨#[]⟩, .slice none 0 0] 29)).heap.size (wr.alloc (.cells #[.int .i64 0, .int .i64 0, .string ⟨#[]⟩, .slice none 0 0] 29)) W → Calls Tryd.prog 48 #[.agg #[.int .i64 y.op, .int .i64 y.n, .string y.name, .slice ya y.kids.length yc], .string s, .agg #[.int .i64 1, .int .i64 u, .string ⟨#[]⟩, .slice none 0 0]] W fun e w' => ∃ z za zc, e = .returned (.tuple #[.agg #[.int .i64 z.op, .int .i64 z.n, .string z.name, .slice za z.kids.length zc], .bool true]) ∧ Hid (z = putD s (numE u) 6 y) ∧ Hid (ExprP 6 (fun b => b ≠ xb ∧ b ≠ wr.heap.size) w' [.int .i64 z.op, .int .i64 z.n, .string z.name, .slice za z.kids.length zc] z ∧ Below wr.heap.size wr w' ∧ w'.heap[wr.heap.size]? = some (.cells #[.int .i64 0, .int .i64 0, .string ⟨#[]⟩, .slice none 0 0] 29 (0, 0))) from fun W hW => by
        have hW1 : Below wr.heap.size wr W := ((Below.refl wr.heap.size wr).alloc (Nat.le_refl _) _).trans (hW.mono (by simp))
        have hW2 := (hW.block wr.heap.size (by simp)).trans (heap_alloc_new wr (.cells #[.int .i64 0, .int .i64 0, .string ⟨#[]⟩, .slice none 0 0] 29))
        refine (HPV.out W hW1).mono ?_
        rintro e w' ⟨z, za, zc, rfl, hz, hx⟩
        have h2 := (Array.getElem?_eq_some_iff.1 hW2).1
        exact ⟨z, za, zc, rfl, hz, Lib.hid ⟨exprP_mono (fun b _ h => ⟨h.1, by rcases h.2 with h3 | h3 <;> omega⟩) hx.out.1, hx.out.2.2.trans (hx.out.2.1.mono hW1.size), (hx.out.2.1.block _ h2).trans hW2⟩⟩)
      have HPV0 := Lib.hid (fun nq => HPV.out (wr.drewN nq) (below_drewN (Below.refl _ _) nq))
      have HPA0 := Lib.hid (fun nq => HPA.out ((wr.alloc (.cells #[.int .i64 0, .int .i64 0, .string ⟨#[]⟩, .slice none 0 0] 29)).drewN nq) (below_drewN (Below.refl _ _) nq))
      have HPA2 := Lib.hid (fun nq nr => HPA.out (((wr.drewN nq).alloc (.cells #[.int .i64 0, .int .i64 0, .string ⟨#[]⟩, .slice none 0 0] 29)).drewN nr) ⟨rfl, rfl, rfl, Nat.le_refl _, fun _ _ => rfl⟩)
      have hbz : Below wr.heap.size wr (wr.alloc (.cells #[.int .i64 0, .int .i64 0, .string ⟨#[]⟩, .slice none 0 0] 29)) := (Below.refl _ _).alloc (Nat.le_refl _) _
      have bA0 := cell_later hbz b0
      have bA1 := cell_later hbz b1
      have bA2 := cell_later hbz b2
      have bA3 := cell_later hbz b3
      have cuA := cell_later hbz cu0
      clear hbz
      go_region_law (first | (go_simp; go_at_call 48; (first | refine (HPA0.out _).mono ?_ | refine (HPA2.out _ _).mono ?_); rintro e w8 ⟨z, za, zc, rfl, hz, hx8⟩; (have hr8 := hx8.out.2.2); (have z0 := cell_of_row _ _ 0 _ _ _ hr8); (have z1 := cell_of_row _ _ 1 _ _ _ hr8); (have z2 := cell_of_row _ _ 2 _ _ _ hr8); (have z3 := cell_of_row _ _ 3 _ _ _ hr8); (simp only [List.getElem?_toArray, List.getElem?_cons_zero, List.getElem?_cons_succ] at z0 z1 z2 z3); (have g0 := frozen_of_row _ _ 0 _ _ hr8); (have g1 := frozen_of_row _ _ 1 _ _ hr8); (have g2 := frozen_of_row _ _ 2 _ _ hr8); (have g3 := frozen_of_row _ _ 3 _ _ hr8)) | (go_simp; go_at_call 48; refine (HPV0.out _).mono ?_; rintro e w8 ⟨z, za, zc, rfl, hz, hx8⟩))
      all_goals
        first
        | (have HY := Lib.hid (show Below wr.heap.size wr (w8.setCells wr.heap.size 0 [.int .i64 z.op, .int .i64 z.n, .string z.name, .slice za z.kids.length zc]) ∧ (w8.setCells wr.heap.size 0 [.int .i64 z.op, .int .i64 z.n, .string z.name, .slice za z.kids.length zc]).heap[wr.heap.size]? = some (.cells #[.int .i64 z.op, .int .i64 z.n, .string z.name, .slice za z.kids.length zc] 29 (0, 0)) ∧ ExprP 6 (fun b => b ≠ xb) (w8.setCells wr.heap.size 0 [.int .i64 z.op, .int .i64 z.n, .string z.name, .slice za z.kids.length zc]) [.int .i64 z.op, .int .i64 z.n, .string z.name, .slice za z.kids.length zc] z by
            have ht := turned_setCells (g := wr.heap.size) [.int .i64 z.op, .int .i64 z.n, .string z.name, .slice za z.kids.length zc] w8 0
            refine ⟨hx8.out.2.1.trans (ht.below (B := wr.heap.size) hx8.out.2.1.size (fun k hk => by omega)), ?_, exprP_mono (fun b _ h => h.1) (exprP_turned ht (fun b _ h1 h2 => by obtain ⟨j1, j2⟩ := h1; omega) hx8.out.1)⟩
            have := heap_setCells_mid (A := []) (B := [.int .i64 0, .int .i64 0, .string ⟨#[]⟩, .slice none 0 0]) (C := []) (vs := [.int .i64 z.op, .int .i64 z.n, .string z.name, .slice za z.kids.length zc]) (o := 0) rfl rfl hr8
            simpa using this)
           rw [setCells4'] at HY
           obtain ⟨yb, hyb⟩ : ∃ b, b = wr.heap.size := ⟨_, rfl⟩
           clear hx8 hr8 z0 z1 z2 z3 g0 g1 g2 g3
           have HWR := Lib.hid hyb
           rw [← hyb] at HY ⊢
           clear hyb
           generalize (((w8.setCell ⟨yb, 0, none⟩ (.int .i64 z.op)).setCell ⟨yb, 1, none⟩ (.int .i64 z.n)).setCell ⟨yb, 2, none⟩ (.string z.name)).setCell ⟨yb, 3, none⟩ (.slice za z.kids.length zc) = W9 at HY ⊢
           have HYY := Lib.hid (show Below wr.heap.size wr W9 by rw [← HWR.out]; exact HY.out.1))
        | (have HY := Lib.hid (show Below wr.heap.size wr (w8.alloc (.cells #[.int .i64 z.op, .int .i64 z.n, .string z.name, .slice za z.kids.length zc] 29)) ∧ (w8.alloc (.cells #[.int .i64 z.op, .int .i64 z.n, .string z.name, .slice za z.kids.length zc] 29)).heap[w8.heap.size]? = some (.cells #[.int .i64 z.op, .int .i64 z.n, .string z.name, .slice za z.kids.length zc] 29 (0, 0)) ∧ ExprP 6 (fun b => b ≠ xb) (w8.alloc (.cells #[.int .i64 z.op, .int .i64 z.n, .string z.name, .slice za z.kids.length zc] 29)) [.int .i64 z.op, .int .i64 z.n, .string z.name, .slice za z.kids.length zc] z by
            have hb8 := hx8.out.2.2.trans (hx8.out.2.1.mono hx8.out.2.2.size)
            have hba : Below w8.heap.size w8 (w8.alloc (.cells #[.int .i64 z.op, .int .i64 z.n, .string z.name, .slice za z.kids.length zc] 29)) := (Below.refl _ _).alloc (Nat.le_refl _) _
            exact ⟨hb8.trans (hba.mono hb8.size), heap_alloc_new w8 _, exprP_below hba (exprP_mono (fun b _ h => h.1) hx8.out.1)⟩)
           obtain ⟨yb, hyb⟩ : ∃ b, b = w8.heap.size := ⟨_, rfl⟩
           clear hx8
           rw [← hyb] at HY ⊢
           clear hyb
           generalize w8.alloc (.cells #[.int .i64 z.op, .int .i64 z.n, .string z.name, .slice za z.kids.length zc] 29) = W9 at HY ⊢
           have HYY := Lib.hid (show Below wr.heap.size wr W9 from HY.out.1))
        have y0 := cell_of_row _ _ 0 _ _ _ HY.out.2.1
        have y1 := cell_of_row _ _ 1 _ _ _ HY.out.2.1
        have y2 := cell_of_row _ _ 2 _ _ _ HY.out.2.1
        have y3 := cell_of_row _ _ 3 _ _ _ HY.out.2.1
        simp only [List.getElem?_toArray, List.getElem?_cons_zero, List.getElem?_cons_succ] at y0 y1 y2 y3
        have hxr := (HYY.out.block xb (Array.getElem?_eq_some_iff.1 HB.out.row).1).trans HB.out.row
        have x0 := cell_of_row _ _ 0 _ _ _ hxr
        have x1 := cell_of_row _ _ 1 _ _ _ hxr
        have x2 := cell_of_row _ _ 2 _ _ _ hxr
        have x3 := cell_of_row _ _ 3 _ _ _ hxr
        simp only [List.getElem?_toArray, List.getElem?_cons_zero, List.getElem?_cons_succ] at x0 x1 x2 x3
        have f0 := frozen_of_row _ _ 0 _ _ hxr
        have f1 := frozen_of_row _ _ 1 _ _ hxr
        have f2 := frozen_of_row _ _ 2 _ _ hxr
        have f3 := frozen_of_row _ _ 3 _ _ hxr
        have HNX := Lib.hid (show PutSt w1 xb (nms.take nn) vs (k + 1) (evalV (valV (nms.take nn) vs) 6 x) [.int .i64 z.op, .int .i64 z.n, .string z.name, .slice za z.kids.length zc] z (W9.setCells xb 0 [.int .i64 z.op, .int .i64 z.n, .string z.name, .slice za z.kids.length zc]) by
          have ht := turned_setCells (g := xb) [.int .i64 z.op, .int .i64 z.n, .string z.name, .slice za z.kids.length zc] W9 0
          have hb9 := HB.out.below.trans (HYY.out.mono HB.out.below.size)
          have hdn : (nms.take nn).drop k = s :: (nms.take nn).drop (k + 1) := by
            obtain ⟨h1, h2⟩ := List.getElem?_eq_some_iff.1 HSU.out.1
            rw [List.drop_eq_getElem_cons h1, h2]
          have hdv : vs.drop k = u :: vs.drop (k + 1) := by
            obtain ⟨h1, h2⟩ := List.getElem?_eq_some_iff.1 HSU.out.2
            rw [List.drop_eq_getElem_cons h1, h2]
          have hbad := HB.out.bad
          rw [hdn] at hbad
          have hval := HB.out.val
          rw [hdn, hdv] at hval
          refine ⟨hb9.trans (ht.below (B := w1.heap.size) hb9.size (fun b hb => by have := HB.out.lt; omega)), HB.out.lt, ?_, exprP_turned ht (fun b _ h1 h2 => h1 h2) HY.out.2.2, by rw [hz.out]; exact put_valid HUR.out HB.out.valid, by rw [hz.out]; exact put_bad 6 y hbad, ?_⟩
          · have := heap_setCells_mid (A := []) (B := [.int .i64 y.op, .int .i64 y.n, .string y.name, .slice ya y.kids.length yc]) (C := []) (vs := [.int .i64 z.op, .int .i64 z.n, .string z.name, .slice za z.kids.length zc]) (o := 0) rfl rfl (by simpa using hxr)
            simpa using this
          · rw [hz.out, put_eval (ns := s :: (nms.take nn).drop (k + 1)) 6 6 y HB.out.valid hbad, ← hval]
            rfl)
        rw [setCells4'] at HNX
        go_upto_region 16 with fail
        clear y0 y1 y2 y3 x0 x1 x2 x3 f0 f1 f2 f3 hxr
        generalize (((W9.setCell ⟨xb, 0, none⟩ (.int .i64 z.op)).setCell ⟨xb, 1, none⟩ (.int .i64 z.n)).setCell ⟨xb, 2, none⟩ (.string z.name)).setCell ⟨xb, 3, none⟩ (.slice za z.kids.length zc) = W10 at HNX ⊢
        go_wp2
        go_roundg (gk - 1)
        case measure => omega
        case rel => exact ⟨k + 1, _, _, by omega, by go_num, HNX⟩
    · obtain rfl : k = nn := by omega
      have HFV := Lib.hid (show evalR2 [] [] 6 y = (r1, r2) ∧ varsD y = [] by
        have h1 := HB.out.bad
        rw [List.drop_eq_nil_of_le (by have := HLN.out.1; omega)] at h1
        have h2 := HB.out.val
        rw [List.drop_eq_nil_of_le (by have := HLN.out.1; omega), List.drop_eq_nil_of_le (by have := HLN.out.2; omega)] at h2
        exact ⟨by rw [evalR2_mk HB.out.valid rfl rfl h1, h2, ← HC6.out], visit_none 6 y [] (put_varless h1)⟩)
      have HEV := Lib.hid (evalExprN_any 6 _ y [] [] none none 0 0 0 0 wr (HW.out.2.1.later HB.out.below) (HW.out.2.2.later HB.out.below) (exprP_at HB.out.ex) ⟨rfl, .inl rfl⟩ (by omega) (by simp) ⟨rfl, .inl rfl⟩ (by omega))
      rw [HFV.out.1] at HEV
      go_wp2_with fail
      refine HEV.out.mono ?_
      rintro e w6 ⟨rfl, hb6⟩
      have H6 := Lib.hid (HB.out.below.trans (hb6.mono HB.out.below.size))
      have HVO := Lib.hid (varsOf_any _ y w6 (HW.out.2.1.later H6.out) (HW.out.2.2.later H6.out) HB.out.valid (exprP_at (exprP_below hb6 HB.out.ex)))
      rw [HFV.out.2] at HVO
      have c0 := cell_later hb6 b0
      have c1 := cell_later hb6 b1
      have c2 := cell_later hb6 b2
      have c3 := cell_later hb6 b3
      clear hb6 b0 b1 b2 b3 HEV
      go_wp2_with fail
      refine HVO.out.mono ?_
      rintro e w7 ⟨a7, n7, cc7, rfl, hS7, hb7⟩
      obtain rfl : n7 = 0 := by have := hS7.length; simpa using this.symm
      have H7 := Lib.hid (H6.out.trans (hb7.mono H6.out.size))
      clear hS7 hb7 c0 c1 c2 c3
      go_wp2
      go_ret
      exact ⟨rfl, HW.out.1.trans (H7.out.mono HW.out.1.size)⟩

end Go.Proofs.YtccfbnhlhjlmgaaDoor
