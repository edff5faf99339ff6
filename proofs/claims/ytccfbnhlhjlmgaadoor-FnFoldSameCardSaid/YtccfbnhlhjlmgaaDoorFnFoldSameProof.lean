
/-
  The walk of the law FnFoldSame.
-/
import Derived.Test.YtccfbnhlhjlmgaaDoorFs
import Derived.Test.YtccfbnhlhjlmgaaDoorDr5
import Derived.Test.YtccfbnhlhjlmgaaDoorPe4
import Derived.Test.YtccfbnhlhjlmgaaDoorNumbers
import Derived.Test.YtccfbnhlhjlmgaaDoorLaw
import Derived.Test.YtccfbnhlhjlmgaaDoorKeysLaid
import Derived.Test.YtccfbnhlhjlmgaaDoorCards
import Derived.Test.YtccfbnhlhjlmgaaDoorTie
import Derived.SevenTiedAt
import Derived.OpenVars

namespace Go.Proofs.YtccfbnhlhjlmgaaDoor
open Go.RowKit
set_option linter.unusedVariables false

theorem row_later {w w' : World} (h : Below w.heap.size w w') {b : Nat} {o : Obj} (hr : w.heap[b]? = some o) : w'.heap[b]? = some o := (h.block _ (Array.getElem?_eq_some_iff.1 hr).1).trans hr
theorem nms_size' {n : Nat} : ∀ s ∈ nms.take n, s.size ≤ maxLen := fun s hs => by
  have h : ∀ s ∈ nms, s.size ≤ maxLen := by decide
  exact h s (List.mem_of_mem_take hs)
/-- What is folded has the same value. -/
theorem fold_same_eval {ns : List ByteArray} {vs : List Int} {x : ExprD} {r1 r2 : Int} (h : evalR2 ns vs 12 x = (r1, r2)) : r2 < 0 ∨ (sizeD nameD 6 x ≠ none ∧ evalR2 ns vs 6 (foldE x) = (r1, r2)) := by
  rcases evalR2_cases ns vs 12 x with hc | ⟨h1, h2, h3, h4, hc⟩
  · rw [h] at hc
    simp only [Prod.mk.injEq] at hc
    exact .inl (by omega)
  · refine .inr ⟨h1, ?_⟩
    have hv : (sizeD nameD 6 x).isSome = true := by
      cases hq : sizeD nameD 6 x with
      | none => exact absurd hq h1
      | some q => rfl
    have h46 : anyE (badP ns) 6 x = false := by rw [anyE_fit h1 (Nat.le_refl 6) (by omega : 6 ≤ 12)]; exact h4
    rw [foldE, if_pos hv, evalR2_mk (fold_valid h1) h2 h3 (fold_bad h1 (Nat.le_refl 6) h46), fold_eval (fun s v h => valV_range h3 h) 6 6 x (by omega) h1 (Nat.le_refl 6) h46, ← evalV_fit h1 (by omega : 6 ≤ 12) (Nat.le_refl 6) h4, ← hc, h]

set_option maxRecDepth 100000 in
set_option maxHeartbeats 8000000 in
theorem fnFoldSame_walk (a : Option Addr) (len cap : Nat) (zs : List Int) (a2 : Option Addr) (len2 cap2 : Nat) (zs2 : List Int) (w : World) (hO : OpsAt w) (hK : KeysAt w) (hrow : IsRow .u8 w a len cap zs) (hrow2 : IsRow .u8 w a2 len2 cap2 zs2) :
    Calls Tryd.prog 11 #[.slice a len cap, .slice a2 len2 cap2] w fun e w' => e = .returned (.bool true) ∧ Below w.heap.size w w' := by
  have hin := bytes_of_row hrow
  have hcap := cap_of_row hrow
  have hin2 := bytes_of_row hrow2
  have hcap2 := cap_of_row hrow2
  clear hrow hrow2
  by_cases hbig : 1048576 < len
  · go_enter Tryd.func11, Tryd.ntmps11
    go_wp2
    go_ret
    exact ⟨rfl, Below.refl _ _⟩
  by_cases hbig2 : 1048576 < len2
  · go_enter Tryd.func11, Tryd.ntmps11
    go_wp2
    go_ret
    exact ⟨rfl, Below.refl _ _⟩
  go_enter Tryd.func11, Tryd.ntmps11
  go_wp2_with fail
  refine (drawEvalExpr_any w a len cap _ hin hcap).mono ?_
  rintro e w1 ⟨cs, x, na, nn, nc, va, vn, vc, vs, rfl, hx, hL, hns, hnn, hvs, hvn, hb1⟩
  obtain ⟨xa, xc, rfl⟩ := exprAt_form hx
  have HD := Lib.hid (And.intro (And.intro hx hL) (And.intro (And.intro hns hnn) (And.intro hvs hvn)))
  have HW := Lib.hid (And.intro hb1 (And.intro (hO.later hb1) (hK.later hb1)))
  have HIN := Lib.hid (hin2.later hb1)
  clear hx hL hns hnn hvs hvn hb1 hO hK hin hcap hbig hin2 hbig2
  have HCAP := Lib.hid hcap2
  clear hcap2
  have hba : Below w1.heap.size w1 (w1.alloc (.cells #[.int .i64 x.op, .int .i64 x.n, .string x.name, .slice xa x.kids.length xc] 29)) := (Below.refl _ _).alloc (Nat.le_refl _) _
  have FE := Lib.hid (And.intro hba (heap_alloc_new w1 (.cells #[.int .i64 x.op, .int .i64 x.n, .string x.name, .slice xa x.kids.length xc] 29)))
  clear hba
  go_upto_region 4 with fail
  obtain ⟨eb, heb⟩ : ∃ b, b = w1.heap.size := ⟨_, rfl⟩
  rw [← heb] at FE ⊢
  generalize w1.alloc (.cells #[.int .i64 x.op, .int .i64 x.n, .string x.name, .slice xa x.kids.length xc] 29) = w2 at FE ⊢
  have FEB := Lib.hid (show Below w1.heap.size w1 w2 from by rw [← heb]; exact FE.out.1)
  clear heb
  have FER := Lib.hid FE.out.2
  clear FE
  go_wp2_with fail
  refine (drawFold_any w2 a2 len2 cap2 _ (HIN.out.later FEB.out) HCAP.out).mono ?_
  rintro e w3 ⟨cs, y, rfl, hx, hL, hb1⟩
  obtain ⟨ya, yc, rfl⟩ := exprP_form hx
  have HY := Lib.hid (And.intro (exprP_here hx) hL)
  have HB3 := Lib.hid (FEB.out.trans (hb1.mono FEB.out.size))
  have HR3 := Lib.hid (row_later hb1 FER.out)
  clear hx hL hb1 FER HIN
  have hba : Below w3.heap.size w3 (w3.alloc (.cells #[.int .i64 y.op, .int .i64 y.n, .string y.name, .slice ya y.kids.length yc] 29)) := (Below.refl _ _).alloc (Nat.le_refl _) _
  have FD := Lib.hid (And.intro hba (heap_alloc_new w3 (.cells #[.int .i64 y.op, .int .i64 y.n, .string y.name, .slice ya y.kids.length yc] 29)))
  clear hba
  go_upto_region 5 with fail
  obtain ⟨db, heb⟩ : ∃ b, b = w3.heap.size := ⟨_, rfl⟩
  rw [← heb] at FD ⊢
  generalize w3.alloc (.cells #[.int .i64 y.op, .int .i64 y.n, .string y.name, .slice ya y.kids.length yc] 29) = w4 at FD ⊢
  have FDB := Lib.hid (show Below w3.heap.size w3 w4 from by rw [← heb]; exact FD.out.1)
  clear heb
  have FDR := Lib.hid FD.out.2
  clear FD
  have HO4 := Lib.hid (show OpsAt w4 ∧ KeysAt w4 from ⟨HW.out.2.1.later (HB3.out.trans (FDB.out.mono HB3.out.size)), HW.out.2.2.later (HB3.out.trans (FDB.out.mono HB3.out.size))⟩)
  have HPY := Lib.hid (exprP_mono (S' := fun k => k < w4.heap.size) (fun k h _ => h) (exprP_le (d' := 12) (by omega) (exprP_below FDB.out HY.out.1)))
  have HLY := Lib.hid (show anyE longP 12 y = false from HY.out.2)
  obtain ⟨z, hz⟩ : ∃ z, z = foldE y := ⟨_, rfl⟩
  have HZm := Lib.hid hz
  clear hz
  obtain ⟨gd, hg⟩ : ∃ b, b = (sizeD nameD 6 y).isSome := ⟨_, rfl⟩
  have HGm := Lib.hid hg
  clear hg
  have HFI := Lib.hid (foldExpr_any 12 (fun k => k < w4.heap.size) _ y w4 HO4.out.1 HO4.out.2 HPY.out (fun k h => h))
  rw [← HZm.out, ← HGm.out] at HFI
  have e0 := cell_of_row _ _ 0 _ _ _ (FDR.out)
  have e1 := cell_of_row _ _ 1 _ _ _ (FDR.out)
  have e2 := cell_of_row _ _ 2 _ _ _ (FDR.out)
  have e3 := cell_of_row _ _ 3 _ _ _ (FDR.out)
  simp only [List.getElem?_toArray, List.getElem?_cons_zero, List.getElem?_cons_succ] at e0 e1 e2 e3
  go_wp2_with fail
  refine HFI.out.mono ?_
  rintro e m1 ⟨cs1, rfl, hx1, hb1⟩
  obtain ⟨ma, mc, rfl⟩ := exprP_form hx1
  have Hm1 := Lib.hid hx1
  have Bm1 := Lib.hid hb1
  clear hx1 hb1 HFI
  clear e0 e1 e2 e3
  have hba : Below m1.heap.size m1 (m1.alloc (.cells #[.int .i64 z.op, .int .i64 z.n, .string z.name, .slice ma z.kids.length mc] 29)) := (Below.refl _ _).alloc (Nat.le_refl _) _
  have Fm := Lib.hid (And.intro hba (heap_alloc_new m1 (.cells #[.int .i64 z.op, .int .i64 z.n, .string z.name, .slice ma z.kids.length mc] 29)))
  clear hba
  go_upto_region 6 with fail
  obtain ⟨mb, heb⟩ : ∃ b, b = m1.heap.size := ⟨_, rfl⟩
  rw [← heb] at Fm ⊢
  generalize m1.alloc (.cells #[.int .i64 z.op, .int .i64 z.n, .string z.name, .slice ma z.kids.length mc] 29) = m2 at Fm ⊢
  have FmB := Lib.hid (show Below m1.heap.size m1 m2 from by rw [← heb]; exact Fm.out.1)
  clear heb
  have FmR := Lib.hid Fm.out.2
  clear Fm
  have Bm2 := Lib.hid (Bm1.out.trans (FmB.out.mono Bm1.out.size))
  have HFS := Lib.hid (foldExprS_any 12 (fun k => k < w4.heap.size) _ y m2 (HO4.out.1.later Bm2.out) (HO4.out.2.later Bm2.out) (exprP_below Bm2.out HPY.out) HLY.out (fun k h => Nat.lt_of_lt_of_le h Bm2.out.size))
  rw [← HZm.out, ← HGm.out] at HFS
  have e0 := cell_of_row _ _ 0 _ _ _ (row_later Bm2.out (FDR.out))
  have e1 := cell_of_row _ _ 1 _ _ _ (row_later Bm2.out (FDR.out))
  have e2 := cell_of_row _ _ 2 _ _ _ (row_later Bm2.out (FDR.out))
  have e3 := cell_of_row _ _ 3 _ _ _ (row_later Bm2.out (FDR.out))
  simp only [List.getElem?_toArray, List.getElem?_cons_zero, List.getElem?_cons_succ] at e0 e1 e2 e3
  go_wp2_with fail
  refine HFS.out.mono ?_
  rintro e m3 ⟨cs1, rfl, hx1, hb1⟩
  obtain ⟨md, me, rfl⟩ := exprP_form hx1
  have Hm3 := Lib.hid hx1
  have Bm3 := Lib.hid hb1
  clear hx1 hb1 HFS
  clear e0 e1 e2 e3
  have hba : Below m3.heap.size m3 (m3.alloc (.cells #[.int .i64 z.op, .int .i64 z.n, .string z.name, .slice md z.kids.length me] 29)) := (Below.refl _ _).alloc (Nat.le_refl _) _
  have Gm := Lib.hid (And.intro hba (heap_alloc_new m3 (.cells #[.int .i64 z.op, .int .i64 z.n, .string z.name, .slice md z.kids.length me] 29)))
  clear hba
  go_upto_region 7 with fail
  obtain ⟨mf, heb⟩ : ∃ b, b = m3.heap.size := ⟨_, rfl⟩
  rw [← heb] at Gm ⊢
  generalize m3.alloc (.cells #[.int .i64 z.op, .int .i64 z.n, .string z.name, .slice md z.kids.length me] 29) = m4 at Gm ⊢
  have GmB := Lib.hid (show Below m3.heap.size m3 m4 from by rw [← heb]; exact Gm.out.1)
  clear heb
  have GmR := Lib.hid Gm.out.2
  clear Gm
  have Bm4 := Lib.hid (Bm3.out.trans (GmB.out.mono Bm3.out.size))
  have Bm := Lib.hid (Bm2.out.trans (Bm4.out.mono Bm2.out.size))
  have Rm := Lib.hid (row_later Bm4.out FmR.out)
  have Pm := Lib.hid (exprP_below (FmB.out.trans (Bm4.out.mono FmB.out.size)) Hm1.out)
  have SMm := Lib.hid (sameS_any 6 _ _ z m4 (exprP_at Pm.out) (exprP_at (exprP_below GmB.out Hm3.out)))
  have i1 : (gd != gd) = false := by cases gd <;> rfl
  have i2 : (gd == gd) = true := by cases gd <;> rfl
  have e0 := cell_of_row _ _ 0 _ _ _ (Rm.out)
  have e1 := cell_of_row _ _ 1 _ _ _ (Rm.out)
  have e2 := cell_of_row _ _ 2 _ _ _ (Rm.out)
  have e3 := cell_of_row _ _ 3 _ _ _ (Rm.out)
  simp only [List.getElem?_toArray, List.getElem?_cons_zero, List.getElem?_cons_succ] at e0 e1 e2 e3
  have f0 := cell_of_row _ _ 0 _ _ _ (GmR.out)
  have f1 := cell_of_row _ _ 1 _ _ _ (GmR.out)
  have f2 := cell_of_row _ _ 2 _ _ _ (GmR.out)
  have f3 := cell_of_row _ _ 3 _ _ _ (GmR.out)
  simp only [List.getElem?_toArray, List.getElem?_cons_zero, List.getElem?_cons_succ] at f0 f1 f2 f3
  go_wp2_with fail
  refine SMm.out.mono ?_
  rintro e m5 ⟨rfl, hb1⟩
  have Bm5 := Lib.hid hb1
  clear hb1
  clear e0 e1 e2 e3 f0 f1 f2 f3
  have HBE := Lib.hid (show Below w1.heap.size w1 m5 from (HB3.out.trans (FDB.out.mono HB3.out.size)).trans ((Bm.out.trans (Bm5.out.mono Bm.out.size)).mono (HB3.out.trans (FDB.out.mono HB3.out.size)).size))
  have HRE := Lib.hid (row_later (Bm.out.trans (Bm5.out.mono Bm.out.size)) (row_later FDB.out HR3.out))
  clear HR3 Rm Pm Bm5 Bm Bm1 Bm2 Bm3 Bm4 Hm1 Hm3 FmB FmR GmB GmR SMm HPY HLY HY FDR FDB HB3 HO4 HZm HGm FEB
  have HO5 := Lib.hid (show OpsAt m5 ∧ KeysAt m5 from ⟨HW.out.2.1.later HBE.out, HW.out.2.2.later HBE.out⟩)
  have HPX := Lib.hid (exprAt_P (exprAt_lasts 12 _ _ _ _ HBE.out HD.out.1.1))
  clear i1 i2
  go_upto_region 9 with fail
  obtain ⟨u, hz⟩ : ∃ z, z = foldE x := ⟨_, rfl⟩
  have HZo := Lib.hid hz
  clear hz
  obtain ⟨ge, hg⟩ : ∃ b, b = (sizeD nameD 6 x).isSome := ⟨_, rfl⟩
  have HGo := Lib.hid hg
  clear hg
  have HFI := Lib.hid (foldExpr_any 12 (fun k => k < m5.heap.size) _ x m5 HO5.out.1 HO5.out.2 HPX.out (fun k h => h))
  rw [← HZo.out, ← HGo.out] at HFI
  have e0 := cell_of_row _ _ 0 _ _ _ (HRE.out)
  have e1 := cell_of_row _ _ 1 _ _ _ (HRE.out)
  have e2 := cell_of_row _ _ 2 _ _ _ (HRE.out)
  have e3 := cell_of_row _ _ 3 _ _ _ (HRE.out)
  simp only [List.getElem?_toArray, List.getElem?_cons_zero, List.getElem?_cons_succ] at e0 e1 e2 e3
  go_wp2_with fail
  refine HFI.out.mono ?_
  rintro e o1 ⟨cs1, rfl, hx1, hb1⟩
  obtain ⟨oa, oc, rfl⟩ := exprP_form hx1
  have Ho1 := Lib.hid hx1
  have Bo1 := Lib.hid hb1
  clear hx1 hb1 HFI
  clear e0 e1 e2 e3
  have hba : Below o1.heap.size o1 (o1.alloc (.cells #[.int .i64 u.op, .int .i64 u.n, .string u.name, .slice oa u.kids.length oc] 29)) := (Below.refl _ _).alloc (Nat.le_refl _) _
  have Fo := Lib.hid (And.intro hba (heap_alloc_new o1 (.cells #[.int .i64 u.op, .int .i64 u.n, .string u.name, .slice oa u.kids.length oc] 29)))
  clear hba
  go_upto_region 10 with fail
  obtain ⟨ob, heb⟩ : ∃ b, b = o1.heap.size := ⟨_, rfl⟩
  rw [← heb] at Fo ⊢
  generalize o1.alloc (.cells #[.int .i64 u.op, .int .i64 u.n, .string u.name, .slice oa u.kids.length oc] 29) = o2 at Fo ⊢
  have FoB := Lib.hid (show Below o1.heap.size o1 o2 from by rw [← heb]; exact Fo.out.1)
  clear heb
  have FoR := Lib.hid Fo.out.2
  clear Fo
  have Bo2 := Lib.hid (Bo1.out.trans (FoB.out.mono Bo1.out.size))
  have HFS := Lib.hid (foldExprS_any 12 (fun k => k < m5.heap.size) _ x o2 (HO5.out.1.later Bo2.out) (HO5.out.2.later Bo2.out) (exprP_below Bo2.out HPX.out) HD.out.1.2 (fun k h => Nat.lt_of_lt_of_le h Bo2.out.size))
  rw [← HZo.out, ← HGo.out] at HFS
  have e0 := cell_of_row _ _ 0 _ _ _ (row_later Bo2.out (HRE.out))
  have e1 := cell_of_row _ _ 1 _ _ _ (row_later Bo2.out (HRE.out))
  have e2 := cell_of_row _ _ 2 _ _ _ (row_later Bo2.out (HRE.out))
  have e3 := cell_of_row _ _ 3 _ _ _ (row_later Bo2.out (HRE.out))
  simp only [List.getElem?_toArray, List.getElem?_cons_zero, List.getElem?_cons_succ] at e0 e1 e2 e3
  go_wp2_with fail
  refine HFS.out.mono ?_
  rintro e o3 ⟨cs1, rfl, hx1, hb1⟩
  obtain ⟨od, oe, rfl⟩ := exprP_form hx1
  have Ho3 := Lib.hid hx1
  have Bo3 := Lib.hid hb1
  clear hx1 hb1 HFS
  clear e0 e1 e2 e3
  have hba : Below o3.heap.size o3 (o3.alloc (.cells #[.int .i64 u.op, .int .i64 u.n, .string u.name, .slice od u.kids.length oe] 29)) := (Below.refl _ _).alloc (Nat.le_refl _) _
  have Go := Lib.hid (And.intro hba (heap_alloc_new o3 (.cells #[.int .i64 u.op, .int .i64 u.n, .string u.name, .slice od u.kids.length oe] 29)))
  clear hba
  go_upto_region 11 with fail
  obtain ⟨of, heb⟩ : ∃ b, b = o3.heap.size := ⟨_, rfl⟩
  rw [← heb] at Go ⊢
  generalize o3.alloc (.cells #[.int .i64 u.op, .int .i64 u.n, .string u.name, .slice od u.kids.length oe] 29) = o4 at Go ⊢
  have GoB := Lib.hid (show Below o3.heap.size o3 o4 from by rw [← heb]; exact Go.out.1)
  clear heb
  have GoR := Lib.hid Go.out.2
  clear Go
  have Bo4 := Lib.hid (Bo3.out.trans (GoB.out.mono Bo3.out.size))
  have Bo := Lib.hid (Bo2.out.trans (Bo4.out.mono Bo2.out.size))
  have Ro := Lib.hid (row_later Bo4.out FoR.out)
  have Po := Lib.hid (exprP_below (FoB.out.trans (Bo4.out.mono FoB.out.size)) Ho1.out)
  have SMo := Lib.hid (sameS_any 6 _ _ u o4 (exprP_at Po.out) (exprP_at (exprP_below GoB.out Ho3.out)))
  have i1 : (ge != ge) = false := by cases ge <;> rfl
  have i2 : (ge == ge) = true := by cases ge <;> rfl
  have e0 := cell_of_row _ _ 0 _ _ _ (Ro.out)
  have e1 := cell_of_row _ _ 1 _ _ _ (Ro.out)
  have e2 := cell_of_row _ _ 2 _ _ _ (Ro.out)
  have e3 := cell_of_row _ _ 3 _ _ _ (Ro.out)
  simp only [List.getElem?_toArray, List.getElem?_cons_zero, List.getElem?_cons_succ] at e0 e1 e2 e3
  have f0 := cell_of_row _ _ 0 _ _ _ (GoR.out)
  have f1 := cell_of_row _ _ 1 _ _ _ (GoR.out)
  have f2 := cell_of_row _ _ 2 _ _ _ (GoR.out)
  have f3 := cell_of_row _ _ 3 _ _ _ (GoR.out)
  simp only [List.getElem?_toArray, List.getElem?_cons_zero, List.getElem?_cons_succ] at f0 f1 f2 f3
  go_wp2_with fail
  refine SMo.out.mono ?_
  rintro e o5 ⟨rfl, hb1⟩
  have Bo5 := Lib.hid hb1
  clear hb1
  clear e0 e1 e2 e3 f0 f1 f2 f3
  cases hge : ge with
  | false =>
    subst hge
    have e0 := cell_of_row _ _ 0 _ _ _ (row_later Bo5.out Ro.out)
    have e1 := cell_of_row _ _ 1 _ _ _ (row_later Bo5.out Ro.out)
    have e2 := cell_of_row _ _ 2 _ _ _ (row_later Bo5.out Ro.out)
    have e3 := cell_of_row _ _ 3 _ _ _ (row_later Bo5.out Ro.out)
    simp only [List.getElem?_toArray, List.getElem?_cons_zero, List.getElem?_cons_succ] at e0 e1 e2 e3
    have f0 := cell_of_row _ _ 0 _ _ _ (row_later Bo5.out GoR.out)
    have f1 := cell_of_row _ _ 1 _ _ _ (row_later Bo5.out GoR.out)
    have f2 := cell_of_row _ _ 2 _ _ _ (row_later Bo5.out GoR.out)
    have f3 := cell_of_row _ _ 3 _ _ _ (row_later Bo5.out GoR.out)
    simp only [List.getElem?_toArray, List.getElem?_cons_zero, List.getElem?_cons_succ] at f0 f1 f2 f3
    have SM2 := Lib.hid (sameS_any 6 _ _ u o5 (exprP_at (exprP_below Bo5.out Po.out)) (exprP_at (exprP_below (GoB.out.trans (Bo5.out.mono GoB.out.size)) Ho3.out)))
    go_wp2_with fail
    refine SM2.out.mono ?_
    rintro e o6 ⟨rfl, hb1⟩
    have HFIN := Lib.hid (HBE.out.trans ((Bo.out.trans (Bo5.out.mono Bo.out.size)).mono HBE.out.size))
    have HFIN2 := Lib.hid (HFIN.out.trans (hb1.mono HFIN.out.size))
    clear hb1
    clear e0 e1 e2 e3 f0 f1 f2 f3
    go_wp2
    go_ret
    exact ⟨rfl, HW.out.1.trans (HFIN2.out.mono HW.out.1.size)⟩
  | true =>
    subst hge
    have HFIN := Lib.hid (HBE.out.trans ((Bo.out.trans (Bo5.out.mono Bo.out.size)).mono HBE.out.size))
    have BN := Lib.hid (Bo.out.trans (Bo5.out.mono Bo.out.size))
    obtain ⟨r1, r2, hr⟩ : ∃ r1 r2, evalR2 (nms.take nn) vs 12 x = (r1, r2) := ⟨_, _, rfl⟩
    have HFV := Lib.hid (fold_same_eval hr)
    rw [← HZo.out] at HFV
    have HE1 := Lib.hid (evalExprN_any 12 _ x (nms.take nn) vs na va nn nc vn vc o5 (HO5.out.1.later BN.out) (HO5.out.2.later BN.out) (exprAt_lasts 12 _ _ _ _ HFIN.out HD.out.1.1) (HD.out.2.1.1.later HFIN.out) (by have := HD.out.2.1.2; omega) nms_size' (HD.out.2.2.1.later HFIN.out) (by have := HD.out.2.2.2; omega))
    rw [hr] at HE1
    clear hr
    have e0 := cell_of_row _ _ 0 _ _ _ (row_later BN.out HRE.out)
    have e1 := cell_of_row _ _ 1 _ _ _ (row_later BN.out HRE.out)
    have e2 := cell_of_row _ _ 2 _ _ _ (row_later BN.out HRE.out)
    have e3 := cell_of_row _ _ 3 _ _ _ (row_later BN.out HRE.out)
    simp only [List.getElem?_toArray, List.getElem?_cons_zero, List.getElem?_cons_succ] at e0 e1 e2 e3
    go_wp2_with fail
    refine HE1.out.mono ?_
    rintro e o6 ⟨rfl, hb1⟩
    have HB6 := Lib.hid (HFIN.out.trans (hb1.mono HFIN.out.size))
    have B56 := Lib.hid (Bo5.out.trans (hb1.mono Bo5.out.size))
    clear hb1
    clear e0 e1 e2 e3
    have HE2 := Lib.hid (evalExprN_any 6 _ u (nms.take nn) vs na va nn nc vn vc o6 (HW.out.2.1.later HB6.out) (HW.out.2.2.later HB6.out) (exprP_at (exprP_below B56.out Po.out)) (HD.out.2.1.1.later HB6.out) (by have := HD.out.2.1.2; omega) nms_size' (HD.out.2.2.1.later HB6.out) (by have := HD.out.2.2.2; omega))
    have e0 := cell_of_row _ _ 0 _ _ _ (row_later B56.out Ro.out)
    have e1 := cell_of_row _ _ 1 _ _ _ (row_later B56.out Ro.out)
    have e2 := cell_of_row _ _ 2 _ _ _ (row_later B56.out Ro.out)
    have e3 := cell_of_row _ _ 3 _ _ _ (row_later B56.out Ro.out)
    simp only [List.getElem?_toArray, List.getElem?_cons_zero, List.getElem?_cons_succ] at e0 e1 e2 e3
    by_cases hneg : r2 < 0
    · have hd : decide (r2 < 0) = true := decide_eq_true hneg
      obtain ⟨q1, q2, hq⟩ : ∃ q1 q2, evalR2 (nms.take nn) vs 6 u = (q1, q2) := ⟨_, _, rfl⟩
      rw [hq] at HE2
      clear hq hneg HFV
      go_wp2_with fail
      refine HE2.out.mono ?_
      rintro e o7 ⟨rfl, hb1⟩
      have HB7 := Lib.hid (HB6.out.trans (hb1.mono HB6.out.size))
      clear hb1
      clear e0 e1 e2 e3
      go_wp2
      go_ret
      exact ⟨rfl, HW.out.1.trans (HB7.out.mono HW.out.1.size)⟩
    · have hd : decide (r2 < 0) = false := decide_eq_false hneg
      have hev : evalR2 (nms.take nn) vs 6 u = (r1, r2) := HFV.out.elim (fun h => absurd h hneg) (fun h => h.2)
      rw [hev] at HE2
      clear hev hneg HFV
      have j1 : (r1 == r1) = true := by simp
      have j2 : (r2 == r2) = true := by simp
      go_wp2_with fail
      refine HE2.out.mono ?_
      rintro e o7 ⟨rfl, hb1⟩
      have HB7 := Lib.hid (HB6.out.trans (hb1.mono HB6.out.size))
      clear hb1
      clear e0 e1 e2 e3
      go_wp2
      go_ret
      exact ⟨rfl, HW.out.1.trans (HB7.out.mono HW.out.1.size)⟩

end Go.Proofs.YtccfbnhlhjlmgaaDoor

/-
  The card of FnFoldSame: for every input, where the tables read as the program's text makes them, the law returns true, and its arguments read as before.
-/
namespace Go.Proofs.YtccfbnhlhjlmgaaDoor.fnFoldSameDone
open Go.ChangeShapes Go.WideShapes Go.ChangeAt Go.RowKit
set_option linter.unusedVariables false

set_option maxRecDepth 100000 in
theorem lifted (os : Os) (started : os.Started) (H : Type) (enc : TypeId × Value → H) :
    ReturnsInHanded {} Tryd.checked os 11 .any (fun w args => (Rows.fnFoldSameSpec.pre enc Tryd.prog Tryd.f11 [] false w args ∧ laidMetH Tryd.prog laid2 w) ∧ sizedMet enc Tryd.prog Tryd.f11 (OpenSpec.ofChange Rows.fnFoldSameSpec) false w args)
      (Rows.fnFoldSameSpec.post enc Tryd.prog Tryd.f11 false true false false) := by
  refine returnsInHanded_of_change_and (C := Tryd.checked) (X := fun w _ => laidMetH Tryd.prog laid2 w) (fun _ _ _ hh h => h.of_heap hh) own_knob started (by kernel_rfl) Tryd.func11
    (ChangeSpec.witness_shaped (enc := enc) (C := Tryd.checked) (os := os) (X := fun w _ => laidMetH Tryd.prog laid2 w) false (World.doorLaid Tryd.prog 400 os) #[.slice none 0 0, .slice none 0 0] 8 rfl (World.shaped_of_RefB (by kernel_rfl) (by kernel_rfl)) (by kernel_rfl) (by kernel_rfl) (by kernel_rfl) (door_met2 os _)) ?_
  intro W base args ds gs before hval0 hW _ _ hLaid _
  have hval : ∀ (j : Nat) t v, Tryd.f11.params[j]? = some t → args[j]? = some v → Value.okWide Tryd.prog W .any base t v := hval0
  have hW' := hW
  obtain ⟨p, q, hA0, hV, rfl, hfz, hnd⟩ := hW
  have hA : DataW.TrodAll enc Tryd.prog W 0 (fun _ => true) true Tryd.f11.params.toList args.toList ds p := hA0
  rw [Tryd.params11] at hA hval
  obtain ⟨v0, vs0, d0, ds0, p0, q0, hargs, rfl, rfl, h0, r0⟩ := trodAll_cons hA
  obtain ⟨v1, vs1, d1, ds1, p1, q1, rfl, rfl, rfl, h1, r1⟩ := trodAll_cons r0
  obtain ⟨rfl, rfl, rfl⟩ := trodAll_nil r1
  obtain rfl : args = #[v0, v1] := by cases args; simp_all
  have hV2 := hV
  obtain ⟨g0, t0, cs0, f0, d0v, p0v, g1, t1, cs1, f1, d1v, p1v, rfl, -⟩ := trodVars_two hV
  have k0 := h0
  have lt0 : ∀ x ∈ p0, x.block < W.heap.size := by obtain ⟨m, hm⟩ := k0; exact DataW.trod_lt m _ _ _ hm
  obtain ⟨a0, len0, cap0, rfl⟩ := okWide_slice Tryd.underlying22 (hval 0 22 v0 rfl rfl)
  obtain ⟨z0, w0⟩ : ∃ zs, IsRow .u8 W a0 len0 cap0 zs := by
    obtain ⟨fuel, hf⟩ := h0
    rcases open_ints Tryd.underlying22 Tryd.underlying5 (by kernel_rfl) hf with ⟨hcs, _⟩ | ⟨x, l, c, zs, hcs, _, hl, hm, hz, _, hcell, hwz⟩
    · simp [Value.cells] at hcs
      obtain ⟨rfl, rfl, rfl⟩ := hcs
      exact ⟨[], .inl ⟨rfl, rfl, rfl, rfl⟩⟩
    · simp [Value.cells] at hcs
      obtain ⟨rfl, rfl, rfl⟩ := hcs
      exact ⟨zs, .inr ⟨_, rfl, hl, hm, by simpa using hz, hcell, hwz⟩⟩
  have k1 := h1
  have lt1 : ∀ x ∈ p1, x.block < W.heap.size := by obtain ⟨m, hm⟩ := k1; exact DataW.trod_lt m _ _ _ hm
  obtain ⟨a1, len1, cap1, rfl⟩ := okWide_slice Tryd.underlying22 (hval 1 22 v1 rfl rfl)
  obtain ⟨z1, w1⟩ : ∃ zs, IsRow .u8 W a1 len1 cap1 zs := by
    obtain ⟨fuel, hf⟩ := h1
    rcases open_ints Tryd.underlying22 Tryd.underlying5 (by kernel_rfl) hf with ⟨hcs, _⟩ | ⟨x, l, c, zs, hcs, _, hl, hm, hz, _, hcell, hwz⟩
    · simp [Value.cells] at hcs
      obtain ⟨rfl, rfl, rfl⟩ := hcs
      exact ⟨[], .inl ⟨rfl, rfl, rfl, rfl⟩⟩
    · simp [Value.cells] at hcs
      obtain ⟨rfl, rfl, rfl⟩ := hcs
      exact ⟨zs, .inr ⟨_, rfl, hl, hm, by simpa using hz, hcell, hwz⟩⟩
  clear hA0 hval0
  have hFA := ops_of_laid hLaid
  have hKA := keys_of_laid hLaid
  refine (fnFoldSame_walk a0 len0 cap0 z0 a1 len1 cap1 z1 W hFA hKA w0 w1).mono fun e W' ⟨he, bel⟩ => ?_
  subst he
  exact ⟨_, rfl, _, _, _, [], _, _, hW', trodAll_mk1 (shut_bool Tryd.underlying4 _), (trodAll_cons_mk (Below.trod laid_out (by kernel_rfl) (of_decide_eq_true (by kernel_rfl)) k0 bel lt0) (trodAll_cons_mk (Below.trod laid_out (by kernel_rfl) (of_decide_eq_true (by kernel_rfl)) k1 bel lt1) trodAll_mk0)), Below.trodVars laid_out bel (by kernel_rfl) hV2, bel.frame _, fun h => by cases h⟩

theorem row_holds : Rows.FnFoldSameSaid :=
  OpenClaim.holds_of_wide 11 Tryd.f11 rfl rfl rfl rfl rfl rfl rfl ⟨rfl, rfl, rfl, rfl, rfl⟩ rfl rfl rfl rfl rfl (by kernel_rfl) Tryd.func11 (by kernel_rfl)
    (of_decide_eq_true (by kernel_rfl)) (by unfold Func.isWrapper; first | (rw [if_pos (by decide +kernel)]; kernel_rfl) | (rw [if_neg (by decide +kernel)]; exact ⟨rfl, rfl⟩))
    (fun os started H enc _ => lifted os started H enc)

/-- The card of FnFoldSame holds. -/
theorem proved : Rows.FnFoldSameCardSaid :=
  Claim7.holds_tied_plain_at .later [] [.widerDeep, .mapped] true (true, "9d36b701a0af23e4c1ad6590adbaf32a136b405a4fe9223274a7c6ce89975e7b") true
    row_holds (fun _ h => by cases h) (by kernel_rfl) (fun _ h => by cases h) fnFoldSame_row_tie rfl ⟨rfl, rfl⟩ (by kernel_rfl) rfl
    (fun f fn hf hfn => by
      obtain rfl : f = 11 := Option.some.inj ((show Tryd.prog.funcNamed "loop.example/wholeway/laws.FnFoldSame" = some 11 by kernel_rfl).symm.trans hf) |>.symm
      obtain rfl : fn = Tryd.f11 := (Option.some.inj (Tryd.func11.symm.trans hfn)).symm
      exact ⟨by kernel_rfl, fun j t ht => by
        rw [Tryd.params11] at ht
        have hm : t ∈ [22, 22] := by simpa using Array.mem_of_getElem? ht
        have hall : ([22, 22].all fun u => !Tryd.prog.wantsStandIn u) = true := by kernel_rfl
        exact (show Tryd.prog.wantsStandIn t = false by simpa using List.all_eq_true.1 hall t hm)⟩)
    (by kernel_rfl)
#print axioms proved
end Go.Proofs.YtccfbnhlhjlmgaaDoor.fnFoldSameDone
