
/-
  The walk of the law FnFoldNumbers.
-/
import Derived.Test.YtccfbnhlhjlmgaaDoorFs
import Derived.Test.YtccfbnhlhjlmgaaDoorDr5
import Derived.Test.YtccfbnhlhjlmgaaDoorPe4
import Derived.Test.YtccfbnhlhjlmgaaDoorNumbers
import Derived.Test.YtccfbnhlhjlmgaaDoorPt
import Derived.Test.YtccfbnhlhjlmgaaDoorNv3
import Derived.Test.YtccfbnhlhjlmgaaDoorLaw
import Derived.Test.YtccfbnhlhjlmgaaDoorKeysLaid
import Derived.Test.YtccfbnhlhjlmgaaDoorCards
import Derived.Test.YtccfbnhlhjlmgaaDoorTie
import Derived.SevenTiedAt
import Derived.OpenVars

namespace Go.Proofs.YtccfbnhlhjlmgaaDoor
open Go.RowKit
set_option linter.unusedVariables false

theorem row_later {w w' : World} (h : Below w.heap.size w w') {b : Nat} {o : Obj} (hr : w.heap[b]? = some o) : w'.heap[b]? = some o := (h.block _ (Array.getElem?_eq_some_iff.1 hr).1).trans hr
theorem eqFunc_none (a b : Option Addr) (c d : Nat) (f : Value) (w : World) : Calls Tryd.prog 105 #[.slice a 0 c, .slice b 0 d, f] w fun e w' => e = .returned (.bool true) ∧ w' = w := by
  go_enter Tryd.func105, Tryd.ntmps105
  go_wp2
  refine wp_loop_rounds 1 ?_
  rw [rounds_succ]
  go_wp2
  go_ret
  exact ⟨rfl, rfl⟩
set_option maxHeartbeats 1000000 in
theorem sameI_num (v : Int) (a : Option Addr) (c : Nat) (w : World) : Calls Tryd.prog 53 #[.agg #[.int .i64 1, .int .i64 v, .string ⟨#[]⟩, .slice a 0 c], .agg #[.int .i64 1, .int .i64 v, .string ⟨#[]⟩, .slice none 0 0]] w fun e w' => e = .returned (.bool true) ∧ Below w.heap.size w w' := by
  have HB := Lib.hid (blocks2 w (.cells #[.int .i64 1, .int .i64 v, .string ⟨#[]⟩, .slice a 0 c] 29) (.cells #[.int .i64 1, .int .i64 v, .string ⟨#[]⟩, .slice none 0 0] 29))
  go_enter Tryd.func53, Tryd.ntmps53
  go_upto_region 1 with fail
  generalize (w.alloc (.cells #[.int .i64 1, .int .i64 v, .string ⟨#[]⟩, .slice a 0 c] 29)).alloc (.cells #[.int .i64 1, .int .i64 v, .string ⟨#[]⟩, .slice none 0 0] 29) = W1 at HB ⊢
  have p0 := cell_of_row _ _ 0 _ _ _ HB.out.1
  have p1 := cell_of_row _ _ 1 _ _ _ HB.out.1
  have p2 := cell_of_row _ _ 2 _ _ _ HB.out.1
  have p3 := cell_of_row _ _ 3 _ _ _ HB.out.1
  have q0 := cell_of_row _ _ 0 _ _ _ HB.out.2.1
  have q1 := cell_of_row _ _ 1 _ _ _ HB.out.2.1
  have q2 := cell_of_row _ _ 2 _ _ _ HB.out.2.1
  have q3 := cell_of_row _ _ 3 _ _ _ HB.out.2.1
  simp only [List.getElem?_toArray, List.getElem?_cons_zero, List.getElem?_cons_succ] at p0 p1 p2 p3 q0 q1 q2 q3
  have HBW := Lib.hid HB.out.2.2.1
  have i1 : (v == v) = true := by simp
  go_wp2_with fail
  refine (eqFunc_none _ _ _ _ _ W1).mono ?_
  rintro e w2 ⟨rfl, rfl⟩
  clear p0 p1 p2 p3 q0 q1 q2 q3
  go_wp2
  go_ret
  exact ⟨rfl, HBW.out⟩
/-- An expression in its block. -/
structure PutSt2 (w1 : World) (xb : Nat) (cx : List Value) (y : ExprD) (wr : World) : Prop where
  below : Below w1.heap.size w1 wr
  lt : w1.heap.size ≤ xb
  row : wr.heap[xb]? = some (.cells cx.toArray 29 (0, 0))
  ex : ExprP 6 (fun b => b ≠ xb) wr cx y
  valid : sizeD nameD 6 y ≠ none
theorem PutSt2.later {w1 : World} {xb : Nat} {cx : List Value} {y : ExprD} {wr w' : World} (h : PutSt2 w1 xb cx y wr) (hb : Below wr.heap.size wr w') : PutSt2 w1 xb cx y w' :=
  ⟨h.below.trans (hb.mono h.below.size), h.lt, row_later hb h.row, exprP_below hb h.ex, h.valid⟩

set_option maxRecDepth 100000 in
set_option maxHeartbeats 4000000 in
theorem namesOfF_any (cs : List Value) (x : ExprD) (w : World) (hO : OpsAt w) (hK : KeysAt w) (hs : sizeD nameD 6 x ≠ none) (hx : ExprAt 6 w cs x) :
    Calls Tryd.prog 94 #[.agg cs.toArray, .int .i64 2] w fun e w' => ∃ a n c, e = .returned (.slice a n c) ∧ StrsE w' a n (varsD x) ∧ (∀ b off, a = some ⟨b, off, none⟩ → w.heap.size ≤ b) ∧ Below w.heap.size w w' := by
  obtain ⟨xa, xc, rfl⟩ := exprAt_form hx
  have HB := Lib.hid (blocks3 w (.cells #[.int .i64 x.op, .int .i64 x.n, .string x.name, .slice xa x.kids.length xc] 29) (.cells #[.int .i64 2] 3) (.cells #[.slice none 0 0] 38))
  have HI := Lib.hid (And.intro hs (And.intro hx (And.intro hO hK)))
  clear hs hx hO hK
  obtain ⟨R, hR⟩ : ∃ R, R = varsD x := ⟨_, rfl⟩
  rw [← hR]
  have HR := Lib.hid hR
  clear hR
  go_enter Tryd.func94, Tryd.ntmps94
  go_upto_region 2 with fail
  generalize ((w.alloc (.cells #[.int .i64 x.op, .int .i64 x.n, .string x.name, .slice xa x.kids.length xc] 29)).alloc (.cells #[.int .i64 2] 3)).alloc (.cells #[.slice none 0 0] 38) = W1 at HB ⊢
  have e0 := cell_of_row _ _ 0 _ _ _ HB.out.1
  have e1 := cell_of_row _ _ 1 _ _ _ HB.out.1
  have e2 := cell_of_row _ _ 2 _ _ _ HB.out.1
  have e3 := cell_of_row _ _ 3 _ _ _ HB.out.1
  simp only [List.getElem?_toArray, List.getElem?_cons_zero, List.getElem?_cons_succ] at e0 e1 e2 e3
  have HV := Lib.hid (exprValidN_any 6 _ x W1 (HI.out.2.2.1.later HB.out.2.2.2.1) (HI.out.2.2.2.later HB.out.2.2.2.1) (exprAt_lasts 6 _ _ _ _ HB.out.2.2.2.1 HI.out.2.1))
  rw [show (sizeD nameD 6 x).isSome = true by
    cases h : sizeD nameD 6 x with
    | none => exact absurd h HI.out.1
    | some q => rfl] at HV
  go_wp2_with fail
  refine HV.out.mono ?_
  rintro e w2 ⟨rfl, hb2⟩
  have k0 := cell_later hb2 e0
  have k1 := cell_later hb2 e1
  have k2 := cell_later hb2 e2
  have k3 := cell_later hb2 e3
  have H2 := Lib.hid (show Below w.heap.size w w2 ∧ NamesSt w (w.heap.size + 1) (w.heap.size + 2) 2 w2 [] from
    ⟨HB.out.2.2.2.1.trans (hb2.mono HB.out.2.2.2.1.size), NamesSt.later ⟨⟨by omega, by omega⟩, HB.out.2.1, none, 0, 0, HB.out.2.2.1, World.ownsRow_nil _ _ _ _⟩ hb2⟩)
  clear hb2 e0 e1 e2 e3 HV
  have hen : ∀ v W, (callFunc 137 (#[v] ++ #[.pointer (some ⟨w.heap.size + 1, 0, none⟩), .pointer (some ⟨w.heap.size + 2, 0, none⟩)])).run Tryd.prog W = .ok (.enter 137 (#[v] ++ #[.pointer (some ⟨w.heap.size + 1, 0, none⟩), .pointer (some ⟨w.heap.size + 2, 0, none⟩)])) W := fun v W => by kernel_rfl
  have HP := Lib.hid (parts_gen w 137 #[.pointer (some ⟨w.heap.size + 1, 0, none⟩), .pointer (some ⟨w.heap.size + 2, 0, none⟩)] (NamesSt w (w.heap.size + 1) (w.heap.size + 2) 2) (addN 2) List.length
    ⟨hen, fun d cs x W acc hx hW hI hb => namesC_any w (w.heap.size + 1) (w.heap.size + 2) 2 d cs x W acc hx hW hI hb, fun _ _ _ h hb => h.later hb, fun x st => addN_len x st⟩ 6 [] _ x w2 HI.out.1 HI.out.2.1 H2.out.1 H2.out.2 (by decide))
  clear hen
  go_wp2_with fail
  refine HP.out.mono ?_
  rintro e w3 ⟨rfl, hI3, hb3, -⟩
  obtain ⟨a, n, c, hbo, hown⟩ := hI3.row
  have HF := Lib.hid (show StrsE w3 a n R ∧ (∀ b off, a = some ⟨b, off, none⟩ → w.heap.size ≤ b) ∧ Below w.heap.size w w3 from ⟨by rw [HR.out]; exact ⟨by have := hown.1; simpa [varsD] using this, rowAt_of_own hown⟩, fun b off h => by
    rcases hown.2 with ⟨hv, _⟩ | ⟨g, cap, cur, hv, hbg, _⟩
    · simp only [Value.slice.injEq] at hv
      rw [hv.1] at h; cases h
    · simp only [Value.slice.injEq] at hv
      rw [hv.1] at h
      simp only [Option.some.injEq, Addr.mk.injEq] at h
      omega, H2.out.1.trans hb3⟩)
  have s0 := cell_of_row _ _ 0 _ _ _ hbo
  simp only [List.getElem?_toArray, List.getElem?_cons_zero] at s0
  clear hI3 hb3 hbo hown k0 k1 k2 k3
  go_wp2
  go_ret
  exact ⟨a, n, c, rfl, HF.out⟩

set_option maxRecDepth 100000 in
theorem varsOfF_any (cs : List Value) (x : ExprD) (w : World) (hO : OpsAt w) (hK : KeysAt w) (hs : sizeD nameD 6 x ≠ none) (hx : ExprAt 6 w cs x) :
    Calls Tryd.prog 38 #[.agg cs.toArray] w fun e w' => ∃ a n c, e = .returned (.slice a n c) ∧ StrsE w' a n (varsD x) ∧ (∀ b off, a = some ⟨b, off, none⟩ → w.heap.size ≤ b) ∧ Below w.heap.size w w' := by
  obtain ⟨xa, xc, rfl⟩ := exprAt_form hx
  have hba : Below w.heap.size w (w.alloc (.cells #[.int .i64 x.op, .int .i64 x.n, .string x.name, .slice xa x.kids.length xc] 29)) := (Below.refl _ _).alloc (Nat.le_refl _) _
  have hrow := heap_alloc_new w (.cells #[.int .i64 x.op, .int .i64 x.n, .string x.name, .slice xa x.kids.length xc] 29)
  have e0 := cell_of_row _ _ 0 _ _ _ hrow
  have e1 := cell_of_row _ _ 1 _ _ _ hrow
  have e2 := cell_of_row _ _ 2 _ _ _ hrow
  have e3 := cell_of_row _ _ 3 _ _ _ hrow
  simp only [List.getElem?_toArray, List.getElem?_cons_zero, List.getElem?_cons_succ] at e0 e1 e2 e3
  have HN := Lib.hid (And.intro (namesOfF_any _ x _ (hO.later hba) (hK.later hba) hs (exprAt_lasts 6 _ _ _ _ hba hx)) hba)
  clear hba hrow hO hK hs hx
  go_enter Tryd.func38, Tryd.ntmps38
  go_wp2_with fail
  refine HN.out.1.mono ?_
  rintro e w2 ⟨a, n, c, rfl, hS, hfr, hb2⟩
  have HF := Lib.hid (And.intro hS (And.intro (fun b off h => Nat.le_trans HN.out.2.size (hfr b off h)) (HN.out.2.trans (hb2.mono HN.out.2.size))))
  clear hS hb2 hfr e0 e1 e2 e3
  go_wp2
  go_ret
  exact ⟨a, n, c, rfl, HF.out⟩

set_option maxRecDepth 100000 in
set_option maxHeartbeats 8000000 in
theorem fnFoldNumbers_walk (a : Option Addr) (len cap : Nat) (zs : List Int) (w : World) (hO : OpsAt w) (hK : KeysAt w) (hrow : IsRow .u8 w a len cap zs) :
    Calls Tryd.prog 13 #[.slice a len cap] w fun e w' => e = .returned (.bool true) ∧ Below w.heap.size w w' := by
  have hin := bytes_of_row hrow
  have hcap := cap_of_row hrow
  clear hrow
  by_cases hbig : 1048576 < len
  · go_enter Tryd.func13, Tryd.ntmps13
    go_wp2
    go_ret
    exact ⟨rfl, Below.refl _ _⟩
  go_enter Tryd.func13, Tryd.ntmps13
  go_wp2_with fail
  refine (drawFold_any w a len cap _ hin hcap).mono ?_
  rintro e w1 ⟨cs, x, rfl, hx, hL, hb1⟩
  obtain ⟨xa, xc, rfl⟩ := exprP_form hx
  have HW := Lib.hid (And.intro hb1 (And.intro (hO.later hb1) (hK.later hb1)))
  have HX0 := Lib.hid (And.intro (exprP_here hx) hL)
  clear hx hL hb1 hO hK hin hcap hbig
  have hba : Below w1.heap.size w1 (w1.alloc (.cells #[.int .i64 x.op, .int .i64 x.n, .string x.name, .slice xa x.kids.length xc] 29)) := (Below.refl _ _).alloc (Nat.le_refl _) _
  have FX := Lib.hid (And.intro hba (heap_alloc_new w1 (.cells #[.int .i64 x.op, .int .i64 x.n, .string x.name, .slice xa x.kids.length xc] 29)))
  clear hba
  go_upto_region 4 with fail
  obtain ⟨xb, heb⟩ : ∃ b, b = w1.heap.size := ⟨_, rfl⟩
  rw [← heb] at FX ⊢
  generalize w1.alloc (.cells #[.int .i64 x.op, .int .i64 x.n, .string x.name, .slice xa x.kids.length xc] 29) = w2 at FX ⊢
  have FXB := Lib.hid (show Below w1.heap.size w1 w2 from by rw [← heb]; exact FX.out.1)
  have FXS := Lib.hid heb
  clear heb
  have FXR := Lib.hid FX.out.2
  clear FX
  have HO2 := Lib.hid (show OpsAt w2 ∧ KeysAt w2 from ⟨HW.out.2.1.later FXB.out, HW.out.2.2.later FXB.out⟩)
  have HPX := Lib.hid (exprP_mono (S' := fun k => k < w2.heap.size) (fun k h _ => h) (exprP_le (d' := 12) (by omega) (exprP_below FXB.out HX0.out.1)))
  have HLX := Lib.hid (show anyE longP 12 x = false from HX0.out.2)
  obtain ⟨u, hz⟩ : ∃ z, z = foldE x := ⟨_, rfl⟩
  have HZo := Lib.hid hz
  clear hz
  obtain ⟨ge, hg⟩ : ∃ b, b = (sizeD nameD 6 x).isSome := ⟨_, rfl⟩
  have HGo := Lib.hid hg
  clear hg
  have HFI := Lib.hid (foldExpr_any 12 (fun k => k < w2.heap.size) _ x w2 HO2.out.1 HO2.out.2 HPX.out (fun k h => h))
  rw [← HZo.out, ← HGo.out] at HFI
  have e0 := cell_of_row _ _ 0 _ _ _ (FXR.out)
  have e1 := cell_of_row _ _ 1 _ _ _ (FXR.out)
  have e2 := cell_of_row _ _ 2 _ _ _ (FXR.out)
  have e3 := cell_of_row _ _ 3 _ _ _ (FXR.out)
  simp only [List.getElem?_toArray, List.getElem?_cons_zero, List.getElem?_cons_succ] at e0 e1 e2 e3
  go_wp2_with fail
  refine HFI.out.mono ?_
  rintro e o1 ⟨cs1, rfl, hx1, hb1⟩
  obtain ⟨oa, oc, rfl⟩ := exprP_form hx1
  have Ho1 := Lib.hid hx1
  have Bo1 := Lib.hid hb1
  clear hx1 hb1 HFI
  clear e0 e1 e2 e3
  have hba : Below o1.heap.size o1 (o1.alloc (.cells #[.int .i64 u.op, .int .i64 u.n, .string u.name, .slice oa u.kids.length oc] 29)) := (Below.refl _ _).alloc (Nat.le_refl _) _
  have Fo := Lib.hid (And.intro hba (heap_alloc_new o1 (.cells #[.int .i64 u.op, .int .i64 u.n, .string u.name, .slice oa u.kids.length oc] 29)))
  clear hba
  go_upto_region 5 with fail
  obtain ⟨ob, heb⟩ : ∃ b, b = o1.heap.size := ⟨_, rfl⟩
  rw [← heb] at Fo ⊢
  generalize o1.alloc (.cells #[.int .i64 u.op, .int .i64 u.n, .string u.name, .slice oa u.kids.length oc] 29) = o2 at Fo ⊢
  have FoB := Lib.hid (show Below o1.heap.size o1 o2 from by rw [← heb]; exact Fo.out.1)
  have FoS := Lib.hid heb
  clear heb
  have FoR := Lib.hid Fo.out.2
  clear Fo
  have Bo2 := Lib.hid (Bo1.out.trans (FoB.out.mono Bo1.out.size))
  have HFS := Lib.hid (foldExprS_any 12 (fun k => k < w2.heap.size) _ x o2 (HO2.out.1.later Bo2.out) (HO2.out.2.later Bo2.out) (exprP_below Bo2.out HPX.out) HLX.out (fun k h => Nat.lt_of_lt_of_le h Bo2.out.size))
  rw [← HZo.out, ← HGo.out] at HFS
  have e0 := cell_of_row _ _ 0 _ _ _ (row_later Bo2.out (FXR.out))
  have e1 := cell_of_row _ _ 1 _ _ _ (row_later Bo2.out (FXR.out))
  have e2 := cell_of_row _ _ 2 _ _ _ (row_later Bo2.out (FXR.out))
  have e3 := cell_of_row _ _ 3 _ _ _ (row_later Bo2.out (FXR.out))
  simp only [List.getElem?_toArray, List.getElem?_cons_zero, List.getElem?_cons_succ] at e0 e1 e2 e3
  go_wp2_with fail
  refine HFS.out.mono ?_
  rintro e o3 ⟨cs1, rfl, hx1, hb1⟩
  obtain ⟨od, oe, rfl⟩ := exprP_form hx1
  have Ho3 := Lib.hid hx1
  have Bo3 := Lib.hid hb1
  clear hx1 hb1 HFS
  clear e0 e1 e2 e3
  have hba : Below o3.heap.size o3 (o3.alloc (.cells #[.int .i64 u.op, .int .i64 u.n, .string u.name, .slice od u.kids.length oe] 29)) := (Below.refl _ _).alloc (Nat.le_refl _) _
  have Go := Lib.hid (And.intro hba (heap_alloc_new o3 (.cells #[.int .i64 u.op, .int .i64 u.n, .string u.name, .slice od u.kids.length oe] 29)))
  clear hba
  go_upto_region 6 with fail
  obtain ⟨of, heb⟩ : ∃ b, b = o3.heap.size := ⟨_, rfl⟩
  rw [← heb] at Go ⊢
  generalize o3.alloc (.cells #[.int .i64 u.op, .int .i64 u.n, .string u.name, .slice od u.kids.length oe] 29) = o4 at Go ⊢
  have GoB := Lib.hid (show Below o3.heap.size o3 o4 from by rw [← heb]; exact Go.out.1)
  have GoS := Lib.hid heb
  clear heb
  have GoR := Lib.hid Go.out.2
  clear Go
  have Bo4 := Lib.hid (Bo3.out.trans (GoB.out.mono Bo3.out.size))
  have Bo := Lib.hid (Bo2.out.trans (Bo4.out.mono Bo2.out.size))
  have Ro := Lib.hid (row_later Bo4.out FoR.out)
  have Po := Lib.hid (exprP_below (FoB.out.trans (Bo4.out.mono FoB.out.size)) Ho1.out)
  have SMo := Lib.hid (sameS_any 6 _ _ u o4 (exprP_at Po.out) (exprP_at (exprP_below GoB.out Ho3.out)))
  have i1 : (ge != ge) = false := by cases ge <;> rfl
  have i2 : (ge == ge) = true := by cases ge <;> rfl
  have e0 := cell_of_row _ _ 0 _ _ _ (Ro.out)
  have e1 := cell_of_row _ _ 1 _ _ _ (Ro.out)
  have e2 := cell_of_row _ _ 2 _ _ _ (Ro.out)
  have e3 := cell_of_row _ _ 3 _ _ _ (Ro.out)
  simp only [List.getElem?_toArray, List.getElem?_cons_zero, List.getElem?_cons_succ] at e0 e1 e2 e3
  have f0 := cell_of_row _ _ 0 _ _ _ (GoR.out)
  have f1 := cell_of_row _ _ 1 _ _ _ (GoR.out)
  have f2 := cell_of_row _ _ 2 _ _ _ (GoR.out)
  have f3 := cell_of_row _ _ 3 _ _ _ (GoR.out)
  simp only [List.getElem?_toArray, List.getElem?_cons_zero, List.getElem?_cons_succ] at f0 f1 f2 f3
  go_wp2_with fail
  refine SMo.out.mono ?_
  rintro e o5 ⟨rfl, hb1⟩
  have Bo5 := Lib.hid hb1
  clear hb1
  clear e0 e1 e2 e3 f0 f1 f2 f3
  cases hge : ge with
  | false =>
    subst hge
    have e0 := cell_of_row _ _ 0 _ _ _ (row_later Bo5.out Ro.out)
    have e1 := cell_of_row _ _ 1 _ _ _ (row_later Bo5.out Ro.out)
    have e2 := cell_of_row _ _ 2 _ _ _ (row_later Bo5.out Ro.out)
    have e3 := cell_of_row _ _ 3 _ _ _ (row_later Bo5.out Ro.out)
    simp only [List.getElem?_toArray, List.getElem?_cons_zero, List.getElem?_cons_succ] at e0 e1 e2 e3
    have f0 := cell_of_row _ _ 0 _ _ _ (row_later Bo5.out GoR.out)
    have f1 := cell_of_row _ _ 1 _ _ _ (row_later Bo5.out GoR.out)
    have f2 := cell_of_row _ _ 2 _ _ _ (row_later Bo5.out GoR.out)
    have f3 := cell_of_row _ _ 3 _ _ _ (row_later Bo5.out GoR.out)
    simp only [List.getElem?_toArray, List.getElem?_cons_zero, List.getElem?_cons_succ] at f0 f1 f2 f3
    have SM2 := Lib.hid (sameS_any 6 _ _ u o5 (exprP_at (exprP_below Bo5.out Po.out)) (exprP_at (exprP_below (GoB.out.trans (Bo5.out.mono GoB.out.size)) Ho3.out)))
    have HFIN := Lib.hid (FXB.out.trans ((Bo.out.trans (Bo5.out.mono Bo.out.size)).mono FXB.out.size))
    go_wp2_with fail
    refine SM2.out.mono ?_
    rintro e o6 ⟨rfl, hb1⟩
    have HFIN2 := Lib.hid (HFIN.out.trans (hb1.mono HFIN.out.size))
    clear hb1
    clear e0 e1 e2 e3 f0 f1 f2 f3
    go_wp2
    go_ret
    exact ⟨rfl, HW.out.1.trans (HFIN2.out.mono HW.out.1.size)⟩
  | true =>
    subst hge
    have HFIN := Lib.hid (FXB.out.trans ((Bo.out.trans (Bo5.out.mono Bo.out.size)).mono FXB.out.size))
    have BO := Lib.hid (Bo.out.trans (Bo5.out.mono Bo.out.size))
    have hval : sizeD nameD 6 x ≠ none := fun h => by have := HGo.out; rw [h] at this; cases this
    have HPS := Lib.hid (show PutSt2 w1 xb [.int .i64 x.op, .int .i64 x.n, .string x.name, .slice xa x.kids.length xc] x o5 from
      ⟨HFIN.out, by have := FXS.out; omega, row_later BO.out FXR.out, exprP_mono (fun k h1 h2 => by have := FXS.out; omega) (exprP_fit hval (exprP_below HFIN.out HX0.out.1)), hval⟩)
    have HVO := Lib.hid (varsOfF_any _ x o5 (HW.out.2.1.later HFIN.out) (HW.out.2.2.later HFIN.out) hval (exprP_at HPS.out.ex))
    clear hval i1 i2
    have e0 := cell_of_row _ _ 0 _ _ _ (HPS.out.row)
    have e1 := cell_of_row _ _ 1 _ _ _ (HPS.out.row)
    have e2 := cell_of_row _ _ 2 _ _ _ (HPS.out.row)
    have e3 := cell_of_row _ _ 3 _ _ _ (HPS.out.row)
    simp only [List.getElem?_toArray, List.getElem?_cons_zero, List.getElem?_cons_succ] at e0 e1 e2 e3
    go_upto_region 8 with fail
    go_wp2_with fail
    refine HVO.out.mono ?_
    rintro e o6 ⟨va, vn, vc, rfl, hS, hfr, hb1⟩
    have HPS6 := Lib.hid (HPS.out.later hb1)
    have HNS := Lib.hid (And.intro hS hfr)
    have HSZ5 := Lib.hid (show xb < o5.heap.size from (Array.getElem?_eq_some_iff.1 HPS.out.row).1)
    have HNN := Lib.hid (show vn ≤ 4096 by have := varsD_len (HPS.out.valid); have := hS.length; omega)
    clear hb1 hS hfr
    clear e0 e1 e2 e3
    go_wp2_with fail
    go_loopg [53] vn (fun G i wr => ∃ (k : Nat) (cx : List Value) (y : ExprD), k + G = vn ∧ i = .int .i64 k ∧ Hid (PutSt2 w1 xb cx y wr ∧ Turned (fun b => b = xb ∨ o6.heap.size ≤ b) o6 wr))
    case atStart => exact ⟨0, _, _, by omega, rfl, Lib.hid ⟨HPS6.out, Turned.refl _ _⟩⟩
    case round =>
      obtain ⟨k, cx, y, hk, rfl, HB⟩ := hrel
      obtain ⟨ya, yc, hcx⟩ := exprP_form HB.out.1.ex
      subst hcx
      have b0 := cell_of_row _ _ 0 _ _ _ HB.out.1.row
      have b1 := cell_of_row _ _ 1 _ _ _ HB.out.1.row
      have b2 := cell_of_row _ _ 2 _ _ _ HB.out.1.row
      have b3 := cell_of_row _ _ 3 _ _ _ HB.out.1.row
      simp only [List.getElem?_toArray, List.getElem?_cons_zero, List.getElem?_cons_succ] at b0 b1 b2 b3
      have hvn := HNN.out
      by_cases hlt : k < vn
      · have hki : (k : Int) < (vn : Int) := by omega
        obtain ⟨nb, noff, t, rfl, hs, cs0⟩ := HNS.out.1.place hlt
        have hnb := HNS.out.2 _ _ rfl
        have hcs := (World.cell?_of_block (HB.out.2.block nb (World.block_lt_of_cell? _ _ cs0) (fun h => by have := FXS.out; have := HSZ5.out; have := World.block_lt_of_cell? _ _ cs0; simp only at this; omega))).trans cs0
        clear cs0 hs hnb
        have hbW := HB.out.1.below
        have HPV := Lib.hid (putVar_any (fun b => b ≠ xb ∧ b < wr.heap.size) _ y t 3 wr (HW.out.2.1.later hbW) (HW.out.2.2.later hbW) (by decide) HB.out.1.valid (exprP_here HB.out.1.ex) (fun _ h => h.2))
        clear hbW
        go_wp2_with fail
        refine HPV.out.mono ?_
        rintro e w8 ⟨cs8, rfl, hz, hb8⟩
        obtain ⟨za, zc, hcs8⟩ := exprP_form hz
        subst hcs8
        obtain ⟨z, hzz⟩ : ∃ z, z = putD t (numE 3) 6 y := ⟨_, rfl⟩
        rw [← hzz] at hz ⊢
        have hxr := (hb8.block xb (Array.getElem?_eq_some_iff.1 HB.out.1.row).1).trans HB.out.1.row
        have f0 := frozen_of_row _ _ 0 _ _ hxr
        have f1 := frozen_of_row _ _ 1 _ _ hxr
        have f2 := frozen_of_row _ _ 2 _ _ hxr
        have f3 := frozen_of_row _ _ 3 _ _ hxr
        have x0 := cell_of_row _ _ 0 _ _ _ hxr
        have x1 := cell_of_row _ _ 1 _ _ _ hxr
        have x2 := cell_of_row _ _ 2 _ _ _ hxr
        have x3 := cell_of_row _ _ 3 _ _ _ hxr
        simp only [List.getElem?_toArray, List.getElem?_cons_zero, List.getElem?_cons_succ] at x0 x1 x2 x3
        have HNX := Lib.hid (show PutSt2 w1 xb [.int .i64 z.op, .int .i64 z.n, .string z.name, .slice za z.kids.length zc] z (w8.setCells xb 0 [.int .i64 z.op, .int .i64 z.n, .string z.name, .slice za z.kids.length zc]) ∧ Turned (fun b => b = xb ∨ o6.heap.size ≤ b) o6 (w8.setCells xb 0 [.int .i64 z.op, .int .i64 z.n, .string z.name, .slice za z.kids.length zc]) by
          have ht := turned_setCells (g := xb) [.int .i64 z.op, .int .i64 z.n, .string z.name, .slice za z.kids.length zc] w8 0
          have hb9 := HB.out.1.below.trans (hb8.mono HB.out.1.below.size)
          refine ⟨⟨hb9.trans (ht.below (B := w1.heap.size) hb9.size (fun b hb => by have := HB.out.1.lt; omega)), HB.out.1.lt, ?_, exprP_turned ht (fun b _ h1 h2 => ?_) (exprP_mono (fun b _ h => ?_) hz), by rw [hzz]; exact put_valid (by decide) HB.out.1.valid⟩, ?_⟩
          · have := heap_setCells_mid (A := []) (B := [.int .i64 y.op, .int .i64 y.n, .string y.name, .slice ya y.kids.length yc]) (C := []) (vs := [.int .i64 z.op, .int .i64 z.n, .string z.name, .slice za z.kids.length zc]) (o := 0) rfl rfl (by simpa using hxr)
            simpa using this
          · exact h1 h2
          · rcases h with h | h
            · exact h.1
            · have := (Array.getElem?_eq_some_iff.1 HB.out.1.row).1; omega
          · exact (HB.out.2.trans ((turned_of_below hb8 (S := fun b => b = xb ∨ o6.heap.size ≤ b) (fun b h1 h2 => .inr (Nat.le_trans HB.out.2.size h1)))) ).trans (ht.mono (fun b h => .inl h)))
        rw [setCells4'] at HNX
        clear hz hzz hb8 hxr hcs b0 b1 b2 b3
        go_upto_region 12 with fail
        clear x0 x1 x2 x3 f0 f1 f2 f3
        generalize (((w8.setCell ⟨xb, 0, none⟩ (.int .i64 z.op)).setCell ⟨xb, 1, none⟩ (.int .i64 z.n)).setCell ⟨xb, 2, none⟩ (.string z.name)).setCell ⟨xb, 3, none⟩ (.slice za z.kids.length zc) = W10 at HNX ⊢
        go_wp2
        go_roundg (gk - 1)
        case measure => omega
        case rel => exact ⟨k + 1, _, _, by omega, by go_num, HNX⟩
      · obtain rfl : k = vn := by omega
        have hbW := HB.out.1.below
        obtain ⟨r1, r2, hr⟩ : ∃ r1 r2, evalR2 [] [] 6 y = (r1, r2) := ⟨_, _, rfl⟩
        have HEV := Lib.hid (evalExprN_any 6 _ y [] [] none none 0 0 0 0 wr (HW.out.2.1.later hbW) (HW.out.2.2.later hbW) (exprP_at HB.out.1.ex) ⟨rfl, .inl rfl⟩ (by omega) (by simp) ⟨rfl, .inl rfl⟩ (by omega))
        rw [hr] at HEV
        have HRR := Lib.hid hr
        clear hbW hr
        by_cases h0 : r2 = 0
        · have HFN := Lib.hid (show foldE y = numE r1 ∧ (sizeD nameD 6 y).isSome = true by
            rcases evalR2_cases [] [] 6 y with hc | ⟨h1, h2, h3, h4, hc⟩
            · rw [HRR.out] at hc
              simp only [Prod.mk.injEq] at hc
              omega
            · rw [HRR.out] at hc
              have hv : (sizeD nameD 6 y).isSome = true := by
                cases hq : sizeD nameD 6 y with
                | none => exact absurd hq h1
                | some q => rfl
              cases hg : evalV (valV [] []) 6 y with
              | none =>
                rw [hg] at hc
                simp only [arithP, Prod.mk.injEq] at hc
                omega
              | some v =>
                rw [hg] at hc
                simp only [arithP, Prod.mk.injEq] at hc
                obtain ⟨rfl, _⟩ := hc
                exact ⟨by rw [foldE, if_pos hv, fold_num 6 6 y _ h1 (Nat.le_refl 6) h4 hg], hv⟩)
          have hn : (r2 != 0) = false := by rw [h0]; rfl
          have hn2 : (r2 == 0) = true := by rw [h0]; rfl
          clear h0
          go_wp2_with fail
          refine HEV.out.mono ?_
          rintro e w7 ⟨rfl, hb7⟩
          have HB7 := Lib.hid (HB.out.1.below.trans (hb7.mono HB.out.1.below.size))
          have k0 := cell_later hb7 b0
          have k1 := cell_later hb7 b1
          have k2 := cell_later hb7 b2
          have k3 := cell_later hb7 b3
          have HFE := Lib.hid (foldExpr_any 6 (fun k => k < w7.heap.size) _ y w7 (HW.out.2.1.later HB7.out) (HW.out.2.2.later HB7.out) (exprP_mono (fun k h _ => h) (exprP_below hb7 HB.out.1.ex)) (fun k h => h))
          rw [HFN.out.1, HFN.out.2] at HFE
          clear hb7 b0 b1 b2 b3 HEV
          go_wp2_with fail
          refine HFE.out.mono ?_
          rintro e w8 ⟨cs8, rfl, hz, hb8⟩
          obtain ⟨za, zc, hcs8⟩ := exprP_form hz
          subst hcs8
          have hba : Below w8.heap.size w8 (w8.alloc (.cells #[.int .i64 1, .int .i64 r1, .string ⟨#[]⟩, .slice za 0 zc] 29)) := (Below.refl _ _).alloc (Nat.le_refl _) _
          have hrow := heap_alloc_new w8 (.cells #[.int .i64 1, .int .i64 r1, .string ⟨#[]⟩, .slice za 0 zc] 29)
          have HB8 := Lib.hid (HB7.out.trans ((hb8.trans (hba.mono hb8.size)).mono HB7.out.size))
          have m0 := cell_of_row _ _ 0 _ _ _ hrow
          have m1 := cell_of_row _ _ 1 _ _ _ hrow
          have m2 := cell_of_row _ _ 2 _ _ _ hrow
          have m3 := cell_of_row _ _ 3 _ _ _ hrow
          simp only [List.getElem?_toArray, List.getElem?_cons_zero, List.getElem?_cons_succ] at m0 m1 m2 m3
          clear hba hrow hz hb8 k0 k1 k2 k3
          go_wp2_with fail
          refine (sameI_num r1 za zc _).mono ?_
          rintro e w9 ⟨rfl, hb9⟩
          have HB9 := Lib.hid (HB8.out.trans (hb9.mono HB8.out.size))
          clear hb9 m0 m1 m2 m3
          go_wp2
          go_ret
          exact ⟨rfl, HW.out.1.trans (HB9.out.mono HW.out.1.size)⟩
        · have hn : (r2 != 0) = true := by simpa using h0
          have hn2 : (r2 == 0) = false := by simpa using h0
          clear h0
          go_wp2_with fail
          refine HEV.out.mono ?_
          rintro e w7 ⟨rfl, hb7⟩
          have HB7 := Lib.hid (HB.out.1.below.trans (hb7.mono HB.out.1.below.size))
          clear hb7 b0 b1 b2 b3
          go_wp2
          go_ret
          exact ⟨rfl, HW.out.1.trans (HB7.out.mono HW.out.1.size)⟩

end Go.Proofs.YtccfbnhlhjlmgaaDoor

/-
  The card of FnFoldNumbers: for every input, where the tables read as the program's text makes them, the law returns true, and its arguments read as before.
-/
namespace Go.Proofs.YtccfbnhlhjlmgaaDoor.fnFoldNumbersDone
open Go.ChangeShapes Go.WideShapes Go.ChangeAt Go.RowKit
set_option linter.unusedVariables false

set_option maxRecDepth 100000 in
theorem lifted (os : Os) (started : os.Started) (H : Type) (enc : TypeId × Value → H) :
    ReturnsInHanded {} Tryd.checked os 13 .any (fun w args => (Rows.fnFoldNumbersSpec.pre enc Tryd.prog Tryd.f13 [] false w args ∧ laidMetH Tryd.prog laid2 w) ∧ sizedMet enc Tryd.prog Tryd.f13 (OpenSpec.ofChange Rows.fnFoldNumbersSpec) false w args)
      (Rows.fnFoldNumbersSpec.post enc Tryd.prog Tryd.f13 false true false false) := by
  refine returnsInHanded_of_change_and (C := Tryd.checked) (X := fun w _ => laidMetH Tryd.prog laid2 w) (fun _ _ _ hh h => h.of_heap hh) own_knob started (by kernel_rfl) Tryd.func13
    (ChangeSpec.witness_shaped (enc := enc) (C := Tryd.checked) (os := os) (X := fun w _ => laidMetH Tryd.prog laid2 w) false (World.doorLaid Tryd.prog 400 os) #[.slice none 0 0] 8 rfl (World.shaped_of_RefB (by kernel_rfl) (by kernel_rfl)) (by kernel_rfl) (by kernel_rfl) (by kernel_rfl) (door_met2 os _)) ?_
  intro W base args ds gs before hval0 hW _ _ hLaid _
  have hval : ∀ (j : Nat) t v, Tryd.f13.params[j]? = some t → args[j]? = some v → Value.okWide Tryd.prog W .any base t v := hval0
  have hW' := hW
  obtain ⟨p, q, hA0, hV, rfl, hfz, hnd⟩ := hW
  have hA : DataW.TrodAll enc Tryd.prog W 0 (fun _ => true) true Tryd.f13.params.toList args.toList ds p := hA0
  rw [Tryd.params13] at hA hval
  obtain ⟨v0, vs0, d0, ds0, p0, q0, hargs, rfl, rfl, h0, r0⟩ := trodAll_cons hA
  obtain ⟨rfl, rfl, rfl⟩ := trodAll_nil r0
  obtain rfl : args = #[v0] := by cases args; simp_all
  have hV2 := hV
  obtain ⟨g0, t0, cs0, f0, d0v, p0v, g1, t1, cs1, f1, d1v, p1v, rfl, -⟩ := trodVars_two hV
  have k0 := h0
  have lt0 : ∀ x ∈ p0, x.block < W.heap.size := by obtain ⟨m, hm⟩ := k0; exact DataW.trod_lt m _ _ _ hm
  obtain ⟨a0, len0, cap0, rfl⟩ := okWide_slice Tryd.underlying22 (hval 0 22 v0 rfl rfl)
  obtain ⟨z0, w0⟩ : ∃ zs, IsRow .u8 W a0 len0 cap0 zs := by
    obtain ⟨fuel, hf⟩ := h0
    rcases open_ints Tryd.underlying22 Tryd.underlying5 (by kernel_rfl) hf with ⟨hcs, _⟩ | ⟨x, l, c, zs, hcs, _, hl, hm, hz, _, hcell, hwz⟩
    · simp [Value.cells] at hcs
      obtain ⟨rfl, rfl, rfl⟩ := hcs
      exact ⟨[], .inl ⟨rfl, rfl, rfl, rfl⟩⟩
    · simp [Value.cells] at hcs
      obtain ⟨rfl, rfl, rfl⟩ := hcs
      exact ⟨zs, .inr ⟨_, rfl, hl, hm, by simpa using hz, hcell, hwz⟩⟩
  clear hA0 hval0
  have hFA := ops_of_laid hLaid
  have hKA := keys_of_laid hLaid
  refine (fnFoldNumbers_walk a0 len0 cap0 z0 W hFA hKA w0).mono fun e W' ⟨he, bel⟩ => ?_
  subst he
  exact ⟨_, rfl, _, _, _, [], _, _, hW', trodAll_mk1 (shut_bool Tryd.underlying4 _), (trodAll_cons_mk (Below.trod laid_out (by kernel_rfl) (of_decide_eq_true (by kernel_rfl)) k0 bel lt0) trodAll_mk0), Below.trodVars laid_out bel (by kernel_rfl) hV2, bel.frame _, fun h => by cases h⟩

theorem row_holds : Rows.FnFoldNumbersSaid :=
  OpenClaim.holds_of_wide 13 Tryd.f13 rfl rfl rfl rfl rfl rfl rfl ⟨rfl, rfl, rfl, rfl, rfl⟩ rfl rfl rfl rfl rfl (by kernel_rfl) Tryd.func13 (by kernel_rfl)
    (of_decide_eq_true (by kernel_rfl)) (by unfold Func.isWrapper; first | (rw [if_pos (by decide +kernel)]; kernel_rfl) | (rw [if_neg (by decide +kernel)]; exact ⟨rfl, rfl⟩))
    (fun os started H enc _ => lifted os started H enc)

/-- The card of FnFoldNumbers holds. -/
theorem proved : Rows.FnFoldNumbersCardSaid :=
  Claim7.holds_tied_plain_at .later [] [.widerDeep, .mapped] true (true, "9d36b701a0af23e4c1ad6590adbaf32a136b405a4fe9223274a7c6ce89975e7b") true
    row_holds (fun _ h => by cases h) (by kernel_rfl) (fun _ h => by cases h) fnFoldNumbers_row_tie rfl ⟨rfl, rfl⟩ (by kernel_rfl) rfl
    (fun f fn hf hfn => by
      obtain rfl : f = 13 := Option.some.inj ((show Tryd.prog.funcNamed "loop.example/wholeway/laws.FnFoldNumbers" = some 13 by kernel_rfl).symm.trans hf) |>.symm
      obtain rfl : fn = Tryd.f13 := (Option.some.inj (Tryd.func13.symm.trans hfn)).symm
      exact ⟨by kernel_rfl, fun j t ht => by
        rw [Tryd.params13] at ht
        have hm : t ∈ [22] := by simpa using Array.mem_of_getElem? ht
        have hall : ([22].all fun u => !Tryd.prog.wantsStandIn u) = true := by kernel_rfl
        exact (show Tryd.prog.wantsStandIn t = false by simpa using List.all_eq_true.1 hall t hm)⟩)
    (by kernel_rfl)
#print axioms proved
end Go.Proofs.YtccfbnhlhjlmgaaDoor.fnFoldNumbersDone
