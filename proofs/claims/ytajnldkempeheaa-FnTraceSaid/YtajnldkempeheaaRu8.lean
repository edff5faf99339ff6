/-
  The program's RunUnit, StepsOf and TraceOf.
-/
import Derived.Test.YtajnldkempeheaaRu7

namespace Go.Proofs.Ytajnldkempeheaa
open Go.RowKit
set_option linter.unusedVariables false
set_option linter.unusedSimpArgs false

section
variable {w : World} {us : List CodeD} {ua : Option Addr} {uc : Nat} {inp : List Int} {ia : Option Addr} {ic : Nat}
set_option maxRecDepth 100000 in
theorem mainParams_any {c : CodeD} (hU : SliceRd 3 CodeR w ua us.length us) (hl : 1 ≤ us.length ∧ us.length ≤ 4) (hc : us[us.length - 1]? = some c) :
    Calls Try.prog 28 #[.agg #[.slice ua us.length uc]] w fun e w' => e = .returned (.int .i64 c.params) ∧ Below w.heap.size w w' := by
  have hba : Below w.heap.size w (w.alloc (.cells #[.slice ua us.length uc] 25)) := (Below.refl _ _).alloc (Nat.le_refl _) _
  obtain ⟨ub, uo, params, rgs, blocks, ba, bc, hua, hk2, c0, -, -, -⟩ := code_place (hU.later codeR_lasts hba) (i := us.length - 1) (by omega)
  subst hua
  rw [hc] at hk2
  cases hk2
  obtain ⟨q, hq⟩ : ∃ q, q = us.length - 1 := ⟨_, rfl⟩
  have hidx : ((us.length : Int) - 1) = (q : Int) := by omega
  have hqi : (q : Int) < (us.length : Int) := by omega
  rw [← hq] at c0
  have HB := Lib.hid hba
  clear hba hU hc hq
  go_enter Try.func28, Try.ntmps28
  go_wp2
  go_ret
  exact ⟨rfl, HB.out⟩
theorem fits_impl {c : CodeD} (hu : unitB us = true) (hc : us[us.length - 1]? = some c) {n : Nat} (hn : c.params = (n : Int)) : fitsB us inp = (decide (inp.length = n) && bytesB inp) := by
  rw [fitsB, hu, last_params hc, hn, Bool.true_and, Bool.and_comm]
  congr 1
  rw [Bool.eq_iff_iff, beq_iff_eq, decide_eq_true_eq]
  omega
set_option maxRecDepth 100000 in
set_option maxHeartbeats 4000000 in
theorem unitRuns_any (st : Int) (hsz : szS szCodeD us ≤ 1048576) (hU : SliceRd 3 CodeR w ua us.length us) (hin : IntsRd w ia inp.length inp) (hil : inp.length ≤ 1048576) :
    Calls Try.prog 15 #[.agg #[.slice ua us.length uc], .slice ia inp.length ic, .int .i64 st] w fun e w' => e = .returned (.bool (fitsB us inp && inE 0 st 60000)) ∧ Below w.heap.size w w' := by
  have hba : Below w.heap.size w (w.alloc (.cells #[.slice ua us.length uc] 25)) := (Below.refl _ _).alloc (Nat.le_refl _) _
  have hrow := heap_alloc_new w (.cells #[.slice ua us.length uc] 25)
  have HUV := Lib.hid (implUnitValid_any us ua uc hsz _ (hU.later codeR_lasts hba))
  have HB := Lib.hid (And.intro hba hrow)
  obtain ⟨R, hR⟩ : ∃ R, R = (fitsB us inp && inE 0 st 60000) := ⟨_, rfl⟩
  rw [← hR]
  have HR := Lib.hid hR
  clear hR
  cases hu : unitB us with
  | false =>
    rw [hu] at HUV
    have HF := Lib.hid (show R = false by rw [HR.out, fitsB, hu]; rfl)
    clear hba hrow hu hin hU hsz
    go_enter Try.func15, Try.ntmps15
    go_wp2_with fail
    refine HUV.out.mono ?_
    rintro e w1 ⟨rfl, hb1⟩
    have HE := Lib.hid (HB.out.1.trans (hb1.mono HB.out.1.size))
    clear hb1
    go_wp2
    go_ret
    exact ⟨ret_bool HF.out.symm, HE.out⟩
  | true =>
    rw [hu] at HUV
    have hV := unitV_of hu
    have hul := hV.len
    obtain ⟨c, hc⟩ : ∃ c, us[us.length - 1]? = some c := ⟨_, List.getElem?_eq_getElem (by omega)⟩
    have hcp := (hV.code _ _ hc).params
    obtain ⟨pn, hpn⟩ : ∃ n : Nat, c.params = (n : Int) := ⟨c.params.toNat, by omega⟩
    have HFI := Lib.hid (show R = ((decide (inp.length = pn) && bytesB inp) && inE 0 st 60000) by rw [HR.out, fits_impl hu hc hpn])
    have HX := Lib.hid (And.intro hU (And.intro hin (And.intro hc hul)))
    have hb0 := cell_of_row _ _ 0 _ _ _ hrow
    simp only [List.getElem?_toArray, List.getElem?_cons_zero] at hb0
    cases hby : (decide (inp.length = pn) && bytesB inp) with
    | false =>
      have HF := Lib.hid (show R = false by rw [HFI.out, hby]; rfl)
      have HBY := Lib.hid hby
      clear hba hrow hu hin hU hsz hV hc hcp hby
      go_enter Try.func15, Try.ntmps15
      go_wp2_with fail
      refine HUV.out.mono ?_
      rintro e w1 ⟨rfl, hb1⟩
      have hb0 := cell_later hb1 hb0
      have hw1 := HB.out.1.trans (hb1.mono HB.out.1.size)
      have HMP := Lib.hid (mainParams_any (uc := uc) (HX.out.1.later codeR_lasts hw1) HX.out.2.2.2 HX.out.2.2.1)
      rw [hpn] at HMP
      have HW1 := Lib.hid hw1
      clear hb1 hw1
      go_wp2_with fail
      refine HMP.out.mono ?_
      rintro e w2 ⟨rfl, hb2⟩
      have hw2 := HW1.out.trans (hb2.mono HW1.out.size)
      have HBO := Lib.hid (bytesOk_any ia inp.length ic inp pn w2 (HX.out.2.1.later hw2) (by omega))
      rw [HBY.out] at HBO
      have HW2 := Lib.hid hw2
      clear hb2 hw2
      go_wp2_with fail
      refine HBO.out.mono ?_
      rintro e w3 ⟨rfl, hb3⟩
      have HE := Lib.hid (HW2.out.trans (hb3.mono HW2.out.size))
      clear hb3 hb0
      go_wp2
      go_ret
      exact ⟨ret_bool HF.out.symm, HE.out⟩
    | true =>
      have HF := Lib.hid (show R = inE 0 st 60000 by rw [HFI.out, hby]; rfl)
      have HBY := Lib.hid hby
      clear hba hrow hu hin hU hsz hV hc hcp hby
      go_enter Try.func15, Try.ntmps15
      go_wp2_with fail
      refine HUV.out.mono ?_
      rintro e w1 ⟨rfl, hb1⟩
      have hb0 := cell_later hb1 hb0
      have hw1 := HB.out.1.trans (hb1.mono HB.out.1.size)
      have HMP := Lib.hid (mainParams_any (uc := uc) (HX.out.1.later codeR_lasts hw1) HX.out.2.2.2 HX.out.2.2.1)
      rw [hpn] at HMP
      have HW1 := Lib.hid hw1
      clear hb1 hw1
      go_wp2_with fail
      refine HMP.out.mono ?_
      rintro e w2 ⟨rfl, hb2⟩
      have hw2 := HW1.out.trans (hb2.mono HW1.out.size)
      have HBO := Lib.hid (bytesOk_any ia inp.length ic inp pn w2 (HX.out.2.1.later hw2) (by omega))
      rw [HBY.out] at HBO
      have HW2 := Lib.hid hw2
      clear hb2 hw2
      go_wp2_with fail
      refine HBO.out.mono ?_
      rintro e w3 ⟨rfl, hb3⟩
      have HE := Lib.hid (HW2.out.trans (hb3.mono HW2.out.size))
      clear hb3 hb0
      go_wp2_with fail
      refine (withinE_any st 0 60000 _).mono ?_
      rintro e w4 ⟨rfl, rfl⟩
      go_wp2
      go_ret
      exact ⟨ret_bool HF.out.symm, HE.out⟩
theorem put4 {W : World} {g : Nat} {t : TypeId} {a b c d : Value} (h : W.heap[g]? = some (.cells #[a, b, c, d] t (0, 0))) (x0 x1 x2 x3 : Value) :
    ((((W.setCell ⟨g, 0, none⟩ x0).setCell ⟨g, 1, none⟩ x1).setCell ⟨g, 2, none⟩ x2).setCell ⟨g, 3, none⟩ x3).heap[g]? = some (.cells #[x0, x1, x2, x3] t (0, 0)) ∧ Turned (fun k => k = g) W ((((W.setCell ⟨g, 0, none⟩ x0).setCell ⟨g, 1, none⟩ x1).setCell ⟨g, 2, none⟩ x2).setCell ⟨g, 3, none⟩ x3) := by
  rw [← setCells4U]
  have := heap_setCells_mid (w := W) (A := []) (B := [a, b, c, d]) (C := []) (vs := [x0, x1, x2, x3]) (o := 0) rfl (by simp) (by simpa using h)
  exact ⟨by simpa using this, turned_setCells _ _ _⟩
/-- What RunUnit answers. -/
def RunAns (us : List CodeD) (inp : List Int) (st : Int) (e : Ending) (w' : World) : Prop :=
  if fitsB us inp && inE 0 st 60000 then ∃ sa sc ca cc v, e = .returned (.tuple #[.agg #[.slice sa (runP us inp st.toNat).2.said.length sc, .int .i64 ((runP us inp st.toNat).2.fin.getD 0), .int .i64 v, .slice ca 16 cc], .bool true]) ∧ IntsAt w' sa (runP us inp st.toNat).2.said.length sc (runP us inp st.toNat).2.said
  else e = .returned (.tuple #[.agg #[.slice none 0 0, .int .i64 0, .int .i64 0, .slice none 0 0], .bool false])
set_option maxRecDepth 100000 in
set_option maxHeartbeats 4000000 in
theorem runUnitI_any (st : Int) (hsz : szS szCodeD us ≤ 1048576) (hU : SliceRd 3 CodeR w ua us.length us) (hin : IntsRd w ia inp.length inp) (hil : inp.length ≤ 1048576) :
    Calls Try.prog 9 #[.agg #[.slice ua us.length uc], .slice ia inp.length ic, .int .i64 st] w fun e w' => RunAns us inp st e w' ∧ Below w.heap.size w w' := by
  have H2 := Lib.hid (two_blocks w (.cells #[.slice ua us.length uc] 25) (.cells #[.slice none 0 0, .int .i64 0, .int .i64 0, .slice none 0 0] 32))
  have HX := Lib.hid (And.intro hsz (And.intro hU hin))
  clear hsz hU hin
  go_enter Try.func9, Try.ntmps9
  go_upto_region 1 with fail
  generalize (w.alloc (.cells #[.slice ua us.length uc] 25)).alloc (.cells #[.slice none 0 0, .int .i64 0, .int .i64 0, .slice none 0 0] 32) = W2 at H2 ⊢
  obtain ⟨n, hn⟩ : ∃ n, n = w.heap.size := ⟨_, rfl⟩
  rw [← hn] at H2 ⊢
  have HB2 := Lib.hid (show Below w.heap.size w W2 ∧ w.heap.size = n from ⟨by rw [← hn]; exact H2.out.2.2.2, hn.symm⟩)
  clear hn
  have u0 := cell_of_row _ _ 0 _ _ _ H2.out.1
  simp only [List.getElem?_toArray, List.getElem?_cons_zero] at u0
  have HUR := Lib.hid (unitRuns_any (uc := uc) (ic := ic) st HX.out.1 (HX.out.2.1.later codeR_lasts HB2.out.1) (HX.out.2.2.later HB2.out.1) hil)
  cases hu : (fitsB us inp && inE 0 st 60000) with
  | false =>
    rw [hu] at HUR
    have HF := Lib.hid hu
    clear hu
    go_wp2_with fail
    refine HUR.out.mono ?_
    rintro e w3 ⟨rfl, hb3⟩
    have hr3 := (hb3.block _ (Array.getElem?_eq_some_iff.1 H2.out.2.1).1).trans H2.out.2.1
    have r0 := cell_of_row _ _ 0 _ _ _ hr3
    have r1 := cell_of_row _ _ 1 _ _ _ hr3
    have r2 := cell_of_row _ _ 2 _ _ _ hr3
    have r3 := cell_of_row _ _ 3 _ _ _ hr3
    have y0 := frozen_of_row _ _ 0 _ _ hr3
    have y1 := frozen_of_row _ _ 1 _ _ hr3
    have y2 := frozen_of_row _ _ 2 _ _ hr3
    have y3 := frozen_of_row _ _ 3 _ _ hr3
    simp only [List.getElem?_toArray, List.getElem?_cons_zero, List.getElem?_cons_succ] at r0 r1 r2 r3
    have HE := Lib.hid (And.intro hr3 (HB2.out.1.trans (hb3.mono HB2.out.1.size)))
    clear hb3 hr3
    go_wp2
    have HP := Lib.hid (put4 HE.out.1 (.slice none 0 0) (.int .i64 0) (.int .i64 0) (.slice none 0 0))
    generalize (((w3.setCell ⟨n + 1, 0, none⟩ (.slice none 0 0)).setCell ⟨n + 1, 1, none⟩ (.int .i64 0)).setCell ⟨n + 1, 2, none⟩ (.int .i64 0)).setCell ⟨n + 1, 3, none⟩ (.slice none 0 0) = W4 at HP ⊢
    refine bodyPost_ret (results_cellU rfl _ _ (n + 1) 32 #[.slice none 0 0, .int .i64 0, .int .i64 0, .slice none 0 0] (0, 0) _ rfl ?_ Try.underlying32 rfl (by kernel_rfl)) rfl ?_
    · exact HP.out.1
    refine ⟨?_, HE.out.2.trans (HP.out.2.below HE.out.2.size (fun k hk => by have := HB2.out.2; omega))⟩
    unfold RunAns
    rw [HF.out]
    rfl
  | true =>
    rw [hu] at HUR
    have HF := Lib.hid hu
    rw [Bool.and_eq_true] at hu
    have hst2 := in_of hu.2
    obtain ⟨sn, rfl⟩ : ∃ m : Nat, st = (m : Int) := ⟨st.toNat, by omega⟩
    have hFT := fits_last hu.1
    have HFT := Lib.hid hFT
    clear hu hFT
    go_wp2_with fail
    refine HUR.out.mono ?_
    rintro e w3 ⟨rfl, hb3⟩
    have u0 := cell_later hb3 u0
    have hw3 := HB2.out.1.trans (hb3.mono HB2.out.1.size)
    have HRU := Lib.hid (runUnit_any (uc := uc) (ic := ic) (N := sn) HFT.out.1 HX.out.1 (HX.out.2.1.later codeR_lasts hw3) (by omega) HFT.out.2.1 (HX.out.2.2.later hw3) HFT.out.2.2)
    have hr3 := (hb3.block _ (Array.getElem?_eq_some_iff.1 H2.out.2.1).1).trans H2.out.2.1
    have HW3 := Lib.hid (And.intro hw3 hr3)
    clear hb3 hw3 hr3
    go_wp2_with fail
    refine HRU.out.mono ?_
    rintro e w4 ⟨rb, sa, sc, ca, cc, v, rfl, hsd, -, hb4⟩
    obtain ⟨L, hL⟩ : ∃ L, L = (runP us inp sn).2.said.length := ⟨_, rfl⟩
    obtain ⟨en, hen⟩ : ∃ en, en = (runP us inp sn).2.fin.getD 0 := ⟨_, rfl⟩
    rw [← hL, ← hen]
    have HLE := Lib.hid (And.intro hL hen)
    rw [← hL] at hsd
    clear hL hen
    have hba : Below w4.heap.size w4 (w4.alloc (.cells #[.slice sa L sc, .int .i64 en, .int .i64 v, .slice ca 16 cc] 32)) := (Below.refl _ _).alloc (Nat.le_refl _) _
    have hrow := heap_alloc_new w4 (.cells #[.slice sa L sc, .int .i64 en, .int .i64 v, .slice ca 16 cc] 32)
    have hb45 := hb4.trans (hba.mono hb4.size)
    have hr3 := (hb45.block _ (Array.getElem?_eq_some_iff.1 HW3.out.2).1).trans HW3.out.2
    have HE := Lib.hid (And.intro hr3 (And.intro (HW3.out.1.trans (hb45.mono HW3.out.1.size)) (ownsRow_below hsd hba)))
    go_upto_region 4 with fail
    obtain ⟨ob, hob⟩ : ∃ b, b = w4.heap.size := ⟨_, rfl⟩
    rw [← hob] at hrow ⊢
    generalize (w4.alloc (.cells #[.slice sa L sc, .int .i64 en, .int .i64 v, .slice ca 16 cc] 32)) = W5 at hrow HE ⊢
    have hr3 := HE.out.1
    have o0 := cell_of_row _ _ 0 _ _ _ hrow
    have o1 := cell_of_row _ _ 1 _ _ _ hrow
    have o2 := cell_of_row _ _ 2 _ _ _ hrow
    have o3 := cell_of_row _ _ 3 _ _ _ hrow
    have r0 := cell_of_row _ _ 0 _ _ _ hr3
    have r1 := cell_of_row _ _ 1 _ _ _ hr3
    have r2 := cell_of_row _ _ 2 _ _ _ hr3
    have r3 := cell_of_row _ _ 3 _ _ _ hr3
    have y0 := frozen_of_row _ _ 0 _ _ hr3
    have y1 := frozen_of_row _ _ 1 _ _ hr3
    have y2 := frozen_of_row _ _ 2 _ _ hr3
    have y3 := frozen_of_row _ _ 3 _ _ hr3
    simp only [List.getElem?_toArray, List.getElem?_cons_zero, List.getElem?_cons_succ] at r0 r1 r2 r3 o0 o1 o2 o3
    clear hb4 hsd hba hb45 hr3 hrow hob
    go_wp2
    have HP := Lib.hid (put4 HE.out.1 (.slice sa L sc) (.int .i64 en) (.int .i64 v) (.slice ca 16 cc))
    generalize (((W5.setCell ⟨n + 1, 0, none⟩ (.slice sa L sc)).setCell ⟨n + 1, 1, none⟩ (.int .i64 en)).setCell ⟨n + 1, 2, none⟩ (.int .i64 v)).setCell ⟨n + 1, 3, none⟩ (.slice ca 16 cc) = W6 at HP ⊢
    refine bodyPost_ret (results_cellU rfl _ _ (n + 1) 32 #[.slice sa L sc, .int .i64 en, .int .i64 v, .slice ca 16 cc] (0, 0) _ rfl ?_ Try.underlying32 rfl (by kernel_rfl)) rfl ?_
    · exact HP.out.1
    refine ⟨?_, HE.out.2.1.trans (HP.out.2.below HE.out.2.1.size (fun k hk => by have := HB2.out.2; omega))⟩
    unfold RunAns
    rw [HF.out]
    refine ⟨sa, sc, ca, cc, v, ?_, ?_⟩
    · show _ = Ending.returned (.tuple #[.agg #[.slice sa (runP us inp sn).2.said.length sc, .int .i64 ((runP us inp sn).2.fin.getD 0), .int .i64 v, .slice ca 16 cc], .bool true])
      rw [← HLE.out.1, ← HLE.out.2]
      rfl
    · show IntsAt W6 sa (runP us inp sn).2.said.length sc (runP us inp sn).2.said
      rw [← HLE.out.1]
      exact ints_of_own (own_turned HE.out.2.2 HP.out.2 (fun k hk e => by have := (HE.out.2.2.lt k hk).1; have := HW3.out.2; have := (Array.getElem?_eq_some_iff.1 HW3.out.2).1; omega))
set_option maxRecDepth 100000 in
set_option maxHeartbeats 4000000 in
theorem stepsOfI_any (hsz : szS szCodeD us ≤ 1048576) (hU : SliceRd 3 CodeR w ua us.length us) (hin : IntsRd w ia inp.length inp) (hil : inp.length ≤ 1048576) :
    Calls Try.prog 11 #[.agg #[.slice ua us.length uc], .slice ia inp.length ic] w fun e w' => e = .returned (.int .i64 (stepsP us inp)) ∧ Below w.heap.size w w' := by
  have hba : Below w.heap.size w (w.alloc (.cells #[.slice ua us.length uc] 25)) := (Below.refl _ _).alloc (Nat.le_refl _) _
  have hrow := heap_alloc_new w (.cells #[.slice ua us.length uc] 25)
  have HUR := Lib.hid (unitRuns_any (uc := uc) (ic := ic) 60000 hsz (hU.later codeR_lasts hba) (hin.later hba) hil)
  rw [show inE 0 60000 60000 = true from rfl, Bool.and_true] at HUR
  have HB := Lib.hid (And.intro hba hrow)
  have HX := Lib.hid (And.intro hsz (And.intro hU hin))
  have u0 := cell_of_row _ _ 0 _ _ _ hrow
  simp only [List.getElem?_toArray, List.getElem?_cons_zero] at u0
  clear hba hrow hsz hU hin
  cases hu : fitsB us inp with
  | false =>
    rw [hu] at HUR
    have HF := Lib.hid (show stepsP us inp = -1 by rw [stepsP, hu]; rfl)
    clear hu
    go_enter Try.func11, Try.ntmps11
    go_wp2_with fail
    refine HUR.out.mono ?_
    rintro e w1 ⟨rfl, hb1⟩
    have HE := Lib.hid (HB.out.1.trans (hb1.mono HB.out.1.size))
    clear hb1
    go_wp2
    go_ret
    exact ⟨ret_int HF.out.symm, HE.out⟩
  | true =>
    rw [hu] at HUR
    have HFT := Lib.hid (fits_last hu)
    have HF := Lib.hid (show stepsP us inp = if (runP us inp 60000).2.fin = some 3 then -1 else 60000 - ((runP us inp 60000).2.left : Int) by rw [stepsP, if_pos hu])
    clear hu
    go_enter Try.func11, Try.ntmps11
    go_wp2_with fail
    refine HUR.out.mono ?_
    rintro e w1 ⟨rfl, hb1⟩
    have u0 := cell_later hb1 u0
    have hw1 := HB.out.1.trans (hb1.mono HB.out.1.size)
    have HRU := Lib.hid (runUnit_any (uc := uc) (ic := ic) (N := 60000) HFT.out.1 HX.out.1 (HX.out.2.1.later codeR_lasts hw1) (by omega) HFT.out.2.1 (HX.out.2.2.later hw1) HFT.out.2.2)
    have HW1 := Lib.hid hw1
    clear hb1 hw1
    go_wp2_with fail
    refine HRU.out.mono ?_
    rintro e w4 ⟨rb, sa, sc, ca, cc, v, rfl, -, hRE, hb4⟩
    have r2 := hRE.used
    generalize (runP us inp 60000).2.said.length = L
    have hba : Below w4.heap.size w4 (w4.alloc (.cells #[.slice sa L sc, .int .i64 ((runP us inp 60000).2.fin.getD 0), .int .i64 v, .slice ca 16 cc] 32)) := (Below.refl _ _).alloc (Nat.le_refl _) _
    have hrow := heap_alloc_new w4 (.cells #[.slice sa L sc, .int .i64 ((runP us inp 60000).2.fin.getD 0), .int .i64 v, .slice ca 16 cc] 32)
    have r2 := cell_later hba r2
    have HE := Lib.hid ((HW1.out.trans (hb4.mono HW1.out.size)).trans (hba.mono (HW1.out.trans (hb4.mono HW1.out.size)).size))
    go_upto_region 4 with fail
    obtain ⟨ob, hob⟩ : ∃ b, b = w4.heap.size := ⟨_, rfl⟩
    rw [← hob] at hrow ⊢
    generalize (w4.alloc (.cells #[.slice sa L sc, .int .i64 ((runP us inp 60000).2.fin.getD 0), .int .i64 v, .slice ca 16 cc] 32)) = W5 at hrow HE r2 ⊢
    have o1 := cell_of_row _ _ 1 _ _ _ hrow
    simp only [List.getElem?_toArray, List.getElem?_cons_zero, List.getElem?_cons_succ] at o1
    clear hrow hob hba hb4 hRE u0
    change W5.cell? ⟨rb, 2, none⟩ = some (.int .i64 (60000 - ((runP us inp 60000).2.left : Int))) at r2
    generalize 60000 - ((runP us inp 60000).2.left : Int) = q at r2 HF
    generalize (runP us inp 60000).2.fin = x at o1 HF
    by_cases hx : x = some 3
    · subst hx
      go_wp2
      go_ret
      exact ⟨ret_int (by rw [HF.out]; simp), HE.out⟩
    · have hx3 : (x.getD 0 == 3) = false := by
        cases x with
        | none => rfl
        | some e => exact beq_eq_false_iff_ne.2 (fun h => hx (by rw [show e = 3 from h]))
      have HXX := Lib.hid hx
      clear hx
      generalize x.getD 0 = xx at o1 hx3
      go_wp2
      go_ret
      exact ⟨ret_int (by rw [HF.out, if_neg HXX.out]), HE.out⟩
set_option maxRecDepth 100000 in
set_option maxHeartbeats 4000000 in
theorem traceOfI_any (st : Int) (hsz : szS szCodeD us ≤ 1048576) (hU : SliceRd 3 CodeR w ua us.length us) (hin : IntsRd w ia inp.length inp) (hil : inp.length ≤ 1048576) :
    Calls Try.prog 6 #[.agg #[.slice ua us.length uc], .slice ia inp.length ic, .int .i64 st] w fun e w' => ∃ a c, e = .returned (.slice a (traceP us inp st).length c) ∧ IntsRd w' a (traceP us inp st).length (traceP us inp st) ∧ Below w.heap.size w w' := by
  have hba : Below w.heap.size w (w.alloc (.cells #[.slice ua us.length uc] 25)) := (Below.refl _ _).alloc (Nat.le_refl _) _
  have hrow := heap_alloc_new w (.cells #[.slice ua us.length uc] 25)
  have HUR := Lib.hid (unitRuns_any (uc := uc) (ic := ic) st hsz (hU.later codeR_lasts hba) (hin.later hba) hil)
  have HB := Lib.hid (And.intro hba hrow)
  have HX := Lib.hid (And.intro hsz (And.intro hU hin))
  have u0 := cell_of_row _ _ 0 _ _ _ hrow
  simp only [List.getElem?_toArray, List.getElem?_cons_zero] at u0
  clear hba hrow hsz hU hin
  obtain ⟨T, hT⟩ : ∃ T, T = traceP us inp st := ⟨_, rfl⟩
  rw [← hT]
  have HT := Lib.hid hT
  clear hT
  cases hu : (fitsB us inp && inE 0 st 60000) with
  | false =>
    rw [hu] at HUR
    have HF := Lib.hid (show T = [] by rw [HT.out, traceP, hu]; rfl)
    clear hu
    go_enter Try.func6, Try.ntmps6
    go_wp2_with fail
    refine HUR.out.mono ?_
    rintro e w1 ⟨rfl, hb1⟩
    have HE := Lib.hid (HB.out.1.trans (hb1.mono HB.out.1.size))
    clear hb1
    go_wp2
    go_ret
    exact ⟨none, 0, by rw [HF.out]; rfl, by rw [HF.out]; exact ⟨rfl, .inl rfl⟩, HE.out⟩
  | true =>
    rw [hu] at HUR
    have hu2 := hu
    rw [Bool.and_eq_true] at hu2
    have hst2 := in_of hu2.2
    obtain ⟨sn, rfl⟩ : ∃ m : Nat, st = (m : Int) := ⟨st.toNat, by omega⟩
    have HFT := Lib.hid (fits_last hu2.1)
    have HF := Lib.hid (show T = natI (runP us inp sn).2.trace by rw [HT.out, traceP, hu]; rfl)
    clear hu hu2
    go_enter Try.func6, Try.ntmps6
    go_wp2_with fail
    refine HUR.out.mono ?_
    rintro e w1 ⟨rfl, hb1⟩
    have u0 := cell_later hb1 u0
    have hw1 := HB.out.1.trans (hb1.mono HB.out.1.size)
    have HRU := Lib.hid (runUnit_any (uc := uc) (ic := ic) (N := sn) HFT.out.1 HX.out.1 (HX.out.2.1.later codeR_lasts hw1) (by omega) HFT.out.2.1 (HX.out.2.2.later hw1) HFT.out.2.2)
    have HW1 := Lib.hid hw1
    clear hb1 hw1
    go_wp2_with fail
    refine HRU.out.mono ?_
    rintro e w4 ⟨rb, sa, sc, ca, cc, v, rfl, -, hRE, hb4⟩
    obtain ⟨ta, tc, r7, hrd⟩ := hRE.trace
    have HLN := Lib.hid (show (runP us inp sn).2.trace.length = T.length by rw [HF.out, natI, List.length_map])
    rw [HLN.out] at r7
    have HRD := Lib.hid hrd
    generalize (runP us inp sn).2.said.length = L
    generalize (runP us inp sn).2.fin.getD 0 = en
    have hba : Below w4.heap.size w4 (w4.alloc (.cells #[.slice sa L sc, .int .i64 en, .int .i64 v, .slice ca 16 cc] 32)) := (Below.refl _ _).alloc (Nat.le_refl _) _
    have r7 := cell_later hba r7
    have HE := Lib.hid (And.intro (hrd.later hba) ((HW1.out.trans (hb4.mono HW1.out.size)).trans (hba.mono (HW1.out.trans (hb4.mono HW1.out.size)).size)))
    clear hrd hRE hb4 hba u0
    go_upto_region 4 with fail
    generalize (w4.alloc (.cells #[.slice sa L sc, .int .i64 en, .int .i64 v, .slice ca 16 cc] 32)) = W5 at HE r7 ⊢
    go_wp2
    go_ret
    exact ⟨ta, tc, rfl, by rw [← HLN.out, HF.out]; exact HE.out.1, HE.out.2⟩
end

end Go.Proofs.Ytajnldkempeheaa
