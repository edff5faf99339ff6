
/-
  MachValid: the program's, whole.
-/
import Derived.Test.YtdkafajmhgfkoaaDoorMv3
namespace Go.Proofs.YtdkafajmhgfkoaaDoor
open Go.RowKit

theorem machV_stop {fs : List MfnD} {k : Nat} {f : MfnD} (hx : fs[k]? = some f) (hf : mfnV (k : Int) f = false) : machV fs = false := by
  rw [machV, allK_stop (i := k) (by rw [fnV, hx]; exact hf) (List.getElem?_eq_some_iff.1 hx).1, Bool.false_and, Bool.and_false]
theorem fnV_next {fs : List MfnD} {k : Nat} {f : MfnD} (h : allK (fnV fs) k = true) (hx : fs[k]? = some f) (hf : mfnV (k : Int) f = true) : allK (fnV fs) (k + 1) = true :=
  allK_next h (by rw [fnV, hx]; exact hf)
theorem lastB_of {params slots : Int} {ins : List MinsD} {n : Nat} {x : MinsD} (h : ins[n]? = some x) (hn : ins.length = n + 1) : lastB ⟨params, slots, ins⟩ = (x.op == 20 || x.op == 22) := by
  show ((ins[ins.length - 1]?).map _).getD false = _
  rw [hn, Nat.add_sub_cancel, h]; rfl

theorem int_of {a b : Int} (h : a = b) : Value.int .i64 a = .int .i64 b := by rw [h]
theorem all_any {α : Type} (p : α → Bool) (xs : List α) : xs.all p = !xs.any (fun x => !p x) := by
  induction xs with
  | nil => rfl
  | cons x xs ih => rw [List.all_cons, List.any_cons, ih, Bool.not_or, Bool.not_not]

set_option maxRecDepth 100000 in
set_option maxHeartbeats 4000000 in
theorem implMachValid_any (fs : List MfnD) (a : Option Addr) (c : Nat) (hsz : szS szMfnD fs ≤ 1048576) (w : World) (hF : FormsAt w) (hM : SliceRd 3 MfnR w a fs.length fs) :
    Calls Tryd.prog 9 #[.agg #[.slice a fs.length c]] w fun e w' => e = .returned (.bool (machV fs)) ∧ Below w.heap.size w w' := by
  have hb0 : Below w.heap.size w (w.alloc (.cells #[.slice a fs.length c] 25)) := (Below.refl _ _).alloc (Nat.le_refl _) _
  have hc0 : (w.alloc (.cells #[.slice a fs.length c] 25)).cell? ⟨w.heap.size, 0, none⟩ = some (.slice a fs.length c) := cell_of_row _ _ 0 _ _ _ (heap_alloc_new w _)
  have hn := szS_len szMfnD fs
  have hn2 : fs.length ≤ 1048576 := by omega
  have hle : sumOf insN fs ≤ 1048576 := by
    have h2 : ∀ l : List MfnD, sumOf insN l ≤ sumOf szMfnD l := by
      intro l
      induction l with
      | nil => exact Nat.le_refl _
      | cons x l ih =>
        have h3 : insN x ≤ szMfnD x := szS_len szMinsD x.ins
        unfold sumOf at *
        simp only [List.map_cons, List.sum_cons]
        omega
    have := h2 fs
    unfold szS at hsz
    omega
  have HC := Lib.hid (And.intro (hM.later mfnR_lasts hb0) (And.intro hsz (And.intro hb0 (And.intro (heap_alloc_new w (.cells #[.slice a fs.length c] 25)) (hF.later hb0)))))
  clear hM hsz hn hF
  go_enter Tryd.func9, Tryd.ntmps9
  go_wp2_with fail
  generalize w.alloc (.cells #[.slice a fs.length c] 25) = W0 at HC hc0 hb0 ⊢
  cases hL : inR 1 (fs.length : Int) 4 with
  | false =>
    have HN := Lib.hid (show machV fs = false by rw [machV, hL, Bool.false_and])
    refine (withinM_is hL _).mono ?_
    clear hL
    rintro e w1 ⟨rfl, rfl⟩
    go_wp2
    go_ret
    exact ⟨ret_bool HN.out.symm, hb0⟩
  | true =>
    have HL := Lib.hid hL
    refine (withinM_is hL _).mono ?_
    clear hL
    rintro e w1 ⟨rfl, rfl⟩
    go_wp2_with fail
    clear hb0 hc0
    go_loopg [3, 15] fs.length (fun F n i wr => ∃ k : Nat, k + F = fs.length ∧ i = .int .i64 k ∧ n = .int .i64 (sumOf insN (fs.take k) : Nat) ∧ Hid (Below w1.heap.size w1 wr ∧ allK (fnV fs) k = true))
    case atStart => exact ⟨0, by omega, rfl, rfl, Lib.hid ⟨Below.refl _ _, rfl⟩⟩
    case round =>
      obtain ⟨k, hk, rfl, rfl, HK⟩ := hrel
      by_cases hlt : k < fs.length
      · have hU := HC.out.1.later mfnR_lasts HK.out.1
        obtain ⟨b1, o1, params, slots, ins, ia, ic, rfl, hx, c0, c1, c2, hCR⟩ := mfn_place hU hlt
        have hil : ins.length ≤ 1048576 := Nat.le_trans (szS_len szMinsD ins) (Nat.le_trans (szS_mem (sz := szMfnD) (List.mem_of_getElem? hx)) HC.out.2.1)
        have hts : sumOf insN (fs.take (k + 1)) = sumOf insN (fs.take k) + ins.length := by rw [take_succ_of hx, sumOf_snoc]; rfl
        have htl := sumOf_take insN fs (k + 1)
        have hsum : sumOf insN (fs.take k) + ins.length ≤ 1048576 := by omega
        have hki : (k : Int) < (fs.length : Int) := by omega
        have HT := Lib.hid (And.intro hts (And.intro hU (And.intro hx hCR)))
        clear hts htl hU hx hCR
        generalize sumOf insN (fs.take k) = n0 at HT hsum ⊢
        go_upto_region 8 with fail
        have hba : Below wr.heap.size wr ((wr.alloc (.cells #[.int .i64 (k : Int)] 3)).alloc (.cells #[.int .i64 params, .int .i64 slots, .slice ia ins.length ic] 32)) := ((Below.refl _ _).alloc (Nat.le_refl _) _).alloc (by simp) _
        have h1 := heap_alloc2_old wr (.cells #[.int .i64 (k : Int)] 3) (.cells #[.int .i64 params, .int .i64 slots, .slice ia ins.length ic] 32)
        have h2 := heap_alloc2_new wr (.cells #[.int .i64 (k : Int)] 3) (.cells #[.int .i64 params, .int .i64 slots, .slice ia ins.length ic] 32)
        generalize (wr.alloc (.cells #[.int .i64 (k : Int)] 3)).alloc (.cells #[.int .i64 params, .int .i64 slots, .slice ia ins.length ic] 32) = W5 at hba h1 h2 ⊢
        have k0 := cell_of_row _ _ 0 _ _ _ h2
        have k1 := cell_of_row _ _ 1 _ _ _ h2
        have k2 := cell_of_row _ _ 2 _ _ _ h2
        simp only [List.getElem?_toArray, List.getElem?_cons_zero, List.getElem?_cons_succ] at k0 k1 k2
        obtain ⟨_, _, hcs, _, hrd⟩ := mfnR_lasts _ _ _ _ hba HT.out.2.2.2
        simp only [List.cons.injEq, Value.slice.injEq, and_true, true_and] at hcs
        obtain ⟨rfl, rfl⟩ := hcs
        have hrd : SliceRd 5 MinsR W5 ia ins.length ins := hrd
        have hbx := HK.out.1.trans (hba.mono HK.out.1.size)
        have HB := Lib.hid (HC.out.2.2.1.trans (hbx.mono HC.out.2.2.1.size))
        have hMU := (hbx.block _ (Array.getElem?_eq_some_iff.1 HC.out.2.2.2.1).1).trans HC.out.2.2.2.1
        have u0 := cell_of_row _ _ 0 _ _ _ hMU
        have HX := Lib.hid (And.intro hbx (And.intro h1 (And.intro hMU (And.intro (HT.out.2.1.later mfnR_lasts hba) (HC.out.2.2.2.2.later hbx)))))
        clear hba h1 h2 hbx c0 c1 c2 hMU
        simp only [List.getElem?_toArray, List.getElem?_cons_zero] at u0
        have HV := Lib.hid (show mfnV (k : Int) ⟨params, slots, ins⟩ = (inR 0 params 3 && (inR 0 slots 64 && (!((ins.length : Int) == 0) && (lastB ⟨params, slots, ins⟩ && ins.all (insV (k : Int) ⟨params, slots, ins⟩))))) from rfl)
        cases hA : inR 0 params 3 with
        | false =>
          have HN := Lib.hid (machV_stop HT.out.2.2.1 (HV.out.trans (by rw [hA]; rfl)))
          have HW := Lib.hid (fun W => withinM_is hA W)
          clear hA hrd
          go_wp2_with fail
          refine (HW.out _).mono ?_
          rintro e w6 ⟨rfl, rfl⟩
          go_wp2
          go_ret
          exact ⟨ret_bool HN.out.symm, HB.out⟩
        | true =>
          have HWA := Lib.hid (fun W => withinM_is hA W)
          have hAl : 0 ≤ params ∧ params ≤ 3 := by simpa [inR] using hA
          cases hB : inR 0 slots 64 with
          | false =>
            have HN := Lib.hid (machV_stop HT.out.2.2.1 (HV.out.trans (by rw [hA, hB]; rfl)))
            have HW := Lib.hid (fun W => withinM_is hB W)
            clear hA hB hrd hAl
            go_wp2_with fail
            refine (HWA.out _).mono ?_
            rintro e w6 ⟨rfl, rfl⟩
            go_wp2_with fail
            refine (HW.out _).mono ?_
            rintro e w6 ⟨rfl, rfl⟩
            go_wp2
            go_ret
            exact ⟨ret_bool HN.out.symm, HB.out⟩
          | true =>
            have HWB := Lib.hid (fun W => withinM_is hB W)
            have hBl : 0 ≤ slots ∧ slots ≤ 64 := by simpa [inR] using hB
            have HLL := Lib.hid (And.intro hAl hBl)
            clear hAl hBl
            cases hE : ((ins.length : Int) == 0) with
            | true =>
              have HN := Lib.hid (machV_stop HT.out.2.2.1 (HV.out.trans (by rw [hA, hB, hE]; rfl)))
              clear hA hB hrd
              go_wp2_with fail
              refine (HWA.out _).mono ?_
              rintro e w6 ⟨rfl, rfl⟩
              go_wp2_with fail
              refine (HWB.out _).mono ?_
              rintro e w6 ⟨rfl, rfl⟩
              go_wp2
              go_ret
              exact ⟨ret_bool HN.out.symm, HB.out⟩
            | false =>
              have hz : ins.length ≠ 0 := by intro h; rw [h] at hE; simp at hE
              obtain ⟨n, hn⟩ : ∃ n : Nat, ins.length = n + 1 := ⟨ins.length - 1, by omega⟩
              obtain ⟨b2, o2, op, fa, fb, fc, fn, rfl, hy, e0, _, _, _, _, _⟩ := mins_place hrd (show n < ins.length by omega)
              have HV2 := Lib.hid (show mfnV (k : Int) ⟨params, slots, ins⟩ = ((op == 20 || op == 22) && ins.all (insV (k : Int) ⟨params, slots, ins⟩)) by rw [HV.out, hA, hB, hE, lastB_of hy hn]; rfl)
              have HRD := Lib.hid hrd
              have hIN : ((ins.length : Int) - 1) = (n : Int) := by omega
              have hnl : (n : Int) < (ins.length : Int) := by omega
              clear hA hB hrd hy hn HV
              go_wp2_with fail
              refine (HWA.out _).mono ?_
              rintro e w6 ⟨rfl, rfl⟩
              go_wp2_with fail
              refine (HWB.out _).mono ?_
              rintro e w6 ⟨rfl, rfl⟩
              go_upto_region 11 with fail
              cases hq : (op == 20) with
              | true =>
                have hq1 : (op != 20) = false := by rw [bne, hq]; rfl
                have HV3 := Lib.hid (show mfnV (k : Int) ⟨params, slots, ins⟩ = ins.all (insV (k : Int) ⟨params, slots, ins⟩) by rw [HV2.out, hq]; rfl)
                clear hq
                go_wp2_with fail
                refine (containsMins_any 24 #[.pointer (some ⟨w.heap.size, 0, none⟩), .pointer (some ⟨wr.heap.size, 0, none⟩)] (fun x => !insV (k : Int) ⟨params, slots, ins⟩ x) _ ins.length ic ins w6 HRD.out ⟨fun v W => rfl, fun y hy cs W hW hRy => ?_⟩ (by omega)).mono ?_
                · exact machValid1_any fs _ c k ⟨params, slots, ins⟩ HT.out.2.2.1 hn2 hil HLL.out.1 HLL.out.2 cs y _ _ W (HX.out.2.2.2.2.later hW) (HX.out.2.2.2.1.later mfnR_lasts hW) hRy (cell_of_row _ _ 0 _ _ _ ((hW.block _ (Array.getElem?_eq_some_iff.1 HX.out.2.2.1).1).trans HX.out.2.2.1)) (cell_of_row _ _ 0 _ _ _ ((hW.block _ (Array.getElem?_eq_some_iff.1 HX.out.2.1).1).trans HX.out.2.1))
                rintro e w7 ⟨rfl, hb7⟩
                have HB7 := Lib.hid (And.intro (HX.out.1.trans (hb7.mono HX.out.1.size)) (HB.out.trans (hb7.mono HB.out.size)))
                clear k0 k1 k2 u0 e0 hb7 hrd
                cases hv : ins.any (fun x => !insV (k : Int) ⟨params, slots, ins⟩ x) with
                | true =>
                  have HN := Lib.hid (machV_stop HT.out.2.2.1 (HV3.out.trans (by rw [all_any, hv]; rfl)))
                  clear hv
                  go_wp2
                  go_ret
                  exact ⟨ret_bool HN.out.symm, HB7.out.2⟩
                | false =>
                  have HN := Lib.hid (fnV_next HK.out.2 HT.out.2.2.1 (HV3.out.trans (by rw [all_any, hv]; rfl)))
                  clear hv
                  go_wp2
                  go_roundg (gk - 1)
                  case measure => omega
                  case rel => exact ⟨k + 1, by omega, by go_num, int_of (by have := HT.out.1; omega), Lib.hid ⟨HB7.out.1, HN.out⟩⟩
              | false =>
                have hq1 : (op != 20) = true := by rw [bne, hq]; rfl
                cases hr : (op == 22) with
                | true =>
                  have hr1 : (op != 22) = false := by rw [bne, hr]; rfl
                  have HV3 := Lib.hid (show mfnV (k : Int) ⟨params, slots, ins⟩ = ins.all (insV (k : Int) ⟨params, slots, ins⟩) by rw [HV2.out, hq, hr]; rfl)
                  clear hq hr
                  go_wp2_with fail
                  refine (containsMins_any 24 #[.pointer (some ⟨w.heap.size, 0, none⟩), .pointer (some ⟨wr.heap.size, 0, none⟩)] (fun x => !insV (k : Int) ⟨params, slots, ins⟩ x) _ ins.length ic ins w6 HRD.out ⟨fun v W => rfl, fun y hy cs W hW hRy => ?_⟩ (by omega)).mono ?_
                  · exact machValid1_any fs _ c k ⟨params, slots, ins⟩ HT.out.2.2.1 hn2 hil HLL.out.1 HLL.out.2 cs y _ _ W (HX.out.2.2.2.2.later hW) (HX.out.2.2.2.1.later mfnR_lasts hW) hRy (cell_of_row _ _ 0 _ _ _ ((hW.block _ (Array.getElem?_eq_some_iff.1 HX.out.2.2.1).1).trans HX.out.2.2.1)) (cell_of_row _ _ 0 _ _ _ ((hW.block _ (Array.getElem?_eq_some_iff.1 HX.out.2.1).1).trans HX.out.2.1))
                  rintro e w7 ⟨rfl, hb7⟩
                  have HB7 := Lib.hid (And.intro (HX.out.1.trans (hb7.mono HX.out.1.size)) (HB.out.trans (hb7.mono HB.out.size)))
                  clear k0 k1 k2 u0 e0 hb7 hrd
                  cases hv : ins.any (fun x => !insV (k : Int) ⟨params, slots, ins⟩ x) with
                  | true =>
                    have HN := Lib.hid (machV_stop HT.out.2.2.1 (HV3.out.trans (by rw [all_any, hv]; rfl)))
                    clear hv
                    go_wp2
                    go_ret
                    exact ⟨ret_bool HN.out.symm, HB7.out.2⟩
                  | false =>
                    have HN := Lib.hid (fnV_next HK.out.2 HT.out.2.2.1 (HV3.out.trans (by rw [all_any, hv]; rfl)))
                    clear hv
                    go_wp2
                    go_roundg (gk - 1)
                    case measure => omega
                    case rel => exact ⟨k + 1, by omega, by go_num, int_of (by have := HT.out.1; omega), Lib.hid ⟨HB7.out.1, HN.out⟩⟩
                | false =>
                  have hr1 : (op != 22) = true := by rw [bne, hr]; rfl
                  have HN := Lib.hid (machV_stop HT.out.2.2.1 (HV2.out.trans (by rw [hq, hr]; rfl)))
                  clear hq hr
                  go_wp2
                  go_ret
                  exact ⟨ret_bool HN.out.symm, HB.out⟩
      · obtain rfl : k = fs.length := by omega
        have HA := Lib.hid (show machV fs = decide (sumOf insN (fs.take fs.length) ≤ 2000) by rw [machV, HL.out, HK.out.2, List.take_length]; rfl)
        have hle2 : sumOf insN (fs.take fs.length) ≤ 1048576 := by rw [List.take_length]; exact hle
        generalize sumOf insN (fs.take fs.length) = n0 at HA hle2 ⊢
        have HB := Lib.hid (HC.out.2.2.1.trans (HK.out.1.mono HC.out.2.2.1.size))
        by_cases h20 : n0 ≤ 2000
        · have HN := Lib.hid (show machV fs = true from HA.out.trans (decide_eq_true h20))
          have hq : (n0 : Int) ≤ 2000 := by omega
          clear h20
          go_wp2
          go_ret
          exact ⟨ret_bool HN.out.symm, HB.out⟩
        · have HN := Lib.hid (show machV fs = false from HA.out.trans (decide_eq_false h20))
          have hq : ¬ (n0 : Int) ≤ 2000 := by omega
          clear h20
          go_wp2
          go_ret
          exact ⟨ret_bool HN.out.symm, HB.out⟩

end Go.Proofs.YtdkafajmhgfkoaaDoor
