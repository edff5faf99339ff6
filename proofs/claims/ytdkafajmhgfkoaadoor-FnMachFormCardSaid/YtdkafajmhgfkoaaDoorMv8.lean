
/-
  MachValid: the reference's, whole.
-/
import Derived.Test.YtdkafajmhgfkoaaDoorMv7
namespace Go.Proofs.YtdkafajmhgfkoaaDoor
open Go.RowKit

def insQ (k : Int) (f : MfnD) (j : Nat) : Bool := ((f.ins[j]?).map (insV k f)).getD true
theorem all_insQ (k : Int) (f : MfnD) (h : allK (insQ k f) f.ins.length = true) : f.ins.all (insV k f) = true := by
  have h2 : ∀ n : Nat, allK (insQ k f) n = true → ∀ j, j < n → insQ k f j = true := by
    intro n
    induction n with
    | zero => intro _ j hj; omega
    | succ n ih =>
      intro h j hj
      rw [allK, Bool.and_eq_true] at h
      by_cases e : j = n
      · subst e; exact h.2
      · exact ih h.1 j (by omega)
  rw [List.all_eq_true]
  intro x hx
  obtain ⟨j, hj⟩ := List.getElem?_of_mem hx
  have := h2 _ h j (List.getElem?_eq_some_iff.1 hj).1
  rw [insQ, hj] at this
  exact this
theorem mfnV_last {k params slots : Int} {ins : List MinsD} (h : lastB ⟨params, slots, ins⟩ = false) : mfnV k ⟨params, slots, ins⟩ = false := by
  rw [mfnV, h, Bool.false_and, Bool.and_false, Bool.and_false, Bool.and_false]
theorem mfnV_ins {k params slots : Int} {ins : List MinsD} {j : Nat} {x : MinsD} (hx : ins[j]? = some x) (h : insV k ⟨params, slots, ins⟩ x = false) : mfnV k ⟨params, slots, ins⟩ = false := by
  have h2 : ins.all (insV k ⟨params, slots, ins⟩) = false := by
    rw [List.all_eq_false]
    exact ⟨x, List.mem_of_getElem? hx, by rw [h]; decide⟩
  show (_ && (_ && (_ && (_ && ins.all _)))) = false
  rw [h2, Bool.and_false, Bool.and_false, Bool.and_false, Bool.and_false]
theorem machV_big {fs : List MfnD} {k : Nat} (h : 2000 < sumOf insN (fs.take (k + 1))) : machV fs = false := by
  have h2 := sumOf_take insN fs (k + 1)
  rw [machV, decide_eq_false (show ¬ sumOf insN fs ≤ 2000 by omega), Bool.and_false, Bool.and_false]

set_option maxRecDepth 100000 in
set_option maxHeartbeats 8000000 in
theorem specMachValid_any (fs : List MfnD) (a : Option Addr) (c : Nat) (hsz : szS szMfnD fs ≤ 1048576) (w : World) (hM : SliceRd 3 MfnR w a fs.length fs) :
    Calls Tryd.prog 10 #[.agg #[.slice a fs.length c]] w fun e w' => e = .returned (.bool (machV fs)) ∧ Below w.heap.size w w' := by
  have hb0 : Below w.heap.size w (w.alloc (.cells #[.slice a fs.length c] 25)) := (Below.refl _ _).alloc (Nat.le_refl _) _
  have hc0 : (w.alloc (.cells #[.slice a fs.length c] 25)).cell? ⟨w.heap.size, 0, none⟩ = some (.slice a fs.length c) := cell_of_row _ _ 0 _ _ _ (heap_alloc_new w _)
  have hn := szS_len szMfnD fs
  have hn2 : fs.length ≤ 1048576 := by omega
  have HC := Lib.hid (And.intro (hM.later mfnR_lasts hb0) (And.intro hsz (And.intro hb0 (heap_alloc_new w (.cells #[.slice a fs.length c] 25)))))
  clear hM hsz hn
  go_enter Tryd.func10, Tryd.ntmps10
  go_wp2_with fail
  generalize w.alloc (.cells #[.slice a fs.length c] 25) = W0 at HC hc0 hb0 ⊢
  cases hL : inR 1 (fs.length : Int) 4 with
  | false =>
    have HN := Lib.hid (show machV fs = false by rw [machV, hL, Bool.false_and])
    refine (l1InM_is hL _).mono ?_
    clear hL
    rintro e w1 ⟨rfl, rfl⟩
    go_wp2
    go_ret
    exact ⟨ret_bool HN.out.symm, hb0⟩
  | true =>
    have HL := Lib.hid hL
    refine (l1InM_is hL _).mono ?_
    clear hL
    rintro e w1 ⟨rfl, rfl⟩
    go_wp2_with fail
    clear hb0 hc0
    go_loopg [3, 4] fs.length (fun F n i wr => ∃ k : Nat, k + F = fs.length ∧ i = .int .i64 k ∧ n = .int .i64 (sumOf insN (fs.take k) : Nat) ∧ sumOf insN (fs.take k) ≤ 2000 ∧ Hid (Below w1.heap.size w1 wr ∧ allK (fnV fs) k = true))
    case atStart => exact ⟨0, by omega, rfl, rfl, by simp [sumOf], Lib.hid ⟨Below.refl _ _, rfl⟩⟩
    case round =>
      obtain ⟨k, hk, rfl, rfl, hle, HK⟩ := hrel
      have hMU := (HK.out.1.block _ (Array.getElem?_eq_some_iff.1 HC.out.2.2.2).1).trans HC.out.2.2.2
      have u0 := cell_of_row _ _ 0 _ _ _ hMU
      simp only [List.getElem?_toArray, List.getElem?_cons_zero] at u0
      by_cases hlt : k < fs.length
      · have hU := HC.out.1.later mfnR_lasts HK.out.1
        obtain ⟨b1, o1, params, slots, ins, ia, ic, rfl, hx, c0, c1, c2, hCR⟩ := mfn_place hU hlt
        have hil : ins.length ≤ 1048576 := Nat.le_trans (szS_len szMinsD ins) (Nat.le_trans (szS_mem (sz := szMfnD) (List.mem_of_getElem? hx)) HC.out.2.1)
        have hts : sumOf insN (fs.take (k + 1)) = sumOf insN (fs.take k) + ins.length := by rw [take_succ_of hx, sumOf_snoc]; rfl
        have hki : (k : Int) < (fs.length : Int) := by omega
        have HT := Lib.hid (And.intro hts (And.intro hU (And.intro hx hCR)))
        clear hts hU hx hCR
        generalize sumOf insN (fs.take k) = n0 at HT hle ⊢
        go_upto_region 9 with fail
        have hba : Below wr.heap.size wr (wr.alloc (.cells #[.int .i64 params, .int .i64 slots, .slice ia ins.length ic] 32)) := (Below.refl _ _).alloc (Nat.le_refl _) _
        have h2 := heap_alloc_new wr (.cells #[.int .i64 params, .int .i64 slots, .slice ia ins.length ic] 32)
        generalize wr.alloc (.cells #[.int .i64 params, .int .i64 slots, .slice ia ins.length ic] 32) = W5 at hba h2 ⊢
        have k0 := cell_of_row _ _ 0 _ _ _ h2
        have k1 := cell_of_row _ _ 1 _ _ _ h2
        have k2 := cell_of_row _ _ 2 _ _ _ h2
        simp only [List.getElem?_toArray, List.getElem?_cons_zero, List.getElem?_cons_succ] at k0 k1 k2
        obtain ⟨_, _, hcs, _, hrd⟩ := mfnR_lasts _ _ _ _ hba HT.out.2.2.2
        simp only [List.cons.injEq, Value.slice.injEq, and_true, true_and] at hcs
        obtain ⟨rfl, rfl⟩ := hcs
        have hrd : SliceRd 5 MinsR W5 ia ins.length ins := hrd
        have hbx := HK.out.1.trans (hba.mono HK.out.1.size)
        have HB := Lib.hid (HC.out.2.2.1.trans (hbx.mono HC.out.2.2.1.size))
        have HX := Lib.hid (And.intro hbx (And.intro h2 (And.intro ((hbx.block _ (Array.getElem?_eq_some_iff.1 HC.out.2.2.2).1).trans HC.out.2.2.2) (And.intro (HT.out.2.1.later mfnR_lasts hba) hrd))))
        clear hba h2 hbx c0 c1 c2 hMU u0 hrd
        have HV := Lib.hid (show mfnV (k : Int) ⟨params, slots, ins⟩ = (inR 0 params 3 && (inR 0 slots 64 && (!((ins.length : Int) == 0) && (lastB ⟨params, slots, ins⟩ && ins.all (insV (k : Int) ⟨params, slots, ins⟩))))) from rfl)
        cases hA : inR 0 params 3 with
        | false =>
          have HN := Lib.hid (machV_stop HT.out.2.2.1 (HV.out.trans (by rw [hA]; rfl)))
          have HW := Lib.hid (fun W => l1InM_is hA W)
          clear hA
          go_wp2_with fail
          refine (HW.out _).mono ?_
          rintro e w6 ⟨rfl, rfl⟩
          go_wp2
          go_ret
          exact ⟨ret_bool HN.out.symm, HB.out⟩
        | true =>
          have HWA := Lib.hid (fun W => l1InM_is hA W)
          have hAl : 0 ≤ params ∧ params ≤ 3 := by simpa [inR] using hA
          cases hB : inR 0 slots 64 with
          | false =>
            have HN := Lib.hid (machV_stop HT.out.2.2.1 (HV.out.trans (by rw [hA, hB]; rfl)))
            have HW := Lib.hid (fun W => l1InM_is hB W)
            clear hA hB hAl
            go_wp2_with fail
            refine (HWA.out _).mono ?_
            rintro e w6 ⟨rfl, rfl⟩
            go_wp2_with fail
            refine (HW.out _).mono ?_
            rintro e w6 ⟨rfl, rfl⟩
            go_wp2
            go_ret
            exact ⟨ret_bool HN.out.symm, HB.out⟩
          | true =>
            have HWB := Lib.hid (fun W => l1InM_is hB W)
            have hBl : 0 ≤ slots ∧ slots ≤ 64 := by simpa [inR] using hB
            have HLL := Lib.hid (And.intro hAl hBl)
            clear hAl hBl
            cases hE : ((ins.length : Int) == 0) with
            | true =>
              have HN := Lib.hid (machV_stop HT.out.2.2.1 (HV.out.trans (by rw [hA, hB, hE]; rfl)))
              clear hA hB
              go_wp2_with fail
              refine (HWA.out _).mono ?_
              rintro e w6 ⟨rfl, rfl⟩
              go_wp2_with fail
              refine (HWB.out _).mono ?_
              rintro e w6 ⟨rfl, rfl⟩
              go_wp2
              go_ret
              exact ⟨ret_bool HN.out.symm, HB.out⟩
            | false =>
              have hz : ins.length ≠ 0 := by intro h; rw [h] at hE; simp at hE
              have HV2 := Lib.hid (show mfnV (k : Int) ⟨params, slots, ins⟩ = (lastB ⟨params, slots, ins⟩ && ins.all (insV (k : Int) ⟨params, slots, ins⟩)) by rw [HV.out, hA, hB, hE]; rfl)
              clear hA hB HV
              by_cases hbig : 2000 < n0 + ins.length
              · have HN := Lib.hid (machV_big (fs := fs) (k := k) (by rw [HT.out.1]; exact hbig))
                have hbi : (2000 : Int) < (n0 : Int) + (ins.length : Int) := by omega
                clear hbig
                go_wp2_with fail
                refine (HWA.out _).mono ?_
                rintro e w6 ⟨rfl, rfl⟩
                go_wp2_with fail
                refine (HWB.out _).mono ?_
                rintro e w6 ⟨rfl, rfl⟩
                go_wp2
                go_ret
                exact ⟨ret_bool HN.out.symm, HB.out⟩
              · have hbi : ¬ (2000 : Int) < (n0 : Int) + (ins.length : Int) := by omega
                have hbi2 : n0 + ins.length ≤ 2000 := by omega
                clear hbig
                go_wp2_with fail
                refine (HWA.out _).mono ?_
                rintro e w6 ⟨rfl, rfl⟩
                go_wp2_with fail
                refine (HWB.out _).mono ?_
                rintro e w6 ⟨rfl, rfl⟩
                go_wp2_with fail
                clear k0 k1 k2
                go_loopg [6] ins.length (fun G i wq => ∃ j : Nat, j + G = ins.length ∧ i = .int .i64 j ∧ Hid (allK (insQ (k : Int) ⟨params, slots, ins⟩) j = true ∧ Below w6.heap.size w6 wq))
                case atStart => exact ⟨0, by omega, rfl, Lib.hid ⟨rfl, Below.refl _ _⟩⟩
                case round =>
                  rename World => wq
                  obtain ⟨j, hj, rfl, HJ⟩ := hrel
                  have hrow := (HJ.out.2.block _ (Array.getElem?_eq_some_iff.1 HX.out.2.1).1).trans HX.out.2.1
                  have k2 := cell_of_row _ _ 2 _ _ _ hrow
                  have u0 := cell_of_row _ _ 0 _ _ _ ((HJ.out.2.block _ (Array.getElem?_eq_some_iff.1 HX.out.2.2.1).1).trans HX.out.2.2.1)
                  simp only [List.getElem?_toArray, List.getElem?_cons_zero, List.getElem?_cons_succ] at k2 u0
                  clear hrow
                  have HBJ := Lib.hid (HB.out.trans (HJ.out.2.mono HB.out.size))
                  have hrd := HX.out.2.2.2.2.later minsR_lasts HJ.out.2
                  by_cases hltj : j < ins.length
                  · obtain ⟨b2, o2, op, fa, fb, fc, fn, rfl, hy, e0, e1, e2, e3, e4, _⟩ := mins_place hrd hltj
                    have hji : (j : Int) < (ins.length : Int) := by omega
                    have HLI := Lib.hid (fun q => l22Ins_any fs (some ⟨b1, o1, none⟩) c k ⟨params, slots, ins⟩ HT.out.2.2.1 hn2 hil HLL.out.1 HLL.out.2 ⟨op, fa, fb, fc, fn⟩ (wq.drewN q) ((HX.out.2.2.2.1.later mfnR_lasts HJ.out.2).later mfnR_lasts (below_drewN (Below.refl _ _) q)))
                    have HY := Lib.hid hy
                    clear hy hrd
                    go_wp2_with fail
                    go_cut [65] (fun b wx => b = .bool (!insV (k : Int) ⟨params, slots, ins⟩ ⟨op, fa, fb, fc, fn⟩) ∧ Hid (Below wq.heap.size wq wx))
                    case first =>
                      go_region_law (go_simp; go_at_call 27; refine (HLI.out _).mono ?_; rintro e w7 ⟨rfl, hb7⟩)
                      all_goals
                        have HB7 := Lib.hid (show Below wq.heap.size wq w7 from ⟨hb7.os, hb7.tape, hb7.output, hb7.size, hb7.block⟩)
                        clear hb7 e0 e1 e2 e3 e4 k2 u0 HLI
                        go_wp2_with fail
                        go_meet
                        exact ⟨rfl, HB7⟩
                    case rest =>
                      obtain ⟨rfl, HB7⟩ := hcut
                      clear e0 e1 e2 e3 e4 k2 u0 HLI
                      have HB8 := Lib.hid (HJ.out.2.trans (HB7.out.mono HJ.out.2.size))
                      have HB9 := Lib.hid (HBJ.out.trans (HB7.out.mono HBJ.out.size))
                      have HQ := Lib.hid (show insQ (k : Int) ⟨params, slots, ins⟩ j = insV (k : Int) ⟨params, slots, ins⟩ ⟨op, fa, fb, fc, fn⟩ by
                        show ((ins[j]?).map _).getD true = _
                        rw [HY.out]; rfl)
                      cases hv : insV (k : Int) ⟨params, slots, ins⟩ ⟨op, fa, fb, fc, fn⟩ with
                      | false =>
                        have HN := Lib.hid (machV_stop HT.out.2.2.1 (mfnV_ins HY.out hv))
                        clear hv
                        go_wp2
                        go_ret
                        exact ⟨ret_bool HN.out.symm, HB9.out⟩
                      | true =>
                        have HN := Lib.hid (allK_next HJ.out.1 (HQ.out.trans hv))
                        clear hv
                        go_wp2
                        go_roundg (ins.length - (j + 1))
                        case measure => omega
                        case rel => exact ⟨j + 1, by omega, by go_num, Lib.hid ⟨HN.out, HB8.out⟩⟩
                  · obtain rfl : j = ins.length := by omega
                    obtain ⟨n, hn⟩ : ∃ n : Nat, ins.length = n + 1 := ⟨ins.length - 1, by omega⟩
                    obtain ⟨b2, o2, op, fa, fb, fc, fn, rfl, hy, e0, _, _, _, _, _⟩ := mins_place hrd (show n < ins.length by omega)
                    have HLA := Lib.hid (show lastB ⟨params, slots, ins⟩ = (op == 20 || op == 22) from lastB_of hy hn)
                    have HAL := Lib.hid (all_insQ (k : Int) ⟨params, slots, ins⟩ HJ.out.1)
                    have hIN : ((ins.length : Int) - 1) = (n : Int) := by omega
                    have hnl : (n : Int) < (ins.length : Int) := by omega
                    have HRL := Lib.hid (HX.out.1.trans (HJ.out.2.mono HX.out.1.size))
                    clear hy hn hrd u0
                    cases hq : (op == 20) with
                    | true =>
                      have hq1 : (op != 20) = false := by rw [bne, hq]; rfl
                      have HN := Lib.hid (fnV_next HK.out.2 HT.out.2.2.1 (HV2.out.trans (by rw [HLA.out, hq, HAL.out]; rfl)))
                      clear hq
                      go_wp2
                      go_roundg (fs.length - (k + 1))
                      case measure => omega
                      case rel => exact ⟨k + 1, by omega, by go_num, int_of (by have := HT.out.1; omega), by rw [HT.out.1]; exact hbi2, Lib.hid ⟨HRL.out, HN.out⟩⟩
                    | false =>
                      have hq1 : (op != 20) = true := by rw [bne, hq]; rfl
                      cases hr : (op == 22) with
                      | true =>
                        have hr1 : (op != 22) = false := by rw [bne, hr]; rfl
                        have HN := Lib.hid (fnV_next HK.out.2 HT.out.2.2.1 (HV2.out.trans (by rw [HLA.out, hq, hr, HAL.out]; rfl)))
                        clear hq hr
                        go_wp2
                        go_roundg (fs.length - (k + 1))
                        case measure => omega
                        case rel => exact ⟨k + 1, by omega, by go_num, int_of (by have := HT.out.1; omega), by rw [HT.out.1]; exact hbi2, Lib.hid ⟨HRL.out, HN.out⟩⟩
                      | false =>
                        have hr1 : (op != 22) = true := by rw [bne, hr]; rfl
                        have HN := Lib.hid (machV_stop HT.out.2.2.1 (mfnV_last (HLA.out.trans (by rw [hq, hr]; rfl))))
                        clear hq hr
                        go_wp2
                        go_ret
                        exact ⟨ret_bool HN.out.symm, HBJ.out⟩
      · obtain rfl : k = fs.length := by omega
        have HA := Lib.hid (show machV fs = true by
          rw [List.take_length] at hle
          rw [machV, HL.out, HK.out.2, decide_eq_true hle]; rfl)
        have HB := Lib.hid (HC.out.2.2.1.trans (HK.out.1.mono HC.out.2.2.1.size))
        clear hle hMU
        go_wp2
        go_ret
        exact ⟨ret_bool HA.out.symm, HB.out⟩

end Go.Proofs.YtdkafajmhgfkoaaDoor
