
/-
  MachValid: the program's test of an instruction.
-/
import Derived.Test.YtdkafajmhgfkoaaDoorMv
namespace Go.Proofs.YtdkafajmhgfkoaaDoor
open Go.RowKit

set_option maxRecDepth 100000 in
set_option maxHeartbeats 4000000 in
theorem minsOk_any (fs : List MfnD) (a : Option Addr) (c k : Nat) (f : MfnD) (hx : fs[k]? = some f) (hfs : fs.length ≤ 1048576) (hfl : f.ins.length ≤ 1048576) (hp : 0 ≤ f.params ∧ f.params ≤ 3) (hsl : 0 ≤ f.slots ∧ f.slots ≤ 64) (x : MinsD) (w : World) (hF : FormsAt w) (hM : SliceRd 3 MfnR w a fs.length fs) :
    Calls Tryd.prog 25 #[.agg #[.slice a fs.length c], .int .i64 (k : Int), .agg #[.int .i64 x.op, .int .i64 x.fa, .int .i64 x.fb, .int .i64 x.fc, .int .i64 x.fn]] w fun e w' => e = .returned (.bool (insV (k : Int) f x)) ∧ Below w.heap.size w w' := by
  have hkl : k < fs.length := (List.getElem?_eq_some_iff.1 hx).1
  obtain ⟨b1, o1, params, slots, ins, ia, ic, rfl, hx2, g0, g1, g2, _⟩ := mfn_place hM hkl
  rw [hx] at hx2
  cases hx2
  have hfl : ins.length ≤ 1048576 := hfl
  have hp : 0 ≤ params ∧ params ≤ 3 := hp
  have hsl : 0 ≤ slots ∧ slots ≤ 64 := hsl
  obtain ⟨op, fa, fb, fc, fn⟩ := x
  show Calls _ _ #[_, _, .agg #[.int .i64 op, .int .i64 fa, .int .i64 fb, .int .i64 fc, .int .i64 fn]] w _
  have hb0 : Below w.heap.size w ((w.alloc (.cells #[.slice (some ⟨b1, o1, none⟩) fs.length c] 25)).alloc (.cells #[.int .i64 op, .int .i64 fa, .int .i64 fb, .int .i64 fc, .int .i64 fn] 41)) := ((Below.refl _ _).alloc (Nat.le_refl _) _).alloc (by simp) _
  have hA := heap_alloc2_old w (.cells #[.slice (some ⟨b1, o1, none⟩) fs.length c] 25) (.cells #[.int .i64 op, .int .i64 fa, .int .i64 fb, .int .i64 fc, .int .i64 fn] 41)
  have hB := heap_alloc2_new w (.cells #[.slice (some ⟨b1, o1, none⟩) fs.length c] 25) (.cells #[.int .i64 op, .int .i64 fa, .int .i64 fb, .int .i64 fc, .int .i64 fn] 41)
  have HW := Lib.hid (And.intro hb0 (And.intro hA (And.intro hB (And.intro (cell_later hb0 g0) (And.intro (cell_later hb0 g1) (And.intro (cell_later hb0 g2) (hF.later hb0)))))))
  have hki : (k : Int) < (fs.length : Int) := by omega
  clear hb0 hA hB hF hM hx g0 g1 g2
  go_enter Tryd.func25, Tryd.ntmps25
  go_upto_region 1 with fail
  obtain ⟨q, hq⟩ : ∃ q, q = w.heap.size := ⟨_, rfl⟩
  generalize (w.alloc (.cells #[.slice (some ⟨b1, o1, none⟩) fs.length c] 25)).alloc (.cells #[.int .i64 op, .int .i64 fa, .int .i64 fb, .int .i64 fc, .int .i64 fn] 41) = W1 at HW ⊢
  rw [← hq] at HW ⊢
  have HQ := Lib.hid (show Below w.heap.size w W1 by rw [← hq]; exact HW.out.1)
  clear hq
  have k0 := cell_of_row _ _ 0 _ _ _ HW.out.2.2.1
  have k1 := cell_of_row _ _ 1 _ _ _ HW.out.2.2.1
  have k2 := cell_of_row _ _ 2 _ _ _ HW.out.2.2.1
  have k3 := cell_of_row _ _ 3 _ _ _ HW.out.2.2.1
  have k4 := cell_of_row _ _ 4 _ _ _ HW.out.2.2.1
  simp only [List.getElem?_toArray, List.getElem?_cons_zero, List.getElem?_cons_succ] at k0 k1 k2 k3 k4
  have HFO := Lib.hid (formOf_any ⟨op, fa, fb, fc, fn⟩ W1 HW.out.2.2.2.2.2.2)
  go_wp2_with fail
  refine HFO.out.mono ?_
  rintro e w2 ⟨s, F, rfl, hb2, hFe⟩
  have hba : Below w2.heap.size w2 (w2.alloc (.cells #[.string s, .int .i64 F] 65)) := (Below.refl _ _).alloc (Nat.le_refl _) _
  have hb3 := hb2.trans (hba.mono hb2.size)
  have HX := Lib.hid (And.intro (HQ.out.trans (hb3.mono HQ.out.size)) (heap_alloc_new w2 (.cells #[.string s, .int .i64 F] 65)))
  have d0 := cell_later hb3 k0
  have d1 := cell_later hb3 k1
  have d2 := cell_later hb3 k2
  have d3 := cell_later hb3 k3
  have d4 := cell_later hb3 k4
  have m0 : (w2.alloc (.cells #[.string s, .int .i64 F] 65)).cell? ⟨q, 0, none⟩ = some (.slice (some ⟨b1, o1, none⟩) fs.length c) := cell_later hb3 (cell_of_row _ _ 0 _ _ _ HW.out.2.1)
  have g0 := cell_later hb3 HW.out.2.2.2.1
  have g1 := cell_later hb3 HW.out.2.2.2.2.1
  have g2 := cell_later hb3 HW.out.2.2.2.2.2.1
  have f1 : (w2.alloc (.cells #[.string s, .int .i64 F] 65)).cell? ⟨w2.heap.size, 1, none⟩ = some (.int .i64 F) := cell_of_row _ _ 1 _ _ _ HX.out.2
  have HV := Lib.hid (show insV (k : Int) ⟨params, slots, ins⟩ ⟨op, fa, fb, fc, fn⟩ = (formB ⟨op, fa, fb, fc, fn⟩ && (inR 0 fa 7 && (inR 0 fb 7 && (inR 0 fc 7 && (!bitB (fm op) 3 || inR 0 fn (mostN (k : Int) ⟨params, slots, ins⟩ op)))))) from rfl)
  have HFE := Lib.hid hFe
  have HOP := Lib.hid (fun (h : formB ⟨op, fa, fb, fc, fn⟩ = true) => show opB op = true by rw [formB, Bool.and_eq_true] at h; exact h.1)
  clear hba hb2 hb3 k0 k1 k2 k3 k4 hFe HFO
  cases hform : formB ⟨op, fa, fb, fc, fn⟩ with
  | false =>
    have HN := Lib.hid (show insV (k : Int) ⟨params, slots, ins⟩ ⟨op, fa, fb, fc, fn⟩ = false by rw [HV.out, hform, Bool.false_and])
    clear hform
    go_wp2
    go_ret
    exact ⟨ret_bool HN.out.symm, HX.out.1⟩
  | true =>
    have hFm : F = fm op := HFE.out hform
    have hop := HOP.out hform
    cases ha : inR 0 fa 7 with
    | false =>
      have HN := Lib.hid (show insV (k : Int) ⟨params, slots, ins⟩ ⟨op, fa, fb, fc, fn⟩ = false by rw [HV.out, hform, ha]; rfl)
      have HA := Lib.hid (fun W => withinM_is ha W)
      clear hform ha hFm hop
      go_wp2_with fail
      refine (HA.out _).mono ?_
      rintro e w4 ⟨rfl, rfl⟩
      go_wp2
      go_ret
      exact ⟨ret_bool HN.out.symm, HX.out.1⟩
    | true =>
      have HA := Lib.hid (fun W => withinM_is ha W)
      cases hb : inR 0 fb 7 with
      | false =>
        have HN := Lib.hid (show insV (k : Int) ⟨params, slots, ins⟩ ⟨op, fa, fb, fc, fn⟩ = false by rw [HV.out, hform, ha, hb]; rfl)
        have HB := Lib.hid (fun W => withinM_is hb W)
        clear hform ha hb hFm hop
        go_wp2_with fail
        refine (HA.out _).mono ?_
        rintro e w4 ⟨rfl, rfl⟩
        go_wp2_with fail
        refine (HB.out _).mono ?_
        rintro e w4 ⟨rfl, rfl⟩
        go_wp2
        go_ret
        exact ⟨ret_bool HN.out.symm, HX.out.1⟩
      | true =>
        have HB := Lib.hid (fun W => withinM_is hb W)
        cases hcc : inR 0 fc 7 with
        | false =>
          have HN := Lib.hid (show insV (k : Int) ⟨params, slots, ins⟩ ⟨op, fa, fb, fc, fn⟩ = false by rw [HV.out, hform, ha, hb, hcc]; rfl)
          have HCC := Lib.hid (fun W => withinM_is hcc W)
          clear hform ha hb hcc hFm hop
          go_wp2_with fail
          refine (HA.out _).mono ?_
          rintro e w4 ⟨rfl, rfl⟩
          go_wp2_with fail
          refine (HB.out _).mono ?_
          rintro e w4 ⟨rfl, rfl⟩
          go_wp2_with fail
          refine (HCC.out _).mono ?_
          rintro e w4 ⟨rfl, rfl⟩
          go_wp2
          go_ret
          exact ⟨ret_bool HN.out.symm, HX.out.1⟩
        | true =>
          have HCC := Lib.hid (fun W => withinM_is hcc W)
          have HV2 := Lib.hid (show insV (k : Int) ⟨params, slots, ins⟩ ⟨op, fa, fb, fc, fn⟩ = (!bitB (fm op) 3 || inR 0 fn (mostN (k : Int) ⟨params, slots, ins⟩ op)) by rw [HV.out, hform, ha, hb, hcc]; rfl)
          obtain ⟨n, rfl, hn1, hn2⟩ := fm_of hop
          have HFV := Lib.hid (show F = fmL.getD n 0 by rw [hFm, fm, Int.toNat_natCast])
          clear hform ha hb hcc hFm hop HV HFE HOP
          go_wp2_with fail
          refine (HA.out _).mono ?_
          rintro e w4 ⟨rfl, rfl⟩
          go_wp2_with fail
          refine (HB.out _).mono ?_
          rintro e w4 ⟨rfl, rfl⟩
          go_wp2_with fail
          refine (HCC.out _).mono ?_
          rintro e w4 ⟨rfl, rfl⟩
          go_upto_region 4 with fail
          have hcases : n = 1 ∨ n = 2 ∨ n = 3 ∨ n = 4 ∨ n = 5 ∨ n = 6 ∨ n = 7 ∨ n = 8 ∨ n = 9 ∨ n = 10 ∨ n = 11 ∨ n = 12 ∨ n = 13 ∨ n = 14 ∨ n = 15 ∨ n = 16 ∨ n = 17 ∨ n = 18 ∨ n = 19 ∨ n = 20 ∨ n = 21 ∨ n = 22 := by omega
          clear hn1 hn2 HA HB HCC
          rcases hcases with rfl | rfl | rfl | rfl | rfl | rfl | rfl | rfl | rfl | rfl | rfl | rfl | rfl | rfl | rfl | rfl | rfl | rfl | rfl | rfl | rfl | rfl
          · obtain rfl : F = 9 := HFV.out
            have HN := Lib.hid (show insV (k : Int) ⟨params, slots, ins⟩ ⟨((1 : Nat) : Int), fa, fb, fc, fn⟩ = inR 0 fn 255 from HV2.out.trans rfl)
            go_wp2_with fail
            refine (withinM_any fn 0 255 _).mono ?_
            rintro e w5 ⟨rfl, rfl⟩
            go_wp2
            go_ret
            exact ⟨ret_bool HN.out.symm, HX.out.1⟩
          · obtain rfl : F = 3 := HFV.out
            have HN := Lib.hid (show insV (k : Int) ⟨params, slots, ins⟩ ⟨((2 : Nat) : Int), fa, fb, fc, fn⟩ = true from HV2.out.trans rfl)
            go_wp2
            go_ret
            exact ⟨ret_bool HN.out.symm, HX.out.1⟩
          · obtain rfl : F = 7 := HFV.out
            have HN := Lib.hid (show insV (k : Int) ⟨params, slots, ins⟩ ⟨((3 : Nat) : Int), fa, fb, fc, fn⟩ = true from HV2.out.trans rfl)
            go_wp2
            go_ret
            exact ⟨ret_bool HN.out.symm, HX.out.1⟩
          · obtain rfl : F = 7 := HFV.out
            have HN := Lib.hid (show insV (k : Int) ⟨params, slots, ins⟩ ⟨((4 : Nat) : Int), fa, fb, fc, fn⟩ = true from HV2.out.trans rfl)
            go_wp2
            go_ret
            exact ⟨ret_bool HN.out.symm, HX.out.1⟩
          · obtain rfl : F = 7 := HFV.out
            have HN := Lib.hid (show insV (k : Int) ⟨params, slots, ins⟩ ⟨((5 : Nat) : Int), fa, fb, fc, fn⟩ = true from HV2.out.trans rfl)
            go_wp2
            go_ret
            exact ⟨ret_bool HN.out.symm, HX.out.1⟩
          · obtain rfl : F = 7 := HFV.out
            have HN := Lib.hid (show insV (k : Int) ⟨params, slots, ins⟩ ⟨((6 : Nat) : Int), fa, fb, fc, fn⟩ = true from HV2.out.trans rfl)
            go_wp2
            go_ret
            exact ⟨ret_bool HN.out.symm, HX.out.1⟩
          · obtain rfl : F = 7 := HFV.out
            have HN := Lib.hid (show insV (k : Int) ⟨params, slots, ins⟩ ⟨((7 : Nat) : Int), fa, fb, fc, fn⟩ = true from HV2.out.trans rfl)
            go_wp2
            go_ret
            exact ⟨ret_bool HN.out.symm, HX.out.1⟩
          · obtain rfl : F = 7 := HFV.out
            have HN := Lib.hid (show insV (k : Int) ⟨params, slots, ins⟩ ⟨((8 : Nat) : Int), fa, fb, fc, fn⟩ = true from HV2.out.trans rfl)
            go_wp2
            go_ret
            exact ⟨ret_bool HN.out.symm, HX.out.1⟩
          · obtain rfl : F = 7 := HFV.out
            have HN := Lib.hid (show insV (k : Int) ⟨params, slots, ins⟩ ⟨((9 : Nat) : Int), fa, fb, fc, fn⟩ = true from HV2.out.trans rfl)
            go_wp2
            go_ret
            exact ⟨ret_bool HN.out.symm, HX.out.1⟩
          · obtain rfl : F = 3 := HFV.out
            have HN := Lib.hid (show insV (k : Int) ⟨params, slots, ins⟩ ⟨((10 : Nat) : Int), fa, fb, fc, fn⟩ = true from HV2.out.trans rfl)
            go_wp2
            go_ret
            exact ⟨ret_bool HN.out.symm, HX.out.1⟩
          · obtain rfl : F = 3 := HFV.out
            have HN := Lib.hid (show insV (k : Int) ⟨params, slots, ins⟩ ⟨((11 : Nat) : Int), fa, fb, fc, fn⟩ = true from HV2.out.trans rfl)
            go_wp2
            go_ret
            exact ⟨ret_bool HN.out.symm, HX.out.1⟩
          · obtain rfl : F = 3 := HFV.out
            have HN := Lib.hid (show insV (k : Int) ⟨params, slots, ins⟩ ⟨((12 : Nat) : Int), fa, fb, fc, fn⟩ = true from HV2.out.trans rfl)
            go_wp2
            go_ret
            exact ⟨ret_bool HN.out.symm, HX.out.1⟩
          · obtain rfl : F = 1 := HFV.out
            have HN := Lib.hid (show insV (k : Int) ⟨params, slots, ins⟩ ⟨((13 : Nat) : Int), fa, fb, fc, fn⟩ = true from HV2.out.trans rfl)
            go_wp2
            go_ret
            exact ⟨ret_bool HN.out.symm, HX.out.1⟩
          · obtain rfl : F = 8 := HFV.out
            have HN := Lib.hid (show insV (k : Int) ⟨params, slots, ins⟩ ⟨((14 : Nat) : Int), fa, fb, fc, fn⟩ = inR 0 fn ((k : Int) - 1) from HV2.out.trans rfl)
            go_wp2_with fail
            refine (withinM_any fn 0 ((k : Int) - 1) _).mono ?_
            rintro e w5 ⟨rfl, rfl⟩
            go_wp2
            go_ret
            exact ⟨ret_bool HN.out.symm, HX.out.1⟩
          · obtain rfl : F = 9 := HFV.out
            have HN := Lib.hid (show insV (k : Int) ⟨params, slots, ins⟩ ⟨((15 : Nat) : Int), fa, fb, fc, fn⟩ = inR 0 fn (slots - 1) from HV2.out.trans rfl)
            go_wp2_with fail
            refine (withinM_any fn 0 (slots - 1) _).mono ?_
            rintro e w5 ⟨rfl, rfl⟩
            go_wp2
            go_ret
            exact ⟨ret_bool HN.out.symm, HX.out.1⟩
          · obtain rfl : F = 9 := HFV.out
            have HN := Lib.hid (show insV (k : Int) ⟨params, slots, ins⟩ ⟨((16 : Nat) : Int), fa, fb, fc, fn⟩ = inR 0 fn (slots - 1) from HV2.out.trans rfl)
            go_wp2_with fail
            refine (withinM_any fn 0 (slots - 1) _).mono ?_
            rintro e w5 ⟨rfl, rfl⟩
            go_wp2
            go_ret
            exact ⟨ret_bool HN.out.symm, HX.out.1⟩
          · obtain rfl : F = 9 := HFV.out
            have HN := Lib.hid (show insV (k : Int) ⟨params, slots, ins⟩ ⟨((17 : Nat) : Int), fa, fb, fc, fn⟩ = inR 0 fn 2 from HV2.out.trans rfl)
            go_wp2_with fail
            refine (withinM_any fn 0 2 _).mono ?_
            rintro e w5 ⟨rfl, rfl⟩
            go_wp2
            go_ret
            exact ⟨ret_bool HN.out.symm, HX.out.1⟩
          · obtain rfl : F = 9 := HFV.out
            have HN := Lib.hid (show insV (k : Int) ⟨params, slots, ins⟩ ⟨((18 : Nat) : Int), fa, fb, fc, fn⟩ = inR 0 fn (params - 1) from HV2.out.trans rfl)
            go_wp2_with fail
            refine (withinM_any fn 0 (params - 1) _).mono ?_
            rintro e w5 ⟨rfl, rfl⟩
            go_wp2
            go_ret
            exact ⟨ret_bool HN.out.symm, HX.out.1⟩
          · obtain rfl : F = 1 := HFV.out
            have HN := Lib.hid (show insV (k : Int) ⟨params, slots, ins⟩ ⟨((19 : Nat) : Int), fa, fb, fc, fn⟩ = true from HV2.out.trans rfl)
            go_wp2
            go_ret
            exact ⟨ret_bool HN.out.symm, HX.out.1⟩
          · obtain rfl : F = 8 := HFV.out
            have HN := Lib.hid (show insV (k : Int) ⟨params, slots, ins⟩ ⟨((20 : Nat) : Int), fa, fb, fc, fn⟩ = inR 0 fn ((ins.length : Int) - 1) from HV2.out.trans rfl)
            go_wp2_with fail
            refine (withinM_any fn 0 ((ins.length : Int) - 1) _).mono ?_
            rintro e w5 ⟨rfl, rfl⟩
            go_wp2
            go_ret
            exact ⟨ret_bool HN.out.symm, HX.out.1⟩
          · obtain rfl : F = 9 := HFV.out
            have HN := Lib.hid (show insV (k : Int) ⟨params, slots, ins⟩ ⟨((21 : Nat) : Int), fa, fb, fc, fn⟩ = inR 0 fn ((ins.length : Int) - 1) from HV2.out.trans rfl)
            go_wp2_with fail
            refine (withinM_any fn 0 ((ins.length : Int) - 1) _).mono ?_
            rintro e w5 ⟨rfl, rfl⟩
            go_wp2
            go_ret
            exact ⟨ret_bool HN.out.symm, HX.out.1⟩
          · obtain rfl : F = 1 := HFV.out
            have HN := Lib.hid (show insV (k : Int) ⟨params, slots, ins⟩ ⟨((22 : Nat) : Int), fa, fb, fc, fn⟩ = true from HV2.out.trans rfl)
            go_wp2
            go_ret
            exact ⟨ret_bool HN.out.symm, HX.out.1⟩

end Go.Proofs.YtdkafajmhgfkoaaDoor
