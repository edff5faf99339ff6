
/-
  MachValid: the reference's test of an instruction, whole.
-/
import Derived.Test.YtdkafajmhgfkoaaDoorMv6
import Derived.Deep.RegionLaw
namespace Go.Proofs.YtdkafajmhgfkoaaDoor
open Go.RowKit

theorem insV_ok {k : Int} {f : MfnD} {x : MinsD} (hf : formB x = true) (h : allK (okS (wordOf x.op) x) (wordOf x.op).size = true) : insV k f x = (!bitB (fm x.op) 3 || inR 0 x.fn (mostN k f x.op)) := by
  rw [ok_same hf] at h
  simp only [Bool.and_eq_true] at h
  rw [insV, hf, h.1, h.2.1, h.2.2]; rfl
theorem insV_bad {k : Int} {f : MfnD} {x : MinsD} (hf : formB x = true) (h : allK (okS (wordOf x.op) x) (wordOf x.op).size = false) : insV k f x = false := by
  rw [ok_same hf] at h
  rw [insV, hf]
  cases h0 : inR 0 x.fa 7 with
  | false => rfl
  | true =>
    cases h1 : inR 0 x.fb 7 with
    | false => rfl
    | true =>
      cases h2 : inR 0 x.fc 7 with
      | false => rfl
      | true => rw [h0, h1, h2] at h; cases h

set_option maxRecDepth 100000 in
set_option maxHeartbeats 8000000 in
theorem l22Ins_any (fs : List MfnD) (a : Option Addr) (c k : Nat) (f : MfnD) (hx : fs[k]? = some f) (hfs : fs.length ≤ 1048576) (hfl : f.ins.length ≤ 1048576) (hp : 0 ≤ f.params ∧ f.params ≤ 3) (hsl : 0 ≤ f.slots ∧ f.slots ≤ 64) (x : MinsD) (w : World) (hM : SliceRd 3 MfnR w a fs.length fs) :
    Calls Tryd.prog 27 #[.agg #[.slice a fs.length c], .int .i64 (k : Int), .agg #[.int .i64 x.op, .int .i64 x.fa, .int .i64 x.fb, .int .i64 x.fc, .int .i64 x.fn]] w fun e w' => e = .returned (.bool (insV (k : Int) f x)) ∧ Below w.heap.size w w' := by
  have hkl : k < fs.length := (List.getElem?_eq_some_iff.1 hx).1
  obtain ⟨b1, o1, params, slots, ins, ia, ic, rfl, hx2, g0, g1, g2, _⟩ := mfn_place hM hkl
  rw [hx] at hx2
  cases hx2
  have hfl : ins.length ≤ 1048576 := hfl
  have hp : 0 ≤ params ∧ params ≤ 3 := hp
  have hsl : 0 ≤ slots ∧ slots ≤ 64 := hsl
  have HFA := Lib.hid (fun kk (hk : kk < 4) W => l22Field_any x kk hk W)
  have HRS := Lib.hid (fun s (hs : s.size ≤ 3) W => l22Rest_any x s hs W)
  have HFB := Lib.hid (show formB x = (opB x.op && allK (restQ x) 4) from rfl)
  have HSM := Lib.hid (fun h => rest_same (x := x) h)
  have HOK := Lib.hid (fun h1 h2 => insV_ok (k := (k : Int)) (f := ⟨params, slots, ins⟩) (x := x) h1 h2)
  have HBD := Lib.hid (fun h1 h2 => insV_bad (k := (k : Int)) (f := ⟨params, slots, ins⟩) (x := x) h1 h2)
  have HNF := Lib.hid (fun (h : formB x = false) => show insV (k : Int) ⟨params, slots, ins⟩ x = false by rw [insV, h, Bool.false_and])
  obtain ⟨op, fa, fb, fc, fn⟩ := x
  show Calls _ _ #[_, _, .agg #[.int .i64 op, .int .i64 fa, .int .i64 fb, .int .i64 fc, .int .i64 fn]] w _
  have hb0 : Below w.heap.size w (((w.alloc (.cells #[.slice (some ⟨b1, o1, none⟩) fs.length c] 25)).alloc (.cells #[.int .i64 op, .int .i64 fa, .int .i64 fb, .int .i64 fc, .int .i64 fn] 41)).alloc (.cells #[.int .i64 params, .int .i64 slots, .slice ia ins.length ic] 32)) := (((Below.refl _ _).alloc (Nat.le_refl _) _).alloc (by simp) _).alloc (by simp; omega) _
  have hb2 : Below w.heap.size w ((w.alloc (.cells #[.slice (some ⟨b1, o1, none⟩) fs.length c] 25)).alloc (.cells #[.int .i64 op, .int .i64 fa, .int .i64 fb, .int .i64 fc, .int .i64 fn] 41)) := ((Below.refl _ _).alloc (Nat.le_refl _) _).alloc (by simp) _
  have e0 := cell_later hb2 g0
  have e1 := cell_later hb2 g1
  have e2 := cell_later hb2 g2
  have hA := (three_blocks w (.cells #[.slice (some ⟨b1, o1, none⟩) fs.length c] 25) (.cells #[.int .i64 op, .int .i64 fa, .int .i64 fb, .int .i64 fc, .int .i64 fn] 41) (.cells #[.int .i64 params, .int .i64 slots, .slice ia ins.length ic] 32)).1
  have HW := Lib.hid (And.intro hb0 hA)
  have hki : (k : Int) < (fs.length : Int) := by omega
  clear hb0 hA hM hx hb2 g0 g1 g2
  go_enter Tryd.func27, Tryd.ntmps27
  go_upto_region 2 with fail
  generalize ((w.alloc (.cells #[.slice (some ⟨b1, o1, none⟩) fs.length c] 25)).alloc (.cells #[.int .i64 op, .int .i64 fa, .int .i64 fb, .int .i64 fc, .int .i64 fn] 41)).alloc (.cells #[.int .i64 params, .int .i64 slots, .slice ia ins.length ic] 32) = W1 at HW ⊢
  clear e0 e1 e2
  have hrow : W1.heap[w.heap.size + 1]? = some (.cells #[.int .i64 op, .int .i64 fa, .int .i64 fb, .int .i64 fc, .int .i64 fn] 41 (0, 0)) := HW.out.2.z
  have d0 := cell_of_row _ _ 0 _ _ _ hrow
  simp only [List.getElem?_toArray, List.getElem?_cons_zero] at d0
  clear hrow
  obtain ⟨wd, hwd⟩ : ∃ wd, wd = wordOf op := ⟨_, rfl⟩
  have HWO := Lib.hid (fun W => show Calls Tryd.prog 32 #[.int .i64 op] W fun e w' => ∃ s, e = .returned (.tuple #[.string s, .string wd]) ∧ Below W.heap.size W w' by rw [hwd]; exact l22Word_any op W)
  have HWD := Lib.hid hwd
  clear hwd
  go_wp2_with fail
  refine (HWO.out _).mono ?_
  rintro e w2 ⟨s, rfl, hb2⟩
  go_upto_region 3 with fail
  have hrow2 : w2.heap[w.heap.size + 1]? = some (.cells #[.int .i64 op, .int .i64 fa, .int .i64 fb, .int .i64 fc, .int .i64 fn] 41 (0, 0)) := (hb2.block _ (Array.getElem?_eq_some_iff.1 HW.out.2.z).1).trans HW.out.2.z
  have hrow3 : w2.heap[w.heap.size + 1 + 1]? = some (.cells #[.int .i64 params, .int .i64 slots, .slice ia ins.length ic] 32 (0, 0)) := (hb2.block _ (Array.getElem?_eq_some_iff.1 HW.out.2.u).1).trans HW.out.2.u
  have HB := Lib.hid (And.intro (HW.out.1.trans (hb2.mono HW.out.1.size)) (And.intro hrow2 hrow3))
  clear hb2 d0
  cases ho : opB op with
  | false =>
    have HN := Lib.hid (HNF.out (by rw [HFB.out]; show (opB op && _) = _; rw [ho]; rfl))
    obtain rfl : wd = ⟨#[]⟩ := HWD.out.trans (by rw [wordOf, ho]; rfl)
    clear ho hrow2 hrow3
    go_wp2
    go_ret
    exact ⟨ret_bool HN.out.symm, HB.out.1⟩
  | true =>
    have HO := Lib.hid ho
    have hws := word_chr ho
    rw [← HWD.out] at hws
    have hne : (wd.toList == ([] : List UInt8)) = false := by
      have h1 := hws.1
      rw [ByteArray.toList_eq]
      cases hd : wd.data.toList with
      | nil => exact absurd h1 (by rw [← ByteArray.size_data, ← Array.length_toList, hd]; decide)
      | cons _ _ => rfl
    have d0 := cell_of_row _ _ 0 _ _ _ hrow2
    have d1 := cell_of_row _ _ 1 _ _ _ hrow2
    have d2 := cell_of_row _ _ 2 _ _ _ hrow2
    have d3 := cell_of_row _ _ 3 _ _ _ hrow2
    have d4 := cell_of_row _ _ 4 _ _ _ hrow2
    simp only [List.getElem?_toArray, List.getElem?_cons_zero, List.getElem?_cons_succ] at d0 d1 d2 d3 d4
    have HR3 := Lib.hid (HRS.out wd hws.2.1 w2)
    have HRV := Lib.hid (show allK (restS wd ⟨op, fa, fb, fc, fn⟩) 4 = formB ⟨op, fa, fb, fc, fn⟩ by rw [HWD.out]; exact HSM.out ho)
    have HWS := Lib.hid hws
    clear hws ho hrow2 hrow3
    go_wp2_with fail
    refine HR3.out.mono ?_
    rintro e w3 ⟨rfl, hb3⟩
    clear d0 d1 d2 d3 d4
    cases hf : formB ⟨op, fa, fb, fc, fn⟩ with
    | false =>
      have HN := Lib.hid (HNF.out hf)
      have hrv : allK (restS wd ⟨op, fa, fb, fc, fn⟩) 4 = false := HRV.out.trans hf
      have HB3 := Lib.hid (HB.out.1.trans (hb3.mono HB.out.1.size))
      clear hf hb3
      go_wp2
      go_ret
      exact ⟨ret_bool HN.out.symm, HB3.out⟩
    | true =>
      have HF := Lib.hid hf
      have hrv : allK (restS wd ⟨op, fa, fb, fc, fn⟩) 4 = true := HRV.out.trans hf
      have HB3 := Lib.hid (And.intro (HB.out.1.trans (hb3.mono HB.out.1.size)) (And.intro ((hb3.block _ (Array.getElem?_eq_some_iff.1 HB.out.2.1).1).trans HB.out.2.1) ((hb3.block _ (Array.getElem?_eq_some_iff.1 HB.out.2.2).1).trans HB.out.2.2)))
      clear hf hb3 HB HR3
      go_wp2_with fail
      clear hrv hne
      go_loopg [10] wd.size (fun G i wr => ∃ j : Nat, j + G = wd.size ∧ i = .int .i64 j ∧ Hid (allK (okS wd ⟨op, fa, fb, fc, fn⟩) j = true ∧ Below w3.heap.size w3 wr))
      case atStart => exact ⟨0, by omega, rfl, Lib.hid ⟨rfl, Below.refl _ _⟩⟩
      case round =>
        obtain ⟨j, hj, rfl, HK⟩ := hrel
        have hrow := (HK.out.2.block _ (Array.getElem?_eq_some_iff.1 HB3.out.2.1).1).trans HB3.out.2.1
        have d0 := cell_of_row _ _ 0 _ _ _ hrow
        have d1 := cell_of_row _ _ 1 _ _ _ hrow
        have d2 := cell_of_row _ _ 2 _ _ _ hrow
        have d3 := cell_of_row _ _ 3 _ _ _ hrow
        have d4 := cell_of_row _ _ 4 _ _ _ hrow
        simp only [List.getElem?_toArray, List.getElem?_cons_zero, List.getElem?_cons_succ] at d0 d1 d2 d3 d4
        have hw3 := HWS.out.2.1
        by_cases hlt : j < wd.size
        · have hji : (j : Int) < (wd.size : Int) := by omega
          obtain ⟨kk, hkk, hch⟩ := HWS.out.2.2 j hlt
          have hjx : ∀ W, (Instr.index 9 (.string wd) (.int .i64 (j : Int))).run Tryd.prog W = .ok (.int .u8 (letK kk)) W := fun W => by rw [idx_str wd j hlt W, hch]
          have HQ := Lib.hid (show okS wd ⟨op, fa, fb, fc, fn⟩ j = (letK kk == 78 || inR 0 (fieldAt ⟨op, fa, fb, fc, fn⟩ (letK kk - 65).toNat) 7) by rw [okS, hch])
          have HST := Lib.hid (fun (h : okS wd ⟨op, fa, fb, fc, fn⟩ j = false) => HBD.out HF.out (show allK (okS (wordOf op) ⟨op, fa, fb, fc, fn⟩) (wordOf op).size = false by rw [← HWD.out]; exact allK_stop h hlt))
          have HNX := Lib.hid (fun (h : okS wd ⟨op, fa, fb, fc, fn⟩ j = true) => allK_next HK.out.1 h)
          clear hrow hch
          obtain rfl | hk3 : kk = 3 ∨ kk < 3 := by omega
          · have HN := Lib.hid (HNX.out (by rw [HQ.out]; rfl))
            have h78 : (letK 3 != 78) = false := rfl
            have HB4 := Lib.hid HK.out.2
            clear d0 d1 d2 d3 d4
            go_wp2_with fail
            go_quiet (fail)
            go_wp2
            go_roundg (gk - 1)
            case measure => omega
            case rel => exact ⟨j + 1, by omega, by go_num, Lib.hid ⟨HN.out, below_drewN HB4.out _⟩⟩
          · have h78 : (letK kk != 78) = true := by
              obtain rfl | rfl | rfl : kk = 0 ∨ kk = 1 ∨ kk = 2 := by omega
              all_goals rfl
            have hsub : okS wd ⟨op, fa, fb, fc, fn⟩ j = inR 0 (fieldAt ⟨op, fa, fb, fc, fn⟩ kk) 7 := by
              rw [HQ.out]
              obtain rfl | rfl | rfl : kk = 0 ∨ kk = 1 ∨ kk = 2 := by omega
              all_goals rfl
            have HC := Lib.hid (fun W => HFA.out kk hkk W)
            have HKB := Lib.hid HK.out.2
            cases hv : inR 0 (fieldAt ⟨op, fa, fb, fc, fn⟩ kk) 7 with
            | true =>
              have HN := Lib.hid (HNX.out (hsub.trans hv))
              have HV := Lib.hid (fun W => l1InM_is hv W)
              clear hsub hv hk3
              go_wp2_with fail
              go_cut [48] (fun b wx => b = .bool false ∧ Hid (Below wr.heap.size wr wx))
              case first =>
                go_region_law (first | (go_simp; go_at_call 44; refine (HC.out _).mono ?_; rintro e w5 ⟨rfl, hb5⟩) | (go_simp; go_at_call 26; refine (HV.out _).mono ?_; rintro e w6 ⟨rfl, rfl⟩))
                all_goals
                  have HB6 := Lib.hid (show Below wr.heap.size wr w6 from ⟨hb5.os, hb5.tape, hb5.output, hb5.size, hb5.block⟩)
                  clear hb5 d0 d1 d2 d3 d4
                  go_wp2_with fail
                  go_meet
                  exact ⟨rfl, HB6⟩
              case rest =>
                obtain ⟨rfl, HB6⟩ := hcut
                clear d0 d1 d2 d3 d4
                have HB7 := Lib.hid (HKB.out.trans (HB6.out.mono HKB.out.size))
                go_wp2
                go_roundg (gk - 1)
                case measure => omega
                case rel => exact ⟨j + 1, by omega, by go_num, Lib.hid ⟨HN.out, HB7.out⟩⟩
            | false =>
              have HN := Lib.hid (HST.out (hsub.trans hv))
              have HV := Lib.hid (fun W => l1InM_is hv W)
              clear hsub hv hk3
              go_wp2_with fail
              go_cut [48] (fun b wx => b = .bool true ∧ Hid (Below wr.heap.size wr wx))
              case first =>
                go_region_law (first | (go_simp; go_at_call 44; refine (HC.out _).mono ?_; rintro e w5 ⟨rfl, hb5⟩) | (go_simp; go_at_call 26; refine (HV.out _).mono ?_; rintro e w6 ⟨rfl, rfl⟩))
                all_goals
                  have HB6 := Lib.hid (show Below wr.heap.size wr w6 from ⟨hb5.os, hb5.tape, hb5.output, hb5.size, hb5.block⟩)
                  clear hb5 d0 d1 d2 d3 d4
                  go_wp2_with fail
                  go_meet
                  exact ⟨rfl, HB6⟩
              case rest =>
                obtain ⟨rfl, HB6⟩ := hcut
                clear d0 d1 d2 d3 d4
                have HB7 := Lib.hid (HKB.out.trans (HB6.out.mono HKB.out.size))
                go_wp2
                go_ret
                exact ⟨ret_bool HN.out.symm, HB3.out.1.trans (HB7.out.mono HB3.out.1.size)⟩
        · obtain rfl : j = wd.size := by omega
          have HVV := Lib.hid (HOK.out HF.out (show allK (okS (wordOf op) ⟨op, fa, fb, fc, fn⟩) (wordOf op).size = true by rw [← HWD.out]; exact HK.out.1))
          have hrow3 := (HK.out.2.block _ (Array.getElem?_eq_some_iff.1 HB3.out.2.2).1).trans HB3.out.2.2
          have m0 := cell_of_row _ _ 0 _ _ _ hrow3
          have m1 := cell_of_row _ _ 1 _ _ _ hrow3
          have m2 := cell_of_row _ _ 2 _ _ _ hrow3
          simp only [List.getElem?_toArray, List.getElem?_cons_zero, List.getElem?_cons_succ] at m0 m1 m2
          have HBE := Lib.hid (HB3.out.1.trans (HK.out.2.mono HB3.out.1.size))
          obtain ⟨n, rfl, hn1, hn2⟩ := fm_of HO.out
          clear hrow hrow3 d1 d2 d3 HK HWO HRV HSM HOK HBD HNF HFB HF HO HWS HRS HFA
          have hcases : n = 1 ∨ n = 2 ∨ n = 3 ∨ n = 4 ∨ n = 5 ∨ n = 6 ∨ n = 7 ∨ n = 8 ∨ n = 9 ∨ n = 10 ∨ n = 11 ∨ n = 12 ∨ n = 13 ∨ n = 14 ∨ n = 15 ∨ n = 16 ∨ n = 17 ∨ n = 18 ∨ n = 19 ∨ n = 20 ∨ n = 21 ∨ n = 22 := by omega
          clear hn1 hn2 HWD
          rcases hcases with rfl | rfl | rfl | rfl | rfl | rfl | rfl | rfl | rfl | rfl | rfl | rfl | rfl | rfl | rfl | rfl | rfl | rfl | rfl | rfl | rfl | rfl
          · have HN := Lib.hid (show insV (k : Int) ⟨params, slots, ins⟩ ⟨((1 : Nat) : Int), fa, fb, fc, fn⟩ = inR 0 fn 255 from HVV.out.trans rfl)
            clear HVV
            go_wp2_with fail
            refine (l1InM_any fn 0 255 _).mono ?_
            rintro e w5 ⟨rfl, rfl⟩
            go_wp2
            go_ret
            exact ⟨ret_bool HN.out.symm, HBE.out⟩
          · have HN := Lib.hid (show insV (k : Int) ⟨params, slots, ins⟩ ⟨((2 : Nat) : Int), fa, fb, fc, fn⟩ = true from HVV.out.trans rfl)
            clear HVV
            go_wp2
            go_ret
            exact ⟨ret_bool HN.out.symm, HBE.out⟩
          · have HN := Lib.hid (show insV (k : Int) ⟨params, slots, ins⟩ ⟨((3 : Nat) : Int), fa, fb, fc, fn⟩ = true from HVV.out.trans rfl)
            clear HVV
            go_wp2
            go_ret
            exact ⟨ret_bool HN.out.symm, HBE.out⟩
          · have HN := Lib.hid (show insV (k : Int) ⟨params, slots, ins⟩ ⟨((4 : Nat) : Int), fa, fb, fc, fn⟩ = true from HVV.out.trans rfl)
            clear HVV
            go_wp2
            go_ret
            exact ⟨ret_bool HN.out.symm, HBE.out⟩
          · have HN := Lib.hid (show insV (k : Int) ⟨params, slots, ins⟩ ⟨((5 : Nat) : Int), fa, fb, fc, fn⟩ = true from HVV.out.trans rfl)
            clear HVV
            go_wp2
            go_ret
            exact ⟨ret_bool HN.out.symm, HBE.out⟩
          · have HN := Lib.hid (show insV (k : Int) ⟨params, slots, ins⟩ ⟨((6 : Nat) : Int), fa, fb, fc, fn⟩ = true from HVV.out.trans rfl)
            clear HVV
            go_wp2
            go_ret
            exact ⟨ret_bool HN.out.symm, HBE.out⟩
          · have HN := Lib.hid (show insV (k : Int) ⟨params, slots, ins⟩ ⟨((7 : Nat) : Int), fa, fb, fc, fn⟩ = true from HVV.out.trans rfl)
            clear HVV
            go_wp2
            go_ret
            exact ⟨ret_bool HN.out.symm, HBE.out⟩
          · have HN := Lib.hid (show insV (k : Int) ⟨params, slots, ins⟩ ⟨((8 : Nat) : Int), fa, fb, fc, fn⟩ = true from HVV.out.trans rfl)
            clear HVV
            go_wp2
            go_ret
            exact ⟨ret_bool HN.out.symm, HBE.out⟩
          · have HN := Lib.hid (show insV (k : Int) ⟨params, slots, ins⟩ ⟨((9 : Nat) : Int), fa, fb, fc, fn⟩ = true from HVV.out.trans rfl)
            clear HVV
            go_wp2
            go_ret
            exact ⟨ret_bool HN.out.symm, HBE.out⟩
          · have HN := Lib.hid (show insV (k : Int) ⟨params, slots, ins⟩ ⟨((10 : Nat) : Int), fa, fb, fc, fn⟩ = true from HVV.out.trans rfl)
            clear HVV
            go_wp2
            go_ret
            exact ⟨ret_bool HN.out.symm, HBE.out⟩
          · have HN := Lib.hid (show insV (k : Int) ⟨params, slots, ins⟩ ⟨((11 : Nat) : Int), fa, fb, fc, fn⟩ = true from HVV.out.trans rfl)
            clear HVV
            go_wp2
            go_ret
            exact ⟨ret_bool HN.out.symm, HBE.out⟩
          · have HN := Lib.hid (show insV (k : Int) ⟨params, slots, ins⟩ ⟨((12 : Nat) : Int), fa, fb, fc, fn⟩ = true from HVV.out.trans rfl)
            clear HVV
            go_wp2
            go_ret
            exact ⟨ret_bool HN.out.symm, HBE.out⟩
          · have HN := Lib.hid (show insV (k : Int) ⟨params, slots, ins⟩ ⟨((13 : Nat) : Int), fa, fb, fc, fn⟩ = true from HVV.out.trans rfl)
            clear HVV
            go_wp2
            go_ret
            exact ⟨ret_bool HN.out.symm, HBE.out⟩
          · have HN := Lib.hid (show insV (k : Int) ⟨params, slots, ins⟩ ⟨((14 : Nat) : Int), fa, fb, fc, fn⟩ = inR 0 fn ((k : Int) - 1) from HVV.out.trans rfl)
            clear HVV
            go_wp2_with fail
            refine (l1InM_any fn 0 ((k : Int) - 1) _).mono ?_
            rintro e w5 ⟨rfl, rfl⟩
            go_wp2
            go_ret
            exact ⟨ret_bool HN.out.symm, HBE.out⟩
          · have HN := Lib.hid (show insV (k : Int) ⟨params, slots, ins⟩ ⟨((15 : Nat) : Int), fa, fb, fc, fn⟩ = inR 0 fn (slots - 1) from HVV.out.trans rfl)
            clear HVV
            go_wp2_with fail
            refine (l1InM_any fn 0 (slots - 1) _).mono ?_
            rintro e w5 ⟨rfl, rfl⟩
            go_wp2
            go_ret
            exact ⟨ret_bool HN.out.symm, HBE.out⟩
          · have HN := Lib.hid (show insV (k : Int) ⟨params, slots, ins⟩ ⟨((16 : Nat) : Int), fa, fb, fc, fn⟩ = inR 0 fn (slots - 1) from HVV.out.trans rfl)
            clear HVV
            go_wp2_with fail
            refine (l1InM_any fn 0 (slots - 1) _).mono ?_
            rintro e w5 ⟨rfl, rfl⟩
            go_wp2
            go_ret
            exact ⟨ret_bool HN.out.symm, HBE.out⟩
          · have HN := Lib.hid (show insV (k : Int) ⟨params, slots, ins⟩ ⟨((17 : Nat) : Int), fa, fb, fc, fn⟩ = inR 0 fn 2 from HVV.out.trans rfl)
            clear HVV
            go_wp2_with fail
            refine (l1InM_any fn 0 2 _).mono ?_
            rintro e w5 ⟨rfl, rfl⟩
            go_wp2
            go_ret
            exact ⟨ret_bool HN.out.symm, HBE.out⟩
          · have HN := Lib.hid (show insV (k : Int) ⟨params, slots, ins⟩ ⟨((18 : Nat) : Int), fa, fb, fc, fn⟩ = inR 0 fn (params - 1) from HVV.out.trans rfl)
            clear HVV
            go_wp2_with fail
            refine (l1InM_any fn 0 (params - 1) _).mono ?_
            rintro e w5 ⟨rfl, rfl⟩
            go_wp2
            go_ret
            exact ⟨ret_bool HN.out.symm, HBE.out⟩
          · have HN := Lib.hid (show insV (k : Int) ⟨params, slots, ins⟩ ⟨((19 : Nat) : Int), fa, fb, fc, fn⟩ = true from HVV.out.trans rfl)
            clear HVV
            go_wp2
            go_ret
            exact ⟨ret_bool HN.out.symm, HBE.out⟩
          · have HN := Lib.hid (show insV (k : Int) ⟨params, slots, ins⟩ ⟨((20 : Nat) : Int), fa, fb, fc, fn⟩ = inR 0 fn ((ins.length : Int) - 1) from HVV.out.trans rfl)
            clear HVV
            go_wp2_with fail
            refine (l1InM_any fn 0 ((ins.length : Int) - 1) _).mono ?_
            rintro e w5 ⟨rfl, rfl⟩
            go_wp2
            go_ret
            exact ⟨ret_bool HN.out.symm, HBE.out⟩
          · have HN := Lib.hid (show insV (k : Int) ⟨params, slots, ins⟩ ⟨((21 : Nat) : Int), fa, fb, fc, fn⟩ = inR 0 fn ((ins.length : Int) - 1) from HVV.out.trans rfl)
            clear HVV
            go_wp2_with fail
            refine (l1InM_any fn 0 ((ins.length : Int) - 1) _).mono ?_
            rintro e w5 ⟨rfl, rfl⟩
            go_wp2
            go_ret
            exact ⟨ret_bool HN.out.symm, HBE.out⟩
          · have HN := Lib.hid (show insV (k : Int) ⟨params, slots, ins⟩ ⟨((22 : Nat) : Int), fa, fb, fc, fn⟩ = true from HVV.out.trans rfl)
            clear HVV
            go_wp2
            go_ret
            exact ⟨ret_bool HN.out.symm, HBE.out⟩

end Go.Proofs.YtdkafajmhgfkoaaDoor
