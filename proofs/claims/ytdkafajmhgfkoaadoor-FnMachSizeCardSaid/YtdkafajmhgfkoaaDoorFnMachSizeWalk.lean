
/-
  The walk of the law FnMachSize: instructions are counted function by function.
-/
import Derived.Test.YtdkafajmhgfkoaaDoorMd7
import Derived.Test.YtdkafajmhgfkoaaDoorMs
namespace Go.Proofs.YtdkafajmhgfkoaaDoor
open Go.RowKit

theorem machS_neg {fs : List MfnD} (h : machS fs < 0) : machS fs = -1 := by
  unfold machS at h ⊢
  split at h <;> simp_all <;> omega
theorem machS_nat {fs : List MfnD} (h : 0 ≤ machS fs) : machS fs = (sumOf insN fs : Nat) ∧ sumOf insN fs ≤ 2000 := by
  unfold machS at h ⊢
  split at h
  · rename_i hv
    rw [if_pos hv]
    exact ⟨rfl, insN_sum hv⟩
  · omega

set_option maxRecDepth 100000 in
set_option maxHeartbeats 4000000 in
theorem fnMachSize_walk (a : Option Addr) (len cap : Nat) (zs : List Int) (w : World) (hF : FormsAt w) (hrow : IsRow .u8 w a len cap zs) :
    Calls Tryd.prog 4 #[.slice a len cap] w fun e w' => e = .returned (.bool true) ∧ Below w.heap.size w w' := by
  have hin := bytes_of_row hrow
  have hcap := cap_of_row hrow
  clear hrow
  by_cases hbig : 1048576 < len
  · go_enter Tryd.func4, Tryd.ntmps4
    go_wp2
    go_ret
    exact ⟨rfl, Below.refl _ _⟩
  · go_enter Tryd.func4, Tryd.ntmps4
    go_wp2_with fail
    refine (drawMachSize_any w a len cap _ hin hcap).mono ?_
    rintro e w1 ⟨ma, mc, fs, rfl, ⟨hn1, hn3⟩, ⟨hsz, -⟩, hM, hb1⟩
    clear hin hcap
    have hba : Below w1.heap.size w1 (w1.alloc (.cells #[.slice ma fs.length mc] 25)) := (Below.refl _ _).alloc (Nat.le_refl _) _
    have H1 := Lib.hid (And.intro (hM.later mfnR_lasts hba) (And.intro (hb1.trans (hba.mono hb1.size)) (And.intro (heap_alloc_new w1 (.cells #[.slice ma fs.length mc] 25)) (show szS szMfnD fs ≤ 1048576 by omega))))
    have HF := Lib.hid hF
    have k1 := cell_of_row _ _ 0 _ _ _ H1.out.2.2.1
    simp only [List.getElem?_toArray, List.getElem?_cons_zero] at k1
    clear hM hb1 hba hF hsz
    go_wp2_with fail
    generalize w1.alloc (.cells #[.slice ma fs.length mc] 25) = W2 at H1 k1 ⊢
    obtain ⟨bm, hbm⟩ : ∃ b, b = w1.heap.size := ⟨_, rfl⟩
    rw [← hbm] at H1 k1 ⊢
    clear hbm
    refine (implMachSize_any fs ma mc H1.out.2.2.2 W2 (HF.out.later H1.out.2.1) H1.out.1).mono ?_
    rintro e w3 ⟨rfl, hb3⟩
    have k3 := cell_later hb3 k1
    have H3 := Lib.hid (And.intro (H1.out.1.later mfnR_lasts hb3) (H1.out.2.1.trans (hb3.mono H1.out.2.1.size)))
    clear hb3 k1
    go_wp2_with fail
    refine (specMachSize_any fs ma mc H1.out.2.2.2 w3 H3.out.1).mono ?_
    rintro e w4 ⟨rfl, hb4⟩
    have k4 := cell_later hb4 k3
    have H4 := Lib.hid (And.intro (H3.out.1.later mfnR_lasts hb4) (H3.out.2.trans (hb4.mono H3.out.2.size)))
    clear hb4 k3
    have hne : (machS fs != machS fs) = false := by simp
    have heq : (machS fs == machS fs) = true := by simp
    by_cases hv : machS fs < 0
    · have hv1 : (machS fs == -1) = true := by rw [machS_neg hv]; rfl
      generalize hvv : machS fs = v at hne heq hv hv1 ⊢
      have HVV := Lib.hid hvv
      clear hvv
      go_wp2_with fail
      refine (specMachSize_any fs ma mc H1.out.2.2.2 w4 H4.out.1).mono ?_
      rintro e w5 ⟨rfl, hb5⟩
      have HE := Lib.hid (H4.out.2.trans (hb5.mono H4.out.2.size))
      rw [HVV.out]
      clear hb5
      go_wp2
      go_ret
      exact ⟨rfl, HE.out⟩
    · obtain ⟨hv1, hv2⟩ := machS_nat (by omega : 0 ≤ machS fs)
      rw [hv1] at hne ⊢
      have hv3 : ¬ ((sumOf insN fs : Nat) : Int) < 0 := by omega
      have HV := Lib.hid hv2
      clear hv heq hv1 hv2
      go_wp2_with fail
      clear hne k4
      go_loopg [5, 34] fs.length (fun F n i wr => ∃ k : Nat, k + F = fs.length ∧ i = .int .i64 k ∧ n = .int .i64 (sumOf insN (fs.take k) : Nat) ∧ Hid (Below w4.heap.size w4 wr))
      case atStart => exact ⟨0, by omega, rfl, rfl, Lib.hid (Below.refl _ _)⟩
      case round =>
        obtain ⟨k, hk, rfl, rfl, HK⟩ := hrel
        by_cases hlt : k < fs.length
        · obtain ⟨b1, o1, params, slots, ins, ia, ic, rfl, hx, c0, c1, c2, _⟩ := mfn_place (H4.out.1.later mfnR_lasts HK.out) hlt
          have hts : sumOf insN (fs.take (k + 1)) = sumOf insN (fs.take k) + ins.length := by rw [take_succ_of hx, sumOf_snoc]; rfl
          have htl := sumOf_take insN fs (k + 1)
          have hsum : sumOf insN (fs.take k) + ins.length ≤ 2000 := by have := HV.out; omega
          have hki : (k : Int) < (fs.length : Int) := by omega
          have hba : Below wr.heap.size wr (wr.alloc (.cells #[.int .i64 params, .int .i64 slots, .slice ia ins.length ic] 32)) := (Below.refl _ _).alloc (Nat.le_refl _) _
          have m2 := cell_of_row _ _ 2 _ _ _ (heap_alloc_new wr (.cells #[.int .i64 params, .int .i64 slots, .slice ia ins.length ic] 32))
          simp only [List.getElem?_toArray, List.getElem?_cons_zero, List.getElem?_cons_succ] at m2
          have HT := Lib.hid (And.intro hts (HK.out.trans (hba.mono HK.out.size)))
          clear hts htl hx hba
          generalize sumOf insN (fs.take k) = n0 at HT hsum ⊢
          go_wp2
          go_roundg (gk - 1)
          case measure => omega
          case rel => exact ⟨k + 1, by omega, by go_num, int_of (by have := HT.out.1; omega), Lib.hid HT.out.2⟩
        · obtain rfl : k = fs.length := by omega
          have HE := Lib.hid (H4.out.2.trans (HK.out.mono H4.out.2.size))
          rw [show fs.take fs.length = fs from List.take_length]
          have heq : (((sumOf insN fs : Nat) : Int) == ((sumOf insN fs : Nat) : Int)) = true := by simp
          have hle : ((sumOf insN fs : Nat) : Int) ≤ 2000 := by have := HV.out; omega
          generalize ((sumOf insN fs : Nat) : Int) = n0 at heq hle ⊢
          go_wp2
          go_ret
          exact ⟨rfl, HE.out⟩

end Go.Proofs.YtdkafajmhgfkoaaDoor
