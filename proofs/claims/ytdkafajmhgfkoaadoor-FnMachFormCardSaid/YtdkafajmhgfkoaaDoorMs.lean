
/-
  MachSize, both.
-/
import Derived.Test.YtdkafajmhgfkoaaDoorMv8
namespace Go.Proofs.YtdkafajmhgfkoaaDoor
open Go.RowKit

def machS (fs : List MfnD) : Int := if machV fs then (sumOf insN fs : Nat) else -1
theorem insN_sum {fs : List MfnD} (h : machV fs = true) : sumOf insN fs ≤ 2000 := by
  simp only [machV, Bool.and_eq_true, decide_eq_true_eq] at h
  exact h.2.2

set_option maxRecDepth 100000 in
set_option maxHeartbeats 4000000 in
theorem specMachSize_any (fs : List MfnD) (a : Option Addr) (c : Nat) (hsz : szS szMfnD fs ≤ 1048576) (w : World) (hM : SliceRd 3 MfnR w a fs.length fs) :
    Calls Tryd.prog 12 #[.agg #[.slice a fs.length c]] w fun e w' => e = .returned (.int .i64 (machS fs)) ∧ Below w.heap.size w w' := by
  have hb0 : Below w.heap.size w (w.alloc (.cells #[.slice a fs.length c] 25)) := (Below.refl _ _).alloc (Nat.le_refl _) _
  have hc0 : (w.alloc (.cells #[.slice a fs.length c] 25)).cell? ⟨w.heap.size, 0, none⟩ = some (.slice a fs.length c) := cell_of_row _ _ 0 _ _ _ (heap_alloc_new w _)
  have hn := szS_len szMfnD fs
  have hn2 : fs.length ≤ 1048576 := by omega
  have HC := Lib.hid (And.intro (hM.later mfnR_lasts hb0) (And.intro hsz (And.intro hb0 (heap_alloc_new w (.cells #[.slice a fs.length c] 25)))))
  clear hM hsz hn
  go_enter Tryd.func12, Tryd.ntmps12
  go_wp2_with fail
  generalize w.alloc (.cells #[.slice a fs.length c] 25) = W0 at HC hc0 hb0 ⊢
  refine (specMachValid_any fs a c HC.out.2.1 W0 HC.out.1).mono ?_
  rintro e w1 ⟨rfl, hb1⟩
  have HB := Lib.hid (And.intro (HC.out.2.2.1.trans (hb1.mono HC.out.2.2.1.size)) (And.intro (HC.out.1.later mfnR_lasts hb1) ((hb1.block _ (Array.getElem?_eq_some_iff.1 HC.out.2.2.2).1).trans HC.out.2.2.2)))
  clear hb0 hb1
  cases hv : machV fs with
  | false =>
    have HN := Lib.hid (show machS fs = -1 by rw [machS, hv]; rfl)
    clear hv hc0
    go_wp2
    go_ret
    exact ⟨ret_int HN.out.symm, HB.out.1⟩
  | true =>
    have HN := Lib.hid (show machS fs = (sumOf insN fs : Nat) by rw [machS, hv]; rfl)
    have hle := insN_sum hv
    clear hv hc0
    go_wp2_with fail
    go_loopg [3, 4] fs.length (fun F n i wr => ∃ k : Nat, k + F = fs.length ∧ i = .int .i64 k ∧ n = .int .i64 (sumOf insN (fs.take k) : Nat) ∧ wr = w1)
    case atStart => exact ⟨0, by omega, rfl, rfl, rfl⟩
    case round =>
      obtain ⟨k, hk, rfl, rfl, rfl⟩ := hrel
      have u0 := cell_of_row _ _ 0 _ _ _ HB.out.2.2
      simp only [List.getElem?_toArray, List.getElem?_cons_zero] at u0
      by_cases hlt : k < fs.length
      · obtain ⟨b1, o1, params, slots, ins, ia, ic, rfl, hx, c0, c1, c2, _⟩ := mfn_place HB.out.2.1 hlt
        have hts : sumOf insN (fs.take (k + 1)) = sumOf insN (fs.take k) + ins.length := by rw [take_succ_of hx, sumOf_snoc]; rfl
        have htl := sumOf_take insN fs (k + 1)
        have hsum : sumOf insN (fs.take k) + ins.length ≤ 2000 := by omega
        have hki : (k : Int) < (fs.length : Int) := by omega
        have HT := Lib.hid hts
        clear hts htl hx hle
        generalize sumOf insN (fs.take k) = n0 at HT hsum ⊢
        go_wp2
        go_roundg (gk - 1)
        case measure => omega
        case rel => exact ⟨k + 1, by omega, by go_num, int_of (by have := HT.out; omega), rfl⟩
      · obtain rfl : k = fs.length := by omega
        have HA := Lib.hid (show machS fs = (sumOf insN (fs.take fs.length) : Nat) by rw [HN.out, List.take_length])
        have hle2 : sumOf insN (fs.take fs.length) ≤ 2000 := by rw [List.take_length]; exact hle
        generalize sumOf insN (fs.take fs.length) = n0 at HA hle2 ⊢
        clear hle
        go_wp2
        go_ret
        exact ⟨ret_int HA.out.symm, HB.out.1⟩

set_option maxRecDepth 100000 in
set_option maxHeartbeats 4000000 in
theorem implMachSize_any (fs : List MfnD) (a : Option Addr) (c : Nat) (hsz : szS szMfnD fs ≤ 1048576) (w : World) (hF : FormsAt w) (hM : SliceRd 3 MfnR w a fs.length fs) :
    Calls Tryd.prog 11 #[.agg #[.slice a fs.length c]] w fun e w' => e = .returned (.int .i64 (machS fs)) ∧ Below w.heap.size w w' := by
  have hb0 : Below w.heap.size w (w.alloc (.cells #[.slice a fs.length c] 25)) := (Below.refl _ _).alloc (Nat.le_refl _) _
  have hc0 : (w.alloc (.cells #[.slice a fs.length c] 25)).cell? ⟨w.heap.size, 0, none⟩ = some (.slice a fs.length c) := cell_of_row _ _ 0 _ _ _ (heap_alloc_new w _)
  have hn := szS_len szMfnD fs
  have hn2 : fs.length ≤ 1048576 := by omega
  have HC := Lib.hid (And.intro (hM.later mfnR_lasts hb0) (And.intro hsz (And.intro hb0 (And.intro (heap_alloc_new w (.cells #[.slice a fs.length c] 25)) (hF.later hb0)))))
  clear hM hsz hn hF
  go_enter Tryd.func11, Tryd.ntmps11
  go_wp2_with fail
  generalize w.alloc (.cells #[.slice a fs.length c] 25) = W0 at HC hc0 hb0 ⊢
  refine (implMachValid_any fs a c HC.out.2.1 W0 HC.out.2.2.2.2 HC.out.1).mono ?_
  rintro e w1 ⟨rfl, hb1⟩
  have HB := Lib.hid (And.intro (HC.out.2.2.1.trans (hb1.mono HC.out.2.2.1.size)) (And.intro (HC.out.1.later mfnR_lasts hb1) ((hb1.block _ (Array.getElem?_eq_some_iff.1 HC.out.2.2.2.1).1).trans HC.out.2.2.2.1)))
  clear hb0 hb1
  cases hv : machV fs with
  | false =>
    have HN := Lib.hid (show machS fs = -1 by rw [machS, hv]; rfl)
    clear hv hc0
    go_wp2
    go_ret
    exact ⟨ret_int HN.out.symm, HB.out.1⟩
  | true =>
    have HN := Lib.hid (show machS fs = (sumOf insN fs : Nat) by rw [machS, hv]; rfl)
    have hle := insN_sum hv
    have u0 := cell_of_row _ _ 0 _ _ _ HB.out.2.2
    simp only [List.getElem?_toArray, List.getElem?_cons_zero] at u0
    clear hv hc0
    go_wp2_with fail
    clear u0
    go_loopg [3, 12] fs.length (fun F n i wr => ∃ k : Nat, k + F = fs.length ∧ i = .int .i64 k ∧ n = .int .i64 (sumOf insN (fs.take k) : Nat) ∧ Hid (Below w1.heap.size w1 wr))
    case atStart => exact ⟨0, by omega, rfl, rfl, Lib.hid (Below.refl _ _)⟩
    case round =>
      obtain ⟨k, hk, rfl, rfl, HK⟩ := hrel
      by_cases hlt : k < fs.length
      · obtain ⟨b1, o1, params, slots, ins, ia, ic, rfl, hx, c0, c1, c2, _⟩ := mfn_place (HB.out.2.1.later mfnR_lasts HK.out) hlt
        have hts : sumOf insN (fs.take (k + 1)) = sumOf insN (fs.take k) + ins.length := by rw [take_succ_of hx, sumOf_snoc]; rfl
        have htl := sumOf_take insN fs (k + 1)
        have hsum : sumOf insN (fs.take k) + ins.length ≤ 2000 := by omega
        have hki : (k : Int) < (fs.length : Int) := by omega
        have hba : Below wr.heap.size wr (wr.alloc (.cells #[.int .i64 params, .int .i64 slots, .slice ia ins.length ic] 32)) := (Below.refl _ _).alloc (Nat.le_refl _) _
        have m2 := cell_of_row _ _ 2 _ _ _ (heap_alloc_new wr (.cells #[.int .i64 params, .int .i64 slots, .slice ia ins.length ic] 32))
        simp only [List.getElem?_toArray, List.getElem?_cons_zero, List.getElem?_cons_succ] at m2
        have HT := Lib.hid (And.intro hts (HK.out.trans (hba.mono HK.out.size)))
        clear hts htl hx hle hba
        generalize sumOf insN (fs.take k) = n0 at HT hsum ⊢
        go_wp2
        go_roundg (gk - 1)
        case measure => omega
        case rel => exact ⟨k + 1, by omega, by go_num, int_of (by have := HT.out.1; omega), Lib.hid HT.out.2⟩
      · obtain rfl : k = fs.length := by omega
        have HA := Lib.hid (show machS fs = (sumOf insN (fs.take fs.length) : Nat) by rw [HN.out, List.take_length])
        have hle2 : sumOf insN (fs.take fs.length) ≤ 2000 := by rw [List.take_length]; exact hle
        have HE := Lib.hid (HB.out.1.trans (HK.out.mono HB.out.1.size))
        generalize sumOf insN (fs.take fs.length) = n0 at HA hle2 ⊢
        clear hle
        go_wp2
        go_ret
        exact ⟨ret_int HA.out.symm, HE.out⟩

end Go.Proofs.YtdkafajmhgfkoaaDoor
