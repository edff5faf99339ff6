/-
  The walks of the laws FnExactColoursUsed and FnExactSlotsUsed: whatever the list, they return true and nothing that was there has changed.
-/
import Derived.Test.YthadaohnanpmiaaKinds
import Derived.Test.YthadaohnanpmiaaLaw
namespace Go.Proofs.Ythadaohnanpmiaa
open Go.RowKit

set_option maxHeartbeats 400000 in
theorem fnExactColoursUsed_walk (a : Option Addr) (len cap : Nat) (zs : List Int) (w : World) (hrow : IsRow .i64 w a len cap zs) :
    Calls Try.prog 3 #[.slice a len cap] w fun e w' => e = .returned (.bool true) ∧ Below w.heap.size w w' := by
  have hin := ints_of_row hrow
  have hwf := (rowAt_of_row hrow).2.2
  generalize zs.take len = xs at hin hwf
  clear hrow
  have HW := Lib.hid hwf
  clear hwf
  by_cases hbig : 1048576 < len
  · go_enter Try.func3, Try.ntmps3
    go_wp2
    go_ret
    exact ⟨rfl, Below.refl _ _⟩
  · go_enter Try.func3, Try.ntmps3
    go_wp2_with fail
    refine (toIntS_any _ _ _ _ _ hin (by omega)).mono ?_
    rintro e w1 ⟨a1, c1, rfl, hown1, hb1⟩
    go_wp2_with fail
    refine (specColours_any _ _ _ _ _ (ints_of_own hown1).toIntsRd (by omega)).mono ?_
    rintro e w2 ⟨rfl, hb2⟩
    have hb02 : Below w.heap.size w w2 := hb1.trans (hb2.mono hb1.size)
    clear hown1 hb1 hb2
    go_wp2_with fail
    refine (toIntS_any _ _ _ _ _ (hin.later hb02) (by omega)).mono ?_
    rintro e w3 ⟨a3, c3, rfl, hown3, hb3⟩
    have hi3 := (ints_of_own hown3).toIntsRd
    have hb03 : Below w.heap.size w w3 := hb02.trans (hb3.mono hb02.size)
    clear hb02 hb3 hown3
    go_wp2_with fail
    refine (implColours_any _ _ _ _ _ hi3 HW.out (by omega)).mono ?_
    rintro e w4 ⟨rfl, hb4⟩
    have hi4 := hi3.later hb4
    have hb04 : Below w.heap.size w w4 := hb03.trans (hb4.mono hb03.size)
    have hne : (((kinds xs false).length : Int) != ((kinds xs false).length : Int)) = false := by simp
    clear hb4 hi3 hb03
    go_wp2_with fail
    refine (toIntS_any _ _ _ _ _ (hin.later hb04) (by omega)).mono ?_
    rintro e w5 ⟨a5, c5, rfl, hown5, hb5⟩
    have hi5 := (ints_of_own hown5).toIntsRd
    have hi4' := hi4.later hb5
    have hb05 : Below w.heap.size w w5 := hb04.trans (hb5.mono hb04.size)
    clear hb04 hb5 hown5 hi4
    go_wp2_with fail
    refine (eqIntS_true _ _ _ _ _ _ _ hi4' hi5 (by omega)).mono ?_
    rintro e w6 ⟨rfl, hb6⟩
    have hb06 : Below w.heap.size w w6 := hb05.trans (hb6.mono hb05.size)
    go_wp2
    go_ret
    exact ⟨rfl, hb06⟩

set_option maxHeartbeats 400000 in
theorem fnExactSlotsUsed_walk (a : Option Addr) (len cap : Nat) (zs : List Int) (w : World) (hrow : IsRow .i64 w a len cap zs) :
    Calls Try.prog 4 #[.slice a len cap] w fun e w' => e = .returned (.bool true) ∧ Below w.heap.size w w' := by
  have hin := ints_of_row hrow
  have hwf := (rowAt_of_row hrow).2.2
  generalize zs.take len = xs at hin hwf
  clear hrow
  have HW := Lib.hid hwf
  clear hwf
  by_cases hbig : 1048576 < len
  · go_enter Try.func4, Try.ntmps4
    go_wp2
    go_ret
    exact ⟨rfl, Below.refl _ _⟩
  · go_enter Try.func4, Try.ntmps4
    go_wp2_with fail
    refine (toIntS_any _ _ _ _ _ hin (by omega)).mono ?_
    rintro e w1 ⟨a1, c1, rfl, hown1, hb1⟩
    go_wp2_with fail
    refine (specSlots_any _ _ _ _ _ (ints_of_own hown1).toIntsRd (by omega)).mono ?_
    rintro e w2 ⟨rfl, hb2⟩
    have hb02 : Below w.heap.size w w2 := hb1.trans (hb2.mono hb1.size)
    clear hown1 hb1 hb2
    go_wp2_with fail
    refine (toIntS_any _ _ _ _ _ (hin.later hb02) (by omega)).mono ?_
    rintro e w3 ⟨a3, c3, rfl, hown3, hb3⟩
    have hi3 := (ints_of_own hown3).toIntsRd
    have hb03 : Below w.heap.size w w3 := hb02.trans (hb3.mono hb02.size)
    clear hb02 hb3 hown3
    go_wp2_with fail
    refine (implSlots_any _ _ _ _ _ hi3 HW.out (by omega)).mono ?_
    rintro e w4 ⟨rfl, hb4⟩
    have hi4 := hi3.later hb4
    have hb04 : Below w.heap.size w w4 := hb03.trans (hb4.mono hb03.size)
    have hne : (((kinds xs true).length : Int) != ((kinds xs true).length : Int)) = false := by simp
    clear hb4 hi3 hb03
    go_wp2_with fail
    refine (toIntS_any _ _ _ _ _ (hin.later hb04) (by omega)).mono ?_
    rintro e w5 ⟨a5, c5, rfl, hown5, hb5⟩
    have hi5 := (ints_of_own hown5).toIntsRd
    have hi4' := hi4.later hb5
    have hb05 : Below w.heap.size w w5 := hb04.trans (hb5.mono hb04.size)
    clear hb04 hb5 hown5 hi4
    go_wp2_with fail
    refine (eqIntS_true _ _ _ _ _ _ _ hi4' hi5 (by omega)).mono ?_
    rintro e w6 ⟨rfl, hb6⟩
    have hb06 : Below w.heap.size w w6 := hb05.trans (hb6.mono hb05.size)
    go_wp2
    go_ret
    exact ⟨rfl, hb06⟩

end Go.Proofs.Ythadaohnanpmiaa
