
/-
  The walk of the law FnExactIsSingle.
-/
import Derived.Test.YtkhnhdgbbjppeaaSingle9
import Derived.Test.YtkhnhdgbbjppeaaUnitTo
namespace Go.Proofs.Ytkhnhdgbbjppeaa
open Go.RowKit

set_option maxRecDepth 100000 in
set_option maxHeartbeats 2000000 in
theorem fnExactIsSingle_walk (cs : List Value) (x : UnitD) (w : World) (hR : UnitR w cs x) :
    Calls Try.prog 8 #[.agg cs.toArray] w fun e w' => e = .returned (.bool true) ∧ Below w.heap.size w w' := by
  obtain ⟨us⟩ := x
  obtain ⟨ba, bc, rfl, hm, hr⟩ := hR
  have hR : UnitR w [.slice ba us.length bc] ⟨us⟩ := ⟨ba, bc, rfl, hm, hr⟩
  clear hm hr
  have hb0 : Below w.heap.size w (w.alloc (.cells #[.slice ba us.length bc] 24)) := (Below.refl _ _).alloc (Nat.le_refl _) _
  have HC := Lib.hid (heap_alloc_new w (.cells #[.slice ba us.length bc] 24))
  have hs0 : (w.alloc (.cells #[.slice ba us.length bc] 24)).heap.size = w.heap.size + 1 := by simp
  go_enter Try.func8, Try.ntmps8
  go_wp2_with fail
  generalize w.alloc (.cells #[.slice ba us.length bc] 24) = W0 at hb0 HC hs0 ⊢
  refine (szUnit_any _ ⟨us⟩ 1048576 W0 (unitR_lasts _ _ _ _ hb0 hR) (by omega) (by omega)).mono ?_
  rintro e w1 ⟨hsz, hb1⟩
  rcases hsz with ⟨hsz, rfl⟩ | ⟨hsz, rfl⟩
  · go_wp2
    go_ret
    exact ⟨rfl, hb0.trans (hb1.mono (by omega))⟩
  · have hneg : decide (1048576 - (szUnitD ⟨us⟩ : Int) < 0) = false := decide_eq_false (by omega)
    have hs : szUnitD ⟨us⟩ ≤ 1048576 := by omega
    have HS := Lib.hid hs
    clear hs hsz
    generalize (1048576 - (szUnitD ⟨us⟩ : Int)) = left at hneg ⊢
    have hb01 : Below w.heap.size w w1 := hb0.trans (hb1.mono (by omega))
    have hblk := (hb1.block w.heap.size (by omega)).trans HC.out
    have hk0 : w1.cell? ⟨w.heap.size, 0, none⟩ = some (.slice ba us.length bc) := cell_of_row _ _ 0 _ _ _ hblk
    clear hblk HC hb0 hb1 hs0
    have hx1 : w.heap.size < w1.heap.size := World.block_lt_of_cell? _ _ hk0
    go_wp2_with fail
    refine (toUnit_any _ ⟨us⟩ w1 (unitR_lasts _ _ _ _ hb01 hR) HS.out).mono ?_
    rintro e w2 ⟨cs2, rfl, hO2, hb2⟩
    obtain ⟨ba2, bc2, rfl, _, hU2⟩ := unitO_rd _ _ _ _ _ hO2
    have hU2 : SliceRd 3 CodeR w2 ba2 us.length us := hU2
    clear hO2
    have hb02 : Below w.heap.size w w2 := hb01.trans (hb2.mono hb01.size)
    go_wp2_with fail
    refine (specIsSingle_any us ba2 bc2 HS.out w2 hU2).mono ?_
    rintro e w3 ⟨rfl, hb3⟩
    have hb23 : Below w1.heap.size w1 w3 := hb2.trans (hb3.mono hb2.size)
    have hk0' := cell_later hb23 hk0
    have hb03 : Below w.heap.size w w3 := hb02.trans (hb3.mono hb02.size)
    clear hk0 hU2 hb2 hb3 hb23 hb02 hb01
    go_wp2_with fail
    refine (toUnit_any _ ⟨us⟩ w3 (unitR_lasts _ _ _ _ hb03 hR) HS.out).mono ?_
    rintro e w4 ⟨cs4, rfl, hO4, hb4⟩
    have hR4 := unitO_rd _ _ _ _ _ hO4
    clear hO4
    obtain ⟨ba4, bc4, rfl, hm4, hU4⟩ := hR4
    have hU4 : SliceRd 3 CodeR w4 ba4 us.length us := hU4
    have hR4 : UnitR w4 [.slice ba4 us.length bc4] ⟨us⟩ := ⟨ba4, bc4, rfl, hm4, hU4⟩
    clear hm4
    have hb4a : Below w4.heap.size w4 (w4.alloc (.cells #[.slice ba4 us.length bc4] 29)) := (Below.refl _ _).alloc (Nat.le_refl _) _
    have HC4 := Lib.hid (heap_alloc_new w4 (.cells #[.slice ba4 us.length bc4] 29))
    have hs4 : (w4.alloc (.cells #[.slice ba4 us.length bc4] 29)).heap.size = w4.heap.size + 1 := by simp
    go_wp2_with fail
    generalize w4.alloc (.cells #[.slice ba4 us.length bc4] 29) = W5 at hb4a HC4 hs4 ⊢
    refine (implIsSingle_any us ba4 bc4 HS.out W5 (hU4.later codeR_lasts hb4a)).mono ?_
    rintro e w5 ⟨rfl, hb5⟩
    generalize singleUB us = v
    have hne : (v != v) = false := by simp
    have hb45 : Below w4.heap.size w4 w5 := hb4a.trans (hb5.mono (by omega))
    have hb35 : Below w3.heap.size w3 w5 := hb4.trans (hb45.mono hb4.size)
    have hb05 : Below w.heap.size w w5 := hb03.trans (hb35.mono hb03.size)
    have hblk4 := (hb5.block w4.heap.size (by omega)).trans HC4.out
    have hx0 : w5.cell? ⟨w4.heap.size, 0, none⟩ = some (.slice ba4 us.length bc4) := cell_of_row _ _ 0 _ _ _ hblk4
    have hk0 := cell_later hb35 hk0'
    have HR4 := Lib.hid (unitR_lasts _ _ _ _ hb45 hR4)
    have HT := Lib.hid (fun q : Nat => toUnit_any _ ⟨us⟩ (w5.drewN q) (unitR_lasts _ _ _ _ (below_drewN hb05 q) hR) HS.out)
    clear hblk4 HC4 hs4 hb4a hb5 hU4 hb4 hk0' hb45 hb35 hb03 hR4
    go_wp2_with fail
    go_region_law (first | (go_simp; go_at_call 17; refine (HT.out _).mono ?_; rintro e w6 ⟨cs6, rfl, hO6, hb6⟩; (have hR6 := unitO_rd _ _ _ _ _ hO6); (obtain ⟨ba6, bc6, rfl, hm6, hU6⟩ := hR6); (have hR6 : UnitR w6 [.slice ba6 us.length bc6] ⟨us⟩ := ⟨ba6, bc6, rfl, hm6, hU6⟩); clear hm6 hU6; (have hb56 : Below w5.heap.size w5 w6 := ⟨hb6.os, hb6.tape, hb6.output, hb6.size, hb6.block⟩); (have hR46 := unitR_lasts _ _ _ _ hb56 HR4.out); (have hx0' := cell_later hb56 hx0); (have hk0' := cell_later hb56 hk0)) | (go_simp; go_at_call 19; refine (eqUnit_any _ _ ⟨us⟩ w6 hR46 hR6 HS.out).mono ?_; rintro e w7 ⟨rfl, hb7⟩))
    all_goals
      have hb07 : Below w.heap.size w w7 := hb05.trans ((hb56.trans (hb7.mono hb56.size)).mono hb05.size)
      clear hb56 hb7 hb6 hO6 hR6 hR46 hx0' hk0' hx0 hk0
      go_wp2
      go_ret
      exact ⟨rfl, hb07⟩

end Go.Proofs.Ytkhnhdgbbjppeaa
