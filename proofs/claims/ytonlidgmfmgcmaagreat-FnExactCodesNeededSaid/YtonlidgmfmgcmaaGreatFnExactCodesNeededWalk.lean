
/-
  The walk of the law FnExactCodesNeeded.
-/
import Derived.Test.YtonlidgmfmgcmaaGreatCodesNeeded
import Derived.Test.YtonlidgmfmgcmaaGreatUnitTo
import Derived.Test.YtonlidgmfmgcmaaGreatUnitMarkU
import Derived.Test.YtonlidgmfmgcmaaGreatRdInts
import Derived.Deep.DeepCutAuto
namespace Go.Proofs.YtonlidgmfmgcmaaGreat
open Go.RowKit

set_option maxRecDepth 100000 in
set_option maxHeartbeats 4000000 in
theorem fnExactCodesNeeded_walk (cs : List Value) (x : UnitD) (w : World) (hR : UnitR w cs x) :
    Calls Tryz.prog 3 #[.agg cs.toArray] w fun e w' => e = .returned (.bool true) ∧ Below w.heap.size w w' := by
  obtain ⟨us⟩ := x
  obtain ⟨ba, bc, rfl, hm, hr⟩ := hR
  have hR : UnitR w [.slice ba us.length bc] ⟨us⟩ := ⟨ba, bc, rfl, hm, hr⟩
  clear hm hr
  have hb0 : Below w.heap.size w (w.alloc (.cells #[.slice ba us.length bc] 24)) := (Below.refl _ _).alloc (Nat.le_refl _) _
  have HC := Lib.hid (heap_alloc_new w (.cells #[.slice ba us.length bc] 24))
  have hs0 : (w.alloc (.cells #[.slice ba us.length bc] 24)).heap.size = w.heap.size + 1 := by simp
  go_enter Tryz.func3, Tryz.ntmps3
  go_wp2_with fail
  generalize w.alloc (.cells #[.slice ba us.length bc] 24) = W0 at hb0 HC hs0 ⊢
  refine (szUnit_any _ ⟨us⟩ 1048576 W0 (unitR_lasts _ _ _ _ hb0 hR) (by omega) (by omega)).mono ?_
  rintro e w1 ⟨hsz, hb1⟩
  rcases hsz with ⟨hsz, rfl⟩ | ⟨hsz, rfl⟩
  · go_wp2
    go_ret
    exact ⟨rfl, hb0.trans (hb1.mono (by omega))⟩
  · have hneg : decide (1048576 - (szUnitD ⟨us⟩ : Int) < 0) = false := decide_eq_false (by omega)
    have hs : szUnitD ⟨us⟩ ≤ 1048576 := by omega
    have HS := Lib.hid hs
    clear hs hsz
    generalize (1048576 - (szUnitD ⟨us⟩ : Int)) = left at hneg ⊢
    have hb01 : Below w.heap.size w w1 := hb0.trans (hb1.mono (by omega))
    have hblk := (hb1.block w.heap.size (by omega)).trans HC.out
    have hk0 : w1.cell? ⟨w.heap.size, 0, none⟩ = some (.slice ba us.length bc) := cell_of_row _ _ 0 _ _ _ hblk
    have HB1 := Lib.hid hblk
    clear hblk HC hb0 hb1 hs0
    have hx1 : w.heap.size < w1.heap.size := World.block_lt_of_cell? _ _ hk0
    -- the reference's answer
    go_wp2_with fail
    refine (toUnit_any _ ⟨us⟩ w1 (unitR_lasts _ _ _ _ hb01 hR) HS.out).mono ?_
    rintro e w2 ⟨cs2, rfl, hO2, hb2⟩
    obtain ⟨ba2, bc2, rfl, _, hg2⟩ := unitO_rd _ _ _ _ _ hO2
    have hg2 : SliceRd 3 CodeR w2 ba2 us.length us := hg2
    clear hO2
    have hb02 : Below w.heap.size w w2 := hb01.trans (hb2.mono hb01.size)
    have hlen : (cnP us).length ≤ 1048576 := cnP_small HS.out
    go_wp2_with fail
    refine (specCodesNeeded_rd us ba2 bc2 HS.out w2 hg2).mono ?_
    rintro e w3 ⟨a0r, c0r, rfl, hown0, hb3⟩
    have HW0 := Lib.hid hown0
    have hb23 : Below w1.heap.size w1 w3 := hb2.trans (hb3.mono hb2.size)
    have hk0' := cell_later hb23 hk0
    have hB3 := (hb23.block w.heap.size (by omega)).trans HB1.out
    have hb03 : Below w.heap.size w w3 := hb02.trans (hb3.mono hb02.size)
    have hx3 : w.heap.size < w3.heap.size := World.block_lt_of_cell? _ _ hk0'
    have HB3 := Lib.hid hB3
    clear hk0 hg2 hb2 hb3 hb23 hb02 hb01 hown0 hB3 HB1
    -- the argument's copy, and the program's answer
    go_wp2_with fail
    refine (toUnit_any _ ⟨us⟩ w3 (unitR_lasts _ _ _ _ hb03 hR) HS.out).mono ?_
    rintro e w4 ⟨cs4, rfl, hO4, hb4⟩
    have hR4 := unitO_rd _ _ _ _ _ hO4
    obtain ⟨ba4, bc4, rfl, hm4, hg4⟩ := hR4
    have hg4 : SliceRd 3 CodeR w4 ba4 us.length us := hg4
    have hR4 : UnitR w4 [.slice ba4 us.length bc4] ⟨us⟩ := ⟨ba4, bc4, rfl, hm4, hg4⟩
    clear hm4
    have HO4 := Lib.hid hO4
    clear hO4
    have hb4a : Below w4.heap.size w4 (w4.alloc (.cells #[.slice ba4 us.length bc4] 30)) := (Below.refl _ _).alloc (Nat.le_refl _) _
    have HC4 := Lib.hid (heap_alloc_new w4 (.cells #[.slice ba4 us.length bc4] 30))
    have hs4 : (w4.alloc (.cells #[.slice ba4 us.length bc4] 30)).heap.size = w4.heap.size + 1 := by simp
    go_wp2_with fail
    generalize w4.alloc (.cells #[.slice ba4 us.length bc4] 30) = W5 at hb4a HC4 hs4 ⊢
    refine (implCodesNeeded_any us ba4 bc4 HS.out W5 (hg4.later codeR_lasts hb4a)).mono ?_
    generalize hRv : cnP us = R at hlen HW0 ⊢
    have HRV := Lib.hid hRv
    clear hRv
    rintro e w5 ⟨a5, c5, rfl, hown5, hb5⟩
    have hb45 : Below w4.heap.size w4 w5 := hb4a.trans (hb5.mono (by omega))
    have hb35 : Below w3.heap.size w3 w5 := hb4.trans (hb45.mono hb4.size)
    have hb05 : Below w.heap.size w w5 := hb03.trans (hb35.mono hb03.size)
    have hblk4 := (hb5.block w4.heap.size (by omega)).trans HC4.out
    have hx0 : w5.cell? ⟨w4.heap.size, 0, none⟩ = some (.slice ba4 us.length bc4) := cell_of_row _ _ 0 _ _ _ hblk4
    have hk0 := cell_later hb35 hk0'
    have hg5 : ∀ j, (Value.slice a5 R.length c5).ownBlock = some j → w4.heap.size < j := fun j hj => by have := (hown5.lt j hj).1; omega
    have HG5 := Lib.hid (And.intro hown5 (And.intro hg5 hb35))
    have HR4 := Lib.hid (unitR_lasts _ _ _ _ hb45 hR4)
    have HBK := Lib.hid (And.intro hblk4 ((hb35.block w.heap.size hx3).trans HB3.out))
    have h34 := hb4.size
    have hx5 : w4.heap.size < w5.heap.size := World.block_lt_of_cell? _ _ hx0
    clear HC4 hs4 hb4a hb5 hg4 hb4 hk0' hb35 hb03 hR4 hg5 hown5 hblk4
    go_wp2_with fail
    refine (eqIntS_true a5 a0r R.length c5 c0r R w5 (ints_of_own HG5.out.1).toIntsRd (HW0.out.later HG5.out.2.2) (by omega)).mono ?_
    rintro e w6 ⟨rfl, hb6⟩
    have hb06 := hb05.trans (hb6.mono hb05.size)
    have HT := Lib.hid (fun q : Nat => toUnit_any _ ⟨us⟩ (w6.drewN q) (unitR_lasts _ _ _ _ (below_drewN hb06 q) hR) HS.out)
    have hx0' := cell_later hb6 hx0
    have hk0' := cell_later hb6 hk0
    have HR6 := Lib.hid (unitR_lasts _ _ _ _ hb6 HR4.out)
    have HB6 := Lib.hid (And.intro hb6 (And.intro hb45 (And.intro hb06 hb6.size)))
    clear hx0 hk0 hb6 hb45 hb06 HR4
    -- the argument has not changed
    go_upto_region 10 with fail
    go_cut [31] (fun b wx => b = .bool false ∧ Hid (Below w6.heap.size w6 wx))
    case first =>
      go_region_law (first | (go_simp; go_at_call 7; refine (HT.out _).mono ?_; rintro e w7 ⟨cs7, rfl, hO7, hb7⟩; (obtain ⟨ba7, bc7, rfl, hm7, hg7⟩ := unitO_rd _ _ _ _ _ hO7); (have hR7 : UnitR w7 [.slice ba7 us.length bc7] ⟨us⟩ := ⟨ba7, bc7, rfl, hm7, hg7⟩); clear hg7 hm7; (have hb67 : Below w6.heap.size w6 w7 := ⟨hb7.os, hb7.tape, hb7.output, hb7.size, hb7.block⟩); (have hR67 := unitR_lasts _ _ _ _ hb67 HR6.out); (have hx0'' := cell_later hb67 hx0'); (have hk0'' := cell_later hb67 hk0')) | (go_simp; go_at_call 10; refine (eqUnit_any _ _ ⟨us⟩ w7 hR67 hR7 HS.out).mono ?_; rintro e w8 ⟨rfl, hb8⟩))
      all_goals
        have hb68 := hb67.trans (hb8.mono hb67.size)
        clear hb67 hb8 hb7 hO7 hR7 hR67 hx0'' hk0''
        go_wp2_with fail
        go_meet
        exact ⟨rfl, Lib.hid hb68⟩
    case rest =>
    obtain ⟨rfl, HBC⟩ := hcut
    have hbc := HBC.out
    have hb6' := HB6.out
    have hb5c : Below w5.heap.size w5 wc := hb6'.1.trans (hbc.mono hb6'.1.size)
    have hb4c : Below w4.heap.size w4 wc := hb6'.2.1.trans (hb5c.mono hb6'.2.1.size)
    have hOc := unitO_keeps.below HO4.out hb4c
    have hx0c := cell_later hbc hx0'
    have hpc := (hb5c.block w.heap.size (by omega)).trans HBK.out.2
    have hgc := ownsRow_below HG5.out.1 hb5c
    have hwc := HG5.out.2.2.trans (hb5c.mono HG5.out.2.2.size)
    have hb0c : Below w.heap.size w wc := hb6'.2.2.1.trans (hbc.mono hb6'.2.2.1.size)
    have hszc := hb4c.size
    have hsz5c := hb5c.size
    have HCC := Lib.hid (And.intro hOc (And.intro hpc (And.intro hgc (And.intro hwc hb0c))))
    clear hOc hpc hgc hwc hb0c hb4c hb5c hb6' hbc HBC HB6 HR6 HT HO4 hx0' hk0' HB3 HBK
    -- marks on the argument
    go_wp2_with fail
    refine (markUnit_any w3.heap.size w4.heap.size _ ⟨us⟩ 1 wc HCC.out.1 HS.out (by omega) (by omega)).mono ?_
    have hcn := sumOf_le5 cntCodeD_le us
    have hcs := HS.out
    unfold szUnitD at hcs
    generalize sumOf cntCodeD us = cn at hcn ⊢
    simp only at hcs
    generalize szS szCodeD us = sn at hcn hcs
    rintro e w8 ⟨rfl, hT8⟩
    have hdk : decide (1 + (cn : Int) < 0) = false := decide_eq_false (by omega)
    have hg8 := own_turned HCC.out.2.2.1 hT8 (fun j hj hh => by have := HG5.out.2.1 j hj; omega)
    have hw8 := HCC.out.2.2.2.1.trans (hT8.below HCC.out.2.2.2.1.size (fun j hj => hj.1))
    have hp8 := (hT8.block w.heap.size (by omega) (fun hh => by omega)).trans HCC.out.2.1
    have hb08 : Below w.heap.size w w8 := HCC.out.2.2.2.2.trans (hT8.below (by omega) (fun j hj => by omega))
    have hsz8 := hT8.size
    have H8 := Lib.hid (And.intro hg8 (And.intro hw8 (And.intro hp8 hb08)))
    clear hg8 hw8 hp8 hb08 hT8 hx0c HCC hcn hcs
    go_wp2_with fail
    refine (eqIntS_true a5 a0r R.length c5 c0r R w8 (ints_of_own H8.out.1).toIntsRd (HW0.out.later H8.out.2.1) (by omega)).mono ?_
    rintro e w9 ⟨rfl, hb9⟩
    have hg9 := ownsRow_below H8.out.1 hb9
    have hw9 := H8.out.2.1.trans (hb9.mono H8.out.2.1.size)
    have hp9 := (hb9.block w.heap.size (by omega)).trans H8.out.2.2.1
    have hb09 := H8.out.2.2.2.trans (hb9.mono H8.out.2.2.2.size)
    have hsz9 := hb9.size
    have H9 := Lib.hid (And.intro hg9 (And.intro hw9 (And.intro hp9 hb09)))
    clear hg9 hw9 hp9 hb09 hb9 H8 hdk
    -- marks on the answer
    go_wp2_with fail
    refine (markIntS_any _ a5 R.length c5 _ 1 w9 H9.out.1 (by omega) (by omega) (by omega)).mono ?_
    rintro e w10 ⟨rfl, hg10, hgr⟩
    have hT10 : Turned (fun j => (Value.slice a5 R.length c5).ownBlock = some j) w9 w10 := turned_of_grown hgr (fun j hj => hj)
    have hw10 := H9.out.2.1.trans (hT10.below H9.out.2.1.size (fun j hj => by have := HG5.out.2.1 j hj; omega))
    have hp10 := (hT10.block w.heap.size (by omega) (fun hh => by have := HG5.out.2.1 _ hh; omega)).trans H9.out.2.2.1
    have hb010 : Below w.heap.size w w10 := H9.out.2.2.2.trans (hT10.below (by omega) (fun j hj => by have := HG5.out.2.1 j hj; omega))
    have hsz10 := hT10.size
    have hrd10 : IntsRd w10 a5 R.length (run 1 R.length) := (ints_of_own (xs := run 1 R.length) (by exact hg10)).toIntsRd
    have H10 := Lib.hid (And.intro hrd10 (And.intro hw10 (And.intro hp10 hb010)))
    have hkk0 : w10.cell? ⟨w.heap.size, 0, none⟩ = some (.slice ba us.length bc) := cell_of_row _ _ 0 _ _ _ hp10
    clear hT10 hw10 hp10 hb010 hgr hg10 H9 hrd10
    go_wp2_with fail
    refine (heldIntS_any a5 R.length c5 1 w10 H10.out.1 (by omega) (by omega) (by omega)).mono ?_
    rintro e w11 ⟨rfl, rfl⟩
    have hdq : decide (1 + (R.length : Int) < 0) = false := decide_eq_false (by omega)
    have hqm : ((1 + (R.length : Int)) != (1 + (R.length : Int))) = false := by simp
    -- another call
    go_wp2_with fail
    refine (toUnit_any _ ⟨us⟩ w10 (unitR_lasts _ _ _ _ H10.out.2.2.2 hR) HS.out).mono ?_
    rintro e w12 ⟨cs12, rfl, hO12, hb12⟩
    obtain ⟨ba12, bc12, rfl, _, hg12⟩ := unitO_rd _ _ _ _ _ hO12
    have hg12 : SliceRd 3 CodeR w12 ba12 us.length us := hg12
    clear hO12
    go_wp2_with fail
    refine (implCodesNeeded_any us ba12 bc12 HS.out w12 hg12).mono ?_
    rw [HRV.out]
    rintro e w13 ⟨a13, c13, rfl, hown13, hb13⟩
    have hb1013 : Below w10.heap.size w10 w13 := hb12.trans (hb13.mono hb12.size)
    have hrd13 := (ints_of_own hown13).toIntsRd
    have hw13 := HW0.out.later (H10.out.2.1.trans (hb1013.mono H10.out.2.1.size))
    have hb013 := H10.out.2.2.2.trans (hb1013.mono H10.out.2.2.2.size)
    have hrun13 := H10.out.1.later hb1013
    have H13 := Lib.hid (And.intro hrd13 (And.intro hw13 (And.intro hb013 hrun13)))
    clear hrd13 hw13 hb013 hrun13 hb1013 hown13 hb13 hb12 hg12 hkk0 H10
    go_wp2_with fail
    refine (eqIntS_true a13 a0r R.length c13 c0r R w13 H13.out.1 H13.out.2.1 (by omega)).mono ?_
    rintro e w14 ⟨rfl, hb14⟩
    have H14 := Lib.hid (And.intro (H13.out.2.2.2.later hb14) (H13.out.2.2.1.trans (hb14.mono H13.out.2.2.1.size)))
    clear hb14 H13
    go_wp2_with fail
    refine (heldIntS_any a5 R.length c5 1 w14 H14.out.1 (by omega) (by omega) (by omega)).mono ?_
    rintro e w15 ⟨rfl, rfl⟩
    go_wp2
    go_ret
    exact ⟨rfl, H14.out.2⟩

end Go.Proofs.YtonlidgmfmgcmaaGreat
