
/-
  The walk of the law FnExactFrontierAll.
-/
import Derived.Test.YtonlidgmfmgcmaaFrontAllSpec
import Derived.Test.YtonlidgmfmgcmaaFrontAllImpl
import Derived.Test.YtonlidgmfmgcmaaUnitTo
import Derived.Test.YtonlidgmfmgcmaaLaw
import Derived.Test.YtonlidgmfmgcmaaUnitMark
import Derived.Test.YtonlidgmfmgcmaaRdInts
import Derived.Deep.DeepCutAuto
namespace Go.Proofs.Ytonlidgmfmgcmaa
open Go.RowKit

set_option maxRecDepth 100000 in
set_option maxHeartbeats 4000000 in
theorem fnExactFrontierAll_walk (cs : List Value) (x : CodeD) (la : Option Addr) (ll lc : Nat) (zs : List Int) (w : World) (hR : CodeR w cs x) (hrow : IsRow .i64 w la ll lc zs) :
    Calls Try.prog 3 #[.agg cs.toArray, .slice la ll lc] w fun e w' => e = .returned (.bool true) ∧ Below w.heap.size w w' := by
  obtain ⟨xs, hI⟩ : ∃ xs, IntsRd w la ll xs := ⟨_, (rowAt_of_row hrow).2.1, (rowAt_of_row hrow).1⟩
  clear hrow
  obtain rfl : xs.length = ll := hI.length
  obtain ⟨ba, bc, rfl, hm, hr⟩ := hR
  have hR : CodeR w [.int .i64 x.params, .int .i64 x.regs, .slice ba x.blocks.length bc] x := ⟨ba, bc, rfl, hm, hr⟩
  clear hm hr
  have hb0 : Below w.heap.size w (w.alloc (.cells #[.int .i64 x.params, .int .i64 x.regs, .slice ba x.blocks.length bc] 24)) := (Below.refl _ _).alloc (Nat.le_refl _) _
  have HC := Lib.hid (heap_alloc_new w (.cells #[.int .i64 x.params, .int .i64 x.regs, .slice ba x.blocks.length bc] 24))
  have hs0 : (w.alloc (.cells #[.int .i64 x.params, .int .i64 x.regs, .slice ba x.blocks.length bc] 24)).heap.size = w.heap.size + 1 := by simp
  go_enter Try.func3, Try.ntmps3
  by_cases hbig : ¬ (xs.length ≤ 1048576)
  · have hbi : (1048576 : Int) < (xs.length : Int) := by omega
    go_wp2
    go_ret
    exact ⟨rfl, hb0⟩
  have hxl : xs.length ≤ 1048576 := by omega
  have hbi : ¬ (1048576 : Int) < (xs.length : Int) := by omega
  clear hbig
  go_wp2_with fail
  clear hbi
  generalize w.alloc (.cells #[.int .i64 x.params, .int .i64 x.regs, .slice ba x.blocks.length bc] 24) = W0 at hb0 HC hs0 ⊢
  refine (szCode_any _ x 1048576 W0 (codeR_lasts _ _ _ _ hb0 hR) (by omega) (by omega)).mono ?_
  rintro e w1 ⟨hsz, hb1⟩
  rcases hsz with ⟨hsz, rfl⟩ | ⟨hsz, rfl⟩
  · go_wp2
    go_ret
    exact ⟨rfl, hb0.trans (hb1.mono (by omega))⟩
  · have hneg : decide (1048576 - (szCodeD x : Int) < 0) = false := decide_eq_false (by omega)
    have hs : szCodeD x ≤ 1048576 := by omega
    have HS := Lib.hid hs
    clear hs hsz
    generalize (1048576 - (szCodeD x : Int)) = left at hneg ⊢
    have hb01 : Below w.heap.size w w1 := hb0.trans (hb1.mono (by omega))
    have hblk := (hb1.block w.heap.size (by omega)).trans HC.out
    have hk0 : w1.cell? ⟨w.heap.size, 0, none⟩ = some (.int .i64 x.params) := cell_of_row _ _ 0 _ _ _ hblk
    have hk1 : w1.cell? ⟨w.heap.size, 1, none⟩ = some (.int .i64 x.regs) := cell_of_row _ _ 1 _ _ _ hblk
    have hk2 : w1.cell? ⟨w.heap.size, 2, none⟩ = some (.slice ba x.blocks.length bc) := cell_of_row _ _ 2 _ _ _ hblk
    have HB1 := Lib.hid hblk
    clear hblk HC hb0 hb1 hs0
    have hx1 : w.heap.size < w1.heap.size := World.block_lt_of_cell? _ _ hk0
    -- the reference's answer
    go_wp2_with fail
    refine (toCode_any _ x w1 (codeR_lasts _ _ _ _ hb01 hR) HS.out).mono ?_
    rintro e w2 ⟨cs2, rfl, hO2, hb2⟩
    obtain ⟨ba2, bc2, rfl, hg2⟩ := gr_of_code (codeO_rd _ _ _ _ _ hO2) HS.out
    clear hO2
    have hb02 : Below w.heap.size w w2 := hb01.trans (hb2.mono hb01.size)
    have hlen : (fallP (nxs x) xs).length ≤ 1048576 := Nat.le_trans (fallP_len _ _) hg2.len
    go_wp2_with fail
    refine (toIntS_any la xs.length lc xs w2 (hI.later hb02) (by omega)).mono ?_
    rintro e w2b ⟨l2, c2, rfl, hownL, hb2b⟩
    go_wp2_with fail
    refine (specFrontierAll_any x.params x.regs ba2 bc2 (nxs x) l2 c2 xs w2b (hg2.later hb2b) (ints_of_own hownL).toIntsRd (fun h : l2 = none => by subst h; exact own_nil hownL) hxl).mono ?_
    rintro e w3 ⟨a0r, c0r, rfl, hown0, hb3a⟩
    have hb3 : Below w2.heap.size w2 w3 := hb2b.trans (hb3a.mono hb2b.size)
    clear hb3a hb2b hownL
    have HW0 := Lib.hid (ints_of_own hown0).toIntsRd
    have hb23 : Below w1.heap.size w1 w3 := hb2.trans (hb3.mono hb2.size)
    have hk0' := cell_later hb23 hk0
    have hk1' := cell_later hb23 hk1
    have hk2' := cell_later hb23 hk2
    have hB3 := (hb23.block w.heap.size (by omega)).trans HB1.out
    have hb03 : Below w.heap.size w w3 := hb02.trans (hb3.mono hb02.size)
    have hx3 : w.heap.size < w3.heap.size := World.block_lt_of_cell? _ _ hk0'
    have HB3 := Lib.hid hB3
    clear hk0 hk1 hk2 hg2 hb2 hb3 hb23 hb02 hb01 hown0 hB3 HB1
    -- the argument's copy, and the program's answer
    go_wp2_with fail
    refine (toCode_any _ x w3 (codeR_lasts _ _ _ _ hb03 hR) HS.out).mono ?_
    rintro e w4 ⟨cs4, rfl, hO4, hb4⟩
    have hR4 := codeO_rd _ _ _ _ _ hO4
    obtain ⟨ba4, bc4, rfl, hg4⟩ := gr_of_code hR4 HS.out
    have HO4 := Lib.hid hO4
    clear hO4
    have hb4a : Below w4.heap.size w4 (w4.alloc (.cells #[.int .i64 x.params, .int .i64 x.regs, .slice ba4 (nxs x).length bc4] 30)) := (Below.refl _ _).alloc (Nat.le_refl _) _
    have HC4 := Lib.hid (heap_alloc_new w4 (.cells #[.int .i64 x.params, .int .i64 x.regs, .slice ba4 (nxs x).length bc4] 30))
    have hs4 : (w4.alloc (.cells #[.int .i64 x.params, .int .i64 x.regs, .slice ba4 (nxs x).length bc4] 30)).heap.size = w4.heap.size + 1 := by simp
    go_wp2_with fail
    generalize w4.alloc (.cells #[.int .i64 x.params, .int .i64 x.regs, .slice ba4 (nxs x).length bc4] 30) = W5 at hb4a HC4 hs4 ⊢
    refine (toIntS_any la xs.length lc xs W5 (hI.later (hb03.trans ((hb4.trans (hb4a.mono hb4.size)).mono hb03.size))) (by omega)).mono ?_
    rintro e w5b ⟨l5, cl5, rfl, hownX, hb5b⟩
    have hblk4b := (hb5b.block w4.heap.size (by omega)).trans HC4.out
    have hv0 : w5b.cell? ⟨w4.heap.size, 0, none⟩ = some (.int .i64 x.params) := cell_of_row _ _ 0 _ _ _ hblk4b
    have hv1 : w5b.cell? ⟨w4.heap.size, 1, none⟩ = some (.int .i64 x.regs) := cell_of_row _ _ 1 _ _ _ hblk4b
    have hv2 : w5b.cell? ⟨w4.heap.size, 2, none⟩ = some (.slice ba4 (nxs x).length bc4) := cell_of_row _ _ 2 _ _ _ hblk4b
    have hw5s := hb5b.size
    have HX := Lib.hid hownX
    go_wp2_with fail
    refine (implFrontierAll_any x.params x.regs ba4 bc4 (nxs x) l5 cl5 xs w5b ((hg4.later hb4a).later hb5b) (ints_of_own hownX) hxl).mono ?_
    generalize hRv : fallP (nxs x) xs = R at hlen HW0 ⊢
    have HRV := Lib.hid hRv
    clear hRv hv0 hv1 hv2 hblk4b
    rintro e w5 ⟨a5, c5, rfl, hown5, hb5a⟩
    have HXO := Lib.hid (And.intro (ownsRow_below hownX hb5a) (And.intro (fun j (hj : (Value.slice l5 xs.length cl5).ownBlock = some j) => (show w4.heap.size < j ∧ j < w5b.heap.size from by have := hownX.lt j hj; omega)) (fun j (hj : (Value.slice a5 R.length c5).ownBlock = some j) => (hown5.lt j hj).1)))
    have hb5 : Below W5.heap.size W5 w5 := hb5b.trans (hb5a.mono hb5b.size)
    clear hb5a hb5b hownX
    have hb45 : Below w4.heap.size w4 w5 := hb4a.trans (hb5.mono (by omega))
    have hb35 : Below w3.heap.size w3 w5 := hb4.trans (hb45.mono hb4.size)
    have hb05 : Below w.heap.size w w5 := hb03.trans (hb35.mono hb03.size)
    have hblk4 := (hb5.block w4.heap.size (by omega)).trans HC4.out
    have hx0 : w5.cell? ⟨w4.heap.size, 0, none⟩ = some (.int .i64 x.params) := cell_of_row _ _ 0 _ _ _ hblk4
    have hx1 : w5.cell? ⟨w4.heap.size, 1, none⟩ = some (.int .i64 x.regs) := cell_of_row _ _ 1 _ _ _ hblk4
    have hx2 : w5.cell? ⟨w4.heap.size, 2, none⟩ = some (.slice ba4 (nxs x).length bc4) := cell_of_row _ _ 2 _ _ _ hblk4
    have hk0 := cell_later hb35 hk0'
    have hk1 := cell_later hb35 hk1'
    have hk2 := cell_later hb35 hk2'
    have hg5 : ∀ j, (Value.slice a5 R.length c5).ownBlock = some j → w4.heap.size < j := fun j hj => by have := (hown5.lt j hj).1; omega
    have HG5 := Lib.hid (And.intro hown5 (And.intro hg5 hb35))
    have HR4 := Lib.hid (codeR_lasts _ _ _ _ hb45 hR4)
    have HBK := Lib.hid (And.intro hblk4 ((hb35.block w.heap.size hx3).trans HB3.out))
    have h34 := hb4.size
    have hx5 : w4.heap.size < w5.heap.size := World.block_lt_of_cell? _ _ hx0
    clear HC4 hs4 hb4a hb5 hg4 hb4 hk0' hk1' hk2' hb35 hb03 hR4 hg5 hown5 hblk4
    go_wp2_with fail
    refine (eqIntS_true a5 a0r R.length c5 c0r R w5 (ints_of_own HG5.out.1).toIntsRd (HW0.out.later HG5.out.2.2) (by omega)).mono ?_
    rintro e w6 ⟨rfl, hb6⟩
    have hb06 := hb05.trans (hb6.mono hb05.size)
    have HT := Lib.hid (fun q : Nat => toCode_any _ x (w6.drewN q) (codeR_lasts _ _ _ _ (below_drewN hb06 q) hR) HS.out)
    have hx0' := cell_later hb6 hx0
    have hx1' := cell_later hb6 hx1
    have hx2' := cell_later hb6 hx2
    have hk0' := cell_later hb6 hk0
    have hk1' := cell_later hb6 hk1
    have hk2' := cell_later hb6 hk2
    have HR6 := Lib.hid (codeR_lasts _ _ _ _ hb6 HR4.out)
    have HB6 := Lib.hid (And.intro hb6 (And.intro hb45 (And.intro hb06 hb6.size)))
    clear hx0 hx1 hx2 hk0 hk1 hk2 hb6 hb45 hb06 HR4
    -- the argument has not changed
    go_upto_region 13 with fail
    go_cut [42] (fun b wx => b = .bool false ∧ Hid (Below w6.heap.size w6 wx))
    case first =>
      go_region_law (first | (go_simp; go_at_call 6; refine (HT.out _).mono ?_; rintro e w7 ⟨cs7, rfl, hO7, hb7⟩; (obtain ⟨ba7, bc7, rfl, hg7⟩ := gr_of_code (codeO_rd _ _ _ _ _ hO7) HS.out); (have hR7 := codeO_rd _ _ _ _ _ hO7); clear hg7; (have hb67 : Below w6.heap.size w6 w7 := ⟨hb7.os, hb7.tape, hb7.output, hb7.size, hb7.block⟩); (have hR67 := codeR_lasts _ _ _ _ hb67 HR6.out); (have hx0'' := cell_later hb67 hx0'); (have hx1'' := cell_later hb67 hx1'); (have hx2'' := cell_later hb67 hx2'); (have hk0'' := cell_later hb67 hk0'); (have hk1'' := cell_later hb67 hk1'); (have hk2'' := cell_later hb67 hk2')) | (go_simp; go_at_call 10; refine (eqCode_any _ _ x w7 hR67 hR7 HS.out).mono ?_; rintro e w8 ⟨rfl, hb8⟩))
      all_goals
        have hb68 := hb67.trans (hb8.mono hb67.size)
        clear hb67 hb8 hb7 hO7 hR7 hR67 hx0'' hx1'' hx2'' hk0'' hk1'' hk2''
        go_wp2_with fail
        go_meet
        exact ⟨rfl, Lib.hid hb68⟩
    case rest =>
    obtain ⟨rfl, HBC⟩ := hcut
    -- nor has the list
    have HXR := Lib.hid (And.intro (ownsRow_below HXO.out.1 (HB6.out.1.trans (HBC.out.mono HB6.out.1.size))) HXO.out.2)
    go_wp2_with fail
    refine (toIntS_any la xs.length lc xs wc (hI.later (HB6.out.2.2.1.trans (HBC.out.mono HB6.out.2.2.1.size))) (by omega)).mono ?_
    rintro e wy ⟨ly, cy, rfl, hownY, hby⟩
    go_wp2_with fail
    refine (eqIntS_true l5 ly xs.length cl5 cy xs wy (ints_of_own (ownsRow_below HXR.out.1 hby)).toIntsRd (ints_of_own hownY).toIntsRd (by omega)).mono ?_
    rintro e wz ⟨rfl, hbz⟩
    have hbyz := hby.trans (hbz.mono hby.size)
    have HXZ := Lib.hid (And.intro (ownsRow_below HXR.out.1 hbyz) HXO.out.2)
    have hbc := HBC.out.trans (hbyz.mono HBC.out.size)
    clear hownY hby hbz hbyz HXR
    have hb6' := HB6.out
    have hb5c : Below w5.heap.size w5 wz := hb6'.1.trans (hbc.mono hb6'.1.size)
    have hb4c : Below w4.heap.size w4 wz := hb6'.2.1.trans (hb5c.mono hb6'.2.1.size)
    have hOc := codeO_keeps.below HO4.out hb4c
    have hx0c := cell_later hbc hx0'
    have hx1c := cell_later hbc hx1'
    have hx2c := cell_later hbc hx2'
    have hpc := (hb5c.block w.heap.size (by omega)).trans HBK.out.2
    have hgc := ownsRow_below HG5.out.1 hb5c
    have hwc := HG5.out.2.2.trans (hb5c.mono HG5.out.2.2.size)
    have hb0c : Below w.heap.size w wz := hb6'.2.2.1.trans (hbc.mono hb6'.2.2.1.size)
    have hszc := hb4c.size
    have hsz5c := hb5c.size
    have HCC := Lib.hid (And.intro hOc (And.intro hpc (And.intro hgc (And.intro hwc hb0c))))
    clear hOc hpc hgc hwc hb0c hb4c hb5c hb6' hbc HBC HB6 HR6 HT HO4 hx0' hx1' hx2' hk0' hk1' hk2' HB3 HBK
    -- marks on the argument
    go_wp2_with fail
    refine (markCode_any w3.heap.size w4.heap.size _ x 1 wz HCC.out.1 HS.out (by omega) (by omega)).mono ?_
    have hcn := sumOf_le5 cntBlockD_le x.blocks
    have hcs := HS.out
    unfold szCodeD at hcs
    generalize sumOf cntBlockD x.blocks = cn at hcn ⊢
    generalize szS szBlockD x.blocks = sn at hcn hcs
    rintro e w8 ⟨rfl, hT8⟩
    have hdk : decide (1 + (cn : Int) + (xs.length : Int) < 0) = false := decide_eq_false (by omega)
    have hX8 := own_turned HXZ.out.1 hT8 (fun j hj hh => by have := HXZ.out.2.1 j hj; omega)
    have hg8 := own_turned HCC.out.2.2.1 hT8 (fun j hj hh => by have := HG5.out.2.1 j hj; omega)
    have hw8 := HCC.out.2.2.2.1.trans (hT8.below HCC.out.2.2.2.1.size (fun j hj => hj.1))
    have hp8 := (hT8.block w.heap.size (by omega) (fun hh => by omega)).trans HCC.out.2.1
    have hb08 : Below w.heap.size w w8 := HCC.out.2.2.2.2.trans (hT8.below (by omega) (fun j hj => by omega))
    have hsz8 := hT8.size
    have HP8 := Lib.hid (And.intro hg8 (And.intro hw8 (And.intro hp8 (And.intro hb08 hX8))))
    clear hg8 hw8 hp8 hb08 hT8 hx0c hx1c hx2c HCC hX8
    -- marks on the list
    go_wp2_with fail
    refine (markIntS_any _ l5 xs.length cl5 _ (1 + (cn : Int)) w8 HP8.out.2.2.2.2 (by omega) (by omega) (by omega)).mono ?_
    rintro e w8b ⟨rfl, _, hgx⟩
    have hTx : Turned (fun j => (Value.slice l5 xs.length cl5).ownBlock = some j) w8 w8b := turned_of_grown hgx (fun j hj => hj)
    have hg8 := own_turned HP8.out.1 hTx (fun j hj hh => by have h1 := HXZ.out.2.1 j hh; have h2 := HXZ.out.2.2 j hj; omega)
    have hw8 := HP8.out.2.1.trans (hTx.below HP8.out.2.1.size (fun j hj => by have := HXZ.out.2.1 j hj; omega))
    have hp8 := (hTx.block w.heap.size (by omega) (fun hh => by have := HXZ.out.2.1 _ hh; omega)).trans HP8.out.2.2.1
    have hb08 : Below w.heap.size w w8b := HP8.out.2.2.2.1.trans (hTx.below (by omega) (fun j hj => by have := HXZ.out.2.1 j hj; omega))
    have hsz8b := hTx.size
    have H8 := Lib.hid (And.intro hg8 (And.intro hw8 (And.intro hp8 hb08)))
    clear hg8 hw8 hp8 hb08 hTx hgx HP8 HXZ hcn hcs
    go_wp2_with fail
    refine (eqIntS_true a5 a0r R.length c5 c0r R w8b (ints_of_own H8.out.1).toIntsRd (HW0.out.later H8.out.2.1) (by omega)).mono ?_
    rintro e w9 ⟨rfl, hb9⟩
    have hg9 := ownsRow_below H8.out.1 hb9
    have hw9 := H8.out.2.1.trans (hb9.mono H8.out.2.1.size)
    have hp9 := (hb9.block w.heap.size (by omega)).trans H8.out.2.2.1
    have hb09 := H8.out.2.2.2.trans (hb9.mono H8.out.2.2.2.size)
    have hsz9 := hb9.size
    have H9 := Lib.hid (And.intro hg9 (And.intro hw9 (And.intro hp9 hb09)))
    clear hg9 hw9 hp9 hb09 hb9 H8 hdk
    -- marks on the answer
    go_wp2_with fail
    refine (markIntS_any _ a5 R.length c5 _ 1 w9 H9.out.1 (by omega) (by omega) (by omega)).mono ?_
    rintro e w10 ⟨rfl, hg10, hgr⟩
    have hT10 : Turned (fun j => (Value.slice a5 R.length c5).ownBlock = some j) w9 w10 := turned_of_grown hgr (fun j hj => hj)
    have hw10 := H9.out.2.1.trans (hT10.below H9.out.2.1.size (fun j hj => by have := HG5.out.2.1 j hj; omega))
    have hp10 := (hT10.block w.heap.size (by omega) (fun hh => by have := HG5.out.2.1 _ hh; omega)).trans H9.out.2.2.1
    have hb010 : Below w.heap.size w w10 := H9.out.2.2.2.trans (hT10.below (by omega) (fun j hj => by have := HG5.out.2.1 j hj; omega))
    have hsz10 := hT10.size
    have hrd10 : IntsRd w10 a5 R.length (run 1 R.length) := (ints_of_own (xs := run 1 R.length) (by exact hg10)).toIntsRd
    have H10 := Lib.hid (And.intro hrd10 (And.intro hw10 (And.intro hp10 hb010)))
    have hkk0 : w10.cell? ⟨w.heap.size, 0, none⟩ = some (.int .i64 x.params) := cell_of_row _ _ 0 _ _ _ hp10
    have hkk1 : w10.cell? ⟨w.heap.size, 1, none⟩ = some (.int .i64 x.regs) := cell_of_row _ _ 1 _ _ _ hp10
    have hkk2 : w10.cell? ⟨w.heap.size, 2, none⟩ = some (.slice ba x.blocks.length bc) := cell_of_row _ _ 2 _ _ _ hp10
    clear hT10 hw10 hp10 hb010 hgr hg10 H9 hrd10
    go_wp2_with fail
    refine (heldIntS_any a5 R.length c5 1 w10 H10.out.1 (by omega) (by omega) (by omega)).mono ?_
    rintro e w11 ⟨rfl, rfl⟩
    have hdq : decide (1 + (R.length : Int) < 0) = false := decide_eq_false (by omega)
    have hqm : ((1 + (R.length : Int)) != (1 + (R.length : Int))) = false := by simp
    -- another call
    go_wp2_with fail
    refine (toCode_any _ x w10 (codeR_lasts _ _ _ _ H10.out.2.2.2 hR) HS.out).mono ?_
    rintro e w12 ⟨cs12, rfl, hO12, hb12⟩
    obtain ⟨ba12, bc12, rfl, hg12⟩ := gr_of_code (codeO_rd _ _ _ _ _ hO12) HS.out
    clear hO12
    go_wp2_with fail
    refine (toIntS_any la xs.length lc xs w12 (hI.later (H10.out.2.2.2.trans (hb12.mono H10.out.2.2.2.size))) (by omega)).mono ?_
    rintro e w12b ⟨l12, c12, rfl, hownL, hb12b⟩
    go_wp2_with fail
    refine (implFrontierAll_any x.params x.regs ba12 bc12 (nxs x) l12 c12 xs w12b (hg12.later hb12b) (ints_of_own hownL) hxl).mono ?_
    rw [HRV.out]
    rintro e w13 ⟨a13, c13, rfl, hown13, hb13a⟩
    have hb13 : Below w12.heap.size w12 w13 := hb12b.trans (hb13a.mono hb12b.size)
    clear hb13a hb12b hownL
    have hb1013 : Below w10.heap.size w10 w13 := hb12.trans (hb13.mono hb12.size)
    have hrd13 := (ints_of_own hown13).toIntsRd
    have hw13 := HW0.out.later (H10.out.2.1.trans (hb1013.mono H10.out.2.1.size))
    have hb013 := H10.out.2.2.2.trans (hb1013.mono H10.out.2.2.2.size)
    have hrun13 := H10.out.1.later hb1013
    have H13 := Lib.hid (And.intro hrd13 (And.intro hw13 (And.intro hb013 hrun13)))
    clear hrd13 hw13 hb013 hrun13 hb1013 hown13 hb13 hb12 hg12 hkk0 hkk1 hkk2 H10
    go_wp2_with fail
    refine (eqIntS_true a13 a0r R.length c13 c0r R w13 H13.out.1 H13.out.2.1 (by omega)).mono ?_
    rintro e w14 ⟨rfl, hb14⟩
    have H14 := Lib.hid (And.intro (H13.out.2.2.2.later hb14) (H13.out.2.2.1.trans (hb14.mono H13.out.2.2.1.size)))
    clear hb14 H13
    go_wp2_with fail
    refine (heldIntS_any a5 R.length c5 1 w14 H14.out.1 (by omega) (by omega) (by omega)).mono ?_
    rintro e w15 ⟨rfl, rfl⟩
    go_wp2
    go_ret
    exact ⟨rfl, H14.out.2⟩

end Go.Proofs.Ytonlidgmfmgcmaa
