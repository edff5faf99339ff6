
/-
  The walk of the law FnExactLoopOuter.
-/
import Derived.Test.YtkhnhdgbbjppeaaLoopOuter
import Derived.Test.YtkhnhdgbbjppeaaUnitTo
namespace Go.Proofs.Ytkhnhdgbbjppeaa
open Go.RowKit

set_option maxRecDepth 100000 in
set_option maxHeartbeats 2000000 in
theorem fnExactLoopOuter_walk (cs : List Value) (x : CodeD) (a0 : Int) (w : World) (hR : CodeR w cs x) :
    Calls Try.prog 12 #[.agg cs.toArray, .int .i64 a0] w fun e w' => e = .returned (.bool true) ∧ Below w.heap.size w w' := by
  obtain ⟨ba, bc, rfl, hm, hr⟩ := hR
  have hR : CodeR w [.int .i64 x.params, .int .i64 x.regs, .slice ba x.blocks.length bc] x := ⟨ba, bc, rfl, hm, hr⟩
  clear hm hr
  have hb0 : Below w.heap.size w (w.alloc (.cells #[.int .i64 x.params, .int .i64 x.regs, .slice ba x.blocks.length bc] 46)) := (Below.refl _ _).alloc (Nat.le_refl _) _
  have HC := Lib.hid (heap_alloc_new w (.cells #[.int .i64 x.params, .int .i64 x.regs, .slice ba x.blocks.length bc] 46))
  have hs0 : (w.alloc (.cells #[.int .i64 x.params, .int .i64 x.regs, .slice ba x.blocks.length bc] 46)).heap.size = w.heap.size + 1 := by simp
  go_enter Try.func12, Try.ntmps12
  go_wp2_with fail
  generalize w.alloc (.cells #[.int .i64 x.params, .int .i64 x.regs, .slice ba x.blocks.length bc] 46) = W0 at hb0 HC hs0 ⊢
  refine (szCode_any _ x 1048576 W0 (codeR_lasts _ _ _ _ hb0 hR) (by omega) (by omega)).mono ?_
  rintro e w1 ⟨hsz, hb1⟩
  rcases hsz with ⟨hsz, rfl⟩ | ⟨hsz, rfl⟩
  · go_wp2
    go_ret
    exact ⟨rfl, hb0.trans (hb1.mono (by omega))⟩
  · have hneg : decide (1048576 - (szCodeD x : Int) < 0) = false := decide_eq_false (by omega)
    have hs : szCodeD x ≤ 1048576 := by omega
    have HS := Lib.hid hs
    clear hs hsz
    generalize (1048576 - (szCodeD x : Int)) = left at hneg ⊢
    have hb01 : Below w.heap.size w w1 := hb0.trans (hb1.mono (by omega))
    have hblk := (hb1.block w.heap.size (by omega)).trans HC.out
    have hk0 : w1.cell? ⟨w.heap.size, 0, none⟩ = some (.int .i64 x.params) := cell_of_row _ _ 0 _ _ _ hblk
    have hk1 : w1.cell? ⟨w.heap.size, 1, none⟩ = some (.int .i64 x.regs) := cell_of_row _ _ 1 _ _ _ hblk
    have hk2 : w1.cell? ⟨w.heap.size, 2, none⟩ = some (.slice ba x.blocks.length bc) := cell_of_row _ _ 2 _ _ _ hblk
    clear hblk HC hb0 hb1 hs0
    have hx1 : w.heap.size < w1.heap.size := World.block_lt_of_cell? _ _ hk0
    go_wp2_with fail
    refine (toCode_any _ x w1 (codeR_lasts _ _ _ _ hb01 hR) HS.out).mono ?_
    rintro e w2 ⟨cs2, rfl, hO2, hb2⟩
    obtain ⟨ba2, bc2, rfl, hg2⟩ := gr_of_code (codeO_rd _ _ _ _ _ hO2) HS.out
    clear hO2
    have hb02 : Below w.heap.size w w2 := hb01.trans (hb2.mono hb01.size)
    go_wp2_with fail
    refine (specLoopOuter_any x.params x.regs ba2 bc2 (nxs x) a0 w2 hg2).mono ?_
    rintro e w3 ⟨rfl, hb3⟩
    have hb23 : Below w1.heap.size w1 w3 := hb2.trans (hb3.mono hb2.size)
    have hk0' := cell_later hb23 hk0
    have hk1' := cell_later hb23 hk1
    have hk2' := cell_later hb23 hk2
    have hb03 : Below w.heap.size w w3 := hb02.trans (hb3.mono hb02.size)
    clear hk0 hk1 hk2 hg2 hb2 hb3 hb23 hb02 hb01
    go_wp2_with fail
    refine (toCode_any _ x w3 (codeR_lasts _ _ _ _ hb03 hR) HS.out).mono ?_
    rintro e w4 ⟨cs4, rfl, hO4, hb4⟩
    have hR4 := codeO_rd _ _ _ _ _ hO4
    obtain ⟨ba4, bc4, rfl, hg4⟩ := gr_of_code hR4 HS.out
    clear hO4
    have hb4a : Below w4.heap.size w4 (w4.alloc (.cells #[.int .i64 x.params, .int .i64 x.regs, .slice ba4 (nxs x).length bc4] 51)) := (Below.refl _ _).alloc (Nat.le_refl _) _
    have HC4 := Lib.hid (heap_alloc_new w4 (.cells #[.int .i64 x.params, .int .i64 x.regs, .slice ba4 (nxs x).length bc4] 51))
    have hs4 : (w4.alloc (.cells #[.int .i64 x.params, .int .i64 x.regs, .slice ba4 (nxs x).length bc4] 51)).heap.size = w4.heap.size + 1 := by simp
    go_wp2_with fail
    generalize w4.alloc (.cells #[.int .i64 x.params, .int .i64 x.regs, .slice ba4 (nxs x).length bc4] 51) = W5 at hb4a HC4 hs4 ⊢
    refine (implLoopOuter_any x.params x.regs ba4 bc4 (nxs x) a0 W5 (hg4.later hb4a)).mono ?_
    rintro e w5 ⟨rfl, hb5⟩
    generalize outerP (nxs x) a0 = v
    have hne : (v != v) = false := by simp
    have hb45 : Below w4.heap.size w4 w5 := hb4a.trans (hb5.mono (by omega))
    have hb35 : Below w3.heap.size w3 w5 := hb4.trans (hb45.mono hb4.size)
    have hb05 : Below w.heap.size w w5 := hb03.trans (hb35.mono hb03.size)
    have hblk4 := (hb5.block w4.heap.size (by omega)).trans HC4.out
    have hx0 : w5.cell? ⟨w4.heap.size, 0, none⟩ = some (.int .i64 x.params) := cell_of_row _ _ 0 _ _ _ hblk4
    have hx1 : w5.cell? ⟨w4.heap.size, 1, none⟩ = some (.int .i64 x.regs) := cell_of_row _ _ 1 _ _ _ hblk4
    have hx2 : w5.cell? ⟨w4.heap.size, 2, none⟩ = some (.slice ba4 (nxs x).length bc4) := cell_of_row _ _ 2 _ _ _ hblk4
    have hk0 := cell_later hb35 hk0'
    have hk1 := cell_later hb35 hk1'
    have hk2 := cell_later hb35 hk2'
    have HR4 := Lib.hid (codeR_lasts _ _ _ _ hb45 hR4)
    have HT := Lib.hid (fun q : Nat => toCode_any _ x (w5.drewN q) (codeR_lasts _ _ _ _ (below_drewN hb05 q) hR) HS.out)
    clear hblk4 HC4 hs4 hb4a hb5 hg4 hb4 hk0' hk1' hk2' hb45 hb35 hb03 hR4
    go_wp2_with fail
    go_region_law (first | (go_simp; go_at_call 35; refine (HT.out _).mono ?_; rintro e w6 ⟨cs6, rfl, hO6, hb6⟩; (obtain ⟨ba6, bc6, rfl, hg6⟩ := gr_of_code (codeO_rd _ _ _ _ _ hO6) HS.out); (have hR6 := codeO_rd _ _ _ _ _ hO6); clear hg6; (have hb56 : Below w5.heap.size w5 w6 := ⟨hb6.os, hb6.tape, hb6.output, hb6.size, hb6.block⟩); (have hR46 := codeR_lasts _ _ _ _ hb56 HR4.out); (have hx0' := cell_later hb56 hx0); (have hx1' := cell_later hb56 hx1); (have hx2' := cell_later hb56 hx2); (have hk0' := cell_later hb56 hk0); (have hk1' := cell_later hb56 hk1); (have hk2' := cell_later hb56 hk2)) | (go_simp; go_at_call 37; refine (eqCode_any _ _ x w6 hR46 hR6 HS.out).mono ?_; rintro e w7 ⟨rfl, hb7⟩))
    all_goals
      have hb07 : Below w.heap.size w w7 := hb05.trans ((hb56.trans (hb7.mono hb56.size)).mono hb05.size)
      clear hb56 hb7 hb6 hO6 hR6 hR46 hx0' hx1' hx2' hk0' hk1' hk2' hx0 hx1 hx2 hk0 hk1 hk2
      go_wp2
      go_ret
      exact ⟨rfl, hb07⟩

end Go.Proofs.Ytkhnhdgbbjppeaa
