/-
  A unit of one's own set is marked, and holds its marks.
-/
import Derived.Test.YtonlidgmfmgcmaaGreatSepMark
import Derived.Test.YtonlidgmfmgcmaaGreatSepHeld
import Derived.Test.YtonlidgmfmgcmaaGreatUnitMarkU
import Derived.Test.YtonlidgmfmgcmaaGreatDropSpec
import Derived.Test.YtonlidgmfmgcmaaGreatUnitTo
import Derived.Test.YtonlidgmfmgcmaaGreatRdInts
import Derived.Deep.DeepCutAuto
namespace Go.Proofs.YtonlidgmfmgcmaaGreat
open Go.RowKit

set_option maxRecDepth 100000 in
set_option maxHeartbeats 4000000 in
theorem markUnit_set (S : Nat → Prop) (a : Option Addr) (c : Nat) (us : List CodeD) (k : Int) (w : World) (h : SepK 3 52 CodeK S w a us.length c us) (hs : szS szCodeD us ≤ 1048576) (hk0 : 0 ≤ k) (hk : k ≤ 1048576) :
    Calls Tryz.prog 11 #[.agg #[.slice a us.length c], .int .i64 k] w fun e w' => e = .returned (.int .i64 (k + (sumOf cntCodeD us : Nat))) ∧ SepK 3 52 CodeK S w' a us.length c (renS cntCodeD renCode k us) ∧ Turned S w w' := by
  have hcl := sumOf_le5 cntCodeD_le us
  have hb0 : Below w.heap.size w (w.alloc (.cells #[.slice a us.length c] 30)) := (Below.refl _ _).alloc (Nat.le_refl _) _
  have hT0 : Turned S w (w.alloc (.cells #[.slice a us.length c] 30)) := turned_of_below hb0 (fun k h1 h2 => by omega)
  have ho := h.below codeK_sets hb0
  go_enter Tryz.func11, Tryz.ntmps11
  go_wp2_with fail
  refine (markCodeS_set S a us.length c us k _ ho hs hk0 (by omega)).mono ?_
  rintro e w1 ⟨rfl, hk1, hT1⟩
  go_wp2
  go_ret
  exact ⟨rfl, hk1, hT0.trans hT1⟩

set_option maxRecDepth 100000 in
set_option maxHeartbeats 4000000 in
theorem heldUnit_any (a : Option Addr) (n c : Nat) (us : List CodeD) (k : Int) (w : World) (h : SliceRd 3 CodeR w a n (renS cntCodeD renCode k us)) (hs : szS szCodeD us ≤ 1048576) (hk0 : 0 ≤ k) (hk : k ≤ 1048576) :
    Calls Tryz.prog 16 #[.agg #[.slice a n c], .int .i64 k] w fun e w' => e = .returned (.int .i64 (k + (sumOf cntCodeD us : Nat))) ∧ Below w.heap.size w w' := by
  have hcl := sumOf_le5 cntCodeD_le us
  have hb0 : Below w.heap.size w (w.alloc (.cells #[.slice a n c] 30)) := (Below.refl _ _).alloc (Nat.le_refl _) _
  have ho := h.later codeR_lasts hb0
  go_enter Tryz.func16, Tryz.ntmps16
  go_wp2_with fail
  refine (heldCodeS_any a n c us k _ ho hs hk0 (by omega)).mono ?_
  rintro e w1 ⟨rfl, rfl⟩
  have hneg : decide (k + (sumOf cntCodeD us : Nat) < 0) = false := decide_eq_false (by omega)
  go_wp2
  go_ret
  exact ⟨rfl, hb0⟩

end Go.Proofs.YtonlidgmfmgcmaaGreat

namespace Go.Proofs.YtonlidgmfmgcmaaGreat
open Go.RowKit
set_option linter.unusedVariables false

theorem unitR_of_sep {S : Nat → Prop} {w : World} {a : Option Addr} {c : Nat} {us : List CodeD} (h : SepK 3 52 CodeK S w a us.length c us) : UnitR w [.slice a us.length c] ⟨us⟩ :=
  ⟨a, c, rfl, ⟨h.max, h.none⟩, h.rd codeK_rd⟩

structure DcSt (w3 : World) (q p g : Nat) (wv xv gv : Value) (S : Nat → Prop) (ga : Option Addr) (gn gc : Nat) (Rg : List CodeD) (W : World) : Prop where
  below : Below w3.heap.size w3 W
  hq : W.heap[q]? = some (.cells #[wv] 30 (0, 0))
  hp : W.heap[p]? = some (.cells #[xv] 30 (0, 0))
  hg : W.heap[g]? = some (.cells #[gv] 30 (0, 0))
  sep : SepK 3 52 CodeK S W ga gn gc Rg
section
variable {w3 W W' : World} {q p g : Nat} {wv xv gv : Value} {S : Nat → Prop} {ga : Option Addr} {gn gc : Nat} {Rg Rg' : List CodeD}
theorem DcSt.cq (h : DcSt w3 q p g wv xv gv S ga gn gc Rg W) : W.cell? ⟨q, 0, none⟩ = some wv := cell_of_row _ _ 0 _ _ _ h.hq
theorem DcSt.cp (h : DcSt w3 q p g wv xv gv S ga gn gc Rg W) : W.cell? ⟨p, 0, none⟩ = some xv := cell_of_row _ _ 0 _ _ _ h.hp
theorem DcSt.cg (h : DcSt w3 q p g wv xv gv S ga gn gc Rg W) : W.cell? ⟨g, 0, none⟩ = some gv := cell_of_row _ _ 0 _ _ _ h.hg
theorem DcSt.later (h : DcSt w3 q p g wv xv gv S ga gn gc Rg W) (hb : Below W.heap.size W W') : DcSt w3 q p g wv xv gv S ga gn gc Rg W' :=
  ⟨h.below.trans (hb.mono h.below.size), (hb.block q (Array.getElem?_eq_some_iff.1 h.hq).1).trans h.hq, (hb.block p (Array.getElem?_eq_some_iff.1 h.hp).1).trans h.hp, (hb.block g (Array.getElem?_eq_some_iff.1 h.hg).1).trans h.hg, h.sep.below codeK_sets hb⟩
theorem DcSt.marked {T : Nat → Prop} (h : DcSt w3 q p g wv xv gv S ga gn gc Rg W) (ht : Turned T W W') (hT : ∀ k, T k → w3.heap.size ≤ k ∧ k ≠ q ∧ k ≠ p ∧ k ≠ g) (hs : SepK 3 52 CodeK S W' ga gn gc Rg') : DcSt w3 q p g wv xv gv S ga gn gc Rg' W' :=
  ⟨h.below.trans (ht.below (B := w3.heap.size) h.below.size (fun k hk => (hT k hk).1)), (ht.block q (Array.getElem?_eq_some_iff.1 h.hq).1 (fun e => (hT q e).2.1 rfl)).trans h.hq, (ht.block p (Array.getElem?_eq_some_iff.1 h.hp).1 (fun e => (hT p e).2.2.1 rfl)).trans h.hp, (ht.block g (Array.getElem?_eq_some_iff.1 h.hg).1 (fun e => (hT g e).2.2.2 rfl)).trans h.hg, hs⟩
end

set_option maxRecDepth 100000 in
set_option maxHeartbeats 4000000 in
theorem fnExactDropCodes_walk (hC : CopyBlkC) (cs : List Value) (x : UnitD) (w : World) (hR : UnitR w cs x) :
    Calls Tryz.prog 4 #[.agg cs.toArray] w fun e w' => e = .returned (.bool true) ∧ Below w.heap.size w w' := by
  obtain ⟨us⟩ := x
  obtain ⟨ba, bc, rfl, hm, hr⟩ := hR
  have hR : UnitR w [.slice ba us.length bc] ⟨us⟩ := ⟨ba, bc, rfl, hm, hr⟩
  clear hm hr
  have hb0 : Below w.heap.size w (w.alloc (.cells #[.slice ba us.length bc] 24)) := (Below.refl _ _).alloc (Nat.le_refl _) _
  have HC := Lib.hid (heap_alloc_new w (.cells #[.slice ba us.length bc] 24))
  have hs0 : (w.alloc (.cells #[.slice ba us.length bc] 24)).heap.size = w.heap.size + 1 := by simp
  go_enter Tryz.func4, Tryz.ntmps4
  go_wp2_with fail
  generalize w.alloc (.cells #[.slice ba us.length bc] 24) = W0 at hb0 HC hs0 ⊢
  refine (szUnit_any _ ⟨us⟩ 1048576 W0 (unitR_lasts _ _ _ _ hb0 hR) (by omega) (by omega)).mono ?_
  rintro e w1 ⟨hsz, hb1⟩
  rcases hsz with ⟨hsz, rfl⟩ | ⟨hsz, rfl⟩
  · go_wp2
    go_ret
    exact ⟨rfl, hb0.trans (hb1.mono (by omega))⟩
  · have hneg : decide (1048576 - (szUnitD ⟨us⟩ : Int) < 0) = false := decide_eq_false (by omega)
    have hs : szUnitD ⟨us⟩ ≤ 1048576 := by omega
    have HS := Lib.hid hs
    have HSR := Lib.hid (show szUnitD ⟨dropP us⟩ ≤ 1048576 from Nat.le_trans (dropP_size us) hs)
    clear hs hsz
    generalize (1048576 - (szUnitD ⟨us⟩ : Int)) = left at hneg ⊢
    have hb01 : Below w.heap.size w w1 := hb0.trans (hb1.mono (by omega))
    have hblk := (hb1.block w.heap.size (by omega)).trans HC.out
    have hk0 : w1.cell? ⟨w.heap.size, 0, none⟩ = some (.slice ba us.length bc) := cell_of_row _ _ 0 _ _ _ hblk
    have HB1 := Lib.hid hblk
    clear hblk HC hb0 hb1 hs0
    have hx1 : w.heap.size < w1.heap.size := World.block_lt_of_cell? _ _ hk0
    -- the reference's answer
    go_wp2_with fail
    refine (toUnit_any _ ⟨us⟩ w1 (unitR_lasts _ _ _ _ hb01 hR) HS.out).mono ?_
    rintro e w2 ⟨cs2, rfl, hO2, hb2⟩
    obtain ⟨ba2, bc2, rfl, _, hg2⟩ := unitO_rd _ _ _ _ _ hO2
    have hg2 : SliceRd 3 CodeR w2 ba2 us.length us := hg2
    clear hO2
    have hb02 : Below w.heap.size w w2 := hb01.trans (hb2.mono hb01.size)
    go_wp2_with fail
    refine (specDropCodes_any hC us ba2 bc2 HS.out w2 hg2).mono ?_
    rintro e w3 ⟨a0r, c0r, rfl, hsep0, hb3⟩
    have HW0 := Lib.hid (unitR_of_sep hsep0)
    have hb23 : Below w1.heap.size w1 w3 := hb2.trans (hb3.mono hb2.size)
    have hk0' := cell_later hb23 hk0
    have hB3 := (hb23.block w.heap.size (by omega)).trans HB1.out
    have hb03 : Below w.heap.size w w3 := hb02.trans (hb3.mono hb02.size)
    have hx3 : w.heap.size < w3.heap.size := World.block_lt_of_cell? _ _ hk0'
    have HB3 := Lib.hid hB3
    clear hk0 hg2 hb2 hb3 hb23 hb02 hb01 hsep0 hB3 HB1
    have hbW3 : Below w3.heap.size w3 (w3.alloc (.cells #[.slice a0r (dropP us).length c0r] 30)) := (Below.refl _ _).alloc (Nat.le_refl _) _
    have HC4 := Lib.hid (heap_alloc_new w3 (.cells #[.slice a0r (dropP us).length c0r] 30))
    have hs4 : (w3.alloc (.cells #[.slice a0r (dropP us).length c0r] 30)).heap.size = w3.heap.size + 1 := by simp
    -- the argument's copy, and the program's answer
    go_wp2_with fail
    generalize w3.alloc (.cells #[.slice a0r (dropP us).length c0r] 30) = W4 at hbW3 HC4 hs4 ⊢
    refine (toUnit_any _ ⟨us⟩ W4 (unitR_lasts _ _ _ _ (hb03.trans (hbW3.mono hb03.size)) hR) HS.out).mono ?_
    rintro e w5 ⟨cs5, rfl, hO5, hb5⟩
    obtain ⟨ba5, bc5, rfl, hm5, hg5⟩ := unitO_rd _ _ _ _ _ hO5
    have hg5 : SliceRd 3 CodeR w5 ba5 us.length us := hg5
    have HO5 := Lib.hid hO5
    have hb5a : Below w5.heap.size w5 (w5.alloc (.cells #[.slice ba5 us.length bc5] 30)) := (Below.refl _ _).alloc (Nat.le_refl _) _
    have HC6 := Lib.hid (heap_alloc_new w5 (.cells #[.slice ba5 us.length bc5] 30))
    have hs6 : (w5.alloc (.cells #[.slice ba5 us.length bc5] 30)).heap.size = w5.heap.size + 1 := by simp
    clear hO5 hm5
    go_wp2_with fail
    generalize w5.alloc (.cells #[.slice ba5 us.length bc5] 30) = W6 at hb5a HC6 hs6 ⊢
    refine (implDropCodes_any us ba5 bc5 HS.out W6 (hg5.later codeR_lasts hb5a)).mono ?_
    rintro e w7 ⟨a7, c7, rfl, hsep7, hb7⟩
    have hb7a : Below w7.heap.size w7 (w7.alloc (.cells #[.slice a7 (dropP us).length c7] 30)) := (Below.refl _ _).alloc (Nat.le_refl _) _
    have hb67 := hb7.trans (hb7a.mono hb7.size)
    have hb57 := hb5a.trans (hb67.mono hb5a.size)
    have hb47 := hb5.trans (hb57.mono hb5.size)
    have HSZ := Lib.hid (show W4.heap.size = w3.heap.size + 1 ∧ W4.heap.size ≤ w5.heap.size ∧ W6.heap.size = w5.heap.size + 1 ∧ W6.heap.size ≤ w7.heap.size from ⟨hs4, hb5.size, hs6, hb7.size⟩)
    have HD := Lib.hid (show DcSt w3 w3.heap.size w5.heap.size w7.heap.size (.slice a0r (dropP us).length c0r) (.slice ba5 us.length bc5) (.slice a7 (dropP us).length c7) (fun k => W6.heap.size ≤ k ∧ k < w7.heap.size) a7 (dropP us).length c7 (dropP us) (w7.alloc (.cells #[.slice a7 (dropP us).length c7] 30)) from
      ⟨hbW3.trans (hb47.mono hbW3.size), (hb47.block _ (by omega)).trans HC4.out, (hb67.block _ (by omega)).trans HC6.out, heap_alloc_new _ _, ((hsep7.here codeK_sets).below codeK_sets hb7a)⟩)
    have HOD := Lib.hid (unitO_keeps.below HO5.out hb57)
    clear hsep7 hb5 hb5a hb7 hb7a hb67 hb57 hb47 hbW3 hs4 hs6 HC4 HC6 HO5 hg5
    go_upto_region 8 with fail
    generalize w7.alloc (.cells #[.slice a7 (dropP us).length c7] 30) = W8 at HD HOD ⊢
    obtain ⟨q, hq⟩ : ∃ q, q = w3.heap.size := ⟨_, rfl⟩
    obtain ⟨p, hp⟩ : ∃ p, p = w5.heap.size := ⟨_, rfl⟩
    obtain ⟨g, hg⟩ : ∃ g, g = w7.heap.size := ⟨_, rfl⟩
    have HSQ := Lib.hid (show w3.heap.size ≤ q ∧ q < W4.heap.size ∧ W4.heap.size ≤ w5.heap.size ∧ p = w5.heap.size ∧ p < W6.heap.size ∧ W6.heap.size ≤ g ∧ w.heap.size < q from by have := HSZ.out; omega)
    rw [← hq, ← hp, ← hg] at HD ⊢
    clear hq hp hg HSZ HB3 hg2 hg5
    have HBW := Lib.hid (show ∀ W, Below w3.heap.size w3 W → Below w.heap.size w W ∧ W.cell? ⟨w.heap.size, 0, none⟩ = some (.slice ba us.length bc) ∧ UnitR W [.slice a0r (dropP us).length c0r] ⟨dropP us⟩ from fun W h => ⟨hb03.trans (h.mono hb03.size), cell_later h hk0', unitR_lasts _ _ _ _ h HW0.out⟩)
    clear hb03 hk0' HW0
    obtain ⟨R, hR2⟩ : ∃ R, R = dropP us := ⟨_, rfl⟩
    obtain ⟨B, hB2⟩ : ∃ B, B = unitB us := ⟨_, rfl⟩
    have HI := Lib.hid (fun (a : Option Addr) (c : Nat) (W : World) (h : SliceRd 3 CodeR W a us.length us) => implDropCodes_any us a c HS.out W h)
    rw [← hR2] at HSR HD HBW HI ⊢
    rw [← hB2] at HI ⊢
    clear hR2 hB2
    have hbb : (B != B) = false := by simp
    have kq := HD.out.cq
    have kg := HD.out.cg
    go_wp2_with fail
    refine (eqUnit_any _ _ ⟨R⟩ W8 (unitR_of_sep HD.out.sep) (HBW.out _ HD.out.below).2.2 HSR.out).mono ?_
    rintro e w9 ⟨rfl, hb9⟩
    have HD9 := Lib.hid (HD.out.later hb9)
    have HO9 := Lib.hid (unitO_keeps.below HOD.out hb9)
    have hx0' := HD9.out.cp
    have hk0' := (HBW.out _ HD9.out.below).2.1
    have HR9 := Lib.hid (show UnitR w9 [.slice ba5 us.length bc5] ⟨us⟩ from unitO_rd _ _ _ _ _ HO9.out)
    have HT := Lib.hid (fun q : Nat => toUnit_any _ ⟨us⟩ (w9.drewN q) (unitR_lasts _ _ _ _ (below_drewN (HBW.out _ HD9.out.below).1 q) hR) HS.out)
    clear kq kg hb9 HD HOD
    -- the argument has not changed
    go_upto_region 10 with fail
    go_cut [45] (fun b wx => b = .bool false ∧ Hid (Below w9.heap.size w9 wx))
    case first =>
      go_region_law (first | (go_simp; go_at_call 7; refine (HT.out _).mono ?_; rintro e w7 ⟨cs7, rfl, hO7, hb7⟩; (obtain ⟨ba7, bc7, rfl, hm7, hg7⟩ := unitO_rd _ _ _ _ _ hO7); (have hR7 : UnitR w7 [.slice ba7 us.length bc7] ⟨us⟩ := ⟨ba7, bc7, rfl, hm7, hg7⟩); clear hg7 hm7; (have hb67 : Below w9.heap.size w9 w7 := ⟨hb7.os, hb7.tape, hb7.output, hb7.size, hb7.block⟩); (have hR67 := unitR_lasts _ _ _ _ hb67 HR9.out); (have hx0'' := cell_later hb67 hx0'); (have hk0'' := cell_later hb67 hk0')) | (go_simp; go_at_call 10; refine (eqUnit_any _ _ ⟨us⟩ w7 hR67 hR7 HS.out).mono ?_; rintro e w8 ⟨rfl, hb8⟩))
      all_goals
        have hb68 := hb67.trans (hb8.mono hb67.size)
        clear hb67 hb8 hb7 hO7 hR7 hR67 hx0'' hk0''
        go_wp2_with fail
        go_meet
        exact ⟨rfl, Lib.hid hb68⟩
    case rest =>
    obtain ⟨rfl, HBC⟩ := hcut
    have HDc := Lib.hid (HD9.out.later HBC.out)
    have HOc := Lib.hid (unitO_keeps.below HO9.out HBC.out)
    have kp := HDc.out.cp
    clear HBC HR9 HT HO9 HD9 hx0' hk0'
    -- marks on the argument
    go_wp2_with fail
    refine (markUnit_any W4.heap.size w5.heap.size _ ⟨us⟩ 1 wc HOc.out HS.out (by omega) (by omega)).mono ?_
    have hcn := sumOf_le5 cntCodeD_le us
    have hcs := HS.out
    unfold szUnitD at hcs
    generalize sumOf cntCodeD us = cn at hcn ⊢
    simp only at hcs
    generalize szS szCodeD us = sn at hcn hcs
    rintro e w10 ⟨rfl, hT10⟩
    have hdk : decide (1 + (cn : Int) < 0) = false := decide_eq_false (by omega)
    have HD10 := Lib.hid (HDc.out.marked hT10 (fun k hk => by have := HSQ.out; omega) (HDc.out.sep.turned codeK_sets hT10 (fun k _ h1 h2 => by have := HSQ.out; omega)))
    clear hT10 HDc HOc hcn hcs kp
    have kq := HD10.out.cq
    have kg := HD10.out.cg
    go_wp2_with fail
    refine (eqUnit_any _ _ ⟨R⟩ w10 (unitR_of_sep HD10.out.sep) (HBW.out _ HD10.out.below).2.2 HSR.out).mono ?_
    rintro e w11 ⟨rfl, hb11⟩
    have HD11 := Lib.hid (HD10.out.later hb11)
    clear hb11 HD10 kq kg hdk
    -- marks on the answer
    have kg := HD11.out.cg
    have hsR : szS szCodeD R ≤ 1048576 := HSR.out
    have HSL := Lib.hid hsR
    clear hsR
    go_wp2_with fail
    refine (markUnit_set _ a7 c7 R 1 w11 HD11.out.sep HSL.out (by omega) (by omega)).mono ?_
    have hcn := sumOf_le5 cntCodeD_le R
    have hcs := HSL.out
    have HH := Lib.hid (fun (W : World) (h : SliceRd 3 CodeR W a7 R.length (renS cntCodeD renCode 1 R)) => heldUnit_any a7 R.length c7 R 1 W h HSL.out (by omega) (by omega))
    generalize sumOf cntCodeD R = cn at hcn HH ⊢
    generalize szS szCodeD R = sn at hcn hcs
    rintro e w12 ⟨rfl, hk12, hT12⟩
    have hdq : decide (1 + (cn : Int) < 0) = false := decide_eq_false (by omega)
    have hqm : ((1 + (cn : Int)) != (1 + (cn : Int))) = false := by simp
    have HD12 := Lib.hid (HD11.out.marked hT12 (fun k hk => by have := HSQ.out; have hk : W6.heap.size ≤ k ∧ k < g := hk; omega) hk12)
    clear hk12 hT12 HD11 kg hcn hcs
    have kg := HD12.out.cg
    go_wp2_with fail
    refine (HH.out _ (HD12.out.sep.rd codeK_rd)).mono ?_
    rintro e w13 ⟨rfl, hb13⟩
    have HD13 := Lib.hid (HD12.out.later hb13)
    clear hb13 HD12 kg
    have ka := (HBW.out _ HD13.out.below).2.1
    -- another call
    go_wp2_with fail
    refine (toUnit_any _ ⟨us⟩ w13 (unitR_lasts _ _ _ _ (HBW.out _ HD13.out.below).1 hR) HS.out).mono ?_
    rintro e w14 ⟨cs14, rfl, hO14, hb14⟩
    obtain ⟨ba14, bc14, rfl, _, hg14⟩ := unitO_rd _ _ _ _ _ hO14
    have hg14 : SliceRd 3 CodeR w14 ba14 us.length us := hg14
    have HD14 := Lib.hid (HD13.out.later hb14)
    clear hO14 hb14 HD13 ka
    go_wp2_with fail
    refine (HI.out ba14 bc14 w14 hg14).mono ?_
    rintro e w15 ⟨a15, c15, rfl, hsep15, hb15⟩
    have HD15 := Lib.hid (HD14.out.later hb15)
    have HK15 := Lib.hid hsep15
    clear hsep15 hb15 HD14 hg14
    go_upto_region 25 with fail
    have hba : Below w15.heap.size w15 (w15.alloc (.cells #[.slice a15 R.length c15] 30)) := (Below.refl _ _).alloc (Nat.le_refl _) _
    have HD16 := Lib.hid (HD15.out.later hba)
    have HK16 := Lib.hid (HK15.out.below codeK_sets hba)
    have kh := cell_of_row _ _ 0 _ _ _ (heap_alloc_new w15 (.cells #[.slice a15 R.length c15] 30))
    simp only [List.getElem?_toArray, List.getElem?_cons_zero] at kh
    generalize w15.alloc (.cells #[.slice a15 R.length c15] 30) = W16 at HD16 HK16 kh ⊢
    generalize w15.heap.size = hp at kh ⊢
    have kq := HD16.out.cq
    clear hba HD15 HK15
    go_wp2_with fail
    refine (eqUnit_any _ _ ⟨R⟩ W16 (unitR_of_sep HK16.out) (HBW.out _ HD16.out.below).2.2 HSR.out).mono ?_
    rintro e w17 ⟨rfl, hb17⟩
    have HD17 := Lib.hid (HD16.out.later hb17)
    clear hb17 HD16 HK16 kh kq
    have kg := HD17.out.cg
    go_wp2_with fail
    refine (HH.out _ (HD17.out.sep.rd codeK_rd)).mono ?_
    rintro e w18 ⟨rfl, hb18⟩
    have HD18 := Lib.hid (HD17.out.later hb18)
    clear hb18 HD17 kg
    go_wp2
    go_ret
    exact ⟨rfl, (HBW.out _ HD18.out.below).1⟩

end Go.Proofs.YtonlidgmfmgcmaaGreat
