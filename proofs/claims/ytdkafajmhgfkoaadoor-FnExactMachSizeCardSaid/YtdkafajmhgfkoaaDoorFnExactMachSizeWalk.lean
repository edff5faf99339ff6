
/-
  The walk of the law FnExactMachSize.
-/
import Derived.Test.YtdkafajmhgfkoaaDoorMs
import Derived.Test.YtdkafajmhgfkoaaDoorMachTo
import Derived.Test.YtdkafajmhgfkoaaDoorMachEq
import Derived.Deep.RegionLaw
namespace Go.Proofs.YtdkafajmhgfkoaaDoor
open Go.RowKit
/-- A copy, as its slice reads. -/
theorem toMachC_any (fs : List MfnD) (a : Option Addr) (c : Nat) (w : World) (hU : MachR w [.slice a fs.length c] ⟨fs⟩) (hs : szS szMfnD fs ≤ 1048576) :
    Calls Tryd.prog 15 #[.agg #[.slice a fs.length c]] w fun e w' => ∃ a' c', e = .returned (.agg #[.slice a' fs.length c']) ∧ MachR w' [.slice a' fs.length c'] ⟨fs⟩ ∧ Below w.heap.size w w' := by
  refine (toMach_any _ ⟨fs⟩ w hU hs).mono ?_
  rintro e w' ⟨cs', rfl, hO, hb⟩
  obtain ⟨a', c', rfl, hm, hr⟩ := machO_rd _ _ _ _ _ hO
  exact ⟨a', c', rfl, ⟨a', c', rfl, hm, hr⟩, hb⟩
theorem machR_rd {w : World} {a : Option Addr} {c : Nat} {fs : List MfnD} (h : MachR w [.slice a fs.length c] ⟨fs⟩) : SliceRd 3 MfnR w a fs.length fs := by
  obtain ⟨a', c', he, _, hr⟩ := h
  simp only [List.cons.injEq, Value.slice.injEq, and_true, true_and] at he
  obtain ⟨rfl, rfl⟩ := he
  exact hr


set_option maxRecDepth 100000 in
set_option maxHeartbeats 4000000 in
theorem fnExactMachSize_walk (cs : List Value) (x : MachD) (w : World) (hFA : FormsAt w) (hRA : MachR w cs x) :
    Calls Tryd.prog 6 #[.agg cs.toArray] w fun e w' => e = .returned (.bool true) ∧ Below w.heap.size w w' := by
  obtain ⟨fs⟩ := x
  have hRA2 := hRA
  obtain ⟨aa, ac, rfl, _, _⟩ := hRA2
  have hRA : MachR w [.slice aa fs.length ac] ⟨fs⟩ := hRA
  show Calls _ _ #[.agg #[.slice aa fs.length ac]] w _
  have hb0 : Below w.heap.size w (w.alloc (.cells #[.slice aa fs.length ac] 35)) := (Below.refl _ _).alloc (Nat.le_refl _) _
  have hA0 := heap_alloc_new w (.cells #[.slice aa fs.length ac] 35)
  have HW := Lib.hid (And.intro hRA hFA)
  clear hRA hFA
  go_enter Tryd.func6, Tryd.ntmps6
  have kA := cell_of_row _ _ 0 _ _ _ hA0
  simp only [List.getElem?_toArray, List.getElem?_cons_zero] at kA
  have H0 := Lib.hid hb0
  clear hb0 hA0
  go_wp2_with fail
  generalize (w.alloc (.cells #[.slice aa fs.length ac] 35)) = W0 at H0 kA ⊢
  refine (szMach_any _ ⟨fs⟩ 1048576 W0 (machR_lasts _ _ _ _ H0.out HW.out.1) (by omega) (by omega)).mono ?_
  rintro e w1 ⟨hsz, hb1⟩
  have kA1 := cell_later hb1 kA
  have H1 := Lib.hid (H0.out.trans (hb1.mono H0.out.size))
  clear kA hb1
  rcases hsz with ⟨hsz, rfl⟩ | ⟨hsz, rfl⟩
  · go_wp2
    go_ret
    exact ⟨rfl, H1.out⟩
  · have hneg : decide (1048576 - (szMachD ⟨fs⟩ : Int) < 0) = false := decide_eq_false (by omega)
    have HS := Lib.hid (show szS szMfnD fs ≤ 1048576 from (by omega : szMachD ⟨fs⟩ ≤ 1048576))
    clear hsz
    generalize (1048576 - (szMachD ⟨fs⟩ : Int)) = left at hneg ⊢
    have HTA := Lib.hid (fun (W : World) (hW : Below w1.heap.size w1 W) => toMachC_any fs aa ac W (machR_lasts _ _ _ _ (H1.out.trans (hW.mono H1.out.size)) HW.out.1) HS.out)
    go_wp2_with fail
    clear hneg
    refine (HTA.out _ (Below.refl _ _)).mono ?_
    rintro e w2 ⟨xa, xc, rfl, hX, hb2⟩
    have k2 := cell_later hb2 kA1
    go_wp2_with fail
    refine (specMachSize_any fs xa xc HS.out w2 (machR_rd hX)).mono ?_
    rintro e w3 ⟨rfl, hb3⟩
    have k3 := cell_later hb3 k2
    have HB3 := Lib.hid (hb2.trans (hb3.mono hb2.size))
    clear kA1 k2 hX hb2 hb3
    go_wp2_with fail
    refine (HTA.out _ HB3.out).mono ?_
    rintro e w4 ⟨ya, yc, rfl, hY, hb4⟩
    have hba : Below w4.heap.size w4 (w4.alloc (.cells #[.slice ya fs.length yc] 25)) := (Below.refl _ _).alloc (Nat.le_refl _) _
    have hb45 := hb4.trans (hba.mono hb4.size)
    have HY := Lib.hid (And.intro (HB3.out.trans (hb45.mono HB3.out.size)) (And.intro (heap_alloc_new w4 (.cells #[.slice ya fs.length yc] 25)) (machR_lasts _ _ _ _ hba hY)))
    have k5 := cell_later hb45 k3
    have kY := cell_of_row _ _ 0 _ _ _ HY.out.2.1
    simp only [List.getElem?_toArray, List.getElem?_cons_zero] at kY
    clear k3 hba hb4 hb45 hY
    go_wp2_with fail
    generalize w4.alloc (.cells #[.slice ya fs.length yc] 25) = W5 at HY k5 kY ⊢
    obtain ⟨by1, hby⟩ : ∃ b, b = w4.heap.size := ⟨_, rfl⟩
    rw [← hby] at HY kY ⊢
    clear hby
    refine (implMachSize_any fs ya yc HS.out W5 ((HW.out.2.later (H1.out.trans (HY.out.1.mono H1.out.size)))) (machR_rd HY.out.2.2)).mono ?_
    rintro e w6 ⟨rfl, hb6⟩
    generalize machS fs = v
    have hne : (v != v) = false := by simp
    have HB6 := Lib.hid (And.intro (HY.out.1.trans (hb6.mono HY.out.1.size)) (machR_lasts _ _ _ _ hb6 HY.out.2.2))
    have k6 := cell_later hb6 k5
    have kY6 := cell_later hb6 kY
    clear k5 kY hb6 HY
    have HT := Lib.hid (fun q : Nat => HTA.out (w6.drewN q) (below_drewN HB6.out.1 q))
    go_upto_region 10 with fail
    clear hne
    go_region_law (first | (go_simp; go_at_call 15; refine (HT.out _).mono ?_; rintro e w8 ⟨ta, tc, rfl, hU8, hb8⟩; (have hb78 : Below w6.heap.size w6 w8 := ⟨hb8.os, hb8.tape, hb8.output, hb8.size, hb8.block⟩); (have hX8 := machR_lasts _ _ _ _ hb78 HB6.out.2); (have kA8 := cell_later hb78 k6); (have kX8 := cell_later hb78 kY6)) | (go_simp; go_at_call 16; refine (eqMach_any _ _ ⟨fs⟩ w8 hX8 hU8 HS.out).mono ?_; rintro e w9 ⟨rfl, hb9⟩))
    all_goals
      have HE := Lib.hid (H1.out.trans ((HB6.out.1.trans ((hb78.trans (hb9.mono hb78.size)).mono HB6.out.1.size)).mono H1.out.size))
      clear hb78 hb9 hb8 hU8 hX8 kA8 kX8
      go_wp2
      go_ret
      exact ⟨rfl, HE.out⟩

end Go.Proofs.YtdkafajmhgfkoaaDoor
