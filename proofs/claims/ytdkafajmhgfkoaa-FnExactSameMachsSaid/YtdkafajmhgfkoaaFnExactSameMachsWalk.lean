
/-
  The walk of the law FnExactSameMachs.
-/
import Derived.Test.YtdkafajmhgfkoaaSame
import Derived.Test.YtdkafajmhgfkoaaMachTo
import Derived.Test.YtdkafajmhgfkoaaMachEq
import Derived.Deep.RegionHeld3
import Derived.Deep.RegionLaw
namespace Go.Proofs.Ytdkafajmhgfkoaa
open Go.RowKit

/-- A copy, as its slice reads. -/
theorem toMachC_any (fs : List MfnD) (a : Option Addr) (c : Nat) (w : World) (hU : MachR w [.slice a fs.length c] ⟨fs⟩) (hs : szS szMfnD fs ≤ 1048576) :
    Calls Try.prog 6 #[.agg #[.slice a fs.length c]] w fun e w' => ∃ a' c', e = .returned (.agg #[.slice a' fs.length c']) ∧ MachR w' [.slice a' fs.length c'] ⟨fs⟩ ∧ Below w.heap.size w w' := by
  refine (toMach_any _ ⟨fs⟩ w hU hs).mono ?_
  rintro e w' ⟨cs', rfl, hO, hb⟩
  obtain ⟨a', c', rfl, hm, hr⟩ := machO_rd _ _ _ _ _ hO
  exact ⟨a', c', rfl, ⟨a', c', rfl, hm, hr⟩, hb⟩
theorem machR_rd {w : World} {a : Option Addr} {c : Nat} {fs : List MfnD} (h : MachR w [.slice a fs.length c] ⟨fs⟩) : SliceRd 3 MfnR w a fs.length fs := by
  obtain ⟨a', c', he, _, hr⟩ := h
  simp only [List.cons.injEq, Value.slice.injEq, and_true, true_and] at he
  obtain ⟨rfl, rfl⟩ := he
  exact hr

set_option maxRecDepth 100000 in
set_option maxHeartbeats 4000000 in
theorem fnExactSameMachs_walk (cs : List Value) (x : MachD) (cs' : List Value) (y : MachD) (w : World) (hRA : MachR w cs x) (hRB : MachR w cs' y) :
    Calls Try.prog 3 #[.agg cs.toArray, .agg cs'.toArray] w fun e w' => e = .returned (.bool true) ∧ Below w.heap.size w w' := by
  obtain ⟨fs⟩ := x
  obtain ⟨gs⟩ := y
  have hRA2 := hRA
  have hRB2 := hRB
  obtain ⟨aa, ac, rfl, _, _⟩ := hRA2
  obtain ⟨ba, bc, rfl, _, _⟩ := hRB2
  have hRA : MachR w [.slice aa fs.length ac] ⟨fs⟩ := hRA
  have hRB : MachR w [.slice ba gs.length bc] ⟨gs⟩ := hRB
  show Calls _ _ #[.agg #[.slice aa fs.length ac], .agg #[.slice ba gs.length bc]] w _
  have hb0 : Below w.heap.size w ((w.alloc (.cells #[.slice aa fs.length ac] 24)).alloc (.cells #[.slice ba gs.length bc] 24)) := ((Below.refl _ _).alloc (Nat.le_refl _) _).alloc (by simp) _
  have hA0 := heap_alloc2_old w (.cells #[.slice aa fs.length ac] 24) (.cells #[.slice ba gs.length bc] 24)
  have hB0 := heap_alloc2_new w (.cells #[.slice aa fs.length ac] 24) (.cells #[.slice ba gs.length bc] 24)
  have HW := Lib.hid (And.intro hRA hRB)
  clear hRA hRB
  go_enter Try.func3, Try.ntmps3
  have kA := cell_of_row _ _ 0 _ _ _ hA0
  have kB := cell_of_row _ _ 0 _ _ _ hB0
  simp only [List.getElem?_toArray, List.getElem?_cons_zero] at kA kB
  have H0 := Lib.hid (And.intro hb0 (And.intro hA0 hB0))
  clear hb0 hA0 hB0
  go_wp2_with fail
  generalize ((w.alloc (.cells #[.slice aa fs.length ac] 24)).alloc (.cells #[.slice ba gs.length bc] 24)) = W0 at H0 kA kB ⊢
  refine (szMach_any _ ⟨fs⟩ 1048576 W0 (machR_lasts _ _ _ _ H0.out.1 HW.out.1) (by omega) (by omega)).mono ?_
  rintro e w1 ⟨hsz, hb1⟩
  have kA1 := cell_later hb1 kA
  have kB1 := cell_later hb1 kB
  have H1 := Lib.hid (H0.out.1.trans (hb1.mono H0.out.1.size))
  clear kA kB hb1
  rcases hsz with ⟨hsz, rfl⟩ | ⟨hsz, rfl⟩
  · go_wp2
    go_ret
    exact ⟨rfl, H1.out⟩
  · have hneg : decide (1048576 - (szMachD ⟨fs⟩ : Int) < 0) = false := decide_eq_false (by omega)
    have hsA : szMachD ⟨fs⟩ ≤ 1048576 := by omega
    have hl0 : 0 ≤ (1048576 - (szMachD ⟨fs⟩ : Int)) := by omega
    have hl1 : (1048576 - (szMachD ⟨fs⟩ : Int)) ≤ 1048576 := by omega
    clear hsz
    generalize (1048576 - (szMachD ⟨fs⟩ : Int)) = left at hneg hl0 hl1 ⊢
    go_wp2_with fail
    refine (szMach_any _ ⟨gs⟩ left w1 (machR_lasts _ _ _ _ H1.out HW.out.2) hl0 hl1).mono ?_
    rintro e w2 ⟨hsz, hb2⟩
    have k0 := cell_later hb2 kA1
    have m0 := cell_later hb2 kB1
    have H2 := Lib.hid (H1.out.trans (hb2.mono H1.out.size))
    clear kA1 kB1 hb2 hneg
    rcases hsz with ⟨hsz, rfl⟩ | ⟨hsz, rfl⟩
    · go_wp2
      go_ret
      exact ⟨rfl, H2.out⟩
    · have hneg : decide (left - (szMachD ⟨gs⟩ : Int) < 0) = false := decide_eq_false (by omega)
      have hsB : szMachD ⟨gs⟩ ≤ 1048576 := by omega
      have HS := Lib.hid (show szS szMfnD fs ≤ 1048576 ∧ szS szMfnD gs ≤ 1048576 from ⟨hsA, hsB⟩)
      clear hsz hsA hsB hl0 hl1
      generalize (left - (szMachD ⟨gs⟩ : Int)) = left2 at hneg ⊢
      have HTA := Lib.hid (fun (W : World) (hW : Below w2.heap.size w2 W) => toMachC_any fs aa ac W (machR_lasts _ _ _ _ (H2.out.trans (hW.mono H2.out.size)) HW.out.1) HS.out.1)
      have HTB := Lib.hid (fun (W : World) (hW : Below w2.heap.size w2 W) => toMachC_any gs ba bc W (machR_lasts _ _ _ _ (H2.out.trans (hW.mono H2.out.size)) HW.out.2) HS.out.2)
      go_upto_region 8 with fail
      clear hneg
      go_cut [6] (fun v wx => v = .bool (sameP fs gs) ∧ Hid (Below w2.heap.size w2 wx))
      case first =>
        refine wp_region_held_drew (S := (fun W => W.cell? ⟨w.heap.size, 0, none⟩ = some (.slice aa fs.length ac) ∧ W.cell? ⟨w.heap.size + 1, 0, none⟩ = some (.slice ba gs.length bc))) (by kernel_rfl) ⟨k0, m0⟩ (fun hHeld => ?_)
        refine wpAnyH_take (i := 0) (oi := ⟨some 20, _, _, _, _, _⟩) (v := ?_) rfl (by kernel_rfl) (by kernel_rfl) (by kernel_rfl) (fun _ _ _ h => h) (Or.inl ⟨by rfl, ?_⟩) (by assumption) ?_
        rotate_left
        · (intro w hSw; (try dsimp only at hSw); go_simp; all_goals (try with_reducible rfl))
        (try simp only [Act.put, List.setIfInBounds_toArray, List.set_cons_zero, List.set_cons_succ])
        refine wpAnyH_take (i := 2) (oi := ⟨some 22, _, _, _, _, _⟩) (v := ?_) rfl (by kernel_rfl) (by kernel_rfl) (by kernel_rfl) (fun _ _ _ h => h) (Or.inl ⟨by rfl, ?_⟩) (by assumption) ?_
        rotate_left
        · (intro w hSw; (try dsimp only at hSw); go_simp; all_goals (try with_reducible rfl))
        (try simp only [Act.put, List.setIfInBounds_toArray, List.set_cons_zero, List.set_cons_succ])
        refine wpAnyH_ready (rs := [1]) (by kernel_rfl) (by simp) ?_
        refine AllReadyH.cons (o := ⟨some 21, _, _, _, _, _⟩) rfl (fun K hK => ?_) AllReadyH.nil
        go_simp
        (go_at_call 6; refine (HTA.out _ (show Below w2.heap.size w2 _ from (Below.refl _ _).drew)).mono ?_; rintro e w3 ⟨ca3, cc3, rfl, hU3, hb3⟩; (have HB3 := Lib.hid (show Below w2.heap.size w2 w3 from ⟨hb3.os, hb3.tape, hb3.output, hb3.size, hb3.block⟩)); (have HU3 := Lib.hid hU3); clear hb3 hU3)
        refine hK.out _ _ ⟨cell_later HB3.out k0, cell_later HB3.out m0⟩ (fun hHeld2 => ?_)
        clear hK K hHeld
        have hHeld := hHeld2
        clear hHeld2
        (try simp only [Act.put, List.setIfInBounds_toArray, List.set_cons_zero, List.set_cons_succ])
        refine wpAnyH_ready (rs := [3]) (by kernel_rfl) (by simp) ?_
        refine AllReadyH.cons (o := ⟨some 23, _, _, _, _, _⟩) rfl (fun K hK => ?_) AllReadyH.nil
        go_simp
        (go_at_call 6; refine (HTB.out _ HB3.out).mono ?_; rintro e w4 ⟨ca4, cc4, rfl, hU4, hb4⟩; (have HB4 := Lib.hid (HB3.out.trans (hb4.mono HB3.out.size))); (have HU4 := Lib.hid (And.intro (machR_lasts _ _ _ _ hb4 HU3.out) hU4)); clear hb4 hU4)
        refine hK.out _ _ ⟨cell_later HB4.out k0, cell_later HB4.out m0⟩ (fun hHeld2 => ?_)
        clear hK K hHeld
        have hHeld := hHeld2
        clear hHeld2
        (try simp only [Act.put, List.setIfInBounds_toArray, List.set_cons_zero, List.set_cons_succ])
        refine wpAnyH_ready (rs := [4]) (by kernel_rfl) (by simp) ?_
        refine AllReadyH.cons (o := ⟨some 24, _, _, _, _, _⟩) rfl (fun K hK => ?_) AllReadyH.nil
        go_simp
        (go_at_call 5; refine (specSameMachs_any fs gs ca3 ca4 cc3 cc4 w4 (machR_rd HU4.out.1) (machR_rd HU4.out.2) HS.out.1 HS.out.2).mono ?_; rintro e w5 ⟨rfl, hb5⟩; (have HB5 := Lib.hid (HB4.out.trans (hb5.mono HB4.out.size))); clear hb5)
        refine hK.out _ _ ⟨cell_later HB5.out k0, cell_later HB5.out m0⟩ (fun hHeld2 => ?_)
        clear hK K hHeld
        have hHeld := hHeld2
        clear hHeld2
        (try simp only [Act.put, List.setIfInBounds_toArray, List.set_cons_zero, List.set_cons_succ])
        refine wpAnyH_take (i := 5) (oi := ⟨some 6, _, _, _, _, _⟩) (v := ?_) rfl (by kernel_rfl) (by kernel_rfl) (by kernel_rfl) (fun _ _ _ h => h) (Or.inl ⟨by rfl, ?_⟩) (by assumption) ?_
        rotate_left
        · (intro w hSw; (try dsimp only at hSw); go_simp; all_goals (try with_reducible rfl))
        (try simp only [Act.put, List.setIfInBounds_toArray, List.set_cons_zero, List.set_cons_succ])
        refine wpAnyH_done (by kernel_rfl) ?_ _
        go_wp2_with fail
        go_meet
        exact ⟨rfl, Lib.hid HB5.out⟩
      case rest =>
      obtain ⟨rfl, HC⟩ := hcut
      have kA := cell_later HC.out k0
      have kB := cell_later HC.out m0
      clear k0 m0
      -- the arguments' copies, and the program's answer
      go_wp2_with fail
      refine (HTA.out wc HC.out).mono ?_
      rintro e w3 ⟨xa, xc, rfl, hX, hb3⟩
      have hba : Below w3.heap.size w3 (w3.alloc (.cells #[.slice xa fs.length xc] 29)) := (Below.refl _ _).alloc (Nat.le_refl _) _
      have HX := Lib.hid (And.intro (HC.out.trans ((hb3.trans (hba.mono hb3.size)).mono HC.out.size)) (And.intro (heap_alloc_new w3 (.cells #[.slice xa fs.length xc] 29)) (machR_lasts _ _ _ _ hba hX)))
      have kA2 := cell_later (hb3.trans (hba.mono hb3.size)) kA
      have kB2 := cell_later (hb3.trans (hba.mono hb3.size)) kB
      clear kA kB hba hb3 hX
      go_wp2_with fail
      generalize w3.alloc (.cells #[.slice xa fs.length xc] 29) = W4 at HX kA2 kB2 ⊢
      obtain ⟨bxa, hbxa⟩ : ∃ b, b = w3.heap.size := ⟨_, rfl⟩
      rw [← hbxa] at HX ⊢
      clear hbxa
      refine (HTB.out W4 HX.out.1).mono ?_
      rintro e w5 ⟨ya, yc, rfl, hY, hb5⟩
      have hba : Below w5.heap.size w5 (w5.alloc (.cells #[.slice ya gs.length yc] 29)) := (Below.refl _ _).alloc (Nat.le_refl _) _
      have hb45 := hb5.trans (hba.mono hb5.size)
      have HY := Lib.hid (And.intro (HX.out.1.trans (hb45.mono HX.out.1.size)) (And.intro (heap_alloc_new w5 (.cells #[.slice ya gs.length yc] 29)) (And.intro (machR_lasts _ _ _ _ hba hY) (And.intro ((hb45.block _ (Array.getElem?_eq_some_iff.1 HX.out.2.1).1).trans HX.out.2.1) (machR_lasts _ _ _ _ hb45 HX.out.2.2)))))
      have kA3 := cell_later hb45 kA2
      have kB3 := cell_later hb45 kB2
      have kX := cell_of_row _ _ 0 _ _ _ HY.out.2.2.2.1
      have kY := cell_of_row _ _ 0 _ _ _ HY.out.2.1
      simp only [List.getElem?_toArray, List.getElem?_cons_zero] at kX kY
      clear kA2 kB2 hba hb5 hb45 hY HX
      go_wp2_with fail
      generalize w5.alloc (.cells #[.slice ya gs.length yc] 29) = W6 at HY kA3 kB3 kX kY ⊢
      obtain ⟨bya, hbya⟩ : ∃ b, b = w5.heap.size := ⟨_, rfl⟩
      rw [← hbya] at HY kY ⊢
      clear hbya
      refine (implSameMachs_any fs gs xa ya xc yc W6 (machR_rd HY.out.2.2.2.2) (machR_rd HY.out.2.2.1) HS.out.1 HS.out.2).mono ?_
      rintro e w7 ⟨rfl, hb7⟩
      generalize sameP fs gs = v
      have hne : (v != v) = false := by simp
      have HB7 := Lib.hid (And.intro (HY.out.1.trans (hb7.mono HY.out.1.size)) (And.intro (machR_lasts _ _ _ _ hb7 HY.out.2.2.2.2) (machR_lasts _ _ _ _ hb7 HY.out.2.2.1)))
      have kA4 := cell_later hb7 kA3
      have kB4 := cell_later hb7 kB3
      have kX4 := cell_later hb7 kX
      have kY4 := cell_later hb7 kY
      clear kA3 kB3 kX kY hb7 HY
      -- the arguments have not changed
      go_upto_region 14 with fail
      clear hne
      go_cut [39] (fun b wx => b = .bool false ∧ Hid (Below w7.heap.size w7 wx))
      case first =>
        have HT := Lib.hid (fun q : Nat => HTA.out (w7.drewN q) (below_drewN HB7.out.1 q))
        go_region_law (first | (go_simp; go_at_call 6; refine (HT.out _).mono ?_; rintro e w8 ⟨ta, tc, rfl, hU8, hb8⟩; (have hb78 : Below w7.heap.size w7 w8 := ⟨hb8.os, hb8.tape, hb8.output, hb8.size, hb8.block⟩); (have hX8 := machR_lasts _ _ _ _ hb78 HB7.out.2.1); (have kA8 := cell_later hb78 kA4); (have kX8 := cell_later hb78 kX4)) | (go_simp; go_at_call 8; refine (eqMach_any _ _ ⟨fs⟩ w8 hX8 hU8 HS.out.1).mono ?_; rintro e w9 ⟨rfl, hb9⟩))
        all_goals
          have hb79 := hb78.trans (hb9.mono hb78.size)
          clear hb78 hb9 hb8 hU8 hX8 kA8 kX8
          go_wp2_with fail
          go_meet
          exact ⟨rfl, Lib.hid hb79⟩
      case rest =>
      obtain ⟨rfl, HD⟩ := hcut
      have kB5 := cell_later HD.out kB4
      have kY5 := cell_later HD.out kY4
      have HY5 := Lib.hid (machR_lasts _ _ _ _ HD.out HB7.out.2.2)
      have HBD := Lib.hid (HB7.out.1.trans (HD.out.mono HB7.out.1.size))
      have HT := Lib.hid (fun q : Nat => HTB.out (wc.drewN q) (below_drewN HBD.out q))
      clear kA4 kB4 kX4 kY4
      go_wp2_with fail
      go_region_law (first | (go_simp; go_at_call 6; refine (HT.out _).mono ?_; rintro e w8 ⟨ta, tc, rfl, hU8, hb8⟩; (have hb78 : Below wc.heap.size wc w8 := ⟨hb8.os, hb8.tape, hb8.output, hb8.size, hb8.block⟩); (have hX8 := machR_lasts _ _ _ _ hb78 HY5.out); (have kA8 := cell_later hb78 kB5); (have kX8 := cell_later hb78 kY5)) | (go_simp; go_at_call 8; refine (eqMach_any _ _ ⟨gs⟩ w8 hX8 hU8 HS.out.2).mono ?_; rintro e w9 ⟨rfl, hb9⟩))
      all_goals
        have HE := Lib.hid (H2.out.trans ((HBD.out.trans ((hb78.trans (hb9.mono hb78.size)).mono HBD.out.size)).mono H2.out.size))
        clear hb78 hb9 hb8 hU8 hX8 kA8 kX8
        go_wp2
        go_ret
        exact ⟨rfl, HE.out⟩

end Go.Proofs.Ytdkafajmhgfkoaa
