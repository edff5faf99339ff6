/-
  The walk of the law FnStmtCount, from what l3Bent gives.
-/
import Derived.Test.YtccfbnhlhjlmgaaDoorGi
import Derived.Test.YtccfbnhlhjlmgaaDoorNumbers

namespace Go.Proofs.YtccfbnhlhjlmgaaDoor
open Go.RowKit
set_option linter.unusedVariables false

set_option maxRecDepth 100000 in
set_option maxHeartbeats 8000000 in
theorem fnStmtCount_walk (hBent : BentC) (a : Option Addr) (len cap : Nat) (zs : List Int) (w : World) (hO : OpsAt w) (hK : KeysAt w) (hrow : IsRow .u8 w a len cap zs) :
    Calls Tryd.prog 7 #[.slice a len cap] w fun e w' => e = .returned (.bool true) ∧ Below w.heap.size w w' := by
  have hin := bytes_of_row hrow
  have hcap := cap_of_row hrow
  clear hrow
  by_cases hbig : 1048576 < len
  · go_enter Tryd.func7, Tryd.ntmps7
    go_wp2
    go_ret
    exact ⟨rfl, Below.refl _ _⟩
  go_enter Tryd.func7, Tryd.ntmps7
  go_wp2_with fail
  refine (drawStmtCount_any hBent w a len cap _ hin hcap).mono ?_
  rintro e w1 ⟨pa, pc, ps, rfl, hl, hx, hb1⟩
  have hba : Below w1.heap.size w1 (w1.alloc (.cells #[.slice pa ps.length pc] 34)) := (Below.refl _ _).alloc (Nat.le_refl _) _
  have HW := Lib.hid (show Below w.heap.size w (w1.alloc (.cells #[.slice pa ps.length pc] 34)) ∧ OpsAt (w1.alloc (.cells #[.slice pa ps.length pc] 34)) ∧ KeysAt (w1.alloc (.cells #[.slice pa ps.length pc] 34)) ∧ ListK 3 (FnP 20) (fun _ => True) (w1.alloc (.cells #[.slice pa ps.length pc] 34)) pa ps ∧ ps.length ≤ 4 from
    ⟨hb1.trans (hba.mono hb1.size), (hO.later hb1).later hba, (hK.later hb1).later hba, (hx.below (fnP_stays 20) hba).mono (fnP_stays 20) (fun _ _ _ => trivial), hl⟩)
  have p0 := cell_of_row _ _ 0 _ _ _ (heap_alloc_new w1 (.cells #[.slice pa ps.length pc] 34))
  simp only [List.getElem?_toArray, List.getElem?_cons_zero] at p0
  clear hO hK hin hcap hbig hl hx hb1 hba
  go_upto_region 4 with fail
  obtain ⟨tb, htb⟩ : ∃ n, n = w1.heap.size := ⟨_, rfl⟩
  generalize w1.alloc (.cells #[.slice pa ps.length pc] 34) = w2 at HW p0 ⊢
  rw [← htb] at p0 ⊢
  clear htb
  have HC0 := Lib.hid p0
  have HIC := Lib.hid (show ∀ W, Below w2.heap.size w2 W → Calls Tryd.prog 27 #[.agg #[.slice pa ps.length pc]] W fun e w' => e = .returned (.int .i64 (countP ps)) ∧ Hid (Below w2.heap.size w2 w') from fun W hW =>
    (stmtCountI_any 20 (fun _ => True) pa pc ps W (HW.out.2.1.later hW) (HW.out.2.2.1.later hW) (HW.out.2.2.2.1.below (fnP_stays 20) hW) (by have := HW.out.2.2.2.2; omega)).mono fun e w' h => ⟨h.1, Lib.hid (hW.trans (h.2.mono hW.size))⟩)
  have HIN := Lib.hid (show ∀ W, Below w2.heap.size w2 W → Calls Tryd.prog 28 #[.agg #[.slice pa ps.length pc]] W fun e w' => e = .returned (.int .i64 (deepP ps)) ∧ Hid (Below w2.heap.size w2 w') from fun W hW =>
    (nestOfI_any 20 (fun _ => True) pa pc ps W (HW.out.2.1.later hW) (HW.out.2.2.1.later hW) (HW.out.2.2.2.1.below (fnP_stays 20) hW) (by have := HW.out.2.2.2.2; omega)).mono fun e w' h => ⟨h.1, Lib.hid (hW.trans (h.2.mono hW.size))⟩)
  have HSC := Lib.hid (show ∀ W, Below w2.heap.size w2 W → Calls Tryd.prog 33 #[.agg #[.slice pa ps.length pc]] W fun e w' => e = .returned (.int .i64 (countP ps)) ∧ Hid (Below w2.heap.size w2 w') from fun W hW =>
    (stmtCountS_any 20 (fun _ => True) pa pc ps W (HW.out.2.2.2.1.below (fnP_stays 20) hW) (by have := HW.out.2.2.2.2; omega)).mono fun e w' h => ⟨h.1, Lib.hid (hW.trans (h.2.mono hW.size))⟩)
  have HSN := Lib.hid (show ∀ W, Below w2.heap.size w2 W → Calls Tryd.prog 34 #[.agg #[.slice pa ps.length pc]] W fun e w' => e = .returned (.int .i64 (deepP ps)) ∧ Hid (Below w2.heap.size w2 w') from fun W hW =>
    (nestOfS_any 20 (fun _ => True) pa pc ps W (HW.out.2.2.2.1.below (fnP_stays 20) hW) (by have := HW.out.2.2.2.2; omega)).mono fun e w' h => ⟨h.1, Lib.hid (hW.trans (h.2.mono hW.size))⟩)
  have HIV := Lib.hid (show ∀ W, Below w2.heap.size w2 W → Calls Tryd.prog 21 #[.agg #[.slice pa ps.length pc]] W fun e w' => e = .returned (.bool (progB ps)) ∧ Hid (Below w2.heap.size w2 w') from fun W hW =>
    (progValidI_any 20 (fun _ => True) pa pc ps W (HW.out.2.1.later hW) (HW.out.2.2.1.later hW) (HW.out.2.2.2.1.below (fnP_stays 20) hW) (by have := HW.out.2.2.2.2; omega)).mono fun e w' h => ⟨h.1, Lib.hid (hW.trans (h.2.mono hW.size))⟩)
  go_region_held3 (fun W => W.cell? ⟨tb, 0, none⟩ = some (.slice pa ps.length pc)) (exact cell_later (by repeat (first | exact hB6.out | exact hB5.out | exact Below.refl _ _ | apply later_drew)) HC0.out) (first | (go_at_call 27; refine (HIC.out _ (by repeat (first | exact hB6.out | exact Below.refl _ _ | apply later_drew))).mono ?_; rintro e w5 ⟨rfl, hB5⟩) | (go_at_call 28; refine (HIN.out _ (by repeat (first | exact hB5.out | exact Below.refl _ _ | apply later_drew))).mono ?_; rintro e w6 ⟨rfl, hB6⟩))
  all_goals
    have c5 := cell_later hB5.out HC0.out
    have c6 := cell_later hB6.out HC0.out
    have hn1 : (countP ps != countP ps) = false := by simp
    have hn2 : (deepP ps != deepP ps) = false := by simp
    have he1 : (countP ps == countP ps) = true := by simp
    have he2 : (deepP ps == deepP ps) = true := by simp
    go_wp2_with fail
    refine (HSC.out _ (by repeat (first | exact hB6.out | exact hB5.out | exact Below.refl _ _ | apply later_drew))).mono ?_
    rintro e w7 ⟨rfl, hB7⟩
    have c7 := cell_later hB7.out HC0.out
    clear c5 c6
    go_wp2_with fail
    refine (HSN.out _ (by repeat (first | exact hB7.out | exact Below.refl _ _ | apply later_drew))).mono ?_
    rintro e w8 ⟨rfl, hB8⟩
    have c8 := cell_later hB8.out HC0.out
    clear c7
    have HV := Lib.hid (show (progB ps = false → countP ps = -1 ∧ deepP ps = -1) ∧ (progB ps = true → countP ps = (cntP ps : Nat) ∧ deepP ps = (nestP ps : Nat)) from ⟨fun h => by simp [countP, deepP, h], fun h => by simp [countP, deepP, h]⟩)
    cases hv : progB ps with
    | false =>
      obtain ⟨hN, hM⟩ := HV.out.1 hv
      have hd : decide (countP ps < 0) = true := decide_eq_true (by omega)
      have hm1 : (deepP ps == -1) = true := by rw [hM]; rfl
      rw [hv] at HIV
      clear hv
      go_wp2_with fail
      refine (HSC.out _ (by repeat (first | exact hB8.out | exact Below.refl _ _ | apply later_drew))).mono ?_
      rintro e w9 ⟨rfl, hB9⟩
      have c9 := cell_later hB9.out HC0.out
      clear c8
      go_wp2_with fail
      refine (HSN.out _ (by repeat (first | exact hB9.out | exact Below.refl _ _ | apply later_drew))).mono ?_
      rintro e w10 ⟨rfl, hB10⟩
      have c10 := cell_later hB10.out HC0.out
      clear c9
      go_wp2_with fail
      refine (HIV.out _ (by repeat (first | exact hB10.out | exact Below.refl _ _ | apply later_drew))).mono ?_
      rintro e w11 ⟨rfl, hB11⟩
      clear c10
      go_wp2
      go_ret
      exact ⟨rfl, HW.out.1.trans (hB11.out.mono HW.out.1.size)⟩
    | true =>
      obtain ⟨hN, hM⟩ := HV.out.2 hv
      have hd : decide (countP ps < 0) = false := decide_eq_false (by omega)
      have HSM := Lib.hid (progB_small hv)
      have HV1 := Lib.hid (fun x (hx : x ∈ ps) => progB_one hv hx)
      have HNM := Lib.hid (And.intro hN hM)
      have HPL := Lib.hid HW.out.2.2.2.2
      clear hv he1 he2 hn1 hn2
      rw [hN, hM]
      have hps : (ps.length : Int) ≤ 4 := by have := HW.out.2.2.2.2; omega
      go_wp2_with fail
      clear c8 hN hM hd
      go_loopg [6, 7, 56] ps.length (fun G s6 s7 i wr => ∃ j : Nat, j + G = ps.length ∧ s6 = .int .i64 ((cntP (ps.take j) : Nat) : Int) ∧ s7 = .int .i64 ((nestP (ps.take j) : Nat) : Int) ∧ i = .int .i64 j ∧ Hid (Below w2.heap.size w2 wr))
      case atStart => exact ⟨0, by omega, rfl, rfl, rfl, Lib.hid hB8.out⟩
      case round =>
        obtain ⟨j, hj, rfl, rfl, rfl, HR⟩ := hrel
        by_cases hlt : j < ps.length
        · obtain ⟨b, off, x, xa, xc, ya, yc, rfl, hx, hF, d0, d1, d2⟩ := fn_place (HW.out.2.2.2.1.below (fnP_stays 20) HR.out) hlt
          have hji : (j : Int) < (ps.length : Int) := by omega
          have hone := HV1.out x (List.mem_of_getElem? hx)
          have HSUM := Lib.hid (show cntP (ps.take (j + 1)) = cntP (ps.take j) + cntP [x] ∧ nestP (ps.take (j + 1)) = max (nestP (ps.take j)) (nestP [x]) ∧ countP [x] = (cntP [x] : Nat) ∧ deepP [x] = (nestP [x] : Nat) from
            ⟨by rw [hone.2.1]; exact sumN_take hx, by rw [hone.2.2]; exact maxN_take hx, by simp [countP, hone.1], by simp [deepP, hone.1]⟩)
          have hrow1 := heap_alloc_new wr (.cells #[.string x.name, .slice xa x.params.length xc, .slice ya x.body.length yc] 41)
          have e0 := cell_of_row _ _ 0 _ _ _ hrow1
          have e1 := cell_of_row _ _ 1 _ _ _ hrow1
          have e2 := cell_of_row _ _ 2 _ _ _ hrow1
          simp only [List.getElem?_toArray, List.getElem?_cons_zero, List.getElem?_cons_succ] at e0 e1 e2
          have H3 := Lib.hid (show Below w2.heap.size w2 (((wr.alloc (.cells #[.string x.name, .slice xa x.params.length xc, .slice ya x.body.length yc] 41)).alloc (.cells #[.string x.name, .slice xa x.params.length xc, .slice ya x.body.length yc] 41)).alloc (.cells #[.slice (some ⟨wr.heap.size + 1, 0, none⟩) 1 1] 34)) ∧ ListK 3 (FnP 20) (fun _ => True) (((wr.alloc (.cells #[.string x.name, .slice xa x.params.length xc, .slice ya x.body.length yc] 41)).alloc (.cells #[.string x.name, .slice xa x.params.length xc, .slice ya x.body.length yc] 41)).alloc (.cells #[.slice (some ⟨wr.heap.size + 1, 0, none⟩) 1 1] 34)) (some ⟨wr.heap.size + 1, 0, none⟩) [x] ∧ (((wr.alloc (.cells #[.string x.name, .slice xa x.params.length xc, .slice ya x.body.length yc] 41)).alloc (.cells #[.string x.name, .slice xa x.params.length xc, .slice ya x.body.length yc] 41)).alloc (.cells #[.slice (some ⟨wr.heap.size + 1, 0, none⟩) 1 1] 34)).cell? ⟨wr.heap.size + 1 + 1, 0, none⟩ = some (.slice (some ⟨wr.heap.size + 1, 0, none⟩) 1 1) from by
            have hb : Below wr.heap.size wr (((wr.alloc (.cells #[.string x.name, .slice xa x.params.length xc, .slice ya x.body.length yc] 41)).alloc (.cells #[.string x.name, .slice xa x.params.length xc, .slice ya x.body.length yc] 41)).alloc (.cells #[.slice (some ⟨wr.heap.size + 1, 0, none⟩) 1 1] 34)) := (((Below.refl _ _).alloc (Nat.le_refl _) _).alloc (by simp) _).alloc (by simp; omega) _
            have hb2 : Below ((wr.alloc (.cells #[.string x.name, .slice xa x.params.length xc, .slice ya x.body.length yc] 41)).alloc (.cells #[.string x.name, .slice xa x.params.length xc, .slice ya x.body.length yc] 41)).heap.size ((wr.alloc (.cells #[.string x.name, .slice xa x.params.length xc, .slice ya x.body.length yc] 41)).alloc (.cells #[.string x.name, .slice xa x.params.length xc, .slice ya x.body.length yc] 41)) (((wr.alloc (.cells #[.string x.name, .slice xa x.params.length xc, .slice ya x.body.length yc] 41)).alloc (.cells #[.string x.name, .slice xa x.params.length xc, .slice ya x.body.length yc] 41)).alloc (.cells #[.slice (some ⟨wr.heap.size + 1, 0, none⟩) 1 1] 34)) := (Below.refl _ _).alloc (Nat.le_refl _) _
            have hl := ListK.one (fnP_stays 20) (S := fun _ => True) (heap_alloc_new (wr.alloc (.cells #[.string x.name, .slice xa x.params.length xc, .slice ya x.body.length yc] 41)) (.cells #[.string x.name, .slice xa x.params.length xc, .slice ya x.body.length yc] 41)) trivial ((fnP_stays 20).below (((Below.refl wr.heap.size wr).alloc (Nat.le_refl _) _).alloc (by simp) _) hF)
            rw [World.size_alloc] at hl
            have hp := heap_alloc_new ((wr.alloc (.cells #[.string x.name, .slice xa x.params.length xc, .slice ya x.body.length yc] 41)).alloc (.cells #[.string x.name, .slice xa x.params.length xc, .slice ya x.body.length yc] 41)) (.cells #[.slice (some ⟨wr.heap.size + 1, 0, none⟩) 1 1] 34)
            rw [World.size_alloc, World.size_alloc] at hp
            exact ⟨HR.out.trans (hb.mono HR.out.size), hl.below (fnP_stays 20) hb2, cell_of_row _ _ 0 _ _ _ hp⟩)
          clear hF hx hone hrow1
          go_upto_region 12 with fail
          generalize ((wr.alloc (.cells #[.string x.name, .slice xa x.params.length xc, .slice ya x.body.length yc] 41)).alloc (.cells #[.string x.name, .slice xa x.params.length xc, .slice ya x.body.length yc] 41)).alloc (.cells #[.slice (some ⟨wr.heap.size + 1, 0, none⟩) 1 1] 34) = w11 at H3 ⊢
          clear e0 e1 e2 d0 d1 d2
          have q0 := H3.out.2.2
          have HC1 := Lib.hid (show Calls Tryd.prog 27 #[.agg #[.slice (some ⟨wr.heap.size + 1, 0, none⟩) 1 1]] w11 fun e w' => e = .returned (.int .i64 ((cntP [x] : Nat) : Int)) ∧ Below w11.heap.size w11 w' from by
            rw [← HSUM.out.2.2.1]
            exact stmtCountI_any 20 (fun _ => True) (some ⟨wr.heap.size + 1, 0, none⟩) 1 [x] w11 (HW.out.2.1.later H3.out.1) (HW.out.2.2.1.later H3.out.1) H3.out.2.1 (by simp))
          go_wp2_with fail
          refine HC1.out.mono ?_
          rintro e w12 ⟨rfl, hb12⟩
          have H12 := Lib.hid (H3.out.1.trans (hb12.mono H3.out.1.size))
          have q1 := cell_later hb12 q0
          have HC2 := Lib.hid (show Calls Tryd.prog 28 #[.agg #[.slice (some ⟨wr.heap.size + 1, 0, none⟩) 1 1]] w12 fun e w' => e = .returned (.int .i64 ((nestP [x] : Nat) : Int)) ∧ Below w12.heap.size w12 w' from by
            rw [← HSUM.out.2.2.2]
            exact nestOfI_any 20 (fun _ => True) (some ⟨wr.heap.size + 1, 0, none⟩) 1 [x] w12 (HW.out.2.1.later H12.out) (HW.out.2.2.1.later H12.out) (H3.out.2.1.below (fnP_stays 20) hb12) (by simp))
          have hbnd : cntP (ps.take (j + 1)) ≤ cntP ps := by
            rw [← List.take_append_drop (j + 1) ps]
            have h1 : cntP (ps.take (j + 1) ++ ps.drop (j + 1)) = cntP (ps.take (j + 1)) + cntP (ps.drop (j + 1)) := sumN_append _ _
            rw [List.take_append_drop] at h1 ⊢
            omega
          have hsw : wrap64 (((cntP (ps.take j) : Nat) : Int) + ((cntP [x] : Nat) : Int)) = ((cntP (ps.take (j + 1)) : Nat) : Int) := by
            rw [IntWalk.wrap64_in _ (by have := HSUM.out.1; have := HSM.out.1; omega)]
            have := HSUM.out.1
            omega
          clear hb12 q0
          go_wp2_with fail
          refine HC2.out.mono ?_
          rintro e w13 ⟨rfl, hb13⟩
          have H13 := Lib.hid (H12.out.trans (hb13.mono H12.out.size))
          have hmx : max ((nestP (ps.take j) : Nat) : Int) ((nestP [x] : Nat) : Int) = ((nestP (ps.take (j + 1)) : Nat) : Int) := by
            rw [HSUM.out.2.1]
            omega
          clear hb13 q1
          go_wp2
          go_roundg (gk - 1)
          case measure => omega
          case rel => exact ⟨j + 1, by omega, rfl, rfl, by go_num, H13⟩
        · obtain rfl : j = ps.length := by omega
          rw [List.take_length]
          have hs40 : ((cntP ps : Nat) : Int) ≤ 40 := by have := HSM.out.1; omega
          have hs4 : ((nestP ps : Nat) : Int) ≤ 4 := by have := HSM.out.2.1; omega
          have hz : (((cntP ps : Nat) : Int) == 0) = (((nestP ps : Nat) : Int) == 0) := by
            have h := HSM.out.2.2.1
            rw [Bool.eq_iff_iff, beq_iff_eq, beq_iff_eq]
            omega
          have he1 : (((cntP ps : Nat) : Int) == ((cntP ps : Nat) : Int)) = true := by simp
          have he2 : (((nestP ps : Nat) : Int) == ((nestP ps : Nat) : Int)) = true := by simp
          go_wp2
          go_ret
          exact ⟨rfl, HW.out.1.trans (HR.out.mono HW.out.1.size)⟩

end Go.Proofs.YtccfbnhlhjlmgaaDoor
