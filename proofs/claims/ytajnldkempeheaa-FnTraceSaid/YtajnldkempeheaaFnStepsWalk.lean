/-
  The walk of the law FnSteps, from what the drawing gives.
-/
import Derived.Test.YtajnldkempeheaaRu8
import Derived.Test.YtajnldkempeheaaNumbers

namespace Go.Proofs.Ytajnldkempeheaa
open Go.RowKit
set_option linter.unusedVariables false
set_option linter.unusedSimpArgs false

/-- A unit and numbers that were drawn. -/
structure DrewU (w w' : World) (us : List CodeD) (ua : Option Addr) (inp : List Int) (ia : Option Addr) : Prop where
  u : SliceRd 3 CodeR w' ua us.length us
  sz : szS szCodeD us ≤ 1048576
  i : IntsRd w' ia inp.length inp
  il : inp.length ≤ 1048576
  below : Below w.heap.size w w'
def DrawStepsC : Prop := ∀ (w : World) (a : Option Addr) (len cap : Nat) (bs : List Int), BytesRd w a len bs → len ≤ cap →
  Calls Try.prog 10 #[.slice a len cap] w fun e w' => ∃ us ua uc inp ia ic, e = .returned (.tuple #[.agg #[.slice ua us.length uc], .slice ia inp.length ic]) ∧ DrewU w w' us ua inp ia
set_option maxHeartbeats 400000 in
theorem wwInts_true (a a' : Option Addr) (len cap cap' : Nat) (xs : List Int) (w : World) (hin : IntsRd w a len xs) (hin' : IntsRd w a' len xs) (hs : len ≤ 1099511627776) :
    Calls Try.prog 7 #[.slice a len cap, .slice a' len cap'] w fun e w' => e = .returned (.bool true) ∧ ∃ m, w' = w.drewN m := by
  have heq : ((len : Int) == (len : Int)) = true := by simp
  go_enter Try.func7, Try.ntmps7
  go_wp2
  go_loopw [11] (fun i wr => ∃ k m : Nat, k ≤ len ∧ i = .int .i64 k ∧ wr = w.drewN m) (fun i _ => len - (intOf i).toNat)
  case atStart => exact ⟨0, 0, Nat.zero_le _, rfl, rfl⟩
  case round =>
    obtain ⟨k, m, hk, rfl, rfl⟩ := hrel
    by_cases hlt : k < len
    · obtain ⟨b, off, x, rfl, hx, hc⟩ := hin.place hlt
      obtain ⟨b', off', x', rfl, hx', hc'⟩ := hin'.place hlt
      obtain rfl : x' = x := by rw [hx] at hx'; exact (Option.some.inj hx').symm
      clear hx hx' heq
      have hne : (x' != x') = false := by simp
      go_wp2
      go_quiet (fail)
      go_wp2
      go_roundw
      case rel => exact ⟨k + 1, m + nq, by omega, by go_num, rfl⟩
      case measure => simp [intOf]; omega
    · go_wp2
      go_ret
      exact ⟨rfl, _, rfl⟩
set_option maxHeartbeats 400000 in
theorem wwBegins_true (a a' : Option Addr) (len cap len' cap' : Nat) (xs ys : List Int) (w : World) (hin : IntsAt w a len cap xs) (hin' : IntsRd w a' len' ys) (hpre : ys <+: xs) (hs : len ≤ 1048576) :
    Calls Try.prog 13 #[.slice a len cap, .slice a' len' cap'] w fun e w' => e = .returned (.bool true) ∧ Below w.heap.size w w' := by
  have hl := hin.length
  have hl' := hin'.length
  have hle : len' ≤ len := by rw [← hl, ← hl']; exact hpre.length_le
  have hlc := hin.le
  have hcm := hin.max
  have HT := Lib.hid (show ys = xs.take len' from by
    obtain ⟨zs, rfl⟩ := hpre
    rw [← hl', List.take_left'] ; rfl)
  rcases hin.addr with ⟨rfl, rfl⟩ | ⟨b, off, rfl⟩
  · obtain rfl : len = 0 := by omega
    obtain rfl : len' = 0 := by omega
    have HW := Lib.hid (wwInts_true none a' 0 0 cap' ys w ⟨hin'.length, .inl (by have := hin'.length; rw [List.length_eq_zero_iff.1 this]; rfl)⟩ hin' (by omega))
    clear hin hin' hl hl' hpre hcm
    go_enter Try.func13, Try.ntmps13
    go_wp2_with fail
    refine HW.out.mono ?_
    rintro e w1 ⟨rfl, m, rfl⟩
    go_wp2
    go_ret
    exact ⟨rfl, below_drewN (Below.refl _ _) m⟩
  · have HW := Lib.hid (wwInts_true (some ⟨b, off, none⟩) a' len' cap cap' ys w ⟨hin'.length, by have h1 := hin.toIntsRd.pre len'; rw [← HT.out] at h1; exact h1⟩ hin' (by omega))
    have d1 : decide ((len' : Int) ≤ (len : Int)) = true := decide_eq_true (by omega)
    have hcx : cap ≤ 9223372036854775807 := hcm
    clear hin hin' hl hl' hpre hcm
    go_enter Try.func13, Try.ntmps13
    go_wp2_with fail
    refine HW.out.mono ?_
    rintro e w1 ⟨rfl, m, rfl⟩
    go_wp2
    go_ret
    exact ⟨rfl, below_drewN (Below.refl _ _) m⟩
theorem runP_good {us : List CodeD} {inp : List Int} {m : Nat} (hV : UnitV us) (hby : Byts inp) (hm : m ≤ 60000) : Good (runP us inp m).2 := (good_code doD_ok us hV.numOk _ _ _ _ hby (start_good hm)).2
theorem steps_facts {us : List CodeD} {inp : List Int} (hV : UnitV us) (hby : Byts inp) (h3 : (runP us inp 60000).2.fin ≠ some 3) :
    ∃ n : Nat, n + (runP us inp 60000).2.left = 60000 ∧ 0 < n ∧ (runP us inp n).2.fin ≠ some 3 ∧ (runP us inp (n - 1)).2.fin = some 3 ∧ (runP us inp (n - 1)).2.said <+: (runP us inp n).2.said ∧ (runP us inp n).2.said.length ≤ 60000 ∧ (runP us inp (n - 1)).2.said.length ≤ 60000 := by
  have hl := hV.len
  obtain ⟨d, hd⟩ : ∃ d, us.length = d + 1 := ⟨us.length - 1, by omega⟩
  have hr : ∀ m, runP us inp m = codeRun doD predsC us (d + 1) (us.length - 1) inp (startS m) := fun m => by unfold runP; rw [hd]
  have hg1 := fun m (hm : m ≤ 60000) => (runP_good (m := m) hV hby hm).small
  simp only [hr] at hg1
  rw [hr] at h3
  obtain ⟨a1, a2, a3, a4, a5⟩ := steps_law (doF := doD) (preds := predsC) us d (us.length - 1) inp 60000 h3
  have hle : (codeRun doD predsC us (d + 1) (us.length - 1) inp (startS 60000)).2.left ≤ 60000 := (grow_code us (d + 1) (us.length - 1) inp (startS 60000)).left
  simp only [hr]
  refine ⟨60000 - (codeRun doD predsC us (d + 1) (us.length - 1) inp (startS 60000)).2.left, by omega, a1, a2, a4, by rw [a3]; exact a5, ?_, ?_⟩
  · have := hg1 (60000 - (codeRun doD predsC us (d + 1) (us.length - 1) inp (startS 60000)).2.left) (by omega); omega
  · have := hg1 (60000 - (codeRun doD predsC us (d + 1) (us.length - 1) inp (startS 60000)).2.left - 1) (by omega); omega
theorem ans_runs {us : List CodeD} {inp : List Int} {m : Nat} {e : Ending} {w' : World} (h : RunAns us inp (m : Int) e w') (hf : fitsB us inp = true) (hm : m ≤ 60000) :
    ∃ sa sc ca cc v, e = .returned (.tuple #[.agg #[.slice sa (runP us inp m).2.said.length sc, .int .i64 ((runP us inp m).2.fin.getD 0), .int .i64 v, .slice ca 16 cc], .bool true]) ∧ IntsAt w' sa (runP us inp m).2.said.length sc (runP us inp m).2.said := by
  unfold RunAns at h
  rw [hf, show inE 0 (m : Int) 60000 = true by simp only [inE, Bool.and_eq_true, decide_eq_true_eq]; omega] at h
  simpa using h
set_option maxRecDepth 100000 in
set_option maxHeartbeats 8000000 in
theorem fnSteps_walk (hDraw : DrawStepsC) (a : Option Addr) (len cap : Nat) (zs : List Int) (w : World) (hrow : IsRow .u8 w a len cap zs) :
    Calls Try.prog 4 #[.slice a len cap] w fun e w' => e = .returned (.bool true) ∧ Below w.heap.size w w' := by
  have hin := bytes_of_row hrow
  have hcap := cap_of_row hrow
  clear hrow
  by_cases hbig : 1048576 < len
  · go_enter Try.func4, Try.ntmps4
    go_wp2
    go_ret
    exact ⟨rfl, Below.refl _ _⟩
  go_enter Try.func4, Try.ntmps4
  go_wp2_with fail
  refine (hDraw w a len cap _ hin hcap).mono ?_
  rintro e w1 ⟨us, ua, uc, inp, ia, ic, rfl, hD⟩
  have hba : Below w1.heap.size w1 (w1.alloc (.cells #[.slice ua us.length uc] 25)) := (Below.refl _ _).alloc (Nat.le_refl _) _
  have p0 := cell_of_row _ _ 0 _ _ _ (heap_alloc_new w1 (.cells #[.slice ua us.length uc] 25))
  simp only [List.getElem?_toArray, List.getElem?_cons_zero] at p0
  have HD := Lib.hid (show Below w.heap.size w (w1.alloc (.cells #[.slice ua us.length uc] 25)) ∧ SliceRd 3 CodeR (w1.alloc (.cells #[.slice ua us.length uc] 25)) ua us.length us ∧ IntsRd (w1.alloc (.cells #[.slice ua us.length uc] 25)) ia inp.length inp ∧ szS szCodeD us ≤ 1048576 ∧ inp.length ≤ 1048576 from
    ⟨hD.below.trans (hba.mono hD.below.size), hD.u.later codeR_lasts hba, hD.i.later hba, hD.sz, hD.il⟩)
  clear hin hcap hbig hD hba
  go_upto_region 4 with fail
  obtain ⟨tb, htb⟩ : ∃ n, n = w1.heap.size := ⟨_, rfl⟩
  generalize w1.alloc (.cells #[.slice ua us.length uc] 25) = w2 at HD p0 ⊢
  rw [← htb] at p0 ⊢
  clear htb
  obtain ⟨n, hn⟩ : ∃ n, n = stepsP us inp := ⟨_, rfl⟩
  have HN := Lib.hid hn
  have HI := Lib.hid (fun W (hW : Below w2.heap.size w2 W) => show Calls Try.prog 11 #[.agg #[.slice ua us.length uc], .slice ia inp.length ic] W fun e w' => e = .returned (.int .i64 n) ∧ Below W.heap.size W w' from by
    rw [hn]; exact stepsOfI_any HD.out.2.2.2.1 (HD.out.2.1.later codeR_lasts hW) (HD.out.2.2.1.later hW) HD.out.2.2.2.2)
  have HS := Lib.hid (fun W (hW : Below w2.heap.size w2 W) => show Calls Try.prog 12 #[.agg #[.slice ua us.length uc], .slice ia inp.length ic] W fun e w' => e = .returned (.int .i64 n) ∧ Below W.heap.size W w' from by
    rw [hn]; exact stepsOfS_any HD.out.2.2.2.1 (HD.out.2.1.later codeR_lasts hW) (HD.out.2.2.1.later hW) HD.out.2.2.2.2)
  clear hn
  go_wp2_with fail
  refine (HI.out w2 (Below.refl _ _)).mono ?_
  rintro e w3 ⟨rfl, hb3⟩
  have q0 := cell_later hb3 p0
  have HB3 := Lib.hid hb3
  clear hb3
  go_wp2_with fail
  refine (HS.out w3 HB3.out).mono ?_
  rintro e w4 ⟨rfl, hb4⟩
  have HB4 := Lib.hid (HB3.out.trans (hb4.mono HB3.out.size))
  have q0 := cell_later hb4 q0
  clear hb4
  have hnn : (n != n) = false := by simp
  have hne : (n == n) = true := by simp
  by_cases hn : n < 0
  · have hn1 : n = -1 := by
      rw [HN.out] at hn ⊢
      have hlf : (runP us inp 60000).2.left ≤ 60000 := (grow_code us us.length (us.length - 1) inp (startS 60000)).left
      unfold stepsP at hn ⊢
      split
      · rename_i h1
        rw [if_pos h1] at hn
        split
        · rfl
        · rename_i h2
          rw [if_neg h2] at hn
          omega
      · rfl
    have HN1 := Lib.hid hn1
    subst hn1
    clear hn hnn hne
    go_wp2_with fail
    refine (HS.out w4 HB4.out).mono ?_
    rintro e w5 ⟨rfl, hb5⟩
    have HE := Lib.hid (HD.out.1.trans ((HB4.out.trans (hb5.mono HB4.out.size)).mono HD.out.1.size))
    clear hb5 q0 p0
    go_wp2
    go_ret
    exact ⟨rfl, HE.out⟩
  · have hfit : fitsB us inp = true := by
      cases hf : fitsB us inp with
      | true => rfl
      | false => exact absurd (show n < 0 by rw [HN.out, stepsP, hf]; simp) hn
    have h3 : (runP us inp 60000).2.fin ≠ some 3 := fun h => hn (by rw [HN.out, stepsP, if_pos hfit, if_pos h]; decide)
    obtain ⟨m, b1, b2, b3, b4, b5, b6, b7⟩ := steps_facts (fits_last hfit).1 (fits_last hfit).2.2 h3
    obtain rfl : n = (m : Int) := by rw [HN.out, stepsP, if_pos hfit, if_neg h3]; omega
    have HR := Lib.hid (fun (q : Nat) (hq : q ≤ 60000) W (hW : Below w2.heap.size w2 W) => show Calls Try.prog 9 #[.agg #[.slice ua us.length uc], .slice ia inp.length ic, .int .i64 (q : Int)] W fun e w' => (∃ sa sc ca cc v, e = .returned (.tuple #[.agg #[.slice sa (runP us inp q).2.said.length sc, .int .i64 ((runP us inp q).2.fin.getD 0), .int .i64 v, .slice ca 16 cc], .bool true]) ∧ IntsAt w' sa (runP us inp q).2.said.length sc (runP us inp q).2.said) ∧ Below W.heap.size W w' from
      (runUnitI_any (q : Int) HD.out.2.2.2.1 (HD.out.2.1.later codeR_lasts hW) (HD.out.2.2.1.later hW) HD.out.2.2.2.2).mono (fun e w' h => ⟨ans_runs h.1 hfit hq, h.2⟩))
    have HF := Lib.hid (And.intro b3 (And.intro b4 (And.intro b5 (And.intro b6 b7))))
    have hm6 : m ≤ 60000 := by omega
    have hm1 : ((m : Int) - 1) = ((m - 1 : Nat) : Int) := by omega
    have HM1 := Lib.hid hm1
    have hnl : decide ((m : Int) < 0) = false := decide_eq_false (by omega)
    clear hn hfit h3 b1 b3 b4 b5 b6 b7 hm1
    go_wp2_with fail
    refine (HR.out m hm6 w4 HB4.out).mono ?_
    rintro e w5 ⟨⟨sa, sc, ca, cc, v, rfl, hsd⟩, hb5⟩
    have hf1 : ((runP us inp m).2.fin.getD 0 != 3) = true := by
      have := HF.out.1
      cases hx : (runP us inp m).2.fin with
      | none => rfl
      | some y =>
        rw [hx] at this
        simp only [Option.getD_some, bne_iff_ne, ne_eq]
        exact fun h => this (by rw [h])
    generalize (runP us inp m).2.fin.getD 0 = en at hf1 ⊢
    have HSD := Lib.hid hsd
    obtain ⟨L, hL⟩ : ∃ L, L = (runP us inp m).2.said.length := ⟨_, rfl⟩
    rw [← hL] at HSD ⊢
    have HLM := Lib.hid hL
    clear hsd hL
    have hbo : Below w5.heap.size w5 (w5.alloc (.cells #[.slice sa L sc, .int .i64 en, .int .i64 v, .slice ca 16 cc] 32)) := (Below.refl _ _).alloc (Nat.le_refl _) _
    have hb45 := HB4.out.trans (hb5.mono HB4.out.size)
    have hb6 := hb45.trans (hbo.mono hb45.size)
    have q0 := cell_later hbo (cell_later hb5 q0)
    have o0 := cell_of_row _ _ 0 _ _ _ (heap_alloc_new w5 (.cells #[.slice sa L sc, .int .i64 en, .int .i64 v, .slice ca 16 cc] 32))
    have o1 := cell_of_row _ _ 1 _ _ _ (heap_alloc_new w5 (.cells #[.slice sa L sc, .int .i64 en, .int .i64 v, .slice ca 16 cc] 32))
    simp only [List.getElem?_toArray, List.getElem?_cons_zero, List.getElem?_cons_succ] at o0 o1
    have HS6 := Lib.hid (And.intro hb6 (HSD.out.later hbo))
    clear hbo hb45 hb6 hb5
    go_upto_region 8 with fail
    obtain ⟨ob, hob⟩ : ∃ b, b = w5.heap.size := ⟨_, rfl⟩
    rw [← hob] at o0 o1 ⊢
    clear hob
    generalize w5.alloc (.cells #[.slice sa L sc, .int .i64 en, .int .i64 v, .slice ca 16 cc] 32) = w6 at HS6 q0 o0 o1 ⊢
    obtain ⟨L2, hL2⟩ : ∃ L, L = (runP us inp (m - 1)).2.said.length := ⟨_, rfl⟩
    have HR2 := Lib.hid (HR.out (m - 1) (by omega) w6 HS6.out.1)
    rw [← hL2, show (runP us inp (m - 1)).2.fin.getD 0 = 3 by rw [HF.out.2.1]; rfl] at HR2
    have HL2 := Lib.hid hL2
    clear hL2
    go_upto_region 9 with (go_at_call 9; rw [HM1.out]; refine HR2.out.mono ?_; rintro e w7 ⟨⟨sa2, sc2, ca2, cc2, v2, rfl, hsd2⟩, hb7⟩; (have HW7 := Lib.hid (And.intro hsd2 hb7)); clear hsd2 hb7)
    have hbo : Below w7.heap.size w7 (w7.alloc (.cells #[.slice sa2 L2 sc2, .int .i64 3, .int .i64 v2, .slice ca2 16 cc2] 32)) := (Below.refl _ _).alloc (Nat.le_refl _) _
    have hb78 := HW7.out.2.trans (hbo.mono HW7.out.2.size)
    have o0 := cell_later hb78 o0
    have o1 := cell_later hb78 o1
    have t0 := cell_of_row _ _ 0 _ _ _ (heap_alloc_new w7 (.cells #[.slice sa2 L2 sc2, .int .i64 3, .int .i64 v2, .slice ca2 16 cc2] 32))
    have t1 := cell_of_row _ _ 1 _ _ _ (heap_alloc_new w7 (.cells #[.slice sa2 L2 sc2, .int .i64 3, .int .i64 v2, .slice ca2 16 cc2] 32))
    simp only [List.getElem?_toArray, List.getElem?_cons_zero, List.getElem?_cons_succ] at t0 t1
    have H8 := Lib.hid (And.intro (HS6.out.1.trans (hb78.mono HS6.out.1.size)) (And.intro (HS6.out.2.later hb78) (HW7.out.1.later hbo)))
    clear hbo hb78 HW7
    obtain ⟨xb, hxb⟩ : ∃ b, b = w7.heap.size := ⟨_, rfl⟩
    rw [← hxb] at t0 t1 ⊢
    clear hxb
    generalize w7.alloc (.cells #[.slice sa2 L2 sc2, .int .i64 3, .int .i64 v2, .slice ca2 16 cc2] 32) = w8 at H8 o0 o1 t0 t1 ⊢
    have HWB := Lib.hid (wwBegins_true sa sa2 L sc L2 sc2 _ _ w8 H8.out.2.1 (by have h1 := H8.out.2.2.toIntsRd; exact h1) HF.out.2.2.1 (by rw [HLM.out]; have := HF.out.2.2.2.1; omega))
    have hgt : decide ((m : Int) > 0) = true := decide_eq_true (by omega)
    clear q0 p0
    go_wp2_with fail
    refine HWB.out.mono ?_
    rintro e w9 ⟨rfl, hb9⟩
    have HE := Lib.hid (HD.out.1.trans ((H8.out.1.trans (hb9.mono H8.out.1.size)).mono HD.out.1.size))
    clear hb9 o0 o1 t0 t1
    go_wp2
    go_ret
    exact ⟨rfl, HE.out⟩

end Go.Proofs.Ytajnldkempeheaa
