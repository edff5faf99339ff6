/-
  Whether a program is valid, how many statements it has and how deep they are nested (the reference's).
-/
import Derived.Test.YtccdmgncjlpebaaDoorVp

namespace Go.Proofs.YtccdmgncjlpebaaDoor
open Go.RowKit
set_option linter.unusedVariables false

set_option maxRecDepth 100000 in
set_option maxHeartbeats 2000000 in
theorem l3Fn_any (D : Nat) (S : Nat → Prop) (cs : List Value) (f : FnD) (w : World) (h : FnP D S w cs f) :
    Calls Tryd.prog 22 #[.agg cs.toArray] w fun e w' => e = .returned (.bool (fnB f)) ∧ Below w.heap.size w w' := by
  obtain ⟨pa, pc, ba, bc, rfl, hb, hP, hB⟩ := h
  obtain ⟨name, params, body⟩ := f
  simp only at hb hP hB
  obtain ⟨R, hR⟩ : ∃ R, R = fnB ⟨name, params, body⟩ := ⟨_, rfl⟩
  rw [← hR]
  have HR := Lib.hid (show R = (nameD name && decide (params.length ≤ 3) && params.all nameD && body.all (stmtB 4)) from hR)
  have hba : Below w.heap.size w (w.alloc (.cells #[.string name, .slice pa params.length pc, .slice ba body.length bc] 32)) := (Below.refl _ _).alloc (Nat.le_refl _) _
  have HB := Lib.hid (And.intro hba (And.intro (hP.below strP_stays hba) (hB.below (stmtP_stays D) hba)))
  have hrow := heap_alloc_new w (.cells #[.string name, .slice pa params.length pc, .slice ba body.length bc] 32)
  have HL := Lib.hid hb
  have hl2 : params.length ≤ 9223372036854775807 := by omega
  clear hR hba hP hB hb
  show Calls _ _ #[.agg #[.string name, .slice pa params.length pc, .slice ba body.length bc]] w _
  go_enter Tryd.func22, Tryd.ntmps22
  go_upto_region 1 with fail
  obtain ⟨pb, hpb⟩ : ∃ b, b = w.heap.size := ⟨_, rfl⟩
  rw [← hpb] at hrow ⊢
  generalize w.alloc (.cells #[.string name, .slice pa params.length pc, .slice ba body.length bc] 32) = W1 at hrow HB ⊢
  have HBW := Lib.hid (show Below w.heap.size w W1 from HB.out.1)
  clear hpb
  have p0 := cell_of_row _ _ 0 _ _ _ hrow
  have p1 := cell_of_row _ _ 1 _ _ _ hrow
  have p2 := cell_of_row _ _ 2 _ _ _ hrow
  simp only [List.getElem?_toArray, List.getElem?_cons_zero, List.getElem?_cons_succ] at p0 p1 p2
  clear hrow
  go_wp2_with fail
  go_loopg [3] params.length (fun G i wr => ∃ (j : Nat), j + G = params.length ∧ i = .int .i64 j ∧ Hid (Below W1.heap.size W1 wr ∧ (params.take j).all nameD = true))
  case atStart => exact ⟨0, by omega, rfl, Lib.hid ⟨Below.refl _ _, rfl⟩⟩
  case round =>
    obtain ⟨j, hj, rfl, HG⟩ := hrel
    have q0 := cell_later HG.out.1 p0
    have q1 := cell_later HG.out.1 p1
    have q2 := cell_later HG.out.1 p2
    clear p0 p1 p2
    by_cases hlt : j < params.length
    · have hji : (j : Int) < (params.length : Int) := by omega
      obtain ⟨b, off, x, rfl, hx, hs, c0⟩ := str_place (HB.out.2.1.below strP_stays HG.out.1) hlt
      have HC := Lib.hid (isNameS_any x hs wr)
      have HX := Lib.hid hx
      clear hx hs
      cases hv : nameD x with
      | false =>
        rw [hv] at HC
        have HF := Lib.hid (show false = R by rw [HR.out, all_not HX.out hv]; simp)
        clear hv
        go_wp2_with fail
        refine HC.out.mono ?_
        rintro e w5 ⟨rfl, hb5⟩
        have HB5 := Lib.hid (HBW.out.trans ((HG.out.1.trans (hb5.mono HG.out.1.size)).mono HBW.out.size))
        clear hb5 c0 q0 q1 q2
        go_wp2
        go_ret
        exact ⟨ret_bool HF.out, HB5.out⟩
      | true =>
        rw [hv] at HC
        have HT := Lib.hid (show (params.take (j + 1)).all nameD = true by rw [all_take HX.out, HG.out.2, hv]; rfl)
        clear hv
        go_wp2_with fail
        refine HC.out.mono ?_
        rintro e w5 ⟨rfl, hb5⟩
        have HB5 := Lib.hid (HG.out.1.trans (hb5.mono HG.out.1.size))
        clear hb5 c0 q0 q1 q2
        go_wp2
        go_roundg (gk - 1)
        case measure => omega
        case rel => exact ⟨j + 1, by omega, by go_num, Lib.hid ⟨HB5.out, HT.out⟩⟩
    · obtain rfl : j = params.length := by omega
      have HRR := Lib.hid (show R = (nameD name && (decide (params.length ≤ 3) && body.all (stmtB 4))) by
        have h1 := HG.out.2
        rw [List.take_length] at h1
        rw [HR.out, h1]
        cases nameD name <;> cases decide (params.length ≤ 3) <;> rfl)
      have HN := Lib.hid (isNameS_any name HL.out.1 wr)
      have HBr := Lib.hid (HBW.out.trans (HG.out.1.mono HBW.out.size))
      have HBD := Lib.hid (HB.out.2.2.below (stmtP_stays D) HG.out.1)
      cases hv : nameD name with
      | false =>
        rw [hv] at HN
        have HF := Lib.hid (show false = R by rw [HRR.out, hv]; rfl)
        clear hv
        go_wp2_with fail
        refine HN.out.mono ?_
        rintro e w5 ⟨rfl, hb5⟩
        have HB5 := Lib.hid (HBr.out.trans (hb5.mono HBr.out.size))
        clear hb5 q0 q1 q2
        go_wp2
        go_ret
        exact ⟨ret_bool HF.out, HB5.out⟩
      | true =>
        rw [hv] at HN
        by_cases h3 : params.length ≤ 3
        · have h3i : (params.length : Int) ≤ 3 := by omega
          have HF := Lib.hid (show body.all (stmtB 4) = R by rw [HRR.out, hv, decide_eq_true h3]; rfl)
          clear hv
          go_wp2_with fail
          refine HN.out.mono ?_
          rintro e w5 ⟨rfl, hb5⟩
          have k1 := cell_later hb5 q1
          have k2 := cell_later hb5 q2
          have HB5 := Lib.hid (HBr.out.trans (hb5.mono HBr.out.size))
          have HS := Lib.hid (l3Stmts_any D (l3Stmt_any D) 4 S ba body.length bc body w5 (by omega) (HBD.out.below (stmtP_stays D) hb5) rfl (by have := HL.out; omega))
          rw [HF.out] at HS
          clear hb5 q0 q1 q2
          go_wp2_with fail
          refine HS.out.mono ?_
          rintro e w6 ⟨rfl, hb6⟩
          have HB6 := Lib.hid (HB5.out.trans (hb6.mono HB5.out.size))
          clear hb6 k1 k2
          go_wp2
          go_ret
          exact ⟨rfl, HB6.out⟩
        · have h3i : ¬ (params.length : Int) ≤ 3 := by omega
          have HF := Lib.hid (show false = R by rw [HRR.out, hv, decide_eq_false h3]; rfl)
          clear hv
          go_wp2_with fail
          refine HN.out.mono ?_
          rintro e w5 ⟨rfl, hb5⟩
          have k1 := cell_later hb5 q1
          have HB5 := Lib.hid (HBr.out.trans (hb5.mono HBr.out.size))
          clear hb5 q0 q1 q2
          go_wp2
          go_ret
          exact ⟨ret_bool HF.out, HB5.out⟩

theorem fnP_fit {D : Nat} {S : Nat → Prop} {w : World} {c : List Value} {f : FnD} (hf : fnB f = true) (h : FnP D S w c f) : FnP 4 S w c f := by
  obtain ⟨pa, pc, ba, bc, h1, h2, h3, h4⟩ := h
  simp only [fnB, Bool.and_eq_true, List.all_eq_true] at hf
  exact ⟨pa, pc, ba, bc, h1, h2, h3, h4.rel (fun _ y hy h => stmtP_fit (hf.2 y hy) h)⟩
theorem progP_fit {D : Nat} {S : Nat → Prop} {w : World} {a : Option Addr} {p : List FnD} (hf : p.all fnB = true) (h : ListK 3 (FnP D) S w a p) : ListK 3 (FnP 4) S w a p :=
  h.rel (fun _ y hy h => fnP_fit (List.all_eq_true.1 hf y hy) h)
theorem cntP_bound {S : Nat → Prop} {w : World} {a : Option Addr} {p : List FnD} (h : ListK 3 (FnP 4) S w a p) (hl : p.length ≤ 100) (j : Nat) : sumN (fun f => sumN (cntS 4) f.body) (p.take j) ≤ 100 * 163224080100 := by
  have h1 : sumN (fun f : FnD => sumN (cntS 4) f.body) p ≤ p.length * 163224080100 := sumN_le fun f hf => by
    obtain ⟨c, pa, pc, ba, bc, _, h2, _, h4⟩ := listK_mem h hf
    exact Nat.le_trans (cntL_le h4 h2.2.2) (pow201 (Nat.le_refl 4))
  have h2 := sumN_append (f := fun f : FnD => sumN (cntS 4) f.body) (p.take j) (p.drop j)
  rw [List.take_append_drop] at h2
  have h3 : p.length * 163224080100 ≤ 100 * 163224080100 := Nat.mul_le_mul_right _ hl
  omega

set_option maxRecDepth 100000 in
set_option maxHeartbeats 2000000 in
theorem l3All_any (S : Nat → Prop) (a : Option Addr) (c : Nat) (p : List FnD) (w : World) (h : ListK 3 (FnP 4) S w a p) (hl : p.length ≤ 100) :
    Calls Tryd.prog 23 #[.agg #[.slice a p.length c]] w fun e w' => e = .returned (.int .i64 (cntP p : Nat)) ∧ Below w.heap.size w w' := by
  obtain ⟨R, hR⟩ : ∃ R, R = cntP p := ⟨_, rfl⟩
  rw [← hR]
  have hba : Below w.heap.size w (w.alloc (.cells #[.slice a p.length c] 25)) := (Below.refl _ _).alloc (Nat.le_refl _) _
  have HB := Lib.hid (And.intro hba (And.intro (h.below (fnP_stays 4) hba) (And.intro (cntP_bound h hl) hR)))
  have hrow := heap_alloc_new w (.cells #[.slice a p.length c] 25)
  have hl2 : p.length ≤ 9223372036854775807 := by omega
  clear hba h hR
  go_enter Tryd.func23, Tryd.ntmps23
  go_upto_region 1 with fail
  obtain ⟨pb, hpb⟩ : ∃ b, b = w.heap.size := ⟨_, rfl⟩
  rw [← hpb] at hrow ⊢
  generalize w.alloc (.cells #[.slice a p.length c] 25) = W1 at hrow HB ⊢
  have HBW := Lib.hid (show Below w.heap.size w W1 from HB.out.1)
  clear hpb
  have p0 := cell_of_row _ _ 0 _ _ _ hrow
  simp only [List.getElem?_toArray, List.getElem?_cons_zero] at p0
  clear hrow
  go_wp2_with fail
  go_loopg [3, 4] p.length (fun G n i wr => ∃ (j : Nat), j + G = p.length ∧ i = .int .i64 j ∧ n = .int .i64 (sumN (fun f => sumN (cntS 4) f.body) (p.take j) : Nat) ∧ Hid (Below W1.heap.size W1 wr))
  case atStart => exact ⟨0, by omega, rfl, int_eq' (by simp [sumN]), Lib.hid (Below.refl _ _)⟩
  case round =>
    obtain ⟨j, hj, rfl, rfl, HG⟩ := hrel
    have q0 := cell_later HG.out p0
    clear p0
    by_cases hlt : j < p.length
    · have hji : (j : Int) < (p.length : Int) := by omega
      obtain ⟨b, off, x, pa, pc, ba, bc, rfl, hx, hF, c0, c1, c2⟩ := fn_place (HB.out.2.1.below (fnP_stays 4) HG.out) hlt
      obtain ⟨pa', pc', ba', bc', he, hb, _, hBd⟩ := hF
      cases he
      have HC := Lib.hid (l3Count_any 4 (Nat.le_refl 4) S ba x.body.length bc x.body wr hBd rfl hb.2.2)
      have hs1 : sumN (fun f => sumN (cntS 4) f.body) (p.take (j + 1)) = sumN (fun f => sumN (cntS 4) f.body) (p.take j) + sumN (cntS 4) x.body := sumN_take (f := fun f : FnD => sumN (cntS 4) f.body) hx
      have hbd := HB.out.2.2.1 (j + 1)
      obtain ⟨s, hs⟩ : ∃ s, s = sumN (cntS 4) x.body := ⟨_, rfl⟩
      obtain ⟨t, ht⟩ : ∃ t, t = sumN (fun f : FnD => sumN (cntS 4) f.body) (p.take j) := ⟨_, rfl⟩
      rw [← hs] at HC hs1
      rw [← ht] at hs1
      have hw : wrap64 ((t : Int) + (s : Int)) = (t : Int) + (s : Int) := IntWalk.wrap64_in _ (by omega)
      have HT := Lib.hid (show (t : Int) + (s : Int) = (sumN (fun f : FnD => sumN (cntS 4) f.body) (p.take (j + 1)) : Nat) by omega)
      rw [← ht]
      clear hx hb hBd hs1 hbd hs ht
      go_wp2_with fail
      refine HC.out.mono ?_
      rintro e w5 ⟨rfl, hm5⟩
      have HB5 := Lib.hid (HG.out.trans (show Below W1.heap.size wr w5 by obtain ⟨m, rfl⟩ := hm5; exact below_drewN (Below.refl _ _) m))
      clear hm5 c0 c1 c2 q0
      go_wp2
      go_roundg (gk - 1)
      case measure => omega
      case rel => exact ⟨j + 1, by omega, by go_num, int_eq' (hw.trans HT.out), HB5⟩
    · obtain rfl : j = p.length := by omega
      have HF := Lib.hid (show ((sumN (fun f => sumN (cntS 4) f.body) (p.take p.length) : Nat) : Int) = (R : Int) by
        rw [List.take_length, HB.out.2.2.2]; rfl)
      go_wp2
      go_ret
      exact ⟨ret_int HF.out, HBW.out.trans (HG.out.mono HBW.out.size)⟩

set_option maxRecDepth 100000 in
set_option maxHeartbeats 2000000 in
theorem progValidS_any (D : Nat) (S : Nat → Prop) (a : Option Addr) (c : Nat) (p : List FnD) (w : World) (h : ListK 3 (FnP D) S w a p) (hl : p.length ≤ 100) :
    Calls Tryd.prog 9 #[.agg #[.slice a p.length c]] w fun e w' => e = .returned (.bool (progB p)) ∧ Below w.heap.size w w' := by
  obtain ⟨R, hR⟩ : ∃ R, R = progB p := ⟨_, rfl⟩
  rw [← hR]
  have HR := Lib.hid (show R = (decide (1 ≤ p.length ∧ p.length ≤ 4) && p.all fnB && decide (cntP p ≤ 40)) from hR)
  have hba : Below w.heap.size w (w.alloc (.cells #[.slice a p.length c] 25)) := (Below.refl _ _).alloc (Nat.le_refl _) _
  have HB := Lib.hid (And.intro hba (And.intro (h.below (fnP_stays D) hba) hl))
  have hrow := heap_alloc_new w (.cells #[.slice a p.length c] 25)
  have hl2 : p.length ≤ 9223372036854775807 := by omega
  clear hba h hR
  go_enter Tryd.func9, Tryd.ntmps9
  go_upto_region 1 with fail
  obtain ⟨pb, hpb⟩ : ∃ b, b = w.heap.size := ⟨_, rfl⟩
  rw [← hpb] at hrow ⊢
  generalize w.alloc (.cells #[.slice a p.length c] 25) = W1 at hrow HB ⊢
  have HBW := Lib.hid (show Below w.heap.size w W1 from HB.out.1)
  clear hpb
  have p0 := cell_of_row _ _ 0 _ _ _ hrow
  simp only [List.getElem?_toArray, List.getElem?_cons_zero] at p0
  clear hrow
  by_cases hin : 1 ≤ p.length ∧ p.length ≤ 4
  · have HIN := Lib.hid (show inE 1 (p.length : Int) 4 = true by simp [inE]; omega)
    have HIP := Lib.hid hin
    clear hin
    go_wp2_with fail
    refine (l1InE_is HIN.out _).mono ?_
    rintro e w2 ⟨rfl, rfl⟩
    go_wp2_with fail
    go_loopg [3] p.length (fun G i wr => ∃ (j : Nat), j + G = p.length ∧ i = .int .i64 j ∧ Hid (Below w2.heap.size w2 wr ∧ (p.take j).all fnB = true))
    case atStart => exact ⟨0, by omega, rfl, Lib.hid ⟨Below.refl _ _, rfl⟩⟩
    case round =>
      obtain ⟨j, hj, rfl, HG⟩ := hrel
      have q0 := cell_later HG.out.1 p0
      clear p0
      by_cases hlt : j < p.length
      · have hji : (j : Int) < (p.length : Int) := by omega
        obtain ⟨b, off, x, pa, pc, ba, bc, rfl, hx, hF, c0, c1, c2⟩ := fn_place (HB.out.2.1.below (fnP_stays D) HG.out.1) hlt
        have HC := Lib.hid (l3Fn_any D S _ x wr hF)
        have HX := Lib.hid hx
        clear hx hF
        cases hv : fnB x with
        | false =>
          rw [hv] at HC
          have HF := Lib.hid (show false = R by rw [HR.out, all_not HX.out hv]; simp)
          clear hv
          go_wp2_with fail
          refine HC.out.mono ?_
          rintro e w5 ⟨rfl, hb5⟩
          have HB5 := Lib.hid (HBW.out.trans ((HG.out.1.trans (hb5.mono HG.out.1.size)).mono HBW.out.size))
          clear hb5 c0 c1 c2 q0
          go_wp2
          go_ret
          exact ⟨ret_bool HF.out, HB5.out⟩
        | true =>
          rw [hv] at HC
          have HT := Lib.hid (show (p.take (j + 1)).all fnB = true by rw [all_take HX.out, HG.out.2, hv]; rfl)
          clear hv
          go_wp2_with fail
          refine HC.out.mono ?_
          rintro e w5 ⟨rfl, hb5⟩
          have HB5 := Lib.hid (HG.out.1.trans (hb5.mono HG.out.1.size))
          clear hb5 c0 c1 c2 q0
          go_wp2
          go_roundg (gk - 1)
          case measure => omega
          case rel => exact ⟨j + 1, by omega, by go_num, Lib.hid ⟨HB5.out, HT.out⟩⟩
      · obtain rfl : j = p.length := by omega
        have HALL := Lib.hid (show p.all fnB = true by have h1 := HG.out.2; rw [List.take_length] at h1; exact h1)
        have HP4 := Lib.hid (progP_fit HALL.out (HB.out.2.1.below (fnP_stays D) HG.out.1))
        have HC := Lib.hid (l3All_any S a c p wr HP4.out HB.out.2.2)
        have HBr := Lib.hid (HBW.out.trans (HG.out.1.mono HBW.out.size))
        obtain ⟨n, hn⟩ : ∃ n, n = cntP p := ⟨_, rfl⟩
        rw [← hn] at HC
        by_cases h40 : n ≤ 40
        · have h40i : (n : Int) ≤ 40 := by omega
          have HF := Lib.hid (show true = R by rw [HR.out, HALL.out, decide_eq_true HIP.out, ← hn, decide_eq_true h40]; rfl)
          clear hn
          go_wp2_with fail
          refine HC.out.mono ?_
          rintro e w5 ⟨rfl, hb5⟩
          have HB5 := Lib.hid (HBr.out.trans (hb5.mono HBr.out.size))
          clear hb5 q0
          go_wp2
          go_ret
          exact ⟨ret_bool HF.out, HB5.out⟩
        · have h40i : ¬ (n : Int) ≤ 40 := by omega
          have HF := Lib.hid (show decide ((n : Int) ≤ 40) = R by rw [HR.out, HALL.out, decide_eq_true HIP.out, ← hn, decide_eq_false h40, decide_eq_false h40i]; rfl)
          clear hn
          go_wp2_with fail
          refine HC.out.mono ?_
          rintro e w5 ⟨rfl, hb5⟩
          have HB5 := Lib.hid (HBr.out.trans (hb5.mono HBr.out.size))
          clear hb5 q0
          go_wp2
          go_ret
          exact ⟨ret_bool HF.out, HB5.out⟩
  · have HIN := Lib.hid (show inE 1 (p.length : Int) 4 = false by rw [inE, Bool.and_eq_false_iff, decide_eq_false_iff_not, decide_eq_false_iff_not]; omega)
    have HF := Lib.hid (show false = R by rw [HR.out, decide_eq_false hin]; rfl)
    clear hin
    go_wp2_with fail
    refine (l1InE_is HIN.out _).mono ?_
    rintro e w2 ⟨rfl, rfl⟩
    clear p0
    go_wp2
    go_ret
    exact ⟨ret_bool HF.out, HBW.out⟩

end Go.Proofs.YtccdmgncjlpebaaDoor
