
/-
  FnDoIns: what an instruction makes of values, both.
-/
import Derived.Test.YtccfbnhlhjlmgaaDoorEx5
namespace Go.Proofs.YtccfbnhlhjlmgaaDoor
open Go.RowKit

def arithP (o : Option Int) : Int × Int := match o with
  | some n => (n, 0)
  | none => (0, 1)
def doD (op a b : Int) : Int × Int :=
  if inE 0 a 255 && inE 0 b 255 then
    (if op = 1 ∨ op = 2 then (a, 0) else if op = 10 then (truthI (a == 0), 0) else if inE 3 op 9 then arithP (arithD op a b) else (-1, -1))
  else (-1, -1)
theorem in_of {lo x hi : Int} (h : inE lo x hi = true) : lo ≤ x ∧ x ≤ hi := by simpa [inE] using h

set_option maxRecDepth 100000 in
set_option maxHeartbeats 4000000 in
theorem implDoIns_any (op a b : Int) (w : World) : Calls Tryd.prog 15 #[.int .i64 op, .int .i64 a, .int .i64 b] w fun e w' => e = .returned (.tuple #[.int .i64 (doD op a b).1, .int .i64 (doD op a b).2]) ∧ w' = w := by
  obtain ⟨R, hR⟩ : ∃ R, R = doD op a b := ⟨_, rfl⟩
  rw [← hR]
  have HR := Lib.hid hR
  clear hR
  go_enter Tryd.func15, Tryd.ntmps15
  cases ha : inE 0 a 255 with
  | false =>
    have HN := Lib.hid (show R = (-1, -1) by rw [HR.out, doD, ha]; rfl)
    go_wp2_with fail
    refine (isByteE_is ha _).mono ?_
    rintro e w1 ⟨rfl, rfl⟩
    go_wp2
    go_ret2
    exact ⟨by rw [HN.out]; rfl, rfl⟩
  | true =>
    cases hb : inE 0 b 255 with
    | false =>
      have HN := Lib.hid (show R = (-1, -1) by rw [HR.out, doD, ha, hb]; rfl)
      go_wp2_with fail
      refine (isByteE_is ha _).mono ?_
      rintro e w1 ⟨rfl, rfl⟩
      go_wp2_with fail
      refine (isByteE_is hb _).mono ?_
      rintro e w2 ⟨rfl, rfl⟩
      go_wp2
      go_ret2
      exact ⟨by rw [HN.out]; rfl, rfl⟩
    | true =>
      have HD := Lib.hid (show R = (if op = 1 ∨ op = 2 then (a, 0) else if op = 10 then (truthI (a == 0), 0) else if inE 3 op 9 then arithP (arithD op a b) else (-1, -1)) by rw [HR.out, doD, ha, hb]; rfl)
      have HAB := Lib.hid (And.intro (in_of ha) (in_of hb))
      go_wp2_with fail
      refine (isByteE_is ha _).mono ?_
      rintro e w1 ⟨rfl, rfl⟩
      go_wp2_with fail
      refine (isByteE_is hb _).mono ?_
      rintro e w2 ⟨rfl, rfl⟩
      clear ha hb
      by_cases h1 : op = 1
      · have HN := Lib.hid (show R = (a, 0) by rw [HD.out, if_pos (.inl h1)])
        subst h1
        go_wp2
        go_ret2
        exact ⟨by rw [HN.out]; rfl, rfl⟩
      by_cases h2 : op = 2
      · have HN := Lib.hid (show R = (a, 0) by rw [HD.out, if_pos (.inr h2)])
        subst h2
        go_wp2
        go_ret2
        exact ⟨by rw [HN.out]; rfl, rfl⟩
      have o1 : (op == 1) = false := by simpa using h1
      have o2 : (op == 2) = false := by simpa using h2
      by_cases h10 : op = 10
      · have HN := Lib.hid (show R = (truthI (a == 0), 0) by rw [HD.out, if_neg (by omega), if_pos h10])
        have HAR := Lib.hid (arith_any 11 a 0 HAB.out.1 (by omega))
        rw [show arithD 11 a 0 = some (truthI (a == 0)) from rfl] at HAR
        generalize truthI (a == 0) = t at HN HAR
        subst h10
        clear h1 h2
        go_wp2_with fail
        refine (HAR.out _).mono ?_
        rintro e w3 ⟨he, rfl⟩
        obtain rfl : e = .returned (.tuple #[.int .i64 t, .bool true]) := he
        go_wp2
        go_ret2
        exact ⟨by rw [HN.out]; rfl, rfl⟩
      have o10 : (op == 10) = false := by simpa using h10
      have HD2 := Lib.hid (HD.out.trans ((if_neg (by omega)).trans (if_neg h10)))
      cases hw : inE 3 op 9 with
      | false =>
        have HN := Lib.hid (show R = (-1, -1) by rw [HD2.out, hw]; rfl)
        clear h1 h2 h10
        go_wp2_with fail
        refine (withinE_is hw _).mono ?_
        rintro e w3 ⟨rfl, rfl⟩
        go_wp2
        go_ret2
        exact ⟨by rw [HN.out]; rfl, rfl⟩
      | true =>
        have HN := Lib.hid (show R = arithP (arithD op a b) by rw [HD2.out, hw]; rfl)
        have HAR := Lib.hid (arith_any op a b HAB.out.1 HAB.out.2)
        clear h1 h2 h10
        generalize arithD op a b = r at HN HAR
        go_wp2_with fail
        refine (withinE_is hw _).mono ?_
        rintro e w3 ⟨rfl, rfl⟩
        go_wp2_with fail
        refine (HAR.out _).mono ?_
        rintro e w4 ⟨he, rfl⟩
        cases r with
        | none =>
          obtain rfl : e = .returned (.tuple #[.int .i64 0, .bool false]) := he
          go_wp2
          go_ret2
          exact ⟨by rw [HN.out]; rfl, rfl⟩
        | some n =>
          obtain rfl : e = .returned (.tuple #[.int .i64 n, .bool true]) := he
          go_wp2
          go_ret2
          exact ⟨by rw [HN.out]; rfl, rfl⟩

theorem l1InE_any (x lo hi : Int) (w : World) : Calls Tryd.prog 61 #[.int .i64 x, .int .i64 lo, .int .i64 hi] w fun e w' => e = .returned (.bool (inE lo x hi)) ∧ w' = w := by
  unfold inE
  by_cases h1 : lo ≤ x
  · have d1 : decide (lo ≤ x) = true := decide_eq_true h1
    by_cases h2 : x ≤ hi
    · have d2 : decide (x ≤ hi) = true := decide_eq_true h2
      rw [d1, d2]
      go_enter Tryd.func61, Tryd.ntmps61
      go_wp2
      go_ret
      exact ⟨rfl, rfl⟩
    · have d2 : decide (x ≤ hi) = false := decide_eq_false h2
      rw [d1, d2]
      go_enter Tryd.func61, Tryd.ntmps61
      go_wp2
      go_ret
      exact ⟨rfl, rfl⟩
  · have d1 : decide (lo ≤ x) = false := decide_eq_false h1
    rw [d1]
    go_enter Tryd.func61, Tryd.ntmps61
    go_wp2
    go_ret
    exact ⟨rfl, rfl⟩
theorem l1InE_is {x lo hi : Int} {b : Bool} (h : inE lo x hi = b) (w : World) : Calls Tryd.prog 61 #[.int .i64 x, .int .i64 lo, .int .i64 hi] w fun e w' => e = .returned (.bool b) ∧ w' = w := by rw [← h]; exact l1InE_any x lo hi w
theorem l5Truth_any (c : Bool) (w : World) : Calls Tryd.prog 107 #[.bool c] w fun e w' => e = .returned (.int .i64 (truthI c)) ∧ w' = w := by
  go_enter Tryd.func107, Tryd.ntmps107
  cases c
  · go_wp2
    go_ret
    exact ⟨rfl, rfl⟩
  · go_wp2
    go_ret
    exact ⟨rfl, rfl⟩
theorem l8Pure_any (op : Int) (w : World) : Calls Tryd.prog 60 #[.int .i64 op] w fun e w' => e = .returned (.bool (inE 1 op 10)) ∧ w' = w := by
  go_enter Tryd.func60, Tryd.ntmps60
  go_wp2_with fail
  refine (l1InE_any op 1 10 w).mono ?_
  rintro e w1 ⟨rfl, rfl⟩
  go_wp2
  go_ret
  exact ⟨rfl, rfl⟩

set_option maxRecDepth 100000 in
set_option maxHeartbeats 4000000 in
theorem l5Two_any (op a b : Int) (hop : 3 ≤ op ∧ op ≤ 9) (ha : 0 ≤ a ∧ a ≤ 255) (hb : 0 ≤ b ∧ b ≤ 255) (w : World) : Calls Tryd.prog 108 #[.int .i64 op, .int .i64 a, .int .i64 b] w fun e w' => e = .returned (.tuple #[.int .i64 (arithP (arithD op a b)).1, .int .i64 (arithP (arithD op a b)).2]) ∧ w' = w := by
  obtain ⟨ha0, ha1⟩ := ha
  obtain ⟨hb0, hb1⟩ := hb
  have hc : op = 3 ∨ op = 4 ∨ op = 5 ∨ op = 6 ∨ op = 7 ∨ op = 8 ∨ op = 9 := by omega
  have hm0 : 0 ≤ a * b := Int.mul_nonneg ha0 hb0
  have hm1 : a * b ≤ 65025 := by
    have h1 : a * b ≤ 255 * b := Int.mul_le_mul_of_nonneg_right ha1 hb0
    omega
  rcases hc with rfl | rfl | rfl | rfl | rfl | rfl | rfl
  · have e1 : (a + b).tmod 256 = (a + b) % 256 := Int.tmod_eq_emod_of_nonneg (by omega)
    clear hm0 hm1
    go_enter Tryd.func108, Tryd.ntmps108
    go_wp2
    go_ret2
    exact ⟨rfl, rfl⟩
  · have e1 : (a - b + 256).tmod 256 = (a - b) % 256 := (Int.tmod_eq_emod_of_nonneg (by omega)).trans (by omega)
    clear hm0 hm1
    go_enter Tryd.func108, Tryd.ntmps108
    go_wp2
    go_ret2
    exact ⟨rfl, rfl⟩
  · have hmw : IntKind.i64.wrap (a * b) = a * b := IntWalk.i64_in _ (by omega)
    have hmt : (a * b).tmod 256 = (a * b) % 256 := Int.tmod_eq_emod_of_nonneg hm0
    go_enter Tryd.func108, Tryd.ntmps108
    go_wp2
    go_ret2
    exact ⟨rfl, rfl⟩
  · clear hm0 hm1
    by_cases hz : b = 0
    · subst hz
      go_enter Tryd.func108, Tryd.ntmps108
      go_wp2
      go_ret2
      exact ⟨rfl, rfl⟩
    · have HV := Lib.hid (show arithD 6 a b = some (a / b) by simp [arithD, hz])
      have e1 : a.tdiv b = a / b := Int.tdiv_eq_ediv_of_nonneg ha0
      have e2 := Int.ediv_nonneg ha0 hb0
      have e3 := Int.ediv_le_self b ha0
      have hbz : (b == 0) = false := by simpa using hz
      have hw : IntKind.i64.wrap (a / b) = a / b := IntWalk.i64_in _ (by omega)
      rw [HV.out]
      go_enter Tryd.func108, Tryd.ntmps108
      go_wp2
      go_ret2
      exact ⟨rfl, rfl⟩
  · clear hm0 hm1
    by_cases hz : b = 0
    · subst hz
      go_enter Tryd.func108, Tryd.ntmps108
      go_wp2
      go_ret2
      exact ⟨rfl, rfl⟩
    · have HV := Lib.hid (show arithD 7 a b = some (a % b) by simp [arithD, hz])
      have e1 : a.tmod b = a % b := Int.tmod_eq_emod_of_nonneg ha0
      have hbz : (b == 0) = false := by simpa using hz
      rw [HV.out]
      go_enter Tryd.func108, Tryd.ntmps108
      go_wp2
      go_ret2
      exact ⟨rfl, rfl⟩
  · have HT := Lib.hid (fun c W => l5Truth_any c W)
    clear hm0 hm1
    go_enter Tryd.func108, Tryd.ntmps108
    go_wp2_with fail
    refine (HT.out _ w).mono ?_
    rintro e w2 ⟨rfl, rfl⟩
    go_wp2
    go_ret2
    exact ⟨rfl, rfl⟩
  · have HT := Lib.hid (fun c W => l5Truth_any c W)
    clear hm0 hm1
    go_enter Tryd.func108, Tryd.ntmps108
    go_wp2_with fail
    refine (HT.out _ w).mono ?_
    rintro e w2 ⟨rfl, rfl⟩
    go_wp2
    go_ret2
    exact ⟨rfl, rfl⟩

set_option maxRecDepth 100000 in
set_option maxHeartbeats 4000000 in
theorem l8Do_any (op a b : Int) (hop : 1 ≤ op ∧ op ≤ 10) (ha : 0 ≤ a ∧ a ≤ 255) (hb : 0 ≤ b ∧ b ≤ 255) (w : World) : Calls Tryd.prog 62 #[.int .i64 op, .int .i64 a, .int .i64 b] w fun e w' => e = .returned (.tuple #[.int .i64 (doD op a b).1, .int .i64 (doD op a b).2]) ∧ w' = w := by
  obtain ⟨R, hR⟩ : ∃ R, R = doD op a b := ⟨_, rfl⟩
  rw [← hR]
  have HD := Lib.hid (show R = (if op = 1 ∨ op = 2 then (a, 0) else if op = 10 then (truthI (a == 0), 0) else if inE 3 op 9 then arithP (arithD op a b) else (-1, -1)) by
    rw [hR, doD, show inE 0 a 255 = true by simp [inE, ha], show inE 0 b 255 = true by simp [inE, hb]]; rfl)
  clear hR
  by_cases h1 : op = 1
  · have HN := Lib.hid (show R = (a, 0) by rw [HD.out, if_pos (.inl h1)])
    subst h1
    go_enter Tryd.func62, Tryd.ntmps62
    go_wp2
    go_ret2
    exact ⟨by rw [HN.out]; rfl, rfl⟩
  by_cases h2 : op = 2
  · have HN := Lib.hid (show R = (a, 0) by rw [HD.out, if_pos (.inr h2)])
    subst h2
    go_enter Tryd.func62, Tryd.ntmps62
    go_wp2
    go_ret2
    exact ⟨by rw [HN.out]; rfl, rfl⟩
  have o1 : (op == 1) = false := by simpa using h1
  have o2 : (op == 2) = false := by simpa using h2
  by_cases h10 : op = 10
  · have HN := Lib.hid (show R = (truthI (a == 0), 0) by rw [HD.out, if_neg (by omega), if_pos h10])
    have HT := Lib.hid (fun W => l5Truth_any (a == 0) W)
    generalize truthI (a == 0) = t at HN HT
    subst h10
    clear h1 h2 o1 o2
    go_enter Tryd.func62, Tryd.ntmps62
    go_wp2_with fail
    refine (HT.out _).mono ?_
    rintro e w3 ⟨rfl, rfl⟩
    go_wp2
    go_ret2
    exact ⟨by rw [HN.out]; rfl, rfl⟩
  have o10 : (op == 10) = false := by simpa using h10
  have HN := Lib.hid (show R = arithP (arithD op a b) by rw [HD.out, if_neg (by omega), if_neg h10, show inE 3 op 9 = true by simp [inE]; omega]; rfl)
  have HTW := Lib.hid (fun W => l5Two_any op a b (by omega) ha hb W)
  generalize arithP (arithD op a b) = t at HN HTW
  obtain ⟨t1, t2⟩ := t
  clear h1 h2 h10
  go_enter Tryd.func62, Tryd.ntmps62
  go_wp2_with fail
  refine (HTW.out _).mono ?_
  rintro e w3 ⟨rfl, rfl⟩
  go_wp2
  go_ret2
  exact ⟨by rw [HN.out]; rfl, rfl⟩
theorem doD_none {op a b : Int} (h : inE 1 op 10 = false) : doD op a b = (-1, -1) := by
  unfold doD
  split
  · rw [if_neg (by rintro (rfl | rfl) <;> cases h), if_neg (by rintro rfl; cases h), if_neg]
    intro h3
    have := in_of h3
    simp only [inE, Bool.and_eq_false_iff, decide_eq_false_iff_not] at h
    omega
  · rfl

set_option maxRecDepth 100000 in
set_option maxHeartbeats 4000000 in
theorem specDoIns_any (op a b : Int) (w : World) : Calls Tryd.prog 16 #[.int .i64 op, .int .i64 a, .int .i64 b] w fun e w' => e = .returned (.tuple #[.int .i64 (doD op a b).1, .int .i64 (doD op a b).2]) ∧ w' = w := by
  obtain ⟨R, hR⟩ : ∃ R, R = doD op a b := ⟨_, rfl⟩
  rw [← hR]
  have HR := Lib.hid hR
  clear hR
  cases hp : inE 1 op 10 with
  | false =>
    have HN := Lib.hid (show R = (-1, -1) from HR.out.trans (doD_none hp))
    have HPU := Lib.hid (fun W => l8Pure_any op W)
    rw [hp] at HPU
    clear hp
    go_enter Tryd.func16, Tryd.ntmps16
    go_wp2_with fail
    refine (HPU.out _).mono ?_
    rintro e w1 ⟨rfl, rfl⟩
    go_wp2
    go_ret2
    exact ⟨by rw [HN.out]; rfl, rfl⟩
  | true =>
    have HPU := Lib.hid (fun W => l8Pure_any op W)
    rw [hp] at HPU
    have HOP := Lib.hid (in_of hp)
    clear hp
    go_enter Tryd.func16, Tryd.ntmps16
    go_wp2_with fail
    refine (HPU.out _).mono ?_
    rintro e w1 ⟨rfl, rfl⟩
    cases ha : inE 0 a 255 with
    | false =>
      have HN := Lib.hid (show R = (-1, -1) by rw [HR.out, doD, ha]; rfl)
      go_wp2_with fail
      refine (l1InE_is ha _).mono ?_
      rintro e w2 ⟨rfl, rfl⟩
      go_wp2
      go_ret2
      exact ⟨by rw [HN.out]; rfl, rfl⟩
    | true =>
      cases hb : inE 0 b 255 with
      | false =>
        have HN := Lib.hid (show R = (-1, -1) by rw [HR.out, doD, ha, hb]; rfl)
        go_wp2_with fail
        refine (l1InE_is ha _).mono ?_
        rintro e w2 ⟨rfl, rfl⟩
        go_wp2_with fail
        refine (l1InE_is hb _).mono ?_
        rintro e w3 ⟨rfl, rfl⟩
        go_wp2
        go_ret2
        exact ⟨by rw [HN.out]; rfl, rfl⟩
      | true =>
        have HDO := Lib.hid (fun W => l8Do_any op a b HOP.out (in_of ha) (in_of hb) W)
        rw [← HR.out] at HDO
        go_wp2_with fail
        refine (l1InE_is ha _).mono ?_
        rintro e w2 ⟨rfl, rfl⟩
        go_wp2_with fail
        refine (l1InE_is hb _).mono ?_
        rintro e w3 ⟨rfl, rfl⟩
        obtain ⟨r1, r2⟩ := R
        go_wp2_with fail
        refine (HDO.out _).mono ?_
        rintro e w4 ⟨rfl, rfl⟩
        go_wp2
        go_ret2
        exact ⟨rfl, rfl⟩

end Go.Proofs.YtccfbnhlhjlmgaaDoor
