/-
  The small functions of the test whether a unit is valid, the program's and the reference's.
-/
import Derived.Test.YtajnldkempeheaaImplG

namespace Go.Proofs.Ytajnldkempeheaa
open Go.RowKit

def isOpB (op : Int) : Bool := decide (1 ≤ op) && decide (op ≤ 14)
def makesB (op : Int) : Bool := isOpB op && (op != 12 && op != 13)
def argsN (op : Int) : Int := if op = 1 then 0 else if op = 2 ∨ op = 10 ∨ op = 11 ∨ op = 13 then 1 else 2
def argsS (op : Int) : Int := if op = 1 then 0 else if op = 2 ∨ op = 10 ∨ op = 11 ∨ op = 13 then 1 else if (3 ≤ op ∧ op ≤ 9) ∨ op = 12 then 2 else -1
theorem argsS_of {op : Int} (h : isOpB op = true) (h2 : op ≠ 14) : argsS op = argsN op := by
  simp [isOpB] at h
  unfold argsS argsN
  by_cases h1 : op = 1
  · simp [h1]
  · by_cases h3 : op = 2 ∨ op = 10 ∨ op = 11 ∨ op = 13
    · simp [h1, h3]
    · rw [if_neg h1, if_neg h3, if_neg h1, if_neg h3, if_pos (by omega)]
def nextN (j : Int) : Int := if j = 1 then 1 else if j = 2 then 2 else if j = 3 then 0 else -1
def usesJ (j : Int) : Bool := j == 2 || j == 3
/-- A register of a code with n of them. -/
def inR (n r : Int) : Bool := decide (0 ≤ r) && decide (r ≤ n - 1)
def byteB (n : Int) : Bool := decide (0 ≤ n) && decide (n ≤ 255)

theorem isIns_any (op : Int) (w : World) : Calls Try.prog 83 #[.int .i64 op] w fun e w' => e = .returned (.bool (isOpB op)) ∧ w' = w := by
  go_enter Try.func83, Try.ntmps83
  go_wp2_with fail
  refine (within_any op 1 14 w).mono ?_
  rintro e w1 ⟨rfl, rfl⟩
  go_wp2
  go_ret
  exact ⟨rfl, rfl⟩
theorem isByte_any (n : Int) (w : World) : Calls Try.prog 44 #[.int .i64 n] w fun e w' => e = .returned (.bool (byteB n)) ∧ w' = w := by
  go_enter Try.func44, Try.ntmps44
  go_wp2_with fail
  refine (within_any n 0 255 w).mono ?_
  rintro e w1 ⟨rfl, rfl⟩
  go_wp2
  go_ret
  exact ⟨rfl, rfl⟩
theorem sets_any (op : Int) (w : World) : Calls Try.prog 85 #[.int .i64 op] w fun e w' => e = .returned (.bool (makesB op)) ∧ w' = w := by
  cases hv : isOpB op with
  | false =>
    have HM := Lib.hid (show makesB op = false by rw [makesB, hv]; rfl)
    go_enter Try.func85, Try.ntmps85
    go_wp2_with fail
    refine (isIns_any op w).mono ?_
    rw [hv]
    rintro e w1 ⟨rfl, rfl⟩
    go_wp2
    go_ret
    exact ⟨ret_bool HM.out.symm, rfl⟩
  | true =>
    have HM := Lib.hid (show makesB op = (op != 12 && op != 13) by rw [makesB, hv]; rfl)
    cases h12 : op != 12 <;> (
      go_enter Try.func85, Try.ntmps85
      go_wp2_with fail
      refine (isIns_any op w).mono ?_
      rw [hv]
      rintro e w1 ⟨rfl, rfl⟩
      go_wp2
      go_ret
      exact ⟨ret_bool (by rw [HM.out, h12]; rfl), rfl⟩)
theorem l7Makes_any (op : Int) (w : World) : Calls Try.prog 79 #[.int .i64 op] w fun e w' => e = .returned (.bool (makesB op)) ∧ w' = w := by
  cases hv : isOpB op with
  | false =>
    have HM := Lib.hid (show makesB op = false by rw [makesB, hv]; rfl)
    have hv : (decide (1 ≤ op) && decide (op ≤ 14)) = _ := hv
    go_enter Try.func79, Try.ntmps79
    go_wp2_with fail
    refine (l1In_any op 1 14 w).mono ?_
    rw [hv]
    rintro e w1 ⟨rfl, rfl⟩
    go_wp2
    go_ret
    exact ⟨ret_bool HM.out.symm, rfl⟩
  | true =>
    have HM := Lib.hid (show makesB op = (op != 12 && op != 13) by rw [makesB, hv]; rfl)
    have hv : (decide (1 ≤ op) && decide (op ≤ 14)) = _ := hv
    cases h12 : op != 12 <;> (
      go_enter Try.func79, Try.ntmps79
      go_wp2_with fail
      refine (l1In_any op 1 14 w).mono ?_
      rw [hv]
      rintro e w1 ⟨rfl, rfl⟩
      go_wp2
      go_ret
      exact ⟨ret_bool (by rw [HM.out, h12]; rfl), rfl⟩)
theorem insArgs_any (op : Int) (w : World) : Calls Try.prog 86 #[.int .i64 op] w fun e w' => e = .returned (.int .i64 (argsN op)) ∧ w' = w := by
  by_cases h1 : op = 1
  · subst h1
    go_enter Try.func86, Try.ntmps86
    go_wp2
    go_ret
    exact ⟨rfl, rfl⟩
  · by_cases h2 : op = 2 ∨ op = 10 ∨ op = 11 ∨ op = 13
    · have HA := Lib.hid (show argsN op = 1 by simp [argsN, h1, h2])
      rcases h2 with rfl | rfl | rfl | rfl <;> (
        go_enter Try.func86, Try.ntmps86
        go_wp2
        go_ret
        exact ⟨rfl, rfl⟩)
    · have HA := Lib.hid (show argsN op = 2 by simp [argsN, h1, h2])
      have e1 : (op == 1) = false := by simpa using h1
      have e2 : (op == 2) = false := by simp; omega
      have e3 : (op == 10) = false := by simp; omega
      have e4 : (op == 11) = false := by simp; omega
      have e5 : (op == 13) = false := by simp; omega
      clear h1 h2
      go_enter Try.func86, Try.ntmps86
      go_wp2
      go_ret
      exact ⟨ret_int HA.out.symm, rfl⟩
theorem l7Args_any (op : Int) (w : World) : Calls Try.prog 78 #[.int .i64 op] w fun e w' => e = .returned (.int .i64 (argsS op)) ∧ w' = w := by
  by_cases h1 : op = 1
  · subst h1
    go_enter Try.func78, Try.ntmps78
    go_wp2
    go_ret
    exact ⟨rfl, rfl⟩
  · by_cases h2 : op = 2 ∨ op = 10 ∨ op = 11 ∨ op = 13
    · rcases h2 with rfl | rfl | rfl | rfl <;> (
        clear h1
        go_enter Try.func78, Try.ntmps78
        go_wp2
        go_ret
        exact ⟨rfl, rfl⟩)
    · have HA := Lib.hid (show argsS op = if (3 ≤ op ∧ op ≤ 9) ∨ op = 12 then 2 else -1 by simp [argsS, h1, h2])
      have e1 : (op == 1) = false := by simpa using h1
      have e2 : (op == 2) = false := by simp; omega
      have e3 : (op == 10) = false := by simp; omega
      have e4 : (op == 11) = false := by simp; omega
      have e5 : (op == 13) = false := by simp; omega
      clear h1 h2
      by_cases h3 : 3 ≤ op ∧ op ≤ 9
      · have HB := Lib.hid (show argsS op = 2 by rw [HA.out, if_pos (.inl h3)])
        have d1 : decide (3 ≤ op) = true := decide_eq_true h3.1
        have d2 : decide (op ≤ 9) = true := decide_eq_true h3.2
        clear h3
        go_enter Try.func78, Try.ntmps78
        go_wp2_with fail
        refine (l1In_any op 3 9 w).mono ?_
        rw [d1, d2]
        rintro e w1 ⟨rfl, rfl⟩
        go_wp2
        go_ret
        exact ⟨ret_int HB.out.symm, rfl⟩
      · have d0 : (decide (3 ≤ op) && decide (op ≤ 9)) = false := by simp; omega
        by_cases h4 : op = 12
        · subst h4
          go_enter Try.func78, Try.ntmps78
          go_wp2
          go_ret
          exact ⟨rfl, rfl⟩
        · have HB := Lib.hid (show argsS op = -1 by rw [HA.out, if_neg (by omega)])
          have e6 : (op == 12) = false := by simpa using h4
          clear h3 h4
          go_enter Try.func78, Try.ntmps78
          go_wp2_with fail
          refine (l1In_any op 3 9 w).mono ?_
          rw [d0]
          rintro e w1 ⟨rfl, rfl⟩
          go_wp2
          go_ret
          exact ⟨ret_int HB.out.symm, rfl⟩
theorem nextCount_any (j : Int) (w : World) : Calls Try.prog 60 #[.int .i64 j] w fun e w' => e = .returned (.int .i64 (nextN j)) ∧ w' = w := by
  by_cases h : j = 1 ∨ j = 2 ∨ j = 3
  · rcases h with rfl | rfl | rfl <;> (
      go_enter Try.func60, Try.ntmps60
      go_wp2
      go_ret
      exact ⟨rfl, rfl⟩)
  · have HA := Lib.hid (show nextN j = -1 by unfold nextN; rw [if_neg (by omega), if_neg (by omega), if_neg (by omega)])
    have e1 : (j == 1) = false := by simp; omega
    have e2 : (j == 2) = false := by simp; omega
    have e3 : (j == 3) = false := by simp; omega
    clear h
    go_enter Try.func60, Try.ntmps60
    go_wp2
    go_ret
    exact ⟨ret_int HA.out.symm, rfl⟩
theorem usesOn_any (j : Int) (w : World) : Calls Try.prog 61 #[.int .i64 j] w fun e w' => e = .returned (.bool (usesJ j)) ∧ w' = w := by
  unfold usesJ
  cases h1 : j == 2 <;> (
    go_enter Try.func61, Try.ntmps61
    go_wp2
    go_ret
    exact ⟨rfl, rfl⟩)

end Go.Proofs.Ytajnldkempeheaa
