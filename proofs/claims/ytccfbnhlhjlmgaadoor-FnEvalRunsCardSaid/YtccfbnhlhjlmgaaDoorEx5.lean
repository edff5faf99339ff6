
/-
  Expressions: what an op between two makes of values.
-/
import Derived.Test.YtccfbnhlhjlmgaaDoorEx4
namespace Go.Proofs.YtccfbnhlhjlmgaaDoor
open Go.RowKit

def truthI (b : Bool) : Int := if b then 1 else 0
def arithD (op a b : Int) : Option Int :=
  if op = 3 then some ((a + b) % 256) else if op = 4 then some ((a - b) % 256) else if op = 5 then some (a * b % 256)
  else if op = 6 ∨ op = 7 then (if b = 0 then none else if op = 6 then some (a / b) else some (a % b))
  else if op = 8 then some (truthI (decide (a < b))) else if op = 9 then some (truthI (a == b)) else if op = 10 then some (truthI (!(a == 0) && !(b == 0))) else some (truthI (a == 0))
def arithE (o : Option Int) : Ending := match o with
  | none => .returned (.tuple #[.int .i64 0, .bool false])
  | some r => .returned (.tuple #[.int .i64 r, .bool true])
theorem arithD_range {op a b r : Int} (ha : 0 ≤ a ∧ a ≤ 255) (hb : 0 ≤ b ∧ b ≤ 255) (h : arithD op a b = some r) : 0 ≤ r ∧ r ≤ 255 := by
  have ht : ∀ c : Bool, 0 ≤ truthI c ∧ truthI c ≤ 255 := fun c => by cases c <;> simp [truthI]
  unfold arithD at h
  split at h
  · cases h; omega
  · split at h
    · cases h; omega
    · split at h
      · cases h
        have := Int.emod_nonneg (a * b) (show (256 : Int) ≠ 0 by omega)
        have := Int.emod_lt_of_pos (a * b) (show (0 : Int) < 256 by omega)
        omega
      · split at h
        · split at h
          · cases h
          · rename_i hb0
            split at h
            · cases h
              have h1 := Int.ediv_nonneg ha.1 hb.1
              have h2 := Int.ediv_le_self b ha.1
              omega
            · cases h
              have h1 := Int.emod_nonneg a hb0
              have h2 := Int.emod_lt_of_pos a (show 0 < b by omega)
              omega
        · split at h
          · cases h; exact ht _
          · split at h
            · cases h; exact ht _
            · split at h
              · cases h; exact ht _
              · cases h; exact ht _

theorem truth_any (c : Bool) (w : World) : Calls Tryd.prog 106 #[.bool c] w fun e w' => e = .returned (.int .i64 (truthI c)) ∧ w' = w := by
  go_enter Tryd.func106, Tryd.ntmps106
  cases c
  · go_wp2
    go_ret
    exact ⟨rfl, rfl⟩
  · go_wp2
    go_ret
    exact ⟨rfl, rfl⟩

set_option maxRecDepth 100000 in
set_option maxHeartbeats 4000000 in
theorem arith_any (op a b : Int) (ha : 0 ≤ a ∧ a ≤ 255) (hb : 0 ≤ b ∧ b ≤ 255) (w : World) :
    Calls Tryd.prog 58 #[.int .i64 op, .int .i64 a, .int .i64 b] w fun e w' => e = arithE (arithD op a b) ∧ w' = w := by
  have hen : ∀ v W, (callFunc 106 #[v]).run Tryd.prog W = .ok (.enter 106 #[v]) W := fun v W => by kernel_rfl
  obtain ⟨ha0, ha1⟩ := ha
  obtain ⟨hb0, hb1⟩ := hb
  have hm0 : 0 ≤ a * b := Int.mul_nonneg ha0 hb0
  have hm1 : a * b ≤ 65025 := by
    have h1 : a * b ≤ 255 * b := Int.mul_le_mul_of_nonneg_right ha1 hb0
    omega
  have hmw : IntKind.i64.wrap (a * b) = a * b := IntWalk.i64_in _ (by omega)
  have hmt : (a * b).tmod 256 = (a * b) % 256 := Int.tmod_eq_emod_of_nonneg hm0
  go_enter Tryd.func58, Tryd.ntmps58
  by_cases h3 : op = 3
  · subst h3
    have HD := Lib.hid (show arithD 3 a b = some ((a + b) % 256) from rfl)
    have e1 : (a + b).tmod 256 = (a + b) % 256 := Int.tmod_eq_emod_of_nonneg (by omega)
    clear hm0 hm1 hmw hmt
    go_wp2
    go_ret2
    rw [HD.out]
    exact ⟨rfl, rfl⟩
  have o3 : (op == 3) = false := by simpa using h3
  by_cases h4 : op = 4
  · subst h4
    have HD := Lib.hid (show arithD 4 a b = some ((a - b) % 256) from rfl)
    have e1 : (a - b + 256).tmod 256 = (a - b) % 256 := (Int.tmod_eq_emod_of_nonneg (by omega)).trans (by omega)
    clear h3 o3 hm0 hm1 hmw hmt
    go_wp2
    go_ret2
    rw [HD.out]
    exact ⟨rfl, rfl⟩
  have o4 : (op == 4) = false := by simpa using h4
  by_cases h5 : op = 5
  · subst h5
    have HD := Lib.hid (show arithD 5 a b = some ((a * b) % 256) from rfl)
    clear h3 o3 h4 o4
    go_wp2
    go_ret2
    rw [HD.out]
    exact ⟨rfl, rfl⟩
  have o5 : (op == 5) = false := by simpa using h5
  clear hm0 hm1 hmw hmt
  by_cases h6 : op = 6
  · subst h6
    by_cases hz : b = 0
    · subst hz
      have HD := Lib.hid (show arithD 6 a 0 = none from rfl)
      clear h3 o3 h4 o4 h5 o5
      go_wp2
      go_ret2
      rw [HD.out]
      exact ⟨rfl, rfl⟩
    · have HD := Lib.hid (show arithD 6 a b = some (a / b) by simp [arithD, hz])
      have e1 : a.tdiv b = a / b := Int.tdiv_eq_ediv_of_nonneg ha0
      have e2 := Int.ediv_nonneg ha0 hb0
      have e3 := Int.ediv_le_self b ha0
      have hbz : (b == 0) = false := by simpa using hz
      have hw : IntKind.i64.wrap (a / b) = a / b := IntWalk.i64_in _ (by omega)
      clear h3 o3 h4 o4 h5 o5
      go_wp2
      go_ret2
      rw [HD.out]
      exact ⟨rfl, rfl⟩
  have o6 : (op == 6) = false := by simpa using h6
  by_cases h7 : op = 7
  · subst h7
    by_cases hz : b = 0
    · subst hz
      have HD := Lib.hid (show arithD 7 a 0 = none from rfl)
      clear h3 o3 h4 o4 h5 o5 h6 o6
      go_wp2
      go_ret2
      rw [HD.out]
      exact ⟨rfl, rfl⟩
    · have HD := Lib.hid (show arithD 7 a b = some (a % b) by simp [arithD, hz])
      have e1 : a.tmod b = a % b := Int.tmod_eq_emod_of_nonneg ha0
      have hbz : (b == 0) = false := by simpa using hz
      clear h3 o3 h4 o4 h5 o5 h6 o6
      go_wp2
      go_ret2
      rw [HD.out]
      exact ⟨rfl, rfl⟩
  have o7 : (op == 7) = false := by simpa using h7
  have HT := Lib.hid (fun c W => truth_any c W)
  by_cases h8 : op = 8
  · subst h8
    have HD := Lib.hid (show arithD 8 a b = some (truthI (decide (a < b))) from rfl)
    clear h3 o3 h4 o4 h5 o5 h6 o6 h7 o7
    go_wp2_with fail
    refine (HT.out _ w).mono ?_
    rintro e w2 ⟨rfl, rfl⟩
    go_wp2
    go_ret2
    rw [HD.out]
    exact ⟨rfl, rfl⟩
  have o8 : (op == 8) = false := by simpa using h8
  by_cases h9 : op = 9
  · subst h9
    have HD := Lib.hid (show arithD 9 a b = some (truthI (a == b)) from rfl)
    clear h3 o3 h4 o4 h5 o5 h6 o6 h7 o7 h8 o8
    go_wp2_with fail
    refine (HT.out _ w).mono ?_
    rintro e w2 ⟨rfl, rfl⟩
    go_wp2
    go_ret2
    rw [HD.out]
    exact ⟨rfl, rfl⟩
  have o9 : (op == 9) = false := by simpa using h9
  by_cases h10 : op = 10
  · subst h10
    have HD := Lib.hid (show arithD 10 a b = some (truthI (!(a == 0) && !(b == 0))) from rfl)
    clear h3 o3 h4 o4 h5 o5 h6 o6 h7 o7 h8 o8 h9 o9
    cases ca : (a == 0) with
    | true =>
      have na : (a != 0) = false := by rw [bne, ca]; rfl
      rw [ca] at HD
      go_wp2_with fail
      refine (HT.out _ w).mono ?_
      rintro e w2 ⟨rfl, rfl⟩
      go_wp2
      go_ret2
      rw [HD.out]
      exact ⟨rfl, rfl⟩
    | false =>
      have na : (a != 0) = true := by rw [bne, ca]; rfl
      rw [ca] at HD
      cases cb : (b == 0) with
      | true =>
        have nb : (b != 0) = false := by rw [bne, cb]; rfl
        rw [cb] at HD
        go_wp2_with fail
        refine (HT.out _ w).mono ?_
        rintro e w2 ⟨rfl, rfl⟩
        go_wp2
        go_ret2
        rw [HD.out]
        exact ⟨rfl, rfl⟩
      | false =>
        have nb : (b != 0) = true := by rw [bne, cb]; rfl
        rw [cb] at HD
        go_wp2_with fail
        refine (HT.out _ w).mono ?_
        rintro e w2 ⟨rfl, rfl⟩
        go_wp2
        go_ret2
        rw [HD.out]
        exact ⟨rfl, rfl⟩
  have o10 : (op == 10) = false := by simpa using h10
  have HD := Lib.hid (show arithD op a b = some (truthI (a == 0)) by
    unfold arithD
    rw [if_neg h3, if_neg h4, if_neg h5, if_neg (by simp [h6, h7]), if_neg h8, if_neg h9, if_neg h10])
  clear h3 h4 h5 h6 h7 h8 h9 h10
  go_wp2_with fail
  refine (HT.out _ w).mono ?_
  rintro e w2 ⟨rfl, rfl⟩
  go_wp2
  go_ret2
  rw [HD.out]
  exact ⟨rfl, rfl⟩

end Go.Proofs.YtccfbnhlhjlmgaaDoor
