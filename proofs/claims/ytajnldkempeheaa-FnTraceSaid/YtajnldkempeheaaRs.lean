/-
  Small functions of a run of a unit: what an op makes of values, whether numbers are bytes; the program's and the reference's.
-/
import Derived.Test.YtajnldkempeheaaUvIns

namespace Go.Proofs.Ytajnldkempeheaa
open Go.RowKit
set_option linter.unusedVariables false

def inE (lo x hi : Int) : Bool := decide (lo ≤ x) && decide (x ≤ hi)
theorem withinE_any (x lo hi : Int) (w : World) : Calls Try.prog 29 #[.int .i64 x, .int .i64 lo, .int .i64 hi] w fun e w' => e = .returned (.bool (inE lo x hi)) ∧ w' = w := by
  unfold inE
  by_cases h1 : lo ≤ x
  · have d1 : decide (lo ≤ x) = true := decide_eq_true h1
    by_cases h2 : x ≤ hi
    · have d2 : decide (x ≤ hi) = true := decide_eq_true h2
      rw [d1, d2]
      go_enter Try.func29, Try.ntmps29
      go_wp2
      go_ret
      exact ⟨rfl, rfl⟩
    · have d2 : decide (x ≤ hi) = false := decide_eq_false h2
      rw [d1, d2]
      go_enter Try.func29, Try.ntmps29
      go_wp2
      go_ret
      exact ⟨rfl, rfl⟩
  · have d1 : decide (lo ≤ x) = false := decide_eq_false h1
    rw [d1]
    go_enter Try.func29, Try.ntmps29
    go_wp2
    go_ret
    exact ⟨rfl, rfl⟩
theorem isByteE_any (x : Int) (w : World) : Calls Try.prog 44 #[.int .i64 x] w fun e w' => e = .returned (.bool (inE 0 x 255)) ∧ w' = w := by
  go_enter Try.func44, Try.ntmps44
  go_wp2_with fail
  refine (withinE_any x 0 255 w).mono ?_
  rintro e w1 ⟨rfl, rfl⟩
  go_wp2
  go_ret
  exact ⟨rfl, rfl⟩
def truthI (b : Bool) : Int := if b then 1 else 0
def arithD (op a b : Int) : Option Int :=
  if op = 3 then some ((a + b) % 256) else if op = 4 then some ((a - b) % 256) else if op = 5 then some (a * b % 256)
  else if op = 6 ∨ op = 7 then (if b = 0 then none else if op = 6 then some (a / b) else some (a % b))
  else if op = 8 then some (truthI (decide (a < b))) else if op = 9 then some (truthI (a == b)) else if op = 10 then some (truthI (!(a == 0) && !(b == 0))) else some (truthI (a == 0))
def arithE (o : Option Int) : Ending := match o with
  | none => .returned (.tuple #[.int .i64 0, .bool false])
  | some r => .returned (.tuple #[.int .i64 r, .bool true])
theorem arithD_range {op a b r : Int} (ha : 0 ≤ a ∧ a ≤ 255) (hb : 0 ≤ b ∧ b ≤ 255) (h : arithD op a b = some r) : 0 ≤ r ∧ r ≤ 255 := by
  have ht : ∀ c : Bool, 0 ≤ truthI c ∧ truthI c ≤ 255 := fun c => by cases c <;> simp [truthI]
  unfold arithD at h
  split at h
  · cases h; omega
  · split at h
    · cases h; omega
    · split at h
      · cases h
        have := Int.emod_nonneg (a * b) (show (256 : Int) ≠ 0 by omega)
        have := Int.emod_lt_of_pos (a * b) (show (0 : Int) < 256 by omega)
        omega
      · split at h
        · split at h
          · cases h
          · rename_i hb0
            split at h
            · cases h
              have h1 := Int.ediv_nonneg ha.1 hb.1
              have h2 := Int.ediv_le_self b ha.1
              omega
            · cases h
              have h1 := Int.emod_nonneg a hb0
              have h2 := Int.emod_lt_of_pos a (show 0 < b by omega)
              omega
        · split at h
          · cases h; exact ht _
          · split at h
            · cases h; exact ht _
            · split at h
              · cases h; exact ht _
              · cases h; exact ht _
theorem truth_any (c : Bool) (w : World) : Calls Try.prog 87 #[.bool c] w fun e w' => e = .returned (.int .i64 (truthI c)) ∧ w' = w := by
  go_enter Try.func87, Try.ntmps87
  cases c
  · go_wp2
    go_ret
    exact ⟨rfl, rfl⟩
  · go_wp2
    go_ret
    exact ⟨rfl, rfl⟩
set_option maxRecDepth 100000 in
set_option maxHeartbeats 4000000 in
theorem arith_any (op a b : Int) (ha : 0 ≤ a ∧ a ≤ 255) (hb : 0 ≤ b ∧ b ≤ 255) (w : World) :
    Calls Try.prog 71 #[.int .i64 op, .int .i64 a, .int .i64 b] w fun e w' => e = arithE (arithD op a b) ∧ w' = w := by
  have hen : ∀ v W, (callFunc 87 #[v]).run Try.prog W = .ok (.enter 87 #[v]) W := fun v W => by kernel_rfl
  obtain ⟨ha0, ha1⟩ := ha
  obtain ⟨hb0, hb1⟩ := hb
  have hm0 : 0 ≤ a * b := Int.mul_nonneg ha0 hb0
  have hm1 : a * b ≤ 65025 := by
    have h1 : a * b ≤ 255 * b := Int.mul_le_mul_of_nonneg_right ha1 hb0
    omega
  have hmw : IntKind.i64.wrap (a * b) = a * b := IntWalk.i64_in _ (by omega)
  have hmt : (a * b).tmod 256 = (a * b) % 256 := Int.tmod_eq_emod_of_nonneg hm0
  go_enter Try.func71, Try.ntmps71
  by_cases h3 : op = 3
  · subst h3
    have HD := Lib.hid (show arithD 3 a b = some ((a + b) % 256) from rfl)
    have e1 : (a + b).tmod 256 = (a + b) % 256 := Int.tmod_eq_emod_of_nonneg (by omega)
    clear hm0 hm1 hmw hmt
    go_wp2
    go_ret2
    rw [HD.out]
    exact ⟨rfl, rfl⟩
  have o3 : (op == 3) = false := by simpa using h3
  by_cases h4 : op = 4
  · subst h4
    have HD := Lib.hid (show arithD 4 a b = some ((a - b) % 256) from rfl)
    have e1 : (a - b + 256).tmod 256 = (a - b) % 256 := (Int.tmod_eq_emod_of_nonneg (by omega)).trans (by omega)
    clear h3 o3 hm0 hm1 hmw hmt
    go_wp2
    go_ret2
    rw [HD.out]
    exact ⟨rfl, rfl⟩
  have o4 : (op == 4) = false := by simpa using h4
  by_cases h5 : op = 5
  · subst h5
    have HD := Lib.hid (show arithD 5 a b = some ((a * b) % 256) from rfl)
    clear h3 o3 h4 o4
    go_wp2
    go_ret2
    rw [HD.out]
    exact ⟨rfl, rfl⟩
  have o5 : (op == 5) = false := by simpa using h5
  clear hm0 hm1 hmw hmt
  by_cases h6 : op = 6
  · subst h6
    by_cases hz : b = 0
    · subst hz
      have HD := Lib.hid (show arithD 6 a 0 = none from rfl)
      clear h3 o3 h4 o4 h5 o5
      go_wp2
      go_ret2
      rw [HD.out]
      exact ⟨rfl, rfl⟩
    · have HD := Lib.hid (show arithD 6 a b = some (a / b) by simp [arithD, hz])
      have e1 : a.tdiv b = a / b := Int.tdiv_eq_ediv_of_nonneg ha0
      have e2 := Int.ediv_nonneg ha0 hb0
      have e3 := Int.ediv_le_self b ha0
      have hbz : (b == 0) = false := by simpa using hz
      have hw : IntKind.i64.wrap (a / b) = a / b := IntWalk.i64_in _ (by omega)
      clear h3 o3 h4 o4 h5 o5
      go_wp2
      go_ret2
      rw [HD.out]
      exact ⟨rfl, rfl⟩
  have o6 : (op == 6) = false := by simpa using h6
  by_cases h7 : op = 7
  · subst h7
    by_cases hz : b = 0
    · subst hz
      have HD := Lib.hid (show arithD 7 a 0 = none from rfl)
      clear h3 o3 h4 o4 h5 o5 h6 o6
      go_wp2
      go_ret2
      rw [HD.out]
      exact ⟨rfl, rfl⟩
    · have HD := Lib.hid (show arithD 7 a b = some (a % b) by simp [arithD, hz])
      have e1 : a.tmod b = a % b := Int.tmod_eq_emod_of_nonneg ha0
      have hbz : (b == 0) = false := by simpa using hz
      clear h3 o3 h4 o4 h5 o5 h6 o6
      go_wp2
      go_ret2
      rw [HD.out]
      exact ⟨rfl, rfl⟩
  have o7 : (op == 7) = false := by simpa using h7
  have HT := Lib.hid (fun c W => truth_any c W)
  by_cases h8 : op = 8
  · subst h8
    have HD := Lib.hid (show arithD 8 a b = some (truthI (decide (a < b))) from rfl)
    clear h3 o3 h4 o4 h5 o5 h6 o6 h7 o7
    go_wp2_with fail
    refine (HT.out _ w).mono ?_
    rintro e w2 ⟨rfl, rfl⟩
    go_wp2
    go_ret2
    rw [HD.out]
    exact ⟨rfl, rfl⟩
  have o8 : (op == 8) = false := by simpa using h8
  by_cases h9 : op = 9
  · subst h9
    have HD := Lib.hid (show arithD 9 a b = some (truthI (a == b)) from rfl)
    clear h3 o3 h4 o4 h5 o5 h6 o6 h7 o7 h8 o8
    go_wp2_with fail
    refine (HT.out _ w).mono ?_
    rintro e w2 ⟨rfl, rfl⟩
    go_wp2
    go_ret2
    rw [HD.out]
    exact ⟨rfl, rfl⟩
  have o9 : (op == 9) = false := by simpa using h9
  by_cases h10 : op = 10
  · subst h10
    have HD := Lib.hid (show arithD 10 a b = some (truthI (!(a == 0) && !(b == 0))) from rfl)
    clear h3 o3 h4 o4 h5 o5 h6 o6 h7 o7 h8 o8 h9 o9
    cases ca : (a == 0) with
    | true =>
      have na : (a != 0) = false := by rw [bne, ca]; rfl
      rw [ca] at HD
      go_wp2_with fail
      refine (HT.out _ w).mono ?_
      rintro e w2 ⟨rfl, rfl⟩
      go_wp2
      go_ret2
      rw [HD.out]
      exact ⟨rfl, rfl⟩
    | false =>
      have na : (a != 0) = true := by rw [bne, ca]; rfl
      rw [ca] at HD
      cases cb : (b == 0) with
      | true =>
        have nb : (b != 0) = false := by rw [bne, cb]; rfl
        rw [cb] at HD
        go_wp2_with fail
        refine (HT.out _ w).mono ?_
        rintro e w2 ⟨rfl, rfl⟩
        go_wp2
        go_ret2
        rw [HD.out]
        exact ⟨rfl, rfl⟩
      | false =>
        have nb : (b != 0) = true := by rw [bne, cb]; rfl
        rw [cb] at HD
        go_wp2_with fail
        refine (HT.out _ w).mono ?_
        rintro e w2 ⟨rfl, rfl⟩
        go_wp2
        go_ret2
        rw [HD.out]
        exact ⟨rfl, rfl⟩
  have o10 : (op == 10) = false := by simpa using h10
  have HD := Lib.hid (show arithD op a b = some (truthI (a == 0)) by
    unfold arithD
    rw [if_neg h3, if_neg h4, if_neg h5, if_neg (by simp [h6, h7]), if_neg h8, if_neg h9, if_neg h10])
  clear h3 h4 h5 h6 h7 h8 h9 h10
  go_wp2_with fail
  refine (HT.out _ w).mono ?_
  rintro e w2 ⟨rfl, rfl⟩
  go_wp2
  go_ret2
  rw [HD.out]
  exact ⟨rfl, rfl⟩
def arithP (o : Option Int) : Int × Int := match o with
  | some n => (n, 0)
  | none => (0, 1)
def doD (op a b : Int) : Int × Int :=
  if inE 0 a 255 && inE 0 b 255 then
    (if op = 1 ∨ op = 2 then (a, 0) else if op = 10 then (truthI (a == 0), 0) else if inE 3 op 9 then arithP (arithD op a b) else (-1, -1))
  else (-1, -1)
theorem in_of {lo x hi : Int} (h : inE lo x hi = true) : lo ≤ x ∧ x ≤ hi := by simpa [inE] using h
theorem l1InE_any (x lo hi : Int) (w : World) : Calls Try.prog 18 #[.int .i64 x, .int .i64 lo, .int .i64 hi] w fun e w' => e = .returned (.bool (inE lo x hi)) ∧ w' = w := by
  unfold inE
  by_cases h1 : lo ≤ x
  · have d1 : decide (lo ≤ x) = true := decide_eq_true h1
    by_cases h2 : x ≤ hi
    · have d2 : decide (x ≤ hi) = true := decide_eq_true h2
      rw [d1, d2]
      go_enter Try.func18, Try.ntmps18
      go_wp2
      go_ret
      exact ⟨rfl, rfl⟩
    · have d2 : decide (x ≤ hi) = false := decide_eq_false h2
      rw [d1, d2]
      go_enter Try.func18, Try.ntmps18
      go_wp2
      go_ret
      exact ⟨rfl, rfl⟩
  · have d1 : decide (lo ≤ x) = false := decide_eq_false h1
    rw [d1]
    go_enter Try.func18, Try.ntmps18
    go_wp2
    go_ret
    exact ⟨rfl, rfl⟩
theorem l1InE_is {x lo hi : Int} {b : Bool} (h : inE lo x hi = b) (w : World) : Calls Try.prog 18 #[.int .i64 x, .int .i64 lo, .int .i64 hi] w fun e w' => e = .returned (.bool b) ∧ w' = w := by rw [← h]; exact l1InE_any x lo hi w
theorem l5TruthE_any (c : Bool) (w : World) : Calls Try.prog 88 #[.bool c] w fun e w' => e = .returned (.int .i64 (truthI c)) ∧ w' = w := by
  go_enter Try.func88, Try.ntmps88
  cases c
  · go_wp2
    go_ret
    exact ⟨rfl, rfl⟩
  · go_wp2
    go_ret
    exact ⟨rfl, rfl⟩
theorem l8Pure_any (op : Int) (w : World) : Calls Try.prog 76 #[.int .i64 op] w fun e w' => e = .returned (.bool (inE 1 op 10)) ∧ w' = w := by
  go_enter Try.func76, Try.ntmps76
  go_wp2_with fail
  refine (l1InE_any op 1 10 w).mono ?_
  rintro e w1 ⟨rfl, rfl⟩
  go_wp2
  go_ret
  exact ⟨rfl, rfl⟩
set_option maxRecDepth 100000 in
set_option maxHeartbeats 4000000 in
theorem l5Two_any (op a b : Int) (hop : 3 ≤ op ∧ op ≤ 9) (ha : 0 ≤ a ∧ a ≤ 255) (hb : 0 ≤ b ∧ b ≤ 255) (w : World) : Calls Try.prog 89 #[.int .i64 op, .int .i64 a, .int .i64 b] w fun e w' => e = .returned (.tuple #[.int .i64 (arithP (arithD op a b)).1, .int .i64 (arithP (arithD op a b)).2]) ∧ w' = w := by
  obtain ⟨ha0, ha1⟩ := ha
  obtain ⟨hb0, hb1⟩ := hb
  have hc : op = 3 ∨ op = 4 ∨ op = 5 ∨ op = 6 ∨ op = 7 ∨ op = 8 ∨ op = 9 := by omega
  have hm0 : 0 ≤ a * b := Int.mul_nonneg ha0 hb0
  have hm1 : a * b ≤ 65025 := by
    have h1 : a * b ≤ 255 * b := Int.mul_le_mul_of_nonneg_right ha1 hb0
    omega
  rcases hc with rfl | rfl | rfl | rfl | rfl | rfl | rfl
  · have e1 : (a + b).tmod 256 = (a + b) % 256 := Int.tmod_eq_emod_of_nonneg (by omega)
    clear hm0 hm1
    go_enter Try.func89, Try.ntmps89
    go_wp2
    go_ret2
    exact ⟨rfl, rfl⟩
  · have e1 : (a - b + 256).tmod 256 = (a - b) % 256 := (Int.tmod_eq_emod_of_nonneg (by omega)).trans (by omega)
    clear hm0 hm1
    go_enter Try.func89, Try.ntmps89
    go_wp2
    go_ret2
    exact ⟨rfl, rfl⟩
  · have hmw : IntKind.i64.wrap (a * b) = a * b := IntWalk.i64_in _ (by omega)
    have hmt : (a * b).tmod 256 = (a * b) % 256 := Int.tmod_eq_emod_of_nonneg hm0
    go_enter Try.func89, Try.ntmps89
    go_wp2
    go_ret2
    exact ⟨rfl, rfl⟩
  · clear hm0 hm1
    by_cases hz : b = 0
    · subst hz
      go_enter Try.func89, Try.ntmps89
      go_wp2
      go_ret2
      exact ⟨rfl, rfl⟩
    · have HV := Lib.hid (show arithD 6 a b = some (a / b) by simp [arithD, hz])
      have e1 : a.tdiv b = a / b := Int.tdiv_eq_ediv_of_nonneg ha0
      have e2 := Int.ediv_nonneg ha0 hb0
      have e3 := Int.ediv_le_self b ha0
      have hbz : (b == 0) = false := by simpa using hz
      have hw : IntKind.i64.wrap (a / b) = a / b := IntWalk.i64_in _ (by omega)
      rw [HV.out]
      go_enter Try.func89, Try.ntmps89
      go_wp2
      go_ret2
      exact ⟨rfl, rfl⟩
  · clear hm0 hm1
    by_cases hz : b = 0
    · subst hz
      go_enter Try.func89, Try.ntmps89
      go_wp2
      go_ret2
      exact ⟨rfl, rfl⟩
    · have HV := Lib.hid (show arithD 7 a b = some (a % b) by simp [arithD, hz])
      have e1 : a.tmod b = a % b := Int.tmod_eq_emod_of_nonneg ha0
      have hbz : (b == 0) = false := by simpa using hz
      rw [HV.out]
      go_enter Try.func89, Try.ntmps89
      go_wp2
      go_ret2
      exact ⟨rfl, rfl⟩
  · have HT := Lib.hid (fun c W => l5TruthE_any c W)
    clear hm0 hm1
    go_enter Try.func89, Try.ntmps89
    go_wp2_with fail
    refine (HT.out _ w).mono ?_
    rintro e w2 ⟨rfl, rfl⟩
    go_wp2
    go_ret2
    exact ⟨rfl, rfl⟩
  · have HT := Lib.hid (fun c W => l5TruthE_any c W)
    clear hm0 hm1
    go_enter Try.func89, Try.ntmps89
    go_wp2_with fail
    refine (HT.out _ w).mono ?_
    rintro e w2 ⟨rfl, rfl⟩
    go_wp2
    go_ret2
    exact ⟨rfl, rfl⟩
set_option maxRecDepth 100000 in
set_option maxHeartbeats 4000000 in
theorem l8Do_any (op a b : Int) (hop : 1 ≤ op ∧ op ≤ 10) (ha : 0 ≤ a ∧ a ≤ 255) (hb : 0 ≤ b ∧ b ≤ 255) (w : World) : Calls Try.prog 77 #[.int .i64 op, .int .i64 a, .int .i64 b] w fun e w' => e = .returned (.tuple #[.int .i64 (doD op a b).1, .int .i64 (doD op a b).2]) ∧ w' = w := by
  obtain ⟨R, hR⟩ : ∃ R, R = doD op a b := ⟨_, rfl⟩
  rw [← hR]
  have HD := Lib.hid (show R = (if op = 1 ∨ op = 2 then (a, 0) else if op = 10 then (truthI (a == 0), 0) else if inE 3 op 9 then arithP (arithD op a b) else (-1, -1)) by
    rw [hR, doD, show inE 0 a 255 = true by simp [inE, ha], show inE 0 b 255 = true by simp [inE, hb]]; rfl)
  clear hR
  by_cases h1 : op = 1
  · have HN := Lib.hid (show R = (a, 0) by rw [HD.out, if_pos (.inl h1)])
    subst h1
    go_enter Try.func77, Try.ntmps77
    go_wp2
    go_ret2
    exact ⟨by rw [HN.out]; rfl, rfl⟩
  by_cases h2 : op = 2
  · have HN := Lib.hid (show R = (a, 0) by rw [HD.out, if_pos (.inr h2)])
    subst h2
    go_enter Try.func77, Try.ntmps77
    go_wp2
    go_ret2
    exact ⟨by rw [HN.out]; rfl, rfl⟩
  have o1 : (op == 1) = false := by simpa using h1
  have o2 : (op == 2) = false := by simpa using h2
  by_cases h10 : op = 10
  · have HN := Lib.hid (show R = (truthI (a == 0), 0) by rw [HD.out, if_neg (by omega), if_pos h10])
    have HT := Lib.hid (fun W => l5TruthE_any (a == 0) W)
    generalize truthI (a == 0) = t at HN HT
    subst h10
    clear h1 h2 o1 o2
    go_enter Try.func77, Try.ntmps77
    go_wp2_with fail
    refine (HT.out _).mono ?_
    rintro e w3 ⟨rfl, rfl⟩
    go_wp2
    go_ret2
    exact ⟨by rw [HN.out]; rfl, rfl⟩
  have o10 : (op == 10) = false := by simpa using h10
  have HN := Lib.hid (show R = arithP (arithD op a b) by rw [HD.out, if_neg (by omega), if_neg h10, show inE 3 op 9 = true by simp [inE]; omega]; rfl)
  have HTW := Lib.hid (fun W => l5Two_any op a b (by omega) ha hb W)
  generalize arithP (arithD op a b) = t at HN HTW
  obtain ⟨t1, t2⟩ := t
  clear h1 h2 h10
  go_enter Try.func77, Try.ntmps77
  go_wp2_with fail
  refine (HTW.out _).mono ?_
  rintro e w3 ⟨rfl, rfl⟩
  go_wp2
  go_ret2
  exact ⟨by rw [HN.out]; rfl, rfl⟩
theorem bytesOk1_any (x : Int) (w : World) : Calls Try.prog 43 #[.int .i64 x] w fun e w' => e = .returned (.bool (!inE 0 x 255)) ∧ w' = w := by
  have HQ := Lib.hid (isByteE_any x w)
  generalize inE 0 x 255 = c at HQ ⊢
  go_enter Try.func43, Try.ntmps43
  go_wp2_with fail
  refine HQ.out.mono ?_
  rintro e w1 ⟨rfl, rfl⟩
  go_wp2
  go_ret
  exact ⟨rfl, rfl⟩
/-- All are bytes. -/
def bytesB (vs : List Int) : Bool := vs.all fun v => inE 0 v 255
set_option maxHeartbeats 400000 in
theorem bytesOk_any (a : Option Addr) (len cap : Nat) (vs : List Int) (n : Nat) (w : World) (hin : IntsRd w a len vs) (hs : len ≤ 1099511627776) :
    Calls Try.prog 27 #[.slice a len cap, .int .i64 (n : Int)] w fun e w' => e = .returned (.bool (decide (len = n) && bytesB vs)) ∧ Below w.heap.size w w' := by
  have HC := Lib.hid (containsInts_any 43 #[] (fun v => !inE 0 v 255) a len cap vs w hin ⟨fun v W => by kernel_rfl, fun x _ W _ => (bytesOk1_any x W).mono fun e w' h => ⟨h.1, by rw [h.2]; exact Below.refl _ _⟩⟩ hs)
  have HB := Lib.hid (show (!vs.any fun v => !inE 0 v 255) = bytesB vs by rw [bytesB, List.not_any_eq_all_not]; simp)
  by_cases hl : len = n
  · have h1 : ((len : Int) == (n : Int)) = true := by simp [hl]
    rw [decide_eq_true hl, Bool.true_and]
    clear hin hs
    generalize (vs.any fun v => !inE 0 v 255) = c at HC HB
    clear hl
    go_enter Try.func27, Try.ntmps27
    go_wp2_with fail
    refine HC.out.mono ?_
    rintro e w1 ⟨rfl, hb1⟩
    have HE := Lib.hid hb1
    clear hb1
    go_wp2
    go_ret
    exact ⟨by rw [← HB.out]; rfl, HE.out⟩
  · have h1 : ((len : Int) == (n : Int)) = false := by simp; omega
    rw [decide_eq_false hl, Bool.false_and]
    clear hl hin hs HC HB
    go_enter Try.func27, Try.ntmps27
    go_wp2
    go_ret
    exact ⟨rfl, Below.refl _ _⟩
set_option maxHeartbeats 400000 in
theorem l5Values_any (a : Option Addr) (len c : Nat) (vs : List Int) (w : World) (hin : IntsRd w a len vs) (hs : len ≤ 1099511627776) :
    Calls Try.prog 35 #[.slice a len c] w fun e w' => e = .returned (.bool (bytesB vs)) ∧ w' = w := by
  have HL := Lib.hid hin.length
  go_enter Try.func35, Try.ntmps35
  go_wp2
  go_loop [3] (fun i => ∃ k : Nat, k ≤ len ∧ i = .int .i64 k ∧ Hid (∀ j y, j < k → vs[j]? = some y → inE 0 y 255 = true)) (fun i => len - (intOf i).toNat)
  case atStart => exact ⟨0, Nat.zero_le _, rfl, Lib.hid (fun j x hj => by omega)⟩
  case round =>
    obtain ⟨k, hk, rfl, hno⟩ := hrel
    by_cases hlt : k < len
    · obtain ⟨b, off, y, rfl, hy, hc⟩ := hin.place hlt
      have hki : (k : Int) < (len : Int) := by omega
      have HY := Lib.hid hy
      clear hy
      cases ht : inE 0 y 255 with
      | false =>
        have HI := Lib.hid (show bytesB vs = false from List.all_eq_false.2 ⟨y, List.mem_of_getElem? HY.out, by rw [ht]; simp⟩)
        go_wp2_with fail
        refine (l1InE_is ht _).mono ?_
        rintro e w1 ⟨rfl, rfl⟩
        clear ht
        go_wp2
        go_ret
        exact ⟨by rw [HI.out]; rfl, rfl⟩
      | true =>
        have HN := Lib.hid ht
        go_wp2_with fail
        refine (l1InE_is ht _).mono ?_
        rintro e w1 ⟨rfl, rfl⟩
        clear ht
        go_wp2
        go_round
        case rel =>
          refine ⟨k + 1, by omega, by go_num, Lib.hid fun j z hj hjz => ?_⟩
          by_cases hjk : j = k
          · subst hjk
            rw [HY.out] at hjz
            cases hjz
            exact HN.out
          · exact hno.out j z (by omega) hjz
        case measure => simp [intOf]; omega
    · obtain rfl : k = len := by omega
      have HI := Lib.hid (show bytesB vs = true from List.all_eq_true.2 fun y hy => by
        obtain ⟨j, hj⟩ := List.getElem?_of_mem hy
        exact hno.out j y (by have := (List.getElem?_eq_some_iff.1 hj).1; have := HL.out; omega) hj)
      go_wp2
      go_ret
      exact ⟨by rw [HI.out]; rfl, rfl⟩

end Go.Proofs.Ytajnldkempeheaa
