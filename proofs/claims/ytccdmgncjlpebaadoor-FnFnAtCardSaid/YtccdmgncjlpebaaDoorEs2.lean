/-
  Expressions: the reference's test of the form (printed by mkes2.py).
-/
import Derived.Test.YtccdmgncjlpebaaDoorPe1
import Derived.Test.YtccdmgncjlpebaaDoorEs1
import Derived.Deep.DeepCutAuto
import Derived.Deep.CutBlock

namespace Go.Proofs.YtccdmgncjlpebaaDoor
open Go.RowKit

/-- A name that is too long for the machine: none is. -/
def longP (e : ExprD) : Bool := decide (maxLen < e.name.size)
def formD : Nat → ExprD → Bool
  | 0, _ => false
  | m + 1, e => headB nameD e.op e.n e.name e.kids.length && e.kids.all (formD m)
def loK (op : Int) : Int := if op = 1 ∨ op = 2 then 0 else if op = 11 ∨ op = 12 then 1 else if op = 13 then 0 else 2
def hiK (op : Int) : Int := if op = 1 ∨ op = 2 then 0 else if op = 11 ∨ op = 12 then 1 else if op = 13 then 3 else 2
theorem l2Kids_any (op : Int) (w : World) : Calls Tryd.prog 68 #[.int .i64 op] w fun e w' => e = .returned (.tuple #[.int .i64 (loK op), .int .i64 (hiK op)]) ∧ w' = w := by
  by_cases h1 : op = 1
  · subst h1
    go_enter Tryd.func68, Tryd.ntmps68
    go_wp2
    go_ret2
    exact ⟨rfl, rfl⟩
  by_cases h2 : op = 2
  · subst h2
    go_enter Tryd.func68, Tryd.ntmps68
    go_wp2
    go_ret2
    exact ⟨rfl, rfl⟩
  by_cases h11 : op = 11
  · subst h11
    go_enter Tryd.func68, Tryd.ntmps68
    go_wp2
    go_ret2
    exact ⟨rfl, rfl⟩
  by_cases h12 : op = 12
  · subst h12
    go_enter Tryd.func68, Tryd.ntmps68
    go_wp2
    go_ret2
    exact ⟨rfl, rfl⟩
  by_cases h13 : op = 13
  · subst h13
    go_enter Tryd.func68, Tryd.ntmps68
    go_wp2
    go_ret2
    exact ⟨rfl, rfl⟩
  have o1 : (op == 1) = false := by simpa using h1
  have o2 : (op == 2) = false := by simpa using h2
  have o11 : (op == 11) = false := by simpa using h11
  have o12 : (op == 12) = false := by simpa using h12
  have o13 : (op == 13) = false := by simpa using h13
  have HL := Lib.hid (show loK op = 2 ∧ hiK op = 2 by rw [loK, hiK, if_neg (by omega), if_neg (by omega), if_neg h13, if_neg (by omega), if_neg (by omega), if_neg h13]; exact ⟨rfl, rfl⟩)
  clear h1 h2 h11 h12 h13
  go_enter Tryd.func68, Tryd.ntmps68
  go_wp2
  go_ret2
  exact ⟨by rw [HL.out.1, HL.out.2]; rfl, rfl⟩

def bad1 (m : Nat) (op : Int) (k : Nat) : Bool := decide (m < 1) || (!inE 1 op 13 || !inE (loK op) k (hiK op))
def bad2 (op n : Int) (name : ByteArray) : Bool := ((op == 2 || op == 13) != nameD name) || ((!(op == 2 || op == 13) && !name.toList.isEmpty) || (!inE 0 n 255 || (!(op == 1) && !(n == 0))))
theorem any_partsE0 {p : ExprD → Bool} {d : Nat} {x : ExprD} (h : anyE p (d + 1) x = false) : p x = false ∧ ∀ k ∈ x.kids, anyE p d k = false := by
  rw [anyE, Bool.or_eq_false_iff] at h
  exact ⟨h.1, fun k hk => by simpa using List.any_eq_false.1 h.2 k hk⟩
theorem nameD_none {s : ByteArray} (h : s.toList.isEmpty = true) : nameD s = false := by
  rw [ByteArray.toList_eq, List.isEmpty_iff] at h
  have h2 : s.size = 0 := by have := congrArg List.length h; simpa using this
  rw [nameD, decide_eq_false (by omega)]; rfl
theorem eqK (k j : Nat) : inE (j : Int) (k : Int) (j : Int) = (k == j) := by
  rw [inE, Bool.eq_iff_iff]
  simp only [Bool.and_eq_true, decide_eq_true_eq, beq_iff_eq]
  omega
theorem head_form (m : Nat) (op n : Int) (name : ByteArray) (k : Nat) : (!bad1 (m + 1) op k && !bad2 op n name) = headB nameD op n name k := by
  have hE := fun h => nameD_none (s := name) h
  have k0 := eqK k 0
  have k1 := eqK k 1
  have k2 := eqK k 2
  have k3 : inE 0 (k : Int) 3 = decide (k ≤ 3) := by
    rw [inE, Bool.eq_iff_iff]
    simp only [Bool.and_eq_true, decide_eq_true_eq]
    omega
  have n0 : ∀ z : Int, (z == 0) = true → inE 0 z 255 = true := fun z h => by
    have h : z = 0 := by simpa using h
    subst h; decide
  rw [bad1, decide_eq_false (by omega), Bool.false_or]
  by_cases hr : 1 ≤ op ∧ op ≤ 13
  · have h13 : inE 1 op 13 = true := by simp [inE, hr.1, hr.2]
    rw [h13]
    have hc : op = 1 ∨ op = 2 ∨ op = 3 ∨ op = 4 ∨ op = 5 ∨ op = 6 ∨ op = 7 ∨ op = 8 ∨ op = 9 ∨ op = 10 ∨ op = 11 ∨ op = 12 ∨ op = 13 := by omega
    clear hr h13
    have hn0 := n0 n
    clear n0
    rcases hc with rfl | rfl | rfl | rfl | rfl | rfl | rfl | rfl | rfl | rfl | rfl | rfl | rfl
    · show (!(false || !inE 0 (k : Int) 0) && !((false != nameD name) || ((true && !name.toList.isEmpty) || (!inE 0 n 255 || (false && !(n == 0)))))) = (inE 0 n 255 && (name.toList.isEmpty && k == 0))
      rw [show inE 0 (k : Int) 0 = (k == 0) from k0]
      generalize nameD name = A at hE ⊢
      generalize name.toList.isEmpty = E at hE ⊢
      generalize inE 0 n 255 = I at hn0 ⊢
      generalize (k == 0) = K
      cases A <;> cases E <;> cases I <;> cases K <;> simp_all
    · show (!(false || !inE 0 (k : Int) 0) && !((true != nameD name) || ((false && !name.toList.isEmpty) || (!inE 0 n 255 || (true && !(n == 0)))))) = (nameD name && (n == 0 && k == 0))
      rw [show inE 0 (k : Int) 0 = (k == 0) from k0]
      generalize nameD name = A at hE ⊢
      generalize name.toList.isEmpty = E at hE ⊢
      generalize inE 0 n 255 = I at hn0 ⊢
      generalize (n == 0) = Z at hn0 ⊢
      generalize (k == 0) = K
      cases A <;> cases E <;> cases I <;> cases K <;> cases Z <;> simp_all
    · show (!(false || !inE 2 (k : Int) 2) && !((false != nameD name) || ((true && !name.toList.isEmpty) || (!inE 0 n 255 || (true && !(n == 0)))))) = (n == 0 && (name.toList.isEmpty && k == 2))
      rw [show inE 2 (k : Int) 2 = (k == 2) from k2]
      generalize nameD name = A at hE ⊢
      generalize name.toList.isEmpty = E at hE ⊢
      generalize inE 0 n 255 = I at hn0 ⊢
      generalize (n == 0) = Z at hn0 ⊢
      generalize (k == 2) = K
      cases A <;> cases E <;> cases I <;> cases K <;> cases Z <;> simp_all
    · show (!(false || !inE 2 (k : Int) 2) && !((false != nameD name) || ((true && !name.toList.isEmpty) || (!inE 0 n 255 || (true && !(n == 0)))))) = (n == 0 && (name.toList.isEmpty && k == 2))
      rw [show inE 2 (k : Int) 2 = (k == 2) from k2]
      generalize nameD name = A at hE ⊢
      generalize name.toList.isEmpty = E at hE ⊢
      generalize inE 0 n 255 = I at hn0 ⊢
      generalize (n == 0) = Z at hn0 ⊢
      generalize (k == 2) = K
      cases A <;> cases E <;> cases I <;> cases K <;> cases Z <;> simp_all
    · show (!(false || !inE 2 (k : Int) 2) && !((false != nameD name) || ((true && !name.toList.isEmpty) || (!inE 0 n 255 || (true && !(n == 0)))))) = (n == 0 && (name.toList.isEmpty && k == 2))
      rw [show inE 2 (k : Int) 2 = (k == 2) from k2]
      generalize nameD name = A at hE ⊢
      generalize name.toList.isEmpty = E at hE ⊢
      generalize inE 0 n 255 = I at hn0 ⊢
      generalize (n == 0) = Z at hn0 ⊢
      generalize (k == 2) = K
      cases A <;> cases E <;> cases I <;> cases K <;> cases Z <;> simp_all
    · show (!(false || !inE 2 (k : Int) 2) && !((false != nameD name) || ((true && !name.toList.isEmpty) || (!inE 0 n 255 || (true && !(n == 0)))))) = (n == 0 && (name.toList.isEmpty && k == 2))
      rw [show inE 2 (k : Int) 2 = (k == 2) from k2]
      generalize nameD name = A at hE ⊢
      generalize name.toList.isEmpty = E at hE ⊢
      generalize inE 0 n 255 = I at hn0 ⊢
      generalize (n == 0) = Z at hn0 ⊢
      generalize (k == 2) = K
      cases A <;> cases E <;> cases I <;> cases K <;> cases Z <;> simp_all
    · show (!(false || !inE 2 (k : Int) 2) && !((false != nameD name) || ((true && !name.toList.isEmpty) || (!inE 0 n 255 || (true && !(n == 0)))))) = (n == 0 && (name.toList.isEmpty && k == 2))
      rw [show inE 2 (k : Int) 2 = (k == 2) from k2]
      generalize nameD name = A at hE ⊢
      generalize name.toList.isEmpty = E at hE ⊢
      generalize inE 0 n 255 = I at hn0 ⊢
      generalize (n == 0) = Z at hn0 ⊢
      generalize (k == 2) = K
      cases A <;> cases E <;> cases I <;> cases K <;> cases Z <;> simp_all
    · show (!(false || !inE 2 (k : Int) 2) && !((false != nameD name) || ((true && !name.toList.isEmpty) || (!inE 0 n 255 || (true && !(n == 0)))))) = (n == 0 && (name.toList.isEmpty && k == 2))
      rw [show inE 2 (k : Int) 2 = (k == 2) from k2]
      generalize nameD name = A at hE ⊢
      generalize name.toList.isEmpty = E at hE ⊢
      generalize inE 0 n 255 = I at hn0 ⊢
      generalize (n == 0) = Z at hn0 ⊢
      generalize (k == 2) = K
      cases A <;> cases E <;> cases I <;> cases K <;> cases Z <;> simp_all
    · show (!(false || !inE 2 (k : Int) 2) && !((false != nameD name) || ((true && !name.toList.isEmpty) || (!inE 0 n 255 || (true && !(n == 0)))))) = (n == 0 && (name.toList.isEmpty && k == 2))
      rw [show inE 2 (k : Int) 2 = (k == 2) from k2]
      generalize nameD name = A at hE ⊢
      generalize name.toList.isEmpty = E at hE ⊢
      generalize inE 0 n 255 = I at hn0 ⊢
      generalize (n == 0) = Z at hn0 ⊢
      generalize (k == 2) = K
      cases A <;> cases E <;> cases I <;> cases K <;> cases Z <;> simp_all
    · show (!(false || !inE 2 (k : Int) 2) && !((false != nameD name) || ((true && !name.toList.isEmpty) || (!inE 0 n 255 || (true && !(n == 0)))))) = (n == 0 && (name.toList.isEmpty && k == 2))
      rw [show inE 2 (k : Int) 2 = (k == 2) from k2]
      generalize nameD name = A at hE ⊢
      generalize name.toList.isEmpty = E at hE ⊢
      generalize inE 0 n 255 = I at hn0 ⊢
      generalize (n == 0) = Z at hn0 ⊢
      generalize (k == 2) = K
      cases A <;> cases E <;> cases I <;> cases K <;> cases Z <;> simp_all
    · show (!(false || !inE 1 (k : Int) 1) && !((false != nameD name) || ((true && !name.toList.isEmpty) || (!inE 0 n 255 || (true && !(n == 0)))))) = (n == 0 && (name.toList.isEmpty && k == 1))
      rw [show inE 1 (k : Int) 1 = (k == 1) from k1]
      generalize nameD name = A at hE ⊢
      generalize name.toList.isEmpty = E at hE ⊢
      generalize inE 0 n 255 = I at hn0 ⊢
      generalize (n == 0) = Z at hn0 ⊢
      generalize (k == 1) = K
      cases A <;> cases E <;> cases I <;> cases K <;> cases Z <;> simp_all
    · show (!(false || !inE 1 (k : Int) 1) && !((false != nameD name) || ((true && !name.toList.isEmpty) || (!inE 0 n 255 || (true && !(n == 0)))))) = (n == 0 && (name.toList.isEmpty && k == 1))
      rw [show inE 1 (k : Int) 1 = (k == 1) from k1]
      generalize nameD name = A at hE ⊢
      generalize name.toList.isEmpty = E at hE ⊢
      generalize inE 0 n 255 = I at hn0 ⊢
      generalize (n == 0) = Z at hn0 ⊢
      generalize (k == 1) = K
      cases A <;> cases E <;> cases I <;> cases K <;> cases Z <;> simp_all
    · show (!(false || !inE 0 (k : Int) 3) && !((true != nameD name) || ((false && !name.toList.isEmpty) || (!inE 0 n 255 || (true && !(n == 0)))))) = (nameD name && (n == 0 && decide (k ≤ 3)))
      rw [k3]
      generalize nameD name = A at hE ⊢
      generalize name.toList.isEmpty = E at hE ⊢
      generalize inE 0 n 255 = I at hn0 ⊢
      generalize (n == 0) = Z at hn0 ⊢
      generalize decide (k ≤ 3) = K
      cases A <;> cases E <;> cases I <;> cases K <;> cases Z <;> simp_all
  · have h13 : inE 1 op 13 = false := by
      rw [inE, Bool.and_eq_false_iff, decide_eq_false_iff_not, decide_eq_false_iff_not]; omega
    have hl : ¬ 0 < lvl op := by
      rw [lvl, if_neg (by omega), if_neg (by omega), if_neg (by omega), if_neg (by omega)]; omega
    rw [h13, headB, if_neg (by omega), if_neg (by omega), if_neg (by omega), if_neg hl, if_neg (by omega)]
    rfl
theorem form_bad {m : Nat} {x : ExprD} (h : bad1 m x.op x.kids.length = true ∨ bad2 x.op x.n x.name = true) : formD m x = false := by
  cases m with
  | zero => rfl
  | succ m =>
    rw [formD, ← head_form m]
    rcases h with h | h <;> rw [h] <;> simp

set_option maxRecDepth 100000 in
set_option maxHeartbeats 8000000 in
theorem l2Form_step (m d : Nat) (cs : List Value) (x : ExprD) (w : World) (hm : m ≤ 6) (hx : ExprAt d w cs x) (hN : anyE longP d x = false)
    (hih : ∀ m', m = m' + 1 → ∀ (d : Nat) (cs : List Value) (x : ExprD) (w : World), ExprAt d w cs x → anyE longP d x = false →
      Calls Tryd.prog 63 #[.agg cs.toArray, .int .i64 (m' : Int)] w fun e w' => e = .returned (.bool (formD m' x)) ∧ Below w.heap.size w w') :
    Calls Tryd.prog 63 #[.agg cs.toArray, .int .i64 (m : Int)] w fun e w' => e = .returned (.bool (formD m x)) ∧ Below w.heap.size w w' := by
  cases d with
  | zero => exact hx.elim
  | succ d =>
  obtain ⟨op, n, name, kids⟩ := x
  obtain ⟨hNl, hNk⟩ := any_partsE0 hN
  obtain ⟨ka, kc, rfl, ⟨hkl, hop⟩, hks⟩ := hx
  simp only [ExprD.op, ExprD.n, ExprD.name, ExprD.kids] at hkl hop hks hNk ⊢
  have hkl2 : kids.length ≤ 9223372036854775807 := by unfold maxLen at hkl; omega
  show Calls _ _ #[.agg #[.int .i64 op, .int .i64 n, .string name, .slice ka kids.length kc], _] w _
  have hnl : name.size ≤ maxLen := by
    have h : decide (maxLen < name.size) = false := hNl
    simpa using h
  have hba : Below w.heap.size w (w.alloc (.cells #[.int .i64 op, .int .i64 n, .string name, .slice ka kids.length kc] 54)) := (Below.refl _ _).alloc (Nat.le_refl _) _
  have hrow := heap_alloc_new w (.cells #[.int .i64 op, .int .i64 n, .string name, .slice ka kids.length kc] 54)
  have e0 := cell_of_row _ _ 0 _ _ _ hrow
  have e1 := cell_of_row _ _ 1 _ _ _ hrow
  have e2 := cell_of_row _ _ 2 _ _ _ hrow
  have e3 := cell_of_row _ _ 3 _ _ _ hrow
  simp only [List.getElem?_toArray, List.getElem?_cons_zero, List.getElem?_cons_succ] at e0 e1 e2 e3
  have HB := Lib.hid hba
  have HK := Lib.hid (And.intro (hks.later (exprAt_lasts d) hba) hNk)
  have HNM := Lib.hid (fun W => isNameS_any name hnl W)
  obtain ⟨R, hR⟩ : ∃ R, R = formD m (ExprD.mk op n name kids) := ⟨_, rfl⟩
  rw [← hR]
  have HR := Lib.hid hR
  clear hba hrow hks hNk hNl hN hnl hR hop
  go_enter Tryd.func63, Tryd.ntmps63
  go_upto_region 1 with fail
  obtain ⟨b, hb⟩ : ∃ b, b = w.heap.size := ⟨_, rfl⟩
  generalize w.alloc (.cells #[.int .i64 op, .int .i64 n, .string name, .slice ka kids.length kc] 54) = W1 at HB HK e0 e1 e2 e3 ⊢
  rw [← hb] at e0 e1 e2 e3 ⊢
  clear hb
  have HKD := Lib.hid (l2Kids_any op W1)
  have HLH := Lib.hid (fun lo hi (h1 : lo = loK op) (h2 : hi = hiK op) => show inE (loK op) kids.length (hiK op) = inE lo kids.length hi by rw [h1, h2])
  obtain ⟨lo, hlo⟩ : ∃ v, v = loK op := ⟨_, rfl⟩
  obtain ⟨hi, hhi⟩ : ∃ v, v = hiK op := ⟨_, rfl⟩
  have HLO := Lib.hid (HLH.out lo hi hlo hhi)
  rw [← hlo, ← hhi] at HKD
  clear HLH hlo hhi
  go_wp2_with fail
  refine HKD.out.mono ?_
  rintro e w2 ⟨rfl, rfl⟩
  clear HKD
  go_upto_region 2 with fail
  generalize w2 = W1 at *
  go_cut [31] (fun s wx => wx = W1 ∧ ∃ bad : Bool, s = .bool bad ∧ Hid (bad = bad1 m op kids.length))
  case first =>
    by_cases hm1 : (m : Int) < 1
    · have HN := Lib.hid (show true = bad1 m op kids.length by rw [bad1, decide_eq_true (show m < 1 by omega)]; rfl)
      go_wp2
      go_meet
      exact ⟨rfl, _, rfl, HN⟩
    · have hmn : ¬ m < 1 := by omega
      cases h13 : inE 1 op 13 with
      | false =>
        have HN := Lib.hid (show true = bad1 m op kids.length by rw [bad1, h13]; simp)
        go_wp2_with fail
        refine (l1InE_is h13 _).mono ?_
        rintro e w3 ⟨rfl, rfl⟩
        clear h13
        go_wp2
        go_meet
        exact ⟨rfl, _, rfl, HN⟩
      | true =>
        cases hk : inE lo kids.length hi with
        | false =>
          have HN := Lib.hid (show true = bad1 m op kids.length by rw [bad1, HLO.out, hk]; simp)
          go_wp2_with fail
          refine (l1InE_is h13 _).mono ?_
          rintro e w3 ⟨rfl, rfl⟩
          clear h13
          go_wp2_with fail
          refine (l1InE_is hk _).mono ?_
          rintro e w4 ⟨rfl, rfl⟩
          clear hk
          go_wp2
          go_meet
          exact ⟨rfl, _, rfl, HN⟩
        | true =>
          have HN := Lib.hid (show false = bad1 m op kids.length by rw [bad1, HLO.out, hk, h13, decide_eq_false hmn]; rfl)
          go_wp2_with fail
          refine (l1InE_is h13 _).mono ?_
          rintro e w3 ⟨rfl, rfl⟩
          clear h13
          go_wp2_with fail
          refine (l1InE_is hk _).mono ?_
          rintro e w4 ⟨rfl, rfl⟩
          clear hk
          go_wp2
          go_meet
          exact ⟨rfl, _, rfl, HN⟩
  case rest =>
  obtain ⟨hw, bad, rfl, HB1⟩ := hcut
  subst hw
  cases bad with
  | true =>
    have HN := Lib.hid (show R = false from HR.out.trans (form_bad (.inl HB1.out.symm)))
    go_wp2
    go_ret
    exact ⟨by rw [HN.out]; rfl, HB.out⟩
  | false =>
  go_upto_region 4 with fail
  go_cut [7] (fun s wx => wx = wc ∧ ∃ nm : Bool, s = .bool nm ∧ Hid (nm = (op == 2 || op == 13)))
  case first =>
    by_cases h2 : op = 2
    · have HN := Lib.hid (show true = (op == 2 || op == 13) by simp [h2])
      subst h2
      go_wp2
      go_meet
      exact ⟨rfl, _, rfl, HN⟩
    · have o2 : (op == 2) = false := by simpa using h2
      have HN := Lib.hid (show (op == 13) = (op == 2 || op == 13) by rw [o2]; rfl)
      clear h2
      go_wp2
      go_meet
      exact ⟨rfl, _, rfl, HN⟩
  case rest =>
  obtain ⟨hw, nm, rfl, HNV⟩ := hcut
  subst hw
  generalize wc = W1 at *
  go_upto_region 5 with fail
  go_cut [69] (fun s wx => Hid (Below W1.heap.size W1 wx) ∧ ∃ bad : Bool, s = .bool bad ∧ Hid (bad = bad2 op n name))
  case first =>
    cases nm with
    | true =>
      have o1 : (op == 1) = false := by
        by_cases h : op = 1
        · have h2 := HNV.out; rw [h] at h2; cases h2
        · simpa using h
      have o1b : (op != 1) = true := by rw [bne, o1]; rfl
      cases hA : nameD name with
      | false =>
        have HQ := Lib.hid (HNM.out W1)
        rw [hA] at HQ
        have HN := Lib.hid (show true = bad2 op n name by rw [bad2, ← HNV.out, hA]; rfl)
        clear hA
        go_wp2_with fail
        refine HQ.out.mono ?_
        rintro e w2 ⟨rfl, hb2⟩
        have HE := Lib.hid hb2
        have e0 := cell_later hb2 e0
        have e1 := cell_later hb2 e1
        have e2 := cell_later hb2 e2
        clear hb2
        go_wp2
        go_meet
        exact ⟨HE, _, rfl, HN⟩
      | true =>
        have HQ := Lib.hid (HNM.out W1)
        rw [hA] at HQ
        cases hin : inE 0 n 255 with
        | false =>
          have HN := Lib.hid (show true = bad2 op n name by rw [bad2, ← HNV.out, hA, hin]; rfl)
          clear hA
          go_wp2_with fail
          refine HQ.out.mono ?_
          rintro e w2 ⟨rfl, hb2⟩
          have HE := Lib.hid hb2
          have e0 := cell_later hb2 e0
          have e1 := cell_later hb2 e1
          have e2 := cell_later hb2 e2
          clear hb2
          go_wp2_with fail
          refine (l1InE_is hin _).mono ?_
          rintro e w3 ⟨rfl, rfl⟩
          clear hin
          go_wp2
          go_meet
          exact ⟨HE, _, rfl, HN⟩
        | true =>
          by_cases hn : n = 0
          · have hn1 : (n != 0) = false := by simp [hn]
            have HN := Lib.hid (show false = bad2 op n name by rw [bad2, ← HNV.out, hA, hin, o1, show (n == 0) = true by simp [hn]]; rfl)
            clear hA hn
            go_wp2_with fail
            refine HQ.out.mono ?_
            rintro e w2 ⟨rfl, hb2⟩
            have HE := Lib.hid hb2
            have e0 := cell_later hb2 e0
            have e1 := cell_later hb2 e1
            have e2 := cell_later hb2 e2
            clear hb2
            go_wp2_with fail
            refine (l1InE_is hin _).mono ?_
            rintro e w3 ⟨rfl, rfl⟩
            clear hin
            go_wp2
            go_meet
            exact ⟨HE, _, rfl, HN⟩
          · have hn1 : (n != 0) = true := by simp [hn]
            have HN := Lib.hid (show true = bad2 op n name by rw [bad2, ← HNV.out, hA, hin, o1, show (n == 0) = false by simp [hn]]; rfl)
            clear hA hn
            go_wp2_with fail
            refine HQ.out.mono ?_
            rintro e w2 ⟨rfl, hb2⟩
            have HE := Lib.hid hb2
            have e0 := cell_later hb2 e0
            have e1 := cell_later hb2 e1
            have e2 := cell_later hb2 e2
            clear hb2
            go_wp2_with fail
            refine (l1InE_is hin _).mono ?_
            rintro e w3 ⟨rfl, rfl⟩
            clear hin
            go_wp2
            go_meet
            exact ⟨HE, _, rfl, HN⟩
    | false =>
      cases hA : nameD name with
      | true =>
        have HQ := Lib.hid (HNM.out W1)
        rw [hA] at HQ
        have HN := Lib.hid (show true = bad2 op n name by rw [bad2, ← HNV.out, hA]; rfl)
        clear hA
        go_wp2_with fail
        refine HQ.out.mono ?_
        rintro e w2 ⟨rfl, hb2⟩
        have HE := Lib.hid hb2
        have e0 := cell_later hb2 e0
        have e1 := cell_later hb2 e1
        have e2 := cell_later hb2 e2
        clear hb2
        go_wp2
        go_meet
        exact ⟨HE, _, rfl, HN⟩
      | false =>
        have HQ := Lib.hid (HNM.out W1)
        rw [hA] at HQ
        cases hem : name.toList.isEmpty with
        | false =>
          have HN := Lib.hid (show true = bad2 op n name by rw [bad2, ← HNV.out, hA, hem]; rfl)
          clear hA
          go_wp2_with fail
          refine HQ.out.mono ?_
          rintro e w2 ⟨rfl, hb2⟩
          have HE := Lib.hid hb2
          have e0 := cell_later hb2 e0
          have e1 := cell_later hb2 e1
          have e2 := cell_later hb2 e2
          clear hb2
          go_wp2
          go_meet
          exact ⟨HE, _, rfl, HN⟩
        | true =>
          cases hin : inE 0 n 255 with
          | false =>
            have HN := Lib.hid (show true = bad2 op n name by rw [bad2, ← HNV.out, hA, hem, hin]; rfl)
            clear hA
            go_wp2_with fail
            refine HQ.out.mono ?_
            rintro e w2 ⟨rfl, hb2⟩
            have HE := Lib.hid hb2
            have e0 := cell_later hb2 e0
            have e1 := cell_later hb2 e1
            have e2 := cell_later hb2 e2
            clear hb2
            go_wp2_with fail
            refine (l1InE_is hin _).mono ?_
            rintro e w3 ⟨rfl, rfl⟩
            clear hin
            go_wp2
            go_meet
            exact ⟨HE, _, rfl, HN⟩
          | true =>
            by_cases h1 : op = 1
            · have o1 : (op != 1) = false := by simp [h1]
              have HN := Lib.hid (show false = bad2 op n name by rw [bad2, ← HNV.out, hA, hem, hin, show (op == 1) = true by simp [h1]]; rfl)
              clear hA h1
              go_wp2_with fail
              refine HQ.out.mono ?_
              rintro e w2 ⟨rfl, hb2⟩
              have HE := Lib.hid hb2
              have e0 := cell_later hb2 e0
              have e1 := cell_later hb2 e1
              have e2 := cell_later hb2 e2
              clear hb2
              go_wp2_with fail
              refine (l1InE_is hin _).mono ?_
              rintro e w3 ⟨rfl, rfl⟩
              clear hin
              go_wp2
              go_meet
              exact ⟨HE, _, rfl, HN⟩
            · have o1 : (op != 1) = true := by simp [h1]
              by_cases hn : n = 0
              · have hn1 : (n != 0) = false := by simp [hn]
                have HN := Lib.hid (show false = bad2 op n name by rw [bad2, ← HNV.out, hA, hem, hin, show (op == 1) = false by simp [h1], show (n == 0) = true by simp [hn]]; rfl)
                clear hA hn h1
                go_wp2_with fail
                refine HQ.out.mono ?_
                rintro e w2 ⟨rfl, hb2⟩
                have HE := Lib.hid hb2
                have e0 := cell_later hb2 e0
                have e1 := cell_later hb2 e1
                have e2 := cell_later hb2 e2
                clear hb2
                go_wp2_with fail
                refine (l1InE_is hin _).mono ?_
                rintro e w3 ⟨rfl, rfl⟩
                clear hin
                go_wp2
                go_meet
                exact ⟨HE, _, rfl, HN⟩
              · have hn1 : (n != 0) = true := by simp [hn]
                have HN := Lib.hid (show true = bad2 op n name by rw [bad2, ← HNV.out, hA, hem, hin, show (op == 1) = false by simp [h1], show (n == 0) = false by simp [hn]]; rfl)
                clear hA hn h1
                go_wp2_with fail
                refine HQ.out.mono ?_
                rintro e w2 ⟨rfl, hb2⟩
                have HE := Lib.hid hb2
                have e0 := cell_later hb2 e0
                have e1 := cell_later hb2 e1
                have e2 := cell_later hb2 e2
                clear hb2
                go_wp2_with fail
                refine (l1InE_is hin _).mono ?_
                rintro e w3 ⟨rfl, rfl⟩
                clear hin
                go_wp2
                go_meet
                exact ⟨HE, _, rfl, HN⟩
  case rest =>
  obtain ⟨HWC, bad, rfl, HB2⟩ := hcut
  cases bad with
  | true =>
    have HN := Lib.hid (show R = false from HR.out.trans (form_bad (.inr HB2.out.symm)))
    have HE := Lib.hid (HB.out.trans (HWC.out.mono HB.out.size))
    go_wp2
    go_ret
    exact ⟨by rw [HN.out]; rfl, HE.out⟩
  | false =>
    have hm1 : ¬ m < 1 := by
      have h1 := HB1.out.symm
      rw [bad1, Bool.or_eq_false_iff, decide_eq_false_iff_not] at h1
      exact h1.1
    obtain ⟨m', rfl⟩ : ∃ m', m = m' + 1 := ⟨m - 1, by omega⟩
    have HF := Lib.hid (show R = kids.all (formD m') by
      have hh := head_form m' op n name kids.length
      rw [← HB1.out, ← HB2.out] at hh
      have hh2 : headB nameD op n name kids.length = true := hh.symm
      have h0 : formD (m' + 1) (ExprD.mk op n name kids) = (headB nameD op n name kids.length && kids.all (formD m')) := rfl
      rw [HR.out, h0, hh2, Bool.true_and])
    have HIH := Lib.hid (hih m' rfl)
    have e3 := cell_later HWC.out e3
    have HBW := Lib.hid (HB.out.trans (HWC.out.mono HB.out.size))
    have HKW := Lib.hid (And.intro (HK.out.1.later (exprAt_lasts d) HWC.out) HK.out.2)
    have HE3 := Lib.hid e3
    clear hih e0 e1 e2 HB1 HB2 HR HNM hm1 HB HK HWC e3
    go_wp2_with fail
    go_loopg [8] kids.length (fun G i wr => ∃ j : Nat, j + G = kids.length ∧ i = .int .i64 j ∧ Hid (Below wc.heap.size wc wr ∧ (kids.take j).all (formD m') = true))
    case atStart => exact ⟨0, by omega, rfl, Lib.hid ⟨Below.refl _ _, rfl⟩⟩
    case round =>
      obtain ⟨j, hj, rfl, HQR⟩ := hrel
      have e3 := cell_later HQR.out.1 HE3.out
      by_cases hlt : j < kids.length
      · obtain ⟨b1, o1, k, cs1, rfl, hk, hkR, k1, k2, rfl, c0, c1, c2, c3⟩ := kid_place (HKW.out.1.later (exprAt_lasts d) HQR.out.1) hlt
        have hki : (j : Int) < (kids.length : Int) := by omega
        have HQ := Lib.hid (HIH.out d _ k wr hkR (HKW.out.2 k (List.mem_of_getElem? hk)))
        have HT := Lib.hid (show kids.take (j + 1) = kids.take j ++ [k] from take_succ_of hk)
        have HMK := Lib.hid (List.mem_of_getElem? hk)
        clear hk hkR
        go_wp2_with fail
        refine HQ.out.mono ?_
        rintro e w5 ⟨rfl, hb5⟩
        have HE := Lib.hid (HQR.out.1.trans (hb5.mono HQR.out.1.size))
        clear hb5 c0 c1 c2 c3 e3
        cases hf : formD m' k with
        | true =>
          have HN := Lib.hid (show (kids.take (j + 1)).all (formD m') = true by rw [HT.out, List.all_append, HQR.out.2]; simp [hf])
          clear hf
          go_wp2
          go_roundg (gk - 1)
          case measure => omega
          case rel => exact ⟨j + 1, by omega, by go_num, Lib.hid ⟨HE.out, HN.out⟩⟩
        | false =>
          have HN := Lib.hid (show R = false by
            rw [HF.out]
            exact List.all_eq_false.2 ⟨k, HMK.out, by rw [hf]; simp⟩)
          clear hf
          go_wp2
          go_ret
          exact ⟨by rw [HN.out]; rfl, HBW.out.trans (HE.out.mono HBW.out.size)⟩
      · obtain rfl : j = kids.length := by omega
        have HN := Lib.hid (show R = true by rw [HF.out]; have := HQR.out.2; rw [List.take_length] at this; exact this)
        go_wp2
        go_ret
        exact ⟨by rw [HN.out]; rfl, HBW.out.trans (HQR.out.1.mono HBW.out.size)⟩

theorem l2Form_any : ∀ (m d : Nat) (cs : List Value) (x : ExprD) (w : World), m ≤ 6 → ExprAt d w cs x → anyE longP d x = false →
    Calls Tryd.prog 63 #[.agg cs.toArray, .int .i64 (m : Int)] w fun e w' => e = .returned (.bool (formD m x)) ∧ Below w.heap.size w w' := by
  intro m
  induction m with
  | zero => exact fun d cs x w h1 h2 h3 => l2Form_step 0 d cs x w h1 h2 h3 (fun m' h => by omega)
  | succ n ih => exact fun d cs x w h1 h2 h3 => l2Form_step (n + 1) d cs x w h1 h2 h3 (fun m' h d cs x w => by
      obtain rfl : n = m' := by omega
      exact ih d cs x w (by omega))

end Go.Proofs.YtccdmgncjlpebaaDoor
