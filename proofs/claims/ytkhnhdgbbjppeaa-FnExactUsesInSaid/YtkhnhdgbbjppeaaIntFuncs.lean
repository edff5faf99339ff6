
/-
  The library's slices.Index and Contains over ints: the walks.
-/
import Derived.Test.YtkhnhdgbbjppeaaApp
namespace Go.Proofs.Ytkhnhdgbbjppeaa
open Go.RowKit

/-! ### ints -/
/-- The index of the first element that is x, or -1. -/
def idxInt (x : Int) : List Int → Int
  | [] => -1
  | y :: ys => if y = x then 0 else if idxInt x ys < 0 then -1 else idxInt x ys + 1
theorem idxInt_none {x : Int} : ∀ {ys : List Int}, (∀ y ∈ ys, y ≠ x) → idxInt x ys = -1
  | [], _ => rfl
  | y :: ys, h => by
    have h1 := h y (by simp)
    have h2 := idxInt_none (ys := ys) (fun z hz => h z (by simp [hz]))
    simp [idxInt, h1, h2]
theorem idxInt_some {x : Int} : ∀ {ys : List Int} {k : Nat}, (∀ j y, j < k → ys[j]? = some y → y ≠ x) → ys[k]? = some x → idxInt x ys = k
  | [], _, _, h => by simp at h
  | y :: ys, 0, _, h => by simp at h; subst h; simp [idxInt]
  | y :: ys, k + 1, h, hx => by
    have h1 := h 0 y (by omega) (by simp)
    have h2 := idxInt_some (ys := ys) (k := k) (fun j z hj hz => h (j + 1) z (by omega) (by simpa using hz)) (by simpa using hx)
    simp only [idxInt, h1, h2, if_false]
    rw [if_neg (by omega)]
    omega
theorem idxInt_nonneg {x : Int} : ∀ ys : List Int, decide (0 ≤ idxInt x ys) = decide (x ∈ ys)
  | [] => by simp [idxInt]
  | y :: ys => by
    have ih := idxInt_nonneg (x := x) ys
    simp only [decide_eq_decide] at ih ⊢
    by_cases hp : y = x
    · simp [idxInt, hp]
    · have hp' : ¬ x = y := fun h => hp h.symm
      simp only [idxInt, hp, if_false, List.mem_cons, hp', false_or, ← ih]
      by_cases h : idxInt x ys < 0
      · simp [h]
      · simp [h]; omega

set_option maxHeartbeats 400000 in
theorem index_any (a : Option Addr) (len cap : Nat) (xs : List Int) (x : Int) (w : World) (hin : IntsRd w a len xs) (hs : len ≤ 1099511627776) :
    Calls Try.prog 138 #[.slice a len cap, .int .i64 x] w fun e w' => e = .returned (.int .i64 (idxInt x xs)) ∧ w = w' := by
  have HL := Lib.hid hin.length
  go_enter Try.func138, Try.ntmps138
  go_wp2
  go_loop [8] (fun i => ∃ k : Nat, k ≤ len ∧ i = .int .i64 k ∧ Hid (∀ j y, j < k → xs[j]? = some y → y ≠ x)) (fun i => len - (intOf i).toNat)
  case atStart => exact ⟨0, Nat.zero_le _, rfl, Lib.hid (fun j x hj => by omega)⟩
  case round =>
    obtain ⟨k, hk, rfl, hno⟩ := hrel
    by_cases hlt : k < len
    · obtain ⟨b, off, y, rfl, hy, hc⟩ := hin.place hlt
      have HY := Lib.hid hy
      clear hy
      by_cases hyx : y = x
      · subst hyx
        have ht : (y == y) = true := by simp
        have HI := Lib.hid (idxInt_some hno.out HY.out)
        go_wp2
        go_ret
        exact ⟨ret_int HI.out.symm, rfl⟩
      · have ht : (x == y) = false := by simp; exact fun h => hyx h.symm
        have HN := Lib.hid hyx
        clear hyx
        go_wp2
        go_round
        case rel =>
          refine ⟨k + 1, by omega, by go_num, Lib.hid fun j z hj hjz => ?_⟩
          by_cases hjk : j = k
          · subst hjk
            rw [HY.out] at hjz
            cases hjz
            exact HN.out
          · exact hno.out j z (by omega) hjz
        case measure => simp [intOf]; omega
    · obtain rfl : k = len := by omega
      go_wp2
      go_ret
      refine ⟨ret_int ?_, rfl⟩
      rw [idxInt_none]
      intro y hy
      obtain ⟨j, hj⟩ := List.getElem?_of_mem hy
      exact hno.out j y (by have := (List.getElem?_eq_some_iff.1 hj).1; have := HL.out; omega) hj

theorem contains_any (a : Option Addr) (len cap : Nat) (xs : List Int) (x : Int) (w : World) (hin : IntsRd w a len xs) (hs : len ≤ 1099511627776) :
    Calls Try.prog 95 #[.slice a len cap, .int .i64 x] w fun e w' => e = .returned (.bool (decide (x ∈ xs))) ∧ w = w' := by
  have HI := Lib.hid (idxInt_nonneg (x := x) xs)
  go_enter Try.func95, Try.ntmps95
  go_wp2_with fail
  refine (index_any a len cap xs x w hin hs).mono ?_
  rintro e w1 ⟨rfl, rfl⟩
  go_wp2
  go_ret
  exact ⟨ret_bool HI.out, rfl⟩

end Go.Proofs.Ytkhnhdgbbjppeaa
