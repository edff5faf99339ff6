
/-
  The size of a list of data, as the laws count it.
-/
import Derived.Test.YtkhnhdgbbjppeaaRowsOf
namespace Go.Proofs.Ytkhnhdgbbjppeaa
open Go.RowKit

def sumOf {α : Type} (sz : α → Nat) (xs : List α) : Nat := (xs.map sz).sum
def szS {α : Type} (sz : α → Nat) (xs : List α) : Nat := xs.length + sumOf sz xs
theorem sumOf_snoc {α : Type} (sz : α → Nat) (xs : List α) (x : α) : sumOf sz (xs ++ [x]) = sumOf sz xs + sz x := by simp [sumOf]
theorem sumOf_take {α : Type} (sz : α → Nat) (xs : List α) (k : Nat) : sumOf sz (xs.take k) ≤ sumOf sz xs := by
  have : sumOf sz xs = sumOf sz (xs.take k) + sumOf sz (xs.drop k) := by rw [sumOf, sumOf, sumOf, ← List.sum_append, ← List.map_append, List.take_append_drop]
  omega
theorem sumOf_zero {α : Type} {sz : α → Nat} (h : ∀ x, sz x = 0) : ∀ xs : List α, sumOf sz xs = 0
  | [] => rfl
  | x :: xs => by
    have := sumOf_zero h xs
    simp only [sumOf, List.map_cons, List.sum_cons, h] at this ⊢
    omega
theorem szS_zero {α : Type} {sz : α → Nat} (h : ∀ x, sz x = 0) {xs : List α} : szS sz xs = xs.length := by rw [szS, sumOf_zero h]; omega
theorem sumOf_mem {α : Type} {sz : α → Nat} {x : α} : ∀ {xs : List α}, x ∈ xs → sz x ≤ sumOf sz xs
  | y :: xs, h => by
    rw [sumOf, List.map_cons, List.sum_cons]
    rcases List.mem_cons.1 h with rfl | h
    · omega
    · have := sumOf_mem (sz := sz) h
      rw [sumOf] at this
      omega
theorem szS_mem {α : Type} {sz : α → Nat} {x : α} {xs : List α} (h : x ∈ xs) : sz x ≤ szS sz xs := by
  have := sumOf_mem (sz := sz) h
  unfold szS
  omega
theorem szS_len {α : Type} (sz : α → Nat) (xs : List α) : xs.length ≤ szS sz xs := by unfold szS; omega

/-- The size is within what was left, or the answer is -1. -/
def SizedD (left : Int) (tot : Nat) (e : Ending) : Prop := (left < tot ∧ e = .returned (.int .i64 (-1))) ∨ (tot ≤ left ∧ e = .returned (.int .i64 (left - tot)))

end Go.Proofs.Ytkhnhdgbbjppeaa
