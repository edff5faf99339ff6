
/-
  The blocks in the order of the visit: the program's visit, the library's slices.Reverse, the reference's order.
-/
import Derived.Test.YtonlidgmfmgcmaaVisits
import Derived.Test.YtonlidgmfmgcmaaRdInts
import Derived.Test.YtonlidgmfmgcmaaDepth
namespace Go.Proofs.Ytonlidgmfmgcmaa
open Go.RowKit

/-- The blocks as they are left. -/
def leftOf (g : List (List Int)) : List Int := (dfs g g.length 0 (List.replicate g.length false, [])).2
theorem leftOf_len (g : List (List Int)) : (leftOf g).length ≤ g.length := by
  have h := dfs_count g g.length 0 (List.replicate g.length false, [])
  have h2 := unseen_le (List.replicate g.length false)
  simp only [List.length_nil, List.length_replicate] at h h2
  unfold leftOf
  omega
def orderP (g : List (List Int)) : List Int := if fits g then (leftOf g).reverse else []
theorem orderP_le {w : World} {ba : Option Addr} {g : List (List Int)} (h : Gr w ba g) : (orderP g).length ≤ 1048576 := by
  have := h.len
  unfold orderP
  split
  · have := leftOf_len g; simp; omega
  · simp

theorem run_store_new (w : World) (b : Nat) (old v : Value) (t : TypeId) (hb : b = w.heap.size) (hv : v.oneCell' = true) : (store ⟨b, 0, none⟩ v).run Try.prog (w.alloc (.cells #[old] t)) = .ok () (w.alloc (.cells #[v] t)) := by
  subst hb
  rw [run_store _ _ _ _ _ hv, rowAt_new w old t, frozen_of_row _ _ 0 _ _ (heap_alloc_new w _)]
  simp only [Bool.false_eq_true, if_false]
  rw [World.setCell_alloc_new]
  rfl

/-! ### slices.Reverse -/
/-- The list with its first i and last i elements exchanged. -/
def revTo (xs : List Int) (i : Nat) : List Int := (List.range xs.length).map (fun k => if k < i ∨ xs.length - i ≤ k then xs.getD (xs.length - 1 - k) 0 else xs.getD k 0)
theorem revTo_len (xs : List Int) (i : Nat) : (revTo xs i).length = xs.length := by simp [revTo]
theorem revTo_get {xs : List Int} {i k : Nat} (hk : k < xs.length) : (revTo xs i)[k]? = some (if k < i ∨ xs.length - i ≤ k then xs.getD (xs.length - 1 - k) 0 else xs.getD k 0) := by simp [revTo, hk]
theorem revTo_zero (xs : List Int) : revTo xs 0 = xs := by
  apply List.ext_getElem?
  intro k
  by_cases hk : k < xs.length
  · rw [revTo_get hk, if_neg (by omega), List.getD_eq_getElem?_getD, List.getElem?_eq_getElem hk]; rfl
  · rw [List.getElem?_eq_none (by rw [revTo_len]; omega), List.getElem?_eq_none (by omega)]
theorem revTo_end {xs : List Int} {i : Nat} (h : xs.length ≤ 2 * i + 1) : revTo xs i = xs.reverse := by
  apply List.ext_getElem?
  intro k
  by_cases hk : k < xs.length
  · rw [revTo_get hk, List.getElem?_reverse hk]
    have h2 : xs.length - 1 - k < xs.length := by omega
    rw [List.getElem?_eq_getElem h2]
    split
    · rw [List.getD_eq_getElem?_getD, List.getElem?_eq_getElem h2]; rfl
    · have e : xs.length - 1 - k = k := by omega
      rw [List.getD_eq_getElem?_getD, List.getElem?_eq_getElem hk]
      simp only [Option.getD_some, e]
  · rw [List.getElem?_eq_none (by rw [revTo_len]; omega), List.getElem?_eq_none (by simp; omega)]
theorem revTo_succ {xs : List Int} {i : Nat} (h : 2 * i + 1 < xs.length) : ((revTo xs i).set i (xs.getD (xs.length - 1 - i) 0)).set (xs.length - 1 - i) (xs.getD i 0) = revTo xs (i + 1) := by
  apply List.ext_getElem?
  intro k
  by_cases hk : k < xs.length
  · rw [revTo_get hk, List.getElem?_set, List.getElem?_set, List.length_set, revTo_len]
    by_cases h1 : xs.length - 1 - i = k
    · rw [if_pos h1, if_pos (by omega), if_pos (by omega)]
      have : xs.length - 1 - k = i := by omega
      rw [this]
    · rw [if_neg h1]
      by_cases h2 : i = k
      · rw [if_pos h2, if_pos (by omega), if_pos (by omega), h2]
      · rw [if_neg h2, revTo_get hk]
        by_cases h3 : k < i ∨ xs.length - i ≤ k
        · rw [if_pos h3, if_pos (by omega)]
        · rw [if_neg h3, if_neg (by omega)]
  · rw [List.getElem?_eq_none (by rw [List.length_set, List.length_set, revTo_len]; omega), List.getElem?_eq_none (by rw [revTo_len]; omega)]

end Go.Proofs.Ytonlidgmfmgcmaa
