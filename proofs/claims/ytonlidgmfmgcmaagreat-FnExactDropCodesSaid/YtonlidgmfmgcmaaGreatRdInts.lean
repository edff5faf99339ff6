
/-
  A call's answer that reads as a list of ints.
-/
import Derived.Test.YtonlidgmfmgcmaaGreatBase
namespace Go.Proofs.YtonlidgmfmgcmaaGreat
open Go.RowKit

/-- The call returned a slice that reads as these ints; nothing that was there has changed. -/
def RdInts (w : World) (xs : List Int) (e : Ending) (w' : World) : Prop := ∃ a cap, e = .returned (.slice a xs.length cap) ∧ IntsRd w' a xs.length xs ∧ Below w.heap.size w w'
theorem rdInts_of_ret {w w' : World} {xs : List Int} {e : Ending} (h : RetInts w xs xs.length e w') : RdInts w xs e w' := by
  obtain ⟨a, c, rfl, h1, h2⟩ := h
  exact ⟨a, c, rfl, (ints_of_own h1).toIntsRd, h2⟩
theorem rdInts_of_read {w w' : World} {xs : List Int} {e : Ending} (h : ReadInts w xs e w') : RdInts w xs e w' := by
  obtain ⟨a, c, rfl, h1, h2⟩ := h
  exact ⟨a, c, rfl, h1.toIntsRd, h2⟩
theorem ins_last {xs : List Int} {x : Int} (h : ∀ y ∈ xs, y < x) : ins xs x = xs ++ [x] := by
  have h1 := ins_new xs x xs.length (fun j y _ hy => h y (List.mem_of_getElem? hy)) (Nat.le_refl _) (fun y hy => by rw [List.getElem?_eq_none (Nat.le_refl _)] at hy; cases hy)
  rw [h1, List.take_length, List.drop_length]
theorem ins_again {xs : List Int} {x : Int} (h : ∀ y ∈ xs, y < x) : ins (xs ++ [x]) x = xs ++ [x] :=
  ins_same (xs ++ [x]) x xs.length (fun j y hj hy => by rw [List.getElem?_append_left hj] at hy; exact h y (List.mem_of_getElem? hy)) (by simp)

end Go.Proofs.YtonlidgmfmgcmaaGreat
