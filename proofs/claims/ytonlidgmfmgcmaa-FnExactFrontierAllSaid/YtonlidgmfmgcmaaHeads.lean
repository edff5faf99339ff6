
/-
  The heads of the loops: the reference's list and the program's.
-/
import Derived.Test.YtonlidgmfmgcmaaPreds
import Derived.Test.YtonlidgmfmgcmaaRdInts
namespace Go.Proofs.Ytonlidgmfmgcmaa
open Go.RowKit

noncomputable def headB (g : List (List Int)) (h : Nat) : Bool := (preds g (h : Int)).any (fun b => domB g h b.toNat)
noncomputable def headsP (g : List (List Int)) : List Int := if fits g then filtTo (headB g) g.length else []
theorem filtTo_lt {p : Nat → Bool} {k : Nat} : ∀ y ∈ filtTo p k, y < (k : Int) := fun y hy => by
  obtain ⟨i, hi, _, rfl⟩ := filtTo_mem hy
  omega
theorem headsP_le {w : World} {ba : Option Addr} {g : List (List Int)} (h : Gr w ba g) : (headsP g).length ≤ 1048576 := by
  have := h.len
  unfold headsP
  split
  · have := filtTo_len (headB g) g.length; omega
  · simp
theorem any_take_succ {q : Int → Bool} {xs : List Int} {i : Nat} {x : Int} (h : xs[i]? = some x) : (xs.take (i + 1)).any q = ((xs.take i).any q || q x) := by
  rw [take_succ_of h, List.any_append]; simp
/-- What the list is while the predecessors of k are looked through: k is there once it has been found. -/
def withK (p : Nat → Bool) (k : Nat) (found : Bool) : List Int := if found then filtTo p k ++ [(k : Int)] else filtTo p k
theorem withK_len (p : Nat → Bool) (k : Nat) (f : Bool) : (withK p k f).length ≤ k + 1 := by
  have := filtTo_len p k
  unfold withK
  split
  · simp; omega
  · omega
theorem withK_ins (p : Nat → Bool) (k : Nat) (f : Bool) : ins (withK p k f) (k : Int) = withK p k true := by
  cases f with
  | true => exact ins_again filtTo_lt
  | false => exact ins_last filtTo_lt
theorem withK_succ (p : Nat → Bool) (k : Nat) : withK p k (p k) = filtTo p (k + 1) := by rw [filtTo_succ]; rfl
theorem preds_mem {g : List (List Int)} {b x : Int} (h : x ∈ preds g b) : ∃ i : Nat, i < g.length ∧ x = (i : Int) := by
  obtain ⟨i, hi, _, rfl⟩ := filtTo_mem h
  exact ⟨i, hi, rfl⟩

end Go.Proofs.Ytonlidgmfmgcmaa
