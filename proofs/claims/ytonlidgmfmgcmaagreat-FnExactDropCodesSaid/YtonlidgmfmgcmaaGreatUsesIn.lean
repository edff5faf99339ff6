
/-
  UsesIn, the reference's and the program's.
-/
import Derived.Test.YtonlidgmfmgcmaaGreatUsesImpl
namespace Go.Proofs.YtonlidgmfmgcmaaGreat
open Go.RowKit

def regsAt (us : List CodeD) (k : Int) : Int := ((us[k.toNat]?).map (·.regs)).getD 0
/-- The unit is valid, and has a register r of a code k. -/
def regB (us : List CodeD) (k r : Int) : Bool := hasB us k && inR (regsAt us k) r
theorem code_jumps {us : List CodeD} {k : Nat} {c : CodeD} (h : codeB us k c = true) : ∀ x ∈ c.blocks, x.jump = 1 ∨ x.jump = 2 ∨ x.jump = 3 := by
  intro x hx
  obtain ⟨b, hb⟩ := List.getElem?_of_mem hx
  have h1 := code_block h hb
  rw [blockB, Bool.and_eq_true, Bool.and_eq_true, Bool.and_eq_true, jumpB, Bool.and_eq_true] at h1
  have h2 := h1.1.1.1.1
  unfold nextN at h2
  by_cases e1 : x.jump = 1
  · exact .inl e1
  · by_cases e2 : x.jump = 2
    · exact .inr (.inl e2)
    · by_cases e3 : x.jump = 3
      · exact .inr (.inr e3)
      · rw [if_neg e1, if_neg e2, if_neg e3] at h2
        simp at h2
theorem usesP_of {us : List CodeD} {k : Nat} {c : CodeD} {r : Int} (hv : hasB us (k : Int) = true) (hx : us[k]? = some c) (hr : inR c.regs r = true) : usesP us k r = (bumps c.regs.toNat (codeArgs c)).getD r.toNat 0 := by
  rw [usesP, if_pos hv, Int.toNat_natCast, hx]; simp [hr]
theorem usesP_not {us : List CodeD} {k r : Int} (h : regB us k r = false) : usesP us k r = -1 := by
  unfold usesP
  by_cases hv : hasB us k = true
  · rw [if_pos hv]
    rw [regB, hv, Bool.true_and, regsAt] at h
    cases hx : us[k.toNat]? with
    | none => rfl
    | some c => rw [hx] at h; simp at h; simp [h]
  · rw [if_neg hv]

end Go.Proofs.YtonlidgmfmgcmaaGreat
