
/-
  How many blocks dominate a block: the reference's answer and the program's.
-/
import Derived.Test.YtkhnhdgbbjppeaaDominates
namespace Go.Proofs.Ytkhnhdgbbjppeaa
open Go.RowKit

noncomputable def cntDom (g : List (List Int)) (b : Nat) : Nat → Nat
  | 0 => 0
  | k + 1 => cntDom g b k + (if domB g k b then 1 else 0)
theorem cntDom_le (g : List (List Int)) (b : Nat) : ∀ k, cntDom g b k ≤ k
  | 0 => Nat.le_refl _
  | k + 1 => by have := cntDom_le g b k; unfold cntDom; split <;> omega
theorem cntDom_zero {g : List (List Int)} {b : Nat} (h : reachB g (-1) b = false) : ∀ k, cntDom g b k = 0
  | 0 => rfl
  | k + 1 => by rw [cntDom, cntDom_zero h k]; simp [domB, h]
noncomputable def depthP (g : List (List Int)) (b : Int) : Int := if inP g b then (cntDom g b.toNat g.length : Int) - 1 else -1

theorem int_val {a b : Int} (h : a = b) : Value.int .i64 a = .int .i64 b := by rw [h]

theorem l5Truth_any (v : Bool) (w : World) : Calls Try.prog 98 #[.bool v] w fun e w' => e = .returned (.int .i64 (if v then 1 else 0)) ∧ w = w' := by
  cases v <;> (
    go_enter Try.func98, Try.ntmps98
    go_wp2
    go_ret
    exact ⟨rfl, rfl⟩)

theorem depthP_of {g : List (List Int)} {b : Int} (hf : Fits g) : depthP g b = if hasP g b then (cntDom g b.toNat g.length : Int) - 1 else -1 := by
  rw [depthP, inP, hasP, fits_iff.2 hf, Bool.true_and]
  by_cases ho : okN g.length b = true
  · rw [ho, Bool.true_and, if_pos rfl]
    by_cases hr : reachB g (-1) b.toNat = true
    · rw [hr, if_pos rfl]
    · rw [cntDom_zero (by simpa using hr), if_neg hr]; rfl
  · have ho' : okN g.length b = false := by simpa using ho
    rw [ho']; rfl

end Go.Proofs.Ytkhnhdgbbjppeaa
