
/-
  The deepest block of which something holds: the program's search, and the reference's; the answers of MeetOf.
-/
import Derived.Test.YtkhnhdgbbjppeaaDepth
namespace Go.Proofs.Ytkhnhdgbbjppeaa
open Go.RowKit

/-- The deepest of the blocks 0 .. k-1 of which P holds, or -1. -/
noncomputable def bestOf (g : List (List Int)) (P : Nat → Bool) : Nat → Int
  | 0 => -1
  | k + 1 => if P k && (decide (bestOf g P k < 0) || domB g (bestOf g P k).toNat k) then (k : Int) else bestOf g P k
theorem bestOf_range (g : List (List Int)) (P : Nat → Bool) : ∀ k, bestOf g P k = -1 ∨ ∃ m : Nat, m < k ∧ P m = true ∧ bestOf g P k = (m : Int)
  | 0 => .inl rfl
  | k + 1 => by
    by_cases h : (P k && (decide (bestOf g P k < 0) || domB g (bestOf g P k).toNat k)) = true
    · refine .inr ⟨k, by omega, ?_, by rw [bestOf, if_pos h]⟩
      simp only [Bool.and_eq_true] at h
      exact h.1
    · rw [bestOf, if_neg h]
      rcases bestOf_range g P k with h1 | ⟨m, h1, h2, h3⟩
      · exact .inl h1
      · exact .inr ⟨m, by omega, h2, h3⟩
theorem bestOf_congr {g : List (List Int)} {P Q : Nat → Bool} : ∀ {k : Nat}, (∀ j, j < k → P j = Q j) → bestOf g P k = bestOf g Q k
  | 0, _ => rfl
  | k + 1, h => by
    rw [bestOf, bestOf, bestOf_congr (k := k) (fun j hj => h j (by omega)), h k (by omega)]
theorem bestOf_none {g : List (List Int)} {P : Nat → Bool} : ∀ {k : Nat}, (∀ j, j < k → P j = false) → bestOf g P k = -1
  | 0, _ => rfl
  | k + 1, h => by
    rw [bestOf, h k (by omega), Bool.false_and, if_neg (by decide)]
    exact bestOf_none (fun j hj => h j (by omega))

/-- The function value answers P of each block, and changes nothing that was there. -/
structure NearFn (w : World) (f : Nat) (caps : Array Value) (n : Nat) (P : Nat → Bool) : Prop where
  enter : ∀ v W, (callFunc f (#[v] ++ caps)).run Try.prog W = .ok (.enter f (#[v] ++ caps)) W
  calls : ∀ x : Nat, x < n → ∀ W, Below w.heap.size w W → Calls Try.prog f (#[.int .i64 (x : Int)] ++ caps) W fun e w' => e = .returned (.bool (P x)) ∧ Below W.heap.size W w'

/-! ### MeetOf -/
noncomputable def meetP (g : List (List Int)) (a b : Int) : Int := if inP g a && inP g b then bestOf g (fun k => domB g k a.toNat && domB g k b.toNat) g.length else -1
theorem meetP_of {g : List (List Int)} {a b : Int} (hf : Fits g) : meetP g a b = if hasP g a && hasP g b then bestOf g (fun k => reachB g (-1) k && (domB g k a.toNat && domB g k b.toNat)) g.length else -1 := by
  have hc : bestOf g (fun k => reachB g (-1) k && (domB g k a.toNat && domB g k b.toNat)) g.length = bestOf g (fun k => domB g k a.toNat && domB g k b.toNat) g.length := bestOf_congr (fun j _ => by
    cases h : domB g j a.toNat with
    | false => simp
    | true => rw [(domB_has h).1]; simp)
  rw [hc, meetP, inP, inP, hasP, hasP, fits_iff.2 hf, Bool.true_and, Bool.true_and]
  by_cases ho : (okN g.length a && okN g.length b) = true
  · rw [if_pos ho]
    simp only [Bool.and_eq_true] at ho
    rw [ho.1, ho.2, Bool.true_and, Bool.true_and]
    by_cases hr : (reachB g (-1) a.toNat && reachB g (-1) b.toNat) = true
    · rw [if_pos hr]
    · rw [if_neg hr]
      refine bestOf_none (fun j _ => ?_)
      cases h1 : domB g j a.toNat with
      | false => rfl
      | true =>
        cases h2 : domB g j b.toNat with
        | false => rfl
        | true => rw [(domB_has h1).2, (domB_has h2).2] at hr; simp at hr
  · rw [if_neg ho, if_neg]
    intro h
    simp only [Bool.and_eq_true] at h ho
    exact ho ⟨h.1.1, h.2.1⟩

end Go.Proofs.Ytkhnhdgbbjppeaa
