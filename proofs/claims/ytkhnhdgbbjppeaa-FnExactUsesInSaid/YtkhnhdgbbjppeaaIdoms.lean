
/-
  The nearest dominators: the reference's list and the program's.
-/
import Derived.Test.YtkhnhdgbbjppeaaMeet
namespace Go.Proofs.Ytkhnhdgbbjppeaa
open Go.RowKit

noncomputable def idomB (g : List (List Int)) (b a : Nat) : Bool := (a != b) && domB g a b
noncomputable def idomP (g : List (List Int)) (b : Nat) : Int := bestOf g (idomB g b) g.length
noncomputable def idoms (g : List (List Int)) : List Int := (List.range g.length).map (idomP g)
noncomputable def idomsP (g : List (List Int)) : List Int := if fits g then idoms g else []
theorem idoms_length (g : List (List Int)) : (idoms g).length = g.length := by simp [idoms]
theorem idoms_get {g : List (List Int)} {b : Nat} (h : b < g.length) : (idoms g)[b]? = some (idomP g b) := by simp [idoms, h]
theorem idomsP_le {w : World} {ba : Option Addr} {g : List (List Int)} (h : Gr w ba g) : (idomsP g).length ≤ 1048576 := by
  have := h.len
  unfold idomsP
  split
  · rw [idoms_length]; exact this
  · simp
theorem idomP_of {g : List (List Int)} {b : Nat} : bestOf g (fun k => reachB g (-1) k && idomB g b k) g.length = idomP g b := bestOf_congr (fun j _ => by
  unfold idomB
  cases h : domB g j b with
  | false => simp
  | true => rw [(domB_has h).1]; simp)
theorem idomP_unreached {g : List (List Int)} {b : Nat} (h : reachB g (-1) b = false) : idomP g b = -1 := bestOf_none (fun j _ => by simp [idomB, domB, h])
theorem ints_push {xs : List Int} {k : Nat} {x : Int} (h : xs[k]? = some x) : ((xs.take (k + 1)).map (Value.int .i64)) = (xs.take k).map (Value.int .i64) ++ [x].map (Value.int .i64) := by
  rw [take_succ_of h, List.map_append]

/-- One step of the search, as the loops take it. -/
theorem bestOf_step (g : List (List Int)) (P : Nat → Bool) (j : Nat) : bestOf g P (j + 1) = if P j && (decide (bestOf g P j < 0) || domB g (bestOf g P j).toNat j) then (j : Int) else bestOf g P j := rfl

/-! ### the program -/
end Go.Proofs.Ytkhnhdgbbjppeaa
