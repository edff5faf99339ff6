/-
  Short names for facts that stand in many places. (no filter)
-/
import Derived.WalkKit
import Derived.WalkSpells
import Derived.Lib.Hide
namespace Go.Proofs.YtloooebabieeeaaGreatDoor
open Go.RowKit
set_option linter.unusedVariables false
theorem hdd {p : Prop} (h : p) : Hid p := h
theorem ga0 {α : Type} (l : List α) (i : Nat) : l.toArray[i]? = l[i]? := List.getElem?_toArray
theorem ga1 {α : Type} (a : α) (l : List α) : (a :: l)[0]? = some a := rfl
theorem ga2 {α : Type} (a : α) (l : List α) (i : Nat) : (a :: l)[i + 1]? = l[i]? := rfl
theorem pu1 {α : Type} (l : List α) (i : Nat) (a : α) : l.toArray.setIfInBounds i a = (l.set i a).toArray := List.setIfInBounds_toArray ..
theorem pu2 {α : Type} (x a : α) (l : List α) : (x :: l).set 0 a = a :: l := rfl
theorem pu3 {α : Type} (x a : α) (l : List α) (i : Nat) : (x :: l).set (i + 1) a = x :: l.set i a := rfl
theorem gsI {α : Type} {xs : Array α} {i : Nat} {b : α} (h : xs[i]? = some b) : ∃ h : i < xs.size, xs[i] = b := Array.getElem?_eq_some_iff.1 h
theorem bAl (w : World) (o : Obj) : Below w.heap.size w (w.alloc o) := (Below.refl _ _).alloc (Nat.le_refl _) _
abbrev coR := @cell_of_row
abbrev frR := @frozen_of_row
abbrev clT := @cell_later
abbrev aI := @And.intro
abbrev hAn := @heap_alloc_new
abbrev bRf := @Below.refl
abbrev hSs := @heap_setCell_same
end Go.Proofs.YtloooebabieeeaaGreatDoor
