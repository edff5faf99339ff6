
/-
  Facts about slices of ints that every walk of this seat uses.
-/
import Derived.Test.YtkhnhdgbbjppeaaCore
namespace Go.Proofs.Ytkhnhdgbbjppeaa
open Go.RowKit

theorem info_int : (Try.prog.info? 3).map (fun i => (i.zero, i.size, i.bytes)) = some (some (.int .i64 0), 1, 8) := by kernel_rfl
theorem und_ints : Try.prog.underlying 40 = some (.slice 3) := by kernel_rfl

theorem ints_of_own {w : World} {base : Nat} {a : Option Addr} {n cap : Nat} {xs : List Int} (h : w.ownsRow base 3 1 (.slice a n cap) n (xs.map (Value.int .i64))) : IntsAt w a n cap xs :=
  ⟨⟨by have := h.1; simpa using this, rowAt_of_own h⟩, (own_cap h).1, (own_cap h).2, own_addr h⟩

/-- The call returned a new slice that reads as these ints; nothing that was there has changed. -/
def RetInts (w : World) (xs : List Int) (n : Nat) (e : Ending) (w' : World) : Prop :=
  ∃ a cap, e = .returned (.slice a n cap) ∧ w'.ownsRow w.heap.size 3 1 (.slice a n cap) n (xs.map (Value.int .i64)) ∧ Below w.heap.size w w'

end Go.Proofs.Ytkhnhdgbbjppeaa
