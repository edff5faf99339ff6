
/-
  The laws' size of a slice of ints.
-/
import Derived.Test.YtkhnhdgbbjppeaaInts
namespace Go.Proofs.Ytkhnhdgbbjppeaa
open Go.RowKit

/-! ### sizes -/
theorem szIntS_any (a : Option Addr) (len cap : Nat) (left : Int) (w : World) (h0 : 0 ≤ left) (h1 : left ≤ 1048576) (hl : len ≤ 9223372036854775807) :
    Calls Try.prog 146 #[.slice a len cap, .int .i64 left] w fun e w' => e = .returned (.int .i64 (if left < len then -1 else left - len)) ∧ w = w' := by
  by_cases h : left < len
  · rw [if_pos h]
    go_enter Try.func146, Try.ntmps146
    go_wp2
    go_ret
    exact ⟨rfl, rfl⟩
  · rw [if_neg h]
    go_enter Try.func146, Try.ntmps146
    go_wp2
    go_ret
    exact ⟨rfl, rfl⟩

end Go.Proofs.Ytkhnhdgbbjppeaa
