
/-
  The test whether a unit is valid and has a code, the reference's and the program's.
-/
import Derived.Test.YtonlidgmfmgcmaaGreatUvSpecUnit
namespace Go.Proofs.YtonlidgmfmgcmaaGreat
open Go.RowKit

def kB (us : List CodeD) (k : Int) : Bool := decide (0 ≤ k) && decide (k ≤ (us.length : Int) - 1)
/-- The unit is valid, and has a code k. -/
def hasB (us : List CodeD) (k : Int) : Bool := unitB us && kB us k
theorem hasB_true {us : List CodeD} {k : Int} : hasB us k = true ↔ unitB us = true ∧ 0 ≤ k ∧ k < us.length := by
  simp [hasB, kB]; omega

set_option maxRecDepth 100000 in
theorem l12Has_any (us : List CodeD) (ua : Option Addr) (uc : Nat) (k : Int) (hsz : szS szCodeD us ≤ 1048576) (w : World) (hU : SliceRd 3 CodeR w ua us.length us) :
    Calls Tryz.prog 36 #[.agg #[.slice ua us.length uc], .int .i64 k] w fun e w' => e = .returned (.bool (hasB us k)) ∧ Below w.heap.size w w' := by
  have hb0 : Below w.heap.size w (w.alloc (.cells #[.slice ua us.length uc] 30)) := (Below.refl _ _).alloc (Nat.le_refl _) _
  have hrow := heap_alloc_new w (.cells #[.slice ua us.length uc] 30)
  have hc0 : (w.alloc (.cells #[.slice ua us.length uc] 30)).cell? ⟨w.heap.size, 0, none⟩ = some (.slice ua us.length uc) := cell_of_row _ _ 0 _ _ _ hrow
  have hn2 : us.length ≤ 1048576 := Nat.le_trans (szS_len szCodeD us) hsz
  have HC := Lib.hid (And.intro (specUnitValid_any us ua uc hsz _ (hU.later codeR_lasts hb0)) hb0)
  clear hU hrow
  go_enter Tryz.func36, Tryz.ntmps36
  go_wp2_with fail
  refine HC.out.1.mono ?_
  cases hv : unitB us with
  | false =>
    have HN := Lib.hid (show hasB us k = false by rw [hasB, hv]; rfl)
    clear hv
    rintro e w1 ⟨rfl, hb1⟩
    have hc1 := cell_later hb1 hc0
    go_wp2
    go_ret
    exact ⟨ret_bool HN.out.symm, HC.out.2.trans (hb1.mono HC.out.2.size)⟩
  | true =>
    have HN := Lib.hid (show hasB us k = kB us k by rw [hasB, hv]; rfl)
    clear hv
    rintro e w1 ⟨rfl, hb1⟩
    have hc1 := cell_later hb1 hc0
    have HB1 := Lib.hid (HC.out.2.trans (hb1.mono HC.out.2.size))
    clear hb1 hc0 hb0
    go_wp2_with fail
    refine (l1In_is (show (decide (0 ≤ k) && decide (k ≤ (us.length : Int) - 1)) = kB us k from rfl) _).mono ?_
    rintro e w2 ⟨rfl, rfl⟩
    go_wp2
    go_ret
    exact ⟨ret_bool HN.out.symm, HB1.out⟩
end Go.Proofs.YtonlidgmfmgcmaaGreat
