
/-
  The library's slices.Clone over ints: the walk.
-/
import Derived.Test.YtonlidgmfmgcmaaGreatBase
namespace Go.Proofs.YtonlidgmfmgcmaaGreat
open Go.RowKit

set_option maxHeartbeats 400000 in
/-- Clone of a slice that is not nil. -/
theorem clone_some (ad : Addr) (len cap : Nat) (xs : List Int) (w : World) (hin : IntsRd w (some ad) len xs) (hs : len ≤ 1099511627776) :
    Calls Tryz.prog 76 #[.slice (some ad) len cap] w fun e w' => RetInts w xs len e w' := by
  have hnn := @Lib.run_eql_slice_nil Tryz.prog
  go_enter Tryz.func76, Tryz.ntmps76
  go_wp2_with (at_builtin; refine app_ints rfl (.tmp 5) (.tmp 6) rfl w.heap.size _ 0 [] rfl (own_empty _ _ _ _ (Nat.le_refl _)) _ len _ xs rfl hin.length (hin.row.later ((Below.refl _ _).alloc (Nat.le_refl _) _)) (by rintro ⟨⟩) (by omega) (by simp) ?_; intro a1 c1 w1 hown hgrow hlies)
  have hb1 : Below w.heap.size w w1 := ((Below.refl _ _).alloc (Nat.le_refl _) _).grown hgrow (by simp) (fun j hj => ((own_empty w w.heap.size 3 1 (Nat.le_refl _)).lt j hj).1)
  simp only [Nat.zero_add, List.nil_append] at hown
  clear hgrow hlies
  go_wp2
  go_ret
  exact ⟨_, _, rfl, hown, hb1⟩
theorem clone_any (b off : Nat) (len cap : Nat) (xs : List Int) (w : World) (hin : IntsRd w (some ⟨b, off, none⟩) len xs) (hs : len ≤ 1099511627776) :
    Calls Tryz.prog 76 #[.slice (some ⟨b, off, none⟩) len cap] w fun e w' => RetInts w xs len e w' := clone_some _ len cap xs w hin hs
theorem clone_nil (w : World) : Calls Tryz.prog 76 #[.slice none 0 0] w fun e w' => e = .returned (.slice none 0 0) ∧ w = w' := by
  have hnn := @Lib.run_eql_slice_nil Tryz.prog
  go_enter Tryz.func76, Tryz.ntmps76
  go_wp2
  go_ret
  exact ⟨rfl, rfl⟩

theorem clone_ret (a : Option Addr) (len cap : Nat) (xs : List Int) (w : World) (hin : IntsAt w a len cap xs) (hs : len ≤ 1099511627776) :
    Calls Tryz.prog 76 #[.slice a len cap] w fun e w' => RetInts w xs len e w' := by
  rcases hin.addr with ⟨rfl, rfl⟩ | ⟨b, off, rfl⟩
  · have h0 : len = 0 := by have := hin.le; omega
    subst h0
    have hx : xs = [] := List.eq_nil_of_length_eq_zero hin.length
    subst hx
    exact (clone_nil w).mono fun _ _ ⟨he, hw⟩ => ⟨none, 0, he, World.ownsRow_nil _ _ _ _, by rw [← hw]; exact Below.refl _ _⟩
  · exact clone_any b off len cap xs w hin.toIntsRd hs

end Go.Proofs.YtonlidgmfmgcmaaGreat
