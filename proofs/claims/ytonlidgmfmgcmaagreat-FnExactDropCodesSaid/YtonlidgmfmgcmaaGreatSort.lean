
/-
  The library's slices.Sort and slices.Compact over ints that a call has made; the program's once: a list sorted, without repeats.
-/
import Derived.Test.YtonlidgmfmgcmaaGreatLays
import Derived.Test.YtonlidgmfmgcmaaGreatIntClone
import Derived.Test.YtonlidgmfmgcmaaGreatSortU
import Derived.Sort.OwnSortedInts
import Derived.Lib.OwnBridge
import Derived.Shelf.Slices.In.SortNone
namespace Go.Proofs.YtonlidgmfmgcmaaGreat
open Go.RowKit Go.Shelf Go.Sort

def sortI (xs : List Int) : List Int := xs.mergeSort fun x y => decide (x ≤ y)
theorem sortI_len (xs : List Int) : (sortI xs).length = xs.length := by simp [sortI]
theorem sortU_eq (xs : List Int) : sortU xs = Lib.compact (sortI xs) := rfl

theorem sort_any (lo : Nat) (a : Option Addr) (cap : Nat) (xs : List Int) (w : World) (hown : w.ownsRow lo 3 1 (.slice a xs.length cap) xs.length (xs.map (Value.int .i64))) (hs : xs.length ≤ 1099511627776) :
    Calls Tryz.prog 92 #[.slice a xs.length cap] w fun e w' => e = .returned (.tuple #[]) ∧ w'.ownsRow lo 3 1 (.slice a xs.length cap) xs.length ((sortI xs).map (Value.int .i64)) ∧ w.grownBy w' (Value.slice a xs.length cap).ownBlock := by
  rcases hown.2 with ⟨hv, h0⟩ | ⟨g, cap', cur, hv, hb, hgg, h1, h2, h3, h4⟩
  · simp only [Value.slice.injEq] at hv
    obtain ⟨rfl, hl, rfl⟩ := hv
    have hx : xs = [] := List.length_eq_zero_iff.1 h0
    subst hx
    refine (calls_of_every_depth fun D => AnyS.slices_Sort_int_none_in laysSort D none 0 w).mono ?_
    rintro e w' ⟨rfl, rfl⟩
    exact ⟨rfl, by simpa [sortI] using hown, World.grownBy.refl _ _⟩
  · simp only [Value.slice.injEq] at hv
    obtain ⟨rfl, _, rfl⟩ := hv
    obtain ⟨_, _, hv2, _, hlt, _, _, _, hH⟩ := Lib.holds_of_ownsRow hown (by simp)
    cases hv2
    refine (Any.slices_Sort_int laysSort g 0 cap xs w hH hlt (by omega)).mono ?_
    rintro e w' ⟨rfl, n, os, rfl⟩
    exact ⟨rfl, ownsRow_sortedI (by simp) hb hgg h1 h2 h3, grownBy_sortedI _⟩

end Go.Proofs.YtonlidgmfmgcmaaGreat
