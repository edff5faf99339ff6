
/-
  ReachedIn, the reference's and the program's.
-/
import Derived.Test.YtonlidgmfmgcmaaOrderIn3
import Derived.Test.YtonlidgmfmgcmaaSort
namespace Go.Proofs.Ytonlidgmfmgcmaa
open Go.RowKit

def reachedP (g : List (List Int)) : List Int := if fits g then sortU (leftOf g) else []
theorem reachedP_le {w : World} {ba : Option Addr} {g : List (List Int)} (h : Gr w ba g) : (reachedP g).length ≤ 1048576 := by
  have h1 := h.len
  unfold reachedP
  split
  · have := sortU_len (leftOf g)
    have := leftOf_len g
    omega
  · simp
theorem sortU_rev (xs : List Int) : sortU xs.reverse = sortU xs := asc_ext (sortU_asc _) (sortU_asc _) (fun z => by rw [sortU_mem, sortU_mem, List.mem_reverse])

end Go.Proofs.Ytonlidgmfmgcmaa
