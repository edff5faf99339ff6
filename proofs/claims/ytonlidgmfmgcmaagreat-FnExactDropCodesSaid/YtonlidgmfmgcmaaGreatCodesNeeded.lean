
/-
  CodesNeeded, both.
-/
import Derived.Test.YtonlidgmfmgcmaaGreatCnSpec
import Derived.Test.YtonlidgmfmgcmaaGreatCnImpl
import Derived.Test.YtonlidgmfmgcmaaGreatRdInts
namespace Go.Proofs.YtonlidgmfmgcmaaGreat
open Go.RowKit

theorem specCodesNeeded_rd (us : List CodeD) (ua : Option Addr) (uc : Nat) (hsz : szS szCodeD us ≤ 1048576) (w : World) (hU : SliceRd 3 CodeR w ua us.length us) :
    Calls Tryz.prog 6 #[.agg #[.slice ua us.length uc]] w fun e w' => RdInts w (cnP us) e w' :=
  (specCodesNeeded_any us ua uc hsz w hU).mono fun _ _ ⟨a, c, he, hown, hb⟩ => ⟨a, c, he, (ints_of_own hown).toIntsRd, hb⟩
theorem cnP_small {us : List CodeD} (h : szUnitD ⟨us⟩ ≤ 1048576) : (cnP us).length ≤ 1048576 :=
  Nat.le_trans (cnP_len us) (Nat.le_trans (szS_len szCodeD us) h)

end Go.Proofs.YtonlidgmfmgcmaaGreat
