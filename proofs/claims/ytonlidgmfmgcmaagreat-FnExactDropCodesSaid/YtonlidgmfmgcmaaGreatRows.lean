/-
  No cell of these rows narrows 'for every input' (looked for: loops, veiled, ifaces, maps, wideKeys, modest, calm, conditions, laid).
  DERIVED. THE GIVEN ROWS OF THIS SEAT. 2 by the template 'for every input the law returns true; each argument reads behind the call as it read before'; 0 by the template 'total and deterministic' (their statements: YtonlidgmfmgcmaaGreatTotals.lean).
  GIVEN WITH THE SEED: the statements are not yours to turn. If you find one false, say at which input.
  Laid BY PROGRAM, IN A SANDBOX (cutbox-rows.mjs): the forced cells as the released guide's own fill.sh prints them over the translation 363da077c533cf61… (all of the seat's roots in one cut). By AI agents, Wed Nov 11 2026. No macro, syntax, notation, axiom, sorry.
-/
import Derived.Test.YtonlidgmfmgcmaaGreatChecked
import GoSem.Claim
import GoSem.ClaimJoined
import GoSem.ClaimMapViews
import Derived.JoinedTies
import Derived.KernelRfl
namespace Go.Proofs.YtonlidgmfmgcmaaGreat
/- THE CELL 'sum', in the pinned program and in every row, IS THE sha256 OF THE DUMP (.gsa) THAT YtonlidgmfmgcmaaGreatProg.lean LOADS. Nothing in Lean hashes anything: it is a label: what it is worth is what the hold of that sum in a sandbox is worth. -/
noncomputable def Tryz.pinned : Pinned := { name := "ytonlidgmfmgcmaagreat", sum := "363da077c533cf6167948e3d5afb500c26b8d0aa65b3a136c518b7fdedb5787d", checked := Tryz.checked }
namespace Rows
def none {H : Type} : Left H := { results := [], args := [] }

/-- 'laws.FnExactCodesNeeded': WHATEVER THE INPUT: true; the input reads as it did. -/
def fnExactCodesNeededSpec : ChangeSpec := { name := "fnExactCodesNeeded", fn := fun _ => fun
  | [d] => { results := [.lit (.bool true)], args := [d] }
  | _ => none }
def fnExactCodesNeededRow : OpenClaim := { program := "ytonlidgmfmgcmaagreat", sum := "363da077c533cf6167948e3d5afb500c26b8d0aa65b3a136c518b7fdedb5787d", func := "loop.example/wholeway/laws.FnExactCodesNeeded", spec := "fnExactCodesNeeded", unfollowed := true, recurses := true, apart := false }
def FnExactCodesNeededSaid : Prop := fnExactCodesNeededRow.holds Tryz.pinned (OpenSpec.ofChange fnExactCodesNeededSpec)

/-- ITS FALSE NEIGHBOUR: 'it returns false'. Refute it at one input. -/
def fnExactCodesNeededWrong : ChangeSpec := { name := "fnExactCodesNeeded", fn := fun _ => fun
  | [d] => { results := [.lit (.bool false)], args := [d] }
  | _ => none }
def FnExactCodesNeededWrongFalsely : Prop := fnExactCodesNeededRow.holds Tryz.pinned (OpenSpec.ofChange fnExactCodesNeededWrong)

/-- 'laws.FnExactDropCodes': WHATEVER THE INPUT: true; the input reads as it did. -/
def fnExactDropCodesSpec : ChangeSpec := { name := "fnExactDropCodes", fn := fun _ => fun
  | [d] => { results := [.lit (.bool true)], args := [d] }
  | _ => none }
def fnExactDropCodesRow : OpenClaim := { program := "ytonlidgmfmgcmaagreat", sum := "363da077c533cf6167948e3d5afb500c26b8d0aa65b3a136c518b7fdedb5787d", func := "loop.example/wholeway/laws.FnExactDropCodes", spec := "fnExactDropCodes", unfollowed := true, recurses := true, apart := false }
def FnExactDropCodesSaid : Prop := fnExactDropCodesRow.holds Tryz.pinned (OpenSpec.ofChange fnExactDropCodesSpec)

/-- ITS FALSE NEIGHBOUR: 'it returns false'. Refute it at one input. -/
def fnExactDropCodesWrong : ChangeSpec := { name := "fnExactDropCodes", fn := fun _ => fun
  | [d] => { results := [.lit (.bool false)], args := [d] }
  | _ => none }
def FnExactDropCodesWrongFalsely : Prop := fnExactDropCodesRow.holds Tryz.pinned (OpenSpec.ofChange fnExactDropCodesWrong)

/- THE SECOND FORM. 'bulk': how many values and letters a reading holds, each counted each time it is reached (what is shared counts as often as it is met; a slice's spare places count too). A statement '..UptoSaid' is the law's where the arguments, and the package variables that the reading takes, are together of bulk at most 1048576: NARROWER than '..Said'. Prove '..Said' where nothing that the law and all that it calls make is longer than what came in: it says more and counts as full. Else prove '..UptoSaid'. A law counts once. -/
mutual
def uptoBulk {H : Type} : DataW H → Nat
  | .lit (.string bytes) => bytes.length + 1
  | .lit _ => 1
  | .nil => 1
  | .ptr d => uptoBulk d + 1
  | .slice elems spare => uptoBulkAll elems + uptoBulkAll spare + 1
  | .agg parts => uptoBulkAll parts + 1
  | .iface _ d => uptoBulk d + 1
  | .map entries => uptoBulkEntries entries + 1
  | .held _ => 1
def uptoBulkAll {H : Type} : List (DataW H) → Nat
  | [] => 0
  | d :: r => uptoBulk d + uptoBulkAll r
def uptoBulkEntries {H : Type} : List (Lit × DataW H) → Nat
  | [] => 0
  | x :: r => uptoBulkEntry x + uptoBulkEntries r
def uptoBulkEntry {H : Type} : Lit × DataW H → Nat
  | (.string bytes, d) => bytes.length + uptoBulk d + 1
  | (_, d) => uptoBulk d + 1
 end
def uptoSmall : (H : Type) → List (DataW H) → Bool := fun _ ds => decide (uptoBulkAll ds ≤ 1048576)
def OpenSpec.upto (s : _root_.Go.ChangeSpec) : _root_.Go.OpenSpec := { _root_.Go.OpenSpec.ofChange s with cond := some uptoSmall }

/-- 'laws.FnExactCodesNeeded', WHERE WHAT IT READS IS OF BULK AT MOST 1048576: true; the input reads as it did. -/
def fnExactCodesNeededUptoRow : OpenClaim := { program := "ytonlidgmfmgcmaagreat", sum := "363da077c533cf6167948e3d5afb500c26b8d0aa65b3a136c518b7fdedb5787d", func := "loop.example/wholeway/laws.FnExactCodesNeeded", spec := "fnExactCodesNeeded", unfollowed := true, recurses := true, apart := false, narrowed := true }
def FnExactCodesNeededUptoSaid : Prop := fnExactCodesNeededUptoRow.holds Tryz.pinned (OpenSpec.upto fnExactCodesNeededSpec)

/-- 'laws.FnExactDropCodes', WHERE WHAT IT READS IS OF BULK AT MOST 1048576: true; the input reads as it did. -/
def fnExactDropCodesUptoRow : OpenClaim := { program := "ytonlidgmfmgcmaagreat", sum := "363da077c533cf6167948e3d5afb500c26b8d0aa65b3a136c518b7fdedb5787d", func := "loop.example/wholeway/laws.FnExactDropCodes", spec := "fnExactDropCodes", unfollowed := true, recurses := true, apart := false, narrowed := true }
def FnExactDropCodesUptoSaid : Prop := fnExactDropCodesUptoRow.holds Tryz.pinned (OpenSpec.upto fnExactDropCodesSpec)

end Rows
end Go.Proofs.YtonlidgmfmgcmaaGreat
