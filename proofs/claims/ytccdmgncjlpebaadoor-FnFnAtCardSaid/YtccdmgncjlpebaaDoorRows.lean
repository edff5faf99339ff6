/-
  NARROWER THAN 'FOR EVERY INPUT', by the rows' own cells (each row's printed sentence says how): FnFnAt: maps, laid.
  DERIVED. THE GIVEN ROWS OF THIS SEAT. 1 by the template 'for every input the law returns true; each argument reads behind the call as it read before'; 0 by the template 'total and deterministic' (their statements: YtccdmgncjlpebaaDoorTotals.lean).
  GIVEN WITH THE SEED: the statements are not yours to turn. If you find one false, say at which input.
  Laid BY PROGRAM, IN A SANDBOX (cutbox-rows.mjs): the forced cells as the released guide's own fill.sh prints them over the translation df11386a8b47406f… (all of the seat's roots in one cut). By AI agents, Wed Nov 11 2026. No macro, syntax, notation, axiom, sorry.
-/
import Derived.Test.YtccdmgncjlpebaaDoorChecked
import GoSem.Claim
import GoSem.ClaimJoined
import GoSem.ClaimMapViews
import Derived.JoinedTies
import Derived.KernelRfl
namespace Go.Proofs.YtccdmgncjlpebaaDoor
/- THE CELL 'sum', in the pinned program and in every row, IS THE sha256 OF THE DUMP (.gsa) THAT YtccdmgncjlpebaaDoorProg.lean LOADS. Nothing in Lean hashes anything: it is a label: what it is worth is what the hold of that sum in a sandbox is worth. -/
noncomputable def Tryd.pinned : Pinned := { name := "ytccdmgncjlpebaadoor", sum := "df11386a8b47406face51b2e6868560392d0aa3a009857d45f8667682cfe9faa", checked := Tryd.checked }
namespace Rows
def none {H : Type} : Left H := { results := [], args := [] }

/- WHAT THE LISTED PACKAGE-LEVEL VARIABLES READ AS WHEN THE CALL BEGINS. Each datum BY PROGRAM (the guide's laid-datum.mjs) off the statement by which the dump's own 'gosem.cut.vars' lays the variable. In a bare row this is a premise. The card (YtccdmgncjlpebaaDoorCards.lean) ties it to the program's text. -/
def laid_loop_example_wholeway_impl_keys {H : Type} : DataW H := .agg [.lit (.string [102, 110]), .lit (.string [108, 101, 116]), .lit (.string [115, 97, 121]), .lit (.string [112, 117, 116]), .lit (.string [105, 102]), .lit (.string [101, 108, 115, 101]), .lit (.string [108, 111, 111, 112]), .lit (.string [98, 97, 99, 107]), .lit (.string [100, 111])]
def laid_loop_example_wholeway_impl_opSign {H : Type} : DataW H := .map [(.int .i64 3, .agg [.lit (.string [43]), .lit (.int .i64 3)]), (.int .i64 4, .agg [.lit (.string [45]), .lit (.int .i64 3)]), (.int .i64 5, .agg [.lit (.string [42]), .lit (.int .i64 4)]), (.int .i64 6, .agg [.lit (.string [47]), .lit (.int .i64 4)]), (.int .i64 7, .agg [.lit (.string [37]), .lit (.int .i64 4)]), (.int .i64 8, .agg [.lit (.string [60]), .lit (.int .i64 2)]), (.int .i64 9, .agg [.lit (.string [61]), .lit (.int .i64 2)]), (.int .i64 10, .agg [.lit (.string [38]), .lit (.int .i64 1)])]

/-- 'laws.FnFnAt': WHATEVER THE INPUT: true; the input reads as it did. -/
def fnFnAtSpec : ChangeSpec := { name := "fnFnAt", vars := ["loop.example/wholeway/impl.keys", "loop.example/wholeway/impl.opSign"], fn := fun _ => fun
  | [d1, d2, g1, g2] => { results := [.lit (.bool true)], args := [d1, d2], vars := [g1, g2] }
  | _ => none }
def fnFnAtRow : OpenClaim := { program := "ytccdmgncjlpebaadoor", sum := "df11386a8b47406face51b2e6868560392d0aa3a009857d45f8667682cfe9faa", func := "loop.example/wholeway/laws.FnFnAt", spec := "fnFnAt", unfollowed := true, recurses := true, named := ["loop.example/wholeway/impl.keys", "loop.example/wholeway/impl.opSign"], maps := true, apart := false, laid := [("loop.example/wholeway/impl.keys", laid_loop_example_wholeway_impl_keys), ("loop.example/wholeway/impl.opSign", laid_loop_example_wholeway_impl_opSign)] }
def FnFnAtSaid : Prop := fnFnAtRow.holds Tryd.pinned (OpenSpec.ofChange fnFnAtSpec)

/-- ITS FALSE NEIGHBOUR: 'it returns false'. Refute it at one input. -/
def fnFnAtWrong : ChangeSpec := { name := "fnFnAt", vars := ["loop.example/wholeway/impl.keys", "loop.example/wholeway/impl.opSign"], fn := fun _ => fun
  | [d1, d2, g1, g2] => { results := [.lit (.bool false)], args := [d1, d2], vars := [g1, g2] }
  | _ => none }
def FnFnAtWrongFalsely : Prop := fnFnAtRow.holds Tryd.pinned (OpenSpec.ofChange fnFnAtWrong)

/- THE SECOND FORM. 'bulk': how many values and letters a reading holds, each counted each time it is reached (what is shared counts as often as it is met; a slice's spare places count too). A statement '..UptoSaid' is the law's where the arguments, and the package variables that the reading takes, are together of bulk at most 1048576: NARROWER than '..Said'. Prove '..Said' where nothing that the law and all that it calls make is longer than what came in: it says more and counts as full. Else prove '..UptoSaid'. A law counts once. -/
mutual
def uptoBulk {H : Type} : DataW H → Nat
  | .lit (.string bytes) => bytes.length + 1
  | .lit _ => 1
  | .nil => 1
  | .ptr d => uptoBulk d + 1
  | .slice elems spare => uptoBulkAll elems + uptoBulkAll spare + 1
  | .agg parts => uptoBulkAll parts + 1
  | .iface _ d => uptoBulk d + 1
  | .map entries => uptoBulkEntries entries + 1
  | .held _ => 1
def uptoBulkAll {H : Type} : List (DataW H) → Nat
  | [] => 0
  | d :: r => uptoBulk d + uptoBulkAll r
def uptoBulkEntries {H : Type} : List (Lit × DataW H) → Nat
  | [] => 0
  | x :: r => uptoBulkEntry x + uptoBulkEntries r
def uptoBulkEntry {H : Type} : Lit × DataW H → Nat
  | (.string bytes, d) => bytes.length + uptoBulk d + 1
  | (_, d) => uptoBulk d + 1
 end
def uptoSmall : (H : Type) → List (DataW H) → Bool := fun _ ds => decide (uptoBulkAll ds ≤ 1048576)
def OpenSpec.upto (s : _root_.Go.ChangeSpec) : _root_.Go.OpenSpec := { _root_.Go.OpenSpec.ofChange s with cond := some uptoSmall }

/-- 'laws.FnFnAt', WHERE WHAT IT READS IS OF BULK AT MOST 1048576: true; the input reads as it did. -/
def fnFnAtUptoRow : OpenClaim := { program := "ytccdmgncjlpebaadoor", sum := "df11386a8b47406face51b2e6868560392d0aa3a009857d45f8667682cfe9faa", func := "loop.example/wholeway/laws.FnFnAt", spec := "fnFnAt", unfollowed := true, recurses := true, named := ["loop.example/wholeway/impl.keys", "loop.example/wholeway/impl.opSign"], maps := true, apart := false, laid := [("loop.example/wholeway/impl.keys", laid_loop_example_wholeway_impl_keys), ("loop.example/wholeway/impl.opSign", laid_loop_example_wholeway_impl_opSign)], narrowed := true }
def FnFnAtUptoSaid : Prop := fnFnAtUptoRow.holds Tryd.pinned (OpenSpec.upto fnFnAtSpec)

end Rows
end Go.Proofs.YtccdmgncjlpebaaDoor
