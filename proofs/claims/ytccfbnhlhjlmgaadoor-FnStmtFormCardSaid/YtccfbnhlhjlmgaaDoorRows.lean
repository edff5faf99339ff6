/-
  NARROWER THAN 'FOR EVERY INPUT', by the rows' own cells (each row's printed sentence says how): FnDoIns: maps, laid · FnFnAt: maps, laid · FnStmtForm: maps, laid · FnEval: maps, laid · FnStmtCount: maps, laid · FnSafe: maps, laid · FnExactEvalExpr: loops, maps, laid · FnEvalPut: maps, laid · FnFoldSame: maps, laid · FnEvalRuns: maps, laid · FnFoldNumbers: maps, laid.
  DERIVED. THE GIVEN ROWS OF THIS SEAT. 11 by the template 'for every input the law returns true; each argument reads behind the call as it read before'; 0 by the template 'total and deterministic' (their statements: YtccfbnhlhjlmgaaDoorTotals.lean).
  GIVEN WITH THE SEED: the statements are not yours to turn. If you find one false, say at which input.
  Laid BY PROGRAM, IN A SANDBOX (cutbox-rows.mjs): the forced cells as the released guide's own fill.sh prints them over the translation 26e7d0fe728a7f41… (all of the seat's roots in one cut). By AI agents, Wed Nov 11 2026. No macro, syntax, notation, axiom, sorry.
-/
import Derived.Test.YtccfbnhlhjlmgaaDoorChecked
import GoSem.Claim
import GoSem.ClaimJoined
import GoSem.ClaimMapViews
import Derived.JoinedTies
import Derived.KernelRfl
namespace Go.Proofs.YtccfbnhlhjlmgaaDoor
/- THE CELL 'sum', in the pinned program and in every row, IS THE sha256 OF THE DUMP (.gsa) THAT YtccfbnhlhjlmgaaDoorProg.lean LOADS. Nothing in Lean hashes anything: it is a label: what it is worth is what the hold of that sum in a sandbox is worth. -/
noncomputable def Tryd.pinned : Pinned := { name := "ytccfbnhlhjlmgaadoor", sum := "26e7d0fe728a7f41c94acd193d0cfc7b7f59c87d768d6c20b40231293cd0fbb2", checked := Tryd.checked }
namespace Rows
def none {H : Type} : Left H := { results := [], args := [] }

/- WHAT THE LISTED PACKAGE-LEVEL VARIABLES READ AS WHEN THE CALL BEGINS. Each datum BY PROGRAM (the guide's laid-datum.mjs) off the statement by which the dump's own 'gosem.cut.vars' lays the variable. In a bare row this is a premise. The card (YtccfbnhlhjlmgaaDoorCards.lean) ties it to the program's text. -/
def laid_loop_example_wholeway_impl_keys {H : Type} : DataW H := .agg [.lit (.string [102, 110]), .lit (.string [108, 101, 116]), .lit (.string [115, 97, 121]), .lit (.string [112, 117, 116]), .lit (.string [105, 102]), .lit (.string [101, 108, 115, 101]), .lit (.string [108, 111, 111, 112]), .lit (.string [98, 97, 99, 107]), .lit (.string [100, 111])]
def laid_loop_example_wholeway_impl_opSign {H : Type} : DataW H := .map [(.int .i64 3, .agg [.lit (.string [43]), .lit (.int .i64 3)]), (.int .i64 4, .agg [.lit (.string [45]), .lit (.int .i64 3)]), (.int .i64 5, .agg [.lit (.string [42]), .lit (.int .i64 4)]), (.int .i64 6, .agg [.lit (.string [47]), .lit (.int .i64 4)]), (.int .i64 7, .agg [.lit (.string [37]), .lit (.int .i64 4)]), (.int .i64 8, .agg [.lit (.string [60]), .lit (.int .i64 2)]), (.int .i64 9, .agg [.lit (.string [61]), .lit (.int .i64 2)]), (.int .i64 10, .agg [.lit (.string [38]), .lit (.int .i64 1)])]

/-- 'laws.FnDoIns': WHATEVER THE INPUT: true; the input reads as it did. -/
def fnDoInsSpec : ChangeSpec := { name := "fnDoIns", vars := ["loop.example/wholeway/impl.opSign", "loop.example/wholeway/impl.keys"], fn := fun _ => fun
  | [d, g1, g2] => { results := [.lit (.bool true)], args := [d], vars := [g1, g2] }
  | _ => none }
def fnDoInsRow : OpenClaim := { program := "ytccfbnhlhjlmgaadoor", sum := "26e7d0fe728a7f41c94acd193d0cfc7b7f59c87d768d6c20b40231293cd0fbb2", func := "loop.example/wholeway/laws.FnDoIns", spec := "fnDoIns", unfollowed := true, recurses := true, named := ["loop.example/wholeway/impl.opSign", "loop.example/wholeway/impl.keys"], maps := true, apart := false, laid := [("loop.example/wholeway/impl.keys", laid_loop_example_wholeway_impl_keys), ("loop.example/wholeway/impl.opSign", laid_loop_example_wholeway_impl_opSign)] }
def FnDoInsSaid : Prop := fnDoInsRow.holds Tryd.pinned (OpenSpec.ofChange fnDoInsSpec)

/-- ITS FALSE NEIGHBOUR: 'it returns false'. Refute it at one input. -/
def fnDoInsWrong : ChangeSpec := { name := "fnDoIns", vars := ["loop.example/wholeway/impl.opSign", "loop.example/wholeway/impl.keys"], fn := fun _ => fun
  | [d, g1, g2] => { results := [.lit (.bool false)], args := [d], vars := [g1, g2] }
  | _ => none }
def FnDoInsWrongFalsely : Prop := fnDoInsRow.holds Tryd.pinned (OpenSpec.ofChange fnDoInsWrong)

/-- 'laws.FnFnAt': WHATEVER THE INPUT: true; the input reads as it did. -/
def fnFnAtSpec : ChangeSpec := { name := "fnFnAt", vars := ["loop.example/wholeway/impl.keys", "loop.example/wholeway/impl.opSign"], fn := fun _ => fun
  | [d1, d2, g1, g2] => { results := [.lit (.bool true)], args := [d1, d2], vars := [g1, g2] }
  | _ => none }
def fnFnAtRow : OpenClaim := { program := "ytccfbnhlhjlmgaadoor", sum := "26e7d0fe728a7f41c94acd193d0cfc7b7f59c87d768d6c20b40231293cd0fbb2", func := "loop.example/wholeway/laws.FnFnAt", spec := "fnFnAt", unfollowed := true, recurses := true, named := ["loop.example/wholeway/impl.keys", "loop.example/wholeway/impl.opSign"], maps := true, apart := false, laid := [("loop.example/wholeway/impl.keys", laid_loop_example_wholeway_impl_keys), ("loop.example/wholeway/impl.opSign", laid_loop_example_wholeway_impl_opSign)] }
def FnFnAtSaid : Prop := fnFnAtRow.holds Tryd.pinned (OpenSpec.ofChange fnFnAtSpec)

/-- ITS FALSE NEIGHBOUR: 'it returns false'. Refute it at one input. -/
def fnFnAtWrong : ChangeSpec := { name := "fnFnAt", vars := ["loop.example/wholeway/impl.keys", "loop.example/wholeway/impl.opSign"], fn := fun _ => fun
  | [d1, d2, g1, g2] => { results := [.lit (.bool false)], args := [d1, d2], vars := [g1, g2] }
  | _ => none }
def FnFnAtWrongFalsely : Prop := fnFnAtRow.holds Tryd.pinned (OpenSpec.ofChange fnFnAtWrong)

/-- 'laws.FnStmtForm': WHATEVER THE INPUT: true; the input reads as it did. -/
def fnStmtFormSpec : ChangeSpec := { name := "fnStmtForm", vars := ["loop.example/wholeway/impl.keys", "loop.example/wholeway/impl.opSign"], fn := fun _ => fun
  | [d, g1, g2] => { results := [.lit (.bool true)], args := [d], vars := [g1, g2] }
  | _ => none }
def fnStmtFormRow : OpenClaim := { program := "ytccfbnhlhjlmgaadoor", sum := "26e7d0fe728a7f41c94acd193d0cfc7b7f59c87d768d6c20b40231293cd0fbb2", func := "loop.example/wholeway/laws.FnStmtForm", spec := "fnStmtForm", unfollowed := true, recurses := true, named := ["loop.example/wholeway/impl.keys", "loop.example/wholeway/impl.opSign"], maps := true, apart := false, laid := [("loop.example/wholeway/impl.keys", laid_loop_example_wholeway_impl_keys), ("loop.example/wholeway/impl.opSign", laid_loop_example_wholeway_impl_opSign)] }
def FnStmtFormSaid : Prop := fnStmtFormRow.holds Tryd.pinned (OpenSpec.ofChange fnStmtFormSpec)

/-- ITS FALSE NEIGHBOUR: 'it returns false'. Refute it at one input. -/
def fnStmtFormWrong : ChangeSpec := { name := "fnStmtForm", vars := ["loop.example/wholeway/impl.keys", "loop.example/wholeway/impl.opSign"], fn := fun _ => fun
  | [d, g1, g2] => { results := [.lit (.bool false)], args := [d], vars := [g1, g2] }
  | _ => none }
def FnStmtFormWrongFalsely : Prop := fnStmtFormRow.holds Tryd.pinned (OpenSpec.ofChange fnStmtFormWrong)

/-- 'laws.FnEval': WHATEVER THE INPUT: true; the input reads as it did. -/
def fnEvalSpec : ChangeSpec := { name := "fnEval", vars := ["loop.example/wholeway/impl.opSign", "loop.example/wholeway/impl.keys"], fn := fun _ => fun
  | [d, g1, g2] => { results := [.lit (.bool true)], args := [d], vars := [g1, g2] }
  | _ => none }
def fnEvalRow : OpenClaim := { program := "ytccfbnhlhjlmgaadoor", sum := "26e7d0fe728a7f41c94acd193d0cfc7b7f59c87d768d6c20b40231293cd0fbb2", func := "loop.example/wholeway/laws.FnEval", spec := "fnEval", unfollowed := true, recurses := true, named := ["loop.example/wholeway/impl.opSign", "loop.example/wholeway/impl.keys"], maps := true, apart := false, laid := [("loop.example/wholeway/impl.keys", laid_loop_example_wholeway_impl_keys), ("loop.example/wholeway/impl.opSign", laid_loop_example_wholeway_impl_opSign)] }
def FnEvalSaid : Prop := fnEvalRow.holds Tryd.pinned (OpenSpec.ofChange fnEvalSpec)

/-- ITS FALSE NEIGHBOUR: 'it returns false'. Refute it at one input. -/
def fnEvalWrong : ChangeSpec := { name := "fnEval", vars := ["loop.example/wholeway/impl.opSign", "loop.example/wholeway/impl.keys"], fn := fun _ => fun
  | [d, g1, g2] => { results := [.lit (.bool false)], args := [d], vars := [g1, g2] }
  | _ => none }
def FnEvalWrongFalsely : Prop := fnEvalRow.holds Tryd.pinned (OpenSpec.ofChange fnEvalWrong)

/-- 'laws.FnStmtCount': WHATEVER THE INPUT: true; the input reads as it did. -/
def fnStmtCountSpec : ChangeSpec := { name := "fnStmtCount", vars := ["loop.example/wholeway/impl.keys", "loop.example/wholeway/impl.opSign"], fn := fun _ => fun
  | [d, g1, g2] => { results := [.lit (.bool true)], args := [d], vars := [g1, g2] }
  | _ => none }
def fnStmtCountRow : OpenClaim := { program := "ytccfbnhlhjlmgaadoor", sum := "26e7d0fe728a7f41c94acd193d0cfc7b7f59c87d768d6c20b40231293cd0fbb2", func := "loop.example/wholeway/laws.FnStmtCount", spec := "fnStmtCount", unfollowed := true, recurses := true, named := ["loop.example/wholeway/impl.keys", "loop.example/wholeway/impl.opSign"], maps := true, apart := false, laid := [("loop.example/wholeway/impl.keys", laid_loop_example_wholeway_impl_keys), ("loop.example/wholeway/impl.opSign", laid_loop_example_wholeway_impl_opSign)] }
def FnStmtCountSaid : Prop := fnStmtCountRow.holds Tryd.pinned (OpenSpec.ofChange fnStmtCountSpec)

/-- ITS FALSE NEIGHBOUR: 'it returns false'. Refute it at one input. -/
def fnStmtCountWrong : ChangeSpec := { name := "fnStmtCount", vars := ["loop.example/wholeway/impl.keys", "loop.example/wholeway/impl.opSign"], fn := fun _ => fun
  | [d, g1, g2] => { results := [.lit (.bool false)], args := [d], vars := [g1, g2] }
  | _ => none }
def FnStmtCountWrongFalsely : Prop := fnStmtCountRow.holds Tryd.pinned (OpenSpec.ofChange fnStmtCountWrong)

/-- 'laws.FnSafe': WHATEVER THE INPUT: true; the input reads as it did. -/
def fnSafeSpec : ChangeSpec := { name := "fnSafe", vars := ["loop.example/wholeway/impl.opSign", "loop.example/wholeway/impl.keys"], fn := fun _ => fun
  | [d, g1, g2] => { results := [.lit (.bool true)], args := [d], vars := [g1, g2] }
  | _ => none }
def fnSafeRow : OpenClaim := { program := "ytccfbnhlhjlmgaadoor", sum := "26e7d0fe728a7f41c94acd193d0cfc7b7f59c87d768d6c20b40231293cd0fbb2", func := "loop.example/wholeway/laws.FnSafe", spec := "fnSafe", unfollowed := true, recurses := true, named := ["loop.example/wholeway/impl.opSign", "loop.example/wholeway/impl.keys"], maps := true, apart := false, laid := [("loop.example/wholeway/impl.keys", laid_loop_example_wholeway_impl_keys), ("loop.example/wholeway/impl.opSign", laid_loop_example_wholeway_impl_opSign)] }
def FnSafeSaid : Prop := fnSafeRow.holds Tryd.pinned (OpenSpec.ofChange fnSafeSpec)

/-- ITS FALSE NEIGHBOUR: 'it returns false'. Refute it at one input. -/
def fnSafeWrong : ChangeSpec := { name := "fnSafe", vars := ["loop.example/wholeway/impl.opSign", "loop.example/wholeway/impl.keys"], fn := fun _ => fun
  | [d, g1, g2] => { results := [.lit (.bool false)], args := [d], vars := [g1, g2] }
  | _ => none }
def FnSafeWrongFalsely : Prop := fnSafeRow.holds Tryd.pinned (OpenSpec.ofChange fnSafeWrong)

/-- 'laws.FnExactEvalExpr': WHATEVER THE INPUT: true; the input reads as it did. -/
def fnExactEvalExprSpec : ChangeSpec := { name := "fnExactEvalExpr", vars := ["loop.example/wholeway/impl.opSign", "loop.example/wholeway/impl.keys"], fn := fun _ => fun
  | [d1, d2, d3, g1, g2] => { results := [.lit (.bool true)], args := [d1, d2, d3], vars := [g1, g2] }
  | _ => none }
def fnExactEvalExprRow : OpenClaim := { program := "ytccfbnhlhjlmgaadoor", sum := "26e7d0fe728a7f41c94acd193d0cfc7b7f59c87d768d6c20b40231293cd0fbb2", func := "loop.example/wholeway/laws.FnExactEvalExpr", spec := "fnExactEvalExpr", unfollowed := true, recurses := true, named := ["loop.example/wholeway/impl.opSign", "loop.example/wholeway/impl.keys"], maps := true, loops := true, apart := false, laid := [("loop.example/wholeway/impl.keys", laid_loop_example_wholeway_impl_keys), ("loop.example/wholeway/impl.opSign", laid_loop_example_wholeway_impl_opSign)] }
def FnExactEvalExprSaid : Prop := fnExactEvalExprRow.holds Tryd.pinned (OpenSpec.ofChange fnExactEvalExprSpec)

/-- ITS FALSE NEIGHBOUR: 'it returns false'. Refute it at one input. -/
def fnExactEvalExprWrong : ChangeSpec := { name := "fnExactEvalExpr", vars := ["loop.example/wholeway/impl.opSign", "loop.example/wholeway/impl.keys"], fn := fun _ => fun
  | [d1, d2, d3, g1, g2] => { results := [.lit (.bool false)], args := [d1, d2, d3], vars := [g1, g2] }
  | _ => none }
def FnExactEvalExprWrongFalsely : Prop := fnExactEvalExprRow.holds Tryd.pinned (OpenSpec.ofChange fnExactEvalExprWrong)

/-- 'laws.FnEvalPut': WHATEVER THE INPUT: true; the input reads as it did. -/
def fnEvalPutSpec : ChangeSpec := { name := "fnEvalPut", vars := ["loop.example/wholeway/impl.opSign", "loop.example/wholeway/impl.keys"], fn := fun _ => fun
  | [d, g1, g2] => { results := [.lit (.bool true)], args := [d], vars := [g1, g2] }
  | _ => none }
def fnEvalPutRow : OpenClaim := { program := "ytccfbnhlhjlmgaadoor", sum := "26e7d0fe728a7f41c94acd193d0cfc7b7f59c87d768d6c20b40231293cd0fbb2", func := "loop.example/wholeway/laws.FnEvalPut", spec := "fnEvalPut", unfollowed := true, recurses := true, named := ["loop.example/wholeway/impl.opSign", "loop.example/wholeway/impl.keys"], maps := true, apart := false, laid := [("loop.example/wholeway/impl.keys", laid_loop_example_wholeway_impl_keys), ("loop.example/wholeway/impl.opSign", laid_loop_example_wholeway_impl_opSign)] }
def FnEvalPutSaid : Prop := fnEvalPutRow.holds Tryd.pinned (OpenSpec.ofChange fnEvalPutSpec)

/-- ITS FALSE NEIGHBOUR: 'it returns false'. Refute it at one input. -/
def fnEvalPutWrong : ChangeSpec := { name := "fnEvalPut", vars := ["loop.example/wholeway/impl.opSign", "loop.example/wholeway/impl.keys"], fn := fun _ => fun
  | [d, g1, g2] => { results := [.lit (.bool false)], args := [d], vars := [g1, g2] }
  | _ => none }
def FnEvalPutWrongFalsely : Prop := fnEvalPutRow.holds Tryd.pinned (OpenSpec.ofChange fnEvalPutWrong)

/-- 'laws.FnFoldSame': WHATEVER THE INPUT: true; the input reads as it did. -/
def fnFoldSameSpec : ChangeSpec := { name := "fnFoldSame", vars := ["loop.example/wholeway/impl.opSign", "loop.example/wholeway/impl.keys"], fn := fun _ => fun
  | [d1, d2, g1, g2] => { results := [.lit (.bool true)], args := [d1, d2], vars := [g1, g2] }
  | _ => none }
def fnFoldSameRow : OpenClaim := { program := "ytccfbnhlhjlmgaadoor", sum := "26e7d0fe728a7f41c94acd193d0cfc7b7f59c87d768d6c20b40231293cd0fbb2", func := "loop.example/wholeway/laws.FnFoldSame", spec := "fnFoldSame", unfollowed := true, recurses := true, named := ["loop.example/wholeway/impl.opSign", "loop.example/wholeway/impl.keys"], maps := true, apart := false, laid := [("loop.example/wholeway/impl.keys", laid_loop_example_wholeway_impl_keys), ("loop.example/wholeway/impl.opSign", laid_loop_example_wholeway_impl_opSign)] }
def FnFoldSameSaid : Prop := fnFoldSameRow.holds Tryd.pinned (OpenSpec.ofChange fnFoldSameSpec)

/-- ITS FALSE NEIGHBOUR: 'it returns false'. Refute it at one input. -/
def fnFoldSameWrong : ChangeSpec := { name := "fnFoldSame", vars := ["loop.example/wholeway/impl.opSign", "loop.example/wholeway/impl.keys"], fn := fun _ => fun
  | [d1, d2, g1, g2] => { results := [.lit (.bool false)], args := [d1, d2], vars := [g1, g2] }
  | _ => none }
def FnFoldSameWrongFalsely : Prop := fnFoldSameRow.holds Tryd.pinned (OpenSpec.ofChange fnFoldSameWrong)

/-- 'laws.FnEvalRuns': WHATEVER THE INPUT: true; the input reads as it did. -/
def fnEvalRunsSpec : ChangeSpec := { name := "fnEvalRuns", vars := ["loop.example/wholeway/impl.opSign", "loop.example/wholeway/impl.keys"], fn := fun _ => fun
  | [d, g1, g2] => { results := [.lit (.bool true)], args := [d], vars := [g1, g2] }
  | _ => none }
def fnEvalRunsRow : OpenClaim := { program := "ytccfbnhlhjlmgaadoor", sum := "26e7d0fe728a7f41c94acd193d0cfc7b7f59c87d768d6c20b40231293cd0fbb2", func := "loop.example/wholeway/laws.FnEvalRuns", spec := "fnEvalRuns", unfollowed := true, recurses := true, named := ["loop.example/wholeway/impl.opSign", "loop.example/wholeway/impl.keys"], maps := true, apart := false, laid := [("loop.example/wholeway/impl.keys", laid_loop_example_wholeway_impl_keys), ("loop.example/wholeway/impl.opSign", laid_loop_example_wholeway_impl_opSign)] }
def FnEvalRunsSaid : Prop := fnEvalRunsRow.holds Tryd.pinned (OpenSpec.ofChange fnEvalRunsSpec)

/-- ITS FALSE NEIGHBOUR: 'it returns false'. Refute it at one input. -/
def fnEvalRunsWrong : ChangeSpec := { name := "fnEvalRuns", vars := ["loop.example/wholeway/impl.opSign", "loop.example/wholeway/impl.keys"], fn := fun _ => fun
  | [d, g1, g2] => { results := [.lit (.bool false)], args := [d], vars := [g1, g2] }
  | _ => none }
def FnEvalRunsWrongFalsely : Prop := fnEvalRunsRow.holds Tryd.pinned (OpenSpec.ofChange fnEvalRunsWrong)

/-- 'laws.FnFoldNumbers': WHATEVER THE INPUT: true; the input reads as it did. -/
def fnFoldNumbersSpec : ChangeSpec := { name := "fnFoldNumbers", vars := ["loop.example/wholeway/impl.opSign", "loop.example/wholeway/impl.keys"], fn := fun _ => fun
  | [d, g1, g2] => { results := [.lit (.bool true)], args := [d], vars := [g1, g2] }
  | _ => none }
def fnFoldNumbersRow : OpenClaim := { program := "ytccfbnhlhjlmgaadoor", sum := "26e7d0fe728a7f41c94acd193d0cfc7b7f59c87d768d6c20b40231293cd0fbb2", func := "loop.example/wholeway/laws.FnFoldNumbers", spec := "fnFoldNumbers", unfollowed := true, recurses := true, named := ["loop.example/wholeway/impl.opSign", "loop.example/wholeway/impl.keys"], maps := true, apart := false, laid := [("loop.example/wholeway/impl.keys", laid_loop_example_wholeway_impl_keys), ("loop.example/wholeway/impl.opSign", laid_loop_example_wholeway_impl_opSign)] }
def FnFoldNumbersSaid : Prop := fnFoldNumbersRow.holds Tryd.pinned (OpenSpec.ofChange fnFoldNumbersSpec)

/-- ITS FALSE NEIGHBOUR: 'it returns false'. Refute it at one input. -/
def fnFoldNumbersWrong : ChangeSpec := { name := "fnFoldNumbers", vars := ["loop.example/wholeway/impl.opSign", "loop.example/wholeway/impl.keys"], fn := fun _ => fun
  | [d, g1, g2] => { results := [.lit (.bool false)], args := [d], vars := [g1, g2] }
  | _ => none }
def FnFoldNumbersWrongFalsely : Prop := fnFoldNumbersRow.holds Tryd.pinned (OpenSpec.ofChange fnFoldNumbersWrong)

/- THE SECOND FORM. 'bulk': how many values and letters a reading holds, each counted each time it is reached (what is shared counts as often as it is met; a slice's spare places count too). A statement '..UptoSaid' is the law's where the arguments, and the package variables that the reading takes, are together of bulk at most 1048576: NARROWER than '..Said'. Prove '..Said' where nothing that the law and all that it calls make is longer than what came in: it says more and counts as full. Else prove '..UptoSaid'. A law counts once. -/
mutual
def uptoBulk {H : Type} : DataW H → Nat
  | .lit (.string bytes) => bytes.length + 1
  | .lit _ => 1
  | .nil => 1
  | .ptr d => uptoBulk d + 1
  | .slice elems spare => uptoBulkAll elems + uptoBulkAll spare + 1
  | .agg parts => uptoBulkAll parts + 1
  | .iface _ d => uptoBulk d + 1
  | .map entries => uptoBulkEntries entries + 1
  | .held _ => 1
def uptoBulkAll {H : Type} : List (DataW H) → Nat
  | [] => 0
  | d :: r => uptoBulk d + uptoBulkAll r
def uptoBulkEntries {H : Type} : List (Lit × DataW H) → Nat
  | [] => 0
  | x :: r => uptoBulkEntry x + uptoBulkEntries r
def uptoBulkEntry {H : Type} : Lit × DataW H → Nat
  | (.string bytes, d) => bytes.length + uptoBulk d + 1
  | (_, d) => uptoBulk d + 1
 end
def uptoSmall : (H : Type) → List (DataW H) → Bool := fun _ ds => decide (uptoBulkAll ds ≤ 1048576)
def OpenSpec.upto (s : _root_.Go.ChangeSpec) : _root_.Go.OpenSpec := { _root_.Go.OpenSpec.ofChange s with cond := some uptoSmall }

/-- 'laws.FnDoIns', WHERE WHAT IT READS IS OF BULK AT MOST 1048576: true; the input reads as it did. -/
def fnDoInsUptoRow : OpenClaim := { program := "ytccfbnhlhjlmgaadoor", sum := "26e7d0fe728a7f41c94acd193d0cfc7b7f59c87d768d6c20b40231293cd0fbb2", func := "loop.example/wholeway/laws.FnDoIns", spec := "fnDoIns", unfollowed := true, recurses := true, named := ["loop.example/wholeway/impl.opSign", "loop.example/wholeway/impl.keys"], maps := true, apart := false, laid := [("loop.example/wholeway/impl.keys", laid_loop_example_wholeway_impl_keys), ("loop.example/wholeway/impl.opSign", laid_loop_example_wholeway_impl_opSign)], narrowed := true }
def FnDoInsUptoSaid : Prop := fnDoInsUptoRow.holds Tryd.pinned (OpenSpec.upto fnDoInsSpec)

/-- 'laws.FnFnAt', WHERE WHAT IT READS IS OF BULK AT MOST 1048576: true; the input reads as it did. -/
def fnFnAtUptoRow : OpenClaim := { program := "ytccfbnhlhjlmgaadoor", sum := "26e7d0fe728a7f41c94acd193d0cfc7b7f59c87d768d6c20b40231293cd0fbb2", func := "loop.example/wholeway/laws.FnFnAt", spec := "fnFnAt", unfollowed := true, recurses := true, named := ["loop.example/wholeway/impl.keys", "loop.example/wholeway/impl.opSign"], maps := true, apart := false, laid := [("loop.example/wholeway/impl.keys", laid_loop_example_wholeway_impl_keys), ("loop.example/wholeway/impl.opSign", laid_loop_example_wholeway_impl_opSign)], narrowed := true }
def FnFnAtUptoSaid : Prop := fnFnAtUptoRow.holds Tryd.pinned (OpenSpec.upto fnFnAtSpec)

/-- 'laws.FnStmtForm', WHERE WHAT IT READS IS OF BULK AT MOST 1048576: true; the input reads as it did. -/
def fnStmtFormUptoRow : OpenClaim := { program := "ytccfbnhlhjlmgaadoor", sum := "26e7d0fe728a7f41c94acd193d0cfc7b7f59c87d768d6c20b40231293cd0fbb2", func := "loop.example/wholeway/laws.FnStmtForm", spec := "fnStmtForm", unfollowed := true, recurses := true, named := ["loop.example/wholeway/impl.keys", "loop.example/wholeway/impl.opSign"], maps := true, apart := false, laid := [("loop.example/wholeway/impl.keys", laid_loop_example_wholeway_impl_keys), ("loop.example/wholeway/impl.opSign", laid_loop_example_wholeway_impl_opSign)], narrowed := true }
def FnStmtFormUptoSaid : Prop := fnStmtFormUptoRow.holds Tryd.pinned (OpenSpec.upto fnStmtFormSpec)

/-- 'laws.FnEval', WHERE WHAT IT READS IS OF BULK AT MOST 1048576: true; the input reads as it did. -/
def fnEvalUptoRow : OpenClaim := { program := "ytccfbnhlhjlmgaadoor", sum := "26e7d0fe728a7f41c94acd193d0cfc7b7f59c87d768d6c20b40231293cd0fbb2", func := "loop.example/wholeway/laws.FnEval", spec := "fnEval", unfollowed := true, recurses := true, named := ["loop.example/wholeway/impl.opSign", "loop.example/wholeway/impl.keys"], maps := true, apart := false, laid := [("loop.example/wholeway/impl.keys", laid_loop_example_wholeway_impl_keys), ("loop.example/wholeway/impl.opSign", laid_loop_example_wholeway_impl_opSign)], narrowed := true }
def FnEvalUptoSaid : Prop := fnEvalUptoRow.holds Tryd.pinned (OpenSpec.upto fnEvalSpec)

/-- 'laws.FnStmtCount', WHERE WHAT IT READS IS OF BULK AT MOST 1048576: true; the input reads as it did. -/
def fnStmtCountUptoRow : OpenClaim := { program := "ytccfbnhlhjlmgaadoor", sum := "26e7d0fe728a7f41c94acd193d0cfc7b7f59c87d768d6c20b40231293cd0fbb2", func := "loop.example/wholeway/laws.FnStmtCount", spec := "fnStmtCount", unfollowed := true, recurses := true, named := ["loop.example/wholeway/impl.keys", "loop.example/wholeway/impl.opSign"], maps := true, apart := false, laid := [("loop.example/wholeway/impl.keys", laid_loop_example_wholeway_impl_keys), ("loop.example/wholeway/impl.opSign", laid_loop_example_wholeway_impl_opSign)], narrowed := true }
def FnStmtCountUptoSaid : Prop := fnStmtCountUptoRow.holds Tryd.pinned (OpenSpec.upto fnStmtCountSpec)

/-- 'laws.FnSafe', WHERE WHAT IT READS IS OF BULK AT MOST 1048576: true; the input reads as it did. -/
def fnSafeUptoRow : OpenClaim := { program := "ytccfbnhlhjlmgaadoor", sum := "26e7d0fe728a7f41c94acd193d0cfc7b7f59c87d768d6c20b40231293cd0fbb2", func := "loop.example/wholeway/laws.FnSafe", spec := "fnSafe", unfollowed := true, recurses := true, named := ["loop.example/wholeway/impl.opSign", "loop.example/wholeway/impl.keys"], maps := true, apart := false, laid := [("loop.example/wholeway/impl.keys", laid_loop_example_wholeway_impl_keys), ("loop.example/wholeway/impl.opSign", laid_loop_example_wholeway_impl_opSign)], narrowed := true }
def FnSafeUptoSaid : Prop := fnSafeUptoRow.holds Tryd.pinned (OpenSpec.upto fnSafeSpec)

/-- 'laws.FnExactEvalExpr', WHERE WHAT IT READS IS OF BULK AT MOST 1048576: true; the input reads as it did. -/
def fnExactEvalExprUptoRow : OpenClaim := { program := "ytccfbnhlhjlmgaadoor", sum := "26e7d0fe728a7f41c94acd193d0cfc7b7f59c87d768d6c20b40231293cd0fbb2", func := "loop.example/wholeway/laws.FnExactEvalExpr", spec := "fnExactEvalExpr", unfollowed := true, recurses := true, named := ["loop.example/wholeway/impl.opSign", "loop.example/wholeway/impl.keys"], maps := true, loops := true, apart := false, laid := [("loop.example/wholeway/impl.keys", laid_loop_example_wholeway_impl_keys), ("loop.example/wholeway/impl.opSign", laid_loop_example_wholeway_impl_opSign)], narrowed := true }
def FnExactEvalExprUptoSaid : Prop := fnExactEvalExprUptoRow.holds Tryd.pinned (OpenSpec.upto fnExactEvalExprSpec)

/-- 'laws.FnEvalPut', WHERE WHAT IT READS IS OF BULK AT MOST 1048576: true; the input reads as it did. -/
def fnEvalPutUptoRow : OpenClaim := { program := "ytccfbnhlhjlmgaadoor", sum := "26e7d0fe728a7f41c94acd193d0cfc7b7f59c87d768d6c20b40231293cd0fbb2", func := "loop.example/wholeway/laws.FnEvalPut", spec := "fnEvalPut", unfollowed := true, recurses := true, named := ["loop.example/wholeway/impl.opSign", "loop.example/wholeway/impl.keys"], maps := true, apart := false, laid := [("loop.example/wholeway/impl.keys", laid_loop_example_wholeway_impl_keys), ("loop.example/wholeway/impl.opSign", laid_loop_example_wholeway_impl_opSign)], narrowed := true }
def FnEvalPutUptoSaid : Prop := fnEvalPutUptoRow.holds Tryd.pinned (OpenSpec.upto fnEvalPutSpec)

/-- 'laws.FnFoldSame', WHERE WHAT IT READS IS OF BULK AT MOST 1048576: true; the input reads as it did. -/
def fnFoldSameUptoRow : OpenClaim := { program := "ytccfbnhlhjlmgaadoor", sum := "26e7d0fe728a7f41c94acd193d0cfc7b7f59c87d768d6c20b40231293cd0fbb2", func := "loop.example/wholeway/laws.FnFoldSame", spec := "fnFoldSame", unfollowed := true, recurses := true, named := ["loop.example/wholeway/impl.opSign", "loop.example/wholeway/impl.keys"], maps := true, apart := false, laid := [("loop.example/wholeway/impl.keys", laid_loop_example_wholeway_impl_keys), ("loop.example/wholeway/impl.opSign", laid_loop_example_wholeway_impl_opSign)], narrowed := true }
def FnFoldSameUptoSaid : Prop := fnFoldSameUptoRow.holds Tryd.pinned (OpenSpec.upto fnFoldSameSpec)

/-- 'laws.FnEvalRuns', WHERE WHAT IT READS IS OF BULK AT MOST 1048576: true; the input reads as it did. -/
def fnEvalRunsUptoRow : OpenClaim := { program := "ytccfbnhlhjlmgaadoor", sum := "26e7d0fe728a7f41c94acd193d0cfc7b7f59c87d768d6c20b40231293cd0fbb2", func := "loop.example/wholeway/laws.FnEvalRuns", spec := "fnEvalRuns", unfollowed := true, recurses := true, named := ["loop.example/wholeway/impl.opSign", "loop.example/wholeway/impl.keys"], maps := true, apart := false, laid := [("loop.example/wholeway/impl.keys", laid_loop_example_wholeway_impl_keys), ("loop.example/wholeway/impl.opSign", laid_loop_example_wholeway_impl_opSign)], narrowed := true }
def FnEvalRunsUptoSaid : Prop := fnEvalRunsUptoRow.holds Tryd.pinned (OpenSpec.upto fnEvalRunsSpec)

/-- 'laws.FnFoldNumbers', WHERE WHAT IT READS IS OF BULK AT MOST 1048576: true; the input reads as it did. -/
def fnFoldNumbersUptoRow : OpenClaim := { program := "ytccfbnhlhjlmgaadoor", sum := "26e7d0fe728a7f41c94acd193d0cfc7b7f59c87d768d6c20b40231293cd0fbb2", func := "loop.example/wholeway/laws.FnFoldNumbers", spec := "fnFoldNumbers", unfollowed := true, recurses := true, named := ["loop.example/wholeway/impl.opSign", "loop.example/wholeway/impl.keys"], maps := true, apart := false, laid := [("loop.example/wholeway/impl.keys", laid_loop_example_wholeway_impl_keys), ("loop.example/wholeway/impl.opSign", laid_loop_example_wholeway_impl_opSign)], narrowed := true }
def FnFoldNumbersUptoSaid : Prop := fnFoldNumbersUptoRow.holds Tryd.pinned (OpenSpec.upto fnFoldNumbersSpec)

end Rows
end Go.Proofs.YtccfbnhlhjlmgaaDoor
