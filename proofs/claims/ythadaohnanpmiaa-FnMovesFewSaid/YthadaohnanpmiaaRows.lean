/-
  No cell of these rows narrows 'for every input' (looked for: loops, veiled, ifaces, maps, wideKeys, modest, calm, conditions, laid).
  DERIVED. THE GIVEN ROWS OF THIS SEAT. 11 by the template 'for every input the law returns true; each argument reads behind the call as it read before'; 0 by the template 'total and deterministic' (their statements: YthadaohnanpmiaaTotals.lean).
  GIVEN WITH THE SEED: the statements are not yours to turn. If you find one false, say at which input.
  Laid BY PROGRAM, IN A SANDBOX (cutbox-rows.mjs): the forced cells as the released guide's own fill.sh prints them over the translation 5b67da6e8ab1c69a… (all of the seat's roots in one cut). By AI agents, Wed Nov 11 2026. No macro, syntax, notation, axiom, sorry.
-/
import Derived.Test.YthadaohnanpmiaaChecked
import GoSem.Claim
import GoSem.ClaimJoined
import GoSem.ClaimMapViews
import Derived.JoinedTies
import Derived.KernelRfl
namespace Go.Proofs.Ythadaohnanpmiaa
/- THE CELL 'sum', in the pinned program and in every row, IS THE sha256 OF THE DUMP (.gsa) THAT YthadaohnanpmiaaProg.lean LOADS. Nothing in Lean hashes anything: it is a label: what it is worth is what the hold of that sum in a sandbox is worth. -/
noncomputable def Try.pinned : Pinned := { name := "ythadaohnanpmiaa", sum := "5b67da6e8ab1c69a578f8895d1b29438f516b3f7eeae005928348341e36119e6", checked := Try.checked }
namespace Rows
def none {H : Type} : Left H := { results := [], args := [] }

/-- 'laws.FnExactColoursUsed': WHATEVER THE INPUT: true; the input reads as it did. -/
def fnExactColoursUsedSpec : ChangeSpec := { name := "fnExactColoursUsed", fn := fun _ => fun
  | [d] => { results := [.lit (.bool true)], args := [d] }
  | _ => none }
def fnExactColoursUsedRow : OpenClaim := { program := "ythadaohnanpmiaa", sum := "5b67da6e8ab1c69a578f8895d1b29438f516b3f7eeae005928348341e36119e6", func := "loop.example/wholeway/laws.FnExactColoursUsed", spec := "fnExactColoursUsed", unfollowed := true, recurses := true, apart := false }
def FnExactColoursUsedSaid : Prop := fnExactColoursUsedRow.holds Try.pinned (OpenSpec.ofChange fnExactColoursUsedSpec)

/-- ITS FALSE NEIGHBOUR: 'it returns false'. Refute it at one input. -/
def fnExactColoursUsedWrong : ChangeSpec := { name := "fnExactColoursUsed", fn := fun _ => fun
  | [d] => { results := [.lit (.bool false)], args := [d] }
  | _ => none }
def FnExactColoursUsedWrongFalsely : Prop := fnExactColoursUsedRow.holds Try.pinned (OpenSpec.ofChange fnExactColoursUsedWrong)

/-- 'laws.FnExactSlotsUsed': WHATEVER THE INPUT: true; the input reads as it did. -/
def fnExactSlotsUsedSpec : ChangeSpec := { name := "fnExactSlotsUsed", fn := fun _ => fun
  | [d] => { results := [.lit (.bool true)], args := [d] }
  | _ => none }
def fnExactSlotsUsedRow : OpenClaim := { program := "ythadaohnanpmiaa", sum := "5b67da6e8ab1c69a578f8895d1b29438f516b3f7eeae005928348341e36119e6", func := "loop.example/wholeway/laws.FnExactSlotsUsed", spec := "fnExactSlotsUsed", unfollowed := true, recurses := true, apart := false }
def FnExactSlotsUsedSaid : Prop := fnExactSlotsUsedRow.holds Try.pinned (OpenSpec.ofChange fnExactSlotsUsedSpec)

/-- ITS FALSE NEIGHBOUR: 'it returns false'. Refute it at one input. -/
def fnExactSlotsUsedWrong : ChangeSpec := { name := "fnExactSlotsUsed", fn := fun _ => fun
  | [d] => { results := [.lit (.bool false)], args := [d] }
  | _ => none }
def FnExactSlotsUsedWrongFalsely : Prop := fnExactSlotsUsedRow.holds Try.pinned (OpenSpec.ofChange fnExactSlotsUsedWrong)

/-- 'laws.FnColoursUsed': WHATEVER THE INPUT: true; the input reads as it did. -/
def fnColoursUsedSpec : ChangeSpec := { name := "fnColoursUsed", fn := fun _ => fun
  | [d1, d2] => { results := [.lit (.bool true)], args := [d1, d2] }
  | _ => none }
def fnColoursUsedRow : OpenClaim := { program := "ythadaohnanpmiaa", sum := "5b67da6e8ab1c69a578f8895d1b29438f516b3f7eeae005928348341e36119e6", func := "loop.example/wholeway/laws.FnColoursUsed", spec := "fnColoursUsed", unfollowed := true, recurses := true, apart := false }
def FnColoursUsedSaid : Prop := fnColoursUsedRow.holds Try.pinned (OpenSpec.ofChange fnColoursUsedSpec)

/-- ITS FALSE NEIGHBOUR: 'it returns false'. Refute it at one input. -/
def fnColoursUsedWrong : ChangeSpec := { name := "fnColoursUsed", fn := fun _ => fun
  | [d1, d2] => { results := [.lit (.bool false)], args := [d1, d2] }
  | _ => none }
def FnColoursUsedWrongFalsely : Prop := fnColoursUsedRow.holds Try.pinned (OpenSpec.ofChange fnColoursUsedWrong)

/-- 'laws.FnDoMoves': WHATEVER THE INPUT: true; the input reads as it did. -/
def fnDoMovesSpec : ChangeSpec := { name := "fnDoMoves", fn := fun _ => fun
  | [d] => { results := [.lit (.bool true)], args := [d] }
  | _ => none }
def fnDoMovesRow : OpenClaim := { program := "ythadaohnanpmiaa", sum := "5b67da6e8ab1c69a578f8895d1b29438f516b3f7eeae005928348341e36119e6", func := "loop.example/wholeway/laws.FnDoMoves", spec := "fnDoMoves", unfollowed := true, recurses := true, apart := false }
def FnDoMovesSaid : Prop := fnDoMovesRow.holds Try.pinned (OpenSpec.ofChange fnDoMovesSpec)

/-- ITS FALSE NEIGHBOUR: 'it returns false'. Refute it at one input. -/
def fnDoMovesWrong : ChangeSpec := { name := "fnDoMoves", fn := fun _ => fun
  | [d] => { results := [.lit (.bool false)], args := [d] }
  | _ => none }
def FnDoMovesWrongFalsely : Prop := fnDoMovesRow.holds Try.pinned (OpenSpec.ofChange fnDoMovesWrong)

/-- 'laws.FnExactDoMoves': WHATEVER THE INPUT: true; the input reads as it did. -/
def fnExactDoMovesSpec : ChangeSpec := { name := "fnExactDoMoves", fn := fun _ => fun
  | [d1, d2] => { results := [.lit (.bool true)], args := [d1, d2] }
  | _ => none }
def fnExactDoMovesRow : OpenClaim := { program := "ythadaohnanpmiaa", sum := "5b67da6e8ab1c69a578f8895d1b29438f516b3f7eeae005928348341e36119e6", func := "loop.example/wholeway/laws.FnExactDoMoves", spec := "fnExactDoMoves", unfollowed := true, recurses := true, apart := false }
def FnExactDoMovesSaid : Prop := fnExactDoMovesRow.holds Try.pinned (OpenSpec.ofChange fnExactDoMovesSpec)

/-- ITS FALSE NEIGHBOUR: 'it returns false'. Refute it at one input. -/
def fnExactDoMovesWrong : ChangeSpec := { name := "fnExactDoMoves", fn := fun _ => fun
  | [d1, d2] => { results := [.lit (.bool false)], args := [d1, d2] }
  | _ => none }
def FnExactDoMovesWrongFalsely : Prop := fnExactDoMovesRow.holds Try.pinned (OpenSpec.ofChange fnExactDoMovesWrong)

/-- 'laws.FnAtOnce': WHATEVER THE INPUT: true; the input reads as it did. -/
def fnAtOnceSpec : ChangeSpec := { name := "fnAtOnce", fn := fun _ => fun
  | [d] => { results := [.lit (.bool true)], args := [d] }
  | _ => none }
def fnAtOnceRow : OpenClaim := { program := "ythadaohnanpmiaa", sum := "5b67da6e8ab1c69a578f8895d1b29438f516b3f7eeae005928348341e36119e6", func := "loop.example/wholeway/laws.FnAtOnce", spec := "fnAtOnce", unfollowed := true, recurses := true, apart := false }
def FnAtOnceSaid : Prop := fnAtOnceRow.holds Try.pinned (OpenSpec.ofChange fnAtOnceSpec)

/-- ITS FALSE NEIGHBOUR: 'it returns false'. Refute it at one input. -/
def fnAtOnceWrong : ChangeSpec := { name := "fnAtOnce", fn := fun _ => fun
  | [d] => { results := [.lit (.bool false)], args := [d] }
  | _ => none }
def FnAtOnceWrongFalsely : Prop := fnAtOnceRow.holds Try.pinned (OpenSpec.ofChange fnAtOnceWrong)

/-- 'laws.FnExactDoAtOnce': WHATEVER THE INPUT: true; the input reads as it did. -/
def fnExactDoAtOnceSpec : ChangeSpec := { name := "fnExactDoAtOnce", fn := fun _ => fun
  | [d1, d2] => { results := [.lit (.bool true)], args := [d1, d2] }
  | _ => none }
def fnExactDoAtOnceRow : OpenClaim := { program := "ythadaohnanpmiaa", sum := "5b67da6e8ab1c69a578f8895d1b29438f516b3f7eeae005928348341e36119e6", func := "loop.example/wholeway/laws.FnExactDoAtOnce", spec := "fnExactDoAtOnce", unfollowed := true, recurses := true, apart := false }
def FnExactDoAtOnceSaid : Prop := fnExactDoAtOnceRow.holds Try.pinned (OpenSpec.ofChange fnExactDoAtOnceSpec)

/-- ITS FALSE NEIGHBOUR: 'it returns false'. Refute it at one input. -/
def fnExactDoAtOnceWrong : ChangeSpec := { name := "fnExactDoAtOnce", fn := fun _ => fun
  | [d1, d2] => { results := [.lit (.bool false)], args := [d1, d2] }
  | _ => none }
def FnExactDoAtOnceWrongFalsely : Prop := fnExactDoAtOnceRow.holds Try.pinned (OpenSpec.ofChange fnExactDoAtOnceWrong)

/-- 'laws.FnExactMovesNeeded': WHATEVER THE INPUT: true; the input reads as it did. -/
def fnExactMovesNeededSpec : ChangeSpec := { name := "fnExactMovesNeeded", fn := fun _ => fun
  | [d] => { results := [.lit (.bool true)], args := [d] }
  | _ => none }
def fnExactMovesNeededRow : OpenClaim := { program := "ythadaohnanpmiaa", sum := "5b67da6e8ab1c69a578f8895d1b29438f516b3f7eeae005928348341e36119e6", func := "loop.example/wholeway/laws.FnExactMovesNeeded", spec := "fnExactMovesNeeded", unfollowed := true, recurses := true, apart := false }
def FnExactMovesNeededSaid : Prop := fnExactMovesNeededRow.holds Try.pinned (OpenSpec.ofChange fnExactMovesNeededSpec)

/-- ITS FALSE NEIGHBOUR: 'it returns false'. Refute it at one input. -/
def fnExactMovesNeededWrong : ChangeSpec := { name := "fnExactMovesNeeded", fn := fun _ => fun
  | [d] => { results := [.lit (.bool false)], args := [d] }
  | _ => none }
def FnExactMovesNeededWrongFalsely : Prop := fnExactMovesNeededRow.holds Try.pinned (OpenSpec.ofChange fnExactMovesNeededWrong)

/-- 'laws.FnMovesFew': WHATEVER THE INPUT: true; the input reads as it did. -/
def fnMovesFewSpec : ChangeSpec := { name := "fnMovesFew", fn := fun _ => fun
  | [d] => { results := [.lit (.bool true)], args := [d] }
  | _ => none }
def fnMovesFewRow : OpenClaim := { program := "ythadaohnanpmiaa", sum := "5b67da6e8ab1c69a578f8895d1b29438f516b3f7eeae005928348341e36119e6", func := "loop.example/wholeway/laws.FnMovesFew", spec := "fnMovesFew", unfollowed := true, recurses := true, apart := false }
def FnMovesFewSaid : Prop := fnMovesFewRow.holds Try.pinned (OpenSpec.ofChange fnMovesFewSpec)

/-- ITS FALSE NEIGHBOUR: 'it returns false'. Refute it at one input. -/
def fnMovesFewWrong : ChangeSpec := { name := "fnMovesFew", fn := fun _ => fun
  | [d] => { results := [.lit (.bool false)], args := [d] }
  | _ => none }
def FnMovesFewWrongFalsely : Prop := fnMovesFewRow.holds Try.pinned (OpenSpec.ofChange fnMovesFewWrong)

/-- 'laws.FnExactOrderMoves': WHATEVER THE INPUT: true; the input reads as it did. -/
def fnExactOrderMovesSpec : ChangeSpec := { name := "fnExactOrderMoves", fn := fun _ => fun
  | [d1, d2] => { results := [.lit (.bool true)], args := [d1, d2] }
  | _ => none }
def fnExactOrderMovesRow : OpenClaim := { program := "ythadaohnanpmiaa", sum := "5b67da6e8ab1c69a578f8895d1b29438f516b3f7eeae005928348341e36119e6", func := "loop.example/wholeway/laws.FnExactOrderMoves", spec := "fnExactOrderMoves", unfollowed := true, recurses := true, apart := false }
def FnExactOrderMovesSaid : Prop := fnExactOrderMovesRow.holds Try.pinned (OpenSpec.ofChange fnExactOrderMovesSpec)

/-- ITS FALSE NEIGHBOUR: 'it returns false'. Refute it at one input. -/
def fnExactOrderMovesWrong : ChangeSpec := { name := "fnExactOrderMoves", fn := fun _ => fun
  | [d1, d2] => { results := [.lit (.bool false)], args := [d1, d2] }
  | _ => none }
def FnExactOrderMovesWrongFalsely : Prop := fnExactOrderMovesRow.holds Try.pinned (OpenSpec.ofChange fnExactOrderMovesWrong)

/-- 'laws.FnOrderMoves': WHATEVER THE INPUT: true; the input reads as it did. -/
def fnOrderMovesSpec : ChangeSpec := { name := "fnOrderMoves", fn := fun _ => fun
  | [d] => { results := [.lit (.bool true)], args := [d] }
  | _ => none }
def fnOrderMovesRow : OpenClaim := { program := "ythadaohnanpmiaa", sum := "5b67da6e8ab1c69a578f8895d1b29438f516b3f7eeae005928348341e36119e6", func := "loop.example/wholeway/laws.FnOrderMoves", spec := "fnOrderMoves", unfollowed := true, recurses := true, apart := false }
def FnOrderMovesSaid : Prop := fnOrderMovesRow.holds Try.pinned (OpenSpec.ofChange fnOrderMovesSpec)

/-- ITS FALSE NEIGHBOUR: 'it returns false'. Refute it at one input. -/
def fnOrderMovesWrong : ChangeSpec := { name := "fnOrderMoves", fn := fun _ => fun
  | [d] => { results := [.lit (.bool false)], args := [d] }
  | _ => none }
def FnOrderMovesWrongFalsely : Prop := fnOrderMovesRow.holds Try.pinned (OpenSpec.ofChange fnOrderMovesWrong)

/- THE SECOND FORM. 'bulk': how many values and letters a reading holds, each counted each time it is reached (what is shared counts as often as it is met; a slice's spare places count too). A statement '..UptoSaid' is the law's where the arguments, and the package variables that the reading takes, are together of bulk at most 1048576: NARROWER than '..Said'. Prove '..Said' where nothing that the law and all that it calls make is longer than what came in: it says more and counts as full. Else prove '..UptoSaid'. A law counts once. -/
mutual
def uptoBulk {H : Type} : DataW H → Nat
  | .lit (.string bytes) => bytes.length + 1
  | .lit _ => 1
  | .nil => 1
  | .ptr d => uptoBulk d + 1
  | .slice elems spare => uptoBulkAll elems + uptoBulkAll spare + 1
  | .agg parts => uptoBulkAll parts + 1
  | .iface _ d => uptoBulk d + 1
  | .map entries => uptoBulkEntries entries + 1
  | .held _ => 1
def uptoBulkAll {H : Type} : List (DataW H) → Nat
  | [] => 0
  | d :: r => uptoBulk d + uptoBulkAll r
def uptoBulkEntries {H : Type} : List (Lit × DataW H) → Nat
  | [] => 0
  | x :: r => uptoBulkEntry x + uptoBulkEntries r
def uptoBulkEntry {H : Type} : Lit × DataW H → Nat
  | (.string bytes, d) => bytes.length + uptoBulk d + 1
  | (_, d) => uptoBulk d + 1
 end
def uptoSmall : (H : Type) → List (DataW H) → Bool := fun _ ds => decide (uptoBulkAll ds ≤ 1048576)
def OpenSpec.upto (s : _root_.Go.ChangeSpec) : _root_.Go.OpenSpec := { _root_.Go.OpenSpec.ofChange s with cond := some uptoSmall }

/-- 'laws.FnExactColoursUsed', WHERE WHAT IT READS IS OF BULK AT MOST 1048576: true; the input reads as it did. -/
def fnExactColoursUsedUptoRow : OpenClaim := { program := "ythadaohnanpmiaa", sum := "5b67da6e8ab1c69a578f8895d1b29438f516b3f7eeae005928348341e36119e6", func := "loop.example/wholeway/laws.FnExactColoursUsed", spec := "fnExactColoursUsed", unfollowed := true, recurses := true, apart := false, narrowed := true }
def FnExactColoursUsedUptoSaid : Prop := fnExactColoursUsedUptoRow.holds Try.pinned (OpenSpec.upto fnExactColoursUsedSpec)

/-- 'laws.FnExactSlotsUsed', WHERE WHAT IT READS IS OF BULK AT MOST 1048576: true; the input reads as it did. -/
def fnExactSlotsUsedUptoRow : OpenClaim := { program := "ythadaohnanpmiaa", sum := "5b67da6e8ab1c69a578f8895d1b29438f516b3f7eeae005928348341e36119e6", func := "loop.example/wholeway/laws.FnExactSlotsUsed", spec := "fnExactSlotsUsed", unfollowed := true, recurses := true, apart := false, narrowed := true }
def FnExactSlotsUsedUptoSaid : Prop := fnExactSlotsUsedUptoRow.holds Try.pinned (OpenSpec.upto fnExactSlotsUsedSpec)

/-- 'laws.FnColoursUsed', WHERE WHAT IT READS IS OF BULK AT MOST 1048576: true; the input reads as it did. -/
def fnColoursUsedUptoRow : OpenClaim := { program := "ythadaohnanpmiaa", sum := "5b67da6e8ab1c69a578f8895d1b29438f516b3f7eeae005928348341e36119e6", func := "loop.example/wholeway/laws.FnColoursUsed", spec := "fnColoursUsed", unfollowed := true, recurses := true, apart := false, narrowed := true }
def FnColoursUsedUptoSaid : Prop := fnColoursUsedUptoRow.holds Try.pinned (OpenSpec.upto fnColoursUsedSpec)

/-- 'laws.FnDoMoves', WHERE WHAT IT READS IS OF BULK AT MOST 1048576: true; the input reads as it did. -/
def fnDoMovesUptoRow : OpenClaim := { program := "ythadaohnanpmiaa", sum := "5b67da6e8ab1c69a578f8895d1b29438f516b3f7eeae005928348341e36119e6", func := "loop.example/wholeway/laws.FnDoMoves", spec := "fnDoMoves", unfollowed := true, recurses := true, apart := false, narrowed := true }
def FnDoMovesUptoSaid : Prop := fnDoMovesUptoRow.holds Try.pinned (OpenSpec.upto fnDoMovesSpec)

/-- 'laws.FnExactDoMoves', WHERE WHAT IT READS IS OF BULK AT MOST 1048576: true; the input reads as it did. -/
def fnExactDoMovesUptoRow : OpenClaim := { program := "ythadaohnanpmiaa", sum := "5b67da6e8ab1c69a578f8895d1b29438f516b3f7eeae005928348341e36119e6", func := "loop.example/wholeway/laws.FnExactDoMoves", spec := "fnExactDoMoves", unfollowed := true, recurses := true, apart := false, narrowed := true }
def FnExactDoMovesUptoSaid : Prop := fnExactDoMovesUptoRow.holds Try.pinned (OpenSpec.upto fnExactDoMovesSpec)

/-- 'laws.FnAtOnce', WHERE WHAT IT READS IS OF BULK AT MOST 1048576: true; the input reads as it did. -/
def fnAtOnceUptoRow : OpenClaim := { program := "ythadaohnanpmiaa", sum := "5b67da6e8ab1c69a578f8895d1b29438f516b3f7eeae005928348341e36119e6", func := "loop.example/wholeway/laws.FnAtOnce", spec := "fnAtOnce", unfollowed := true, recurses := true, apart := false, narrowed := true }
def FnAtOnceUptoSaid : Prop := fnAtOnceUptoRow.holds Try.pinned (OpenSpec.upto fnAtOnceSpec)

/-- 'laws.FnExactDoAtOnce', WHERE WHAT IT READS IS OF BULK AT MOST 1048576: true; the input reads as it did. -/
def fnExactDoAtOnceUptoRow : OpenClaim := { program := "ythadaohnanpmiaa", sum := "5b67da6e8ab1c69a578f8895d1b29438f516b3f7eeae005928348341e36119e6", func := "loop.example/wholeway/laws.FnExactDoAtOnce", spec := "fnExactDoAtOnce", unfollowed := true, recurses := true, apart := false, narrowed := true }
def FnExactDoAtOnceUptoSaid : Prop := fnExactDoAtOnceUptoRow.holds Try.pinned (OpenSpec.upto fnExactDoAtOnceSpec)

/-- 'laws.FnExactMovesNeeded', WHERE WHAT IT READS IS OF BULK AT MOST 1048576: true; the input reads as it did. -/
def fnExactMovesNeededUptoRow : OpenClaim := { program := "ythadaohnanpmiaa", sum := "5b67da6e8ab1c69a578f8895d1b29438f516b3f7eeae005928348341e36119e6", func := "loop.example/wholeway/laws.FnExactMovesNeeded", spec := "fnExactMovesNeeded", unfollowed := true, recurses := true, apart := false, narrowed := true }
def FnExactMovesNeededUptoSaid : Prop := fnExactMovesNeededUptoRow.holds Try.pinned (OpenSpec.upto fnExactMovesNeededSpec)

/-- 'laws.FnMovesFew', WHERE WHAT IT READS IS OF BULK AT MOST 1048576: true; the input reads as it did. -/
def fnMovesFewUptoRow : OpenClaim := { program := "ythadaohnanpmiaa", sum := "5b67da6e8ab1c69a578f8895d1b29438f516b3f7eeae005928348341e36119e6", func := "loop.example/wholeway/laws.FnMovesFew", spec := "fnMovesFew", unfollowed := true, recurses := true, apart := false, narrowed := true }
def FnMovesFewUptoSaid : Prop := fnMovesFewUptoRow.holds Try.pinned (OpenSpec.upto fnMovesFewSpec)

/-- 'laws.FnExactOrderMoves', WHERE WHAT IT READS IS OF BULK AT MOST 1048576: true; the input reads as it did. -/
def fnExactOrderMovesUptoRow : OpenClaim := { program := "ythadaohnanpmiaa", sum := "5b67da6e8ab1c69a578f8895d1b29438f516b3f7eeae005928348341e36119e6", func := "loop.example/wholeway/laws.FnExactOrderMoves", spec := "fnExactOrderMoves", unfollowed := true, recurses := true, apart := false, narrowed := true }
def FnExactOrderMovesUptoSaid : Prop := fnExactOrderMovesUptoRow.holds Try.pinned (OpenSpec.upto fnExactOrderMovesSpec)

/-- 'laws.FnOrderMoves', WHERE WHAT IT READS IS OF BULK AT MOST 1048576: true; the input reads as it did. -/
def fnOrderMovesUptoRow : OpenClaim := { program := "ythadaohnanpmiaa", sum := "5b67da6e8ab1c69a578f8895d1b29438f516b3f7eeae005928348341e36119e6", func := "loop.example/wholeway/laws.FnOrderMoves", spec := "fnOrderMoves", unfollowed := true, recurses := true, apart := false, narrowed := true }
def FnOrderMovesUptoSaid : Prop := fnOrderMovesUptoRow.holds Try.pinned (OpenSpec.upto fnOrderMovesSpec)

end Rows
end Go.Proofs.Ythadaohnanpmiaa
