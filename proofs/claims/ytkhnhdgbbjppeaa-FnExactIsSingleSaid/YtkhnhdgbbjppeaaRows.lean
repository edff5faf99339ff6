/-
  No cell of these rows narrows 'for every input' (looked for: loops, veiled, ifaces, maps, wideKeys, modest, calm, conditions, laid).
  DERIVED. THE GIVEN ROWS OF THIS SEAT. 12 by the template 'for every input the law returns true; each argument reads behind the call as it read before'; 0 by the template 'total and deterministic' (their statements: YtkhnhdgbbjppeaaTotals.lean).
  GIVEN WITH THE SEED: the statements are not yours to turn. If you find one false, say at which input.
  Laid BY PROGRAM, IN A SANDBOX (cutbox-rows.mjs): the forced cells as the released guide's own fill.sh prints them over the translation 2e6d78fbec1fb1f1… (all of the seat's roots in one cut). By AI agents, Wed Nov 11 2026. No macro, syntax, notation, axiom, sorry.
-/
import Derived.Test.YtkhnhdgbbjppeaaChecked
import GoSem.Claim
import GoSem.ClaimJoined
import GoSem.ClaimMapViews
import Derived.JoinedTies
import Derived.KernelRfl
namespace Go.Proofs.Ytkhnhdgbbjppeaa
/- THE CELL 'sum', in the pinned program and in every row, IS THE sha256 OF THE DUMP (.gsa) THAT YtkhnhdgbbjppeaaProg.lean LOADS. Nothing in Lean hashes anything: it is a label: what it is worth is what the hold of that sum in a sandbox is worth. -/
noncomputable def Try.pinned : Pinned := { name := "ytkhnhdgbbjppeaa", sum := "2e6d78fbec1fb1f1093f32bc02923822872a0ca6f6e2d33305fb4662353e742d", checked := Try.checked }
namespace Rows
def none {H : Type} : Left H := { results := [], args := [] }

/-- 'laws.FnExactUsesIn': WHATEVER THE INPUT: true; the input reads as it did. -/
def fnExactUsesInSpec : ChangeSpec := { name := "fnExactUsesIn", fn := fun _ => fun
  | [d1, d2, d3] => { results := [.lit (.bool true)], args := [d1, d2, d3] }
  | _ => none }
def fnExactUsesInRow : OpenClaim := { program := "ytkhnhdgbbjppeaa", sum := "2e6d78fbec1fb1f1093f32bc02923822872a0ca6f6e2d33305fb4662353e742d", func := "loop.example/wholeway/laws.FnExactUsesIn", spec := "fnExactUsesIn", unfollowed := true, recurses := true, apart := false }
def FnExactUsesInSaid : Prop := fnExactUsesInRow.holds Try.pinned (OpenSpec.ofChange fnExactUsesInSpec)

/-- ITS FALSE NEIGHBOUR: 'it returns false'. Refute it at one input. -/
def fnExactUsesInWrong : ChangeSpec := { name := "fnExactUsesIn", fn := fun _ => fun
  | [d1, d2, d3] => { results := [.lit (.bool false)], args := [d1, d2, d3] }
  | _ => none }
def FnExactUsesInWrongFalsely : Prop := fnExactUsesInRow.holds Try.pinned (OpenSpec.ofChange fnExactUsesInWrong)

/-- 'laws.FnExactCallPlaces': WHATEVER THE INPUT: true; the input reads as it did. -/
def fnExactCallPlacesSpec : ChangeSpec := { name := "fnExactCallPlaces", fn := fun _ => fun
  | [d1, d2] => { results := [.lit (.bool true)], args := [d1, d2] }
  | _ => none }
def fnExactCallPlacesRow : OpenClaim := { program := "ytkhnhdgbbjppeaa", sum := "2e6d78fbec1fb1f1093f32bc02923822872a0ca6f6e2d33305fb4662353e742d", func := "loop.example/wholeway/laws.FnExactCallPlaces", spec := "fnExactCallPlaces", unfollowed := true, recurses := true, apart := false }
def FnExactCallPlacesSaid : Prop := fnExactCallPlacesRow.holds Try.pinned (OpenSpec.ofChange fnExactCallPlacesSpec)

/-- ITS FALSE NEIGHBOUR: 'it returns false'. Refute it at one input. -/
def fnExactCallPlacesWrong : ChangeSpec := { name := "fnExactCallPlaces", fn := fun _ => fun
  | [d1, d2] => { results := [.lit (.bool false)], args := [d1, d2] }
  | _ => none }
def FnExactCallPlacesWrongFalsely : Prop := fnExactCallPlacesRow.holds Try.pinned (OpenSpec.ofChange fnExactCallPlacesWrong)

/-- 'laws.FnExactPlacesOf': WHATEVER THE INPUT: true; the input reads as it did. -/
def fnExactPlacesOfSpec : ChangeSpec := { name := "fnExactPlacesOf", fn := fun _ => fun
  | [d1, d2, d3] => { results := [.lit (.bool true)], args := [d1, d2, d3] }
  | _ => none }
def fnExactPlacesOfRow : OpenClaim := { program := "ytkhnhdgbbjppeaa", sum := "2e6d78fbec1fb1f1093f32bc02923822872a0ca6f6e2d33305fb4662353e742d", func := "loop.example/wholeway/laws.FnExactPlacesOf", spec := "fnExactPlacesOf", unfollowed := true, recurses := true, apart := false }
def FnExactPlacesOfSaid : Prop := fnExactPlacesOfRow.holds Try.pinned (OpenSpec.ofChange fnExactPlacesOfSpec)

/-- ITS FALSE NEIGHBOUR: 'it returns false'. Refute it at one input. -/
def fnExactPlacesOfWrong : ChangeSpec := { name := "fnExactPlacesOf", fn := fun _ => fun
  | [d1, d2, d3] => { results := [.lit (.bool false)], args := [d1, d2, d3] }
  | _ => none }
def FnExactPlacesOfWrongFalsely : Prop := fnExactPlacesOfRow.holds Try.pinned (OpenSpec.ofChange fnExactPlacesOfWrong)

/-- 'laws.FnExactUnusedRegs': WHATEVER THE INPUT: true; the input reads as it did. -/
def fnExactUnusedRegsSpec : ChangeSpec := { name := "fnExactUnusedRegs", fn := fun _ => fun
  | [d1, d2] => { results := [.lit (.bool true)], args := [d1, d2] }
  | _ => none }
def fnExactUnusedRegsRow : OpenClaim := { program := "ytkhnhdgbbjppeaa", sum := "2e6d78fbec1fb1f1093f32bc02923822872a0ca6f6e2d33305fb4662353e742d", func := "loop.example/wholeway/laws.FnExactUnusedRegs", spec := "fnExactUnusedRegs", unfollowed := true, recurses := true, apart := false }
def FnExactUnusedRegsSaid : Prop := fnExactUnusedRegsRow.holds Try.pinned (OpenSpec.ofChange fnExactUnusedRegsSpec)

/-- ITS FALSE NEIGHBOUR: 'it returns false'. Refute it at one input. -/
def fnExactUnusedRegsWrong : ChangeSpec := { name := "fnExactUnusedRegs", fn := fun _ => fun
  | [d1, d2] => { results := [.lit (.bool false)], args := [d1, d2] }
  | _ => none }
def FnExactUnusedRegsWrongFalsely : Prop := fnExactUnusedRegsRow.holds Try.pinned (OpenSpec.ofChange fnExactUnusedRegsWrong)

/-- 'laws.FnExactHasSharp': WHATEVER THE INPUT: true; the input reads as it did. -/
def fnExactHasSharpSpec : ChangeSpec := { name := "fnExactHasSharp", fn := fun _ => fun
  | [d] => { results := [.lit (.bool true)], args := [d] }
  | _ => none }
def fnExactHasSharpRow : OpenClaim := { program := "ytkhnhdgbbjppeaa", sum := "2e6d78fbec1fb1f1093f32bc02923822872a0ca6f6e2d33305fb4662353e742d", func := "loop.example/wholeway/laws.FnExactHasSharp", spec := "fnExactHasSharp", unfollowed := true, recurses := true, apart := false }
def FnExactHasSharpSaid : Prop := fnExactHasSharpRow.holds Try.pinned (OpenSpec.ofChange fnExactHasSharpSpec)

/-- ITS FALSE NEIGHBOUR: 'it returns false'. Refute it at one input. -/
def fnExactHasSharpWrong : ChangeSpec := { name := "fnExactHasSharp", fn := fun _ => fun
  | [d] => { results := [.lit (.bool false)], args := [d] }
  | _ => none }
def FnExactHasSharpWrongFalsely : Prop := fnExactHasSharpRow.holds Try.pinned (OpenSpec.ofChange fnExactHasSharpWrong)

/-- 'laws.FnExactIsSingle': WHATEVER THE INPUT: true; the input reads as it did. -/
def fnExactIsSingleSpec : ChangeSpec := { name := "fnExactIsSingle", fn := fun _ => fun
  | [d] => { results := [.lit (.bool true)], args := [d] }
  | _ => none }
def fnExactIsSingleRow : OpenClaim := { program := "ytkhnhdgbbjppeaa", sum := "2e6d78fbec1fb1f1093f32bc02923822872a0ca6f6e2d33305fb4662353e742d", func := "loop.example/wholeway/laws.FnExactIsSingle", spec := "fnExactIsSingle", unfollowed := true, recurses := true, apart := false }
def FnExactIsSingleSaid : Prop := fnExactIsSingleRow.holds Try.pinned (OpenSpec.ofChange fnExactIsSingleSpec)

/-- ITS FALSE NEIGHBOUR: 'it returns false'. Refute it at one input. -/
def fnExactIsSingleWrong : ChangeSpec := { name := "fnExactIsSingle", fn := fun _ => fun
  | [d] => { results := [.lit (.bool false)], args := [d] }
  | _ => none }
def FnExactIsSingleWrongFalsely : Prop := fnExactIsSingleRow.holds Try.pinned (OpenSpec.ofChange fnExactIsSingleWrong)

/-- 'laws.FnExactReachedIn': WHATEVER THE INPUT: true; the input reads as it did. -/
def fnExactReachedInSpec : ChangeSpec := { name := "fnExactReachedIn", fn := fun _ => fun
  | [d] => { results := [.lit (.bool true)], args := [d] }
  | _ => none }
def fnExactReachedInRow : OpenClaim := { program := "ytkhnhdgbbjppeaa", sum := "2e6d78fbec1fb1f1093f32bc02923822872a0ca6f6e2d33305fb4662353e742d", func := "loop.example/wholeway/laws.FnExactReachedIn", spec := "fnExactReachedIn", unfollowed := true, recurses := true, apart := false }
def FnExactReachedInSaid : Prop := fnExactReachedInRow.holds Try.pinned (OpenSpec.ofChange fnExactReachedInSpec)

/-- ITS FALSE NEIGHBOUR: 'it returns false'. Refute it at one input. -/
def fnExactReachedInWrong : ChangeSpec := { name := "fnExactReachedIn", fn := fun _ => fun
  | [d] => { results := [.lit (.bool false)], args := [d] }
  | _ => none }
def FnExactReachedInWrongFalsely : Prop := fnExactReachedInRow.holds Try.pinned (OpenSpec.ofChange fnExactReachedInWrong)

/-- 'laws.FnExactIsTame': WHATEVER THE INPUT: true; the input reads as it did. -/
def fnExactIsTameSpec : ChangeSpec := { name := "fnExactIsTame", fn := fun _ => fun
  | [d] => { results := [.lit (.bool true)], args := [d] }
  | _ => none }
def fnExactIsTameRow : OpenClaim := { program := "ytkhnhdgbbjppeaa", sum := "2e6d78fbec1fb1f1093f32bc02923822872a0ca6f6e2d33305fb4662353e742d", func := "loop.example/wholeway/laws.FnExactIsTame", spec := "fnExactIsTame", unfollowed := true, recurses := true, apart := false }
def FnExactIsTameSaid : Prop := fnExactIsTameRow.holds Try.pinned (OpenSpec.ofChange fnExactIsTameSpec)

/-- ITS FALSE NEIGHBOUR: 'it returns false'. Refute it at one input. -/
def fnExactIsTameWrong : ChangeSpec := { name := "fnExactIsTame", fn := fun _ => fun
  | [d] => { results := [.lit (.bool false)], args := [d] }
  | _ => none }
def FnExactIsTameWrongFalsely : Prop := fnExactIsTameRow.holds Try.pinned (OpenSpec.ofChange fnExactIsTameWrong)

/-- 'laws.FnExactBackEdges': WHATEVER THE INPUT: true; the input reads as it did. -/
def fnExactBackEdgesSpec : ChangeSpec := { name := "fnExactBackEdges", fn := fun _ => fun
  | [d] => { results := [.lit (.bool true)], args := [d] }
  | _ => none }
def fnExactBackEdgesRow : OpenClaim := { program := "ytkhnhdgbbjppeaa", sum := "2e6d78fbec1fb1f1093f32bc02923822872a0ca6f6e2d33305fb4662353e742d", func := "loop.example/wholeway/laws.FnExactBackEdges", spec := "fnExactBackEdges", unfollowed := true, recurses := true, apart := false }
def FnExactBackEdgesSaid : Prop := fnExactBackEdgesRow.holds Try.pinned (OpenSpec.ofChange fnExactBackEdgesSpec)

/-- ITS FALSE NEIGHBOUR: 'it returns false'. Refute it at one input. -/
def fnExactBackEdgesWrong : ChangeSpec := { name := "fnExactBackEdges", fn := fun _ => fun
  | [d] => { results := [.lit (.bool false)], args := [d] }
  | _ => none }
def FnExactBackEdgesWrongFalsely : Prop := fnExactBackEdgesRow.holds Try.pinned (OpenSpec.ofChange fnExactBackEdgesWrong)

/-- 'laws.FnExactLoopOuter': WHATEVER THE INPUT: true; the input reads as it did. -/
def fnExactLoopOuterSpec : ChangeSpec := { name := "fnExactLoopOuter", fn := fun _ => fun
  | [d1, d2] => { results := [.lit (.bool true)], args := [d1, d2] }
  | _ => none }
def fnExactLoopOuterRow : OpenClaim := { program := "ytkhnhdgbbjppeaa", sum := "2e6d78fbec1fb1f1093f32bc02923822872a0ca6f6e2d33305fb4662353e742d", func := "loop.example/wholeway/laws.FnExactLoopOuter", spec := "fnExactLoopOuter", unfollowed := true, recurses := true, apart := false }
def FnExactLoopOuterSaid : Prop := fnExactLoopOuterRow.holds Try.pinned (OpenSpec.ofChange fnExactLoopOuterSpec)

/-- ITS FALSE NEIGHBOUR: 'it returns false'. Refute it at one input. -/
def fnExactLoopOuterWrong : ChangeSpec := { name := "fnExactLoopOuter", fn := fun _ => fun
  | [d1, d2] => { results := [.lit (.bool false)], args := [d1, d2] }
  | _ => none }
def FnExactLoopOuterWrongFalsely : Prop := fnExactLoopOuterRow.holds Try.pinned (OpenSpec.ofChange fnExactLoopOuterWrong)

/-- 'laws.FnExactLoopDepth': WHATEVER THE INPUT: true; the input reads as it did. -/
def fnExactLoopDepthSpec : ChangeSpec := { name := "fnExactLoopDepth", fn := fun _ => fun
  | [d1, d2] => { results := [.lit (.bool true)], args := [d1, d2] }
  | _ => none }
def fnExactLoopDepthRow : OpenClaim := { program := "ytkhnhdgbbjppeaa", sum := "2e6d78fbec1fb1f1093f32bc02923822872a0ca6f6e2d33305fb4662353e742d", func := "loop.example/wholeway/laws.FnExactLoopDepth", spec := "fnExactLoopDepth", unfollowed := true, recurses := true, apart := false }
def FnExactLoopDepthSaid : Prop := fnExactLoopDepthRow.holds Try.pinned (OpenSpec.ofChange fnExactLoopDepthSpec)

/-- ITS FALSE NEIGHBOUR: 'it returns false'. Refute it at one input. -/
def fnExactLoopDepthWrong : ChangeSpec := { name := "fnExactLoopDepth", fn := fun _ => fun
  | [d1, d2] => { results := [.lit (.bool false)], args := [d1, d2] }
  | _ => none }
def FnExactLoopDepthWrongFalsely : Prop := fnExactLoopDepthRow.holds Try.pinned (OpenSpec.ofChange fnExactLoopDepthWrong)

/-- 'laws.FnExactLoopBody': WHATEVER THE INPUT: true; the input reads as it did. -/
def fnExactLoopBodySpec : ChangeSpec := { name := "fnExactLoopBody", fn := fun _ => fun
  | [d1, d2] => { results := [.lit (.bool true)], args := [d1, d2] }
  | _ => none }
def fnExactLoopBodyRow : OpenClaim := { program := "ytkhnhdgbbjppeaa", sum := "2e6d78fbec1fb1f1093f32bc02923822872a0ca6f6e2d33305fb4662353e742d", func := "loop.example/wholeway/laws.FnExactLoopBody", spec := "fnExactLoopBody", unfollowed := true, recurses := true, apart := false }
def FnExactLoopBodySaid : Prop := fnExactLoopBodyRow.holds Try.pinned (OpenSpec.ofChange fnExactLoopBodySpec)

/-- ITS FALSE NEIGHBOUR: 'it returns false'. Refute it at one input. -/
def fnExactLoopBodyWrong : ChangeSpec := { name := "fnExactLoopBody", fn := fun _ => fun
  | [d1, d2] => { results := [.lit (.bool false)], args := [d1, d2] }
  | _ => none }
def FnExactLoopBodyWrongFalsely : Prop := fnExactLoopBodyRow.holds Try.pinned (OpenSpec.ofChange fnExactLoopBodyWrong)

/- THE SECOND FORM. 'bulk': how many values and letters a reading holds, each counted each time it is reached (what is shared counts as often as it is met; a slice's spare places count too). A statement '..UptoSaid' is the law's where the arguments, and the package variables that the reading takes, are together of bulk at most 1048576: NARROWER than '..Said'. Prove '..Said' where nothing that the law and all that it calls make is longer than what came in: it says more and counts as full. Else prove '..UptoSaid'. A law counts once. -/
mutual
def uptoBulk {H : Type} : DataW H → Nat
  | .lit (.string bytes) => bytes.length + 1
  | .lit _ => 1
  | .nil => 1
  | .ptr d => uptoBulk d + 1
  | .slice elems spare => uptoBulkAll elems + uptoBulkAll spare + 1
  | .agg parts => uptoBulkAll parts + 1
  | .iface _ d => uptoBulk d + 1
  | .map entries => uptoBulkEntries entries + 1
  | .held _ => 1
def uptoBulkAll {H : Type} : List (DataW H) → Nat
  | [] => 0
  | d :: r => uptoBulk d + uptoBulkAll r
def uptoBulkEntries {H : Type} : List (Lit × DataW H) → Nat
  | [] => 0
  | x :: r => uptoBulkEntry x + uptoBulkEntries r
def uptoBulkEntry {H : Type} : Lit × DataW H → Nat
  | (.string bytes, d) => bytes.length + uptoBulk d + 1
  | (_, d) => uptoBulk d + 1
 end
def uptoSmall : (H : Type) → List (DataW H) → Bool := fun _ ds => decide (uptoBulkAll ds ≤ 1048576)
def OpenSpec.upto (s : _root_.Go.ChangeSpec) : _root_.Go.OpenSpec := { _root_.Go.OpenSpec.ofChange s with cond := some uptoSmall }

/-- 'laws.FnExactUsesIn', WHERE WHAT IT READS IS OF BULK AT MOST 1048576: true; the input reads as it did. -/
def fnExactUsesInUptoRow : OpenClaim := { program := "ytkhnhdgbbjppeaa", sum := "2e6d78fbec1fb1f1093f32bc02923822872a0ca6f6e2d33305fb4662353e742d", func := "loop.example/wholeway/laws.FnExactUsesIn", spec := "fnExactUsesIn", unfollowed := true, recurses := true, apart := false, narrowed := true }
def FnExactUsesInUptoSaid : Prop := fnExactUsesInUptoRow.holds Try.pinned (OpenSpec.upto fnExactUsesInSpec)

/-- 'laws.FnExactCallPlaces', WHERE WHAT IT READS IS OF BULK AT MOST 1048576: true; the input reads as it did. -/
def fnExactCallPlacesUptoRow : OpenClaim := { program := "ytkhnhdgbbjppeaa", sum := "2e6d78fbec1fb1f1093f32bc02923822872a0ca6f6e2d33305fb4662353e742d", func := "loop.example/wholeway/laws.FnExactCallPlaces", spec := "fnExactCallPlaces", unfollowed := true, recurses := true, apart := false, narrowed := true }
def FnExactCallPlacesUptoSaid : Prop := fnExactCallPlacesUptoRow.holds Try.pinned (OpenSpec.upto fnExactCallPlacesSpec)

/-- 'laws.FnExactPlacesOf', WHERE WHAT IT READS IS OF BULK AT MOST 1048576: true; the input reads as it did. -/
def fnExactPlacesOfUptoRow : OpenClaim := { program := "ytkhnhdgbbjppeaa", sum := "2e6d78fbec1fb1f1093f32bc02923822872a0ca6f6e2d33305fb4662353e742d", func := "loop.example/wholeway/laws.FnExactPlacesOf", spec := "fnExactPlacesOf", unfollowed := true, recurses := true, apart := false, narrowed := true }
def FnExactPlacesOfUptoSaid : Prop := fnExactPlacesOfUptoRow.holds Try.pinned (OpenSpec.upto fnExactPlacesOfSpec)

/-- 'laws.FnExactUnusedRegs', WHERE WHAT IT READS IS OF BULK AT MOST 1048576: true; the input reads as it did. -/
def fnExactUnusedRegsUptoRow : OpenClaim := { program := "ytkhnhdgbbjppeaa", sum := "2e6d78fbec1fb1f1093f32bc02923822872a0ca6f6e2d33305fb4662353e742d", func := "loop.example/wholeway/laws.FnExactUnusedRegs", spec := "fnExactUnusedRegs", unfollowed := true, recurses := true, apart := false, narrowed := true }
def FnExactUnusedRegsUptoSaid : Prop := fnExactUnusedRegsUptoRow.holds Try.pinned (OpenSpec.upto fnExactUnusedRegsSpec)

/-- 'laws.FnExactHasSharp', WHERE WHAT IT READS IS OF BULK AT MOST 1048576: true; the input reads as it did. -/
def fnExactHasSharpUptoRow : OpenClaim := { program := "ytkhnhdgbbjppeaa", sum := "2e6d78fbec1fb1f1093f32bc02923822872a0ca6f6e2d33305fb4662353e742d", func := "loop.example/wholeway/laws.FnExactHasSharp", spec := "fnExactHasSharp", unfollowed := true, recurses := true, apart := false, narrowed := true }
def FnExactHasSharpUptoSaid : Prop := fnExactHasSharpUptoRow.holds Try.pinned (OpenSpec.upto fnExactHasSharpSpec)

/-- 'laws.FnExactIsSingle', WHERE WHAT IT READS IS OF BULK AT MOST 1048576: true; the input reads as it did. -/
def fnExactIsSingleUptoRow : OpenClaim := { program := "ytkhnhdgbbjppeaa", sum := "2e6d78fbec1fb1f1093f32bc02923822872a0ca6f6e2d33305fb4662353e742d", func := "loop.example/wholeway/laws.FnExactIsSingle", spec := "fnExactIsSingle", unfollowed := true, recurses := true, apart := false, narrowed := true }
def FnExactIsSingleUptoSaid : Prop := fnExactIsSingleUptoRow.holds Try.pinned (OpenSpec.upto fnExactIsSingleSpec)

/-- 'laws.FnExactReachedIn', WHERE WHAT IT READS IS OF BULK AT MOST 1048576: true; the input reads as it did. -/
def fnExactReachedInUptoRow : OpenClaim := { program := "ytkhnhdgbbjppeaa", sum := "2e6d78fbec1fb1f1093f32bc02923822872a0ca6f6e2d33305fb4662353e742d", func := "loop.example/wholeway/laws.FnExactReachedIn", spec := "fnExactReachedIn", unfollowed := true, recurses := true, apart := false, narrowed := true }
def FnExactReachedInUptoSaid : Prop := fnExactReachedInUptoRow.holds Try.pinned (OpenSpec.upto fnExactReachedInSpec)

/-- 'laws.FnExactIsTame', WHERE WHAT IT READS IS OF BULK AT MOST 1048576: true; the input reads as it did. -/
def fnExactIsTameUptoRow : OpenClaim := { program := "ytkhnhdgbbjppeaa", sum := "2e6d78fbec1fb1f1093f32bc02923822872a0ca6f6e2d33305fb4662353e742d", func := "loop.example/wholeway/laws.FnExactIsTame", spec := "fnExactIsTame", unfollowed := true, recurses := true, apart := false, narrowed := true }
def FnExactIsTameUptoSaid : Prop := fnExactIsTameUptoRow.holds Try.pinned (OpenSpec.upto fnExactIsTameSpec)

/-- 'laws.FnExactBackEdges', WHERE WHAT IT READS IS OF BULK AT MOST 1048576: true; the input reads as it did. -/
def fnExactBackEdgesUptoRow : OpenClaim := { program := "ytkhnhdgbbjppeaa", sum := "2e6d78fbec1fb1f1093f32bc02923822872a0ca6f6e2d33305fb4662353e742d", func := "loop.example/wholeway/laws.FnExactBackEdges", spec := "fnExactBackEdges", unfollowed := true, recurses := true, apart := false, narrowed := true }
def FnExactBackEdgesUptoSaid : Prop := fnExactBackEdgesUptoRow.holds Try.pinned (OpenSpec.upto fnExactBackEdgesSpec)

/-- 'laws.FnExactLoopOuter', WHERE WHAT IT READS IS OF BULK AT MOST 1048576: true; the input reads as it did. -/
def fnExactLoopOuterUptoRow : OpenClaim := { program := "ytkhnhdgbbjppeaa", sum := "2e6d78fbec1fb1f1093f32bc02923822872a0ca6f6e2d33305fb4662353e742d", func := "loop.example/wholeway/laws.FnExactLoopOuter", spec := "fnExactLoopOuter", unfollowed := true, recurses := true, apart := false, narrowed := true }
def FnExactLoopOuterUptoSaid : Prop := fnExactLoopOuterUptoRow.holds Try.pinned (OpenSpec.upto fnExactLoopOuterSpec)

/-- 'laws.FnExactLoopDepth', WHERE WHAT IT READS IS OF BULK AT MOST 1048576: true; the input reads as it did. -/
def fnExactLoopDepthUptoRow : OpenClaim := { program := "ytkhnhdgbbjppeaa", sum := "2e6d78fbec1fb1f1093f32bc02923822872a0ca6f6e2d33305fb4662353e742d", func := "loop.example/wholeway/laws.FnExactLoopDepth", spec := "fnExactLoopDepth", unfollowed := true, recurses := true, apart := false, narrowed := true }
def FnExactLoopDepthUptoSaid : Prop := fnExactLoopDepthUptoRow.holds Try.pinned (OpenSpec.upto fnExactLoopDepthSpec)

/-- 'laws.FnExactLoopBody', WHERE WHAT IT READS IS OF BULK AT MOST 1048576: true; the input reads as it did. -/
def fnExactLoopBodyUptoRow : OpenClaim := { program := "ytkhnhdgbbjppeaa", sum := "2e6d78fbec1fb1f1093f32bc02923822872a0ca6f6e2d33305fb4662353e742d", func := "loop.example/wholeway/laws.FnExactLoopBody", spec := "fnExactLoopBody", unfollowed := true, recurses := true, apart := false, narrowed := true }
def FnExactLoopBodyUptoSaid : Prop := fnExactLoopBodyUptoRow.holds Try.pinned (OpenSpec.upto fnExactLoopBodySpec)

end Rows
end Go.Proofs.Ytkhnhdgbbjppeaa
