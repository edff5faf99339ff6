/-
  No cell of these rows narrows 'for every input' (looked for: loops, veiled, ifaces, maps, wideKeys, modest, calm, conditions, laid).
  DERIVED. THE GIVEN ROWS OF THIS SEAT. 12 by the template 'for every input the law returns true; each argument reads behind the call as it read before'; 0 by the template 'total and deterministic' (their statements: YtclihjgojmfjiaaTotals.lean).
  GIVEN WITH THE SEED: the statements are not yours to turn. If you find one false, say at which input.
  Laid BY PROGRAM, IN A SANDBOX (cutbox-rows.mjs): the forced cells as the released guide's own fill.sh prints them over the translation ef10949a765f9b53… (all of the seat's roots in one cut). By AI agents, Wed Nov 11 2026. No macro, syntax, notation, axiom, sorry.
-/
import Derived.Test.YtclihjgojmfjiaaChecked
import GoSem.Claim
import GoSem.ClaimJoined
import GoSem.ClaimMapViews
import Derived.JoinedTies
import Derived.KernelRfl
namespace Go.Proofs.Ytclihjgojmfjiaa
/- THE CELL 'sum', in the pinned program and in every row, IS THE sha256 OF THE DUMP (.gsa) THAT YtclihjgojmfjiaaProg.lean LOADS. Nothing in Lean hashes anything: it is a label: what it is worth is what the hold of that sum in a sandbox is worth. -/
noncomputable def Try.pinned : Pinned := { name := "ytclihjgojmfjiaa", sum := "ef10949a765f9b53692ba6544e4ce95290b1eb344e5652303e6f2d90b223423e", checked := Try.checked }
namespace Rows
def none {H : Type} : Left H := { results := [], args := [] }

/-- 'laws.FnExactDominates': WHATEVER THE INPUT: true; the input reads as it did. -/
def fnExactDominatesSpec : ChangeSpec := { name := "fnExactDominates", fn := fun _ => fun
  | [d1, d2, d3] => { results := [.lit (.bool true)], args := [d1, d2, d3] }
  | _ => none }
def fnExactDominatesRow : OpenClaim := { program := "ytclihjgojmfjiaa", sum := "ef10949a765f9b53692ba6544e4ce95290b1eb344e5652303e6f2d90b223423e", func := "loop.example/wholeway/laws.FnExactDominates", spec := "fnExactDominates", unfollowed := true, recurses := true, apart := false }
def FnExactDominatesSaid : Prop := fnExactDominatesRow.holds Try.pinned (OpenSpec.ofChange fnExactDominatesSpec)

/-- ITS FALSE NEIGHBOUR: 'it returns false'. Refute it at one input. -/
def fnExactDominatesWrong : ChangeSpec := { name := "fnExactDominates", fn := fun _ => fun
  | [d1, d2, d3] => { results := [.lit (.bool false)], args := [d1, d2, d3] }
  | _ => none }
def FnExactDominatesWrongFalsely : Prop := fnExactDominatesRow.holds Try.pinned (OpenSpec.ofChange fnExactDominatesWrong)

/-- 'laws.FnExactMeetOf': WHATEVER THE INPUT: true; the input reads as it did. -/
def fnExactMeetOfSpec : ChangeSpec := { name := "fnExactMeetOf", fn := fun _ => fun
  | [d1, d2, d3] => { results := [.lit (.bool true)], args := [d1, d2, d3] }
  | _ => none }
def fnExactMeetOfRow : OpenClaim := { program := "ytclihjgojmfjiaa", sum := "ef10949a765f9b53692ba6544e4ce95290b1eb344e5652303e6f2d90b223423e", func := "loop.example/wholeway/laws.FnExactMeetOf", spec := "fnExactMeetOf", unfollowed := true, recurses := true, apart := false }
def FnExactMeetOfSaid : Prop := fnExactMeetOfRow.holds Try.pinned (OpenSpec.ofChange fnExactMeetOfSpec)

/-- ITS FALSE NEIGHBOUR: 'it returns false'. Refute it at one input. -/
def fnExactMeetOfWrong : ChangeSpec := { name := "fnExactMeetOf", fn := fun _ => fun
  | [d1, d2, d3] => { results := [.lit (.bool false)], args := [d1, d2, d3] }
  | _ => none }
def FnExactMeetOfWrongFalsely : Prop := fnExactMeetOfRow.holds Try.pinned (OpenSpec.ofChange fnExactMeetOfWrong)

/-- 'laws.FnExactDomDepth': WHATEVER THE INPUT: true; the input reads as it did. -/
def fnExactDomDepthSpec : ChangeSpec := { name := "fnExactDomDepth", fn := fun _ => fun
  | [d1, d2] => { results := [.lit (.bool true)], args := [d1, d2] }
  | _ => none }
def fnExactDomDepthRow : OpenClaim := { program := "ytclihjgojmfjiaa", sum := "ef10949a765f9b53692ba6544e4ce95290b1eb344e5652303e6f2d90b223423e", func := "loop.example/wholeway/laws.FnExactDomDepth", spec := "fnExactDomDepth", unfollowed := true, recurses := true, apart := false }
def FnExactDomDepthSaid : Prop := fnExactDomDepthRow.holds Try.pinned (OpenSpec.ofChange fnExactDomDepthSpec)

/-- ITS FALSE NEIGHBOUR: 'it returns false'. Refute it at one input. -/
def fnExactDomDepthWrong : ChangeSpec := { name := "fnExactDomDepth", fn := fun _ => fun
  | [d1, d2] => { results := [.lit (.bool false)], args := [d1, d2] }
  | _ => none }
def FnExactDomDepthWrongFalsely : Prop := fnExactDomDepthRow.holds Try.pinned (OpenSpec.ofChange fnExactDomDepthWrong)

/-- 'laws.FnExactOrderIn': WHATEVER THE INPUT: true; the input reads as it did. -/
def fnExactOrderInSpec : ChangeSpec := { name := "fnExactOrderIn", fn := fun _ => fun
  | [d] => { results := [.lit (.bool true)], args := [d] }
  | _ => none }
def fnExactOrderInRow : OpenClaim := { program := "ytclihjgojmfjiaa", sum := "ef10949a765f9b53692ba6544e4ce95290b1eb344e5652303e6f2d90b223423e", func := "loop.example/wholeway/laws.FnExactOrderIn", spec := "fnExactOrderIn", unfollowed := true, recurses := true, apart := false }
def FnExactOrderInSaid : Prop := fnExactOrderInRow.holds Try.pinned (OpenSpec.ofChange fnExactOrderInSpec)

/-- ITS FALSE NEIGHBOUR: 'it returns false'. Refute it at one input. -/
def fnExactOrderInWrong : ChangeSpec := { name := "fnExactOrderIn", fn := fun _ => fun
  | [d] => { results := [.lit (.bool false)], args := [d] }
  | _ => none }
def FnExactOrderInWrongFalsely : Prop := fnExactOrderInRow.holds Try.pinned (OpenSpec.ofChange fnExactOrderInWrong)

/-- 'laws.FnExactIdomsOf': WHATEVER THE INPUT: true; the input reads as it did. -/
def fnExactIdomsOfSpec : ChangeSpec := { name := "fnExactIdomsOf", fn := fun _ => fun
  | [d] => { results := [.lit (.bool true)], args := [d] }
  | _ => none }
def fnExactIdomsOfRow : OpenClaim := { program := "ytclihjgojmfjiaa", sum := "ef10949a765f9b53692ba6544e4ce95290b1eb344e5652303e6f2d90b223423e", func := "loop.example/wholeway/laws.FnExactIdomsOf", spec := "fnExactIdomsOf", unfollowed := true, recurses := true, apart := false }
def FnExactIdomsOfSaid : Prop := fnExactIdomsOfRow.holds Try.pinned (OpenSpec.ofChange fnExactIdomsOfSpec)

/-- ITS FALSE NEIGHBOUR: 'it returns false'. Refute it at one input. -/
def fnExactIdomsOfWrong : ChangeSpec := { name := "fnExactIdomsOf", fn := fun _ => fun
  | [d] => { results := [.lit (.bool false)], args := [d] }
  | _ => none }
def FnExactIdomsOfWrongFalsely : Prop := fnExactIdomsOfRow.holds Try.pinned (OpenSpec.ofChange fnExactIdomsOfWrong)

/-- 'laws.FnExactDomKids': WHATEVER THE INPUT: true; the input reads as it did. -/
def fnExactDomKidsSpec : ChangeSpec := { name := "fnExactDomKids", fn := fun _ => fun
  | [d1, d2] => { results := [.lit (.bool true)], args := [d1, d2] }
  | _ => none }
def fnExactDomKidsRow : OpenClaim := { program := "ytclihjgojmfjiaa", sum := "ef10949a765f9b53692ba6544e4ce95290b1eb344e5652303e6f2d90b223423e", func := "loop.example/wholeway/laws.FnExactDomKids", spec := "fnExactDomKids", unfollowed := true, recurses := true, apart := false }
def FnExactDomKidsSaid : Prop := fnExactDomKidsRow.holds Try.pinned (OpenSpec.ofChange fnExactDomKidsSpec)

/-- ITS FALSE NEIGHBOUR: 'it returns false'. Refute it at one input. -/
def fnExactDomKidsWrong : ChangeSpec := { name := "fnExactDomKids", fn := fun _ => fun
  | [d1, d2] => { results := [.lit (.bool false)], args := [d1, d2] }
  | _ => none }
def FnExactDomKidsWrongFalsely : Prop := fnExactDomKidsRow.holds Try.pinned (OpenSpec.ofChange fnExactDomKidsWrong)

/-- 'laws.FnExactDomOrder': WHATEVER THE INPUT: true; the input reads as it did. -/
def fnExactDomOrderSpec : ChangeSpec := { name := "fnExactDomOrder", fn := fun _ => fun
  | [d] => { results := [.lit (.bool true)], args := [d] }
  | _ => none }
def fnExactDomOrderRow : OpenClaim := { program := "ytclihjgojmfjiaa", sum := "ef10949a765f9b53692ba6544e4ce95290b1eb344e5652303e6f2d90b223423e", func := "loop.example/wholeway/laws.FnExactDomOrder", spec := "fnExactDomOrder", unfollowed := true, recurses := true, apart := false }
def FnExactDomOrderSaid : Prop := fnExactDomOrderRow.holds Try.pinned (OpenSpec.ofChange fnExactDomOrderSpec)

/-- ITS FALSE NEIGHBOUR: 'it returns false'. Refute it at one input. -/
def fnExactDomOrderWrong : ChangeSpec := { name := "fnExactDomOrder", fn := fun _ => fun
  | [d] => { results := [.lit (.bool false)], args := [d] }
  | _ => none }
def FnExactDomOrderWrongFalsely : Prop := fnExactDomOrderRow.holds Try.pinned (OpenSpec.ofChange fnExactDomOrderWrong)

/-- 'laws.FnExactLoopHeads': WHATEVER THE INPUT: true; the input reads as it did. -/
def fnExactLoopHeadsSpec : ChangeSpec := { name := "fnExactLoopHeads", fn := fun _ => fun
  | [d] => { results := [.lit (.bool true)], args := [d] }
  | _ => none }
def fnExactLoopHeadsRow : OpenClaim := { program := "ytclihjgojmfjiaa", sum := "ef10949a765f9b53692ba6544e4ce95290b1eb344e5652303e6f2d90b223423e", func := "loop.example/wholeway/laws.FnExactLoopHeads", spec := "fnExactLoopHeads", unfollowed := true, recurses := true, apart := false }
def FnExactLoopHeadsSaid : Prop := fnExactLoopHeadsRow.holds Try.pinned (OpenSpec.ofChange fnExactLoopHeadsSpec)

/-- ITS FALSE NEIGHBOUR: 'it returns false'. Refute it at one input. -/
def fnExactLoopHeadsWrong : ChangeSpec := { name := "fnExactLoopHeads", fn := fun _ => fun
  | [d] => { results := [.lit (.bool false)], args := [d] }
  | _ => none }
def FnExactLoopHeadsWrongFalsely : Prop := fnExactLoopHeadsRow.holds Try.pinned (OpenSpec.ofChange fnExactLoopHeadsWrong)

/-- 'laws.FnExactFrontierOf': WHATEVER THE INPUT: true; the input reads as it did. -/
def fnExactFrontierOfSpec : ChangeSpec := { name := "fnExactFrontierOf", fn := fun _ => fun
  | [d1, d2] => { results := [.lit (.bool true)], args := [d1, d2] }
  | _ => none }
def fnExactFrontierOfRow : OpenClaim := { program := "ytclihjgojmfjiaa", sum := "ef10949a765f9b53692ba6544e4ce95290b1eb344e5652303e6f2d90b223423e", func := "loop.example/wholeway/laws.FnExactFrontierOf", spec := "fnExactFrontierOf", unfollowed := true, recurses := true, apart := false }
def FnExactFrontierOfSaid : Prop := fnExactFrontierOfRow.holds Try.pinned (OpenSpec.ofChange fnExactFrontierOfSpec)

/-- ITS FALSE NEIGHBOUR: 'it returns false'. Refute it at one input. -/
def fnExactFrontierOfWrong : ChangeSpec := { name := "fnExactFrontierOf", fn := fun _ => fun
  | [d1, d2] => { results := [.lit (.bool false)], args := [d1, d2] }
  | _ => none }
def FnExactFrontierOfWrongFalsely : Prop := fnExactFrontierOfRow.holds Try.pinned (OpenSpec.ofChange fnExactFrontierOfWrong)

/-- 'laws.FnExactCodeSize': WHATEVER THE INPUT: true; the input reads as it did. -/
def fnExactCodeSizeSpec : ChangeSpec := { name := "fnExactCodeSize", fn := fun _ => fun
  | [d1, d2] => { results := [.lit (.bool true)], args := [d1, d2] }
  | _ => none }
def fnExactCodeSizeRow : OpenClaim := { program := "ytclihjgojmfjiaa", sum := "ef10949a765f9b53692ba6544e4ce95290b1eb344e5652303e6f2d90b223423e", func := "loop.example/wholeway/laws.FnExactCodeSize", spec := "fnExactCodeSize", unfollowed := true, recurses := true, apart := false }
def FnExactCodeSizeSaid : Prop := fnExactCodeSizeRow.holds Try.pinned (OpenSpec.ofChange fnExactCodeSizeSpec)

/-- ITS FALSE NEIGHBOUR: 'it returns false'. Refute it at one input. -/
def fnExactCodeSizeWrong : ChangeSpec := { name := "fnExactCodeSize", fn := fun _ => fun
  | [d1, d2] => { results := [.lit (.bool false)], args := [d1, d2] }
  | _ => none }
def FnExactCodeSizeWrongFalsely : Prop := fnExactCodeSizeRow.holds Try.pinned (OpenSpec.ofChange fnExactCodeSizeWrong)

/-- 'laws.FnExactBlockCount': WHATEVER THE INPUT: true; the input reads as it did. -/
def fnExactBlockCountSpec : ChangeSpec := { name := "fnExactBlockCount", fn := fun _ => fun
  | [d] => { results := [.lit (.bool true)], args := [d] }
  | _ => none }
def fnExactBlockCountRow : OpenClaim := { program := "ytclihjgojmfjiaa", sum := "ef10949a765f9b53692ba6544e4ce95290b1eb344e5652303e6f2d90b223423e", func := "loop.example/wholeway/laws.FnExactBlockCount", spec := "fnExactBlockCount", unfollowed := true, recurses := true, apart := false }
def FnExactBlockCountSaid : Prop := fnExactBlockCountRow.holds Try.pinned (OpenSpec.ofChange fnExactBlockCountSpec)

/-- ITS FALSE NEIGHBOUR: 'it returns false'. Refute it at one input. -/
def fnExactBlockCountWrong : ChangeSpec := { name := "fnExactBlockCount", fn := fun _ => fun
  | [d] => { results := [.lit (.bool false)], args := [d] }
  | _ => none }
def FnExactBlockCountWrongFalsely : Prop := fnExactBlockCountRow.holds Try.pinned (OpenSpec.ofChange fnExactBlockCountWrong)

/-- 'laws.FnExactPhiCount': WHATEVER THE INPUT: true; the input reads as it did. -/
def fnExactPhiCountSpec : ChangeSpec := { name := "fnExactPhiCount", fn := fun _ => fun
  | [d] => { results := [.lit (.bool true)], args := [d] }
  | _ => none }
def fnExactPhiCountRow : OpenClaim := { program := "ytclihjgojmfjiaa", sum := "ef10949a765f9b53692ba6544e4ce95290b1eb344e5652303e6f2d90b223423e", func := "loop.example/wholeway/laws.FnExactPhiCount", spec := "fnExactPhiCount", unfollowed := true, recurses := true, apart := false }
def FnExactPhiCountSaid : Prop := fnExactPhiCountRow.holds Try.pinned (OpenSpec.ofChange fnExactPhiCountSpec)

/-- ITS FALSE NEIGHBOUR: 'it returns false'. Refute it at one input. -/
def fnExactPhiCountWrong : ChangeSpec := { name := "fnExactPhiCount", fn := fun _ => fun
  | [d] => { results := [.lit (.bool false)], args := [d] }
  | _ => none }
def FnExactPhiCountWrongFalsely : Prop := fnExactPhiCountRow.holds Try.pinned (OpenSpec.ofChange fnExactPhiCountWrong)

/- THE SECOND FORM. 'bulk': how many values and letters a reading holds, each counted each time it is reached (what is shared counts as often as it is met; a slice's spare places count too). A statement '..UptoSaid' is the law's where the arguments, and the package variables that the reading takes, are together of bulk at most 1048576: NARROWER than '..Said'. Prove '..Said' where nothing that the law and all that it calls make is longer than what came in: it says more and counts as full. Else prove '..UptoSaid'. A law counts once. -/
mutual
def uptoBulk {H : Type} : DataW H → Nat
  | .lit (.string bytes) => bytes.length + 1
  | .lit _ => 1
  | .nil => 1
  | .ptr d => uptoBulk d + 1
  | .slice elems spare => uptoBulkAll elems + uptoBulkAll spare + 1
  | .agg parts => uptoBulkAll parts + 1
  | .iface _ d => uptoBulk d + 1
  | .map entries => uptoBulkEntries entries + 1
  | .held _ => 1
def uptoBulkAll {H : Type} : List (DataW H) → Nat
  | [] => 0
  | d :: r => uptoBulk d + uptoBulkAll r
def uptoBulkEntries {H : Type} : List (Lit × DataW H) → Nat
  | [] => 0
  | x :: r => uptoBulkEntry x + uptoBulkEntries r
def uptoBulkEntry {H : Type} : Lit × DataW H → Nat
  | (.string bytes, d) => bytes.length + uptoBulk d + 1
  | (_, d) => uptoBulk d + 1
 end
def uptoSmall : (H : Type) → List (DataW H) → Bool := fun _ ds => decide (uptoBulkAll ds ≤ 1048576)
def OpenSpec.upto (s : _root_.Go.ChangeSpec) : _root_.Go.OpenSpec := { _root_.Go.OpenSpec.ofChange s with cond := some uptoSmall }

/-- 'laws.FnExactDominates', WHERE WHAT IT READS IS OF BULK AT MOST 1048576: true; the input reads as it did. -/
def fnExactDominatesUptoRow : OpenClaim := { program := "ytclihjgojmfjiaa", sum := "ef10949a765f9b53692ba6544e4ce95290b1eb344e5652303e6f2d90b223423e", func := "loop.example/wholeway/laws.FnExactDominates", spec := "fnExactDominates", unfollowed := true, recurses := true, apart := false, narrowed := true }
def FnExactDominatesUptoSaid : Prop := fnExactDominatesUptoRow.holds Try.pinned (OpenSpec.upto fnExactDominatesSpec)

/-- 'laws.FnExactMeetOf', WHERE WHAT IT READS IS OF BULK AT MOST 1048576: true; the input reads as it did. -/
def fnExactMeetOfUptoRow : OpenClaim := { program := "ytclihjgojmfjiaa", sum := "ef10949a765f9b53692ba6544e4ce95290b1eb344e5652303e6f2d90b223423e", func := "loop.example/wholeway/laws.FnExactMeetOf", spec := "fnExactMeetOf", unfollowed := true, recurses := true, apart := false, narrowed := true }
def FnExactMeetOfUptoSaid : Prop := fnExactMeetOfUptoRow.holds Try.pinned (OpenSpec.upto fnExactMeetOfSpec)

/-- 'laws.FnExactDomDepth', WHERE WHAT IT READS IS OF BULK AT MOST 1048576: true; the input reads as it did. -/
def fnExactDomDepthUptoRow : OpenClaim := { program := "ytclihjgojmfjiaa", sum := "ef10949a765f9b53692ba6544e4ce95290b1eb344e5652303e6f2d90b223423e", func := "loop.example/wholeway/laws.FnExactDomDepth", spec := "fnExactDomDepth", unfollowed := true, recurses := true, apart := false, narrowed := true }
def FnExactDomDepthUptoSaid : Prop := fnExactDomDepthUptoRow.holds Try.pinned (OpenSpec.upto fnExactDomDepthSpec)

/-- 'laws.FnExactOrderIn', WHERE WHAT IT READS IS OF BULK AT MOST 1048576: true; the input reads as it did. -/
def fnExactOrderInUptoRow : OpenClaim := { program := "ytclihjgojmfjiaa", sum := "ef10949a765f9b53692ba6544e4ce95290b1eb344e5652303e6f2d90b223423e", func := "loop.example/wholeway/laws.FnExactOrderIn", spec := "fnExactOrderIn", unfollowed := true, recurses := true, apart := false, narrowed := true }
def FnExactOrderInUptoSaid : Prop := fnExactOrderInUptoRow.holds Try.pinned (OpenSpec.upto fnExactOrderInSpec)

/-- 'laws.FnExactIdomsOf', WHERE WHAT IT READS IS OF BULK AT MOST 1048576: true; the input reads as it did. -/
def fnExactIdomsOfUptoRow : OpenClaim := { program := "ytclihjgojmfjiaa", sum := "ef10949a765f9b53692ba6544e4ce95290b1eb344e5652303e6f2d90b223423e", func := "loop.example/wholeway/laws.FnExactIdomsOf", spec := "fnExactIdomsOf", unfollowed := true, recurses := true, apart := false, narrowed := true }
def FnExactIdomsOfUptoSaid : Prop := fnExactIdomsOfUptoRow.holds Try.pinned (OpenSpec.upto fnExactIdomsOfSpec)

/-- 'laws.FnExactDomKids', WHERE WHAT IT READS IS OF BULK AT MOST 1048576: true; the input reads as it did. -/
def fnExactDomKidsUptoRow : OpenClaim := { program := "ytclihjgojmfjiaa", sum := "ef10949a765f9b53692ba6544e4ce95290b1eb344e5652303e6f2d90b223423e", func := "loop.example/wholeway/laws.FnExactDomKids", spec := "fnExactDomKids", unfollowed := true, recurses := true, apart := false, narrowed := true }
def FnExactDomKidsUptoSaid : Prop := fnExactDomKidsUptoRow.holds Try.pinned (OpenSpec.upto fnExactDomKidsSpec)

/-- 'laws.FnExactDomOrder', WHERE WHAT IT READS IS OF BULK AT MOST 1048576: true; the input reads as it did. -/
def fnExactDomOrderUptoRow : OpenClaim := { program := "ytclihjgojmfjiaa", sum := "ef10949a765f9b53692ba6544e4ce95290b1eb344e5652303e6f2d90b223423e", func := "loop.example/wholeway/laws.FnExactDomOrder", spec := "fnExactDomOrder", unfollowed := true, recurses := true, apart := false, narrowed := true }
def FnExactDomOrderUptoSaid : Prop := fnExactDomOrderUptoRow.holds Try.pinned (OpenSpec.upto fnExactDomOrderSpec)

/-- 'laws.FnExactLoopHeads', WHERE WHAT IT READS IS OF BULK AT MOST 1048576: true; the input reads as it did. -/
def fnExactLoopHeadsUptoRow : OpenClaim := { program := "ytclihjgojmfjiaa", sum := "ef10949a765f9b53692ba6544e4ce95290b1eb344e5652303e6f2d90b223423e", func := "loop.example/wholeway/laws.FnExactLoopHeads", spec := "fnExactLoopHeads", unfollowed := true, recurses := true, apart := false, narrowed := true }
def FnExactLoopHeadsUptoSaid : Prop := fnExactLoopHeadsUptoRow.holds Try.pinned (OpenSpec.upto fnExactLoopHeadsSpec)

/-- 'laws.FnExactFrontierOf', WHERE WHAT IT READS IS OF BULK AT MOST 1048576: true; the input reads as it did. -/
def fnExactFrontierOfUptoRow : OpenClaim := { program := "ytclihjgojmfjiaa", sum := "ef10949a765f9b53692ba6544e4ce95290b1eb344e5652303e6f2d90b223423e", func := "loop.example/wholeway/laws.FnExactFrontierOf", spec := "fnExactFrontierOf", unfollowed := true, recurses := true, apart := false, narrowed := true }
def FnExactFrontierOfUptoSaid : Prop := fnExactFrontierOfUptoRow.holds Try.pinned (OpenSpec.upto fnExactFrontierOfSpec)

/-- 'laws.FnExactCodeSize', WHERE WHAT IT READS IS OF BULK AT MOST 1048576: true; the input reads as it did. -/
def fnExactCodeSizeUptoRow : OpenClaim := { program := "ytclihjgojmfjiaa", sum := "ef10949a765f9b53692ba6544e4ce95290b1eb344e5652303e6f2d90b223423e", func := "loop.example/wholeway/laws.FnExactCodeSize", spec := "fnExactCodeSize", unfollowed := true, recurses := true, apart := false, narrowed := true }
def FnExactCodeSizeUptoSaid : Prop := fnExactCodeSizeUptoRow.holds Try.pinned (OpenSpec.upto fnExactCodeSizeSpec)

/-- 'laws.FnExactBlockCount', WHERE WHAT IT READS IS OF BULK AT MOST 1048576: true; the input reads as it did. -/
def fnExactBlockCountUptoRow : OpenClaim := { program := "ytclihjgojmfjiaa", sum := "ef10949a765f9b53692ba6544e4ce95290b1eb344e5652303e6f2d90b223423e", func := "loop.example/wholeway/laws.FnExactBlockCount", spec := "fnExactBlockCount", unfollowed := true, recurses := true, apart := false, narrowed := true }
def FnExactBlockCountUptoSaid : Prop := fnExactBlockCountUptoRow.holds Try.pinned (OpenSpec.upto fnExactBlockCountSpec)

/-- 'laws.FnExactPhiCount', WHERE WHAT IT READS IS OF BULK AT MOST 1048576: true; the input reads as it did. -/
def fnExactPhiCountUptoRow : OpenClaim := { program := "ytclihjgojmfjiaa", sum := "ef10949a765f9b53692ba6544e4ce95290b1eb344e5652303e6f2d90b223423e", func := "loop.example/wholeway/laws.FnExactPhiCount", spec := "fnExactPhiCount", unfollowed := true, recurses := true, apart := false, narrowed := true }
def FnExactPhiCountUptoSaid : Prop := fnExactPhiCountUptoRow.holds Try.pinned (OpenSpec.upto fnExactPhiCountSpec)

end Rows
end Go.Proofs.Ytclihjgojmfjiaa
