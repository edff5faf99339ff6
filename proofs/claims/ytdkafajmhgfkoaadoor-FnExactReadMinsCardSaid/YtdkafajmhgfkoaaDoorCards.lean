/-
  DERIVED. GIVEN WITH THE SEED: THE CARDS: each row of YtdkafajmhgfkoaaDoorRows.lean that lists a variable, with what it lists TIED to the program's text (the seventh form; the later family's looks); each row that meets fmt, with fmt's text TOLD by the authors' own Lean function (tested against real Go, not proved from fmt's source: count such statements apart). THE CARD IS WHAT COUNTS. Prove the row's statement (the work); the ties are given (YtdkafajmhgfkoaaDoorTie.lean); close each card by the builder's one call (the guide's Derived/Test/ToyasCard.lean, 'card_holds'). Laid BY PROGRAM, IN A SANDBOX (cutbox-door.mjs). By AI agents, Wed Nov 11 2026. No macro, syntax, notation, axiom, sorry.
-/
import Derived.Test.YtdkafajmhgfkoaaDoorRows
import GoSem.ClaimSeven
namespace Go.Proofs.YtdkafajmhgfkoaaDoor
namespace Rows

/-- THE TIED CARD OF 'laws.FnMachForm'. -/
def fnMachFormCard : Claim7 := { stood := { row := fnMachFormRow, standIns := [], harness := (true, "c7fdc35359660ce4d617d1d58d366ae787ad77d8c3cf5c46e30dd45381109176"), looks := true }, kinds := [], alts := [], laidByText := true, laidKinds := [.widerDeep], laidTests := true, laidLooks := .later }
def FnMachFormCardSaid : Prop := Claim7.holds Tryd.pinned (.plain (OpenSpec.ofChange fnMachFormSpec)) fnMachFormCard

/-- THE TIED CARD OF 'laws.FnMachSize'. -/
def fnMachSizeCard : Claim7 := { stood := { row := fnMachSizeRow, standIns := [], harness := (true, "c7fdc35359660ce4d617d1d58d366ae787ad77d8c3cf5c46e30dd45381109176"), looks := true }, kinds := [], alts := [], laidByText := true, laidKinds := [.widerDeep], laidTests := true, laidLooks := .later }
def FnMachSizeCardSaid : Prop := Claim7.holds Tryd.pinned (.plain (OpenSpec.ofChange fnMachSizeSpec)) fnMachSizeCard

/-- THE TIED CARD OF 'laws.FnExactMachValid'. -/
def fnExactMachValidCard : Claim7 := { stood := { row := fnExactMachValidRow, standIns := [], harness := (true, "c7fdc35359660ce4d617d1d58d366ae787ad77d8c3cf5c46e30dd45381109176"), looks := true }, kinds := [], alts := [], laidByText := true, laidKinds := [.widerDeep], laidTests := true, laidLooks := .later }
def FnExactMachValidCardSaid : Prop := Claim7.holds Tryd.pinned (.plain (OpenSpec.ofChange fnExactMachValidSpec)) fnExactMachValidCard

/-- THE TIED CARD OF 'laws.FnExactMachSize'. -/
def fnExactMachSizeCard : Claim7 := { stood := { row := fnExactMachSizeRow, standIns := [], harness := (true, "c7fdc35359660ce4d617d1d58d366ae787ad77d8c3cf5c46e30dd45381109176"), looks := true }, kinds := [], alts := [], laidByText := true, laidKinds := [.widerDeep], laidTests := true, laidLooks := .later }
def FnExactMachSizeCardSaid : Prop := Claim7.holds Tryd.pinned (.plain (OpenSpec.ofChange fnExactMachSizeSpec)) fnExactMachSizeCard

/-- THE TIED CARD OF 'laws.FnExactReadMins'. -/
def fnExactReadMinsCard : Claim7 := { stood := { row := fnExactReadMinsRow, standIns := [], harness := (true, "c7fdc35359660ce4d617d1d58d366ae787ad77d8c3cf5c46e30dd45381109176"), looks := true }, kinds := [], alts := [], laidByText := true, laidKinds := [.data, .data, .data, .data, .sentinel, .sentinel, .widerDeep, .pinned], laidTests := true, laidLooks := .later }
def FnExactReadMinsCardSaid : Prop := Claim7.holds Tryd.pinned (.plain (OpenSpec.ofChange fnExactReadMinsSpec)) fnExactReadMinsCard

/-- THE SECOND FORM's CARD OF 'laws.FnMachForm'. -/
def fnMachFormUptoCard : Claim7 := { stood := { row := fnMachFormUptoRow, standIns := [], harness := (true, "c7fdc35359660ce4d617d1d58d366ae787ad77d8c3cf5c46e30dd45381109176"), looks := true }, kinds := [], alts := [], laidByText := true, laidKinds := [.widerDeep], laidTests := true, laidLooks := .later }
def FnMachFormUptoCardSaid : Prop := Claim7.holds Tryd.pinned (.plain (OpenSpec.upto fnMachFormSpec)) fnMachFormUptoCard

/-- THE SECOND FORM's CARD OF 'laws.FnMachSize'. -/
def fnMachSizeUptoCard : Claim7 := { stood := { row := fnMachSizeUptoRow, standIns := [], harness := (true, "c7fdc35359660ce4d617d1d58d366ae787ad77d8c3cf5c46e30dd45381109176"), looks := true }, kinds := [], alts := [], laidByText := true, laidKinds := [.widerDeep], laidTests := true, laidLooks := .later }
def FnMachSizeUptoCardSaid : Prop := Claim7.holds Tryd.pinned (.plain (OpenSpec.upto fnMachSizeSpec)) fnMachSizeUptoCard

/-- THE SECOND FORM's CARD OF 'laws.FnExactMachValid'. -/
def fnExactMachValidUptoCard : Claim7 := { stood := { row := fnExactMachValidUptoRow, standIns := [], harness := (true, "c7fdc35359660ce4d617d1d58d366ae787ad77d8c3cf5c46e30dd45381109176"), looks := true }, kinds := [], alts := [], laidByText := true, laidKinds := [.widerDeep], laidTests := true, laidLooks := .later }
def FnExactMachValidUptoCardSaid : Prop := Claim7.holds Tryd.pinned (.plain (OpenSpec.upto fnExactMachValidSpec)) fnExactMachValidUptoCard

/-- THE SECOND FORM's CARD OF 'laws.FnExactMachSize'. -/
def fnExactMachSizeUptoCard : Claim7 := { stood := { row := fnExactMachSizeUptoRow, standIns := [], harness := (true, "c7fdc35359660ce4d617d1d58d366ae787ad77d8c3cf5c46e30dd45381109176"), looks := true }, kinds := [], alts := [], laidByText := true, laidKinds := [.widerDeep], laidTests := true, laidLooks := .later }
def FnExactMachSizeUptoCardSaid : Prop := Claim7.holds Tryd.pinned (.plain (OpenSpec.upto fnExactMachSizeSpec)) fnExactMachSizeUptoCard

/-- THE SECOND FORM's CARD OF 'laws.FnExactReadMins'. -/
def fnExactReadMinsUptoCard : Claim7 := { stood := { row := fnExactReadMinsUptoRow, standIns := [], harness := (true, "c7fdc35359660ce4d617d1d58d366ae787ad77d8c3cf5c46e30dd45381109176"), looks := true }, kinds := [], alts := [], laidByText := true, laidKinds := [.data, .data, .data, .data, .sentinel, .sentinel, .widerDeep, .pinned], laidTests := true, laidLooks := .later }
def FnExactReadMinsUptoCardSaid : Prop := Claim7.holds Tryd.pinned (.plain (OpenSpec.upto fnExactReadMinsSpec)) fnExactReadMinsUptoCard
end Rows
end Go.Proofs.YtdkafajmhgfkoaaDoor
