/-
  DERIVED. GIVEN WITH THE SEED: THE CARDS: each row of YtccfbnhlhjlmgaaDoorRows.lean that lists a variable, with what it lists TIED to the program's text (the seventh form; the later family's looks); each row that meets fmt, with fmt's text TOLD by the authors' own Lean function (tested against real Go, not proved from fmt's source: count such statements apart). THE CARD IS WHAT COUNTS. Prove the row's statement (the work); the ties are given (YtccfbnhlhjlmgaaDoorTie.lean); close each card by the builder's one call (the guide's Derived/Test/ToyasCard.lean, 'card_holds'). Laid BY PROGRAM, IN A SANDBOX (cutbox-door.mjs). By AI agents, Wed Nov 11 2026. No macro, syntax, notation, axiom, sorry.
-/
import Derived.Test.YtccfbnhlhjlmgaaDoorRows
import GoSem.ClaimSeven
namespace Go.Proofs.YtccfbnhlhjlmgaaDoor
namespace Rows

/-- THE TIED CARD OF 'laws.FnDoIns'. -/
def fnDoInsCard : Claim7 := { stood := { row := fnDoInsRow, standIns := [], harness := (true, "9d36b701a0af23e4c1ad6590adbaf32a136b405a4fe9223274a7c6ce89975e7b"), looks := true }, kinds := [], alts := [], laidByText := true, laidKinds := [.widerDeep, .mapped], laidTests := true, laidLooks := .later }
def FnDoInsCardSaid : Prop := Claim7.holds Tryd.pinned (.plain (OpenSpec.ofChange fnDoInsSpec)) fnDoInsCard

/-- THE TIED CARD OF 'laws.FnFnAt'. -/
def fnFnAtCard : Claim7 := { stood := { row := fnFnAtRow, standIns := [], harness := (true, "9d36b701a0af23e4c1ad6590adbaf32a136b405a4fe9223274a7c6ce89975e7b"), looks := true }, kinds := [], alts := [], laidByText := true, laidKinds := [.widerDeep, .mapped], laidTests := true, laidLooks := .later }
def FnFnAtCardSaid : Prop := Claim7.holds Tryd.pinned (.plain (OpenSpec.ofChange fnFnAtSpec)) fnFnAtCard

/-- THE TIED CARD OF 'laws.FnStmtForm'. -/
def fnStmtFormCard : Claim7 := { stood := { row := fnStmtFormRow, standIns := [], harness := (true, "9d36b701a0af23e4c1ad6590adbaf32a136b405a4fe9223274a7c6ce89975e7b"), looks := true }, kinds := [], alts := [], laidByText := true, laidKinds := [.widerDeep, .mapped], laidTests := true, laidLooks := .later }
def FnStmtFormCardSaid : Prop := Claim7.holds Tryd.pinned (.plain (OpenSpec.ofChange fnStmtFormSpec)) fnStmtFormCard

/-- THE TIED CARD OF 'laws.FnEval'. -/
def fnEvalCard : Claim7 := { stood := { row := fnEvalRow, standIns := [], harness := (true, "9d36b701a0af23e4c1ad6590adbaf32a136b405a4fe9223274a7c6ce89975e7b"), looks := true }, kinds := [], alts := [], laidByText := true, laidKinds := [.widerDeep, .mapped], laidTests := true, laidLooks := .later }
def FnEvalCardSaid : Prop := Claim7.holds Tryd.pinned (.plain (OpenSpec.ofChange fnEvalSpec)) fnEvalCard

/-- THE TIED CARD OF 'laws.FnStmtCount'. -/
def fnStmtCountCard : Claim7 := { stood := { row := fnStmtCountRow, standIns := [], harness := (true, "9d36b701a0af23e4c1ad6590adbaf32a136b405a4fe9223274a7c6ce89975e7b"), looks := true }, kinds := [], alts := [], laidByText := true, laidKinds := [.widerDeep, .mapped], laidTests := true, laidLooks := .later }
def FnStmtCountCardSaid : Prop := Claim7.holds Tryd.pinned (.plain (OpenSpec.ofChange fnStmtCountSpec)) fnStmtCountCard

/-- THE TIED CARD OF 'laws.FnSafe'. -/
def fnSafeCard : Claim7 := { stood := { row := fnSafeRow, standIns := [], harness := (true, "9d36b701a0af23e4c1ad6590adbaf32a136b405a4fe9223274a7c6ce89975e7b"), looks := true }, kinds := [], alts := [], laidByText := true, laidKinds := [.widerDeep, .mapped], laidTests := true, laidLooks := .later }
def FnSafeCardSaid : Prop := Claim7.holds Tryd.pinned (.plain (OpenSpec.ofChange fnSafeSpec)) fnSafeCard

/-- THE TIED CARD OF 'laws.FnExactEvalExpr'. -/
def fnExactEvalExprCard : Claim7 := { stood := { row := fnExactEvalExprRow, standIns := [], harness := (true, "9d36b701a0af23e4c1ad6590adbaf32a136b405a4fe9223274a7c6ce89975e7b"), looks := true }, kinds := [], alts := [], laidByText := true, laidKinds := [.widerDeep, .mapped], laidTests := true, laidLooks := .later }
def FnExactEvalExprCardSaid : Prop := Claim7.holds Tryd.pinned (.plain (OpenSpec.ofChange fnExactEvalExprSpec)) fnExactEvalExprCard

/-- THE TIED CARD OF 'laws.FnEvalPut'. -/
def fnEvalPutCard : Claim7 := { stood := { row := fnEvalPutRow, standIns := [], harness := (true, "9d36b701a0af23e4c1ad6590adbaf32a136b405a4fe9223274a7c6ce89975e7b"), looks := true }, kinds := [], alts := [], laidByText := true, laidKinds := [.widerDeep, .mapped], laidTests := true, laidLooks := .later }
def FnEvalPutCardSaid : Prop := Claim7.holds Tryd.pinned (.plain (OpenSpec.ofChange fnEvalPutSpec)) fnEvalPutCard

/-- THE TIED CARD OF 'laws.FnFoldSame'. -/
def fnFoldSameCard : Claim7 := { stood := { row := fnFoldSameRow, standIns := [], harness := (true, "9d36b701a0af23e4c1ad6590adbaf32a136b405a4fe9223274a7c6ce89975e7b"), looks := true }, kinds := [], alts := [], laidByText := true, laidKinds := [.widerDeep, .mapped], laidTests := true, laidLooks := .later }
def FnFoldSameCardSaid : Prop := Claim7.holds Tryd.pinned (.plain (OpenSpec.ofChange fnFoldSameSpec)) fnFoldSameCard

/-- THE TIED CARD OF 'laws.FnEvalRuns'. -/
def fnEvalRunsCard : Claim7 := { stood := { row := fnEvalRunsRow, standIns := [], harness := (true, "9d36b701a0af23e4c1ad6590adbaf32a136b405a4fe9223274a7c6ce89975e7b"), looks := true }, kinds := [], alts := [], laidByText := true, laidKinds := [.widerDeep, .mapped], laidTests := true, laidLooks := .later }
def FnEvalRunsCardSaid : Prop := Claim7.holds Tryd.pinned (.plain (OpenSpec.ofChange fnEvalRunsSpec)) fnEvalRunsCard

/-- THE TIED CARD OF 'laws.FnFoldNumbers'. -/
def fnFoldNumbersCard : Claim7 := { stood := { row := fnFoldNumbersRow, standIns := [], harness := (true, "9d36b701a0af23e4c1ad6590adbaf32a136b405a4fe9223274a7c6ce89975e7b"), looks := true }, kinds := [], alts := [], laidByText := true, laidKinds := [.widerDeep, .mapped], laidTests := true, laidLooks := .later }
def FnFoldNumbersCardSaid : Prop := Claim7.holds Tryd.pinned (.plain (OpenSpec.ofChange fnFoldNumbersSpec)) fnFoldNumbersCard

/-- THE SECOND FORM's CARD OF 'laws.FnDoIns'. -/
def fnDoInsUptoCard : Claim7 := { stood := { row := fnDoInsUptoRow, standIns := [], harness := (true, "9d36b701a0af23e4c1ad6590adbaf32a136b405a4fe9223274a7c6ce89975e7b"), looks := true }, kinds := [], alts := [], laidByText := true, laidKinds := [.widerDeep, .mapped], laidTests := true, laidLooks := .later }
def FnDoInsUptoCardSaid : Prop := Claim7.holds Tryd.pinned (.plain (OpenSpec.upto fnDoInsSpec)) fnDoInsUptoCard

/-- THE SECOND FORM's CARD OF 'laws.FnFnAt'. -/
def fnFnAtUptoCard : Claim7 := { stood := { row := fnFnAtUptoRow, standIns := [], harness := (true, "9d36b701a0af23e4c1ad6590adbaf32a136b405a4fe9223274a7c6ce89975e7b"), looks := true }, kinds := [], alts := [], laidByText := true, laidKinds := [.widerDeep, .mapped], laidTests := true, laidLooks := .later }
def FnFnAtUptoCardSaid : Prop := Claim7.holds Tryd.pinned (.plain (OpenSpec.upto fnFnAtSpec)) fnFnAtUptoCard

/-- THE SECOND FORM's CARD OF 'laws.FnStmtForm'. -/
def fnStmtFormUptoCard : Claim7 := { stood := { row := fnStmtFormUptoRow, standIns := [], harness := (true, "9d36b701a0af23e4c1ad6590adbaf32a136b405a4fe9223274a7c6ce89975e7b"), looks := true }, kinds := [], alts := [], laidByText := true, laidKinds := [.widerDeep, .mapped], laidTests := true, laidLooks := .later }
def FnStmtFormUptoCardSaid : Prop := Claim7.holds Tryd.pinned (.plain (OpenSpec.upto fnStmtFormSpec)) fnStmtFormUptoCard

/-- THE SECOND FORM's CARD OF 'laws.FnEval'. -/
def fnEvalUptoCard : Claim7 := { stood := { row := fnEvalUptoRow, standIns := [], harness := (true, "9d36b701a0af23e4c1ad6590adbaf32a136b405a4fe9223274a7c6ce89975e7b"), looks := true }, kinds := [], alts := [], laidByText := true, laidKinds := [.widerDeep, .mapped], laidTests := true, laidLooks := .later }
def FnEvalUptoCardSaid : Prop := Claim7.holds Tryd.pinned (.plain (OpenSpec.upto fnEvalSpec)) fnEvalUptoCard

/-- THE SECOND FORM's CARD OF 'laws.FnStmtCount'. -/
def fnStmtCountUptoCard : Claim7 := { stood := { row := fnStmtCountUptoRow, standIns := [], harness := (true, "9d36b701a0af23e4c1ad6590adbaf32a136b405a4fe9223274a7c6ce89975e7b"), looks := true }, kinds := [], alts := [], laidByText := true, laidKinds := [.widerDeep, .mapped], laidTests := true, laidLooks := .later }
def FnStmtCountUptoCardSaid : Prop := Claim7.holds Tryd.pinned (.plain (OpenSpec.upto fnStmtCountSpec)) fnStmtCountUptoCard

/-- THE SECOND FORM's CARD OF 'laws.FnSafe'. -/
def fnSafeUptoCard : Claim7 := { stood := { row := fnSafeUptoRow, standIns := [], harness := (true, "9d36b701a0af23e4c1ad6590adbaf32a136b405a4fe9223274a7c6ce89975e7b"), looks := true }, kinds := [], alts := [], laidByText := true, laidKinds := [.widerDeep, .mapped], laidTests := true, laidLooks := .later }
def FnSafeUptoCardSaid : Prop := Claim7.holds Tryd.pinned (.plain (OpenSpec.upto fnSafeSpec)) fnSafeUptoCard

/-- THE SECOND FORM's CARD OF 'laws.FnExactEvalExpr'. -/
def fnExactEvalExprUptoCard : Claim7 := { stood := { row := fnExactEvalExprUptoRow, standIns := [], harness := (true, "9d36b701a0af23e4c1ad6590adbaf32a136b405a4fe9223274a7c6ce89975e7b"), looks := true }, kinds := [], alts := [], laidByText := true, laidKinds := [.widerDeep, .mapped], laidTests := true, laidLooks := .later }
def FnExactEvalExprUptoCardSaid : Prop := Claim7.holds Tryd.pinned (.plain (OpenSpec.upto fnExactEvalExprSpec)) fnExactEvalExprUptoCard

/-- THE SECOND FORM's CARD OF 'laws.FnEvalPut'. -/
def fnEvalPutUptoCard : Claim7 := { stood := { row := fnEvalPutUptoRow, standIns := [], harness := (true, "9d36b701a0af23e4c1ad6590adbaf32a136b405a4fe9223274a7c6ce89975e7b"), looks := true }, kinds := [], alts := [], laidByText := true, laidKinds := [.widerDeep, .mapped], laidTests := true, laidLooks := .later }
def FnEvalPutUptoCardSaid : Prop := Claim7.holds Tryd.pinned (.plain (OpenSpec.upto fnEvalPutSpec)) fnEvalPutUptoCard

/-- THE SECOND FORM's CARD OF 'laws.FnFoldSame'. -/
def fnFoldSameUptoCard : Claim7 := { stood := { row := fnFoldSameUptoRow, standIns := [], harness := (true, "9d36b701a0af23e4c1ad6590adbaf32a136b405a4fe9223274a7c6ce89975e7b"), looks := true }, kinds := [], alts := [], laidByText := true, laidKinds := [.widerDeep, .mapped], laidTests := true, laidLooks := .later }
def FnFoldSameUptoCardSaid : Prop := Claim7.holds Tryd.pinned (.plain (OpenSpec.upto fnFoldSameSpec)) fnFoldSameUptoCard

/-- THE SECOND FORM's CARD OF 'laws.FnEvalRuns'. -/
def fnEvalRunsUptoCard : Claim7 := { stood := { row := fnEvalRunsUptoRow, standIns := [], harness := (true, "9d36b701a0af23e4c1ad6590adbaf32a136b405a4fe9223274a7c6ce89975e7b"), looks := true }, kinds := [], alts := [], laidByText := true, laidKinds := [.widerDeep, .mapped], laidTests := true, laidLooks := .later }
def FnEvalRunsUptoCardSaid : Prop := Claim7.holds Tryd.pinned (.plain (OpenSpec.upto fnEvalRunsSpec)) fnEvalRunsUptoCard

/-- THE SECOND FORM's CARD OF 'laws.FnFoldNumbers'. -/
def fnFoldNumbersUptoCard : Claim7 := { stood := { row := fnFoldNumbersUptoRow, standIns := [], harness := (true, "9d36b701a0af23e4c1ad6590adbaf32a136b405a4fe9223274a7c6ce89975e7b"), looks := true }, kinds := [], alts := [], laidByText := true, laidKinds := [.widerDeep, .mapped], laidTests := true, laidLooks := .later }
def FnFoldNumbersUptoCardSaid : Prop := Claim7.holds Tryd.pinned (.plain (OpenSpec.upto fnFoldNumbersSpec)) fnFoldNumbersUptoCard
end Rows
end Go.Proofs.YtccfbnhlhjlmgaaDoor
