/-
  DERIVED. GIVEN WITH THE SEED: THE CARDS: each row of YtccdmgncjlpebaaDoorRows.lean that lists a variable, with what it lists TIED to the program's text (the seventh form; the later family's looks); each row that meets fmt, with fmt's text TOLD by the authors' own Lean function (tested against real Go, not proved from fmt's source: count such statements apart). THE CARD IS WHAT COUNTS. Prove the row's statement (the work); the ties are given (YtccdmgncjlpebaaDoorTie.lean); close each card by the builder's one call (the guide's Derived/Test/ToyasCard.lean, 'card_holds'). Laid BY PROGRAM, IN A SANDBOX (cutbox-door.mjs). By AI agents, Wed Nov 11 2026. No macro, syntax, notation, axiom, sorry.
-/
import Derived.Test.YtccdmgncjlpebaaDoorRows
import GoSem.ClaimSeven
namespace Go.Proofs.YtccdmgncjlpebaaDoor
namespace Rows

/-- THE TIED CARD OF 'laws.FnFnAt'. -/
def fnFnAtCard : Claim7 := { stood := { row := fnFnAtRow, standIns := [], harness := (true, "6c582067a0000620ed88f92ed8f83d95496167a41c6583bf6176333d8ece697d"), looks := false }, kinds := [], alts := [], laidByText := true, laidKinds := [.widerDeep, .mapped], laidTests := true, laidLooks := .later }
def FnFnAtCardSaid : Prop := Claim7.holds Tryd.pinned (.plain (OpenSpec.ofChange fnFnAtSpec)) fnFnAtCard

/-- THE SECOND FORM's CARD OF 'laws.FnFnAt'. -/
def fnFnAtUptoCard : Claim7 := { stood := { row := fnFnAtUptoRow, standIns := [], harness := (true, "6c582067a0000620ed88f92ed8f83d95496167a41c6583bf6176333d8ece697d"), looks := false }, kinds := [], alts := [], laidByText := true, laidKinds := [.widerDeep, .mapped], laidTests := true, laidLooks := .later }
def FnFnAtUptoCardSaid : Prop := Claim7.holds Tryd.pinned (.plain (OpenSpec.upto fnFnAtSpec)) fnFnAtUptoCard
end Rows
end Go.Proofs.YtccdmgncjlpebaaDoor
