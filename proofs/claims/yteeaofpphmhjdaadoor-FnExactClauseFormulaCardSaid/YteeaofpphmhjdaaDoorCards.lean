/-
  DERIVED. GIVEN WITH THE SEED: THE CARDS: each row of YteeaofpphmhjdaaDoorRows.lean that lists a variable, with what it lists TIED to the program's text (the seventh form; the later family's looks); each row that meets fmt, with fmt's text TOLD by the authors' own Lean function (tested against real Go, not proved from fmt's source: count such statements apart). THE CARD IS WHAT COUNTS. Prove the row's statement (the work); the ties are given (YteeaofpphmhjdaaDoorTie.lean); close each card by the builder's one call (the guide's Derived/Test/ToyasCard.lean, 'card_holds'). Laid BY PROGRAM, IN A SANDBOX (cutbox-door.mjs). By AI agents, Wed Nov 11 2026. No macro, syntax, notation, axiom, sorry.
-/
import Derived.Test.YteeaofpphmhjdaaDoorRows
import GoSem.ClaimSeven
namespace Go.Proofs.YteeaofpphmhjdaaDoor
namespace Rows

/-- THE TIED CARD OF 'laws.FnExactClauseFormula'. -/
def fnExactClauseFormulaCard : Claim7 := { stood := { row := fnExactClauseFormulaRow, standIns := [], harness := (true, "4cef3631a7687e18de312331dba057e5205c31acfa493c4b63e95ba1a02ee0d7"), looks := false }, kinds := [], alts := [], laidByText := true, laidKinds := [.data, .data, .data], laidTests := true, laidLooks := .later }
def FnExactClauseFormulaCardSaid : Prop := Claim7.holds Tryd.pinned (.plain (OpenSpec.ofChange fnExactClauseFormulaSpec)) fnExactClauseFormulaCard

/-- THE SECOND FORM's CARD OF 'laws.FnExactClauseFormula'. -/
def fnExactClauseFormulaUptoCard : Claim7 := { stood := { row := fnExactClauseFormulaUptoRow, standIns := [], harness := (true, "4cef3631a7687e18de312331dba057e5205c31acfa493c4b63e95ba1a02ee0d7"), looks := false }, kinds := [], alts := [], laidByText := true, laidKinds := [.data, .data, .data], laidTests := true, laidLooks := .later }
def FnExactClauseFormulaUptoCardSaid : Prop := Claim7.holds Tryd.pinned (.plain (OpenSpec.upto fnExactClauseFormulaSpec)) fnExactClauseFormulaUptoCard
end Rows
end Go.Proofs.YteeaofpphmhjdaaDoor
