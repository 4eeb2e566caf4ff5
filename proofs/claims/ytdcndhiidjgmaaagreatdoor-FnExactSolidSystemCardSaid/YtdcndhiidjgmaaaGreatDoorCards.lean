/-
  DERIVED. GIVEN WITH THE SEED: THE CARDS: each row of YtdcndhiidjgmaaaGreatDoorRows.lean that lists a variable, with what it lists TIED to the program's text (the seventh form; the later family's looks); each row that meets fmt, with fmt's text TOLD by the authors' own Lean function (tested against real Go, not proved from fmt's source: count such statements apart). THE CARD IS WHAT COUNTS. Prove the row's statement (the work); the ties are given (YtdcndhiidjgmaaaGreatDoorTie.lean); close each card by the builder's one call (the guide's Derived/Test/ToyasCard.lean, 'card_holds'). Laid BY PROGRAM, IN A SANDBOX (cutbox-door.mjs). By AI agents, Wed Nov 11 2026. No macro, syntax, notation, axiom, sorry.
-/
import Derived.Test.YtdcndhiidjgmaaaGreatDoorRows
import GoSem.ClaimSeven
namespace Go.Proofs.YtdcndhiidjgmaaaGreatDoor
namespace Rows

/-- THE TIED CARD OF 'laws.FnExactShapeSystem'. -/
def fnExactShapeSystemCard : Claim7 := { stood := { row := fnExactShapeSystemRow, standIns := [], harness := (true, "66f0e13d1d83455d98c9b6d0f8648f1a607429793ae234c521da6d3435b81983"), looks := false }, kinds := [], alts := [], laidByText := true, laidKinds := [.data, .data, .data], laidTests := true, laidLooks := .later }
def FnExactShapeSystemCardSaid : Prop := Claim7.holds Tryz.pinned (.plain (OpenSpec.ofChange fnExactShapeSystemSpec)) fnExactShapeSystemCard

/-- THE TIED CARD OF 'laws.FnExactSolidSystem'. -/
def fnExactSolidSystemCard : Claim7 := { stood := { row := fnExactSolidSystemRow, standIns := [], harness := (true, "66f0e13d1d83455d98c9b6d0f8648f1a607429793ae234c521da6d3435b81983"), looks := false }, kinds := [], alts := [], laidByText := true, laidKinds := [.data, .data, .data], laidTests := true, laidLooks := .later }
def FnExactSolidSystemCardSaid : Prop := Claim7.holds Tryz.pinned (.plain (OpenSpec.ofChange fnExactSolidSystemSpec)) fnExactSolidSystemCard

/-- THE SECOND FORM's CARD OF 'laws.FnExactShapeSystem'. -/
def fnExactShapeSystemUptoCard : Claim7 := { stood := { row := fnExactShapeSystemUptoRow, standIns := [], harness := (true, "66f0e13d1d83455d98c9b6d0f8648f1a607429793ae234c521da6d3435b81983"), looks := false }, kinds := [], alts := [], laidByText := true, laidKinds := [.data, .data, .data], laidTests := true, laidLooks := .later }
def FnExactShapeSystemUptoCardSaid : Prop := Claim7.holds Tryz.pinned (.plain (OpenSpec.upto fnExactShapeSystemSpec)) fnExactShapeSystemUptoCard

/-- THE SECOND FORM's CARD OF 'laws.FnExactSolidSystem'. -/
def fnExactSolidSystemUptoCard : Claim7 := { stood := { row := fnExactSolidSystemUptoRow, standIns := [], harness := (true, "66f0e13d1d83455d98c9b6d0f8648f1a607429793ae234c521da6d3435b81983"), looks := false }, kinds := [], alts := [], laidByText := true, laidKinds := [.data, .data, .data], laidTests := true, laidLooks := .later }
def FnExactSolidSystemUptoCardSaid : Prop := Claim7.holds Tryz.pinned (.plain (OpenSpec.upto fnExactSolidSystemSpec)) fnExactSolidSystemUptoCard
end Rows
end Go.Proofs.YtdcndhiidjgmaaaGreatDoor
