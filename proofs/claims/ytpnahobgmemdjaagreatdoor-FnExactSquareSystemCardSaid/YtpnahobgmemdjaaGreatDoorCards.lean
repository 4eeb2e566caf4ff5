/-
  DERIVED. GIVEN WITH THE SEED: THE CARDS: each row of YtpnahobgmemdjaaGreatDoorRows.lean that lists a variable, with what it lists TIED to the program's text (the seventh form; the later family's looks); each row that meets fmt, with fmt's text TOLD by the authors' own Lean function (tested against real Go, not proved from fmt's source: count such statements apart). THE CARD IS WHAT COUNTS. Prove the row's statement (the work); the ties are given (YtpnahobgmemdjaaGreatDoorTie.lean); close each card by the builder's one call (the guide's Derived/Test/ToyasCard.lean, 'card_holds'). Laid BY PROGRAM, IN A SANDBOX (cutbox-door.mjs). By AI agents, Wed Nov 11 2026. No macro, syntax, notation, axiom, sorry.
-/
import Derived.Test.YtpnahobgmemdjaaGreatDoorRows
import GoSem.ClaimSeven
namespace Go.Proofs.YtpnahobgmemdjaaGreatDoor
namespace Rows

/-- THE TIED CARD OF 'laws.FnExactSquareSystem'. -/
def fnExactSquareSystemCard : Claim7 := { stood := { row := fnExactSquareSystemRow, standIns := [], harness := (true, "e0f8cc995de92c97c3d63a332acfa9681134ec51b9faf78f4f2373122f0f28cb"), looks := false }, kinds := [], alts := [], laidByText := true, laidKinds := [.data, .data, .data], laidTests := true, laidLooks := .later }
def FnExactSquareSystemCardSaid : Prop := Claim7.holds Tryz.pinned (.plain (OpenSpec.ofChange fnExactSquareSystemSpec)) fnExactSquareSystemCard

/-- THE SECOND FORM's CARD OF 'laws.FnExactSquareSystem'. -/
def fnExactSquareSystemUptoCard : Claim7 := { stood := { row := fnExactSquareSystemUptoRow, standIns := [], harness := (true, "e0f8cc995de92c97c3d63a332acfa9681134ec51b9faf78f4f2373122f0f28cb"), looks := false }, kinds := [], alts := [], laidByText := true, laidKinds := [.data, .data, .data], laidTests := true, laidLooks := .later }
def FnExactSquareSystemUptoCardSaid : Prop := Claim7.holds Tryz.pinned (.plain (OpenSpec.upto fnExactSquareSystemSpec)) fnExactSquareSystemUptoCard
end Rows
end Go.Proofs.YtpnahobgmemdjaaGreatDoor
