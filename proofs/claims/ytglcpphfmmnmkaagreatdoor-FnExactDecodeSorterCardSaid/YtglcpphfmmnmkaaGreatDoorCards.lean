/-
  DERIVED. GIVEN WITH THE SEED: THE CARDS: each row of YtglcpphfmmnmkaaGreatDoorRows.lean that lists a variable, with what it lists TIED to the program's text (the seventh form; the later family's looks); each row that meets fmt, with fmt's text TOLD by the authors' own Lean function (tested against real Go, not proved from fmt's source: count such statements apart). THE CARD IS WHAT COUNTS. Prove the row's statement (the work); the ties are given (YtglcpphfmmnmkaaGreatDoorTie.lean); close each card by the builder's one call (the guide's Derived/Test/ToyasCard.lean, 'card_holds'). Laid BY PROGRAM, IN A SANDBOX (cutbox-door.mjs). By AI agents, Wed Nov 11 2026. No macro, syntax, notation, axiom, sorry.
-/
import Derived.Test.YtglcpphfmmnmkaaGreatDoorRows
import GoSem.ClaimSeven
namespace Go.Proofs.YtglcpphfmmnmkaaGreatDoor
namespace Rows

/-- THE TIED CARD OF 'laws.FnExactDecodeSorter'. -/
def fnExactDecodeSorterCard : Claim7 := { stood := { row := fnExactDecodeSorterRow, standIns := [], harness := (true, "ea6791160038a260f1ba8827272ee1a8ebe24ea7be517ba5ffb2591091cec566"), looks := false }, kinds := [], alts := [], laidByText := true, laidKinds := [.data, .data, .data], laidTests := true, laidLooks := .later }
def FnExactDecodeSorterCardSaid : Prop := Claim7.holds Tryz.pinned (.plain (OpenSpec.ofChange fnExactDecodeSorterSpec)) fnExactDecodeSorterCard

/-- THE SECOND FORM's CARD OF 'laws.FnExactDecodeSorter'. -/
def fnExactDecodeSorterUptoCard : Claim7 := { stood := { row := fnExactDecodeSorterUptoRow, standIns := [], harness := (true, "ea6791160038a260f1ba8827272ee1a8ebe24ea7be517ba5ffb2591091cec566"), looks := false }, kinds := [], alts := [], laidByText := true, laidKinds := [.data, .data, .data], laidTests := true, laidLooks := .later }
def FnExactDecodeSorterUptoCardSaid : Prop := Claim7.holds Tryz.pinned (.plain (OpenSpec.upto fnExactDecodeSorterSpec)) fnExactDecodeSorterUptoCard
end Rows
end Go.Proofs.YtglcpphfmmnmkaaGreatDoor
