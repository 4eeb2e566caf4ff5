/-
  DERIVED. GIVEN WITH THE SEED: THE CARDS: each row of YtpfbaeccjppagaaDoorRows.lean that lists a variable, with what it lists TIED to the program's text (the seventh form; the later family's looks); each row that meets fmt, with fmt's text TOLD by the authors' own Lean function (tested against real Go, not proved from fmt's source: count such statements apart). THE CARD IS WHAT COUNTS. Prove the row's statement (the work); the ties are given (YtpfbaeccjppagaaDoorTie.lean); close each card by the builder's one call (the guide's Derived/Test/ToyasCard.lean, 'card_holds'). Laid BY PROGRAM, IN A SANDBOX (cutbox-door.mjs). By AI agents, Wed Nov 11 2026. No macro, syntax, notation, axiom, sorry.
-/
import Derived.Test.YtpfbaeccjppagaaDoorRows
import GoSem.ClaimSeven
namespace Go.Proofs.YtpfbaeccjppagaaDoor
namespace Rows

/-- THE TIED CARD OF 'laws.FnPoints'. -/
def fnPointsCard : Claim7 := { stood := { row := fnPointsRow, standIns := [], harness := (true, "f4091317901abf1e4744f5690bfca049636a9e5c0328a3495cbc41f3fc077bec"), looks := true }, kinds := [], alts := [], laidByText := true, laidKinds := [.data, .data, .data, .sentinel, .sentinel], laidTests := true, laidLooks := .later }
def FnPointsCardSaid : Prop := Claim7.holds Tryd.pinned (.plain (OpenSpec.ofChange fnPointsSpec)) fnPointsCard

/-- THE SECOND FORM's CARD OF 'laws.FnPoints'. -/
def fnPointsUptoCard : Claim7 := { stood := { row := fnPointsUptoRow, standIns := [], harness := (true, "f4091317901abf1e4744f5690bfca049636a9e5c0328a3495cbc41f3fc077bec"), looks := true }, kinds := [], alts := [], laidByText := true, laidKinds := [.data, .data, .data, .sentinel, .sentinel], laidTests := true, laidLooks := .later }
def FnPointsUptoCardSaid : Prop := Claim7.holds Tryd.pinned (.plain (OpenSpec.upto fnPointsSpec)) fnPointsUptoCard
end Rows
end Go.Proofs.YtpfbaeccjppagaaDoor
