/-
  DERIVED. GIVEN WITH THE SEED: THE CARDS: each row of YtkiamhpapkgboaaDoorRows.lean that lists a variable, with what it lists TIED to the program's text (the seventh form; the later family's looks); each row that meets fmt, with fmt's text TOLD by the authors' own Lean function (tested against real Go, not proved from fmt's source: count such statements apart). THE CARD IS WHAT COUNTS. Prove the row's statement (the work); the ties are given (YtkiamhpapkgboaaDoorTie.lean); close each card by the builder's one call (the guide's Derived/Test/ToyasCard.lean, 'card_holds'). Laid BY PROGRAM, IN A SANDBOX (cutbox-door.mjs). By AI agents, Wed Nov 11 2026. No macro, syntax, notation, axiom, sorry.
-/
import Derived.Test.YtkiamhpapkgboaaDoorRows
import GoSem.ClaimSeven
namespace Go.Proofs.YtkiamhpapkgboaaDoor
namespace Rows

/-- THE TIED CARD OF 'laws.FnExactMachineSystem'. -/
def fnExactMachineSystemCard : Claim7 := { stood := { row := fnExactMachineSystemRow, standIns := [], harness := (true, "9a929b15da4a6eea704a6a728a608900d04a77335239f9f8942731797d61b397"), looks := false }, kinds := [], alts := [], laidByText := true, laidKinds := [.data, .data, .data], laidTests := true, laidLooks := .later }
def FnExactMachineSystemCardSaid : Prop := Claim7.holds Tryd.pinned (.plain (OpenSpec.ofChange fnExactMachineSystemSpec)) fnExactMachineSystemCard

/-- THE SECOND FORM's CARD OF 'laws.FnExactMachineSystem'. -/
def fnExactMachineSystemUptoCard : Claim7 := { stood := { row := fnExactMachineSystemUptoRow, standIns := [], harness := (true, "9a929b15da4a6eea704a6a728a608900d04a77335239f9f8942731797d61b397"), looks := false }, kinds := [], alts := [], laidByText := true, laidKinds := [.data, .data, .data], laidTests := true, laidLooks := .later }
def FnExactMachineSystemUptoCardSaid : Prop := Claim7.holds Tryd.pinned (.plain (OpenSpec.upto fnExactMachineSystemSpec)) fnExactMachineSystemUptoCard
end Rows
end Go.Proofs.YtkiamhpapkgboaaDoor
