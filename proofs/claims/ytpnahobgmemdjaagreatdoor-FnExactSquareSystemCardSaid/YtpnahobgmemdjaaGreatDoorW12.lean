/- Walks: the program's places, steps and bonds' strengths. -/
import Derived.Test.YtpnahobgmemdjaaGreatDoorP1
namespace Go.Proofs.YtpnahobgmemdjaaGreatDoor
open Go.RowKit
set_option linter.unusedSimpArgs false
set_option linter.unusedVariables false
attribute [local go_sem] BelowBy.cell BelowBy.cell_drew stillUpon givesUpon

/-- what BinarySearchFunc says -/
def SearchRes (w : World) (xs : List Pl) (x y : Int) (e : Ending) (w' : World) : Prop :=
  ∃ (r : Int) (b : Bool), e = .returned (.tuple #[.int .i64 r, .bool b]) ∧ ((if b then r else -1) = placeI xs x y ∧ 0 ≤ r) ∧ Below w.heap.size w w'
end Go.Proofs.YtpnahobgmemdjaaGreatDoor
