/- Walks: the closures of the program's checks. -/
import Derived.Test.YtpnahobgmemdjaaW6
import Derived.Test.YtpnahobgmemdjaaW2
namespace Go.Proofs.Ytpnahobgmemdjaa
open Go.RowKit
set_option linter.unusedSimpArgs false
set_option linter.unusedVariables false
attribute [local go_sem] BelowBy.cell BelowBy.cell_drew stillUpon givesUpon
/-- what IndexFunc says of a list and a test -/
def FirstRes (w : World) (n : Nat) (ok : Nat → Bool) (e : Ending) (w' : World) : Prop := ∃ r : Int, e = .returned (.int .i64 r) ∧ decide (0 ≤ r) = (!allB n ok) ∧ Below w.heap.size w w'
def okTile (m : Nat) (xs : List Pl) (j : Nat) : Bool := match xs[j]? with
  | none => true
  | some e => inB e.t 0 (m - 1)
end Go.Proofs.Ytpnahobgmemdjaa
