/- Walks: placeAt, cutCode. -/
import Derived.Test.YtpnahobgmemdjaaW12
namespace Go.Proofs.Ytpnahobgmemdjaa
open Go.RowKit
set_option linter.unusedSimpArgs false
set_option linter.unusedVariables false
attribute [local go_sem] BelowBy.cell BelowBy.cell_drew stillUpon givesUpon

def cutCodeI (v : Bool) (n x y : Int) : Int := if v then (if inB x 0 (n - 1) && (inB y 0 (n - 1) && !(x == y)) then 0 else 2) else 1
end Go.Proofs.Ytpnahobgmemdjaa
