/- Walks: the reference on assemblies: valid, index, neighbors, bonds' strengths. -/
import Derived.Test.YtpnahobgmemdjaaGreatDoorP1
namespace Go.Proofs.YtpnahobgmemdjaaGreatDoor
open Go.RowKit
set_option linter.unusedSimpArgs false
set_option linter.unusedVariables false
attribute [local go_sem] BelowBy.cell BelowBy.cell_drew stillUpon givesUpon
def codeB (b : Bool) : Int := if b then 0 else 1
end Go.Proofs.YtpnahobgmemdjaaGreatDoor
