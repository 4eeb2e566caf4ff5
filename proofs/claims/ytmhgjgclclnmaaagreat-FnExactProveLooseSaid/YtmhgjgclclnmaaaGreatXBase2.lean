/- Small words for the laws' walks: rows of numbers. -/
import Derived.Test.YtmhgjgclclnmaaaGreatXBase
import Derived.Test.YtmhgjgclclnmaaaGreatW25
namespace Go.Proofs.YtmhgjgclclnmaaaGreat
open Go.RowKit
set_option linter.unusedSimpArgs false
set_option linter.unusedVariables false
end Go.Proofs.YtmhgjgclclnmaaaGreat
