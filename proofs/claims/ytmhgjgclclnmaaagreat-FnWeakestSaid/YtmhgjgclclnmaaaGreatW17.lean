/- Walk: the program's CheckFlow. -/
import Derived.Test.YtmhgjgclclnmaaaGreatP2
import Derived.Test.YtmhgjgclclnmaaaGreatHTo
import Derived.Test.YtmhgjgclclnmaaaGreatW17a
namespace Go.Proofs.YtmhgjgclclnmaaaGreat
open Go.RowKit
set_option linter.unusedSimpArgs false
set_option linter.unusedVariables false
attribute [local go_sem] BelowBy.cell BelowBy.cell_drew stillUpon givesUpon

end Go.Proofs.YtmhgjgclclnmaaaGreat
