/- Small words for the laws' walks. -/
import Derived.Test.YtmhgjgclclnmaaaGreatW20
import Derived.Test.YtmhgjgclclnmaaaGreatKH
namespace Go.Proofs.YtmhgjgclclnmaaaGreat
open Go.RowKit
set_option linter.unusedSimpArgs false
set_option linter.unusedVariables false
theorem bondsOfR_len (gs : List Gl) (ts : List Ti) (xs : List Pl) : (bondsOfR gs ts xs).1.length ≤ 1073741824 := by
  unfold bondsOfR
  split
  · rename_i h
    have := bondsL_len (valid_of h)
    show (bondsL gs ts xs).length ≤ _
    omega
  · simp
end Go.Proofs.YtmhgjgclclnmaaaGreat
