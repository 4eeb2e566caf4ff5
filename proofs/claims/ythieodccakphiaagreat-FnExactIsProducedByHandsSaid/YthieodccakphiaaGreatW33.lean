/- Walks: an assembly copied; moved by a step. -/
import Derived.Test.YthieodccakphiaaGreatW24
import Derived.Test.YthieodccakphiaaGreatHTo
import Derived.Test.YthieodccakphiaaGreatPlC
import Derived.Lib.LazyBuf
import Derived.Lib.SliceRun
namespace Go.Proofs.YthieodccakphiaaGreat
open Go.RowKit Go.Shelf
set_option linter.unusedSimpArgs false
set_option linter.unusedVariables false
attribute [local go_sem] BelowBy.cell BelowBy.cell_drew stillUpon givesUpon BelowBy.cell_drew2 BelowBy.cell_drew3

def mvP (dx dy : Int) (e : Pl) : Pl := ⟨e.x + dx, e.y + dy, e.t⟩
def mvL (dx dy : Int) (xs : List Pl) : List Pl := xs.map (mvP dx dy)
theorem mvL_get {dx dy : Int} {xs : List Pl} {k : Nat} {e : Pl} (h : xs[k]? = some e) : (mvL dx dy xs)[k]? = some (mvP dx dy e) := by
  unfold mvL; rw [List.getElem?_map, h]; rfl
theorem mvL_len (dx dy : Int) (xs : List Pl) : (mvL dx dy xs).length = xs.length := by simp [mvL]
end Go.Proofs.YthieodccakphiaaGreat
