/- Walks: the reference's move of an assembly. -/
import Derived.Test.YthieodccakphiaaGreatW33
namespace Go.Proofs.YthieodccakphiaaGreat
open Go.RowKit Go.Shelf
set_option linter.unusedSimpArgs false
set_option linter.unusedVariables false
attribute [local go_sem] BelowBy.cell BelowBy.cell_drew stillUpon givesUpon BelowBy.cell_drew2 BelowBy.cell_drew3

def okMv (dx dy : Int) (xs : List Pl) (k : Nat) : Bool := match xs[k]? with
  | some e => validPt (e.x + dx) (e.y + dy)
  | none => true
theorem okMv_eq {dx dy : Int} {xs : List Pl} {k : Nat} {e : Pl} (h : xs[k]? = some e) : okMv dx dy xs k = validPt (e.x + dx) (e.y + dy) := by unfold okMv; rw [h]
def mvOk (dx dy : Int) (xs : List Pl) : Bool := allB xs.length (okMv dx dy xs)
theorem mvOk_no {dx dy : Int} {xs : List Pl} {k : Nat} {e : Pl} (h : xs[k]? = some e) (hv : validPt (e.x + dx) (e.y + dy) = false) : mvOk dx dy xs = false :=
  allB_false (lt_of_get h) ((okMv_eq h).trans hv)
theorem mvL_take_succ {dx dy : Int} {xs : List Pl} {k : Nat} {e : Pl} (h : xs[k]? = some e) : mvL dx dy (xs.take (k + 1)) = mvL dx dy (xs.take k) ++ [⟨e.x + dx, e.y + dy, e.t⟩] := by
  obtain ⟨hk, rfl⟩ := List.getElem?_eq_some_iff.1 h
  unfold mvL
  rw [List.take_succ_eq_append_getElem hk, List.map_append]; rfl
def MvRes (w : World) (dx dy : Int) (xs : List Pl) (e : Ending) (w' : World) : Prop :=
  ∃ B m c', e = .returned (.tuple #[.agg #[.slice B m c'], .bool (mvOk dx dy xs)]) ∧ (mvOk dx dy xs = true → m = xs.length ∧ RdSl 3 RPl w' B m (mvL dx dy xs) ∧ ∀ b o, B = some ⟨b, o, none⟩ → w.heap.size ≤ b) ∧ Below w.heap.size w w'
def MvOwn (w : World) (dx dy : Int) (xs : List Pl) (e : Ending) (w' : World) : Prop :=
  ∃ B m c', e = .returned (.tuple #[.agg #[.slice B m c'], .bool (mvOk dx dy xs)]) ∧ (mvOk dx dy xs = true → m = xs.length ∧ w'.ownsRow w.heap.size 108 3 (.slice B m c') m (plCells (mvL dx dy xs))) ∧ Below w.heap.size w w'
end Go.Proofs.YthieodccakphiaaGreat
