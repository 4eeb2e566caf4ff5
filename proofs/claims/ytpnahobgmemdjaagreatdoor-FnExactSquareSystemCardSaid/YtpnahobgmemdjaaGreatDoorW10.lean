/- Walks: the checks of an assembly. -/
import Derived.Test.YtpnahobgmemdjaaGreatDoorW9
namespace Go.Proofs.YtpnahobgmemdjaaGreatDoor
open Go.RowKit
set_option linter.unusedSimpArgs false
set_option linter.unusedVariables false
attribute [local go_sem] BelowBy.cell BelowBy.cell_drew stillUpon givesUpon
/-- what the program asks of a set and an assembly -/
def validAsmB (gs : List Gl) (ts : List Ti) (xs : List Pl) : Bool := validSetB gs ts && (hasFormB xs && allB xs.length (okTile ts.length xs))
/-- An assembly lies in block p. -/
structure AsmAt (w : World) (p op : Nat) (xs : List Pl) : Prop where
  lt : p < w.heap.size
  tl : ∃ A n c, w.cell? ⟨p, op, none⟩ = some (.slice A n c) ∧ RdSl 3 RPl w A n xs
theorem AsmAt.below {op : Nat} {w w' : World} {p : Nat} {xs : List Pl} (h : AsmAt w p op xs) (hb : Below w.heap.size w w') : AsmAt w' p op xs := by
  obtain ⟨A, n, c, h1, h2⟩ := h.tl
  exact ⟨Nat.lt_of_lt_of_le h.lt hb.size, ⟨A, n, c, (hb.cell (p := ⟨p, op, none⟩) h.lt).trans h1, h2.below RPl.stable hb⟩⟩
theorem okPl_eq0 {xs : List Pl} {e : Pl} (h : xs[0]? = some e) : okPl xs 0 = (validPt e.x e.y && inB e.t 0 159) := by
  unfold okPl; rw [h]; simp
theorem okPl_eqS {xs : List Pl} {k : Nat} {e d : Pl} (h : xs[k + 1]? = some e) (hd : xs[k]? = some d) : okPl xs (k + 1) = (validPt e.x e.y && inB e.t 0 159 && lessPt d.x d.y e.x e.y) := by
  unfold okPl; rw [h]; simp only [hd]
theorem hasFormB_bad {xs : List Pl} {k : Nat} (hk : k < xs.length) (h : okPl xs k = false) : hasFormB xs = false := by
  unfold hasFormB; rw [allB_false hk h]; rfl
theorem hasFormB_ok {xs : List Pl} (h1 : xs.length ≤ 500) (h : ∀ j, j < xs.length → okPl xs j = true) : hasFormB xs = true := by
  unfold hasFormB; rw [allB_true h]; simpa using h1
theorem hasFormB_long {xs : List Pl} (h1 : ¬ xs.length ≤ 500) : hasFormB xs = false := by
  unfold hasFormB; rw [decide_eq_false h1]; simp
end Go.Proofs.YtpnahobgmemdjaaGreatDoor
