import Derived.Test.YtkppijcjmhkkkaaGAQ
import Derived.Test.YtkppijcjmhkkkaaGAD
import Derived.Test.YtkppijcjmhkkkaaGAN
import Derived.Lib.LazyBuf
import Derived.Lib.SliceRun
set_option linter.unusedSimpArgs false
set_option linter.unusedVariables false
/- Walks: with what strength a tile binds at a point, by the program and by the reference. -/

namespace Go.Proofs.Ytkppijcjmhkkkaa
open Go.RowKit Go.Shelf
attribute [local go_sem] BelowBy.cell BelowBy.cell_drew stillUpon givesUpon BelowBy.cell_drew2 BelowBy.cell_drew3

theorem bindN_succ_none {gs : List Gl} {ts : List Ti} {xs : List Pl} {x y S : Int} {t k : Nat} (hS : bindN gs ts xs x y t k = S) (h : atI xs (stepX x k) (stepY y k) = -1) : bindN gs ts xs x y t (k + 1) = S := by
  simp only [bindN]; rw [hS, h, if_neg (by decide)]; omega
theorem bindN_succ_some {gs : List Gl} {ts : List Ti} {xs : List Pl} {x y S r : Int} {t k t2 : Nat} (hS : bindN gs ts xs x y t k = S) (h : atI xs (stepX x k) (stepY y k) = t2) (hr : bondI gs ts t k t2 = r) : bindN gs ts xs x y t (k + 1) = S + r := by
  simp only [bindN]; rw [hS, h, if_pos (by omega)]
  have : ((t2 : Nat) : Int).toNat = t2 := by omega
  rw [this, hr]
end Go.Proofs.Ytkppijcjmhkkkaa
/- Walks: an assembly copied; moved by a step. -/





namespace Go.Proofs.Ytkppijcjmhkkkaa
open Go.RowKit Go.Shelf
attribute [local go_sem] BelowBy.cell BelowBy.cell_drew stillUpon givesUpon BelowBy.cell_drew2 BelowBy.cell_drew3

def mvP (dx dy : Int) (e : Pl) : Pl := ⟨e.x + dx, e.y + dy, e.t⟩
def mvL (dx dy : Int) (xs : List Pl) : List Pl := xs.map (mvP dx dy)
theorem mvL_get {dx dy : Int} {xs : List Pl} {k : Nat} {e : Pl} (h : xs[k]? = some e) : (mvL dx dy xs)[k]? = some (mvP dx dy e) := by
  unfold mvL; rw [List.getElem?_map, h]; rfl
theorem mvL_len (dx dy : Int) (xs : List Pl) : (mvL dx dy xs).length = xs.length := by simp [mvL]
end Go.Proofs.Ytkppijcjmhkkkaa
/- Walks: the reference's move of an assembly. -/

namespace Go.Proofs.Ytkppijcjmhkkkaa
open Go.RowKit Go.Shelf
attribute [local go_sem] BelowBy.cell BelowBy.cell_drew stillUpon givesUpon BelowBy.cell_drew2 BelowBy.cell_drew3

def okMv (dx dy : Int) (xs : List Pl) (k : Nat) : Bool := match xs[k]? with
  | some e => validPt (e.x + dx) (e.y + dy)
  | none => true
theorem okMv_eq {dx dy : Int} {xs : List Pl} {k : Nat} {e : Pl} (h : xs[k]? = some e) : okMv dx dy xs k = validPt (e.x + dx) (e.y + dy) := by unfold okMv; rw [h]
def mvOk (dx dy : Int) (xs : List Pl) : Bool := allB xs.length (okMv dx dy xs)
theorem mvOk_no {dx dy : Int} {xs : List Pl} {k : Nat} {e : Pl} (h : xs[k]? = some e) (hv : validPt (e.x + dx) (e.y + dy) = false) : mvOk dx dy xs = false :=
  allB_false (lt_of_get h) ((okMv_eq h).trans hv)
theorem mvL_take_succ {dx dy : Int} {xs : List Pl} {k : Nat} {e : Pl} (h : xs[k]? = some e) : mvL dx dy (xs.take (k + 1)) = mvL dx dy (xs.take k) ++ [⟨e.x + dx, e.y + dy, e.t⟩] := by
  obtain ⟨hk, rfl⟩ := List.getElem?_eq_some_iff.1 h
  unfold mvL
  rw [List.take_succ_eq_append_getElem hk, List.map_append]; rfl
def MvRes (w : World) (dx dy : Int) (xs : List Pl) (e : Ending) (w' : World) : Prop :=
  ∃ B m c', e = .returned (.tuple #[.agg #[.slice B m c'], .bool (mvOk dx dy xs)]) ∧ (mvOk dx dy xs = true → m = xs.length ∧ RdSl 3 RPl w' B m (mvL dx dy xs) ∧ ∀ b o, B = some ⟨b, o, none⟩ → w.heap.size ≤ b) ∧ Below w.heap.size w w'
end Go.Proofs.Ytkppijcjmhkkkaa
