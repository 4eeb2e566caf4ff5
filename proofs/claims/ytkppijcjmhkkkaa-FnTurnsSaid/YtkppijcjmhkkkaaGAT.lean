import Derived.Test.YtkppijcjmhkkkaaGAS
import Derived.Test.YtkppijcjmhkkkaaGAQ
import Derived.Test.YtkppijcjmhkkkaaGAH
set_option linter.unusedSimpArgs false
set_option linter.unusedVariables false
/- Walks: the harness' marks on sets and assemblies. -/

namespace Go.Proofs.Ytkppijcjmhkkkaa
open Go.RowKit
attribute [local go_sem] BelowBy.cell BelowBy.cell_drew stillUpon givesUpon

theorem rowIs_size {w : World} {g N M : Nat} {T : TypeId} {f f' : Nat → Value} (h : w.rowIs g T N f) (k : w.rowIs g T M f') : N = M := by
  obtain ⟨c, hc, hs, _⟩ := h
  obtain ⟨c', hc', hs', _⟩ := k
  rw [hc] at hc'
  injection hc' with hc'
  injection hc' with hc'
  rw [← hs, ← hs', hc']
theorem rowIs_ne {w : World} {g b N M : Nat} {T U : TypeId} {f f' : Nat → Value} (h : w.rowIs g T N f) (k : w.rowIs b U M f') (hne : T ≠ U) : g ≠ b := by
  rintro rfl
  obtain ⟨c, hc, _⟩ := h
  obtain ⟨c', hc', _⟩ := k
  rw [hc] at hc'
  injection hc' with hc'
  injection hc' with _ ht
  exact hne ht
end Go.Proofs.Ytkppijcjmhkkkaa
/- Small words for the laws' walks. -/


namespace Go.Proofs.Ytkppijcjmhkkkaa
open Go.RowKit
theorem MkRow.lo_ {T : TypeId} {size lo lo' hi : Nat} {w : World} {A : Option Addr} {n : Nat} (h : MkRow T size lo hi w A n) (hl : lo' ≤ lo) : MkRow T size lo' hi w A n := fun hn => by
  obtain ⟨g, N, f, h1, h2, h3, h4, h5⟩ := h hn
  exact ⟨g, N, f, h1, Nat.le_trans hl h2, h3, h4, h5⟩
theorem MkTiles.lo_ {TT TI lo lo' hi : Nat} {w : World} {A : Option Addr} {m : Nat} (h : MkTiles TT TI lo hi w A m) (hl : lo' ≤ lo) : MkTiles TT TI lo' hi w A m := fun hm => by
  obtain ⟨g, N, f, h1, h2, h3, h4, h5, h6⟩ := h hm
  refine ⟨g, N, f, h1, Nat.le_trans hl h2, h3, h4, h5, fun k hk => ?_⟩
  obtain ⟨A', n', g1, g2, g3⟩ := h6 k hk
  exact ⟨A', n', g1, g2, g3.lo_ hl⟩
theorem ownsRow_mk {w w' : World} {base lo hi : Nat} {e : TypeId} {size : Nat} {v : Value} {n : Nat} {xs : List Value} (h : w.ownsRow base e size v n xs) (hm : Mk lo hi w w') (hl : hi ≤ base) : w'.ownsRow base e size v n xs :=
  ⟨h.1, h.2.imp id (fun ⟨g, cap, cur, h1, h2, h3, h4⟩ => ⟨g, cap, cur, h1, h2, (hm.keep g (by omega) (Array.getElem?_eq_some_iff.1 h3).1).trans h3, h4⟩)⟩
end Go.Proofs.Ytkppijcjmhkkkaa
/- Walks: the harness' marks on rows of points, what they leave, and what 'held' says of it. -/



namespace Go.Proofs.Ytkppijcjmhkkkaa
open Go.RowKit
attribute [local go_sem] BelowBy.cell BelowBy.cell_drew stillUpon givesUpon

theorem rdPts {W : World} {base : Nat} {A : Option Addr} {n c : Nat} {bs : List Pt} (h : W.ownsRow base 49 2 (.slice A n c) n (ptCells bs)) (hn : n = bs.length := by rfl) : RdSl 2 RPt W A n bs := by
  subst hn
  obtain ⟨A', cap, e, h'⟩ := rdPt_of_row h
  injection e with e1 e2 e3
  subst e1
  exact h'
end Go.Proofs.Ytkppijcjmhkkkaa
