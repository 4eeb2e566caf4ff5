/- Walks: the harness on rows of assemblies: it compares them and marks them. -/
import Derived.Test.YtpnahobgmemdjaaN2
import Derived.Test.YtpnahobgmemdjaaW1
import Derived.Test.YtpnahobgmemdjaaBase2
import Derived.Test.YtpnahobgmemdjaaKH
namespace Go.Proofs.Ytpnahobgmemdjaa
open Go.RowKit
set_option linter.unusedSimpArgs false
set_option linter.unusedVariables false
attribute [local go_sem] BelowBy.cell BelowBy.cell_drew stillUpon givesUpon

theorem rdAssemblyS {W : World} {base : Nat} {A : Option Addr} {n c : Nat} {us : List Value} {P : List (List Pl)} (h : Own2 W base 26 38 3 (.slice A n c) us (P.map plCells)) (hn : n = P.length := by rfl) : RdSl 1 (RRow 3 RPl) W A n P := by
  refine h.rd hn (fun u m xs hx hown => ?_)
  have hl := hown.1
  rw [plCells_len] at hl
  obtain ⟨A', c', rfl⟩ := ownsRow_form hown
  exact ⟨A', m, c', rfl, rdPl hown (by omega)⟩
theorem nrowsAssemblyS {W : World} {base : Nat} {A : Option Addr} {n c : Nat} {us : List Value} {P : List (List Pl)} (h : Own2 W base 26 38 3 (.slice A n c) us (P.map plCells)) : NRows 38 3 base W.heap.size W A us (P.map List.length) := by
  refine NRows.of h (by decide) (by simp) (fun j r m hr hm => ?_)
  rw [List.getElem?_map] at hr hm
  cases hg : P[j]? with
  | none => rw [hg] at hr; cases hr
  | some l =>
    rw [hg] at hr hm
    simp at hr hm
    rw [← hr, ← hm, plCells_len]
/-- rows that are few and short -/
structure SmallAssemblyS (P : List (List Pl)) : Prop where
  n : P.length ≤ 1073741824
  e : ∀ r ∈ P, r.length ≤ 1073741824
  s : 3 * (P.map List.length).sum ≤ 1073741824
end Go.Proofs.Ytpnahobgmemdjaa
