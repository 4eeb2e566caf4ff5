/- Walks: the reference's check of a set. -/
import Derived.Test.YtpnahobgmemdjaaW5
namespace Go.Proofs.Ytpnahobgmemdjaa
open Go.RowKit
set_option linter.unusedSimpArgs false
set_option linter.unusedVariables false
attribute [local go_sem] BelowBy.cell BelowBy.cell_drew stillUpon givesUpon
theorem neq_t {r a : Int} {b : Bool} (h : (r == a) = b) (hb : b = true) : (r != a) = false := by subst hb; simpa using h
theorem neq_f {r a : Int} {b : Bool} (h : (r == a) = b) (hb : b = false) : (r != a) = true := by subst hb; simpa using h
theorem okGl_eq {gs : List Gl} {j : Nat} {g : Gl} (h : gs[j]? = some g) : okGl gs j = (isNameB g.name && (inB g.s 1 4 && freshG gs j)) := by unfold okGl; rw [h]
theorem okTi_eq {n : Nat} {ts : List Ti} {j : Nat} {t : Ti} (h : ts[j]? = some t) : okTi n ts j = (isNameB t.name && (decide (t.sides.length = 4) && (freshT ts j && allB t.sides.length (okSide n t.sides)))) := by unfold okTi; rw [h]
theorem validSetB_gl {gs : List Gl} {ts : List Ti} {k : Nat} (hk : k < gs.length) (h : okGl gs k = false) : validSetB gs ts = false := by
  unfold validSetB; rw [allB_false hk h]; simp
theorem validSetB_ti {gs : List Gl} {ts : List Ti} {k : Nat} (hk : k < ts.length) (h : okTi gs.length ts k = false) : validSetB gs ts = false := by
  unfold validSetB; rw [allB_false hk h]; simp
theorem validSetB_ok {gs : List Gl} {ts : List Ti} (h1 : gs.length ≤ 200) (h2 : 1 ≤ ts.length) (h3 : ts.length ≤ 160) (hg : ∀ j, j < gs.length → okGl gs j = true) (ht : ∀ j, j < ts.length → okTi gs.length ts j = true) : validSetB gs ts = true := by
  unfold validSetB; rw [allB_true hg, allB_true ht]; simp [h1, h2, h3]
theorem validSetB_size {gs : List Gl} {ts : List Ti} (h : ¬ (gs.length ≤ 200 ∧ 1 ≤ ts.length ∧ ts.length ≤ 160)) : validSetB gs ts = false := by
  unfold validSetB
  have : (decide (gs.length ≤ 200) && (decide (1 ≤ ts.length) && decide (ts.length ≤ 160))) = false := by
    rw [Bool.eq_false_iff]; intro hh; apply h; simpa using hh
  rw [this]; rfl
end Go.Proofs.Ytpnahobgmemdjaa
