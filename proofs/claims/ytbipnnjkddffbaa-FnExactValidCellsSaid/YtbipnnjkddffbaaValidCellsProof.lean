/- The law FnExactValidCells: for every input the call returns true and each argument reads behind the call as it did before. No condition. -/
import Derived.Test.YtbipnnjkddffbaaRows
import Derived.Test.YtbipnnjkddffbaaXValidCells
import Derived.Test.YtbipnnjkddffbaaLSg
import Derived.Test.YtbipnnjkddffbaaLJ
namespace Go.Proofs.Ytbipnnjkddffbaa
open Go.RowKit Go.ChangeShapes Go.WideShapes Go.ChangeAt
set_option linter.unusedSimpArgs false
set_option linter.unusedVariables false
set_option maxRecDepth 100000 in
theorem ValidCells_lifted (os : Os) (started : os.Started) (H : Type) (enc : TypeId × Value → H) :
    ReturnsInHanded {} Try.checked os 3 .any (Rows.fnExactValidCellsSpec.pre6 enc Try.prog Try.f3 Rows.fnExactValidCellsRow.domain false) (Rows.fnExactValidCellsSpec.post enc Try.prog Try.f3 false true false false) := by
  refine returnsInHanded_of_change (C := Try.checked) Try.own started (by kernel_rfl) Try.func3
    (ChangeSpec.witness6 (enc := enc) (C := Try.checked) false ⟨#[], #[.agg #[.slice none 0 0, .slice none 0 0], .slice none 0 0], []⟩ 8 (by kernel_rfl) (by kernel_rfl) (by kernel_rfl) (by kernel_rfl)) ?_
  intro W base args ds gs_ before hval0 hW hcnd _
  have hval : ∀ (j : Nat) t v, Try.f3.params[j]? = some t → args[j]? = some v → Value.okWide Try.prog W .any base t v := hval0
  have hW' := hW
  obtain ⟨p, q_, hA0, hV, rfl, hfz, hnd⟩ := hW
  have hA_ : DataW.TrodAll enc Try.prog W 0 (fun _ => true) true Try.f3.params.toList args.toList ds p := hA0
  rw [Try.params3] at hA_ hval
  have hA2 := hA_
  obtain ⟨v0, vs0, d0, ds0, p0, q0, hargs, rfl, rfl, h0, r0⟩ := trodAll_cons hA_
  obtain ⟨v1, vs1, d1, ds1, p1, q1, rfl, rfl, rfl, h1, r1⟩ := trodAll_cons r0
  obtain ⟨rfl, rfl, rfl⟩ := trodAll_nil r1
  obtain rfl : args = #[v0, v1] := by cases args; simp_all
  obtain ⟨rfl, rfl⟩ := trodVars_none hV
  obtain ⟨G, n, cg, gs, T, m, ct, ts, rfl, hG, hln, hgn, hT, hlm, htn⟩ := open_sgset (hval 0 _ v0 rfl rfl) h0
  obtain ⟨F, nf, cf, cs, rfl, hF, hlnf, hfn⟩ := open_cells (hval 1 _ v1 rfl rfl) h1
  clear hA0 hval0
  unfold maxLen at hln hgn hlm htn hlnf hfn
  refine (FnExactValidCells_any G n cg gs T m ct ts F nf cf cs W hG hT hln hlm hgn htn hF hlnf hfn).mono fun e W' ⟨he, bel⟩ => ?_
  subst he
  exact ⟨_, rfl, _, _, _, [], _, [], hW', trodAll_mk1 (shut_bool Try.underlying4 _), trodAll_below Try.laidOut bel (typesOk_spec (by kernel_rfl)) (fun x hx => hW'.lt x (by simpa using hx)) hA2, rfl, bel.frame _, fun h => by cases h⟩
set_option maxRecDepth 100000 in
theorem ValidCells_j1 : joined1 Try.prog 3 Try.f3 Rows.fnExactValidCellsSpec Rows.fnExactValidCellsRow = true := by kernel_rfl
set_option maxRecDepth 100000 in
theorem ValidCells_j2 : joined2 Try.prog 3 Try.f3 Rows.fnExactValidCellsSpec Rows.fnExactValidCellsRow = true := by kernel_rfl
set_option maxRecDepth 100000 in
theorem ValidCells_j3 : joined3 Try.prog 3 Try.f3 Rows.fnExactValidCellsSpec Rows.fnExactValidCellsRow = true := by kernel_rfl
theorem ValidCells_holds : Rows.FnExactValidCellsSaid :=
  OpenClaim.holds_of_wide 3 Try.f3 rfl rfl rfl rfl rfl rfl rfl ⟨rfl, rfl, rfl, rfl, rfl⟩ rfl rfl rfl rfl rfl (by kernel_rfl) Try.func3 (joined_of ValidCells_j1 ValidCells_j2 ValidCells_j3)
    (of_decide_eq_true (by kernel_rfl)) (by unfold Func.isWrapper; first | (rw [if_pos (by decide +kernel)]; kernel_rfl) | (rw [if_neg (by decide +kernel)]; exact ⟨rfl, rfl⟩))
    (fun os started H enc _ => ValidCells_lifted os started H enc)
end Go.Proofs.Ytbipnnjkddffbaa
