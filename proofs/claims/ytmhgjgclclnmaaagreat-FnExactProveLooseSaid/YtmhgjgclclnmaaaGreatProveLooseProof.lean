/- The law FnExactProveLoose: for every input the call returns true and each argument reads behind the call as it did before. No condition. -/
import Derived.Test.YtmhgjgclclnmaaaGreatRows
import Derived.Test.YtmhgjgclclnmaaaGreatXProveLoose
import Derived.Test.YtmhgjgclclnmaaaGreatKL
namespace Go.Proofs.YtmhgjgclclnmaaaGreat
open Go.RowKit Go.ChangeShapes Go.WideShapes Go.ChangeAt
set_option linter.unusedSimpArgs false
set_option linter.unusedVariables false
set_option maxRecDepth 100000 in
theorem ProveLoose_lifted (os : Os) (started : os.Started) (H : Type) (enc : TypeId × Value → H) :
    ReturnsInHanded {} Tryz.checked os 5 .any (Rows.fnExactProveLooseSpec.pre6 enc Tryz.prog Tryz.f5 Rows.fnExactProveLooseRow.domain false) (Rows.fnExactProveLooseSpec.post enc Tryz.prog Tryz.f5 false true false false) := by
  refine returnsInHanded_of_change (C := Tryz.checked) Tryz.own started (by kernel_rfl) Tryz.func5
    (ChangeSpec.witness6 (enc := enc) (C := Tryz.checked) false ⟨#[], #[.agg #[.slice none 0 0, .slice none 0 0, .slice none 0 0, .int .i64 0], .agg #[.slice none 0 0]], []⟩ 8 (by kernel_rfl) (by kernel_rfl) (by kernel_rfl) (by kernel_rfl)) ?_
  intro W base args ds gs_ before hval0 hW hcnd _
  have hval : ∀ (j : Nat) t v, Tryz.f5.params[j]? = some t → args[j]? = some v → Value.okWide Tryz.prog W .any base t v := hval0
  have hW' := hW
  obtain ⟨p, q_, hA0, hV, rfl, hfz, hnd⟩ := hW
  have hA_ : DataW.TrodAll enc Tryz.prog W 0 (fun _ => true) true Tryz.f5.params.toList args.toList ds p := hA0
  rw [Tryz.params5] at hA_ hval
  have hA2 := hA_
  obtain ⟨v0, vs0, d0, ds0, p0, q0, hargs, rfl, rfl, h0, r0⟩ := trodAll_cons hA_
  obtain ⟨v1, vs1, d1, ds1, p1, q1, rfl, rfl, rfl, h1, r1⟩ := trodAll_cons r0
  obtain ⟨rfl, rfl, rfl⟩ := trodAll_nil r1
  obtain rfl : args = #[v0, v1] := by cases args; simp_all
  obtain ⟨rfl, rfl⟩ := trodVars_none hV
  obtain ⟨G, n, cg, gs, T, m, ct, ts, A, q, ca, xs, t, rfl, hG, hln, hgn, hT, hlm, htn, hA, hlq⟩ := open_sys (hval 0 _ v0 rfl rfl) h0
  obtain ⟨C, nb, cb, ys, rfl, hC, hlnb, _⟩ := open_asm (hval 1 _ v1 rfl rfl) h1
  clear hA0 hval0
  unfold maxLen at hln hgn hlm htn hlq hlnb
  refine (FnExactProveLoose_any G n cg gs T m ct ts A q ca xs t C nb cb ys W hG hT hln hlm hgn htn hA hlq hC hlnb).mono fun e W' ⟨he, bel⟩ => ?_
  subst he
  exact ⟨_, rfl, _, _, _, [], _, [], hW', trodAll_mk1 (shut_bool Tryz.underlying4 _), trodAll_below Tryz.laidOut bel (typesOk_spec (by kernel_rfl)) (fun x hx => hW'.lt x (by simpa using hx)) hA2, rfl, bel.frame _, fun h => by cases h⟩
set_option maxRecDepth 100000 in
theorem ProveLoose_j1 : joined1 Tryz.prog 5 Tryz.f5 Rows.fnExactProveLooseSpec Rows.fnExactProveLooseRow = true := by kernel_rfl
set_option maxRecDepth 100000 in
theorem ProveLoose_j2 : joined2 Tryz.prog 5 Tryz.f5 Rows.fnExactProveLooseSpec Rows.fnExactProveLooseRow = true := by kernel_rfl
set_option maxRecDepth 100000 in
theorem ProveLoose_j3 : joined3 Tryz.prog 5 Tryz.f5 Rows.fnExactProveLooseSpec Rows.fnExactProveLooseRow = true := by kernel_rfl
theorem ProveLoose_holds : Rows.FnExactProveLooseSaid :=
  OpenClaim.holds_of_wide 5 Tryz.f5 rfl rfl rfl rfl rfl rfl rfl ⟨rfl, rfl, rfl, rfl, rfl⟩ rfl rfl rfl rfl rfl (by kernel_rfl) Tryz.func5 (joined_of ProveLoose_j1 ProveLoose_j2 ProveLoose_j3)
    (of_decide_eq_true (by kernel_rfl)) (by unfold Func.isWrapper; first | (rw [if_pos (by decide +kernel)]; kernel_rfl) | (rw [if_neg (by decide +kernel)]; exact ⟨rfl, rfl⟩))
    (fun os started H enc _ => ProveLoose_lifted os started H enc)
end Go.Proofs.YtmhgjgclclnmaaaGreat
