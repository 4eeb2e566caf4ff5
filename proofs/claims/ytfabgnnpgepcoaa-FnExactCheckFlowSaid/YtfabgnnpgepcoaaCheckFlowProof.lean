/- The law FnExactCheckFlow: for every input the call returns true and each argument reads behind the call as it did before. No condition. -/
import Derived.Test.YtfabgnnpgepcoaaRows
import Derived.Test.YtfabgnnpgepcoaaW19
import Derived.Test.YtfabgnnpgepcoaaL2
namespace Go.Proofs.Ytfabgnnpgepcoaa
open Go.RowKit Go.ChangeShapes Go.WideShapes Go.ChangeAt
set_option linter.unusedSimpArgs false
set_option linter.unusedVariables false
set_option maxRecDepth 100000 in
theorem CheckFlow_lifted (os : Os) (started : os.Started) (H : Type) (enc : TypeId × Value → H) :
    ReturnsInHanded {} Try.checked os 3 .any (Rows.fnExactCheckFlowSpec.pre6 enc Try.prog Try.f3 Rows.fnExactCheckFlowRow.domain false) (Rows.fnExactCheckFlowSpec.post enc Try.prog Try.f3 false true false false) := by
  refine returnsInHanded_of_change (C := Try.checked) Try.own started (by kernel_rfl) Try.func3
    (ChangeSpec.witness6 (enc := enc) (C := Try.checked) false ⟨#[], #[.agg #[.slice none 0 0, .slice none 0 0], .agg #[.slice none 0 0], .int .i64 0, .int .i64 0, .slice none 0 0], []⟩ 8 (by kernel_rfl) (by kernel_rfl) (by kernel_rfl) (by kernel_rfl)) ?_
  intro W base args ds gs before hval0 hW hcnd _
  have hval : ∀ (j : Nat) t v, Try.f3.params[j]? = some t → args[j]? = some v → Value.okWide Try.prog W .any base t v := hval0
  have hW' := hW
  obtain ⟨p, q, hA0, hV, rfl, hfz, hnd⟩ := hW
  have hA : DataW.TrodAll enc Try.prog W 0 (fun _ => true) true Try.f3.params.toList args.toList ds p := hA0
  rw [Try.params3] at hA hval
  have hA2 := hA
  obtain ⟨v0, vs0, d0, ds0, p0, q0, hargs, rfl, rfl, h0, r0⟩ := trodAll_cons hA
  obtain ⟨v1, vs1, d1, ds1, p1, q1, rfl, rfl, rfl, h1, r1⟩ := trodAll_cons r0
  obtain ⟨v2, vs2, d2, ds2, p2, q2, rfl, rfl, rfl, h2, r2⟩ := trodAll_cons r1
  obtain ⟨v3, vs3, d3, ds3, p3, q3, rfl, rfl, rfl, h3, r3⟩ := trodAll_cons r2
  obtain ⟨v4, vs4, d4, ds4, p4, q4, rfl, rfl, rfl, h4, r4⟩ := trodAll_cons r3
  obtain ⟨rfl, rfl, rfl⟩ := trodAll_nil r4
  obtain rfl : args = #[v0, v1, v2, v3, v4] := by cases args; simp_all
  obtain ⟨rfl, rfl⟩ := trodVars_none hV
  obtain ⟨G, n, cg, gs, T, m, ct, ts, rfl, hG, hn, hgn, hT, hm, htn⟩ := open_set (hval 0 _ v0 rfl rfl) h0
  obtain ⟨A, q, ca, xs, rfl, hX, hq, _⟩ := open_asm (hval 1 _ v1 rfl rfl) h1
  obtain ⟨x, rfl, _, _, wx⟩ := open_int Try.underlying2 (hval 2 _ v2 rfl rfl) h2
  obtain ⟨y, rfl, _, _, wy⟩ := open_int Try.underlying2 (hval 3 _ v3 rfl rfl) h3
  obtain ⟨F, nf, cf, fl, rfl, hF, hnf, _⟩ := open_ints_ (hval 4 _ v4 rfl rfl) h4
  clear hA0 hval0
  unfold maxLen at hn hgn hm htn hq hnf
  refine (FnExactCheckFlow_any G T A F n cg m ct q ca nf cf gs ts xs fl x y W hG hT hX hF hn hm hq hnf hgn htn).mono fun e W' ⟨he, bel⟩ => ?_
  subst he
  exact ⟨_, rfl, _, _, _, [], _, [], hW', trodAll_mk1 (shut_bool Try.underlying4 _), trodAll_below Try.laidOut bel (typesOk_spec (by kernel_rfl)) (fun x hx => hW'.lt x (by simpa using hx)) hA2, rfl, bel.frame _, fun h => by cases h⟩
theorem CheckFlow_holds : Rows.FnExactCheckFlowSaid :=
  OpenClaim.holds_of_wide 3 Try.f3 rfl rfl rfl rfl rfl rfl rfl ⟨rfl, rfl, rfl, rfl, rfl⟩ rfl rfl rfl rfl rfl (by kernel_rfl) Try.func3 (by kernel_rfl)
    (of_decide_eq_true (by kernel_rfl)) (by unfold Func.isWrapper; first | (rw [if_pos (by decide +kernel)]; kernel_rfl) | (rw [if_neg (by decide +kernel)]; exact ⟨rfl, rfl⟩))
    (fun os started H enc _ => CheckFlow_lifted os started H enc)
end Go.Proofs.Ytfabgnnpgepcoaa
