/- The law FnExactDecodeSorter: for every input the call returns true and each argument reads behind the call as it did before. No condition. -/
import Derived.Test.YtglcpphfmmnmkaaGreatDoorRows
import Derived.Test.YtglcpphfmmnmkaaGreatDoorXDecodeSorter
import Derived.Test.YtglcpphfmmnmkaaGreatDoorKL
import Derived.Test.YtglcpphfmmnmkaaGreatDoorCards
import Derived.Test.YtglcpphfmmnmkaaGreatDoorTie
import Derived.ProofKit
import Derived.LaidMore
import Derived.OpenShut
import Derived.SevenTiedAt
namespace Go.Proofs.YtglcpphfmmnmkaaGreatDoor
open Go.RowKit Go.ChangeShapes Go.WideShapes Go.ChangeAt
set_option linter.unusedSimpArgs false
set_option linter.unusedVariables false
def sorterLaid : List (String × DataW Unit) := [("math/bits.deBruijn32tab", Rows.laid_math_bits_deBruijn32tab), ("math/bits.deBruijn64tab", Rows.laid_math_bits_deBruijn64tab), ("internal/strconv.uint64pow10", Rows.laid_internal_strconv_uint64pow10)]
theorem sorter_met (os : Os) (args : Array Value) : laidMetH Tryz.prog sorterLaid ((World.doorLaid Tryz.prog 400 os).forCall (fun _ _ => 0) ⟨#[], args, []⟩).memory :=
  laidMetH_of_parts3 (fuel := 8) (laidMet_of_run' 8 (by kernel_rfl) (by kernel_rfl)) (by kernel_rfl) (by kernel_rfl)
set_option maxRecDepth 100000 in
theorem DecodeSorter_lifted (os : Os) (started : os.Started) (H : Type) (enc : TypeId × Value → H) :
    ReturnsInHanded {} Tryz.checked os 3 .any (fun w args => (Rows.fnExactDecodeSorterSpec.pre enc Tryz.prog Tryz.f3 [] false w args ∧ laidMetH Tryz.prog sorterLaid w) ∧ sizedMet enc Tryz.prog Tryz.f3 (OpenSpec.ofChange Rows.fnExactDecodeSorterSpec) false w args) (Rows.fnExactDecodeSorterSpec.post enc Tryz.prog Tryz.f3 false true false false) := by
  refine returnsInHanded_of_change_and (C := Tryz.checked) (X := fun w _ => laidMetH Tryz.prog sorterLaid w) (fun _ _ _ hh h => h.of_heap hh) Tryz.own started (by kernel_rfl) Tryz.func3
    (ChangeSpec.witness_shaped (enc := enc) (C := Tryz.checked) (os := os) (X := fun w _ => laidMetH Tryz.prog sorterLaid w) false (World.doorLaid Tryz.prog 400 os) #[.agg #[.slice none 0 0, .slice none 0 0, .slice none 0 0, .int .i64 0], .agg #[.slice none 0 0], .int .i64 0] 8 rfl (World.shaped_of_RefB (by kernel_rfl) (by kernel_rfl)) (by kernel_rfl) (by kernel_rfl) (by kernel_rfl) (sorter_met os _)) ?_
  intro W base args ds gs_ before hval0 hW hcnd _ _ _
  have hval : ∀ (j : Nat) t v, Tryz.f3.params[j]? = some t → args[j]? = some v → Value.okWide Tryz.prog W .any base t v := hval0
  have hW' := hW
  obtain ⟨p, q_, hA0, hV, rfl, hfz, hnd⟩ := hW
  have hA_ : DataW.TrodAll enc Tryz.prog W 0 (fun _ => true) true Tryz.f3.params.toList args.toList ds p := hA0
  rw [Tryz.params3] at hA_ hval
  have hA2 := hA_
  obtain ⟨v0, vs0, d0, ds0, p0, q0, hargs, rfl, rfl, h0, r0⟩ := trodAll_cons hA_
  obtain ⟨v1, vs1, d1, ds1, p1, q1, rfl, rfl, rfl, h1, r1⟩ := trodAll_cons r0
  obtain ⟨v2, vs2, d2, ds2, p2, q2, rfl, rfl, rfl, h2, r2⟩ := trodAll_cons r1
  obtain ⟨rfl, rfl, rfl⟩ := trodAll_nil r2
  obtain rfl : args = #[v0, v1, v2] := by cases args; simp_all
  obtain ⟨rfl, rfl⟩ := trodVars_none hV
  obtain ⟨G, n, cg, gs, T, m, ct, ts, A, q, ca, xs, t, rfl, hG, hln, hgn, hT, hlm, htn, hA, hlq⟩ := open_sys (hval 0 _ v0 rfl rfl) h0
  obtain ⟨C, nb, cb, ys, rfl, hC, hlnb, _⟩ := open_asm (hval 1 _ v1 rfl rfl) h1
  obtain ⟨count, rfl, _, _, hcount⟩ := open_int Tryz.underlying2 (hval 2 _ v2 rfl rfl) h2
  clear hA0 hval0
  unfold maxLen at hln hgn hlm htn hlq hlnb
  refine (FnExactDecodeSorter_any G n cg gs T m ct ts A q ca xs t C nb cb ys count W hG hT hln hlm hgn htn hA hlq hC hlnb ).mono fun e W' ⟨he, bel⟩ => ?_
  subst he
  exact ⟨_, rfl, _, _, _, [], _, [], hW', trodAll_mk1 (shut_bool Tryz.underlying4 _), trodAll_below Tryz.laidOut bel (typesOk_spec (by kernel_rfl)) (fun x hx => hW'.lt x (by simpa using hx)) hA2, rfl, bel.frame _, fun h => by cases h⟩
set_option maxRecDepth 100000 in
theorem DecodeSorter_j1 : joined1 Tryz.prog 3 Tryz.f3 Rows.fnExactDecodeSorterSpec Rows.fnExactDecodeSorterRow = true := by kernel_rfl
set_option maxRecDepth 100000 in
theorem DecodeSorter_j2 : joined2 Tryz.prog 3 Tryz.f3 Rows.fnExactDecodeSorterSpec Rows.fnExactDecodeSorterRow = true := by kernel_rfl
set_option maxRecDepth 100000 in
theorem DecodeSorter_j3 : joined3 Tryz.prog 3 Tryz.f3 Rows.fnExactDecodeSorterSpec Rows.fnExactDecodeSorterRow = true := by kernel_rfl
theorem DecodeSorter_holds : Rows.FnExactDecodeSorterSaid :=
  OpenClaim.holds_of_wide 3 Tryz.f3 rfl rfl rfl rfl rfl rfl rfl ⟨rfl, rfl, rfl, rfl, rfl⟩ rfl rfl rfl rfl rfl (by kernel_rfl) Tryz.func3 (joined_of DecodeSorter_j1 DecodeSorter_j2 DecodeSorter_j3)
    (of_decide_eq_true (by kernel_rfl)) (by unfold Func.isWrapper; first | (rw [if_pos (by decide +kernel)]; kernel_rfl) | (rw [if_neg (by decide +kernel)]; exact ⟨rfl, rfl⟩))
    (fun os started H enc _ => DecodeSorter_lifted os started H enc)
/-- The tied card: the row's statement, and the listed variables tied to the program's text. -/
theorem DecodeSorter_card : Rows.FnExactDecodeSorterCardSaid :=
  Claim7.holds_tied_plain_at .later [] [.data, .data, .data] true _ false
    DecodeSorter_holds (fun _ h => by cases h) (by kernel_rfl) (fun _ h => by cases h) fnExactDecodeSorter_row_tie rfl ⟨rfl, rfl⟩ (by kernel_rfl) rfl
    (fun f fn hf hfn => by
      obtain rfl : f = 3 := Option.some.inj ((show Tryz.prog.funcNamed "loop.example/g01081/laws.FnExactDecodeSorter" = some 3 by kernel_rfl).symm.trans hf) |>.symm
      obtain rfl : fn = Tryz.f3 := (Option.some.inj (Tryz.func3.symm.trans hfn)).symm
      exact ⟨by kernel_rfl, fun j t ht => by
        rw [Tryz.params3] at ht
        have hm : t ∈ [30, 28, 2] := by simpa using Array.mem_of_getElem? ht
        have hall : ([30, 28, 2].all fun u => !Tryz.prog.wantsStandIn u) = true := by kernel_rfl
        exact (show Tryz.prog.wantsStandIn t = false by simpa using List.all_eq_true.1 hall t hm)⟩)
    (by kernel_rfl)
end Go.Proofs.YtglcpphfmmnmkaaGreatDoor
