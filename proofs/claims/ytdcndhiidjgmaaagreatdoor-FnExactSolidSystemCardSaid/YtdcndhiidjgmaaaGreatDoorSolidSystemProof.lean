/- The law FnExactSolidSystem: for every input the call returns true and each argument reads behind the call as it did before. No condition but the listed variables of the library, as the row has them. -/
import Derived.Test.YtdcndhiidjgmaaaGreatDoorRows
import Derived.Test.YtdcndhiidjgmaaaGreatDoorXSolidSystem
import Derived.Test.YtdcndhiidjgmaaaGreatDoorKL
import Derived.Test.YtdcndhiidjgmaaaGreatDoorCards
import Derived.Test.YtdcndhiidjgmaaaGreatDoorTie
import Derived.ProofKit
import Derived.LaidMore
import Derived.OpenShut
import Derived.SevenTiedAt
import Derived.MakeChecks
import Derived.Stop.LaidErr
namespace Go.Proofs.YtdcndhiidjgmaaaGreatDoor
open Go.RowKit Go.ChangeShapes Go.WideShapes Go.ChangeAt Go.Deep
set_option linter.unusedSimpArgs false
set_option linter.unusedVariables false
def solidSystemLaid : List (String × DataW Unit) := [("math/bits.deBruijn32tab", Rows.laid_math_bits_deBruijn32tab), ("math/bits.deBruijn64tab", Rows.laid_math_bits_deBruijn64tab), ("internal/strconv.uint64pow10", Rows.laid_internal_strconv_uint64pow10)]
theorem solidSystem_pow : (Rows.laid_internal_strconv_uint64pow10 : DataW Unit) = Lib.tabData .u64 Lib.pow10Tab := by kernel_rfl
theorem solidSystem_tab {w : World} (h : laidMetH Tryz.prog solidSystemLaid w) : Tab w := by
  rw [MakeChecks.laidMetH_plain _ _ _ (by kernel_rfl)] at h
  have h2 := h.tail.tail
  rw [solidSystem_pow] at h2
  obtain ⟨g, hg⟩ := Option.isSome_iff_exists.1 (show (Tryz.prog.globalNamed "internal/strconv.uint64pow10").isSome = true by kernel_rfl)
  have hty : ((Tryz.prog.globalNamed "internal/strconv.uint64pow10").bind fun g => (Tryz.prog.globals[g]?).map (·.type)) = some 123 := by kernel_rfl
  rw [hg] at hty
  exact Lib.tabIs_of_head (t := 123) (e := 114) (n := 20) hg hty Tryz.underlying123 Tryz.underlying114 (by kernel_rfl) (by kernel_rfl) h2
theorem solidSystem_met (os : Os) (args : Array Value) : laidMetH Tryz.prog solidSystemLaid ((World.doorLaid Tryz.prog 400 os).forCall (fun _ _ => 0) ⟨#[], args, []⟩).memory :=
  laidMetH_of_parts3 (fuel := 8) (laidMet_of_run' 8 (by kernel_rfl) (by kernel_rfl)) (by kernel_rfl) (by kernel_rfl)
set_option maxRecDepth 100000 in
theorem SolidSystem_lifted (os : Os) (started : os.Started) (H : Type) (enc : TypeId × Value → H) :
    ReturnsInHanded {} Tryz.checked os 4 .any (fun w args => (Rows.fnExactSolidSystemSpec.pre enc Tryz.prog Tryz.f4 [] false w args ∧ laidMetH Tryz.prog solidSystemLaid w) ∧ sizedMet enc Tryz.prog Tryz.f4 (OpenSpec.ofChange Rows.fnExactSolidSystemSpec) false w args) (Rows.fnExactSolidSystemSpec.post enc Tryz.prog Tryz.f4 false true false false) := by
  refine returnsInHanded_of_change_and (C := Tryz.checked) (X := fun w _ => laidMetH Tryz.prog solidSystemLaid w) (fun _ _ _ hh h => h.of_heap hh) Tryz.own started (by kernel_rfl) Tryz.func4
    (ChangeSpec.witness_shaped (enc := enc) (C := Tryz.checked) (os := os) (X := fun w _ => laidMetH Tryz.prog solidSystemLaid w) false (World.doorLaid Tryz.prog 400 os) #[.slice none 0 0, .int .i64 0] 8 rfl (World.shaped_of_RefB (by kernel_rfl) (by kernel_rfl)) (by kernel_rfl) (by kernel_rfl) (by kernel_rfl) (solidSystem_met os _)) ?_
  intro W base args ds gs_ before hval0 hW hcnd hx1 hx2 hx3
  have hval : ∀ (j : Nat) t v, Tryz.f4.params[j]? = some t → args[j]? = some v → Value.okWide Tryz.prog W .any base t v := hval0
  have hW' := hW
  obtain ⟨p, q_, hA0, hV, rfl, hfz, hnd⟩ := hW
  have hA_ : DataW.TrodAll enc Tryz.prog W 0 (fun _ => true) true Tryz.f4.params.toList args.toList ds p := hA0
  rw [Tryz.params4] at hA_ hval
  have hA2 := hA_
  obtain ⟨v0, vs0, d0, ds0, p0, q0, hargs, rfl, rfl, h0, r0⟩ := trodAll_cons hA_
  obtain ⟨v1, vs1, d1, ds1, p1, q1, rfl, rfl, rfl, h1, r1⟩ := trodAll_cons r0
  obtain ⟨rfl, rfl, rfl⟩ := trodAll_nil r1
  obtain rfl : args = #[v0, v1] := by cases args; simp_all
  obtain ⟨rfl, rfl⟩ := trodVars_none hV
  obtain ⟨F, nf, cf, ps, rfl, hF, hlnf, _⟩ := open_pts (hval 0 _ v0 rfl rfl) h0
  obtain ⟨root, rfl, _, _, hroot⟩ := open_int Tryz.underlying2 (hval 1 _ v1 rfl rfl) h1
  clear hA0 hval0
  unfold maxLen at hlnf
  refine (FnExactSolidSystem_any F nf cf ps root W (solidSystem_tab (by first | exact hx1 | exact hx2 | exact hx3)) hF hlnf ).mono fun e W' ⟨he, bel⟩ => ?_
  subst he
  exact ⟨_, rfl, _, _, _, [], _, [], hW', trodAll_mk1 (shut_bool Tryz.underlying4 _), trodAll_below Tryz.laidOut bel (typesOk_spec (by kernel_rfl)) (fun x hx => hW'.lt x (by simpa using hx)) hA2, rfl, bel.frame _, fun h => by cases h⟩
set_option maxRecDepth 100000 in
theorem SolidSystem_j1 : joined1 Tryz.prog 4 Tryz.f4 Rows.fnExactSolidSystemSpec Rows.fnExactSolidSystemRow = true := by kernel_rfl
set_option maxRecDepth 100000 in
theorem SolidSystem_j2 : joined2 Tryz.prog 4 Tryz.f4 Rows.fnExactSolidSystemSpec Rows.fnExactSolidSystemRow = true := by kernel_rfl
set_option maxRecDepth 100000 in
theorem SolidSystem_j3 : joined3 Tryz.prog 4 Tryz.f4 Rows.fnExactSolidSystemSpec Rows.fnExactSolidSystemRow = true := by kernel_rfl
theorem SolidSystem_holds : Rows.FnExactSolidSystemSaid :=
  OpenClaim.holds_of_wide 4 Tryz.f4 rfl rfl rfl rfl rfl rfl rfl ⟨rfl, rfl, rfl, rfl, rfl⟩ rfl rfl rfl rfl rfl (by kernel_rfl) Tryz.func4 (joined_of SolidSystem_j1 SolidSystem_j2 SolidSystem_j3)
    (of_decide_eq_true (by kernel_rfl)) (by unfold Func.isWrapper; first | (rw [if_pos (by decide +kernel)]; kernel_rfl) | (rw [if_neg (by decide +kernel)]; exact ⟨rfl, rfl⟩))
    (fun os started H enc _ => SolidSystem_lifted os started H enc)
/-- The tied card: the row's statement, and the listed variables tied to the program's text. -/
theorem SolidSystem_card : Rows.FnExactSolidSystemCardSaid :=
  Claim7.holds_tied_plain_at .later [] [.data, .data, .data] true _ false
    SolidSystem_holds (fun _ h => by cases h) (by kernel_rfl) (fun _ h => by cases h) fnExactSolidSystem_row_tie rfl ⟨rfl, rfl⟩ (by kernel_rfl) rfl
    (fun f fn hf hfn => by
      obtain rfl : f = 4 := Option.some.inj ((show Tryz.prog.funcNamed "loop.example/g01081/laws.FnExactSolidSystem" = some 4 by kernel_rfl).symm.trans hf) |>.symm
      obtain rfl : fn = Tryz.f4 := (Option.some.inj (Tryz.func4.symm.trans hfn)).symm
      exact ⟨by kernel_rfl, fun j t ht => by
        rw [Tryz.params4] at ht
        have hm : t ∈ [22, 2] := by simpa using Array.mem_of_getElem? ht
        have hall : ([22, 2].all fun u => !Tryz.prog.wantsStandIn u) = true := by kernel_rfl
        exact (show Tryz.prog.wantsStandIn t = false by simpa using List.all_eq_true.1 hall t hm)⟩)
    (by kernel_rfl)
end Go.Proofs.YtdcndhiidjgmaaaGreatDoor
