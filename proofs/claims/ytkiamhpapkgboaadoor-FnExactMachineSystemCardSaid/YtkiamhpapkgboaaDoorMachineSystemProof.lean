/- The law FnExactMachineSystem: for every input the call returns true and each argument reads behind the call as it did before. No condition but the listed variables of the library, as the row has them. -/
import Derived.Test.YtkiamhpapkgboaaDoorRows
import Derived.Test.YtkiamhpapkgboaaDoorXMachineSystem
import Derived.Test.YtkiamhpapkgboaaDoorKL
import Derived.Test.YtkiamhpapkgboaaDoorCards
import Derived.Test.YtkiamhpapkgboaaDoorTie
import Derived.ProofKit
import Derived.LaidMore
import Derived.OpenShut
import Derived.SevenTiedAt
import Derived.MakeChecks
import Derived.Stop.LaidErr
namespace Go.Proofs.YtkiamhpapkgboaaDoor
open Go.RowKit Go.ChangeShapes Go.WideShapes Go.ChangeAt Go.Deep
set_option linter.unusedSimpArgs false
set_option linter.unusedVariables false
def machineSystemLaid : List (String × DataW Unit) := [("math/bits.deBruijn32tab", Rows.laid_math_bits_deBruijn32tab), ("math/bits.deBruijn64tab", Rows.laid_math_bits_deBruijn64tab), ("internal/strconv.uint64pow10", Rows.laid_internal_strconv_uint64pow10)]
theorem machineSystem_pow : (Rows.laid_internal_strconv_uint64pow10 : DataW Unit) = Lib.tabData .u64 Lib.pow10Tab := by kernel_rfl
theorem machineSystem_tab {w : World} (h : laidMetH Tryd.prog machineSystemLaid w) : Tab w := by
  rw [MakeChecks.laidMetH_plain _ _ _ (by kernel_rfl)] at h
  have h2 := h.tail.tail
  rw [machineSystem_pow] at h2
  obtain ⟨g, hg⟩ := Option.isSome_iff_exists.1 (show (Tryd.prog.globalNamed "internal/strconv.uint64pow10").isSome = true by kernel_rfl)
  have hty : ((Tryd.prog.globalNamed "internal/strconv.uint64pow10").bind fun g => (Tryd.prog.globals[g]?).map (·.type)) = some 145 := by kernel_rfl
  rw [hg] at hty
  exact Lib.tabIs_of_head (t := 145) (e := 138) (n := 20) hg hty Tryd.underlying145 Tryd.underlying138 (by kernel_rfl) (by kernel_rfl) h2
theorem machineSystem_met (os : Os) (args : Array Value) : laidMetH Tryd.prog machineSystemLaid ((World.doorLaid Tryd.prog 400 os).forCall (fun _ _ => 0) ⟨#[], args, []⟩).memory :=
  laidMetH_of_parts3 (fuel := 8) (laidMet_of_run' 8 (by kernel_rfl) (by kernel_rfl)) (by kernel_rfl) (by kernel_rfl)
set_option maxRecDepth 100000 in
theorem MachineSystem_lifted (os : Os) (started : os.Started) (H : Type) (enc : TypeId × Value → H) :
    ReturnsInHanded {} Tryd.checked os 3 .any (fun w args => (Rows.fnExactMachineSystemSpec.pre enc Tryd.prog Tryd.f3 [] false w args ∧ laidMetH Tryd.prog machineSystemLaid w) ∧ sizedMet enc Tryd.prog Tryd.f3 (OpenSpec.ofChange Rows.fnExactMachineSystemSpec) false w args) (Rows.fnExactMachineSystemSpec.post enc Tryd.prog Tryd.f3 false true false false) := by
  refine returnsInHanded_of_change_and (C := Tryd.checked) (X := fun w _ => laidMetH Tryd.prog machineSystemLaid w) (fun _ _ _ hh h => h.of_heap hh) Tryd.own started (by kernel_rfl) Tryd.func3
    (ChangeSpec.witness_shaped (enc := enc) (C := Tryd.checked) (os := os) (X := fun w _ => laidMetH Tryd.prog machineSystemLaid w) false (World.doorLaid Tryd.prog 400 os) #[.agg #[.int .i64 0, .int .i64 0, .slice none 0 0], .agg #[.slice none 0 0, .int .i64 0, .int .i64 0]] 8 rfl (World.shaped_of_RefB (by kernel_rfl) (by kernel_rfl)) (by kernel_rfl) (by kernel_rfl) (by kernel_rfl) (machineSystem_met os _)) ?_
  intro W base args ds gs_ before hval0 hW hcnd hx1 hx2 hx3
  have hval : ∀ (j : Nat) t v, Tryd.f3.params[j]? = some t → args[j]? = some v → Value.okWide Tryd.prog W .any base t v := hval0
  have hW' := hW
  obtain ⟨p, q_, hA0, hV, rfl, hfz, hnd⟩ := hW
  have hA_ : DataW.TrodAll enc Tryd.prog W 0 (fun _ => true) true Tryd.f3.params.toList args.toList ds p := hA0
  rw [Tryd.params3] at hA_ hval
  have hA2 := hA_
  obtain ⟨v0, vs0, d0, ds0, p0, q0, hargs, rfl, rfl, h0, r0⟩ := trodAll_cons hA_
  obtain ⟨v1, vs1, d1, ds1, p1, q1, rfl, rfl, rfl, h1, r1⟩ := trodAll_cons r0
  obtain ⟨rfl, rfl, rfl⟩ := trodAll_nil r1
  obtain rfl : args = #[v0, v1] := by cases args; simp_all
  obtain ⟨rfl, rfl⟩ := trodVars_none hV
  obtain ⟨Q, S, A, q, ca, ms, rfl, hA, hlq⟩ := open_mc (hval 0 _ v0 rfl rfl) h0
  obtain ⟨F, nf, cf, fl, h, s, rfl, hF, hlnf⟩ := open_cf (hval 1 _ v1 rfl rfl) h1
  clear hA0 hval0
  unfold maxLen at hlq hlnf
  refine (FnExactMachineSystem_any Q S A q ca ms F nf cf fl h s W (machineSystem_tab (by first | exact hx1 | exact hx2 | exact hx3)) hA hlq hF hlnf).mono fun e W' ⟨he, bel⟩ => ?_
  subst he
  exact ⟨_, rfl, _, _, _, [], _, [], hW', trodAll_mk1 (shut_bool Tryd.underlying4 _), trodAll_below Tryd.laidOut bel (typesOk_spec (by kernel_rfl)) (fun x hx => hW'.lt x (by simpa using hx)) hA2, rfl, bel.frame _, fun h => by cases h⟩
set_option maxRecDepth 100000 in
theorem MachineSystem_j1 : joined1 Tryd.prog 3 Tryd.f3 Rows.fnExactMachineSystemSpec Rows.fnExactMachineSystemRow = true := by kernel_rfl
set_option maxRecDepth 100000 in
theorem MachineSystem_j2 : joined2 Tryd.prog 3 Tryd.f3 Rows.fnExactMachineSystemSpec Rows.fnExactMachineSystemRow = true := by kernel_rfl
set_option maxRecDepth 100000 in
theorem MachineSystem_j3 : joined3 Tryd.prog 3 Tryd.f3 Rows.fnExactMachineSystemSpec Rows.fnExactMachineSystemRow = true := by kernel_rfl
theorem MachineSystem_holds : Rows.FnExactMachineSystemSaid :=
  OpenClaim.holds_of_wide 3 Tryd.f3 rfl rfl rfl rfl rfl rfl rfl ⟨rfl, rfl, rfl, rfl, rfl⟩ rfl rfl rfl rfl rfl (by kernel_rfl) Tryd.func3 (joined_of MachineSystem_j1 MachineSystem_j2 MachineSystem_j3)
    (of_decide_eq_true (by kernel_rfl)) (by unfold Func.isWrapper; first | (rw [if_pos (by decide +kernel)]; kernel_rfl) | (rw [if_neg (by decide +kernel)]; exact ⟨rfl, rfl⟩))
    (fun os started H enc _ => MachineSystem_lifted os started H enc)
/-- The tied card: the row's statement, and the listed variables tied to the program's text. -/
theorem MachineSystem_card : Rows.FnExactMachineSystemCardSaid :=
  Claim7.holds_tied_plain_at .later [] [.data, .data, .data] true _ false
    MachineSystem_holds (fun _ h => by cases h) (by kernel_rfl) (fun _ h => by cases h) fnExactMachineSystem_row_tie rfl ⟨rfl, rfl⟩ (by kernel_rfl) rfl
    (fun f fn hf hfn => by
      obtain rfl : f = 3 := Option.some.inj ((show Tryd.prog.funcNamed "loop.example/g01081/laws.FnExactMachineSystem" = some 3 by kernel_rfl).symm.trans hf) |>.symm
      obtain rfl : fn = Tryd.f3 := (Option.some.inj (Tryd.func3.symm.trans hfn)).symm
      exact ⟨by kernel_rfl, fun j t ht => by
        rw [Tryd.params3] at ht
        have hm : t ∈ [24, 27] := by simpa using Array.mem_of_getElem? ht
        have hall : ([24, 27].all fun u => !Tryd.prog.wantsStandIn u) = true := by kernel_rfl
        exact (show Tryd.prog.wantsStandIn t = false by simpa using List.all_eq_true.1 hall t hm)⟩)
    (by kernel_rfl)
end Go.Proofs.YtkiamhpapkgboaaDoor
