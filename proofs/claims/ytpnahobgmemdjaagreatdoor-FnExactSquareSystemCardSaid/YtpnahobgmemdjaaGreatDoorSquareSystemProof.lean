/- The law FnExactSquareSystem: for every input the call returns true and each argument reads behind the call as it did before. No condition but the listed variables of the library, as the row has them. -/
import Derived.Test.YtpnahobgmemdjaaGreatDoorRows
import Derived.Test.YtpnahobgmemdjaaGreatDoorXSquareSystem
import Derived.Test.YtpnahobgmemdjaaGreatDoorKL
import Derived.Test.YtpnahobgmemdjaaGreatDoorCards
import Derived.Test.YtpnahobgmemdjaaGreatDoorTie
import Derived.ProofKit
import Derived.LaidMore
import Derived.OpenShut
import Derived.SevenTiedAt
import Derived.MakeChecks
import Derived.Stop.LaidErr
namespace Go.Proofs.YtpnahobgmemdjaaGreatDoor
open Go.RowKit Go.ChangeShapes Go.WideShapes Go.ChangeAt Go.Deep
set_option linter.unusedSimpArgs false
set_option linter.unusedVariables false
def squareSystemLaid : List (String × DataW Unit) := [("math/bits.deBruijn32tab", Rows.laid_math_bits_deBruijn32tab), ("math/bits.deBruijn64tab", Rows.laid_math_bits_deBruijn64tab), ("internal/strconv.uint64pow10", Rows.laid_internal_strconv_uint64pow10)]
theorem squareSystem_pow : (Rows.laid_internal_strconv_uint64pow10 : DataW Unit) = Lib.tabData .u64 Lib.pow10Tab := by kernel_rfl
theorem squareSystem_tab {w : World} (h : laidMetH Tryz.prog squareSystemLaid w) : Tab w := by
  rw [MakeChecks.laidMetH_plain _ _ _ (by kernel_rfl)] at h
  have h2 := h.tail.tail
  rw [squareSystem_pow] at h2
  obtain ⟨g, hg⟩ := Option.isSome_iff_exists.1 (show (Tryz.prog.globalNamed "internal/strconv.uint64pow10").isSome = true by kernel_rfl)
  have hty : ((Tryz.prog.globalNamed "internal/strconv.uint64pow10").bind fun g => (Tryz.prog.globals[g]?).map (·.type)) = some 126 := by kernel_rfl
  rw [hg] at hty
  exact Lib.tabIs_of_head (t := 126) (e := 108) (n := 20) hg hty Tryz.underlying126 Tryz.underlying108 (by kernel_rfl) (by kernel_rfl) h2
theorem squareSystem_met (os : Os) (args : Array Value) : laidMetH Tryz.prog squareSystemLaid ((World.doorLaid Tryz.prog 400 os).forCall (fun _ _ => 0) ⟨#[], args, []⟩).memory :=
  laidMetH_of_parts3 (fuel := 8) (laidMet_of_run' 8 (by kernel_rfl) (by kernel_rfl)) (by kernel_rfl) (by kernel_rfl)
set_option maxRecDepth 100000 in
theorem SquareSystem_lifted (os : Os) (started : os.Started) (H : Type) (enc : TypeId × Value → H) :
    ReturnsInHanded {} Tryz.checked os 3 .any (fun w args => (Rows.fnExactSquareSystemSpec.pre enc Tryz.prog Tryz.f3 [] false w args ∧ laidMetH Tryz.prog squareSystemLaid w) ∧ sizedMet enc Tryz.prog Tryz.f3 (OpenSpec.ofChange Rows.fnExactSquareSystemSpec) false w args) (Rows.fnExactSquareSystemSpec.post enc Tryz.prog Tryz.f3 false true false false) := by
  refine returnsInHanded_of_change_and (C := Tryz.checked) (X := fun w _ => laidMetH Tryz.prog squareSystemLaid w) (fun _ _ _ hh h => h.of_heap hh) Tryz.own started (by kernel_rfl) Tryz.func3
    (ChangeSpec.witness_shaped (enc := enc) (C := Tryz.checked) (os := os) (X := fun w _ => laidMetH Tryz.prog squareSystemLaid w) false (World.doorLaid Tryz.prog 400 os) #[.int .i64 0] 8 rfl (World.shaped_of_RefB (by kernel_rfl) (by kernel_rfl)) (by kernel_rfl) (by kernel_rfl) (by kernel_rfl) (squareSystem_met os _)) ?_
  intro W base args ds gs_ before hval0 hW hcnd hx1 hx2 hx3
  have hval : ∀ (j : Nat) t v, Tryz.f3.params[j]? = some t → args[j]? = some v → Value.okWide Tryz.prog W .any base t v := hval0
  have hW' := hW
  obtain ⟨p, q_, hA0, hV, rfl, hfz, hnd⟩ := hW
  have hA_ : DataW.TrodAll enc Tryz.prog W 0 (fun _ => true) true Tryz.f3.params.toList args.toList ds p := hA0
  rw [Tryz.params3] at hA_ hval
  have hA2 := hA_
  obtain ⟨v0, vs0, d0, ds0, p0, q0, hargs, rfl, rfl, h0, r0⟩ := trodAll_cons hA_
  obtain ⟨rfl, rfl, rfl⟩ := trodAll_nil r0
  obtain rfl : args = #[v0] := by cases args; simp_all
  obtain ⟨rfl, rfl⟩ := trodVars_none hV
  obtain ⟨side, rfl, _, _, hside⟩ := open_int Tryz.underlying2 (hval 0 _ v0 rfl rfl) h0
  clear hA0 hval0
  refine (FnExactSquareSystem_any side W (squareSystem_tab (by first | exact hx1 | exact hx2 | exact hx3)) ).mono fun e W' ⟨he, bel⟩ => ?_
  subst he
  exact ⟨_, rfl, _, _, _, [], _, [], hW', trodAll_mk1 (shut_bool Tryz.underlying4 _), trodAll_below Tryz.laidOut bel (typesOk_spec (by kernel_rfl)) (fun x hx => hW'.lt x (by simpa using hx)) hA2, rfl, bel.frame _, fun h => by cases h⟩
set_option maxRecDepth 100000 in
theorem SquareSystem_j1 : joined1 Tryz.prog 3 Tryz.f3 Rows.fnExactSquareSystemSpec Rows.fnExactSquareSystemRow = true := by kernel_rfl
set_option maxRecDepth 100000 in
theorem SquareSystem_j2 : joined2 Tryz.prog 3 Tryz.f3 Rows.fnExactSquareSystemSpec Rows.fnExactSquareSystemRow = true := by kernel_rfl
set_option maxRecDepth 100000 in
theorem SquareSystem_j3 : joined3 Tryz.prog 3 Tryz.f3 Rows.fnExactSquareSystemSpec Rows.fnExactSquareSystemRow = true := by kernel_rfl
theorem SquareSystem_holds : Rows.FnExactSquareSystemSaid :=
  OpenClaim.holds_of_wide 3 Tryz.f3 rfl rfl rfl rfl rfl rfl rfl ⟨rfl, rfl, rfl, rfl, rfl⟩ rfl rfl rfl rfl rfl (by kernel_rfl) Tryz.func3 (joined_of SquareSystem_j1 SquareSystem_j2 SquareSystem_j3)
    (of_decide_eq_true (by kernel_rfl)) (by unfold Func.isWrapper; first | (rw [if_pos (by decide +kernel)]; kernel_rfl) | (rw [if_neg (by decide +kernel)]; exact ⟨rfl, rfl⟩))
    (fun os started H enc _ => SquareSystem_lifted os started H enc)
/-- The tied card: the row's statement, and the listed variables tied to the program's text. -/
theorem SquareSystem_card : Rows.FnExactSquareSystemCardSaid :=
  Claim7.holds_tied_plain_at .later [] [.data, .data, .data] true _ false
    SquareSystem_holds (fun _ h => by cases h) (by kernel_rfl) (fun _ h => by cases h) fnExactSquareSystem_row_tie rfl ⟨rfl, rfl⟩ (by kernel_rfl) rfl
    (fun f fn hf hfn => by
      obtain rfl : f = 3 := Option.some.inj ((show Tryz.prog.funcNamed "loop.example/g01081/laws.FnExactSquareSystem" = some 3 by kernel_rfl).symm.trans hf) |>.symm
      obtain rfl : fn = Tryz.f3 := (Option.some.inj (Tryz.func3.symm.trans hfn)).symm
      exact ⟨by kernel_rfl, fun j t ht => by
        rw [Tryz.params3] at ht
        have hm : t ∈ [2] := by simpa using Array.mem_of_getElem? ht
        have hall : ([2].all fun u => !Tryz.prog.wantsStandIn u) = true := by kernel_rfl
        exact (show Tryz.prog.wantsStandIn t = false by simpa using List.all_eq_true.1 hall t hm)⟩)
    (by kernel_rfl)
end Go.Proofs.YtpnahobgmemdjaaGreatDoor
