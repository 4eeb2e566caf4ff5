/- The law FnPoints: for every input the call returns true and the argument reads behind the call as it did before. No condition but the listed variables of the library, as the row has them. -/
import Derived.Test.YtpfbaeccjppagaaDoorRows
import Derived.Test.YtpfbaeccjppagaaDoorFP11
import Derived.Test.YtpfbaeccjppagaaDoorKL
import Derived.Test.YtpfbaeccjppagaaDoorLJ
import Derived.Test.YtpfbaeccjppagaaDoorCards
import Derived.Test.YtpfbaeccjppagaaDoorTie
import Derived.ProofKit
import Derived.LaidMore
import Derived.OpenShut
import Derived.SevenTiedAt
import Derived.MakeChecks
import Derived.Stop.LaidErr
namespace Go.Proofs.YtpfbaeccjppagaaDoor
open Go.RowKit Go.ChangeShapes Go.WideShapes Go.ChangeAt Go.Deep
set_option linter.unusedSimpArgs false
set_option linter.unusedVariables false
theorem el_by {H : Type} {enc : TypeId × Value → H} {P : Program} {w : World} {base : Nat} {spare : Nat → Bool} {held : Bool} {t : TypeId} (ht : P.underlying t = some (.int .u8)) (n : Nat) (cs : List Value) (z : DataW H × List MemPlace) (b o : Nat) (h : DataW.trod enc P w base spare held n t cs = some z) (hl : cs.length = 1) (hc : ∀ i, i < 1 → w.cell? ⟨b, o + i, none⟩ = cs[i]?) : ∃ x : Nat, RBy w b o x ∧ True := by
  obtain ⟨a, rfl, _, ha⟩ := DataW.trod_int ht h
  have hr : 0 ≤ a ∧ a < 256 := by
    simp [Lit.wf, IntKind.min, IntKind.max, IntKind.bits, IntKind.signed] at ha
    omega
  refine ⟨a.toNat, ⟨?_, by omega⟩, trivial⟩
  have h0 : w.cell? ⟨b, o + 0, none⟩ = some (.int .u8 a) := hc 0 (by omega)
  rw [show ((a.toNat : Nat) : Int) = a by omega]
  exact h0
def pointsLaid : List (String × DataW Unit) := [("math/bits.deBruijn32tab", Rows.laid_math_bits_deBruijn32tab), ("math/bits.deBruijn64tab", Rows.laid_math_bits_deBruijn64tab), ("internal/strconv.uint64pow10", Rows.laid_internal_strconv_uint64pow10), ("strconv.ErrRange", Rows.laid_strconv_ErrRange), ("strconv.ErrSyntax", Rows.laid_strconv_ErrSyntax)]
theorem pow_laid : (Rows.laid_internal_strconv_uint64pow10 : DataW Unit) = Lib.tabData .u64 Lib.pow10Tab := by kernel_rfl
theorem points_tab {w : World} (h : laidMetH Tryd.prog pointsLaid w) : Tab w := by
  rw [MakeChecks.laidMetH_plain _ _ _ (by kernel_rfl)] at h
  have h2 := h.tail.tail
  rw [pow_laid] at h2
  obtain ⟨g, hg⟩ := Option.isSome_iff_exists.1 (show (Tryd.prog.globalNamed "internal/strconv.uint64pow10").isSome = true by kernel_rfl)
  have hty : ((Tryd.prog.globalNamed "internal/strconv.uint64pow10").bind fun g => (Tryd.prog.globals[g]?).map (·.type)) = some 84 := by kernel_rfl
  rw [hg] at hty
  exact Lib.tabIs_of_head (t := 84) (e := 49) (n := 20) hg hty Tryd.underlying84 Tryd.underlying49 (by kernel_rfl) (by kernel_rfl) h2
theorem points_met (os : Os) (args : Array Value) : laidMetH Tryd.prog pointsLaid ((World.doorLaid Tryd.prog 400 os).forCall (fun _ _ => 0) ⟨#[], args, []⟩).memory :=
  laidMetH_of_parts3 (fuel := 8) (laidMet_of_run' 8 (by kernel_rfl) (by kernel_rfl)) (by kernel_rfl) (by kernel_rfl)
set_option maxRecDepth 100000 in
theorem open_bytes {H : Type} {enc : TypeId × Value → H} {w : World} {base b0 : Nat} {spare : Nat → Bool} {held : Bool} {r : Reach} {v : Value} {d : DataW H} {p : List MemPlace} (hv : Value.okWide Tryd.prog w r b0 22 v) (h : DataW.Trod enc Tryd.prog w base spare held 22 v d p) :
    ∃ A n c xs, v = .slice A n c ∧ RdSl 1 RBy w A n xs ∧ n ≤ maxLen ∧ ∀ x ∈ xs, True :=
  open_sl (R := RBy) (Q := fun _ => True) Tryd.underlying22 (by kernel_rfl) (by omega) (fun n cs z b o h hl hc => el_by Tryd.underlying5 n cs z b o h hl hc) hv h
set_option maxRecDepth 100000 in
theorem FnPoints_lifted (os : Os) (started : os.Started) (H : Type) (enc : TypeId × Value → H) :
    ReturnsInHanded {} Tryd.checked os 3 .any (fun w args => (Rows.fnPointsSpec.pre enc Tryd.prog Tryd.f3 [] false w args ∧ laidMetH Tryd.prog pointsLaid w) ∧ sizedMet enc Tryd.prog Tryd.f3 (OpenSpec.ofChange Rows.fnPointsSpec) false w args) (Rows.fnPointsSpec.post enc Tryd.prog Tryd.f3 false true false false) := by
  refine returnsInHanded_of_change_and (C := Tryd.checked) (X := fun w _ => laidMetH Tryd.prog pointsLaid w) (fun _ _ _ hh h => h.of_heap hh) Tryd.own started (by kernel_rfl) Tryd.func3
    (ChangeSpec.witness_shaped (enc := enc) (C := Tryd.checked) (os := os) (X := fun w _ => laidMetH Tryd.prog pointsLaid w) false (World.doorLaid Tryd.prog 400 os) #[.slice none 0 0] 8 rfl (World.shaped_of_RefB (by kernel_rfl) (by kernel_rfl)) (by kernel_rfl) (by kernel_rfl) (by kernel_rfl) (points_met os _)) ?_
  intro W base args ds gs_ before hval0 hW hcnd hx1 hx2 hx3
  have hval : ∀ (j : Nat) t v, Tryd.f3.params[j]? = some t → args[j]? = some v → Value.okWide Tryd.prog W .any base t v := hval0
  have hW' := hW
  obtain ⟨p, q_, hA0, hV, rfl, hfz, hnd⟩ := hW
  have hA_ : DataW.TrodAll enc Tryd.prog W 0 (fun _ => true) true Tryd.f3.params.toList args.toList ds p := hA0
  rw [Tryd.params3] at hA_ hval
  have hA2 := hA_
  obtain ⟨v0, vs0, d0, ds0, p0, q0, hargs, rfl, rfl, h0, r0⟩ := trodAll_cons hA_
  obtain ⟨rfl, rfl, rfl⟩ := trodAll_nil r0
  obtain rfl : args = #[v0] := by cases args; simp_all
  obtain ⟨rfl, rfl⟩ := trodVars_none hV
  obtain ⟨C, n, c, bs, rfl, hC, _, _⟩ := open_bytes (hval 0 _ v0 rfl rfl) h0
  clear hA0 hval0
  refine (FnPoints_any W hC (points_tab (by first | exact hx1 | exact hx2 | exact hx3))).mono fun e W' ⟨he, bel⟩ => ?_
  subst he
  exact ⟨_, rfl, _, _, _, [], _, [], hW', trodAll_mk1 (shut_bool Tryd.underlying4 _), trodAll_below Tryd.laidOut bel (typesOk_spec (by kernel_rfl)) (fun x hx => hW'.lt x (by simpa using hx)) hA2, rfl, bel.frame _, fun h => by cases h⟩
set_option maxRecDepth 100000 in
theorem FnPoints_j1 : joined1 Tryd.prog 3 Tryd.f3 Rows.fnPointsSpec Rows.fnPointsRow = true := by kernel_rfl
set_option maxRecDepth 100000 in
theorem FnPoints_j2 : joined2 Tryd.prog 3 Tryd.f3 Rows.fnPointsSpec Rows.fnPointsRow = true := by kernel_rfl
set_option maxRecDepth 100000 in
theorem FnPoints_j3 : joined3 Tryd.prog 3 Tryd.f3 Rows.fnPointsSpec Rows.fnPointsRow = true := by kernel_rfl
theorem FnPoints_holds : Rows.FnPointsSaid :=
  OpenClaim.holds_of_wide 3 Tryd.f3 rfl rfl rfl rfl rfl rfl rfl ⟨rfl, rfl, rfl, rfl, rfl⟩ rfl rfl rfl rfl rfl (by kernel_rfl) Tryd.func3 (joined_of FnPoints_j1 FnPoints_j2 FnPoints_j3)
    (of_decide_eq_true (by kernel_rfl)) (by unfold Func.isWrapper; first | (rw [if_pos (by decide +kernel)]; kernel_rfl) | (rw [if_neg (by decide +kernel)]; exact ⟨rfl, rfl⟩))
    (fun os started H enc _ => FnPoints_lifted os started H enc)
/-- The tied card: the row's statement, and the listed variables tied to the program's text. -/
theorem FnPoints_card : Rows.FnPointsCardSaid :=
  Claim7.holds_tied_plain_at .later [] [.data, .data, .data, .sentinel, .sentinel] true _ true
    FnPoints_holds (fun _ h => by cases h) (by kernel_rfl) (fun _ h => by cases h) fnPoints_row_tie rfl ⟨rfl, rfl⟩ (by kernel_rfl) rfl
    (fun f fn hf hfn => by
      obtain rfl : f = 3 := Option.some.inj ((show Tryd.prog.funcNamed "loop.example/g01081/laws.FnPoints" = some 3 by kernel_rfl).symm.trans hf) |>.symm
      obtain rfl : fn = Tryd.f3 := (Option.some.inj (Tryd.func3.symm.trans hfn)).symm
      exact ⟨by kernel_rfl, fun j t ht => by
        rw [Tryd.params3] at ht
        have hm : t ∈ [22] := by simpa using Array.mem_of_getElem? ht
        have hall : ([22].all fun u => !Tryd.prog.wantsStandIn u) = true := by kernel_rfl
        exact (show Tryd.prog.wantsStandIn t = false by simpa using List.all_eq_true.1 hall t hm)⟩)
    (by kernel_rfl)
end Go.Proofs.YtpfbaeccjppagaaDoor
