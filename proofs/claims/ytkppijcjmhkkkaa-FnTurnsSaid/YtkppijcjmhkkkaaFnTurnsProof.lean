/- The law FnTurns: for every input the call returns true and each argument reads behind the call as it did before. No condition. -/
import Derived.Test.YtkppijcjmhkkkaaRows
import Derived.Test.YtkppijcjmhkkkaaGBN
import Derived.Test.YtkppijcjmhkkkaaL2
import Derived.Test.YtkppijcjmhkkkaaLJ
namespace Go.Proofs.Ytkppijcjmhkkkaa
open Go.RowKit Go.ChangeShapes Go.WideShapes Go.ChangeAt
set_option linter.unusedSimpArgs false
set_option linter.unusedVariables false
theorem el_by {H : Type} {enc : TypeId × Value → H} {P : Program} {w : World} {base : Nat} {spare : Nat → Bool} {held : Bool} {t : TypeId} (ht : P.underlying t = some (.int .u8)) (n : Nat) (cs : List Value) (z : DataW H × List MemPlace) (b o : Nat) (h : DataW.trod enc P w base spare held n t cs = some z) (hl : cs.length = 1) (hc : ∀ i, i < 1 → w.cell? ⟨b, o + i, none⟩ = cs[i]?) : ∃ x : Nat, RBy w b o x ∧ True := by
  obtain ⟨a, rfl, _, ha⟩ := DataW.trod_int ht h
  have hr : 0 ≤ a ∧ a < 256 := by
    simp [Lit.wf, IntKind.min, IntKind.max, IntKind.bits, IntKind.signed] at ha
    omega
  refine ⟨a.toNat, ⟨?_, by omega⟩, trivial⟩
  have h0 : w.cell? ⟨b, o + 0, none⟩ = some (.int .u8 a) := hc 0 (by omega)
  rw [show ((a.toNat : Nat) : Int) = a by omega]
  exact h0
set_option maxRecDepth 100000 in
theorem open_bytes {H : Type} {enc : TypeId × Value → H} {w : World} {base b0 : Nat} {spare : Nat → Bool} {held : Bool} {r : Reach} {v : Value} {d : DataW H} {p : List MemPlace} (hv : Value.okWide Try.prog w r b0 22 v) (h : DataW.Trod enc Try.prog w base spare held 22 v d p) :
    ∃ A n c xs, v = .slice A n c ∧ RdSl 1 RBy w A n xs ∧ n ≤ maxLen ∧ ∀ x ∈ xs, True :=
  open_sl (R := RBy) (Q := fun _ => True) Try.underlying22 (by kernel_rfl) (by omega) (fun n cs z b o h hl hc => el_by Try.underlying5 n cs z b o h hl hc) hv h
set_option maxRecDepth 100000 in
theorem FnTurns_lifted (os : Os) (started : os.Started) (H : Type) (enc : TypeId × Value → H) :
    ReturnsInHanded {} Try.checked os 4 .any (Rows.fnTurnsSpec.pre6 enc Try.prog Try.f4 Rows.fnTurnsRow.domain false) (Rows.fnTurnsSpec.post enc Try.prog Try.f4 false true false false) := by
  refine returnsInHanded_of_change (C := Try.checked) Try.own started (by kernel_rfl) Try.func4
    (ChangeSpec.witness6 (enc := enc) (C := Try.checked) false ⟨#[], #[.slice none 0 0, .slice none 0 0], []⟩ 8 (by kernel_rfl) (by kernel_rfl) (by kernel_rfl) (by kernel_rfl)) ?_
  intro W base args ds gs_ before hval0 hW hcnd _
  have hval : ∀ (j : Nat) t v, Try.f4.params[j]? = some t → args[j]? = some v → Value.okWide Try.prog W .any base t v := hval0
  have hW' := hW
  obtain ⟨p, q_, hA0, hV, rfl, hfz, hnd⟩ := hW
  have hA_ : DataW.TrodAll enc Try.prog W 0 (fun _ => true) true Try.f4.params.toList args.toList ds p := hA0
  rw [Try.params4] at hA_ hval
  have hA2 := hA_
  obtain ⟨v0, vs0, d0, ds0, p0, q0, hargs, rfl, rfl, h0, r0⟩ := trodAll_cons hA_
  obtain ⟨v1, vs1, d1, ds1, p1, q1, rfl, rfl, rfl, h1, r1⟩ := trodAll_cons r0
  obtain ⟨rfl, rfl, rfl⟩ := trodAll_nil r1
  obtain rfl : args = #[v0, v1] := by cases args; simp_all
  obtain ⟨rfl, rfl⟩ := trodVars_none hV
  obtain ⟨C, n, c, bs, rfl, hC, _, _⟩ := open_bytes (hval 0 _ v0 rfl rfl) h0
  obtain ⟨D, n2, c2, bs2, rfl, hD, _, _⟩ := open_bytes (hval 1 _ v1 rfl rfl) h1
  clear hA0 hval0
  refine (FnTurns_any W hC hD).mono fun e W' ⟨he, bel⟩ => ?_
  subst he
  exact ⟨_, rfl, _, _, _, [], _, [], hW', trodAll_mk1 (shut_bool Try.underlying4 _), trodAll_below Try.laidOut bel (typesOk_spec (by kernel_rfl)) (fun x hx => hW'.lt x (by simpa using hx)) hA2, rfl, bel.frame _, fun h => by cases h⟩
set_option maxRecDepth 100000 in
theorem FnTurns_j1 : joined1 Try.prog 4 Try.f4 Rows.fnTurnsSpec Rows.fnTurnsRow = true := by kernel_rfl
set_option maxRecDepth 100000 in
theorem FnTurns_j2 : joined2 Try.prog 4 Try.f4 Rows.fnTurnsSpec Rows.fnTurnsRow = true := by kernel_rfl
set_option maxRecDepth 100000 in
theorem FnTurns_j3 : joined3 Try.prog 4 Try.f4 Rows.fnTurnsSpec Rows.fnTurnsRow = true := by kernel_rfl
theorem FnTurns_holds : Rows.FnTurnsSaid :=
  OpenClaim.holds_of_wide 4 Try.f4 rfl rfl rfl rfl rfl rfl rfl ⟨rfl, rfl, rfl, rfl, rfl⟩ rfl rfl rfl rfl rfl (by kernel_rfl) Try.func4 (joined_of FnTurns_j1 FnTurns_j2 FnTurns_j3)
    (of_decide_eq_true (by kernel_rfl)) (by unfold Func.isWrapper; first | (rw [if_pos (by decide +kernel)]; kernel_rfl) | (rw [if_neg (by decide +kernel)]; exact ⟨rfl, rfl⟩))
    (fun os started H enc _ => FnTurns_lifted os started H enc)
end Go.Proofs.Ytkppijcjmhkkkaa
