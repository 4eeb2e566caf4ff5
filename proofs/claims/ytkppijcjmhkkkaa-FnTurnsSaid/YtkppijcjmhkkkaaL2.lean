/- The laws' arguments, opened: a set, an assembly, a point, numbers. -/
import Derived.Test.YtkppijcjmhkkkaaL1
namespace Go.Proofs.Ytkppijcjmhkkkaa
open Go.RowKit Go.ChangeShapes Go.WideShapes Go.Deep
set_option linter.unusedSimpArgs false
set_option linter.unusedVariables false
theorem Try.own : ownKnob Try.prog.godebug = none := by kernel_rfl
theorem Try.laidOut : laidOutB Try.prog = true := by kernel_rfl
theorem cells_i64 : Try.prog.cellsOf 2 = 1 := by kernel_rfl
section
variable {H : Type} {enc : TypeId × Value → H} {w : World} {base b0 : Nat} {spare : Nat → Bool} {held : Bool} {r : Reach} {v : Value} {d : DataW H} {p : List MemPlace}
set_option maxRecDepth 100000 in
theorem open_ints_ (hv : Value.okWide Try.prog w r b0 37 v) (h : DataW.Trod enc Try.prog w base spare held 37 v d p) :
    ∃ A n c xs, v = .slice A n c ∧ RdSl 1 RInt w A n xs ∧ n ≤ maxLen ∧ ∀ x ∈ xs, (Lit.int .i64 x).wf = true :=
  open_sl (R := RInt) (Q := fun x => (Lit.int .i64 x).wf = true) Try.underlying37 cells_i64 (by omega) (fun n cs z b o h hl hc => el_int_wf Try.underlying2 n cs z b o h hl hc) hv h
end
end Go.Proofs.Ytkppijcjmhkkkaa
