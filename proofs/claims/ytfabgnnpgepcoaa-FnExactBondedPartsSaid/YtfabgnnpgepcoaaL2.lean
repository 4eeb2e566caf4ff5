/- The laws' arguments, opened: a set, an assembly, a point, numbers. -/
import Derived.Test.YtfabgnnpgepcoaaL1
namespace Go.Proofs.Ytfabgnnpgepcoaa
open Go.RowKit Go.ChangeShapes Go.WideShapes Go.Deep
set_option linter.unusedSimpArgs false
set_option linter.unusedVariables false
theorem Try.own : ownKnob Try.prog.godebug = none := by kernel_rfl
theorem Try.laidOut : laidOutB Try.prog = true := by kernel_rfl
theorem cells_i64 : Try.prog.cellsOf 2 = 1 := by kernel_rfl
section
variable {H : Type} {enc : TypeId × Value → H} {w : World} {base b0 : Nat} {spare : Nat → Bool} {held : Bool} {r : Reach} {v : Value} {d : DataW H} {p : List MemPlace}
set_option maxRecDepth 100000 in
theorem open_ints_ (hv : Value.okWide Try.prog w r b0 29 v) (h : DataW.Trod enc Try.prog w base spare held 29 v d p) :
    ∃ A n c xs, v = .slice A n c ∧ RdSl 1 RInt w A n xs ∧ n ≤ maxLen ∧ ∀ x ∈ xs, (Lit.int .i64 x).wf = true :=
  open_sl (R := RInt) (Q := fun x => (Lit.int .i64 x).wf = true) Try.underlying29 cells_i64 (by omega) (fun n cs z b o h hl hc => el_int_wf Try.underlying2 n cs z b o h hl hc) hv h
set_option maxRecDepth 100000 in
theorem open_pt (hv : Value.okWide Try.prog w r b0 49 v) (h : DataW.Trod enc Try.prog w base spare held 49 v d p) :
    ∃ x y : Int, v = .agg #[.int .i64 x, .int .i64 y] ∧ (Lit.int .i64 x).wf = true ∧ (Lit.int .i64 y).wf = true :=
  open_ints2 Try.underlying49 rfl rfl Try.underlying2 Try.underlying2 cells_i64 cells_i64 (by kernel_rfl) hv h
set_option maxRecDepth 100000 in
theorem open_asm (hv : Value.okWide Try.prog w r b0 28 v) (h : DataW.Trod enc Try.prog w base spare held 28 v d p) :
    ∃ A n c xs, v = .agg #[.slice A n c] ∧ RdSl 3 RPl w A n xs ∧ n ≤ maxLen ∧ ∀ x ∈ xs, True :=
  open_sl1 (R := RPl) (Q := fun _ => True) Try.underlying28 rfl Try.underlying26 (by kernel_rfl) (by kernel_rfl) (by kernel_rfl) (by omega)
    (fun n cs z b o h hl hc => el_pl Try.underlying154 rfl rfl Try.underlying49 Try.underlying2 rfl rfl Try.underlying2 Try.underlying2 (by kernel_rfl) cells_i64 cells_i64 cells_i64 n cs z b o h hl hc) hv h
set_option maxRecDepth 100000 in
theorem open_set (hv : Value.okWide Try.prog w r b0 25 v) (h : DataW.Trod enc Try.prog w base spare held 25 v d p) :
    ∃ G n cg gs T m ct ts, v = .agg #[.slice G n cg, .slice T m ct] ∧ RdSl 2 RGl w G n gs ∧ n ≤ maxLen ∧ (∀ e ∈ gs, e.name.size ≤ maxLen) ∧ RdSl 2 RTi w T m ts ∧ m ≤ maxLen ∧ ∀ e ∈ ts, e.name.size ≤ maxLen ∧ e.sides.length ≤ maxLen :=
  open_sl2 (R := RGl) (Q := fun e => e.name.size ≤ maxLen) (R' := RTi) (Q' := fun e => e.name.size ≤ maxLen ∧ e.sides.length ≤ maxLen) Try.underlying25 rfl rfl Try.underlying22 Try.underlying23 (by kernel_rfl) (by kernel_rfl) (by kernel_rfl) (by kernel_rfl) (by kernel_rfl) (by omega) (by omega)
    (fun n cs z b o h hl hc => el_gl Try.underlying142 rfl rfl Try.underlying9 Try.underlying2 (by kernel_rfl) cells_i64 n cs z b o h hl hc)
    (fun n cs z b o h hl hc => el_ti Try.underlying144 rfl rfl Try.underlying9 Try.underlying29 Try.underlying2 (by kernel_rfl) (by kernel_rfl) cells_i64 n cs z b o h hl hc) hv h
end
end Go.Proofs.Ytfabgnnpgepcoaa
