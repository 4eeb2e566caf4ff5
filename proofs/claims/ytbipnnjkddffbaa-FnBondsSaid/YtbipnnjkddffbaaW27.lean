/- Walks: fractions of two numbers that are not negative. -/
import Derived.Test.YtbipnnjkddffbaaP2
import Derived.Test.YtbipnnjkddffbaaHTo
import Derived.Test.YtbipnnjkddffbaaW17a
namespace Go.Proofs.Ytbipnnjkddffbaa
open Go.RowKit Go.Shelf
set_option linter.unusedSimpArgs false
set_option linter.unusedVariables false
attribute [local go_sem] BelowBy.cell BelowBy.cell_drew stillUpon givesUpon BelowBy.cell_drew2 BelowBy.cell_drew3

theorem gcd_step {a b g : Nat} (h : Nat.gcd a b = g) : Nat.gcd b (a % b) = g := by
  rw [← h, Nat.gcd_comm a b, Nat.gcd_rec b a, Nat.gcd_comm]
/-- the fraction of two numbers -/
def fracN (a b : Nat) : Nat := a / Nat.gcd a b
def fracD (a b : Nat) : Nat := b / Nat.gcd a b
theorem fracN_le (a b : Nat) : fracN a b ≤ a := Nat.div_le_self _ _
theorem fracD_le (a b : Nat) : fracD a b ≤ b := Nat.div_le_self _ _
theorem fracD_pos {a b : Nat} (h : 0 < b) : 0 < fracD a b := Nat.div_pos (Nat.gcd_le_right _ h) (Nat.gcd_pos_of_pos_right _ h)
theorem frac_gcd {a b : Nat} (h : 0 < b) : Nat.gcd (fracN a b) (fracD a b) = 1 := Nat.gcd_div_gcd_div_gcd_of_pos_right h
/-- a fraction and OK -/
def FrRes (w : World) (a b : Nat) (e : Ending) (w' : World) : Prop := e = .returned (.tuple #[.agg #[.int .i64 (fracN a b : Nat), .int .i64 (fracD a b : Nat)], .int .i64 0]) ∧ Below w.heap.size w w'
theorem quo_nat {a b : Nat} : ((a : Int) / (b : Int)) = ((a / b : Nat) : Int) := by omega
end Go.Proofs.Ytbipnnjkddffbaa
