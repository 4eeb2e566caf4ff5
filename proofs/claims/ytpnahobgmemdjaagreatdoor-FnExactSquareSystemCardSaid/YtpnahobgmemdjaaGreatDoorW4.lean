/- Walks: the reference's small functions on numbers and points. -/
import Derived.Test.YtpnahobgmemdjaaGreatDoorW3
namespace Go.Proofs.YtpnahobgmemdjaaGreatDoor
open Go.RowKit
set_option linter.unusedSimpArgs false
set_option linter.unusedVariables false
attribute [local go_sem] BelowBy.cell BelowBy.cell_drew stillUpon givesUpon
theorem l00In_any (n lo hi : Int) (w : World) :
    Calls Tryz.prog 9 #[.int .i64 n, .int .i64 lo, .int .i64 hi] w fun e w' => e = .returned (.bool (inB n lo hi)) ∧ w = w' := by
  cases h : decide (lo ≤ n)
  all_goals
    go_enter Tryz.func9, Tryz.ntmps9
    go_wp2
    go_ret
    exact ⟨ret_bool (by simp [inB, h]), rfl⟩
def oppI (d : Int) : Int := if d < 2 then d + 2 else d - 2
theorem lessPt_eq (ax ay bx b_y : Int) : lessPt ax ay bx b_y = (decide (ay < b_y) || (ay == b_y && decide (ax < bx))) := by
  unfold lessPt cmpPt orI cmpI
  rw [Bool.eq_iff_iff]
  simp only [decide_eq_true_eq, Bool.or_eq_true, Bool.and_eq_true, beq_iff_eq]
  by_cases h1 : ay < b_y
  · rw [if_pos h1, if_pos (by decide)]; omega
  · rw [if_neg h1]
    by_cases h2 : b_y < ay
    · rw [if_pos h2, if_pos (by decide)]; omega
    · rw [if_neg h2, if_neg (by decide)]
      by_cases h3 : ax < bx
      · rw [if_pos h3]; omega
      · rw [if_neg h3]
        by_cases h4 : bx < ax
        · rw [if_pos h4]; omega
        · rw [if_neg h4]; omega
/-- the next point -/
def stepX (x d : Int) : Int := if d = 1 then x + 1 else if d = 3 then x - 1 else x
def stepY (y d : Int) : Int := if d = 0 then y + 1 else if d = 2 then y - 1 else y
end Go.Proofs.YtpnahobgmemdjaaGreatDoor
