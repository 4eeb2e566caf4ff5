/- Walks: the reference's small functions on numbers and points. -/
import Derived.Test.YtpnahobgmemdjaaW3
namespace Go.Proofs.Ytpnahobgmemdjaa
open Go.RowKit
set_option linter.unusedSimpArgs false
set_option linter.unusedVariables false
attribute [local go_sem] BelowBy.cell BelowBy.cell_drew stillUpon givesUpon
theorem l00In_any (n lo hi : Int) (w : World) :
    Calls Try.prog 52 #[.int .i64 n, .int .i64 lo, .int .i64 hi] w fun e w' => e = .returned (.bool (inB n lo hi)) ∧ w = w' := by
  cases h : decide (lo ≤ n)
  all_goals
    go_enter Try.func52, Try.ntmps52
    go_wp2
    go_ret
    exact ⟨ret_bool (by simp [inB, h]), rfl⟩
theorem l01Dir_any (n : Int) (w : World) :
    Calls Try.prog 39 #[.int .i64 n] w fun e w' => e = .returned (.bool (inB n 0 3)) ∧ w = w' := by
  go_enter Try.func39, Try.ntmps39
  go_wp2_with (go_at_call 52; refine (l00In_any _ _ _ _).mono ?_; rintro e _ ⟨rfl, rfl⟩)
  go_ret
  exact ⟨rfl, rfl⟩
def oppI (d : Int) : Int := if d < 2 then d + 2 else d - 2
theorem l01Point_any (x y : Int) (w : World) :
    Calls Try.prog 38 #[.agg #[.int .i64 x, .int .i64 y]] w fun e w' => e = .returned (.bool (validPt x y)) ∧ Below w.heap.size w w' := by
  cases h : inB x (-60) 60
  all_goals
    go_enter Try.func38, Try.ntmps38
    go_wp2_with (go_at_call 52; refine (l00In_any _ _ _ _).mono ?_; rintro e _ ⟨rfl, rfl⟩)
    go_ret
    refine ⟨ret_bool (by simp [validPt, h]), ?_⟩
    exact bel_
theorem lessPt_eq (ax ay bx b_y : Int) : lessPt ax ay bx b_y = (decide (ay < b_y) || (ay == b_y && decide (ax < bx))) := by
  unfold lessPt cmpPt orI cmpI
  rw [Bool.eq_iff_iff]
  simp only [decide_eq_true_eq, Bool.or_eq_true, Bool.and_eq_true, beq_iff_eq]
  by_cases h1 : ay < b_y
  · rw [if_pos h1, if_pos (by decide)]; omega
  · rw [if_neg h1]
    by_cases h2 : b_y < ay
    · rw [if_pos h2, if_pos (by decide)]; omega
    · rw [if_neg h2, if_neg (by decide)]
      by_cases h3 : ax < bx
      · rw [if_pos h3]; omega
      · rw [if_neg h3]
        by_cases h4 : bx < ax
        · rw [if_pos h4]; omega
        · rw [if_neg h4]; omega
theorem sLessPoint_any (ax ay bx b_y : Int) (w : World) :
    Calls Try.prog 43 #[.agg #[.int .i64 ax, .int .i64 ay], .agg #[.int .i64 bx, .int .i64 b_y]] w fun e w' => e = .returned (.bool (lessPt ax ay bx b_y)) ∧ Below w.heap.size w w' := by
  cases h : decide (ay < b_y)
  · cases h2 : (ay == b_y)
    all_goals
      go_enter Try.func43, Try.ntmps43
      go_wp2
      go_ret
      refine ⟨ret_bool (by rw [lessPt_eq]; simp [h, h2]), ?_⟩
      exact bel_
  · go_enter Try.func43, Try.ntmps43
    go_wp2
    go_ret
    refine ⟨ret_bool (by rw [lessPt_eq]; simp [h]), ?_⟩
    exact bel_
/-- the next point -/
def stepX (x d : Int) : Int := if d = 1 then x + 1 else if d = 3 then x - 1 else x
def stepY (y d : Int) : Int := if d = 0 then y + 1 else if d = 2 then y - 1 else y
theorem l01Step_any (x y d : Int) (w : World) (hd : 0 ≤ d ∧ d ≤ 3) (hx : -1000 ≤ x ∧ x ≤ 1000) (hy : -1000 ≤ y ∧ y ≤ 1000) :
    Calls Try.prog 40 #[.agg #[.int .i64 x, .int .i64 y], .int .i64 d] w fun e w' => e = .returned (.agg #[.int .i64 (stepX x d), .int .i64 (stepY y d)]) ∧ Below w.heap.size w w' := by
  obtain ⟨h0, h1⟩ := hd
  obtain ⟨x0, x1⟩ := hx
  obtain ⟨y0, y1⟩ := hy
  have : d = 0 ∨ d = 1 ∨ d = 2 ∨ d = 3 := by omega
  rcases this with rfl | rfl | rfl | rfl
  · go_enter Try.func40, Try.ntmps40
    go_wp2
    refine bodyPost_ret (v := .agg #[.int .i64 (x), .int .i64 (y + 1)]) (by simp only [results, Try.results40]; go_simp) rfl ?_
    refine ⟨rfl, ?_⟩
    exact bel_
  · go_enter Try.func40, Try.ntmps40
    go_wp2
    refine bodyPost_ret (v := .agg #[.int .i64 (x + 1), .int .i64 (y)]) (by simp only [results, Try.results40]; go_simp) rfl ?_
    refine ⟨rfl, ?_⟩
    exact bel_
  · go_enter Try.func40, Try.ntmps40
    go_wp2
    refine bodyPost_ret (v := .agg #[.int .i64 (x), .int .i64 (y - 1)]) (by simp only [results, Try.results40]; go_simp) rfl ?_
    refine ⟨rfl, ?_⟩
    exact bel_
  · go_enter Try.func40, Try.ntmps40
    go_wp2
    refine bodyPost_ret (v := .agg #[.int .i64 (x - 1), .int .i64 (y)]) (by simp only [results, Try.results40]; go_simp) rfl ?_
    refine ⟨rfl, ?_⟩
    exact bel_
end Go.Proofs.Ytpnahobgmemdjaa
