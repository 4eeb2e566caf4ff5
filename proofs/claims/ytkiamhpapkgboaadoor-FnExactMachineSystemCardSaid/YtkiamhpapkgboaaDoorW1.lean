/- Walks of the least functions: ranges, comparisons of points. -/
import Derived.Test.YtkiamhpapkgboaaDoorBase
import Derived.Test.YtkiamhpapkgboaaDoorProg
namespace Go.Proofs.YtkiamhpapkgboaaDoor
open Go.RowKit
set_option linter.unusedSimpArgs false
set_option linter.unusedVariables false
attribute [local go_sem] BelowBy.cell BelowBy.cell_drew stillUpon givesUpon
theorem within_any (n lo hi : Int) (w : World) :
    Calls Tryd.prog 48 #[.int .i64 n, .int .i64 lo, .int .i64 hi] w fun e w' => e = .returned (.bool (inB n lo hi)) ∧ w = w' := by
  by_cases h1 : lo ≤ n
  · by_cases h2 : n ≤ hi
    · go_enter Tryd.func48, Tryd.ntmps48
      go_wp2
      go_ret
      exact ⟨ret_bool (inB_true.2 ⟨h1, h2⟩).symm, rfl⟩
    · have h3 : hi < n := by omega
      clear h2
      go_enter Tryd.func48, Tryd.ntmps48
      go_wp2
      go_ret
      exact ⟨ret_bool ((decide_eq_false (by omega)).trans (inB_false.2 (by omega)).symm), rfl⟩
  · have h3 : n < lo := by omega
    clear h1
    go_enter Tryd.func48, Tryd.ntmps48
    go_wp2
    go_ret
    exact ⟨ret_bool (inB_false.2 (by omega)).symm, rfl⟩

theorem isIndex_any (i : Int) (m : Int) (w : World) (h0 : 0 ≤ m) (hm : m ≤ 140737488355328) :
    Calls Tryd.prog 50 #[.int .i64 i, .int .i64 m] w fun e w' => e = .returned (.bool (inB i 0 (m - 1))) ∧ w = w' := by
  go_enter Tryd.func50, Tryd.ntmps50
  go_wp2_with (go_at_call 48; refine (within_any _ _ _ _).mono ?_; rintro e w' ⟨rfl, rfl⟩)
  go_ret
  exact ⟨rfl, rfl⟩

end Go.Proofs.YtkiamhpapkgboaaDoor
