/- Walks: steps, directions, the program's and the reference's. -/
import Derived.Test.YtpfbaeccjppagaaDoorW4
namespace Go.Proofs.YtpfbaeccjppagaaDoor
open Go.RowKit
set_option linter.unusedSimpArgs false
set_option linter.unusedVariables false
attribute [local go_sem] BelowBy.cell BelowBy.cell_drew stillUpon givesUpon

theorem isDir_i (d : Int) (w : World) :
    Calls Tryd.prog 18 #[.int .i64 d] w fun e w' => e = .returned (.bool (inB d 0 3)) ∧ w = w' := by
  go_enter Tryd.func18, Tryd.ntmps18
  go_wp2_with (go_at_call 32; refine (within_any _ _ _ _).mono ?_; rintro e _ ⟨rfl, rfl⟩)
  go_ret
  exact ⟨rfl, rfl⟩
theorem ValidPoint_v {x y : Int} {v : Bool} (w : World) (h : validPt x y = v) :
    Calls Tryd.prog 17 #[.agg #[.int .i64 x, .int .i64 y]] w fun e w' => e = .returned (.bool v) ∧ Below w.heap.size w w' := by
  rw [← h]; exact ValidPoint_any _ _ _
theorem isDir_v {d : Int} {v : Bool} (w : World) (h : inB d 0 3 = v) :
    Calls Tryd.prog 18 #[.int .i64 d] w fun e w' => e = .returned (.bool v) ∧ w = w' := by
  rw [← h]; exact isDir_i _ _
theorem l01Point_v {x y : Int} {v : Bool} (w : World) (h : validPt x y = v) :
    Calls Tryd.prog 20 #[.agg #[.int .i64 x, .int .i64 y]] w fun e w' => e = .returned (.bool v) ∧ Below w.heap.size w w' := by
  rw [← h]; exact l01Point_any _ _ _
theorem l01Dir_v {d : Int} {v : Bool} (w : World) (h : inB d 0 3 = v) :
    Calls Tryd.prog 21 #[.int .i64 d] w fun e w' => e = .returned (.bool v) ∧ w = w' := by
  rw [← h]; exact l01Dir_any _ _
theorem plus_i (a b c d : Int) (w : World) (h1 : -1000000 ≤ a ∧ a ≤ 1000000) (h2 : -1000000 ≤ b ∧ b ≤ 1000000) (h3 : -1000000 ≤ c ∧ c ≤ 1000000) (h4 : -1000000 ≤ d ∧ d ≤ 1000000) :
    Calls Tryd.prog 33 #[.agg #[.int .i64 a, .int .i64 b], .agg #[.int .i64 c, .int .i64 d]] w fun e w' => e = .returned (.agg #[.int .i64 (a + c), .int .i64 (b + d)]) ∧ Below w.heap.size w w' := by
  go_enter Tryd.func33, Tryd.ntmps33
  go_wp2
  refine bodyPost_ret (v := .agg #[.int .i64 (a + c), .int .i64 (b + d)]) (by simp only [results, Tryd.results33]; go_simp) rfl ?_
  exact ⟨rfl, by exact bel_⟩
theorem validPt_iff {x y : Int} : validPt x y = true ↔ (-60 ≤ x ∧ x ≤ 60) ∧ (-60 ≤ y ∧ y ≤ 60) := by
  simp only [validPt, Bool.and_eq_true, inB_true]
set_option maxRecDepth 100000 in
theorem step_i (x y d : Int) (w : World) (hd : 0 ≤ d ∧ d ≤ 3) (hx : -1000 ≤ x ∧ x ≤ 1000) (hy : -1000 ≤ y ∧ y ≤ 1000) :
    Calls Tryd.prog 19 #[.agg #[.int .i64 x, .int .i64 y], .int .i64 d] w fun e w' => e = .returned (.agg #[.int .i64 (stepX x d), .int .i64 (stepY y d)]) ∧ Below w.heap.size w w' := by
  have : d = 0 ∨ d = 1 ∨ d = 2 ∨ d = 3 := by omega
  have hi0 : ∀ W, (Instr.index 56 (.agg #[.int .i64 0, .int .i64 1, .int .i64 1, .int .i64 0, .int .i64 0, .int .i64 (-1), .int .i64 (-1), .int .i64 0]) (.int .i64 0)).run Tryd.prog W = .ok (.agg #[.int .i64 0, .int .i64 1]) W := fun W => by kernel_rfl
  have hi1 : ∀ W, (Instr.index 56 (.agg #[.int .i64 0, .int .i64 1, .int .i64 1, .int .i64 0, .int .i64 0, .int .i64 (-1), .int .i64 (-1), .int .i64 0]) (.int .i64 1)).run Tryd.prog W = .ok (.agg #[.int .i64 1, .int .i64 0]) W := fun W => by kernel_rfl
  have hi2 : ∀ W, (Instr.index 56 (.agg #[.int .i64 0, .int .i64 1, .int .i64 1, .int .i64 0, .int .i64 0, .int .i64 (-1), .int .i64 (-1), .int .i64 0]) (.int .i64 2)).run Tryd.prog W = .ok (.agg #[.int .i64 0, .int .i64 (-1)]) W := fun W => by kernel_rfl
  have hi3 : ∀ W, (Instr.index 56 (.agg #[.int .i64 0, .int .i64 1, .int .i64 1, .int .i64 0, .int .i64 0, .int .i64 (-1), .int .i64 (-1), .int .i64 0]) (.int .i64 3)).run Tryd.prog W = .ok (.agg #[.int .i64 (-1), .int .i64 0]) W := fun W => by kernel_rfl
  obtain ⟨hx1, hx2⟩ := hx
  obtain ⟨hy1, hy2⟩ := hy
  clear hd
  rcases this with rfl | rfl | rfl | rfl
  · show Calls Tryd.prog 19 #[.agg #[.int .i64 x, .int .i64 y], .int .i64 0] w fun e w' => e = .returned (.agg #[.int .i64 (x), .int .i64 (y + 1)]) ∧ Below w.heap.size w w'
    go_enter Tryd.func19, Tryd.ntmps19
    go_wp2_with (go_at_call 33; refine (plus_i _ _ _ _ _ ⟨by omega, by omega⟩ ⟨by omega, by omega⟩ ⟨by omega, by omega⟩ ⟨by omega, by omega⟩).mono ?_; rintro e w1 ⟨rfl, hb1⟩; obtain ⟨chb1, fhb1, shb1, thb1⟩ := bcell hb1)
    refine bodyPost_ret (v := .agg #[.int .i64 (x), .int .i64 (y + 1)]) (by simp only [results, Tryd.results19]; go_simp) rfl ?_
    exact ⟨rfl, by exact bel_⟩
  · show Calls Tryd.prog 19 #[.agg #[.int .i64 x, .int .i64 y], .int .i64 1] w fun e w' => e = .returned (.agg #[.int .i64 (x + 1), .int .i64 (y)]) ∧ Below w.heap.size w w'
    go_enter Tryd.func19, Tryd.ntmps19
    go_wp2_with (go_at_call 33; refine (plus_i _ _ _ _ _ ⟨by omega, by omega⟩ ⟨by omega, by omega⟩ ⟨by omega, by omega⟩ ⟨by omega, by omega⟩).mono ?_; rintro e w1 ⟨rfl, hb1⟩; obtain ⟨chb1, fhb1, shb1, thb1⟩ := bcell hb1)
    refine bodyPost_ret (v := .agg #[.int .i64 (x + 1), .int .i64 (y)]) (by simp only [results, Tryd.results19]; go_simp) rfl ?_
    exact ⟨rfl, by exact bel_⟩
  · show Calls Tryd.prog 19 #[.agg #[.int .i64 x, .int .i64 y], .int .i64 2] w fun e w' => e = .returned (.agg #[.int .i64 (x), .int .i64 (y - 1)]) ∧ Below w.heap.size w w'
    go_enter Tryd.func19, Tryd.ntmps19
    go_wp2_with (go_at_call 33; refine (plus_i _ _ _ _ _ ⟨by omega, by omega⟩ ⟨by omega, by omega⟩ ⟨by omega, by omega⟩ ⟨by omega, by omega⟩).mono ?_; rintro e w1 ⟨rfl, hb1⟩; obtain ⟨chb1, fhb1, shb1, thb1⟩ := bcell hb1)
    refine bodyPost_ret (v := .agg #[.int .i64 (x), .int .i64 (y + -1)]) (by simp only [results, Tryd.results19]; go_simp) rfl ?_
    exact ⟨rfl, by exact bel_⟩
  · show Calls Tryd.prog 19 #[.agg #[.int .i64 x, .int .i64 y], .int .i64 3] w fun e w' => e = .returned (.agg #[.int .i64 (x - 1), .int .i64 (y)]) ∧ Below w.heap.size w w'
    go_enter Tryd.func19, Tryd.ntmps19
    go_wp2_with (go_at_call 33; refine (plus_i _ _ _ _ _ ⟨by omega, by omega⟩ ⟨by omega, by omega⟩ ⟨by omega, by omega⟩ ⟨by omega, by omega⟩).mono ?_; rintro e w1 ⟨rfl, hb1⟩; obtain ⟨chb1, fhb1, shb1, thb1⟩ := bcell hb1)
    refine bodyPost_ret (v := .agg #[.int .i64 (x + -1), .int .i64 (y)]) (by simp only [results, Tryd.results19]; go_simp) rfl ?_
    exact ⟨rfl, by exact bel_⟩
/-- whether the step is one -/
def stepOk (x y d : Int) : Bool := validPt x y && (inB d 0 3 && validPt (stepX x d) (stepY y d))
theorem stepOk_spec {x y d : Int} (h : stepOk x y d = true) : validPt x y = true ∧ inB d 0 3 = true ∧ validPt (stepX x d) (stepY y d) = true := by
  simpa only [stepOk, Bool.and_eq_true] using h
theorem step_v {x y d X Y : Int} (w : World) (hd : inB d 0 3 = true) (hv : validPt x y = true) (hX : stepX x d = X) (hY : stepY y d = Y) :
    Calls Tryd.prog 19 #[.agg #[.int .i64 x, .int .i64 y], .int .i64 d] w fun e w' => e = .returned (.agg #[.int .i64 X, .int .i64 Y]) ∧ Below w.heap.size w w' := by
  obtain ⟨⟨h1, h2⟩, h3, h4⟩ := validPt_iff.1 hv
  rw [← hX, ← hY]
  exact step_i x y d w (inB_true.1 hd) ⟨by omega, by omega⟩ ⟨by omega, by omega⟩
theorem lstep_v {x y d X Y : Int} (w : World) (hd : inB d 0 3 = true) (hv : validPt x y = true) (hX : stepX x d = X) (hY : stepY y d = Y) :
    Calls Tryd.prog 22 #[.agg #[.int .i64 x, .int .i64 y], .int .i64 d] w fun e w' => e = .returned (.agg #[.int .i64 X, .int .i64 Y]) ∧ Below w.heap.size w w' := by
  obtain ⟨⟨h1, h2⟩, h3, h4⟩ := validPt_iff.1 hv
  rw [← hX, ← hY]
  exact l01Step_any x y d w (inB_true.1 hd) ⟨by omega, by omega⟩ ⟨by omega, by omega⟩
end Go.Proofs.YtpfbaeccjppagaaDoor
