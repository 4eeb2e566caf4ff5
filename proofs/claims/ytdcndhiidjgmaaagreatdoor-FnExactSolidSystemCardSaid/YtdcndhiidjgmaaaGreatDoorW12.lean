/- Walks: the program's places, steps and bonds' strengths. -/
import Derived.Test.YtdcndhiidjgmaaaGreatDoorP1
namespace Go.Proofs.YtdcndhiidjgmaaaGreatDoor
open Go.RowKit
set_option linter.unusedSimpArgs false
set_option linter.unusedVariables false
attribute [local go_sem] BelowBy.cell BelowBy.cell_drew stillUpon givesUpon

theorem plus_any (a b c d : Int) (w : World) (h1 : -1000000 ≤ a ∧ a ≤ 1000000) (h2 : -1000000 ≤ b ∧ b ≤ 1000000) (h3 : -1000000 ≤ c ∧ c ≤ 1000000) (h4 : -1000000 ≤ d ∧ d ≤ 1000000) :
    Calls Tryz.prog 57 #[.agg #[.int .i64 a, .int .i64 b], .agg #[.int .i64 c, .int .i64 d]] w fun e w' => e = .returned (.agg #[.int .i64 (a + c), .int .i64 (b + d)]) ∧ Below w.heap.size w w' := by
  go_enter Tryz.func57, Tryz.ntmps57
  go_wp2
  refine bodyPost_ret (v := .agg #[.int .i64 (a + c), .int .i64 (b + d)]) (by simp only [results, Tryz.results57]; go_simp) rfl ?_
  exact ⟨rfl, by exact bel_⟩
set_option maxRecDepth 100000 in
theorem step_any (x y : Int) (d : Nat) (w : World) (hd : d < 4) (hx : -1000 ≤ x ∧ x ≤ 1000) (hy : -1000 ≤ y ∧ y ≤ 1000) :
    Calls Tryz.prog 31 #[.agg #[.int .i64 x, .int .i64 y], .int .i64 d] w fun e w' => e = .returned (.agg #[.int .i64 (stepX x d), .int .i64 (stepY y d)]) ∧ Below w.heap.size w w' := by
  have : d = 0 ∨ d = 1 ∨ d = 2 ∨ d = 3 := by omega
  have hi0 : ∀ W, (Instr.index 91 (.agg #[.int .i64 0, .int .i64 1, .int .i64 1, .int .i64 0, .int .i64 0, .int .i64 (-1), .int .i64 (-1), .int .i64 0]) (.int .i64 0)).run Tryz.prog W = .ok (.agg #[.int .i64 0, .int .i64 1]) W := fun W => by kernel_rfl
  have hi1 : ∀ W, (Instr.index 91 (.agg #[.int .i64 0, .int .i64 1, .int .i64 1, .int .i64 0, .int .i64 0, .int .i64 (-1), .int .i64 (-1), .int .i64 0]) (.int .i64 1)).run Tryz.prog W = .ok (.agg #[.int .i64 1, .int .i64 0]) W := fun W => by kernel_rfl
  have hi2 : ∀ W, (Instr.index 91 (.agg #[.int .i64 0, .int .i64 1, .int .i64 1, .int .i64 0, .int .i64 0, .int .i64 (-1), .int .i64 (-1), .int .i64 0]) (.int .i64 2)).run Tryz.prog W = .ok (.agg #[.int .i64 0, .int .i64 (-1)]) W := fun W => by kernel_rfl
  have hi3 : ∀ W, (Instr.index 91 (.agg #[.int .i64 0, .int .i64 1, .int .i64 1, .int .i64 0, .int .i64 0, .int .i64 (-1), .int .i64 (-1), .int .i64 0]) (.int .i64 3)).run Tryz.prog W = .ok (.agg #[.int .i64 (-1), .int .i64 0]) W := fun W => by kernel_rfl
  rcases this with rfl | rfl | rfl | rfl
  · show Calls Tryz.prog 31 #[.agg #[.int .i64 x, .int .i64 y], .int .i64 0] w fun e w' => e = .returned (.agg #[.int .i64 (x), .int .i64 (y + 1)]) ∧ Below w.heap.size w w'
    go_enter Tryz.func31, Tryz.ntmps31
    go_wp2_with (go_at_call 57; refine (plus_any _ _ _ _ _ ⟨by omega, by omega⟩ ⟨by omega, by omega⟩ ⟨by omega, by omega⟩ ⟨by omega, by omega⟩).mono ?_; rintro e w1 ⟨rfl, hb1⟩; obtain ⟨chb1, fhb1, shb1, thb1⟩ := bcell hb1)
    refine bodyPost_ret (v := .agg #[.int .i64 (x), .int .i64 (y + 1)]) (by simp only [results, Tryz.results31]; go_simp) rfl ?_
    exact ⟨rfl, by exact bel_⟩
  · show Calls Tryz.prog 31 #[.agg #[.int .i64 x, .int .i64 y], .int .i64 1] w fun e w' => e = .returned (.agg #[.int .i64 (x + 1), .int .i64 (y)]) ∧ Below w.heap.size w w'
    go_enter Tryz.func31, Tryz.ntmps31
    go_wp2_with (go_at_call 57; refine (plus_any _ _ _ _ _ ⟨by omega, by omega⟩ ⟨by omega, by omega⟩ ⟨by omega, by omega⟩ ⟨by omega, by omega⟩).mono ?_; rintro e w1 ⟨rfl, hb1⟩; obtain ⟨chb1, fhb1, shb1, thb1⟩ := bcell hb1)
    refine bodyPost_ret (v := .agg #[.int .i64 (x + 1), .int .i64 (y)]) (by simp only [results, Tryz.results31]; go_simp) rfl ?_
    exact ⟨rfl, by exact bel_⟩
  · show Calls Tryz.prog 31 #[.agg #[.int .i64 x, .int .i64 y], .int .i64 2] w fun e w' => e = .returned (.agg #[.int .i64 (x), .int .i64 (y - 1)]) ∧ Below w.heap.size w w'
    go_enter Tryz.func31, Tryz.ntmps31
    go_wp2_with (go_at_call 57; refine (plus_any _ _ _ _ _ ⟨by omega, by omega⟩ ⟨by omega, by omega⟩ ⟨by omega, by omega⟩ ⟨by omega, by omega⟩).mono ?_; rintro e w1 ⟨rfl, hb1⟩; obtain ⟨chb1, fhb1, shb1, thb1⟩ := bcell hb1)
    refine bodyPost_ret (v := .agg #[.int .i64 (x), .int .i64 (y + -1)]) (by simp only [results, Tryz.results31]; go_simp) rfl ?_
    exact ⟨rfl, by exact bel_⟩
  · show Calls Tryz.prog 31 #[.agg #[.int .i64 x, .int .i64 y], .int .i64 3] w fun e w' => e = .returned (.agg #[.int .i64 (x - 1), .int .i64 (y)]) ∧ Below w.heap.size w w'
    go_enter Tryz.func31, Tryz.ntmps31
    go_wp2_with (go_at_call 57; refine (plus_any _ _ _ _ _ ⟨by omega, by omega⟩ ⟨by omega, by omega⟩ ⟨by omega, by omega⟩ ⟨by omega, by omega⟩).mono ?_; rintro e w1 ⟨rfl, hb1⟩; obtain ⟨chb1, fhb1, shb1, thb1⟩ := bcell hb1)
    refine bodyPost_ret (v := .agg #[.int .i64 (x + -1), .int .i64 (y)]) (by simp only [results, Tryz.results31]; go_simp) rfl ?_
    exact ⟨rfl, by exact bel_⟩
theorem opposite_any (d : Nat) (w : World) (h : d < 4) :
    Calls Tryz.prog 35 #[.int .i64 d] w fun e w' => e = .returned (.int .i64 (oppN d)) ∧ w = w' := by
  have : d = 0 ∨ d = 1 ∨ d = 2 ∨ d = 3 := by omega
  rcases this with rfl | rfl | rfl | rfl
  all_goals
    go_enter Tryz.func35, Tryz.ntmps35
    go_wp2
    go_ret
    exact ⟨rfl, rfl⟩
/-- what BinarySearchFunc says -/
def SearchRes (w : World) (xs : List Pl) (x y : Int) (e : Ending) (w' : World) : Prop :=
  ∃ (r : Int) (b : Bool), e = .returned (.tuple #[.int .i64 r, .bool b]) ∧ ((if b then r else -1) = placeI xs x y ∧ 0 ≤ r) ∧ Below w.heap.size w w'
end Go.Proofs.YtdcndhiidjgmaaaGreatDoor
