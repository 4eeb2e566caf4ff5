import Derived.Test.YtpnahobgmemdjaaW4
set_option linter.unusedSimpArgs false
set_option linter.unusedVariables false
/- Walks: steps, directions, the program's and the reference's. -/

namespace Go.Proofs.Ytpnahobgmemdjaa
open Go.RowKit
attribute [local go_sem] BelowBy.cell BelowBy.cell_drew stillUpon givesUpon

theorem ValidPoint_v {x y : Int} {v : Bool} (w : World) (h : validPt x y = v) :
    Calls Try.prog 66 #[.agg #[.int .i64 x, .int .i64 y]] w fun e w' => e = .returned (.bool v) ∧ Below w.heap.size w w' := by
  rw [← h]; exact ValidPoint_any _ _ _
theorem l01Point_v {x y : Int} {v : Bool} (w : World) (h : validPt x y = v) :
    Calls Try.prog 38 #[.agg #[.int .i64 x, .int .i64 y]] w fun e w' => e = .returned (.bool v) ∧ Below w.heap.size w w' := by
  rw [← h]; exact l01Point_any _ _ _
theorem l01Dir_v {d : Int} {v : Bool} (w : World) (h : inB d 0 3 = v) :
    Calls Try.prog 39 #[.int .i64 d] w fun e w' => e = .returned (.bool v) ∧ w = w' := by
  rw [← h]; exact l01Dir_any _ _
theorem plus_i (a b c d : Int) (w : World) (h1 : -1000000 ≤ a ∧ a ≤ 1000000) (h2 : -1000000 ≤ b ∧ b ≤ 1000000) (h3 : -1000000 ≤ c ∧ c ≤ 1000000) (h4 : -1000000 ≤ d ∧ d ≤ 1000000) :
    Calls Try.prog 86 #[.agg #[.int .i64 a, .int .i64 b], .agg #[.int .i64 c, .int .i64 d]] w fun e w' => e = .returned (.agg #[.int .i64 (a + c), .int .i64 (b + d)]) ∧ Below w.heap.size w w' := by
  go_enter Try.func86, Try.ntmps86
  go_wp2
  refine bodyPost_ret (v := .agg #[.int .i64 (a + c), .int .i64 (b + d)]) (by simp only [results, Try.results86]; go_simp) rfl ?_
  exact ⟨rfl, by exact bel_⟩
theorem validPt_iff {x y : Int} : validPt x y = true ↔ (-60 ≤ x ∧ x ≤ 60) ∧ (-60 ≤ y ∧ y ≤ 60) := by
  simp only [validPt, Bool.and_eq_true, inB_true]
set_option maxRecDepth 100000 in
theorem step_i (x y d : Int) (w : World) (hd : 0 ≤ d ∧ d ≤ 3) (hx : -1000 ≤ x ∧ x ≤ 1000) (hy : -1000 ≤ y ∧ y ≤ 1000) :
    Calls Try.prog 69 #[.agg #[.int .i64 x, .int .i64 y], .int .i64 d] w fun e w' => e = .returned (.agg #[.int .i64 (stepX x d), .int .i64 (stepY y d)]) ∧ Below w.heap.size w w' := by
  have : d = 0 ∨ d = 1 ∨ d = 2 ∨ d = 3 := by omega
  have hi0 : ∀ W, (Instr.index 110 (.agg #[.int .i64 0, .int .i64 1, .int .i64 1, .int .i64 0, .int .i64 0, .int .i64 (-1), .int .i64 (-1), .int .i64 0]) (.int .i64 0)).run Try.prog W = .ok (.agg #[.int .i64 0, .int .i64 1]) W := fun W => by kernel_rfl
  have hi1 : ∀ W, (Instr.index 110 (.agg #[.int .i64 0, .int .i64 1, .int .i64 1, .int .i64 0, .int .i64 0, .int .i64 (-1), .int .i64 (-1), .int .i64 0]) (.int .i64 1)).run Try.prog W = .ok (.agg #[.int .i64 1, .int .i64 0]) W := fun W => by kernel_rfl
  have hi2 : ∀ W, (Instr.index 110 (.agg #[.int .i64 0, .int .i64 1, .int .i64 1, .int .i64 0, .int .i64 0, .int .i64 (-1), .int .i64 (-1), .int .i64 0]) (.int .i64 2)).run Try.prog W = .ok (.agg #[.int .i64 0, .int .i64 (-1)]) W := fun W => by kernel_rfl
  have hi3 : ∀ W, (Instr.index 110 (.agg #[.int .i64 0, .int .i64 1, .int .i64 1, .int .i64 0, .int .i64 0, .int .i64 (-1), .int .i64 (-1), .int .i64 0]) (.int .i64 3)).run Try.prog W = .ok (.agg #[.int .i64 (-1), .int .i64 0]) W := fun W => by kernel_rfl
  obtain ⟨hx1, hx2⟩ := hx
  obtain ⟨hy1, hy2⟩ := hy
  clear hd
  rcases this with rfl | rfl | rfl | rfl
  · show Calls Try.prog 69 #[.agg #[.int .i64 x, .int .i64 y], .int .i64 0] w fun e w' => e = .returned (.agg #[.int .i64 (x), .int .i64 (y + 1)]) ∧ Below w.heap.size w w'
    go_enter Try.func69, Try.ntmps69
    go_wp2_with (go_at_call 86; refine (plus_i _ _ _ _ _ ⟨by omega, by omega⟩ ⟨by omega, by omega⟩ ⟨by omega, by omega⟩ ⟨by omega, by omega⟩).mono ?_; rintro e w1 ⟨rfl, hb1⟩; obtain ⟨chb1, fhb1, shb1, thb1⟩ := bcell hb1)
    refine bodyPost_ret (v := .agg #[.int .i64 (x), .int .i64 (y + 1)]) (by simp only [results, Try.results69]; go_simp) rfl ?_
    exact ⟨rfl, by exact bel_⟩
  · show Calls Try.prog 69 #[.agg #[.int .i64 x, .int .i64 y], .int .i64 1] w fun e w' => e = .returned (.agg #[.int .i64 (x + 1), .int .i64 (y)]) ∧ Below w.heap.size w w'
    go_enter Try.func69, Try.ntmps69
    go_wp2_with (go_at_call 86; refine (plus_i _ _ _ _ _ ⟨by omega, by omega⟩ ⟨by omega, by omega⟩ ⟨by omega, by omega⟩ ⟨by omega, by omega⟩).mono ?_; rintro e w1 ⟨rfl, hb1⟩; obtain ⟨chb1, fhb1, shb1, thb1⟩ := bcell hb1)
    refine bodyPost_ret (v := .agg #[.int .i64 (x + 1), .int .i64 (y)]) (by simp only [results, Try.results69]; go_simp) rfl ?_
    exact ⟨rfl, by exact bel_⟩
  · show Calls Try.prog 69 #[.agg #[.int .i64 x, .int .i64 y], .int .i64 2] w fun e w' => e = .returned (.agg #[.int .i64 (x), .int .i64 (y - 1)]) ∧ Below w.heap.size w w'
    go_enter Try.func69, Try.ntmps69
    go_wp2_with (go_at_call 86; refine (plus_i _ _ _ _ _ ⟨by omega, by omega⟩ ⟨by omega, by omega⟩ ⟨by omega, by omega⟩ ⟨by omega, by omega⟩).mono ?_; rintro e w1 ⟨rfl, hb1⟩; obtain ⟨chb1, fhb1, shb1, thb1⟩ := bcell hb1)
    refine bodyPost_ret (v := .agg #[.int .i64 (x), .int .i64 (y + -1)]) (by simp only [results, Try.results69]; go_simp) rfl ?_
    exact ⟨rfl, by exact bel_⟩
  · show Calls Try.prog 69 #[.agg #[.int .i64 x, .int .i64 y], .int .i64 3] w fun e w' => e = .returned (.agg #[.int .i64 (x - 1), .int .i64 (y)]) ∧ Below w.heap.size w w'
    go_enter Try.func69, Try.ntmps69
    go_wp2_with (go_at_call 86; refine (plus_i _ _ _ _ _ ⟨by omega, by omega⟩ ⟨by omega, by omega⟩ ⟨by omega, by omega⟩ ⟨by omega, by omega⟩).mono ?_; rintro e w1 ⟨rfl, hb1⟩; obtain ⟨chb1, fhb1, shb1, thb1⟩ := bcell hb1)
    refine bodyPost_ret (v := .agg #[.int .i64 (x + -1), .int .i64 (y)]) (by simp only [results, Try.results69]; go_simp) rfl ?_
    exact ⟨rfl, by exact bel_⟩
/-- whether the step is one -/
def stepOk (x y d : Int) : Bool := validPt x y && (inB d 0 3 && validPt (stepX x d) (stepY y d))
theorem stepOk_spec {x y d : Int} (h : stepOk x y d = true) : validPt x y = true ∧ inB d 0 3 = true ∧ validPt (stepX x d) (stepY y d) = true := by
  simpa only [stepOk, Bool.and_eq_true] using h
theorem step_v {x y d X Y : Int} (w : World) (hd : inB d 0 3 = true) (hv : validPt x y = true) (hX : stepX x d = X) (hY : stepY y d = Y) :
    Calls Try.prog 69 #[.agg #[.int .i64 x, .int .i64 y], .int .i64 d] w fun e w' => e = .returned (.agg #[.int .i64 X, .int .i64 Y]) ∧ Below w.heap.size w w' := by
  obtain ⟨⟨h1, h2⟩, h3, h4⟩ := validPt_iff.1 hv
  rw [← hX, ← hY]
  exact step_i x y d w (inB_true.1 hd) ⟨by omega, by omega⟩ ⟨by omega, by omega⟩
theorem lstep_v {x y d X Y : Int} (w : World) (hd : inB d 0 3 = true) (hv : validPt x y = true) (hX : stepX x d = X) (hY : stepY y d = Y) :
    Calls Try.prog 40 #[.agg #[.int .i64 x, .int .i64 y], .int .i64 d] w fun e w' => e = .returned (.agg #[.int .i64 X, .int .i64 Y]) ∧ Below w.heap.size w w' := by
  obtain ⟨⟨h1, h2⟩, h3, h4⟩ := validPt_iff.1 hv
  rw [← hX, ← hY]
  exact l01Step_any x y d w (inB_true.1 hd) ⟨by omega, by omega⟩ ⟨by omega, by omega⟩
end Go.Proofs.Ytpnahobgmemdjaa
/- Walks: StepPoint, the program's and the reference's. -/

namespace Go.Proofs.Ytpnahobgmemdjaa
open Go.RowKit
attribute [local go_sem] BelowBy.cell BelowBy.cell_drew stillUpon givesUpon

set_option maxRecDepth 100000 in
set_option maxHeartbeats 1000000 in
theorem lStep_ok {x y d X Y : Int} (w : World) (h1 : validPt x y = true) (h2 : inB d 0 3 = true) (h3 : validPt X Y = true) (hX : stepX x d = X) (hY : stepY y d = Y) :
    Calls Try.prog 11 #[.agg #[.int .i64 x, .int .i64 y], .int .i64 d] w fun e w' => e = .returned (.tuple #[.agg #[.int .i64 X, .int .i64 Y], .int .i64 0]) ∧ Below w.heap.size w w' := by
  have h1H := Lib.hid h1
  clear h1
  have h2H := Lib.hid h2
  clear h2
  have h3H := Lib.hid h3
  clear h3
  have hXH := Lib.hid hX
  clear hX
  have hYH := Lib.hid hY
  clear hY
  go_enter Try.func11, Try.ntmps11
  go_wp2_with fail
  refine (l01Point_v _ h1H.out).mono ?_; rintro e w1 ⟨rfl, hb1⟩; obtain ⟨chb1, fhb1, shb1, thb1⟩ := bcell hb1
  have sa1 := shb1 w.heap.size (by go_simp)
  have sc1 := shb1 (w.heap.size + 1) (by go_simp)
  go_wp2_with fail
  refine (l01Dir_v _ h2H.out).mono ?_; rintro e _ ⟨rfl, rfl⟩
  go_wp2_with fail
  refine (lstep_v _ h2H.out h1H.out hXH.out hYH.out).mono ?_; rintro e w2 ⟨rfl, hb2⟩; obtain ⟨chb2, fhb2, shb2, thb2⟩ := bcell hb2
  have sa2 := shb2 _ sa1
  have sc2 := shb2 _ sc1
  go_wp2_with fail
  refine (l01Point_v _ h3H.out).mono ?_; rintro e w3 ⟨rfl, hb3⟩; obtain ⟨chb3, fhb3, shb3, thb3⟩ := bcell hb3
  have sa3 := shb3 w.heap.size (by simp only [World.size_alloc]; omega)
  have sc3 := shb3 (w.heap.size + 1) (by simp only [World.size_alloc]; omega)
  have sq3 := shb3 w2.heap.size (by go_simp)
  have ne1 : ¬ w.heap.size = w2.heap.size := by omega
  have ne2 : ¬ w.heap.size + 1 = w2.heap.size := by omega
  have le1 : w.heap.size ≤ w2.heap.size := by omega
  go_wp2_with fail
  refine bodyPost_ret (v := .tuple #[.agg #[.int .i64 X, .int .i64 Y], .int .i64 0]) (by simp only [results, Try.results11]; go_simp) rfl ?_
  exact ⟨rfl, by exact bel_⟩
set_option maxRecDepth 100000 in
set_option maxHeartbeats 1000000 in
theorem lStep_far {x y d X Y : Int} (w : World) (h1 : validPt x y = true) (h2 : inB d 0 3 = true) (h3 : validPt X Y = false) (hX : stepX x d = X) (hY : stepY y d = Y) :
    Calls Try.prog 11 #[.agg #[.int .i64 x, .int .i64 y], .int .i64 d] w fun e w' => e = .returned (.tuple #[.agg #[.int .i64 0, .int .i64 0], .int .i64 2]) ∧ Below w.heap.size w w' := by
  have h1H := Lib.hid h1
  clear h1
  have h2H := Lib.hid h2
  clear h2
  have h3H := Lib.hid h3
  clear h3
  have hXH := Lib.hid hX
  clear hX
  have hYH := Lib.hid hY
  clear hY
  go_enter Try.func11, Try.ntmps11
  go_wp2_with fail
  refine (l01Point_v _ h1H.out).mono ?_; rintro e w1 ⟨rfl, hb1⟩; obtain ⟨chb1, fhb1, shb1, thb1⟩ := bcell hb1
  have sa1 := shb1 w.heap.size (by go_simp)
  have sc1 := shb1 (w.heap.size + 1) (by go_simp)
  go_wp2_with fail
  refine (l01Dir_v _ h2H.out).mono ?_; rintro e _ ⟨rfl, rfl⟩
  go_wp2_with fail
  refine (lstep_v _ h2H.out h1H.out hXH.out hYH.out).mono ?_; rintro e w2 ⟨rfl, hb2⟩; obtain ⟨chb2, fhb2, shb2, thb2⟩ := bcell hb2
  have sa2 := shb2 _ sa1
  have sc2 := shb2 _ sc1
  go_wp2_with fail
  refine (l01Point_v _ h3H.out).mono ?_; rintro e w3 ⟨rfl, hb3⟩; obtain ⟨chb3, fhb3, shb3, thb3⟩ := bcell hb3
  have sa3 := shb3 w.heap.size (by simp only [World.size_alloc]; omega)
  have sc3 := shb3 (w.heap.size + 1) (by simp only [World.size_alloc]; omega)
  have sq3 := shb3 w2.heap.size (by go_simp)
  have ne1 : ¬ w.heap.size = w2.heap.size := by omega
  have ne2 : ¬ w.heap.size + 1 = w2.heap.size := by omega
  have le1 : w.heap.size ≤ w2.heap.size := by omega
  go_wp2_with fail
  refine bodyPost_ret (v := .tuple #[.agg #[.int .i64 0, .int .i64 0], .int .i64 2]) (by simp only [results, Try.results11]; go_simp) rfl ?_
  exact ⟨rfl, by exact bel_⟩
set_option maxRecDepth 100000 in
set_option maxHeartbeats 1000000 in
theorem lStep_dir {x y d X Y : Int} (w : World) (h1 : validPt x y = true) (h2 : inB d 0 3 = false) :
    Calls Try.prog 11 #[.agg #[.int .i64 x, .int .i64 y], .int .i64 d] w fun e w' => e = .returned (.tuple #[.agg #[.int .i64 0, .int .i64 0], .int .i64 2]) ∧ Below w.heap.size w w' := by
  have h1H := Lib.hid h1
  clear h1
  have h2H := Lib.hid h2
  clear h2
  go_enter Try.func11, Try.ntmps11
  go_wp2_with fail
  refine (l01Point_v _ h1H.out).mono ?_; rintro e w1 ⟨rfl, hb1⟩; obtain ⟨chb1, fhb1, shb1, thb1⟩ := bcell hb1
  have sa1 := shb1 w.heap.size (by go_simp)
  have sc1 := shb1 (w.heap.size + 1) (by go_simp)
  go_wp2_with fail
  refine (l01Dir_v _ h2H.out).mono ?_; rintro e _ ⟨rfl, rfl⟩
  go_wp2_with fail
  refine bodyPost_ret (v := .tuple #[.agg #[.int .i64 0, .int .i64 0], .int .i64 2]) (by simp only [results, Try.results11]; go_simp) rfl ?_
  exact ⟨rfl, by exact bel_⟩
set_option maxRecDepth 100000 in
set_option maxHeartbeats 1000000 in
theorem lStep_pt {x y d X Y : Int} (w : World) (h1 : validPt x y = false) :
    Calls Try.prog 11 #[.agg #[.int .i64 x, .int .i64 y], .int .i64 d] w fun e w' => e = .returned (.tuple #[.agg #[.int .i64 0, .int .i64 0], .int .i64 2]) ∧ Below w.heap.size w w' := by
  have h1H := Lib.hid h1
  clear h1
  go_enter Try.func11, Try.ntmps11
  go_wp2_with fail
  refine (l01Point_v _ h1H.out).mono ?_; rintro e w1 ⟨rfl, hb1⟩; obtain ⟨chb1, fhb1, shb1, thb1⟩ := bcell hb1
  have sa1 := shb1 w.heap.size (by go_simp)
  have sc1 := shb1 (w.heap.size + 1) (by go_simp)
  go_wp2_with fail
  refine bodyPost_ret (v := .tuple #[.agg #[.int .i64 0, .int .i64 0], .int .i64 2]) (by simp only [results, Try.results11]; go_simp) rfl ?_
  exact ⟨rfl, by exact bel_⟩
end Go.Proofs.Ytpnahobgmemdjaa
