/- Walks: StepPoint, the program's and the reference's. -/
import Derived.Test.YtpfbaeccjppagaaDoorFP5
namespace Go.Proofs.YtpfbaeccjppagaaDoor
open Go.RowKit
set_option linter.unusedSimpArgs false
set_option linter.unusedVariables false
attribute [local go_sem] BelowBy.cell BelowBy.cell_drew stillUpon givesUpon

set_option maxRecDepth 100000 in
set_option maxHeartbeats 1000000 in
theorem iStep_ok {x y d X Y : Int} (w : World) (h1 : validPt x y = true) (h2 : inB d 0 3 = true) (h3 : validPt X Y = true) (hX : stepX x d = X) (hY : stepY y d = Y) :
    Calls Tryd.prog 6 #[.agg #[.int .i64 x, .int .i64 y], .int .i64 d] w fun e w' => e = .returned (.tuple #[.agg #[.int .i64 X, .int .i64 Y], .int .i64 0]) ∧ Below w.heap.size w w' := by
  have h1H := Lib.hid h1
  clear h1
  have h2H := Lib.hid h2
  clear h2
  have h3H := Lib.hid h3
  clear h3
  have hXH := Lib.hid hX
  clear hX
  have hYH := Lib.hid hY
  clear hY
  go_enter Tryd.func6, Tryd.ntmps6
  go_wp2_with fail
  refine (ValidPoint_v _ h1H.out).mono ?_; rintro e w1 ⟨rfl, hb1⟩; obtain ⟨chb1, fhb1, shb1, thb1⟩ := bcell hb1
  have sa1 := shb1 w.heap.size (by go_simp)
  have sc1 := shb1 (w.heap.size + 1) (by go_simp)
  go_wp2_with fail
  refine (isDir_v _ h2H.out).mono ?_; rintro e _ ⟨rfl, rfl⟩
  go_wp2_with fail
  refine (step_v _ h2H.out h1H.out hXH.out hYH.out).mono ?_; rintro e w2 ⟨rfl, hb2⟩; obtain ⟨chb2, fhb2, shb2, thb2⟩ := bcell hb2
  have sa2 := shb2 _ sa1
  have sc2 := shb2 _ sc1
  go_wp2_with fail
  refine (ValidPoint_v _ h3H.out).mono ?_; rintro e w3 ⟨rfl, hb3⟩; obtain ⟨chb3, fhb3, shb3, thb3⟩ := bcell hb3
  have sa3 := shb3 _ sa2
  have sc3 := shb3 _ sc2
  go_wp2_with fail
  refine (step_v _ h2H.out h1H.out hXH.out hYH.out).mono ?_; rintro e w4 ⟨rfl, hb4⟩; obtain ⟨chb4, fhb4, shb4, thb4⟩ := bcell hb4
  have sa4 := shb4 _ sa3
  have sc4 := shb4 _ sc3
  go_wp2_with fail
  refine bodyPost_ret (v := .tuple #[.agg #[.int .i64 X, .int .i64 Y], .int .i64 0]) (by simp only [results, Tryd.results6]; go_simp) rfl ?_
  exact ⟨rfl, by exact bel_⟩
set_option maxRecDepth 100000 in
set_option maxHeartbeats 1000000 in
theorem iStep_far {x y d X Y : Int} (w : World) (h1 : validPt x y = true) (h2 : inB d 0 3 = true) (h3 : validPt X Y = false) (hX : stepX x d = X) (hY : stepY y d = Y) :
    Calls Tryd.prog 6 #[.agg #[.int .i64 x, .int .i64 y], .int .i64 d] w fun e w' => e = .returned (.tuple #[.agg #[.int .i64 0, .int .i64 0], .int .i64 2]) ∧ Below w.heap.size w w' := by
  have h1H := Lib.hid h1
  clear h1
  have h2H := Lib.hid h2
  clear h2
  have h3H := Lib.hid h3
  clear h3
  have hXH := Lib.hid hX
  clear hX
  have hYH := Lib.hid hY
  clear hY
  go_enter Tryd.func6, Tryd.ntmps6
  go_wp2_with fail
  refine (ValidPoint_v _ h1H.out).mono ?_; rintro e w1 ⟨rfl, hb1⟩; obtain ⟨chb1, fhb1, shb1, thb1⟩ := bcell hb1
  have sa1 := shb1 w.heap.size (by go_simp)
  have sc1 := shb1 (w.heap.size + 1) (by go_simp)
  go_wp2_with fail
  refine (isDir_v _ h2H.out).mono ?_; rintro e _ ⟨rfl, rfl⟩
  go_wp2_with fail
  refine (step_v _ h2H.out h1H.out hXH.out hYH.out).mono ?_; rintro e w2 ⟨rfl, hb2⟩; obtain ⟨chb2, fhb2, shb2, thb2⟩ := bcell hb2
  have sa2 := shb2 _ sa1
  have sc2 := shb2 _ sc1
  go_wp2_with fail
  refine (ValidPoint_v _ h3H.out).mono ?_; rintro e w3 ⟨rfl, hb3⟩; obtain ⟨chb3, fhb3, shb3, thb3⟩ := bcell hb3
  have sa3 := shb3 _ sa2
  have sc3 := shb3 _ sc2
  go_wp2_with fail
  refine bodyPost_ret (v := .tuple #[.agg #[.int .i64 0, .int .i64 0], .int .i64 2]) (by simp only [results, Tryd.results6]; go_simp) rfl ?_
  exact ⟨rfl, by exact bel_⟩
set_option maxRecDepth 100000 in
set_option maxHeartbeats 1000000 in
theorem iStep_dir {x y d X Y : Int} (w : World) (h1 : validPt x y = true) (h2 : inB d 0 3 = false) :
    Calls Tryd.prog 6 #[.agg #[.int .i64 x, .int .i64 y], .int .i64 d] w fun e w' => e = .returned (.tuple #[.agg #[.int .i64 0, .int .i64 0], .int .i64 2]) ∧ Below w.heap.size w w' := by
  have h1H := Lib.hid h1
  clear h1
  have h2H := Lib.hid h2
  clear h2
  go_enter Tryd.func6, Tryd.ntmps6
  go_wp2_with fail
  refine (ValidPoint_v _ h1H.out).mono ?_; rintro e w1 ⟨rfl, hb1⟩; obtain ⟨chb1, fhb1, shb1, thb1⟩ := bcell hb1
  have sa1 := shb1 w.heap.size (by go_simp)
  have sc1 := shb1 (w.heap.size + 1) (by go_simp)
  go_wp2_with fail
  refine (isDir_v _ h2H.out).mono ?_; rintro e _ ⟨rfl, rfl⟩
  go_wp2_with fail
  refine bodyPost_ret (v := .tuple #[.agg #[.int .i64 0, .int .i64 0], .int .i64 2]) (by simp only [results, Tryd.results6]; go_simp) rfl ?_
  exact ⟨rfl, by exact bel_⟩
set_option maxRecDepth 100000 in
set_option maxHeartbeats 1000000 in
theorem iStep_pt {x y d X Y : Int} (w : World) (h1 : validPt x y = false) :
    Calls Tryd.prog 6 #[.agg #[.int .i64 x, .int .i64 y], .int .i64 d] w fun e w' => e = .returned (.tuple #[.agg #[.int .i64 0, .int .i64 0], .int .i64 2]) ∧ Below w.heap.size w w' := by
  have h1H := Lib.hid h1
  clear h1
  go_enter Tryd.func6, Tryd.ntmps6
  go_wp2_with fail
  refine (ValidPoint_v _ h1H.out).mono ?_; rintro e w1 ⟨rfl, hb1⟩; obtain ⟨chb1, fhb1, shb1, thb1⟩ := bcell hb1
  have sa1 := shb1 w.heap.size (by go_simp)
  have sc1 := shb1 (w.heap.size + 1) (by go_simp)
  go_wp2_with fail
  refine bodyPost_ret (v := .tuple #[.agg #[.int .i64 0, .int .i64 0], .int .i64 2]) (by simp only [results, Tryd.results6]; go_simp) rfl ?_
  exact ⟨rfl, by exact bel_⟩
set_option maxRecDepth 100000 in
set_option maxHeartbeats 1000000 in
theorem lStep_ok {x y d X Y : Int} (w : World) (h1 : validPt x y = true) (h2 : inB d 0 3 = true) (h3 : validPt X Y = true) (hX : stepX x d = X) (hY : stepY y d = Y) :
    Calls Tryd.prog 7 #[.agg #[.int .i64 x, .int .i64 y], .int .i64 d] w fun e w' => e = .returned (.tuple #[.agg #[.int .i64 X, .int .i64 Y], .int .i64 0]) ∧ Below w.heap.size w w' := by
  have h1H := Lib.hid h1
  clear h1
  have h2H := Lib.hid h2
  clear h2
  have h3H := Lib.hid h3
  clear h3
  have hXH := Lib.hid hX
  clear hX
  have hYH := Lib.hid hY
  clear hY
  go_enter Tryd.func7, Tryd.ntmps7
  go_wp2_with fail
  refine (l01Point_v _ h1H.out).mono ?_; rintro e w1 ⟨rfl, hb1⟩; obtain ⟨chb1, fhb1, shb1, thb1⟩ := bcell hb1
  have sa1 := shb1 w.heap.size (by go_simp)
  have sc1 := shb1 (w.heap.size + 1) (by go_simp)
  go_wp2_with fail
  refine (l01Dir_v _ h2H.out).mono ?_; rintro e _ ⟨rfl, rfl⟩
  go_wp2_with fail
  refine (lstep_v _ h2H.out h1H.out hXH.out hYH.out).mono ?_; rintro e w2 ⟨rfl, hb2⟩; obtain ⟨chb2, fhb2, shb2, thb2⟩ := bcell hb2
  have sa2 := shb2 _ sa1
  have sc2 := shb2 _ sc1
  go_wp2_with fail
  refine (l01Point_v _ h3H.out).mono ?_; rintro e w3 ⟨rfl, hb3⟩; obtain ⟨chb3, fhb3, shb3, thb3⟩ := bcell hb3
  have sa3 := shb3 w.heap.size (by simp only [World.size_alloc]; omega)
  have sc3 := shb3 (w.heap.size + 1) (by simp only [World.size_alloc]; omega)
  have sq3 := shb3 w2.heap.size (by go_simp)
  have ne1 : ¬ w.heap.size = w2.heap.size := by omega
  have ne2 : ¬ w.heap.size + 1 = w2.heap.size := by omega
  have le1 : w.heap.size ≤ w2.heap.size := by omega
  go_wp2_with fail
  refine bodyPost_ret (v := .tuple #[.agg #[.int .i64 X, .int .i64 Y], .int .i64 0]) (by simp only [results, Tryd.results7]; go_simp) rfl ?_
  exact ⟨rfl, by exact bel_⟩
set_option maxRecDepth 100000 in
set_option maxHeartbeats 1000000 in
theorem lStep_far {x y d X Y : Int} (w : World) (h1 : validPt x y = true) (h2 : inB d 0 3 = true) (h3 : validPt X Y = false) (hX : stepX x d = X) (hY : stepY y d = Y) :
    Calls Tryd.prog 7 #[.agg #[.int .i64 x, .int .i64 y], .int .i64 d] w fun e w' => e = .returned (.tuple #[.agg #[.int .i64 0, .int .i64 0], .int .i64 2]) ∧ Below w.heap.size w w' := by
  have h1H := Lib.hid h1
  clear h1
  have h2H := Lib.hid h2
  clear h2
  have h3H := Lib.hid h3
  clear h3
  have hXH := Lib.hid hX
  clear hX
  have hYH := Lib.hid hY
  clear hY
  go_enter Tryd.func7, Tryd.ntmps7
  go_wp2_with fail
  refine (l01Point_v _ h1H.out).mono ?_; rintro e w1 ⟨rfl, hb1⟩; obtain ⟨chb1, fhb1, shb1, thb1⟩ := bcell hb1
  have sa1 := shb1 w.heap.size (by go_simp)
  have sc1 := shb1 (w.heap.size + 1) (by go_simp)
  go_wp2_with fail
  refine (l01Dir_v _ h2H.out).mono ?_; rintro e _ ⟨rfl, rfl⟩
  go_wp2_with fail
  refine (lstep_v _ h2H.out h1H.out hXH.out hYH.out).mono ?_; rintro e w2 ⟨rfl, hb2⟩; obtain ⟨chb2, fhb2, shb2, thb2⟩ := bcell hb2
  have sa2 := shb2 _ sa1
  have sc2 := shb2 _ sc1
  go_wp2_with fail
  refine (l01Point_v _ h3H.out).mono ?_; rintro e w3 ⟨rfl, hb3⟩; obtain ⟨chb3, fhb3, shb3, thb3⟩ := bcell hb3
  have sa3 := shb3 w.heap.size (by simp only [World.size_alloc]; omega)
  have sc3 := shb3 (w.heap.size + 1) (by simp only [World.size_alloc]; omega)
  have sq3 := shb3 w2.heap.size (by go_simp)
  have ne1 : ¬ w.heap.size = w2.heap.size := by omega
  have ne2 : ¬ w.heap.size + 1 = w2.heap.size := by omega
  have le1 : w.heap.size ≤ w2.heap.size := by omega
  go_wp2_with fail
  refine bodyPost_ret (v := .tuple #[.agg #[.int .i64 0, .int .i64 0], .int .i64 2]) (by simp only [results, Tryd.results7]; go_simp) rfl ?_
  exact ⟨rfl, by exact bel_⟩
set_option maxRecDepth 100000 in
set_option maxHeartbeats 1000000 in
theorem lStep_dir {x y d X Y : Int} (w : World) (h1 : validPt x y = true) (h2 : inB d 0 3 = false) :
    Calls Tryd.prog 7 #[.agg #[.int .i64 x, .int .i64 y], .int .i64 d] w fun e w' => e = .returned (.tuple #[.agg #[.int .i64 0, .int .i64 0], .int .i64 2]) ∧ Below w.heap.size w w' := by
  have h1H := Lib.hid h1
  clear h1
  have h2H := Lib.hid h2
  clear h2
  go_enter Tryd.func7, Tryd.ntmps7
  go_wp2_with fail
  refine (l01Point_v _ h1H.out).mono ?_; rintro e w1 ⟨rfl, hb1⟩; obtain ⟨chb1, fhb1, shb1, thb1⟩ := bcell hb1
  have sa1 := shb1 w.heap.size (by go_simp)
  have sc1 := shb1 (w.heap.size + 1) (by go_simp)
  go_wp2_with fail
  refine (l01Dir_v _ h2H.out).mono ?_; rintro e _ ⟨rfl, rfl⟩
  go_wp2_with fail
  refine bodyPost_ret (v := .tuple #[.agg #[.int .i64 0, .int .i64 0], .int .i64 2]) (by simp only [results, Tryd.results7]; go_simp) rfl ?_
  exact ⟨rfl, by exact bel_⟩
set_option maxRecDepth 100000 in
set_option maxHeartbeats 1000000 in
theorem lStep_pt {x y d X Y : Int} (w : World) (h1 : validPt x y = false) :
    Calls Tryd.prog 7 #[.agg #[.int .i64 x, .int .i64 y], .int .i64 d] w fun e w' => e = .returned (.tuple #[.agg #[.int .i64 0, .int .i64 0], .int .i64 2]) ∧ Below w.heap.size w w' := by
  have h1H := Lib.hid h1
  clear h1
  go_enter Tryd.func7, Tryd.ntmps7
  go_wp2_with fail
  refine (l01Point_v _ h1H.out).mono ?_; rintro e w1 ⟨rfl, hb1⟩; obtain ⟨chb1, fhb1, shb1, thb1⟩ := bcell hb1
  have sa1 := shb1 w.heap.size (by go_simp)
  have sc1 := shb1 (w.heap.size + 1) (by go_simp)
  go_wp2_with fail
  refine bodyPost_ret (v := .tuple #[.agg #[.int .i64 0, .int .i64 0], .int .i64 2]) (by simp only [results, Tryd.results7]; go_simp) rfl ?_
  exact ⟨rfl, by exact bel_⟩
end Go.Proofs.YtpfbaeccjppagaaDoor
