/- Walks: the direction between two points, the opposite direction. -/
import Derived.Test.YtpfbaeccjppagaaDoorFP6
import Derived.Test.YtpfbaeccjppagaaDoorFP4
namespace Go.Proofs.YtpfbaeccjppagaaDoor
open Go.RowKit
set_option linter.unusedSimpArgs false
set_option linter.unusedVariables false
attribute [local go_sem] BelowBy.cell BelowBy.cell_drew stillUpon givesUpon

/-- what StepPoint returns -/
def stepRes (x y d : Int) : Int × Int × Int := if stepOk x y d then (stepX x d, stepY y d, 0) else (0, 0, 2)
theorem iStep_v {x y d X Y c : Int} (w : World) (h : stepRes x y d = (X, Y, c)) :
    Calls Tryd.prog 6 #[.agg #[.int .i64 x, .int .i64 y], .int .i64 d] w fun e w' => e = .returned (.tuple #[.agg #[.int .i64 X, .int .i64 Y], .int .i64 c]) ∧ Below w.heap.size w w' := by
  unfold stepRes stepOk at h
  cases h1 : validPt x y
  · rw [h1] at h; cases h; exact iStep_pt (X := 0) (Y := 0) w h1
  · cases h2 : inB d 0 3
    · rw [h1, h2] at h; cases h; exact iStep_dir (X := 0) (Y := 0) w h1 h2
    · cases h3 : validPt (stepX x d) (stepY y d)
      · rw [h1, h2, h3] at h; cases h; exact iStep_far w h1 h2 h3 rfl rfl
      · rw [h1, h2, h3] at h; cases h; exact iStep_ok w h1 h2 h3 rfl rfl
theorem lStep_v {x y d X Y c : Int} (w : World) (h : stepRes x y d = (X, Y, c)) :
    Calls Tryd.prog 7 #[.agg #[.int .i64 x, .int .i64 y], .int .i64 d] w fun e w' => e = .returned (.tuple #[.agg #[.int .i64 X, .int .i64 Y], .int .i64 c]) ∧ Below w.heap.size w w' := by
  unfold stepRes stepOk at h
  cases h1 : validPt x y
  · rw [h1] at h; cases h; exact lStep_pt (X := 0) (Y := 0) w h1
  · cases h2 : inB d 0 3
    · rw [h1, h2] at h; cases h; exact lStep_dir (X := 0) (Y := 0) w h1 h2
    · cases h3 : validPt (stepX x d) (stepY y d)
      · rw [h1, h2, h3] at h; cases h; exact lStep_far w h1 h2 h3 rfl rfl
      · rw [h1, h2, h3] at h; cases h; exact lStep_ok w h1 h2 h3 rfl rfl
theorem opposite_i (d : Int) (w : World) (hd : 0 ≤ d ∧ d ≤ 3) :
    Calls Tryd.prog 25 #[.int .i64 d] w fun e w' => e = .returned (.int .i64 ((d + 2) % 4)) ∧ w = w' := by
  have hw : IntKind.i64.wrap (d + 2) = d + 2 := wrapI (by omega) (by omega)
  have ht : (d + 2).tmod 4 = (d + 2) % 4 := Int.tmod_eq_emod_of_nonneg (by omega)
  go_enter Tryd.func25, Tryd.ntmps25
  go_wp2
  go_ret
  exact ⟨rfl, rfl⟩
theorem Opposite_v {d o : Int} (w : World) (hd : inB d 0 3 = true) (ho : (d + 2) % 4 = o) :
    Calls Tryd.prog 10 #[.int .i64 d] w fun e w' => e = .returned (.int .i64 o) ∧ w = w' := by
  have hdH := Lib.hid hd
  have hd2 := inB_true.1 hd
  subst ho
  clear hd
  go_enter Tryd.func10, Tryd.ntmps10
  go_wp2_with (first | (go_at_call 18; refine (isDir_v _ hdH.out).mono ?_; rintro e _ ⟨rfl, rfl⟩) | (go_at_call 25; refine (opposite_i _ _ hd2).mono ?_; rintro e _ ⟨rfl, rfl⟩))
  go_ret
  exact ⟨rfl, rfl⟩
theorem stepNe {x y : Int} {i d : Nat} (h : i < d) (hd : d < 4) : (stepX x i == stepX x d && stepY y i == stepY y d) = false := by
  have : (i = 0 ∧ d = 1) ∨ (i = 0 ∧ d = 2) ∨ (i = 0 ∧ d = 3) ∨ (i = 1 ∧ d = 2) ∨ (i = 1 ∧ d = 3) ∨ (i = 2 ∧ d = 3) := by omega
  rw [Bool.and_eq_false_iff]
  rcases this with ⟨rfl, rfl⟩ | ⟨rfl, rfl⟩ | ⟨rfl, rfl⟩ | ⟨rfl, rfl⟩ | ⟨rfl, rfl⟩ | ⟨rfl, rfl⟩
  all_goals
    simp [stepX, stepY]
    try omega
set_option maxRecDepth 100000 in
set_option maxHeartbeats 2000000 in
theorem dirB_ok {x y X Y : Int} {d : Nat} (w : World) (h1 : validPt x y = true) (h3 : validPt X Y = true) (hd : d < 4) (hX : stepX x d = X) (hY : stepY y d = Y) :
    Calls Tryd.prog 11 #[.agg #[.int .i64 x, .int .i64 y], .agg #[.int .i64 X, .int .i64 Y]] w fun e w' => e = .returned (.tuple #[.int .i64 d, .int .i64 0]) ∧ Below w.heap.size w w' := by
  have h1H := Lib.hid h1
  have h3H := Lib.hid h3
  have hXH := Lib.hid hX
  have hYH := Lib.hid hY
  clear h1 h3 hX hY
  go_enter Tryd.func11, Tryd.ntmps11
  go_wp2_with fail
  refine (ValidPoint_v _ h1H.out).mono ?_; rintro e w1 ⟨rfl, hb1⟩; obtain ⟨chb1, fhb1, shb1, thb1⟩ := bcell hb1
  have sa1 := shb1 w.heap.size (by go_simp)
  have sc1 := shb1 (w.heap.size + 1) (by go_simp)
  go_wp2_with fail
  refine (ValidPoint_v _ h3H.out).mono ?_; rintro e w2 ⟨rfl, hb2⟩; obtain ⟨chb2, fhb2, shb2, thb2⟩ := bcell hb2
  have sa2 := shb2 _ sa1
  have sc2 := shb2 _ sc1
  have e00 : w2.cell? ⟨w.heap.size, 0, none⟩ = some (.int .i64 x) := by go_simp
  have e01 : w2.cell? ⟨w.heap.size, 1, none⟩ = some (.int .i64 y) := by go_simp
  have e10 : w2.cell? ⟨w.heap.size + 1, 0, none⟩ = some (.int .i64 X) := by go_simp
  have e11 : w2.cell? ⟨w.heap.size + 1, 1, none⟩ = some (.int .i64 Y) := by go_simp
  have hbH := Lib.hid (show Below w.heap.size w w2 from by exact bel_)
  clear chb1 chb2 fhb1 fhb2 shb1 shb2 thb1 thb2 sa1 sc1 hb1 hb2
  go_wp2
  go_loopg [15] 4 (fun g i wr => ∃ j : Nat, j + g = 4 ∧ j ≤ d ∧ i = .int .i64 (j : Int) ∧ Hid (Below w2.heap.size w2 wr))
  case atStart => exact ⟨0, by omega, by omega, rfl, Lib.hid (bl_refl _)⟩
  case round =>
    obtain ⟨j, hj, hjd, rfl, hbw⟩ := hrel
    have hsw := hbw.out.size
    have g00 := (hbw.out.cell (p := ⟨w.heap.size, 0, none⟩) sa2).trans e00
    have g01 := (hbw.out.cell (p := ⟨w.heap.size, 1, none⟩) sa2).trans e01
    have g10 := (hbw.out.cell (p := ⟨w.heap.size + 1, 0, none⟩) sc2).trans e10
    have g11 := (hbw.out.cell (p := ⟨w.heap.size + 1, 1, none⟩) sc2).trans e11
    have ga : w.heap.size < wr.heap.size := by omega
    have gc : w.heap.size + 1 < wr.heap.size := by omega
    have hj4 : (j : Int) < 4 := by omega
    have hD := Lib.hid (show inB (j : Int) 0 3 = true from inB_true.2 ⟨by omega, by omega⟩)
    clear e00 e01 e10 e11
    rcases Nat.lt_or_ge j d with hlt | hge
    · have hne := stepNe (x := x) (y := y) hlt hd
      rw [hXH.out, hYH.out] at hne
      obtain ⟨X', hX'⟩ : ∃ v, stepX x j = v := ⟨_, rfl⟩
      obtain ⟨Y', hY'⟩ : ∃ v, stepY y j = v := ⟨_, rfl⟩
      rw [hX', hY'] at hne
      have hXH' := Lib.hid hX'
      have hYH' := Lib.hid hY'
      have hc : (¬ X' = X) ∨ (X' = X ∧ ¬ Y' = Y) := by
        rcases Bool.and_eq_false_iff.1 hne with h | h
        · exact Or.inl (by simpa using h)
        · by_cases hh : X' = X
          · exact Or.inr ⟨hh, by simpa using h⟩
          · exact Or.inl hh
      clear hX' hY' hne
      rcases hc with hc | ⟨hc, hc2⟩
      all_goals
        go_wp2
        refine wp_region_ord [(0, .q), (1, .q), (3, .q), (2, .g), (4, .q)] (by kernel_rfl) (by kernel_rfl) ?_
        simp only [pick, List.filterMap_cons, List.filterMap_nil, List.getElem?_toArray, List.getElem?_cons_zero, List.getElem?_cons_succ, Option.map_some]
        repeat (first
          | ((with_reducible refine wpD_p (fun K hK => ?_)); go_simp; refine hK _ ?_; clear hK K)
          | ((with_reducible refine wpD_q (fun K hK => ?_)); go_simp; (first | refine hK _ ?_ | (go_bits; refine hK _ ?_) | (go_bits; go_simp; refine hK _ ?_)); clear hK K)
          | ((with_reducible refine wpD_g (fun K hK => ?_)); go_simp; refine hK _ _ ?_; clear hK K)
          | ((with_reducible refine wpD_g (fun K hK => ?_)); go_simp; refine ⟨Grew.of_alloc _, hK _ _ ?_⟩; clear hK K)
          | ((with_reducible refine wpD_g (fun K hK => ?_)); go_simp; go_at_call 19; refine (step_v _ hD.out h1H.out hXH'.out hYH'.out).mono ?_; rintro e w3 ⟨rfl, hb3⟩; refine ⟨_, rfl, hb3, hK _ _ ?_⟩; clear hK K; obtain ⟨chb3, fhb3, shb3, thb3⟩ := bcell hb3))
        with_reducible refine wpD_nil ?_
        go_wp2
        go_roundg (4 - (j + 1))
        case measure => omega
        case rel => exact ⟨j + 1, by omega, by omega, by go_num, Lib.hid (hbw.out.trans (Below.mono (by exact bel_) hsw))⟩
    · obtain rfl : j = d := by omega
      go_wp2
      refine wp_region_ord [(0, .q), (1, .q), (3, .q), (2, .g), (4, .q)] (by kernel_rfl) (by kernel_rfl) ?_
      simp only [pick, List.filterMap_cons, List.filterMap_nil, List.getElem?_toArray, List.getElem?_cons_zero, List.getElem?_cons_succ, Option.map_some]
      repeat (first
        | ((with_reducible refine wpD_p (fun K hK => ?_)); go_simp; refine hK _ ?_; clear hK K)
        | ((with_reducible refine wpD_q (fun K hK => ?_)); go_simp; (first | refine hK _ ?_ | (go_bits; refine hK _ ?_) | (go_bits; go_simp; refine hK _ ?_)); clear hK K)
        | ((with_reducible refine wpD_g (fun K hK => ?_)); go_simp; refine hK _ _ ?_; clear hK K)
        | ((with_reducible refine wpD_g (fun K hK => ?_)); go_simp; refine ⟨Grew.of_alloc _, hK _ _ ?_⟩; clear hK K)
        | ((with_reducible refine wpD_g (fun K hK => ?_)); go_simp; go_at_call 19; refine (step_v _ hD.out h1H.out hXH.out hYH.out).mono ?_; rintro e w3 ⟨rfl, hb3⟩; refine ⟨_, rfl, hb3, hK _ _ ?_⟩; clear hK K; obtain ⟨chb3, fhb3, shb3, thb3⟩ := bcell hb3))
      with_reducible refine wpD_nil ?_
      go_wp2
      refine bodyPost_ret (v := .tuple #[.int .i64 j, .int .i64 0]) (by simp only [results, Tryd.results11]; go_simp) rfl ?_
      exact ⟨rfl, hbH.out.trans (Below.mono (hbw.out.trans (Below.mono (by exact bel_) hsw)) hbH.out.size)⟩
end Go.Proofs.YtpfbaeccjppagaaDoor
