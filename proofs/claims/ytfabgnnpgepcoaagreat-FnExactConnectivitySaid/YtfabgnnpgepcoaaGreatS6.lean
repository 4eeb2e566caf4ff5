/- Walks: the reference's Connectivity, SeparatingPart. -/
import Derived.Test.YtfabgnnpgepcoaaGreatS5
import Derived.Test.YtfabgnnpgepcoaaGreatIRes
namespace Go.Proofs.YtfabgnnpgepcoaaGreat
open Go.RowKit Go.Shelf
set_option linter.unusedSimpArgs false
set_option linter.unusedVariables false
attribute [local go_sem] BelowBy.cell BelowBy.cell_drew stillUpon givesUpon BelowBy.cell_drew2 BelowBy.cell_drew3

theorem bondsOk {gs : List Gl} {ts : List Ti} {xs : List Pl} (hV : Valid gs ts xs) : BondsOk xs.length (bondsL gs ts xs) :=
  ⟨fun i e h => (bondsL_at hV h).1, fun i e h => (bondsL_at hV h).2.1, fun i e h => bondsL_ne h, fun i e h => (bondsL_at hV h).2.2⟩
theorem fullCode_zero {v : Bool} {q : Nat} {x y : Int} (h : fullCode v q x y = 0) : v = true ∧ ∃ xn yn : Nat, x = xn ∧ y = yn ∧ xn < q ∧ yn < q ∧ xn ≠ yn ∧ q ≤ 64 := by
  unfold fullCode at h
  split at h
  · rename_i hc; exact (hc h).elim
  · rename_i hc
    have hc : cutCodeI v q x y = 0 := by simpa using hc
    split at h
    · cases h
    · obtain ⟨h1, h2, h3, h4⟩ := cutCodeI_zero hc
      exact ⟨h1, x.toNat, y.toNat, by omega, by omega, by omega, by omega, by omega, by omega⟩
set_option maxRecDepth 100000 in
set_option maxHeartbeats 2000000 in
theorem l07Asked_at {p pa : Nat} {gs : List Gl} {ts : List Ti} {xs : List Pl} {w : World} (h : SAt w p pa gs ts xs) (x y : Int) {r : Int} (hr : fullCode (validAsmB gs ts xs) xs.length x y = r) :
    Calls Tryz.prog 26 #[.pointer (some ⟨p, 0, none⟩), .pointer (some ⟨pa, 0, none⟩), .int .i64 x, .int .i64 y] w fun e w' => e = .returned (.int .i64 r) ∧ Below w.heap.size w w' := by
  have hH := Lib.hid h
  have hq := h.q
  obtain ⟨lq, A, q, ca, cq, hA⟩ := h.a
  have hlen := hA.len
  rw [hlen] at hr hq
  have hrH := Lib.hid hr
  clear hr h hA
  cases hval : validAsmB gs ts xs
  · have h1 : r = 1 := by
      have := hrH.out
      rw [hval] at this
      exact this.symm
    subst h1
    go_enter Tryz.func26, Tryz.ntmps26
    go_wp2_with (go_at_call 45; refine (hH.out.asked hval).mono ?_; rintro e w1 ⟨rfl, hb1⟩; simp only [codeB_false])
    go_ret
    exact ⟨rfl, by repeat (first | with_reducible exact bl_refl _ | with_reducible assumption | with_reducible refine bl_al ?_ _ | with_reducible refine bl_dr ?_ | with_reducible refine bl_tr ?_ (by assumption) | with_reducible refine bl_set ?_ ?_ _ | with_reducible exact Nat.le_refl _ | omega | (simp only [World.size_alloc, World.size_setCell, World.size_drew] at *; omega) | (dsimp only; omega) | (simp; done) | (simp; omega))⟩
  · have hr1 : r = if inB x 0 ((q : Int) - 1) && (inB y 0 ((q : Int) - 1) && !(x == y)) then (if 64 < q then 4 else 0) else 2 := by
      have := hrH.out
      rw [hval] at this
      rw [← this]
      unfold fullCode cutCodeI
      cases inB x 0 ((q : Int) - 1) && (inB y 0 ((q : Int) - 1) && !(x == y)) <;> simp
    have hr1H := Lib.hid hr1
    clear hr1
    cases hx : inB x 0 ((q : Int) - 1)
    · have h2 : r = 2 := by have := hr1H.out; rw [hx] at this; simpa using this
      subst h2
      go_enter Tryz.func26, Tryz.ntmps26
      go_wp2_with (first
        | (go_at_call 45; refine (hH.out.asked hval).mono ?_; rintro e w1 ⟨rfl, hb1⟩; simp only [codeB_true]; have cq1 := (hb1.cell (p := ⟨pa, 0, none⟩) lq).trans cq; have lq1 : pa < w1.heap.size := Nat.lt_of_lt_of_le lq hb1.size)
        | (go_at_call 46; refine (l00In_any _ _ _ _).mono ?_; rintro e _ ⟨rfl, rfl⟩))
      go_ret
      exact ⟨rfl, by repeat (first | with_reducible exact bl_refl _ | with_reducible assumption | with_reducible refine bl_al ?_ _ | with_reducible refine bl_dr ?_ | with_reducible refine bl_tr ?_ (by assumption) | with_reducible refine bl_set ?_ ?_ _ | with_reducible exact Nat.le_refl _ | omega | (simp only [World.size_alloc, World.size_setCell, World.size_drew] at *; omega) | (dsimp only; omega) | (simp; done) | (simp; omega))⟩
    · cases hy : inB y 0 ((q : Int) - 1)
      · have h2 : r = 2 := by have := hr1H.out; rw [hx, hy] at this; simpa using this
        subst h2
        go_enter Tryz.func26, Tryz.ntmps26
        go_wp2_with (first
          | (go_at_call 45; refine (hH.out.asked hval).mono ?_; rintro e w1 ⟨rfl, hb1⟩; simp only [codeB_true]; have cq1 := (hb1.cell (p := ⟨pa, 0, none⟩) lq).trans cq; have lq1 : pa < w1.heap.size := Nat.lt_of_lt_of_le lq hb1.size)
          | (go_at_call 46; refine (l00In_any _ _ _ _).mono ?_; rintro e _ ⟨rfl, rfl⟩))
        go_ret
        exact ⟨rfl, by repeat (first | with_reducible exact bl_refl _ | with_reducible assumption | with_reducible refine bl_al ?_ _ | with_reducible refine bl_dr ?_ | with_reducible refine bl_tr ?_ (by assumption) | with_reducible refine bl_set ?_ ?_ _ | with_reducible exact Nat.le_refl _ | omega | (simp only [World.size_alloc, World.size_setCell, World.size_drew] at *; omega) | (dsimp only; omega) | (simp; done) | (simp; omega))⟩
      · cases hxy : (x == y)
        · by_cases h64 : 64 < q
          · have h4 : r = 4 := by have := hr1H.out; rw [hx, hy, hxy, if_pos h64] at this; simpa using this
            subst h4
            go_enter Tryz.func26, Tryz.ntmps26
            go_wp2_with (first
              | (go_at_call 45; refine (hH.out.asked hval).mono ?_; rintro e w1 ⟨rfl, hb1⟩; simp only [codeB_true]; have cq1 := (hb1.cell (p := ⟨pa, 0, none⟩) lq).trans cq; have lq1 : pa < w1.heap.size := Nat.lt_of_lt_of_le lq hb1.size)
              | (go_at_call 46; refine (l00In_any _ _ _ _).mono ?_; rintro e _ ⟨rfl, rfl⟩))
            go_ret
            exact ⟨rfl, by repeat (first | with_reducible exact bl_refl _ | with_reducible assumption | with_reducible refine bl_al ?_ _ | with_reducible refine bl_dr ?_ | with_reducible refine bl_tr ?_ (by assumption) | with_reducible refine bl_set ?_ ?_ _ | with_reducible exact Nat.le_refl _ | omega | (simp only [World.size_alloc, World.size_setCell, World.size_drew] at *; omega) | (dsimp only; omega) | (simp; done) | (simp; omega))⟩
          · have h4 : r = 0 := by have := hr1H.out; rw [hx, hy, hxy, if_neg h64] at this; simpa using this
            subst h4
            go_enter Tryz.func26, Tryz.ntmps26
            go_wp2_with (first
              | (go_at_call 45; refine (hH.out.asked hval).mono ?_; rintro e w1 ⟨rfl, hb1⟩; simp only [codeB_true]; have cq1 := (hb1.cell (p := ⟨pa, 0, none⟩) lq).trans cq; have lq1 : pa < w1.heap.size := Nat.lt_of_lt_of_le lq hb1.size)
              | (go_at_call 46; refine (l00In_any _ _ _ _).mono ?_; rintro e _ ⟨rfl, rfl⟩))
            go_ret
            exact ⟨rfl, by repeat (first | with_reducible exact bl_refl _ | with_reducible assumption | with_reducible refine bl_al ?_ _ | with_reducible refine bl_dr ?_ | with_reducible refine bl_tr ?_ (by assumption) | with_reducible refine bl_set ?_ ?_ _ | with_reducible exact Nat.le_refl _ | omega | (simp only [World.size_alloc, World.size_setCell, World.size_drew] at *; omega) | (dsimp only; omega) | (simp; done) | (simp; omega))⟩
        · have h2 : r = 2 := by have := hr1H.out; rw [hx, hy, hxy] at this; simpa using this
          subst h2
          go_enter Tryz.func26, Tryz.ntmps26
          go_wp2_with (first
            | (go_at_call 45; refine (hH.out.asked hval).mono ?_; rintro e w1 ⟨rfl, hb1⟩; simp only [codeB_true]; have cq1 := (hb1.cell (p := ⟨pa, 0, none⟩) lq).trans cq; have lq1 : pa < w1.heap.size := Nat.lt_of_lt_of_le lq hb1.size)
            | (go_at_call 46; refine (l00In_any _ _ _ _).mono ?_; rintro e _ ⟨rfl, rfl⟩))
          go_ret
          exact ⟨rfl, by repeat (first | with_reducible exact bl_refl _ | with_reducible assumption | with_reducible refine bl_al ?_ _ | with_reducible refine bl_dr ?_ | with_reducible refine bl_tr ?_ (by assumption) | with_reducible refine bl_set ?_ ?_ _ | with_reducible exact Nat.le_refl _ | omega | (simp only [World.size_alloc, World.size_setCell, World.size_drew] at *; omega) | (dsimp only; omega) | (simp; done) | (simp; omega))⟩
end Go.Proofs.YtfabgnnpgepcoaaGreat
