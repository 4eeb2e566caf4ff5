/- Walks: with what strength a tile binds at a point, by the program and by the reference. -/
import Derived.Test.YtmhgjgclclnmaaaGreatW23
namespace Go.Proofs.YtmhgjgclclnmaaaGreat
open Go.RowKit Go.Shelf
set_option linter.unusedSimpArgs false
set_option linter.unusedVariables false
attribute [local go_sem] BelowBy.cell BelowBy.cell_drew stillUpon givesUpon BelowBy.cell_drew2 BelowBy.cell_drew3

theorem bindN_succ_none {gs : List Gl} {ts : List Ti} {xs : List Pl} {x y S : Int} {t k : Nat} (hS : bindN gs ts xs x y t k = S) (h : atI xs (stepX x k) (stepY y k) = -1) : bindN gs ts xs x y t (k + 1) = S := by
  simp only [bindN]; rw [hS, h, if_neg (by decide)]; omega
theorem bindN_succ_some {gs : List Gl} {ts : List Ti} {xs : List Pl} {x y S r : Int} {t k t2 : Nat} (hS : bindN gs ts xs x y t k = S) (h : atI xs (stepX x k) (stepY y k) = t2) (hr : bondI gs ts t k t2 = r) : bindN gs ts xs x y t (k + 1) = S + r := by
  simp only [bindN]; rw [hS, h, if_pos (by omega)]
  have : ((t2 : Nat) : Int).toNat = t2 := by omega
  rw [this, hr]
set_option maxRecDepth 100000 in
set_option maxHeartbeats 2000000 in
theorem l06Binding_any {opa : Nat} (p pa : Nat) (gs : List Gl) (ts : List Ti) (xs : List Pl) (x y : Int) (t : Nat) (w : World) (hs : SetAt w p 0 gs ts) (ha : AsmAt w pa opa xs) (hV : Valid gs ts xs) (ht : t < ts.length) (hx : -900 ≤ x ∧ x ≤ 900) (hy : -900 ≤ y ∧ y ≤ 900) :
    Calls Tryz.prog 89 #[.pointer (some ⟨p, 0, none⟩), .pointer (some ⟨pa, opa, none⟩), .agg #[.int .i64 x, .int .i64 y], .int .i64 (t : Int)] w fun e w' => e = .returned (.int .i64 (bindN gs ts xs x y t 4)) ∧ Below w.heap.size w w' := by
  
  go_enter Tryz.func89, Tryz.ntmps89
  go_wp2
  go_loopg [10, 9] 4 (fun r c s wr => ∃ k : Nat, k + r = 4 ∧ c = .int .i64 (k : Int) ∧ s = .int .i64 (bindN gs ts xs x y t k) ∧ Below w.heap.size w wr ∧ wr.cell? ⟨w.heap.size, 0, none⟩ = some (.int .i64 x) ∧ wr.cell? ⟨w.heap.size, 1, none⟩ = some (.int .i64 y) ∧ w.heap.size < wr.heap.size)
  case atStart => exact ⟨0, by omega, rfl, rfl, by exact bel_, by go_simp, by go_simp, by simp⟩
  case round =>
    obtain ⟨k, hk, rfl, rfl, hbw, y2, y3, hsz⟩ := hrel
    have hbd := bindN_bound hV x y t k
    by_cases hlt : k < 4
    · have hltI : (k : Int) < 4 := by omega
      have hk0 : (0 : Int) ≤ (k : Int) := by omega
      obtain ⟨S, hS⟩ : ∃ S, bindN gs ts xs x y t k = S := ⟨_, rfl⟩
      rw [hS] at hbd
      rw [hS]
      have hSH := Lib.hid hS
      clear hS
      have hb0 : 0 ≤ S := hbd.1
      have hb1' : S ≤ 1000 := by have := hbd.2; omega
      clear hbd
      rcases atI_cases hV (stepX x k) (stepY y k) with ⟨_, hat⟩ | ⟨i, t2, e, _, _, _, ht2, hat⟩
      · have hatH := Lib.hid hat
        have hnx := Lib.hid (bindN_succ_none hSH.out hat)
        clear hat
        go_wp2_with (first
          | (go_at_call 87; refine (l01Step_any _ _ _ _ ⟨by omega, by omega⟩ ⟨by omega, by omega⟩ ⟨by omega, by omega⟩).mono ?_; rintro e w1 ⟨rfl, hb1⟩; obtain ⟨chb1, fhb1, shb1, thb1⟩ := bcell hb1; (try have bhb10 := shb1 (w.heap.size) (by go_simp)))
          | (go_at_call 138; refine (l03At_any _ gs ts xs _ _ _ _ (ha.below (by exact bel_)) hV hatH.out).mono ?_; rintro e w2 ⟨rfl, hb2⟩; obtain ⟨chb2, fhb2, shb2, thb2⟩ := bcell hb2; (try have bhb20 := shb2 (w.heap.size) (by go_simp))))
        go_roundg (4 - (k + 1))
        case measure => omega
        case rel => exact ⟨k + 1, by omega, by go_num, by rw [hnx.out], by exact bel_, by go_simp, by go_simp, by go_simp⟩
      · obtain ⟨r, hr⟩ : ∃ r, bondI gs ts t k t2 = r := ⟨_, rfl⟩
        have hatH := Lib.hid hat
        have hrH := Lib.hid hr
        have hnx := Lib.hid (bindN_succ_some hSH.out hat hr)
        have hr0 : 0 ≤ r := by rw [← hr]; exact bondI_nonneg hV _ _ _
        have hr4 : r ≤ 4 := by rw [← hr]; exact bondI_le hV _ _ _
        have ht20 : (0 : Int) ≤ (t2 : Int) := by omega
        clear hat hr
        go_wp2_with (first
          | (go_at_call 87; refine (l01Step_any _ _ _ _ ⟨by omega, by omega⟩ ⟨by omega, by omega⟩ ⟨by omega, by omega⟩).mono ?_; rintro e w1 ⟨rfl, hb1⟩; obtain ⟨chb1, fhb1, shb1, thb1⟩ := bcell hb1; (try have bhb10 := shb1 (w.heap.size) (by go_simp)))
          | (go_at_call 138; refine (l03At_any _ gs ts xs _ _ _ _ (ha.below (by exact bel_)) hV hatH.out).mono ?_; rintro e w2 ⟨rfl, hb2⟩; obtain ⟨chb2, fhb2, shb2, thb2⟩ := bcell hb2; (try have bhb20 := shb2 (w.heap.size) (by go_simp)))
          | (go_at_call 100; refine (l02Bond_at t t2 rfl rfl (hs.below (by exact bel_)) hV ht ht2 hlt hrH.out).mono ?_; rintro e w3 ⟨rfl, hb3⟩; obtain ⟨chb3, fhb3, shb3, thb3⟩ := bcell hb3; (try have bhb30 := shb3 (w.heap.size) (by go_simp))))
        go_roundg (4 - (k + 1))
        case measure => omega
        case rel => exact ⟨k + 1, by omega, by go_num, by rw [hnx.out], by exact bel_, by go_simp, by go_simp, by go_simp⟩
    · obtain rfl : k = 4 := by omega
      go_wp2
      go_ret
      exact ⟨rfl, hbw⟩
theorem l06Binding_at {p pa opa : Nat} {gs : List Gl} {ts : List Ti} {xs : List Pl} {x y ti r : Int} (t : Nat) {w : World} (h0 : ti = t) (hs : SetAt w p 0 gs ts) (ha : AsmAt w pa opa xs) (hV : Valid gs ts xs) (ht : t < ts.length) (hx : -900 ≤ x ∧ x ≤ 900) (hy : -900 ≤ y ∧ y ≤ 900) (hr : bindN gs ts xs x y t 4 = r) :
    Calls Tryz.prog 89 #[.pointer (some ⟨p, 0, none⟩), .pointer (some ⟨pa, opa, none⟩), .agg #[.int .i64 x, .int .i64 y], .int .i64 ti] w fun e w' => e = .returned (.int .i64 r) ∧ Below w.heap.size w w' := by
  subst h0 hr; exact l06Binding_any p pa gs ts xs x y t w hs ha hV ht hx hy
end Go.Proofs.YtmhgjgclclnmaaaGreat
