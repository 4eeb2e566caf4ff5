/- Walks: groups that are merged by pointers to their leaders. -/
import Derived.Test.YtfabgnnpgepcoaaW20
import Derived.Test.YtfabgnnpgepcoaaP4
namespace Go.Proofs.Ytfabgnnpgepcoaa
open Go.RowKit Go.Shelf
set_option linter.unusedSimpArgs false
set_option linter.unusedVariables false
attribute [local go_sem] BelowBy.cell BelowBy.cell_drew stillUpon givesUpon BelowBy.cell_drew2 BelowBy.cell_drew3

/-- the groups' elements lie in n blocks from Bg on; who leads whom -/
def Forest (w : World) (Bg n : Nat) (f : Nat → Nat) : Prop := ∀ i, i < n → Bg + i < w.heap.size ∧ w.cell? ⟨Bg + i, 1, none⟩ = some (.int .i64 (i : Int)) ∧ w.frozen? ⟨Bg + i, 0, none⟩ = false ∧
  ((f i = i ∧ w.cell? ⟨Bg + i, 0, none⟩ = some (.pointer none)) ∨ (f i ≠ i ∧ ∃ j, j < i ∧ f j = f i ∧ w.cell? ⟨Bg + i, 0, none⟩ = some (.pointer (some ⟨Bg + j, 0, none⟩))))
theorem Forest.below {w w' : World} {Bg n : Nat} {f : Nat → Nat} (h : Forest w Bg n f) (hb : Below w.heap.size w w') : Forest w' Bg n f := fun i hi => by
  obtain ⟨h1, h2, h3, h4⟩ := h i hi
  refine ⟨Nat.lt_of_lt_of_le h1 hb.size, (hb.cell (p := ⟨Bg + i, 1, none⟩) h1).trans h2, (hb.frozen (p := ⟨Bg + i, 0, none⟩) h1).trans h3, ?_⟩
  rcases h4 with ⟨h5, h6⟩ | ⟨h5, j, h6, h7, h8⟩
  · exact .inl ⟨h5, (hb.cell (p := ⟨Bg + i, 0, none⟩) h1).trans h6⟩
  · exact .inr ⟨h5, j, h6, h7, (hb.cell (p := ⟨Bg + i, 0, none⟩) h1).trans h8⟩
set_option maxHeartbeats 1000000 in
theorem first_any (Bg n i : Nat) (f : Nat → Nat) (w : World) (hF : Forest w Bg n f) (hi : i < n) :
    Calls Try.prog 151 #[.pointer (some ⟨Bg + i, 0, none⟩)] w fun e w' => e = .returned (.pointer (some ⟨Bg + f i, 0, none⟩)) ∧ w = w' := by
  have hH := Lib.hid hF
  clear hF
  go_enter Try.func151, Try.ntmps151
  go_wp2
  go_loopg [0] i (fun r x wr => ∃ j : Nat, j = r ∧ j < n ∧ Hid (f j = f i) ∧ x = .pointer (some ⟨Bg + j, 0, none⟩) ∧ w = wr)
  case atStart => exact ⟨i, rfl, hi, Lib.hid rfl, rfl, rfl⟩
  case round =>
    obtain ⟨j, rfl, hj, hfj, rfl, rfl⟩ := hrel
    obtain ⟨hl, h1, _, h⟩ := hH.out j hj
    rcases h with ⟨hr, hc⟩ | ⟨hr, j2, hj2, hf2, hc⟩
    · have hrH := Lib.hid hr
      clear hr
      go_wp2
      go_ret
      have hji : f i = j := by rw [← hfj.out, hrH.out]
      rw [hji]
      exact ⟨rfl, rfl⟩
    · have hfH := Lib.hid hf2
      clear hf2 hr
      go_wp2
      go_roundg j2
      case measure => omega
      case rel => exact ⟨j2, rfl, by omega, Lib.hid (hfH.out.trans hfj.out), rfl, rfl⟩
/-- a leader gets a leader -/
theorem Forest.led {w : World} {Bg n x y : Nat} {f : Nat → Nat} (h : Forest w Bg n f) (hL : Lab f) (hx : f x = x) (hy : f y = y) (hxy : x < y) (hyn : y < n) :
    Forest (w.setCell ⟨Bg + y, 0, none⟩ (.pointer (some ⟨Bg + x, 0, none⟩))) Bg n (fun k => if f k = y then x else f k) := fun i hi => by
  obtain ⟨h1, h2, h3, h4⟩ := h i hi
  have hfx : f x ≠ y := by omega
  refine ⟨by simpa using h1, ?_, by simpa using h3, ?_⟩
  · rw [World.cell?_setCell_other _ _ _ _ (by simp)]; exact h2
  · by_cases hiy : i = y
    · subst hiy
      refine .inr ⟨by simp only [hy, if_true]; omega, x, hxy, by simp only [hy, if_true, if_neg hfx]; exact hx, ?_⟩
      rcases h4 with ⟨_, h6⟩ | ⟨_, j, _, _, h8⟩
      · exact World.cell?_setCell_same _ _ _ h6
      · exact World.cell?_setCell_same _ _ _ h8
    · have hne : (⟨Bg + y, 0, none⟩ : Addr) ≠ ⟨Bg + i, 0, none⟩ := by simp; first | omega | done
      rw [World.cell?_setCell_other _ _ _ _ hne]
      rcases h4 with ⟨h5, h6⟩ | ⟨h5, j, h6, h7, h8⟩
      · have hi2 : f i ≠ y := by omega
        exact .inl ⟨by simp only [if_neg hi2]; exact h5, h6⟩
      · refine .inr ⟨?_, j, h6, by simp only [h7], h8⟩
        by_cases h9 : f i = y
        · simp only [if_pos h9]
          intro e
          rw [← e, hx] at h9
          omega
        · simp only [if_neg h9]; exact h5
end Go.Proofs.Ytfabgnnpgepcoaa
