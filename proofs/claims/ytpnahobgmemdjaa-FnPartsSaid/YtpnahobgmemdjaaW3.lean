/- Walks: names. -/
import Derived.Test.YtpnahobgmemdjaaW1
import Derived.Test.YtpnahobgmemdjaaBase2
namespace Go.Proofs.Ytpnahobgmemdjaa
open Go.RowKit
set_option linter.unusedSimpArgs false
set_option linter.unusedVariables false
attribute [local go_sem] BelowBy.cell BelowBy.cell_drew stillUpon givesUpon
theorem cls0 (c : Int) : (97 ≤ c ∧ c ≤ 122) ∨ (65 ≤ c ∧ c ≤ 90) ∨ (48 ≤ c ∧ c ≤ 57) ∨ c = 95 ∨ c < 48 ∨ (57 < c ∧ c < 65) ∨ (90 < c ∧ c < 95) ∨ (95 < c ∧ c < 97) ∨ 122 < c := by omega
theorem cls (c : Int) : (97 ≤ c ∧ c ≤ 122 ∧ 65 ≤ c ∧ ¬ c ≤ 90 ∧ 48 ≤ c ∧ ¬ c ≤ 57 ∧ ¬ c < 48 ∧ 57 < c ∧ ¬ c = 95) ∨ (¬ 97 ≤ c ∧ c ≤ 122 ∧ 65 ≤ c ∧ c ≤ 90 ∧ 48 ≤ c ∧ ¬ c ≤ 57 ∧ ¬ c < 48 ∧ 57 < c ∧ ¬ c = 95) ∨ (¬ 97 ≤ c ∧ c ≤ 122 ∧ ¬ 65 ≤ c ∧ c ≤ 90 ∧ 48 ≤ c ∧ c ≤ 57 ∧ ¬ c < 48 ∧ ¬ 57 < c ∧ ¬ c = 95) ∨ (¬ 97 ≤ c ∧ c ≤ 122 ∧ 65 ≤ c ∧ ¬ c ≤ 90 ∧ 48 ≤ c ∧ ¬ c ≤ 57 ∧ ¬ c < 48 ∧ 57 < c ∧ c = 95) ∨ (¬ 97 ≤ c ∧ c ≤ 122 ∧ ¬ 65 ≤ c ∧ c ≤ 90 ∧ ¬ 48 ≤ c ∧ c ≤ 57 ∧ c < 48 ∧ ¬ 57 < c ∧ ¬ c = 95) ∨ (¬ 97 ≤ c ∧ c ≤ 122 ∧ ¬ 65 ≤ c ∧ c ≤ 90 ∧ 48 ≤ c ∧ ¬ c ≤ 57 ∧ ¬ c < 48 ∧ 57 < c ∧ ¬ c = 95) ∨ (¬ 97 ≤ c ∧ c ≤ 122 ∧ 65 ≤ c ∧ ¬ c ≤ 90 ∧ 48 ≤ c ∧ ¬ c ≤ 57 ∧ ¬ c < 48 ∧ 57 < c ∧ ¬ c = 95) ∨ (¬ 97 ≤ c ∧ c ≤ 122 ∧ 65 ≤ c ∧ ¬ c ≤ 90 ∧ 48 ≤ c ∧ ¬ c ≤ 57 ∧ ¬ c < 48 ∧ 57 < c ∧ ¬ c = 95) ∨ (97 ≤ c ∧ ¬ c ≤ 122 ∧ 65 ≤ c ∧ ¬ c ≤ 90 ∧ 48 ≤ c ∧ ¬ c ≤ 57 ∧ ¬ c < 48 ∧ 57 < c ∧ ¬ c = 95) := by 
  rcases cls0 c with h | h | h | h | h | h | h | h | h
  · exact Or.inl ⟨by omega, by omega, by omega, by omega, by omega, by omega, by omega, by omega, by omega⟩
  · exact Or.inr (Or.inl ⟨by omega, by omega, by omega, by omega, by omega, by omega, by omega, by omega, by omega⟩)
  · exact Or.inr (Or.inr (Or.inl ⟨by omega, by omega, by omega, by omega, by omega, by omega, by omega, by omega, by omega⟩))
  · exact Or.inr (Or.inr (Or.inr (Or.inl ⟨by omega, by omega, by omega, by omega, by omega, by omega, by omega, by omega, by omega⟩)))
  · exact Or.inr (Or.inr (Or.inr (Or.inr (Or.inl ⟨by omega, by omega, by omega, by omega, by omega, by omega, by omega, by omega, by omega⟩))))
  · exact Or.inr (Or.inr (Or.inr (Or.inr (Or.inr (Or.inl ⟨by omega, by omega, by omega, by omega, by omega, by omega, by omega, by omega, by omega⟩)))))
  · exact Or.inr (Or.inr (Or.inr (Or.inr (Or.inr (Or.inr (Or.inl ⟨by omega, by omega, by omega, by omega, by omega, by omega, by omega, by omega, by omega⟩))))))
  · exact Or.inr (Or.inr (Or.inr (Or.inr (Or.inr (Or.inr (Or.inr (Or.inl ⟨by omega, by omega, by omega, by omega, by omega, by omega, by omega, by omega, by omega⟩)))))))
  · exact Or.inr (Or.inr (Or.inr (Or.inr (Or.inr (Or.inr (Or.inr (Or.inr (⟨by omega, by omega, by omega, by omega, by omega, by omega, by omega, by omega, by omega⟩))))))))
theorem letterI_iff (c : Int) : letterI c = true ↔ (97 ≤ c ∧ c ≤ 122) ∨ (65 ≤ c ∧ c ≤ 90) := by simp [letterI]
theorem digitI_iff (c : Int) : digitI c = true ↔ 48 ≤ c ∧ c ≤ 57 := by simp [digitI]
theorem bool_of {b c : Bool} {p : Prop} (hb : b = true ↔ p) (hc : c = true ↔ p) : b = c := by rw [Bool.eq_iff_iff, hb, hc]
/-- what a byte is good for -/
theorem okCh_iff {s : ByteArray} {k : Nat} {c : Int} (h : okCh s k = (letterI c || (k != 0 && (digitI c || c == 95)))) : okCh s k = true ↔ ((97 ≤ c ∧ c ≤ 122) ∨ (65 ≤ c ∧ c ≤ 90)) ∨ (k ≠ 0 ∧ ((48 ≤ c ∧ c ≤ 57) ∨ c = 95)) := by
  rw [h, Bool.or_eq_true, letterI_iff, Bool.and_eq_true, Bool.or_eq_true, digitI_iff]; simp
theorem isNameB_bad {s : ByteArray} {k : Nat} (h : k < s.size) (hk : ¬ okCh s k = true) : isNameB s = false := by
  have : allB s.size (okCh s) = false := allB_false h (by simpa using hk)
  simp [isNameB, this]
theorem isNameB_good {s : ByteArray} (h : ∀ j, j < s.size → okCh s j = true) : isNameB s = (decide (1 ≤ s.size) && decide (s.size ≤ 12)) := by
  simp [isNameB, allB_true h]
theorem isNameB_ok {s : ByteArray} (h : ∀ j, j < s.size → okCh s j = true) (h1 : 1 ≤ s.size) (h2 : s.size ≤ 12) : isNameB s = true := by
  rw [isNameB_good h, decide_eq_true h1, decide_eq_true h2]; rfl
theorem isNameB_size {s : ByteArray} (h : s.size < 1 ∨ 12 < s.size) : isNameB s = false := by
  unfold isNameB
  rcases h with h | h
  · rw [decide_eq_false (by omega : ¬ 1 ≤ s.size)]; simp
  · rw [decide_eq_false (by omega : ¬ s.size ≤ 12)]; simp
theorem bool_neg {b : Bool} (h : ¬ b = true) : b = false := by simpa using h
end Go.Proofs.Ytpnahobgmemdjaa
