/- Plain: numerals in names. -/
import Derived.Test.YtdcndhiidjgmaaaGreatDoorKA
import Derived.Lib.ItoaMem
namespace Go.Proofs.YtdcndhiidjgmaaaGreatDoor
open Go.RowKit
set_option linter.unusedSimpArgs false
set_option linter.unusedVariables false
def decN (u : Nat) : ByteArray := ⟨(Lib.decDigits u).toArray⟩
theorem decDigits_lt {u : Nat} (h : u < 1000) : (Lib.decDigits u).length ≤ 3 := by
  rw [Lib.decDigits_length]
  rcases Nat.lt_or_ge u 10 with h1 | h1
  · rw [Lib.nDigits_small h1]; omega
  · rw [Lib.nDigits_big (by omega)]
    rcases Nat.lt_or_ge (u / 10) 10 with h2 | h2
    · rw [Lib.nDigits_small h2]; omega
    · rw [Lib.nDigits_big (by omega), Lib.nDigits_small (by omega)]; omega
theorem decN_size {u : Nat} (h : u < 1000) : (decN u).size ≤ 3 := decDigits_lt h
theorem mkDig_dec : ∀ (f j : Nat) (s : ByteArray), 0 < j → j < f → mkDig f j s = decN j ++ s
  | 0, j, s, _, h => by omega
  | f + 1, j, s, h0, h => by
    rw [mkDig_pos _ _ _ h0]
    rcases Nat.lt_or_ge j 10 with h1 | h1
    · rw [show j / 10 = 0 by omega, mkDig_zero]
      unfold decN digB
      rw [Lib.decDigits_one h1, show j % 10 = j by omega]
    · rw [mkDig_dec f (j / 10) _ (by omega) (by omega), ← ByteArray.append_assoc]
      congr 1
      unfold decN digB
      rw [Lib.decDigits.eq_1 j, dif_neg (by omega)]
      apply ByteArray.ext
      simp
/-- a word and two numerals -/
def pairN (wd : ByteArray) (a b : Nat) : ByteArray := wd ++ decN a ++ ⟨#[95]⟩ ++ decN b
end Go.Proofs.YtdcndhiidjgmaaaGreatDoor
