/- Walks: names. -/
import Derived.Test.YtmhgjgclclnmaaaGreatW1
import Derived.Test.YtmhgjgclclnmaaaGreatBase2
namespace Go.Proofs.YtmhgjgclclnmaaaGreat
open Go.RowKit
set_option linter.unusedSimpArgs false
set_option linter.unusedVariables false
attribute [local go_sem] BelowBy.cell BelowBy.cell_drew stillUpon givesUpon
theorem cls0 (c : Int) : (97 ≤ c ∧ c ≤ 122) ∨ (65 ≤ c ∧ c ≤ 90) ∨ (48 ≤ c ∧ c ≤ 57) ∨ c = 95 ∨ c < 48 ∨ (57 < c ∧ c < 65) ∨ (90 < c ∧ c < 95) ∨ (95 < c ∧ c < 97) ∨ 122 < c := by omega
theorem cls (c : Int) : (97 ≤ c ∧ c ≤ 122 ∧ 65 ≤ c ∧ ¬ c ≤ 90 ∧ 48 ≤ c ∧ ¬ c ≤ 57 ∧ ¬ c < 48 ∧ 57 < c ∧ ¬ c = 95) ∨ (¬ 97 ≤ c ∧ c ≤ 122 ∧ 65 ≤ c ∧ c ≤ 90 ∧ 48 ≤ c ∧ ¬ c ≤ 57 ∧ ¬ c < 48 ∧ 57 < c ∧ ¬ c = 95) ∨ (¬ 97 ≤ c ∧ c ≤ 122 ∧ ¬ 65 ≤ c ∧ c ≤ 90 ∧ 48 ≤ c ∧ c ≤ 57 ∧ ¬ c < 48 ∧ ¬ 57 < c ∧ ¬ c = 95) ∨ (¬ 97 ≤ c ∧ c ≤ 122 ∧ 65 ≤ c ∧ ¬ c ≤ 90 ∧ 48 ≤ c ∧ ¬ c ≤ 57 ∧ ¬ c < 48 ∧ 57 < c ∧ c = 95) ∨ (¬ 97 ≤ c ∧ c ≤ 122 ∧ ¬ 65 ≤ c ∧ c ≤ 90 ∧ ¬ 48 ≤ c ∧ c ≤ 57 ∧ c < 48 ∧ ¬ 57 < c ∧ ¬ c = 95) ∨ (¬ 97 ≤ c ∧ c ≤ 122 ∧ ¬ 65 ≤ c ∧ c ≤ 90 ∧ 48 ≤ c ∧ ¬ c ≤ 57 ∧ ¬ c < 48 ∧ 57 < c ∧ ¬ c = 95) ∨ (¬ 97 ≤ c ∧ c ≤ 122 ∧ 65 ≤ c ∧ ¬ c ≤ 90 ∧ 48 ≤ c ∧ ¬ c ≤ 57 ∧ ¬ c < 48 ∧ 57 < c ∧ ¬ c = 95) ∨ (¬ 97 ≤ c ∧ c ≤ 122 ∧ 65 ≤ c ∧ ¬ c ≤ 90 ∧ 48 ≤ c ∧ ¬ c ≤ 57 ∧ ¬ c < 48 ∧ 57 < c ∧ ¬ c = 95) ∨ (97 ≤ c ∧ ¬ c ≤ 122 ∧ 65 ≤ c ∧ ¬ c ≤ 90 ∧ 48 ≤ c ∧ ¬ c ≤ 57 ∧ ¬ c < 48 ∧ 57 < c ∧ ¬ c = 95) := by 
  rcases cls0 c with h | h | h | h | h | h | h | h | h
  · exact Or.inl ⟨by omega, by omega, by omega, by omega, by omega, by omega, by omega, by omega, by omega⟩
  · exact Or.inr (Or.inl ⟨by omega, by omega, by omega, by omega, by omega, by omega, by omega, by omega, by omega⟩)
  · exact Or.inr (Or.inr (Or.inl ⟨by omega, by omega, by omega, by omega, by omega, by omega, by omega, by omega, by omega⟩))
  · exact Or.inr (Or.inr (Or.inr (Or.inl ⟨by omega, by omega, by omega, by omega, by omega, by omega, by omega, by omega, by omega⟩)))
  · exact Or.inr (Or.inr (Or.inr (Or.inr (Or.inl ⟨by omega, by omega, by omega, by omega, by omega, by omega, by omega, by omega, by omega⟩))))
  · exact Or.inr (Or.inr (Or.inr (Or.inr (Or.inr (Or.inl ⟨by omega, by omega, by omega, by omega, by omega, by omega, by omega, by omega, by omega⟩)))))
  · exact Or.inr (Or.inr (Or.inr (Or.inr (Or.inr (Or.inr (Or.inl ⟨by omega, by omega, by omega, by omega, by omega, by omega, by omega, by omega, by omega⟩))))))
  · exact Or.inr (Or.inr (Or.inr (Or.inr (Or.inr (Or.inr (Or.inr (Or.inl ⟨by omega, by omega, by omega, by omega, by omega, by omega, by omega, by omega, by omega⟩)))))))
  · exact Or.inr (Or.inr (Or.inr (Or.inr (Or.inr (Or.inr (Or.inr (Or.inr (⟨by omega, by omega, by omega, by omega, by omega, by omega, by omega, by omega, by omega⟩))))))))
theorem letterI_iff (c : Int) : letterI c = true ↔ (97 ≤ c ∧ c ≤ 122) ∨ (65 ≤ c ∧ c ≤ 90) := by simp [letterI]
theorem digitI_iff (c : Int) : digitI c = true ↔ 48 ≤ c ∧ c ≤ 57 := by simp [digitI]
theorem bool_of {b c : Bool} {p : Prop} (hb : b = true ↔ p) (hc : c = true ↔ p) : b = c := by rw [Bool.eq_iff_iff, hb, hc]
set_option maxHeartbeats 1000000 in
theorem l01Letter_any (c : Int) (w : World) :
    Calls Tryz.prog 198 #[.int .u8 c] w fun e w' => e = .returned (.bool (letterI c)) ∧ w = w' := by
  rcases cls c with ⟨h1, h2, h3, h4, h5, h6, h7, h8, h9⟩ | ⟨h1, h2, h3, h4, h5, h6, h7, h8, h9⟩ | ⟨h1, h2, h3, h4, h5, h6, h7, h8, h9⟩ | ⟨h1, h2, h3, h4, h5, h6, h7, h8, h9⟩ | ⟨h1, h2, h3, h4, h5, h6, h7, h8, h9⟩ | ⟨h1, h2, h3, h4, h5, h6, h7, h8, h9⟩ | ⟨h1, h2, h3, h4, h5, h6, h7, h8, h9⟩ | ⟨h1, h2, h3, h4, h5, h6, h7, h8, h9⟩ | ⟨h1, h2, h3, h4, h5, h6, h7, h8, h9⟩
  all_goals
    go_enter Tryz.func198, Tryz.ntmps198
    go_wp2
    go_ret
    refine ⟨ret_bool (bool_of ?_ (letterI_iff _)), rfl⟩
    simp <;> omega
theorem l01Digit_any (c : Int) (w : World) :
    Calls Tryz.prog 199 #[.int .u8 c] w fun e w' => e = .returned (.bool (digitI c)) ∧ w = w' := by
  rcases cls c with ⟨h1, h2, h3, h4, h5, h6, h7, h8, h9⟩ | ⟨h1, h2, h3, h4, h5, h6, h7, h8, h9⟩ | ⟨h1, h2, h3, h4, h5, h6, h7, h8, h9⟩ | ⟨h1, h2, h3, h4, h5, h6, h7, h8, h9⟩ | ⟨h1, h2, h3, h4, h5, h6, h7, h8, h9⟩ | ⟨h1, h2, h3, h4, h5, h6, h7, h8, h9⟩ | ⟨h1, h2, h3, h4, h5, h6, h7, h8, h9⟩ | ⟨h1, h2, h3, h4, h5, h6, h7, h8, h9⟩ | ⟨h1, h2, h3, h4, h5, h6, h7, h8, h9⟩
  all_goals
    go_enter Tryz.func199, Tryz.ntmps199
    go_wp2
    go_ret
    refine ⟨ret_bool (bool_of ?_ (digitI_iff _)), rfl⟩
    simp <;> omega
/-- what a byte is good for -/
theorem okCh_iff {s : ByteArray} {k : Nat} {c : Int} (h : okCh s k = (letterI c || (k != 0 && (digitI c || c == 95)))) : okCh s k = true ↔ ((97 ≤ c ∧ c ≤ 122) ∨ (65 ≤ c ∧ c ≤ 90)) ∨ (k ≠ 0 ∧ ((48 ≤ c ∧ c ≤ 57) ∨ c = 95)) := by
  rw [h, Bool.or_eq_true, letterI_iff, Bool.and_eq_true, Bool.or_eq_true, digitI_iff]; simp
theorem isNameB_bad {s : ByteArray} {k : Nat} (h : k < s.size) (hk : ¬ okCh s k = true) : isNameB s = false := by
  have : allB s.size (okCh s) = false := allB_false h (by simpa using hk)
  simp [isNameB, this]
theorem isNameB_good {s : ByteArray} (h : ∀ j, j < s.size → okCh s j = true) : isNameB s = (decide (1 ≤ s.size) && decide (s.size ≤ 12)) := by
  simp [isNameB, allB_true h]
theorem isNameB_ok {s : ByteArray} (h : ∀ j, j < s.size → okCh s j = true) (h1 : 1 ≤ s.size) (h2 : s.size ≤ 12) : isNameB s = true := by
  rw [isNameB_good h, decide_eq_true h1, decide_eq_true h2]; rfl
theorem isNameB_size {s : ByteArray} (h : s.size < 1 ∨ 12 < s.size) : isNameB s = false := by
  unfold isNameB
  rcases h with h | h
  · rw [decide_eq_false (by omega : ¬ 1 ≤ s.size)]; simp
  · rw [decide_eq_false (by omega : ¬ s.size ≤ 12)]; simp
set_option maxHeartbeats 2000000 in
theorem IsName_any (s : ByteArray) (w : World) (hs : s.size ≤ 9223372036854775807) :
    Calls Tryz.prog 152 #[.string s] w fun e w' => e = .returned (.bool (isNameB s)) ∧ w = w' := by
  go_enter Tryz.func152, Tryz.ntmps152
  go_wp2
  go_loopg [8] s.size (fun g i wr => ∃ k : Nat, k + g = s.size ∧ i = .int .i64 k ∧ (∀ j, j < k → okCh s j = true) ∧ w = wr)
  case atStart => exact ⟨0, by omega, rfl, fun j hj => by omega, rfl⟩
  case round =>
    obtain ⟨k, hk, rfl, hok, rfl⟩ := hrel
    by_cases hlt : k < s.size
    · have HO := okCh_eq hlt
      obtain ⟨c, hc⟩ : ∃ c : Int, (s[k].toNat : Int) = c := ⟨_, rfl⟩
      rw [hc] at HO
      have HO := Lib.hid (okCh_iff HO)
      have hk0 : k = 0 ∨ 0 < k := by omega
      rcases hk0 with rfl | hk0
      all_goals
        rcases cls c with ⟨h1, h2, h3, h4, h5, h6, h7, h8, h9⟩ | ⟨h1, h2, h3, h4, h5, h6, h7, h8, h9⟩ | ⟨h1, h2, h3, h4, h5, h6, h7, h8, h9⟩ | ⟨h1, h2, h3, h4, h5, h6, h7, h8, h9⟩ | ⟨h1, h2, h3, h4, h5, h6, h7, h8, h9⟩ | ⟨h1, h2, h3, h4, h5, h6, h7, h8, h9⟩ | ⟨h1, h2, h3, h4, h5, h6, h7, h8, h9⟩ | ⟨h1, h2, h3, h4, h5, h6, h7, h8, h9⟩ | ⟨h1, h2, h3, h4, h5, h6, h7, h8, h9⟩
        all_goals
          go_wp2
          all_goals first
          | (exfalso
             have hx := ‹((k : Int) == 0) = false ∧ (c != 95) = false›
             simp at hx
             omega)
          | (go_ret
             exact ⟨ret_bool (isNameB_bad hlt (by rw [HO.out]; omega)).symm, rfl⟩)
          | (go_roundg (s.size - (k + 1))
             case measure => omega
             case rel => exact ⟨k + 1, by omega, by go_num, fun j hj => (by
               rcases Nat.lt_succ_iff_lt_or_eq.1 hj with hj | rfl
               · exact hok j hj
               · rw [HO.out]; omega), rfl⟩)
          | (go_roundg (s.size - 1)
             case measure => omega
             case rel => exact ⟨1, by omega, by go_num, fun j hj => (by
               obtain rfl : j = 0 := by omega
               rw [HO.out]; omega), rfl⟩)
    · obtain rfl : k = s.size := by omega
      by_cases h1 : 1 ≤ s.size
      · by_cases h2 : s.size ≤ 12
        · go_wp2
          go_ret
          exact ⟨ret_bool (by rw [isNameB_ok hok h1 h2]; exact decide_eq_true (by omega)), rfl⟩
        · go_wp2
          go_ret
          exact ⟨ret_bool (by rw [isNameB_size (Or.inr (by omega))]; exact decide_eq_false (by omega)), rfl⟩
      · go_wp2
        go_ret
        exact ⟨ret_bool (isNameB_size (Or.inl (by omega))).symm, rfl⟩
theorem bool_neg {b : Bool} (h : ¬ b = true) : b = false := by simpa using h
set_option maxHeartbeats 2000000 in
theorem sIsName_any (s : ByteArray) (w : World) (hs : s.size ≤ 9223372036854775807) :
    Calls Tryz.prog 169 #[.string s] w fun e w' => e = .returned (.bool (isNameB s)) ∧ w = w' := by
  by_cases h1 : 1 ≤ s.size
  · by_cases h2 : s.size ≤ 12
    · have hlt0 : 0 < s.size := by omega
      have HO := okCh_eq hlt0
      obtain ⟨c0, hc0⟩ : ∃ c : Int, (s[0].toNat : Int) = c := ⟨_, rfl⟩
      rw [hc0] at HO
      have HO0 := Lib.hid (okCh_iff HO)
      cases hL : letterI c0
      · go_enter Tryz.func169, Tryz.ntmps169
        go_wp2_with (go_at_call 198; refine (l01Letter_any _ _).mono ?_; rintro e _ ⟨rfl, rfl⟩)
        go_ret
        have hL' := mt (letterI_iff c0).2 (by rw [hL]; simp)
        exact ⟨ret_bool (isNameB_bad hlt0 (by rw [HO0.out]; omega)).symm, rfl⟩
      · go_enter Tryz.func169, Tryz.ntmps169
        go_wp2_with (go_at_call 198; refine (l01Letter_any _ _).mono ?_; rintro e _ ⟨rfl, rfl⟩)
        have hL' := (letterI_iff c0).1 hL
        go_loopg [3] (s.size - 1) (fun g i wr => ∃ k : Nat, k + g = s.size ∧ i = .int .i64 k ∧ 1 ≤ k ∧ (∀ j, j < k → okCh s j = true) ∧ w = wr)
        case atStart => exact ⟨1, by omega, rfl, by omega, fun j hj => (by
               obtain rfl : j = 0 := by omega
               rw [HO0.out]; omega), rfl⟩
        case round =>
          obtain ⟨k, hk, rfl, hk1, hok, rfl⟩ := hrel
          by_cases hlt : k < s.size
          · have HO := okCh_eq hlt
            obtain ⟨c, hc⟩ : ∃ c : Int, (s[k].toNat : Int) = c := ⟨_, rfl⟩
            rw [hc] at HO
            have HO := Lib.hid (okCh_iff HO)
            cases hl : letterI c
            · have hl' := mt (letterI_iff c).2 (by rw [hl]; simp)
              cases hd : digitI c
              · have hd' := mt (digitI_iff c).2 (by rw [hd]; simp)
                by_cases h95 : c = 95
                · go_wp2_with (first
                    | (go_at_call 198; refine (l01Letter_any _ _).mono ?_; rintro e _ ⟨rfl, rfl⟩)
                    | (go_at_call 199; refine (l01Digit_any _ _).mono ?_; rintro e _ ⟨rfl, rfl⟩))
                  go_roundg (s.size - (k + 1))
                  case measure => omega
                  case rel => exact ⟨k + 1, by omega, by go_num, by omega, fun j hj => (by
                    rcases Nat.lt_succ_iff_lt_or_eq.1 hj with hj | rfl
                    · exact hok j hj
                    · rw [HO.out]; omega), rfl⟩
                · go_wp2_with (first
                    | (go_at_call 198; refine (l01Letter_any _ _).mono ?_; rintro e _ ⟨rfl, rfl⟩)
                    | (go_at_call 199; refine (l01Digit_any _ _).mono ?_; rintro e _ ⟨rfl, rfl⟩))
                  go_ret
                  exact ⟨ret_bool (isNameB_bad hlt (by rw [HO.out]; omega)).symm, rfl⟩
              · have hd' := (digitI_iff c).1 hd
                go_wp2_with (first
                  | (go_at_call 198; refine (l01Letter_any _ _).mono ?_; rintro e _ ⟨rfl, rfl⟩)
                  | (go_at_call 199; refine (l01Digit_any _ _).mono ?_; rintro e _ ⟨rfl, rfl⟩))
                go_roundg (s.size - (k + 1))
                case measure => omega
                case rel => exact ⟨k + 1, by omega, by go_num, by omega, fun j hj => (by
                    rcases Nat.lt_succ_iff_lt_or_eq.1 hj with hj | rfl
                    · exact hok j hj
                    · rw [HO.out]; omega), rfl⟩
            · have hl' := (letterI_iff c).1 hl
              go_wp2_with (go_at_call 198; refine (l01Letter_any _ _).mono ?_; rintro e _ ⟨rfl, rfl⟩)
              go_roundg (s.size - (k + 1))
              case measure => omega
              case rel => exact ⟨k + 1, by omega, by go_num, by omega, fun j hj => (by
                    rcases Nat.lt_succ_iff_lt_or_eq.1 hj with hj | rfl
                    · exact hok j hj
                    · rw [HO.out]; omega), rfl⟩
          · obtain rfl : k = s.size := by omega
            go_wp2
            go_ret
            exact ⟨ret_bool (isNameB_ok hok h1 h2).symm, rfl⟩
    · go_enter Tryz.func169, Tryz.ntmps169
      go_wp2
      go_ret
      exact ⟨ret_bool (isNameB_size (Or.inr (by omega))).symm, rfl⟩
  · go_enter Tryz.func169, Tryz.ntmps169
    go_wp2
    go_ret
    exact ⟨ret_bool (isNameB_size (Or.inl (by omega))).symm, rfl⟩
end Go.Proofs.YtmhgjgclclnmaaaGreat
