import Derived.Test.YtfabgnnpgepcoaaGreatBase
import Derived.Test.YtfabgnnpgepcoaaGreatProg
import Derived.Test.YtfabgnnpgepcoaaGreatBase2
import Derived.Lib.SlicesS
import Derived.Maps.OwnOps
import Derived.Maps.OwnSet
import Derived.StringKeys
import Derived.Carry
import Derived.Deep.DeepMust
/- Walks of the least functions: ranges, comparisons of points. -/


namespace Go.Proofs.YtfabgnnpgepcoaaGreat
open Go.RowKit
set_option linter.unusedSimpArgs false
set_option linter.unusedVariables false
attribute [local go_sem] BelowBy.cell BelowBy.cell_drew stillUpon givesUpon
theorem within_any (n lo hi : Int) (w : World) :
    Calls Tryz.prog 99 #[.int .i64 n, .int .i64 lo, .int .i64 hi] w fun e w' => e = .returned (.bool (inB n lo hi)) ∧ w = w' := by
  by_cases h1 : lo ≤ n
  · by_cases h2 : n ≤ hi
    · go_enter Tryz.func99, Tryz.ntmps99
      go_wp2
      go_ret
      exact ⟨ret_bool (inB_true.2 ⟨h1, h2⟩).symm, rfl⟩
    · have h3 : hi < n := by omega
      clear h2
      go_enter Tryz.func99, Tryz.ntmps99
      go_wp2
      go_ret
      exact ⟨ret_bool ((decide_eq_false (by omega)).trans (inB_false.2 (by omega)).symm), rfl⟩
  · have h3 : n < lo := by omega
    clear h1
    go_enter Tryz.func99, Tryz.ntmps99
    go_wp2
    go_ret
    exact ⟨ret_bool (inB_false.2 (by omega)).symm, rfl⟩

theorem isIndex_any (i : Int) (m : Int) (w : World) (h0 : 0 ≤ m) (hm : m ≤ 140737488355328) :
    Calls Tryz.prog 77 #[.int .i64 i, .int .i64 m] w fun e w' => e = .returned (.bool (inB i 0 (m - 1))) ∧ w = w' := by
  go_enter Tryz.func77, Tryz.ntmps77
  go_wp2_with (go_at_call 99; refine (within_any _ _ _ _).mono ?_; rintro e w' ⟨rfl, rfl⟩)
  go_ret
  exact ⟨rfl, rfl⟩

theorem ValidPoint_any (x y : Int) (w : World) :
    Calls Tryz.prog 110 #[.agg #[.int .i64 x, .int .i64 y]] w fun e w' => e = .returned (.bool (validPt x y)) ∧ Below w.heap.size w w' := by
  have hb := (Below.refl w.heap.size w).alloc (Nat.le_refl _) (.cells #[.int .i64 x, .int .i64 y] 101)
  cases h1 : inB x (-60) 60
  all_goals
    go_enter Tryz.func110, Tryz.ntmps110
    go_wp2_with (go_at_call 99; refine (within_any _ _ _ _).mono ?_; rintro e w' ⟨rfl, rfl⟩)
    go_ret
    exact ⟨ret_bool (by simp [validPt, h1]), hb⟩

theorem isNaN_any (n : Int) (w : World) :
    Calls Tryz.prog 119 #[.int .i64 n] w fun e w' => e = .returned (.bool false) ∧ w = w' := by
  go_enter Tryz.func119, Tryz.ntmps119
  go_wp2
  go_ret
  exact ⟨by simp, rfl⟩

theorem Compare_any (a b : Int) (w : World) :
    Calls Tryz.prog 118 #[.int .i64 a, .int .i64 b] w fun e w' => e = .returned (.int .i64 (cmpI a b)) ∧ w = w' := by
  rcases Int.lt_trichotomy a b with h | h | h
  · go_enter Tryz.func118, Tryz.ntmps118
    go_wp2_with (go_at_call 119; refine (isNaN_any _ _).mono ?_; rintro e w' ⟨rfl, rfl⟩)
    go_ret
    exact ⟨ret_int (by simp [cmpI, h]), rfl⟩
  · subst h
    go_enter Tryz.func118, Tryz.ntmps118
    go_wp2_with (go_at_call 119; refine (isNaN_any _ _).mono ?_; rintro e w' ⟨rfl, rfl⟩)
    go_ret
    exact ⟨ret_int (by simp [cmpI]), rfl⟩
  · go_enter Tryz.func118, Tryz.ntmps118
    go_wp2_with (go_at_call 119; refine (isNaN_any _ _).mono ?_; rintro e w' ⟨rfl, rfl⟩)
    go_ret
    exact ⟨ret_int (by simp only [cmpI]; rw [if_neg (by omega), if_pos h]), rfl⟩

theorem Or_any (a b : Int) (bl o : Nat) (c : Nat) (w : World) (h0 : w.cell? ⟨bl, o, none⟩ = some (.int .i64 a)) (h1 : w.cell? ⟨bl, o + 1, none⟩ = some (.int .i64 b)) :
    Calls Tryz.prog 117 #[.slice (some ⟨bl, o, none⟩) 2 c] w fun e w' => e = .returned (.int .i64 (orI a b)) ∧ w = w' := by
  by_cases ha : a = 0
  · subst ha
    by_cases hb : b = 0
    · subst hb
      go_enter Tryz.func117, Tryz.ntmps117
      go_wp2
      refine wp_loop_rounds 3 ?_
      rw [rounds_succ]
      go_wp2
      rw [rounds_succ]
      go_wp2
      rw [rounds_succ]
      go_wp2
      go_ret
      exact ⟨ret_int (by simp [orI]), rfl⟩
    · have hb' : (b != 0) = true := by simpa using hb
      go_enter Tryz.func117, Tryz.ntmps117
      go_wp2
      refine wp_loop_rounds 3 ?_
      rw [rounds_succ]
      go_wp2
      rw [rounds_succ]
      go_wp2
      go_ret
      exact ⟨ret_int (by simp [orI]), rfl⟩
  · have ha' : (a != 0) = true := by simpa using ha
    go_enter Tryz.func117, Tryz.ntmps117
    go_wp2
    refine wp_loop_rounds 3 ?_
    rw [rounds_succ]
    go_wp2
    go_ret
    exact ⟨ret_int (by simp [orI, ha]), rfl⟩

theorem comparePoints_any (ax ay bx b_y : Int) (w : World) :
    Calls Tryz.prog 113 #[.agg #[.int .i64 ax, .int .i64 ay], .agg #[.int .i64 bx, .int .i64 b_y]] w fun e w' => e = .returned (.int .i64 (cmpPt ax ay bx b_y)) ∧ Below w.heap.size w w' := by
  go_enter Tryz.func113, Tryz.ntmps113
  go_wp2
  refine wp_region_ord [(0, .q), (1, .q), (2, .q), (3, .q), (5, .q), (6, .q), (7, .q), (8, .q), (4, .g), (9, .g), (10, .g), (11, .g), (12, .q)] (by kernel_rfl) (by kernel_rfl) ?_
  simp only [pick, List.filterMap_cons, List.filterMap_nil, List.getElem?_toArray, List.getElem?_cons_zero, List.getElem?_cons_succ, Option.map_some]
  repeat (first | ((with_reducible refine wpD_p (fun K hK => ?_)); go_simp; refine hK _ ?_; clear hK K) | ((with_reducible refine wpD_q (fun K hK => ?_)); go_simp; (first | refine hK _ ?_ | (go_bits; refine hK _ ?_) | (go_bits; go_simp; refine hK _ ?_)); clear hK K))
  with_reducible refine wpD_g (fun K hK => ?_)
  go_simp
  refine (Compare_any _ _ _).mono ?_
  rintro e _ ⟨rfl, rfl⟩
  refine ⟨_, rfl, Below.refl _ _, hK _ _ ?_⟩
  clear hK K
  with_reducible refine wpD_g (fun K hK => ?_)
  go_simp
  refine (Compare_any _ _ _).mono ?_
  rintro e _ ⟨rfl, rfl⟩
  refine ⟨_, rfl, Below.refl _ _, hK _ _ ?_⟩
  clear hK K
  with_reducible refine wpD_g (fun K hK => ?_)
  go_simp
  refine ⟨Grew.of_alloc _, hK _ _ ?_⟩
  clear hK K
  with_reducible refine wpD_g (fun K hK => ?_)
  go_simp
  refine (Or_any (cmpI ay b_y) (cmpI ax bx) _ _ _ _ (by go_simp) (by go_simp)).mono ?_
  rintro e _ ⟨rfl, rfl⟩
  refine ⟨_, rfl, Below.refl _ _, hK _ _ ?_⟩
  clear hK K
  repeat (first | ((with_reducible refine wpD_p (fun K hK => ?_)); go_simp; refine hK _ ?_; clear hK K) | ((with_reducible refine wpD_q (fun K hK => ?_)); go_simp; (first | refine hK _ ?_ | (go_bits; refine hK _ ?_) | (go_bits; go_simp; refine hK _ ?_)); clear hK K))
  with_reducible refine wpD_nil ?_
  go_wp2
  go_ret
  refine ⟨rfl, ?_⟩
  repeat (first | with_reducible exact bl_refl _ | with_reducible assumption | with_reducible refine bl_al ?_ _ | with_reducible refine bl_dr ?_ | with_reducible refine bl_tr ?_ (by assumption) | with_reducible refine bl_set ?_ ?_ _ | with_reducible exact Nat.le_refl _ | omega | (simp only [World.size_alloc, World.size_setCell, World.size_drew] at *; omega) | (dsimp only; omega) | (simp; done) | (simp; omega))
theorem LessPoint_any (ax ay bx b_y : Int) (w : World) :
    Calls Tryz.prog 111 #[.agg #[.int .i64 ax, .int .i64 ay], .agg #[.int .i64 bx, .int .i64 b_y]] w fun e w' => e = .returned (.bool (lessPt ax ay bx b_y)) ∧ Below w.heap.size w w' := by
  go_enter Tryz.func111, Tryz.ntmps111
  go_wp2_with (go_at_call 113; refine (comparePoints_any _ _ _ _ _).mono ?_; rintro e w1 ⟨rfl, hb1⟩; obtain ⟨chb1, fhb1, shb1, thb1⟩ := bcell hb1)
  go_ret
  refine ⟨rfl, ?_⟩
  repeat (first | with_reducible exact bl_refl _ | with_reducible assumption | with_reducible refine bl_al ?_ _ | with_reducible refine bl_dr ?_ | with_reducible refine bl_tr ?_ (by assumption) | with_reducible refine bl_set ?_ ?_ _ | with_reducible exact Nat.le_refl _ | omega | (simp only [World.size_alloc, World.size_setCell, World.size_drew] at *; omega) | (dsimp only; omega) | (simp; done) | (simp; omega))
end Go.Proofs.YtfabgnnpgepcoaaGreat
/- Walks: names. -/


namespace Go.Proofs.YtfabgnnpgepcoaaGreat
open Go.RowKit
set_option linter.unusedSimpArgs false
set_option linter.unusedVariables false
attribute [local go_sem] BelowBy.cell BelowBy.cell_drew stillUpon givesUpon
theorem cls0 (c : Int) : (97 ≤ c ∧ c ≤ 122) ∨ (65 ≤ c ∧ c ≤ 90) ∨ (48 ≤ c ∧ c ≤ 57) ∨ c = 95 ∨ c < 48 ∨ (57 < c ∧ c < 65) ∨ (90 < c ∧ c < 95) ∨ (95 < c ∧ c < 97) ∨ 122 < c := by omega
theorem cls (c : Int) : (97 ≤ c ∧ c ≤ 122 ∧ 65 ≤ c ∧ ¬ c ≤ 90 ∧ 48 ≤ c ∧ ¬ c ≤ 57 ∧ ¬ c < 48 ∧ 57 < c ∧ ¬ c = 95) ∨ (¬ 97 ≤ c ∧ c ≤ 122 ∧ 65 ≤ c ∧ c ≤ 90 ∧ 48 ≤ c ∧ ¬ c ≤ 57 ∧ ¬ c < 48 ∧ 57 < c ∧ ¬ c = 95) ∨ (¬ 97 ≤ c ∧ c ≤ 122 ∧ ¬ 65 ≤ c ∧ c ≤ 90 ∧ 48 ≤ c ∧ c ≤ 57 ∧ ¬ c < 48 ∧ ¬ 57 < c ∧ ¬ c = 95) ∨ (¬ 97 ≤ c ∧ c ≤ 122 ∧ 65 ≤ c ∧ ¬ c ≤ 90 ∧ 48 ≤ c ∧ ¬ c ≤ 57 ∧ ¬ c < 48 ∧ 57 < c ∧ c = 95) ∨ (¬ 97 ≤ c ∧ c ≤ 122 ∧ ¬ 65 ≤ c ∧ c ≤ 90 ∧ ¬ 48 ≤ c ∧ c ≤ 57 ∧ c < 48 ∧ ¬ 57 < c ∧ ¬ c = 95) ∨ (¬ 97 ≤ c ∧ c ≤ 122 ∧ ¬ 65 ≤ c ∧ c ≤ 90 ∧ 48 ≤ c ∧ ¬ c ≤ 57 ∧ ¬ c < 48 ∧ 57 < c ∧ ¬ c = 95) ∨ (¬ 97 ≤ c ∧ c ≤ 122 ∧ 65 ≤ c ∧ ¬ c ≤ 90 ∧ 48 ≤ c ∧ ¬ c ≤ 57 ∧ ¬ c < 48 ∧ 57 < c ∧ ¬ c = 95) ∨ (¬ 97 ≤ c ∧ c ≤ 122 ∧ 65 ≤ c ∧ ¬ c ≤ 90 ∧ 48 ≤ c ∧ ¬ c ≤ 57 ∧ ¬ c < 48 ∧ 57 < c ∧ ¬ c = 95) ∨ (97 ≤ c ∧ ¬ c ≤ 122 ∧ 65 ≤ c ∧ ¬ c ≤ 90 ∧ 48 ≤ c ∧ ¬ c ≤ 57 ∧ ¬ c < 48 ∧ 57 < c ∧ ¬ c = 95) := by 
  rcases cls0 c with h | h | h | h | h | h | h | h | h
  · exact Or.inl ⟨by omega, by omega, by omega, by omega, by omega, by omega, by omega, by omega, by omega⟩
  · exact Or.inr (Or.inl ⟨by omega, by omega, by omega, by omega, by omega, by omega, by omega, by omega, by omega⟩)
  · exact Or.inr (Or.inr (Or.inl ⟨by omega, by omega, by omega, by omega, by omega, by omega, by omega, by omega, by omega⟩))
  · exact Or.inr (Or.inr (Or.inr (Or.inl ⟨by omega, by omega, by omega, by omega, by omega, by omega, by omega, by omega, by omega⟩)))
  · exact Or.inr (Or.inr (Or.inr (Or.inr (Or.inl ⟨by omega, by omega, by omega, by omega, by omega, by omega, by omega, by omega, by omega⟩))))
  · exact Or.inr (Or.inr (Or.inr (Or.inr (Or.inr (Or.inl ⟨by omega, by omega, by omega, by omega, by omega, by omega, by omega, by omega, by omega⟩)))))
  · exact Or.inr (Or.inr (Or.inr (Or.inr (Or.inr (Or.inr (Or.inl ⟨by omega, by omega, by omega, by omega, by omega, by omega, by omega, by omega, by omega⟩))))))
  · exact Or.inr (Or.inr (Or.inr (Or.inr (Or.inr (Or.inr (Or.inr (Or.inl ⟨by omega, by omega, by omega, by omega, by omega, by omega, by omega, by omega, by omega⟩)))))))
  · exact Or.inr (Or.inr (Or.inr (Or.inr (Or.inr (Or.inr (Or.inr (Or.inr (⟨by omega, by omega, by omega, by omega, by omega, by omega, by omega, by omega, by omega⟩))))))))
theorem letterI_iff (c : Int) : letterI c = true ↔ (97 ≤ c ∧ c ≤ 122) ∨ (65 ≤ c ∧ c ≤ 90) := by simp [letterI]
theorem digitI_iff (c : Int) : digitI c = true ↔ 48 ≤ c ∧ c ≤ 57 := by simp [digitI]
theorem bool_of {b c : Bool} {p : Prop} (hb : b = true ↔ p) (hc : c = true ↔ p) : b = c := by rw [Bool.eq_iff_iff, hb, hc]
set_option maxHeartbeats 1000000 in
theorem l01Letter_any (c : Int) (w : World) :
    Calls Tryz.prog 104 #[.int .u8 c] w fun e w' => e = .returned (.bool (letterI c)) ∧ w = w' := by
  rcases cls c with ⟨h1, h2, h3, h4, h5, h6, h7, h8, h9⟩ | ⟨h1, h2, h3, h4, h5, h6, h7, h8, h9⟩ | ⟨h1, h2, h3, h4, h5, h6, h7, h8, h9⟩ | ⟨h1, h2, h3, h4, h5, h6, h7, h8, h9⟩ | ⟨h1, h2, h3, h4, h5, h6, h7, h8, h9⟩ | ⟨h1, h2, h3, h4, h5, h6, h7, h8, h9⟩ | ⟨h1, h2, h3, h4, h5, h6, h7, h8, h9⟩ | ⟨h1, h2, h3, h4, h5, h6, h7, h8, h9⟩ | ⟨h1, h2, h3, h4, h5, h6, h7, h8, h9⟩
  all_goals
    go_enter Tryz.func104, Tryz.ntmps104
    go_wp2
    go_ret
    refine ⟨ret_bool (bool_of ?_ (letterI_iff _)), rfl⟩
    simp <;> omega
theorem l01Digit_any (c : Int) (w : World) :
    Calls Tryz.prog 105 #[.int .u8 c] w fun e w' => e = .returned (.bool (digitI c)) ∧ w = w' := by
  rcases cls c with ⟨h1, h2, h3, h4, h5, h6, h7, h8, h9⟩ | ⟨h1, h2, h3, h4, h5, h6, h7, h8, h9⟩ | ⟨h1, h2, h3, h4, h5, h6, h7, h8, h9⟩ | ⟨h1, h2, h3, h4, h5, h6, h7, h8, h9⟩ | ⟨h1, h2, h3, h4, h5, h6, h7, h8, h9⟩ | ⟨h1, h2, h3, h4, h5, h6, h7, h8, h9⟩ | ⟨h1, h2, h3, h4, h5, h6, h7, h8, h9⟩ | ⟨h1, h2, h3, h4, h5, h6, h7, h8, h9⟩ | ⟨h1, h2, h3, h4, h5, h6, h7, h8, h9⟩
  all_goals
    go_enter Tryz.func105, Tryz.ntmps105
    go_wp2
    go_ret
    refine ⟨ret_bool (bool_of ?_ (digitI_iff _)), rfl⟩
    simp <;> omega
/-- what a byte is good for -/
theorem okCh_iff {s : ByteArray} {k : Nat} {c : Int} (h : okCh s k = (letterI c || (k != 0 && (digitI c || c == 95)))) : okCh s k = true ↔ ((97 ≤ c ∧ c ≤ 122) ∨ (65 ≤ c ∧ c ≤ 90)) ∨ (k ≠ 0 ∧ ((48 ≤ c ∧ c ≤ 57) ∨ c = 95)) := by
  rw [h, Bool.or_eq_true, letterI_iff, Bool.and_eq_true, Bool.or_eq_true, digitI_iff]; simp
theorem isNameB_bad {s : ByteArray} {k : Nat} (h : k < s.size) (hk : ¬ okCh s k = true) : isNameB s = false := by
  have : allB s.size (okCh s) = false := allB_false h (by simpa using hk)
  simp [isNameB, this]
theorem isNameB_good {s : ByteArray} (h : ∀ j, j < s.size → okCh s j = true) : isNameB s = (decide (1 ≤ s.size) && decide (s.size ≤ 12)) := by
  simp [isNameB, allB_true h]
theorem isNameB_ok {s : ByteArray} (h : ∀ j, j < s.size → okCh s j = true) (h1 : 1 ≤ s.size) (h2 : s.size ≤ 12) : isNameB s = true := by
  rw [isNameB_good h, decide_eq_true h1, decide_eq_true h2]; rfl
theorem isNameB_size {s : ByteArray} (h : s.size < 1 ∨ 12 < s.size) : isNameB s = false := by
  unfold isNameB
  rcases h with h | h
  · rw [decide_eq_false (by omega : ¬ 1 ≤ s.size)]; simp
  · rw [decide_eq_false (by omega : ¬ s.size ≤ 12)]; simp
set_option maxHeartbeats 2000000 in
theorem IsName_any (s : ByteArray) (w : World) (hs : s.size ≤ 9223372036854775807) :
    Calls Tryz.prog 107 #[.string s] w fun e w' => e = .returned (.bool (isNameB s)) ∧ w = w' := by
  go_enter Tryz.func107, Tryz.ntmps107
  go_wp2
  go_loopg [8] s.size (fun g i wr => ∃ k : Nat, k + g = s.size ∧ i = .int .i64 k ∧ (∀ j, j < k → okCh s j = true) ∧ w = wr)
  case atStart => exact ⟨0, by omega, rfl, fun j hj => by omega, rfl⟩
  case round =>
    obtain ⟨k, hk, rfl, hok, rfl⟩ := hrel
    by_cases hlt : k < s.size
    · have HO := okCh_eq hlt
      obtain ⟨c, hc⟩ : ∃ c : Int, (s[k].toNat : Int) = c := ⟨_, rfl⟩
      rw [hc] at HO
      have HO := Lib.hid (okCh_iff HO)
      have hk0 : k = 0 ∨ 0 < k := by omega
      rcases hk0 with rfl | hk0
      all_goals
        rcases cls c with ⟨h1, h2, h3, h4, h5, h6, h7, h8, h9⟩ | ⟨h1, h2, h3, h4, h5, h6, h7, h8, h9⟩ | ⟨h1, h2, h3, h4, h5, h6, h7, h8, h9⟩ | ⟨h1, h2, h3, h4, h5, h6, h7, h8, h9⟩ | ⟨h1, h2, h3, h4, h5, h6, h7, h8, h9⟩ | ⟨h1, h2, h3, h4, h5, h6, h7, h8, h9⟩ | ⟨h1, h2, h3, h4, h5, h6, h7, h8, h9⟩ | ⟨h1, h2, h3, h4, h5, h6, h7, h8, h9⟩ | ⟨h1, h2, h3, h4, h5, h6, h7, h8, h9⟩
        all_goals
          go_wp2
          all_goals first
          | (exfalso
             have hx := ‹((k : Int) == 0) = false ∧ (c != 95) = false›
             simp at hx
             omega)
          | (go_ret
             exact ⟨ret_bool (isNameB_bad hlt (by rw [HO.out]; omega)).symm, rfl⟩)
          | (go_roundg (s.size - (k + 1))
             case measure => omega
             case rel => exact ⟨k + 1, by omega, by go_num, fun j hj => (by
               rcases Nat.lt_succ_iff_lt_or_eq.1 hj with hj | rfl
               · exact hok j hj
               · rw [HO.out]; omega), rfl⟩)
          | (go_roundg (s.size - 1)
             case measure => omega
             case rel => exact ⟨1, by omega, by go_num, fun j hj => (by
               obtain rfl : j = 0 := by omega
               rw [HO.out]; omega), rfl⟩)
    · obtain rfl : k = s.size := by omega
      by_cases h1 : 1 ≤ s.size
      · by_cases h2 : s.size ≤ 12
        · go_wp2
          go_ret
          exact ⟨ret_bool (by rw [isNameB_ok hok h1 h2]; exact decide_eq_true (by omega)), rfl⟩
        · go_wp2
          go_ret
          exact ⟨ret_bool (by rw [isNameB_size (Or.inr (by omega))]; exact decide_eq_false (by omega)), rfl⟩
      · go_wp2
        go_ret
        exact ⟨ret_bool (isNameB_size (Or.inl (by omega))).symm, rfl⟩
theorem bool_neg {b : Bool} (h : ¬ b = true) : b = false := by simpa using h
set_option maxHeartbeats 2000000 in
theorem sIsName_any (s : ByteArray) (w : World) (hs : s.size ≤ 9223372036854775807) :
    Calls Tryz.prog 87 #[.string s] w fun e w' => e = .returned (.bool (isNameB s)) ∧ w = w' := by
  by_cases h1 : 1 ≤ s.size
  · by_cases h2 : s.size ≤ 12
    · have hlt0 : 0 < s.size := by omega
      have HO := okCh_eq hlt0
      obtain ⟨c0, hc0⟩ : ∃ c : Int, (s[0].toNat : Int) = c := ⟨_, rfl⟩
      rw [hc0] at HO
      have HO0 := Lib.hid (okCh_iff HO)
      cases hL : letterI c0
      · go_enter Tryz.func87, Tryz.ntmps87
        go_wp2_with (go_at_call 104; refine (l01Letter_any _ _).mono ?_; rintro e _ ⟨rfl, rfl⟩)
        go_ret
        have hL' := mt (letterI_iff c0).2 (by rw [hL]; simp)
        exact ⟨ret_bool (isNameB_bad hlt0 (by rw [HO0.out]; omega)).symm, rfl⟩
      · go_enter Tryz.func87, Tryz.ntmps87
        go_wp2_with (go_at_call 104; refine (l01Letter_any _ _).mono ?_; rintro e _ ⟨rfl, rfl⟩)
        have hL' := (letterI_iff c0).1 hL
        go_loopg [3] (s.size - 1) (fun g i wr => ∃ k : Nat, k + g = s.size ∧ i = .int .i64 k ∧ 1 ≤ k ∧ (∀ j, j < k → okCh s j = true) ∧ w = wr)
        case atStart => exact ⟨1, by omega, rfl, by omega, fun j hj => (by
               obtain rfl : j = 0 := by omega
               rw [HO0.out]; omega), rfl⟩
        case round =>
          obtain ⟨k, hk, rfl, hk1, hok, rfl⟩ := hrel
          by_cases hlt : k < s.size
          · have HO := okCh_eq hlt
            obtain ⟨c, hc⟩ : ∃ c : Int, (s[k].toNat : Int) = c := ⟨_, rfl⟩
            rw [hc] at HO
            have HO := Lib.hid (okCh_iff HO)
            cases hl : letterI c
            · have hl' := mt (letterI_iff c).2 (by rw [hl]; simp)
              cases hd : digitI c
              · have hd' := mt (digitI_iff c).2 (by rw [hd]; simp)
                by_cases h95 : c = 95
                · go_wp2_with (first
                    | (go_at_call 104; refine (l01Letter_any _ _).mono ?_; rintro e _ ⟨rfl, rfl⟩)
                    | (go_at_call 105; refine (l01Digit_any _ _).mono ?_; rintro e _ ⟨rfl, rfl⟩))
                  go_roundg (s.size - (k + 1))
                  case measure => omega
                  case rel => exact ⟨k + 1, by omega, by go_num, by omega, fun j hj => (by
                    rcases Nat.lt_succ_iff_lt_or_eq.1 hj with hj | rfl
                    · exact hok j hj
                    · rw [HO.out]; omega), rfl⟩
                · go_wp2_with (first
                    | (go_at_call 104; refine (l01Letter_any _ _).mono ?_; rintro e _ ⟨rfl, rfl⟩)
                    | (go_at_call 105; refine (l01Digit_any _ _).mono ?_; rintro e _ ⟨rfl, rfl⟩))
                  go_ret
                  exact ⟨ret_bool (isNameB_bad hlt (by rw [HO.out]; omega)).symm, rfl⟩
              · have hd' := (digitI_iff c).1 hd
                go_wp2_with (first
                  | (go_at_call 104; refine (l01Letter_any _ _).mono ?_; rintro e _ ⟨rfl, rfl⟩)
                  | (go_at_call 105; refine (l01Digit_any _ _).mono ?_; rintro e _ ⟨rfl, rfl⟩))
                go_roundg (s.size - (k + 1))
                case measure => omega
                case rel => exact ⟨k + 1, by omega, by go_num, by omega, fun j hj => (by
                    rcases Nat.lt_succ_iff_lt_or_eq.1 hj with hj | rfl
                    · exact hok j hj
                    · rw [HO.out]; omega), rfl⟩
            · have hl' := (letterI_iff c).1 hl
              go_wp2_with (go_at_call 104; refine (l01Letter_any _ _).mono ?_; rintro e _ ⟨rfl, rfl⟩)
              go_roundg (s.size - (k + 1))
              case measure => omega
              case rel => exact ⟨k + 1, by omega, by go_num, by omega, fun j hj => (by
                    rcases Nat.lt_succ_iff_lt_or_eq.1 hj with hj | rfl
                    · exact hok j hj
                    · rw [HO.out]; omega), rfl⟩
          · obtain rfl : k = s.size := by omega
            go_wp2
            go_ret
            exact ⟨ret_bool (isNameB_ok hok h1 h2).symm, rfl⟩
    · go_enter Tryz.func87, Tryz.ntmps87
      go_wp2
      go_ret
      exact ⟨ret_bool (isNameB_size (Or.inr (by omega))).symm, rfl⟩
  · go_enter Tryz.func87, Tryz.ntmps87
    go_wp2
    go_ret
    exact ⟨ret_bool (isNameB_size (Or.inl (by omega))).symm, rfl⟩
end Go.Proofs.YtfabgnnpgepcoaaGreat
/- Walks: the reference's small functions on numbers and points. -/

namespace Go.Proofs.YtfabgnnpgepcoaaGreat
open Go.RowKit
set_option linter.unusedSimpArgs false
set_option linter.unusedVariables false
attribute [local go_sem] BelowBy.cell BelowBy.cell_drew stillUpon givesUpon
theorem l00In_any (n lo hi : Int) (w : World) :
    Calls Tryz.prog 46 #[.int .i64 n, .int .i64 lo, .int .i64 hi] w fun e w' => e = .returned (.bool (inB n lo hi)) ∧ w = w' := by
  cases h : decide (lo ≤ n)
  all_goals
    go_enter Tryz.func46, Tryz.ntmps46
    go_wp2
    go_ret
    exact ⟨ret_bool (by simp [inB, h]), rfl⟩
theorem l01Dir_any (n : Int) (w : World) :
    Calls Tryz.prog 93 #[.int .i64 n] w fun e w' => e = .returned (.bool (inB n 0 3)) ∧ w = w' := by
  go_enter Tryz.func93, Tryz.ntmps93
  go_wp2_with (go_at_call 46; refine (l00In_any _ _ _ _).mono ?_; rintro e _ ⟨rfl, rfl⟩)
  go_ret
  exact ⟨rfl, rfl⟩
def oppI (d : Int) : Int := if d < 2 then d + 2 else d - 2
theorem Opposite_any (d : Int) (w : World) (h : 0 ≤ d ∧ d ≤ 3) :
    Calls Tryz.prog 72 #[.int .i64 d] w fun e w' => e = .returned (.int .i64 (oppI d)) ∧ w = w' := by
  have hd : inB d 0 3 = true := inB_true.2 h
  go_enter Tryz.func72, Tryz.ntmps72
  go_wp2_with (go_at_call 93; refine (l01Dir_any _ _).mono ?_; rintro e _ ⟨rfl, rfl⟩)
  go_ret
  refine ⟨ret_int ?_, rfl⟩
  obtain ⟨h0, h1⟩ := h
  have : d = 0 ∨ d = 1 ∨ d = 2 ∨ d = 3 := by omega
  rcases this with rfl | rfl | rfl | rfl <;> decide
theorem l01Point_any (x y : Int) (w : World) :
    Calls Tryz.prog 106 #[.agg #[.int .i64 x, .int .i64 y]] w fun e w' => e = .returned (.bool (validPt x y)) ∧ Below w.heap.size w w' := by
  cases h : inB x (-60) 60
  all_goals
    go_enter Tryz.func106, Tryz.ntmps106
    go_wp2_with (go_at_call 46; refine (l00In_any _ _ _ _).mono ?_; rintro e _ ⟨rfl, rfl⟩)
    go_ret
    refine ⟨ret_bool (by simp [validPt, h]), ?_⟩
    repeat (first | with_reducible exact bl_refl _ | with_reducible assumption | with_reducible refine bl_al ?_ _ | with_reducible refine bl_dr ?_ | with_reducible refine bl_tr ?_ (by assumption) | with_reducible refine bl_set ?_ ?_ _ | with_reducible exact Nat.le_refl _ | omega | (simp only [World.size_alloc, World.size_setCell, World.size_drew] at *; omega) | (dsimp only; omega) | (simp; done) | (simp; omega))
theorem lessPt_eq (ax ay bx b_y : Int) : lessPt ax ay bx b_y = (decide (ay < b_y) || (ay == b_y && decide (ax < bx))) := by
  unfold lessPt cmpPt orI cmpI
  rw [Bool.eq_iff_iff]
  simp only [decide_eq_true_eq, Bool.or_eq_true, Bool.and_eq_true, beq_iff_eq]
  by_cases h1 : ay < b_y
  · rw [if_pos h1, if_pos (by decide)]; omega
  · rw [if_neg h1]
    by_cases h2 : b_y < ay
    · rw [if_pos h2, if_pos (by decide)]; omega
    · rw [if_neg h2, if_neg (by decide)]
      by_cases h3 : ax < bx
      · rw [if_pos h3]; omega
      · rw [if_neg h3]
        by_cases h4 : bx < ax
        · rw [if_pos h4]; omega
        · rw [if_neg h4]; omega
theorem sLessPoint_any (ax ay bx b_y : Int) (w : World) :
    Calls Tryz.prog 92 #[.agg #[.int .i64 ax, .int .i64 ay], .agg #[.int .i64 bx, .int .i64 b_y]] w fun e w' => e = .returned (.bool (lessPt ax ay bx b_y)) ∧ Below w.heap.size w w' := by
  cases h : decide (ay < b_y)
  · cases h2 : (ay == b_y)
    all_goals
      go_enter Tryz.func92, Tryz.ntmps92
      go_wp2
      go_ret
      refine ⟨ret_bool (by rw [lessPt_eq]; simp [h, h2]), ?_⟩
      repeat (first | with_reducible exact bl_refl _ | with_reducible assumption | with_reducible refine bl_al ?_ _ | with_reducible refine bl_dr ?_ | with_reducible refine bl_tr ?_ (by assumption) | with_reducible refine bl_set ?_ ?_ _ | with_reducible exact Nat.le_refl _ | omega | (simp only [World.size_alloc, World.size_setCell, World.size_drew] at *; omega) | (dsimp only; omega) | (simp; done) | (simp; omega))
  · go_enter Tryz.func92, Tryz.ntmps92
    go_wp2
    go_ret
    refine ⟨ret_bool (by rw [lessPt_eq]; simp [h]), ?_⟩
    repeat (first | with_reducible exact bl_refl _ | with_reducible assumption | with_reducible refine bl_al ?_ _ | with_reducible refine bl_dr ?_ | with_reducible refine bl_tr ?_ (by assumption) | with_reducible refine bl_set ?_ ?_ _ | with_reducible exact Nat.le_refl _ | omega | (simp only [World.size_alloc, World.size_setCell, World.size_drew] at *; omega) | (dsimp only; omega) | (simp; done) | (simp; omega))
/-- the next point -/
def stepX (x d : Int) : Int := if d = 1 then x + 1 else if d = 3 then x - 1 else x
def stepY (y d : Int) : Int := if d = 0 then y + 1 else if d = 2 then y - 1 else y
theorem l01Step_any (x y d : Int) (w : World) (hd : 0 ≤ d ∧ d ≤ 3) (hx : -1000 ≤ x ∧ x ≤ 1000) (hy : -1000 ≤ y ∧ y ≤ 1000) :
    Calls Tryz.prog 71 #[.agg #[.int .i64 x, .int .i64 y], .int .i64 d] w fun e w' => e = .returned (.agg #[.int .i64 (stepX x d), .int .i64 (stepY y d)]) ∧ Below w.heap.size w w' := by
  obtain ⟨h0, h1⟩ := hd
  obtain ⟨x0, x1⟩ := hx
  obtain ⟨y0, y1⟩ := hy
  have : d = 0 ∨ d = 1 ∨ d = 2 ∨ d = 3 := by omega
  rcases this with rfl | rfl | rfl | rfl
  · go_enter Tryz.func71, Tryz.ntmps71
    go_wp2
    refine bodyPost_ret (v := .agg #[.int .i64 (x), .int .i64 (y + 1)]) (by simp only [results, Tryz.results71]; go_simp) rfl ?_
    refine ⟨rfl, ?_⟩
    repeat (first | with_reducible exact bl_refl _ | with_reducible assumption | with_reducible refine bl_al ?_ _ | with_reducible refine bl_dr ?_ | with_reducible refine bl_tr ?_ (by assumption) | with_reducible refine bl_set ?_ ?_ _ | with_reducible exact Nat.le_refl _ | omega | (simp only [World.size_alloc, World.size_setCell, World.size_drew] at *; omega) | (dsimp only; omega) | (simp; done) | (simp; omega))
  · go_enter Tryz.func71, Tryz.ntmps71
    go_wp2
    refine bodyPost_ret (v := .agg #[.int .i64 (x + 1), .int .i64 (y)]) (by simp only [results, Tryz.results71]; go_simp) rfl ?_
    refine ⟨rfl, ?_⟩
    repeat (first | with_reducible exact bl_refl _ | with_reducible assumption | with_reducible refine bl_al ?_ _ | with_reducible refine bl_dr ?_ | with_reducible refine bl_tr ?_ (by assumption) | with_reducible refine bl_set ?_ ?_ _ | with_reducible exact Nat.le_refl _ | omega | (simp only [World.size_alloc, World.size_setCell, World.size_drew] at *; omega) | (dsimp only; omega) | (simp; done) | (simp; omega))
  · go_enter Tryz.func71, Tryz.ntmps71
    go_wp2
    refine bodyPost_ret (v := .agg #[.int .i64 (x), .int .i64 (y - 1)]) (by simp only [results, Tryz.results71]; go_simp) rfl ?_
    refine ⟨rfl, ?_⟩
    repeat (first | with_reducible exact bl_refl _ | with_reducible assumption | with_reducible refine bl_al ?_ _ | with_reducible refine bl_dr ?_ | with_reducible refine bl_tr ?_ (by assumption) | with_reducible refine bl_set ?_ ?_ _ | with_reducible exact Nat.le_refl _ | omega | (simp only [World.size_alloc, World.size_setCell, World.size_drew] at *; omega) | (dsimp only; omega) | (simp; done) | (simp; omega))
  · go_enter Tryz.func71, Tryz.ntmps71
    go_wp2
    refine bodyPost_ret (v := .agg #[.int .i64 (x - 1), .int .i64 (y)]) (by simp only [results, Tryz.results71]; go_simp) rfl ?_
    refine ⟨rfl, ?_⟩
    repeat (first | with_reducible exact bl_refl _ | with_reducible assumption | with_reducible refine bl_al ?_ _ | with_reducible refine bl_dr ?_ | with_reducible refine bl_tr ?_ (by assumption) | with_reducible refine bl_set ?_ ?_ _ | with_reducible exact Nat.le_refl _ | omega | (simp only [World.size_alloc, World.size_setCell, World.size_drew] at *; omega) | (dsimp only; omega) | (simp; done) | (simp; omega))
end Go.Proofs.YtfabgnnpgepcoaaGreat
/- Walks: the reference's functions on sets. -/


namespace Go.Proofs.YtfabgnnpgepcoaaGreat
open Go.RowKit
set_option linter.unusedSimpArgs false
set_option linter.unusedVariables false
attribute [local go_sem] BelowBy.cell BelowBy.cell_drew stillUpon givesUpon
/-- A tile set lies in block p. -/
structure SetAt (w : World) (p : Nat) (gs : List Gl) (ts : List Ti) : Prop where
  lt : p < w.heap.size
  gl : ∃ A n c, w.cell? ⟨p, 0, none⟩ = some (.slice A n c) ∧ RdSl 2 RGl w A n gs
  ti : ∃ A n c, w.cell? ⟨p, 1, none⟩ = some (.slice A n c) ∧ RdSl 2 RTi w A n ts
theorem SetAt.below {w w' : World} {p : Nat} {gs : List Gl} {ts : List Ti} (h : SetAt w p gs ts) (hb : Below w.heap.size w w') : SetAt w' p gs ts := by
  obtain ⟨A, n, c, h1, h2⟩ := h.gl
  obtain ⟨B, m, d, h3, h4⟩ := h.ti
  exact ⟨Nat.lt_of_lt_of_le h.lt hb.size, ⟨A, n, c, (hb.cell (p := ⟨p, 0, none⟩) h.lt).trans h1, h2.below RGl.stable hb⟩, ⟨B, m, d, (hb.cell (p := ⟨p, 1, none⟩) h.lt).trans h3, h4.below RTi.stable hb⟩⟩
/-- no earlier glue has the name of glue j -/
def freshG (gs : List Gl) (j : Nat) : Bool := match gs[j]? with
  | none => true
  | some g => allB j (fun i => match gs[i]? with | none => true | some e => decide (e.name ≠ g.name))
def freshT (ts : List Ti) (j : Nat) : Bool := match ts[j]? with
  | none => true
  | some g => allB j (fun i => match ts[i]? with | none => true | some e => decide (e.name ≠ g.name))
theorem freshG_true {gs : List Gl} {j : Nat} {g : Gl} (hj : gs[j]? = some g) (h : ∀ i, i < j → ∀ e, gs[i]? = some e → e.name ≠ g.name) : freshG gs j = true := by
  unfold freshG; rw [hj]
  exact allB_true fun i hi => by
    cases he : gs[i]? with
    | none => simp [he]
    | some e => simpa [he] using h i hi e he
theorem freshG_false {gs : List Gl} {i j : Nat} {g e : Gl} (hj : gs[j]? = some g) (hi : i < j) (he : gs[i]? = some e) (h : e.name = g.name) : freshG gs j = false := by
  unfold freshG; rw [hj]
  exact allB_false hi (by simp [he, h])
theorem freshT_true {ts : List Ti} {j : Nat} {g : Ti} (hj : ts[j]? = some g) (h : ∀ i, i < j → ∀ e, ts[i]? = some e → e.name ≠ g.name) : freshT ts j = true := by
  unfold freshT; rw [hj]
  exact allB_true fun i hi => by
    cases he : ts[i]? with
    | none => simp [he]
    | some e => simpa [he] using h i hi e he
theorem freshT_false {ts : List Ti} {i j : Nat} {g e : Ti} (hj : ts[j]? = some g) (hi : i < j) (he : ts[i]? = some e) (h : e.name = g.name) : freshT ts j = false := by
  unfold freshT; rw [hj]
  exact allB_false hi (by simp [he, h])
theorem l02Index_any (p : Nat) (gs : List Gl) (ts : List Ti) (t : Int) (w : World) (h : SetAt w p gs ts) (hm : ts.length ≤ 9223372036854775807) :
    Calls Tryz.prog 91 #[.pointer (some ⟨p, 0, none⟩), .int .i64 t] w fun e w' => e = .returned (.bool (inB t 0 (ts.length - 1))) ∧ w = w' := by
  obtain ⟨hlt, ⟨A, n, c, h1, h2⟩, ⟨B, m, d, h3, h4⟩⟩ := h
  have hl := h4.len
  subst hl
  go_enter Tryz.func91, Tryz.ntmps91
  go_wp2_with (go_at_call 46; refine (l00In_any _ _ _ _).mono ?_; rintro e _ ⟨rfl, rfl⟩)
  go_ret
  exact ⟨rfl, rfl⟩
theorem l02Glue_any (p : Nat) (gs : List Gl) (ts : List Ti) (i : Nat) (g : Gl) (w : World) (h : SetAt w p gs ts) (hm : gs.length ≤ 281474976710656) (hi : gs[i]? = some g) :
    Calls Tryz.prog 88 #[.pointer (some ⟨p, 0, none⟩), .string g.name] w fun e w' => (∃ r : Int, e = .returned (.int .i64 r) ∧ (r == (i : Int) + 1) = freshG gs i) ∧ w = w' := by
  obtain ⟨hlt, ⟨A, n, c, h1, h2⟩, ⟨B, m, d, h3, h4⟩⟩ := h
  have hl := h2.len
  have hil : i < n := by
    obtain ⟨h, _⟩ := List.getElem?_eq_some_iff.1 hi
    omega
  obtain ⟨b, o, rfl, hbl, hc⟩ := h2.ptr (by omega)
  have hc := Lib.hid hc
  have hi := Lib.hid hi
  clear h3 h4 h2
  go_enter Tryz.func88, Tryz.ntmps88
  go_wp2
  go_loopg [5] n (fun r x wr => ∃ k : Nat, k + r = n ∧ x = .int .i64 k ∧ k ≤ i ∧ (∀ j, j < k → ∀ e, gs[j]? = some e → e.name ≠ g.name) ∧ w = wr)
  case atStart => exact ⟨0, by omega, rfl, by omega, fun j hj => by omega, rfl⟩
  case round =>
    obtain ⟨k, hk, rfl, hki, hok, rfl⟩ := hrel
    have hok := Lib.hid hok
    obtain ⟨e, he⟩ : ∃ e, gs[k]? = some e := ⟨_, List.getElem?_eq_getElem (by omega)⟩
    obtain ⟨c0, c1⟩ := hc.out k e he
    have he := Lib.hid he
    have hkn : k < n := by omega
    by_cases hn : e.name = g.name
    · have hn' : decide (e.name = g.name) = true := decide_eq_true hn
      have hn'' : (e.name.toList == g.name.toList) = true := (Lib.bytes_beq_iff _ _).2 hn
      have hn := Lib.hid hn
      go_wp2
      go_ret
      refine ⟨⟨_, rfl, ?_⟩, rfl⟩
      by_cases hkk : k = i
      · subst hkk
        rw [freshG_true hi.out hok.out]; simp
      · rw [freshG_false hi.out (by omega) he.out hn.out, beq_eq_false_iff_ne]; omega
    · have hn' : decide (e.name = g.name) = false := decide_eq_false hn
      have hn'' : (e.name.toList == g.name.toList) = false := (Lib.bytes_beq_false_iff _ _).2 hn
      have hn := Lib.hid hn
      go_wp2
      go_roundg (n - (k + 1))
      case measure => omega
      case rel => exact ⟨k + 1, by omega, by go_num, (by
          rcases Nat.lt_or_ge k i with h | h
          · omega
          · obtain rfl : k = i := by omega
            exact absurd (by rw [Option.some.inj (he.out.symm.trans hi.out)]) hn.out), fun j hj => (by
          rcases Nat.lt_succ_iff_lt_or_eq.1 hj with hj | rfl
          · exact hok.out j hj
          · intro e' he'
            rw [← Option.some.inj (he.out.symm.trans he')]
            exact hn.out), rfl⟩
theorem l02Tile_any (p : Nat) (gs : List Gl) (ts : List Ti) (i : Nat) (g : Ti) (w : World) (h : SetAt w p gs ts) (hm : ts.length ≤ 281474976710656) (hi : ts[i]? = some g) :
    Calls Tryz.prog 89 #[.pointer (some ⟨p, 0, none⟩), .string g.name] w fun e w' => (∃ r : Int, e = .returned (.int .i64 r) ∧ (r == (i : Int)) = freshT ts i) ∧ w = w' := by
  obtain ⟨hlt, ⟨A, n, c, h1, h2⟩, ⟨B, m, d, h3, h4⟩⟩ := h
  have hl := h4.len
  have hil : i < m := by
    obtain ⟨h, _⟩ := List.getElem?_eq_some_iff.1 hi
    omega
  obtain ⟨b, o, rfl, hbl, hc⟩ := h4.ptr (by omega)
  have hc := Lib.hid hc
  have hi := Lib.hid hi
  clear h1 h2 h4
  go_enter Tryz.func89, Tryz.ntmps89
  go_wp2
  go_loopg [5] m (fun r x wr => ∃ k : Nat, k + r = m ∧ x = .int .i64 k ∧ k ≤ i ∧ (∀ j, j < k → ∀ e, ts[j]? = some e → e.name ≠ g.name) ∧ w = wr)
  case atStart => exact ⟨0, by omega, rfl, by omega, fun j hj => by omega, rfl⟩
  case round =>
    obtain ⟨k, hk, rfl, hki, hok, rfl⟩ := hrel
    have hok := Lib.hid hok
    obtain ⟨e, he⟩ : ∃ e, ts[k]? = some e := ⟨_, List.getElem?_eq_getElem (by omega)⟩
    obtain ⟨c0, -⟩ := hc.out k e he
    have he := Lib.hid he
    have hkn : k < m := by omega
    by_cases hn : e.name = g.name
    · have hn' : decide (e.name = g.name) = true := decide_eq_true hn
      have hn'' : (e.name.toList == g.name.toList) = true := (Lib.bytes_beq_iff _ _).2 hn
      have hn := Lib.hid hn
      go_wp2
      go_ret
      refine ⟨⟨_, rfl, ?_⟩, rfl⟩
      by_cases hkk : k = i
      · subst hkk
        rw [freshT_true hi.out hok.out]; simp
      · rw [freshT_false hi.out (by omega) he.out hn.out, beq_eq_false_iff_ne]; omega
    · have hn' : decide (e.name = g.name) = false := decide_eq_false hn
      have hn'' : (e.name.toList == g.name.toList) = false := (Lib.bytes_beq_false_iff _ _).2 hn
      have hn := Lib.hid hn
      go_wp2
      go_roundg (m - (k + 1))
      case measure => omega
      case rel => exact ⟨k + 1, by omega, by go_num, (by
          rcases Nat.lt_or_ge k i with h | h
          · omega
          · obtain rfl : k = i := by omega
            exact absurd (by rw [Option.some.inj (he.out.symm.trans hi.out)]) hn.out), fun j hj => (by
          rcases Nat.lt_succ_iff_lt_or_eq.1 hj with hj | rfl
          · exact hok.out j hj
          · intro e' he'
            rw [← Option.some.inj (he.out.symm.trans he')]
            exact hn.out), rfl⟩
def okGl (gs : List Gl) (j : Nat) : Bool := match gs[j]? with
  | none => true
  | some g => isNameB g.name && (inB g.s 1 4 && freshG gs j)
def okSide (n : Nat) (xs : List Int) (j : Nat) : Bool := match xs[j]? with
  | none => true
  | some x => inB x 0 n
def okTi (n : Nat) (ts : List Ti) (j : Nat) : Bool := match ts[j]? with
  | none => true
  | some t => isNameB t.name && (decide (t.sides.length = 4) && (freshT ts j && allB t.sides.length (okSide n t.sides)))
def validSetB (gs : List Gl) (ts : List Ti) : Bool := (decide (gs.length ≤ 200) && (decide (1 ≤ ts.length) && decide (ts.length ≤ 160))) && (allB gs.length (okGl gs) && allB ts.length (okTi gs.length ts))
end Go.Proofs.YtfabgnnpgepcoaaGreat
/- Walks: the reference's check of a set. -/

namespace Go.Proofs.YtfabgnnpgepcoaaGreat
open Go.RowKit
set_option linter.unusedSimpArgs false
set_option linter.unusedVariables false
attribute [local go_sem] BelowBy.cell BelowBy.cell_drew stillUpon givesUpon
theorem neq_t {r a : Int} {b : Bool} (h : (r == a) = b) (hb : b = true) : (r != a) = false := by subst hb; simpa using h
theorem neq_f {r a : Int} {b : Bool} (h : (r == a) = b) (hb : b = false) : (r != a) = true := by subst hb; simpa using h
theorem okGl_eq {gs : List Gl} {j : Nat} {g : Gl} (h : gs[j]? = some g) : okGl gs j = (isNameB g.name && (inB g.s 1 4 && freshG gs j)) := by unfold okGl; rw [h]
theorem okTi_eq {n : Nat} {ts : List Ti} {j : Nat} {t : Ti} (h : ts[j]? = some t) : okTi n ts j = (isNameB t.name && (decide (t.sides.length = 4) && (freshT ts j && allB t.sides.length (okSide n t.sides)))) := by unfold okTi; rw [h]
theorem validSetB_gl {gs : List Gl} {ts : List Ti} {k : Nat} (hk : k < gs.length) (h : okGl gs k = false) : validSetB gs ts = false := by
  unfold validSetB; rw [allB_false hk h]; simp
theorem validSetB_ti {gs : List Gl} {ts : List Ti} {k : Nat} (hk : k < ts.length) (h : okTi gs.length ts k = false) : validSetB gs ts = false := by
  unfold validSetB; rw [allB_false hk h]; simp
theorem validSetB_ok {gs : List Gl} {ts : List Ti} (h1 : gs.length ≤ 200) (h2 : 1 ≤ ts.length) (h3 : ts.length ≤ 160) (hg : ∀ j, j < gs.length → okGl gs j = true) (ht : ∀ j, j < ts.length → okTi gs.length ts j = true) : validSetB gs ts = true := by
  unfold validSetB; rw [allB_true hg, allB_true ht]; simp [h1, h2, h3]
theorem validSetB_size {gs : List Gl} {ts : List Ti} (h : ¬ (gs.length ≤ 200 ∧ 1 ≤ ts.length ∧ ts.length ≤ 160)) : validSetB gs ts = false := by
  unfold validSetB
  have : (decide (gs.length ≤ 200) && (decide (1 ≤ ts.length) && decide (ts.length ≤ 160))) = false := by
    rw [Bool.eq_false_iff]; intro hh; apply h; simpa using hh
  rw [this]; rfl
set_option maxHeartbeats 4000000 in
theorem l02Ok_any (p : Nat) (gs : List Gl) (ts : List Ti) (w : World) (h : SetAt w p gs ts) (hgm : gs.length ≤ 281474976710656) (htm : ts.length ≤ 281474976710656)
    (hgn : ∀ (k : Nat) (e : Gl), gs[k]? = some e → e.name.size ≤ 9223372036854775807) (htn : ∀ (k : Nat) (e : Ti), ts[k]? = some e → e.name.size ≤ 9223372036854775807 ∧ e.sides.length ≤ 9223372036854775807) :
    Calls Tryz.prog 66 #[.pointer (some ⟨p, 0, none⟩)] w fun e w' => e = .returned (.bool (validSetB gs ts)) ∧ Below w.heap.size w w' := by
  obtain ⟨hlt, ⟨A, n, c, h1, h2⟩, ⟨B, m, d, h3, h4⟩⟩ := id h
  have hlg := h2.len
  have hlt' := h4.len
  have hgn := Lib.hid hgn
  have htn := Lib.hid htn
  by_cases hz1 : n ≤ 200
  rotate_left
  · go_enter Tryz.func66, Tryz.ntmps66
    go_wp2
    go_ret
    exact ⟨ret_bool (validSetB_size (by omega)).symm, by repeat (first | with_reducible exact bl_refl _ | with_reducible assumption | with_reducible refine bl_al ?_ _ | with_reducible refine bl_dr ?_ | with_reducible refine bl_tr ?_ (by assumption) | with_reducible refine bl_set ?_ ?_ _ | with_reducible exact Nat.le_refl _ | omega | (simp only [World.size_alloc, World.size_setCell, World.size_drew] at *; omega) | (dsimp only; omega) | (simp; done) | (simp; omega))⟩
  by_cases hz2 : 1 ≤ m
  rotate_left
  · go_enter Tryz.func66, Tryz.ntmps66
    go_wp2
    go_ret
    exact ⟨ret_bool (validSetB_size (by omega)).symm, by repeat (first | with_reducible exact bl_refl _ | with_reducible assumption | with_reducible refine bl_al ?_ _ | with_reducible refine bl_dr ?_ | with_reducible refine bl_tr ?_ (by assumption) | with_reducible refine bl_set ?_ ?_ _ | with_reducible exact Nat.le_refl _ | omega | (simp only [World.size_alloc, World.size_setCell, World.size_drew] at *; omega) | (dsimp only; omega) | (simp; done) | (simp; omega))⟩
  by_cases hz3 : m ≤ 160
  rotate_left
  · go_enter Tryz.func66, Tryz.ntmps66
    go_wp2
    go_ret
    exact ⟨ret_bool (validSetB_size (by omega)).symm, by repeat (first | with_reducible exact bl_refl _ | with_reducible assumption | with_reducible refine bl_al ?_ _ | with_reducible refine bl_dr ?_ | with_reducible refine bl_tr ?_ (by assumption) | with_reducible refine bl_set ?_ ?_ _ | with_reducible exact Nat.le_refl _ | omega | (simp only [World.size_alloc, World.size_setCell, World.size_drew] at *; omega) | (dsimp only; omega) | (simp; done) | (simp; omega))⟩
  go_enter Tryz.func66, Tryz.ntmps66
  go_wp2
  go_loopg [3] n (fun r x wr => ∃ k : Nat, k + r = n ∧ x = .int .i64 k ∧ (∀ j, j < k → okGl gs j = true) ∧ Below w.heap.size w wr)
  case atStart => exact ⟨0, by omega, rfl, fun j hj => by omega, by repeat (first | with_reducible exact bl_refl _ | with_reducible assumption | with_reducible refine bl_al ?_ _ | with_reducible refine bl_dr ?_ | with_reducible refine bl_tr ?_ (by assumption) | with_reducible refine bl_set ?_ ?_ _ | with_reducible exact Nat.le_refl _ | omega | (simp only [World.size_alloc, World.size_setCell, World.size_drew] at *; omega) | (dsimp only; omega) | (simp; done) | (simp; omega))⟩
  case round =>
    obtain ⟨k, hk, rfl, hok, hbw⟩ := hrel
    have hset := h.below hbw
    obtain ⟨plt, ⟨A', n', c', g1, g2⟩, ⟨B', m', d', g3, g4⟩⟩ := id hset
    have hset := Lib.hid hset
    obtain rfl : n' = n := by rw [← g2.len]; exact hlg
    obtain rfl : m' = m := by rw [← g4.len]; exact hlt'
    have hok := Lib.hid hok
    clear h1 h2 h3 h4
    by_cases hkn : k < n'
    · obtain ⟨b, o, rfl, hb, hc⟩ := g2.ptr (by omega)
      obtain ⟨e, he⟩ := g2.get hkn
      obtain ⟨c0, c1⟩ := hc k e he
      have hsz := hgn.out k e he
      have HK := Lib.hid (okGl_eq he)
      have he := Lib.hid he
      clear g2 g4 hc
      cases hv1 : isNameB e.name
      · go_wp2_with (go_at_call 87; refine (sIsName_any _ _ hsz).mono ?_; rintro e _ ⟨rfl, rfl⟩)
        go_ret
        exact ⟨ret_bool (validSetB_gl (k := k) (by omega) (by rw [HK.out, hv1]; rfl)).symm, by repeat (first | with_reducible exact bl_refl _ | with_reducible assumption | with_reducible refine bl_al ?_ _ | with_reducible refine bl_dr ?_ | with_reducible refine bl_tr ?_ (by assumption) | with_reducible refine bl_set ?_ ?_ _ | with_reducible exact Nat.le_refl _ | omega | (simp only [World.size_alloc, World.size_setCell, World.size_drew] at *; omega) | (dsimp only; omega) | (simp; done) | (simp; omega))⟩
      · cases hv2 : inB e.s 1 4
        · go_wp2_with (first
            | (go_at_call 87; refine (sIsName_any _ _ hsz).mono ?_; rintro e _ ⟨rfl, rfl⟩)
            | (go_at_call 46; refine (l00In_any _ _ _ _).mono ?_; rintro e _ ⟨rfl, rfl⟩))
          go_ret
          exact ⟨ret_bool (validSetB_gl (k := k) (by omega) (by rw [HK.out, hv1, hv2]; rfl)).symm, by repeat (first | with_reducible exact bl_refl _ | with_reducible assumption | with_reducible refine bl_al ?_ _ | with_reducible refine bl_dr ?_ | with_reducible refine bl_tr ?_ (by assumption) | with_reducible refine bl_set ?_ ?_ _ | with_reducible exact Nat.le_refl _ | omega | (simp only [World.size_alloc, World.size_setCell, World.size_drew] at *; omega) | (dsimp only; omega) | (simp; done) | (simp; omega))⟩
        · cases hv3 : freshG gs k
          · go_wp2_with (first
              | (go_at_call 87; refine (sIsName_any _ _ hsz).mono ?_; rintro e _ ⟨rfl, rfl⟩)
              | (go_at_call 46; refine (l00In_any _ _ _ _).mono ?_; rintro e _ ⟨rfl, rfl⟩)
              | (go_at_call 88; refine (l02Glue_any _ gs ts k e _ (hset.out.below (by repeat (first | with_reducible exact bl_refl _ | with_reducible assumption | with_reducible refine bl_al ?_ _ | with_reducible refine bl_dr ?_ | with_reducible refine bl_tr ?_ (by assumption) | with_reducible refine bl_set ?_ ?_ _ | with_reducible exact Nat.le_refl _ | omega | (simp only [World.size_alloc, World.size_setCell, World.size_drew] at *; omega) | (dsimp only; omega) | (simp; done) | (simp; omega)))) hgm he.out).mono ?_; rintro _ _ ⟨⟨r, rfl, hr⟩, rfl⟩; replace hr := neq_f hr hv3))
            go_ret
            exact ⟨ret_bool (validSetB_gl (k := k) (by omega) (by rw [HK.out, hv1, hv2, hv3]; rfl)).symm, by repeat (first | with_reducible exact bl_refl _ | with_reducible assumption | with_reducible refine bl_al ?_ _ | with_reducible refine bl_dr ?_ | with_reducible refine bl_tr ?_ (by assumption) | with_reducible refine bl_set ?_ ?_ _ | with_reducible exact Nat.le_refl _ | omega | (simp only [World.size_alloc, World.size_setCell, World.size_drew] at *; omega) | (dsimp only; omega) | (simp; done) | (simp; omega))⟩
          · go_wp2_with (first
              | (go_at_call 87; refine (sIsName_any _ _ hsz).mono ?_; rintro e _ ⟨rfl, rfl⟩)
              | (go_at_call 46; refine (l00In_any _ _ _ _).mono ?_; rintro e _ ⟨rfl, rfl⟩)
              | (go_at_call 88; refine (l02Glue_any _ gs ts k e _ (hset.out.below (by repeat (first | with_reducible exact bl_refl _ | with_reducible assumption | with_reducible refine bl_al ?_ _ | with_reducible refine bl_dr ?_ | with_reducible refine bl_tr ?_ (by assumption) | with_reducible refine bl_set ?_ ?_ _ | with_reducible exact Nat.le_refl _ | omega | (simp only [World.size_alloc, World.size_setCell, World.size_drew] at *; omega) | (dsimp only; omega) | (simp; done) | (simp; omega)))) hgm he.out).mono ?_; rintro _ _ ⟨⟨r, rfl, hr⟩, rfl⟩; replace hr := neq_t hr hv3))
            go_roundg (n' - (k + 1))
            case measure => omega
            case rel => exact ⟨k + 1, by omega, by go_num, fun j hj => (by rcases Nat.lt_succ_iff_lt_or_eq.1 hj with hj | rfl; exact hok.out j hj; rw [HK.out, hv1, hv2, hv3]; rfl), by repeat (first | with_reducible exact bl_refl _ | with_reducible assumption | with_reducible refine bl_al ?_ _ | with_reducible refine bl_dr ?_ | with_reducible refine bl_tr ?_ (by assumption) | with_reducible refine bl_set ?_ ?_ _ | with_reducible exact Nat.le_refl _ | omega | (simp only [World.size_alloc, World.size_setCell, World.size_drew] at *; omega) | (dsimp only; omega) | (simp; done) | (simp; omega))⟩
    · obtain rfl : n' = k := by omega
      clear g2 g4
      have hokG := Lib.hid (fun (j : Nat) (hj : j < gs.length) => hok.out j (by omega))
      clear hok
      go_wp2
      go_loopg [5] m' (fun r x w2 => ∃ k : Nat, k + r = m' ∧ x = .int .i64 k ∧ (∀ j, j < k → okTi gs.length ts j = true) ∧ Below w.heap.size w w2)
      case atStart => exact ⟨0, by omega, rfl, fun j hj => by omega, by repeat (first | with_reducible exact bl_refl _ | with_reducible assumption | with_reducible refine bl_al ?_ _ | with_reducible refine bl_dr ?_ | with_reducible refine bl_tr ?_ (by assumption) | with_reducible refine bl_set ?_ ?_ _ | with_reducible exact Nat.le_refl _ | omega | (simp only [World.size_alloc, World.size_setCell, World.size_drew] at *; omega) | (dsimp only; omega) | (simp; done) | (simp; omega))⟩
      case round =>
        obtain ⟨k, hk, rfl, hokX, hbw2⟩ := hrel
        obtain ⟨w2, hw2⟩ : ∃ w2, w2 = wr := ⟨_, rfl⟩
        subst hw2
        have hset := h.below hbw2
        clear plt g1 g3
        obtain ⟨plt, ⟨A', n2, c', g1, g2⟩, ⟨B', m2, d', g3, g4⟩⟩ := id hset
        have hset := Lib.hid hset
        obtain rfl : n2 = n' := by rw [← g2.len]; exact hlg
        obtain rfl : m2 = m' := by rw [← g4.len]; exact hlt'
        have hokT := Lib.hid hokX
        clear hokX
        by_cases hkn : k < m2
        · obtain ⟨b, o, rfl, hb, hc⟩ := g4.ptr (by omega)
          obtain ⟨e, he⟩ := g4.get hkn
          obtain ⟨c0, SA, sn, sc, c1, hss⟩ := hc k e he
          obtain ⟨hsz, hsz2⟩ := htn.out k e he
          have hsl := hss.len
          have HK := Lib.hid (okTi_eq (n := gs.length) he)
          have he := Lib.hid he
          clear g2 g4 hc
          cases hv1 : isNameB e.name
          · go_wp2_with (go_at_call 87; refine (sIsName_any _ _ hsz).mono ?_; rintro e _ ⟨rfl, rfl⟩)
            go_ret
            exact ⟨ret_bool (validSetB_ti (k := k) (by omega) (by rw [HK.out, hv1]; rfl)).symm, by repeat (first | with_reducible exact bl_refl _ | with_reducible assumption | with_reducible refine bl_al ?_ _ | with_reducible refine bl_dr ?_ | with_reducible refine bl_tr ?_ (by assumption) | with_reducible refine bl_set ?_ ?_ _ | with_reducible exact Nat.le_refl _ | omega | (simp only [World.size_alloc, World.size_setCell, World.size_drew] at *; omega) | (dsimp only; omega) | (simp; done) | (simp; omega))⟩
          · by_cases h4 : sn = 4
            · have hsl4 : decide (e.sides.length = 4) = true := decide_eq_true (by omega)
              subst h4
              cases hv3 : freshT ts k
              · go_wp2_with (first
                  | (go_at_call 87; refine (sIsName_any _ _ hsz).mono ?_; rintro e _ ⟨rfl, rfl⟩)
                  | (go_at_call 89; refine (l02Tile_any _ gs ts k e _ (hset.out.below (by repeat (first | with_reducible exact bl_refl _ | with_reducible assumption | with_reducible refine bl_al ?_ _ | with_reducible refine bl_dr ?_ | with_reducible refine bl_tr ?_ (by assumption) | with_reducible refine bl_set ?_ ?_ _ | with_reducible exact Nat.le_refl _ | omega | (simp only [World.size_alloc, World.size_setCell, World.size_drew] at *; omega) | (dsimp only; omega) | (simp; done) | (simp; omega)))) htm he.out).mono ?_; rintro _ _ ⟨⟨r, rfl, hr⟩, rfl⟩; replace hr := neq_f hr hv3))
                go_ret
                exact ⟨ret_bool (validSetB_ti (k := k) (by omega) (by rw [HK.out, hv1, hsl4, hv3]; rfl)).symm, by repeat (first | with_reducible exact bl_refl _ | with_reducible assumption | with_reducible refine bl_al ?_ _ | with_reducible refine bl_dr ?_ | with_reducible refine bl_tr ?_ (by assumption) | with_reducible refine bl_set ?_ ?_ _ | with_reducible exact Nat.le_refl _ | omega | (simp only [World.size_alloc, World.size_setCell, World.size_drew] at *; omega) | (dsimp only; omega) | (simp; done) | (simp; omega))⟩
              · go_wp2_with (first
                  | (go_at_call 87; refine (sIsName_any _ _ hsz).mono ?_; rintro e _ ⟨rfl, rfl⟩)
                  | (go_at_call 89; refine (l02Tile_any _ gs ts k e _ (hset.out.below (by repeat (first | with_reducible exact bl_refl _ | with_reducible assumption | with_reducible refine bl_al ?_ _ | with_reducible refine bl_dr ?_ | with_reducible refine bl_tr ?_ (by assumption) | with_reducible refine bl_set ?_ ?_ _ | with_reducible exact Nat.le_refl _ | omega | (simp only [World.size_alloc, World.size_setCell, World.size_drew] at *; omega) | (dsimp only; omega) | (simp; done) | (simp; omega)))) htm he.out).mono ?_; rintro _ _ ⟨⟨r, rfl, hr⟩, rfl⟩; replace hr := neq_t hr hv3))
                go_loopg [7] 4 (fun r x w3 => ∃ q : Nat, q + r = 4 ∧ x = .int .i64 q ∧ (∀ j, j < q → okSide gs.length e.sides j = true) ∧ Below w2.heap.size w2 w3 ∧ w3.cell? ⟨w2.heap.size, 1, none⟩ = some (.slice SA 4 sc) ∧ w2.heap.size < w3.heap.size)
                case atStart => exact ⟨0, by omega, rfl, fun j hj => by omega, by repeat (first | with_reducible exact bl_refl _ | with_reducible assumption | with_reducible refine bl_al ?_ _ | with_reducible refine bl_dr ?_ | with_reducible refine bl_tr ?_ (by assumption) | with_reducible refine bl_set ?_ ?_ _ | with_reducible exact Nat.le_refl _ | omega | (simp only [World.size_alloc, World.size_setCell, World.size_drew] at *; omega) | (dsimp only; omega) | (simp; done) | (simp; omega)), by go_simp, by simp⟩
                case round =>
                  obtain ⟨q, hq, rfl, hokS, hbw3, hx1, hlt3⟩ := hrel
                  have hset3 := hset.out.below hbw3
                  obtain ⟨plt3, ⟨A3, n3, c3, g1', g2'⟩, -⟩ := id hset3
                  obtain rfl : n3 = n2 := by rw [← g2'.len]; exact hlg
                  have hss3 := hss.below RInt.stable hbw3
                  have hokS := Lib.hid hokS
                  by_cases hq4 : q < 4
                  · obtain ⟨b3, o3, rfl, hb3, hc3⟩ := hss3.ptr (by omega)
                    obtain ⟨v, hv⟩ := hss3.get hq4
                    have c3 := hc3 q v hv
                    simp only [RInt, Nat.mul_one] at c3
                    have HS : okSide gs.length e.sides q = inB v 0 gs.length := by unfold okSide; rw [hv]
                    have hlgi : (gs.length : Int) = n3 := by omega
                    rw [hlgi] at HS
                    have HS := Lib.hid HS
                    have hlgi := Lib.hid hlgi
                    clear hc3 hv hss3 g2'
                    cases hv4 : inB v 0 n3
                    · go_wp2
                      refine wp_region_ord [(0, .q), (1, .q), (2, .q), (3, .q), (4, .q), (5, .q), (6, .q), (7, .q), (8, .q), (9, .q), (10, .g), (11, .q)] (by kernel_rfl) (by kernel_rfl) ?_
                      simp only [pick, List.filterMap_cons, List.filterMap_nil, List.getElem?_toArray, List.getElem?_cons_zero, List.getElem?_cons_succ, Option.map_some]
                      repeat (first
                        | ((with_reducible refine wpD_p (fun K hK => ?_)); go_simp; refine hK _ ?_; clear hK K)
                        | ((with_reducible refine wpD_q (fun K hK => ?_)); go_simp; (first | refine hK _ ?_ | (go_bits; refine hK _ ?_) | (go_bits; go_simp; refine hK _ ?_)); clear hK K)
                        | ((with_reducible refine wpD_g (fun K hK => ?_)); go_simp; refine hK _ _ ?_; clear hK K)
                        | ((with_reducible refine wpD_g (fun K hK => ?_)); go_simp; refine ⟨Grew.of_alloc _, hK _ _ ?_⟩; clear hK K)
                        | ((with_reducible refine wpD_g (fun K hK => ?_)); go_simp; go_at_call 46; refine (l00In_any _ _ _ _).mono ?_; rintro e _ ⟨rfl, rfl⟩; refine ⟨_, rfl, Below.refl _ _, hK _ _ ?_⟩; clear hK K))
                      with_reducible refine wpD_nil ?_
                      go_wp2
                      go_ret
                      exact ⟨ret_bool (validSetB_ti (k := k) (by omega) (by rw [HK.out, hv1, hsl4, hv3, allB_false (k := q) (by omega) (by rw [HS.out, hv4])]; rfl)).symm, by repeat (first | with_reducible exact bl_refl _ | with_reducible assumption | with_reducible refine bl_al ?_ _ | with_reducible refine bl_dr ?_ | with_reducible refine bl_tr ?_ (by assumption) | with_reducible refine bl_set ?_ ?_ _ | with_reducible exact Nat.le_refl _ | omega | (simp only [World.size_alloc, World.size_setCell, World.size_drew] at *; omega) | (dsimp only; omega) | (simp; done) | (simp; omega))⟩
                    · go_wp2
                      refine wp_region_ord [(0, .q), (1, .q), (2, .q), (3, .q), (4, .q), (5, .q), (6, .q), (7, .q), (8, .q), (9, .q), (10, .g), (11, .q)] (by kernel_rfl) (by kernel_rfl) ?_
                      simp only [pick, List.filterMap_cons, List.filterMap_nil, List.getElem?_toArray, List.getElem?_cons_zero, List.getElem?_cons_succ, Option.map_some]
                      repeat (first
                        | ((with_reducible refine wpD_p (fun K hK => ?_)); go_simp; refine hK _ ?_; clear hK K)
                        | ((with_reducible refine wpD_q (fun K hK => ?_)); go_simp; (first | refine hK _ ?_ | (go_bits; refine hK _ ?_) | (go_bits; go_simp; refine hK _ ?_)); clear hK K)
                        | ((with_reducible refine wpD_g (fun K hK => ?_)); go_simp; refine hK _ _ ?_; clear hK K)
                        | ((with_reducible refine wpD_g (fun K hK => ?_)); go_simp; refine ⟨Grew.of_alloc _, hK _ _ ?_⟩; clear hK K)
                        | ((with_reducible refine wpD_g (fun K hK => ?_)); go_simp; go_at_call 46; refine (l00In_any _ _ _ _).mono ?_; rintro e _ ⟨rfl, rfl⟩; refine ⟨_, rfl, Below.refl _ _, hK _ _ ?_⟩; clear hK K))
                      with_reducible refine wpD_nil ?_
                      go_wp2
                      go_roundg (4 - (q + 1))
                      case measure => omega
                      case rel => exact ⟨q + 1, by omega, by go_num, fun j hj => (by rcases Nat.lt_succ_iff_lt_or_eq.1 hj with hj | rfl; exact hokS.out j hj; rw [HS.out, hv4]), by repeat (first | with_reducible exact bl_refl _ | with_reducible assumption | with_reducible refine bl_al ?_ _ | with_reducible refine bl_dr ?_ | with_reducible refine bl_tr ?_ (by assumption) | with_reducible refine bl_set ?_ ?_ _ | with_reducible exact Nat.le_refl _ | omega | (simp only [World.size_alloc, World.size_setCell, World.size_drew] at *; omega) | (dsimp only; omega) | (simp; done) | (simp; omega)), by go_simp, by go_simp⟩
                  · obtain rfl : q = 4 := by omega
                    go_wp2
                    go_roundg (m2 - (k + 1))
                    case measure => omega
                    case rel => exact ⟨k + 1, by omega, by go_num, fun j hj => (by rcases Nat.lt_succ_iff_lt_or_eq.1 hj with hj | rfl; exact hokT.out j hj; rw [HK.out, hv1, hsl4, hv3, allB_true (fun j hj => hokS.out j (by omega))]; rfl), by repeat (first | with_reducible exact bl_refl _ | with_reducible assumption | with_reducible refine bl_al ?_ _ | with_reducible refine bl_dr ?_ | with_reducible refine bl_tr ?_ (by assumption) | with_reducible refine bl_set ?_ ?_ _ | with_reducible exact Nat.le_refl _ | omega | (simp only [World.size_alloc, World.size_setCell, World.size_drew] at *; omega) | (dsimp only; omega) | (simp; done) | (simp; omega))⟩
            · have hsl4 : decide (e.sides.length = 4) = false := decide_eq_false (by omega)
              have h4' : ((sn : Int) != 4) = true := by simp; omega
              go_wp2_with (go_at_call 87; refine (sIsName_any _ _ hsz).mono ?_; rintro e _ ⟨rfl, rfl⟩)
              go_ret
              exact ⟨ret_bool (validSetB_ti (k := k) (by omega) (by rw [HK.out, hv1, hsl4]; rfl)).symm, by repeat (first | with_reducible exact bl_refl _ | with_reducible assumption | with_reducible refine bl_al ?_ _ | with_reducible refine bl_dr ?_ | with_reducible refine bl_tr ?_ (by assumption) | with_reducible refine bl_set ?_ ?_ _ | with_reducible exact Nat.le_refl _ | omega | (simp only [World.size_alloc, World.size_setCell, World.size_drew] at *; omega) | (dsimp only; omega) | (simp; done) | (simp; omega))⟩
        · obtain rfl : m2 = k := by omega
          clear g2 g4
          go_wp2
          go_ret
          exact ⟨ret_bool (validSetB_ok (by omega) (by omega) (by omega) hokG.out (fun j hj => hokT.out j (by omega))).symm, by repeat (first | with_reducible exact bl_refl _ | with_reducible assumption | with_reducible refine bl_al ?_ _ | with_reducible refine bl_dr ?_ | with_reducible refine bl_tr ?_ (by assumption) | with_reducible refine bl_set ?_ ?_ _ | with_reducible exact Nat.le_refl _ | omega | (simp only [World.size_alloc, World.size_setCell, World.size_drew] at *; omega) | (dsimp only; omega) | (simp; done) | (simp; omega))⟩
end Go.Proofs.YtfabgnnpgepcoaaGreat
/- Walks: the form of an assembly. -/

namespace Go.Proofs.YtfabgnnpgepcoaaGreat
open Go.RowKit
set_option linter.unusedSimpArgs false
set_option linter.unusedVariables false
attribute [local go_sem] BelowBy.cell BelowBy.cell_drew stillUpon givesUpon
set_option maxHeartbeats 2000000 in
theorem hasForm_any (A : Option Addr) (n c : Nat) (xs : List Pl) (w : World) (h : RdSl 3 RPl w A n xs) (hn : n ≤ 1073741824) :
    Calls Tryz.prog 95 #[.agg #[.slice A n c]] w fun e w' => e = .returned (.bool (hasFormB xs)) ∧ Below w.heap.size w w' := by
  
  go_enter Tryz.func95, Tryz.ntmps95
  go_wp2
  go_loopg [8] n (fun g i wr => ∃ k : Nat, k + g = n ∧ i = .int .i64 k ∧ (∀ j, j < k → okPl xs j = true) ∧ Below w.heap.size w wr ∧ wr.cell? ⟨w.heap.size, 0, none⟩ = some (.slice A n c) ∧ w.heap.size < wr.heap.size)
  case atStart => exact ⟨0, by omega, rfl, fun j hj => by omega, (Below.refl _ _).alloc (Nat.le_refl _) _, by simp, by simp⟩
  case round =>
    obtain ⟨k, hk, rfl, hok, hbw, hbox, hsz⟩ := hrel
    have h' := h.below RPl.stable hbw
    have hsz' := Nat.le_of_lt hsz
    by_cases hlt : k < n
    · obtain ⟨b, o, rfl, hb, hc⟩ := h'.ptr (by omega)
      obtain ⟨e, he⟩ := h.get hlt
      obtain ⟨c0, c1, c2⟩ := hc k e he
      have HE := Lib.hid he
      clear he
      have key : ∀ (v1 v2 v3 : Bool), validPt e.x e.y = v1 → inB e.t 0 159 = v2 → (∀ i, k = i + 1 → ∀ d, xs[i]? = some d → lessPt d.x d.y e.x e.y = v3) → okPl xs k = (v1 && v2 && (k == 0 || v3)) := by
        intro v1 v2 v3 h1 h2 h3
        unfold okPl
        rw [HE.out]
        simp only [h1, h2]
        cases k with
        | zero => simp
        | succ i =>
          obtain ⟨d, hd⟩ := h.get (k := i) (by omega)
          simp only [hd, h3 i rfl d hd]
          simp
      have HKey := Lib.hid key
      clear key
      cases hv1 : validPt e.x e.y
      · go_wp2
        refine wp_region_ord [(0, .q), (1, .q), (2, .g), (3, .q), (4, .q), (5, .q), (6, .q), (7, .g), (8, .q), (9, .q), (10, .q), (11, .q), (12, .q), (13, .q), (14, .q), (15, .q), (16, .q), (17, .q), (18, .q), (19, .q), (20, .q), (21, .q), (22, .q), (23, .g), (24, .q), (25, .q), (26, .q)] (by kernel_rfl) (by kernel_rfl) ?_
        simp only [pick, List.filterMap_cons, List.filterMap_nil, List.getElem?_toArray, List.getElem?_cons_zero, List.getElem?_cons_succ, Option.map_some]
        repeat (first
          | ((with_reducible refine wpD_p (fun K hK => ?_)); go_simp; refine hK _ ?_; clear hK K)
          | ((with_reducible refine wpD_q (fun K hK => ?_)); go_simp; (first | refine hK _ ?_ | (go_bits; refine hK _ ?_) | (go_bits; go_simp; refine hK _ ?_)); clear hK K)
          | ((with_reducible refine wpD_g (fun K hK => ?_)); go_simp; refine hK _ _ ?_; clear hK K)
          | ((with_reducible refine wpD_g (fun K hK => ?_)); go_simp; refine ⟨Grew.of_alloc _, hK _ _ ?_⟩; clear hK K)
          | ((with_reducible refine wpD_g (fun K hK => ?_)); go_simp; go_at_call 110; refine (ValidPoint_any _ _ _).mono ?_; rintro e w1 ⟨rfl, hb1⟩; refine ⟨_, rfl, hb1, hK _ _ ?_⟩; clear hK K; obtain ⟨chb1, fhb1, shb1, thb1⟩ := bcell hb1; (try have bhb10 := shb1 (w.heap.size) (by go_simp)); (try have bhb11 := shb1 (wr.heap.size) (by go_simp)); (try have bhb12 := shb1 (b) (by go_simp)))
          | ((with_reducible refine wpD_g (fun K hK => ?_)); go_simp; go_at_call 77; refine (isIndex_any _ _ _ (by omega) (by omega)).mono ?_; rintro e _ ⟨rfl, rfl⟩; refine ⟨_, rfl, Below.refl _ _, hK _ _ ?_⟩; clear hK K)
          | ((with_reducible refine wpD_g (fun K hK => ?_)); go_simp; go_at_call 111; refine (LessPoint_any _ _ _ _ _).mono ?_; rintro e w2 ⟨rfl, hb2⟩; refine ⟨_, rfl, hb2, hK _ _ ?_⟩; clear hK K; obtain ⟨chb2, fhb2, shb2, thb2⟩ := bcell hb2; (try have bhb20 := shb2 (w.heap.size) (by go_simp)); (try have bhb21 := shb2 (wr.heap.size) (by go_simp)); (try have bhb22 := shb2 (b) (by go_simp))))
        with_reducible refine wpD_nil ?_
        go_wp2
        go_ret
        refine ⟨ret_bool ?_, ?_⟩
        · have := allB_false (n := xs.length) (p := okPl xs) (k := k) (by rw [h.len]; omega) (by rw [HKey.out false (inB e.t 0 159) (match k with | 0 => true | i + 1 => match xs[i]? with | none => true | some d => lessPt d.x d.y e.x e.y) hv1 rfl (by rintro i rfl d hd; simp [hd])]; rfl)
          simp [hasFormB, this]
        · repeat (first | with_reducible exact bl_refl _ | with_reducible assumption | with_reducible refine bl_al ?_ _ | with_reducible refine bl_dr ?_ | with_reducible refine bl_tr ?_ (by assumption) | with_reducible refine bl_set ?_ ?_ _ | with_reducible exact Nat.le_refl _ | omega | (simp only [World.size_alloc, World.size_setCell, World.size_drew] at *; omega) | (dsimp only; omega) | (simp; done) | (simp; omega))
      · cases hv2 : inB e.t 0 159
        · go_wp2
          refine wp_region_ord [(0, .q), (1, .q), (2, .g), (3, .q), (4, .q), (5, .q), (6, .q), (7, .g), (8, .q), (9, .q), (10, .q), (11, .q), (12, .q), (13, .q), (14, .q), (15, .q), (16, .q), (17, .q), (18, .q), (19, .q), (20, .q), (21, .q), (22, .q), (23, .g), (24, .q), (25, .q), (26, .q)] (by kernel_rfl) (by kernel_rfl) ?_
          simp only [pick, List.filterMap_cons, List.filterMap_nil, List.getElem?_toArray, List.getElem?_cons_zero, List.getElem?_cons_succ, Option.map_some]
          repeat (first
            | ((with_reducible refine wpD_p (fun K hK => ?_)); go_simp; refine hK _ ?_; clear hK K)
            | ((with_reducible refine wpD_q (fun K hK => ?_)); go_simp; (first | refine hK _ ?_ | (go_bits; refine hK _ ?_) | (go_bits; go_simp; refine hK _ ?_)); clear hK K)
            | ((with_reducible refine wpD_g (fun K hK => ?_)); go_simp; refine hK _ _ ?_; clear hK K)
            | ((with_reducible refine wpD_g (fun K hK => ?_)); go_simp; refine ⟨Grew.of_alloc _, hK _ _ ?_⟩; clear hK K)
            | ((with_reducible refine wpD_g (fun K hK => ?_)); go_simp; go_at_call 110; refine (ValidPoint_any _ _ _).mono ?_; rintro e w1 ⟨rfl, hb1⟩; refine ⟨_, rfl, hb1, hK _ _ ?_⟩; clear hK K; obtain ⟨chb1, fhb1, shb1, thb1⟩ := bcell hb1; (try have bhb10 := shb1 (w.heap.size) (by go_simp)); (try have bhb11 := shb1 (wr.heap.size) (by go_simp)); (try have bhb12 := shb1 (b) (by go_simp)))
            | ((with_reducible refine wpD_g (fun K hK => ?_)); go_simp; go_at_call 77; refine (isIndex_any _ _ _ (by omega) (by omega)).mono ?_; rintro e _ ⟨rfl, rfl⟩; refine ⟨_, rfl, Below.refl _ _, hK _ _ ?_⟩; clear hK K)
            | ((with_reducible refine wpD_g (fun K hK => ?_)); go_simp; go_at_call 111; refine (LessPoint_any _ _ _ _ _).mono ?_; rintro e w2 ⟨rfl, hb2⟩; refine ⟨_, rfl, hb2, hK _ _ ?_⟩; clear hK K; obtain ⟨chb2, fhb2, shb2, thb2⟩ := bcell hb2; (try have bhb20 := shb2 (w.heap.size) (by go_simp)); (try have bhb21 := shb2 (wr.heap.size) (by go_simp)); (try have bhb22 := shb2 (b) (by go_simp))))
          with_reducible refine wpD_nil ?_
          go_wp2
          go_ret
          refine ⟨ret_bool ?_, ?_⟩
          · have := allB_false (n := xs.length) (p := okPl xs) (k := k) (by rw [h.len]; omega) (by rw [HKey.out true false (match k with | 0 => true | i + 1 => match xs[i]? with | none => true | some d => lessPt d.x d.y e.x e.y) hv1 hv2 (by rintro i rfl d hd; simp [hd])]; rfl)
            simp [hasFormB, this]
          · repeat (first | with_reducible exact bl_refl _ | with_reducible assumption | with_reducible refine bl_al ?_ _ | with_reducible refine bl_dr ?_ | with_reducible refine bl_tr ?_ (by assumption) | with_reducible refine bl_set ?_ ?_ _ | with_reducible exact Nat.le_refl _ | omega | (simp only [World.size_alloc, World.size_setCell, World.size_drew] at *; omega) | (dsimp only; omega) | (simp; done) | (simp; omega))
        · cases k with
          | zero =>
            simp only [Nat.zero_mul, Nat.add_zero] at c0 c1 c2
            go_wp2
            refine wp_region_ord [(0, .q), (1, .q), (2, .g), (3, .q), (4, .q), (5, .q), (6, .q), (7, .g), (8, .q), (9, .q), (10, .q), (11, .q), (12, .q), (13, .q), (14, .q), (15, .q), (16, .q), (17, .q), (18, .q), (19, .q), (20, .q), (21, .q), (22, .q), (23, .g), (24, .q), (25, .q), (26, .q)] (by kernel_rfl) (by kernel_rfl) ?_
            simp only [pick, List.filterMap_cons, List.filterMap_nil, List.getElem?_toArray, List.getElem?_cons_zero, List.getElem?_cons_succ, Option.map_some]
            repeat (first
              | ((with_reducible refine wpD_p (fun K hK => ?_)); go_simp; refine hK _ ?_; clear hK K)
              | ((with_reducible refine wpD_q (fun K hK => ?_)); go_simp; (first | refine hK _ ?_ | (go_bits; refine hK _ ?_) | (go_bits; go_simp; refine hK _ ?_)); clear hK K)
              | ((with_reducible refine wpD_g (fun K hK => ?_)); go_simp; refine hK _ _ ?_; clear hK K)
              | ((with_reducible refine wpD_g (fun K hK => ?_)); go_simp; refine ⟨Grew.of_alloc _, hK _ _ ?_⟩; clear hK K)
              | ((with_reducible refine wpD_g (fun K hK => ?_)); go_simp; go_at_call 110; refine (ValidPoint_any _ _ _).mono ?_; rintro e w1 ⟨rfl, hb1⟩; refine ⟨_, rfl, hb1, hK _ _ ?_⟩; clear hK K; obtain ⟨chb1, fhb1, shb1, thb1⟩ := bcell hb1; (try have bhb10 := shb1 (w.heap.size) (by go_simp)); (try have bhb11 := shb1 (wr.heap.size) (by go_simp)); (try have bhb12 := shb1 (b) (by go_simp)))
              | ((with_reducible refine wpD_g (fun K hK => ?_)); go_simp; go_at_call 77; refine (isIndex_any _ _ _ (by omega) (by omega)).mono ?_; rintro e _ ⟨rfl, rfl⟩; refine ⟨_, rfl, Below.refl _ _, hK _ _ ?_⟩; clear hK K)
              | ((with_reducible refine wpD_g (fun K hK => ?_)); go_simp; go_at_call 111; refine (LessPoint_any _ _ _ _ _).mono ?_; rintro e w2 ⟨rfl, hb2⟩; refine ⟨_, rfl, hb2, hK _ _ ?_⟩; clear hK K; obtain ⟨chb2, fhb2, shb2, thb2⟩ := bcell hb2; (try have bhb20 := shb2 (w.heap.size) (by go_simp)); (try have bhb21 := shb2 (wr.heap.size) (by go_simp)); (try have bhb22 := shb2 (b) (by go_simp))))
            with_reducible refine wpD_nil ?_
            go_wp2
            go_roundg (n - (0 + 1))
            case measure => omega
            case rel => exact ⟨0 + 1, by omega, by go_num, fun j hj => (by rcases Nat.lt_succ_iff_lt_or_eq.1 hj with hj | rfl; exact hok j hj; exact HKey.out true true true hv1 hv2 (by rintro i h0; omega)), (by repeat (first | with_reducible exact bl_refl _ | with_reducible assumption | with_reducible refine bl_al ?_ _ | with_reducible refine bl_dr ?_ | with_reducible refine bl_tr ?_ (by assumption) | with_reducible refine bl_set ?_ ?_ _ | with_reducible exact Nat.le_refl _ | omega | (simp only [World.size_alloc, World.size_setCell, World.size_drew] at *; omega) | (dsimp only; omega) | (simp; done) | (simp; omega))), (by go_simp), (by have := hb1.size; simp at this ⊢; omega)⟩
          | succ i =>
            obtain ⟨d, hd⟩ := h.get (k := i) (by omega)
            obtain ⟨d0, d1, d2⟩ := hc i d hd
            have HD := Lib.hid hd
            clear hd
            have hi : i < n := by omega
            have hpos : (0 : Int) < (i : Int) + 1 := by omega
            cases hv3 : lessPt d.x d.y e.x e.y
            · go_wp2
              refine wp_region_ord [(0, .q), (1, .q), (2, .g), (3, .q), (4, .q), (5, .q), (6, .q), (7, .g), (8, .q), (9, .q), (10, .q), (11, .q), (12, .q), (13, .q), (14, .q), (15, .q), (16, .q), (17, .q), (18, .q), (19, .q), (20, .q), (21, .q), (22, .q), (23, .g), (24, .q), (25, .q), (26, .q)] (by kernel_rfl) (by kernel_rfl) ?_
              simp only [pick, List.filterMap_cons, List.filterMap_nil, List.getElem?_toArray, List.getElem?_cons_zero, List.getElem?_cons_succ, Option.map_some]
              repeat (first
                | ((with_reducible refine wpD_p (fun K hK => ?_)); go_simp; refine hK _ ?_; clear hK K)
                | ((with_reducible refine wpD_q (fun K hK => ?_)); go_simp; (first | refine hK _ ?_ | (go_bits; refine hK _ ?_) | (go_bits; go_simp; refine hK _ ?_)); clear hK K)
                | ((with_reducible refine wpD_g (fun K hK => ?_)); go_simp; refine hK _ _ ?_; clear hK K)
                | ((with_reducible refine wpD_g (fun K hK => ?_)); go_simp; refine ⟨Grew.of_alloc _, hK _ _ ?_⟩; clear hK K)
                | ((with_reducible refine wpD_g (fun K hK => ?_)); go_simp; go_at_call 110; refine (ValidPoint_any _ _ _).mono ?_; rintro e w1 ⟨rfl, hb1⟩; refine ⟨_, rfl, hb1, hK _ _ ?_⟩; clear hK K; obtain ⟨chb1, fhb1, shb1, thb1⟩ := bcell hb1; (try have bhb10 := shb1 (w.heap.size) (by go_simp)); (try have bhb11 := shb1 (wr.heap.size) (by go_simp)); (try have bhb12 := shb1 (b) (by go_simp)))
                | ((with_reducible refine wpD_g (fun K hK => ?_)); go_simp; go_at_call 77; refine (isIndex_any _ _ _ (by omega) (by omega)).mono ?_; rintro e _ ⟨rfl, rfl⟩; refine ⟨_, rfl, Below.refl _ _, hK _ _ ?_⟩; clear hK K)
                | ((with_reducible refine wpD_g (fun K hK => ?_)); go_simp; go_at_call 111; refine (LessPoint_any _ _ _ _ _).mono ?_; rintro e w2 ⟨rfl, hb2⟩; refine ⟨_, rfl, hb2, hK _ _ ?_⟩; clear hK K; obtain ⟨chb2, fhb2, shb2, thb2⟩ := bcell hb2; (try have bhb20 := shb2 (w.heap.size) (by go_simp)); (try have bhb21 := shb2 (wr.heap.size) (by go_simp)); (try have bhb22 := shb2 (b) (by go_simp))))
              with_reducible refine wpD_nil ?_
              go_wp2
              go_ret
              refine ⟨ret_bool ?_, ?_⟩
              · have := allB_false (n := xs.length) (p := okPl xs) (k := i + 1) (by rw [h.len]; omega) (by rw [HKey.out true true false hv1 hv2 (by rintro i' h0 d' hd'; obtain rfl := Nat.succ.inj h0; obtain rfl := Option.some.inj (HD.out.symm.trans hd'); exact hv3)]; rfl)
                simp [hasFormB, this]
              · repeat (first | with_reducible exact bl_refl _ | with_reducible assumption | with_reducible refine bl_al ?_ _ | with_reducible refine bl_dr ?_ | with_reducible refine bl_tr ?_ (by assumption) | with_reducible refine bl_set ?_ ?_ _ | with_reducible exact Nat.le_refl _ | omega | (simp only [World.size_alloc, World.size_setCell, World.size_drew] at *; omega) | (dsimp only; omega) | (simp; done) | (simp; omega))
            · go_wp2
              refine wp_region_ord [(0, .q), (1, .q), (2, .g), (3, .q), (4, .q), (5, .q), (6, .q), (7, .g), (8, .q), (9, .q), (10, .q), (11, .q), (12, .q), (13, .q), (14, .q), (15, .q), (16, .q), (17, .q), (18, .q), (19, .q), (20, .q), (21, .q), (22, .q), (23, .g), (24, .q), (25, .q), (26, .q)] (by kernel_rfl) (by kernel_rfl) ?_
              simp only [pick, List.filterMap_cons, List.filterMap_nil, List.getElem?_toArray, List.getElem?_cons_zero, List.getElem?_cons_succ, Option.map_some]
              repeat (first
                | ((with_reducible refine wpD_p (fun K hK => ?_)); go_simp; refine hK _ ?_; clear hK K)
                | ((with_reducible refine wpD_q (fun K hK => ?_)); go_simp; (first | refine hK _ ?_ | (go_bits; refine hK _ ?_) | (go_bits; go_simp; refine hK _ ?_)); clear hK K)
                | ((with_reducible refine wpD_g (fun K hK => ?_)); go_simp; refine hK _ _ ?_; clear hK K)
                | ((with_reducible refine wpD_g (fun K hK => ?_)); go_simp; refine ⟨Grew.of_alloc _, hK _ _ ?_⟩; clear hK K)
                | ((with_reducible refine wpD_g (fun K hK => ?_)); go_simp; go_at_call 110; refine (ValidPoint_any _ _ _).mono ?_; rintro e w1 ⟨rfl, hb1⟩; refine ⟨_, rfl, hb1, hK _ _ ?_⟩; clear hK K; obtain ⟨chb1, fhb1, shb1, thb1⟩ := bcell hb1; (try have bhb10 := shb1 (w.heap.size) (by go_simp)); (try have bhb11 := shb1 (wr.heap.size) (by go_simp)); (try have bhb12 := shb1 (b) (by go_simp)))
                | ((with_reducible refine wpD_g (fun K hK => ?_)); go_simp; go_at_call 77; refine (isIndex_any _ _ _ (by omega) (by omega)).mono ?_; rintro e _ ⟨rfl, rfl⟩; refine ⟨_, rfl, Below.refl _ _, hK _ _ ?_⟩; clear hK K)
                | ((with_reducible refine wpD_g (fun K hK => ?_)); go_simp; go_at_call 111; refine (LessPoint_any _ _ _ _ _).mono ?_; rintro e w2 ⟨rfl, hb2⟩; refine ⟨_, rfl, hb2, hK _ _ ?_⟩; clear hK K; obtain ⟨chb2, fhb2, shb2, thb2⟩ := bcell hb2; (try have bhb20 := shb2 (w.heap.size) (by go_simp)); (try have bhb21 := shb2 (wr.heap.size) (by go_simp)); (try have bhb22 := shb2 (b) (by go_simp))))
              with_reducible refine wpD_nil ?_
              go_wp2
              go_roundg (n - ((i + 1) + 1))
              case measure => omega
              case rel => exact ⟨(i + 1) + 1, by omega, by go_num, fun j hj => (by rcases Nat.lt_succ_iff_lt_or_eq.1 hj with hj | rfl; exact hok j hj; exact HKey.out true true true hv1 hv2 (by rintro i' h0 d' hd'; obtain rfl := Nat.succ.inj h0; obtain rfl := Option.some.inj (HD.out.symm.trans hd'); exact hv3)), (by repeat (first | with_reducible exact bl_refl _ | with_reducible assumption | with_reducible refine bl_al ?_ _ | with_reducible refine bl_dr ?_ | with_reducible refine bl_tr ?_ (by assumption) | with_reducible refine bl_set ?_ ?_ _ | with_reducible exact Nat.le_refl _ | omega | (simp only [World.size_alloc, World.size_setCell, World.size_drew] at *; omega) | (dsimp only; omega) | (simp; done) | (simp; omega))), (by go_simp), (by have := hb1.size; simp at this ⊢; omega)⟩
    · obtain rfl : k = n := by omega
      go_wp2
      go_ret
      refine ⟨ret_bool ?_, ?_⟩
      · rw [hasFormB, h.len, allB_true hok, Bool.true_and, decide_eq_decide]; omega
      · repeat (first | with_reducible exact bl_refl _ | with_reducible assumption | with_reducible refine bl_al ?_ _ | with_reducible refine bl_dr ?_ | with_reducible refine bl_tr ?_ (by assumption) | with_reducible refine bl_set ?_ ?_ _ | with_reducible exact Nat.le_refl _ | omega | (simp only [World.size_alloc, World.size_setCell, World.size_drew] at *; omega) | (dsimp only; omega) | (simp; done) | (simp; omega))
end Go.Proofs.YtfabgnnpgepcoaaGreat
/- Walks: the closures of the program's checks. -/


namespace Go.Proofs.YtfabgnnpgepcoaaGreat
open Go.RowKit
set_option linter.unusedSimpArgs false
set_option linter.unusedVariables false
attribute [local go_sem] BelowBy.cell BelowBy.cell_drew stillUpon givesUpon
theorem isTile_any (A B : Option Addr) (n c m d : Nat) (t : Int) (w : World) (hm : m ≤ 140737488355328) :
    Calls Tryz.prog 98 #[.agg #[.slice A n c, .slice B m d], .int .i64 t] w fun e w' => e = .returned (.bool (inB t 0 (m - 1))) ∧ Below w.heap.size w w' := by
  go_enter Tryz.func98, Tryz.ntmps98
  go_wp2_with (go_at_call 77; refine (isIndex_any _ _ _ (by omega) (by omega)).mono ?_; rintro e _ ⟨rfl, rfl⟩)
  go_ret
  exact ⟨rfl, by repeat (first | with_reducible exact bl_refl _ | with_reducible assumption | with_reducible refine bl_al ?_ _ | with_reducible refine bl_dr ?_ | with_reducible refine bl_tr ?_ (by assumption) | with_reducible refine bl_set ?_ ?_ _ | with_reducible exact Nat.le_refl _ | omega | (simp only [World.size_alloc, World.size_setCell, World.size_drew] at *; omega) | (dsimp only; omega) | (simp; done) | (simp; omega))⟩
theorem ValidSet1_any (p : Nat) (A : Option Addr) (n c : Nat) (v : Int) (w : World) (h : w.cell? ⟨p, 0, none⟩ = some (.slice A n c)) (hp : p < w.heap.size) :
    Calls Tryz.prog 109 #[.int .i64 v, .pointer (some ⟨p, 0, none⟩)] w fun e w' => e = .returned (.bool (!inB v 0 n)) ∧ w = w' := by
  go_enter Tryz.func109, Tryz.ntmps109
  go_wp2_with (go_at_call 99; refine (within_any _ _ _ _).mono ?_; rintro e _ ⟨rfl, rfl⟩)
  go_ret
  exact ⟨rfl, rfl⟩
theorem ValidAssembly1_any (p : Nat) (A B : Option Addr) (n c m d : Nat) (e : Pl) (w : World) (h : w.cell? ⟨p, 0, none⟩ = some (.slice A n c)) (h2 : w.cell? ⟨p, 1, none⟩ = some (.slice B m d)) (hp : p < w.heap.size) (hm : m ≤ 140737488355328) :
    Calls Tryz.prog 97 #[.agg #[.int .i64 e.x, .int .i64 e.y, .int .i64 e.t], .pointer (some ⟨p, 0, none⟩)] w fun e' w' => e' = .returned (.bool (!inB e.t 0 (m - 1))) ∧ Below w.heap.size w w' := by
  go_enter Tryz.func97, Tryz.ntmps97
  go_wp2_with (go_at_call 98; refine (isTile_any _ _ _ _ _ _ _ _ hm).mono ?_; rintro e w1 ⟨rfl, hb1⟩; obtain ⟨chb1, fhb1, shb1, thb1⟩ := bcell hb1)
  go_ret
  refine ⟨rfl, ?_⟩
  repeat (first | with_reducible exact bl_refl _ | with_reducible assumption | with_reducible refine bl_al ?_ _ | with_reducible refine bl_dr ?_ | with_reducible refine bl_tr ?_ (by assumption) | with_reducible refine bl_set ?_ ?_ _ | with_reducible exact Nat.le_refl _ | omega | (simp only [World.size_alloc, World.size_setCell, World.size_drew] at *; omega) | (dsimp only; omega) | (simp; done) | (simp; omega))
/-- what IndexFunc says of a list and a test -/
def FirstRes (w : World) (n : Nat) (ok : Nat → Bool) (e : Ending) (w' : World) : Prop := ∃ r : Int, e = .returned (.int .i64 r) ∧ decide (0 ≤ r) = (!allB n ok) ∧ Below w.heap.size w w'
theorem IndexFuncI_any (p : Nat) (G A : Option Addr) (ng cg n c : Nat) (xs : List Int) (w : World) (h : w.cell? ⟨p, 0, none⟩ = some (.slice G ng cg)) (hp : p < w.heap.size) (hx : RdSl 1 RInt w A n xs) (hn : n ≤ 9223372036854775807) :
    Calls Tryz.prog 116 #[.slice A n c, .func (.func 109) #[] #[.pointer (some ⟨p, 0, none⟩)]] w (FirstRes w n (okSide ng xs)) := by
  go_enter Tryz.func116, Tryz.ntmps116
  go_wp2
  go_loopg [8] n (fun r x wr => ∃ k : Nat, k + r = n ∧ x = .int .i64 k ∧ (∀ j, j < k → okSide ng xs j = true) ∧ w = wr)
  case atStart => exact ⟨0, by omega, rfl, fun j hj => by omega, rfl⟩
  case round =>
    obtain ⟨k, hk, rfl, hok, rfl⟩ := hrel
    have hok := Lib.hid hok
    by_cases hkn : k < n
    · obtain ⟨b, o, rfl, hb, hc⟩ := hx.ptr (by omega)
      obtain ⟨v, hv⟩ := hx.get hkn
      have c0 := hc k v hv
      simp only [RInt, Nat.mul_one] at c0
      have HS : okSide ng xs k = inB v 0 ng := by unfold okSide; rw [hv]
      have HS := Lib.hid HS
      clear hc hv hx
      cases hv4 : inB v 0 ng
      · go_wp2_with (go_at_call 109; refine (ValidSet1_any _ _ _ _ _ _ h hp).mono ?_; rintro e _ ⟨rfl, rfl⟩)
        go_ret
        exact ⟨_, rfl, by rw [allB_false hkn (by rw [HS.out, hv4])]; simp, by repeat (first | with_reducible exact bl_refl _ | with_reducible assumption | with_reducible refine bl_al ?_ _ | with_reducible refine bl_dr ?_ | with_reducible refine bl_tr ?_ (by assumption) | with_reducible refine bl_set ?_ ?_ _ | with_reducible exact Nat.le_refl _ | omega | (simp only [World.size_alloc, World.size_setCell, World.size_drew] at *; omega) | (dsimp only; omega) | (simp; done) | (simp; omega))⟩
      · go_wp2_with (go_at_call 109; refine (ValidSet1_any _ _ _ _ _ _ h hp).mono ?_; rintro e _ ⟨rfl, rfl⟩)
        go_roundg (n - (k + 1))
        case measure => omega
        case rel => exact ⟨k + 1, by omega, by go_num, fun j hj => (by rcases Nat.lt_succ_iff_lt_or_eq.1 hj with hj | rfl; exact hok.out j hj; rw [HS.out, hv4]), rfl⟩
    · obtain rfl : k = n := by omega
      go_wp2
      go_ret
      exact ⟨_, rfl, by rw [allB_true hok.out]; simp, by repeat (first | with_reducible exact bl_refl _ | with_reducible assumption | with_reducible refine bl_al ?_ _ | with_reducible refine bl_dr ?_ | with_reducible refine bl_tr ?_ (by assumption) | with_reducible refine bl_set ?_ ?_ _ | with_reducible exact Nat.le_refl _ | omega | (simp only [World.size_alloc, World.size_setCell, World.size_drew] at *; omega) | (dsimp only; omega) | (simp; done) | (simp; omega))⟩
theorem ContainsFuncI_any (p : Nat) (G A : Option Addr) (ng cg n c : Nat) (xs : List Int) (w : World) (h : w.cell? ⟨p, 0, none⟩ = some (.slice G ng cg)) (hp : p < w.heap.size) (hx : RdSl 1 RInt w A n xs) (hn : n ≤ 9223372036854775807) :
    Calls Tryz.prog 108 #[.slice A n c, .func (.func 109) #[] #[.pointer (some ⟨p, 0, none⟩)]] w fun e w' => e = .returned (.bool (!allB n (okSide ng xs))) ∧ Below w.heap.size w w' := by
  go_enter Tryz.func108, Tryz.ntmps108
  go_wp2_with (go_at_call 116; refine (IndexFuncI_any _ _ _ _ _ _ _ xs _ h hp hx hn).mono ?_; rintro e w1 ⟨r, rfl, hr, hb1⟩)
  go_ret
  refine ⟨rfl, ?_⟩
  repeat (first | with_reducible exact bl_refl _ | with_reducible assumption | with_reducible refine bl_al ?_ _ | with_reducible refine bl_dr ?_ | with_reducible refine bl_tr ?_ (by assumption) | with_reducible refine bl_set ?_ ?_ _ | with_reducible exact Nat.le_refl _ | omega | (simp only [World.size_alloc, World.size_setCell, World.size_drew] at *; omega) | (dsimp only; omega) | (simp; done) | (simp; omega))
def okTile (m : Nat) (xs : List Pl) (j : Nat) : Bool := match xs[j]? with
  | none => true
  | some e => inB e.t 0 (m - 1)
theorem IndexFuncP_any (p : Nat) (A B C : Option Addr) (ng cg m d n c : Nat) (xs : List Pl) (w : World) (h : w.cell? ⟨p, 0, none⟩ = some (.slice A ng cg)) (h2 : w.cell? ⟨p, 1, none⟩ = some (.slice B m d)) (hp : p < w.heap.size) (hm : m ≤ 140737488355328)
    (hx : RdSl 3 RPl w C n xs) (hn : n ≤ 9223372036854775807) :
    Calls Tryz.prog 112 #[.slice C n c, .func (.func 97) #[] #[.pointer (some ⟨p, 0, none⟩)]] w (FirstRes w n (okTile m xs)) := by
  go_enter Tryz.func112, Tryz.ntmps112
  go_wp2
  go_loopg [8] n (fun r x wr => ∃ k : Nat, k + r = n ∧ x = .int .i64 k ∧ (∀ j, j < k → okTile m xs j = true) ∧ Below w.heap.size w wr)
  case atStart => exact ⟨0, by omega, rfl, fun j hj => by omega, by repeat (first | with_reducible exact bl_refl _ | with_reducible assumption | with_reducible refine bl_al ?_ _ | with_reducible refine bl_dr ?_ | with_reducible refine bl_tr ?_ (by assumption) | with_reducible refine bl_set ?_ ?_ _ | with_reducible exact Nat.le_refl _ | omega | (simp only [World.size_alloc, World.size_setCell, World.size_drew] at *; omega) | (dsimp only; omega) | (simp; done) | (simp; omega))⟩
  case round =>
    obtain ⟨k, hk, rfl, hok, hbw⟩ := hrel
    have hok := Lib.hid hok
    have g1 := (hbw.cell (p := ⟨p, 0, none⟩) hp).trans h
    have g2 := (hbw.cell (p := ⟨p, 1, none⟩) hp).trans h2
    have gp := Nat.lt_of_lt_of_le hp hbw.size
    have hx' := hx.below RPl.stable hbw
    by_cases hkn : k < n
    · obtain ⟨b, o, rfl, hb, hc⟩ := hx'.ptr (by omega)
      obtain ⟨e, he⟩ := hx.get hkn
      obtain ⟨c0, c1, c2⟩ := hc k e he
      have HS : okTile m xs k = inB e.t 0 (m - 1) := by unfold okTile; rw [he]
      have HS := Lib.hid HS
      clear hc he hx hx'
      cases hv4 : inB e.t 0 (m - 1)
      · go_wp2_with (go_at_call 97; refine (ValidAssembly1_any _ _ _ _ _ _ _ e _ g1 g2 gp hm).mono ?_; rintro e w1 ⟨rfl, hb1⟩; obtain ⟨chb1, fhb1, shb1, thb1⟩ := bcell hb1)
        go_ret
        exact ⟨_, rfl, by rw [allB_false hkn (by rw [HS.out, hv4])]; simp, by repeat (first | with_reducible exact bl_refl _ | with_reducible assumption | with_reducible refine bl_al ?_ _ | with_reducible refine bl_dr ?_ | with_reducible refine bl_tr ?_ (by assumption) | with_reducible refine bl_set ?_ ?_ _ | with_reducible exact Nat.le_refl _ | omega | (simp only [World.size_alloc, World.size_setCell, World.size_drew] at *; omega) | (dsimp only; omega) | (simp; done) | (simp; omega))⟩
      · go_wp2_with (go_at_call 97; refine (ValidAssembly1_any _ _ _ _ _ _ _ e _ g1 g2 gp hm).mono ?_; rintro e w1 ⟨rfl, hb1⟩; obtain ⟨chb1, fhb1, shb1, thb1⟩ := bcell hb1)
        go_roundg (n - (k + 1))
        case measure => omega
        case rel => exact ⟨k + 1, by omega, by go_num, fun j hj => (by rcases Nat.lt_succ_iff_lt_or_eq.1 hj with hj | rfl; exact hok.out j hj; rw [HS.out, hv4]), by repeat (first | with_reducible exact bl_refl _ | with_reducible assumption | with_reducible refine bl_al ?_ _ | with_reducible refine bl_dr ?_ | with_reducible refine bl_tr ?_ (by assumption) | with_reducible refine bl_set ?_ ?_ _ | with_reducible exact Nat.le_refl _ | omega | (simp only [World.size_alloc, World.size_setCell, World.size_drew] at *; omega) | (dsimp only; omega) | (simp; done) | (simp; omega))⟩
    · obtain rfl : k = n := by omega
      go_wp2
      go_ret
      exact ⟨_, rfl, by rw [allB_true hok.out]; simp, by repeat (first | with_reducible exact bl_refl _ | with_reducible assumption | with_reducible refine bl_al ?_ _ | with_reducible refine bl_dr ?_ | with_reducible refine bl_tr ?_ (by assumption) | with_reducible refine bl_set ?_ ?_ _ | with_reducible exact Nat.le_refl _ | omega | (simp only [World.size_alloc, World.size_setCell, World.size_drew] at *; omega) | (dsimp only; omega) | (simp; done) | (simp; omega))⟩
theorem ContainsFuncP_any (p : Nat) (A B C : Option Addr) (ng cg m d n c : Nat) (xs : List Pl) (w : World) (h : w.cell? ⟨p, 0, none⟩ = some (.slice A ng cg)) (h2 : w.cell? ⟨p, 1, none⟩ = some (.slice B m d)) (hp : p < w.heap.size) (hm : m ≤ 140737488355328)
    (hx : RdSl 3 RPl w C n xs) (hn : n ≤ 9223372036854775807) :
    Calls Tryz.prog 96 #[.slice C n c, .func (.func 97) #[] #[.pointer (some ⟨p, 0, none⟩)]] w fun e w' => e = .returned (.bool (!allB n (okTile m xs))) ∧ Below w.heap.size w w' := by
  go_enter Tryz.func96, Tryz.ntmps96
  go_wp2_with (go_at_call 112; refine (IndexFuncP_any _ _ _ _ _ _ _ _ _ _ xs _ h h2 hp hm hx hn).mono ?_; rintro e w1 ⟨r, rfl, hr, hb1⟩)
  go_ret
  refine ⟨rfl, ?_⟩
  repeat (first | with_reducible exact bl_refl _ | with_reducible assumption | with_reducible refine bl_al ?_ _ | with_reducible refine bl_dr ?_ | with_reducible refine bl_tr ?_ (by assumption) | with_reducible refine bl_set ?_ ?_ _ | with_reducible exact Nat.le_refl _ | omega | (simp only [World.size_alloc, World.size_setCell, World.size_drew] at *; omega) | (dsimp only; omega) | (simp; done) | (simp; omega))
end Go.Proofs.YtfabgnnpgepcoaaGreat
/- Sets of names: maps from strings to bools that a call makes. Walks: the program's check of a set. -/




namespace Go.Proofs.YtfabgnnpgepcoaaGreat
open Go.RowKit
set_option linter.unusedSimpArgs false
set_option linter.unusedVariables false
attribute [local go_sem] BelowBy.cell BelowBy.cell_drew stillUpon givesUpon
open Go.Maps (Keyed)
open Go.WideMaps (keyOf_string_mk)
/-- Block b is a map from names to bools that says N; at most n names were laid in. -/
def BMap (w : World) (b n : Nat) (N : ByteArray → Bool) : Prop :=
  ∃ D : DataW Unit, w.ownsMap Tryz.prog 9 (plainElem Tryz.prog 4) b n D ∧ ∀ s : ByteArray, D.atKey (.string s.data.toList) (.lit (.bool false)) = .lit (.bool (N s))
theorem BMap.made (w : World) : BMap (w.alloc (.map #[] 0)) w.heap.size 0 (fun _ => false) :=
  ⟨_, World.ownsMap_made _ _ _ _, fun s => WideAt.atKey_none _ (fun p hp => by simp at hp)⟩
theorem BMap.lt {w : World} {b n : Nat} {N : ByteArray → Bool} (h : BMap w b n N) : b < w.heap.size := by
  obtain ⟨D, h, _⟩ := h
  exact h.lt
theorem BMap.below {w w' : World} {b n : Nat} {N : ByteArray → Bool} (h : BMap w b n N) (hb : Below w.heap.size w w') : BMap w' b n N := by
  have hl := h.lt
  obtain ⟨D, ⟨es, clock, hh, r⟩, h2⟩ := h
  exact ⟨D, ⟨es, clock, (hb.block b hl).trans hh, r⟩, h2⟩
theorem BMap.say {w : World} {b n : Nat} {N N' : ByteArray → Bool} (h : BMap w b n N) (hN : ∀ s, N s = N' s) : BMap w b n N' := by
  obtain rfl : N = N' := funext hN
  exact h
theorem names_keyed : Keyed Tryz.prog 9 := Maps.string_keyed Tryz.underlying9
theorem zero_bool (w : World) : (zeroValue 4).run Tryz.prog w = .ok (.bool false) w := by kernel_rfl
theorem plainElem_bool_inv {P : Program} {e : TypeId} (he : P.underlying e = some .bool) {v : Value} {x : Bool} {ps : List MemPlace} (h : plainElem (H := Unit) P e v = some (.lit (.bool x), ps)) : v = .bool x := by
  unfold plainElem at h
  rw [he] at h
  cases v <;> simp at h
  rw [h.1]
theorem wpList_wanted {P : Program} {ops : Array Oper} {rest : List Oper} {o : Oper} {a : Act} {w : World} {Q : Exit → Act → World → Prop} (hg : Region.wanted o (yielded ops a.tmps) = true)
    (h : ∀ K, (∀ a w, wpList P ops Q rest a w → K a w) → o.wp P a w K Q) : wpList P ops Q (o :: rest) a w :=
  wpList_step fun K hK => by rw [if_pos hg]; exact h K hK
theorem wpList_lookup_gen {P : Program} {T k e : TypeId} (w : World) {ops : Array Oper} {rest : List Oper} {o : Oper} {a : Act} {Q : Exit → Act → World → Prop} (K : Keyed P k) (ht : P.underlying T = some (.map k e)) (he : P.underlying e = some .bool) (hk : P.underlying k = some .string)
    (hz : (zeroValue e).run P w = .ok (.bool false) w)
    (hg : Region.wanted o (yielded ops a.tmps) = true) (m x : Operand) (hop : o.op = Op.lookup T m x false) (b n : Nat) (D : DataW Unit) (hm : a.eval m = .map (some b)) (hown : w.ownsMap P k (plainElem P e) b n D) (s : ByteArray) (v0 : Bool) (hat : D.atKey (.string s.data.toList) (.lit (.bool false)) = .lit (.bool v0)) (hs : s.size ≤ maxLen) (hx : a.eval x = .string s)
    (hK : wpList P ops Q rest (a.put o.dst (.bool v0)) w) : wpList P ops Q (o :: rest) a w := by
  refine wpList_wanted hg fun K' hK' => ?_
  obtain ⟨v, ps, hrun, hv⟩ := hown.lookup K ht hz (plainElem_bool he false) (keyOf_string_mk hk hs)
  rw [hat] at hv
  obtain rfl := plainElem_bool_inv he hv
  unfold Oper.wp
  simp [execOp, hop, hm, hx, hrun, Result.andThen]
  exact hK' _ _ hK
theorem wpList_lookup_names (w : World) {ops : Array Oper} {rest : List Oper} {o : Oper} {a : Act} {Q : Exit → Act → World → Prop}
    (hg : Region.wanted o (yielded ops a.tmps) = true) (m x : Operand) (hop : o.op = Op.lookup 166 m x false) (b n : Nat) (N : ByteArray → Bool) (hm : a.eval m = .map (some b)) (h : BMap w b n N) (s : ByteArray) (hs : s.size ≤ maxLen) (hx : a.eval x = .string s)
    (hK : wpList Tryz.prog ops Q rest (a.put o.dst (.bool (N s))) w) : wpList Tryz.prog ops Q (o :: rest) a w := by
  obtain ⟨D, hown, hat⟩ := h
  exact wpList_lookup_gen w names_keyed Tryz.underlying166 Tryz.underlying4 Tryz.underlying9 (zero_bool w) hg m x hop b n D hm hown s (N s) (hat s) hs hx hK
theorem put_says {D : DataW Unit} (hD : Maps.IsMap D) {N : ByteArray → Bool} (hat : ∀ s : ByteArray, D.atKey (.string s.data.toList) (.lit (.bool false)) = .lit (.bool (N s))) (s t : ByteArray) :
    (D.put (.string s.data.toList) (.lit (.bool true))).atKey (.string t.data.toList) (.lit (.bool false)) = .lit (.bool (N t || decide (t = s))) := by
  by_cases ht : t = s
  · subst ht
    rw [Maps.atKey_put_same hD (by simp [WideAt.IsKeyLit])]
    simp
  · rw [Maps.atKey_put_other (fun hh => ht (by
      injection hh with hh
      cases t; cases s
      simp only [ByteArray.mk.injEq]
      exact Array.toList_inj.1 hh)), hat t]
    simp [ht]
theorem wpList_update_names (w : World) {ops : Array Oper} {rest : List Oper} {o : Oper} {a : Act} {Q : Exit → Act → World → Prop}
    (hg : o.guard = none) (m x v : Operand) (hop : o.op = Op.mapUpdate 166 m x v) (b n : Nat) (N : ByteArray → Bool) (hm : a.eval m = .map (some b)) (h : BMap w b n N) (s : ByteArray) (hs : s.size ≤ maxLen) (hn : n < maxLen) (hx : a.eval x = .string s) (hv : a.eval v = .bool true)
    (hK : ∀ w', BMap w' b (n + 1) (fun t => N t || decide (t = s)) → Below b w w' → (∀ i o, i ≠ b → i < w.heap.size → w'.cell? ⟨i, o, none⟩ = w.cell? ⟨i, o, none⟩) → wpList Tryz.prog ops Q rest (a.put o.dst undef) w') : wpList Tryz.prog ops Q (o :: rest) a w := by
  obtain ⟨D, hown, hat⟩ := h
  have hk := keyOf_string_mk Tryz.underlying9 hs
  refine wpList_mapUpdate_own w hg m x v 166 hop _ _ names_keyed Tryz.underlying166 _ b n D hm hown hn _ _ _ hx hv hk _ [] (plainElem_bool Tryz.underlying4 true) ?_
  intro w' h1 h2
  exact hK w' ⟨_, h1, put_says hown.isMap hat s⟩ ((Below.refl b w).grown h2 (Nat.le_of_lt hown.lt) (fun j hj => by cases hj; exact Nat.le_refl _))
    (fun i o hi hlt => World.cell?_of_block (a := ⟨i, o, none⟩) (h2.block i hlt (fun hh => hi (Option.some.inj hh))))
end Go.Proofs.YtfabgnnpgepcoaaGreat
/- Walks: the program's check of a set. -/



namespace Go.Proofs.YtfabgnnpgepcoaaGreat
open Go.RowKit
set_option linter.unusedSimpArgs false
set_option linter.unusedVariables false
attribute [local go_sem] BelowBy.cell BelowBy.cell_drew stillUpon givesUpon
/-- one of the first k glues bears the name -/
def seenG (gs : List Gl) (k : Nat) (s : ByteArray) : Bool := !allB k (fun i => match gs[i]? with | none => true | some e => decide (e.name ≠ s))
def seenT (ts : List Ti) (k : Nat) (s : ByteArray) : Bool := !allB k (fun i => match ts[i]? with | none => true | some e => decide (e.name ≠ s))
theorem allB_succ (k : Nat) (p : Nat → Bool) : allB (k + 1) p = (allB k p && p k) := by
  unfold allB; rw [List.range_succ, List.all_append]; simp
theorem seenG_succ {gs : List Gl} {k : Nat} {e : Gl} (h : gs[k]? = some e) (s : ByteArray) : (seenG gs k s || decide (s = e.name)) = seenG gs (k + 1) s := by
  unfold seenG; rw [allB_succ, h]
  by_cases hs : s = e.name
  · subst hs; simp
  · have : ¬ e.name = s := fun h => hs h.symm
    simp [hs, this]
theorem seenT_succ {ts : List Ti} {k : Nat} {e : Ti} (h : ts[k]? = some e) (s : ByteArray) : (seenT ts k s || decide (s = e.name)) = seenT ts (k + 1) s := by
  unfold seenT; rw [allB_succ, h]
  by_cases hs : s = e.name
  · subst hs; simp
  · have : ¬ e.name = s := fun h => hs h.symm
    simp [hs, this]
theorem freshG_seen {gs : List Gl} {k : Nat} {e : Gl} (h : gs[k]? = some e) : seenG gs k e.name = !freshG gs k := by unfold seenG freshG; simp only [h]; congr 1
theorem freshT_seen {ts : List Ti} {k : Nat} {e : Ti} (h : ts[k]? = some e) : seenT ts k e.name = !freshT ts k := by unfold seenT freshT; simp only [h]; congr 1
theorem BMap.made2 (w : World) (o : Obj) : BMap ((w.alloc o).alloc (.map #[] 0)) (w.heap.size + 1) 0 (fun _ => false) := by
  have := BMap.made (w.alloc o)
  rwa [World.size_alloc] at this
theorem isNameB_le {s : ByteArray} (h : isNameB s = true) : s.size ≤ 12 := by
  simp [isNameB] at h; exact h.2
set_option maxHeartbeats 4000000 in
theorem ValidSet_any (G T : Option Addr) (n cg m ct : Nat) (gs : List Gl) (ts : List Ti) (w : World) (hG : RdSl 2 RGl w G n gs) (hT : RdSl 2 RTi w T m ts) (hgm : n ≤ 281474976710656) (htm : m ≤ 281474976710656)
    (hgn : ∀ (k : Nat) (e : Gl), gs[k]? = some e → e.name.size ≤ 9223372036854775807) (htn : ∀ (k : Nat) (e : Ti), ts[k]? = some e → e.name.size ≤ 9223372036854775807 ∧ e.sides.length ≤ 9223372036854775807) :
    Calls Tryz.prog 94 #[.agg #[.slice G n cg, .slice T m ct]] w fun e w' => e = .returned (.bool (validSetB gs ts)) ∧ Below w.heap.size w w' := by
  have hlg := hG.len
  have hlt' := hT.len
  have hgn := Lib.hid hgn
  have htn := Lib.hid htn
  have hmm := @run_makeMap Tryz.prog
  by_cases hz1 : n ≤ 200
  rotate_left
  · go_enter Tryz.func94, Tryz.ntmps94
    go_wp2_with (go_at_call 99; refine (within_any _ _ _ _).mono ?_; rintro e _ ⟨rfl, rfl⟩)
    go_ret
    exact ⟨ret_bool (validSetB_size (by omega)).symm, by repeat (first | with_reducible exact bl_refl _ | with_reducible assumption | with_reducible refine bl_al ?_ _ | with_reducible refine bl_dr ?_ | with_reducible refine bl_tr ?_ (by assumption) | with_reducible refine bl_set ?_ ?_ _ | with_reducible exact Nat.le_refl _ | omega | (simp only [World.size_alloc, World.size_setCell, World.size_drew] at *; omega) | (dsimp only; omega) | (simp; done) | (simp; omega))⟩
  cases hz2 : inB m 1 160
  · have hz2' := inB_false.1 hz2
    go_enter Tryz.func94, Tryz.ntmps94
    go_wp2_with (go_at_call 99; refine (within_any _ _ _ _).mono ?_; rintro e _ ⟨rfl, rfl⟩)
    go_ret
    exact ⟨ret_bool (validSetB_size (by omega)).symm, by repeat (first | with_reducible exact bl_refl _ | with_reducible assumption | with_reducible refine bl_al ?_ _ | with_reducible refine bl_dr ?_ | with_reducible refine bl_tr ?_ (by assumption) | with_reducible refine bl_set ?_ ?_ _ | with_reducible exact Nat.le_refl _ | omega | (simp only [World.size_alloc, World.size_setCell, World.size_drew] at *; omega) | (dsimp only; omega) | (simp; done) | (simp; omega))⟩
  have hz2' := inB_true.1 hz2
  go_enter Tryz.func94, Tryz.ntmps94
  go_wp2_with (go_at_call 99; refine (within_any _ _ _ _).mono ?_; rintro e _ ⟨rfl, rfl⟩)
  go_loopg [24] n (fun r x wr => ∃ k : Nat, k + r = n ∧ x = .int .i64 k ∧ (∀ j, j < k → okGl gs j = true) ∧ Below w.heap.size w wr ∧ BMap wr (w.heap.size + 1) k (seenG gs k) ∧
    wr.cell? ⟨w.heap.size, 0, none⟩ = some (.slice G n cg) ∧ wr.cell? ⟨w.heap.size, 1, none⟩ = some (.slice T m ct))
  case atStart => exact ⟨0, by omega, rfl, fun j hj => by omega, by repeat (first | with_reducible exact bl_refl _ | with_reducible assumption | with_reducible refine bl_al ?_ _ | with_reducible refine bl_dr ?_ | with_reducible refine bl_tr ?_ (by assumption) | with_reducible refine bl_set ?_ ?_ _ | with_reducible exact Nat.le_refl _ | omega | (simp only [World.size_alloc, World.size_setCell, World.size_drew] at *; omega) | (dsimp only; omega) | (simp; done) | (simp; omega)), (BMap.made2 _ _).say (fun s => rfl), by go_simp, by go_simp⟩
  case round =>
    obtain ⟨k, hk, rfl, hokX, hbw, hbm, g1, g3⟩ := hrel
    have hlts := hbm.lt
    have hlts' : w.heap.size < wr.heap.size := by omega
    have hokT := Lib.hid hokX
    clear hokX
    by_cases hkn : k < n
    · have hG' := hG.below RGl.stable hbw
      obtain ⟨b, o, rfl, hb, hc⟩ := hG'.ptr (by omega)
      obtain ⟨e, he⟩ := hG'.get hkn
      obtain ⟨c0, c1⟩ := hc k e he
      have hsz := hgn.out k e he
      have HK := Lib.hid (okGl_eq he)
      have HF := Lib.hid (freshG_seen he)
      have HS := Lib.hid (seenG_succ he)
      clear he hG' hc
      cases hv1 : isNameB e.name
      · go_wp2_with (go_at_call 107; refine (IsName_any _ _ hsz).mono ?_; rintro e _ ⟨rfl, rfl⟩)
        go_ret
        exact ⟨ret_bool (validSetB_gl (k := k) (by omega) (by rw [HK.out, hv1]; rfl)).symm, by repeat (first | with_reducible exact bl_refl _ | with_reducible assumption | with_reducible refine bl_al ?_ _ | with_reducible refine bl_dr ?_ | with_reducible refine bl_tr ?_ (by assumption) | with_reducible refine bl_set ?_ ?_ _ | with_reducible exact Nat.le_refl _ | omega | (simp only [World.size_alloc, World.size_setCell, World.size_drew] at *; omega) | (dsimp only; omega) | (simp; done) | (simp; omega))⟩
      · have hle := isNameB_le hv1
        cases hv3 : freshG gs k
        · have hsn : seenG gs k e.name = true := by rw [HF.out, hv3]; rfl
          go_wp2_with (first
            | (go_at_call 107; refine (IsName_any _ _ hsz).mono ?_; rintro e _ ⟨rfl, rfl⟩)
            | (at_lookup; go_must (refine wpList_lookup_names _ (by go_simp) _ _ rfl (w.heap.size + 1) k _ rfl (hbm.below (by repeat (first | with_reducible exact bl_refl _ | with_reducible assumption | with_reducible refine bl_al ?_ _ | with_reducible refine bl_dr ?_ | with_reducible refine bl_tr ?_ (by assumption) | with_reducible refine bl_set ?_ ?_ _ | with_reducible exact Nat.le_refl _ | omega | (simp only [World.size_alloc, World.size_setCell, World.size_drew] at *; omega) | (dsimp only; omega) | (simp; done) | (simp; omega)))) e.name (by unfold maxLen; omega) rfl ?_))
            | (go_at_call 99; refine (within_any _ _ _ _).mono ?_; rintro e _ ⟨rfl, rfl⟩))
          go_ret
          exact ⟨ret_bool (validSetB_gl (k := k) (by omega) (by rw [HK.out, hv1, hv3]; simp)).symm, by repeat (first | with_reducible exact bl_refl _ | with_reducible assumption | with_reducible refine bl_al ?_ _ | with_reducible refine bl_dr ?_ | with_reducible refine bl_tr ?_ (by assumption) | with_reducible refine bl_set ?_ ?_ _ | with_reducible exact Nat.le_refl _ | omega | (simp only [World.size_alloc, World.size_setCell, World.size_drew] at *; omega) | (dsimp only; omega) | (simp; done) | (simp; omega))⟩
        · have hsn : seenG gs k e.name = false := by rw [HF.out, hv3]; rfl
          cases hv2 : inB e.s 1 4
          · go_wp2_with (first
              | (go_at_call 107; refine (IsName_any _ _ hsz).mono ?_; rintro e _ ⟨rfl, rfl⟩)
              | (at_lookup; refine wpList_lookup_names _ (by go_simp) _ _ rfl (w.heap.size + 1) k _ rfl (hbm.below (by repeat (first | with_reducible exact bl_refl _ | with_reducible assumption | with_reducible refine bl_al ?_ _ | with_reducible refine bl_dr ?_ | with_reducible refine bl_tr ?_ (by assumption) | with_reducible refine bl_set ?_ ?_ _ | with_reducible exact Nat.le_refl _ | omega | (simp only [World.size_alloc, World.size_setCell, World.size_drew] at *; omega) | (dsimp only; omega) | (simp; done) | (simp; omega)))) e.name (by unfold maxLen; omega) rfl ?_)
              | (go_at_call 99; refine (within_any _ _ _ _).mono ?_; rintro e _ ⟨rfl, rfl⟩))
            go_ret
            exact ⟨ret_bool (validSetB_gl (k := k) (by omega) (by rw [HK.out, hv1, hv2]; rfl)).symm, by repeat (first | with_reducible exact bl_refl _ | with_reducible assumption | with_reducible refine bl_al ?_ _ | with_reducible refine bl_dr ?_ | with_reducible refine bl_tr ?_ (by assumption) | with_reducible refine bl_set ?_ ?_ _ | with_reducible exact Nat.le_refl _ | omega | (simp only [World.size_alloc, World.size_setCell, World.size_drew] at *; omega) | (dsimp only; omega) | (simp; done) | (simp; omega))⟩
          · go_wp2_with (first
              | (go_at_call 107; refine (IsName_any _ _ hsz).mono ?_; rintro e _ ⟨rfl, rfl⟩)
              | (at_lookup; refine wpList_lookup_names _ (by go_simp) _ _ rfl (w.heap.size + 1) k _ rfl (hbm.below (by repeat (first | with_reducible exact bl_refl _ | with_reducible assumption | with_reducible refine bl_al ?_ _ | with_reducible refine bl_dr ?_ | with_reducible refine bl_tr ?_ (by assumption) | with_reducible refine bl_set ?_ ?_ _ | with_reducible exact Nat.le_refl _ | omega | (simp only [World.size_alloc, World.size_setCell, World.size_drew] at *; omega) | (dsimp only; omega) | (simp; done) | (simp; omega)))) e.name (by unfold maxLen; omega) rfl ?_)
              | (at_mapUpdate; refine wpList_update_names _ rfl _ _ _ rfl (w.heap.size + 1) k _ rfl (hbm.below (by repeat (first | with_reducible exact bl_refl _ | with_reducible assumption | with_reducible refine bl_al ?_ _ | with_reducible refine bl_dr ?_ | with_reducible refine bl_tr ?_ (by assumption) | with_reducible refine bl_set ?_ ?_ _ | with_reducible exact Nat.le_refl _ | omega | (simp only [World.size_alloc, World.size_setCell, World.size_drew] at *; omega) | (dsimp only; omega) | (simp; done) | (simp; omega)))) e.name (by unfold maxLen; omega) (by unfold maxLen; omega) rfl rfl ?_; intro w1 hbm1 hb1 hk1; have q1 := hk1 wr.heap.size 1 (by omega) (by simp))
              | (go_at_call 99; refine (within_any _ _ _ _).mono ?_; rintro e _ ⟨rfl, rfl⟩))
            go_roundg (n - (k + 1))
            case measure => omega
            case rel => exact ⟨k + 1, by omega, by go_num, fun j hj => (by rcases Nat.lt_succ_iff_lt_or_eq.1 hj with hj | rfl; exact hokT.out j hj; rw [HK.out, hv1, hv2, hv3]; rfl), Below.trans (by repeat (first | with_reducible exact bl_refl _ | with_reducible assumption | with_reducible refine bl_al ?_ _ | with_reducible refine bl_dr ?_ | with_reducible refine bl_tr ?_ (by assumption) | with_reducible refine bl_set ?_ ?_ _ | with_reducible exact Nat.le_refl _ | omega | (simp only [World.size_alloc, World.size_setCell, World.size_drew] at *; omega) | (dsimp only; omega) | (simp; done) | (simp; omega))) (hb1.mono (by omega)), hbm1.say HS.out, (hb1.cell (p := ⟨w.heap.size, 0, none⟩) (Nat.lt_succ_self _)).trans (by go_simp), (hb1.cell (p := ⟨w.heap.size, 1, none⟩) (Nat.lt_succ_self _)).trans (by go_simp)⟩
    · obtain rfl : n = k := by omega
      have hokG := Lib.hid (fun (j : Nat) (hj : j < gs.length) => hokT.out j (by omega))
      clear hokT
      go_wp2
      obtain ⟨wx, hwx⟩ : ∃ wx, wx = wr := ⟨_, rfl⟩
      subst hwx
      clear hbm
      have hlen : gs.length = n := by omega
      go_loopg [52] m (fun r x wr => ∃ k : Nat, k + r = m ∧ x = .int .i64 k ∧ (∀ j, j < k → okTi gs.length ts j = true) ∧ Below w.heap.size w wr ∧ BMap wr wx.heap.size k (seenT ts k) ∧
        wr.cell? ⟨w.heap.size, 0, none⟩ = some (.slice G n cg) ∧ wr.cell? ⟨w.heap.size, 1, none⟩ = some (.slice T m ct))
      case atStart => exact ⟨0, by omega, rfl, fun j hj => by omega, by repeat (first | with_reducible exact bl_refl _ | with_reducible assumption | with_reducible refine bl_al ?_ _ | with_reducible refine bl_dr ?_ | with_reducible refine bl_tr ?_ (by assumption) | with_reducible refine bl_set ?_ ?_ _ | with_reducible exact Nat.le_refl _ | omega | (simp only [World.size_alloc, World.size_setCell, World.size_drew] at *; omega) | (dsimp only; omega) | (simp; done) | (simp; omega)), (BMap.made _).say (fun s => rfl), by go_simp, by go_simp⟩
      case round =>
        obtain ⟨k, hk, rfl, hokX, hbw2, hbm, g1, g3⟩ := hrel
        have hlt2 := hbm.lt
        have hlt2' : w.heap.size < wr.heap.size := by omega
        have hokT := Lib.hid hokX
        clear hokX
        by_cases hkn : k < m
        · obtain ⟨b, o, rfl, hb, hc⟩ := hT.ptr (by omega)
          obtain ⟨e, he⟩ := hT.get hkn
          obtain ⟨c0w, SA, sn, sc, c1w, hss⟩ := hc k e he
          have c0 := (hbw2.cell (p := ⟨b, o + k * 2, none⟩) hb).trans c0w
          have c1 := (hbw2.cell (p := ⟨b, o + k * 2 + 1, none⟩) hb).trans c1w
          have hb' := Nat.lt_of_lt_of_le hb hbw2.size
          clear c0w c1w
          obtain ⟨hsz, hsz2⟩ := htn.out k e he
          have hsl := hss.len
          have HK := Lib.hid (okTi_eq (n := gs.length) he)
          have HF := Lib.hid (freshT_seen he)
          have HS := Lib.hid (seenT_succ he)
          have hssh := Lib.hid hss
          clear he hc hss
          cases hv1 : isNameB e.name
          · go_wp2_with (go_at_call 107; refine (IsName_any _ _ hsz).mono ?_; rintro e _ ⟨rfl, rfl⟩)
            go_ret
            exact ⟨ret_bool (validSetB_ti (k := k) (by omega) (by rw [HK.out, hv1]; rfl)).symm, by repeat (first | with_reducible exact bl_refl _ | with_reducible assumption | with_reducible refine bl_al ?_ _ | with_reducible refine bl_dr ?_ | with_reducible refine bl_tr ?_ (by assumption) | with_reducible refine bl_set ?_ ?_ _ | with_reducible exact Nat.le_refl _ | omega | (simp only [World.size_alloc, World.size_setCell, World.size_drew] at *; omega) | (dsimp only; omega) | (simp; done) | (simp; omega))⟩
          · have hle := isNameB_le hv1
            cases hv3 : freshT ts k
            · have hsn : seenT ts k e.name = true := by rw [HF.out, hv3]; rfl
              go_wp2_with (first
                | (go_at_call 107; refine (IsName_any _ _ hsz).mono ?_; rintro e _ ⟨rfl, rfl⟩)
                | (at_lookup; refine wpList_lookup_names _ (by go_simp) _ _ rfl wx.heap.size k _ rfl (hbm.below (by repeat (first | with_reducible exact bl_refl _ | with_reducible assumption | with_reducible refine bl_al ?_ _ | with_reducible refine bl_dr ?_ | with_reducible refine bl_tr ?_ (by assumption) | with_reducible refine bl_set ?_ ?_ _ | with_reducible exact Nat.le_refl _ | omega | (simp only [World.size_alloc, World.size_setCell, World.size_drew] at *; omega) | (dsimp only; omega) | (simp; done) | (simp; omega)))) e.name (by unfold maxLen; omega) rfl ?_))
              go_ret
              exact ⟨ret_bool (validSetB_ti (k := k) (by omega) (by rw [HK.out, hv1, hv3]; simp)).symm, by repeat (first | with_reducible exact bl_refl _ | with_reducible assumption | with_reducible refine bl_al ?_ _ | with_reducible refine bl_dr ?_ | with_reducible refine bl_tr ?_ (by assumption) | with_reducible refine bl_set ?_ ?_ _ | with_reducible exact Nat.le_refl _ | omega | (simp only [World.size_alloc, World.size_setCell, World.size_drew] at *; omega) | (dsimp only; omega) | (simp; done) | (simp; omega))⟩
            · have hsn : seenT ts k e.name = false := by rw [HF.out, hv3]; rfl
              by_cases h4 : sn = 4
              · have hsl4 : decide (e.sides.length = 4) = true := decide_eq_true (by omega)
                subst h4
                cases hv4 : allB 4 (okSide n e.sides)
                · go_wp2_with (first
                    | (go_at_call 107; refine (IsName_any _ _ hsz).mono ?_; rintro e _ ⟨rfl, rfl⟩)
                    | (at_lookup; refine wpList_lookup_names _ (by go_simp) _ _ rfl wx.heap.size k _ rfl (hbm.below (by repeat (first | with_reducible exact bl_refl _ | with_reducible assumption | with_reducible refine bl_al ?_ _ | with_reducible refine bl_dr ?_ | with_reducible refine bl_tr ?_ (by assumption) | with_reducible refine bl_set ?_ ?_ _ | with_reducible exact Nat.le_refl _ | omega | (simp only [World.size_alloc, World.size_setCell, World.size_drew] at *; omega) | (dsimp only; omega) | (simp; done) | (simp; omega)))) e.name (by unfold maxLen; omega) rfl ?_)
                    | (at_mapUpdate; refine wpList_update_names _ rfl _ _ _ rfl wx.heap.size k _ rfl (hbm.below (by repeat (first | with_reducible exact bl_refl _ | with_reducible assumption | with_reducible refine bl_al ?_ _ | with_reducible refine bl_dr ?_ | with_reducible refine bl_tr ?_ (by assumption) | with_reducible refine bl_set ?_ ?_ _ | with_reducible exact Nat.le_refl _ | omega | (simp only [World.size_alloc, World.size_setCell, World.size_drew] at *; omega) | (dsimp only; omega) | (simp; done) | (simp; omega)))) e.name (by unfold maxLen; omega) (by unfold maxLen; omega) rfl rfl ?_; intro w1 hbm1 hb1 hk1; have q1 := hk1 wr.heap.size 1 (by omega) (by simp)))
                  have z0 : w1.cell? ⟨w.heap.size, 0, none⟩ = some (.slice G n cg) := (hb1.cell (p := ⟨w.heap.size, 0, none⟩) hlts').trans (by go_simp)
                  have z4 : w1.cell? ⟨w.heap.size, 1, none⟩ = some (.slice (some ⟨b, o, none⟩) m ct) := (hb1.cell (p := ⟨w.heap.size, 1, none⟩) hlts').trans (by go_simp)
                  have z1 : w.heap.size < w1.heap.size := by have := hb1.size; simp at this; omega
                  have z2 : Below w.heap.size w w1 := by
                    refine Below.trans ?_ (hb1.mono (by omega))
                    repeat (first | with_reducible exact bl_refl _ | with_reducible assumption | with_reducible refine bl_al ?_ _ | with_reducible refine bl_dr ?_ | with_reducible refine bl_tr ?_ (by assumption) | with_reducible refine bl_set ?_ ?_ _ | with_reducible exact Nat.le_refl _ | omega | (simp only [World.size_alloc, World.size_setCell, World.size_drew] at *; omega) | (dsimp only; omega) | (simp; done) | (simp; omega))
                  have z3 := hssh.out.below RInt.stable z2
                  refine (ContainsFuncI_any _ _ _ _ _ _ _ e.sides _ z0 z1 z3 (by omega)).mono ?_
                  rintro _ w3 ⟨rfl, hb3⟩
                  clear z3
                  go_wp2
                  go_ret
                  exact ⟨ret_bool (validSetB_ti (k := k) (by omega) (by rw [HK.out, hv1, hsl4, hv3, hsl, hlen, hv4]; rfl)).symm, z2.trans (hb3.mono (by omega))⟩
                · go_wp2_with (first
                    | (go_at_call 107; refine (IsName_any _ _ hsz).mono ?_; rintro e _ ⟨rfl, rfl⟩)
                    | (at_lookup; refine wpList_lookup_names _ (by go_simp) _ _ rfl wx.heap.size k _ rfl (hbm.below (by repeat (first | with_reducible exact bl_refl _ | with_reducible assumption | with_reducible refine bl_al ?_ _ | with_reducible refine bl_dr ?_ | with_reducible refine bl_tr ?_ (by assumption) | with_reducible refine bl_set ?_ ?_ _ | with_reducible exact Nat.le_refl _ | omega | (simp only [World.size_alloc, World.size_setCell, World.size_drew] at *; omega) | (dsimp only; omega) | (simp; done) | (simp; omega)))) e.name (by unfold maxLen; omega) rfl ?_)
                    | (at_mapUpdate; refine wpList_update_names _ rfl _ _ _ rfl wx.heap.size k _ rfl (hbm.below (by repeat (first | with_reducible exact bl_refl _ | with_reducible assumption | with_reducible refine bl_al ?_ _ | with_reducible refine bl_dr ?_ | with_reducible refine bl_tr ?_ (by assumption) | with_reducible refine bl_set ?_ ?_ _ | with_reducible exact Nat.le_refl _ | omega | (simp only [World.size_alloc, World.size_setCell, World.size_drew] at *; omega) | (dsimp only; omega) | (simp; done) | (simp; omega)))) e.name (by unfold maxLen; omega) (by unfold maxLen; omega) rfl rfl ?_; intro w1 hbm1 hb1 hk1; have q1 := hk1 wr.heap.size 1 (by omega) (by simp)))
                  have z0 : w1.cell? ⟨w.heap.size, 0, none⟩ = some (.slice G n cg) := (hb1.cell (p := ⟨w.heap.size, 0, none⟩) hlts').trans (by go_simp)
                  have z4 : w1.cell? ⟨w.heap.size, 1, none⟩ = some (.slice (some ⟨b, o, none⟩) m ct) := (hb1.cell (p := ⟨w.heap.size, 1, none⟩) hlts').trans (by go_simp)
                  have z1 : w.heap.size < w1.heap.size := by have := hb1.size; simp at this; omega
                  have z2 : Below w.heap.size w w1 := by
                    refine Below.trans ?_ (hb1.mono (by omega))
                    repeat (first | with_reducible exact bl_refl _ | with_reducible assumption | with_reducible refine bl_al ?_ _ | with_reducible refine bl_dr ?_ | with_reducible refine bl_tr ?_ (by assumption) | with_reducible refine bl_set ?_ ?_ _ | with_reducible exact Nat.le_refl _ | omega | (simp only [World.size_alloc, World.size_setCell, World.size_drew] at *; omega) | (dsimp only; omega) | (simp; done) | (simp; omega))
                  have z3 := hssh.out.below RInt.stable z2
                  refine (ContainsFuncI_any _ _ _ _ _ _ _ e.sides _ z0 z1 z3 (by omega)).mono ?_
                  rintro _ w3 ⟨rfl, hb3⟩
                  clear z3
                  go_wp2
                  go_roundg (m - (k + 1))
                  case measure => omega
                  case rel => exact ⟨k + 1, by omega, by go_num, fun j hj => (by rcases Nat.lt_succ_iff_lt_or_eq.1 hj with hj | rfl; exact hokT.out j hj; rw [HK.out, hv1, hsl4, hv3, hsl, hlen, hv4]; rfl), z2.trans (hb3.mono (by omega)), (hbm1.below hb3).say HS.out, (hb3.cell (p := ⟨w.heap.size, 0, none⟩) z1).trans z0, (hb3.cell (p := ⟨w.heap.size, 1, none⟩) z1).trans z4⟩
              · have hsl4 : decide (e.sides.length = 4) = false := decide_eq_false (by omega)
                have h4' : ((sn : Int) != 4) = true := by simp; omega
                go_wp2_with (first
                  | (go_at_call 107; refine (IsName_any _ _ hsz).mono ?_; rintro e _ ⟨rfl, rfl⟩)
                  | (at_lookup; refine wpList_lookup_names _ (by go_simp) _ _ rfl wx.heap.size k _ rfl (hbm.below (by repeat (first | with_reducible exact bl_refl _ | with_reducible assumption | with_reducible refine bl_al ?_ _ | with_reducible refine bl_dr ?_ | with_reducible refine bl_tr ?_ (by assumption) | with_reducible refine bl_set ?_ ?_ _ | with_reducible exact Nat.le_refl _ | omega | (simp only [World.size_alloc, World.size_setCell, World.size_drew] at *; omega) | (dsimp only; omega) | (simp; done) | (simp; omega)))) e.name (by unfold maxLen; omega) rfl ?_))
                go_ret
                exact ⟨ret_bool (validSetB_ti (k := k) (by omega) (by rw [HK.out, hv1, hsl4]; rfl)).symm, by repeat (first | with_reducible exact bl_refl _ | with_reducible assumption | with_reducible refine bl_al ?_ _ | with_reducible refine bl_dr ?_ | with_reducible refine bl_tr ?_ (by assumption) | with_reducible refine bl_set ?_ ?_ _ | with_reducible exact Nat.le_refl _ | omega | (simp only [World.size_alloc, World.size_setCell, World.size_drew] at *; omega) | (dsimp only; omega) | (simp; done) | (simp; omega))⟩
        · obtain rfl : m = k := by omega
          go_wp2
          go_ret
          exact ⟨ret_bool (validSetB_ok (by omega) (by omega) (by omega) hokG.out (fun j hj => hokT.out j (by omega))).symm, by repeat (first | with_reducible exact bl_refl _ | with_reducible assumption | with_reducible refine bl_al ?_ _ | with_reducible refine bl_dr ?_ | with_reducible refine bl_tr ?_ (by assumption) | with_reducible refine bl_set ?_ ?_ _ | with_reducible exact Nat.le_refl _ | omega | (simp only [World.size_alloc, World.size_setCell, World.size_drew] at *; omega) | (dsimp only; omega) | (simp; done) | (simp; omega))⟩
end Go.Proofs.YtfabgnnpgepcoaaGreat
/- Walks: the checks of an assembly. -/

namespace Go.Proofs.YtfabgnnpgepcoaaGreat
open Go.RowKit
set_option linter.unusedSimpArgs false
set_option linter.unusedVariables false
attribute [local go_sem] BelowBy.cell BelowBy.cell_drew stillUpon givesUpon
/-- what the program asks of a set and an assembly -/
def validAsmB (gs : List Gl) (ts : List Ti) (xs : List Pl) : Bool := validSetB gs ts && (hasFormB xs && allB xs.length (okTile ts.length xs))
set_option maxHeartbeats 1000000 in
theorem ValidAssembly_any (G T A : Option Addr) (n cg m ct q ca : Nat) (gs : List Gl) (ts : List Ti) (xs : List Pl) (w : World) (hG : RdSl 2 RGl w G n gs) (hT : RdSl 2 RTi w T m ts) (hA : RdSl 3 RPl w A q xs) (hgm : n ≤ 281474976710656) (htm : m ≤ 281474976710656) (hq : q ≤ 1073741824)
    (hgn : ∀ (k : Nat) (e : Gl), gs[k]? = some e → e.name.size ≤ 9223372036854775807) (htn : ∀ (k : Nat) (e : Ti), ts[k]? = some e → e.name.size ≤ 9223372036854775807 ∧ e.sides.length ≤ 9223372036854775807) :
    Calls Tryz.prog 76 #[.agg #[.slice G n cg, .slice T m ct], .agg #[.slice A q ca]] w fun e w' => e = .returned (.bool (validAsmB gs ts xs)) ∧ Below w.heap.size w w' := by
  have hlt := hT.len
  have hla := hA.len
  have hgn := Lib.hid hgn
  have htn := Lib.hid htn
  cases hv : validSetB gs ts
  · 
    go_enter Tryz.func76, Tryz.ntmps76
    go_wp2_with (go_at_call 94; refine (ValidSet_any _ _ _ _ _ _ gs ts _ (hG.below RGl.stable (by repeat (first | with_reducible exact bl_refl _ | with_reducible assumption | with_reducible refine bl_al ?_ _ | with_reducible refine bl_dr ?_ | with_reducible refine bl_tr ?_ (by assumption) | with_reducible refine bl_set ?_ ?_ _ | with_reducible exact Nat.le_refl _ | omega | (simp only [World.size_alloc, World.size_setCell, World.size_drew] at *; omega) | (dsimp only; omega) | (simp; done) | (simp; omega)))) (hT.below RTi.stable (by repeat (first | with_reducible exact bl_refl _ | with_reducible assumption | with_reducible refine bl_al ?_ _ | with_reducible refine bl_dr ?_ | with_reducible refine bl_tr ?_ (by assumption) | with_reducible refine bl_set ?_ ?_ _ | with_reducible exact Nat.le_refl _ | omega | (simp only [World.size_alloc, World.size_setCell, World.size_drew] at *; omega) | (dsimp only; omega) | (simp; done) | (simp; omega)))) hgm htm hgn.out htn.out).mono ?_; rintro e w1 ⟨rfl, hb1⟩; obtain ⟨chb1, fhb1, shb1, thb1⟩ := bcell hb1; (try have bhb10 := shb1 (w.heap.size) (by go_simp)))
    go_ret
    exact ⟨ret_bool (by unfold validAsmB; rw [hv]; rfl), by repeat (first | with_reducible exact bl_refl _ | with_reducible assumption | with_reducible refine bl_al ?_ _ | with_reducible refine bl_dr ?_ | with_reducible refine bl_tr ?_ (by assumption) | with_reducible refine bl_set ?_ ?_ _ | with_reducible exact Nat.le_refl _ | omega | (simp only [World.size_alloc, World.size_setCell, World.size_drew] at *; omega) | (dsimp only; omega) | (simp; done) | (simp; omega))⟩
  · have hm : m ≤ 160 := by
      unfold validSetB at hv; simp at hv; omega
    cases hf : hasFormB xs
    · 
      go_enter Tryz.func76, Tryz.ntmps76
      go_wp2_with (first
        | (go_at_call 94; refine (ValidSet_any _ _ _ _ _ _ gs ts _ (hG.below RGl.stable (by repeat (first | with_reducible exact bl_refl _ | with_reducible assumption | with_reducible refine bl_al ?_ _ | with_reducible refine bl_dr ?_ | with_reducible refine bl_tr ?_ (by assumption) | with_reducible refine bl_set ?_ ?_ _ | with_reducible exact Nat.le_refl _ | omega | (simp only [World.size_alloc, World.size_setCell, World.size_drew] at *; omega) | (dsimp only; omega) | (simp; done) | (simp; omega)))) (hT.below RTi.stable (by repeat (first | with_reducible exact bl_refl _ | with_reducible assumption | with_reducible refine bl_al ?_ _ | with_reducible refine bl_dr ?_ | with_reducible refine bl_tr ?_ (by assumption) | with_reducible refine bl_set ?_ ?_ _ | with_reducible exact Nat.le_refl _ | omega | (simp only [World.size_alloc, World.size_setCell, World.size_drew] at *; omega) | (dsimp only; omega) | (simp; done) | (simp; omega)))) hgm htm hgn.out htn.out).mono ?_; rintro e w1 ⟨rfl, hb1⟩; obtain ⟨chb1, fhb1, shb1, thb1⟩ := bcell hb1; (try have bhb10 := shb1 (w.heap.size) (by go_simp)); (try have bhb11 := shb1 (w.heap.size + 1) (by go_simp)))
        | (go_at_call 95; refine (hasForm_any _ _ _ xs _ (hA.below RPl.stable (by repeat (first | with_reducible exact bl_refl _ | with_reducible assumption | with_reducible refine bl_al ?_ _ | with_reducible refine bl_dr ?_ | with_reducible refine bl_tr ?_ (by assumption) | with_reducible refine bl_set ?_ ?_ _ | with_reducible exact Nat.le_refl _ | omega | (simp only [World.size_alloc, World.size_setCell, World.size_drew] at *; omega) | (dsimp only; omega) | (simp; done) | (simp; omega)))) hq).mono ?_; rintro e w2 ⟨rfl, hb2⟩; obtain ⟨chb2, fhb2, shb2, thb2⟩ := bcell hb2; (try have bhb20 := shb2 (w.heap.size) (by go_simp)); (try have bhb21 := shb2 (w.heap.size + 1) (by go_simp))))
      go_ret
      exact ⟨ret_bool (by unfold validAsmB; rw [hv, hf]; rfl), by repeat (first | with_reducible exact bl_refl _ | with_reducible assumption | with_reducible refine bl_al ?_ _ | with_reducible refine bl_dr ?_ | with_reducible refine bl_tr ?_ (by assumption) | with_reducible refine bl_set ?_ ?_ _ | with_reducible exact Nat.le_refl _ | omega | (simp only [World.size_alloc, World.size_setCell, World.size_drew] at *; omega) | (dsimp only; omega) | (simp; done) | (simp; omega))⟩
    · cases ht : allB q (okTile m xs)
      all_goals
        go_enter Tryz.func76, Tryz.ntmps76
        go_wp2_with (first
          | (go_at_call 94; refine (ValidSet_any _ _ _ _ _ _ gs ts _ (hG.below RGl.stable (by repeat (first | with_reducible exact bl_refl _ | with_reducible assumption | with_reducible refine bl_al ?_ _ | with_reducible refine bl_dr ?_ | with_reducible refine bl_tr ?_ (by assumption) | with_reducible refine bl_set ?_ ?_ _ | with_reducible exact Nat.le_refl _ | omega | (simp only [World.size_alloc, World.size_setCell, World.size_drew] at *; omega) | (dsimp only; omega) | (simp; done) | (simp; omega)))) (hT.below RTi.stable (by repeat (first | with_reducible exact bl_refl _ | with_reducible assumption | with_reducible refine bl_al ?_ _ | with_reducible refine bl_dr ?_ | with_reducible refine bl_tr ?_ (by assumption) | with_reducible refine bl_set ?_ ?_ _ | with_reducible exact Nat.le_refl _ | omega | (simp only [World.size_alloc, World.size_setCell, World.size_drew] at *; omega) | (dsimp only; omega) | (simp; done) | (simp; omega)))) hgm htm hgn.out htn.out).mono ?_; rintro e w1 ⟨rfl, hb1⟩; obtain ⟨chb1, fhb1, shb1, thb1⟩ := bcell hb1; (try have bhb10 := shb1 (w.heap.size) (by go_simp)); (try have bhb11 := shb1 (w.heap.size + 1) (by go_simp)))
          | (go_at_call 95; refine (hasForm_any _ _ _ xs _ (hA.below RPl.stable (by repeat (first | with_reducible exact bl_refl _ | with_reducible assumption | with_reducible refine bl_al ?_ _ | with_reducible refine bl_dr ?_ | with_reducible refine bl_tr ?_ (by assumption) | with_reducible refine bl_set ?_ ?_ _ | with_reducible exact Nat.le_refl _ | omega | (simp only [World.size_alloc, World.size_setCell, World.size_drew] at *; omega) | (dsimp only; omega) | (simp; done) | (simp; omega)))) hq).mono ?_; rintro e w2 ⟨rfl, hb2⟩; obtain ⟨chb2, fhb2, shb2, thb2⟩ := bcell hb2; (try have bhb20 := shb2 (w.heap.size) (by go_simp)); (try have bhb21 := shb2 (w.heap.size + 1) (by go_simp))))
        refine (ContainsFuncP_any w.heap.size G T _ n cg m ct _ _ xs _ (by go_simp) (by go_simp) (by go_simp) (by omega) (hA.below RPl.stable (by repeat (first | with_reducible exact bl_refl _ | with_reducible assumption | with_reducible refine bl_al ?_ _ | with_reducible refine bl_dr ?_ | with_reducible refine bl_tr ?_ (by assumption) | with_reducible refine bl_set ?_ ?_ _ | with_reducible exact Nat.le_refl _ | omega | (simp only [World.size_alloc, World.size_setCell, World.size_drew] at *; omega) | (dsimp only; omega) | (simp; done) | (simp; omega)))) (by omega)).mono ?_
        rintro _ w3 ⟨rfl, hb3⟩
        go_wp2
        go_ret
        exact ⟨ret_bool (by unfold validAsmB; rw [hv, hf, hla, hlt, ht]; rfl), by repeat (first | with_reducible exact bl_refl _ | with_reducible assumption | with_reducible refine bl_al ?_ _ | with_reducible refine bl_dr ?_ | with_reducible refine bl_tr ?_ (by assumption) | with_reducible refine bl_set ?_ ?_ _ | with_reducible exact Nat.le_refl _ | omega | (simp only [World.size_alloc, World.size_setCell, World.size_drew] at *; omega) | (dsimp only; omega) | (simp; done) | (simp; omega))⟩
/-- An assembly lies in block p. -/
structure AsmAt (w : World) (p : Nat) (xs : List Pl) : Prop where
  lt : p < w.heap.size
  tl : ∃ A n c, w.cell? ⟨p, 0, none⟩ = some (.slice A n c) ∧ RdSl 3 RPl w A n xs
theorem AsmAt.below {w w' : World} {p : Nat} {xs : List Pl} (h : AsmAt w p xs) (hb : Below w.heap.size w w') : AsmAt w' p xs := by
  obtain ⟨A, n, c, h1, h2⟩ := h.tl
  exact ⟨Nat.lt_of_lt_of_le h.lt hb.size, ⟨A, n, c, (hb.cell (p := ⟨p, 0, none⟩) h.lt).trans h1, h2.below RPl.stable hb⟩⟩
theorem okPl_eq0 {xs : List Pl} {e : Pl} (h : xs[0]? = some e) : okPl xs 0 = (validPt e.x e.y && inB e.t 0 159) := by
  unfold okPl; rw [h]; simp
theorem okPl_eqS {xs : List Pl} {k : Nat} {e d : Pl} (h : xs[k + 1]? = some e) (hd : xs[k]? = some d) : okPl xs (k + 1) = (validPt e.x e.y && inB e.t 0 159 && lessPt d.x d.y e.x e.y) := by
  unfold okPl; rw [h]; simp only [hd]
theorem hasFormB_bad {xs : List Pl} {k : Nat} (hk : k < xs.length) (h : okPl xs k = false) : hasFormB xs = false := by
  unfold hasFormB; rw [allB_false hk h]; rfl
theorem hasFormB_ok {xs : List Pl} (h1 : xs.length ≤ 500) (h : ∀ j, j < xs.length → okPl xs j = true) : hasFormB xs = true := by
  unfold hasFormB; rw [allB_true h]; simpa using h1
theorem hasFormB_long {xs : List Pl} (h1 : ¬ xs.length ≤ 500) : hasFormB xs = false := by
  unfold hasFormB; rw [decide_eq_false h1]; simp
set_option maxHeartbeats 4000000 in
theorem l03Form_any (p : Nat) (xs : List Pl) (w : World) (h : AsmAt w p xs) (hq : xs.length ≤ 1073741824) :
    Calls Tryz.prog 90 #[.pointer (some ⟨p, 0, none⟩)] w fun e w' => e = .returned (.bool (hasFormB xs)) ∧ Below w.heap.size w w' := by
  obtain ⟨hlt, ⟨A, n, c, h1, h2⟩⟩ := id h
  have hla := h2.len
  
  by_cases hz1 : n ≤ 500
  rotate_left
  · go_enter Tryz.func90, Tryz.ntmps90
    go_wp2
    go_ret
    exact ⟨ret_bool (hasFormB_long (by omega)).symm, by repeat (first | with_reducible exact bl_refl _ | with_reducible assumption | with_reducible refine bl_al ?_ _ | with_reducible refine bl_dr ?_ | with_reducible refine bl_tr ?_ (by assumption) | with_reducible refine bl_set ?_ ?_ _ | with_reducible exact Nat.le_refl _ | omega | (simp only [World.size_alloc, World.size_setCell, World.size_drew] at *; omega) | (dsimp only; omega) | (simp; done) | (simp; omega))⟩
  go_enter Tryz.func90, Tryz.ntmps90
  go_wp2
  go_loopg [3] n (fun r x wr => ∃ k : Nat, k + r = n ∧ x = .int .i64 k ∧ (∀ j, j < k → okPl xs j = true) ∧ Below w.heap.size w wr)
  case atStart => exact ⟨0, by omega, rfl, fun j hj => by omega, by repeat (first | with_reducible exact bl_refl _ | with_reducible assumption | with_reducible refine bl_al ?_ _ | with_reducible refine bl_dr ?_ | with_reducible refine bl_tr ?_ (by assumption) | with_reducible refine bl_set ?_ ?_ _ | with_reducible exact Nat.le_refl _ | omega | (simp only [World.size_alloc, World.size_setCell, World.size_drew] at *; omega) | (dsimp only; omega) | (simp; done) | (simp; omega))⟩
  case round =>
    obtain ⟨k, hk, rfl, hokX, hbw⟩ := hrel
    have hset := h.below hbw
    obtain ⟨plt, ⟨A', n', c', g1, g2⟩⟩ := id hset
    have hset := Lib.hid hset
    obtain rfl : n' = n := by rw [← g2.len]; exact hla
    have hokT := Lib.hid hokX
    clear hokX h1 h2
    by_cases hkn : k < n'
    · obtain ⟨b, o, rfl, hb, hc⟩ := g2.ptr (by omega)
      obtain ⟨e, he⟩ := g2.get hkn
      obtain ⟨c0, c1, c2⟩ := hc k e he
      have hkz : k = 0 ∨ ∃ k', k = k' + 1 := by
        cases k with
        | zero => exact Or.inl rfl
        | succ k' => exact Or.inr ⟨k', rfl⟩
      rcases hkz with rfl | ⟨i, rfl⟩
      · have HK := Lib.hid (okPl_eq0 he)
        clear he hc g2
        simp only [Nat.zero_mul, Nat.add_zero] at c0 c1 c2
        cases hv1 : validPt e.x e.y
        · go_wp2
          refine wp_region_ord [(0, .q), (1, .q), (2, .g), (3, .q), (4, .q), (5, .q), (6, .q), (7, .g), (8, .q), (9, .q), (10, .q), (11, .q), (12, .q), (13, .q), (14, .q), (15, .q), (16, .q), (17, .q), (18, .q), (19, .q), (20, .q), (21, .q), (22, .q), (23, .q), (24, .q), (25, .g), (26, .q), (27, .q), (28, .q)] (by kernel_rfl) (by kernel_rfl) ?_
          simp only [pick, List.filterMap_cons, List.filterMap_nil, List.getElem?_toArray, List.getElem?_cons_zero, List.getElem?_cons_succ, Option.map_some]
          repeat (first
            | ((with_reducible refine wpD_p (fun K hK => ?_)); go_simp; refine hK _ ?_; clear hK K)
            | ((with_reducible refine wpD_q (fun K hK => ?_)); go_simp; (first | refine hK _ ?_ | (go_bits; refine hK _ ?_) | (go_bits; go_simp; refine hK _ ?_)); clear hK K)
            | ((with_reducible refine wpD_g (fun K hK => ?_)); go_simp; refine hK _ _ ?_; clear hK K)
            | ((with_reducible refine wpD_g (fun K hK => ?_)); go_simp; refine ⟨Grew.of_alloc _, hK _ _ ?_⟩; clear hK K)
            | ((with_reducible refine wpD_g (fun K hK => ?_)); go_simp; go_at_call 106; refine (l01Point_any _ _ _).mono ?_; rintro e w1 ⟨rfl, hb1⟩; refine ⟨_, rfl, hb1, hK _ _ ?_⟩; clear hK K; obtain ⟨chb1, fhb1, shb1, thb1⟩ := bcell hb1; (try have bhb10 := shb1 (wr.heap.size) (by go_simp)); (try have bhb11 := shb1 (b) (by go_simp)); (try have bhb12 := shb1 (p) (by go_simp)))
            | ((with_reducible refine wpD_g (fun K hK => ?_)); go_simp; go_at_call 46; refine (l00In_any _ _ _ _).mono ?_; rintro e _ ⟨rfl, rfl⟩; refine ⟨_, rfl, Below.refl _ _, hK _ _ ?_⟩; clear hK K)
            | ((with_reducible refine wpD_g (fun K hK => ?_)); go_simp; go_at_call 92; refine (sLessPoint_any _ _ _ _ _).mono ?_; rintro e w2 ⟨rfl, hb2⟩; refine ⟨_, rfl, hb2, hK _ _ ?_⟩; clear hK K; obtain ⟨chb2, fhb2, shb2, thb2⟩ := bcell hb2; (try have bhb20 := shb2 (wr.heap.size) (by go_simp)); (try have bhb21 := shb2 (b) (by go_simp)); (try have bhb22 := shb2 (p) (by go_simp))))
          with_reducible refine wpD_nil ?_
          go_wp2
          go_ret
          exact ⟨ret_bool (hasFormB_bad (k := 0) (by omega) (by rw [HK.out, hv1]; rfl)).symm, by repeat (first | with_reducible exact bl_refl _ | with_reducible assumption | with_reducible refine bl_al ?_ _ | with_reducible refine bl_dr ?_ | with_reducible refine bl_tr ?_ (by assumption) | with_reducible refine bl_set ?_ ?_ _ | with_reducible exact Nat.le_refl _ | omega | (simp only [World.size_alloc, World.size_setCell, World.size_drew] at *; omega) | (dsimp only; omega) | (simp; done) | (simp; omega))⟩
        · cases hv2 : inB e.t 0 159
          · go_wp2
            refine wp_region_ord [(0, .q), (1, .q), (2, .g), (3, .q), (4, .q), (5, .q), (6, .q), (7, .g), (8, .q), (9, .q), (10, .q), (11, .q), (12, .q), (13, .q), (14, .q), (15, .q), (16, .q), (17, .q), (18, .q), (19, .q), (20, .q), (21, .q), (22, .q), (23, .q), (24, .q), (25, .g), (26, .q), (27, .q), (28, .q)] (by kernel_rfl) (by kernel_rfl) ?_
            simp only [pick, List.filterMap_cons, List.filterMap_nil, List.getElem?_toArray, List.getElem?_cons_zero, List.getElem?_cons_succ, Option.map_some]
            repeat (first
              | ((with_reducible refine wpD_p (fun K hK => ?_)); go_simp; refine hK _ ?_; clear hK K)
              | ((with_reducible refine wpD_q (fun K hK => ?_)); go_simp; (first | refine hK _ ?_ | (go_bits; refine hK _ ?_) | (go_bits; go_simp; refine hK _ ?_)); clear hK K)
              | ((with_reducible refine wpD_g (fun K hK => ?_)); go_simp; refine hK _ _ ?_; clear hK K)
              | ((with_reducible refine wpD_g (fun K hK => ?_)); go_simp; refine ⟨Grew.of_alloc _, hK _ _ ?_⟩; clear hK K)
              | ((with_reducible refine wpD_g (fun K hK => ?_)); go_simp; go_at_call 106; refine (l01Point_any _ _ _).mono ?_; rintro e w1 ⟨rfl, hb1⟩; refine ⟨_, rfl, hb1, hK _ _ ?_⟩; clear hK K; obtain ⟨chb1, fhb1, shb1, thb1⟩ := bcell hb1; (try have bhb10 := shb1 (wr.heap.size) (by go_simp)); (try have bhb11 := shb1 (b) (by go_simp)); (try have bhb12 := shb1 (p) (by go_simp)))
              | ((with_reducible refine wpD_g (fun K hK => ?_)); go_simp; go_at_call 46; refine (l00In_any _ _ _ _).mono ?_; rintro e _ ⟨rfl, rfl⟩; refine ⟨_, rfl, Below.refl _ _, hK _ _ ?_⟩; clear hK K)
              | ((with_reducible refine wpD_g (fun K hK => ?_)); go_simp; go_at_call 92; refine (sLessPoint_any _ _ _ _ _).mono ?_; rintro e w2 ⟨rfl, hb2⟩; refine ⟨_, rfl, hb2, hK _ _ ?_⟩; clear hK K; obtain ⟨chb2, fhb2, shb2, thb2⟩ := bcell hb2; (try have bhb20 := shb2 (wr.heap.size) (by go_simp)); (try have bhb21 := shb2 (b) (by go_simp)); (try have bhb22 := shb2 (p) (by go_simp))))
            with_reducible refine wpD_nil ?_
            go_wp2
            go_ret
            exact ⟨ret_bool (hasFormB_bad (k := 0) (by omega) (by rw [HK.out, hv1, hv2]; rfl)).symm, by repeat (first | with_reducible exact bl_refl _ | with_reducible assumption | with_reducible refine bl_al ?_ _ | with_reducible refine bl_dr ?_ | with_reducible refine bl_tr ?_ (by assumption) | with_reducible refine bl_set ?_ ?_ _ | with_reducible exact Nat.le_refl _ | omega | (simp only [World.size_alloc, World.size_setCell, World.size_drew] at *; omega) | (dsimp only; omega) | (simp; done) | (simp; omega))⟩
          · go_wp2
            refine wp_region_ord [(0, .q), (1, .q), (2, .g), (3, .q), (4, .q), (5, .q), (6, .q), (7, .g), (8, .q), (9, .q), (10, .q), (11, .q), (12, .q), (13, .q), (14, .q), (15, .q), (16, .q), (17, .q), (18, .q), (19, .q), (20, .q), (21, .q), (22, .q), (23, .q), (24, .q), (25, .g), (26, .q), (27, .q), (28, .q)] (by kernel_rfl) (by kernel_rfl) ?_
            simp only [pick, List.filterMap_cons, List.filterMap_nil, List.getElem?_toArray, List.getElem?_cons_zero, List.getElem?_cons_succ, Option.map_some]
            repeat (first
              | ((with_reducible refine wpD_p (fun K hK => ?_)); go_simp; refine hK _ ?_; clear hK K)
              | ((with_reducible refine wpD_q (fun K hK => ?_)); go_simp; (first | refine hK _ ?_ | (go_bits; refine hK _ ?_) | (go_bits; go_simp; refine hK _ ?_)); clear hK K)
              | ((with_reducible refine wpD_g (fun K hK => ?_)); go_simp; refine hK _ _ ?_; clear hK K)
              | ((with_reducible refine wpD_g (fun K hK => ?_)); go_simp; refine ⟨Grew.of_alloc _, hK _ _ ?_⟩; clear hK K)
              | ((with_reducible refine wpD_g (fun K hK => ?_)); go_simp; go_at_call 106; refine (l01Point_any _ _ _).mono ?_; rintro e w1 ⟨rfl, hb1⟩; refine ⟨_, rfl, hb1, hK _ _ ?_⟩; clear hK K; obtain ⟨chb1, fhb1, shb1, thb1⟩ := bcell hb1; (try have bhb10 := shb1 (wr.heap.size) (by go_simp)); (try have bhb11 := shb1 (b) (by go_simp)); (try have bhb12 := shb1 (p) (by go_simp)))
              | ((with_reducible refine wpD_g (fun K hK => ?_)); go_simp; go_at_call 46; refine (l00In_any _ _ _ _).mono ?_; rintro e _ ⟨rfl, rfl⟩; refine ⟨_, rfl, Below.refl _ _, hK _ _ ?_⟩; clear hK K)
              | ((with_reducible refine wpD_g (fun K hK => ?_)); go_simp; go_at_call 92; refine (sLessPoint_any _ _ _ _ _).mono ?_; rintro e w2 ⟨rfl, hb2⟩; refine ⟨_, rfl, hb2, hK _ _ ?_⟩; clear hK K; obtain ⟨chb2, fhb2, shb2, thb2⟩ := bcell hb2; (try have bhb20 := shb2 (wr.heap.size) (by go_simp)); (try have bhb21 := shb2 (b) (by go_simp)); (try have bhb22 := shb2 (p) (by go_simp))))
            with_reducible refine wpD_nil ?_
            go_wp2
            go_roundg (n' - (0 + 1))
            case measure => omega
            case rel => exact ⟨0 + 1, by omega, by go_num, fun j hj => (by obtain rfl : j = 0 := by omega
                                                                           rw [HK.out, hv1, hv2]; rfl), by repeat (first | with_reducible exact bl_refl _ | with_reducible assumption | with_reducible refine bl_al ?_ _ | with_reducible refine bl_dr ?_ | with_reducible refine bl_tr ?_ (by assumption) | with_reducible refine bl_set ?_ ?_ _ | with_reducible exact Nat.le_refl _ | omega | (simp only [World.size_alloc, World.size_setCell, World.size_drew] at *; omega) | (dsimp only; omega) | (simp; done) | (simp; omega))⟩
      · obtain ⟨d, hd⟩ := g2.get (k := i) (by omega)
        obtain ⟨d0, d1, d2⟩ := hc i d hd
        have HK := Lib.hid (okPl_eqS he hd)
        have hi : i < n' := by omega
        have hpos : (0 : Int) < (i : Int) + 1 := by omega
        clear he hc g2 hd
        cases hv1 : validPt e.x e.y
        · go_wp2
          refine wp_region_ord [(0, .q), (1, .q), (2, .g), (3, .q), (4, .q), (5, .q), (6, .q), (7, .g), (8, .q), (9, .q), (10, .q), (11, .q), (12, .q), (13, .q), (14, .q), (15, .q), (16, .q), (17, .q), (18, .q), (19, .q), (20, .q), (21, .q), (22, .q), (23, .q), (24, .q), (25, .g), (26, .q), (27, .q), (28, .q)] (by kernel_rfl) (by kernel_rfl) ?_
          simp only [pick, List.filterMap_cons, List.filterMap_nil, List.getElem?_toArray, List.getElem?_cons_zero, List.getElem?_cons_succ, Option.map_some]
          repeat (first
            | ((with_reducible refine wpD_p (fun K hK => ?_)); go_simp; refine hK _ ?_; clear hK K)
            | ((with_reducible refine wpD_q (fun K hK => ?_)); go_simp; (first | refine hK _ ?_ | (go_bits; refine hK _ ?_) | (go_bits; go_simp; refine hK _ ?_)); clear hK K)
            | ((with_reducible refine wpD_g (fun K hK => ?_)); go_simp; refine hK _ _ ?_; clear hK K)
            | ((with_reducible refine wpD_g (fun K hK => ?_)); go_simp; refine ⟨Grew.of_alloc _, hK _ _ ?_⟩; clear hK K)
            | ((with_reducible refine wpD_g (fun K hK => ?_)); go_simp; go_at_call 106; refine (l01Point_any _ _ _).mono ?_; rintro e w1 ⟨rfl, hb1⟩; refine ⟨_, rfl, hb1, hK _ _ ?_⟩; clear hK K; obtain ⟨chb1, fhb1, shb1, thb1⟩ := bcell hb1; (try have bhb10 := shb1 (wr.heap.size) (by go_simp)); (try have bhb11 := shb1 (b) (by go_simp)); (try have bhb12 := shb1 (p) (by go_simp)))
            | ((with_reducible refine wpD_g (fun K hK => ?_)); go_simp; go_at_call 46; refine (l00In_any _ _ _ _).mono ?_; rintro e _ ⟨rfl, rfl⟩; refine ⟨_, rfl, Below.refl _ _, hK _ _ ?_⟩; clear hK K)
            | ((with_reducible refine wpD_g (fun K hK => ?_)); go_simp; go_at_call 92; refine (sLessPoint_any _ _ _ _ _).mono ?_; rintro e w2 ⟨rfl, hb2⟩; refine ⟨_, rfl, hb2, hK _ _ ?_⟩; clear hK K; obtain ⟨chb2, fhb2, shb2, thb2⟩ := bcell hb2; (try have bhb20 := shb2 (wr.heap.size) (by go_simp)); (try have bhb21 := shb2 (b) (by go_simp)); (try have bhb22 := shb2 (p) (by go_simp))))
          with_reducible refine wpD_nil ?_
          go_wp2
          go_ret
          exact ⟨ret_bool (hasFormB_bad (k := i + 1) (by omega) (by rw [HK.out, hv1]; rfl)).symm, by repeat (first | with_reducible exact bl_refl _ | with_reducible assumption | with_reducible refine bl_al ?_ _ | with_reducible refine bl_dr ?_ | with_reducible refine bl_tr ?_ (by assumption) | with_reducible refine bl_set ?_ ?_ _ | with_reducible exact Nat.le_refl _ | omega | (simp only [World.size_alloc, World.size_setCell, World.size_drew] at *; omega) | (dsimp only; omega) | (simp; done) | (simp; omega))⟩
        · cases hv2 : inB e.t 0 159
          · go_wp2
            refine wp_region_ord [(0, .q), (1, .q), (2, .g), (3, .q), (4, .q), (5, .q), (6, .q), (7, .g), (8, .q), (9, .q), (10, .q), (11, .q), (12, .q), (13, .q), (14, .q), (15, .q), (16, .q), (17, .q), (18, .q), (19, .q), (20, .q), (21, .q), (22, .q), (23, .q), (24, .q), (25, .g), (26, .q), (27, .q), (28, .q)] (by kernel_rfl) (by kernel_rfl) ?_
            simp only [pick, List.filterMap_cons, List.filterMap_nil, List.getElem?_toArray, List.getElem?_cons_zero, List.getElem?_cons_succ, Option.map_some]
            repeat (first
              | ((with_reducible refine wpD_p (fun K hK => ?_)); go_simp; refine hK _ ?_; clear hK K)
              | ((with_reducible refine wpD_q (fun K hK => ?_)); go_simp; (first | refine hK _ ?_ | (go_bits; refine hK _ ?_) | (go_bits; go_simp; refine hK _ ?_)); clear hK K)
              | ((with_reducible refine wpD_g (fun K hK => ?_)); go_simp; refine hK _ _ ?_; clear hK K)
              | ((with_reducible refine wpD_g (fun K hK => ?_)); go_simp; refine ⟨Grew.of_alloc _, hK _ _ ?_⟩; clear hK K)
              | ((with_reducible refine wpD_g (fun K hK => ?_)); go_simp; go_at_call 106; refine (l01Point_any _ _ _).mono ?_; rintro e w1 ⟨rfl, hb1⟩; refine ⟨_, rfl, hb1, hK _ _ ?_⟩; clear hK K; obtain ⟨chb1, fhb1, shb1, thb1⟩ := bcell hb1; (try have bhb10 := shb1 (wr.heap.size) (by go_simp)); (try have bhb11 := shb1 (b) (by go_simp)); (try have bhb12 := shb1 (p) (by go_simp)))
              | ((with_reducible refine wpD_g (fun K hK => ?_)); go_simp; go_at_call 46; refine (l00In_any _ _ _ _).mono ?_; rintro e _ ⟨rfl, rfl⟩; refine ⟨_, rfl, Below.refl _ _, hK _ _ ?_⟩; clear hK K)
              | ((with_reducible refine wpD_g (fun K hK => ?_)); go_simp; go_at_call 92; refine (sLessPoint_any _ _ _ _ _).mono ?_; rintro e w2 ⟨rfl, hb2⟩; refine ⟨_, rfl, hb2, hK _ _ ?_⟩; clear hK K; obtain ⟨chb2, fhb2, shb2, thb2⟩ := bcell hb2; (try have bhb20 := shb2 (wr.heap.size) (by go_simp)); (try have bhb21 := shb2 (b) (by go_simp)); (try have bhb22 := shb2 (p) (by go_simp))))
            with_reducible refine wpD_nil ?_
            go_wp2
            go_ret
            exact ⟨ret_bool (hasFormB_bad (k := i + 1) (by omega) (by rw [HK.out, hv1, hv2]; rfl)).symm, by repeat (first | with_reducible exact bl_refl _ | with_reducible assumption | with_reducible refine bl_al ?_ _ | with_reducible refine bl_dr ?_ | with_reducible refine bl_tr ?_ (by assumption) | with_reducible refine bl_set ?_ ?_ _ | with_reducible exact Nat.le_refl _ | omega | (simp only [World.size_alloc, World.size_setCell, World.size_drew] at *; omega) | (dsimp only; omega) | (simp; done) | (simp; omega))⟩
          · cases hv3 : lessPt d.x d.y e.x e.y
            · go_wp2
              refine wp_region_ord [(0, .q), (1, .q), (2, .g), (3, .q), (4, .q), (5, .q), (6, .q), (7, .g), (8, .q), (9, .q), (10, .q), (11, .q), (12, .q), (13, .q), (14, .q), (15, .q), (16, .q), (17, .q), (18, .q), (19, .q), (20, .q), (21, .q), (22, .q), (23, .q), (24, .q), (25, .g), (26, .q), (27, .q), (28, .q)] (by kernel_rfl) (by kernel_rfl) ?_
              simp only [pick, List.filterMap_cons, List.filterMap_nil, List.getElem?_toArray, List.getElem?_cons_zero, List.getElem?_cons_succ, Option.map_some]
              repeat (first
                | ((with_reducible refine wpD_p (fun K hK => ?_)); go_simp; refine hK _ ?_; clear hK K)
                | ((with_reducible refine wpD_q (fun K hK => ?_)); go_simp; (first | refine hK _ ?_ | (go_bits; refine hK _ ?_) | (go_bits; go_simp; refine hK _ ?_)); clear hK K)
                | ((with_reducible refine wpD_g (fun K hK => ?_)); go_simp; refine hK _ _ ?_; clear hK K)
                | ((with_reducible refine wpD_g (fun K hK => ?_)); go_simp; refine ⟨Grew.of_alloc _, hK _ _ ?_⟩; clear hK K)
                | ((with_reducible refine wpD_g (fun K hK => ?_)); go_simp; go_at_call 106; refine (l01Point_any _ _ _).mono ?_; rintro e w1 ⟨rfl, hb1⟩; refine ⟨_, rfl, hb1, hK _ _ ?_⟩; clear hK K; obtain ⟨chb1, fhb1, shb1, thb1⟩ := bcell hb1; (try have bhb10 := shb1 (wr.heap.size) (by go_simp)); (try have bhb11 := shb1 (b) (by go_simp)); (try have bhb12 := shb1 (p) (by go_simp)))
                | ((with_reducible refine wpD_g (fun K hK => ?_)); go_simp; go_at_call 46; refine (l00In_any _ _ _ _).mono ?_; rintro e _ ⟨rfl, rfl⟩; refine ⟨_, rfl, Below.refl _ _, hK _ _ ?_⟩; clear hK K)
                | ((with_reducible refine wpD_g (fun K hK => ?_)); go_simp; go_at_call 92; refine (sLessPoint_any _ _ _ _ _).mono ?_; rintro e w2 ⟨rfl, hb2⟩; refine ⟨_, rfl, hb2, hK _ _ ?_⟩; clear hK K; obtain ⟨chb2, fhb2, shb2, thb2⟩ := bcell hb2; (try have bhb20 := shb2 (wr.heap.size) (by go_simp)); (try have bhb21 := shb2 (b) (by go_simp)); (try have bhb22 := shb2 (p) (by go_simp))))
              with_reducible refine wpD_nil ?_
              go_wp2
              go_ret
              exact ⟨ret_bool (hasFormB_bad (k := i + 1) (by omega) (by rw [HK.out, hv1, hv2, hv3]; rfl)).symm, by repeat (first | with_reducible exact bl_refl _ | with_reducible assumption | with_reducible refine bl_al ?_ _ | with_reducible refine bl_dr ?_ | with_reducible refine bl_tr ?_ (by assumption) | with_reducible refine bl_set ?_ ?_ _ | with_reducible exact Nat.le_refl _ | omega | (simp only [World.size_alloc, World.size_setCell, World.size_drew] at *; omega) | (dsimp only; omega) | (simp; done) | (simp; omega))⟩
            · go_wp2
              refine wp_region_ord [(0, .q), (1, .q), (2, .g), (3, .q), (4, .q), (5, .q), (6, .q), (7, .g), (8, .q), (9, .q), (10, .q), (11, .q), (12, .q), (13, .q), (14, .q), (15, .q), (16, .q), (17, .q), (18, .q), (19, .q), (20, .q), (21, .q), (22, .q), (23, .q), (24, .q), (25, .g), (26, .q), (27, .q), (28, .q)] (by kernel_rfl) (by kernel_rfl) ?_
              simp only [pick, List.filterMap_cons, List.filterMap_nil, List.getElem?_toArray, List.getElem?_cons_zero, List.getElem?_cons_succ, Option.map_some]
              repeat (first
                | ((with_reducible refine wpD_p (fun K hK => ?_)); go_simp; refine hK _ ?_; clear hK K)
                | ((with_reducible refine wpD_q (fun K hK => ?_)); go_simp; (first | refine hK _ ?_ | (go_bits; refine hK _ ?_) | (go_bits; go_simp; refine hK _ ?_)); clear hK K)
                | ((with_reducible refine wpD_g (fun K hK => ?_)); go_simp; refine hK _ _ ?_; clear hK K)
                | ((with_reducible refine wpD_g (fun K hK => ?_)); go_simp; refine ⟨Grew.of_alloc _, hK _ _ ?_⟩; clear hK K)
                | ((with_reducible refine wpD_g (fun K hK => ?_)); go_simp; go_at_call 106; refine (l01Point_any _ _ _).mono ?_; rintro e w1 ⟨rfl, hb1⟩; refine ⟨_, rfl, hb1, hK _ _ ?_⟩; clear hK K; obtain ⟨chb1, fhb1, shb1, thb1⟩ := bcell hb1; (try have bhb10 := shb1 (wr.heap.size) (by go_simp)); (try have bhb11 := shb1 (b) (by go_simp)); (try have bhb12 := shb1 (p) (by go_simp)))
                | ((with_reducible refine wpD_g (fun K hK => ?_)); go_simp; go_at_call 46; refine (l00In_any _ _ _ _).mono ?_; rintro e _ ⟨rfl, rfl⟩; refine ⟨_, rfl, Below.refl _ _, hK _ _ ?_⟩; clear hK K)
                | ((with_reducible refine wpD_g (fun K hK => ?_)); go_simp; go_at_call 92; refine (sLessPoint_any _ _ _ _ _).mono ?_; rintro e w2 ⟨rfl, hb2⟩; refine ⟨_, rfl, hb2, hK _ _ ?_⟩; clear hK K; obtain ⟨chb2, fhb2, shb2, thb2⟩ := bcell hb2; (try have bhb20 := shb2 (wr.heap.size) (by go_simp)); (try have bhb21 := shb2 (b) (by go_simp)); (try have bhb22 := shb2 (p) (by go_simp))))
              with_reducible refine wpD_nil ?_
              go_wp2
              go_roundg (n' - ((i + 1) + 1))
              case measure => omega
              case rel => exact ⟨(i + 1) + 1, by omega, by go_num, fun j hj => (by rcases Nat.lt_succ_iff_lt_or_eq.1 hj with hj | rfl; exact hokT.out j hj; rw [HK.out, hv1, hv2, hv3]; rfl), by repeat (first | with_reducible exact bl_refl _ | with_reducible assumption | with_reducible refine bl_al ?_ _ | with_reducible refine bl_dr ?_ | with_reducible refine bl_tr ?_ (by assumption) | with_reducible refine bl_set ?_ ?_ _ | with_reducible exact Nat.le_refl _ | omega | (simp only [World.size_alloc, World.size_setCell, World.size_drew] at *; omega) | (dsimp only; omega) | (simp; done) | (simp; omega))⟩
    · obtain rfl : n' = k := by omega
      clear g2
      go_wp2
      go_ret
      exact ⟨ret_bool (hasFormB_ok (by omega) (fun j hj => hokT.out j (by omega))).symm, by repeat (first | with_reducible exact bl_refl _ | with_reducible assumption | with_reducible refine bl_al ?_ _ | with_reducible refine bl_dr ?_ | with_reducible refine bl_tr ?_ (by assumption) | with_reducible refine bl_set ?_ ?_ _ | with_reducible exact Nat.le_refl _ | omega | (simp only [World.size_alloc, World.size_setCell, World.size_drew] at *; omega) | (dsimp only; omega) | (simp; done) | (simp; omega))⟩
end Go.Proofs.YtfabgnnpgepcoaaGreat
