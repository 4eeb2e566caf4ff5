import Derived.Test.YtglcpphfmmnmkaaGreatDoorKT
import Derived.Test.YtglcpphfmmnmkaaGreatDoorKS
import Derived.Test.YtglcpphfmmnmkaaGreatDoorOrdApp
import Derived.Test.YtglcpphfmmnmkaaGreatDoorShelf
set_option linter.unusedSimpArgs false
set_option linter.unusedVariables false
/- Plain: the numbers that the east sides of a column tell. -/




namespace Go.Proofs.YtglcpphfmmnmkaaGreatDoor
open Go.RowKit
def maxL (a b c d : UInt8) : Int := if ([a, b, c] == [109, 97, 120]) = true ∧ digitI (d.toNat : Int) = true then (d.toNat : Int) - 48 else -1
/-- the digit behind the word max, or -1 -/
def maxI (s : ByteArray) : Int := match s.data.toList with
  | [a, b, c, d] => maxL a b c d
  | _ => -1
theorem bytesM {s : ByteArray} (h : s.size = 4) : ∃ a b c d : UInt8, s = { data := #[a, b, c, d] } := by
  obtain ⟨⟨l⟩⟩ := s
  have h : l.length = 4 := h
  match l, h with
  | [a, b, c, d], _ => exact ⟨a, b, c, d, rfl⟩
theorem maxI_ne {s : ByteArray} (h : ¬ s.size = 4) : maxI s = -1 := by
  obtain ⟨⟨l⟩⟩ := s
  have h : ¬ l.length = 4 := h
  unfold maxI
  match l, h with
  | [], _ => rfl
  | [_], _ => rfl
  | [_, _], _ => rfl
  | [_, _, _], _ => rfl
  | [_, _, _, _], h => exact (h rfl).elim
  | _ :: _ :: _ :: _ :: _ :: _, _ => rfl
theorem maxI_eq (a b c d : UInt8) : maxI { data := #[a, b, c, d] } = maxL a b c d := rfl
theorem maxL_w {a b c d : UInt8} (h : ([a, b, c] == ([109, 97, 120] : List UInt8)) = false) : maxL a b c d = -1 := by unfold maxL; rw [if_neg (by rw [h]; intro x; cases x.1)]
theorem maxL_d {a b c d : UInt8} (h : digitI (d.toNat : Int) = false) : maxL a b c d = -1 := by unfold maxL; rw [if_neg (by rw [h]; intro x; cases x.2)]
theorem maxL_y {a b c d : UInt8} (h : ([a, b, c] == ([109, 97, 120] : List UInt8)) = true) (h2 : digitI (d.toNat : Int) = true) : maxL a b c d = (d.toNat : Int) - 48 := by unfold maxL; rw [if_pos ⟨h, h2⟩]
/-- the name max and a digit -/
def numN (n : Nat) : ByteArray := { data := #[109, 97, 120, UInt8.ofNat (48 + n)] }
theorem maxI_num : ∀ n, n < 10 → maxI (numN n) = (n : Int) := by decide
theorem num_of_max {s : ByteArray} {n : Nat} (hn : n < 10) (h : maxI s = (n : Int)) : s = numN n := by
  by_cases h4 : s.size = 4
  · obtain ⟨a, b, c, d, rfl⟩ := bytesM h4
    rw [maxI_eq] at h
    unfold maxL at h
    split at h
    · rename_i hh
      have h1 : [a, b, c] = [109, 97, 120] := by simpa using hh.1
      have h2 := (digitI_iff _).1 hh.2
      injection h1 with e1 e2
      injection e2 with e2 e3
      injection e3 with e3 _
      subst e1 e2 e3
      have hd : d = UInt8.ofNat (48 + n) := by
        have h3 : d.toNat = 48 + n := by omega
        rw [← h3]
        simp
      subst hd
      rfl
    · omega
  · rw [maxI_ne h4] at h
    omega
theorem numN_beq (s : ByteArray) {n : Nat} (hn : n < 10) : (s.toList == (numN n).toList) = decide (maxI s = (n : Int)) := by
  by_cases h : maxI s = (n : Int)
  · have e := num_of_max hn h
    rw [decide_eq_true h, e]
    simp
  · rw [decide_eq_false h]
    cases hh : (s.toList == (numN n).toList)
    · rfl
    · have := (Lib.bytes_beq_iff s (numN n)).1 hh
      rw [this] at h
      exact (h (maxI_num n hn)).elim
theorem maxI_range (s : ByteArray) : maxI s = -1 ∨ ∃ k : Nat, k < 10 ∧ maxI s = (k : Int) := by
  by_cases h4 : s.size = 4
  · obtain ⟨a, b, c, d, rfl⟩ := bytesM h4
    rw [maxI_eq]
    unfold maxL
    split
    · rename_i hh
      have h2 := (digitI_iff _).1 hh.2
      exact .inr ⟨d.toNat - 48, by omega, by omega⟩
    · exact .inl rfl
  · exact .inl (maxI_ne h4)
theorem maxI_empty : maxI ByteArray.empty = -1 := maxI_ne (by decide)
/-- the number that the east side at a height tells -/
noncomputable def sortAt (gs : List Gl) (ts : List Ti) (ys : List Pl) (x y : Int) : Int := maxI (gluedS gs ts ys x y 1)
noncomputable def sortL (gs : List Gl) (ts : List Ti) (ys : List Pl) (x : Int) : Nat → List Int
  | 0 => []
  | y + 1 => sortL gs ts ys x y ++ [sortAt gs ts ys x ((y : Int) + 1)]
theorem sortL_len (gs : List Gl) (ts : List Ti) (ys : List Pl) (x : Int) : ∀ y, (sortL gs ts ys x y).length = y
  | 0 => rfl
  | y + 1 => by simp only [sortL, List.length_append, sortL_len gs ts ys x y]; rfl
open Classical in
noncomputable def sortR (gs : List Gl) (ts : List Ti) (xs : List Pl) (t : Int) (ys : List Pl) (count : Int) : List Int × Int :=
  if growB gs ts xs t ys = false then ([], 1) else if inB count 1 12 = false then ([], 2) else
    if ∀ y : Nat, (y : Int) < count → 0 ≤ sortAt gs ts ys count ((y : Int) + 1) then (sortL gs ts ys count count.toNat, 0) else ([], 9)
section
variable {gs : List Gl} {ts : List Ti} {xs ys : List Pl} {t count : Int}
theorem sortR_no (h : growB gs ts xs t ys = false) : (([], 1) : List Int × Int) = sortR gs ts xs t ys count := by unfold sortR; rw [if_pos h]
theorem sortR_range (h : growB gs ts xs t ys = true) (h2 : inB count 1 12 = false) : (([], 2) : List Int × Int) = sortR gs ts xs t ys count := by unfold sortR; rw [if_neg (by rw [h]; decide), if_pos h2]
theorem sortR_bad {C : Nat} (h : growB gs ts xs t ys = true) (h1 : inB (C : Int) 1 12 = true) {y : Nat} (hy : y < C) (hc : sortAt gs ts ys (C : Int) ((y : Int) + 1) < 0) : (([], 9) : List Int × Int) = sortR gs ts xs t ys (C : Int) := by
  unfold sortR
  rw [if_neg (by rw [h]; decide), if_neg (by rw [h1]; decide), if_neg (fun hh => by have := hh y (by omega); omega)]
theorem sortR_yes {C : Nat} (h : growB gs ts xs t ys = true) (h1 : inB (C : Int) 1 12 = true) (hc : ∀ y : Nat, y < C → 0 ≤ sortAt gs ts ys (C : Int) ((y : Int) + 1)) : ((sortL gs ts ys (C : Int) C, 0) : List Int × Int) = sortR gs ts xs t ys (C : Int) := by
  unfold sortR
  rw [if_neg (by rw [h]; decide), if_neg (by rw [h1]; decide), if_pos (fun y hy => hc y (by omega))]
  simp
theorem sortR_len (gs : List Gl) (ts : List Ti) (xs : List Pl) (t : Int) (ys : List Pl) (count : Int) : (sortR gs ts xs t ys count).1.length ≤ 1073741824 := by
  unfold sortR
  split
  · simp
  · split
    · simp
    · rename_i h2
      split
      · have h3 : inB count 1 12 = true := by simpa using h2
        have ha := inB_true.1 h3
        rw [sortL_len]
        omega
      · simp
end
end Go.Proofs.YtglcpphfmmnmkaaGreatDoor
/- Walk: DecodeSorter, the program. -/



namespace Go.Proofs.YtglcpphfmmnmkaaGreatDoor
open Go.RowKit Go.Shelf
attribute [local go_sem] BelowBy.cell BelowBy.cell_drew stillUpon givesUpon BelowBy.cell_drew2 BelowBy.cell_drew3

def dig1 (n : Nat) : ByteArray := { data := #[UInt8.ofNat (48 + n)] }
theorem dec_dig1 {n : Nat} (hn : n < 10) : (⟨(Lib.decDigits n).toArray⟩ : ByteArray) = dig1 n := by
  unfold Lib.decDigits
  rw [dif_pos hn]
  rfl
theorem cat_num (n : Nat) : ({ data := #[109, 97, 120] } : ByteArray) ++ dig1 n = numN n := by
  apply ByteArray.ext
  simp [ByteArray.data_append, dig1, numN]
theorem Decimal_at {n : Nat} (hn : n < 10) (w : World) :
    Calls Tryz.prog 67 #[.int .i64 (n : Int)] w fun e w' => e = .returned (.string (dig1 n)) ∧ w = w' := by
  go_enter Tryz.func67, Tryz.ntmps67
  go_wp2_with fail
  refine (Tryz.strconv_FormatInt_10_small n (by omega) _).mono ?_
  rw [dec_dig1 hn]
  rintro e _ ⟨rfl, rfl⟩
  go_wp2
  go_ret
  exact ⟨rfl, rfl⟩
theorem numbered_at {n : Nat} (hn : n < 10) (w : World) :
    Calls Tryz.prog 43 #[.string { data := #[109, 97, 120] }, .int .i64 (n : Int)] w fun e w' => e = .returned (.string (numN n)) ∧ w = w' := by
  have hcat := fun W : World => run_string_add_sum (P := Tryz.prog) (w := W) { data := #[109, 97, 120] } (dig1 n) (by show 3 + 1 ≤ _; omega)
  go_enter Tryz.func43, Tryz.ntmps43
  go_wp2_with fail
  refine (Decimal_at hn _).mono ?_
  rintro e _ ⟨rfl, rfl⟩
  go_wp2
  go_ret
  exact ⟨by rw [← cat_num]; rfl, rfl⟩
set_option maxHeartbeats 1000000 in
theorem numberIn_at {s : ByteArray} {v : Int} (w : World) (hv : maxI s = v) :
    Calls Tryz.prog 27 #[.string s, .string { data := #[109, 97, 120] }, .int .i64 10] w fun e w' => e = .returned (.int .i64 v) ∧ w = w' := by
  have hvH := Lib.hid hv
  clear hv
  go_enter Tryz.func27, Tryz.ntmps27
  go_wp2
  go_loopg [9] 10 (fun gk i wr => ∃ k : Nat, k + gk = 10 ∧ i = .int .i64 (k : Int) ∧ Hid (∀ j : Nat, j < k → ¬ maxI s = (j : Int)) ∧ w = wr)
  case atStart => exact ⟨0, by omega, rfl, Lib.hid (fun j hj => by omega), rfl⟩
  case round =>
    obtain ⟨k, hk, rfl, hno, rfl⟩ := hrel
    by_cases hk10 : k < 10
    · have hkI : (k : Int) < 10 := by omega
      by_cases hm : maxI s = (k : Int)
      · have hb : (s.toList == (numN k).toList) = true := by rw [numN_beq s hk10, decide_eq_true hm]
        have hr := Lib.hid (hm.symm.trans hvH.out)
        clear hm
        go_wp2_with fail
        refine (numbered_at hk10 _).mono ?_
        rintro e _ ⟨rfl, rfl⟩
        go_wp2
        go_ret
        exact ⟨ret_int hr.out, rfl⟩
      · have hb : (s.toList == (numN k).toList) = false := by rw [numN_beq s hk10, decide_eq_false hm]
        have hmH := Lib.hid hm
        clear hm
        go_wp2_with fail
        refine (numbered_at hk10 _).mono ?_
        rintro e _ ⟨rfl, rfl⟩
        go_wp2
        go_roundg (10 - (k + 1))
        case measure => omega
        case rel => exact ⟨k + 1, by omega, by go_num, Lib.hid (fun j hj => by
            rcases Nat.lt_succ_iff_lt_or_eq.1 hj with h | rfl
            · exact hno.out j h
            · exact hmH.out), rfl⟩
    · obtain rfl : k = 10 := by omega
      have hr := Lib.hid (show (-1 : Int) = v by
        rcases maxI_range s with h | ⟨j, hj, h⟩
        · rw [← h]; exact hvH.out
        · exact (hno.out j hj h).elim)
      go_wp2
      go_ret
      exact ⟨ret_int hr.out, rfl⟩
set_option maxRecDepth 100000 in
set_option maxHeartbeats 4000000 in
theorem DecodeSorter_any (G T A C : Option Addr) (n cg m ct q ca k cc : Nat) (gs : List Gl) (ts : List Ti) (xs ys : List Pl) (t count : Int) (w : World) (h : SA w G n T m A q gs ts xs) (h2 : SA w G n T m C k gs ts ys) :
    Calls Tryz.prog 9 #[.agg #[.slice G n cg, .slice T m ct, .slice A q ca, .int .i64 t], .agg #[.slice C k cc], .int .i64 count] w (IntsRes w (sortR gs ts xs t ys count)) := by
  obtain ⟨i0, hi, hz0, hz1, hz2⟩ := info_parts infoI
  
  have hS := Lib.hid h
  have hA := Lib.hid h2
  clear h h2
  cases hgr : growB gs ts xs t ys
  · have hgH := Lib.hid hgr
    clear hgr
    go_enter Tryz.func9, Tryz.ntmps9
    go_wp2_with (go_at_call 25; refine (growthCode_at (hS.out.below (by repeat (first | with_reducible (first | exact bl_refl _ | assumption | refine bl_al ?_ _ | refine bl_dr ?_ | refine bl_tr ?_ (by assumption) | refine bl_set ?_ ?_ _ | exact Nat.le_refl _) | omega | (simp only [World.size_alloc, World.size_setCell, World.size_drew] at *; omega) | (dsimp only; omega) | (simp; done) | (simp; omega)))) (hA.out.below (by repeat (first | with_reducible (first | exact bl_refl _ | assumption | refine bl_al ?_ _ | refine bl_dr ?_ | refine bl_tr ?_ (by assumption) | refine bl_set ?_ ?_ _ | exact Nat.le_refl _) | omega | (simp only [World.size_alloc, World.size_setCell, World.size_drew] at *; omega) | (dsimp only; omega) | (simp; done) | (simp; omega)))) hgH.out).mono ?_; simp only [codeB_false]; rintro e w1 ⟨rfl, hb1⟩)
    go_ret2
    exact IntsRes.of (sortR_no hgH.out) (World.ownsRow_nil _ _ _ _) (by repeat (first | with_reducible (first | exact bl_refl _ | assumption | refine bl_al ?_ _ | refine bl_dr ?_ | refine bl_tr ?_ (by assumption) | refine bl_set ?_ ?_ _ | exact Nat.le_refl _) | omega | (simp only [World.size_alloc, World.size_setCell, World.size_drew] at *; omega) | (dsimp only; omega) | (simp; done) | (simp; omega)))
  · have hgH := Lib.hid hgr
    have hV := valid_of (growB_true hgr).2
    clear hgr
    cases hw : inB count 1 12
    · have hwH := Lib.hid hw
      have hr := Lib.hid (sortR_range hgH.out hw)
      clear hw
      go_enter Tryz.func9, Tryz.ntmps9
      go_wp2_with (first
        | (go_at_call 25; refine (growthCode_at (hS.out.below (by repeat (first | with_reducible (first | exact bl_refl _ | assumption | refine bl_al ?_ _ | refine bl_dr ?_ | refine bl_tr ?_ (by assumption) | refine bl_set ?_ ?_ _ | exact Nat.le_refl _) | omega | (simp only [World.size_alloc, World.size_setCell, World.size_drew] at *; omega) | (dsimp only; omega) | (simp; done) | (simp; omega)))) (hA.out.below (by repeat (first | with_reducible (first | exact bl_refl _ | assumption | refine bl_al ?_ _ | refine bl_dr ?_ | refine bl_tr ?_ (by assumption) | refine bl_set ?_ ?_ _ | exact Nat.le_refl _) | omega | (simp only [World.size_alloc, World.size_setCell, World.size_drew] at *; omega) | (dsimp only; omega) | (simp; done) | (simp; omega)))) hgH.out).mono ?_; simp only [codeB_true]; rintro e w1 ⟨rfl, hb1⟩)
        | (go_at_call 26; refine (within_any _ _ _ _).mono ?_; rw [hwH.out]; rintro e _ ⟨rfl, rfl⟩))
      go_ret2
      exact IntsRes.of hr.out (World.ownsRow_nil _ _ _ _) (by repeat (first | with_reducible (first | exact bl_refl _ | assumption | refine bl_al ?_ _ | refine bl_dr ?_ | refine bl_tr ?_ (by assumption) | refine bl_set ?_ ?_ _ | exact Nat.le_refl _) | omega | (simp only [World.size_alloc, World.size_setCell, World.size_drew] at *; omega) | (dsimp only; omega) | (simp; done) | (simp; omega)))
    · have hwH := Lib.hid hw
      obtain ⟨N, rfl, hN1, hN2⟩ := inB_nat hw (by decide)
      have hyes := Lib.hid (sortR_yes hgH.out hw)
      have hbad := Lib.hid (fun (y : Nat) => sortR_bad hgH.out hw (y := y))
      clear hw
      go_enter Tryz.func9, Tryz.ntmps9
      go_wp2_with (first
        | (go_at_call 25; refine (growthCode_at (hS.out.below (by repeat (first | with_reducible (first | exact bl_refl _ | assumption | refine bl_al ?_ _ | refine bl_dr ?_ | refine bl_tr ?_ (by assumption) | refine bl_set ?_ ?_ _ | exact Nat.le_refl _) | omega | (simp only [World.size_alloc, World.size_setCell, World.size_drew] at *; omega) | (dsimp only; omega) | (simp; done) | (simp; omega)))) (hA.out.below (by repeat (first | with_reducible (first | exact bl_refl _ | assumption | refine bl_al ?_ _ | refine bl_dr ?_ | refine bl_tr ?_ (by assumption) | refine bl_set ?_ ?_ _ | exact Nat.le_refl _) | omega | (simp only [World.size_alloc, World.size_setCell, World.size_drew] at *; omega) | (dsimp only; omega) | (simp; done) | (simp; omega)))) hgH.out).mono ?_; simp only [codeB_true]; rintro e w1 ⟨rfl, hb1⟩; obtain ⟨chb1, fhb1, shb1, thb1⟩ := bcell hb1; (have b0 := shb1 w.heap.size (by go_simp)); (have b1 := shb1 (w.heap.size + 1) (by go_simp)))
        | (go_at_call 26; refine (within_any _ _ _ _).mono ?_; rw [hwH.out]; rintro e _ ⟨rfl, rfl⟩))
      have hB1 := Lib.hid (show Below w.heap.size w w1 by repeat (first | with_reducible (first | exact bl_refl _ | assumption | refine bl_al ?_ _ | refine bl_dr ?_ | refine bl_tr ?_ (by assumption) | refine bl_set ?_ ?_ _ | exact Nat.le_refl _) | omega | (simp only [World.size_alloc, World.size_setCell, World.size_drew] at *; omega) | (dsimp only; omega) | (simp; done) | (simp; omega)))
      have y0 : w1.cell? ⟨w.heap.size, 0, none⟩ = some (.slice G n cg) := (hb1.cell (p := ⟨w.heap.size, 0, none⟩) (by go_simp)).trans (by go_simp)
      have y1 : w1.cell? ⟨w.heap.size, 1, none⟩ = some (.slice T m ct) := (hb1.cell (p := ⟨w.heap.size, 1, none⟩) (by go_simp)).trans (by go_simp)
      have y2 : w1.cell? ⟨w.heap.size + 1, 0, none⟩ = some (.slice C k cc) := (hb1.cell (p := ⟨w.heap.size + 1, 0, none⟩) (by go_simp)).trans (by go_simp)
      have hsz1 := hB1.out.size
      clear chb1 fhb1 shb1 thb1 hb1
      go_loopg [9, 8] N (fun gk i v wr => ∃ (y : Nat) (A2 : Option Addr) (c2 : Nat), y + gk = N ∧ i = .int .i64 ((y : Int) + 1) ∧ v = .slice A2 y c2 ∧ Hid (∀ y' : Nat, y' < y → 0 ≤ sortAt gs ts ys (N : Int) ((y' : Int) + 1)) ∧ Hid (wr.ownsRow w1.heap.size 2 1 (.slice A2 y c2) y ((sortL gs ts ys (N : Int) y).map (Value.int .i64))) ∧ Hid (Below w1.heap.size w1 wr))
      case atStart => exact ⟨0, none, 0, by omega, rfl, rfl, Lib.hid (fun y' hy' => by omega), Lib.hid (World.ownsRow_nil _ _ _ _), Lib.hid (bl_refl _)⟩
      case round =>
        obtain ⟨y, A2, c2, hy, rfl, rfl, hok, hrow, hbw⟩ := hrel
        have hszr := hbw.out.size
        have z0 := (hbw.out.cell (p := ⟨w.heap.size, 0, none⟩) b0).trans y0
        have z1 := (hbw.out.cell (p := ⟨w.heap.size, 1, none⟩) b0).trans y1
        have z2 := (hbw.out.cell (p := ⟨w.heap.size + 1, 0, none⟩) b1).trans y2
        have e0 : w.heap.size < wr.heap.size := by omega
        have e1 : w.heap.size + 1 < wr.heap.size := by omega
        by_cases hyN : y < N
        · have hyI : (y : Int) + 1 ≤ (N : Int) := by omega
          have hA1 := Lib.hid (hA.out.below (hB1.out.trans (hbw.out.mono hsz1)))
          obtain ⟨s, hs⟩ : ∃ s, gluedS gs ts ys (N : Int) ((y : Int) + 1) 1 = s := ⟨_, rfl⟩
          have hsH := Lib.hid hs
          have hat : sortAt gs ts ys (N : Int) ((y : Int) + 1) = maxI s := by unfold sortAt; rw [hs]
          have hatH := Lib.hid hat
          obtain ⟨L, hL⟩ : ∃ L, sortL gs ts ys (N : Int) y = L := ⟨_, rfl⟩
          have hLH := Lib.hid hL
          rw [hL] at hrow
          have hLl : L.length = y := by rw [← hL]; exact sortL_len _ _ _ _ _
          clear hs hat hL
          rcases maxI_range s with hv | ⟨d, hd, hv⟩
          · have hvH := Lib.hid hv
            have hres := Lib.hid (hbad.out y hyN (by rw [hatH.out, hv]; decide))
            clear hv
            go_wp2_with (first
              | (go_at_call 28; refine (gluedName_any 1 rfl hA1.out hV (by decide) hsH.out).mono ?_; rintro e w2 ⟨rfl, hb2⟩; have hb2H := Lib.hid hb2; clear hb2)
              | (go_at_call 27; refine (numberIn_at _ hvH.out).mono ?_; rintro e _ ⟨rfl, rfl⟩))
            go_ret2
            exact IntsRes.of hres.out (World.ownsRow_nil _ _ _ _) (hB1.out.trans ((hbw.out.trans (hb2H.out.mono hszr)).mono hsz1))
          · have hvH := Lib.hid hv
            have hd0 : ¬ (d : Int) < 0 := by omega
            have hn := Lib.hid (show sortL gs ts ys (N : Int) (y + 1) = L ++ [(d : Int)] by simp only [sortL]; rw [hLH.out, hatH.out, hv])
            have hok1 := Lib.hid (show 0 ≤ sortAt gs ts ys (N : Int) ((y : Int) + 1) by rw [hatH.out, hv]; omega)
            clear hv
            go_wp2_with (first
              | (go_at_call 28; refine (gluedName_any 1 rfl hA1.out hV (by decide) hsH.out).mono ?_; rintro e w2 ⟨rfl, hb2⟩; have hb2H := Lib.hid hb2; have s2 := hb2.size; clear hb2)
              | (go_at_call 27; refine (numberIn_at _ hvH.out).mono ?_; rintro e _ ⟨rfl, rfl⟩)
              | (at_builtin; refine wpList_append_own _ rfl _ _ 33 rfl w1.heap.size 2 i0 (.int .i64 0) 1 8 Tryz.underlying33 hi hz0 hz1 hz2 rfl (by decide) _ y _ rfl ((ownsRow_below hrow.out hb2H.out).alloc _) ⟨w2.heap.size, 0, none⟩ 1 1 [.int .i64 (d : Int)] rfl rfl (by have := cell_one_new w2 (.int .i64 (d : Int)) 2; simpa using this) (fun x hx => by simp at hx; subst hx; rfl) (by unfold maxLen; omega) (by omega) (by simp; omega) ?_; intro v' w4 hown' hgrow _; obtain ⟨A5, c5, rfl⟩ := ownsRow_form hown'))
            have hB4 := Lib.hid ((hbw.out.trans (hb2H.out.mono hszr)).trans (below_app (by (try simp); omega) (fun g e => (hrow.out.lt g e).1) hgrow))
            have hownH := Lib.hid hown'
            clear hown' hgrow
            go_wp2
            go_roundg (N - (y + 1))
            case measure => omega
            case rel => exact ⟨y + 1, A5, c5, by omega, by go_num, rfl, Lib.hid (fun y' hy' => by
                rcases Nat.lt_succ_iff_lt_or_eq.1 hy' with h | rfl
                · exact hok.out y' h
                · exact hok1.out), Lib.hid (by rw [hn.out, List.map_append]; exact hownH.out), hB4⟩
        · obtain rfl : y = N := by omega
          have hres := Lib.hid (hyes.out hok.out)
          have hyI : ¬ (y : Int) + 1 ≤ (y : Int) := by omega
          have hll := Lib.hid (sortL_len gs ts ys (y : Int) y)
          go_wp2
          go_ret2
          exact IntsRes.of hres.out (by rw [hll.out]; exact ownsRow_base hrow.out hsz1) (hB1.out.trans (hbw.out.mono hsz1))
end Go.Proofs.YtglcpphfmmnmkaaGreatDoor
/- Walk: DecodeSorter, the reference. -/


namespace Go.Proofs.YtglcpphfmmnmkaaGreatDoor
open Go.RowKit Go.Shelf
attribute [local go_sem] BelowBy.cell BelowBy.cell_drew stillUpon givesUpon BelowBy.cell_drew2 BelowBy.cell_drew3

theorem baM_3 (a b c d : UInt8) (h : 3 < ({ data := #[a, b, c, d] } : ByteArray).size) : ({ data := #[a, b, c, d] } : ByteArray)[3]'h = d := rfl
theorem baM_x (a b c d : UInt8) : ({ data := #[a, b, c, d] } : ByteArray).extract 0 3 = { data := #[a, b, c] } := rfl
theorem baM_l (a b c : UInt8) : ({ data := #[a, b, c] } : ByteArray).toList = [a, b, c] := by first | rfl | simp
attribute [local go_sem] baM_3 baM_x baM_l
set_option maxRecDepth 100000 in
set_option maxHeartbeats 4000000 in
theorem sDecodeSorter_any (G T A C : Option Addr) (n cg m ct q ca k cc : Nat) (gs : List Gl) (ts : List Ti) (xs ys : List Pl) (t count : Int) (w : World) (h : SA w G n T m A q gs ts xs) (h2 : SA w G n T m C k gs ts ys) :
    Calls Tryz.prog 6 #[.agg #[.slice G n cg, .slice T m ct, .slice A q ca, .int .i64 t], .agg #[.slice C k cc], .int .i64 count] w (IntsRes w (sortR gs ts xs t ys count)) := by
  obtain ⟨i0, hi, hz0, hz1, hz2⟩ := info_parts infoI
  
  have hS := Lib.hid (show SysAt ((w.alloc (Obj.cells #[.slice G n cg, .slice T m ct, .slice A q ca, .int .i64 t] 44)).alloc (Obj.cells #[.slice C k cc] 42)) w.heap.size 0 gs ts xs t from (h.sysbox cg ct ca t).below (bl_al (bl_refl _) _))
  have hA := Lib.hid (show AsmAt ((w.alloc (Obj.cells #[.slice G n cg, .slice T m ct, .slice A q ca, .int .i64 t] 44)).alloc (Obj.cells #[.slice C k cc] 42)) (w.heap.size + 1) 0 ys from ⟨by simp, C, k, cc, by go_simp, h2.A.below RPl.stable (by repeat (first | with_reducible (first | exact bl_refl _ | assumption | refine bl_al ?_ _ | refine bl_dr ?_ | refine bl_tr ?_ (by assumption) | refine bl_set ?_ ?_ _ | exact Nat.le_refl _) | omega | (simp only [World.size_alloc, World.size_setCell, World.size_drew] at *; omega) | (dsimp only; omega) | (simp; done) | (simp; omega)))⟩)
  have hk : ys.length ≤ 1073741824 := by rw [h2.A.len]; exact h2.q
  have hSA := Lib.hid h2
  have hlm := h.T.len
  have hln := h.G.len
  clear h h2
  cases hgr : growB gs ts xs t ys
  · have hgH := Lib.hid hgr
    clear hgr
    go_enter Tryz.func6, Tryz.ntmps6
    go_wp2_with (go_at_call 19; refine (l08Asked_at hS.out hA.out hk hgH.out).mono ?_; simp only [codeB_false]; rintro e w1 ⟨rfl, hb1⟩)
    go_ret2
    exact IntsRes.of (sortR_no hgH.out) (World.ownsRow_nil _ _ _ _) (by repeat (first | with_reducible (first | exact bl_refl _ | assumption | refine bl_al ?_ _ | refine bl_dr ?_ | refine bl_tr ?_ (by assumption) | refine bl_set ?_ ?_ _ | exact Nat.le_refl _) | omega | (simp only [World.size_alloc, World.size_setCell, World.size_drew] at *; omega) | (dsimp only; omega) | (simp; done) | (simp; omega)))
  · have hgH := Lib.hid hgr
    have hV := valid_of (growB_true hgr).2
    clear hgr
    cases hw : inB count 1 12
    · have hwH := Lib.hid hw
      have hr := Lib.hid (sortR_range hgH.out hw)
      clear hw
      go_enter Tryz.func6, Tryz.ntmps6
      go_wp2_with (first
        | (go_at_call 19; refine (l08Asked_at hS.out hA.out hk hgH.out).mono ?_; simp only [codeB_true]; rintro e w1 ⟨rfl, hb1⟩)
        | (go_at_call 20; refine (l00In_any _ _ _ _).mono ?_; rw [hwH.out]; rintro e _ ⟨rfl, rfl⟩))
      go_ret2
      exact IntsRes.of hr.out (World.ownsRow_nil _ _ _ _) (by repeat (first | with_reducible (first | exact bl_refl _ | assumption | refine bl_al ?_ _ | refine bl_dr ?_ | refine bl_tr ?_ (by assumption) | refine bl_set ?_ ?_ _ | exact Nat.le_refl _) | omega | (simp only [World.size_alloc, World.size_setCell, World.size_drew] at *; omega) | (dsimp only; omega) | (simp; done) | (simp; omega)))
    · have hwH := Lib.hid hw
      obtain ⟨N, rfl, hN1, hN2⟩ := inB_nat hw (by decide)
      have hyes := Lib.hid (sortR_yes hgH.out hw)
      have hbad := Lib.hid (fun (y : Nat) => sortR_bad hgH.out hw (y := y))
      clear hw
      go_enter Tryz.func6, Tryz.ntmps6
      go_wp2_with (first
        | (go_at_call 19; refine (l08Asked_at hS.out hA.out hk hgH.out).mono ?_; simp only [codeB_true]; rintro e w1 ⟨rfl, hb1⟩; obtain ⟨chb1, fhb1, shb1, thb1⟩ := bcell hb1; (have b0 := shb1 w.heap.size (by go_simp)); (have b1 := shb1 (w.heap.size + 1) (by go_simp)))
        | (go_at_call 20; refine (l00In_any _ _ _ _).mono ?_; rw [hwH.out]; rintro e _ ⟨rfl, rfl⟩))
      have hB1 := Lib.hid (show Below w.heap.size w w1 by repeat (first | with_reducible (first | exact bl_refl _ | assumption | refine bl_al ?_ _ | refine bl_dr ?_ | refine bl_tr ?_ (by assumption) | refine bl_set ?_ ?_ _ | exact Nat.le_refl _) | omega | (simp only [World.size_alloc, World.size_setCell, World.size_drew] at *; omega) | (dsimp only; omega) | (simp; done) | (simp; omega)))
      have hA0 := Lib.hid (hA.out.below hb1)
      have y0 : w1.cell? ⟨w.heap.size, 0, none⟩ = some (.slice G n cg) := (hb1.cell (p := ⟨w.heap.size, 0, none⟩) (by go_simp)).trans (by go_simp)
      have y1 : w1.cell? ⟨w.heap.size, 1, none⟩ = some (.slice T m ct) := (hb1.cell (p := ⟨w.heap.size, 1, none⟩) (by go_simp)).trans (by go_simp)
      have hsz1 := hB1.out.size
      clear chb1 fhb1 shb1 thb1 hb1
      go_loopg [10, 9] N (fun gk i v wr => ∃ (y : Nat) (A2 : Option Addr) (c2 : Nat), y + gk = N ∧ i = .int .i64 ((y : Int) + 1) ∧ v = .slice A2 y c2 ∧ Hid (∀ y' : Nat, y' < y → 0 ≤ sortAt gs ts ys (N : Int) ((y' : Int) + 1)) ∧ Hid (wr.ownsRow w1.heap.size 2 1 (.slice A2 y c2) y ((sortL gs ts ys (N : Int) y).map (Value.int .i64))) ∧ Hid (Below w1.heap.size w1 wr))
      case atStart => exact ⟨0, some ⟨w1.heap.size, 0, none⟩, 0, by omega, rfl, rfl, Lib.hid (fun y' hy' => by omega), Lib.hid (by have := World.ownsRow_lit (base := w1.heap.size) (e := 2) (size := 1) w1 #[] 0 (Nat.le_refl _) (by decide) rfl; simpa [sortL] using this), Lib.hid (bl_al (bl_refl _) _)⟩
      case round =>
        obtain ⟨y, A2, c2, hy, rfl, rfl, hok, hrow, hbw⟩ := hrel
        have hszr := hbw.out.size
        have z0 := (hbw.out.cell (p := ⟨w.heap.size, 0, none⟩) b0).trans y0
        have z1 := (hbw.out.cell (p := ⟨w.heap.size, 1, none⟩) b0).trans y1
        have e0 : w.heap.size < wr.heap.size := by omega
        have e1 : w.heap.size + 1 < wr.heap.size := by omega
        by_cases hyN : y < N
        · have hyI : (y : Int) + 1 ≤ (N : Int) := by omega
          have hA1 := Lib.hid (hSA.out.below (hB1.out.trans (hbw.out.mono hsz1)))
          have hAr := Lib.hid (hA0.out.below hbw.out)
          obtain ⟨s, hs⟩ : ∃ s, gluedS gs ts ys (N : Int) ((y : Int) + 1) 1 = s := ⟨_, rfl⟩
          have hsH := Lib.hid hs
          have hat : sortAt gs ts ys (N : Int) ((y : Int) + 1) = maxI s := by unfold sortAt; rw [hs]
          have hatS := Lib.hid hat
          obtain ⟨L, hL⟩ : ∃ L, sortL gs ts ys (N : Int) y = L := ⟨_, rfl⟩
          have hLH := Lib.hid hL
          rw [hL] at hrow
          have hLl : L.length = y := by rw [← hL]; exact sortL_len _ _ _ _ _
          clear hs hat hL
          rcases atI_cases hV (N : Int) ((y : Int) + 1) with ⟨h1, hat⟩ | ⟨kk, tt, e, h1, he, ht, htl, hat⟩
          · have hatH := Lib.hid hat
            have hres := Lib.hid (hbad.out y hyN (by rw [hatS.out, ← hsH.out, gluedS_none hat, maxI_empty]; decide))
            clear h1 hat
            go_wp2_with (go_at_call 21; refine (l03At_any _ gs ts ys _ _ _ _ hAr.out hV hatH.out).mono ?_; rintro e w2 ⟨rfl, hb2⟩; have hB9 := Lib.hid (hB1.out.trans ((hbw.out.trans (hb2.mono hszr)).mono hsz1)); clear hb2)
            go_ret2
            exact IntsRes.of hres.out (World.ownsRow_nil _ _ _ _) (by have h9 := hB9.out; repeat (first | with_reducible (first | exact bl_refl _ | assumption | refine bl_al ?_ _ | refine bl_dr ?_ | refine bl_tr ?_ (by assumption) | refine bl_set ?_ ?_ _ | exact Nat.le_refl _) | omega | (simp only [World.size_alloc, World.size_setCell, World.size_drew] at *; omega) | (dsimp only; omega) | (simp; done) | (simp; omega)))
          · have hatH := Lib.hid hat
            clear h1 hat he ht e
            have htm : tt < m := by omega
            go_wp2_with fail
            refine (l03At_any _ gs ts ys _ _ _ _ hAr.out hV hatH.out).mono ?_
            rintro e' w2 ⟨rfl, hb2⟩
            have x0 := (hb2.cell (p := ⟨w.heap.size, 0, none⟩) e0).trans z0
            have x1 := (hb2.cell (p := ⟨w.heap.size, 1, none⟩) e0).trans z1
            have f0 : w.heap.size < w2.heap.size := Nat.lt_of_lt_of_le e0 hb2.size
            have hT2 := hA1.out.T.below RTi.stable hb2
            have hG2 := hA1.out.G.below RGl.stable hb2
            obtain ⟨e, he⟩ := hT2.get htm
            obtain ⟨bt, ot, hTe, hbt, hct⟩ := hT2.ptr (by omega)
            subst hTe
            obtain ⟨c0, As, ns, cs, c1, hsd⟩ := hct tt e he
            have hfour := hV.four tt e he
            have hns := hsd.len
            obtain ⟨v, hv⟩ : ∃ v, e.sides[1]? = some v := ⟨_, List.getElem?_eq_getElem (by omega)⟩
            obtain ⟨g, hvg, hgl⟩ := hV.side tt e 1 v he hv
            obtain ⟨bs, os, rfl, hbs, hcs⟩ := hsd.ptr (by omega)
            have c2 := hcs 1 v hv
            unfold RInt at c2
            simp only [Nat.mul_one] at c2
            have hdn : 1 < ns := by omega
            have hdn' : (1 : Int) < (ns : Int) := by omega
            have ht0 : ¬ (tt : Int) < 0 := by omega
            have ht1 : (0 : Int) ≤ (tt : Int) := by omega
            have hgs := Lib.hid (gluedS_some (gs := gs) hatH.out he hv)
            have hB9 := Lib.hid (hB1.out.trans ((hbw.out.trans (hb2.mono hszr)).mono hsz1))
            have hB2 := Lib.hid (hbw.out.trans (hb2.mono hszr))
            have hrow2 := Lib.hid (ownsRow_below hrow.out hb2)
            have s2 := hb2.size
            clear hct hcs hsd hT2 he hv hfour hns hb2
            cases g with
            | zero =>
              obtain rfl : v = 0 := by omega
              have hres := Lib.hid (hbad.out y hyN (by rw [hatS.out, ← hsH.out, hgs.out, nameI_zero, maxI_empty]; decide))
              clear hvg hG2
              go_wp2
              go_ret2
              exact IntsRes.of hres.out (World.ownsRow_nil _ _ _ _) (by have h9 := hB9.out; repeat (first | with_reducible (first | exact bl_refl _ | assumption | refine bl_al ?_ _ | refine bl_dr ?_ | refine bl_tr ?_ (by assumption) | refine bl_set ?_ ?_ _ | exact Nat.le_refl _) | omega | (simp only [World.size_alloc, World.size_setCell, World.size_drew] at *; omega) | (dsimp only; omega) | (simp; done) | (simp; omega)))
            | succ g' =>
              have hgn : g' < n := by omega
              obtain ⟨eg, heg⟩ := hG2.get hgn
              obtain ⟨bg, og, hGe, hbg, hcg⟩ := hG2.ptr (by omega)
              subst hGe
              obtain ⟨d0, d1⟩ := hcg g' eg heg
              have hse : eg.name = s := by rw [← hsH.out, hgs.out, nameI_succ (by omega) heg]
              have hsz := hA1.out.gn g' eg heg
              rw [hse] at d0 hsz
              have hv1 : v - 1 = (g' : Int) := by omega
              have hvw : IntKind.i64.wrap ((g' : Nat) : Int) = (g' : Int) := wrap_in (by omega) (by have := hV.gl; omega)
              have hv0 : (v == 0) = false := by simp; omega
              have hg0 : (0 : Int) ≤ (g' : Int) := by omega
              clear hvg hcg heg hG2 hse
              by_cases h4 : s.size = 4
              · obtain ⟨a, b, c, d, rfl⟩ := bytesM h4
                rw [maxI_eq] at hatS
                have hz4 : ({ data := #[a, b, c, d] } : ByteArray).size = 4 := rfl
                clear h4 hsz
                cases hm : ([a, b, c] == ([109, 97, 120] : List UInt8))
                · have hres := Lib.hid (hbad.out y hyN (by rw [hatS.out, maxL_w hm]; decide))
                  go_wp2
                  go_ret2
                  exact IntsRes.of hres.out (World.ownsRow_nil _ _ _ _) (by have h9 := hB9.out; repeat (first | with_reducible (first | exact bl_refl _ | assumption | refine bl_al ?_ _ | refine bl_dr ?_ | refine bl_tr ?_ (by assumption) | refine bl_set ?_ ?_ _ | exact Nat.le_refl _) | omega | (simp only [World.size_alloc, World.size_setCell, World.size_drew] at *; omega) | (dsimp only; omega) | (simp; done) | (simp; omega)))
                · cases hd : digitI (d.toNat : Int)
                  · have hdH := Lib.hid hd
                    have hres := Lib.hid (hbad.out y hyN (by rw [hatS.out, maxL_d hd]; decide))
                    clear hd
                    go_wp2_with (go_at_call 22; refine (l01Digit_any _ _).mono ?_; rw [hdH.out]; rintro e _ ⟨rfl, rfl⟩)
                    go_ret2
                    exact IntsRes.of hres.out (World.ownsRow_nil _ _ _ _) (by have h9 := hB9.out; repeat (first | with_reducible (first | exact bl_refl _ | assumption | refine bl_al ?_ _ | refine bl_dr ?_ | refine bl_tr ?_ (by assumption) | refine bl_set ?_ ?_ _ | exact Nat.le_refl _) | omega | (simp only [World.size_alloc, World.size_setCell, World.size_drew] at *; omega) | (dsimp only; omega) | (simp; done) | (simp; omega)))
                  · have hdH := Lib.hid hd
                    have h1 := (digitI_iff _).1 hd
                    have hb : d.toNat < 256 := d.toNat_lt
                    obtain ⟨v9, hv9⟩ : ∃ v9, (d.toNat : Int) - 48 = v9 := ⟨_, rfl⟩
                    have hv90 : 0 ≤ v9 := by omega
                    have hw8 : IntKind.u8.wrap v9 = v9 := by
                      simp [IntKind.wrap, IntKind.bits, IntKind.signed]; omega
                    have hw6 : IntKind.i64.wrap v9 = v9 := wrap_in (by omega) (by omega)
                    have hcv : sortAt gs ts ys (N : Int) ((y : Int) + 1) = v9 := by rw [hatS.out, maxL_y hm hd, hv9]
                    have hn := Lib.hid (show sortL gs ts ys (N : Int) (y + 1) = L ++ [v9] by simp only [sortL]; rw [hLH.out, hcv])
                    have hok1 := Lib.hid (show 0 ≤ sortAt gs ts ys (N : Int) ((y : Int) + 1) by rw [hcv]; exact hv90)
                    clear hd hcv
                    go_wp2_with (first
                      | (go_at_call 22; refine (l01Digit_any _ _).mono ?_; rw [hdH.out]; rintro e _ ⟨rfl, rfl⟩)
                      | (at_builtin; go_loud (refine wpList_append_own _ rfl _ _ 33 rfl w1.heap.size 2 i0 (.int .i64 0) 1 8 Tryz.underlying33 hi hz0 hz1 hz2 rfl (by decide) _ y _ rfl (hrow2.out.alloc _) ⟨w2.heap.size, 0, none⟩ 1 1 [.int .i64 v9] rfl rfl (by have := cell_one_new w2 (.int .i64 v9) 2; simpa using this) (fun x hx => by simp at hx; subst hx; rfl) (by unfold maxLen; omega) (by omega) (by simp; omega) ?_; intro v' w4 hown' hgrow _; obtain ⟨A5, c5, rfl⟩ := ownsRow_form hown'; have hownH := Lib.hid hown'; have hb4 := Lib.hid (show Below w1.heap.size w2 w4 from below_app (by (try simp); omega) (fun g e => (hrow.out.lt g e).1) hgrow); clear hown' hgrow)))
                    go_wp2
                    go_roundg (N - (y + 1))
                    case measure => omega
                    case rel => exact ⟨y + 1, A5, c5, by omega, by go_num, rfl, Lib.hid (fun y' hy' => by
                        rcases Nat.lt_succ_iff_lt_or_eq.1 hy' with h | rfl
                        · exact hok.out y' h
                        · exact hok1.out), Lib.hid (by rw [hn.out, List.map_append]; exact hownH.out), Lib.hid (hB2.out.trans hb4.out)⟩
              · have h4d : ((s.size : Int) == 4) = false := by simp; omega
                have h4e : ¬ (s.size : Int) = 4 := by omega
                have hres := Lib.hid (hbad.out y hyN (by rw [hatS.out, maxI_ne h4]; decide))
                go_wp2
                go_ret2
                exact IntsRes.of hres.out (World.ownsRow_nil _ _ _ _) (by have h9 := hB9.out; repeat (first | with_reducible (first | exact bl_refl _ | assumption | refine bl_al ?_ _ | refine bl_dr ?_ | refine bl_tr ?_ (by assumption) | refine bl_set ?_ ?_ _ | exact Nat.le_refl _) | omega | (simp only [World.size_alloc, World.size_setCell, World.size_drew] at *; omega) | (dsimp only; omega) | (simp; done) | (simp; omega)))
        · obtain rfl : y = N := by omega
          have hres := Lib.hid (hyes.out hok.out)
          have hyI : ¬ (y : Int) + 1 ≤ (y : Int) := by omega
          have hll := Lib.hid (sortL_len gs ts ys (y : Int) y)
          go_wp2
          go_ret2
          exact IntsRes.of hres.out (by rw [hll.out]; exact ownsRow_base hrow.out hsz1) (hB1.out.trans (hbw.out.mono hsz1))
end Go.Proofs.YtglcpphfmmnmkaaGreatDoor
