/- Walks: numerals below 1000 in names, the program's and the reference's. -/
import Derived.Test.YtpnahobgmemdjaaGreatDoorKM
import Derived.Test.YtpnahobgmemdjaaGreatDoorShelf
import Derived.Lib.AppendIntMem
namespace Go.Proofs.YtpnahobgmemdjaaGreatDoor
open Go.RowKit
set_option linter.unusedSimpArgs false
set_option linter.unusedVariables false
attribute [local go_sem] BelowBy.cell BelowBy.cell_drew stillUpon givesUpon

/-- the library's table of powers of ten -/
def Tab (w : World) : Prop := Lib.TabIs Tryz.prog w "internal/strconv.uint64pow10" .u64 Lib.pow10Tab
theorem Tab.below {w w' : World} (h : Tab w) (hb : Below w.heap.size w w') : Tab w' := by
  obtain ⟨g, hg⟩ := Option.isSome_iff_exists.1 (show (Tryz.prog.globalNamed "internal/strconv.uint64pow10").isSome = true by kernel_rfl)
  unfold Tab Lib.TabIs World.var? at h ⊢
  rw [hg] at h ⊢
  simp only [Option.bind_some] at h ⊢
  have hlt : g < w.heap.size := by
    rcases Nat.lt_or_ge g w.heap.size with h' | h'
    · exact h'
    · rw [Array.getElem?_eq_none h'] at h; cases h
  rw [hb.block g hlt]
  exact h
theorem Decimal_n {u : Nat} {s : ByteArray} (w : World) (h1 : u < 1000) (hT : Tab w) (hs : decN u = s) :
    Calls Tryz.prog 36 #[.int .i64 (u : Int)] w fun e w' => e = .returned (.string s) ∧ Below w.heap.size w w' := by
  have hL : ∀ W : World, Tab W → Calls Tryz.prog 52 #[.int .i64 (u : Int), .int .i64 10] W fun e w' => e = .returned (.string s) ∧ Below W.heap.size W w' := fun W hW => by
    refine (Tryz.strconv_FormatInt_10 (u : Int) (by omega) (by omega) W hW).mono ?_
    rintro e w' ⟨rfl, k, os, rfl⟩
    exact ⟨by rw [← hs, decN, Lib.itoa_nonneg], Lib.below_grow _ _ (Nat.le_refl _) _ _⟩
  go_enter Tryz.func36, Tryz.ntmps36
  go_wp2_with fail
  refine (hL _ hT).mono ?_
  rintro e w1 ⟨rfl, hb1⟩
  go_wp2
  go_ret
  exact ⟨rfl, by exact bel_⟩
set_option maxRecDepth 100000 in
set_option maxHeartbeats 2000000 in
theorem lDecimal_posN {u : Nat} (w : World) (h0 : 0 < u) (h1 : u < 1000) :
    Calls Tryz.prog 30 #[.int .i64 (u : Int)] w fun e w' => e = .returned (.string (decN u)) ∧ Below w.heap.size w w' := by
  have hne : ¬ (u : Int) = 0 := by omega
  have hnl : ¬ (u : Int) < 0 := by omega
  have hR := Lib.hid (show mkDig (u + 1) u ⟨#[]⟩ = decN u by rw [mkDig_dec (u + 1) u _ h0 (by omega)]; exact ByteArray.append_empty)
  go_enter Tryz.func30, Tryz.ntmps30
  go_wp2
  go_loopg [4, 3, 5] (u + 1) (fun r x out dd wr => ∃ (j : Nat) (s : ByteArray), j < r ∧ s.size + r ≤ u + 1 ∧ j ≤ u ∧ mkDig r j s = mkDig (u + 1) u ⟨#[]⟩ ∧ x = .int .i64 (j : Int) ∧ out = .string s ∧ Below w.heap.size w wr)
  case atStart => exact ⟨u, _, by omega, Nat.le_of_eq (Nat.zero_add _), Nat.le_refl _, rfl, rfl, rfl, bl_refl _⟩
  case round =>
    obtain ⟨j, s, hj, hs, hju, hd, rfl, rfl, hbw⟩ := hrel
    have hcv := run_digit _ _ _ Tryz.underlying84 Tryz.underlying5 Tryz.underlying9 j
    have hdH := Lib.hid hd
    have hszH := Lib.hid (size_snoc1 (digB j) s)
    clear hd
    have hss : (s.size : Int) ≤ 1001 := by omega
    by_cases hlt : 0 < j
    · have hlt' : ¬ (j : Int) = 0 := by omega
      have hge : (0 : Int) ≤ (j : Int) := by omega
      have hnl2 : ¬ ((j : Int) % 10 < 0) := by omega
      go_wp2
      go_roundg (gk - 1)
      case measure => omega
      case rel => exact ⟨j / 10, _, by omega, by (have := hszH.out; omega), by omega, by (rw [← hdH.out]; obtain ⟨r', rfl⟩ : ∃ r', gk = r' + 1 := ⟨gk - 1, by omega⟩; rw [mkDig_pos _ _ _ hlt]; rfl), by go_num, rfl, bl_al hbw _⟩
    · obtain rfl : j = 0 := by omega
      go_wp2
      go_ret
      refine ⟨?_, hbw⟩
      rw [← hR.out, ← hdH.out, mkDig_zero]
      rfl
theorem lDecimal_zeroN (w : World) :
    Calls Tryz.prog 30 #[.int .i64 0] w fun e w' => e = .returned (.string (decN 0)) ∧ Below w.heap.size w w' := by
  have h0 : Value.string (decN 0) = .string ⟨#[48]⟩ := by unfold decN; rw [Lib.decDigits_one (by omega)]; rfl
  rw [h0]
  go_enter Tryz.func30, Tryz.ntmps30
  go_wp2
  go_loopg [4, 3, 5] 1 (fun r x out dd wr => x = .int .i64 0 ∧ w = wr)
  case atStart => exact ⟨rfl, rfl⟩
  case round =>
    obtain ⟨rfl, rfl⟩ := hrel
    go_wp2
    go_ret
    exact ⟨rfl, bl_refl _⟩
theorem lDecimal_n {u : Nat} {s : ByteArray} (w : World) (h1 : u < 1000) (hs : decN u = s) :
    Calls Tryz.prog 30 #[.int .i64 (u : Int)] w fun e w' => e = .returned (.string s) ∧ Below w.heap.size w w' := by
  subst hs
  rcases Nat.eq_zero_or_pos u with rfl | h0
  · exact lDecimal_zeroN w
  · exact lDecimal_posN w h0 h1
theorem numbered_n {u : Nat} {wd s : ByteArray} (w : World) (hw : wd.size ≤ 100) (h1 : u < 1000) (hT : Tab w) (hs : wd ++ decN u = s) :
    Calls Tryz.prog 16 #[.string wd, .int .i64 (u : Int)] w fun e w' => e = .returned (.string s) ∧ Below w.heap.size w w' := by
  obtain ⟨t, ht⟩ : ∃ t, decN u = t := ⟨_, rfl⟩
  have hz : t.size ≤ 3 := by rw [← ht]; exact decN_size h1
  rw [ht] at hs
  have hcat := fun W : World => run_string_add_sum (P := Tryz.prog) (w := W) wd t (by omega)
  have hsH := Lib.hid hs
  clear hs
  go_enter Tryz.func16, Tryz.ntmps16
  go_wp2_with fail
  refine (Decimal_n _ h1 hT ht).mono ?_
  rintro e w1 ⟨rfl, hb1⟩
  go_wp2
  refine bodyPost_ret (v := .string (wd ++ t)) (by simp only [results, Tryz.results16]; go_simp) rfl ?_
  exact ⟨by rw [hsH.out], hb1⟩
end Go.Proofs.YtpnahobgmemdjaaGreatDoor
