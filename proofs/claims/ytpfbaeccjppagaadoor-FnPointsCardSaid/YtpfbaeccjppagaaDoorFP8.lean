/- Walks: a decimal numeral, the program's and the reference's. -/
import Derived.Test.YtpfbaeccjppagaaDoorFP7
import Derived.Test.YtpfbaeccjppagaaDoorShelf
import Derived.Lib.AppendIntMem
import Derived.Laws.IdiomStrings
import Derived.Laws.Concat
namespace Go.Proofs.YtpfbaeccjppagaaDoor
open Go.RowKit
set_option linter.unusedSimpArgs false
set_option linter.unusedVariables false
attribute [local go_sem] BelowBy.cell BelowBy.cell_drew stillUpon givesUpon

/-- the library's table of powers of ten -/
def Tab (w : World) : Prop := Lib.TabIs Tryd.prog w "internal/strconv.uint64pow10" .u64 Lib.pow10Tab
theorem Tab.below {w w' : World} (h : Tab w) (hb : Below w.heap.size w w') : Tab w' := by
  obtain ⟨g, hg⟩ := Option.isSome_iff_exists.1 (show (Tryd.prog.globalNamed "internal/strconv.uint64pow10").isSome = true by kernel_rfl)
  unfold Tab Lib.TabIs World.var? at h ⊢
  rw [hg] at h ⊢
  simp only [Option.bind_some] at h ⊢
  have hlt : g < w.heap.size := by
    rcases Nat.lt_or_ge g w.heap.size with h' | h'
    · exact h'
    · rw [Array.getElem?_eq_none h'] at h; cases h
  rw [hb.block g hlt]
  exact h
def dec2 (u : Nat) : List UInt8 := if u < 10 then [UInt8.ofNat (48 + u)] else [UInt8.ofNat (48 + u / 10), UInt8.ofNat (48 + u % 10)]
def dec3 (n : Int) : List UInt8 := if n < 0 then 45 :: dec2 n.natAbs else dec2 n.natAbs
theorem dec3_itoa {n : Int} (h0 : -60 ≤ n) (h1 : n ≤ 60) : Lib.itoa n = dec3 n := by
  have hd : ∀ u, u < 100 → Lib.decDigits u = dec2 u := fun u hu => by
    unfold dec2
    by_cases h : u < 10
    · rw [if_pos h, Lib.decDigits_one h]
    · rw [if_neg h, Lib.decDigits_two h hu]
  unfold Lib.itoa dec3
  by_cases h : n < 0
  · rw [if_pos h, if_pos h, hd _ (by omega)]
  · rw [if_neg h, if_neg h, show n.toNat = n.natAbs by omega, hd _ (by omega)]
def decB (n : Int) : ByteArray := ⟨(dec3 n).toArray⟩
theorem Decimal_v {n : Int} {s : ByteArray} (w : World) (h0 : -60 ≤ n) (h1 : n ≤ 60) (hT : Tab w) (hs : decB n = s) :
    Calls Tryd.prog 23 #[.int .i64 n] w fun e w' => e = .returned (.string s) ∧ Below w.heap.size w w' := by
  have hL : ∀ W : World, Tab W → Calls Tryd.prog 35 #[.int .i64 n, .int .i64 10] W fun e w' => e = .returned (.string s) ∧ Below W.heap.size W w' := fun W hW => by
    refine (Tryd.strconv_FormatInt_10 n (by omega) (by omega) W hW).mono ?_
    rintro e w' ⟨rfl, k, os, rfl⟩
    exact ⟨by rw [← hs, decB, dec3_itoa h0 h1], Lib.below_grow _ _ (Nat.le_refl _) _ _⟩
  go_enter Tryd.func23, Tryd.ntmps23
  go_wp2_with fail
  refine (hL _ hT).mono ?_
  rintro e w1 ⟨rfl, hb1⟩
  go_wp2
  go_ret
  exact ⟨rfl, by exact bel_⟩
def digB (j : Nat) : UInt8 := UInt8.ofNat (48 + j % 10)
def mkDig : Nat → Nat → ByteArray → ByteArray
  | 0, _, s => s
  | f + 1, j, s => if j = 0 then s else mkDig f (j / 10) (⟨[digB j].toArray⟩ ++ s)
theorem mkDig_zero (f : Nat) (s : ByteArray) : mkDig f 0 s = s := by cases f <;> simp [mkDig]
theorem mkDig_pos (f j : Nat) (s : ByteArray) (hj : 0 < j) : mkDig (f + 1) j s = mkDig f (j / 10) (⟨[digB j].toArray⟩ ++ s) := by
  simp only [mkDig]; rw [if_neg (by omega)]
theorem size_snoc1 (u : UInt8) (s : ByteArray) : ((⟨[u].toArray⟩ : ByteArray) ++ s).size = s.size + 1 := by
  rw [ByteArray.size_append]; show 1 + s.size = _; omega
theorem mkDig_dec2_fin : ∀ u : Fin 100, u.val = 0 ∨ (mkDig (u.val + 1) u.val ⟨#[]⟩).data.toList = dec2 u.val := by decide +kernel
theorem mkDig_dec2 {u : Nat} (h0 : 0 < u) (h1 : u < 100) : mkDig (u + 1) u ⟨#[]⟩ = ⟨(dec2 u).toArray⟩ := by
  rcases mkDig_dec2_fin ⟨u, h1⟩ with h | h
  · exact absurd h (by show ¬ u = 0; omega)
  · have h : (mkDig (u + 1) u ⟨#[]⟩).data.toList = dec2 u := h
    rw [← h]
theorem run_digit (t t9 u : TypeId) (ht : Tryd.prog.underlying t = some (.slice u)) (hu : Tryd.prog.underlying u = some (.int .u8)) (h9 : Tryd.prog.underlying t9 = some .string) (j : Nat) (W : World) :
    (convert t t9 (.slice (some ⟨W.heap.size, 0, none⟩) 1 1)).run Tryd.prog (W.alloc (.cells #[.int .u8 (48 + (j : Int) % 10)] u)) = .ok (.string ⟨[digB j].toArray⟩) (W.alloc (.cells #[.int .u8 (48 + (j : Int) % 10)] u)) := by
  have := run_convert_bytes_back (P := Tryd.prog) (W.alloc (.cells #[.int .u8 (48 + (j : Int) % 10)] u)) t t9 u ⟨W.heap.size, 0, none⟩ 1 [digB j] ht hu h9 (fun i hi => by
    obtain rfl : i = 0 := by simpa using hi
    simp [Addr.add, digB]
    omega)
  exact this
set_option maxRecDepth 100000 in
set_option maxHeartbeats 2000000 in
theorem lDecimal_pos {u : Nat} (w : World) (h0 : 0 < u) (h1 : u < 100) :
    Calls Tryd.prog 24 #[.int .i64 (u : Int)] w fun e w' => e = .returned (.string ⟨(dec2 u).toArray⟩) ∧ Below w.heap.size w w' := by
  have hne : ¬ (u : Int) = 0 := by omega
  have hnl : ¬ (u : Int) < 0 := by omega
  have hR := Lib.hid (mkDig_dec2 h0 h1)
  go_enter Tryd.func24, Tryd.ntmps24
  go_wp2
  go_loopg [4, 3, 5] (u + 1) (fun r x out dd wr => ∃ (j : Nat) (s : ByteArray), j < r ∧ s.size + r ≤ u + 1 ∧ j ≤ u ∧ mkDig r j s = mkDig (u + 1) u ⟨#[]⟩ ∧ x = .int .i64 (j : Int) ∧ out = .string s ∧ Below w.heap.size w wr)
  case atStart => exact ⟨u, _, by omega, Nat.le_of_eq (Nat.zero_add _), Nat.le_refl _, rfl, rfl, rfl, bl_refl _⟩
  case round =>
    obtain ⟨j, s, hj, hs, hju, hd, rfl, rfl, hbw⟩ := hrel
    have hcv := run_digit _ _ _ Tryd.underlying22 Tryd.underlying5 Tryd.underlying9 j
    have hdH := Lib.hid hd
    have hszH := Lib.hid (size_snoc1 (digB j) s)
    clear hd
    have hss : (s.size : Int) ≤ 101 := by omega
    by_cases hlt : 0 < j
    · have hlt' : ¬ (j : Int) = 0 := by omega
      have hge : (0 : Int) ≤ (j : Int) := by omega
      have hnl2 : ¬ ((j : Int) % 10 < 0) := by omega
      go_wp2
      go_roundg (gk - 1)
      case measure => omega
      case rel => exact ⟨j / 10, _, by omega, by (have := hszH.out; omega), by omega, by (rw [← hdH.out]; obtain ⟨r', rfl⟩ : ∃ r', gk = r' + 1 := ⟨gk - 1, by omega⟩; rw [mkDig_pos _ _ _ hlt]; rfl), by go_num, rfl, bl_al hbw _⟩
    · obtain rfl : j = 0 := by omega
      go_wp2
      go_ret
      refine ⟨?_, hbw⟩
      rw [← hR.out, ← hdH.out, mkDig_zero]
      rfl
set_option maxRecDepth 100000 in
set_option maxHeartbeats 2000000 in
theorem lDecimal_neg {u : Nat} (w : World) (h0 : 0 < u) (h1 : u < 100) :
    Calls Tryd.prog 24 #[.int .i64 (-(u : Int))] w fun e w' => e = .returned (.string ⟨(45 :: dec2 u).toArray⟩) ∧ Below w.heap.size w w' := by
  have hne : ¬ -(u : Int) = 0 := by omega
  have hnl : -(u : Int) < 0 := by omega
  have hR := Lib.hid (mkDig_dec2 h0 h1)
  go_enter Tryd.func24, Tryd.ntmps24
  go_wp2
  go_loopg [4, 3, 5] (u + 1) (fun r x out dd wr => ∃ (j : Nat) (s : ByteArray), j < r ∧ s.size + r ≤ u + 1 ∧ j ≤ u ∧ mkDig r j s = mkDig (u + 1) u ⟨#[]⟩ ∧ x = .int .i64 (-(j : Int)) ∧ out = .string s ∧ Below w.heap.size w wr)
  case atStart => exact ⟨u, _, by omega, Nat.le_of_eq (Nat.zero_add _), Nat.le_refl _, rfl, rfl, rfl, bl_refl _⟩
  case round =>
    obtain ⟨j, s, hj, hs, hju, hd, rfl, rfl, hbw⟩ := hrel
    have hcv := run_digit _ _ _ Tryd.underlying22 Tryd.underlying5 Tryd.underlying9 j
    have hdH := Lib.hid hd
    have hszH := Lib.hid (size_snoc1 (digB j) s)
    clear hd
    have hss : (s.size : Int) ≤ 101 := by omega
    by_cases hlt : 0 < j
    · have hlt' : ¬ (j : Int) = 0 := by omega
      have hge : (0 : Int) ≤ (j : Int) := by omega
      by_cases hz : (j : Int) % 10 = 0
      · have hcv0 : ∀ W : World, (convert 22 9 (.slice (some ⟨W.heap.size, 0, none⟩) 1 1)).run Tryd.prog (W.alloc (.cells #[.int .u8 48] 5)) = .ok (.string ⟨[digB j].toArray⟩) (W.alloc (.cells #[.int .u8 48] 5)) := fun W => by
          have := hcv W
          rw [hz] at this
          exact this
        clear hcv
        go_wp2
        go_roundg (gk - 1)
        case measure => omega
        case rel => exact ⟨j / 10, _, by omega, by (have := hszH.out; omega), by omega, by (rw [← hdH.out]; obtain ⟨r', rfl⟩ : ∃ r', gk = r' + 1 := ⟨gk - 1, by omega⟩; rw [mkDig_pos _ _ _ hlt]; rfl), by go_num, rfl, bl_al hbw _⟩
      · have hz2 : (0 : Int) < (j : Int) % 10 := by omega
        go_wp2
        go_roundg (gk - 1)
        case measure => omega
        case rel => exact ⟨j / 10, _, by omega, by (have := hszH.out; omega), by omega, by (rw [← hdH.out]; obtain ⟨r', rfl⟩ : ∃ r', gk = r' + 1 := ⟨gk - 1, by omega⟩; rw [mkDig_pos _ _ _ hlt]; rfl), by go_num, rfl, bl_al hbw _⟩
    · obtain rfl : j = 0 := by omega
      have hcat := fun W : World => run_string_add_sum (P := Tryd.prog) (w := W) ⟨#[45]⟩ s (by show 1 + s.size ≤ _; omega)
      go_wp2
      go_ret
      refine ⟨?_, hbw⟩
      have h3 : s = ⟨(dec2 u).toArray⟩ := by rw [← hR.out, ← hdH.out, mkDig_zero]
      rw [h3]
      exact congrArg (fun b => Ending.returned (.string b)) (ByteArray.ext (by simp))
theorem lDecimal_zero (w : World) :
    Calls Tryd.prog 24 #[.int .i64 0] w fun e w' => e = .returned (.string ⟨#[48]⟩) ∧ Below w.heap.size w w' := by
  go_enter Tryd.func24, Tryd.ntmps24
  go_wp2
  go_loopg [4, 3, 5] 1 (fun r x out dd wr => x = .int .i64 0 ∧ w = wr)
  case atStart => exact ⟨rfl, rfl⟩
  case round =>
    obtain ⟨rfl, rfl⟩ := hrel
    go_wp2
    go_ret
    exact ⟨rfl, bl_refl _⟩
theorem lDecimal_v {n : Int} {s : ByteArray} (w : World) (h0 : -60 ≤ n) (h1 : n ≤ 60) (hs : decB n = s) :
    Calls Tryd.prog 24 #[.int .i64 n] w fun e w' => e = .returned (.string s) ∧ Below w.heap.size w w' := by
  subst hs
  unfold decB dec3
  by_cases hn : n < 0
  · obtain ⟨u, rfl⟩ : ∃ u : Nat, n = -(u : Int) := ⟨n.natAbs, by omega⟩
    rw [if_pos hn, show (-(u : Int)).natAbs = u by omega]
    exact lDecimal_neg w (by omega) (by omega)
  · obtain ⟨u, rfl⟩ : ∃ u : Nat, n = (u : Int) := ⟨n.natAbs, by omega⟩
    rw [if_neg hn, show (u : Int).natAbs = u by omega]
    by_cases hu : u = 0
    · subst hu; exact lDecimal_zero w
    · exact lDecimal_pos w (by omega) (by omega)
end Go.Proofs.YtpfbaeccjppagaaDoor
