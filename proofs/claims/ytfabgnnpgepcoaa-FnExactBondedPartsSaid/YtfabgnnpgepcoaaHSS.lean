/- Walks: the harness on rows of rows of numbers: it compares them and marks them. -/
import Derived.Test.YtfabgnnpgepcoaaN2
import Derived.Test.YtfabgnnpgepcoaaHEq
import Derived.Test.YtfabgnnpgepcoaaXBase2
namespace Go.Proofs.Ytfabgnnpgepcoaa
open Go.RowKit
set_option linter.unusedSimpArgs false
set_option linter.unusedVariables false
attribute [local go_sem] BelowBy.cell BelowBy.cell_drew stillUpon givesUpon BelowBy.cell_drew2 BelowBy.cell_drew3

set_option maxRecDepth 100000 in
set_option maxHeartbeats 1000000 in
theorem eqInt64SS_same (A B : Option Addr) (n c d : Nat) (xss : List (List Int)) (w : World) (h1 : RdSl 1 (RRow 1 RInt) w A n xss) (h2 : RdSl 1 (RRow 1 RInt) w B n xss) (hn : n ≤ 1073741824) (hx : ∀ e ∈ xss, e.length ≤ 1073741824) :
    Calls Try.prog 53 #[.slice A n c, .slice B n d] w fun e w' => e = .returned (.bool true) ∧ Below w.heap.size w w' := by
  
  go_enter Try.func53, Try.ntmps53
  go_wp2
  go_loopg [5] n (fun g i wr => ∃ k : Nat, k + g = n ∧ i = .int .i64 k ∧ Below w.heap.size w wr)
  case atStart => exact ⟨0, by omega, rfl, Below.refl _ _⟩
  case round =>
    obtain ⟨k, hk, rfl, hbw⟩ := hrel
    have r1 := h1.below (RRow.stable RInt.stable) hbw
    have r2 := h2.below (RRow.stable RInt.stable) hbw
    by_cases hlt : k < n
    · obtain ⟨b, o, rfl, hb, hc⟩ := r1.ptr (by omega)
      obtain ⟨b2, o2, rfl, hb2, hc2⟩ := r2.ptr (by omega)
      obtain ⟨e, he⟩ := h1.get hlt
      obtain ⟨A1, n1, d1, c1b, hs1⟩ := hc k e he
      obtain ⟨A2, n2, d2, c2b, hs2⟩ := hc2 k e he
      obtain rfl : n1 = n2 := hs1.len.symm.trans hs2.len
      have hm : n1 ≤ 1073741824 := by rw [← hs1.len]; exact hx e (List.mem_of_getElem? he)
      simp only [Nat.mul_one] at c1b c2b
      have hs1H := Lib.hid hs1
      have hs2H := Lib.hid hs2
      clear hc hc2 he r1 r2 hs1 hs2
      go_wp2
      refine wp_region_ord [(0, .q), (1, .q), (2, .q), (3, .q), (4, .q), (5, .q), (6, .q), (7, .q), (8, .g), (9, .q)] (by kernel_rfl) (by kernel_rfl) ?_
      simp only [pick, List.filterMap_cons, List.filterMap_nil, List.getElem?_toArray, List.getElem?_cons_zero, List.getElem?_cons_succ, Option.map_some]
      repeat (first
        | ((with_reducible refine wpD_p (fun K hK => ?_)); go_simp; refine hK _ ?_; clear hK K)
        | ((with_reducible refine wpD_q (fun K hK => ?_)); go_simp; (first | refine hK _ ?_ | (go_bits; refine hK _ ?_) | (go_bits; go_simp; refine hK _ ?_)); clear hK K)
        | ((with_reducible refine wpD_g (fun K hK => ?_)); go_simp; refine hK _ _ ?_; clear hK K)
        | ((with_reducible refine wpD_g (fun K hK => ?_)); go_simp; refine ⟨Grew.of_alloc _, hK _ _ ?_⟩; clear hK K)
        | ((with_reducible refine wpD_g (fun K hK => ?_)); go_simp; go_at_call 21; refine (eqInt64S_same A1 A2 n1 d1 d2 e _ (hs1H.out.below RInt.stable (by repeat (first | with_reducible exact bl_refl _ | with_reducible assumption | with_reducible refine bl_al ?_ _ | with_reducible refine bl_dr ?_ | with_reducible refine bl_tr ?_ (by assumption) | with_reducible refine bl_set ?_ ?_ _ | with_reducible exact Nat.le_refl _ | omega | (simp only [World.size_alloc, World.size_setCell, World.size_drew] at *; omega) | (dsimp only; omega) | (simp; done) | (simp; omega)))) (hs2H.out.below RInt.stable (by repeat (first | with_reducible exact bl_refl _ | with_reducible assumption | with_reducible refine bl_al ?_ _ | with_reducible refine bl_dr ?_ | with_reducible refine bl_tr ?_ (by assumption) | with_reducible refine bl_set ?_ ?_ _ | with_reducible exact Nat.le_refl _ | omega | (simp only [World.size_alloc, World.size_setCell, World.size_drew] at *; omega) | (dsimp only; omega) | (simp; done) | (simp; omega)))) hm).mono ?_; rintro e w1 ⟨rfl, hb1⟩; refine ⟨_, rfl, hb1, hK _ _ ?_⟩; clear hK K; obtain ⟨chb1, fhb1, shb1, thb1⟩ := bcell hb1; (try have bhb10 := shb1 (b) (by go_simp)); (try have bhb11 := shb1 (b2) (by go_simp))))
      with_reducible refine wpD_nil ?_
      go_wp2
      go_roundg (n - (k + 1))
      case measure => omega
      case rel => exact ⟨k + 1, by omega, by go_num, (by repeat (first | with_reducible exact bl_refl _ | with_reducible assumption | with_reducible refine bl_al ?_ _ | with_reducible refine bl_dr ?_ | with_reducible refine bl_tr ?_ (by assumption) | with_reducible refine bl_set ?_ ?_ _ | with_reducible exact Nat.le_refl _ | omega | (simp only [World.size_alloc, World.size_setCell, World.size_drew] at *; omega) | (dsimp only; omega) | (simp; done) | (simp; omega)))⟩
    · obtain rfl : k = n := by omega
      go_wp2
      go_ret
      exact ⟨rfl, hbw⟩
set_option maxRecDepth 100000 in
set_option maxHeartbeats 1000000 in
theorem markInt64SS_c (A : Option Addr) (N c k lo hi : Nat) (us : List Value) (ns : List Nat) (w : World) (hN : us.length = N) (h : NRows 2 1 lo hi w A us ns) (hl : lo ≤ w.heap.size) (hh : hi ≤ w.heap.size) (hk : k + ns.sum ≤ 4611686018427387904) (hu : N ≤ 1073741824) :
    Calls Try.prog 54 #[.slice A N c, .int .i64 (k : Int)] w (MkResN 2 1 lo hi A us ns k w) := by
  have hNH := Lib.hid hN
  clear hN
  go_enter Try.func54, Try.ntmps54
  go_wp2
  go_loopg [5, 1] N (fun r x kk wr => ∃ i : Nat, i + r = N ∧ x = .int .i64 (i : Int) ∧ kk = .int .i64 ((k + (ns.take i).sum : Nat) : Int) ∧ Hid (NRows 2 1 lo hi wr A us ns) ∧ Hid (NMarked 2 1 lo hi wr us ns k i) ∧ Hid (Mk lo hi w wr))
  case atStart => exact ⟨0, by omega, rfl, by simp, Lib.hid h, Lib.hid (NMarked.zero _ _ _ _ _ _ _ _), Lib.hid (Mk.refl _ _ _)⟩
  case round =>
    obtain ⟨i, hi', rfl, rfl, hr, hm, hmk⟩ := hrel
    have hle := sum_take_le ns i
    obtain ⟨j0, hj⟩ : ∃ j0, k + (ns.take i).sum = j0 := ⟨_, rfl⟩
    rw [hj]
    have hjH := Lib.hid hj
    have hj0 : j0 ≤ 4611686018427387904 := by omega
    clear hj
    by_cases hlt : i < N
    · obtain ⟨g, rfl, hg1, hg2, hg3, hgc⟩ := hr.out.outer (by rw [hNH.out]; omega)
      obtain ⟨u, huu⟩ : ∃ u, us[i]? = some u := ⟨_, List.getElem?_eq_getElem (by rw [hNH.out]; exact hlt)⟩
      obtain ⟨n, hn⟩ : ∃ n, ns[i]? = some n := ⟨_, List.getElem?_eq_getElem (by rw [← hr.out.len, hNH.out]; exact hlt)⟩
      obtain ⟨A', c', rfl, hrow⟩ := hr.out.rows i u n huu hn
      have hc0 := hgc i _ huu
      have hsu := sum_take_succ ns i n hn
      have hle2 := sum_take_le ns (i + 1)
      have hj2 : j0 + n ≤ 4611686018427387904 := by have := hjH.out; omega
      have hnH := Lib.hid hn
      have huH := Lib.hid huu
      have hsuH := Lib.hid hsu
      clear hgc hn huu hsu hle hle2
      by_cases h0 : n = 0
      · subst h0
        have hempty := Lib.hid (hm.out.empty huH.out hnH.out)
        go_wp2_with (refine (markInt64S_zero A' c' j0 _).mono ?_; rintro e w' ⟨rfl, rfl⟩)
        go_roundg (N - (i + 1))
        case measure => omega
        case rel => exact ⟨i + 1, by omega, by go_num, by rw [hsuH.out, Nat.add_zero, hjH.out], hr, hempty, hmk⟩
      · obtain ⟨b, M, f0, rfl, b2, b3, b4, b5⟩ := hrow (by omega)
        have b4H := Lib.hid b4
        clear hrow b4
        go_wp2_with (refine (markInt64S_core b M n c' j0 f0 _ b4H.out b5 hj2).mono ?_; rintro e w' ⟨rfl, hmw, f, hrow', hcont⟩; have hmwH := Lib.hid hmw; have hrowH := Lib.hid hrow'; have hcontH := Lib.hid hcont; clear hmw hrow' hcont)
        have hst := hr.out.marked hm.out huH.out hnH.out hmwH.out (fun _ => ⟨b, M, f, rfl, b2, b3, hrowH.out, b5, by rw [Nat.one_mul, hjH.out]; exact hcontH.out⟩) (fun _ => ⟨b, M, f, rfl, b2, b3, hrowH.out, b5⟩)
        have hstH := Lib.hid hst
        clear hst
        go_roundg (N - (i + 1))
        case measure => omega
        case rel => exact ⟨i + 1, by omega, by go_num, by rw [hsuH.out, ← Nat.add_assoc, hjH.out]; go_num, Lib.hid hstH.out.1, Lib.hid hstH.out.2, Lib.hid (hmk.out.trans (hmwH.out.weaken b2 (by omega)))⟩
    · obtain rfl : i = N := by omega
      go_wp2
      go_ret
      have hall : ns.take i = ns := List.take_of_length_le (by rw [← hr.out.len, hNH.out]; exact Nat.le_refl _)
      exact ⟨ret_int (show (j0 : Int) = ((k + 1 * ns.sum : Nat) : Int) by rw [← hjH.out, hall, Nat.one_mul]), hmk.out, hr.out, by rw [hNH.out]; exact hm.out⟩
set_option maxRecDepth 100000 in
set_option maxHeartbeats 1000000 in
theorem heldInt64SS_any (A : Option Addr) (N c k lo hi : Nat) (us : List Value) (ns : List Nat) (w : World) (hN : us.length = N) (h : Marked2 2 1 lo hi w A us ns k) (hk : k + ns.sum ≤ 4611686018427387904) (hu : N ≤ 1073741824) :
    Calls Try.prog 55 #[.slice A N c, .int .i64 (k : Int)] w fun e w' => e = .returned (.int .i64 ((k + 1 * ns.sum : Nat) : Int)) ∧ w = w' := by
  have hNH := Lib.hid hN
  have hH := Lib.hid h
  clear hN h
  go_enter Try.func55, Try.ntmps55
  go_wp2
  go_loopg [5, 1] N (fun r x kk wr => ∃ i : Nat, i + r = N ∧ x = .int .i64 (i : Int) ∧ kk = .int .i64 ((k + (ns.take i).sum : Nat) : Int) ∧ w = wr)
  case atStart => exact ⟨0, by omega, rfl, by simp, rfl⟩
  case round =>
    obtain ⟨i, hi', rfl, rfl, rfl⟩ := hrel
    have hle := sum_take_le ns i
    obtain ⟨j0, hj⟩ : ∃ j0, k + (ns.take i).sum = j0 := ⟨_, rfl⟩
    rw [hj]
    have hjH := Lib.hid hj
    have hj0 : j0 ≤ 4611686018427387904 := by omega
    clear hj
    by_cases hlt : i < N
    · obtain ⟨g, rfl, hg1, hg2, hg3, hgc⟩ := hH.out.rows.outer (by rw [hNH.out]; omega)
      obtain ⟨u, huu⟩ : ∃ u, us[i]? = some u := ⟨_, List.getElem?_eq_getElem (by rw [hNH.out]; exact hlt)⟩
      obtain ⟨n, hn⟩ : ∃ n, ns[i]? = some n := ⟨_, List.getElem?_eq_getElem (by rw [← hH.out.rows.len, hNH.out]; exact hlt)⟩
      obtain ⟨A', c', rfl, hmd⟩ := hH.out.marks i u n (by rw [hNH.out]; exact hlt) huu hn
      rw [Nat.one_mul, hjH.out] at hmd
      have hmdH := Lib.hid hmd
      have hc0 := hgc i _ huu
      have hsu := sum_take_succ ns i n hn
      have hle2 := sum_take_le ns (i + 1)
      have hj2 : j0 + n ≤ 4611686018427387904 := by have := hjH.out; omega
      have hjp : (0 : Int) ≤ (j0 : Int) + (n : Int) := by omega
      have hsuH := Lib.hid hsu
      clear hgc hn huu hsu hle hle2 hmd
      go_wp2_with (refine (heldInt64S_any A' n c' j0 lo hi _ hmdH.out hj2).mono ?_; rintro e w' ⟨rfl, rfl⟩)
      go_roundg (N - (i + 1))
      case measure => omega
      case rel => exact ⟨i + 1, by omega, by go_num, by rw [hsuH.out, ← Nat.add_assoc, hjH.out]; go_num, rfl⟩
    · obtain rfl : i = N := by omega
      go_wp2
      go_ret
      have hall : ns.take i = ns := List.take_of_length_le (by rw [← hH.out.rows.len, hNH.out]; exact Nat.le_refl _)
      exact ⟨ret_int (show (j0 : Int) = ((k + 1 * ns.sum : Nat) : Int) by rw [← hjH.out, hall, Nat.one_mul]), rfl⟩
end Go.Proofs.Ytfabgnnpgepcoaa
