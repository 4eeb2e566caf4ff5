/- Walks: fractions of two numbers that are not negative. -/
import Derived.Test.YtfabgnnpgepcoaaW18
namespace Go.Proofs.Ytfabgnnpgepcoaa
open Go.RowKit Go.Shelf
set_option linter.unusedSimpArgs false
set_option linter.unusedVariables false
attribute [local go_sem] BelowBy.cell BelowBy.cell_drew stillUpon givesUpon BelowBy.cell_drew2 BelowBy.cell_drew3

theorem gcd_step {a b g : Nat} (h : Nat.gcd a b = g) : Nat.gcd b (a % b) = g := by
  rw [← h, Nat.gcd_comm a b, Nat.gcd_rec b a, Nat.gcd_comm]
set_option maxHeartbeats 1000000 in
theorem gcd_any (a b : Nat) (w : World) (ha : a ≤ 1000000000000000000) (hb : b ≤ 1000000000000000000) :
    Calls Try.prog 174 #[.int .i64 (a : Int), .int .i64 (b : Int)] w fun e w' => e = .returned (.int .i64 (Nat.gcd a b : Nat)) ∧ Below w.heap.size w w' := by
  obtain ⟨G, hG⟩ : ∃ G, Nat.gcd a b = G := ⟨_, rfl⟩
  rw [hG]
  have hGH := Lib.hid hG
  clear hG
  go_enter Try.func174, Try.ntmps174
  go_wp2
  go_loopg [0, 1] b (fun r x y wr => ∃ c d : Nat, d ≤ r ∧ c ≤ 1000000000000000000 ∧ d ≤ 1000000000000000000 ∧ Hid (Nat.gcd c d = G) ∧ x = .int .i64 (c : Int) ∧ y = .int .i64 (d : Int) ∧ Below w.heap.size w wr)
  case atStart => exact ⟨a, b, Nat.le_refl _, ha, hb, hGH, rfl, rfl, bl_refl _⟩
  case round =>
    obtain ⟨c, d, hd, hc1, hd1, hg, rfl, rfl, hbw⟩ := hrel
    have hc0 : (0 : Int) ≤ (c : Int) := by omega
    have hc2 : (c : Int) ≤ 1000000000000000000 := by omega
    have hd2 : (d : Int) ≤ 1000000000000000000 := by omega
    by_cases h0 : d = 0
    · subst h0
      have hgz : c = G := by rw [← hg.out, Nat.gcd_zero_right]
      subst hgz
      go_wp2
      go_ret
      exact ⟨ret_int (by omega), hbw⟩
    · have hdp : (0 : Int) < (d : Int) := by omega
      have hm := Nat.mod_lt c (show 0 < d by omega)
      have hmH := Lib.hid hm
      clear hm
      go_wp2
      refine wp_region_ord [(0, .q), (1, .q), (2, .q), (3, .q), (4, .q), (5, .q)] (by kernel_rfl) (by kernel_rfl) ?_
      simp only [pick, List.filterMap_cons, List.filterMap_nil, List.getElem?_toArray, List.getElem?_cons_zero, List.getElem?_cons_succ, Option.map_some]
      repeat (first
        | ((with_reducible refine wpD_p (fun K hK => ?_)); go_simp; refine hK _ ?_; clear hK K)
        | ((with_reducible refine wpD_q (fun K hK => ?_)); go_simp; (first | refine hK _ ?_ | (go_bits; refine hK _ ?_) | (go_bits; go_simp; refine hK _ ?_)); clear hK K)
        | ((with_reducible refine wpD_g (fun K hK => ?_)); go_simp; refine hK _ _ ?_; clear hK K)
        | ((with_reducible refine wpD_g (fun K hK => ?_)); go_simp; refine ⟨Grew.of_alloc _, hK _ _ ?_⟩; clear hK K))
      with_reducible refine wpD_nil ?_
      go_wp2
      go_roundg (c % d)
      case measure => have := hmH.out; omega
      case rel => exact ⟨d, c % d, Nat.le_refl _, hd1, by have := hmH.out; omega, Lib.hid (gcd_step hg.out), rfl, by go_num, by repeat (first | with_reducible exact bl_refl _ | with_reducible assumption | with_reducible refine bl_al ?_ _ | with_reducible refine bl_dr ?_ | with_reducible refine bl_tr ?_ (by assumption) | with_reducible refine bl_set ?_ ?_ _ | with_reducible exact Nat.le_refl _ | omega | (simp only [World.size_alloc, World.size_setCell, World.size_drew] at *; omega) | (dsimp only; omega) | (simp; done) | (simp; omega))⟩
set_option maxHeartbeats 1000000 in
theorem l01Gcd_any (a b : Nat) (w : World) (ha : a ≤ 1000000000000000000) (hb : b ≤ 1000000000000000000) :
    Calls Try.prog 145 #[.int .i64 (a : Int), .int .i64 (b : Int)] w fun e w' => e = .returned (.int .i64 (Nat.gcd a b : Nat)) ∧ Below w.heap.size w w' := by
  obtain ⟨G, hG⟩ : ∃ G, Nat.gcd a b = G := ⟨_, rfl⟩
  rw [hG]
  have hGH := Lib.hid hG
  clear hG
  go_enter Try.func145, Try.ntmps145
  go_wp2
  go_loopg [0, 1] b (fun r x y wr => ∃ c d : Nat, d ≤ r ∧ c ≤ 1000000000000000000 ∧ d ≤ 1000000000000000000 ∧ Hid (Nat.gcd c d = G) ∧ x = .int .i64 (c : Int) ∧ y = .int .i64 (d : Int) ∧ Below w.heap.size w wr)
  case atStart => exact ⟨a, b, Nat.le_refl _, ha, hb, hGH, rfl, rfl, bl_refl _⟩
  case round =>
    obtain ⟨c, d, hd, hc1, hd1, hg, rfl, rfl, hbw⟩ := hrel
    have hc0 : (0 : Int) ≤ (c : Int) := by omega
    have hc2 : (c : Int) ≤ 1000000000000000000 := by omega
    have hd2 : (d : Int) ≤ 1000000000000000000 := by omega
    by_cases h0 : d = 0
    · subst h0
      have hgz : c = G := by rw [← hg.out, Nat.gcd_zero_right]
      subst hgz
      go_wp2
      go_ret
      exact ⟨rfl, hbw⟩
    · have hdp : (0 : Int) < (d : Int) := by omega
      have hm := Nat.mod_lt c (show 0 < d by omega)
      have hmH := Lib.hid hm
      clear hm
      go_wp2
      go_roundg (c % d)
      case measure => have := hmH.out; omega
      case rel => exact ⟨d, c % d, Nat.le_refl _, hd1, by have := hmH.out; omega, Lib.hid (gcd_step hg.out), rfl, by go_num, by repeat (first | with_reducible exact bl_refl _ | with_reducible assumption | with_reducible refine bl_al ?_ _ | with_reducible refine bl_dr ?_ | with_reducible refine bl_tr ?_ (by assumption) | with_reducible refine bl_set ?_ ?_ _ | with_reducible exact Nat.le_refl _ | omega | (simp only [World.size_alloc, World.size_setCell, World.size_drew] at *; omega) | (dsimp only; omega) | (simp; done) | (simp; omega))⟩
theorem l01Abs_any (a : Nat) (w : World) :
    Calls Try.prog 146 #[.int .i64 (a : Int)] w fun e w' => e = .returned (.int .i64 (a : Int)) ∧ w = w' := by
  have h0 : (0 : Int) ≤ (a : Int) := by omega
  go_enter Try.func146, Try.ntmps146
  go_wp2
  go_ret
  exact ⟨rfl, rfl⟩
/-- the fraction of two numbers -/
def fracN (a b : Nat) : Nat := a / Nat.gcd a b
def fracD (a b : Nat) : Nat := b / Nat.gcd a b
theorem fracN_le (a b : Nat) : fracN a b ≤ a := Nat.div_le_self _ _
theorem fracD_le (a b : Nat) : fracD a b ≤ b := Nat.div_le_self _ _
theorem fracD_pos {a b : Nat} (h : 0 < b) : 0 < fracD a b := Nat.div_pos (Nat.gcd_le_right _ h) (Nat.gcd_pos_of_pos_right _ h)
theorem frac_gcd {a b : Nat} (h : 0 < b) : Nat.gcd (fracN a b) (fracD a b) = 1 := Nat.gcd_div_gcd_div_gcd_of_pos_right h
/-- a fraction and OK -/
def FrRes (w : World) (a b : Nat) (e : Ending) (w' : World) : Prop := e = .returned (.tuple #[.agg #[.int .i64 (fracN a b : Nat), .int .i64 (fracD a b : Nat)], .int .i64 0]) ∧ Below w.heap.size w w'
set_option maxHeartbeats 1000000 in
theorem l01Frac_any (a b : Nat) (w : World) (hb : 0 < b) (ha9 : a ≤ 1000000000) (hb9 : b ≤ 1000000000) (hg : Nat.gcd a b = 1) :
    Calls Try.prog 147 #[.agg #[.int .i64 (a : Int), .int .i64 (b : Int)]] w fun e w' => e = .returned (.bool true) ∧ Below w.heap.size w w' := by
  have i1 : inB (a : Int) (-1000000000) 1000000000 = true := inB_true.2 ⟨by omega, by omega⟩
  have i2 : inB (b : Int) 1 1000000000 = true := inB_true.2 ⟨by omega, by omega⟩
  have hgH := Lib.hid hg
  clear hg
  go_enter Try.func147, Try.ntmps147
  go_wp2
  refine wp_region_ord [(0, .q), (1, .q), (2, .g), (3, .q), (4, .q), (5, .q), (6, .g), (7, .q), (8, .q), (9, .q), (10, .q), (12, .q), (13, .q), (11, .g), (14, .g), (15, .q), (16, .q), (17, .q)] (by kernel_rfl) (by kernel_rfl) ?_
  simp only [pick, List.filterMap_cons, List.filterMap_nil, List.getElem?_toArray, List.getElem?_cons_zero, List.getElem?_cons_succ, Option.map_some]
  repeat (first
    | ((with_reducible refine wpD_p (fun K hK => ?_)); go_simp; refine hK _ ?_; clear hK K)
    | ((with_reducible refine wpD_q (fun K hK => ?_)); go_simp; (first | refine hK _ ?_ | (go_bits; refine hK _ ?_) | (go_bits; go_simp; refine hK _ ?_)); clear hK K)
    | ((with_reducible refine wpD_g (fun K hK => ?_)); go_simp; refine hK _ _ ?_; clear hK K)
    | ((with_reducible refine wpD_g (fun K hK => ?_)); go_simp; refine ⟨Grew.of_alloc _, hK _ _ ?_⟩; clear hK K)
    | ((with_reducible refine wpD_g (fun K hK => ?_)); go_simp; go_at_call 60; refine (l00In_any _ _ _ _).mono ?_; rintro e _ ⟨rfl, rfl⟩; refine ⟨_, rfl, Below.refl _ _, hK _ _ ?_⟩; clear hK K)
    | ((with_reducible refine wpD_g (fun K hK => ?_)); go_simp; go_at_call 146; refine (l01Abs_any _ _).mono ?_; rintro e _ ⟨rfl, rfl⟩; refine ⟨_, rfl, Below.refl _ _, hK _ _ ?_⟩; clear hK K)
    | ((with_reducible refine wpD_g (fun K hK => ?_)); go_simp; go_at_call 145; refine (l01Gcd_any _ _ _ (by omega) (by omega)).mono ?_; rintro e w1 ⟨rfl, hb1⟩; refine ⟨_, rfl, hb1, hK _ _ ?_⟩; clear hK K; obtain ⟨chb1, fhb1, shb1, thb1⟩ := bcell hb1))
  with_reducible refine wpD_nil ?_
  go_wp2
  go_ret
  exact ⟨ret_bool (by rw [hgH.out]; rfl), by repeat (first | with_reducible exact bl_refl _ | with_reducible assumption | with_reducible refine bl_al ?_ _ | with_reducible refine bl_dr ?_ | with_reducible refine bl_tr ?_ (by assumption) | with_reducible refine bl_set ?_ ?_ _ | with_reducible exact Nat.le_refl _ | omega | (simp only [World.size_alloc, World.size_setCell, World.size_drew] at *; omega) | (dsimp only; omega) | (simp; done) | (simp; omega))⟩
theorem quo_nat {a b : Nat} : ((a : Int) / (b : Int)) = ((a / b : Nat) : Int) := by omega
set_option maxRecDepth 100000 in
set_option maxHeartbeats 2000000 in
theorem l01Make_any (a b : Nat) (w : World) (hb : 0 < b) (ha9 : a ≤ 1000000000) (hb9 : b ≤ 1000000000) :
    Calls Try.prog 98 #[.int .i64 (a : Int), .int .i64 (b : Int)] w (FrRes w a b) := by
  have hgp := Nat.gcd_pos_of_pos_right a hb
  obtain ⟨g, hg⟩ : ∃ g, Nat.gcd a b = g := ⟨_, rfl⟩
  have hN := fracN_le a b
  have hD := fracD_le a b
  have hDp := fracD_pos (a := a) hb
  have hgc := frac_gcd (a := a) hb
  have hNe : fracN a b = a / g := by unfold fracN; rw [hg]
  have hDe : fracD a b = b / g := by unfold fracD; rw [hg]
  rw [hg] at hgp
  rw [hNe] at hN hgc
  rw [hDe] at hD hDp hgc
  have hgH := Lib.hid hg
  have hgcH := Lib.hid hgc
  have hNeH := Lib.hid hNe
  have hDeH := Lib.hid hDe
  have hgI : (0 : Int) < (g : Int) := by omega
  have hb0 : (0 : Int) < (b : Int) := by omega
  have hgle : g ≤ b := by rw [← hg]; exact Nat.gcd_le_right _ hb
  have hgle9 : (g : Int) ≤ 1000000000 := by omega
  obtain ⟨N, hNv⟩ : ∃ N, a / g = N := ⟨_, rfl⟩
  obtain ⟨D, hDv⟩ : ∃ D, b / g = D := ⟨_, rfl⟩
  have q1 : (a : Int) / (g : Int) = (N : Int) := by rw [quo_nat, hNv]
  have q2 : (b : Int) / (g : Int) = (D : Int) := by rw [quo_nat, hDv]
  have hDpD : 0 < D := by omega
  have hN9 : N ≤ 1000000000 := by omega
  have hD9 : D ≤ 1000000000 := by omega
  have hgcD := Lib.hid (show Nat.gcd N D = 1 by rw [← hNv, ← hDv]; exact hgc)
  have hNvH := Lib.hid hNv
  have hDvH := Lib.hid hDv
  have hgne : ¬ g = 0 := by omega
  have wN : IntKind.i64.wrap (N : Int) = (N : Int) := wrap_in (by omega) (by omega)
  have wD : IntKind.i64.wrap (D : Int) = (D : Int) := wrap_in (by omega) (by omega)
  have ha0 : (0 : Int) ≤ (a : Int) := by omega
  clear hg hgc hNe hDe hN hD hDp hNv hDv
  go_enter Try.func98, Try.ntmps98
  go_wp2_with (first | (go_at_call 146; refine (l01Abs_any _ _).mono ?_; rintro e _ ⟨rfl, rfl⟩) | (go_at_call 145; refine (l01Gcd_any _ _ _ (by omega) (by omega)).mono ?_; rintro e w1 ⟨rfl, hb1⟩; rw [hgH.out]))
  go_wp2
  refine wp_region_ord [(0, .q), (1, .q), (2, .q), (3, .q), (4, .q), (5, .q), (6, .q), (7, .g), (8, .b)] (by kernel_rfl) (by kernel_rfl) ?_
  simp only [pick, List.filterMap_cons, List.filterMap_nil, List.getElem?_toArray, List.getElem?_cons_zero, List.getElem?_cons_succ, Option.map_some]
  repeat (first
    | ((with_reducible refine wpD_p (fun K hK => ?_)); go_simp; refine hK _ ?_; clear hK K)
    | ((with_reducible refine wpD_q (fun K hK => ?_)); go_simp; (first | refine hK _ ?_ | (go_bits; refine hK _ ?_) | (go_bits; go_simp; refine hK _ ?_)); clear hK K)
    | ((with_reducible refine wpD_g (fun K hK => ?_)); go_simp; refine hK _ _ ?_; clear hK K)
    | ((with_reducible refine wpD_g (fun K hK => ?_)); go_simp; refine ⟨Grew.of_alloc _, hK _ _ ?_⟩; clear hK K))
  with_reducible refine wpD_b (fun K hK => ?_)
  go_simp
  refine hK _ _ ?_
  clear hK K
  with_reducible refine wpD_nil ?_
  obtain ⟨chb1, fhb1, shb1, thb1⟩ := bcell hb1
  have bz := shb1 w.heap.size (by go_simp)
  have bzl := Nat.le_of_lt bz
  go_wp2_with (go_at_call 147; refine (l01Frac_any N D _ hDpD hN9 hD9 hgcD.out).mono ?_; rintro e w2 ⟨rfl, hb2⟩; obtain ⟨chb2, fhb2, shb2, thb2⟩ := bcell hb2)
  have bz2 := shb2 w.heap.size (by simp; omega)
  have bz3 := shb2 w1.heap.size (by simp)
  have e0 : w2.cell? ⟨w.heap.size, 0, none⟩ = some (.int .i64 0) := (chb2 w.heap.size 0 (by simp; omega)).trans (by go_simp)
  have e1 : w2.cell? ⟨w.heap.size, 1, none⟩ = some (.int .i64 0) := (chb2 w.heap.size 1 (by simp; omega)).trans (by go_simp)
  have f0 : w2.frozen? ⟨w.heap.size, 0, none⟩ = false := (fhb2 w.heap.size 0 (by simp; omega)).trans (by go_simp)
  have f1 : w2.frozen? ⟨w.heap.size, 1, none⟩ = false := (fhb2 w.heap.size 1 (by simp; omega)).trans (by go_simp)
  go_wp2
  refine bodyPost_ret (v := .tuple #[.agg #[.int .i64 (N : Int), .int .i64 (D : Int)], .int .i64 0]) (by simp only [results, Try.results98]; go_simp) rfl ?_
  exact ⟨by rw [hNeH.out, hDeH.out, hNvH.out, hDvH.out], by repeat (first | with_reducible exact bl_refl _ | with_reducible assumption | with_reducible refine bl_al ?_ _ | with_reducible refine bl_dr ?_ | with_reducible refine bl_tr ?_ (by assumption) | with_reducible refine bl_set ?_ ?_ _ | with_reducible exact Nat.le_refl _ | omega | (simp only [World.size_alloc, World.size_setCell, World.size_drew] at *; omega) | (dsimp only; omega) | (simp; done) | (simp; omega))⟩
set_option maxRecDepth 100000 in
set_option maxHeartbeats 2000000 in
theorem reduced_any (a b : Nat) (w : World) (hb : 0 < b) (ha9 : a ≤ 1000000000) (hb9 : b ≤ 1000000000) :
    Calls Try.prog 148 #[.int .i64 (a : Int), .int .i64 (b : Int)] w (FrRes w a b) := by
  have hgp := Nat.gcd_pos_of_pos_right a hb
  obtain ⟨g, hg⟩ : ∃ g, Nat.gcd a b = g := ⟨_, rfl⟩
  have hN := fracN_le a b
  have hD := fracD_le a b
  have hDp := fracD_pos (a := a) hb
  have hNe : fracN a b = a / g := by unfold fracN; rw [hg]
  have hDe : fracD a b = b / g := by unfold fracD; rw [hg]
  rw [hg] at hgp
  rw [hNe] at hN
  rw [hDe] at hD hDp
  have hgH := Lib.hid hg
  have hNeH := Lib.hid hNe
  have hDeH := Lib.hid hDe
  have hgI : (0 : Int) < (g : Int) := by omega
  have hb0 : (0 : Int) < (b : Int) := by omega
  have hgle : g ≤ b := by rw [← hg]; exact Nat.gcd_le_right _ hb
  have hgle9 : (g : Int) ≤ 1000000000 := by omega
  obtain ⟨N, hNv⟩ : ∃ N, a / g = N := ⟨_, rfl⟩
  obtain ⟨D, hDv⟩ : ∃ D, b / g = D := ⟨_, rfl⟩
  have q1 : (a : Int) / (g : Int) = (N : Int) := by rw [quo_nat, hNv]
  have q2 : (b : Int) / (g : Int) = (D : Int) := by rw [quo_nat, hDv]
  have hDpD : 0 < D := by omega
  have hN9 : N ≤ 1000000000 := by omega
  have hD9 : D ≤ 1000000000 := by omega
  have hD9I : (D : Int) ≤ 1000000000 := by omega
  have i1 : inB (N : Int) (-1000000000) 1000000000 = true := inB_true.2 ⟨by omega, by omega⟩
  have hNvH := Lib.hid hNv
  have hDvH := Lib.hid hDv
  have hgne : ¬ g = 0 := by omega
  have wN : IntKind.i64.wrap (N : Int) = (N : Int) := wrap_in (by omega) (by omega)
  have wD : IntKind.i64.wrap (D : Int) = (D : Int) := wrap_in (by omega) (by omega)
  have ha0 : (0 : Int) ≤ (a : Int) := by omega
  clear hg hNe hDe hN hD hDp hNv hDv
  go_enter Try.func148, Try.ntmps148
  go_wp2_with (go_at_call 174; refine (gcd_any _ _ _ (by omega) (by omega)).mono ?_; rintro e w1 ⟨rfl, hb1⟩; rw [hgH.out])
  go_wp2
  refine wp_region_ord [(0, .q), (1, .q), (2, .q), (3, .q), (4, .q), (5, .q), (6, .q), (7, .g), (8, .b)] (by kernel_rfl) (by kernel_rfl) ?_
  simp only [pick, List.filterMap_cons, List.filterMap_nil, List.getElem?_toArray, List.getElem?_cons_zero, List.getElem?_cons_succ, Option.map_some]
  repeat (first
    | ((with_reducible refine wpD_p (fun K hK => ?_)); go_simp; refine hK _ ?_; clear hK K)
    | ((with_reducible refine wpD_q (fun K hK => ?_)); go_simp; (first | refine hK _ ?_ | (go_bits; refine hK _ ?_) | (go_bits; go_simp; refine hK _ ?_)); clear hK K)
    | ((with_reducible refine wpD_g (fun K hK => ?_)); go_simp; refine hK _ _ ?_; clear hK K)
    | ((with_reducible refine wpD_g (fun K hK => ?_)); go_simp; refine ⟨Grew.of_alloc _, hK _ _ ?_⟩; clear hK K))
  with_reducible refine wpD_b (fun K hK => ?_)
  go_simp
  refine hK _ _ ?_
  clear hK K
  with_reducible refine wpD_nil ?_
  obtain ⟨chb1, fhb1, shb1, thb1⟩ := bcell hb1
  have bz := shb1 w.heap.size (by go_simp)
  have bzl := Nat.le_of_lt bz
  go_wp2_with (go_at_call 67; refine (within_any _ _ _ _).mono ?_; rintro e _ ⟨rfl, rfl⟩)
  refine bodyPost_ret (v := .tuple #[.agg #[.int .i64 (N : Int), .int .i64 (D : Int)], .int .i64 0]) (by simp only [results, Try.results148]; go_simp) rfl ?_
  exact ⟨by rw [hNeH.out, hDeH.out, hNvH.out, hDvH.out], by repeat (first | with_reducible exact bl_refl _ | with_reducible assumption | with_reducible refine bl_al ?_ _ | with_reducible refine bl_dr ?_ | with_reducible refine bl_tr ?_ (by assumption) | with_reducible refine bl_set ?_ ?_ _ | with_reducible exact Nat.le_refl _ | omega | (simp only [World.size_alloc, World.size_setCell, World.size_drew] at *; omega) | (dsimp only; omega) | (simp; done) | (simp; omega))⟩
set_option maxRecDepth 100000 in
set_option maxHeartbeats 2000000 in
theorem MakeFrac_any (a b : Nat) (w : World) (hb : 0 < b) (ha9 : a ≤ 1000000000) (hb9 : b ≤ 1000000000) :
    Calls Try.prog 100 #[.int .i64 (a : Int), .int .i64 (b : Int)] w (FrRes w a b) := by
  have i1 : inB (a : Int) (-1000000000) 1000000000 = true := inB_true.2 ⟨by omega, by omega⟩
  have i2 : inB (b : Int) (-1000000000) 1000000000 = true := inB_true.2 ⟨by omega, by omega⟩
  have hb0 : ((b : Int) == 0) = false := by simp; omega
  go_enter Try.func100, Try.ntmps100
  go_wp2_with (first | (go_at_call 67; refine (within_any _ _ _ _).mono ?_; rintro e _ ⟨rfl, rfl⟩) | (go_at_call 148; refine (reduced_any a b _ hb ha9 hb9).mono ?_; rintro e w1 ⟨rfl, hb1⟩; obtain ⟨chb1, fhb1, shb1, thb1⟩ := bcell hb1))
  have bz := shb1 w.heap.size (by go_simp)
  have bzl := Nat.le_of_lt bz
  go_wp2
  refine bodyPost_ret (v := .tuple #[.agg #[.int .i64 (fracN a b : Nat), .int .i64 (fracD a b : Nat)], .int .i64 0]) (by simp only [results, Try.results100]; go_simp) rfl ?_
  exact ⟨rfl, by repeat (first | with_reducible exact bl_refl _ | with_reducible assumption | with_reducible refine bl_al ?_ _ | with_reducible refine bl_dr ?_ | with_reducible refine bl_tr ?_ (by assumption) | with_reducible refine bl_set ?_ ?_ _ | with_reducible exact Nat.le_refl _ | omega | (simp only [World.size_alloc, World.size_setCell, World.size_drew] at *; omega) | (dsimp only; omega) | (simp; done) | (simp; omega))⟩
end Go.Proofs.Ytfabgnnpgepcoaa
