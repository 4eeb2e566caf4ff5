/- Walks: the reference's MeanBinding. -/
import Derived.Test.YtfabgnnpgepcoaaW28
namespace Go.Proofs.Ytfabgnnpgepcoaa
open Go.RowKit Go.Shelf
set_option linter.unusedSimpArgs false
set_option linter.unusedVariables false
attribute [local go_sem] BelowBy.cell BelowBy.cell_drew stillUpon givesUpon BelowBy.cell_drew2 BelowBy.cell_drew3

theorem bindsL_bound {gs : List Gl} {ts : List Ti} {xs : List Pl} (hV : Valid gs ts xs) {k : Nat} {b : Int} (h : (bindsL gs ts xs xs.length)[k]? = some b) : 0 ≤ b ∧ b ≤ 16 := by
  have hm := List.mem_of_getElem? h
  unfold bindsL at hm
  obtain ⟨e, _, rfl⟩ := List.mem_map.1 hm
  have := bindN_bound hV e.x e.y e.t.toNat 4
  unfold bindOf
  omega
theorem sumI_bound {l : List Int} (h : ∀ (k : Nat) (b : Int), l[k]? = some b → 0 ≤ b ∧ b ≤ 16) : 0 ≤ sumI l ∧ sumI l ≤ 16 * (l.length : Int) := by
  induction l with
  | nil => simp [sumI]
  | cons b l ih =>
    have h0 := h 0 b rfl
    have ih := ih (fun k b hb => h (k + 1) b (by simpa using hb))
    simp only [sumI, List.length_cons]
    omega
set_option maxRecDepth 100000 in
set_option maxHeartbeats 2000000 in
theorem sMeanBinding_any (G T A : Option Addr) (n cg m ct q ca : Nat) (gs : List Gl) (ts : List Ti) (xs : List Pl) (w : World) (h : SA w G n T m A q gs ts xs) :
    Calls Try.prog 46 #[.agg #[.slice G n cg, .slice T m ct], .agg #[.slice A q ca]] w (FracRes w (meanR gs ts xs)) := by
  have hql := h.A.len
  have hH := Lib.hid h
  clear h
  cases hv : validAsmB gs ts xs
  · have hR : bindsR gs ts xs = ([], 1) := (bindsR_no hv).symm
    have hrH := Lib.hid (show (0, 0, (1 : Int)) = meanR gs ts xs by unfold meanR meanCode; rw [hv]; simp)
    have hRH := Lib.hid hR
    clear hv hR
    go_enter Try.func46, Try.ntmps46
    go_wp2_with fail
    refine (sBindingsOf_any _ _ _ _ _ _ _ _ _ gs ts xs _ (hH.out.below (by repeat (first | with_reducible exact bl_refl _ | with_reducible assumption | with_reducible refine bl_al ?_ _ | with_reducible refine bl_dr ?_ | with_reducible refine bl_tr ?_ (by assumption) | with_reducible refine bl_set ?_ ?_ _ | with_reducible exact Nat.le_refl _ | omega | (simp only [World.size_alloc, World.size_setCell, World.size_drew] at *; omega) | (dsimp only; omega) | (simp; done) | (simp; omega))))).mono ?_
    rw [hRH.out]
    rintro e w1 ⟨Ab, cb, rfl, hrow, hb1⟩
    obtain ⟨chb1, fhb1, shb1, thb1⟩ := bcell hb1
    have bz := shb1 (w.heap.size + 2) (by simp)
    clear hrow
    go_wp2
    refine bodyPost_ret (v := .tuple #[.agg #[.int .i64 ((0 : Nat) : Int), .int .i64 ((0 : Nat) : Int)], .int .i64 1]) (by simp only [results, Try.results46]; go_simp) rfl ?_
    exact FracRes.of hrH.out (by repeat (first | with_reducible exact bl_refl _ | with_reducible assumption | with_reducible refine bl_al ?_ _ | with_reducible refine bl_dr ?_ | with_reducible refine bl_tr ?_ (by assumption) | with_reducible refine bl_set ?_ ?_ _ | with_reducible exact Nat.le_refl _ | omega | (simp only [World.size_alloc, World.size_setCell, World.size_drew] at *; omega) | (dsimp only; omega) | (simp; done) | (simp; omega)))
  · have hV := valid_of hv
    have hR : bindsR gs ts xs = (bindsL gs ts xs xs.length, 0) := (bindsR_yes hv).symm
    have hlen := bindsL_len (gs := gs) (ts := ts) (xs := xs) (Nat.le_refl _)
    have hbd : ∀ (k : Nat) (b : Int), (bindsL gs ts xs xs.length)[k]? = some b → 0 ≤ b ∧ b ≤ 16 := fun k b h => bindsL_bound hV h
    have htw := twice hV
    have hsb := sumB_bound (bonds_s hV)
    have hbl := bondsL_len hV
    have hq5 := hV.len
    obtain ⟨S, hS⟩ : ∃ S : Nat, sumB (bondsL gs ts xs) = S := ⟨(sumB (bondsL gs ts xs)).toNat, by omega⟩
    have hS4 : S ≤ 4000 := by omega
    obtain ⟨L, hL⟩ : ∃ L, bindsL gs ts xs xs.length = L := ⟨_, rfl⟩
    rw [hL] at hR hlen hbd htw
    rw [hS] at htw
    have hRH := Lib.hid hR
    have htwH := Lib.hid htw
    have hbdH := Lib.hid hbd
    rw [hql] at hlen
    have hlenH := Lib.hid hlen
    by_cases h0 : q = 0
    · have hrH := Lib.hid (show (0, 0, (3 : Int)) = meanR gs ts xs by unfold meanR meanCode; rw [hv, hql, h0]; simp)
      have hLe : L = [] := List.eq_nil_of_length_eq_zero (by omega)
      subst hLe
      clear hv hR htw hbd hL hsb hS h0 hlen hlenH hbdH htwH
      go_enter Try.func46, Try.ntmps46
      go_wp2_with fail
      refine (sBindingsOf_any _ _ _ _ _ _ _ _ _ gs ts xs _ (hH.out.below (by repeat (first | with_reducible exact bl_refl _ | with_reducible assumption | with_reducible refine bl_al ?_ _ | with_reducible refine bl_dr ?_ | with_reducible refine bl_tr ?_ (by assumption) | with_reducible refine bl_set ?_ ?_ _ | with_reducible exact Nat.le_refl _ | omega | (simp only [World.size_alloc, World.size_setCell, World.size_drew] at *; omega) | (dsimp only; omega) | (simp; done) | (simp; omega))))).mono ?_
      rw [hRH.out]
      rintro e w1 ⟨Ab, cb, rfl, hrow, hb1⟩
      obtain ⟨chb1, fhb1, shb1, thb1⟩ := bcell hb1
      have bz := shb1 (w.heap.size + 2) (by simp)
      clear hrow
      go_wp2
      refine bodyPost_ret (v := .tuple #[.agg #[.int .i64 ((0 : Nat) : Int), .int .i64 ((0 : Nat) : Int)], .int .i64 3]) (by simp only [results, Try.results46]; go_simp) rfl ?_
      exact FracRes.of hrH.out (by repeat (first | with_reducible exact bl_refl _ | with_reducible assumption | with_reducible refine bl_al ?_ _ | with_reducible refine bl_dr ?_ | with_reducible refine bl_tr ?_ (by assumption) | with_reducible refine bl_set ?_ ?_ _ | with_reducible exact Nat.le_refl _ | omega | (simp only [World.size_alloc, World.size_setCell, World.size_drew] at *; omega) | (dsimp only; omega) | (simp; done) | (simp; omega)))
    · have hrH := Lib.hid (show (fracN (2 * S) q, fracD (2 * S) q, (0 : Int)) = meanR gs ts xs by
        unfold meanR meanCode
        rw [hv, hql]
        simp only [if_true, if_neg h0]
        rw [if_neg (by simp), hS]
        have : (2 * (S : Int)).toNat = 2 * S := by omega
        rw [this])
      have hqp : 0 < q := by omega
      have hq0 : ((q : Int) == 0) = false := by simp; omega
      clear hv hR htw hbd hL hsb hS h0
      go_enter Try.func46, Try.ntmps46
      go_wp2_with fail
      refine (sBindingsOf_any _ _ _ _ _ _ _ _ _ gs ts xs _ (hH.out.below (by repeat (first | with_reducible exact bl_refl _ | with_reducible assumption | with_reducible refine bl_al ?_ _ | with_reducible refine bl_dr ?_ | with_reducible refine bl_tr ?_ (by assumption) | with_reducible refine bl_set ?_ ?_ _ | with_reducible exact Nat.le_refl _ | omega | (simp only [World.size_alloc, World.size_setCell, World.size_drew] at *; omega) | (dsimp only; omega) | (simp; done) | (simp; omega))))).mono ?_
      rw [hRH.out]
      rintro e w1 ⟨Ab, cb, rfl, hrow, hb1⟩
      simp only at hrow
      rw [hlen] at hrow
      have hrow' := hrow
      rw [← hlen] at hrow'
      obtain ⟨Ab', cb', hvv, rdb⟩ := rdI_of hrow'
      obtain rfl : Ab = Ab' := by injection hvv
      rw [hlen] at rdb
      simp only [hlen]
      have rdbH := Lib.hid rdb
      have hB1 : Below w.heap.size w w1 := by repeat (first | with_reducible exact bl_refl _ | with_reducible assumption | with_reducible refine bl_al ?_ _ | with_reducible refine bl_dr ?_ | with_reducible refine bl_tr ?_ (by assumption) | with_reducible refine bl_set ?_ ?_ _ | with_reducible exact Nat.le_refl _ | omega | (simp only [World.size_alloc, World.size_setCell, World.size_drew] at *; omega) | (dsimp only; omega) | (simp; done) | (simp; omega))
      have s1 : w.heap.size + 3 ≤ w1.heap.size := by have := hb1.size; simp at this; omega
      have y3 : w1.cell? ⟨w.heap.size + 2, 0, none⟩ = some (.int .i64 0) := (hb1.cell (p := ⟨w.heap.size + 2, 0, none⟩) (by simp)).trans (by go_simp)
      have y4 : w1.cell? ⟨w.heap.size + 2, 1, none⟩ = some (.int .i64 0) := (hb1.cell (p := ⟨w.heap.size + 2, 1, none⟩) (by simp)).trans (by go_simp)
      have f3 : w1.frozen? ⟨w.heap.size + 2, 0, none⟩ = false := (hb1.frozen (p := ⟨w.heap.size + 2, 0, none⟩) (by simp)).trans (by go_simp)
      have f4 : w1.frozen? ⟨w.heap.size + 2, 1, none⟩ = false := (hb1.frozen (p := ⟨w.heap.size + 2, 1, none⟩) (by simp)).trans (by go_simp)
      have l2 : w.heap.size + 2 < w1.heap.size := by omega
      clear hb1 hrow hrow' hvv rdb hlen
      go_wp2
      go_loopg [9, 8] q (fun r x y wr => ∃ k : Nat, k + r = q ∧ x = .int .i64 (k : Int) ∧ y = .int .i64 (sumI (L.take k)) ∧ Below w1.heap.size w1 wr)
      case atStart => exact ⟨0, by omega, rfl, rfl, by repeat (first | with_reducible exact bl_refl _ | with_reducible assumption | with_reducible refine bl_al ?_ _ | with_reducible refine bl_dr ?_ | with_reducible refine bl_tr ?_ (by assumption) | with_reducible refine bl_set ?_ ?_ _ | with_reducible exact Nat.le_refl _ | omega | (simp only [World.size_alloc, World.size_setCell, World.size_drew] at *; omega) | (dsimp only; omega) | (simp; done) | (simp; omega))⟩
      case round =>
        obtain ⟨k, hk, rfl, rfl, hbw⟩ := hrel
        have hb := sumI_bound (l := L.take k) (fun j b hj => hbdH.out j b (by rw [List.getElem?_take] at hj; split at hj; exact hj; cases hj))
        have htl : (L.take k).length ≤ k := List.length_take_le _ _
        have r1 := rdbH.out.below RInt.stable hbw
        by_cases hlt : k < q
        · obtain ⟨b, o, rfl, hb1, hc⟩ := r1.ptr (by omega)
          obtain ⟨e, he⟩ := rdbH.out.get hlt
          have c0 := hc k e he
          unfold RInt at c0
          simp only [Nat.mul_one] at c0
          obtain ⟨Sx, hSx⟩ : ∃ S, sumI (L.take k) = S := ⟨_, rfl⟩
          obtain ⟨e0, e4⟩ := hbdH.out k e he
          have hnx := Lib.hid (sumI_take he)
          rw [hSx] at hb hnx
          rw [hSx]
          obtain ⟨S0, S4⟩ := hb
          have S5 : Sx ≤ 400000 := by omega
          clear hc he r1 hSx S4 htl
          go_wp2
          go_roundg (q - (k + 1))
          case measure => omega
          case rel => exact ⟨k + 1, by omega, by go_num, by rw [hnx.out], by repeat (first | with_reducible exact bl_refl _ | with_reducible assumption | with_reducible refine bl_al ?_ _ | with_reducible refine bl_dr ?_ | with_reducible refine bl_tr ?_ (by assumption) | with_reducible refine bl_set ?_ ?_ _ | with_reducible exact Nat.le_refl _ | omega | (simp only [World.size_alloc, World.size_setCell, World.size_drew] at *; omega) | (dsimp only; omega) | (simp; done) | (simp; omega))⟩
        · obtain rfl : k = q := by omega
          have hfull : sumI (L.take k) = ((2 * S : Nat) : Int) := by
            rw [List.take_of_length_le (by have := hlenH.out; omega), htwH.out]; omega
          rw [hfull]
          clear r1 hfull hb htl
          go_wp2_with fail
          refine (l01Make_at (2 * S) k rfl rfl hqp (by omega) (by omega)).mono ?_
          rintro e w4 ⟨rfl, hb4⟩
          have hc4 : Below w1.heap.size w1 w4 := bl_tr hbw hb4
          have u3 := (hc4.cell (p := ⟨w.heap.size + 2, 0, none⟩) l2).trans y3
          have u4 := (hc4.cell (p := ⟨w.heap.size + 2, 1, none⟩) l2).trans y4
          have g3 := (hc4.frozen (p := ⟨w.heap.size + 2, 0, none⟩) l2).trans f3
          have g4 := (hc4.frozen (p := ⟨w.heap.size + 2, 1, none⟩) l2).trans f4
          have hcB := Lib.hid hc4
          clear y3 y4 f3 f4 hc4 hb4
          go_wp2
          refine bodyPost_ret (v := .tuple #[.agg #[.int .i64 (fracN (2 * S) k : Nat), .int .i64 (fracD (2 * S) k : Nat)], .int .i64 0]) (by simp only [results, Try.results46]; go_simp) rfl ?_
          exact FracRes.of hrH.out (((hB1.trans (hcB.out.mono hB1.size)).setCell (p := ⟨w.heap.size + 2, 0, none⟩) (by show _ ≤ w.heap.size + 2; omega) _).setCell (p := ⟨w.heap.size + 2, 1, none⟩) (by show _ ≤ w.heap.size + 2; omega) _)
end Go.Proofs.Ytfabgnnpgepcoaa
