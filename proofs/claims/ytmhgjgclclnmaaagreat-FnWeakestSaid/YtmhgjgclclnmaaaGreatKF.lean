import Derived.Test.YtmhgjgclclnmaaaGreatKD
import Derived.Test.YtmhgjgclclnmaaaGreatKV
import Derived.Test.YtmhgjgclclnmaaaGreatKE
set_option linter.unusedSimpArgs false
set_option linter.unusedVariables false
/- Walk: the reference draws a piece: a set and an assembly. -/


namespace Go.Proofs.YtmhgjgclclnmaaaGreat
open Go.RowKit
attribute [local go_sem] BelowBy.cell BelowBy.cell_drew stillUpon givesUpon KpBy.cell KpBy.cell_drew KqBy.cell KqBy.cell_drew

set_option maxRecDepth 100000 in
set_option maxHeartbeats 16000000 in
theorem l06Draw_any {p K : Nat} {w : World} (h : SrcE w p K) (hK : K ≤ 1000) :
    Calls Tryz.prog 42 #[.pointer (some ⟨p, 0, none⟩)] w (DrawPiece p w) := by
  have hlt := h.lt
  have hH := Lib.hid h
  clear h
  have hneR : w.heap.size ≠ p := by omega
  have hneQ : w.heap.size + 1 ≠ p := by omega
  go_enter Tryz.func42, Tryz.ntmps42
  go_wp2_with fail
  refine (pickE_any 5 (hH.out.below (by exact bel_)) (by omega) rfl (by omega) (by omega)).mono ?_
  rintro e w1 ⟨v, rfl, hv, hS1, hk1⟩
  have bR1 : Hid (Bx w1 w.heap.size [.slice none 0 0, .slice none 0 0]) := Lib.hid (((Bx.made w [.slice none 0 0, .slice none 0 0] 27).below (bl_al (bl_refl _) _)).kp hneR hk1)
  have bQ1 : Hid (Bx w1 (w.heap.size + 1) [.slice none 0 0]) := Lib.hid ((by have := Bx.made (w.alloc (Obj.cells #[.slice none 0 0, .slice none 0 0] 27)) [.slice none 0 0] 30; rw [World.size_alloc] at this; exact this : Bx _ _ _).kp hneQ hk1)
  have hkA1 : Hid (Kp p w w1) := Lib.hid ((((Kp.refl p w).al (by omega) _).al (by simp; omega) _).trans hk1)
  have hS1 := Lib.hid hS1
  have l1 : w.heap.size + 1 < w1.heap.size := bQ1.out.lt
  obtain ⟨m, hm⟩ : ∃ m : Nat, m = v + 1 := ⟨_, rfl⟩
  have hwm : IntKind.i64.wrap (1 + (v : Int)) = (m : Int) := by rw [hm, wrapI (by omega) (by omega)]; omega
  have hm1 : 1 ≤ m := by omega
  have hm5 : m ≤ 5 := by omega
  clear hm hk1
  go_wp2_with fail
  refine (l02Draw_any (m := m) hS1.out (by omega) hm1 (by omega)).mono ?_
  rintro e w2 ⟨vs, gs, ts, g, rfl, hso, hDG, hDT, hg1, hg5, hS2, hk2⟩
  obtain ⟨vg, vt, us, rfl, hog, hot⟩ := hso.out
  obtain ⟨Ag, cg, rfl⟩ := ownsRow_form hog
  obtain ⟨At, ct, rfl, _⟩ := hot.rd
  rw [hDT.len] at hot ⊢
  have hvs := Lib.hid (drawn_valid hDG hDT (by omega) hm1 (by omega))
  have hV0 := Lib.hid (valid_nil hvs.out)
  have htm := Lib.hid hDT.len
  have hIn2 := Lib.hid (SetIn.of hog hot)
  have bR2 := Lib.hid (bR1.out.kp hneR hk2)
  have bQ2 := Lib.hid (bQ1.out.kp hneQ hk2)
  have hkA2 := Lib.hid (hkA1.out.trans hk2)
  have hS2 := Lib.hid hS2
  have l2 : w.heap.size + 1 < w2.heap.size := bQ2.out.lt
  have l12 : w1.heap.size ≤ w2.heap.size := hk2.below.size
  have hneS : w2.heap.size ≠ p := by omega
  clear hso hog hot hDG hDT hk2 bR1 bQ1 hkA1 hS1 hwm
  go_wp2_with fail
  have hal2 : Below w2.heap.size w2 (w2.alloc (Obj.cells #[.slice Ag gs.length cg, .slice At m ct] 27)) := bl_al (bl_refl _) _
  refine (l03Draw_any (m := m) (hS2.out.below hal2) (by omega) hm1 (by omega)).mono ?_
  rintro e w3 ⟨va, xs0, rfl, hoa, hDA, hS3, hk3⟩
  obtain ⟨A0, c0, rfl⟩ := ownsRow_form hoa
  have bR3 := Lib.hid ((bR2.out.below hal2).kp hneR hk3)
  have bQ3 := Lib.hid ((bQ2.out.below hal2).kp hneQ hk3)
  have bS3 : Hid (Bx w3 w2.heap.size [.slice Ag gs.length cg, .slice At m ct]) := Lib.hid ((Bx.made w2 [.slice Ag gs.length cg, .slice At m ct] 27).kp hneS hk3)
  have hIn3 := Lib.hid ((hIn2.out.below hal2).kp (by omega) hk3)
  have hkA3 := Lib.hid ((hkA2.out.thenB hlt (hal2.mono (by omega))).trans hk3)
  have hS3 := Lib.hid hS3
  have hoa3 := Lib.hid (ownsRow_lo (base' := w2.heap.size + 1) hoa (by simp))
  have l3 : w2.heap.size < w3.heap.size := bS3.out.lt
  have hneA : w3.heap.size ≠ p := by omega
  clear hal2 hk3 hoa bR2 bQ2 hIn2 hkA2 hS2
  go_wp2_with fail
  have hal3 : Below w3.heap.size w3 (w3.alloc (Obj.cells #[.slice A0 xs0.length c0] 30)) := bl_al (bl_refl _) _
  refine (oneE_any 3 (hS3.out.below hal3) (by omega) rfl (by omega) (by omega)).mono ?_
  rintro e w4 ⟨vb, rfl, hS4, hk4⟩
  have bR4 := Lib.hid ((bR3.out.below hal3).kp hneR hk4)
  have bQ4 := Lib.hid ((bQ3.out.below hal3).kp hneQ hk4)
  have bS4 := Lib.hid ((bS3.out.below hal3).kp hneS hk4)
  have bA4 : Hid (Bx w4 w3.heap.size [.slice A0 xs0.length c0]) := Lib.hid ((Bx.made w3 [.slice A0 xs0.length c0] 30).kp hneA hk4)
  have hIn4 := Lib.hid ((hIn3.out.below hal3).kp (by omega) hk4)
  have hoa4 := Lib.hid (Own_kp (ownsRow_below hoa3.out hal3) (by omega) hk4)
  have hkA4 := Lib.hid ((hkA3.out.thenB hlt (hal3.mono (by omega))).trans hk4)
  have hS4 := Lib.hid hS4
  have l4 : w3.heap.size < w4.heap.size := bA4.out.lt
  clear hal3 hk4 hoa3 bR3 bQ3 bS3 hIn3 hkA3 hS3
  have s0 := bS4.out.cell 0 _ rfl
  have s1 := bS4.out.cell 1 _ rfl
  have lS := bS4.out.lt
  have a0 := bA4.out.cell 0 _ rfl
  have af := bA4.out.froz 0
  have r0 := bR4.out.cell 0 _ rfl
  have r1 := bR4.out.cell 1 _ rfl
  have rf0 := bR4.out.froz 0
  have rf1 := bR4.out.froz 1
  have lR := bR4.out.lt
  have q0 := bQ4.out.cell 0 _ rfl
  have qf := bQ4.out.froz 0
  have lQ := bQ4.out.lt
  cases vb
  rotate_left
  · go_wp2
    go_region
    go_wp2
    refine bodyPost_ret (v := .tuple #[.agg #[.slice Ag gs.length cg, .slice At m ct], .agg #[.slice A0 xs0.length c0]]) (by simp only [results, Tryz.results42]; go_simp) rfl ?_
    have hst : Below w.heap.size w4 (((w4.setCell ⟨w.heap.size, 0, none⟩ (.slice Ag gs.length cg)).setCell ⟨w.heap.size, 1, none⟩ (.slice At m ct)).setCell ⟨w.heap.size + 1, 0, none⟩ (.slice A0 xs0.length c0)) := (((Below.refl _ _).setCell (p := ⟨w.heap.size, 0, none⟩) (Nat.le_refl _) _).setCell (p := ⟨w.heap.size, 1, none⟩) (Nat.le_refl _) _).setCell (p := ⟨w.heap.size + 1, 0, none⟩) (Nat.le_succ _) _
    refine ⟨_, _, gs, ts, xs0, rfl, ((((hIn4.out.setLow (by simp only; omega) _).setLow (by simp only; omega) _).setLow (by simp only; omega) _).below (bl_dr (bl_refl _))).own (by omega), ownsRow_lo (ownsRow_below (ownsRow_setB (ownsRow_setB (ownsRow_setB hoa4.out (by simp only; omega) _) (by simp only; omega) _) (by simp only; omega) _) (bl_dr (bl_refl _))) (by omega), hDA.asm hvs.out htm.out (by omega) (by omega), by have := hDA.len; omega, hkA4.out.thenB hlt hst.drew⟩
  clear hoa4 hDA r0 r1 rf0 rf1 lR q0 qf lQ
  go_wp2_with fail
  refine (pickE_any m hS4.out (by omega) rfl hm1 (by omega)).mono ?_
  rintro e w5 ⟨v5, rfl, hv5, hS5, hk5⟩
  have bR5 := Lib.hid (bR4.out.kp hneR hk5)
  have bQ5 := Lib.hid (bQ4.out.kp hneQ hk5)
  have bS5 := Lib.hid (bS4.out.kp hneS hk5)
  have bA5 := Lib.hid (bA4.out.kp hneA hk5)
  have hIn5 := Lib.hid (hIn4.out.kp (by omega) hk5)
  have hkA5 := Lib.hid (hkA4.out.trans hk5)
  have hS5 := Lib.hid hS5
  clear hk5 bR4 bQ4 bS4 bA4 hIn4 hkA4 hS4 s0 s1 lS a0 af
  have a0 := bA5.out.cell 0 _ rfl
  have af := bA5.out.froz 0
  have lA := bA5.out.lt
  go_wp2_with fail
  obtain ⟨w5b, hw5b⟩ : ∃ W, W = w5.setCell ⟨w3.heap.size, 0, none⟩ (.slice (some ⟨w5.heap.size, 0, none⟩) 1 1) := ⟨_, rfl⟩
  have hst5 : Below w3.heap.size w5 w5b := by rw [hw5b]; exact (Below.refl _ _).setCell (p := ⟨w3.heap.size, 0, none⟩) (Nat.le_refl _) _
  have bA5b : Hid (Bx w5b w3.heap.size [.slice (some ⟨w5.heap.size, 0, none⟩) 1 1]) := Lib.hid (by rw [hw5b]; exact bA5.out.setSame 0 (.slice (some ⟨w5.heap.size, 0, none⟩) 1 1))
  have hsz5 : w5b.heap.size = w5.heap.size := by rw [hw5b]; simp
  rw [← hw5b, ← hsz5]
  have hal5 : Below w5b.heap.size w5b (w5b.alloc (Obj.cells #[.int .i64 0, .int .i64 0, .int .i64 (v5 : Int)] 149)) := bl_al (bl_refl _) _
  have bR6 := Lib.hid ((bR5.out.belowB (by omega) hst5).below hal5)
  have bQ6 := Lib.hid ((bQ5.out.belowB (by omega) hst5).below hal5)
  have bS6 := Lib.hid ((bS5.out.belowB (by omega) hst5).below hal5)
  have bA6 := Lib.hid (bA5b.out.below hal5)
  rw [← hsz5] at bA6
  have hIn6 := Lib.hid ((hIn5.out.belowB (hst5.mono (by omega))).below hal5)
  have hkA6 := Lib.hid ((hkA5.out.thenB hlt (hst5.mono (by omega))).thenB hlt (hal5.mono (by omega)))
  have hS6 := Lib.hid ((hS5.out.belowB (by omega) hst5).below hal5)
  have hO6 := Lib.hid (World.ownsRow_lit (base := w3.heap.size + 1) (e := 149) (size := 3) w5b #[.int .i64 0, .int .i64 0, .int .i64 (v5 : Int)] 1 (by omega) (by unfold maxLen; omega) rfl)
  clear hsz5 hw5b hst5 bA5b
  generalize w5b.heap.size = z5 at bA6 hO6 ⊢
  obtain ⟨w6, hw6⟩ : ∃ W, W = w5b.alloc (Obj.cells #[.int .i64 0, .int .i64 0, .int .i64 (v5 : Int)] 149) := ⟨_, rfl⟩
  rw [← hw6] at bR6 bQ6 bS6 bA6 hIn6 hkA6 hS6 hO6 ⊢
  clear hw6 hal5 bR5 bQ5 bS5 bA5 hIn5 hkA5 hS5 a0 af lA
  refine (pickE_any 14 hS6.out (by omega) rfl (by omega) (by omega)).mono ?_
  rintro e w7 ⟨v7, rfl, hv7, hS7, hk7⟩
  have bR := Lib.hid (bR6.out.kp hneR hk7)
  have bQ := Lib.hid (bQ6.out.kp hneQ hk7)
  have bS := Lib.hid (bS6.out.kp hneS hk7)
  have bA := Lib.hid (bA6.out.kp hneA hk7)
  have hIn := Lib.hid (hIn6.out.kp (by omega) hk7)
  have hkA := Lib.hid (hkA6.out.trans hk7)
  have hO := Lib.hid (Own_kp hO6.out (by omega) hk7)
  have hS := Lib.hid hS7
  clear hk7 hS7 bR6 bQ6 bS6 bA6 hIn6 hkA6 hS6 hO6
  go_wp2
  go_loopg [6] v7 (fun gq x wr => ∃ (r : Nat) (xs : List Pl) (A : Option Addr) (c : Nat), r ≤ gq ∧ r ≤ v7 ∧ x = .int .i64 (r : Int) ∧ 1 ≤ xs.length ∧ Hid (DrA xs m (1 + (v7 - r)) (v7 - r)) ∧ Hid (wr.ownsRow (w3.heap.size + 1) 149 3 (.slice A xs.length c) xs.length (plCells xs)) ∧ Hid (SrcE wr p (K + 200 + 3 * (v7 - r))) ∧ Hid (Kp p w wr) ∧ Hid (Bx wr w.heap.size [.slice none 0 0, .slice none 0 0]) ∧ Hid (Bx wr (w.heap.size + 1) [.slice none 0 0]) ∧ Hid (Bx wr w2.heap.size [.slice Ag gs.length cg, .slice At m ct]) ∧ Hid (Bx wr w3.heap.size [.slice A xs.length c]) ∧ Hid (SetIn wr w1.heap.size w2.heap.size (.slice Ag gs.length cg) (.slice At m ct) gs ts))
  case atStart => exact ⟨v7, [⟨0, 0, v5⟩], _, 1, Nat.le_refl _, Nat.le_refl _, rfl, Nat.le_refl _, Lib.hid (DrA.one hv5 (by omega) (by omega) (by omega)), hO, Lib.hid (hS.out.more (by omega)), hkA, bR, bQ, bS, bA, hIn⟩
  case round =>
    clear hO hS hkA bR bQ bS bA hIn
    obtain ⟨r0, xs, A, c, hrg, hrv, rfl, hx1, hD, hO, hS, hkA, bR, bQ, bS, bA, hIn⟩ := hrel
    have a0 := bA.out.cell 0 _ rfl
    have lA := bA.out.lt
    cases r0 with
    | zero =>
      have s0 := bS.out.cell 0 _ rfl
      have s1 := bS.out.cell 1 _ rfl
      have lS := bS.out.lt
      have rr0 := bR.out.cell 0 _ rfl
      have rr1 := bR.out.cell 1 _ rfl
      have rf0 := bR.out.froz 0
      have rf1 := bR.out.froz 1
      have lR := bR.out.lt
      have q0 := bQ.out.cell 0 _ rfl
      have qf := bQ.out.froz 0
      have lQ := bQ.out.lt
      go_wp2
      go_region
      go_wp2
      refine bodyPost_ret (v := .tuple #[.agg #[.slice Ag gs.length cg, .slice At m ct], .agg #[.slice A xs.length c]]) (by simp only [results, Tryz.results42]; go_simp) rfl ?_
      have hst : Below w.heap.size wr (((wr.setCell ⟨w.heap.size, 0, none⟩ (.slice Ag gs.length cg)).setCell ⟨w.heap.size, 1, none⟩ (.slice At m ct)).setCell ⟨w.heap.size + 1, 0, none⟩ (.slice A xs.length c)) := (((Below.refl _ _).setCell (p := ⟨w.heap.size, 0, none⟩) (Nat.le_refl _) _).setCell (p := ⟨w.heap.size, 1, none⟩) (Nat.le_refl _) _).setCell (p := ⟨w.heap.size + 1, 0, none⟩) (Nat.le_succ _) _
      refine ⟨_, _, gs, ts, xs, rfl, ((((hIn.out.setLow (by simp only; omega) _).setLow (by simp only; omega) _).setLow (by simp only; omega) _).below (bl_dr (bl_refl _))).own (by omega), ownsRow_lo (ownsRow_below (ownsRow_setB (ownsRow_setB (ownsRow_setB hO.out (by simp only; omega) _) (by simp only; omega) _) (by simp only; omega) _) (bl_dr (bl_refl _))) (by omega), hD.out.asm hvs.out htm.out (by omega) (by omega), by have := hD.out.len; omega, hkA.out.thenB hlt hst.drew⟩
    | succ r =>
      have hpos : (0 : Int) < (r : Int) + 1 := by omega
      obtain ⟨N, hN⟩ : ∃ N, v7 - (r + 1) = N := ⟨_, rfl⟩
      have hn : v7 - r = N + 1 := by omega
      have hN13 : N ≤ 13 := by omega
      rw [hN] at hD hS
      have hxl : xs.length ≤ N + 1 := by have := hD.out.len; omega
      obtain ⟨_, _, hA1, hrd⟩ := rdP_of_row hO.out
      injection hA1 with hA1 _ _
      subst hA1
      obtain ⟨b5, o5, rfl, hb5, hc5⟩ := hrd.ptr (by omega)
      have hb5n : b5 ≠ p := by
        rcases hO.out.2 with ⟨h0, _⟩ | ⟨g', cap', cur', h0, hg', _⟩
        · cases h0
        · injection h0 with h0 _ _; injection h0 with h0; injection h0 with h0; omega
      have lp := hS.out.lt
      go_wp2
      refine wp_region_flK (p := p) 13 [(0, .q), (1, .q), (2, .q), (3, .q), (4, .q), (5, .q), (10, .q), (6, .g), (7, .q), (8, .q), (9, .q), (11, .g), (12, .g)] [(14, .b)] _ (Obj.cells #[.int .i64 0, .int .i64 0] 147) (by kernel_rfl) (by kernel_rfl) (by kernel_rfl) (by kernel_rfl) rfl (fun a w => ⟨rfl, by unfold flPtr; go_simp⟩) ?_
      simp only [pick, List.filterMap_cons, List.filterMap_nil, List.getElem?_toArray, List.getElem?_cons_zero, List.getElem?_cons_succ, Option.map_some]
      repeat (first | ((with_reducible refine wpM_p (fun K hK => ?_)); go_simp; refine hK _ ?_; clear hK K) | ((with_reducible refine wpM_q (fun K hK => ?_)); go_simp; (first | refine hK _ ?_ | (go_bits; refine hK _ ?_) | (go_bits; go_simp; refine hK _ ?_)); clear hK K))
      with_reducible refine wpM_g rfl (fun K hK st8 w8 mv8 => ?_)
      have hb8 : Below wr.heap.size wr w8 := (bl_dr (bl_refl wr)).trans (mv8.below.mono (by simp))
      have fl8 := (FlAt.none (Obj.cells #[.int .i64 0, .int .i64 0] 147) wr.drew).mv mv8
      have hS8 := Lib.hid (hS.out.below hb8)
      clear mv8
      go_simp
      refine (pickE_any xs.length hS8.out (by omega) rfl (by omega) (by omega)).mono ?_
      rintro e w9 ⟨v9, rfl, hv9, hS9, hk9⟩
      refine ⟨_, rfl, Kq.of_kp hk9, hK _ _ _ ?_⟩
      clear hK K
      have hq9 := (Kq.of_below hb8).trans (Kq.of_kp hk9)
      have fl9 := fl8.kq (by simp; exact lp) (Kq.of_kp hk9)
      have hS9 := Lib.hid hS9
      obtain ⟨e9, he9⟩ : ∃ e9, xs[v9]? = some e9 := ⟨_, List.getElem?_eq_getElem hv9⟩
      obtain ⟨x9, y9, _⟩ := hc5 v9 e9 he9
      replace x9 := (World.cell?_of_block (a := ⟨b5, o5 + v9 * 3, none⟩) (hq9.keep b5 hb5n hb5)).trans x9
      replace y9 := (World.cell?_of_block (a := ⟨b5, o5 + v9 * 3 + 1, none⟩) (hq9.keep b5 hb5n hb5)).trans y9
      have lb9 : b5 < w9.heap.size := Nat.lt_of_lt_of_le hb5 hq9.size
      have hv9I : (v9 : Int) < (xs.length : Int) := by omega
      obtain ⟨⟨ex1, ex2⟩, ⟨ey1, ey2⟩, _⟩ := hD.out.at_ e9 (List.mem_of_getElem? he9)
      obtain ⟨ex, hex⟩ : ∃ ex, e9.x = ex := ⟨_, rfl⟩
      obtain ⟨ey, hey⟩ : ∃ ey, e9.y = ey := ⟨_, rfl⟩
      rw [hex] at x9 ex1 ex2
      rw [hey] at y9 ey1 ey2
      clear hb8 fl8 hS8 hk9 he9 hex hey
      repeat (first | ((with_reducible refine wpM_p (fun K hK => ?_)); go_simp; refine hK _ ?_; clear hK K) | ((with_reducible refine wpM_q (fun K hK => ?_)); go_simp; (first | refine hK _ ?_ | (go_bits; refine hK _ ?_) | (go_bits; go_simp; refine hK _ ?_)); clear hK K))
      with_reducible refine wpM_g rfl (fun K hK st10 w10 mv10 => ?_)
      have hb10 := mv10.below
      have fl10 := fl9.mv mv10
      have hS10 := Lib.hid (hS9.out.below hb10)
      clear mv10
      go_simp
      refine (pickE_any 4 hS10.out (by omega) rfl (by omega) (by omega)).mono ?_
      rintro e w11 ⟨vd, rfl, hvd, hS11, hk11⟩
      refine ⟨_, rfl, Kq.of_kp hk11, hK _ _ _ ?_⟩
      clear hK K
      have hq11 := hq9.trans ((Kq.of_below hb10).trans (Kq.of_kp hk11))
      have fl11 := fl10.kq (by simp; exact lp) (Kq.of_kp hk11)
      have hS11 := Lib.hid hS11
      clear hb10 fl10 hS10 hk11 fl9 hS9 hq9 x9 y9 lb9
      repeat (first | ((with_reducible refine wpM_p (fun K hK => ?_)); go_simp; refine hK _ ?_; clear hK K) | ((with_reducible refine wpM_q (fun K hK => ?_)); go_simp; (first | refine hK _ ?_ | (go_bits; refine hK _ ?_) | (go_bits; go_simp; refine hK _ ?_)); clear hK K))
      with_reducible refine wpM_g rfl (fun K hK st12 w12 mv12 => ?_)
      have hb12 := mv12.below
      have fl12 := fl11.mv mv12
      clear mv12
      go_simp
      refine (lstepD_any _ _ vd _ hvd ⟨by omega, by omega⟩ ⟨by omega, by omega⟩).mono ?_
      rintro e w13 ⟨rfl, hb13⟩
      refine ⟨_, rfl, Kq.of_below hb13, hK _ _ _ ?_⟩
      clear hK K
      have hq13 := hq11.trans ((Kq.of_below hb12).trans (Kq.of_below hb13))
      have fl13 := fl12.below hb13
      have hS13 := Lib.hid ((hS11.out.below hb12).below hb13)
      clear hb12 hb13 fl12 fl11 hS11 hq11
      repeat (first | ((with_reducible refine wpM_p (fun K hK => ?_)); go_simp; refine hK _ ?_; clear hK K) | ((with_reducible refine wpM_q (fun K hK => ?_)); go_simp; (first | refine hK _ ?_ | (go_bits; refine hK _ ?_) | (go_bits; go_simp; refine hK _ ?_)); clear hK K))
      with_reducible refine wpM_nil (fun b14 w14 mvF => ?_)
      obtain ⟨fl14, fb14⟩ := (fl13.mv mvF).2 _ rfl
      have hS14 := Lib.hid (hS13.out.below mvF.below)
      have hk14 := Lib.hid ((hq13.trans mvF.kq).kp (by omega))
      have bP14 : Hid (Bx w14 b14 [.int .i64 0, .int .i64 0]) := Lib.hid (Bx.of_heap fb14)
      have g14 : wr.heap.size ≤ b14 := by simpa using fl14
      clear mvF fl13 fl14 fb14 hS13 hq13
      have p0 := bP14.out.cell 0 _ rfl
      have p1 := bP14.out.cell 1 _ rfl
      have pf0 := bP14.out.froz 0
      have pf1 := bP14.out.froz 1
      have lP := bP14.out.lt
      simp only [flPtr]
      with_reducible refine wpD_b (fun K hK => ?_)
      go_simp
      refine hK _ _ ?_
      clear hK K
      with_reducible refine wpD_nil ?_
      obtain ⟨X, hX⟩ : ∃ z, z = stepX ex vd := ⟨_, rfl⟩
      obtain ⟨Y, hY⟩ : ∃ z, z = stepY ey vd := ⟨_, rfl⟩
      have bX := stepX_b (d := vd) ⟨ex1, ex2⟩
      have bY := stepY_b (d := vd) ⟨ey1, ey2⟩
      rw [← hX] at bX ⊢
      rw [← hY] at bY ⊢
      have hst : Below wr.heap.size w14 ((w14.setCell ⟨b14, 0, none⟩ (.int .i64 X)).setCell ⟨b14, 1, none⟩ (.int .i64 Y)) := ((Below.refl _ _).setCell (p := ⟨b14, 0, none⟩) g14 _).setCell (p := ⟨b14, 1, none⟩) g14 _
      have bP : Hid (Bx ((w14.setCell ⟨b14, 0, none⟩ (.int .i64 X)).setCell ⟨b14, 1, none⟩ (.int .i64 Y)) b14 [.int .i64 X, .int .i64 Y]) := Lib.hid ((bP14.out.setSame 0 (.int .i64 X)).setSame 1 (.int .i64 Y))
      have hS := Lib.hid (hS14.out.belowB lp hst)
      have hk := Lib.hid (hk14.out.thenB lp hst)
      obtain ⟨wc, hwc⟩ : ∃ W, W = (w14.setCell ⟨b14, 0, none⟩ (.int .i64 X)).setCell ⟨b14, 1, none⟩ (.int .i64 Y) := ⟨_, rfl⟩
      rw [← hwc] at bP hS hk ⊢
      have lwc : w3.heap.size < b14 := by omega
      have hneP : b14 ≠ p := by omega
      clear hwc hst bP14 hS14 hk14 p0 p1 pf0 pf1 lP hX hY hrd hb5 hc5 hb5n a0 lA
      replace bR := Lib.hid (bR.out.kp hneR hk.out)
      replace bQ := Lib.hid (bQ.out.kp hneQ hk.out)
      replace bS := Lib.hid (bS.out.kp hneS hk.out)
      replace bA := Lib.hid (bA.out.kp hneA hk.out)
      replace hIn := Lib.hid (hIn.out.kp (by omega) hk.out)
      replace hO := Lib.hid (Own_kp hO.out (by omega) hk.out)
      replace hkA := Lib.hid (hkA.out.trans hk.out)
      clear hk g14
      have p0 := bP.out.cell 0 _ rfl
      have p1 := bP.out.cell 1 _ rfl
      have lP := bP.out.lt
      have hAt := Lib.hid (asmAt_of bA.out hO.out)
      have hV := Lib.hid (hD.out.valid hV0.out htm.out (by omega) (by omega))
      go_wp2_with fail
      refine (l03Index_any (op := 0) _ gs ts xs X Y _ hAt.out hV.out).mono ?_
      rintro e wd ⟨rfl, hbd⟩
      have bRd := Lib.hid (bR.out.below hbd)
      have bQd := Lib.hid (bQ.out.below hbd)
      have bSd := Lib.hid (bS.out.below hbd)
      have bAd := Lib.hid (bA.out.below hbd)
      have bPd := Lib.hid (bP.out.below hbd)
      have hInd := Lib.hid (hIn.out.below hbd)
      have hOd := Lib.hid (ownsRow_below hO.out hbd)
      have hSd := Lib.hid (hS.out.below hbd)
      have hkd := Lib.hid (hkA.out.then hlt hbd)
      clear hbd hAt bR bQ bS bA bP hIn hO hS hkA p0 p1 lP
      obtain ⟨pl, hpl⟩ : ∃ pl, placeI xs X Y = pl := ⟨_, rfl⟩
      rw [hpl]
      by_cases hge : 0 ≤ pl
      · clear hpl
        go_wp2
        go_roundg r
        case measure => omega
        case rel => exact ⟨r, xs, _, c, Nat.le_refl _, by omega, by go_num, hx1, Lib.hid (by rw [hn]; exact hD.out.more (by omega) (by omega)), hOd, Lib.hid (hSd.out.more (by omega)), hkd, bRd, bQd, bSd, bAd, hInd⟩
      have hltn : pl < 0 := by omega
      have hpn := Lib.hid (place_neg (xs := xs) (x := X) (y := Y) (by rw [hpl]; exact hltn))
      have s0 := bSd.out.cell 0 _ rfl
      have s1 := bSd.out.cell 1 _ rfl
      have lS := bSd.out.lt
      clear hpl
      go_wp2_with fail
      refine (pickE_any m hSd.out (by omega) rfl hm1 (by omega)).mono ?_
      rintro e we ⟨ve, rfl, hve, hSe, hke⟩
      have bRe := Lib.hid (bRd.out.kp hneR hke)
      have bQe := Lib.hid (bQd.out.kp hneQ hke)
      have bSe := Lib.hid (bSd.out.kp hneS hke)
      have bAe := Lib.hid (bAd.out.kp hneA hke)
      have bPe := Lib.hid (bPd.out.kp hneP hke)
      have hIne := Lib.hid (hInd.out.kp (by omega) hke)
      have hOe := Lib.hid (Own_kp hOd.out (by omega) hke)
      have hkke := Lib.hid (hkd.out.trans hke)
      have hSe := Lib.hid hSe
      clear hke bRd bQd bSd bAd bPd hInd hOd hkd hSd s0 s1 lS hltn hge
      go_wp2
      go_loopg [8, 9] m (fun gq tv iv wr => ∃ (i0 t0 : Nat), i0 + gq = m ∧ iv = .int .i64 (i0 : Int) ∧ tv = .int .i64 (t0 : Int) ∧ t0 < m ∧ Hid (Below we.heap.size we wr))
      case atStart => exact ⟨0, ve, by omega, rfl, rfl, hve, Lib.hid (bl_refl _)⟩
      case round =>
        obtain ⟨i0, t0, hi, rfl, rfl, ht0, hbw⟩ := hrel
        have bSr := Lib.hid (bSe.out.below hbw.out)
        have bAr := Lib.hid (bAe.out.below hbw.out)
        have bPr := Lib.hid (bPe.out.below hbw.out)
        have hOr := Lib.hid (ownsRow_below hOe.out hbw.out)
        have s1 := bSr.out.cell 1 _ rfl
        have lS := bSr.out.lt
        have p0 := bPr.out.cell 0 _ rfl
        have p1 := bPr.out.cell 1 _ rfl
        have lP := bPr.out.lt
        by_cases him : i0 < m
        · have hSet := Lib.hid ((hIne.out.below hbw.out).at_ bSr.out)
          have hAt := Lib.hid (asmAt_of bAr.out hOr.out)
          go_wp2_with fail
          refine (l06Binding_any (opa := 0) _ _ gs ts xs X Y t0 _ hSet.out hAt.out hV.out (by rw [htm.out]; exact ht0) ⟨by omega, by omega⟩ ⟨by omega, by omega⟩).mono ?_
          rintro e wf ⟨rfl, hbf⟩
          have hbfw := Lib.hid (bl_tr hbw.out hbf)
          have s1f := (hbf.cell (p := ⟨w2.heap.size, 1, none⟩) lS).trans s1
          have lSf := Nat.lt_of_lt_of_le lS hbf.size
          obtain ⟨bd, hbd⟩ : ∃ bd, bindN gs ts xs X Y t0 4 = bd := ⟨_, rfl⟩
          rw [hbd]
          clear hbd hbf s1 lS p0 p1 lP hSet hAt bSr bAr bPr hOr
          by_cases hz : bd = 0
          · subst hz
            have hmod : ((t0 : Int) + 1).tmod (m : Int) = (((t0 + 1) % m : Nat) : Int) := by rw [Int.tmod_eq_emod_of_nonneg (by omega), Int.natCast_emod, Int.natCast_add]; rfl
            have hm0 : ((m : Int) == 0) = false := by simp; omega
            have hm0' : ¬ (m : Int) = 0 := by omega
            go_wp2
            go_roundg (m - (i0 + 1))
            case measure => omega
            case rel => exact ⟨i0 + 1, (t0 + 1) % m, by omega, by go_num, by first | rfl | exact congrArg (Value.int .i64) hmod, Nat.mod_lt _ (by omega), hbfw⟩
          · have hz2 : (bd == 0) = false := by simpa using hz
            clear hz
            go_wp2
            go_roundg (m - (i0 + 1))
            case measure => omega
            case rel => exact ⟨i0 + 1, t0, by omega, by go_num, rfl, ht0, hbfw⟩
        · obtain rfl : i0 = m := by omega
          have hAt := Lib.hid (asmAt_of bAr.out hOr.out)
          obtain ⟨j0, hj0, hlo, hhi, hDI⟩ := (hD.out.more (Nat.le_refl _) (Nat.le_succ N)).insert (x := X) (y := Y) (t := t0) ht0 bX bY hpn.out
          have hloH := Lib.hid hlo
          have hhiH := Lib.hid hhi
          have hDIH := Lib.hid hDI
          clear hlo hhi hDI
          go_wp2_with fail
          refine (l03Put_any (op := 0) _ [] [] xs X Y t0 j0 _ hAt.out (by omega) hj0 hloH.out hhiH.out).mono ?_
          rintro e wg ⟨v5', rfl, hO5, hb5⟩
          obtain ⟨A5, c5, rfl⟩ := ownsRow_form hO5
          obtain ⟨xs5, hxs5⟩ : ∃ z, z = insL xs j0 ⟨X, Y, t0⟩ := ⟨_, rfl⟩
          have hx5 : 1 ≤ xs5.length := by rw [hxs5, insL_len]; omega
          rw [← hxs5] at hO5 hDIH ⊢
          have hbg := Lib.hid (bl_tr hbw.out hb5)
          have bRg := Lib.hid (bRe.out.below hbg.out)
          have bQg := Lib.hid (bQe.out.below hbg.out)
          have bSg := Lib.hid (bSe.out.below hbg.out)
          have bAg := Lib.hid (bAe.out.below hbg.out)
          have hIng := Lib.hid (hIne.out.below hbg.out)
          have hSg := Lib.hid (hSe.out.below hbg.out)
          have hkg := Lib.hid (hkke.out.then hlt hbg.out)
          have hOg := Lib.hid (ownsRow_lo (base' := w3.heap.size + 1) hO5 (by have := bAr.out.lt; omega))
          have a0 := bAg.out.cell 0 _ rfl
          have af := bAg.out.froz 0
          have lA := bAg.out.lt
          clear hb5 hO5 hbg hloH hhiH hxs5 hAt bSr bAr bPr hOr s1 lS p0 p1 lP
          go_wp2
          have hst : Below w3.heap.size wg (wg.setCell ⟨w3.heap.size, 0, none⟩ (.slice A5 xs5.length c5)) := (Below.refl _ _).setCell (p := ⟨w3.heap.size, 0, none⟩) (Nat.le_refl _) _
          go_roundg r
          case measure => omega
          case rel => exact ⟨r, xs5, A5, c5, Nat.le_refl _, by omega, by go_num, hx5, Lib.hid (by rw [hn]; exact hDIH.out.more (by omega) (Nat.le_refl _)), Lib.hid (ownsRow_setB hOg.out (p := ⟨w3.heap.size, 0, none⟩) (Nat.lt_succ_self _) _), Lib.hid ((hSg.out.belowB (by omega) hst).more (by omega)), Lib.hid (hkg.out.thenB hlt (hst.mono (by omega))), Lib.hid (bRg.out.belowB (by omega) hst), Lib.hid (bQg.out.belowB (by omega) hst), Lib.hid (bSg.out.belowB (by omega) hst), Lib.hid (bAg.out.setSame 0 _), Lib.hid (hIng.out.belowB (hst.mono (by omega)))⟩
end Go.Proofs.YtmhgjgclclnmaaaGreat
/- Walk: the reference draws a block of tiles. -/

namespace Go.Proofs.YtmhgjgclclnmaaaGreat
open Go.RowKit
attribute [local go_sem] BelowBy.cell BelowBy.cell_drew stillUpon givesUpon KpBy.cell KpBy.cell_drew

def blkG : List Gl := [⟨⟨#[97]⟩, 1⟩, ⟨⟨#[98]⟩, 2⟩]
def blkT : List Ti := [⟨⟨#[120]⟩, [1, 1, 1, 1]⟩, ⟨⟨#[121]⟩, [2, 1, 2, 1]⟩, ⟨⟨#[122]⟩, [2, 2, 2, 2]⟩]
theorem blk_valid : validSetB blkG blkT = true := by decide +kernel
/-- tiles of a grid laid row by row -/
structure DrB (xs : List Pl) (wd k : Nat) : Prop where
  len : xs.length ≤ k
  at_ : ∀ e ∈ xs, ∃ j, j < k ∧ e.x = ((j % wd : Nat) : Int) ∧ e.y = ((j / wd : Nat) : Int) ∧ ∃ t : Nat, e.t = t ∧ t < 3
  srt : xs.Pairwise fun d e => lessPt d.x d.y e.x e.y = true
theorem DrB.nil (wd : Nat) : DrB [] wd 0 := ⟨by simp, fun e he => by simp at he, List.Pairwise.nil⟩
theorem DrB.skip {xs : List Pl} {wd k : Nat} (h : DrB xs wd k) : DrB xs wd (k + 1) := ⟨Nat.le_succ_of_le h.len, fun e he => by obtain ⟨j, hj, r⟩ := h.at_ e he; exact ⟨j, by omega, r⟩, h.srt⟩
theorem grid_less {j k wd : Nat} (h : j < k) : lessPt ((j % wd : Nat) : Int) ((j / wd : Nat) : Int) ((k % wd : Nat) : Int) ((k / wd : Nat) : Int) = true := by
  rw [lessPt_iff]
  have h1 := Nat.div_add_mod j wd
  have h2 := Nat.div_add_mod k wd
  rcases Nat.lt_or_eq_of_le (Nat.div_le_div_right (c := wd) (Nat.le_of_lt h)) with h3 | h3
  · left; omega
  · right
    rw [h3] at h1
    constructor
    · rw [h3]
    · generalize wd * (k / wd) = z at h1 h2
      omega
theorem DrB.snoc {xs : List Pl} {wd k : Nat} (h : DrB xs wd k) {t : Nat} (ht : t < 3) : DrB (xs ++ [⟨((k % wd : Nat) : Int), ((k / wd : Nat) : Int), t⟩]) wd (k + 1) := by
  refine ⟨by have := h.len; simp; omega, fun e he => ?_, ?_⟩
  · rcases List.mem_append.1 he with he | he
    · obtain ⟨j, hj, r⟩ := h.at_ e he; exact ⟨j, by omega, r⟩
    · simp at he
      subst he
      exact ⟨k, by omega, rfl, rfl, t, rfl, ht⟩
  · rw [List.pairwise_append]
    refine ⟨h.srt, by simp, fun a ha b hb => ?_⟩
    simp at hb
    subst hb
    obtain ⟨j, hj, hx, hy, _⟩ := h.at_ a ha
    rw [hx, hy]
    exact grid_less hj
theorem DrB.drA {xs : List Pl} {wd k : Nat} (h : DrB xs wd k) (hw : 1 ≤ wd) (hw5 : wd ≤ 5) (hk : k ≤ 20) : DrA xs 3 20 20 := by
  refine ⟨by have := h.len; omega, fun e he => ?_, h.srt⟩
  obtain ⟨j, hj, hx, hy, t, ht, ht3⟩ := h.at_ e he
  have h1 := Nat.mod_lt j (show 0 < wd by omega)
  have h2 := Nat.div_le_self j wd
  generalize j / wd = q at hy h2
  generalize j % wd = r at hx h1
  exact ⟨⟨by omega, by omega⟩, ⟨by omega, by omega⟩, t, ht, ht3⟩
theorem lit_below {w W : World} {base : Nat} {e : TypeId} {size n : Nat} {cs : Array Value} (hb : base ≤ w.heap.size) (hn : n ≤ 100) (hs : cs.size = n * size) (h : Below (w.alloc (.cells cs e)).heap.size (w.alloc (.cells cs e)) W) :
    W.ownsRow base e size (.slice (some ⟨w.heap.size, 0, none⟩) n n) n cs.toList := ownsRow_below (World.ownsRow_lit w cs n hb (by unfold maxLen; omega) hs) h
set_option maxRecDepth 100000 in
set_option maxHeartbeats 16000000 in
theorem l07Block_any {p K : Nat} {w : World} (h : SrcE w p K) (hK : K ≤ 1000) :
    Calls Tryz.prog 41 #[.pointer (some ⟨p, 0, none⟩)] w (DrawPiece p w) := by
  obtain ⟨iP, hP, hP0, hP1, hP2⟩ := info_parts infoPl
  have hlt := h.lt
  have hH := Lib.hid h
  clear h
  have hneR : w.heap.size ≠ p := by omega
  have hneQ : w.heap.size + 1 ≠ p := by omega
  go_enter Tryz.func41, Tryz.ntmps41
  go_wp2_with fail
  obtain ⟨a0, ha0⟩ : ∃ W, W = w.alloc (Obj.cells #[.slice none 0 0, .slice none 0 0] 27) := ⟨_, rfl⟩
  rw [← ha0]
  have s0 : a0.heap.size = w.heap.size + 1 := by rw [ha0, World.size_alloc]
  have b0 : Below w.heap.size w a0 := by rw [ha0]; exact bl_al (bl_refl _) _
  obtain ⟨a1, ha1⟩ : ∃ W, W = a0.alloc (Obj.cells #[.slice none 0 0] 30) := ⟨_, rfl⟩
  rw [← ha1]
  have s1 : a1.heap.size = w.heap.size + 1 + 1 := by rw [ha1, World.size_alloc]; rw [s0]
  have b1 : Below a0.heap.size a0 a1 := by rw [ha1]; exact bl_al (bl_refl _) _
  obtain ⟨a2, ha2⟩ : ∃ W, W = a1.alloc (Obj.cells #[.string { data := #[97] }, .int .i64 1, .string { data := #[98] }, .int .i64 2] 143) := ⟨_, rfl⟩
  rw [← ha2]
  have s2 : a2.heap.size = w.heap.size + 1 + 1 + 1 := by rw [ha2, World.size_alloc]; rw [s1]
  have b2 : Below a1.heap.size a1 a2 := by rw [ha2]; exact bl_al (bl_refl _) _
  obtain ⟨a3, ha3⟩ : ∃ W, W = a2.alloc (Obj.cells #[.int .i64 1, .int .i64 1, .int .i64 1, .int .i64 1] 2) := ⟨_, rfl⟩
  rw [← ha3]
  have s3 : a3.heap.size = w.heap.size + 1 + 1 + 1 + 1 := by rw [ha3, World.size_alloc]; rw [s2]
  have b3 : Below a2.heap.size a2 a3 := by rw [ha3]; exact bl_al (bl_refl _) _
  obtain ⟨a4, ha4⟩ : ∃ W, W = a3.alloc (Obj.cells #[.int .i64 2, .int .i64 1, .int .i64 2, .int .i64 1] 2) := ⟨_, rfl⟩
  rw [← ha4]
  have s4 : a4.heap.size = w.heap.size + 1 + 1 + 1 + 1 + 1 := by rw [ha4, World.size_alloc]; rw [s3]
  have b4 : Below a3.heap.size a3 a4 := by rw [ha4]; exact bl_al (bl_refl _) _
  obtain ⟨a5, ha5⟩ : ∃ W, W = a4.alloc (Obj.cells #[.int .i64 2, .int .i64 2, .int .i64 2, .int .i64 2] 2) := ⟨_, rfl⟩
  rw [← ha5]
  have s5 : a5.heap.size = w.heap.size + 1 + 1 + 1 + 1 + 1 + 1 := by rw [ha5, World.size_alloc]; rw [s4]
  have b5 : Below a4.heap.size a4 a5 := by rw [ha5]; exact bl_al (bl_refl _) _
  obtain ⟨a6, ha6⟩ : ∃ W, W = a5.alloc (Obj.cells #[.string { data := #[120] }, .slice (some ⟨w.heap.size + 1 + 1 + 1, 0, none⟩) 4 4, .string { data := #[121] }, .slice (some ⟨w.heap.size + 1 + 1 + 1 + 1, 0, none⟩) 4 4, .string { data := #[122] }, .slice (some ⟨w.heap.size + 1 + 1 + 1 + 1 + 1, 0, none⟩) 4 4] 145) := ⟨_, rfl⟩
  rw [← ha6]
  have s6 : a6.heap.size = w.heap.size + 1 + 1 + 1 + 1 + 1 + 1 + 1 := by rw [ha6, World.size_alloc]; rw [s5]
  have b6 : Below a5.heap.size a5 a6 := by rw [ha6]; exact bl_al (bl_refl _) _
  obtain ⟨a7, ha7⟩ : ∃ W, W = a6.alloc (Obj.cells #[.slice (some ⟨w.heap.size + 1 + 1, 0, none⟩) 2 2, .slice (some ⟨w.heap.size + 1 + 1 + 1 + 1 + 1 + 1, 0, none⟩) 3 3] 27) := ⟨_, rfl⟩
  rw [← ha7]
  have s7 : a7.heap.size = w.heap.size + 1 + 1 + 1 + 1 + 1 + 1 + 1 + 1 := by rw [ha7, World.size_alloc]; rw [s6]
  have b7 : Below a6.heap.size a6 a7 := by rw [ha7]; exact bl_al (bl_refl _) _
  obtain ⟨a8, ha8⟩ : ∃ W, W = a7.alloc (Obj.cells #[.slice none 0 0] 30) := ⟨_, rfl⟩
  rw [← ha8]
  have s8 : a8.heap.size = w.heap.size + 1 + 1 + 1 + 1 + 1 + 1 + 1 + 1 + 1 := by rw [ha8, World.size_alloc]; rw [s7]
  have b8 : Below a7.heap.size a7 a8 := by rw [ha8]; exact bl_al (bl_refl _) _
  have d8 : Below a8.heap.size a8 a8 := bl_refl _
  have d7 : Below a7.heap.size a7 a8 := bl_tr b8 d8
  have d6 : Below a6.heap.size a6 a8 := bl_tr b7 d7
  have d5 : Below a5.heap.size a5 a8 := bl_tr b6 d6
  have d4 : Below a4.heap.size a4 a8 := bl_tr b5 d5
  have d3 : Below a3.heap.size a3 a8 := bl_tr b4 d4
  have d2 : Below a2.heap.size a2 a8 := bl_tr b3 d3
  have d1 : Below a1.heap.size a1 a8 := bl_tr b2 d2
  have d0 : Below a0.heap.size a0 a8 := bl_tr b1 d1
  have dw : Below w.heap.size w a8 := bl_tr b0 d0
  have bR0 : Hid (Bx a8 (w.heap.size) [.slice none 0 0, .slice none 0 0]) := Lib.hid (by have hm := Bx.made w [.slice none 0 0, .slice none 0 0] 27; rw [← ha0] at hm; have hm2 := hm.below d0; exact hm2)
  have bQ0 : Hid (Bx a8 (w.heap.size + 1) [.slice none 0 0]) := Lib.hid (by have hm := Bx.made a0 [.slice none 0 0] 30; rw [← ha1] at hm; have hm2 := hm.below d1; rw [s0] at hm2; exact hm2)
  have bS0 : Hid (Bx a8 (w.heap.size + 1 + 1 + 1 + 1 + 1 + 1 + 1) [.slice (some ⟨w.heap.size + 1 + 1, 0, none⟩) 2 2, .slice (some ⟨w.heap.size + 1 + 1 + 1 + 1 + 1 + 1, 0, none⟩) 3 3]) := Lib.hid (by have hm := Bx.made a6 [.slice (some ⟨w.heap.size + 1 + 1, 0, none⟩) 2 2, .slice (some ⟨w.heap.size + 1 + 1 + 1 + 1 + 1 + 1, 0, none⟩) 3 3] 27; rw [← ha7] at hm; have hm2 := hm.below d7; rw [s6] at hm2; exact hm2)
  have bA0 : Hid (Bx a8 (w.heap.size + 1 + 1 + 1 + 1 + 1 + 1 + 1 + 1) [.slice none 0 0]) := Lib.hid (by have hm := Bx.made a7 [.slice none 0 0] 30; rw [← ha8] at hm; have hm2 := hm.below d8; rw [s7] at hm2; exact hm2)
  have o2 : a8.ownsRow (w.heap.size + 2) 143 2 (.slice (some ⟨w.heap.size + 1 + 1, 0, none⟩) 2 2) 2 (flatC encGl blkG) := by
    have hm := lit_below (w := a1) (W := a8) (base := w.heap.size + 2) (e := 143) (size := 2) (n := 2) (cs := #[.string { data := #[97] }, .int .i64 1, .string { data := #[98] }, .int .i64 2]) (by omega) (by omega) rfl (by rw [← ha2]; exact d2)
    rw [s1] at hm
    exact hm
  have o3 : a8.ownsRow (w.heap.size + 2) 2 1 (.slice (some ⟨w.heap.size + 1 + 1 + 1, 0, none⟩) 4 4) 4 (flatC encI [1, 1, 1, 1]) := by
    have hm := lit_below (w := a2) (W := a8) (base := w.heap.size + 2) (e := 2) (size := 1) (n := 4) (cs := #[.int .i64 1, .int .i64 1, .int .i64 1, .int .i64 1]) (by omega) (by omega) rfl (by rw [← ha3]; exact d3)
    rw [s2] at hm
    exact hm
  have o4 : a8.ownsRow (w.heap.size + 2) 2 1 (.slice (some ⟨w.heap.size + 1 + 1 + 1 + 1, 0, none⟩) 4 4) 4 (flatC encI [2, 1, 2, 1]) := by
    have hm := lit_below (w := a3) (W := a8) (base := w.heap.size + 2) (e := 2) (size := 1) (n := 4) (cs := #[.int .i64 2, .int .i64 1, .int .i64 2, .int .i64 1]) (by omega) (by omega) rfl (by rw [← ha4]; exact d4)
    rw [s3] at hm
    exact hm
  have o5 : a8.ownsRow (w.heap.size + 2) 2 1 (.slice (some ⟨w.heap.size + 1 + 1 + 1 + 1 + 1, 0, none⟩) 4 4) 4 (flatC encI [2, 2, 2, 2]) := by
    have hm := lit_below (w := a4) (W := a8) (base := w.heap.size + 2) (e := 2) (size := 1) (n := 4) (cs := #[.int .i64 2, .int .i64 2, .int .i64 2, .int .i64 2]) (by omega) (by omega) rfl (by rw [← ha5]; exact d5)
    rw [s4] at hm
    exact hm
  have o6 : a8.ownsRow (w.heap.size + 2) 145 2 (.slice (some ⟨w.heap.size + 1 + 1 + 1 + 1 + 1 + 1, 0, none⟩) 3 3) 3 (flatC encNU ((blkT.map Ti.name).zip [.slice (some ⟨w.heap.size + 1 + 1 + 1, 0, none⟩) 4 4, .slice (some ⟨w.heap.size + 1 + 1 + 1 + 1, 0, none⟩) 4 4, .slice (some ⟨w.heap.size + 1 + 1 + 1 + 1 + 1, 0, none⟩) 4 4])) := by
    have hm := lit_below (w := a5) (W := a8) (base := w.heap.size + 2) (e := 145) (size := 2) (n := 3) (cs := #[.string { data := #[120] }, .slice (some ⟨w.heap.size + 1 + 1 + 1, 0, none⟩) 4 4, .string { data := #[121] }, .slice (some ⟨w.heap.size + 1 + 1 + 1 + 1, 0, none⟩) 4 4, .string { data := #[122] }, .slice (some ⟨w.heap.size + 1 + 1 + 1 + 1 + 1, 0, none⟩) 4 4]) (by omega) (by omega) rfl (by rw [← ha6]; exact d6)
    rw [s5] at hm
    exact hm
  have hub : ∀ (k : Nat) (u : Value) (g : Nat), ([.slice (some ⟨w.heap.size + 1 + 1 + 1, 0, none⟩) 4 4, .slice (some ⟨w.heap.size + 1 + 1 + 1 + 1, 0, none⟩) 4 4, .slice (some ⟨w.heap.size + 1 + 1 + 1 + 1 + 1, 0, none⟩) 4 4] : List Value)[k]? = some u → u.ownBlock = some g → k < 3 ∧ g = w.heap.size + 3 + k := by
    intro k u g hu hg
    have hk3 : k = 0 ∨ k = 1 ∨ k = 2 := by have := lt_of_get hu; simp at this; omega
    rcases hk3 with rfl | rfl | rfl
    · obtain rfl := Option.some.inj hu
      have e2 : w.heap.size + 1 + 1 + 1 = g := by injection hg
      omega
    · obtain rfl := Option.some.inj hu
      have e2 : w.heap.size + 1 + 1 + 1 + 1 = g := by injection hg
      omega
    · obtain rfl := Option.some.inj hu
      have e2 : w.heap.size + 1 + 1 + 1 + 1 + 1 = g := by injection hg
      omega
  have hIn0 : Hid (SetIn a8 (w.heap.size + 2) (w.heap.size + 7) (.slice (some ⟨w.heap.size + 1 + 1, 0, none⟩) 2 2) (.slice (some ⟨w.heap.size + 1 + 1 + 1 + 1 + 1 + 1, 0, none⟩) 3 3) blkG blkT) := Lib.hid ⟨o2, ⟨([.slice (some ⟨w.heap.size + 1 + 1 + 1, 0, none⟩) 4 4, .slice (some ⟨w.heap.size + 1 + 1 + 1 + 1, 0, none⟩) 4 4, .slice (some ⟨w.heap.size + 1 + 1 + 1 + 1 + 1, 0, none⟩) 4 4] : List Value), ⟨rfl, o6, fun k u t hu ht => by
      have hk3 : k = 0 ∨ k = 1 ∨ k = 2 := by have := lt_of_get hu; simp at this; omega
      rcases hk3 with rfl | rfl | rfl
      · obtain rfl := Option.some.inj hu; obtain rfl := Option.some.inj ht; exact o3
      · obtain rfl := Option.some.inj hu; obtain rfl := Option.some.inj ht; exact o4
      · obtain rfl := Option.some.inj hu; obtain rfl := Option.some.inj ht; exact o5,
    fun j k u u' g hj hk hg hg' => by have h1 := hub j u g hj hg; have h2 := hub k u' g hk hg'; omega, fun k u g hu hg hv => by have h1 := hub k u g hu hg; have e2 : w.heap.size + 1 + 1 + 1 + 1 + 1 + 1 = g := (by injection hv); omega⟩, fun k u g hu hg => by have h1 := hub k u g hu hg; omega⟩, fun g e => by have e2 : w.heap.size + 1 + 1 = g := (by injection e); omega, fun g e => by have e2 : w.heap.size + 1 + 1 + 1 + 1 + 1 + 1 = g := (by injection e); omega⟩
  have hkA0 := Lib.hid ((Kp.refl p w).thenB hlt dw)
  have hS0 := Lib.hid (hH.out.below dw)
  have l8 : w.heap.size + 9 ≤ a8.heap.size := by omega
  have hneS : (w.heap.size + 1 + 1 + 1 + 1 + 1 + 1 + 1) ≠ p := by omega
  have hneA : (w.heap.size + 1 + 1 + 1 + 1 + 1 + 1 + 1 + 1) ≠ p := by omega
  clear hub o2 o3 o4 o5 o6 dw d0 d1 d2 d3 d4 d5 d6 d7 d8 b0 b1 b2 b3 b4 b5 b6 b7 b8 s0 s1 s2 s3 s4 s5 s6 s7 s8 ha0 ha1 ha2 ha3 ha4 ha5 ha6 ha7 ha8
  refine (pickE_any 4 hS0.out (by omega) rfl (by omega) (by omega)).mono ?_
  rintro e w1 ⟨v, rfl, hv, hS1, hk1⟩
  have bR := Lib.hid (bR0.out.kp hneR hk1)
  have bQ := Lib.hid (bQ0.out.kp hneQ hk1)
  have bS := Lib.hid (bS0.out.kp hneS hk1)
  have bA := Lib.hid (bA0.out.kp hneA hk1)
  have hIn := Lib.hid (hIn0.out.kp (by omega) hk1)
  have hkA := Lib.hid (hkA0.out.trans hk1)
  have hS := Lib.hid hS1
  obtain ⟨wd, hwd⟩ : ∃ wd : Nat, wd = v + 2 := ⟨_, rfl⟩
  have hww : IntKind.i64.wrap (2 + (v : Int)) = (wd : Int) := by rw [hwd, wrapI (by omega) (by omega)]; omega
  have hwd2 : 2 ≤ wd := by omega
  have hwd5 : wd ≤ 5 := by omega
  clear hwd hk1 hS1 bR0 bQ0 bS0 bA0 hIn0 hkA0 hS0 l8
  go_wp2
  clear hww
  go_loopg [7] 21 (fun gq x wr => ∃ (k : Nat) (xs : List Pl) (A : Option Addr) (c : Nat), 21 - k ≤ gq ∧ k ≤ 20 ∧ x = .int .i64 (k : Int) ∧ Hid (DrB xs wd k) ∧ Hid (wr.ownsRow (w.heap.size + 9) 149 3 (.slice A xs.length c) xs.length (plCells xs)) ∧ Hid (SrcE wr p (K + 1 + 3 * k)) ∧ Hid (Kp p w wr) ∧ Hid (Bx wr w.heap.size [.slice none 0 0, .slice none 0 0]) ∧ Hid (Bx wr (w.heap.size + 1) [.slice none 0 0]) ∧ Hid (Bx wr (w.heap.size + 1 + 1 + 1 + 1 + 1 + 1 + 1) [.slice (some ⟨w.heap.size + 1 + 1, 0, none⟩) 2 2, .slice (some ⟨w.heap.size + 1 + 1 + 1 + 1 + 1 + 1, 0, none⟩) 3 3]) ∧ Hid (Bx wr (w.heap.size + 1 + 1 + 1 + 1 + 1 + 1 + 1 + 1) [.slice A xs.length c]) ∧ Hid (SetIn wr (w.heap.size + 2) (w.heap.size + 7) (.slice (some ⟨w.heap.size + 1 + 1, 0, none⟩) 2 2) (.slice (some ⟨w.heap.size + 1 + 1 + 1 + 1 + 1 + 1, 0, none⟩) 3 3) blkG blkT))
  case atStart => exact ⟨0, [], none, 0, by omega, by omega, rfl, Lib.hid (DrB.nil _), Lib.hid (World.ownsRow_nil _ _ _ _), hS, hkA, bR, bQ, bS, bA, hIn⟩
  case round =>
    clear hS hkA bR bQ bS bA hIn
    obtain ⟨k, xs, A, c, hkg, hk20, rfl, hD, hO, hS, hkA, bR, bQ, bS, bA, hIn⟩ := hrel
    go_wp2_with fail
    refine (pickE_any 4 hS.out (by omega) rfl (by omega) (by omega)).mono ?_
    rintro e w2 ⟨v2, rfl, hv2, hS2, hk2⟩
    have bR2 := Lib.hid (bR.out.kp hneR hk2)
    have bQ2 := Lib.hid (bQ.out.kp hneQ hk2)
    have bS2 := Lib.hid (bS.out.kp hneS hk2)
    have bA2 := Lib.hid (bA.out.kp hneA hk2)
    have hIn2 := Lib.hid (hIn.out.kp (by omega) hk2)
    have hO2 := Lib.hid (Own_kp hO.out (by omega) hk2)
    have hkA2 := Lib.hid (hkA.out.trans hk2)
    have hS2 := Lib.hid hS2
    obtain ⟨N, hN⟩ : ∃ N : Nat, N = wd * (1 + v2) := ⟨_, rfl⟩
    have hN20 : N ≤ 20 := by rw [hN]; exact Nat.le_trans (Nat.mul_le_mul hwd5 (show 1 + v2 ≤ 4 by omega)) (by decide)
    have hNI : (wd : Int) * (1 + (v2 : Int)) = (N : Int) := by rw [hN, Int.natCast_mul, Int.natCast_add]; rfl
    have hw1 : IntKind.i64.wrap (1 + (v2 : Int)) = 1 + (v2 : Int) := wrapI (by omega) (by omega)
    have hw2 : IntKind.i64.wrap ((wd : Int) * (1 + (v2 : Int))) = (N : Int) := by rw [hNI]; exact wrapI (by omega) (by omega)
    clear hN hNI hk2 bR bQ bS bA hIn hO hkA hS
    by_cases hkN : k < N
    · go_wp2_with fail
      refine (oneE_any 5 hS2.out (by omega) rfl (by omega) (by omega)).mono ?_
      rintro e w3 ⟨vo, rfl, hS3, hk3⟩
      have bR3 := Lib.hid (bR2.out.kp hneR hk3)
      have bQ3 := Lib.hid (bQ2.out.kp hneQ hk3)
      have bS3 := Lib.hid (bS2.out.kp hneS hk3)
      have bA3 := Lib.hid (bA2.out.kp hneA hk3)
      have hIn3 := Lib.hid (hIn2.out.kp (by omega) hk3)
      have hO3 := Lib.hid (Own_kp hO2.out (by omega) hk3)
      have hkA3 := Lib.hid (hkA2.out.trans hk3)
      have hS3 := Lib.hid hS3
      clear hw1 hw2 hk3 bR2 bQ2 bS2 bA2 hIn2 hO2 hkA2 hS2
      cases vo
      rotate_left
      · go_wp2
        go_roundg (21 - (k + 1))
        case measure => omega
        case rel => exact ⟨k + 1, xs, A, c, by omega, by omega, by go_num, Lib.hid hD.out.skip, hO3, Lib.hid (hS3.out.more (by omega)), hkA3, bR3, bQ3, bS3, bA3, hIn3⟩
      have a0 := bA3.out.cell 0 _ rfl
      have lA := bA3.out.lt
      obtain ⟨rm, hrm⟩ : ∃ rm, rm = k % wd := ⟨_, rfl⟩
      obtain ⟨qd, hqd⟩ : ∃ qd, qd = k / wd := ⟨_, rfl⟩
      have hmod : (k : Int).tmod (wd : Int) = (rm : Int) := by rw [hrm, Int.tmod_eq_emod_of_nonneg (by omega), Int.natCast_emod]
      have hdiv : (k : Int).tdiv (wd : Int) = (qd : Int) := by rw [hqd, Int.tdiv_eq_ediv_of_nonneg (by omega), Int.natCast_ediv]
      have hq20 : qd ≤ 20 := by rw [hqd]; exact Nat.le_trans (Nat.div_le_self _ _) hk20
      have hr5 : rm < wd := by rw [hrm]; exact Nat.mod_lt _ (by omega)
      have hwq : IntKind.i64.wrap (qd : Int) = (qd : Int) := wrapI (by omega) (by omega)
      have hrmH := Lib.hid hrm
      have hqdH := Lib.hid hqd
      clear hrm hqd
      have hwz : ((wd : Int) == 0) = false := by simp; omega
      have hwz' : ¬ (wd : Int) = 0 := by omega
      have hwz2 : ¬ wd = 0 := by omega
      go_wp2
      refine wp_region_ordK (p := p) [(0, .q), (1, .q), (2, .q), (3, .q), (4, .q), (5, .q), (6, .q), (7, .q), (8, .q), (9, .q), (10, .g), (11, .q), (12, .g), (13, .b), (14, .q), (15, .b)] (by kernel_rfl) (by kernel_rfl) ?_
      simp only [pick, List.filterMap_cons, List.filterMap_nil, List.getElem?_toArray, List.getElem?_cons_zero, List.getElem?_cons_succ, Option.map_some]
      repeat (first | ((with_reducible refine wpK_p (fun K hK => ?_)); go_simp; refine hK _ ?_; clear hK K) | ((with_reducible refine wpK_q (fun K hK => ?_)); go_simp; (first | refine hK _ ?_ | (go_bits; refine hK _ ?_) | (go_bits; go_simp; refine hK _ ?_)); clear hK K))
      with_reducible refine wpK_g (fun K hK => ?_)
      go_simp
      go_at_call 43
      refine (pickE_any 3 (hS3.out.below (bl_dr (bl_refl _))) (by omega) rfl (by omega) (by omega)).mono ?_
      rintro e w4 ⟨v4, rfl, hv4, hS4, hk4⟩
      refine ⟨_, rfl, hk4, hK _ _ ?_⟩
      clear hK K
      have hk4' := (Kp.refl p w3).drew.trans hk4
      have bR4 := Lib.hid (bR3.out.kp hneR hk4')
      have bQ4 := Lib.hid (bQ3.out.kp hneQ hk4')
      have bS4 := Lib.hid (bS3.out.kp hneS hk4')
      have bA4 := Lib.hid (bA3.out.kp hneA hk4')
      have hIn4 := Lib.hid (hIn3.out.kp (by omega) hk4')
      have hO4 := Lib.hid (Own_kp hO3.out (by omega) hk4')
      have hkA4 := Lib.hid (hkA3.out.trans hk4')
      have hS4 := Lib.hid hS4
      have l4 := bA4.out.lt
      have lp4 := hS4.out.lt
      have hxl := hD.out.len
      clear hk4 hk4' bR3 bQ3 bS3 bA3 hIn3 hO3 hkA3 hS3 a0 lA
      repeat (first | ((with_reducible refine wpK_p (fun K hK => ?_)); go_simp; refine hK _ ?_; clear hK K) | ((with_reducible refine wpK_q (fun K hK => ?_)); go_simp; (first | refine hK _ ?_ | (go_bits; refine hK _ ?_) | (go_bits; go_simp; refine hK _ ?_)); clear hK K))
      with_reducible refine wpK_g (fun K hK => ?_)
      go_simp
      refine ⟨(Kp.refl _ _).al (by omega) _, hK _ _ ?_⟩
      clear hK K
      have hal4 : Below w4.heap.size w4 (w4.alloc (Obj.cells #[.int .i64 (rm : Int), .int .i64 (qd : Int), .int .i64 (v4 : Int)] 149)) := bl_al (bl_refl _) _
      refine wpK_append_at rfl _ _ 28 rfl (w.heap.size + 9) 149 iP (.agg #[.int .i64 0, .int .i64 0, .int .i64 0]) 3 24 Tryz.underlying28 hP hP0 hP1 hP2 rfl (by decide) (.slice A xs.length c) xs.length (plCells xs) (by go_simp) (ownsRow_below hO4.out hal4) ⟨w4.heap.size, 0, none⟩ 1 1 [.int .i64 (rm : Int), .int .i64 (qd : Int), .int .i64 (v4 : Int)] (by go_simp) rfl (cell_three_newA _ _ _ _ _) (fun x hx => by simp at hx; rcases hx with rfl | rfl | rfl <;> rfl) (by unfold maxLen; omega) (by omega) (by simp; omega) ?_
      intro v5 w5 hown5 hgrow5 _
      obtain ⟨A5, c5, rfl⟩ := ownsRow_form hown5
      have hbX : Below (w.heap.size + 9) w4 w5 := (hal4.mono (by omega)).grown hgrow5 (by simp; omega) (fun g e => (hO4.out.lt g e).1)
      obtain ⟨xs5, hx5⟩ : ∃ z, z = xs ++ [(⟨(rm : Int), (qd : Int), (v4 : Int)⟩ : Pl)] := ⟨_, rfl⟩
      have hl5 : xs5.length = xs.length + 1 := by rw [hx5, List.length_append]; rfl
      have hD5 : Hid (DrB xs5 wd (k + 1)) := Lib.hid (by rw [hx5, hrmH.out, hqdH.out]; exact hD.out.snoc hv4)
      have hown5H : Hid (w5.ownsRow (w.heap.size + 9) 149 3 (.slice A5 xs5.length c5) xs5.length (plCells xs5)) := Lib.hid (by rw [hl5, hx5, plCells_snoc]; exact hown5)
      rw [← hl5]
      have bR5 := Lib.hid (bR4.out.belowB (by omega) hbX)
      have bQ5 := Lib.hid (bQ4.out.belowB (by omega) hbX)
      have bS5 := Lib.hid (bS4.out.belowB (by omega) hbX)
      have bA5 := Lib.hid (bA4.out.belowB (by omega) hbX)
      have hIn5 := Lib.hid (hIn4.out.belowB (hbX.mono (by omega)))
      have hS5 := Lib.hid (hS4.out.belowB (by omega) hbX)
      have hkA5 := Lib.hid (hkA4.out.thenB hlt (hbX.mono (by omega)))
      have y5 := bA5.out.cell 0 _ rfl
      have f5 := bA5.out.froz 0
      have l5 := bA5.out.lt
      clear hown5 hgrow5 hbX hal4 hl5 hx5 bR4 bQ4 bS4 bA4 hIn4 hO4 hkA4 hS4 hD hrmH hqdH hmod hdiv hwq hwz hwz' hwz2
      repeat (first | ((with_reducible refine wpK_p (fun K hK => ?_)); go_simp; refine hK _ ?_; clear hK K) | ((with_reducible refine wpK_q (fun K hK => ?_)); go_simp; (first | refine hK _ ?_ | (go_bits; refine hK _ ?_) | (go_bits; go_simp; refine hK _ ?_)); clear hK K))
      with_reducible refine wpK_b (fun K hK => ?_)
      go_simp
      refine hK _ _ ?_
      clear hK K
      repeat (first | ((with_reducible refine wpK_p (fun K hK => ?_)); go_simp; refine hK _ ?_; clear hK K) | ((with_reducible refine wpK_q (fun K hK => ?_)); go_simp; (first | refine hK _ ?_ | (go_bits; refine hK _ ?_) | (go_bits; go_simp; refine hK _ ?_)); clear hK K))
      with_reducible refine wpK_nil ?_
      go_wp2
      have hst : Below (w.heap.size + 1 + 1 + 1 + 1 + 1 + 1 + 1 + 1) w5 (w5.setCell ⟨(w.heap.size + 1 + 1 + 1 + 1 + 1 + 1 + 1 + 1), 0, none⟩ (.slice A5 xs5.length c5)) := (Below.refl _ _).setCell (p := ⟨(w.heap.size + 1 + 1 + 1 + 1 + 1 + 1 + 1 + 1), 0, none⟩) (Nat.le_refl _) _
      go_roundg (21 - (k + 1))
      case measure => omega
      case rel => exact ⟨k + 1, xs5, A5, c5, by omega, by omega, by go_num, hD5, Lib.hid (ownsRow_setB hown5H.out (p := ⟨(w.heap.size + 1 + 1 + 1 + 1 + 1 + 1 + 1 + 1), 0, none⟩) (by simp only; omega) _), Lib.hid ((hS5.out.belowB (by omega) hst).more (by omega)), Lib.hid (hkA5.out.thenB hlt (hst.mono (by omega))), Lib.hid (bR5.out.belowB (by omega) hst), Lib.hid (bQ5.out.belowB (by omega) hst), Lib.hid (bS5.out.belowB (by omega) hst), Lib.hid (bA5.out.setSame 0 _), Lib.hid (hIn5.out.belowB (hst.mono (by omega)))⟩
    · have s0 := bS2.out.cell 0 _ rfl
      have s1 := bS2.out.cell 1 _ rfl
      have lS := bS2.out.lt
      have a0 := bA2.out.cell 0 _ rfl
      have lA := bA2.out.lt
      have rr0 := bR2.out.cell 0 _ rfl
      have rr1 := bR2.out.cell 1 _ rfl
      have rf0 := bR2.out.froz 0
      have rf1 := bR2.out.froz 1
      have lR := bR2.out.lt
      have q0 := bQ2.out.cell 0 _ rfl
      have qf := bQ2.out.froz 0
      have lQ := bQ2.out.lt
      go_wp2
      go_region
      go_wp2
      refine bodyPost_ret (v := .tuple #[.agg #[.slice (some ⟨w.heap.size + 1 + 1, 0, none⟩) 2 2, .slice (some ⟨w.heap.size + 1 + 1 + 1 + 1 + 1 + 1, 0, none⟩) 3 3], .agg #[.slice A xs.length c]]) (by simp only [results, Tryz.results41]; go_simp) rfl ?_
      have hst : Below w.heap.size w2 (((w2.setCell ⟨w.heap.size, 0, none⟩ (.slice (some ⟨w.heap.size + 1 + 1, 0, none⟩) 2 2)).setCell ⟨w.heap.size, 1, none⟩ (.slice (some ⟨w.heap.size + 1 + 1 + 1 + 1 + 1 + 1, 0, none⟩) 3 3)).setCell ⟨w.heap.size + 1, 0, none⟩ (.slice A xs.length c)) := (((Below.refl _ _).setCell (p := ⟨w.heap.size, 0, none⟩) (Nat.le_refl _) _).setCell (p := ⟨w.heap.size, 1, none⟩) (Nat.le_refl _) _).setCell (p := ⟨w.heap.size + 1, 0, none⟩) (Nat.le_succ _) _
      have hDA := hD.out.drA (by omega) hwd5 hk20
      refine ⟨_, _, blkG, blkT, xs, rfl, ((((hIn2.out.setLow (by simp only; omega) _).setLow (by simp only; omega) _).setLow (by simp only; omega) _).below (bl_dr (bl_refl _))).own (by omega), ownsRow_lo (ownsRow_below (ownsRow_setB (ownsRow_setB (ownsRow_setB hO2.out (by simp only; omega) _) (by simp only; omega) _) (by simp only; omega) _) (bl_dr (bl_refl _))) (by omega), hDA.asm blk_valid rfl (by omega) (by omega), by have := hDA.len; omega, hkA2.out.thenB hlt hst.drew⟩
end Go.Proofs.YtmhgjgclclnmaaaGreat
/- Walks: a drawn piece and drawn numbers, from bytes. -/


namespace Go.Proofs.YtmhgjgclclnmaaaGreat
open Go.RowKit
attribute [local go_sem] BelowBy.cell BelowBy.cell_drew stillUpon givesUpon KpBy.cell KpBy.cell_drew

/-- a piece drawn from bytes -/
def LawP (w : World) (e : Ending) (w' : World) : Prop := ∃ vs va gs ts xs, e = .returned (.tuple #[vs, .agg #[va]]) ∧ SetOwn w' w.heap.size vs gs ts ∧ w'.ownsRow w.heap.size 149 3 va xs.length (plCells xs) ∧ validAsmB gs ts xs = true ∧ xs.length ≤ 30 ∧ Below w.heap.size w w'
set_option maxRecDepth 100000 in
set_option maxHeartbeats 4000000 in
theorem LawPiece_any {C : Option Addr} {n c : Nat} {bs : List Nat} {w : World} (h : RdSl 1 RBy w C n bs) (hn : n ≤ 1000000) :
    Calls Tryz.prog 8 #[.slice C n c] w (LawP w) := by
  have hH := Lib.hid h
  clear h
  go_enter Tryz.func8, Tryz.ntmps8
  go_wp2_with fail
  obtain ⟨a0, ha0⟩ : ∃ W, W = w.alloc (Obj.cells #[.slice none 0 0, .slice none 0 0] 27) := ⟨_, rfl⟩
  rw [← ha0]
  have s0 : a0.heap.size = w.heap.size + 1 := by rw [ha0, World.size_alloc]
  have b0 : Below w.heap.size w a0 := by rw [ha0]; exact bl_al (bl_refl _) _
  obtain ⟨a1, ha1⟩ : ∃ W, W = a0.alloc (Obj.cells #[.slice none 0 0] 30) := ⟨_, rfl⟩
  rw [← ha1]
  have s1 : a1.heap.size = w.heap.size + 1 + 1 := by rw [ha1, World.size_alloc]; rw [s0]
  have b1 : Below a0.heap.size a0 a1 := by rw [ha1]; exact bl_al (bl_refl _) _
  have bw : Hid (Below w.heap.size w a1) := Lib.hid (bl_tr b0 b1)
  have bR0 : Hid (Bx a1 (w.heap.size) [.slice none 0 0, .slice none 0 0]) := Lib.hid (by have hm := Bx.made w [.slice none 0 0, .slice none 0 0] 27; rw [← ha0] at hm; exact hm.below b1)
  have bQ0 : Hid (Bx a1 (w.heap.size + 1) [.slice none 0 0]) := Lib.hid (by have hm := Bx.made a0 [.slice none 0 0] 30; rw [← ha1] at hm; rw [s0] at hm; exact hm)
  have hH1 := Lib.hid (hH.out.below RBy.stable bw.out)
  have l1 : w.heap.size + 2 ≤ a1.heap.size := by omega
  clear ha0 ha1 s0 s1 b0 b1 hH
  refine (l00FromE_any hH1.out hn).mono ?_
  rintro e w1 ⟨p, rfl, hp, hS1, hb1⟩
  have hS := Lib.hid hS1
  have bR := Lib.hid (bR0.out.below hb1)
  have bQ := Lib.hid (bQ0.out.below hb1)
  have bw1 := Lib.hid (bw.out.trans (hb1.mono (by omega)))
  have hl1 := hb1.size
  have hneR : w.heap.size ≠ p := by omega
  have hneQ : w.heap.size + 1 ≠ p := by omega
  have hwp : w.heap.size ≤ p := by omega
  have l2 : w.heap.size + 2 ≤ w1.heap.size := by omega
  clear hS1 hb1 bR0 bQ0 bw hH1 hl1 hp l1
  go_wp2_with fail
  refine (oneE_any 2 hS.out (by omega) rfl (by omega) (by omega)).mono ?_
  rintro e w2 ⟨v, rfl, hS2, hk2⟩
  have bR2 := Lib.hid (bR.out.kp hneR hk2)
  have bQ2 := Lib.hid (bQ.out.kp hneQ hk2)
  have bw2 := Lib.hid (bw1.out.trans (hk2.below.mono hwp))
  have hl2 := hk2.below.size
  have l3 : w.heap.size + 2 ≤ w2.heap.size := by omega
  have hS2 := Lib.hid hS2
  clear hk2 hS bR bQ bw1 hl2 l2
  cases v
  all_goals
    go_wp2_with fail
    first | refine (l07Block_any hS2.out (by omega)).mono ?_ | refine (l06Draw_any hS2.out (by omega)).mono ?_
    rintro e w3 ⟨vs, va, gs, ts, xs, rfl, hSO, hO1, hV1, hx1, hk3⟩
    obtain ⟨vg, vt, us, rfl, hg1, ht1⟩ := hSO
    obtain ⟨A1, c1, rfl⟩ := ownsRow_form hg1
    obtain ⟨A2, c2, rfl⟩ := ownsRow_form ht1.outer
    obtain ⟨A3, c3, rfl⟩ := ownsRow_form hO1
    have hV := Lib.hid hV1
    have hx := Lib.hid hx1
    have hO := Lib.hid (ownsRow_lo hO1 l3)
    have hg := Lib.hid (ownsRow_lo hg1 l3)
    have ht := Lib.hid (ht1.rebase l3)
    have bR3 := Lib.hid (bR2.out.kp hneR hk3)
    have bQ3 := Lib.hid (bQ2.out.kp hneQ hk3)
    have bw3 := Lib.hid (bw2.out.trans (hk3.below.mono hwp))
    have rr0 := bR3.out.cell 0 _ rfl
    have rr1 := bR3.out.cell 1 _ rfl
    have rf0 := bR3.out.froz 0
    have rf1 := bR3.out.froz 1
    have lR := bR3.out.lt
    have q0 := bQ3.out.cell 0 _ rfl
    have qf := bQ3.out.froz 0
    have lQ := bQ3.out.lt
    clear hk3 bR2 bQ2 bw2 hS2 l3
    clear hO1 hV1 hx1 hg1 ht1
    go_wp2
    refine bodyPost_ret (v := .tuple #[.agg #[.slice A1 gs.length c1, .slice A2 us.length c2], .agg #[.slice A3 xs.length c3]]) (by simp only [results, Tryz.results8]; go_simp) rfl ?_
    have ht4 := (((ht.out.setBelow (p := ⟨w.heap.size, 0, none⟩) (by simp only; omega) (.slice A1 gs.length c1)).setBelow (p := ⟨w.heap.size, 1, none⟩) (by simp only; omega) (.slice A2 us.length c2)).setBelow (p := ⟨w.heap.size + 1, 0, none⟩) (by simp only; omega) (.slice A3 xs.length c3)).rebase (base' := w.heap.size) (by omega)
    have hst : Below w.heap.size w3 (((w3.setCell ⟨w.heap.size, 0, none⟩ (.slice A1 gs.length c1)).setCell ⟨w.heap.size, 1, none⟩ (.slice A2 us.length c2)).setCell ⟨w.heap.size + 1, 0, none⟩ (.slice A3 xs.length c3)) := (((Below.refl _ _).setCell (p := ⟨w.heap.size, 0, none⟩) (Nat.le_refl _) _).setCell (p := ⟨w.heap.size, 1, none⟩) (Nat.le_refl _) _).setCell (p := ⟨w.heap.size + 1, 0, none⟩) (Nat.le_succ _) _
    refine ⟨_, _, gs, ts, xs, rfl, ⟨_, _, us, rfl, ownsRow_lo (ownsRow_setB (ownsRow_setB (ownsRow_setB hg.out (by simp only; omega) _) (by simp only; omega) _) (by simp only; omega) _) (by omega), ht4⟩, ownsRow_lo (ownsRow_setB (ownsRow_setB (ownsRow_setB hO.out (by simp only; omega) _) (by simp only; omega) _) (by simp only; omega) _) (by omega), hV.out, hx.out, bw3.out.trans hst⟩
end Go.Proofs.YtmhgjgclclnmaaaGreat
/- Walk: drawn numbers, from bytes. -/

namespace Go.Proofs.YtmhgjgclclnmaaaGreat
open Go.RowKit
attribute [local go_sem] BelowBy.cell BelowBy.cell_drew stillUpon givesUpon KpBy.cell KpBy.cell_drew

set_option maxRecDepth 100000 in
set_option maxHeartbeats 4000000 in
theorem LawPicks_any {C : Option Addr} {n c m : Nat} {bs : List Nat} {w : World} (M : Nat) (h : RdSl 1 RBy w C n bs) (hn : n ≤ 1000000) (hm : m ≤ 1000) (h1 : 1 ≤ M) (h2 : M ≤ 200) :
    Calls Tryz.prog 9 #[.slice C n c, .int .i64 (m : Int), .int .i64 (M : Int)] w fun e w' => ∃ (v : Value) (l : List Int), e = .returned v ∧ w'.ownsRow w.heap.size 2 1 v m (flatC encI l) ∧ l.length = m ∧ (∀ x ∈ l, 0 ≤ x ∧ x < M) ∧ Below w.heap.size w w' := by
  obtain ⟨iI, hI, hI0, hI1, hI2⟩ := info_parts infoI
  have hH := Lib.hid h
  clear h
  go_enter Tryz.func9, Tryz.ntmps9
  go_wp2_with fail
  refine (l00FromE_any hH.out hn).mono ?_
  rintro e w1 ⟨p, rfl, hp, hS1, hb1⟩
  have hS := Lib.hid hS1
  have hl1 := hb1.size
  have hbw := Lib.hid hb1
  clear hS1 hb1
  have hlt := hS.out.lt
  go_wp2
  go_loopg [8, 9] m (fun gq x8 x9 wr => ∃ (r k : Nat) (l : List Int) (A : Option Addr) (cc : Nat), r ≤ gq ∧ k + r = m ∧ x9 = .int .i64 (r : Int) ∧ x8 = .slice A k cc ∧ Hid (l.length = k) ∧ Hid (∀ x ∈ l, 0 ≤ x ∧ x < (M : Int)) ∧ Hid (wr.ownsRow w1.heap.size 2 1 (.slice A k cc) k (flatC encI l)) ∧ Hid (SrcE wr p k) ∧ Hid (Below w.heap.size w wr) ∧ w1.heap.size ≤ wr.heap.size)
  case atStart => exact ⟨m, 0, [], _, _, by omega, by omega, rfl, rfl, Lib.hid rfl, Lib.hid (fun x hx => by simp at hx), Lib.hid (World.ownsRow_lit w1 #[] 0 (Nat.le_refl _) (by unfold maxLen; omega) rfl), Lib.hid (hS.out.below (bl_al (bl_refl _) _)), Lib.hid (hbw.out.trans ((bl_al (bl_refl _) _).mono hl1)), by go_simp⟩
  case round =>
    clear hS hbw
    obtain ⟨r, k, l, A, cc, hrg, hkr, rfl, rfl, hll, hlv, hO, hS, hbw, hls⟩ := hrel
    by_cases hd4 : 0 < r
    · have lp := hS.out.lt
      have hd5 : (0 : Int) < (r : Int) := by omega
      have hwr : IntKind.i64.wrap ((r : Int) - 1) = ((r - 1 : Nat) : Int) := by rw [wrapI (by omega) (by omega)]; omega
      go_wp2_with (first | (go_at_call 43; refine (pickE_any M hS.out (by omega) rfl h1 h2).mono ?_; rintro e w4 ⟨v4, rfl, hv4, hS4, hk4⟩; have hO4 := Lib.hid (Own_kp hO.out (p := p) (by omega) hk4); have hS4 := Lib.hid hS4; have hl4 := hk4.below.size; have hbw4 := Lib.hid (hbw.out.trans (hk4.below.mono hp)); clear hk4 hO hS hbw) | (at_builtin; have hA4 : Below w4.heap.size w4 (w4.alloc (Obj.cells #[.int .i64 (v4 : Int)] 2)) := bl_al (bl_refl _) _; refine wpList_append_own_at _ rfl _ _ 33 rfl w1.heap.size 2 iI (.int .i64 0) 1 8 Tryz.underlying33 hI hI0 hI1 hI2 rfl (by decide) (.slice A k cc) k (flatC encI l) rfl (ownsRow_below hO4.out hA4) ⟨w4.heap.size, 0, none⟩ 1 1 [.int .i64 (v4 : Int)] rfl rfl (cell_one_newD _ _ _) (fun x hx => by simp at hx; subst hx; rfl) (by unfold maxLen; omega) (by omega) (by simp; omega) ?_; intro v5 w5 hown5 hgrow5 _ _; obtain ⟨A5, c5, rfl⟩ := ownsRow_form hown5; have hbX : Below w1.heap.size w4 w5 := (hA4.mono (by omega)).grown hgrow5 (by simp; omega) (fun g e => (hO4.out.lt g e).1); have hS5 := Lib.hid (hS4.out.belowB (by omega) hbX); have hbw5 := Lib.hid (hbw4.out.trans (hbX.mono hl1)); have hl5 := hbX.size; have hown5H := Lib.hid (show w5.ownsRow w1.heap.size 2 1 (.slice A5 (k + 1) c5) (k + 1) (flatC encI (l ++ [(v4 : Int)])) by rw [flatC_snoc]; exact hown5); clear hown5 hgrow5 hbX hA4 hS4 hO4 hbw4))
      go_roundg (r - 1)
      case measure => omega
      case rel => exact ⟨r - 1, k + 1, _, A5, c5, by omega, by omega, by go_num, rfl, Lib.hid (by rw [List.length_append, hll.out]; rfl), Lib.hid (fun x hx => by
        rcases List.mem_append.1 hx with hx | hx
        · exact hlv.out x hx
        · simp at hx; subst hx; omega), hown5H, hS5, hbw5, by omega⟩
    · have hr0 : r = 0 := by omega
      subst hr0
      go_wp2
      go_ret
      exact ⟨_, l, rfl, by rw [show m = k by omega]; exact ownsRow_lo hO.out hl1, by rw [hll.out]; omega, hlv.out, hbw.out⟩
end Go.Proofs.YtmhgjgclclnmaaaGreat
/- Words for the law on bonds: the contracts in the form that its walk asks. -/



namespace Go.Proofs.YtmhgjgclclnmaaaGreat
open Go.RowKit

theorem valid_names {gs : List Gl} {ts : List Ti} (h : validSetB gs ts = true) : (∀ (k : Nat) (e : Gl), gs[k]? = some e → e.name.size ≤ 9223372036854775807) ∧ ∀ (k : Nat) (e : Ti), ts[k]? = some e → e.name.size ≤ 9223372036854775807 ∧ e.sides.length ≤ 9223372036854775807 := by
  unfold validSetB at h
  simp only [Bool.and_eq_true, decide_eq_true_eq] at h
  obtain ⟨_, hg, ht⟩ := h
  have hN : ∀ s : ByteArray, isNameB s = true → s.size ≤ 9223372036854775807 := fun s hs => by
    unfold isNameB at hs
    simp only [Bool.and_eq_true, decide_eq_true_eq] at hs
    omega
  refine ⟨fun k e he => ?_, fun k e he => ?_⟩
  · have h1 := allB_at hg (lt_of_get he)
    unfold okGl at h1
    simp only [he, Bool.and_eq_true] at h1
    exact hN _ h1.1
  · have h1 := allB_at ht (lt_of_get he)
    unfold okTi at h1
    simp only [he, Bool.and_eq_true, decide_eq_true_eq] at h1
    exact ⟨hN _ h1.1, by omega⟩
theorem valid_set {gs : List Gl} {ts : List Ti} {xs : List Pl} (h : validAsmB gs ts xs = true) : validSetB gs ts = true := by
  unfold validAsmB at h
  simp only [Bool.and_eq_true] at h
  exact h.1
theorem valid_form {gs : List Gl} {ts : List Ti} {xs : List Pl} (h : validAsmB gs ts xs = true) : hasFormB xs = true := by
  unfold validAsmB at h
  simp only [Bool.and_eq_true] at h
  exact h.2.1
theorem SA.of_valid {w : World} {G T A : Option Addr} {n m q : Nat} {gs : List Gl} {ts : List Ti} {xs : List Pl} (hG : RdSl 2 RGl w G n gs) (hT : RdSl 2 RTi w T m ts) (hA : RdSl 3 RPl w A q xs) (hv : validAsmB gs ts xs = true) : SA w G n T m A q gs ts xs := by
  have hV := valid_of hv
  have hn := valid_names (valid_set hv)
  refine ⟨hG, hT, hA, ?_, ?_, ?_, hn.1, hn.2⟩
  · have h1 := hG.len; have h2 := hV.gl; omega
  · have h1 := hT.len; have h2 := hV.tl; omega
  · have h1 := hA.len; have h2 := hV.len; omega
/-- a drawn piece, as the law asks it -/
def PieceR (w : World) (e : Ending) (w' : World) : Prop := ∃ (G T A : Option Addr) (n cg m ct q ca : Nat) (gs : List Gl) (ts : List Ti) (xs : List Pl), e = .returned (.tuple #[.agg #[.slice G n cg, .slice T m ct], .agg #[.slice A q ca]]) ∧ SA w' G n T m A q gs ts xs ∧ validAsmB gs ts xs = true ∧ xs.length ≤ 30 ∧ Below w.heap.size w w'
theorem LawPiece_sa {C : Option Addr} {n c : Nat} {bs : List Nat} {w : World} (h : RdSl 1 RBy w C n bs) (hn : n ≤ 1000000) :
    Calls Tryz.prog 8 #[.slice C n c] w (PieceR w) := by
  refine (LawPiece_any h hn).mono ?_
  rintro e w1 ⟨vs, va, gs, ts, xs, rfl, hS, hO, hv, hx, hb⟩
  obtain ⟨G, n, cg, T, m, ct, rfl, hG, hT⟩ := hS.rd
  obtain ⟨A, ca, rfl, hA⟩ := rdP_of_row hO
  exact ⟨G, T, A, n, cg, m, ct, _, ca, gs, ts, xs, rfl, SA.of_valid hG hT hA hv, hv, hx, hb⟩
/-- a row of numbers as a result, without a fault -/
def IntsOk (w : World) (l : List Int) (e : Ending) (w' : World) : Prop := ∃ A c, e = .returned (.tuple #[.slice A l.length c, .int .i64 0]) ∧ RdSl 1 RInt w' A l.length l ∧ Below w.heap.size w w'
theorem IntsRes.ok {w w' : World} {l : List Int} {e : Ending} (h : IntsRes w (l, 0) e w') : IntsOk w l e w' := by
  obtain ⟨A, c, rfl, hr, hb⟩ := h
  obtain ⟨A2, c2, he, hR⟩ := rdI_of hr
  injection he with h1 h2 h3
  subst h1
  exact ⟨A, c, rfl, hR, hb⟩
section
variable {G T A : Option Addr} {n cg m ct q ca : Nat} {gs : List Gl} {ts : List Ti} {xs : List Pl} {w : World}
theorem iCut {P_ : Option Addr} {np cp : Nat} {c : Nat → Bool} {S : Int} (h : SA w G n T m A q gs ts xs) (hv : validAsmB gs ts xs = true) (hP : RdSl 1 RInt w P_ np (idxL c xs.length)) (hS : sumB (keepLC (idxL c xs.length) (bondsL gs ts xs) (bondsL gs ts xs).length) = S) :
    Calls Tryz.prog 15 #[.agg #[.slice G n cg, .slice T m ct], .agg #[.slice A q ca], .slice P_ np cp] w fun e w' => e = .returned (.tuple #[.int .i64 S, .int .i64 0]) ∧ Below w.heap.size w w' := by
  have hnp : np ≤ 1073741824 := by
    have h1 := hP.len
    have h2 := idxL_len c xs.length
    have h3 := (valid_of hv).len
    omega
  have hc : cutR gs ts xs (idxL c xs.length) = (S, 0) := by
    unfold cutR
    rw [if_neg (by rw [hv]; decide), if_neg (by rw [rises_idx]; decide), hS]
  refine (CutStrength_any G T A P_ n cg m ct q ca np cp gs ts xs _ w h hP hnp).mono ?_
  rw [hc]
  exact fun e w' h => h
end
theorem iSub {C F : Option Addr} {k cc nf cf : Nat} {gs : List Gl} {ts : List Ti} {ys : List Pl} {c : Nat → Bool} {w : World} (h : RdSl 3 RPl w C k ys) (hv : validAsmB gs ts ys = true) (hF : RdSl 1 RInt w F nf (idxL c ys.length)) :
    Calls Tryz.prog 38 #[.agg #[.slice C k cc], .slice F nf cf] w fun e w' => ∃ A q ca, e = .returned (.tuple #[.agg #[.slice A q ca], .int .i64 0]) ∧ RdSl 3 RPl w' A q (selL c ys) ∧ Below w.heap.size w w' := by
  have h1 := hF.len
  have h2 := idxL_len c ys.length
  have h3 := (valid_of hv).len
  have h4 := h.len
  refine (SubAssembly_any h hF (by omega) (by omega) (fun v hv => by obtain ⟨i, e, hi, _⟩ := idxL_mem c _ v hv; exact ⟨i, e, by omega⟩) (valid_form hv) (by rw [← h4]; exact rises_idx c ys.length)).mono ?_
  rintro e w1 ⟨A, ca, rfl, hO, hb⟩
  obtain ⟨A2, c2, he, hR⟩ := rdP_of_row hO
  injection he with e1 e2 e3
  subst e1
  exact ⟨A, _, ca, rfl, hR, hb⟩
/-- rows that lie in blocks apart -/
def ApartV (v u : Value) : Prop := ∀ g g', v.ownBlock = some g → u.ownBlock = some g' → g ≠ g'
theorem own_apart {w w' : World} {v u : Value} {B : Nat} {e : TypeId} {s n : Nat} {xs : List Value} (hu : w.ownsRow B e s u n xs) (hg : w.grownBy w' v.ownBlock) (ha : ApartV v u) : w'.ownsRow B e s u n xs := by
  refine hu.kept hg ?_
  cases hb : u.ownBlock with
  | none => exact .inl rfl
  | some g => exact .inr fun e' => ha g g e'.symm hb rfl
theorem apart_moved {w : World} {v v' u : Value} {B : Nat} {e : TypeId} {s n : Nat} {xs : List Value} (hu : w.ownsRow B e s u n xs) (ha : ApartV v u) (h : v'.ownBlock = v.ownBlock ∨ v'.ownBlock = some w.heap.size) : ApartV v' u := by
  intro g g' h1 h2
  rcases h with h | h
  · exact ha g g' (h ▸ h1) h2
  · rw [h] at h1
    injection h1 with h1
    have := (hu.lt g' h2).2
    omega
theorem ApartV.symm {v u : Value} (h : ApartV v u) : ApartV u v := fun g g' h1 h2 e => h g' g h2 h1 e.symm
end Go.Proofs.YtmhgjgclclnmaaaGreat
