/- Walk: the law on scaled shapes' measures. -/
import Derived.Test.YtkppijcjmhkkkaaGBL
import Derived.Test.YtkppijcjmhkkkaaGBI
namespace Go.Proofs.Ytkppijcjmhkkkaa
open Go.RowKit
set_option linter.unusedSimpArgs false
set_option linter.unusedVariables false
attribute [local go_sem] BelowBy.cell BelowBy.cell_drew stillUpon givesUpon

theorem HolesN_any {A : Option Addr} {n c M : Nat} {ps : List Pt} {w : World} (h : RdSl 2 RPt w A n ps) (hsh : shapeB ps = true) (hM : (holesB ps).length = M) :
    Calls Try.prog 13 #[.slice A n c] w fun e w' => ∃ B c', e = .returned (.tuple #[.slice B M c', .int .i64 0]) ∧ Below w.heap.size w w' := by
  have hl := h.len
  have h5 := (shp_of hsh).2.2
  refine (HolesOf_any A n c ps w h (by omega)).mono ?_
  rintro e w' ⟨B, c', us, rfl, _, hb⟩
  have e1 : holR ps = (holesB ps, 0) := by unfold holR; rw [if_pos hsh]
  rw [e1] at *
  refine ⟨B, c', ?_, hb⟩
  rw [← hM]
theorem oneB_parts (ps : List Pt) : oneB ps = decide ((partsP ps).length = 1) := by
  unfold oneB partsP partsN namesL
  simp
theorem IsConnectedN_any {A : Option Addr} {n c : Nat} {ps : List Pt} {v : Bool} {w : World} (h : RdSl 2 RPt w A n ps) (hsh : shapeB ps = true) (hv : decide ((partsP ps).length = 1) = v) :
    Calls Try.prog 14 #[.slice A n c] w fun e w' => e = .returned (.bool v) ∧ Below w.heap.size w w' := by
  have hl := h.len
  have h5 := (shp_of hsh).2.2
  refine (IsConnected_any A n c ps w h (by omega)).mono ?_
  rintro e w' ⟨rfl, hb⟩
  refine ⟨?_, hb⟩
  rw [hsh, Bool.true_and, oneB_parts, hv]
set_option maxRecDepth 100000 in
set_option maxHeartbeats 8000000 in
theorem FnScaled_any {n n2 c c2 : Nat} {C D : Option Addr} {bs bs2 : List Nat} (w : World) (h : RdSl 1 RBy w C n bs) (h2 : RdSl 1 RBy w D n2 bs2) :
    Calls Try.prog 3 #[.slice C n c, .slice D n2 c2] w fun e w' => e = .returned (.bool true) ∧ Below w.heap.size w w' := by
  have hH := Lib.hid h
  have hBy := Lib.hid h2
  clear h h2
  by_cases hn : 4096 < n
  · have hnH := Lib.hid (show decide (4096 < n) = true from decide_eq_true hn)
    clear hn
    go_enter Try.func3, Try.ntmps3
    go_wp2_with fail
    refine (f6big_at _ hnH.out).mono ?_
    rintro e _ ⟨rfl, rfl⟩
    go_wp2
    go_ret
    exact ⟨rfl, bl_refl _⟩
  have hnH := Lib.hid (show decide (4096 < n) = false from decide_eq_false hn)
  by_cases hm : 4096 < n2
  · have hmH := Lib.hid (show decide (4096 < n2) = true from decide_eq_true hm)
    clear hm hn
    go_enter Try.func3, Try.ntmps3
    go_wp2_with fail
    refine (f6big_at _ hnH.out).mono ?_
    rintro e _ ⟨rfl, rfl⟩
    go_wp2_with fail
    refine (f6big_at _ hmH.out).mono ?_
    rintro e _ ⟨rfl, rfl⟩
    go_wp2
    go_ret
    exact ⟨rfl, bl_refl _⟩
  have hmH := Lib.hid (show decide (4096 < n2) = false from decide_eq_false hm)
  have hnle : n ≤ 1000000 := by omega
  have hmle : n2 ≤ 1000000 := by omega
  clear hm hn
  go_enter Try.func3, Try.ntmps3
  go_wp2_with fail
  refine (f6big_at _ hnH.out).mono ?_
  rintro e _ ⟨rfl, rfl⟩
  go_wp2_with fail
  refine (f6big_at _ hmH.out).mono ?_
  rintro e _ ⟨rfl, rfl⟩
  go_wp2_with fail
  refine (LawShape_any hH.out hnle).mono ?_
  rintro _ w1 ⟨A, N, cN, ps, rfl, hR, hSm, hN1, hN25, hb1⟩
  replace hR := Lib.hid hR
  replace hSm := Lib.hid hSm
  replace hBy := Lib.hid (hBy.out.below RBy.stable hb1)
  have hbw := Lib.hid hb1
  clear hb1 hH
  have hl := Lib.hid hR.out.len
  go_wp2_with fail
  refine (LawPickS_any 3 hBy.out hmle (by omega) (by omega)).mono ?_
  rintro _ w2 ⟨v, rfl, hv3, hj⟩
  try replace hR := Lib.hid (hR.out.below RPt.stable hj)
  try replace hP := Lib.hid (hP.out.below RPt.stable hj)
  try replace hQ := Lib.hid (hQ.out.below RPt.stable hj)
  try replace hU := Lib.hid (hU.out.below RPt.stable hj)
  try replace hBy := Lib.hid (hBy.out.below RBy.stable hj)
  try replace hbw := Lib.hid (hbw.out.trans ((hj).mono hbw.out.size))
  clear hj
  have hw1 : IntKind.i64.wrap (1 + (v : Int)) = ((v + 1 : Nat) : Int) := by rw [wrapFs (by omega) (by omega)]; omega
  obtain ⟨k, hk⟩ : ∃ k, v + 1 = k := ⟨_, rfl⟩
  have hk13 : 1 ≤ k ∧ k ≤ 3 := by omega
  rw [hk] at hw1
  clear hk hv3 hBy
  have h3 := Lib.hid (show S4 ps k from ⟨hSm.out, hk13, by rw [hl.out]; exact hN25⟩)
  obtain ⟨L, hL⟩ : ∃ L, scS k ps = L := ⟨_, rfl⟩
  obtain ⟨M, hM⟩ : ∃ M, L.length = M := ⟨_, rfl⟩
  have hsp := Lib.hid (hSm.out.shape (by omega) (by rw [hl.out]; exact hN1) (by rw [hl.out]; omega))
  have hsL := Lib.hid (show shapeB L = true by rw [← hL]; exact h3.out.shape (by rw [hl.out]; exact hN1))
  obtain ⟨x, hx⟩ : ∃ x, perim ps = x := ⟨_, rfl⟩
  obtain ⟨g, hg⟩ : ∃ g, (holesB ps).length = g := ⟨_, rfl⟩
  obtain ⟨cc, hcc⟩ : ∃ cc, decide ((partsP ps).length = 1) = cc := ⟨_, rfl⟩
  obtain ⟨hSp, hp1, hp5⟩ := shp_of hsp.out
  obtain ⟨hSL, hL1, hL5⟩ := shp_of hsL.out
  have hMN : M = N * (k * k) := by rw [← hM, ← hL, h3.out.len, hl.out]
  have hxL := Lib.hid (show perim L = k * x by rw [← hL, sc_perim hk13 hSm.out.srt, hx])
  have hgL := Lib.hid (show (holesB L).length = g by rw [← hL, ← hg]; exact (sc_holes hk13 hSp (by omega) (by rw [hL]; exact hSL) (by rw [hL]; omega)).symm)
  have hcL := Lib.hid (show decide ((partsP L).length = 1) = cc by rw [← hcc, ← hL, sc_parts hk13 hSp (by omega) (by rw [hL]; exact hSL) (by rw [hL]; omega)])
  obtain ⟨q, hq⟩ : ∃ q, k * k = q := ⟨_, rfl⟩
  have hq9 : q ≤ 9 := by rw [← hq]; exact h3.out.kk
  rw [hq] at hMN
  have hM9 : M ≤ 225 := by
    have : N * q ≤ 25 * 9 := Nat.mul_le_mul hN25 hq9
    omega
  have hx9 : x ≤ 100 := by
    rw [← hx]
    have h9 : perim ps ≤ 4 * ps.length := by have := out_all ps ps; unfold perim; omega
    rw [hl.out] at h9
    omega
  obtain ⟨y, hy⟩ : ∃ y, k * x = y := ⟨_, rfl⟩
  have hy9 : y ≤ 300 := by
    have : k * x ≤ 3 * 100 := Nat.mul_le_mul hk13.2 hx9
    omega
  rw [hy] at hxL
  have wy : IntKind.i64.wrap ((k : Int) * (x : Int)) = (y : Int) := by rw [← Int.natCast_mul, hy]; exact wrapFs (by omega) (by omega)
  have wq : IntKind.i64.wrap ((k : Int) * (k : Int)) = (q : Int) := by rw [← Int.natCast_mul, hq]; exact wrapFs (by omega) (by omega)
  have wM : IntKind.i64.wrap ((q : Int) * (N : Int)) = (M : Int) := by rw [← Int.natCast_mul, Nat.mul_comm, ← hMN]; exact wrapFs (by omega) (by omega)
  replace hL := Lib.hid hL
  replace hM := Lib.hid hM
  replace hx := Lib.hid hx
  replace hg := Lib.hid hg
  replace hcc := Lib.hid hcc
  clear hSp hp1 hp5 hSL hL1 hL5 hMN hq hy hSm
  go_wp2_with fail
  refine (ScaleShape_any hR.out h3.out hN1 hL.out hM.out).mono ?_
  rintro _ w3 ⟨B, cB, rfl, hP, hj⟩
  replace hP := Lib.hid hP
  try replace hR := Lib.hid (hR.out.below RPt.stable hj)
  try replace hP := Lib.hid (hP.out.below RPt.stable hj)
  try replace hQ := Lib.hid (hQ.out.below RPt.stable hj)
  try replace hU := Lib.hid (hU.out.below RPt.stable hj)
  try replace hBy := Lib.hid (hBy.out.below RBy.stable hj)
  try replace hbw := Lib.hid (hbw.out.trans ((hj).mono hbw.out.size))
  clear hj
  go_wp2_with fail
  refine (sScaleShape_any hR.out h3.out hN1 hL.out hM.out).mono ?_
  rintro _ w4 ⟨E, cE, rfl, hQ, hj⟩
  replace hQ := Lib.hid hQ
  try replace hR := Lib.hid (hR.out.below RPt.stable hj)
  try replace hP := Lib.hid (hP.out.below RPt.stable hj)
  try replace hQ := Lib.hid (hQ.out.below RPt.stable hj)
  try replace hU := Lib.hid (hU.out.below RPt.stable hj)
  try replace hBy := Lib.hid (hBy.out.below RBy.stable hj)
  try replace hbw := Lib.hid (hbw.out.trans ((hj).mono hbw.out.size))
  clear hj
  go_wp2_with fail
  refine (sSameShape_any hP.out hQ.out (by omega)).mono ?_
  rintro _ w5 ⟨rfl, hj⟩
  try replace hR := Lib.hid (hR.out.below RPt.stable hj)
  try replace hP := Lib.hid (hP.out.below RPt.stable hj)
  try replace hQ := Lib.hid (hQ.out.below RPt.stable hj)
  try replace hU := Lib.hid (hU.out.below RPt.stable hj)
  try replace hBy := Lib.hid (hBy.out.below RBy.stable hj)
  try replace hbw := Lib.hid (hbw.out.trans ((hj).mono hbw.out.size))
  clear hj hP
  go_wp2_with fail
  refine (UnscaleShape_any hQ.out h3.out hN1 hl.out hL.out).mono ?_
  rintro _ w6 ⟨U, cU, rfl, hU, hj⟩
  replace hU := Lib.hid hU
  try replace hR := Lib.hid (hR.out.below RPt.stable hj)
  try replace hP := Lib.hid (hP.out.below RPt.stable hj)
  try replace hQ := Lib.hid (hQ.out.below RPt.stable hj)
  try replace hU := Lib.hid (hU.out.below RPt.stable hj)
  try replace hBy := Lib.hid (hBy.out.below RBy.stable hj)
  try replace hbw := Lib.hid (hbw.out.trans ((hj).mono hbw.out.size))
  clear hj
  go_wp2_with fail
  refine (PerimeterOf_any hR.out hsp.out hx.out).mono ?_
  rintro _ w7 ⟨rfl, hj⟩
  try replace hR := Lib.hid (hR.out.below RPt.stable hj)
  try replace hP := Lib.hid (hP.out.below RPt.stable hj)
  try replace hQ := Lib.hid (hQ.out.below RPt.stable hj)
  try replace hU := Lib.hid (hU.out.below RPt.stable hj)
  try replace hBy := Lib.hid (hBy.out.below RBy.stable hj)
  try replace hbw := Lib.hid (hbw.out.trans ((hj).mono hbw.out.size))
  clear hj
  go_wp2_with fail
  refine (PerimeterOf_any hQ.out hsL.out hxL.out).mono ?_
  rintro _ w8 ⟨rfl, hj⟩
  try replace hR := Lib.hid (hR.out.below RPt.stable hj)
  try replace hP := Lib.hid (hP.out.below RPt.stable hj)
  try replace hQ := Lib.hid (hQ.out.below RPt.stable hj)
  try replace hU := Lib.hid (hU.out.below RPt.stable hj)
  try replace hBy := Lib.hid (hBy.out.below RBy.stable hj)
  try replace hbw := Lib.hid (hbw.out.trans ((hj).mono hbw.out.size))
  clear hj
  go_wp2_with fail
  refine (HolesN_any hR.out hsp.out hg.out).mono ?_
  rintro _ w9 ⟨F, cF, rfl, hj⟩
  try replace hR := Lib.hid (hR.out.below RPt.stable hj)
  try replace hP := Lib.hid (hP.out.below RPt.stable hj)
  try replace hQ := Lib.hid (hQ.out.below RPt.stable hj)
  try replace hU := Lib.hid (hU.out.below RPt.stable hj)
  try replace hBy := Lib.hid (hBy.out.below RBy.stable hj)
  try replace hbw := Lib.hid (hbw.out.trans ((hj).mono hbw.out.size))
  clear hj
  go_wp2_with fail
  refine (HolesN_any hQ.out hsL.out hgL.out).mono ?_
  rintro _ w10 ⟨G, cG, rfl, hj⟩
  try replace hR := Lib.hid (hR.out.below RPt.stable hj)
  try replace hP := Lib.hid (hP.out.below RPt.stable hj)
  try replace hQ := Lib.hid (hQ.out.below RPt.stable hj)
  try replace hU := Lib.hid (hU.out.below RPt.stable hj)
  try replace hBy := Lib.hid (hBy.out.below RBy.stable hj)
  try replace hbw := Lib.hid (hbw.out.trans ((hj).mono hbw.out.size))
  clear hj
  go_wp2_with fail
  refine (sSameShape_any hU.out hR.out (by omega)).mono ?_
  rintro _ w11 ⟨rfl, hj⟩
  try replace hR := Lib.hid (hR.out.below RPt.stable hj)
  try replace hP := Lib.hid (hP.out.below RPt.stable hj)
  try replace hQ := Lib.hid (hQ.out.below RPt.stable hj)
  try replace hU := Lib.hid (hU.out.below RPt.stable hj)
  try replace hBy := Lib.hid (hBy.out.below RBy.stable hj)
  try replace hbw := Lib.hid (hbw.out.trans ((hj).mono hbw.out.size))
  clear hj
  go_wp2_with fail
  refine (IsConnectedN_any hR.out hsp.out hcc.out).mono ?_
  rintro _ w12 ⟨rfl, hj⟩
  try replace hR := Lib.hid (hR.out.below RPt.stable hj)
  try replace hP := Lib.hid (hP.out.below RPt.stable hj)
  try replace hQ := Lib.hid (hQ.out.below RPt.stable hj)
  try replace hU := Lib.hid (hU.out.below RPt.stable hj)
  try replace hBy := Lib.hid (hBy.out.below RBy.stable hj)
  try replace hbw := Lib.hid (hbw.out.trans ((hj).mono hbw.out.size))
  clear hj
  go_wp2_with fail
  refine (IsConnectedN_any hQ.out hsL.out hcL.out).mono ?_
  rintro _ w13 ⟨rfl, hj⟩
  try replace hR := Lib.hid (hR.out.below RPt.stable hj)
  try replace hP := Lib.hid (hP.out.below RPt.stable hj)
  try replace hQ := Lib.hid (hQ.out.below RPt.stable hj)
  try replace hU := Lib.hid (hU.out.below RPt.stable hj)
  try replace hBy := Lib.hid (hBy.out.below RBy.stable hj)
  try replace hbw := Lib.hid (hbw.out.trans ((hj).mono hbw.out.size))
  clear hj
  go_wp2
  go_ret
  exact ⟨by simp, hbw.out⟩
end Go.Proofs.Ytkppijcjmhkkkaa
