/- Walks: the reference's meetings, lists and states of signal cells (printed by gen_sg17.py). -/
import Derived.Test.YtbipnnjkddffbaaSg16
import Derived.Test.YtbipnnjkddffbaaW11
import Derived.Test.YtbipnnjkddffbaaSg12
namespace Go.Proofs.Ytbipnnjkddffbaa
open Go.RowKit Go.Shelf
set_option linter.unusedSimpArgs false
set_option linter.unusedVariables false
attribute [local go_sem] BelowBy.cell BelowBy.cell_drew stillUpon givesUpon BelowBy.cell_drewS2 BelowBy.cell_drewS3

theorem wrap_inS {n : Int} (h1 : -9000000000000000000 ≤ n) (h2 : n ≤ 9000000000000000000) : IntKind.i64.wrap n = n := by
  simp [IntKind.wrap, IntKind.bits, IntKind.signed]; omega
theorem lp_atS {x y : Int} {v : Bool} {w : World} (h : validPt x y = v) :
    Calls Try.prog 111 #[.agg #[.int .i64 x, .int .i64 y]] w fun e w' => e = .returned (.bool v) ∧ Below w.heap.size w w' := by
  rw [← h]; exact l01Point_any _ _ _
theorem lstep_atS (x y : Int) (d : Nat) (w : World) (hd : d < 4) (hx : -1000 ≤ x ∧ x ≤ 1000) (hy : -1000 ≤ y ∧ y ≤ 1000) :
    Calls Try.prog 87 #[.agg #[.int .i64 x, .int .i64 y], .int .i64 d] w fun e w' => e = .returned (.agg #[.int .i64 (stepX x d), .int .i64 (stepY y d)]) ∧ Below w.heap.size w w' := l01Step_any x y d w ⟨by omega, by omega⟩ hx hy
set_option maxRecDepth 100000 in
set_option maxHeartbeats 8000000 in
theorem l31Meets_any (p : Nat) (C : Option Addr) (q cc : Nat) (gs : List Gl) (ts : List Sti) (cs : List Sc) (c : Sc) (i d : Nat) (w : World) (hS : SgAt w p gs ts) (hC : RdSl 6 RSc w C q cs) (hV : CellsV gs ts cs) (hi : cs[i]? = some c) (hd : d < 4) (r : Int) (b : Bool) (hr : placeI (plsOf cs) (stepX c.x d) (stepY c.y d) = r) (hb : meetB ts cs c d = b) :
    Calls Try.prog 112 #[.pointer (some ⟨p, 0, none⟩), .slice C q cc, .int .i64 i, .int .i64 d] w fun e w' => e = .returned (.tuple #[.int .i64 r, .bool b]) ∧ Below w.heap.size w w' := by
  obtain ⟨⟨hx1, hx2⟩, hy1, hy2⟩ := hV.V.pt i (scPl c) (plsOf_get hi)
  simp only [scPl] at hx1 hx2 hy1 hy2
  obtain ⟨hl4, _, t, e, hct, het, _⟩ := hV.cell i c hi
  obtain ⟨s4, _⟩ := hV.tile t e het
  obtain ⟨lp, _, ⟨TT, m, ct, pt, hT⟩⟩ := hS
  have htm : t < m := by rw [← hT.len]; exact lt_of_get het
  have hiq : i < q := by rw [← hC.len]; exact lt_of_get hi
  have hq80 := hV.len
  rw [hC.len] at hq80
  obtain ⟨bc, oc, rfl, hbc, hcc⟩ := hC.ptr (by omega)
  obtain ⟨c0, c1, c2, ⟨OA, on, onc, c3, hO⟩, _⟩ := hcc i c hi
  rw [hO.len] at hl4
  subst hl4
  rw [hct] at c2
  obtain ⟨bt, ot, rfl, hbt, hctx⟩ := hT.ptr (by omega)
  obtain ⟨_, ⟨SA, sn, sc, t1, hSd⟩, _⟩ := hctx t e het
  rw [hSd.len] at s4
  subst s4
  obtain ⟨bo, oo, rfl, hbo, hco⟩ := hO.ptr (by omega)
  obtain ⟨bs, os, rfl, hbs, hcs⟩ := hSd.ptr (by omega)
  obtain ⟨vO, hvO⟩ := hO.get hd
  obtain ⟨g1, hg1⟩ := hSd.get hd
  have x1 := hco d vO hvO
  have x2 := hcs d g1 hg1
  unfold RBool at x1
  unfold RInt at x2
  simp only [Nat.mul_one] at x1 x2
  have hg0 := hV.glue t e d g1 het hg1
  have hdI : (d : Int) < 4 := by omega
  have l1 : bc ≤ w.heap.size := by omega
  have l2 : bt ≤ w.heap.size := by omega
  have l3 : bo ≤ w.heap.size := by omega
  have l4 : bs ≤ w.heap.size := by omega
  have l5 : p ≤ w.heap.size := by omega
  obtain ⟨cx, hcx⟩ : ∃ cx, c.x = cx := ⟨_, rfl⟩
  obtain ⟨cy, hcy⟩ : ∃ cy, c.y = cy := ⟨_, rfl⟩
  have hnx := Lib.hid (show nextC cs c d = cellAt cs (stepX cx d) (stepY cy d) by unfold nextC; rw [hcx, hcy])
  have hon := Lib.hid (onAt_eq hvO)
  have hgl := Lib.hid (show glueC ts c.t d = g1 by rw [hct]; exact glueC_eq het hg1)
  rw [hcx] at c0 hr hx1 hx2
  rw [hcy] at c1 hr hy1 hy2
  have hTL := Lib.hid hT.len
  have hVH := Lib.hid hV
  have hCH := Lib.hid hC
  have hbH := Lib.hid hb
  have hrH := Lib.hid hr
  have hccH := Lib.hid hcc
  have hctxH := Lib.hid hctx
  clear hV hC hb hr hcc hctx hct het hT hO hSd hco hcs hvO hg1 hi hcx hcy
  
  rcases place_cases hVH.out (stepX cx d) (stepY cy d) with ⟨hp, hn⟩ | ⟨k, nb, hp, hk, hn⟩

  · obtain rfl : r = -1 := by rw [← hrH.out]; exact hp
    obtain rfl : b = false := by rw [← hbH.out, meet_none (hnx.out.trans hn)]
    clear hp hn
    go_enter Try.func112, Try.ntmps112
    go_wp2_with (first
      | (go_at_call 87; refine (lstep_atS _ _ _ _ hd ⟨by omega, by omega⟩ ⟨by omega, by omega⟩).mono ?_; rintro e w1 ⟨rfl, hb1⟩; obtain ⟨chb1, fhb1, shb1, thb1⟩ := bcell hb1; (try have bhb10 := shb1 (p) (by go_simp)); (try have bhb11 := shb1 (bc) (by go_simp)); (try have bhb12 := shb1 (bt) (by go_simp)); (try have bhb13 := shb1 (bo) (by go_simp)); (try have bhb14 := shb1 (bs) (by go_simp)))
      | (go_at_call 148; refine (l31Index_any _ _ _ gs ts cs _ _ _ (hCH.out.below RSc.stable (by exact bel_)) hVH.out _ hrH.out).mono ?_; rintro e w2 ⟨rfl, hb2⟩; obtain ⟨chb2, fhb2, shb2, thb2⟩ := bcell hb2; (try have bhb20 := shb2 (p) (by go_simp)); (try have bhb21 := shb2 (bc) (by go_simp)); (try have bhb22 := shb2 (bt) (by go_simp)); (try have bhb23 := shb2 (bo) (by go_simp)); (try have bhb24 := shb2 (bs) (by go_simp))))
    refine bodyPost_ret (v := .tuple #[.int .i64 (-1), .bool false]) (by simp only [results, Try.results112]; go_simp) rfl ?_
    exact ⟨rfl, by exact bel_⟩
  obtain rfl : r = (k : Int) := by rw [← hrH.out]; exact hp
  obtain ⟨nl4, _, t2, e2, nct, net, _⟩ := hVH.out.cell k nb hk
  obtain ⟨n0, n1, n2, ⟨NA, nn, nnc, n3, hNO⟩, _⟩ := hccH.out k nb hk
  obtain ⟨ns4, _⟩ := hVH.out.tile t2 e2 net
  obtain ⟨_, ⟨SB, sn2, sc2, t21, hSd2⟩, _⟩ := hctxH.out t2 e2 net
  rw [hNO.len] at nl4
  rw [hSd2.len] at ns4
  subst nl4 ns4
  rw [nct] at n2
  obtain ⟨bno, ono, rfl, hbno, hcno⟩ := hNO.ptr (by omega)
  obtain ⟨bns, ons, rfl, hbns, hcns⟩ := hSd2.ptr (by omega)
  obtain ⟨vN, hvN⟩ := hNO.get (opp_lt hd)
  obtain ⟨g2, hg2⟩ := hSd2.get (opp_lt hd)
  have y1 := hcno (oppN d) vN hvN
  have y2 := hcns (oppN d) g2 hg2
  unfold RBool at y1
  unfold RInt at y2
  simp only [Nat.mul_one] at y1 y2
  have hod : ((oppN d : Nat) : Int) < 4 := by have := opp_lt hd; omega
  have hkq : k < q := by rw [← hCH.out.len]; exact lt_of_get hk
  have htm2 : t2 < m := by rw [← hTL.out]; exact lt_of_get net
  have l6 : bno ≤ w.heap.size := by omega
  have l7 : bns ≤ w.heap.size := by omega
  have hB := Lib.hid (show b = (vO && (decide (g1 ≠ 0) && (vN && decide (g2 = g1)))) by rw [← hbH.out, meet_some (hnx.out.trans hn), hon.out, hgl.out, onAt_eq hvN, nct, glueC_eq net hg2])
  clear hp hn hk nct net hNO hSd2 hcno hcns hvN hg2
  
  by_cases hg : g1 = 0

  · subst hg
    obtain rfl : b = false := by rw [hB.out]; simp
    go_enter Try.func112, Try.ntmps112
    go_wp2_with (first
      | (go_at_call 87; refine (lstep_atS _ _ _ _ hd ⟨by omega, by omega⟩ ⟨by omega, by omega⟩).mono ?_; rintro e w1 ⟨rfl, hb1⟩; obtain ⟨chb1, fhb1, shb1, thb1⟩ := bcell hb1; (try have bhb10 := shb1 (p) (by go_simp)); (try have bhb11 := shb1 (bc) (by go_simp)); (try have bhb12 := shb1 (bt) (by go_simp)); (try have bhb13 := shb1 (bo) (by go_simp)); (try have bhb14 := shb1 (bs) (by go_simp)); (try have bhb15 := shb1 (bno) (by go_simp)); (try have bhb16 := shb1 (bns) (by go_simp)))
      | (go_at_call 148; refine (l31Index_any _ _ _ gs ts cs _ _ _ (hCH.out.below RSc.stable (by exact bel_)) hVH.out _ hrH.out).mono ?_; rintro e w2 ⟨rfl, hb2⟩; obtain ⟨chb2, fhb2, shb2, thb2⟩ := bcell hb2; (try have bhb20 := shb2 (p) (by go_simp)); (try have bhb21 := shb2 (bc) (by go_simp)); (try have bhb22 := shb2 (bt) (by go_simp)); (try have bhb23 := shb2 (bo) (by go_simp)); (try have bhb24 := shb2 (bs) (by go_simp)); (try have bhb25 := shb2 (bno) (by go_simp)); (try have bhb26 := shb2 (bns) (by go_simp)))
      | (go_at_call 113; refine (sOppN_any _ _ hd).mono ?_; rintro e _ ⟨rfl, rfl⟩))
    refine wp_region_ord [(0, .q), (1, .q), (2, .q), (3, .q), (4, .q), (5, .q), (6, .q), (7, .q), (8, .q), (9, .q), (10, .q), (11, .q), (12, .q), (13, .q), (14, .q), (15, .q)] (by kernel_rfl) (by kernel_rfl) ?_
    simp only [pick, List.filterMap_cons, List.filterMap_nil, List.getElem?_toArray, List.getElem?_cons_zero, List.getElem?_cons_succ, Option.map_some]
    repeat (first
      | ((with_reducible refine wpD_p (fun K hK => ?_)); go_simp; refine hK _ ?_; clear hK K)
      | ((with_reducible refine wpD_q (fun K hK => ?_)); go_simp; (first | refine hK _ ?_ | (go_bits; refine hK _ ?_) | (go_bits; go_simp; refine hK _ ?_)); clear hK K)
      | ((with_reducible refine wpD_g (fun K hK => ?_)); go_simp; refine hK _ _ ?_; clear hK K)
      | ((with_reducible refine wpD_g (fun K hK => ?_)); go_simp; refine ⟨Grew.of_alloc _, hK _ _ ?_⟩; clear hK K)
      | ((with_reducible refine wpD_g (fun K hK => ?_)); go_simp; refine ⟨Below.refl _ _, hK _ _ ?_⟩; clear hK K))
    with_reducible refine wpD_nil ?_
    go_wp2
    refine wp_region_ord [(0, .q), (1, .q), (2, .q), (3, .q), (4, .q), (5, .q), (6, .q), (7, .q), (8, .q), (9, .q), (10, .q), (11, .q), (12, .q), (13, .q), (14, .q), (15, .q), (16, .q), (17, .q), (18, .q), (19, .q), (20, .q), (21, .q), (22, .q), (23, .q), (24, .q), (25, .q), (26, .q), (27, .q), (28, .q), (29, .q), (30, .q), (31, .q), (32, .q), (33, .q), (34, .q), (35, .q), (36, .q), (37, .q), (38, .q), (39, .q), (40, .q), (41, .q), (42, .q), (43, .q)] (by kernel_rfl) (by kernel_rfl) ?_
    simp only [pick, List.filterMap_cons, List.filterMap_nil, List.getElem?_toArray, List.getElem?_cons_zero, List.getElem?_cons_succ, Option.map_some]
    repeat (first
      | ((with_reducible refine wpD_p (fun K hK => ?_)); go_simp; refine hK _ ?_; clear hK K)
      | ((with_reducible refine wpD_q (fun K hK => ?_)); go_simp; (first | refine hK _ ?_ | (go_bits; refine hK _ ?_) | (go_bits; go_simp; refine hK _ ?_)); clear hK K)
      | ((with_reducible refine wpD_g (fun K hK => ?_)); go_simp; refine hK _ _ ?_; clear hK K)
      | ((with_reducible refine wpD_g (fun K hK => ?_)); go_simp; refine ⟨Grew.of_alloc _, hK _ _ ?_⟩; clear hK K)
      | ((with_reducible refine wpD_g (fun K hK => ?_)); go_simp; refine ⟨Below.refl _ _, hK _ _ ?_⟩; clear hK K))
    with_reducible refine wpD_nil ?_
    go_wp2
    refine bodyPost_ret (v := .tuple #[.int .i64 k, .bool false]) (by simp only [results, Try.results112]; go_simp) rfl ?_
    exact ⟨rfl, by exact bel_⟩
  have hg3 : 0 < g1 := by omega
  by_cases hgg : g1 = g2
  rotate_left
  · have hgg2 : (g1 == g2) = false := by simpa using hgg
    have hgg3 := Lib.hid hgg
    clear hgg
    obtain rfl : b = false := by rw [hB.out]; simp [show ¬ g2 = g1 from fun h => hgg3.out h.symm]
    go_enter Try.func112, Try.ntmps112
    go_wp2_with (first
      | (go_at_call 87; refine (lstep_atS _ _ _ _ hd ⟨by omega, by omega⟩ ⟨by omega, by omega⟩).mono ?_; rintro e w1 ⟨rfl, hb1⟩; obtain ⟨chb1, fhb1, shb1, thb1⟩ := bcell hb1; (try have bhb10 := shb1 (p) (by go_simp)); (try have bhb11 := shb1 (bc) (by go_simp)); (try have bhb12 := shb1 (bt) (by go_simp)); (try have bhb13 := shb1 (bo) (by go_simp)); (try have bhb14 := shb1 (bs) (by go_simp)); (try have bhb15 := shb1 (bno) (by go_simp)); (try have bhb16 := shb1 (bns) (by go_simp)))
      | (go_at_call 148; refine (l31Index_any _ _ _ gs ts cs _ _ _ (hCH.out.below RSc.stable (by exact bel_)) hVH.out _ hrH.out).mono ?_; rintro e w2 ⟨rfl, hb2⟩; obtain ⟨chb2, fhb2, shb2, thb2⟩ := bcell hb2; (try have bhb20 := shb2 (p) (by go_simp)); (try have bhb21 := shb2 (bc) (by go_simp)); (try have bhb22 := shb2 (bt) (by go_simp)); (try have bhb23 := shb2 (bo) (by go_simp)); (try have bhb24 := shb2 (bs) (by go_simp)); (try have bhb25 := shb2 (bno) (by go_simp)); (try have bhb26 := shb2 (bns) (by go_simp)))
      | (go_at_call 113; refine (sOppN_any _ _ hd).mono ?_; rintro e _ ⟨rfl, rfl⟩))
    refine wp_region_ord [(0, .q), (1, .q), (2, .q), (3, .q), (4, .q), (5, .q), (6, .q), (7, .q), (8, .q), (9, .q), (10, .q), (11, .q), (12, .q), (13, .q), (14, .q), (15, .q)] (by kernel_rfl) (by kernel_rfl) ?_
    simp only [pick, List.filterMap_cons, List.filterMap_nil, List.getElem?_toArray, List.getElem?_cons_zero, List.getElem?_cons_succ, Option.map_some]
    repeat (first
      | ((with_reducible refine wpD_p (fun K hK => ?_)); go_simp; refine hK _ ?_; clear hK K)
      | ((with_reducible refine wpD_q (fun K hK => ?_)); go_simp; (first | refine hK _ ?_ | (go_bits; refine hK _ ?_) | (go_bits; go_simp; refine hK _ ?_)); clear hK K)
      | ((with_reducible refine wpD_g (fun K hK => ?_)); go_simp; refine hK _ _ ?_; clear hK K)
      | ((with_reducible refine wpD_g (fun K hK => ?_)); go_simp; refine ⟨Grew.of_alloc _, hK _ _ ?_⟩; clear hK K)
      | ((with_reducible refine wpD_g (fun K hK => ?_)); go_simp; refine ⟨Below.refl _ _, hK _ _ ?_⟩; clear hK K))
    with_reducible refine wpD_nil ?_
    go_wp2
    refine wp_region_ord [(0, .q), (1, .q), (2, .q), (3, .q), (4, .q), (5, .q), (6, .q), (7, .q), (8, .q), (9, .q), (10, .q), (11, .q), (12, .q), (13, .q), (14, .q), (15, .q), (16, .q), (17, .q), (18, .q), (19, .q), (20, .q), (21, .q), (22, .q), (23, .q), (24, .q), (25, .q), (26, .q), (27, .q), (28, .q), (29, .q), (30, .q), (31, .q), (32, .q), (33, .q), (34, .q), (35, .q), (36, .q), (37, .q), (38, .q), (39, .q), (40, .q), (41, .q), (42, .q), (43, .q)] (by kernel_rfl) (by kernel_rfl) ?_
    simp only [pick, List.filterMap_cons, List.filterMap_nil, List.getElem?_toArray, List.getElem?_cons_zero, List.getElem?_cons_succ, Option.map_some]
    repeat (first
      | ((with_reducible refine wpD_p (fun K hK => ?_)); go_simp; refine hK _ ?_; clear hK K)
      | ((with_reducible refine wpD_q (fun K hK => ?_)); go_simp; (first | refine hK _ ?_ | (go_bits; refine hK _ ?_) | (go_bits; go_simp; refine hK _ ?_)); clear hK K)
      | ((with_reducible refine wpD_g (fun K hK => ?_)); go_simp; refine hK _ _ ?_; clear hK K)
      | ((with_reducible refine wpD_g (fun K hK => ?_)); go_simp; refine ⟨Grew.of_alloc _, hK _ _ ?_⟩; clear hK K)
      | ((with_reducible refine wpD_g (fun K hK => ?_)); go_simp; refine ⟨Below.refl _ _, hK _ _ ?_⟩; clear hK K))
    with_reducible refine wpD_nil ?_
    go_wp2
    refine bodyPost_ret (v := .tuple #[.int .i64 k, .bool false]) (by simp only [results, Try.results112]; go_simp) rfl ?_
    exact ⟨rfl, by exact bel_⟩
  subst hgg
  have hgH := Lib.hid hg
  clear hg
  cases vO
  · obtain rfl : b = false := by rw [hB.out]; simp
    go_enter Try.func112, Try.ntmps112
    go_wp2_with (first
      | (go_at_call 87; refine (lstep_atS _ _ _ _ hd ⟨by omega, by omega⟩ ⟨by omega, by omega⟩).mono ?_; rintro e w1 ⟨rfl, hb1⟩; obtain ⟨chb1, fhb1, shb1, thb1⟩ := bcell hb1; (try have bhb10 := shb1 (p) (by go_simp)); (try have bhb11 := shb1 (bc) (by go_simp)); (try have bhb12 := shb1 (bt) (by go_simp)); (try have bhb13 := shb1 (bo) (by go_simp)); (try have bhb14 := shb1 (bs) (by go_simp)); (try have bhb15 := shb1 (bno) (by go_simp)); (try have bhb16 := shb1 (bns) (by go_simp)))
      | (go_at_call 148; refine (l31Index_any _ _ _ gs ts cs _ _ _ (hCH.out.below RSc.stable (by exact bel_)) hVH.out _ hrH.out).mono ?_; rintro e w2 ⟨rfl, hb2⟩; obtain ⟨chb2, fhb2, shb2, thb2⟩ := bcell hb2; (try have bhb20 := shb2 (p) (by go_simp)); (try have bhb21 := shb2 (bc) (by go_simp)); (try have bhb22 := shb2 (bt) (by go_simp)); (try have bhb23 := shb2 (bo) (by go_simp)); (try have bhb24 := shb2 (bs) (by go_simp)); (try have bhb25 := shb2 (bno) (by go_simp)); (try have bhb26 := shb2 (bns) (by go_simp)))
      | (go_at_call 113; refine (sOppN_any _ _ hd).mono ?_; rintro e _ ⟨rfl, rfl⟩))
    refine wp_region_ord [(0, .q), (1, .q), (2, .q), (3, .q), (4, .q), (5, .q), (6, .q), (7, .q), (8, .q), (9, .q), (10, .q), (11, .q), (12, .q), (13, .q), (14, .q), (15, .q)] (by kernel_rfl) (by kernel_rfl) ?_
    simp only [pick, List.filterMap_cons, List.filterMap_nil, List.getElem?_toArray, List.getElem?_cons_zero, List.getElem?_cons_succ, Option.map_some]
    repeat (first
      | ((with_reducible refine wpD_p (fun K hK => ?_)); go_simp; refine hK _ ?_; clear hK K)
      | ((with_reducible refine wpD_q (fun K hK => ?_)); go_simp; (first | refine hK _ ?_ | (go_bits; refine hK _ ?_) | (go_bits; go_simp; refine hK _ ?_)); clear hK K)
      | ((with_reducible refine wpD_g (fun K hK => ?_)); go_simp; refine hK _ _ ?_; clear hK K)
      | ((with_reducible refine wpD_g (fun K hK => ?_)); go_simp; refine ⟨Grew.of_alloc _, hK _ _ ?_⟩; clear hK K)
      | ((with_reducible refine wpD_g (fun K hK => ?_)); go_simp; refine ⟨Below.refl _ _, hK _ _ ?_⟩; clear hK K))
    with_reducible refine wpD_nil ?_
    go_wp2
    refine wp_region_ord [(0, .q), (1, .q), (2, .q), (3, .q), (4, .q), (5, .q), (6, .q), (7, .q), (8, .q), (9, .q), (10, .q), (11, .q), (12, .q), (13, .q), (14, .q), (15, .q), (16, .q), (17, .q), (18, .q), (19, .q), (20, .q), (21, .q), (22, .q), (23, .q), (24, .q), (25, .q), (26, .q), (27, .q), (28, .q), (29, .q), (30, .q), (31, .q), (32, .q), (33, .q), (34, .q), (35, .q), (36, .q), (37, .q), (38, .q), (39, .q), (40, .q), (41, .q), (42, .q), (43, .q)] (by kernel_rfl) (by kernel_rfl) ?_
    simp only [pick, List.filterMap_cons, List.filterMap_nil, List.getElem?_toArray, List.getElem?_cons_zero, List.getElem?_cons_succ, Option.map_some]
    repeat (first
      | ((with_reducible refine wpD_p (fun K hK => ?_)); go_simp; refine hK _ ?_; clear hK K)
      | ((with_reducible refine wpD_q (fun K hK => ?_)); go_simp; (first | refine hK _ ?_ | (go_bits; refine hK _ ?_) | (go_bits; go_simp; refine hK _ ?_)); clear hK K)
      | ((with_reducible refine wpD_g (fun K hK => ?_)); go_simp; refine hK _ _ ?_; clear hK K)
      | ((with_reducible refine wpD_g (fun K hK => ?_)); go_simp; refine ⟨Grew.of_alloc _, hK _ _ ?_⟩; clear hK K)
      | ((with_reducible refine wpD_g (fun K hK => ?_)); go_simp; refine ⟨Below.refl _ _, hK _ _ ?_⟩; clear hK K))
    with_reducible refine wpD_nil ?_
    go_wp2
    refine bodyPost_ret (v := .tuple #[.int .i64 k, .bool false]) (by simp only [results, Try.results112]; go_simp) rfl ?_
    exact ⟨rfl, by exact bel_⟩
  cases vN
  · obtain rfl : b = false := by rw [hB.out]; simp
    go_enter Try.func112, Try.ntmps112
    go_wp2_with (first
      | (go_at_call 87; refine (lstep_atS _ _ _ _ hd ⟨by omega, by omega⟩ ⟨by omega, by omega⟩).mono ?_; rintro e w1 ⟨rfl, hb1⟩; obtain ⟨chb1, fhb1, shb1, thb1⟩ := bcell hb1; (try have bhb10 := shb1 (p) (by go_simp)); (try have bhb11 := shb1 (bc) (by go_simp)); (try have bhb12 := shb1 (bt) (by go_simp)); (try have bhb13 := shb1 (bo) (by go_simp)); (try have bhb14 := shb1 (bs) (by go_simp)); (try have bhb15 := shb1 (bno) (by go_simp)); (try have bhb16 := shb1 (bns) (by go_simp)))
      | (go_at_call 148; refine (l31Index_any _ _ _ gs ts cs _ _ _ (hCH.out.below RSc.stable (by exact bel_)) hVH.out _ hrH.out).mono ?_; rintro e w2 ⟨rfl, hb2⟩; obtain ⟨chb2, fhb2, shb2, thb2⟩ := bcell hb2; (try have bhb20 := shb2 (p) (by go_simp)); (try have bhb21 := shb2 (bc) (by go_simp)); (try have bhb22 := shb2 (bt) (by go_simp)); (try have bhb23 := shb2 (bo) (by go_simp)); (try have bhb24 := shb2 (bs) (by go_simp)); (try have bhb25 := shb2 (bno) (by go_simp)); (try have bhb26 := shb2 (bns) (by go_simp)))
      | (go_at_call 113; refine (sOppN_any _ _ hd).mono ?_; rintro e _ ⟨rfl, rfl⟩))
    refine wp_region_ord [(0, .q), (1, .q), (2, .q), (3, .q), (4, .q), (5, .q), (6, .q), (7, .q), (8, .q), (9, .q), (10, .q), (11, .q), (12, .q), (13, .q), (14, .q), (15, .q)] (by kernel_rfl) (by kernel_rfl) ?_
    simp only [pick, List.filterMap_cons, List.filterMap_nil, List.getElem?_toArray, List.getElem?_cons_zero, List.getElem?_cons_succ, Option.map_some]
    repeat (first
      | ((with_reducible refine wpD_p (fun K hK => ?_)); go_simp; refine hK _ ?_; clear hK K)
      | ((with_reducible refine wpD_q (fun K hK => ?_)); go_simp; (first | refine hK _ ?_ | (go_bits; refine hK _ ?_) | (go_bits; go_simp; refine hK _ ?_)); clear hK K)
      | ((with_reducible refine wpD_g (fun K hK => ?_)); go_simp; refine hK _ _ ?_; clear hK K)
      | ((with_reducible refine wpD_g (fun K hK => ?_)); go_simp; refine ⟨Grew.of_alloc _, hK _ _ ?_⟩; clear hK K)
      | ((with_reducible refine wpD_g (fun K hK => ?_)); go_simp; refine ⟨Below.refl _ _, hK _ _ ?_⟩; clear hK K))
    with_reducible refine wpD_nil ?_
    go_wp2
    refine wp_region_ord [(0, .q), (1, .q), (2, .q), (3, .q), (4, .q), (5, .q), (6, .q), (7, .q), (8, .q), (9, .q), (10, .q), (11, .q), (12, .q), (13, .q), (14, .q), (15, .q), (16, .q), (17, .q), (18, .q), (19, .q), (20, .q), (21, .q), (22, .q), (23, .q), (24, .q), (25, .q), (26, .q), (27, .q), (28, .q), (29, .q), (30, .q), (31, .q), (32, .q), (33, .q), (34, .q), (35, .q), (36, .q), (37, .q), (38, .q), (39, .q), (40, .q), (41, .q), (42, .q), (43, .q)] (by kernel_rfl) (by kernel_rfl) ?_
    simp only [pick, List.filterMap_cons, List.filterMap_nil, List.getElem?_toArray, List.getElem?_cons_zero, List.getElem?_cons_succ, Option.map_some]
    repeat (first
      | ((with_reducible refine wpD_p (fun K hK => ?_)); go_simp; refine hK _ ?_; clear hK K)
      | ((with_reducible refine wpD_q (fun K hK => ?_)); go_simp; (first | refine hK _ ?_ | (go_bits; refine hK _ ?_) | (go_bits; go_simp; refine hK _ ?_)); clear hK K)
      | ((with_reducible refine wpD_g (fun K hK => ?_)); go_simp; refine hK _ _ ?_; clear hK K)
      | ((with_reducible refine wpD_g (fun K hK => ?_)); go_simp; refine ⟨Grew.of_alloc _, hK _ _ ?_⟩; clear hK K)
      | ((with_reducible refine wpD_g (fun K hK => ?_)); go_simp; refine ⟨Below.refl _ _, hK _ _ ?_⟩; clear hK K))
    with_reducible refine wpD_nil ?_
    go_wp2
    refine bodyPost_ret (v := .tuple #[.int .i64 k, .bool false]) (by simp only [results, Try.results112]; go_simp) rfl ?_
    exact ⟨rfl, by exact bel_⟩
  obtain rfl : b = true := by rw [hB.out]; rw [decide_eq_true hgH.out]; simp
  go_enter Try.func112, Try.ntmps112
  go_wp2_with (first
    | (go_at_call 87; refine (lstep_atS _ _ _ _ hd ⟨by omega, by omega⟩ ⟨by omega, by omega⟩).mono ?_; rintro e w1 ⟨rfl, hb1⟩; obtain ⟨chb1, fhb1, shb1, thb1⟩ := bcell hb1; (try have bhb10 := shb1 (p) (by go_simp)); (try have bhb11 := shb1 (bc) (by go_simp)); (try have bhb12 := shb1 (bt) (by go_simp)); (try have bhb13 := shb1 (bo) (by go_simp)); (try have bhb14 := shb1 (bs) (by go_simp)); (try have bhb15 := shb1 (bno) (by go_simp)); (try have bhb16 := shb1 (bns) (by go_simp)))
    | (go_at_call 148; refine (l31Index_any _ _ _ gs ts cs _ _ _ (hCH.out.below RSc.stable (by exact bel_)) hVH.out _ hrH.out).mono ?_; rintro e w2 ⟨rfl, hb2⟩; obtain ⟨chb2, fhb2, shb2, thb2⟩ := bcell hb2; (try have bhb20 := shb2 (p) (by go_simp)); (try have bhb21 := shb2 (bc) (by go_simp)); (try have bhb22 := shb2 (bt) (by go_simp)); (try have bhb23 := shb2 (bo) (by go_simp)); (try have bhb24 := shb2 (bs) (by go_simp)); (try have bhb25 := shb2 (bno) (by go_simp)); (try have bhb26 := shb2 (bns) (by go_simp)))
    | (go_at_call 113; refine (sOppN_any _ _ hd).mono ?_; rintro e _ ⟨rfl, rfl⟩))
  refine wp_region_ord [(0, .q), (1, .q), (2, .q), (3, .q), (4, .q), (5, .q), (6, .q), (7, .q), (8, .q), (9, .q), (10, .q), (11, .q), (12, .q), (13, .q), (14, .q), (15, .q)] (by kernel_rfl) (by kernel_rfl) ?_
  simp only [pick, List.filterMap_cons, List.filterMap_nil, List.getElem?_toArray, List.getElem?_cons_zero, List.getElem?_cons_succ, Option.map_some]
  repeat (first
    | ((with_reducible refine wpD_p (fun K hK => ?_)); go_simp; refine hK _ ?_; clear hK K)
    | ((with_reducible refine wpD_q (fun K hK => ?_)); go_simp; (first | refine hK _ ?_ | (go_bits; refine hK _ ?_) | (go_bits; go_simp; refine hK _ ?_)); clear hK K)
    | ((with_reducible refine wpD_g (fun K hK => ?_)); go_simp; refine hK _ _ ?_; clear hK K)
    | ((with_reducible refine wpD_g (fun K hK => ?_)); go_simp; refine ⟨Grew.of_alloc _, hK _ _ ?_⟩; clear hK K)
    | ((with_reducible refine wpD_g (fun K hK => ?_)); go_simp; refine ⟨Below.refl _ _, hK _ _ ?_⟩; clear hK K))
  with_reducible refine wpD_nil ?_
  go_wp2
  refine wp_region_ord [(0, .q), (1, .q), (2, .q), (3, .q), (4, .q), (5, .q), (6, .q), (7, .q), (8, .q), (9, .q), (10, .q), (11, .q), (12, .q), (13, .q), (14, .q), (15, .q), (16, .q), (17, .q), (18, .q), (19, .q), (20, .q), (21, .q), (22, .q), (23, .q), (24, .q), (25, .q), (26, .q), (27, .q), (28, .q), (29, .q), (30, .q), (31, .q), (32, .q), (33, .q), (34, .q), (35, .q), (36, .q), (37, .q), (38, .q), (39, .q), (40, .q), (41, .q), (42, .q), (43, .q)] (by kernel_rfl) (by kernel_rfl) ?_
  simp only [pick, List.filterMap_cons, List.filterMap_nil, List.getElem?_toArray, List.getElem?_cons_zero, List.getElem?_cons_succ, Option.map_some]
  repeat (first
    | ((with_reducible refine wpD_p (fun K hK => ?_)); go_simp; refine hK _ ?_; clear hK K)
    | ((with_reducible refine wpD_q (fun K hK => ?_)); go_simp; (first | refine hK _ ?_ | (go_bits; refine hK _ ?_) | (go_bits; go_simp; refine hK _ ?_)); clear hK K)
    | ((with_reducible refine wpD_g (fun K hK => ?_)); go_simp; refine hK _ _ ?_; clear hK K)
    | ((with_reducible refine wpD_g (fun K hK => ?_)); go_simp; refine ⟨Grew.of_alloc _, hK _ _ ?_⟩; clear hK K)
    | ((with_reducible refine wpD_g (fun K hK => ?_)); go_simp; refine ⟨Below.refl _ _, hK _ _ ?_⟩; clear hK K))
  with_reducible refine wpD_nil ?_
  go_wp2
  refine bodyPost_ret (v := .tuple #[.int .i64 k, .bool true]) (by simp only [results, Try.results112]; go_simp) rfl ?_
  exact ⟨rfl, by exact bel_⟩
set_option maxRecDepth 100000 in
set_option maxHeartbeats 4000000 in
theorem l31Lists_any (p bx ox : Nat) (gs : List Gl) (ts : List Sti) (c : Sc) (w : World) (hS : SgAt w p gs ts) (hm : ts.length ≤ 1073741824) (hx : RSc w bx ox c) (hbx : bx < w.heap.size) (b : Bool) (hb : formB ts c = b) :
    Calls Try.prog 61 #[.pointer (some ⟨p, 0, none⟩), .pointer (some ⟨bx, ox, none⟩)] w fun e w' => e = .returned (.bool b) ∧ Below w.heap.size w w' := by
  obtain ⟨lp, _, ⟨TT, m, ct, pt, hT⟩⟩ := hS
  obtain ⟨c0, c1, c2, ⟨O, on, oc, c3, hO⟩, ⟨B, bn, bc, c4, hBd⟩, ⟨F, fn, fc, c5, hF⟩⟩ := hx
  have hl := hT.len
  rw [hl] at hm
  have hB := Lib.hid (show b = (validPt c.x c.y && (inB c.t 0 ((m : Int) - 1) && (decide (on = 4) && (decide (bn = 4) && decide (fn = firesN ts c.t))))) by rw [← hb, ← hO.len, ← hBd.len, ← hF.len, ← hl]; rfl)
  have hTH := Lib.hid hT
  have l1 : p ≤ w.heap.size := by omega
  have l2 : bx ≤ w.heap.size := by omega
  clear hb hT hO hBd hF hl
  obtain ⟨cx, hcx⟩ : ∃ cx, c.x = cx := ⟨_, rfl⟩
  obtain ⟨cy, hcy⟩ : ∃ cy, c.y = cy := ⟨_, rfl⟩
  obtain ⟨cz, hcz⟩ : ∃ cz, c.t = cz := ⟨_, rfl⟩
  rw [hcx, hcy, hcz] at hB
  rw [hcx] at c0
  rw [hcy] at c1
  rw [hcz] at c2
  clear hcx hcy hcz
  have hwm : IntKind.i64.wrap ((m : Int) - 1) = (m : Int) - 1 := wrap_inS (by omega) (by omega)
  
  cases hv1 : validPt cx cy
  · have hv1H := Lib.hid hv1
    have hv2H : Hid (inB cz 0 ((m : Int) - 1) = inB cz 0 ((m : Int) - 1)) := Lib.hid rfl
    clear hv1
    have hr := Lib.hid (show b = false by rw [hB.out]; rw [hv1H.out]; rfl)
    go_enter Try.func61, Try.ntmps61
    go_wp2
    refine wp_region_ord [(0, .q), (1, .q), (2, .q), (3, .q), (4, .g), (5, .q), (6, .q), (7, .q), (8, .q), (9, .q), (10, .q), (11, .q), (12, .q), (13, .q), (14, .q), (15, .q), (16, .g), (17, .q), (18, .q), (19, .q), (20, .q), (21, .q), (22, .q), (23, .q), (24, .q), (25, .q), (26, .q), (27, .q), (28, .q), (29, .q), (30, .q), (31, .q), (32, .q), (33, .q), (34, .q), (35, .q), (36, .q), (37, .q), (38, .q), (39, .q), (40, .q), (41, .q), (42, .q), (43, .q), (44, .q), (45, .q), (46, .q), (47, .q), (48, .q), (49, .q), (50, .q), (51, .q), (52, .q), (53, .q), (54, .q)] (by kernel_rfl) (by kernel_rfl) ?_
    simp only [pick, List.filterMap_cons, List.filterMap_nil, List.getElem?_toArray, List.getElem?_cons_zero, List.getElem?_cons_succ, Option.map_some]
    repeat (first
      | ((with_reducible refine wpD_p (fun K hK => ?_)); go_simp; refine hK _ ?_; clear hK K)
      | ((with_reducible refine wpD_q (fun K hK => ?_)); go_simp; (first | refine hK _ ?_ | (go_bits; refine hK _ ?_) | (go_bits; go_simp; refine hK _ ?_)); clear hK K)
      | ((with_reducible refine wpD_g (fun K hK => ?_)); go_simp; refine hK _ _ ?_; clear hK K)
      | ((with_reducible refine wpD_g (fun K hK => ?_)); go_simp; refine ⟨Grew.of_alloc _, hK _ _ ?_⟩; clear hK K)
      | ((with_reducible refine wpD_g (fun K hK => ?_)); go_simp; refine ⟨Below.refl _ _, hK _ _ ?_⟩; clear hK K)
      | ((with_reducible refine wpD_g (fun K hK => ?_)); go_simp; go_at_call 111; refine (lp_atS hv1H.out).mono ?_; rintro e w1 ⟨rfl, hb1⟩; refine ⟨_, rfl, hb1, hK _ _ ?_⟩; clear hK K; obtain ⟨chb1, fhb1, shb1, thb1⟩ := bcell hb1; (try have bhb10 := shb1 (p) (by go_simp)); (try have bhb11 := shb1 (bx) (by go_simp)); (replace chb1 : ∀ (b o : Nat), b < w.heap.size → w1.cell? ⟨b, o, none⟩ = w.cell? ⟨b, o, none⟩ := chb1))
      | ((with_reducible refine wpD_g (fun K hK => ?_)); go_simp; go_at_call 110; refine (inS_at hv2H.out).mono ?_; rintro e _ ⟨rfl, rfl⟩; refine ⟨_, rfl, Below.refl _ _, hK _ _ ?_⟩; clear hK K))
    with_reducible refine wpD_nil ?_
    go_wp2
    go_ret
    exact ⟨ret_bool hr.out.symm, by exact bel_⟩
  have hv1H := Lib.hid hv1
  clear hv1
  cases hv2 : inB cz 0 ((m : Int) - 1)
  · have hv2H := Lib.hid hv2
    clear hv2
    have hr := Lib.hid (show b = false by rw [hB.out]; rw [hv2H.out]; simp)
    go_enter Try.func61, Try.ntmps61
    go_wp2
    refine wp_region_ord [(0, .q), (1, .q), (2, .q), (3, .q), (4, .g), (5, .q), (6, .q), (7, .q), (8, .q), (9, .q), (10, .q), (11, .q), (12, .q), (13, .q), (14, .q), (15, .q), (16, .g), (17, .q), (18, .q), (19, .q), (20, .q), (21, .q), (22, .q), (23, .q), (24, .q), (25, .q), (26, .q), (27, .q), (28, .q), (29, .q), (30, .q), (31, .q), (32, .q), (33, .q), (34, .q), (35, .q), (36, .q), (37, .q), (38, .q), (39, .q), (40, .q), (41, .q), (42, .q), (43, .q), (44, .q), (45, .q), (46, .q), (47, .q), (48, .q), (49, .q), (50, .q), (51, .q), (52, .q), (53, .q), (54, .q)] (by kernel_rfl) (by kernel_rfl) ?_
    simp only [pick, List.filterMap_cons, List.filterMap_nil, List.getElem?_toArray, List.getElem?_cons_zero, List.getElem?_cons_succ, Option.map_some]
    repeat (first
      | ((with_reducible refine wpD_p (fun K hK => ?_)); go_simp; refine hK _ ?_; clear hK K)
      | ((with_reducible refine wpD_q (fun K hK => ?_)); go_simp; (first | refine hK _ ?_ | (go_bits; refine hK _ ?_) | (go_bits; go_simp; refine hK _ ?_)); clear hK K)
      | ((with_reducible refine wpD_g (fun K hK => ?_)); go_simp; refine hK _ _ ?_; clear hK K)
      | ((with_reducible refine wpD_g (fun K hK => ?_)); go_simp; refine ⟨Grew.of_alloc _, hK _ _ ?_⟩; clear hK K)
      | ((with_reducible refine wpD_g (fun K hK => ?_)); go_simp; refine ⟨Below.refl _ _, hK _ _ ?_⟩; clear hK K)
      | ((with_reducible refine wpD_g (fun K hK => ?_)); go_simp; go_at_call 111; refine (lp_atS hv1H.out).mono ?_; rintro e w1 ⟨rfl, hb1⟩; refine ⟨_, rfl, hb1, hK _ _ ?_⟩; clear hK K; obtain ⟨chb1, fhb1, shb1, thb1⟩ := bcell hb1; (try have bhb10 := shb1 (p) (by go_simp)); (try have bhb11 := shb1 (bx) (by go_simp)); (replace chb1 : ∀ (b o : Nat), b < w.heap.size → w1.cell? ⟨b, o, none⟩ = w.cell? ⟨b, o, none⟩ := chb1))
      | ((with_reducible refine wpD_g (fun K hK => ?_)); go_simp; go_at_call 110; refine (inS_at hv2H.out).mono ?_; rintro e _ ⟨rfl, rfl⟩; refine ⟨_, rfl, Below.refl _ _, hK _ _ ?_⟩; clear hK K))
    with_reducible refine wpD_nil ?_
    go_wp2
    go_ret
    exact ⟨ret_bool hr.out.symm, by exact bel_⟩
  have hv2H := Lib.hid hv2
  clear hv2
  obtain ⟨t, rfl, htm⟩ : ∃ t : Nat, cz = t ∧ t < m := ⟨cz.toNat, by have := inB_true.1 hv2H.out; omega, by have := inB_true.1 hv2H.out; omega⟩
  obtain ⟨bt, ot, rfl, hbt, hct⟩ := hTH.out.ptr (by omega)
  obtain ⟨e, he⟩ := hTH.out.get htm
  obtain ⟨_, _, _, ⟨FA, fe, fec, k3, hFA⟩⟩ := hct t e he
  have hfe := Lib.hid (show firesN ts t = fe by rw [firesN_eq he, hFA.len])
  have l3 : bt ≤ w.heap.size := by omega
  clear hct he hFA
  
  by_cases h4 : on = 4
  rotate_left
  · have h4b : ((on : Int) == 4) = false := by simp; omega
    have hr := Lib.hid (show b = false by rw [hB.out]; rw [decide_eq_false h4]; simp)
    go_enter Try.func61, Try.ntmps61
    go_wp2
    refine wp_region_ord [(0, .q), (1, .q), (2, .q), (3, .q), (4, .g), (5, .q), (6, .q), (7, .q), (8, .q), (9, .q), (10, .q), (11, .q), (12, .q), (13, .q), (14, .q), (15, .q), (16, .g), (17, .q), (18, .q), (19, .q), (20, .q), (21, .q), (22, .q), (23, .q), (24, .q), (25, .q), (26, .q), (27, .q), (28, .q), (29, .q), (30, .q), (31, .q), (32, .q), (33, .q), (34, .q), (35, .q), (36, .q), (37, .q), (38, .q), (39, .q), (40, .q), (41, .q), (42, .q), (43, .q), (44, .q), (45, .q), (46, .q), (47, .q), (48, .q), (49, .q), (50, .q), (51, .q), (52, .q), (53, .q), (54, .q)] (by kernel_rfl) (by kernel_rfl) ?_
    simp only [pick, List.filterMap_cons, List.filterMap_nil, List.getElem?_toArray, List.getElem?_cons_zero, List.getElem?_cons_succ, Option.map_some]
    repeat (first
      | ((with_reducible refine wpD_p (fun K hK => ?_)); go_simp; refine hK _ ?_; clear hK K)
      | ((with_reducible refine wpD_q (fun K hK => ?_)); go_simp; (first | refine hK _ ?_ | (go_bits; refine hK _ ?_) | (go_bits; go_simp; refine hK _ ?_)); clear hK K)
      | ((with_reducible refine wpD_g (fun K hK => ?_)); go_simp; refine hK _ _ ?_; clear hK K)
      | ((with_reducible refine wpD_g (fun K hK => ?_)); go_simp; refine ⟨Grew.of_alloc _, hK _ _ ?_⟩; clear hK K)
      | ((with_reducible refine wpD_g (fun K hK => ?_)); go_simp; refine ⟨Below.refl _ _, hK _ _ ?_⟩; clear hK K)
      | ((with_reducible refine wpD_g (fun K hK => ?_)); go_simp; go_at_call 111; refine (lp_atS hv1H.out).mono ?_; rintro e w1 ⟨rfl, hb1⟩; refine ⟨_, rfl, hb1, hK _ _ ?_⟩; clear hK K; obtain ⟨chb1, fhb1, shb1, thb1⟩ := bcell hb1; (try have bhb10 := shb1 (p) (by go_simp)); (try have bhb11 := shb1 (bx) (by go_simp)); (try have bhb12 := shb1 (bt) (by go_simp)); (replace chb1 : ∀ (b o : Nat), b < w.heap.size → w1.cell? ⟨b, o, none⟩ = w.cell? ⟨b, o, none⟩ := chb1))
      | ((with_reducible refine wpD_g (fun K hK => ?_)); go_simp; go_at_call 110; refine (inS_at hv2H.out).mono ?_; rintro e _ ⟨rfl, rfl⟩; refine ⟨_, rfl, Below.refl _ _, hK _ _ ?_⟩; clear hK K))
    with_reducible refine wpD_nil ?_
    go_wp2
    go_ret
    exact ⟨ret_bool hr.out.symm, by exact bel_⟩
  subst h4
  by_cases h5 : bn = 4
  rotate_left
  · have h5b : ((bn : Int) == 4) = false := by simp; omega
    have hr := Lib.hid (show b = false by rw [hB.out]; rw [decide_eq_false h5]; simp)
    go_enter Try.func61, Try.ntmps61
    go_wp2
    refine wp_region_ord [(0, .q), (1, .q), (2, .q), (3, .q), (4, .g), (5, .q), (6, .q), (7, .q), (8, .q), (9, .q), (10, .q), (11, .q), (12, .q), (13, .q), (14, .q), (15, .q), (16, .g), (17, .q), (18, .q), (19, .q), (20, .q), (21, .q), (22, .q), (23, .q), (24, .q), (25, .q), (26, .q), (27, .q), (28, .q), (29, .q), (30, .q), (31, .q), (32, .q), (33, .q), (34, .q), (35, .q), (36, .q), (37, .q), (38, .q), (39, .q), (40, .q), (41, .q), (42, .q), (43, .q), (44, .q), (45, .q), (46, .q), (47, .q), (48, .q), (49, .q), (50, .q), (51, .q), (52, .q), (53, .q), (54, .q)] (by kernel_rfl) (by kernel_rfl) ?_
    simp only [pick, List.filterMap_cons, List.filterMap_nil, List.getElem?_toArray, List.getElem?_cons_zero, List.getElem?_cons_succ, Option.map_some]
    repeat (first
      | ((with_reducible refine wpD_p (fun K hK => ?_)); go_simp; refine hK _ ?_; clear hK K)
      | ((with_reducible refine wpD_q (fun K hK => ?_)); go_simp; (first | refine hK _ ?_ | (go_bits; refine hK _ ?_) | (go_bits; go_simp; refine hK _ ?_)); clear hK K)
      | ((with_reducible refine wpD_g (fun K hK => ?_)); go_simp; refine hK _ _ ?_; clear hK K)
      | ((with_reducible refine wpD_g (fun K hK => ?_)); go_simp; refine ⟨Grew.of_alloc _, hK _ _ ?_⟩; clear hK K)
      | ((with_reducible refine wpD_g (fun K hK => ?_)); go_simp; refine ⟨Below.refl _ _, hK _ _ ?_⟩; clear hK K)
      | ((with_reducible refine wpD_g (fun K hK => ?_)); go_simp; go_at_call 111; refine (lp_atS hv1H.out).mono ?_; rintro e w1 ⟨rfl, hb1⟩; refine ⟨_, rfl, hb1, hK _ _ ?_⟩; clear hK K; obtain ⟨chb1, fhb1, shb1, thb1⟩ := bcell hb1; (try have bhb10 := shb1 (p) (by go_simp)); (try have bhb11 := shb1 (bx) (by go_simp)); (try have bhb12 := shb1 (bt) (by go_simp)); (replace chb1 : ∀ (b o : Nat), b < w.heap.size → w1.cell? ⟨b, o, none⟩ = w.cell? ⟨b, o, none⟩ := chb1))
      | ((with_reducible refine wpD_g (fun K hK => ?_)); go_simp; go_at_call 110; refine (inS_at hv2H.out).mono ?_; rintro e _ ⟨rfl, rfl⟩; refine ⟨_, rfl, Below.refl _ _, hK _ _ ?_⟩; clear hK K))
    with_reducible refine wpD_nil ?_
    go_wp2
    go_ret
    exact ⟨ret_bool hr.out.symm, by exact bel_⟩
  subst h5
  by_cases h6 : fn = fe
  rotate_left
  · have h6b : ((fn : Int) == (fe : Int)) = false := by simp; omega
    have hr := Lib.hid (show b = false by rw [hB.out]; rw [hfe.out, decide_eq_false h6]; simp)
    go_enter Try.func61, Try.ntmps61
    go_wp2
    refine wp_region_ord [(0, .q), (1, .q), (2, .q), (3, .q), (4, .g), (5, .q), (6, .q), (7, .q), (8, .q), (9, .q), (10, .q), (11, .q), (12, .q), (13, .q), (14, .q), (15, .q), (16, .g), (17, .q), (18, .q), (19, .q), (20, .q), (21, .q), (22, .q), (23, .q), (24, .q), (25, .q), (26, .q), (27, .q), (28, .q), (29, .q), (30, .q), (31, .q), (32, .q), (33, .q), (34, .q), (35, .q), (36, .q), (37, .q), (38, .q), (39, .q), (40, .q), (41, .q), (42, .q), (43, .q), (44, .q), (45, .q), (46, .q), (47, .q), (48, .q), (49, .q), (50, .q), (51, .q), (52, .q), (53, .q), (54, .q)] (by kernel_rfl) (by kernel_rfl) ?_
    simp only [pick, List.filterMap_cons, List.filterMap_nil, List.getElem?_toArray, List.getElem?_cons_zero, List.getElem?_cons_succ, Option.map_some]
    repeat (first
      | ((with_reducible refine wpD_p (fun K hK => ?_)); go_simp; refine hK _ ?_; clear hK K)
      | ((with_reducible refine wpD_q (fun K hK => ?_)); go_simp; (first | refine hK _ ?_ | (go_bits; refine hK _ ?_) | (go_bits; go_simp; refine hK _ ?_)); clear hK K)
      | ((with_reducible refine wpD_g (fun K hK => ?_)); go_simp; refine hK _ _ ?_; clear hK K)
      | ((with_reducible refine wpD_g (fun K hK => ?_)); go_simp; refine ⟨Grew.of_alloc _, hK _ _ ?_⟩; clear hK K)
      | ((with_reducible refine wpD_g (fun K hK => ?_)); go_simp; refine ⟨Below.refl _ _, hK _ _ ?_⟩; clear hK K)
      | ((with_reducible refine wpD_g (fun K hK => ?_)); go_simp; go_at_call 111; refine (lp_atS hv1H.out).mono ?_; rintro e w1 ⟨rfl, hb1⟩; refine ⟨_, rfl, hb1, hK _ _ ?_⟩; clear hK K; obtain ⟨chb1, fhb1, shb1, thb1⟩ := bcell hb1; (try have bhb10 := shb1 (p) (by go_simp)); (try have bhb11 := shb1 (bx) (by go_simp)); (try have bhb12 := shb1 (bt) (by go_simp)); (replace chb1 : ∀ (b o : Nat), b < w.heap.size → w1.cell? ⟨b, o, none⟩ = w.cell? ⟨b, o, none⟩ := chb1))
      | ((with_reducible refine wpD_g (fun K hK => ?_)); go_simp; go_at_call 110; refine (inS_at hv2H.out).mono ?_; rintro e _ ⟨rfl, rfl⟩; refine ⟨_, rfl, Below.refl _ _, hK _ _ ?_⟩; clear hK K))
    with_reducible refine wpD_nil ?_
    go_wp2
    go_ret
    exact ⟨ret_bool hr.out.symm, by exact bel_⟩
  subst h6
  have hr := Lib.hid (show b = true by rw [hB.out]; rw [hfe.out, hv1H.out, hv2H.out]; simp)
  go_enter Try.func61, Try.ntmps61
  go_wp2
  refine wp_region_ord [(0, .q), (1, .q), (2, .q), (3, .q), (4, .g), (5, .q), (6, .q), (7, .q), (8, .q), (9, .q), (10, .q), (11, .q), (12, .q), (13, .q), (14, .q), (15, .q), (16, .g), (17, .q), (18, .q), (19, .q), (20, .q), (21, .q), (22, .q), (23, .q), (24, .q), (25, .q), (26, .q), (27, .q), (28, .q), (29, .q), (30, .q), (31, .q), (32, .q), (33, .q), (34, .q), (35, .q), (36, .q), (37, .q), (38, .q), (39, .q), (40, .q), (41, .q), (42, .q), (43, .q), (44, .q), (45, .q), (46, .q), (47, .q), (48, .q), (49, .q), (50, .q), (51, .q), (52, .q), (53, .q), (54, .q)] (by kernel_rfl) (by kernel_rfl) ?_
  simp only [pick, List.filterMap_cons, List.filterMap_nil, List.getElem?_toArray, List.getElem?_cons_zero, List.getElem?_cons_succ, Option.map_some]
  repeat (first
    | ((with_reducible refine wpD_p (fun K hK => ?_)); go_simp; refine hK _ ?_; clear hK K)
    | ((with_reducible refine wpD_q (fun K hK => ?_)); go_simp; (first | refine hK _ ?_ | (go_bits; refine hK _ ?_) | (go_bits; go_simp; refine hK _ ?_)); clear hK K)
    | ((with_reducible refine wpD_g (fun K hK => ?_)); go_simp; refine hK _ _ ?_; clear hK K)
    | ((with_reducible refine wpD_g (fun K hK => ?_)); go_simp; refine ⟨Grew.of_alloc _, hK _ _ ?_⟩; clear hK K)
    | ((with_reducible refine wpD_g (fun K hK => ?_)); go_simp; refine ⟨Below.refl _ _, hK _ _ ?_⟩; clear hK K)
    | ((with_reducible refine wpD_g (fun K hK => ?_)); go_simp; go_at_call 111; refine (lp_atS hv1H.out).mono ?_; rintro e w1 ⟨rfl, hb1⟩; refine ⟨_, rfl, hb1, hK _ _ ?_⟩; clear hK K; obtain ⟨chb1, fhb1, shb1, thb1⟩ := bcell hb1; (try have bhb10 := shb1 (p) (by go_simp)); (try have bhb11 := shb1 (bx) (by go_simp)); (try have bhb12 := shb1 (bt) (by go_simp)); (replace chb1 : ∀ (b o : Nat), b < w.heap.size → w1.cell? ⟨b, o, none⟩ = w.cell? ⟨b, o, none⟩ := chb1))
    | ((with_reducible refine wpD_g (fun K hK => ?_)); go_simp; go_at_call 110; refine (inS_at hv2H.out).mono ?_; rintro e _ ⟨rfl, rfl⟩; refine ⟨_, rfl, Below.refl _ _, hK _ _ ?_⟩; clear hK K))
  with_reducible refine wpD_nil ?_
  go_wp2
  go_ret
  exact ⟨ret_bool hr.out.symm, by exact bel_⟩
end Go.Proofs.Ytbipnnjkddffbaa
