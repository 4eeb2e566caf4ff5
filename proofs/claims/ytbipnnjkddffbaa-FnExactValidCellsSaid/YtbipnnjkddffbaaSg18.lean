/- Walks: the reference's state of a signal cell and its check of signal cells (printed by gen_sg18.py). -/
import Derived.Test.YtbipnnjkddffbaaSg17
import Derived.Test.YtbipnnjkddffbaaSg13
namespace Go.Proofs.Ytbipnnjkddffbaa
open Go.RowKit Go.Shelf
set_option linter.unusedSimpArgs false
set_option linter.unusedVariables false
attribute [local go_sem] BelowBy.cell BelowBy.cell_drew stillUpon givesUpon BelowBy.cell_drewS2 BelowBy.cell_drewS3

set_option maxRecDepth 100000 in
set_option maxHeartbeats 8000000 in
theorem l31Cell_any (p : Nat) (C : Option Addr) (q cc : Nat) (gs : List Gl) (ts : List Sti) (cs : List Sc) (c : Sc) (i : Nat) (w : World) (hS : SgAt w p gs ts) (hC : RdSl 6 RSc w C q cs) (hV : CellsV gs ts cs) (hi : cs[i]? = some c) (b : Bool) (hb : cellB ts cs c = b) :
    Calls Try.prog 63 #[.pointer (some ⟨p, 0, none⟩), .slice C q cc, .int .i64 i] w fun e w' => e = .returned (.bool b) ∧ Below w.heap.size w w' := by
  obtain ⟨hl4, hb4, t, e, hct, het, hfn⟩ := hV.cell i c hi
  obtain ⟨_, o4, f6, hfi⟩ := hV.tile t e het
  obtain ⟨lp, _, ⟨TT, m, ct, pt, hT⟩⟩ := id hS
  have hTc := Lib.hid (tileC_eq hct het)
  have htm : t < m := by rw [← hT.len]; exact lt_of_get het
  have hiq : i < q := by rw [← hC.len]; exact lt_of_get hi
  obtain ⟨bc, oc, rfl, hbc, hcc⟩ := hC.ptr (by omega)
  obtain ⟨c0, c1, c2, ⟨O, on, onc, c3, hO⟩, ⟨B, bn, bnc, c4, hBd⟩, ⟨F, fn, fnc, c5, hF⟩⟩ := hcc i c hi
  rw [hO.len] at hl4
  rw [hBd.len] at hb4
  rw [hF.len] at hfn
  subst hl4 hb4
  rw [hct] at c2
  obtain ⟨bt, ot, rfl, hbt, hctx⟩ := hT.ptr (by omega)
  obtain ⟨_, _, ⟨TO, tn, tnc, t2, hTO⟩, ⟨FA, fe, fec, t3, hFA⟩⟩ := hctx t e het
  rw [hTO.len] at o4
  rw [hFA.len] at f6 hfn
  subst o4 hfn
  have hfeL := Lib.hid hFA.len
  have hfiH := Lib.hid hfi
  have hSH := Lib.hid hS
  have hCH := Lib.hid hC
  have hVH := Lib.hid hV
  have hiH := Lib.hid hi
  have hbH := Lib.hid hb
  have hOH := Lib.hid hO
  have hBH := Lib.hid hBd
  have hFH := Lib.hid hF
  have hTOH := Lib.hid hTO
  have hFAH := Lib.hid hFA
  have hccH := Lib.hid hcc
  have hp := Lib.hid pt
  have k2 := Lib.hid c2
  have k3 := Lib.hid c3
  have k4 := Lib.hid c4
  have k5 := Lib.hid c5
  have u2 := Lib.hid t2
  have u3 := Lib.hid t3
  have l1 : p ≤ w.heap.size := by omega
  have l2 : bc ≤ w.heap.size := by omega
  have l3 : bt ≤ w.heap.size := by omega
  clear hS hC hV hi hb hO hBd hF hTO hFA hcc hctx hfi c0 c1 hct het hT c3 c4 c5 t2 t3
  go_enter Try.func63, Try.ntmps63
  go_wp2
  refine wp_region_ord [(0, .q), (1, .q), (2, .q), (3, .q), (4, .q), (5, .q), (6, .q), (7, .q), (8, .q), (9, .q)] (by kernel_rfl) (by kernel_rfl) ?_
  simp only [pick, List.filterMap_cons, List.filterMap_nil, List.getElem?_toArray, List.getElem?_cons_zero, List.getElem?_cons_succ, Option.map_some]
  repeat (first
    | ((with_reducible refine wpD_p (fun K hK => ?_)); go_simp; refine hK _ ?_; clear hK K)
    | ((with_reducible refine wpD_q (fun K hK => ?_)); go_simp; (first | refine hK _ ?_ | (go_bits; refine hK _ ?_) | (go_bits; go_simp; refine hK _ ?_)); clear hK K)
    | ((with_reducible refine wpD_g (fun K hK => ?_)); go_simp; refine hK _ _ ?_; clear hK K)
    | ((with_reducible refine wpD_g (fun K hK => ?_)); go_simp; refine ⟨Grew.of_alloc _, hK _ _ ?_⟩; clear hK K)
    | ((with_reducible refine wpD_g (fun K hK => ?_)); go_simp; refine ⟨Below.refl _ _, hK _ _ ?_⟩; clear hK K))
  with_reducible refine wpD_nil ?_
  go_wp2
  go_loopg [9] 4 (fun r x wr => ∃ d : Nat, d + r = 4 ∧ x = .int .i64 (d : Int) ∧ Hid (∀ j, j < d → dirC ts cs e c j = true) ∧ Hid (Below w.heap.size w wr))
  case atStart => exact ⟨0, by omega, rfl, Lib.hid (fun j hj => by omega), Lib.hid (by exact bel_)⟩
  case round =>
    obtain ⟨d, hd, rfl, hok, hbw⟩ := hrel
    have z1 := (hbw.out.cell (p := ⟨p, 1, none⟩) lp).trans hp.out
    have z3 := (hbw.out.cell (p := ⟨bc, oc + i * 6 + 3, none⟩) hbc).trans k3.out
    have z4 := (hbw.out.cell (p := ⟨bc, oc + i * 6 + 4, none⟩) hbc).trans k4.out
    have z5 := (hbw.out.cell (p := ⟨bc, oc + i * 6 + 5, none⟩) hbc).trans k5.out
    have v2 := (hbw.out.cell (p := ⟨bt, ot + t * 4 + 2, none⟩) hbt).trans u2.out
    have v3 := (hbw.out.cell (p := ⟨bt, ot + t * 4 + 3, none⟩) hbt).trans u3.out
    have lpw : p < wr.heap.size := Nat.lt_of_lt_of_le lp hbw.out.size
    have lcw : bc < wr.heap.size := Nat.lt_of_lt_of_le hbc hbw.out.size
    have ltw : bt < wr.heap.size := Nat.lt_of_lt_of_le hbt hbw.out.size
    have lpw1 : p ≤ wr.heap.size := by omega
    have lcw1 : bc ≤ wr.heap.size := by omega
    have ltw1 : bt ≤ wr.heap.size := by omega
    by_cases hd4 : d < 4
    · have hdI : (d : Int) < 4 := by omega
      obtain ⟨bT, oT, rfl, hbT, hcT⟩ := (hTOH.out.below RBool.stable hbw.out).ptr (by omega)
      obtain ⟨vT, hvT⟩ := hTOH.out.get hd4
      have cT := hcT d vT hvT
      unfold RBool at cT
      simp only [Nat.mul_one] at cT
      have hT0 := Lib.hid (onAt_eq hvT)
      have lT1 : bT ≤ wr.heap.size := by omega
      clear hcT hvT
      obtain ⟨wb, hwb⟩ : ∃ wb : World, wb = wr := ⟨_, rfl⟩
      subst hwb
      go_wp2
      go_loopg [10, 11] fn (fun r v x wr => ∃ j : Nat, j + r = fn ∧ x = .int .i64 (j : Int) ∧ v = .bool (vT || firedTo e c d j) ∧ wb = wr)
      case atStart => exact ⟨0, by omega, rfl, by rw [firedTo_0, Bool.or_false], rfl⟩
      case round =>
        obtain ⟨j, hj, rfl, rfl, rfl⟩ := hrel
        by_cases hjf : j < fn
        · obtain ⟨bf, of, rfl, hbf, hcf⟩ := (hFAH.out.below RFi.stable hbw.out).ptr (by omega)
          obtain ⟨f, hf⟩ := hFAH.out.get hjf
          obtain ⟨f0, f1⟩ := hcf j f hf
          obtain ⟨bF, oF, rfl, hbF, hcF⟩ := (hFH.out.below RBool.stable hbw.out).ptr (by omega)
          obtain ⟨vF, hvF⟩ := hFH.out.get hjf
          have cF := hcF j vF hvF
          unfold RBool at cF
          simp only [Nat.mul_one] at cF
          have hq := Lib.hid (show (vT || firedTo e c d (j + 1)) = ((vT || firedTo e c d j) || (decide (f.t = d) && vF)) by rw [firedTo_S hf, onAt_eq hvF, Bool.or_assoc])
          have m1 : bF ≤ wb.heap.size := by omega
          have m4 : bf ≤ wb.heap.size := by omega
          clear hcf hf hcF hvF
          obtain ⟨ft, hft⟩ : ∃ ft, f.t = ft := ⟨_, rfl⟩
          rw [hft] at f1 hq
          obtain ⟨fq, hfq⟩ : ∃ fq, (vT || firedTo e c d j) = fq := ⟨_, rfl⟩
          rw [hfq] at hq ⊢
          clear hfq
          cases fq

          · by_cases hfd : ft = d
            · have hfd1 : (ft == (d : Int)) = true := by simpa using hfd
              have hfdH := Lib.hid (decide_eq_true hfd)
              clear hfd
              cases vF
              · go_wp2
                go_roundg (fn - (j + 1))
                case measure => omega
                case rel => exact ⟨j + 1, by omega, by go_num, by rw [hq.out, hfdH.out]; rfl, rfl⟩
              · go_wp2
                go_roundg (fn - (j + 1))
                case measure => omega
                case rel => exact ⟨j + 1, by omega, by go_num, by rw [hq.out, hfdH.out]; rfl, rfl⟩
            · have hfd2 : (ft == (d : Int)) = false := by simpa using hfd
              go_wp2
              go_roundg (fn - (j + 1))
              case measure => omega
              case rel => exact ⟨j + 1, by omega, by go_num, by rw [hq.out]; simp [hfd], rfl⟩
          · go_wp2
            go_roundg (fn - (j + 1))
            case measure => omega
            case rel => exact ⟨j + 1, by omega, by go_num, by rw [hq.out]; simp, rfl⟩
        · obtain rfl : j = fn := by omega
          obtain ⟨vq, hvq⟩ : ∃ vq, (vT || firedTo e c d j) = vq := ⟨_, rfl⟩
          rw [hvq]
          obtain ⟨bO, oO, rfl, hbO, hcO⟩ := (hOH.out.below RBool.stable hbw.out).ptr (by omega)
          obtain ⟨vO, hvO⟩ := hOH.out.get hd4
          obtain ⟨bB, oB, rfl, hbB, hcB⟩ := (hBH.out.below RBool.stable hbw.out).ptr (by omega)
          obtain ⟨vB, hvB⟩ := hBH.out.get hd4
          have cO := hcO d vO hvO
          have cB := hcB d vB hvB
          unfold RBool at cO cB
          simp only [Nat.mul_one] at cO cB
          have hdir := Lib.hid (show dirC ts cs e c d = ((vO == vq) && (!vB || (meetB ts cs c d && bothB cs c d))) by unfold dirC; rw [hfeL.out, ← hvq, onAt_eq hvO, onAt_eq hvB, hT0.out])
          have hSw := Lib.hid (hSH.out.below hbw.out)
          have hCw := Lib.hid (hCH.out.below RSc.stable hbw.out)
          have mO : bO ≤ wb.heap.size := by omega
          have mB : bB ≤ wb.heap.size := by omega
          clear hvq hcO hcB hvO hvB

          by_cases hOq : vO = vq
          · subst hOq
            cases vB
            · have hr := Lib.hid (show dirC ts cs e c d = true by rw [hdir.out]; simp)
              go_wp2
              go_roundg (4 - (d + 1))
              case measure => omega
              case rel => exact ⟨d + 1, by omega, by go_num, Lib.hid fun j hj => (by rcases Nat.lt_succ_iff_lt_or_eq.1 hj with hj | rfl; exact hok.out j hj; exact hr.out), Lib.hid (by have := hbw.out; exact bel_)⟩
            · 
              cases hmt : meetB ts cs c d
              · have hr := Lib.hid (show b = false by rw [← hbH.out]; exact cellB_dir (cs := cs) hTc.out hd4 (show dirC ts cs e c d = false by rw [hdir.out]; simp [hmt]))
                have hmt := Lib.hid hmt
                go_wp2_with (go_at_call 112; refine (l31Meets_any p _ q cc gs ts cs c i d _ (hSw.out.below (by exact bel_)) (hCw.out.below RSc.stable (by exact bel_)) hVH.out hiH.out hd4 _ _ rfl hmt.out).mono ?_; rintro e w4 ⟨rfl, hb4⟩; obtain ⟨chb4, fhb4, shb4, thb4⟩ := bcell hb4; (try have bhb40 := shb4 (p) (by go_simp)); (try have bhb41 := shb4 (bc) (by go_simp)); (try have bhb42 := shb4 (bt) (by go_simp)); (try have bhb43 := shb4 (bB) (by go_simp)))
                refine wp_region_ord [(0, .q), (1, .q), (2, .q), (3, .q), (4, .q), (5, .q), (6, .q), (7, .q), (8, .q), (9, .g), (10, .q), (11, .q), (12, .q), (13, .q)] (by kernel_rfl) (by kernel_rfl) ?_
                simp only [pick, List.filterMap_cons, List.filterMap_nil, List.getElem?_toArray, List.getElem?_cons_zero, List.getElem?_cons_succ, Option.map_some]
                repeat (first
                  | ((with_reducible refine wpD_p (fun K hK => ?_)); go_simp; refine hK _ ?_; clear hK K)
                  | ((with_reducible refine wpD_q (fun K hK => ?_)); go_simp; (first | refine hK _ ?_ | (go_bits; refine hK _ ?_) | (go_bits; go_simp; refine hK _ ?_)); clear hK K)
                  | ((with_reducible refine wpD_g (fun K hK => ?_)); go_simp; refine hK _ _ ?_; clear hK K)
                  | ((with_reducible refine wpD_g (fun K hK => ?_)); go_simp; refine ⟨Grew.of_alloc _, hK _ _ ?_⟩; clear hK K)
                  | ((with_reducible refine wpD_g (fun K hK => ?_)); go_simp; refine ⟨Below.refl _ _, hK _ _ ?_⟩; clear hK K)
                  | ((with_reducible refine wpD_g (fun K hK => ?_)); go_simp; go_at_call 113; refine (sOppN_any _ _ hd4).mono ?_; rintro e _ ⟨rfl, rfl⟩; refine ⟨_, rfl, Below.refl _ _, hK _ _ ?_⟩; clear hK K))
                with_reducible refine wpD_nil ?_
                go_wp2
                go_ret
                exact ⟨ret_bool hr.out.symm, by have := hbw.out; exact bel_⟩
              · obtain ⟨k2, nb, hpl, hk2, hnx⟩ : ∃ (k2 : Nat) (nb : Sc), placeI (plsOf cs) (stepX c.x d) (stepY c.y d) = k2 ∧ cs[k2]? = some nb ∧ nextC cs c d = some nb := by
                  rcases place_cases hVH.out (stepX c.x d) (stepY c.y d) with ⟨_, h⟩ | ⟨k2, nb, h1, h2, h3⟩
                  · rw [meet_none h] at hmt; cases hmt
                  · exact ⟨k2, nb, h1, h2, h3⟩
                obtain ⟨n0, n1, n2, ⟨NO, nn, nc, n3, _⟩, ⟨NB, nbn, nbc, n4x, hNB⟩, _⟩ := hccH.out k2 nb hk2
                have n4 := (hbw.out.cell (p := ⟨bc, oc + k2 * 6 + 4, none⟩) hbc).trans n4x
                obtain ⟨_, hl4, _⟩ := hVH.out.cell k2 nb hk2
                rw [hNB.len] at hl4
                subst hl4
                obtain ⟨bno, ono, rfl, hbno, hcno⟩ := (hNB.below RBool.stable hbw.out).ptr (by omega)
                obtain ⟨vn, hvn⟩ := hNB.get (opp_lt hd4)
                have cno := hcno (oppN d) vn hvn
                unfold RBool at cno
                simp only [Nat.mul_one] at cno
                have hbo := Lib.hid (show bothB cs c d = vn by rw [both_some hnx, onAt_eq hvn])
                have hod : ((oppN d : Nat) : Int) < 4 := by have := opp_lt hd4; omega
                have hkq : k2 < q := by rw [← hCw.out.len]; exact lt_of_get hk2
                have mN : bno ≤ wb.heap.size := by omega
                have hpH := Lib.hid hpl
                have hmtH := hmt
                have hmt := Lib.hid hmt
                clear hpl hk2 hNB hcno hvn hnx n0 n1 n2 n3 n4x
                
                cases vn
                · have hr := Lib.hid (show b = false by rw [← hbH.out]; exact cellB_dir (cs := cs) hTc.out hd4 (show dirC ts cs e c d = false by rw [hdir.out]; simp [hbo.out]))
                  clear hmtH
                  go_wp2_with (go_at_call 112; refine (l31Meets_any p _ q cc gs ts cs c i d _ (hSw.out.below (by exact bel_)) (hCw.out.below RSc.stable (by exact bel_)) hVH.out hiH.out hd4 _ _ hpH.out hmt.out).mono ?_; rintro e w4 ⟨rfl, hb4⟩; obtain ⟨chb4, fhb4, shb4, thb4⟩ := bcell hb4; (try have bhb40 := shb4 (p) (by go_simp)); (try have bhb41 := shb4 (bc) (by go_simp)); (try have bhb42 := shb4 (bt) (by go_simp)); (try have bhb43 := shb4 (bB) (by go_simp)); (try have bhb44 := shb4 (bno) (by go_simp)))
                  refine wp_region_ord [(0, .q), (1, .q), (2, .q), (3, .q), (4, .q), (5, .q), (6, .q), (7, .q), (8, .q), (9, .g), (10, .q), (11, .q), (12, .q), (13, .q)] (by kernel_rfl) (by kernel_rfl) ?_
                  simp only [pick, List.filterMap_cons, List.filterMap_nil, List.getElem?_toArray, List.getElem?_cons_zero, List.getElem?_cons_succ, Option.map_some]
                  repeat (first
                    | ((with_reducible refine wpD_p (fun K hK => ?_)); go_simp; refine hK _ ?_; clear hK K)
                    | ((with_reducible refine wpD_q (fun K hK => ?_)); go_simp; (first | refine hK _ ?_ | (go_bits; refine hK _ ?_) | (go_bits; go_simp; refine hK _ ?_)); clear hK K)
                    | ((with_reducible refine wpD_g (fun K hK => ?_)); go_simp; refine hK _ _ ?_; clear hK K)
                    | ((with_reducible refine wpD_g (fun K hK => ?_)); go_simp; refine ⟨Grew.of_alloc _, hK _ _ ?_⟩; clear hK K)
                    | ((with_reducible refine wpD_g (fun K hK => ?_)); go_simp; refine ⟨Below.refl _ _, hK _ _ ?_⟩; clear hK K)
                    | ((with_reducible refine wpD_g (fun K hK => ?_)); go_simp; go_at_call 113; refine (sOppN_any _ _ hd4).mono ?_; rintro e _ ⟨rfl, rfl⟩; refine ⟨_, rfl, Below.refl _ _, hK _ _ ?_⟩; clear hK K))
                  with_reducible refine wpD_nil ?_
                  go_wp2
                  go_ret
                  exact ⟨ret_bool hr.out.symm, by have := hbw.out; exact bel_⟩
                · have hr := Lib.hid (show dirC ts cs e c d = true by rw [hdir.out, hbo.out, hmtH]; simp)
                  clear hmtH
                  go_wp2_with (go_at_call 112; refine (l31Meets_any p _ q cc gs ts cs c i d _ (hSw.out.below (by exact bel_)) (hCw.out.below RSc.stable (by exact bel_)) hVH.out hiH.out hd4 _ _ hpH.out hmt.out).mono ?_; rintro e w4 ⟨rfl, hb4⟩; obtain ⟨chb4, fhb4, shb4, thb4⟩ := bcell hb4; (try have bhb40 := shb4 (p) (by go_simp)); (try have bhb41 := shb4 (bc) (by go_simp)); (try have bhb42 := shb4 (bt) (by go_simp)); (try have bhb43 := shb4 (bB) (by go_simp)); (try have bhb44 := shb4 (bno) (by go_simp)))
                  refine wp_region_ord [(0, .q), (1, .q), (2, .q), (3, .q), (4, .q), (5, .q), (6, .q), (7, .q), (8, .q), (9, .g), (10, .q), (11, .q), (12, .q), (13, .q)] (by kernel_rfl) (by kernel_rfl) ?_
                  simp only [pick, List.filterMap_cons, List.filterMap_nil, List.getElem?_toArray, List.getElem?_cons_zero, List.getElem?_cons_succ, Option.map_some]
                  repeat (first
                    | ((with_reducible refine wpD_p (fun K hK => ?_)); go_simp; refine hK _ ?_; clear hK K)
                    | ((with_reducible refine wpD_q (fun K hK => ?_)); go_simp; (first | refine hK _ ?_ | (go_bits; refine hK _ ?_) | (go_bits; go_simp; refine hK _ ?_)); clear hK K)
                    | ((with_reducible refine wpD_g (fun K hK => ?_)); go_simp; refine hK _ _ ?_; clear hK K)
                    | ((with_reducible refine wpD_g (fun K hK => ?_)); go_simp; refine ⟨Grew.of_alloc _, hK _ _ ?_⟩; clear hK K)
                    | ((with_reducible refine wpD_g (fun K hK => ?_)); go_simp; refine ⟨Below.refl _ _, hK _ _ ?_⟩; clear hK K)
                    | ((with_reducible refine wpD_g (fun K hK => ?_)); go_simp; go_at_call 113; refine (sOppN_any _ _ hd4).mono ?_; rintro e _ ⟨rfl, rfl⟩; refine ⟨_, rfl, Below.refl _ _, hK _ _ ?_⟩; clear hK K))
                  with_reducible refine wpD_nil ?_
                  go_wp2
                  go_roundg (4 - (d + 1))
                  case measure => omega
                  case rel => exact ⟨d + 1, by omega, by go_num, Lib.hid fun j hj => (by rcases Nat.lt_succ_iff_lt_or_eq.1 hj with hj | rfl; exact hok.out j hj; exact hr.out), Lib.hid (by have := hbw.out; exact bel_)⟩
          · cases vO
            · cases vq
              · exact absurd rfl hOq
              · have hr := Lib.hid (show b = false by rw [← hbH.out]; exact cellB_dir (cs := cs) hTc.out hd4 (show dirC ts cs e c d = false by rw [hdir.out]; simp))
                go_wp2
                go_ret
                exact ⟨ret_bool hr.out.symm, by have := hbw.out; exact bel_⟩
            · cases vq
              · have hr := Lib.hid (show b = false by rw [← hbH.out]; exact cellB_dir (cs := cs) hTc.out hd4 (show dirC ts cs e c d = false by rw [hdir.out]; simp))
                go_wp2
                go_ret
                exact ⟨ret_bool hr.out.symm, by have := hbw.out; exact bel_⟩
              · exact absurd rfl hOq
    · obtain rfl : d = 4 := by omega
      obtain ⟨wb, hwb⟩ : ∃ wb : World, wb = wr := ⟨_, rfl⟩
      subst hwb
      go_wp2
      go_loopg [14] fn (fun r x wr => ∃ k : Nat, k + r = fn ∧ x = .int .i64 (k : Int) ∧ Hid (∀ j, j < k → fireC e c j = true) ∧ Hid (Below wb.heap.size wb wr))
      case atStart => exact ⟨0, by omega, rfl, Lib.hid (fun j hj => by omega), Lib.hid (bl_refl _)⟩
      case round =>
        obtain ⟨k, hk, rfl, hokf, hbx⟩ := hrel
        have z4 := (hbx.out.cell (p := ⟨bc, oc + i * 6 + 4, none⟩) lcw).trans z4
        have z5 := (hbx.out.cell (p := ⟨bc, oc + i * 6 + 5, none⟩) lcw).trans z5
        have v3 := (hbx.out.cell (p := ⟨bt, ot + t * 4 + 3, none⟩) ltw).trans v3
        have lcw := Nat.lt_of_lt_of_le lcw hbx.out.size
        have ltw := Nat.lt_of_lt_of_le ltw hbx.out.size
        have lcw1 : bc ≤ wr.heap.size := by omega
        have ltw1 : bt ≤ wr.heap.size := by omega
        by_cases hkn : k < fn
        · have hbwx := hbw.out.trans (hbx.out.mono hbw.out.size)
          obtain ⟨bf, of, rfl, hbf, hcf⟩ := (hFAH.out.below RFi.stable hbwx).ptr (by omega)
          obtain ⟨f, hf⟩ := hFAH.out.get hkn
          obtain ⟨a, a2, hfa, hfa2, ha4, ha24⟩ := hfiH.out k f hf
          obtain ⟨f0, f1⟩ := hcf k f hf
          rw [hfa] at f0
          obtain ⟨bF, oF, rfl, hbF, hcF⟩ := (hFH.out.below RBool.stable hbwx).ptr (by omega)
          obtain ⟨bB, oB, rfl, hbB, hcB⟩ := (hBH.out.below RBool.stable hbwx).ptr (by omega)
          obtain ⟨vF, hvF⟩ := hFH.out.get hkn
          obtain ⟨vB, hvB⟩ := hBH.out.get ha4
          have cF := hcF k vF hvF
          have cB := hcB a vB hvB
          unfold RBool at cF cB
          simp only [Nat.mul_one] at cF cB
          have hq := Lib.hid (show fireC e c k = !(vF && !vB) by rw [fireC_eq hf, onAt_eq hvF, hfa, onAt_eq hvB])
          have ha4I : (a : Int) < 4 := by omega
          have m1 : bF ≤ wr.heap.size := by omega
          have m2 : bB ≤ wr.heap.size := by omega
          have m4 : bf ≤ wr.heap.size := by omega
          clear hcf hf hcF hcB hvF hvB hbwx hfa hfa2 f1
          cases vF

          · have hr := Lib.hid (show fireC e c k = true by rw [hq.out]; rfl)
            go_wp2
            refine wp_region_ord [(0, .q), (1, .q), (2, .q), (3, .q), (4, .q), (5, .q), (6, .q), (7, .q), (8, .q), (9, .q), (10, .q), (11, .q), (12, .q), (13, .q), (14, .q), (15, .q), (16, .q), (17, .q), (18, .q), (19, .q), (20, .q), (21, .q), (22, .q), (23, .q)] (by kernel_rfl) (by kernel_rfl) ?_
            simp only [pick, List.filterMap_cons, List.filterMap_nil, List.getElem?_toArray, List.getElem?_cons_zero, List.getElem?_cons_succ, Option.map_some]
            repeat (first
              | ((with_reducible refine wpD_p (fun K hK => ?_)); go_simp; refine hK _ ?_; clear hK K)
              | ((with_reducible refine wpD_q (fun K hK => ?_)); go_simp; (first | refine hK _ ?_ | (go_bits; refine hK _ ?_) | (go_bits; go_simp; refine hK _ ?_)); clear hK K)
              | ((with_reducible refine wpD_g (fun K hK => ?_)); go_simp; refine hK _ _ ?_; clear hK K)
              | ((with_reducible refine wpD_g (fun K hK => ?_)); go_simp; refine ⟨Grew.of_alloc _, hK _ _ ?_⟩; clear hK K)
              | ((with_reducible refine wpD_g (fun K hK => ?_)); go_simp; refine ⟨Below.refl _ _, hK _ _ ?_⟩; clear hK K))
            with_reducible refine wpD_nil ?_
            go_wp2
            go_roundg (fn - (k + 1))
            case measure => omega
            case rel => exact ⟨k + 1, by omega, by go_num, Lib.hid fun j hj => (by rcases Nat.lt_succ_iff_lt_or_eq.1 hj with hj | rfl; exact hokf.out j hj; exact hr.out), Lib.hid (by have := hbx.out; exact bel_)⟩
          · cases vB
            · have hr := Lib.hid (show b = false by rw [← hbH.out]; exact cellB_fire (cs := cs) hTc.out (by rw [hfeL.out]; exact hkn) (show fireC e c k = false by rw [hq.out]; rfl))
              go_wp2
              refine wp_region_ord [(0, .q), (1, .q), (2, .q), (3, .q), (4, .q), (5, .q), (6, .q), (7, .q), (8, .q), (9, .q), (10, .q), (11, .q), (12, .q), (13, .q), (14, .q), (15, .q), (16, .q), (17, .q), (18, .q), (19, .q), (20, .q), (21, .q), (22, .q), (23, .q)] (by kernel_rfl) (by kernel_rfl) ?_
              simp only [pick, List.filterMap_cons, List.filterMap_nil, List.getElem?_toArray, List.getElem?_cons_zero, List.getElem?_cons_succ, Option.map_some]
              repeat (first
                | ((with_reducible refine wpD_p (fun K hK => ?_)); go_simp; refine hK _ ?_; clear hK K)
                | ((with_reducible refine wpD_q (fun K hK => ?_)); go_simp; (first | refine hK _ ?_ | (go_bits; refine hK _ ?_) | (go_bits; go_simp; refine hK _ ?_)); clear hK K)
                | ((with_reducible refine wpD_g (fun K hK => ?_)); go_simp; refine hK _ _ ?_; clear hK K)
                | ((with_reducible refine wpD_g (fun K hK => ?_)); go_simp; refine ⟨Grew.of_alloc _, hK _ _ ?_⟩; clear hK K)
                | ((with_reducible refine wpD_g (fun K hK => ?_)); go_simp; refine ⟨Below.refl _ _, hK _ _ ?_⟩; clear hK K))
              with_reducible refine wpD_nil ?_
              go_wp2
              go_ret
              exact ⟨ret_bool hr.out.symm, by have := hbw.out; have := hbx.out; exact bel_⟩
            · have hr := Lib.hid (show fireC e c k = true by rw [hq.out]; rfl)
              go_wp2
              refine wp_region_ord [(0, .q), (1, .q), (2, .q), (3, .q), (4, .q), (5, .q), (6, .q), (7, .q), (8, .q), (9, .q), (10, .q), (11, .q), (12, .q), (13, .q), (14, .q), (15, .q), (16, .q), (17, .q), (18, .q), (19, .q), (20, .q), (21, .q), (22, .q), (23, .q)] (by kernel_rfl) (by kernel_rfl) ?_
              simp only [pick, List.filterMap_cons, List.filterMap_nil, List.getElem?_toArray, List.getElem?_cons_zero, List.getElem?_cons_succ, Option.map_some]
              repeat (first
                | ((with_reducible refine wpD_p (fun K hK => ?_)); go_simp; refine hK _ ?_; clear hK K)
                | ((with_reducible refine wpD_q (fun K hK => ?_)); go_simp; (first | refine hK _ ?_ | (go_bits; refine hK _ ?_) | (go_bits; go_simp; refine hK _ ?_)); clear hK K)
                | ((with_reducible refine wpD_g (fun K hK => ?_)); go_simp; refine hK _ _ ?_; clear hK K)
                | ((with_reducible refine wpD_g (fun K hK => ?_)); go_simp; refine ⟨Grew.of_alloc _, hK _ _ ?_⟩; clear hK K)
                | ((with_reducible refine wpD_g (fun K hK => ?_)); go_simp; refine ⟨Below.refl _ _, hK _ _ ?_⟩; clear hK K))
              with_reducible refine wpD_nil ?_
              go_wp2
              go_roundg (fn - (k + 1))
              case measure => omega
              case rel => exact ⟨k + 1, by omega, by go_num, Lib.hid fun j hj => (by rcases Nat.lt_succ_iff_lt_or_eq.1 hj with hj | rfl; exact hokf.out j hj; exact hr.out), Lib.hid (by have := hbx.out; exact bel_)⟩
        · obtain rfl : k = fn := by omega
          have hr := Lib.hid (show b = true by rw [← hbH.out]; exact cellB_ok hTc.out (fun j hj => hokf.out j (by rw [← hfeL.out]; exact hj)) hok.out)
          go_wp2
          go_ret
          exact ⟨ret_bool hr.out.symm, by have := hbw.out; have := hbx.out; exact bel_⟩
set_option maxRecDepth 100000 in
set_option maxHeartbeats 8000000 in
theorem l31Ok_any (p : Nat) (C : Option Addr) (q cc : Nat) (gs : List Gl) (ts : List Sti) (cs : List Sc) (w : World) (hS : SgAt w p gs ts) (hC : RdSl 6 RSc w C q cs) (hn : gs.length ≤ 1073741824) (hm : ts.length ≤ 1073741824) (hq : q ≤ 1073741824) (hbg : BigG gs) (hbs : BigS ts) :
    Calls Try.prog 27 #[.pointer (some ⟨p, 0, none⟩), .slice C q cc] w fun e w' => e = .returned (.bool (validCellsB gs ts cs)) ∧ Below w.heap.size w w' := by
  have hlq := Lib.hid hC.len
  have hSH := Lib.hid hS
  have hCH := Lib.hid hC
  have hbgH := Lib.hid hbg
  have hbsH := Lib.hid hbs
  clear hS hC hbg hbs
  cases hv : sgSetB gs ts
  · have hvH := Lib.hid hv
    clear hv
    go_enter Try.func27, Try.ntmps27
    go_wp2_with (go_at_call 60; refine (l31Set_any p gs ts _ (hSH.out.below (by exact bel_)) hn hm hbgH.out hbsH.out).mono ?_; rw [hvH.out]; rintro e w1 ⟨rfl, hb1⟩)
    go_ret
    exact ⟨ret_bool (vc_set hvH.out).symm, by exact bel_⟩
  have hvH := Lib.hid hv
  clear hv
  by_cases h80 : q ≤ 80
  rotate_left
  · have h81 : (80 : Int) < q := by omega
    go_enter Try.func27, Try.ntmps27
    go_wp2_with (go_at_call 60; refine (l31Set_any p gs ts _ (hSH.out.below (by exact bel_)) hn hm hbgH.out hbsH.out).mono ?_; rw [hvH.out]; rintro e w1 ⟨rfl, hb1⟩)
    go_ret
    exact ⟨ret_bool (vc_len (by rw [hlq.out]; exact h80)).symm, by exact bel_⟩
  go_enter Try.func27, Try.ntmps27
  go_wp2_with (go_at_call 60; refine (l31Set_any p gs ts _ (hSH.out.below (by exact bel_)) hn hm hbgH.out hbsH.out).mono ?_; rw [hvH.out]; rintro e w1 ⟨rfl, hb1⟩)
  have hb0 := Lib.hid (show Below w.heap.size w w1 by exact bel_)
  clear hb1
  go_loopg [5] q (fun r x wr => ∃ k : Nat, k + r = q ∧ x = .int .i64 (k : Int) ∧ Hid (∀ j, j < k → okForm ts cs j = true) ∧ Hid (Below w.heap.size w wr))
  case atStart => exact ⟨0, by omega, rfl, Lib.hid (fun j hj => by omega), hb0⟩
  case round =>
    obtain ⟨k, hk, rfl, hok, hbw⟩ := hrel
    have hSw := Lib.hid (hSH.out.below hbw.out)
    have lp := hSw.out.lt
    have lp1 : p ≤ wr.heap.size := by omega
    have hC1 := hCH.out.below RSc.stable hbw.out
    by_cases hkq : k < q
    · obtain ⟨b, o, rfl, hb, hc⟩ := hC1.ptr (by omega)
      obtain ⟨c, he⟩ := hC1.get hkq
      have hR := Lib.hid (hc k c he)
      obtain ⟨c0, c1, _⟩ := hc k c he
      have heH := Lib.hid he
      have lb2 : b ≤ wr.heap.size := by omega
      
      cases hf : formB ts c

      · have hfH := Lib.hid hf
        have hr := Lib.hid (okForm_bad heH.out hf)
        clear hc he hC1 hf
        have hlH : Hid (lessPt 0 0 0 0 = lessPt 0 0 0 0) := Lib.hid rfl
        go_wp2
        refine wp_region_ord [(0, .q), (1, .q), (2, .q), (3, .q), (4, .g), (5, .q), (6, .q), (7, .q), (8, .q), (9, .q), (10, .q), (11, .q), (12, .q), (13, .q), (14, .q), (15, .q), (16, .q), (17, .q), (18, .q), (19, .q), (20, .q), (21, .g), (22, .q), (23, .q), (24, .q)] (by kernel_rfl) (by kernel_rfl) ?_
        simp only [pick, List.filterMap_cons, List.filterMap_nil, List.getElem?_toArray, List.getElem?_cons_zero, List.getElem?_cons_succ, Option.map_some]
        repeat (first
          | ((with_reducible refine wpD_p (fun K hK => ?_)); go_simp; refine hK _ ?_; clear hK K)
          | ((with_reducible refine wpD_q (fun K hK => ?_)); go_simp; (first | refine hK _ ?_ | (go_bits; refine hK _ ?_) | (go_bits; go_simp; refine hK _ ?_)); clear hK K)
          | ((with_reducible refine wpD_g (fun K hK => ?_)); go_simp; refine hK _ _ ?_; clear hK K)
          | ((with_reducible refine wpD_g (fun K hK => ?_)); go_simp; refine ⟨Grew.of_alloc _, hK _ _ ?_⟩; clear hK K)
          | ((with_reducible refine wpD_g (fun K hK => ?_)); go_simp; refine ⟨Below.refl _ _, hK _ _ ?_⟩; clear hK K)
          | ((with_reducible refine wpD_g (fun K hK => ?_)); go_simp; go_at_call 61; refine (l31Lists_any p _ _ gs ts c _ (hSw.out.below (by exact bel_)) hm (hR.out |> fun h => RSc.stable _ _ _ _ _ h hb (by exact bel_)) (by exact bel_) _ hfH.out).mono ?_; rintro e w4 ⟨rfl, hb4⟩; refine ⟨_, rfl, hb4, hK _ _ ?_⟩; clear hK K; obtain ⟨chb4, fhb4, shb4, thb4⟩ := bcell hb4; (try have bhb40 := shb4 (p) (by go_simp)); (try have bhb41 := shb4 (b) (by go_simp)); (replace chb4 : ∀ (b o : Nat), b < wr.heap.size → w4.cell? ⟨b, o, none⟩ = wr.cell? ⟨b, o, none⟩ := chb4))
          | ((with_reducible refine wpD_g (fun K hK => ?_)); go_simp; go_at_call 62; refine (sLessPoint_at hlH.out).mono ?_; rintro e w5 ⟨rfl, hb5⟩; refine ⟨_, rfl, hb5, hK _ _ ?_⟩; clear hK K; obtain ⟨chb5, fhb5, shb5, thb5⟩ := bcell hb5; (try have bhb50 := shb5 (p) (by go_simp)); (try have bhb51 := shb5 (b) (by go_simp))))
        with_reducible refine wpD_nil ?_
        go_wp2
        go_ret
        exact ⟨ret_bool (vc_form (k := k) (by rw [hlq.out]; exact hkq) hr.out).symm, by have := hbw.out; exact bel_⟩
      have hfH := Lib.hid hf
      clear hf
      cases k with
      | zero =>
        have hr := Lib.hid (show okForm ts cs 0 = true by rw [okForm_0 heH.out, hfH.out])
        clear hc he hC1
        simp only [Nat.zero_mul, Nat.add_zero] at c0 c1 hR
        have hlH : Hid (lessPt 0 0 0 0 = lessPt 0 0 0 0) := Lib.hid rfl
        go_wp2
        refine wp_region_ord [(0, .q), (1, .q), (2, .q), (3, .q), (4, .g), (5, .q), (6, .q), (7, .q), (8, .q), (9, .q), (10, .q), (11, .q), (12, .q), (13, .q), (14, .q), (15, .q), (16, .q), (17, .q), (18, .q), (19, .q), (20, .q), (21, .g), (22, .q), (23, .q), (24, .q)] (by kernel_rfl) (by kernel_rfl) ?_
        simp only [pick, List.filterMap_cons, List.filterMap_nil, List.getElem?_toArray, List.getElem?_cons_zero, List.getElem?_cons_succ, Option.map_some]
        repeat (first
          | ((with_reducible refine wpD_p (fun K hK => ?_)); go_simp; refine hK _ ?_; clear hK K)
          | ((with_reducible refine wpD_q (fun K hK => ?_)); go_simp; (first | refine hK _ ?_ | (go_bits; refine hK _ ?_) | (go_bits; go_simp; refine hK _ ?_)); clear hK K)
          | ((with_reducible refine wpD_g (fun K hK => ?_)); go_simp; refine hK _ _ ?_; clear hK K)
          | ((with_reducible refine wpD_g (fun K hK => ?_)); go_simp; refine ⟨Grew.of_alloc _, hK _ _ ?_⟩; clear hK K)
          | ((with_reducible refine wpD_g (fun K hK => ?_)); go_simp; refine ⟨Below.refl _ _, hK _ _ ?_⟩; clear hK K)
          | ((with_reducible refine wpD_g (fun K hK => ?_)); go_simp; go_at_call 61; refine (l31Lists_any p _ _ gs ts c _ (hSw.out.below (by exact bel_)) hm (hR.out |> fun h => RSc.stable _ _ _ _ _ h hb (by exact bel_)) (by exact bel_) _ hfH.out).mono ?_; rintro e w4 ⟨rfl, hb4⟩; refine ⟨_, rfl, hb4, hK _ _ ?_⟩; clear hK K; obtain ⟨chb4, fhb4, shb4, thb4⟩ := bcell hb4; (try have bhb40 := shb4 (p) (by go_simp)); (try have bhb41 := shb4 (b) (by go_simp)); (replace chb4 : ∀ (b o : Nat), b < wr.heap.size → w4.cell? ⟨b, o, none⟩ = wr.cell? ⟨b, o, none⟩ := chb4))
          | ((with_reducible refine wpD_g (fun K hK => ?_)); go_simp; go_at_call 62; refine (sLessPoint_at hlH.out).mono ?_; rintro e w5 ⟨rfl, hb5⟩; refine ⟨_, rfl, hb5, hK _ _ ?_⟩; clear hK K; obtain ⟨chb5, fhb5, shb5, thb5⟩ := bcell hb5; (try have bhb50 := shb5 (p) (by go_simp)); (try have bhb51 := shb5 (b) (by go_simp))))
        with_reducible refine wpD_nil ?_
        go_wp2
        go_roundg (q - (0 + 1))
        case measure => omega
        case rel => exact ⟨0 + 1, by omega, by go_num, Lib.hid fun j hj => (by rcases Nat.lt_succ_iff_lt_or_eq.1 hj with hj | rfl; exact hok.out j hj; exact hr.out), Lib.hid (by have := hbw.out; exact bel_)⟩
      | succ i =>
        obtain ⟨d, hd⟩ := hC1.get (k := i) (by omega)
        obtain ⟨d0, d1, _⟩ := hc i d hd
        have hdH := Lib.hid hd
        have hi : i < q := by omega
        have hpos : (0 : Int) < (i : Int) + 1 := by omega
        have hI1 : (i : Int) + 1 < (q : Int) := by omega
        have hI0 : (0 : Int) ≤ (i : Int) + 1 := by omega
        clear hc he hC1 hd
        cases hl : lessPt d.x d.y c.x c.y
        · have hlH := Lib.hid hl
          have hr := Lib.hid (show okForm ts cs (i + 1) = false by rw [okForm_S heH.out hdH.out, hfH.out, hl]; rfl)
          clear hl
          go_wp2
          refine wp_region_ord [(0, .q), (1, .q), (2, .q), (3, .q), (4, .g), (5, .q), (6, .q), (7, .q), (8, .q), (9, .q), (10, .q), (11, .q), (12, .q), (13, .q), (14, .q), (15, .q), (16, .q), (17, .q), (18, .q), (19, .q), (20, .q), (21, .g), (22, .q), (23, .q), (24, .q)] (by kernel_rfl) (by kernel_rfl) ?_
          simp only [pick, List.filterMap_cons, List.filterMap_nil, List.getElem?_toArray, List.getElem?_cons_zero, List.getElem?_cons_succ, Option.map_some]
          repeat (first
            | ((with_reducible refine wpD_p (fun K hK => ?_)); go_simp; refine hK _ ?_; clear hK K)
            | ((with_reducible refine wpD_q (fun K hK => ?_)); go_simp; (first | refine hK _ ?_ | (go_bits; refine hK _ ?_) | (go_bits; go_simp; refine hK _ ?_)); clear hK K)
            | ((with_reducible refine wpD_g (fun K hK => ?_)); go_simp; refine hK _ _ ?_; clear hK K)
            | ((with_reducible refine wpD_g (fun K hK => ?_)); go_simp; refine ⟨Grew.of_alloc _, hK _ _ ?_⟩; clear hK K)
            | ((with_reducible refine wpD_g (fun K hK => ?_)); go_simp; refine ⟨Below.refl _ _, hK _ _ ?_⟩; clear hK K)
            | ((with_reducible refine wpD_g (fun K hK => ?_)); go_simp; go_at_call 61; refine (l31Lists_any p _ _ gs ts c _ (hSw.out.below (by exact bel_)) hm (hR.out |> fun h => RSc.stable _ _ _ _ _ h hb (by exact bel_)) (by exact bel_) _ hfH.out).mono ?_; rintro e w4 ⟨rfl, hb4⟩; refine ⟨_, rfl, hb4, hK _ _ ?_⟩; clear hK K; obtain ⟨chb4, fhb4, shb4, thb4⟩ := bcell hb4; (try have bhb40 := shb4 (p) (by go_simp)); (try have bhb41 := shb4 (b) (by go_simp)); (replace chb4 : ∀ (b o : Nat), b < wr.heap.size → w4.cell? ⟨b, o, none⟩ = wr.cell? ⟨b, o, none⟩ := chb4))
            | ((with_reducible refine wpD_g (fun K hK => ?_)); go_simp; go_at_call 62; refine (sLessPoint_at hlH.out).mono ?_; rintro e w5 ⟨rfl, hb5⟩; refine ⟨_, rfl, hb5, hK _ _ ?_⟩; clear hK K; obtain ⟨chb5, fhb5, shb5, thb5⟩ := bcell hb5; (try have bhb50 := shb5 (p) (by go_simp)); (try have bhb51 := shb5 (b) (by go_simp))))
          with_reducible refine wpD_nil ?_
          go_wp2
          go_ret
          exact ⟨ret_bool (vc_form (k := i + 1) (by rw [hlq.out]; exact hkq) hr.out).symm, by have := hbw.out; exact bel_⟩
        · have hlH := Lib.hid hl
          have hr := Lib.hid (show okForm ts cs (i + 1) = true by rw [okForm_S heH.out hdH.out, hfH.out, hl]; rfl)
          clear hl
          go_wp2
          refine wp_region_ord [(0, .q), (1, .q), (2, .q), (3, .q), (4, .g), (5, .q), (6, .q), (7, .q), (8, .q), (9, .q), (10, .q), (11, .q), (12, .q), (13, .q), (14, .q), (15, .q), (16, .q), (17, .q), (18, .q), (19, .q), (20, .q), (21, .g), (22, .q), (23, .q), (24, .q)] (by kernel_rfl) (by kernel_rfl) ?_
          simp only [pick, List.filterMap_cons, List.filterMap_nil, List.getElem?_toArray, List.getElem?_cons_zero, List.getElem?_cons_succ, Option.map_some]
          repeat (first
            | ((with_reducible refine wpD_p (fun K hK => ?_)); go_simp; refine hK _ ?_; clear hK K)
            | ((with_reducible refine wpD_q (fun K hK => ?_)); go_simp; (first | refine hK _ ?_ | (go_bits; refine hK _ ?_) | (go_bits; go_simp; refine hK _ ?_)); clear hK K)
            | ((with_reducible refine wpD_g (fun K hK => ?_)); go_simp; refine hK _ _ ?_; clear hK K)
            | ((with_reducible refine wpD_g (fun K hK => ?_)); go_simp; refine ⟨Grew.of_alloc _, hK _ _ ?_⟩; clear hK K)
            | ((with_reducible refine wpD_g (fun K hK => ?_)); go_simp; refine ⟨Below.refl _ _, hK _ _ ?_⟩; clear hK K)
            | ((with_reducible refine wpD_g (fun K hK => ?_)); go_simp; go_at_call 61; refine (l31Lists_any p _ _ gs ts c _ (hSw.out.below (by exact bel_)) hm (hR.out |> fun h => RSc.stable _ _ _ _ _ h hb (by exact bel_)) (by exact bel_) _ hfH.out).mono ?_; rintro e w4 ⟨rfl, hb4⟩; refine ⟨_, rfl, hb4, hK _ _ ?_⟩; clear hK K; obtain ⟨chb4, fhb4, shb4, thb4⟩ := bcell hb4; (try have bhb40 := shb4 (p) (by go_simp)); (try have bhb41 := shb4 (b) (by go_simp)); (replace chb4 : ∀ (b o : Nat), b < wr.heap.size → w4.cell? ⟨b, o, none⟩ = wr.cell? ⟨b, o, none⟩ := chb4))
            | ((with_reducible refine wpD_g (fun K hK => ?_)); go_simp; go_at_call 62; refine (sLessPoint_at hlH.out).mono ?_; rintro e w5 ⟨rfl, hb5⟩; refine ⟨_, rfl, hb5, hK _ _ ?_⟩; clear hK K; obtain ⟨chb5, fhb5, shb5, thb5⟩ := bcell hb5; (try have bhb50 := shb5 (p) (by go_simp)); (try have bhb51 := shb5 (b) (by go_simp))))
          with_reducible refine wpD_nil ?_
          go_wp2
          go_roundg (q - ((i + 1) + 1))
          case measure => omega
          case rel => exact ⟨(i + 1) + 1, by omega, by go_num, Lib.hid fun j hj => (by rcases Nat.lt_succ_iff_lt_or_eq.1 hj with hj | rfl; exact hok.out j hj; exact hr.out), Lib.hid (by have := hbw.out; exact bel_)⟩
    · obtain rfl : k = q := by omega
      have hV := Lib.hid (cellsV_of hvH.out (by rw [hlq.out]; exact h80) (fun j hj => hok.out j (by rw [← hlq.out]; exact hj)))
      obtain ⟨wb, hwb⟩ : ∃ wb : World, wb = wr := ⟨_, rfl⟩
      subst hwb
      clear hC1
      
      go_wp2
      go_loopg [6] k (fun r x wr => ∃ j : Nat, j + r = k ∧ x = .int .i64 (j : Int) ∧ Hid (∀ i, i < j → cellJ ts cs i = true) ∧ Hid (Below w.heap.size w wr))
      case atStart => exact ⟨0, by omega, rfl, Lib.hid (fun j hj => by omega), hbw⟩
      case round =>
        clear hbw hSw lp lp1
        obtain ⟨j, hj, rfl, hokc, hbw⟩ := hrel
        have hSw := Lib.hid (hSH.out.below hbw.out)
        have hCw := Lib.hid (hCH.out.below RSc.stable hbw.out)
        by_cases hjk : j < k
        · obtain ⟨c, he⟩ := hCw.out.get hjk
          have heH := Lib.hid he
          clear he
          cases hcb : cellB ts cs c
          · have hcbH := Lib.hid hcb
            clear hcb
            go_wp2_with (go_at_call 63; refine (l31Cell_any p C k cc gs ts cs c j _ hSw.out hCw.out hV.out heH.out _ hcbH.out).mono ?_; rintro e w4 ⟨rfl, hb4⟩; obtain ⟨chb4, fhb4, shb4, thb4⟩ := bcell hb4)
            go_ret
            exact ⟨ret_bool (by rw [vc_end hvH.out (by rw [hlq.out]; exact h80) (fun j hj => hok.out j (by rw [← hlq.out]; exact hj)) (allB_false (k := j) (by rw [hlq.out]; exact hjk) (by rw [cellJ_eq heH.out]; exact hcbH.out))]), by have := hbw.out; exact bel_⟩
          · have hcbH := Lib.hid hcb
            clear hcb
            go_wp2_with (go_at_call 63; refine (l31Cell_any p C k cc gs ts cs c j _ hSw.out hCw.out hV.out heH.out _ hcbH.out).mono ?_; rintro e w4 ⟨rfl, hb4⟩; obtain ⟨chb4, fhb4, shb4, thb4⟩ := bcell hb4)
            go_roundg (k - (j + 1))
            case measure => omega
            case rel => exact ⟨j + 1, by omega, by go_num, Lib.hid fun i hi => (by rcases Nat.lt_succ_iff_lt_or_eq.1 hi with hi | rfl; exact hokc.out i hi; rw [cellJ_eq heH.out]; exact hcbH.out), Lib.hid (by have := hbw.out; exact bel_)⟩
        · obtain rfl : j = k := by omega
          go_wp2
          go_ret
          exact ⟨ret_bool (by rw [vc_end hvH.out (by rw [hlq.out]; exact h80) (fun j hj => hok.out j (by rw [← hlq.out]; exact hj)) (allB_true (fun i hi => hokc.out i (by rw [← hlq.out]; exact hi)))]), hbw.out⟩
theorem sValidCells_any (G T C : Option Addr) (n cg m ct q cc : Nat) (gs : List Gl) (ts : List Sti) (cs : List Sc) (w : World) (hG : RdSl 2 RGl w G n gs) (hT : RdSl 4 RSti w T m ts) (hC : RdSl 6 RSc w C q cs) (hn : n ≤ 1073741824) (hm : m ≤ 1073741824) (hq : q ≤ 1073741824) (hbg : BigG gs) (hbs : BigS ts) :
    Calls Try.prog 7 #[.agg #[.slice G n cg, .slice T m ct], .slice C q cc] w fun e w' => e = .returned (.bool (validCellsB gs ts cs)) ∧ Below w.heap.size w w' := by
  have hln : gs.length ≤ 1073741824 := by rw [hG.len]; exact hn
  have hlm : ts.length ≤ 1073741824 := by rw [hT.len]; exact hm
  have hGH := Lib.hid hG
  have hTH := Lib.hid hT
  have hCH := Lib.hid hC
  have hbgH := Lib.hid hbg
  have hbsH := Lib.hid hbs
  clear hG hT hC hbg hbs
  go_enter Try.func7, Try.ntmps7
  go_wp2_with (go_at_call 27; refine (l31Ok_any w.heap.size C q cc gs ts cs _ ⟨by simp, ⟨G, n, cg, by go_simp, hGH.out.below RGl.stable (by exact bel_)⟩, ⟨T, m, ct, by go_simp, hTH.out.below RSti.stable (by exact bel_)⟩⟩ (hCH.out.below RSc.stable (by exact bel_)) hln hlm hq hbgH.out hbsH.out).mono ?_; rintro e w1 ⟨rfl, hb1⟩)
  go_ret
  exact ⟨rfl, by exact bel_⟩
end Go.Proofs.Ytbipnnjkddffbaa
