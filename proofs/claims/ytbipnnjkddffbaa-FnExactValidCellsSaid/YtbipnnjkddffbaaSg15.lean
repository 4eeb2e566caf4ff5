/- Walk: the reference's check of a signal set (printed by gen_sg15.py). -/
import Derived.Test.YtbipnnjkddffbaaSg14
namespace Go.Proofs.Ytbipnnjkddffbaa
open Go.RowKit Go.Shelf
set_option linter.unusedSimpArgs false
set_option linter.unusedVariables false
attribute [local go_sem] BelowBy.cell BelowBy.cell_drew stillUpon givesUpon BelowBy.cell_drewS2 BelowBy.cell_drewS3

theorem inS_at {a b c : Int} {v : Bool} {w : World} (h : inB a b c = v) :
    Calls Try.prog 110 #[.int .i64 a, .int .i64 b, .int .i64 c] w fun e w' => e = .returned (.bool v) ∧ w = w' := by
  rw [← h]; exact l00In_any _ _ _ _
theorem sg_no {gs : List Gl} {ts : List Sti} {k : Nat} {e : Sti} (hk : ts[k]? = some e) (h : okSt e = false) : sgSetB gs ts = false := by
  unfold sgSetB; rw [allB_false (lt_of_get hk) (by rw [okStJ_eq hk]; exact h), Bool.and_false]
theorem okSt_fire {e : Sti} {k : Nat} (hk : k < e.fires.length) (h : okFi e.sides e.fires k = false) : okSt e = false := by unfold okSt; rw [allB_false hk h]; simp
theorem okFi_eq {sd : List Int} {fs : List Fi} {k : Nat} {f : Fi} (h : fs[k]? = some f) : okFi sd fs k = fireOk sd f := by unfold okFi; rw [h]
theorem okSt_all {e : Sti} (h1 : e.on.length = 4) (h2 : e.fires.length ≤ 6) (h : ∀ j, j < 4 → okOn e j = true) (h3 : ∀ j, j < e.fires.length → okFi e.sides e.fires j = true) : okSt e = true := okSt_fires h1 h2 h (allB_true h3)
set_option maxRecDepth 100000 in
set_option maxHeartbeats 8000000 in
theorem l31Set_any (p : Nat) (gs : List Gl) (ts : List Sti) (w : World) (h : SgAt w p gs ts) (hn : gs.length ≤ 1073741824) (hm : ts.length ≤ 1073741824) (hbg : BigG gs) (hbs : BigS ts) :
    Calls Try.prog 60 #[.pointer (some ⟨p, 0, none⟩)] w fun e w' => e = .returned (.bool (sgSetB gs ts)) ∧ Below w.heap.size w w' := by
  have hsg := Lib.hid h
  have hbgH := Lib.hid hbg
  have hbsH := Lib.hid hbs
  have lp := h.lt
  have lp1 : p ≤ w.heap.size := by omega
  clear h hbg hbs
  cases hv : validSetB gs (tisOf ts)
  · have hvH := Lib.hid hv
    clear hv
    go_enter Try.func60, Try.ntmps60
    go_wp2_with (first
      | (go_at_call 109; refine (l31Plain_any p gs ts _ (hsg.out.below (by exact bel_)) hn hm (fun k e he => (hbsH.out k e he).2.1)).mono ?_; rintro e w1 ⟨vp, rfl, hsp, hb1⟩; obtain ⟨A, n2, cA, B, m2, cB, rfl, rA, rB⟩ := hsp.rd; have lA := rA.len; have lB := rB.len; rw [tisOf_len] at lB; have rAH := Lib.hid rA; have rBH := Lib.hid rB; clear rA rB hsp)
      | (go_at_call 95; refine (l02Ok_any (op := 0) w1.heap.size gs (tisOf ts) _ ⟨by simp, ⟨A, n2, cA, by go_simp, rAH.out.below RGl.stable (by exact bel_)⟩, ⟨B, m2, cB, by go_simp, rBH.out.below RTi.stable (by exact bel_)⟩⟩ (by omega) (by rw [tisOf_len]; omega) hbgH.out (fun k e he => by obtain ⟨t, ht, rfl⟩ := tisOf_inv he; exact ⟨(hbsH.out k t ht).1, by have := (hbsH.out k t ht).2.1; show t.sides.length ≤ _; omega⟩)).mono ?_; rw [hvH.out]; rintro e w2 ⟨rfl, hb2⟩))
    go_ret
    exact ⟨ret_bool (by unfold sgSetB; rw [hvH.out]; rfl), by exact bel_⟩
  have hvH := Lib.hid hv
  clear hv
  go_enter Try.func60, Try.ntmps60
  go_wp2_with (first
    | (go_at_call 109; refine (l31Plain_any p gs ts _ (hsg.out.below (by exact bel_)) hn hm (fun k e he => (hbsH.out k e he).2.1)).mono ?_; rintro e w1 ⟨vp, rfl, hsp, hb1⟩; obtain ⟨A, n2, cA, B, m2, cB, rfl, rA, rB⟩ := hsp.rd; have lA := rA.len; have lB := rB.len; rw [tisOf_len] at lB; have rAH := Lib.hid rA; have rBH := Lib.hid rB; clear rA rB hsp)
    | (go_at_call 95; refine (l02Ok_any (op := 0) w1.heap.size gs (tisOf ts) _ ⟨by simp, ⟨A, n2, cA, by go_simp, rAH.out.below RGl.stable (by exact bel_)⟩, ⟨B, m2, cB, by go_simp, rBH.out.below RTi.stable (by exact bel_)⟩⟩ (by omega) (by rw [tisOf_len]; omega) hbgH.out (fun k e he => by obtain ⟨t, ht, rfl⟩ := tisOf_inv he; exact ⟨(hbsH.out k t ht).1, by have := (hbsH.out k t ht).2.1; show t.sides.length ≤ _; omega⟩)).mono ?_; rw [hvH.out]; rintro e w2 ⟨rfl, hb2⟩))
  have hb0 := Lib.hid (show Below w.heap.size w w2 by exact bel_)
  clear hb1 hb2
  obtain ⟨m, hmE⟩ : ∃ m, ts.length = m := ⟨_, rfl⟩
  rw [hmE] at hm
  have hmH := Lib.hid hmE
  clear hmE lA lB
  go_loopg [4] m (fun r x wr => ∃ k : Nat, k + r = m ∧ x = .int .i64 (k : Int) ∧ Hid (∀ j, j < k → okStJ ts j = true) ∧ Hid (Below w.heap.size w wr))
  case atStart => exact ⟨0, by omega, rfl, Lib.hid (fun j hj => by omega), hb0⟩
  case round =>
    obtain ⟨k, hk, rfl, hok, hbw⟩ := hrel
    obtain ⟨lpw, ⟨G, n, cg, pg, hG⟩, ⟨TT, m', ct, pt, hT⟩⟩ := hsg.out.below hbw.out
    obtain rfl : m' = m := by rw [← hT.len]; exact hmH.out
    have lpw1 : p ≤ wr.heap.size := by omega
    by_cases hkm : k < m'
    · obtain ⟨bt, ot, rfl, hbt, hct⟩ := hT.ptr (by omega)
      obtain ⟨e, he⟩ := hT.get hkm
      obtain ⟨c0, ⟨SA, sn, sc, c1, hS⟩, ⟨OA, on, oc, c2, hO⟩, ⟨FA, fn, fc, c3, hF⟩⟩ := hct k e he
      obtain ⟨_, _, hl2, hl3⟩ := hbsH.out k e he
      have hs4 := valid_four hvH.out (tisOf_get he)
      have hs4 : e.sides.length = 4 := hs4
      rw [hS.len] at hs4
      subst hs4
      have hoL := Lib.hid hO.len
      have hfL := Lib.hid hF.len
      have hsL := Lib.hid hS.len
      rw [hO.len] at hl2
      rw [hF.len] at hl3
      have heH := Lib.hid he
      have hSH := Lib.hid hS
      have hOH := Lib.hid hO
      have hFH := Lib.hid hF
      have lbt : bt ≤ wr.heap.size := by omega
      clear hct he hS hO hF hT hG pg c0
      by_cases h4 : on = 4
      rotate_left
      · have h4b : ((on : Int) != 4) = true := by simp; omega
        have hr := Lib.hid (sg_no (gs := gs) heH.out (okSt_on (by rw [hoL.out]; exact h4)))
        clear h4
        go_wp2
        go_ret
        exact ⟨ret_bool hr.out.symm, by have := hbw.out; exact bel_⟩
      subst h4
      by_cases h6 : fn ≤ 6
      rotate_left
      · have hr := Lib.hid (sg_no (gs := gs) heH.out (okSt_fi (by rw [hfL.out]; exact h6)))
        go_wp2
        go_ret
        exact ⟨ret_bool hr.out.symm, by have := hbw.out; exact bel_⟩
      obtain ⟨wb, hwb⟩ : ∃ wb : World, wb = wr := ⟨_, rfl⟩
      subst hwb
      go_wp2
      go_loopg [6] 4 (fun r x wr => ∃ d : Nat, d + r = 4 ∧ x = .int .i64 (d : Int) ∧ Hid (∀ j, j < d → okOn e j = true) ∧ wb = wr)
      case atStart => exact ⟨0, by omega, rfl, Lib.hid (fun j hj => by omega), rfl⟩
      case round =>
        obtain ⟨d, hd, rfl, hokd, rfl⟩ := hrel
        by_cases hd4 : d < 4
        · obtain ⟨bo, oo, rfl, hbo, hco⟩ := hOH.out.ptr (by omega)
          obtain ⟨bs, os, rfl, hbs, hcs⟩ := hSH.out.ptr (by omega)
          obtain ⟨v, hv⟩ := hOH.out.get hd4
          obtain ⟨u, hu⟩ := hSH.out.get hd4
          have cv := hco d v hv
          have cu := hcs d u hu
          unfold RBool at cv
          unfold RInt at cu
          simp only [Nat.mul_one] at cv cu
          have hdI : (d : Int) < 4 := by omega
          have hvH := Lib.hid hv
          have huH := Lib.hid hu
          clear hco hcs hv hu
          cases v
          · have hr := Lib.hid (okOn_f hvH.out)
            go_wp2
            go_roundg (4 - (d + 1))
            case measure => omega
            case rel => exact ⟨d + 1, by omega, by go_num, Lib.hid fun j hj => (by rcases Nat.lt_succ_iff_lt_or_eq.1 hj with hj | rfl; exact hokd.out j hj; exact hr.out), rfl⟩
          · by_cases hu0 : u = 0
            · subst hu0
              have hr := Lib.hid (sg_no (gs := gs) heH.out (okSt_side (e := e) hd4 (by rw [okOn_t hvH.out huH.out]; rfl)))
              go_wp2
              go_ret
              exact ⟨ret_bool hr.out.symm, by have := hbw.out; exact bel_⟩
            · have hu2 : (u == 0) = false := by simp; omega
              have hr := Lib.hid (show okOn e d = true by rw [okOn_t hvH.out huH.out, decide_eq_false hu0]; rfl)
              clear hu0
              go_wp2
              go_roundg (4 - (d + 1))
              case measure => omega
              case rel => exact ⟨d + 1, by omega, by go_num, Lib.hid fun j hj => (by rcases Nat.lt_succ_iff_lt_or_eq.1 hj with hj | rfl; exact hokd.out j hj; exact hr.out), rfl⟩
        · obtain rfl : d = 4 := by omega
          go_wp2
          go_loopg [7] fn (fun r x wr => ∃ j : Nat, j + r = fn ∧ x = .int .i64 (j : Int) ∧ Hid (∀ i, i < j → okFi e.sides e.fires i = true) ∧ Hid (Below wb.heap.size wb wr))
          case atStart => exact ⟨0, by omega, rfl, Lib.hid (fun j hj => by omega), Lib.hid (bl_refl _)⟩
          case round =>
            obtain ⟨j, hj, rfl, hokj, hbx⟩ := hrel
            have lr : bt < wr.heap.size := Nat.lt_of_lt_of_le hbt hbx.out.size
            have lr1 : bt ≤ wr.heap.size := by omega
            have lpr : p < wr.heap.size := Nat.lt_of_lt_of_le lpw hbx.out.size
            have lpr1 : p ≤ wr.heap.size := by omega
            have c1 := (hbx.out.cell (p := ⟨bt, ot + k * 4 + 1, none⟩) hbt).trans c1
            have c2 := (hbx.out.cell (p := ⟨bt, ot + k * 4 + 2, none⟩) hbt).trans c2
            have c3 := (hbx.out.cell (p := ⟨bt, ot + k * 4 + 3, none⟩) hbt).trans c3
            by_cases hjf : j < fn
            · obtain ⟨bf, of, rfl, hbf, hcf⟩ := (hFH.out.below RFi.stable hbx.out).ptr (by omega)
              obtain ⟨f, hf⟩ := hFH.out.get hjf
              obtain ⟨f0, f1⟩ := hcf j f hf
              have hEq := Lib.hid (okFi_eq (sd := e.sides) hf)
              obtain ⟨bs, os, rfl, hbs, hcs⟩ := (hSH.out.below RInt.stable hbx.out).ptr (by omega)
              have hcsH := Lib.hid hcs
              have lf1 : bf ≤ wr.heap.size := by omega
              have ls1 : bs ≤ wr.heap.size := by omega
              have ls2 : bs < wr.heap.size + 1 := by omega
              have lt2 : bt < wr.heap.size + 1 := by omega
              have hoE := Lib.hid (fun (hq : fireOk e.sides f = false) => sg_no (gs := gs) heH.out (okSt_fire (by rw [hfL.out]; exact hjf) (by rw [hEq.out]; exact hq)))
              obtain ⟨a, ha⟩ : ∃ a, f.f = a := ⟨_, rfl⟩
              obtain ⟨b, hb⟩ : ∃ b, f.t = b := ⟨_, rfl⟩
              have hF := Lib.hid (show fireOk e.sides f = (inB a 0 3 && (inB b 0 3 && (decide (a ≠ b) && (decide (sideAt e.sides a ≠ 0) && decide (sideAt e.sides b ≠ 0))))) by unfold fireOk; rw [ha, hb])
              rw [ha] at f0
              rw [hb] at f1
              clear ha hb hcf hf hcs

              cases h1 : inB a 0 3
              · have h1H := Lib.hid h1
                have h2H : Hid (inB b 0 3 = inB b 0 3) := Lib.hid rfl
                have hr := Lib.hid (hoE.out (by rw [hF.out]; rw [h1]; rfl))
                clear h1
                go_wp2
                refine wp_region_ord [(0, .q), (1, .q), (2, .g), (3, .q), (4, .q), (5, .q), (6, .q), (7, .g), (8, .q), (9, .q), (10, .q), (11, .q), (12, .q), (13, .q), (14, .q), (15, .q), (16, .q), (17, .q), (18, .q), (19, .q), (20, .q), (21, .q), (22, .q), (23, .q), (24, .q), (25, .q), (26, .q), (27, .q), (28, .q), (29, .q), (30, .q), (31, .q), (32, .q), (33, .q), (34, .q), (35, .q), (36, .q), (37, .q), (38, .q)] (by kernel_rfl) (by kernel_rfl) ?_
                simp only [pick, List.filterMap_cons, List.filterMap_nil, List.getElem?_toArray, List.getElem?_cons_zero, List.getElem?_cons_succ, Option.map_some]
                repeat (first
                  | ((with_reducible refine wpD_p (fun K hK => ?_)); go_simp; refine hK _ ?_; clear hK K)
                  | ((with_reducible refine wpD_q (fun K hK => ?_)); go_simp; (first | refine hK _ ?_ | (go_bits; refine hK _ ?_) | (go_bits; go_simp; refine hK _ ?_)); clear hK K)
                  | ((with_reducible refine wpD_g (fun K hK => ?_)); go_simp; refine hK _ _ ?_; clear hK K)
                  | ((with_reducible refine wpD_g (fun K hK => ?_)); go_simp; refine ⟨Grew.of_alloc _, hK _ _ ?_⟩; clear hK K)
                  | ((with_reducible refine wpD_g (fun K hK => ?_)); go_simp; refine ⟨Below.refl _ _, hK _ _ ?_⟩; clear hK K)
                  | ((with_reducible refine wpD_g (fun K hK => ?_)); go_simp; go_at_call 110; refine (inS_at (by first | exact h1H.out | exact h2H.out)).mono ?_; rintro e _ ⟨rfl, rfl⟩; refine ⟨_, rfl, Below.refl _ _, hK _ _ ?_⟩; clear hK K))
                with_reducible refine wpD_nil ?_
                go_wp2
                go_ret
                exact ⟨ret_bool hr.out.symm, by have := hbw.out; have := hbx.out; exact bel_⟩
              cases h2 : inB b 0 3
              · have h1H := Lib.hid h1
                have h2H := Lib.hid h2
                have hr := Lib.hid (hoE.out (by rw [hF.out]; rw [h2]; simp))
                clear h1 h2
                go_wp2
                refine wp_region_ord [(0, .q), (1, .q), (2, .g), (3, .q), (4, .q), (5, .q), (6, .q), (7, .g), (8, .q), (9, .q), (10, .q), (11, .q), (12, .q), (13, .q), (14, .q), (15, .q), (16, .q), (17, .q), (18, .q), (19, .q), (20, .q), (21, .q), (22, .q), (23, .q), (24, .q), (25, .q), (26, .q), (27, .q), (28, .q), (29, .q), (30, .q), (31, .q), (32, .q), (33, .q), (34, .q), (35, .q), (36, .q), (37, .q), (38, .q)] (by kernel_rfl) (by kernel_rfl) ?_
                simp only [pick, List.filterMap_cons, List.filterMap_nil, List.getElem?_toArray, List.getElem?_cons_zero, List.getElem?_cons_succ, Option.map_some]
                repeat (first
                  | ((with_reducible refine wpD_p (fun K hK => ?_)); go_simp; refine hK _ ?_; clear hK K)
                  | ((with_reducible refine wpD_q (fun K hK => ?_)); go_simp; (first | refine hK _ ?_ | (go_bits; refine hK _ ?_) | (go_bits; go_simp; refine hK _ ?_)); clear hK K)
                  | ((with_reducible refine wpD_g (fun K hK => ?_)); go_simp; refine hK _ _ ?_; clear hK K)
                  | ((with_reducible refine wpD_g (fun K hK => ?_)); go_simp; refine ⟨Grew.of_alloc _, hK _ _ ?_⟩; clear hK K)
                  | ((with_reducible refine wpD_g (fun K hK => ?_)); go_simp; refine ⟨Below.refl _ _, hK _ _ ?_⟩; clear hK K)
                  | ((with_reducible refine wpD_g (fun K hK => ?_)); go_simp; go_at_call 110; refine (inS_at (by first | exact h1H.out | exact h2H.out)).mono ?_; rintro e _ ⟨rfl, rfl⟩; refine ⟨_, rfl, Below.refl _ _, hK _ _ ?_⟩; clear hK K))
                with_reducible refine wpD_nil ?_
                go_wp2
                go_ret
                exact ⟨ret_bool hr.out.symm, by have := hbw.out; have := hbx.out; exact bel_⟩
              obtain ⟨x, rfl, hx⟩ : ∃ x : Nat, a = x ∧ x < 4 := ⟨a.toNat, by have := inB_true.1 h1; omega, by have := inB_true.1 h1; omega⟩
              obtain ⟨y, rfl, hy⟩ : ∃ y : Nat, b = y ∧ y < 4 := ⟨b.toNat, by have := inB_true.1 h2; omega, by have := inB_true.1 h2; omega⟩
              obtain ⟨v, hv⟩ := hSH.out.get hx
              obtain ⟨u, hu⟩ := hSH.out.get hy
              have x1 := hcsH.out x v hv
              have x2 := hcsH.out y u hu
              unfold RInt at x1 x2
              simp only [Nat.mul_one] at x1 x2
              have hF := Lib.hid (show fireOk e.sides f = (decide ((x : Int) ≠ y) && (decide (v ≠ 0) && decide (u ≠ 0))) by rw [hF.out, h1, h2, sideAt_eq hv, sideAt_eq hu]; rfl)
              have h1H := Lib.hid h1
              have h2H := Lib.hid h2
              have hxI : (x : Int) < 4 := by omega
              have hyI : (y : Int) < 4 := by omega
              clear h1 h2 hv hu
              by_cases hxy : x = y
              · subst hxy
                have hr := Lib.hid (hoE.out (by rw [hF.out]; simp))
                go_wp2
                refine wp_region_ord [(0, .q), (1, .q), (2, .g), (3, .q), (4, .q), (5, .q), (6, .q), (7, .g), (8, .q), (9, .q), (10, .q), (11, .q), (12, .q), (13, .q), (14, .q), (15, .q), (16, .q), (17, .q), (18, .q), (19, .q), (20, .q), (21, .q), (22, .q), (23, .q), (24, .q), (25, .q), (26, .q), (27, .q), (28, .q), (29, .q), (30, .q), (31, .q), (32, .q), (33, .q), (34, .q), (35, .q), (36, .q), (37, .q), (38, .q)] (by kernel_rfl) (by kernel_rfl) ?_
                simp only [pick, List.filterMap_cons, List.filterMap_nil, List.getElem?_toArray, List.getElem?_cons_zero, List.getElem?_cons_succ, Option.map_some]
                repeat (first
                  | ((with_reducible refine wpD_p (fun K hK => ?_)); go_simp; refine hK _ ?_; clear hK K)
                  | ((with_reducible refine wpD_q (fun K hK => ?_)); go_simp; (first | refine hK _ ?_ | (go_bits; refine hK _ ?_) | (go_bits; go_simp; refine hK _ ?_)); clear hK K)
                  | ((with_reducible refine wpD_g (fun K hK => ?_)); go_simp; refine hK _ _ ?_; clear hK K)
                  | ((with_reducible refine wpD_g (fun K hK => ?_)); go_simp; refine ⟨Grew.of_alloc _, hK _ _ ?_⟩; clear hK K)
                  | ((with_reducible refine wpD_g (fun K hK => ?_)); go_simp; refine ⟨Below.refl _ _, hK _ _ ?_⟩; clear hK K)
                  | ((with_reducible refine wpD_g (fun K hK => ?_)); go_simp; go_at_call 110; refine (inS_at (by first | exact h1H.out | exact h2H.out)).mono ?_; rintro e _ ⟨rfl, rfl⟩; refine ⟨_, rfl, Below.refl _ _, hK _ _ ?_⟩; clear hK K))
                with_reducible refine wpD_nil ?_
                go_wp2
                go_ret
                exact ⟨ret_bool hr.out.symm, by have := hbw.out; have := hbx.out; exact bel_⟩
              have hxy2 : ((x : Int) == (y : Int)) = false := by simp; omega
              by_cases hv0 : v = 0
              · subst hv0
                have hr := Lib.hid (hoE.out (by rw [hF.out]; simp))
                go_wp2
                refine wp_region_ord [(0, .q), (1, .q), (2, .g), (3, .q), (4, .q), (5, .q), (6, .q), (7, .g), (8, .q), (9, .q), (10, .q), (11, .q), (12, .q), (13, .q), (14, .q), (15, .q), (16, .q), (17, .q), (18, .q), (19, .q), (20, .q), (21, .q), (22, .q), (23, .q), (24, .q), (25, .q), (26, .q), (27, .q), (28, .q), (29, .q), (30, .q), (31, .q), (32, .q), (33, .q), (34, .q), (35, .q), (36, .q), (37, .q), (38, .q)] (by kernel_rfl) (by kernel_rfl) ?_
                simp only [pick, List.filterMap_cons, List.filterMap_nil, List.getElem?_toArray, List.getElem?_cons_zero, List.getElem?_cons_succ, Option.map_some]
                repeat (first
                  | ((with_reducible refine wpD_p (fun K hK => ?_)); go_simp; refine hK _ ?_; clear hK K)
                  | ((with_reducible refine wpD_q (fun K hK => ?_)); go_simp; (first | refine hK _ ?_ | (go_bits; refine hK _ ?_) | (go_bits; go_simp; refine hK _ ?_)); clear hK K)
                  | ((with_reducible refine wpD_g (fun K hK => ?_)); go_simp; refine hK _ _ ?_; clear hK K)
                  | ((with_reducible refine wpD_g (fun K hK => ?_)); go_simp; refine ⟨Grew.of_alloc _, hK _ _ ?_⟩; clear hK K)
                  | ((with_reducible refine wpD_g (fun K hK => ?_)); go_simp; refine ⟨Below.refl _ _, hK _ _ ?_⟩; clear hK K)
                  | ((with_reducible refine wpD_g (fun K hK => ?_)); go_simp; go_at_call 110; refine (inS_at (by first | exact h1H.out | exact h2H.out)).mono ?_; rintro e _ ⟨rfl, rfl⟩; refine ⟨_, rfl, Below.refl _ _, hK _ _ ?_⟩; clear hK K))
                with_reducible refine wpD_nil ?_
                go_wp2
                go_ret
                exact ⟨ret_bool hr.out.symm, by have := hbw.out; have := hbx.out; exact bel_⟩
              have hv2 : (v == 0) = false := by simp; omega
              by_cases hu0 : u = 0
              · subst hu0
                have hr := Lib.hid (hoE.out (by rw [hF.out]; simp))
                go_wp2
                refine wp_region_ord [(0, .q), (1, .q), (2, .g), (3, .q), (4, .q), (5, .q), (6, .q), (7, .g), (8, .q), (9, .q), (10, .q), (11, .q), (12, .q), (13, .q), (14, .q), (15, .q), (16, .q), (17, .q), (18, .q), (19, .q), (20, .q), (21, .q), (22, .q), (23, .q), (24, .q), (25, .q), (26, .q), (27, .q), (28, .q), (29, .q), (30, .q), (31, .q), (32, .q), (33, .q), (34, .q), (35, .q), (36, .q), (37, .q), (38, .q)] (by kernel_rfl) (by kernel_rfl) ?_
                simp only [pick, List.filterMap_cons, List.filterMap_nil, List.getElem?_toArray, List.getElem?_cons_zero, List.getElem?_cons_succ, Option.map_some]
                repeat (first
                  | ((with_reducible refine wpD_p (fun K hK => ?_)); go_simp; refine hK _ ?_; clear hK K)
                  | ((with_reducible refine wpD_q (fun K hK => ?_)); go_simp; (first | refine hK _ ?_ | (go_bits; refine hK _ ?_) | (go_bits; go_simp; refine hK _ ?_)); clear hK K)
                  | ((with_reducible refine wpD_g (fun K hK => ?_)); go_simp; refine hK _ _ ?_; clear hK K)
                  | ((with_reducible refine wpD_g (fun K hK => ?_)); go_simp; refine ⟨Grew.of_alloc _, hK _ _ ?_⟩; clear hK K)
                  | ((with_reducible refine wpD_g (fun K hK => ?_)); go_simp; refine ⟨Below.refl _ _, hK _ _ ?_⟩; clear hK K)
                  | ((with_reducible refine wpD_g (fun K hK => ?_)); go_simp; go_at_call 110; refine (inS_at (by first | exact h1H.out | exact h2H.out)).mono ?_; rintro e _ ⟨rfl, rfl⟩; refine ⟨_, rfl, Below.refl _ _, hK _ _ ?_⟩; clear hK K))
                with_reducible refine wpD_nil ?_
                go_wp2
                go_ret
                exact ⟨ret_bool hr.out.symm, by have := hbw.out; have := hbx.out; exact bel_⟩
              have hu2 : (u == 0) = false := by simp; omega
              have hr := Lib.hid (show okFi e.sides e.fires j = true by rw [hEq.out, hF.out, decide_eq_true hv0, decide_eq_true hu0, decide_eq_true (show (x : Int) ≠ y by omega)]; rfl)
              clear hv0 hu0
              go_wp2
              refine wp_region_ord [(0, .q), (1, .q), (2, .g), (3, .q), (4, .q), (5, .q), (6, .q), (7, .g), (8, .q), (9, .q), (10, .q), (11, .q), (12, .q), (13, .q), (14, .q), (15, .q), (16, .q), (17, .q), (18, .q), (19, .q), (20, .q), (21, .q), (22, .q), (23, .q), (24, .q), (25, .q), (26, .q), (27, .q), (28, .q), (29, .q), (30, .q), (31, .q), (32, .q), (33, .q), (34, .q), (35, .q), (36, .q), (37, .q), (38, .q)] (by kernel_rfl) (by kernel_rfl) ?_
              simp only [pick, List.filterMap_cons, List.filterMap_nil, List.getElem?_toArray, List.getElem?_cons_zero, List.getElem?_cons_succ, Option.map_some]
              repeat (first
                | ((with_reducible refine wpD_p (fun K hK => ?_)); go_simp; refine hK _ ?_; clear hK K)
                | ((with_reducible refine wpD_q (fun K hK => ?_)); go_simp; (first | refine hK _ ?_ | (go_bits; refine hK _ ?_) | (go_bits; go_simp; refine hK _ ?_)); clear hK K)
                | ((with_reducible refine wpD_g (fun K hK => ?_)); go_simp; refine hK _ _ ?_; clear hK K)
                | ((with_reducible refine wpD_g (fun K hK => ?_)); go_simp; refine ⟨Grew.of_alloc _, hK _ _ ?_⟩; clear hK K)
                | ((with_reducible refine wpD_g (fun K hK => ?_)); go_simp; refine ⟨Below.refl _ _, hK _ _ ?_⟩; clear hK K)
                | ((with_reducible refine wpD_g (fun K hK => ?_)); go_simp; go_at_call 110; refine (inS_at (by first | exact h1H.out | exact h2H.out)).mono ?_; rintro e _ ⟨rfl, rfl⟩; refine ⟨_, rfl, Below.refl _ _, hK _ _ ?_⟩; clear hK K))
              with_reducible refine wpD_nil ?_
              go_wp2
              go_roundg (fn - (j + 1))
              case measure => omega
              case rel => exact ⟨j + 1, by omega, by go_num, Lib.hid fun i hi => (by rcases Nat.lt_succ_iff_lt_or_eq.1 hi with hi | rfl; exact hokj.out i hi; exact hr.out), Lib.hid (by have := hbx.out; exact bel_)⟩
            · obtain rfl : j = fn := by omega
              have hr := Lib.hid (show okStJ ts k = true by rw [okStJ_eq heH.out]; exact okSt_all hoL.out (by rw [hfL.out]; exact h6) hokd.out (fun i hi => hokj.out i (by rw [← hfL.out]; exact hi)))
              go_wp2
              go_roundg (m' - (k + 1))
              case measure => omega
              case rel => exact ⟨k + 1, by omega, by go_num, Lib.hid fun i hi => (by rcases Nat.lt_succ_iff_lt_or_eq.1 hi with hi | rfl; exact hok.out i hi; exact hr.out), Lib.hid (by have := hbw.out; have := hbx.out; exact bel_)⟩
    · obtain rfl : k = m' := by omega
      clear hT hG
      go_wp2
      go_ret
      exact ⟨ret_bool (by unfold sgSetB; rw [hvH.out, hmH.out, allB_true hok.out]; rfl), hbw.out⟩
end Go.Proofs.Ytbipnnjkddffbaa
