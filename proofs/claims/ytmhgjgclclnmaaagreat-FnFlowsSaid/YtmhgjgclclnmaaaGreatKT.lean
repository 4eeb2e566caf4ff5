import Derived.Test.YtmhgjgclclnmaaaGreatKM
import Derived.Test.YtmhgjgclclnmaaaGreatF7
import Derived.Test.YtmhgjgclclnmaaaGreatKF
import Derived.Test.YtmhgjgclclnmaaaGreatW17
import Derived.Test.YtmhgjgclclnmaaaGreatKE
import Derived.Deep.CutRange
import Derived.Laws.OwnMore
set_option linter.unusedSimpArgs false
set_option linter.unusedVariables false
/- Walks: codes; the program's SeparatingPart. -/


namespace Go.Proofs.YtmhgjgclclnmaaaGreat
open Go.RowKit Go.Shelf
attribute [local go_sem] BelowBy.cell BelowBy.cell_drew stillUpon givesUpon BelowBy.cell_drew2 BelowBy.cell_drew3

set_option maxRecDepth 100000 in
set_option maxHeartbeats 2000000 in
theorem fullCut_at {G T A : Option Addr} {n cg m ct q ca : Nat} {gs : List Gl} {ts : List Ti} {xs : List Pl} {w : World} (h : SA w G n T m A q gs ts xs) (x y : Int) {r : Int} (hr : fullCode (validAsmB gs ts xs) xs.length x y = r) :
    Calls Tryz.prog 44 #[.agg #[.slice G n cg, .slice T m ct], .agg #[.slice A q ca], .int .i64 x, .int .i64 y] w fun e w' => e = .returned (.int .i64 r) ∧ Below w.heap.size w w' := by
  have hH := Lib.hid h
  have hq := h.q
  have hgm := h.gm
  have htm := h.tm
  have hgm2 : n ≤ 281474976710656 := by omega
  have htm2 : m ≤ 281474976710656 := by omega
  obtain ⟨cc, hcE⟩ : ∃ cc, cutCodeI (validAsmB gs ts xs) xs.length x y = cc := ⟨_, rfl⟩
  have hcH := Lib.hid hcE
  have hr1 : r = if cc ≠ 0 then cc else if 64 < q then 4 else 0 := by rw [← hr]; unfold fullCode; rw [hcE, h.A.len]
  clear hr h hcE
  by_cases hc0 : cc = 0
  · subst hc0
    rw [if_neg (by simp)] at hr1
    by_cases h64 : 64 < q
    · rw [if_pos h64] at hr1
      subst hr1
      go_enter Tryz.func44, Tryz.ntmps44
      go_wp2_with (go_at_call 50; refine (cutCode_at (hH.out.G.below RGl.stable (by exact bel_)) (hH.out.T.below RTi.stable (by exact bel_)) (hH.out.A.below RPl.stable (by exact bel_)) hgm2 htm2 hq hH.out.gn hH.out.tn hcH.out).mono ?_; rintro e w1 ⟨rfl, hb1⟩; have ca1 := (hb1.cell (p := ⟨w.heap.size + 1, 0, none⟩) (by simp)).trans (show _ = some (Value.slice A q ca) by go_simp); have la1 : w.heap.size + 1 < w1.heap.size := by have := hb1.size; simp at this; omega)
      go_ret
      exact ⟨rfl, by exact bel_⟩
    · rw [if_neg h64] at hr1
      subst hr1
      go_enter Tryz.func44, Tryz.ntmps44
      go_wp2_with (go_at_call 50; refine (cutCode_at (hH.out.G.below RGl.stable (by exact bel_)) (hH.out.T.below RTi.stable (by exact bel_)) (hH.out.A.below RPl.stable (by exact bel_)) hgm2 htm2 hq hH.out.gn hH.out.tn hcH.out).mono ?_; rintro e w1 ⟨rfl, hb1⟩; have ca1 := (hb1.cell (p := ⟨w.heap.size + 1, 0, none⟩) (by simp)).trans (show _ = some (Value.slice A q ca) by go_simp); have la1 : w.heap.size + 1 < w1.heap.size := by have := hb1.size; simp at this; omega)
      go_ret
      exact ⟨rfl, by exact bel_⟩
  · have hc1 : (cc != 0) = true := by simpa using hc0
    rw [if_pos hc0] at hr1
    subst hr1
    go_enter Tryz.func44, Tryz.ntmps44
    go_wp2_with (go_at_call 50; refine (cutCode_at (hH.out.G.below RGl.stable (by exact bel_)) (hH.out.T.below RTi.stable (by exact bel_)) (hH.out.A.below RPl.stable (by exact bel_)) hgm2 htm2 hq hH.out.gn hH.out.tn hcH.out).mono ?_; rintro e w1 ⟨rfl, hb1⟩)
    go_ret
    exact ⟨rfl, by exact bel_⟩
set_option maxRecDepth 100000 in
set_option maxHeartbeats 2000000 in
theorem SeparatingPart_any (G T A : Option Addr) (n cg m ct q ca : Nat) (gs : List Gl) (ts : List Ti) (xs : List Pl) (x y : Int) (w : World) (h : SA w G n T m A q gs ts xs) :
    Calls Tryz.prog 14 #[.agg #[.slice G n cg, .slice T m ct], .agg #[.slice A q ca], .int .i64 x, .int .i64 y] w (IntsRes w (sepR gs ts xs x y)) := by
  have hSA := Lib.hid h
  have hlen := h.A.len
  have hq := h.q
  clear h
  obtain ⟨r, hrE⟩ : ∃ r, fullCode (validAsmB gs ts xs) xs.length x y = r := ⟨_, rfl⟩
  have hrH := Lib.hid hrE
  by_cases hr0 : r = 0
  · subst hr0
    obtain ⟨hval, x, y, rfl, rfl, hx, hy, hxy, h64⟩ := fullCode_zero hrE
    have hV := valid_of hval
    have hbo := Lib.hid (bondsOk hV)
    have hbl := bondsL_len hV
    clear hrE hval
    rw [hlen] at hx hy h64
    go_enter Tryz.func14, Tryz.ntmps14
    go_wp2_with (go_at_call 44; refine (fullCut_at (hSA.out.below (by exact bel_)) _ _ hrH.out).mono ?_; rintro e w1 ⟨rfl, hb1⟩; have ca1 := (hb1.cell (p := ⟨w.heap.size + 1, 0, none⟩) (by simp)).trans (show _ = some (Value.slice A q ca) by go_simp); have cg1 := (hb1.cell (p := ⟨w.heap.size, 0, none⟩) (by simp; omega)).trans (show _ = some (Value.slice G n cg) by go_simp); have ct1 := (hb1.cell (p := ⟨w.heap.size, 1, none⟩) (by simp; omega)).trans (show _ = some (Value.slice T m ct) by go_simp); have la1 : w.heap.size + 1 < w1.heap.size := by have := hb1.size; simp at this; omega)
    have hb1H : Below w.heap.size w w1 := by exact bel_
    have lg1 : w.heap.size < w1.heap.size := by omega
    refine wp_region_ord [(0, .q), (1, .q), (2, .q), (3, .q), (4, .q), (6, .q), (7, .q), (5, .g), (8, .g), (9, .q), (10, .q), (11, .q), (12, .q), (13, .q)] (by kernel_rfl) (by kernel_rfl) ?_
    simp only [pick, List.filterMap_cons, List.filterMap_nil, List.getElem?_toArray, List.getElem?_cons_zero, List.getElem?_cons_succ, Option.map_some]
    repeat (first | ((with_reducible refine wpD_p (fun K hK => ?_)); go_simp; refine hK _ ?_; clear hK K) | ((with_reducible refine wpD_q (fun K hK => ?_)); go_simp; (first | refine hK _ ?_ | (go_bits; refine hK _ ?_) | (go_bits; go_simp; refine hK _ ?_)); clear hK K))
    with_reducible refine wpD_g (fun K hK => ?_)
    go_simp
    refine ((hSA.out.below (by exact bel_)).bonds hV).mono ?_
    rintro e w2 ⟨v, rfl, hrow, hb2⟩
    obtain ⟨B, cb, rfl, hB⟩ := rd_of_row hrow
    refine ⟨_, rfl, hb2, hK _ _ ?_⟩
    clear hK K hrow
    have hBH := Lib.hid hB
    have hbq := Lib.hid (show BondsOk q (bondsL gs ts xs) by rw [← hlen]; exact hbo.out)
    clear hB
    with_reducible refine wpD_g (fun K hK => ?_)
    go_simp
    refine (flowing_any q x y B cb (bondsL gs ts xs) _ hBH.out hbq.out hx hy hxy (by omega) (by omega)).mono ?_
    rintro e w3 ⟨p, vR, vF, uR, uF, rfl, hN, hb3⟩
    refine ⟨_, rfl, hb3, hK _ _ ?_⟩
    have hNH := Lib.hid hN
    clear hK K hN
    repeat (first | ((with_reducible refine wpD_p (fun K hK => ?_)); go_simp; refine hK _ ?_; clear hK K) | ((with_reducible refine wpD_q (fun K hK => ?_)); go_simp; (first | refine hK _ ?_ | (go_bits; refine hK _ ?_) | (go_bits; go_simp; refine hK _ ?_)); clear hK K))
    with_reducible refine wpD_nil ?_
    go_wp2_with (go_at_call 52; refine (leadingTo_any _ p q y _ _ vR vF uR uF _ hNH.out hy (by omega)).mono ?_; rw [freeE_eq hbq.out (iterF_inv hbq.out x y _)]; rintro e w4 ⟨v, rfl, hrow, hb4⟩; have hrowH := Lib.hid hrow; clear hrow)
    go_ret2
    have hbel : Below w.heap.size w w4 := by exact bel_
    have hbel3 : Below w.heap.size w w3 := by exact bel_
    refine IntsRes.of (sepR_yes hrH.out) ?_ hbel
    have h5 := hrowH.out
    unfold lastF
    rw [hlen, show (intsI (leadL q (edgeB (bondsL gs ts xs) (iterF q (bondsL gs ts xs) x y (flowV q (bondsL gs ts xs) x y))) y q)).length = (leadL q (edgeB (bondsL gs ts xs) (iterF q (bondsL gs ts xs) x y (flowV q (bondsL gs ts xs) x y))) y q).length by simp [intsI]]
    exact ownsRow_base h5 hbel3.size
  · have hr0' : (r != 0) = true := by simpa using hr0
    clear hrE
    go_enter Tryz.func14, Tryz.ntmps14
    go_wp2_with (go_at_call 44; refine (fullCut_at (hSA.out.below (by exact bel_)) _ _ hrH.out).mono ?_; rintro e w1 ⟨rfl, hb1⟩)
    go_ret2
    exact IntsRes.of (sepR_no hrH.out hr0) (World.ownsRow_nil _ _ _ _) (by exact bel_)
end Go.Proofs.YtmhgjgclclnmaaaGreat
/- Walk: the program's FlowBetween. -/


namespace Go.Proofs.YtmhgjgclclnmaaaGreat
open Go.RowKit Go.Shelf
attribute [local go_sem] BelowBy.cell BelowBy.cell_drew stillUpon givesUpon BelowBy.cell_drew2 BelowBy.cell_drew3

set_option maxRecDepth 100000 in
set_option maxHeartbeats 2000000 in
theorem FlowBetween_any (G T A : Option Addr) (n cg m ct q ca : Nat) (gs : List Gl) (ts : List Ti) (xs : List Pl) (x y : Int) (w : World) (h : SA w G n T m A q gs ts xs) :
    Calls Tryz.prog 10 #[.agg #[.slice G n cg, .slice T m ct], .agg #[.slice A q ca], .int .i64 x, .int .i64 y] w (FluxRes w (fluxR gs ts xs x y)) := by
  obtain ⟨i0, hi, hz0, hz1, hz2⟩ := info_parts infoI
  have hSA := Lib.hid h
  have hlen := h.A.len
  have hq := h.q
  clear h
  obtain ⟨r, hrE⟩ : ∃ r, fullCode (validAsmB gs ts xs) xs.length x y = r := ⟨_, rfl⟩
  have hrH := Lib.hid hrE
  by_cases hr0 : r = 0
  · subst hr0
    obtain ⟨hval, x, y, rfl, rfl, hx, hy, hxy, h64⟩ := fullCode_zero hrE
    have hV := valid_of hval
    have hbo := Lib.hid (bondsOk hV)
    have hbl := bondsL_len hV
    clear hrE hval
    rw [hlen] at hx hy h64
    have hbq := Lib.hid (show BondsOk q (bondsL gs ts xs) by rw [← hlen]; exact hbo.out)
    go_enter Tryz.func10, Tryz.ntmps10
    go_wp2_with (first
      | (go_at_call 44; refine (fullCut_at (hSA.out.below (by exact bel_)) _ _ hrH.out).mono ?_; rintro e w1 ⟨rfl, hb1⟩; have ca1 := (hb1.cell (p := ⟨w.heap.size + 1, 0, none⟩) (by simp)).trans (show _ = some (Value.slice A q ca) by go_simp); have cg1 := (hb1.cell (p := ⟨w.heap.size, 0, none⟩) (by simp; omega)).trans (show _ = some (Value.slice G n cg) by go_simp); have ct1 := (hb1.cell (p := ⟨w.heap.size, 1, none⟩) (by simp; omega)).trans (show _ = some (Value.slice T m ct) by go_simp); have la1 : w.heap.size + 1 < w1.heap.size := (by have := hb1.size; simp at this; omega); have lg1 : w.heap.size < w1.heap.size := (by omega); have hb1H : Below w.heap.size w w1 := (by exact bel_))
      | (go_at_call 45; refine ((hSA.out.below (by exact bel_)).bonds hV).mono ?_; rintro e w2 ⟨v, rfl, hrow, hb2⟩; obtain ⟨B, cb, rfl, hB⟩ := rd_of_row hrow; have hBH := Lib.hid hB; have ca2 := (hb2.cell (p := ⟨w.heap.size + 1, 0, none⟩) la1).trans ca1; have la2 : w.heap.size + 1 < w2.heap.size := Nat.lt_of_lt_of_le la1 hb2.size; clear hrow hB)
      | (go_at_call 46; refine (flowing_any q x y B cb (bondsL gs ts xs) _ hBH.out hbq.out hx hy hxy (by omega) (by omega)).mono ?_; rintro e w3 ⟨p, vR, vF, uR, uF, rfl, hN, hb3⟩; have hNH := Lib.hid hN; clear hN))
    have hbel3 : Below w.heap.size w w3 := by exact bel_
    have hbel3H := Lib.hid hbel3
    have hBH3 := Lib.hid (hBH.out.below RBd.stable hb3)
    have hs3 := hbel3.size
    obtain ⟨N, hNE⟩ : ∃ N, (bondsL gs ts xs).length = N := ⟨_, rfl⟩
    have hNEH := Lib.hid hNE
    rw [hNE] at hBH3 hbl ⊢
    obtain ⟨fv, hfv⟩ : ∃ fv, flowV q (bondsL gs ts xs) x y = fv := ⟨_, rfl⟩
    have hfvH := Lib.hid hfv
    rw [hfv]
    clear hbel3 hBH hb3 hb2 hb1 hb1H ca2 la2 ca1 cg1 ct1 la1 lg1 hNE hfv
    go_loopg [41, 15] N (fun gk i v wr => ∃ k : Nat, k + gk = N ∧ i = .int .i64 (k : Int) ∧ Hid (wr.ownsRow w3.heap.size 2 1 v k ((flowL gs ts xs x y k).map (Value.int .i64))) ∧ Hid (Below w3.heap.size w3 wr))
    case atStart => exact ⟨0, by omega, rfl, Lib.hid (World.ownsRow_nil _ _ _ _), Lib.hid (bl_refl _)⟩
    case round =>
      obtain ⟨k, hk, rfl, hrow, hbw⟩ := hrel
      obtain ⟨A1, c1', rfl⟩ := ownsRow_form hrow.out
      have hsz := hbw.out.size
      by_cases hkn : k < N
      · have hBw := hBH3.out.below RBd.stable hbw.out
        obtain ⟨bb, ob, rfl, hbb, hbc⟩ := hBw.ptr (by omega)
        obtain ⟨e, he⟩ := hBw.get hkn
        obtain ⟨e0, e1, e2⟩ := hbc k e he
        have hea := hbq.out.a k e he
        have heb := hbq.out.b k e he
        have hflow := flowM_at (bondsL_simple gs ts xs) (iterF q (bondsL gs ts xs) x y (flowV q (bondsL gs ts xs) x y)) he (bondsL gs ts xs).length
        rw [hNEH.out, if_pos hkn] at hflow
        have hNw := Lib.hid (hNH.out.below hbw.out)
        obtain ⟨g, cap, g', cap', hvF, c1, l1, l2, _, hbg, hx5, hown5, hcols⟩ := hNw.out.F.at hea
        have c2 := hcols e.b heb
        rw [hNEH.out, hflow] at c2
        have c0 := hNw.out.flow
        rw [hvF] at c0
        have l0 := hNw.out.lt
        obtain ⟨fk, hfk⟩ : ∃ fk, iterF q (bondsL gs ts xs) x y (flowV q (bondsL gs ts xs) x y) k = fk := ⟨_, rfl⟩
        rw [hfk] at c2
        have hfkH := Lib.hid (show lastF gs ts xs x y k = fk by unfold lastF; rw [hlen, hfk])
        clear hbc he hBw hvF hx5 hown5 hcols hflow hfk
        go_wp2
        refine wp_region_ord [(0, .q), (1, .q), (2, .q), (3, .q), (4, .q), (5, .q), (6, .q), (7, .q), (8, .q), (9, .q), (10, .q), (11, .q), (12, .q), (13, .g), (14, .b), (15, .q)] (by kernel_rfl) (by kernel_rfl) ?_
        simp only [pick, List.filterMap_cons, List.filterMap_nil, List.getElem?_toArray, List.getElem?_cons_zero, List.getElem?_cons_succ, Option.map_some]
        repeat (first | ((with_reducible refine wpD_p (fun K hK => ?_)); go_simp; refine hK _ ?_; clear hK K) | ((with_reducible refine wpD_q (fun K hK => ?_)); go_simp; (first | refine hK _ ?_ | (go_bits; refine hK _ ?_) | (go_bits; go_simp; refine hK _ ?_)); clear hK K))
        with_reducible refine wpD_g (fun K hK => ?_)
        go_simp
        refine ⟨Grew.of_alloc _, hK _ _ ?_⟩
        clear hK K
        have hb1 : Below wr.heap.size wr ((wr.alloc (Obj.cells #[.int .i64 (e.a : Int), .int .i64 (e.b : Int), .int .i64 e.s] 49)).alloc (Obj.cells #[.int .i64 fk] 2)).drew := by exact bel_
        have hb1H := Lib.hid hb1
        clear hb1
        refine wpD_append rfl _ _ 33 rfl w3.heap.size 2 i0 (.int .i64 0) 1 8 Tryz.underlying33 hi hz0 hz1 hz2 rfl (by decide) (.slice A1 k c1') k ((flowL gs ts xs x y k).map (Value.int .i64)) (by go_simp) (ownsRow_below hrow.out hb1H.out) ⟨wr.heap.size + 1, 0, none⟩ 1 1 [.int .i64 fk] (by go_simp) rfl ?hnews (fun x hx => by simp at hx; subst hx; rfl) (by unfold maxLen; omega) (by omega) (by simp; omega) ?_
        case hnews =>
          have := cell_one_new (wr.alloc (Obj.cells #[.int .i64 (e.a : Int), .int .i64 (e.b : Int), .int .i64 e.s] 49)) (.int .i64 fk) 2
          simpa using this
        intro v5 w5 hown hgrow
        obtain ⟨A5, c5, rfl⟩ := ownsRow_form hown
        have hownH := Lib.hid hown
        have hbw5 : Below w3.heap.size w3 w5 := (hbw.out.trans (hb1H.out.mono hsz)).grown hgrow (by simp; omega) (fun g e => (hrow.out.lt g e).1)
        have hbw5H := Lib.hid hbw5
        clear hown hgrow hbw5
        repeat (first | ((with_reducible refine wpD_p (fun K hK => ?_)); go_simp; refine hK _ ?_; clear hK K) | ((with_reducible refine wpD_q (fun K hK => ?_)); go_simp; (first | refine hK _ ?_ | (go_bits; refine hK _ ?_) | (go_bits; go_simp; refine hK _ ?_)); clear hK K))
        with_reducible refine wpD_nil ?_
        go_wp2
        go_roundg (N - (k + 1))
        case measure => omega
        case rel =>
          refine ⟨k + 1, by omega, by go_num, Lib.hid ?_, hbw5H⟩
          rw [flowL_succ, hfkH.out, List.map_append]
          exact hownH.out
      · obtain rfl : k = N := by omega
        go_wp2
        refine bodyPost_ret (v := .tuple #[.int .i64 (fv : Int), .slice A1 k c1', .int .i64 0]) (by simp only [results, Tryz.results10]; go_simp) rfl ?_
        refine FluxRes.of (by have := fluxR_yes hrH.out; rw [hlen, hfvH.out, hNEH.out] at this; exact this) ?_ (hbel3H.out.trans (hbw.out.mono hs3))
        rw [flowL_len]
        exact ownsRow_base hrow.out hs3
  · have hr0' : (r != 0) = true := by simpa using hr0
    clear hrE
    go_enter Tryz.func10, Tryz.ntmps10
    go_wp2_with (go_at_call 44; refine (fullCut_at (hSA.out.below (by exact bel_)) _ _ hrH.out).mono ?_; rintro e w1 ⟨rfl, hb1⟩)
    refine bodyPost_ret (v := .tuple #[.int .i64 0, .slice none 0 0, .int .i64 r]) (by simp only [results, Tryz.results10]; go_simp) rfl ?_
    exact FluxRes.of (fluxR_no hrH.out hr0) (World.ownsRow_nil _ _ _ _) (by exact bel_)
end Go.Proofs.YtmhgjgclclnmaaaGreat
/- Walk: the program's Connectivity. -/


namespace Go.Proofs.YtmhgjgclclnmaaaGreat
open Go.RowKit Go.Shelf
attribute [local go_sem] BelowBy.cell BelowBy.cell_drew stillUpon givesUpon BelowBy.cell_drew2 BelowBy.cell_drew3

set_option maxRecDepth 100000 in
set_option maxHeartbeats 2000000 in
theorem Connectivity_any (G T A : Option Addr) (n cg m ct q ca : Nat) (gs : List Gl) (ts : List Ti) (xs : List Pl) (x y : Int) (w : World) (h : SA w G n T m A q gs ts xs) :
    Calls Tryz.prog 16 #[.agg #[.slice G n cg, .slice T m ct], .agg #[.slice A q ca], .int .i64 x, .int .i64 y] w (ChkRes w (connR gs ts xs x y)) := by
  have hSA := Lib.hid h
  have hlen := h.A.len
  have hq := h.q
  clear h
  obtain ⟨r, hrE⟩ : ∃ r, fullCode (validAsmB gs ts xs) xs.length x y = r := ⟨_, rfl⟩
  have hrH := Lib.hid hrE
  by_cases hr0 : r = 0
  · subst hr0
    obtain ⟨hval, x, y, rfl, rfl, hx, hy, hxy, h64⟩ := fullCode_zero hrE
    have hV := valid_of hval
    have hbo := Lib.hid (bondsOk hV)
    have hbl := bondsL_len hV
    clear hrE hval
    rw [hlen] at hx hy h64
    go_enter Tryz.func16, Tryz.ntmps16
    go_wp2_with (go_at_call 44; refine (fullCut_at (hSA.out.below (by exact bel_)) _ _ hrH.out).mono ?_; rintro e w1 ⟨rfl, hb1⟩; have ca1 := (hb1.cell (p := ⟨w.heap.size + 1, 0, none⟩) (by simp)).trans (show _ = some (Value.slice A q ca) by go_simp); have cg1 := (hb1.cell (p := ⟨w.heap.size, 0, none⟩) (by simp; omega)).trans (show _ = some (Value.slice G n cg) by go_simp); have ct1 := (hb1.cell (p := ⟨w.heap.size, 1, none⟩) (by simp; omega)).trans (show _ = some (Value.slice T m ct) by go_simp); have la1 : w.heap.size + 1 < w1.heap.size := by have := hb1.size; simp at this; omega)
    have hb1H : Below w.heap.size w w1 := by exact bel_
    have lg1 : w.heap.size < w1.heap.size := by omega
    refine wp_region_ord [(0, .q), (1, .q), (2, .q), (3, .q), (4, .q), (6, .q), (7, .q), (5, .g), (8, .g), (9, .q), (10, .q), (11, .q), (12, .q), (13, .q)] (by kernel_rfl) (by kernel_rfl) ?_
    simp only [pick, List.filterMap_cons, List.filterMap_nil, List.getElem?_toArray, List.getElem?_cons_zero, List.getElem?_cons_succ, Option.map_some]
    repeat (first | ((with_reducible refine wpD_p (fun K hK => ?_)); go_simp; refine hK _ ?_; clear hK K) | ((with_reducible refine wpD_q (fun K hK => ?_)); go_simp; (first | refine hK _ ?_ | (go_bits; refine hK _ ?_) | (go_bits; go_simp; refine hK _ ?_)); clear hK K))
    with_reducible refine wpD_g (fun K hK => ?_)
    go_simp
    refine ((hSA.out.below (by exact bel_)).bonds hV).mono ?_
    rintro e w2 ⟨v, rfl, hrow, hb2⟩
    obtain ⟨B, cb, rfl, hB⟩ := rd_of_row hrow
    refine ⟨_, rfl, hb2, hK _ _ ?_⟩
    clear hK K hrow
    have hBH := Lib.hid hB
    clear hB
    with_reducible refine wpD_g (fun K hK => ?_)
    go_simp
    refine (flowing_any q x y B cb (bondsL gs ts xs) _ hBH.out (by rw [← hlen]; exact hbo.out) hx hy hxy (by omega) (by omega)).mono ?_
    rintro e w3 ⟨p, vR, vF, uR, uF, rfl, hN, hb3⟩
    refine ⟨_, rfl, hb3, hK _ _ ?_⟩
    clear hK K hN
    repeat (first | ((with_reducible refine wpD_p (fun K hK => ?_)); go_simp; refine hK _ ?_; clear hK K) | ((with_reducible refine wpD_q (fun K hK => ?_)); go_simp; (first | refine hK _ ?_ | (go_bits; refine hK _ ?_) | (go_bits; go_simp; refine hK _ ?_)); clear hK K))
    with_reducible refine wpD_nil ?_
    go_wp2
    go_ret2
    exact ChkRes.of (by rw [← hlen]; exact connR_yes hrH.out) (by exact bel_)
  · have hr0' : (r != 0) = true := by simpa using hr0
    clear hrE
    go_enter Tryz.func16, Tryz.ntmps16
    go_wp2_with (go_at_call 44; refine (fullCut_at (hSA.out.below (by exact bel_)) _ _ hrH.out).mono ?_; rintro e w1 ⟨rfl, hb1⟩)
    go_ret2
    exact ChkRes.of (connR_no hrH.out hr0) (by exact bel_)
end Go.Proofs.YtmhgjgclclnmaaaGreat
/- Words for the law on flows: the contracts in the form that its walk asks. -/







namespace Go.Proofs.YtmhgjgclclnmaaaGreat
open Go.RowKit Go.Shelf
attribute [local go_sem] BelowBy.cell BelowBy.cell_drew stillUpon givesUpon KpBy.cell KpBy.cell_drew

set_option maxRecDepth 100000 in
set_option maxHeartbeats 4000000 in
theorem LawPick_any {C : Option Addr} {n c : Nat} {bs : List Nat} {w : World} (M : Nat) (h : RdSl 1 RBy w C n bs) (hn : n ≤ 1000000) (h1 : 1 ≤ M) (h2 : M ≤ 200) :
    Calls Tryz.prog 18 #[.slice C n c, .int .i64 (M : Int)] w fun e w' => ∃ k : Nat, e = .returned (.int .i64 (k : Int)) ∧ k < M ∧ Below w.heap.size w w' := by
  have hH := Lib.hid h
  clear h
  go_enter Tryz.func18, Tryz.ntmps18
  go_wp2_with fail
  refine (l00FromE_any hH.out hn).mono ?_
  rintro e w1 ⟨p, rfl, hp, hS1, hb1⟩
  go_wp2_with fail
  refine (pickE_any M hS1 (by omega) rfl h1 h2).mono ?_
  rintro e w2 ⟨v, rfl, hv, _, hk⟩
  go_wp2
  go_ret
  exact ⟨v, rfl, hv, hb1.trans (hk.below.mono hp)⟩
/-- a flow and its value, without a fault -/
def FluxOk (w : World) (V N : Nat) (l : List Int) (e : Ending) (w' : World) : Prop := ∃ A c, e = .returned (.tuple #[.int .i64 (V : Int), .slice A N c, .int .i64 0]) ∧ RdSl 1 RInt w' A N l ∧ Below w.heap.size w w'
section
variable {G T A : Option Addr} {n cg m ct q ca : Nat} {gs : List Gl} {ts : List Ti} {xs : List Pl} {w : World} {x y V N : Nat} {l : List Int}
theorem FluxRes.ok {w' : World} {e : Ending} (hl : flowL gs ts xs x y (bondsL gs ts xs).length = l) (hN : (bondsL gs ts xs).length = N) (hV : flowV q (bondsL gs ts xs) x y = V) (h : FluxRes w ((flowV q (bondsL gs ts xs) x y : Int), flowL gs ts xs x y (bondsL gs ts xs).length, 0) e w') : FluxOk w V N l e w' := by
  subst hl hN hV
  obtain ⟨A, c, rfl, ho, hb⟩ := h
  dsimp only at ho ⊢
  obtain ⟨A2, c2, he, hR⟩ := rdI_of ho
  injection he with e1 e2 e3
  subst e1
  rw [flowL_len] at hR ⊢
  exact ⟨A, c, rfl, hR, hb⟩
theorem iFlux (h : SA w G n T m A q gs ts xs) (hv : validAsmB gs ts xs = true) (hx : x < q) (hy : y < q) (hxy : x ≠ y) (h64 : q ≤ 64) (hl : flowL gs ts xs x y (bondsL gs ts xs).length = l) (hN : (bondsL gs ts xs).length = N) (hV : flowV q (bondsL gs ts xs) x y = V) :
    Calls Tryz.prog 10 #[.agg #[.slice G n cg, .slice T m ct], .agg #[.slice A q ca], .int .i64 (x : Int), .int .i64 (y : Int)] w (FluxOk w V N l) := by
  have hq := h.A.len
  subst hq
  have hr := fluxR_yes (full_zero hv hx hy hxy h64).1
  have hc := FlowBetween_any G T A n cg m ct xs.length ca gs ts xs (x : Int) (y : Int) w h
  rw [← hr] at hc
  exact hc.mono fun e w' h => FluxRes.ok hl hN hV h
theorem sFlux (h : SA w G n T m A q gs ts xs) (hv : validAsmB gs ts xs = true) (hx : x < q) (hy : y < q) (hxy : x ≠ y) (h64 : q ≤ 64) (hl : flowL gs ts xs x y (bondsL gs ts xs).length = l) (hN : (bondsL gs ts xs).length = N) (hV : flowV q (bondsL gs ts xs) x y = V) :
    Calls Tryz.prog 11 #[.agg #[.slice G n cg, .slice T m ct], .agg #[.slice A q ca], .int .i64 (x : Int), .int .i64 (y : Int)] w (FluxOk w V N l) := by
  have hq := h.A.len
  subst hq
  have hr := fluxR_yes (full_zero hv hx hy hxy h64).1
  have hc := sFlowBetween_any G T A n cg m ct xs.length ca gs ts xs (x : Int) (y : Int) w h
  rw [← hr] at hc
  exact hc.mono fun e w' h => FluxRes.ok hl hN hV h
theorem iCheck {F : Option Addr} {cf : Nat} (h : SA w G n T m A q gs ts xs) (hv : validAsmB gs ts xs = true) (hx : x < q) (hy : y < q) (hxy : x ≠ y) (hF : RdSl 1 RInt w F N l) (hN1 : N ≤ 1000) (hl : flowL gs ts xs x y (bondsL gs ts xs).length = l) (hV : flowV q (bondsL gs ts xs) x y = V) :
    Calls Tryz.prog 13 #[.agg #[.slice G n cg, .slice T m ct], .agg #[.slice A q ca], .int .i64 (x : Int), .int .i64 (y : Int), .slice F N cf] w fun e w' => e = .returned (.tuple #[.int .i64 (V : Int), .int .i64 0]) ∧ Below w.heap.size w w' := by
  have hq := h.A.len
  have hq1 := h.q
  subst hq
  have hc := CheckFlow_any G T A F n cg m ct xs.length ca N cf gs ts xs l (x : Int) (y : Int) w h.G h.T h.A hF (Nat.le_trans h.gm (by decide)) (Nat.le_trans h.tm (by decide)) h.q (by omega) h.gn h.tn
  have hr := check_flow hv hx hy hxy
  rw [hl, hV] at hr
  rw [hr] at hc
  exact hc.mono fun e w' h => h
theorem iBad {F : Option Addr} {cf k : Nat} {b : Bd} (h : SA w G n T m A q gs ts xs) (hv : validAsmB gs ts xs = true) (hx : x < q) (hy : y < q) (hxy : x ≠ y) (hb : (bondsL gs ts xs)[k]? = some b)
    (hF : RdSl 1 RInt w F N (l.set k (lastF gs ts xs x y k + (b.s * 2 + 1)))) (hN1 : N ≤ 1000) (hl : flowL gs ts xs x y (bondsL gs ts xs).length = l) :
    Calls Tryz.prog 13 #[.agg #[.slice G n cg, .slice T m ct], .agg #[.slice A q ca], .int .i64 (x : Int), .int .i64 (y : Int), .slice F N cf] w fun e w' => e = .returned (.tuple #[.int .i64 0, .int .i64 10]) ∧ Below w.heap.size w w' := by
  have hq := h.A.len
  have hq1 := h.q
  subst hq
  have hc := CheckFlow_any G T A F n cg m ct xs.length ca N cf gs ts xs (l.set k (lastF gs ts xs x y k + (b.s * 2 + 1))) (x : Int) (y : Int) w h.G h.T h.A hF (Nat.le_trans h.gm (by decide)) (Nat.le_trans h.tm (by decide)) h.q (by omega) h.gn h.tn
  have hr := check_bad hv hx hy hxy hb
  rw [hl] at hr
  rw [hr] at hc
  exact hc.mono fun e w' h => h
theorem iSep (h : SA w G n T m A q gs ts xs) (hv : validAsmB gs ts xs = true) (hx : x < q) (hy : y < q) (hxy : x ≠ y) (h64 : q ≤ 64) {c : Nat → Bool} (hc : nearC gs ts xs x y = c) :
    Calls Tryz.prog 14 #[.agg #[.slice G n cg, .slice T m ct], .agg #[.slice A q ca], .int .i64 (x : Int), .int .i64 (y : Int)] w fun e w' => ∃ P np cp, e = .returned (.tuple #[.slice P np cp, .int .i64 0]) ∧ RdSl 1 RInt w' P np (idxL c xs.length) ∧ Below w.heap.size w w' := by
  have hq := h.A.len
  subst hq hc
  have hr := sep_idx (full_zero hv hx hy hxy h64).1
  have hs := SeparatingPart_any G T A n cg m ct xs.length ca gs ts xs (x : Int) (y : Int) w h
  rw [hr] at hs
  refine hs.mono ?_
  rintro e w' hI
  obtain ⟨P, cp, rfl, hR, hb⟩ := IntsRes.ok hI
  exact ⟨P, _, cp, rfl, hR, hb⟩
theorem iConn (h : SA w G n T m A q gs ts xs) (hv : validAsmB gs ts xs = true) (hx : x < q) (hy : y < q) (hxy : x ≠ y) (h64 : q ≤ 64) (hV : flowV q (bondsL gs ts xs) x y = V) :
    Calls Tryz.prog 16 #[.agg #[.slice G n cg, .slice T m ct], .agg #[.slice A q ca], .int .i64 (y : Int), .int .i64 (x : Int)] w fun e w' => e = .returned (.tuple #[.int .i64 (V : Int), .int .i64 0]) ∧ Below w.heap.size w w' := by
  have hq := h.A.len
  subst hq
  have hr := connR_yes (full_zero hv hy hx hxy.symm h64).1
  rw [← flowV_comm (bondsOk (valid_of hv)) hx hy hxy, hV] at hr
  have hc := Connectivity_any G T A n cg m ct xs.length ca gs ts xs (y : Int) (x : Int) w h
  rw [← hr] at hc
  exact hc.mono fun e w' h => h
theorem iBonds (h : SA w G n T m A q gs ts xs) (hv : validAsmB gs ts xs = true) (hN : (bondsL gs ts xs).length = N) :
    Calls Tryz.prog 17 #[.agg #[.slice G n cg, .slice T m ct], .agg #[.slice A q ca]] w fun e w' => ∃ B cb, e = .returned (.tuple #[.slice B N cb, .int .i64 0]) ∧ RdSl 3 RBd w' B N (bondsL gs ts xs) ∧ Below w.heap.size w w' := by
  subst hN
  have hc := BondsOf_any G T A n cg m ct q ca gs ts xs w h
  rw [← bondsOfR_yes hv] at hc
  refine hc.mono ?_
  rintro e w' ⟨B, cb, rfl, ho, hb⟩
  dsimp only at ho ⊢
  obtain ⟨B2, c2, he, hR⟩ := rd_of_row ho
  injection he with e1 e2 e3
  subst e1
  exact ⟨B, cb, rfl, hR, hb⟩
end
end Go.Proofs.YtmhgjgclclnmaaaGreat
/- Walk: the law on flows. Printed by gen_dr12.py. -/



namespace Go.Proofs.YtmhgjgclclnmaaaGreat
open Go.RowKit
attribute [local go_sem] BelowBy.cell BelowBy.cell_drew stillUpon givesUpon

theorem picks2Q {C : Option Addr} {n c : Nat} {bs : List Nat} {w : World} (M : Nat) (h : RdSl 1 RBy w C n bs) (hn : n ≤ 1000000) (h1 : 1 ≤ M) (h2 : M ≤ 200) :
    Calls Tryz.prog 9 #[.slice C n c, .int .i64 2, .int .i64 (M : Int)] w fun e w' => ∃ (P : Option Addr) (cp : Nat) (x y : Nat), e = .returned (.slice P 2 cp) ∧ RdSl 1 RInt w' P 2 [(x : Int), (y : Int)] ∧ x < M ∧ y < M ∧ Below w.heap.size w w' := by
  refine (LawPicks_any (m := 2) M h hn (by omega) h1 h2).mono ?_
  rintro e w' ⟨v, l, rfl, ho, hl, hv, hb⟩
  obtain ⟨a, b, rfl⟩ : ∃ a b, l = [a, b] := by
    match l, hl with
    | [a, b], _ => exact ⟨a, b, rfl⟩
  have ha := hv a (by simp)
  have hbb := hv b (by simp)
  obtain ⟨x, rfl⟩ : ∃ x : Nat, a = (x : Int) := ⟨a.toNat, by omega⟩
  obtain ⟨y, rfl⟩ : ∃ y : Nat, b = (y : Int) := ⟨b.toNat, by omega⟩
  have hf : flatC encI [(x : Int), (y : Int)] = [(x : Int), (y : Int)].map (Value.int .i64) := rfl
  rw [hf] at ho
  obtain ⟨P, cp, rfl, hR⟩ := rdI_of (bs := [(x : Int), (y : Int)]) ho
  exact ⟨P, cp, x, y, rfl, hR, by omega, by omega, hb⟩
theorem nbAll_60 {gs : List Gl} {ts : List Ti} {xs : List Pl} (h : xs.length ≤ 30) : (bondsL gs ts xs).length ≤ 60 := by
  have h1 := bdL_len gs ts (nbAll xs xs.length)
  have h2 := nbAll_len xs xs.length
  unfold bondsL
  omega
theorem ownsRow_posF {w : World} {base s N c : Nat} {e : TypeId} {A : Option Addr} {xs : List Value} (h : w.ownsRow base e s (.slice A N c) N xs) (hN : 0 < N) : ∃ g, A = some ⟨g, 0, none⟩ := by
  rcases h.2 with ⟨_, h0⟩ | ⟨g, cap, cur, hv, _⟩
  · omega
  · injection hv with h1 h2 h3
    exact ⟨g, h1⟩
theorem add_atF (b o j : Nat) : (⟨b, o, none⟩ : Addr).add j = ⟨b, o + j, none⟩ := by
  unfold Addr.add
  split <;> simp_all
set_option maxRecDepth 100000 in
set_option maxHeartbeats 16000000 in
theorem FnFlows_any {n n2 c c2 : Nat} {C D : Option Addr} {bs bs2 : List Nat} (w : World) (h : RdSl 1 RBy w C n bs) (h2 : RdSl 1 RBy w D n2 bs2) :
    Calls Tryz.prog 3 #[.slice C n c, .slice D n2 c2] w fun e w' => e = .returned (.bool true) ∧ Below w.heap.size w w' := by
  obtain ⟨iI, hI, hI0, hI1, hI2⟩ := info_parts infoI
  have hH := Lib.hid h
  have hBy := Lib.hid h2
  clear h h2
  by_cases hn : 4096 < n
  · have hnH := Lib.hid (show decide (4096 < n) = true from decide_eq_true hn)
    clear hn
    go_enter Tryz.func3, Tryz.ntmps3
    go_wp2_with (go_at_call 7; refine (f6big_at _ hnH.out).mono ?_; rintro e _ ⟨rfl, rfl⟩)
    go_ret
    exact ⟨rfl, bl_refl _⟩
  have hnH := Lib.hid (show decide (4096 < n) = false from decide_eq_false hn)
  have hnle : n ≤ 1000000 := by omega
  clear hn
  by_cases hn2 : 4096 < n2
  · have hnH2 := Lib.hid (show decide (4096 < n2) = true from decide_eq_true hn2)
    clear hn2
    go_enter Tryz.func3, Tryz.ntmps3
    go_wp2_with fail
    refine (f6big_at _ hnH.out).mono ?_
    rintro e _ ⟨rfl, rfl⟩
    go_wp2_with fail
    refine (f6big_at _ hnH2.out).mono ?_
    rintro e _ ⟨rfl, rfl⟩
    go_wp2
    go_ret
    exact ⟨rfl, bl_refl _⟩
  have hnH2 := Lib.hid (show decide (4096 < n2) = false from decide_eq_false hn2)
  have hn2le : n2 ≤ 1000000 := by omega
  clear hn2
  go_enter Tryz.func3, Tryz.ntmps3
  go_wp2_with fail
  refine (f6big_at _ hnH.out).mono ?_
  rintro e _ ⟨rfl, rfl⟩
  go_wp2_with fail
  refine (f6big_at _ hnH2.out).mono ?_
  rintro e _ ⟨rfl, rfl⟩
  go_wp2_with fail
  refine (LawPiece_sa hH.out hnle).mono ?_
  rintro e w1 ⟨G, T, A, m1, cg, m2, ct, m3, ca, gs, ts, xs, rfl, hSA0, hv0, hx30, hb⟩
  have hSA := Lib.hid hSA0
  have hv := Lib.hid hv0
  have hV := Lib.hid (valid_of hv0)
  have hl3 := hSA0.A.len
  clear hSA0 hv0
  replace hBy := Lib.hid (hBy.out.below RBy.stable hb)
  have hbw := Lib.hid hb
  clear hb hH
  have hbl := nbAll_60 (gs := gs) (ts := ts) hx30
  obtain ⟨N, hN⟩ : ∃ N, (bondsL gs ts xs).length = N := ⟨_, rfl⟩
  rw [hN] at hbl
  have hNH := Lib.hid hN
  clear hN
  by_cases hm2 : m3 < 2
  · have hm2i : (m3 : Int) < 2 := by omega
    go_wp2
    go_ret
    exact ⟨rfl, by first | exact bl_tr (bl_al (bl_al (bl_refl _) _) _) (bl_refl _) | exact hbw.out.trans ((bl_al (bl_al (bl_refl _) _) _).mono hbw.out.size)⟩
  have hm2i : ¬ (m3 : Int) < 2 := by omega
  go_wp2_with fail
  obtain ⟨a0', ha0⟩ : ∃ W, W = w1.alloc (Obj.cells #[.slice G m1 cg, .slice T m2 ct] 27) := ⟨_, rfl⟩
  rw [← ha0]
  have z0 : a0'.heap.size = w1.heap.size + 1 := by rw [ha0, World.size_alloc]
  have b0 : Below w1.heap.size w1 a0' := by rw [ha0]; exact bl_al (bl_refl _) _
  obtain ⟨W, hW⟩ : ∃ W, W = a0'.alloc (Obj.cells #[.slice A m3 ca] 30) := ⟨_, rfl⟩
  rw [← hW]
  have b1 : Below a0'.heap.size a0' W := by rw [hW]; exact bl_al (bl_refl _) _
  have hb : Below w1.heap.size w1 W := bl_tr b0 b1
  have bS : Hid (Bx W w1.heap.size [.slice G m1 cg, .slice T m2 ct]) := Lib.hid (by have hm := Bx.made w1 [.slice G m1 cg, .slice T m2 ct] 27; rw [← ha0] at hm; exact hm.below b1)
  have bA : Hid (Bx W (w1.heap.size + 1) [.slice A m3 ca]) := Lib.hid (by have hm := Bx.made a0' [.slice A m3 ca] 30; rw [← hW] at hm; rw [z0] at hm; exact hm)
  replace hSA := Lib.hid (hSA.out.below hb)
  replace hBy := Lib.hid (hBy.out.below RBy.stable hb)
  replace hbw := Lib.hid (hbw.out.trans (hb.mono hbw.out.size))
  have hsz := hb.size
  clear ha0 hW z0 b0 b1 hb
  have s0 := bS.out.cell 0 _ rfl
  have s1 := bS.out.cell 1 _ rfl
  have a0 := bA.out.cell 0 _ rfl
  have lS := bS.out.lt
  have lA := bA.out.lt
  refine (picks2Q m3 hBy.out hn2le (by omega) (by omega)).mono ?_
  rintro e w2 ⟨Pk, cpk, x, y0, rfl, hPk, hx, hy0, hb⟩
  replace bS := Lib.hid (bS.out.below hb)
  replace bA := Lib.hid (bA.out.below hb)
  replace hSA := Lib.hid (hSA.out.below hb)
  replace hBy := Lib.hid (hBy.out.below RBy.stable hb)
  replace hbw := Lib.hid (hbw.out.trans (hb.mono hbw.out.size))
  replace s0 := bS.out.cell 0 _ rfl
  replace s1 := bS.out.cell 1 _ rfl
  replace a0 := bA.out.cell 0 _ rfl
  replace lS := bS.out.lt
  replace lA := bA.out.lt
  clear hb
  obtain ⟨bp, op_, rfl, hbp, hcp⟩ := hPk.ptr (by omega)
  have p0 := hcp 0 _ rfl
  have p1 := hcp 1 _ rfl
  unfold RInt at p0 p1
  simp only [Nat.zero_mul, Nat.one_mul, Nat.add_zero] at p0 p1
  clear hcp hPk
  by_cases hxy : x = y0
  · have hxyi : ((x : Int) == (y0 : Int)) = true := by simp; omega
    have hxyj : (x : Int) = (y0 : Int) := by omega
    obtain ⟨y1, hy1E⟩ : ∃ y1, y1 = (x + 1) % m3 := ⟨_, rfl⟩
    have hy1 : y1 < m3 := by rw [hy1E]; exact Nat.mod_lt _ (by omega)
    have hne1 : x ≠ y1 := fun e => by
      rcases Nat.lt_or_ge (x + 1) m3 with h1 | h1
      · rw [Nat.mod_eq_of_lt h1] at hy1E; omega
      · rw [show x + 1 = m3 by omega, Nat.mod_self] at hy1E; omega
    have hwr : IntKind.i64.wrap ((x : Int) + 1) = (x : Int) + 1 := wrapI (by omega) (by omega)
    have hmod : ((x : Int) + 1).tmod (m3 : Int) = (y1 : Int) := by rw [hy1E, Int.tmod_eq_emod_of_nonneg (by omega), Int.natCast_emod]; rfl
    have hm0 : ¬ (m3 : Int) = 0 := by omega
    have hm0n : ¬ m3 = 0 := by omega
    subst hxy
    clear hy1E
    obtain ⟨V, hV0⟩ : ∃ V, flowV m3 (bondsL gs ts xs) x y1 = V := ⟨_, rfl⟩
    obtain ⟨l, hl0⟩ : ∃ l, flowL gs ts xs x y1 (bondsL gs ts xs).length = l := ⟨_, rfl⟩
    have hll : l.length = N := by rw [← hl0, flowL_len, hNH.out]
    have hllH := Lib.hid hll
    have hV0H := Lib.hid hV0
    have hl0H := Lib.hid hl0
    clear hV0 hl0 hll
    go_wp2_with fail
    refine (iFlux hSA.out hv.out hx hy1 hne1 (by omega) hl0H.out hNH.out hV0H.out).mono ?_
    rintro e w3 ⟨A1, c1, rfl, hA1, hb⟩
    replace hA1 := Lib.hid hA1
    replace bS := Lib.hid (bS.out.below hb)
    replace bA := Lib.hid (bA.out.below hb)
    replace hSA := Lib.hid (hSA.out.below hb)
    replace hBy := Lib.hid (hBy.out.below RBy.stable hb)
    replace hbw := Lib.hid (hbw.out.trans (hb.mono hbw.out.size))
    replace s0 := bS.out.cell 0 _ rfl
    replace s1 := bS.out.cell 1 _ rfl
    replace a0 := bA.out.cell 0 _ rfl
    replace lS := bS.out.lt
    replace lA := bA.out.lt
    clear hb
    go_wp2_with fail
    refine (sFlux hSA.out hv.out hx hy1 hne1 (by omega) hl0H.out hNH.out hV0H.out).mono ?_
    rintro e w4 ⟨A2, c3, rfl, hD, hb⟩
    replace hD := Lib.hid hD
    replace bS := Lib.hid (bS.out.below hb)
    replace bA := Lib.hid (bA.out.below hb)
    replace hSA := Lib.hid (hSA.out.below hb)
    replace hBy := Lib.hid (hBy.out.below RBy.stable hb)
    replace hbw := Lib.hid (hbw.out.trans (hb.mono hbw.out.size))
    replace hA1 := Lib.hid (hA1.out.below RInt.stable hb)
    replace s0 := bS.out.cell 0 _ rfl
    replace s1 := bS.out.cell 1 _ rfl
    replace a0 := bA.out.cell 0 _ rfl
    replace lS := bS.out.lt
    replace lA := bA.out.lt
    clear hb
    go_wp2_with fail
    refine (f6ints_any hA1.out hD.out (by omega)).mono ?_
    rintro e w5 ⟨rfl, hb⟩
    replace bS := Lib.hid (bS.out.below hb)
    replace bA := Lib.hid (bA.out.below hb)
    replace hSA := Lib.hid (hSA.out.below hb)
    replace hBy := Lib.hid (hBy.out.below RBy.stable hb)
    replace hbw := Lib.hid (hbw.out.trans (hb.mono hbw.out.size))
    replace hD := Lib.hid (hD.out.below RInt.stable hb)
    replace s0 := bS.out.cell 0 _ rfl
    replace s1 := bS.out.cell 1 _ rfl
    replace a0 := bA.out.cell 0 _ rfl
    replace lS := bS.out.lt
    replace lA := bA.out.lt
    clear hb
    clear hA1
    go_wp2_with fail
    refine (iCheck hSA.out hv.out hx hy1 hne1 hD.out (by omega) hl0H.out hV0H.out).mono ?_
    rintro e w6 ⟨rfl, hb⟩
    replace bS := Lib.hid (bS.out.below hb)
    replace bA := Lib.hid (bA.out.below hb)
    replace hSA := Lib.hid (hSA.out.below hb)
    replace hBy := Lib.hid (hBy.out.below RBy.stable hb)
    replace hbw := Lib.hid (hbw.out.trans (hb.mono hbw.out.size))
    replace hD := Lib.hid (hD.out.below RInt.stable hb)
    replace s0 := bS.out.cell 0 _ rfl
    replace s1 := bS.out.cell 1 _ rfl
    replace a0 := bA.out.cell 0 _ rfl
    replace lS := bS.out.lt
    replace lA := bA.out.lt
    clear hb
    go_wp2_with fail
    obtain ⟨cC, hcC⟩ : ∃ cC, nearC gs ts xs x y1 = cC := ⟨_, rfl⟩
    have hcut := sep_cut hV.out (by omega) hne1
    rw [hcC, hl3, hV0H.out] at hcut
    rw [← hl3] at hcut
    have hcutH := Lib.hid hcut
    have hcCH := Lib.hid hcC
    clear hcut hcC
    refine (iSep hSA.out hv.out hx hy1 hne1 (by omega) hcCH.out).mono ?_
    rintro e w7 ⟨P3, np3, cp3, rfl, hP3, hb⟩
    replace hP3 := Lib.hid hP3
    replace bS := Lib.hid (bS.out.below hb)
    replace bA := Lib.hid (bA.out.below hb)
    replace hSA := Lib.hid (hSA.out.below hb)
    replace hBy := Lib.hid (hBy.out.below RBy.stable hb)
    replace hbw := Lib.hid (hbw.out.trans (hb.mono hbw.out.size))
    replace hD := Lib.hid (hD.out.below RInt.stable hb)
    replace s0 := bS.out.cell 0 _ rfl
    replace s1 := bS.out.cell 1 _ rfl
    replace a0 := bA.out.cell 0 _ rfl
    replace lS := bS.out.lt
    replace lA := bA.out.lt
    clear hb
    go_wp2_with fail
    refine (iCut hSA.out hv.out hP3.out hcutH.out).mono ?_
    rintro e w8 ⟨rfl, hb⟩
    replace bS := Lib.hid (bS.out.below hb)
    replace bA := Lib.hid (bA.out.below hb)
    replace hSA := Lib.hid (hSA.out.below hb)
    replace hBy := Lib.hid (hBy.out.below RBy.stable hb)
    replace hbw := Lib.hid (hbw.out.trans (hb.mono hbw.out.size))
    replace hD := Lib.hid (hD.out.below RInt.stable hb)
    replace s0 := bS.out.cell 0 _ rfl
    replace s1 := bS.out.cell 1 _ rfl
    replace a0 := bA.out.cell 0 _ rfl
    replace lS := bS.out.lt
    replace lA := bA.out.lt
    clear hb
    clear hP3
    go_wp2_with fail
    refine (iConn hSA.out hv.out hx hy1 hne1 (by omega) hV0H.out).mono ?_
    rintro e w9 ⟨rfl, hb⟩
    replace bS := Lib.hid (bS.out.below hb)
    replace bA := Lib.hid (bA.out.below hb)
    replace hSA := Lib.hid (hSA.out.below hb)
    replace hBy := Lib.hid (hBy.out.below RBy.stable hb)
    replace hbw := Lib.hid (hbw.out.trans (hb.mono hbw.out.size))
    replace hD := Lib.hid (hD.out.below RInt.stable hb)
    replace s0 := bS.out.cell 0 _ rfl
    replace s1 := bS.out.cell 1 _ rfl
    replace a0 := bA.out.cell 0 _ rfl
    replace lS := bS.out.lt
    replace lA := bA.out.lt
    clear hb
    go_wp2_with fail
    refine (iBonds hSA.out hv.out hNH.out).mono ?_
    rintro e wa ⟨B5, cb5, rfl, hBd, hb⟩
    replace hBd := Lib.hid hBd
    replace bS := Lib.hid (bS.out.below hb)
    replace bA := Lib.hid (bA.out.below hb)
    replace hSA := Lib.hid (hSA.out.below hb)
    replace hBy := Lib.hid (hBy.out.below RBy.stable hb)
    replace hbw := Lib.hid (hbw.out.trans (hb.mono hbw.out.size))
    replace hD := Lib.hid (hD.out.below RInt.stable hb)
    replace s0 := bS.out.cell 0 _ rfl
    replace s1 := bS.out.cell 1 _ rfl
    replace a0 := bA.out.cell 0 _ rfl
    replace lS := bS.out.lt
    replace lA := bA.out.lt
    clear hb
    by_cases hN0 : N = 0
    · have hN0i : ((N : Int) == 0) = true := by simp; omega
      have hN0j : (N : Int) = 0 := by omega
      subst hN0
      go_wp2
      go_ret
      exact ⟨rfl, hbw.out⟩
    have hN0i : ((N : Int) == 0) = false := by simp; omega
    have hN0j : ¬ (N : Int) = 0 := by omega
    obtain ⟨bd, od, hDe, hbd, hcd⟩ := hD.out.ptr (by omega)
    subst hDe
    have hnews : Hid (∀ (j : Nat) (u : Value), (l.map (Value.int .i64))[j]? = some u → wa.cell? ⟨bd, od + j, none⟩ = some u) := Lib.hid (fun j u hu => by
      rw [List.getElem?_map] at hu
      cases hj : l[j]? with
      | none => rw [hj] at hu; cases hu
      | some v =>
        rw [hj] at hu
        simp only [Option.map_some, Option.some.injEq] at hu
        subst hu
        have hz := hcd j v hj
        unfold RInt at hz
        simpa using hz)
    clear hcd
    have hSAa := hSA
    have bSa := bS
    have bAa := bA
    have hbwa := hbw
    have hA4 : Hid (Below wa.heap.size wa (wa.alloc (Obj.cells #[] 2))) := Lib.hid (bl_al (bl_refl _) _)
    have hL0 : Hid ((wa.alloc (Obj.cells #[] 2)).ownsRow wa.heap.size 2 1 (.slice (some ⟨wa.heap.size, 0, none⟩) 0 0) 0 []) := Lib.hid (World.ownsRow_lit wa #[] 0 (Nat.le_refl _) (by unfold maxLen; omega) rfl)
    have hln : Hid ((l.map (Value.int .i64)).length = N * 1) := Lib.hid (by rw [List.length_map, hllH.out, Nat.mul_one])
    have hnewA : Hid (∀ (j : Nat) (u : Value), (l.map (Value.int .i64))[j]? = some u → (wa.alloc (Obj.cells #[] 2)).cell? ((⟨bd, od, none⟩ : Addr).add j) = some u) := Lib.hid (fun j u hu => by rw [add_atF]; exact (hA4.out.cell (p := ⟨bd, od + j, none⟩) hbd).trans (hnews.out j u hu))
    have hone : Hid (∀ u ∈ l.map (Value.int .i64), u.oneCell' = true) := Lib.hid (fun u hu => by obtain ⟨v, _, rfl⟩ := List.mem_map.1 hu; rfl)
    go_wp2_with (at_builtin; refine wpList_append_own_at _ rfl _ _ 33 rfl wa.heap.size 2 iI (.int .i64 0) 1 8 Tryz.underlying33 hI hI0 hI1 hI2 rfl (by decide) (.slice (some ⟨wa.heap.size, 0, none⟩) 0 0) 0 [] rfl hL0.out ⟨bd, od, none⟩ N c3 (l.map (Value.int .i64)) rfl hln.out hnewA.out hone.out (by unfold maxLen; omega) (by omega) (by simp) ?_; intro v9 wb hown9 hgrow9 _ _; rw [Nat.zero_add, List.nil_append] at hown9; obtain ⟨A9, c9, rfl⟩ := ownsRow_form hown9; have hb : Below wa.heap.size wa wb := hA4.out.grown hgrow9 (by simp) (fun g e => (hL0.out.lt g e).1); have hown9H := Lib.hid hown9; have hbQ := Lib.hid hb; replace bS := Lib.hid (bS.out.below hb); replace bA := Lib.hid (bA.out.below hb); replace hSA := Lib.hid (hSA.out.below hb); replace hBy := Lib.hid (hBy.out.below RBy.stable hb); replace hbw := Lib.hid (hbw.out.trans (hb.mono hbw.out.size)); replace hD := Lib.hid (hD.out.below RInt.stable hb); replace hBd := Lib.hid (hBd.out.below RBd.stable hb); replace s0 := bS.out.cell 0 _ rfl; replace s1 := bS.out.cell 1 _ rfl; replace a0 := bA.out.cell 0 _ rfl; replace lS := bS.out.lt; replace lA := bA.out.lt; clear hb hown9 hgrow9)
    refine (LawPick_any N hBy.out hn2le (by omega) (by omega)).mono ?_
    rintro e wc ⟨k, rfl, hk, hb⟩
    replace hown9H := Lib.hid (ownsRow_below hown9H.out hb)
    replace hbQ := Lib.hid (hbQ.out.trans (hb.mono hbQ.out.size))
    replace bS := Lib.hid (bS.out.below hb)
    replace bA := Lib.hid (bA.out.below hb)
    replace hSA := Lib.hid (hSA.out.below hb)
    replace hBy := Lib.hid (hBy.out.below RBy.stable hb)
    replace hbw := Lib.hid (hbw.out.trans (hb.mono hbw.out.size))
    replace hD := Lib.hid (hD.out.below RInt.stable hb)
    replace hBd := Lib.hid (hBd.out.below RBd.stable hb)
    replace s0 := bS.out.cell 0 _ rfl
    replace s1 := bS.out.cell 1 _ rfl
    replace a0 := bA.out.cell 0 _ rfl
    replace lS := bS.out.lt
    replace lA := bA.out.lt
    clear hb
    obtain ⟨eb, heb⟩ : ∃ eb, (bondsL gs ts xs)[k]? = some eb := ⟨_, List.getElem?_eq_getElem (by rw [hNH.out]; exact hk)⟩
    have hlk := flowL_get (x := x) (y := y1) (show k < (bondsL gs ts xs).length by rw [hNH.out]; exact hk)
    rw [hl0H.out] at hlk
    have hinv := fin_inv (x := x) (y := y1) hV.out heb
    have hes := (bondsL_at hV.out heb).2.2
    obtain ⟨g9, rfl⟩ := ownsRow_posF hown9H.out (by omega)
    obtain ⟨bb, ob, hBe, hbb, hcb⟩ := hBd.out.ptr (by omega)
    subst hBe
    have z2 := (hcb k eb heb).2.2
    have hebH := Lib.hid heb
    obtain ⟨lk, hlkE⟩ : ∃ lk, lastF gs ts xs x y1 k = lk := ⟨_, rfl⟩
    rw [hlkE] at hlk hinv
    have hlkEH := Lib.hid hlkE
    have c9k := (hown9H.out.cellAt k (by omega)).trans (show _ = some (Value.int .i64 lk) by rw [List.getElem?_map, hlk]; rfl)
    have f9k := hown9H.out.frozenAt k
    have l9 := (hown9H.out.lt g9 rfl).2
    have u1 : IntKind.i64.wrap (eb.s * 2) = eb.s * 2 := wrapI (by omega) (by omega)
    have u2 : IntKind.i64.wrap (eb.s * 2 + 1) = eb.s * 2 + 1 := wrapI (by omega) (by omega)
    have u3 : IntKind.i64.wrap (lk + (eb.s * 2 + 1)) = lk + (eb.s * 2 + 1) := wrapI (by omega) (by omega)
    have hkI : (k : Int) < (N : Int) := by omega
    have hk0 : (0 : Int) ≤ (k : Int) := by omega
    clear hcb heb hlkE hlk hinv hes
    go_wp2
    refine wp_region_ord [(0, .q), (1, .q), (2, .q), (3, .q), (4, .q), (5, .q), (6, .q), (7, .q), (8, .q), (9, .q), (10, .q), (11, .q), (12, .q), (13, .b)] (by kernel_rfl) (by kernel_rfl) ?_
    simp only [pick, List.filterMap_cons, List.filterMap_nil, List.getElem?_toArray, List.getElem?_cons_zero, List.getElem?_cons_succ, Option.map_some]
    repeat (first | ((with_reducible refine wpD_p (fun K hK => ?_)); go_simp; refine hK _ ?_; clear hK K) | ((with_reducible refine wpD_q (fun K hK => ?_)); go_simp; (first | refine hK _ ?_ | (go_bits; refine hK _ ?_) | (go_bits; go_simp; refine hK _ ?_)); clear hK K))
    with_reducible refine wpD_b (fun K hK => ?_)
    go_simp
    refine hK _ _ ?_
    clear hK K
    with_reducible refine wpD_nil ?_
    obtain ⟨wd, hwd⟩ : ∃ wd, wd = (wc.setCell ⟨g9, k, none⟩ (.int .i64 (lk + (eb.s * 2 + 1)))).drew := ⟨_, rfl⟩
    rw [← hwd]
    have hb : Below wa.heap.size wa wd := by rw [hwd]; exact bl_dr (hbQ.out.setCell (p := ⟨g9, k, none⟩) (hown9H.out.lt g9 rfl).1 _)
    have hF : Hid (RdSl 1 RInt wd (some ⟨g9, 0, none⟩) N (l.set k (lastF gs ts xs x y1 k + (eb.s * 2 + 1)))) := Lib.hid (by
      have hst := (hown9H.out.stored k (.int .i64 (lk + (eb.s * 2 + 1)))).1
      have hs2 := ownsRow_below hst (bl_dr (bl_refl _))
      rw [← hwd, ← List.map_set] at hs2
      rw [hlkEH.out]
      exact rdI hs2 (by rw [List.length_set, hllH.out]))
    clear s0 s1 a0 lS lA c9k f9k l9 z2 hbQ hBd hown9H hwd
    replace bS := Lib.hid (bSa.out.below hb)
    replace bA := Lib.hid (bAa.out.below hb)
    replace hSA := Lib.hid (hSAa.out.below hb)
    replace hbw := Lib.hid (hbwa.out.trans (hb.mono hbwa.out.size))
    have s0 := bS.out.cell 0 _ rfl
    have s1 := bS.out.cell 1 _ rfl
    have a0 := bA.out.cell 0 _ rfl
    have lS := bS.out.lt
    have lA := bA.out.lt
    clear hb bSa bAa hSAa hbwa
    go_wp2_with fail
    refine (iBad hSA.out hv.out hx hy1 hne1 hebH.out hF.out (by omega) hl0H.out).mono ?_
    rintro e we ⟨rfl, hb⟩
    replace hbw := Lib.hid (hbw.out.trans (hb.mono hbw.out.size))
    clear hb
    go_wp2
    go_ret
    exact ⟨rfl, hbw.out⟩
  · have hxyi : ((x : Int) == (y0 : Int)) = false := by simp; omega
    have hxyj : ¬ (x : Int) = (y0 : Int) := by omega
    have hne0 : x ≠ y0 := hxy
    clear hxy
    obtain ⟨V, hV0⟩ : ∃ V, flowV m3 (bondsL gs ts xs) x y0 = V := ⟨_, rfl⟩
    obtain ⟨l, hl0⟩ : ∃ l, flowL gs ts xs x y0 (bondsL gs ts xs).length = l := ⟨_, rfl⟩
    have hll : l.length = N := by rw [← hl0, flowL_len, hNH.out]
    have hllH := Lib.hid hll
    have hV0H := Lib.hid hV0
    have hl0H := Lib.hid hl0
    clear hV0 hl0 hll
    go_wp2_with fail
    refine (iFlux hSA.out hv.out hx hy0 hne0 (by omega) hl0H.out hNH.out hV0H.out).mono ?_
    rintro e w3 ⟨A1, c1, rfl, hA1, hb⟩
    replace hA1 := Lib.hid hA1
    replace bS := Lib.hid (bS.out.below hb)
    replace bA := Lib.hid (bA.out.below hb)
    replace hSA := Lib.hid (hSA.out.below hb)
    replace hBy := Lib.hid (hBy.out.below RBy.stable hb)
    replace hbw := Lib.hid (hbw.out.trans (hb.mono hbw.out.size))
    replace s0 := bS.out.cell 0 _ rfl
    replace s1 := bS.out.cell 1 _ rfl
    replace a0 := bA.out.cell 0 _ rfl
    replace lS := bS.out.lt
    replace lA := bA.out.lt
    clear hb
    go_wp2_with fail
    refine (sFlux hSA.out hv.out hx hy0 hne0 (by omega) hl0H.out hNH.out hV0H.out).mono ?_
    rintro e w4 ⟨A2, c3, rfl, hD, hb⟩
    replace hD := Lib.hid hD
    replace bS := Lib.hid (bS.out.below hb)
    replace bA := Lib.hid (bA.out.below hb)
    replace hSA := Lib.hid (hSA.out.below hb)
    replace hBy := Lib.hid (hBy.out.below RBy.stable hb)
    replace hbw := Lib.hid (hbw.out.trans (hb.mono hbw.out.size))
    replace hA1 := Lib.hid (hA1.out.below RInt.stable hb)
    replace s0 := bS.out.cell 0 _ rfl
    replace s1 := bS.out.cell 1 _ rfl
    replace a0 := bA.out.cell 0 _ rfl
    replace lS := bS.out.lt
    replace lA := bA.out.lt
    clear hb
    go_wp2_with fail
    refine (f6ints_any hA1.out hD.out (by omega)).mono ?_
    rintro e w5 ⟨rfl, hb⟩
    replace bS := Lib.hid (bS.out.below hb)
    replace bA := Lib.hid (bA.out.below hb)
    replace hSA := Lib.hid (hSA.out.below hb)
    replace hBy := Lib.hid (hBy.out.below RBy.stable hb)
    replace hbw := Lib.hid (hbw.out.trans (hb.mono hbw.out.size))
    replace hD := Lib.hid (hD.out.below RInt.stable hb)
    replace s0 := bS.out.cell 0 _ rfl
    replace s1 := bS.out.cell 1 _ rfl
    replace a0 := bA.out.cell 0 _ rfl
    replace lS := bS.out.lt
    replace lA := bA.out.lt
    clear hb
    clear hA1
    go_wp2_with fail
    refine (iCheck hSA.out hv.out hx hy0 hne0 hD.out (by omega) hl0H.out hV0H.out).mono ?_
    rintro e w6 ⟨rfl, hb⟩
    replace bS := Lib.hid (bS.out.below hb)
    replace bA := Lib.hid (bA.out.below hb)
    replace hSA := Lib.hid (hSA.out.below hb)
    replace hBy := Lib.hid (hBy.out.below RBy.stable hb)
    replace hbw := Lib.hid (hbw.out.trans (hb.mono hbw.out.size))
    replace hD := Lib.hid (hD.out.below RInt.stable hb)
    replace s0 := bS.out.cell 0 _ rfl
    replace s1 := bS.out.cell 1 _ rfl
    replace a0 := bA.out.cell 0 _ rfl
    replace lS := bS.out.lt
    replace lA := bA.out.lt
    clear hb
    go_wp2_with fail
    obtain ⟨cC, hcC⟩ : ∃ cC, nearC gs ts xs x y0 = cC := ⟨_, rfl⟩
    have hcut := sep_cut hV.out (by omega) hne0
    rw [hcC, hl3, hV0H.out] at hcut
    rw [← hl3] at hcut
    have hcutH := Lib.hid hcut
    have hcCH := Lib.hid hcC
    clear hcut hcC
    refine (iSep hSA.out hv.out hx hy0 hne0 (by omega) hcCH.out).mono ?_
    rintro e w7 ⟨P3, np3, cp3, rfl, hP3, hb⟩
    replace hP3 := Lib.hid hP3
    replace bS := Lib.hid (bS.out.below hb)
    replace bA := Lib.hid (bA.out.below hb)
    replace hSA := Lib.hid (hSA.out.below hb)
    replace hBy := Lib.hid (hBy.out.below RBy.stable hb)
    replace hbw := Lib.hid (hbw.out.trans (hb.mono hbw.out.size))
    replace hD := Lib.hid (hD.out.below RInt.stable hb)
    replace s0 := bS.out.cell 0 _ rfl
    replace s1 := bS.out.cell 1 _ rfl
    replace a0 := bA.out.cell 0 _ rfl
    replace lS := bS.out.lt
    replace lA := bA.out.lt
    clear hb
    go_wp2_with fail
    refine (iCut hSA.out hv.out hP3.out hcutH.out).mono ?_
    rintro e w8 ⟨rfl, hb⟩
    replace bS := Lib.hid (bS.out.below hb)
    replace bA := Lib.hid (bA.out.below hb)
    replace hSA := Lib.hid (hSA.out.below hb)
    replace hBy := Lib.hid (hBy.out.below RBy.stable hb)
    replace hbw := Lib.hid (hbw.out.trans (hb.mono hbw.out.size))
    replace hD := Lib.hid (hD.out.below RInt.stable hb)
    replace s0 := bS.out.cell 0 _ rfl
    replace s1 := bS.out.cell 1 _ rfl
    replace a0 := bA.out.cell 0 _ rfl
    replace lS := bS.out.lt
    replace lA := bA.out.lt
    clear hb
    clear hP3
    go_wp2_with fail
    refine (iConn hSA.out hv.out hx hy0 hne0 (by omega) hV0H.out).mono ?_
    rintro e w9 ⟨rfl, hb⟩
    replace bS := Lib.hid (bS.out.below hb)
    replace bA := Lib.hid (bA.out.below hb)
    replace hSA := Lib.hid (hSA.out.below hb)
    replace hBy := Lib.hid (hBy.out.below RBy.stable hb)
    replace hbw := Lib.hid (hbw.out.trans (hb.mono hbw.out.size))
    replace hD := Lib.hid (hD.out.below RInt.stable hb)
    replace s0 := bS.out.cell 0 _ rfl
    replace s1 := bS.out.cell 1 _ rfl
    replace a0 := bA.out.cell 0 _ rfl
    replace lS := bS.out.lt
    replace lA := bA.out.lt
    clear hb
    go_wp2_with fail
    refine (iBonds hSA.out hv.out hNH.out).mono ?_
    rintro e wa ⟨B5, cb5, rfl, hBd, hb⟩
    replace hBd := Lib.hid hBd
    replace bS := Lib.hid (bS.out.below hb)
    replace bA := Lib.hid (bA.out.below hb)
    replace hSA := Lib.hid (hSA.out.below hb)
    replace hBy := Lib.hid (hBy.out.below RBy.stable hb)
    replace hbw := Lib.hid (hbw.out.trans (hb.mono hbw.out.size))
    replace hD := Lib.hid (hD.out.below RInt.stable hb)
    replace s0 := bS.out.cell 0 _ rfl
    replace s1 := bS.out.cell 1 _ rfl
    replace a0 := bA.out.cell 0 _ rfl
    replace lS := bS.out.lt
    replace lA := bA.out.lt
    clear hb
    by_cases hN0 : N = 0
    · have hN0i : ((N : Int) == 0) = true := by simp; omega
      have hN0j : (N : Int) = 0 := by omega
      subst hN0
      go_wp2
      go_ret
      exact ⟨rfl, hbw.out⟩
    have hN0i : ((N : Int) == 0) = false := by simp; omega
    have hN0j : ¬ (N : Int) = 0 := by omega
    obtain ⟨bd, od, hDe, hbd, hcd⟩ := hD.out.ptr (by omega)
    subst hDe
    have hnews : Hid (∀ (j : Nat) (u : Value), (l.map (Value.int .i64))[j]? = some u → wa.cell? ⟨bd, od + j, none⟩ = some u) := Lib.hid (fun j u hu => by
      rw [List.getElem?_map] at hu
      cases hj : l[j]? with
      | none => rw [hj] at hu; cases hu
      | some v =>
        rw [hj] at hu
        simp only [Option.map_some, Option.some.injEq] at hu
        subst hu
        have hz := hcd j v hj
        unfold RInt at hz
        simpa using hz)
    clear hcd
    have hSAa := hSA
    have bSa := bS
    have bAa := bA
    have hbwa := hbw
    have hA4 : Hid (Below wa.heap.size wa (wa.alloc (Obj.cells #[] 2))) := Lib.hid (bl_al (bl_refl _) _)
    have hL0 : Hid ((wa.alloc (Obj.cells #[] 2)).ownsRow wa.heap.size 2 1 (.slice (some ⟨wa.heap.size, 0, none⟩) 0 0) 0 []) := Lib.hid (World.ownsRow_lit wa #[] 0 (Nat.le_refl _) (by unfold maxLen; omega) rfl)
    have hln : Hid ((l.map (Value.int .i64)).length = N * 1) := Lib.hid (by rw [List.length_map, hllH.out, Nat.mul_one])
    have hnewA : Hid (∀ (j : Nat) (u : Value), (l.map (Value.int .i64))[j]? = some u → (wa.alloc (Obj.cells #[] 2)).cell? ((⟨bd, od, none⟩ : Addr).add j) = some u) := Lib.hid (fun j u hu => by rw [add_atF]; exact (hA4.out.cell (p := ⟨bd, od + j, none⟩) hbd).trans (hnews.out j u hu))
    have hone : Hid (∀ u ∈ l.map (Value.int .i64), u.oneCell' = true) := Lib.hid (fun u hu => by obtain ⟨v, _, rfl⟩ := List.mem_map.1 hu; rfl)
    go_wp2_with (at_builtin; refine wpList_append_own_at _ rfl _ _ 33 rfl wa.heap.size 2 iI (.int .i64 0) 1 8 Tryz.underlying33 hI hI0 hI1 hI2 rfl (by decide) (.slice (some ⟨wa.heap.size, 0, none⟩) 0 0) 0 [] rfl hL0.out ⟨bd, od, none⟩ N c3 (l.map (Value.int .i64)) rfl hln.out hnewA.out hone.out (by unfold maxLen; omega) (by omega) (by simp) ?_; intro v9 wb hown9 hgrow9 _ _; rw [Nat.zero_add, List.nil_append] at hown9; obtain ⟨A9, c9, rfl⟩ := ownsRow_form hown9; have hb : Below wa.heap.size wa wb := hA4.out.grown hgrow9 (by simp) (fun g e => (hL0.out.lt g e).1); have hown9H := Lib.hid hown9; have hbQ := Lib.hid hb; replace bS := Lib.hid (bS.out.below hb); replace bA := Lib.hid (bA.out.below hb); replace hSA := Lib.hid (hSA.out.below hb); replace hBy := Lib.hid (hBy.out.below RBy.stable hb); replace hbw := Lib.hid (hbw.out.trans (hb.mono hbw.out.size)); replace hD := Lib.hid (hD.out.below RInt.stable hb); replace hBd := Lib.hid (hBd.out.below RBd.stable hb); replace s0 := bS.out.cell 0 _ rfl; replace s1 := bS.out.cell 1 _ rfl; replace a0 := bA.out.cell 0 _ rfl; replace lS := bS.out.lt; replace lA := bA.out.lt; clear hb hown9 hgrow9)
    refine (LawPick_any N hBy.out hn2le (by omega) (by omega)).mono ?_
    rintro e wc ⟨k, rfl, hk, hb⟩
    replace hown9H := Lib.hid (ownsRow_below hown9H.out hb)
    replace hbQ := Lib.hid (hbQ.out.trans (hb.mono hbQ.out.size))
    replace bS := Lib.hid (bS.out.below hb)
    replace bA := Lib.hid (bA.out.below hb)
    replace hSA := Lib.hid (hSA.out.below hb)
    replace hBy := Lib.hid (hBy.out.below RBy.stable hb)
    replace hbw := Lib.hid (hbw.out.trans (hb.mono hbw.out.size))
    replace hD := Lib.hid (hD.out.below RInt.stable hb)
    replace hBd := Lib.hid (hBd.out.below RBd.stable hb)
    replace s0 := bS.out.cell 0 _ rfl
    replace s1 := bS.out.cell 1 _ rfl
    replace a0 := bA.out.cell 0 _ rfl
    replace lS := bS.out.lt
    replace lA := bA.out.lt
    clear hb
    obtain ⟨eb, heb⟩ : ∃ eb, (bondsL gs ts xs)[k]? = some eb := ⟨_, List.getElem?_eq_getElem (by rw [hNH.out]; exact hk)⟩
    have hlk := flowL_get (x := x) (y := y0) (show k < (bondsL gs ts xs).length by rw [hNH.out]; exact hk)
    rw [hl0H.out] at hlk
    have hinv := fin_inv (x := x) (y := y0) hV.out heb
    have hes := (bondsL_at hV.out heb).2.2
    obtain ⟨g9, rfl⟩ := ownsRow_posF hown9H.out (by omega)
    obtain ⟨bb, ob, hBe, hbb, hcb⟩ := hBd.out.ptr (by omega)
    subst hBe
    have z2 := (hcb k eb heb).2.2
    have hebH := Lib.hid heb
    obtain ⟨lk, hlkE⟩ : ∃ lk, lastF gs ts xs x y0 k = lk := ⟨_, rfl⟩
    rw [hlkE] at hlk hinv
    have hlkEH := Lib.hid hlkE
    have c9k := (hown9H.out.cellAt k (by omega)).trans (show _ = some (Value.int .i64 lk) by rw [List.getElem?_map, hlk]; rfl)
    have f9k := hown9H.out.frozenAt k
    have l9 := (hown9H.out.lt g9 rfl).2
    have u1 : IntKind.i64.wrap (eb.s * 2) = eb.s * 2 := wrapI (by omega) (by omega)
    have u2 : IntKind.i64.wrap (eb.s * 2 + 1) = eb.s * 2 + 1 := wrapI (by omega) (by omega)
    have u3 : IntKind.i64.wrap (lk + (eb.s * 2 + 1)) = lk + (eb.s * 2 + 1) := wrapI (by omega) (by omega)
    have hkI : (k : Int) < (N : Int) := by omega
    have hk0 : (0 : Int) ≤ (k : Int) := by omega
    clear hcb heb hlkE hlk hinv hes
    go_wp2
    refine wp_region_ord [(0, .q), (1, .q), (2, .q), (3, .q), (4, .q), (5, .q), (6, .q), (7, .q), (8, .q), (9, .q), (10, .q), (11, .q), (12, .q), (13, .b)] (by kernel_rfl) (by kernel_rfl) ?_
    simp only [pick, List.filterMap_cons, List.filterMap_nil, List.getElem?_toArray, List.getElem?_cons_zero, List.getElem?_cons_succ, Option.map_some]
    repeat (first | ((with_reducible refine wpD_p (fun K hK => ?_)); go_simp; refine hK _ ?_; clear hK K) | ((with_reducible refine wpD_q (fun K hK => ?_)); go_simp; (first | refine hK _ ?_ | (go_bits; refine hK _ ?_) | (go_bits; go_simp; refine hK _ ?_)); clear hK K))
    with_reducible refine wpD_b (fun K hK => ?_)
    go_simp
    refine hK _ _ ?_
    clear hK K
    with_reducible refine wpD_nil ?_
    obtain ⟨wd, hwd⟩ : ∃ wd, wd = (wc.setCell ⟨g9, k, none⟩ (.int .i64 (lk + (eb.s * 2 + 1)))).drew := ⟨_, rfl⟩
    rw [← hwd]
    have hb : Below wa.heap.size wa wd := by rw [hwd]; exact bl_dr (hbQ.out.setCell (p := ⟨g9, k, none⟩) (hown9H.out.lt g9 rfl).1 _)
    have hF : Hid (RdSl 1 RInt wd (some ⟨g9, 0, none⟩) N (l.set k (lastF gs ts xs x y0 k + (eb.s * 2 + 1)))) := Lib.hid (by
      have hst := (hown9H.out.stored k (.int .i64 (lk + (eb.s * 2 + 1)))).1
      have hs2 := ownsRow_below hst (bl_dr (bl_refl _))
      rw [← hwd, ← List.map_set] at hs2
      rw [hlkEH.out]
      exact rdI hs2 (by rw [List.length_set, hllH.out]))
    clear s0 s1 a0 lS lA c9k f9k l9 z2 hbQ hBd hown9H hwd
    replace bS := Lib.hid (bSa.out.below hb)
    replace bA := Lib.hid (bAa.out.below hb)
    replace hSA := Lib.hid (hSAa.out.below hb)
    replace hbw := Lib.hid (hbwa.out.trans (hb.mono hbwa.out.size))
    have s0 := bS.out.cell 0 _ rfl
    have s1 := bS.out.cell 1 _ rfl
    have a0 := bA.out.cell 0 _ rfl
    have lS := bS.out.lt
    have lA := bA.out.lt
    clear hb bSa bAa hSAa hbwa
    go_wp2_with fail
    refine (iBad hSA.out hv.out hx hy0 hne0 hebH.out hF.out (by omega) hl0H.out).mono ?_
    rintro e we ⟨rfl, hb⟩
    replace hbw := Lib.hid (hbw.out.trans (hb.mono hbw.out.size))
    clear hb
    go_wp2
    go_ret
    exact ⟨rfl, hbw.out⟩
end Go.Proofs.YtmhgjgclclnmaaaGreat
