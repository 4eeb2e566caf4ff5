/- Walks: the program's Connectivity, SeparatingPart. -/
import Derived.Test.YtfabgnnpgepcoaaGreatS7
import Derived.Test.YtfabgnnpgepcoaaGreatF7
namespace Go.Proofs.YtfabgnnpgepcoaaGreat
open Go.RowKit Go.Shelf
set_option linter.unusedSimpArgs false
set_option linter.unusedVariables false
attribute [local go_sem] BelowBy.cell BelowBy.cell_drew stillUpon givesUpon BelowBy.cell_drew2 BelowBy.cell_drew3

set_option maxRecDepth 100000 in
set_option maxHeartbeats 2000000 in
theorem fullCut_at {G T A : Option Addr} {n cg m ct q ca : Nat} {gs : List Gl} {ts : List Ti} {xs : List Pl} {w : World} (h : SA w G n T m A q gs ts xs) (x y : Int) {r : Int} (hr : fullCode (validAsmB gs ts xs) xs.length x y = r) :
    Calls Tryz.prog 32 #[.agg #[.slice G n cg, .slice T m ct], .agg #[.slice A q ca], .int .i64 x, .int .i64 y] w fun e w' => e = .returned (.int .i64 r) ∧ Below w.heap.size w w' := by
  have hH := Lib.hid h
  have hq := h.q
  have hgm := h.gm
  have htm := h.tm
  have hgm2 : n ≤ 281474976710656 := by omega
  have htm2 : m ≤ 281474976710656 := by omega
  obtain ⟨cc, hcE⟩ : ∃ cc, cutCodeI (validAsmB gs ts xs) xs.length x y = cc := ⟨_, rfl⟩
  have hcH := Lib.hid hcE
  have hr1 : r = if cc ≠ 0 then cc else if 64 < q then 4 else 0 := by rw [← hr]; unfold fullCode; rw [hcE, h.A.len]
  clear hr h hcE
  by_cases hc0 : cc = 0
  · subst hc0
    rw [if_neg (by simp)] at hr1
    by_cases h64 : 64 < q
    · rw [if_pos h64] at hr1
      subst hr1
      go_enter Tryz.func32, Tryz.ntmps32
      go_wp2_with (go_at_call 54; refine (cutCode_at (hH.out.G.below RGl.stable (by repeat (first | with_reducible exact bl_refl _ | with_reducible assumption | with_reducible refine bl_al ?_ _ | with_reducible refine bl_dr ?_ | with_reducible refine bl_tr ?_ (by assumption) | with_reducible refine bl_set ?_ ?_ _ | with_reducible exact Nat.le_refl _ | omega | (simp only [World.size_alloc, World.size_setCell, World.size_drew] at *; omega) | (dsimp only; omega) | (simp; done) | (simp; omega)))) (hH.out.T.below RTi.stable (by repeat (first | with_reducible exact bl_refl _ | with_reducible assumption | with_reducible refine bl_al ?_ _ | with_reducible refine bl_dr ?_ | with_reducible refine bl_tr ?_ (by assumption) | with_reducible refine bl_set ?_ ?_ _ | with_reducible exact Nat.le_refl _ | omega | (simp only [World.size_alloc, World.size_setCell, World.size_drew] at *; omega) | (dsimp only; omega) | (simp; done) | (simp; omega)))) (hH.out.A.below RPl.stable (by repeat (first | with_reducible exact bl_refl _ | with_reducible assumption | with_reducible refine bl_al ?_ _ | with_reducible refine bl_dr ?_ | with_reducible refine bl_tr ?_ (by assumption) | with_reducible refine bl_set ?_ ?_ _ | with_reducible exact Nat.le_refl _ | omega | (simp only [World.size_alloc, World.size_setCell, World.size_drew] at *; omega) | (dsimp only; omega) | (simp; done) | (simp; omega)))) hgm2 htm2 hq hH.out.gn hH.out.tn hcH.out).mono ?_; rintro e w1 ⟨rfl, hb1⟩; have ca1 := (hb1.cell (p := ⟨w.heap.size + 1, 0, none⟩) (by simp)).trans (show _ = some (Value.slice A q ca) by go_simp); have la1 : w.heap.size + 1 < w1.heap.size := by have := hb1.size; simp at this; omega)
      go_ret
      exact ⟨rfl, by repeat (first | with_reducible exact bl_refl _ | with_reducible assumption | with_reducible refine bl_al ?_ _ | with_reducible refine bl_dr ?_ | with_reducible refine bl_tr ?_ (by assumption) | with_reducible refine bl_set ?_ ?_ _ | with_reducible exact Nat.le_refl _ | omega | (simp only [World.size_alloc, World.size_setCell, World.size_drew] at *; omega) | (dsimp only; omega) | (simp; done) | (simp; omega))⟩
    · rw [if_neg h64] at hr1
      subst hr1
      go_enter Tryz.func32, Tryz.ntmps32
      go_wp2_with (go_at_call 54; refine (cutCode_at (hH.out.G.below RGl.stable (by repeat (first | with_reducible exact bl_refl _ | with_reducible assumption | with_reducible refine bl_al ?_ _ | with_reducible refine bl_dr ?_ | with_reducible refine bl_tr ?_ (by assumption) | with_reducible refine bl_set ?_ ?_ _ | with_reducible exact Nat.le_refl _ | omega | (simp only [World.size_alloc, World.size_setCell, World.size_drew] at *; omega) | (dsimp only; omega) | (simp; done) | (simp; omega)))) (hH.out.T.below RTi.stable (by repeat (first | with_reducible exact bl_refl _ | with_reducible assumption | with_reducible refine bl_al ?_ _ | with_reducible refine bl_dr ?_ | with_reducible refine bl_tr ?_ (by assumption) | with_reducible refine bl_set ?_ ?_ _ | with_reducible exact Nat.le_refl _ | omega | (simp only [World.size_alloc, World.size_setCell, World.size_drew] at *; omega) | (dsimp only; omega) | (simp; done) | (simp; omega)))) (hH.out.A.below RPl.stable (by repeat (first | with_reducible exact bl_refl _ | with_reducible assumption | with_reducible refine bl_al ?_ _ | with_reducible refine bl_dr ?_ | with_reducible refine bl_tr ?_ (by assumption) | with_reducible refine bl_set ?_ ?_ _ | with_reducible exact Nat.le_refl _ | omega | (simp only [World.size_alloc, World.size_setCell, World.size_drew] at *; omega) | (dsimp only; omega) | (simp; done) | (simp; omega)))) hgm2 htm2 hq hH.out.gn hH.out.tn hcH.out).mono ?_; rintro e w1 ⟨rfl, hb1⟩; have ca1 := (hb1.cell (p := ⟨w.heap.size + 1, 0, none⟩) (by simp)).trans (show _ = some (Value.slice A q ca) by go_simp); have la1 : w.heap.size + 1 < w1.heap.size := by have := hb1.size; simp at this; omega)
      go_ret
      exact ⟨rfl, by repeat (first | with_reducible exact bl_refl _ | with_reducible assumption | with_reducible refine bl_al ?_ _ | with_reducible refine bl_dr ?_ | with_reducible refine bl_tr ?_ (by assumption) | with_reducible refine bl_set ?_ ?_ _ | with_reducible exact Nat.le_refl _ | omega | (simp only [World.size_alloc, World.size_setCell, World.size_drew] at *; omega) | (dsimp only; omega) | (simp; done) | (simp; omega))⟩
  · have hc1 : (cc != 0) = true := by simpa using hc0
    rw [if_pos hc0] at hr1
    subst hr1
    go_enter Tryz.func32, Tryz.ntmps32
    go_wp2_with (go_at_call 54; refine (cutCode_at (hH.out.G.below RGl.stable (by repeat (first | with_reducible exact bl_refl _ | with_reducible assumption | with_reducible refine bl_al ?_ _ | with_reducible refine bl_dr ?_ | with_reducible refine bl_tr ?_ (by assumption) | with_reducible refine bl_set ?_ ?_ _ | with_reducible exact Nat.le_refl _ | omega | (simp only [World.size_alloc, World.size_setCell, World.size_drew] at *; omega) | (dsimp only; omega) | (simp; done) | (simp; omega)))) (hH.out.T.below RTi.stable (by repeat (first | with_reducible exact bl_refl _ | with_reducible assumption | with_reducible refine bl_al ?_ _ | with_reducible refine bl_dr ?_ | with_reducible refine bl_tr ?_ (by assumption) | with_reducible refine bl_set ?_ ?_ _ | with_reducible exact Nat.le_refl _ | omega | (simp only [World.size_alloc, World.size_setCell, World.size_drew] at *; omega) | (dsimp only; omega) | (simp; done) | (simp; omega)))) (hH.out.A.below RPl.stable (by repeat (first | with_reducible exact bl_refl _ | with_reducible assumption | with_reducible refine bl_al ?_ _ | with_reducible refine bl_dr ?_ | with_reducible refine bl_tr ?_ (by assumption) | with_reducible refine bl_set ?_ ?_ _ | with_reducible exact Nat.le_refl _ | omega | (simp only [World.size_alloc, World.size_setCell, World.size_drew] at *; omega) | (dsimp only; omega) | (simp; done) | (simp; omega)))) hgm2 htm2 hq hH.out.gn hH.out.tn hcH.out).mono ?_; rintro e w1 ⟨rfl, hb1⟩)
    go_ret
    exact ⟨rfl, by repeat (first | with_reducible exact bl_refl _ | with_reducible assumption | with_reducible refine bl_al ?_ _ | with_reducible refine bl_dr ?_ | with_reducible refine bl_tr ?_ (by assumption) | with_reducible refine bl_set ?_ ?_ _ | with_reducible exact Nat.le_refl _ | omega | (simp only [World.size_alloc, World.size_setCell, World.size_drew] at *; omega) | (dsimp only; omega) | (simp; done) | (simp; omega))⟩
set_option maxRecDepth 100000 in
set_option maxHeartbeats 2000000 in
theorem Connectivity_any (G T A : Option Addr) (n cg m ct q ca : Nat) (gs : List Gl) (ts : List Ti) (xs : List Pl) (x y : Int) (w : World) (h : SA w G n T m A q gs ts xs) :
    Calls Tryz.prog 11 #[.agg #[.slice G n cg, .slice T m ct], .agg #[.slice A q ca], .int .i64 x, .int .i64 y] w (ChkRes w (connR gs ts xs x y)) := by
  have hSA := Lib.hid h
  have hlen := h.A.len
  have hq := h.q
  clear h
  obtain ⟨r, hrE⟩ : ∃ r, fullCode (validAsmB gs ts xs) xs.length x y = r := ⟨_, rfl⟩
  have hrH := Lib.hid hrE
  by_cases hr0 : r = 0
  · subst hr0
    obtain ⟨hval, x, y, rfl, rfl, hx, hy, hxy, h64⟩ := fullCode_zero hrE
    have hV := valid_of hval
    have hbo := Lib.hid (bondsOk hV)
    have hbl := bondsL_len hV
    clear hrE hval
    rw [hlen] at hx hy h64
    go_enter Tryz.func11, Tryz.ntmps11
    go_wp2_with (go_at_call 32; refine (fullCut_at (hSA.out.below (by repeat (first | with_reducible exact bl_refl _ | with_reducible assumption | with_reducible refine bl_al ?_ _ | with_reducible refine bl_dr ?_ | with_reducible refine bl_tr ?_ (by assumption) | with_reducible refine bl_set ?_ ?_ _ | with_reducible exact Nat.le_refl _ | omega | (simp only [World.size_alloc, World.size_setCell, World.size_drew] at *; omega) | (dsimp only; omega) | (simp; done) | (simp; omega)))) _ _ hrH.out).mono ?_; rintro e w1 ⟨rfl, hb1⟩; have ca1 := (hb1.cell (p := ⟨w.heap.size + 1, 0, none⟩) (by simp)).trans (show _ = some (Value.slice A q ca) by go_simp); have cg1 := (hb1.cell (p := ⟨w.heap.size, 0, none⟩) (by simp; omega)).trans (show _ = some (Value.slice G n cg) by go_simp); have ct1 := (hb1.cell (p := ⟨w.heap.size, 1, none⟩) (by simp; omega)).trans (show _ = some (Value.slice T m ct) by go_simp); have la1 : w.heap.size + 1 < w1.heap.size := by have := hb1.size; simp at this; omega)
    have hb1H : Below w.heap.size w w1 := by repeat (first | with_reducible exact bl_refl _ | with_reducible assumption | with_reducible refine bl_al ?_ _ | with_reducible refine bl_dr ?_ | with_reducible refine bl_tr ?_ (by assumption) | with_reducible refine bl_set ?_ ?_ _ | with_reducible exact Nat.le_refl _ | omega | (simp only [World.size_alloc, World.size_setCell, World.size_drew] at *; omega) | (dsimp only; omega) | (simp; done) | (simp; omega))
    have lg1 : w.heap.size < w1.heap.size := by omega
    refine wp_region_ord [(0, .q), (1, .q), (2, .q), (3, .q), (4, .q), (6, .q), (7, .q), (5, .g), (8, .g), (9, .q), (10, .q), (11, .q), (12, .q), (13, .q)] (by kernel_rfl) (by kernel_rfl) ?_
    simp only [pick, List.filterMap_cons, List.filterMap_nil, List.getElem?_toArray, List.getElem?_cons_zero, List.getElem?_cons_succ, Option.map_some]
    repeat (first | ((with_reducible refine wpD_p (fun K hK => ?_)); go_simp; refine hK _ ?_; clear hK K) | ((with_reducible refine wpD_q (fun K hK => ?_)); go_simp; (first | refine hK _ ?_ | (go_bits; refine hK _ ?_) | (go_bits; go_simp; refine hK _ ?_)); clear hK K))
    with_reducible refine wpD_g (fun K hK => ?_)
    go_simp
    refine ((hSA.out.below (by repeat (first | with_reducible exact bl_refl _ | with_reducible assumption | with_reducible refine bl_al ?_ _ | with_reducible refine bl_dr ?_ | with_reducible refine bl_tr ?_ (by assumption) | with_reducible refine bl_set ?_ ?_ _ | with_reducible exact Nat.le_refl _ | omega | (simp only [World.size_alloc, World.size_setCell, World.size_drew] at *; omega) | (dsimp only; omega) | (simp; done) | (simp; omega)))).bonds hV).mono ?_
    rintro e w2 ⟨v, rfl, hrow, hb2⟩
    obtain ⟨B, cb, rfl, hB⟩ := rd_of_row hrow
    refine ⟨_, rfl, hb2, hK _ _ ?_⟩
    clear hK K hrow
    have hBH := Lib.hid hB
    clear hB
    with_reducible refine wpD_g (fun K hK => ?_)
    go_simp
    refine (flowing_any q x y B cb (bondsL gs ts xs) _ hBH.out (by rw [← hlen]; exact hbo.out) hx hy hxy (by omega) (by omega)).mono ?_
    rintro e w3 ⟨p, vR, vF, uR, uF, rfl, hN, hb3⟩
    refine ⟨_, rfl, hb3, hK _ _ ?_⟩
    clear hK K hN
    repeat (first | ((with_reducible refine wpD_p (fun K hK => ?_)); go_simp; refine hK _ ?_; clear hK K) | ((with_reducible refine wpD_q (fun K hK => ?_)); go_simp; (first | refine hK _ ?_ | (go_bits; refine hK _ ?_) | (go_bits; go_simp; refine hK _ ?_)); clear hK K))
    with_reducible refine wpD_nil ?_
    go_wp2
    go_ret2
    exact ChkRes.of (by rw [← hlen]; exact connR_yes hrH.out) (by repeat (first | with_reducible exact bl_refl _ | with_reducible assumption | with_reducible refine bl_al ?_ _ | with_reducible refine bl_dr ?_ | with_reducible refine bl_tr ?_ (by assumption) | with_reducible refine bl_set ?_ ?_ _ | with_reducible exact Nat.le_refl _ | omega | (simp only [World.size_alloc, World.size_setCell, World.size_drew] at *; omega) | (dsimp only; omega) | (simp; done) | (simp; omega)))
  · have hr0' : (r != 0) = true := by simpa using hr0
    clear hrE
    go_enter Tryz.func11, Tryz.ntmps11
    go_wp2_with (go_at_call 32; refine (fullCut_at (hSA.out.below (by repeat (first | with_reducible exact bl_refl _ | with_reducible assumption | with_reducible refine bl_al ?_ _ | with_reducible refine bl_dr ?_ | with_reducible refine bl_tr ?_ (by assumption) | with_reducible refine bl_set ?_ ?_ _ | with_reducible exact Nat.le_refl _ | omega | (simp only [World.size_alloc, World.size_setCell, World.size_drew] at *; omega) | (dsimp only; omega) | (simp; done) | (simp; omega)))) _ _ hrH.out).mono ?_; rintro e w1 ⟨rfl, hb1⟩)
    go_ret2
    exact ChkRes.of (connR_no hrH.out hr0) (by repeat (first | with_reducible exact bl_refl _ | with_reducible assumption | with_reducible refine bl_al ?_ _ | with_reducible refine bl_dr ?_ | with_reducible refine bl_tr ?_ (by assumption) | with_reducible refine bl_set ?_ ?_ _ | with_reducible exact Nat.le_refl _ | omega | (simp only [World.size_alloc, World.size_setCell, World.size_drew] at *; omega) | (dsimp only; omega) | (simp; done) | (simp; omega)))
set_option maxRecDepth 100000 in
set_option maxHeartbeats 2000000 in
theorem SeparatingPart_any (G T A : Option Addr) (n cg m ct q ca : Nat) (gs : List Gl) (ts : List Ti) (xs : List Pl) (x y : Int) (w : World) (h : SA w G n T m A q gs ts xs) :
    Calls Tryz.prog 22 #[.agg #[.slice G n cg, .slice T m ct], .agg #[.slice A q ca], .int .i64 x, .int .i64 y] w (IntsRes w (sepR gs ts xs x y)) := by
  have hSA := Lib.hid h
  have hlen := h.A.len
  have hq := h.q
  clear h
  obtain ⟨r, hrE⟩ : ∃ r, fullCode (validAsmB gs ts xs) xs.length x y = r := ⟨_, rfl⟩
  have hrH := Lib.hid hrE
  by_cases hr0 : r = 0
  · subst hr0
    obtain ⟨hval, x, y, rfl, rfl, hx, hy, hxy, h64⟩ := fullCode_zero hrE
    have hV := valid_of hval
    have hbo := Lib.hid (bondsOk hV)
    have hbl := bondsL_len hV
    clear hrE hval
    rw [hlen] at hx hy h64
    go_enter Tryz.func22, Tryz.ntmps22
    go_wp2_with (go_at_call 32; refine (fullCut_at (hSA.out.below (by repeat (first | with_reducible exact bl_refl _ | with_reducible assumption | with_reducible refine bl_al ?_ _ | with_reducible refine bl_dr ?_ | with_reducible refine bl_tr ?_ (by assumption) | with_reducible refine bl_set ?_ ?_ _ | with_reducible exact Nat.le_refl _ | omega | (simp only [World.size_alloc, World.size_setCell, World.size_drew] at *; omega) | (dsimp only; omega) | (simp; done) | (simp; omega)))) _ _ hrH.out).mono ?_; rintro e w1 ⟨rfl, hb1⟩; have ca1 := (hb1.cell (p := ⟨w.heap.size + 1, 0, none⟩) (by simp)).trans (show _ = some (Value.slice A q ca) by go_simp); have cg1 := (hb1.cell (p := ⟨w.heap.size, 0, none⟩) (by simp; omega)).trans (show _ = some (Value.slice G n cg) by go_simp); have ct1 := (hb1.cell (p := ⟨w.heap.size, 1, none⟩) (by simp; omega)).trans (show _ = some (Value.slice T m ct) by go_simp); have la1 : w.heap.size + 1 < w1.heap.size := by have := hb1.size; simp at this; omega)
    have hb1H : Below w.heap.size w w1 := by repeat (first | with_reducible exact bl_refl _ | with_reducible assumption | with_reducible refine bl_al ?_ _ | with_reducible refine bl_dr ?_ | with_reducible refine bl_tr ?_ (by assumption) | with_reducible refine bl_set ?_ ?_ _ | with_reducible exact Nat.le_refl _ | omega | (simp only [World.size_alloc, World.size_setCell, World.size_drew] at *; omega) | (dsimp only; omega) | (simp; done) | (simp; omega))
    have lg1 : w.heap.size < w1.heap.size := by omega
    refine wp_region_ord [(0, .q), (1, .q), (2, .q), (3, .q), (4, .q), (6, .q), (7, .q), (5, .g), (8, .g), (9, .q), (10, .q), (11, .q), (12, .q), (13, .q)] (by kernel_rfl) (by kernel_rfl) ?_
    simp only [pick, List.filterMap_cons, List.filterMap_nil, List.getElem?_toArray, List.getElem?_cons_zero, List.getElem?_cons_succ, Option.map_some]
    repeat (first | ((with_reducible refine wpD_p (fun K hK => ?_)); go_simp; refine hK _ ?_; clear hK K) | ((with_reducible refine wpD_q (fun K hK => ?_)); go_simp; (first | refine hK _ ?_ | (go_bits; refine hK _ ?_) | (go_bits; go_simp; refine hK _ ?_)); clear hK K))
    with_reducible refine wpD_g (fun K hK => ?_)
    go_simp
    refine ((hSA.out.below (by repeat (first | with_reducible exact bl_refl _ | with_reducible assumption | with_reducible refine bl_al ?_ _ | with_reducible refine bl_dr ?_ | with_reducible refine bl_tr ?_ (by assumption) | with_reducible refine bl_set ?_ ?_ _ | with_reducible exact Nat.le_refl _ | omega | (simp only [World.size_alloc, World.size_setCell, World.size_drew] at *; omega) | (dsimp only; omega) | (simp; done) | (simp; omega)))).bonds hV).mono ?_
    rintro e w2 ⟨v, rfl, hrow, hb2⟩
    obtain ⟨B, cb, rfl, hB⟩ := rd_of_row hrow
    refine ⟨_, rfl, hb2, hK _ _ ?_⟩
    clear hK K hrow
    have hBH := Lib.hid hB
    have hbq := Lib.hid (show BondsOk q (bondsL gs ts xs) by rw [← hlen]; exact hbo.out)
    clear hB
    with_reducible refine wpD_g (fun K hK => ?_)
    go_simp
    refine (flowing_any q x y B cb (bondsL gs ts xs) _ hBH.out hbq.out hx hy hxy (by omega) (by omega)).mono ?_
    rintro e w3 ⟨p, vR, vF, uR, uF, rfl, hN, hb3⟩
    refine ⟨_, rfl, hb3, hK _ _ ?_⟩
    have hNH := Lib.hid hN
    clear hK K hN
    repeat (first | ((with_reducible refine wpD_p (fun K hK => ?_)); go_simp; refine hK _ ?_; clear hK K) | ((with_reducible refine wpD_q (fun K hK => ?_)); go_simp; (first | refine hK _ ?_ | (go_bits; refine hK _ ?_) | (go_bits; go_simp; refine hK _ ?_)); clear hK K))
    with_reducible refine wpD_nil ?_
    go_wp2_with (go_at_call 42; refine (leadingTo_any _ p q y _ _ vR vF uR uF _ hNH.out hy (by omega)).mono ?_; rw [freeE_eq hbq.out (iterF_inv hbq.out x y _)]; rintro e w4 ⟨v, rfl, hrow, hb4⟩; have hrowH := Lib.hid hrow; clear hrow)
    go_ret2
    have hbel : Below w.heap.size w w4 := by repeat (first | with_reducible exact bl_refl _ | with_reducible assumption | with_reducible refine bl_al ?_ _ | with_reducible refine bl_dr ?_ | with_reducible refine bl_tr ?_ (by assumption) | with_reducible refine bl_set ?_ ?_ _ | with_reducible exact Nat.le_refl _ | omega | (simp only [World.size_alloc, World.size_setCell, World.size_drew] at *; omega) | (dsimp only; omega) | (simp; done) | (simp; omega))
    have hbel3 : Below w.heap.size w w3 := by repeat (first | with_reducible exact bl_refl _ | with_reducible assumption | with_reducible refine bl_al ?_ _ | with_reducible refine bl_dr ?_ | with_reducible refine bl_tr ?_ (by assumption) | with_reducible refine bl_set ?_ ?_ _ | with_reducible exact Nat.le_refl _ | omega | (simp only [World.size_alloc, World.size_setCell, World.size_drew] at *; omega) | (dsimp only; omega) | (simp; done) | (simp; omega))
    refine IntsRes.of (sepR_yes hrH.out) ?_ hbel
    have h5 := hrowH.out
    unfold lastF
    rw [hlen, show (intsI (leadL q (edgeB (bondsL gs ts xs) (iterF q (bondsL gs ts xs) x y (flowV q (bondsL gs ts xs) x y))) y q)).length = (leadL q (edgeB (bondsL gs ts xs) (iterF q (bondsL gs ts xs) x y (flowV q (bondsL gs ts xs) x y))) y q).length by simp [intsI]]
    exact ownsRow_base h5 hbel3.size
  · have hr0' : (r != 0) = true := by simpa using hr0
    clear hrE
    go_enter Tryz.func22, Tryz.ntmps22
    go_wp2_with (go_at_call 32; refine (fullCut_at (hSA.out.below (by repeat (first | with_reducible exact bl_refl _ | with_reducible assumption | with_reducible refine bl_al ?_ _ | with_reducible refine bl_dr ?_ | with_reducible refine bl_tr ?_ (by assumption) | with_reducible refine bl_set ?_ ?_ _ | with_reducible exact Nat.le_refl _ | omega | (simp only [World.size_alloc, World.size_setCell, World.size_drew] at *; omega) | (dsimp only; omega) | (simp; done) | (simp; omega)))) _ _ hrH.out).mono ?_; rintro e w1 ⟨rfl, hb1⟩)
    go_ret2
    exact IntsRes.of (sepR_no hrH.out hr0) (World.ownsRow_nil _ _ _ _) (by repeat (first | with_reducible exact bl_refl _ | with_reducible assumption | with_reducible refine bl_al ?_ _ | with_reducible refine bl_dr ?_ | with_reducible refine bl_tr ?_ (by assumption) | with_reducible refine bl_set ?_ ?_ _ | with_reducible exact Nat.le_refl _ | omega | (simp only [World.size_alloc, World.size_setCell, World.size_drew] at *; omega) | (dsimp only; omega) | (simp; done) | (simp; omega)))
end Go.Proofs.YtfabgnnpgepcoaaGreat
