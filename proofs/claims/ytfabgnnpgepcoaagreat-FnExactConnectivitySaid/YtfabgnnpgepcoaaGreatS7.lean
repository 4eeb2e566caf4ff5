/- Walks: the reference's Connectivity, SeparatingPart. -/
import Derived.Test.YtfabgnnpgepcoaaGreatS6
namespace Go.Proofs.YtfabgnnpgepcoaaGreat
open Go.RowKit Go.Shelf
set_option linter.unusedSimpArgs false
set_option linter.unusedVariables false
attribute [local go_sem] BelowBy.cell BelowBy.cell_drew stillUpon givesUpon BelowBy.cell_drew2 BelowBy.cell_drew3

noncomputable def connR (gs : List Gl) (ts : List Ti) (xs : List Pl) (x y : Int) : Int × Int := if fullCode (validAsmB gs ts xs) xs.length x y = 0 then ((flowV xs.length (bondsL gs ts xs) x.toNat y.toNat : Int), 0) else (0, fullCode (validAsmB gs ts xs) xs.length x y)
noncomputable def lastF (gs : List Gl) (ts : List Ti) (xs : List Pl) (x y : Nat) : Nat → Int := iterF xs.length (bondsL gs ts xs) x y (flowV xs.length (bondsL gs ts xs) x y)
noncomputable def sepR (gs : List Gl) (ts : List Ti) (xs : List Pl) (x y : Int) : List Int × Int := if fullCode (validAsmB gs ts xs) xs.length x y = 0 then (intsI (leadL xs.length (edgeB (bondsL gs ts xs) (lastF gs ts xs x.toNat y.toNat)) y.toNat xs.length), 0) else ([], fullCode (validAsmB gs ts xs) xs.length x y)
theorem connR_no {gs : List Gl} {ts : List Ti} {xs : List Pl} {x y r : Int} (h : fullCode (validAsmB gs ts xs) xs.length x y = r) (h0 : r ≠ 0) : (0, r) = connR gs ts xs x y := by
  unfold connR; rw [h, if_neg h0]
theorem connR_yes {gs : List Gl} {ts : List Ti} {xs : List Pl} {x y : Nat} (h : fullCode (validAsmB gs ts xs) xs.length x y = 0) : ((flowV xs.length (bondsL gs ts xs) x y : Int), 0) = connR gs ts xs x y := by
  unfold connR; rw [if_pos h]; simp
theorem sepR_no {gs : List Gl} {ts : List Ti} {xs : List Pl} {x y r : Int} (h : fullCode (validAsmB gs ts xs) xs.length x y = r) (h0 : r ≠ 0) : ([], r) = sepR gs ts xs x y := by
  unfold sepR; rw [h, if_neg h0]
theorem sepR_yes {gs : List Gl} {ts : List Ti} {xs : List Pl} {x y : Nat} (h : fullCode (validAsmB gs ts xs) xs.length x y = 0) : (intsI (leadL xs.length (edgeB (bondsL gs ts xs) (lastF gs ts xs x y)) y xs.length), 0) = sepR gs ts xs x y := by
  unfold sepR; rw [if_pos h]; simp
theorem sepR_len (gs : List Gl) (ts : List Ti) (xs : List Pl) (x y : Int) : (sepR gs ts xs x y).1.length ≤ 1073741824 := by
  unfold sepR
  split
  · rename_i h
    obtain ⟨_, xn, yn, _, _, _, _, _, hq⟩ := fullCode_zero h
    have := leadL_len xs.length (edgeB (bondsL gs ts xs) (lastF gs ts xs x.toNat y.toNat)) y.toNat xs.length
    simp only [intsI, List.length_map]
    omega
  · simp
set_option maxRecDepth 100000 in
set_option maxHeartbeats 2000000 in
theorem sConnectivity_any (G T A : Option Addr) (n cg m ct q ca : Nat) (gs : List Gl) (ts : List Ti) (xs : List Pl) (x y : Int) (w : World) (h : SA w G n T m A q gs ts xs) :
    Calls Tryz.prog 8 #[.agg #[.slice G n cg, .slice T m ct], .agg #[.slice A q ca], .int .i64 x, .int .i64 y] w (ChkRes w (connR gs ts xs x y)) := by
  have hat := Lib.hid (h.box cg ct ca)
  have hlen := h.A.len
  have hq := h.q
  clear h
  obtain ⟨r, hrE⟩ : ∃ r, fullCode (validAsmB gs ts xs) xs.length x y = r := ⟨_, rfl⟩
  have hrH := Lib.hid hrE
  by_cases hr0 : r = 0
  · subst hr0
    obtain ⟨hval, x, y, rfl, rfl, hx, hy, hxy, h64⟩ := fullCode_zero hrE
    have hV := valid_of hval
    have hbo := Lib.hid (bondsOk hV)
    have hbl := bondsL_len hV
    clear hrE hval
    rw [hlen] at hx hy h64
    go_enter Tryz.func8, Tryz.ntmps8
    go_wp2_with (go_at_call 26; refine (l07Asked_at hat.out _ _ hrH.out).mono ?_; rintro e w1 ⟨rfl, hb1⟩; have hat1 := Lib.hid (hat.out.below hb1); have ca1 := (hb1.cell (p := ⟨w.heap.size + 1, 0, none⟩) (by simp)).trans (show _ = some (Value.slice A q ca) by go_simp); have la1 : w.heap.size + 1 < w1.heap.size := by have := hb1.size; simp at this; omega)
    refine wp_region_ord [(0, .q), (1, .q), (2, .q), (4, .q), (5, .q), (3, .g), (6, .g), (7, .q), (8, .q), (9, .q), (10, .q), (11, .q)] (by kernel_rfl) (by kernel_rfl) ?_
    simp only [pick, List.filterMap_cons, List.filterMap_nil, List.getElem?_toArray, List.getElem?_cons_zero, List.getElem?_cons_succ, Option.map_some]
    repeat (first | ((with_reducible refine wpD_p (fun K hK => ?_)); go_simp; refine hK _ ?_; clear hK K) | ((with_reducible refine wpD_q (fun K hK => ?_)); go_simp; (first | refine hK _ ?_ | (go_bits; refine hK _ ?_) | (go_bits; go_simp; refine hK _ ?_)); clear hK K))
    with_reducible refine wpD_g (fun K hK => ?_)
    go_simp
    refine ((hat1.out.below (by repeat (first | with_reducible exact bl_refl _ | with_reducible assumption | with_reducible refine bl_al ?_ _ | with_reducible refine bl_dr ?_ | with_reducible refine bl_tr ?_ (by assumption) | with_reducible refine bl_set ?_ ?_ _ | with_reducible exact Nat.le_refl _ | omega | (simp only [World.size_alloc, World.size_setCell, World.size_drew] at *; omega) | (dsimp only; omega) | (simp; done) | (simp; omega)))).bonds hV).mono ?_
    rintro e w2 ⟨v, rfl, hrow, hb2⟩
    obtain ⟨B, cb, rfl, hB⟩ := rd_of_row hrow
    refine ⟨_, rfl, hb2, hK _ _ ?_⟩
    clear hK K hrow
    have hBH := Lib.hid hB
    clear hB
    with_reducible refine wpD_g (fun K hK => ?_)
    go_simp
    refine (l07Flow_any q x y B _ cb (bondsL gs ts xs) _ hBH.out (by rw [← hlen]; exact hbo.out) hx hy hxy (by omega) (by omega)).mono ?_
    rintro e w3 ⟨p, gF, vA, uA, rfl, hS⟩
    have hb3 := hS.bw
    refine ⟨_, rfl, hb3, hK _ _ ?_⟩
    clear hK K hS
    repeat (first | ((with_reducible refine wpD_p (fun K hK => ?_)); go_simp; refine hK _ ?_; clear hK K) | ((with_reducible refine wpD_q (fun K hK => ?_)); go_simp; (first | refine hK _ ?_ | (go_bits; refine hK _ ?_) | (go_bits; go_simp; refine hK _ ?_)); clear hK K))
    with_reducible refine wpD_nil ?_
    go_wp2
    go_ret2
    exact ChkRes.of (by rw [← hlen]; exact connR_yes hrH.out) (by repeat (first | with_reducible exact bl_refl _ | with_reducible assumption | with_reducible refine bl_al ?_ _ | with_reducible refine bl_dr ?_ | with_reducible refine bl_tr ?_ (by assumption) | with_reducible refine bl_set ?_ ?_ _ | with_reducible exact Nat.le_refl _ | omega | (simp only [World.size_alloc, World.size_setCell, World.size_drew] at *; omega) | (dsimp only; omega) | (simp; done) | (simp; omega)))
  · have hr0' : (r != 0) = true := by simpa using hr0
    clear hrE
    go_enter Tryz.func8, Tryz.ntmps8
    go_wp2_with (go_at_call 26; refine (l07Asked_at hat.out _ _ hrH.out).mono ?_; rintro e w1 ⟨rfl, hb1⟩)
    go_ret2
    exact ChkRes.of (connR_no hrH.out hr0) (by repeat (first | with_reducible exact bl_refl _ | with_reducible assumption | with_reducible refine bl_al ?_ _ | with_reducible refine bl_dr ?_ | with_reducible refine bl_tr ?_ (by assumption) | with_reducible refine bl_set ?_ ?_ _ | with_reducible exact Nat.le_refl _ | omega | (simp only [World.size_alloc, World.size_setCell, World.size_drew] at *; omega) | (dsimp only; omega) | (simp; done) | (simp; omega)))
set_option maxRecDepth 100000 in
set_option maxHeartbeats 2000000 in
theorem sSeparatingPart_any (G T A : Option Addr) (n cg m ct q ca : Nat) (gs : List Gl) (ts : List Ti) (xs : List Pl) (x y : Int) (w : World) (h : SA w G n T m A q gs ts xs) :
    Calls Tryz.prog 21 #[.agg #[.slice G n cg, .slice T m ct], .agg #[.slice A q ca], .int .i64 x, .int .i64 y] w (IntsRes w (sepR gs ts xs x y)) := by
  have hat := Lib.hid (h.box cg ct ca)
  have hlen := h.A.len
  have hq := h.q
  clear h
  obtain ⟨r, hrE⟩ : ∃ r, fullCode (validAsmB gs ts xs) xs.length x y = r := ⟨_, rfl⟩
  have hrH := Lib.hid hrE
  by_cases hr0 : r = 0
  · subst hr0
    obtain ⟨hval, x, y, rfl, rfl, hx, hy, hxy, h64⟩ := fullCode_zero hrE
    have hV := valid_of hval
    have hbo := Lib.hid (bondsOk hV)
    have hbl := bondsL_len hV
    clear hrE hval
    rw [hlen] at hx hy h64
    go_enter Tryz.func21, Tryz.ntmps21
    go_wp2_with (go_at_call 26; refine (l07Asked_at hat.out _ _ hrH.out).mono ?_; rintro e w1 ⟨rfl, hb1⟩; have hat1 := Lib.hid (hat.out.below hb1); have ca1 := (hb1.cell (p := ⟨w.heap.size + 1, 0, none⟩) (by simp)).trans (show _ = some (Value.slice A q ca) by go_simp); have la1 : w.heap.size + 1 < w1.heap.size := by have := hb1.size; simp at this; omega)
    refine wp_region_ord [(0, .q), (1, .q), (2, .q), (4, .q), (5, .q), (3, .g), (6, .g), (7, .q), (8, .q), (9, .q), (10, .q), (11, .q)] (by kernel_rfl) (by kernel_rfl) ?_
    simp only [pick, List.filterMap_cons, List.filterMap_nil, List.getElem?_toArray, List.getElem?_cons_zero, List.getElem?_cons_succ, Option.map_some]
    repeat (first | ((with_reducible refine wpD_p (fun K hK => ?_)); go_simp; refine hK _ ?_; clear hK K) | ((with_reducible refine wpD_q (fun K hK => ?_)); go_simp; (first | refine hK _ ?_ | (go_bits; refine hK _ ?_) | (go_bits; go_simp; refine hK _ ?_)); clear hK K))
    with_reducible refine wpD_g (fun K hK => ?_)
    go_simp
    refine ((hat1.out.below (by repeat (first | with_reducible exact bl_refl _ | with_reducible assumption | with_reducible refine bl_al ?_ _ | with_reducible refine bl_dr ?_ | with_reducible refine bl_tr ?_ (by assumption) | with_reducible refine bl_set ?_ ?_ _ | with_reducible exact Nat.le_refl _ | omega | (simp only [World.size_alloc, World.size_setCell, World.size_drew] at *; omega) | (dsimp only; omega) | (simp; done) | (simp; omega)))).bonds hV).mono ?_
    rintro e w2 ⟨v, rfl, hrow, hb2⟩
    obtain ⟨B, cb, rfl, hB⟩ := rd_of_row hrow
    refine ⟨_, rfl, hb2, hK _ _ ?_⟩
    clear hK K hrow
    have hBH := Lib.hid hB
    clear hB
    with_reducible refine wpD_g (fun K hK => ?_)
    go_simp
    refine (l07Flow_any q x y B _ cb (bondsL gs ts xs) _ hBH.out (by rw [← hlen]; exact hbo.out) hx hy hxy (by omega) (by omega)).mono ?_
    rintro e w3 ⟨p, gF, vA, uA, rfl, hS⟩
    have hb3 := hS.bw
    have hSH := Lib.hid hS
    have hbq := Lib.hid (show BondsOk q (bondsL gs ts xs) by rw [← hlen]; exact hbo.out)
    refine ⟨_, rfl, hb3, hK _ _ ?_⟩
    clear hK K hS
    repeat (first | ((with_reducible refine wpD_p (fun K hK => ?_)); go_simp; refine hK _ ?_; clear hK K) | ((with_reducible refine wpD_q (fun K hK => ?_)); go_simp; (first | refine hK _ ?_ | (go_bits; refine hK _ ?_) | (go_bits; go_simp; refine hK _ ?_)); clear hK K))
    with_reducible refine wpD_nil ?_
    go_wp2_with (go_at_call 41; refine (side_any p q gF B _ cb y (bondsL gs ts xs) _ vA uA _ hSH.out hBH.out hbq.out (iterF_inv hbq.out x y _) hy (by omega) (by omega)).mono ?_; rintro e w4 ⟨v, rfl, hrow, hb4⟩; have hrowH := Lib.hid hrow; clear hrow)
    go_ret2
    have hbel : Below w.heap.size w w4 := by repeat (first | with_reducible exact bl_refl _ | with_reducible assumption | with_reducible refine bl_al ?_ _ | with_reducible refine bl_dr ?_ | with_reducible refine bl_tr ?_ (by assumption) | with_reducible refine bl_set ?_ ?_ _ | with_reducible exact Nat.le_refl _ | omega | (simp only [World.size_alloc, World.size_setCell, World.size_drew] at *; omega) | (dsimp only; omega) | (simp; done) | (simp; omega))
    have hbel3 : Below w.heap.size w w3 := by repeat (first | with_reducible exact bl_refl _ | with_reducible assumption | with_reducible refine bl_al ?_ _ | with_reducible refine bl_dr ?_ | with_reducible refine bl_tr ?_ (by assumption) | with_reducible refine bl_set ?_ ?_ _ | with_reducible exact Nat.le_refl _ | omega | (simp only [World.size_alloc, World.size_setCell, World.size_drew] at *; omega) | (dsimp only; omega) | (simp; done) | (simp; omega))
    refine IntsRes.of (sepR_yes hrH.out) ?_ hbel
    have h5 := hrowH.out
    unfold lastF
    rw [hlen, show (intsI (leadL q (edgeB (bondsL gs ts xs) (iterF q (bondsL gs ts xs) x y (flowV q (bondsL gs ts xs) x y))) y q)).length = (leadL q (edgeB (bondsL gs ts xs) (iterF q (bondsL gs ts xs) x y (flowV q (bondsL gs ts xs) x y))) y q).length by simp [intsI]]
    exact ownsRow_base h5 hbel3.size
  · have hr0' : (r != 0) = true := by simpa using hr0
    clear hrE
    go_enter Tryz.func21, Tryz.ntmps21
    go_wp2_with (go_at_call 26; refine (l07Asked_at hat.out _ _ hrH.out).mono ?_; rintro e w1 ⟨rfl, hb1⟩)
    go_ret2
    exact IntsRes.of (sepR_no hrH.out hr0) (World.ownsRow_nil _ _ _ _) (by repeat (first | with_reducible exact bl_refl _ | with_reducible assumption | with_reducible refine bl_al ?_ _ | with_reducible refine bl_dr ?_ | with_reducible refine bl_tr ?_ (by assumption) | with_reducible refine bl_set ?_ ?_ _ | with_reducible exact Nat.le_refl _ | omega | (simp only [World.size_alloc, World.size_setCell, World.size_drew] at *; omega) | (dsimp only; omega) | (simp; done) | (simp; omega)))
end Go.Proofs.YtfabgnnpgepcoaaGreat
