/- Walks: BondedParts, the program's and the reference's. -/
import Derived.Test.YtfabgnnpgepcoaaW40
namespace Go.Proofs.Ytfabgnnpgepcoaa
open Go.RowKit Go.Shelf
set_option linter.unusedSimpArgs false
set_option linter.unusedVariables false
attribute [local go_sem] BelowBy.cell BelowBy.cell_drew stillUpon givesUpon BelowBy.cell_drew2 BelowBy.cell_drew3

def GrRes (w : World) (r : List (List Nat) × Int) (e : Ending) (w' : World) : Prop := ∃ A c us, e = .returned (.tuple #[.slice A r.1.length c, .int .i64 r.2]) ∧ Own2 w' w.heap.size 29 2 1 (.slice A r.1.length c) us (r.1.map intsN) ∧ Below w.heap.size w w'
theorem GrRes.of {w w' : World} {r : List (List Nat) × Int} {gss : List (List Nat)} {c : Int} {v : Value} {us : List Value} (h : (gss, c) = r) (hr : Own2 w' w.heap.size 29 2 1 v us (gss.map intsN)) (hb : Below w.heap.size w w') : GrRes w r (.returned (.tuple #[v, .int .i64 c])) w' := by
  subst h
  obtain ⟨A, cap, rfl⟩ := hr.form (N := gss.length) (by rw [hr.len]; simp)
  exact ⟨A, cap, us, rfl, hr, hb⟩
noncomputable def bondedR (gs : List Gl) (ts : List Ti) (xs : List Pl) : List (List Nat) × Int := if validAsmB gs ts xs = true then (groupsL (labOf (bondsL gs ts xs) (bondsL gs ts xs).length) xs.length, 0) else ([], 1)
theorem bondedR_no {gs : List Gl} {ts : List Ti} {xs : List Pl} (h : validAsmB gs ts xs = false) : (([], 1) : List (List Nat) × Int) = bondedR gs ts xs := by unfold bondedR; rw [h, if_neg (by decide)]
theorem bondedR_yes {gs : List Gl} {ts : List Ti} {xs : List Pl} (h : validAsmB gs ts xs = true) : ((groupsL (labOf (bondsL gs ts xs) (bondsL gs ts xs).length) xs.length, 0) : List (List Nat) × Int) = bondedR gs ts xs := by unfold bondedR; rw [h, if_pos rfl]
theorem bonds_in_range {gs : List Gl} {ts : List Ti} {xs : List Pl} (hV : Valid gs ts xs) (k : Nat) (e : Bd) (h : (bondsL gs ts xs)[k]? = some e) : e.a < xs.length ∧ e.b < xs.length := ⟨(bondsL_at hV h).1, (bondsL_at hV h).2.1⟩
set_option maxRecDepth 100000 in
set_option maxHeartbeats 1000000 in
theorem BondedParts_any (G T A : Option Addr) (n cg m ct q ca : Nat) (gs : List Gl) (ts : List Ti) (xs : List Pl) (w : World) (h : SA w G n T m A q gs ts xs) :
    Calls Try.prog 52 #[.agg #[.slice G n cg, .slice T m ct], .agg #[.slice A q ca]] w (GrRes w (bondedR gs ts xs)) := by
  have hq := h.A.len
  have h := Lib.hid h
  cases hv : validAsmB gs ts xs
  · have hvH := Lib.hid hv
    clear hv
    go_enter Try.func52, Try.ntmps52
    go_wp2_with fail
    refine ((h.out.below (by repeat (first | with_reducible exact bl_refl _ | with_reducible assumption | with_reducible refine bl_al ?_ _ | with_reducible refine bl_dr ?_ | with_reducible refine bl_tr ?_ (by assumption) | with_reducible refine bl_set ?_ ?_ _ | with_reducible exact Nat.le_refl _ | omega | (simp only [World.size_alloc, World.size_setCell, World.size_drew] at *; omega) | (dsimp only; omega) | (simp; done) | (simp; omega)))).valid hvH.out).mono ?_
    rintro e w1 ⟨rfl, hb1⟩
    go_wp2
    go_ret2
    exact GrRes.of (bondedR_no hvH.out) (Own2.nil _ _ _ _ _) (by repeat (first | with_reducible exact bl_refl _ | with_reducible assumption | with_reducible refine bl_al ?_ _ | with_reducible refine bl_dr ?_ | with_reducible refine bl_tr ?_ (by assumption) | with_reducible refine bl_set ?_ ?_ _ | with_reducible exact Nat.le_refl _ | omega | (simp only [World.size_alloc, World.size_setCell, World.size_drew] at *; omega) | (dsimp only; omega) | (simp; done) | (simp; omega)))
  · have hvH := Lib.hid hv
    have hV := valid_of hv
    have hlen := hV.len
    have hqH := Lib.hid hq
    clear hv hq
    have hql : q ≤ 500 := by rw [← hqH.out]; exact hlen
    go_enter Try.func52, Try.ntmps52
    go_wp2_with fail
    refine ((h.out.below (by repeat (first | with_reducible exact bl_refl _ | with_reducible assumption | with_reducible refine bl_al ?_ _ | with_reducible refine bl_dr ?_ | with_reducible refine bl_tr ?_ (by assumption) | with_reducible refine bl_set ?_ ?_ _ | with_reducible exact Nat.le_refl _ | omega | (simp only [World.size_alloc, World.size_setCell, World.size_drew] at *; omega) | (dsimp only; omega) | (simp; done) | (simp; omega)))).valid hvH.out).mono ?_
    rintro e w1 ⟨rfl, hb1⟩
    obtain ⟨chb1, fhb1, shb1, thb1⟩ := bcell hb1
    have l0 := shb1 w.heap.size (by go_simp)
    have l1 := shb1 (w.heap.size + 1) (by go_simp)
    go_wp2
    refine wp_region_ord [(0, .q), (1, .q), (2, .q), (3, .q), (4, .q), (5, .g), (6, .g), (7, .q), (8, .q)] (by kernel_rfl) (by kernel_rfl) ?_
    simp only [pick, List.filterMap_cons, List.filterMap_nil, List.getElem?_toArray, List.getElem?_cons_zero, List.getElem?_cons_succ, Option.map_some]
    repeat (first | ((with_reducible refine wpD_p (fun K hK => ?_)); go_simp; refine hK _ ?_; clear hK K) | ((with_reducible refine wpD_q (fun K hK => ?_)); go_simp; (first | refine hK _ ?_ | (go_bits; refine hK _ ?_) | (go_bits; go_simp; refine hK _ ?_)); clear hK K))
    with_reducible refine wpD_g (fun K hK => ?_)
    go_simp
    refine ((h.out.below (by repeat (first | with_reducible exact bl_refl _ | with_reducible assumption | with_reducible refine bl_al ?_ _ | with_reducible refine bl_dr ?_ | with_reducible refine bl_tr ?_ (by assumption) | with_reducible refine bl_set ?_ ?_ _ | with_reducible exact Nat.le_refl _ | omega | (simp only [World.size_alloc, World.size_setCell, World.size_drew] at *; omega) | (dsimp only; omega) | (simp; done) | (simp; omega)))).bonds hV).mono ?_
    rintro e w2 ⟨v, rfl, hrow, hb2⟩
    refine ⟨_, rfl, hb2, hK _ _ ?_⟩
    clear hK K
    obtain ⟨A2, c2, rfl, hrd⟩ := rd_of_row hrow
    have hrdH := Lib.hid hrd
    clear hrow hrd
    have hbl := bondsL_len hV
    have hin := Lib.hid (bonds_in_range hV)
    have hres := Lib.hid (bondedR_yes hvH.out)
    generalize bondsL gs ts xs = bs at *
    repeat (first | ((with_reducible refine wpD_p (fun K hK => ?_)); go_simp; refine hK _ ?_; clear hK K) | ((with_reducible refine wpD_q (fun K hK => ?_)); go_simp; (first | refine hK _ ?_ | (go_bits; refine hK _ ?_) | (go_bits; go_simp; refine hK _ ?_)); clear hK K))
    with_reducible refine wpD_g (fun K hK => ?_)
    go_simp
    refine (groupsBy_any q A2 bs.length c2 bs _ (hrdH.out.below RBd.stable (by repeat (first | with_reducible exact bl_refl _ | with_reducible assumption | with_reducible refine bl_al ?_ _ | with_reducible refine bl_dr ?_ | with_reducible refine bl_tr ?_ (by assumption) | with_reducible refine bl_set ?_ ?_ _ | with_reducible exact Nat.le_refl _ | omega | (simp only [World.size_alloc, World.size_setCell, World.size_drew] at *; omega) | (dsimp only; omega) | (simp; done) | (simp; omega)))) (by omega) (by omega) (by rw [← hqH.out]; exact hin.out)).mono ?_
    rintro e w3 ⟨v, us, rfl, hrow3, hb3⟩
    refine ⟨_, rfl, hb3, hK _ _ ?_⟩
    clear hK K
    have hrow3H := Lib.hid hrow3
    clear hrow3
    repeat (first | ((with_reducible refine wpD_p (fun K hK => ?_)); go_simp; refine hK _ ?_; clear hK K) | ((with_reducible refine wpD_q (fun K hK => ?_)); go_simp; (first | refine hK _ ?_ | (go_bits; refine hK _ ?_) | (go_bits; go_simp; refine hK _ ?_)); clear hK K))
    with_reducible refine wpD_nil ?_
    go_wp2
    go_ret2
    have hz1 : w.heap.size ≤ w1.heap.size := by have := hb1.size; simp at this; omega
    have hz2 : w1.heap.size ≤ w2.heap.size := by have := hb2.size; simpa using this
    have hz3 : w2.heap.size ≤ w3.heap.size := by have := hb3.size; simpa using this
    refine GrRes.of (us := us) hres.out ?_ (by repeat (first | with_reducible exact bl_refl _ | with_reducible assumption | with_reducible refine bl_al ?_ _ | with_reducible refine bl_dr ?_ | with_reducible refine bl_tr ?_ (by assumption) | with_reducible refine bl_set ?_ ?_ _ | with_reducible exact Nat.le_refl _ | omega | (simp only [World.size_alloc, World.size_setCell, World.size_drew] at *; omega) | (dsimp only; omega) | (simp; done) | (simp; omega)))
    rw [hqH.out]
    exact hrow3H.out.rebase (by omega)
set_option maxRecDepth 100000 in
set_option maxHeartbeats 1000000 in
theorem sBondedParts_any (G T A : Option Addr) (n cg m ct q ca : Nat) (gs : List Gl) (ts : List Ti) (xs : List Pl) (w : World) (h : SA w G n T m A q gs ts xs) :
    Calls Try.prog 51 #[.agg #[.slice G n cg, .slice T m ct], .agg #[.slice A q ca]] w (GrRes w (bondedR gs ts xs)) := by
  have hq := h.A.len
  have h0 := Lib.hid (h.box cg ct ca)
  clear h
  have hc1 := codeB_true
  have hc2 := codeB_false
  cases hv : validAsmB gs ts xs
  · have hvH := Lib.hid hv
    clear hv
    go_enter Try.func51, Try.ntmps51
    go_wp2_with fail
    refine (h0.out.asked hvH.out).mono ?_
    rintro e w1 ⟨rfl, hb1⟩
    go_wp2
    go_ret2
    exact GrRes.of (bondedR_no hvH.out) (Own2.nil _ _ _ _ _) (by repeat (first | with_reducible exact bl_refl _ | with_reducible assumption | with_reducible refine bl_al ?_ _ | with_reducible refine bl_dr ?_ | with_reducible refine bl_tr ?_ (by assumption) | with_reducible refine bl_set ?_ ?_ _ | with_reducible exact Nat.le_refl _ | omega | (simp only [World.size_alloc, World.size_setCell, World.size_drew] at *; omega) | (dsimp only; omega) | (simp; done) | (simp; omega)))
  · have hvH := Lib.hid hv
    have hV := valid_of hv
    have hlen := hV.len
    have hqH := Lib.hid hq
    clear hv hq
    have hql : q ≤ 500 := by rw [← hqH.out]; exact hlen
    go_enter Try.func51, Try.ntmps51
    go_wp2_with fail
    refine (h0.out.asked hvH.out).mono ?_
    rintro e w1 ⟨rfl, hb1⟩
    obtain ⟨chb1, fhb1, shb1, thb1⟩ := bcell hb1
    have l0 := shb1 w.heap.size (by go_simp)
    have l1 := shb1 (w.heap.size + 1) (by go_simp)
    go_wp2
    refine wp_region_ord [(0, .q), (1, .q), (2, .q), (3, .g), (4, .g), (5, .q), (6, .q)] (by kernel_rfl) (by kernel_rfl) ?_
    simp only [pick, List.filterMap_cons, List.filterMap_nil, List.getElem?_toArray, List.getElem?_cons_zero, List.getElem?_cons_succ, Option.map_some]
    repeat (first | ((with_reducible refine wpD_p (fun K hK => ?_)); go_simp; refine hK _ ?_; clear hK K) | ((with_reducible refine wpD_q (fun K hK => ?_)); go_simp; (first | refine hK _ ?_ | (go_bits; refine hK _ ?_) | (go_bits; go_simp; refine hK _ ?_)); clear hK K))
    with_reducible refine wpD_g (fun K hK => ?_)
    go_simp
    refine ((h0.out.below (by repeat (first | with_reducible exact bl_refl _ | with_reducible assumption | with_reducible refine bl_al ?_ _ | with_reducible refine bl_dr ?_ | with_reducible refine bl_tr ?_ (by assumption) | with_reducible refine bl_set ?_ ?_ _ | with_reducible exact Nat.le_refl _ | omega | (simp only [World.size_alloc, World.size_setCell, World.size_drew] at *; omega) | (dsimp only; omega) | (simp; done) | (simp; omega)))).bonds hV).mono ?_
    rintro e w2 ⟨v, rfl, hrow, hb2⟩
    refine ⟨_, rfl, hb2, hK _ _ ?_⟩
    clear hK K
    obtain ⟨A2, c2, rfl, hrd⟩ := rd_of_row hrow
    have hrdH := Lib.hid hrd
    clear hrow hrd
    have hbl := bondsL_len hV
    have hin := Lib.hid (bonds_in_range hV)
    have hres := Lib.hid (bondedR_yes hvH.out)
    generalize bondsL gs ts xs = bs at *
    repeat (first | ((with_reducible refine wpD_p (fun K hK => ?_)); go_simp; refine hK _ ?_; clear hK K) | ((with_reducible refine wpD_q (fun K hK => ?_)); go_simp; (first | refine hK _ ?_ | (go_bits; refine hK _ ?_) | (go_bits; go_simp; refine hK _ ?_)); clear hK K))
    with_reducible refine wpD_g (fun K hK => ?_)
    go_simp
    refine (l06Groups_any q A2 bs.length c2 bs _ (hrdH.out.below RBd.stable (by repeat (first | with_reducible exact bl_refl _ | with_reducible assumption | with_reducible refine bl_al ?_ _ | with_reducible refine bl_dr ?_ | with_reducible refine bl_tr ?_ (by assumption) | with_reducible refine bl_set ?_ ?_ _ | with_reducible exact Nat.le_refl _ | omega | (simp only [World.size_alloc, World.size_setCell, World.size_drew] at *; omega) | (dsimp only; omega) | (simp; done) | (simp; omega)))) (by omega) (by omega) (by rw [← hqH.out]; exact hin.out)).mono ?_
    rintro e w3 ⟨v, us, rfl, hrow3, hb3⟩
    refine ⟨_, rfl, hb3, hK _ _ ?_⟩
    clear hK K
    have hrow3H := Lib.hid hrow3
    clear hrow3
    repeat (first | ((with_reducible refine wpD_p (fun K hK => ?_)); go_simp; refine hK _ ?_; clear hK K) | ((with_reducible refine wpD_q (fun K hK => ?_)); go_simp; (first | refine hK _ ?_ | (go_bits; refine hK _ ?_) | (go_bits; go_simp; refine hK _ ?_)); clear hK K))
    with_reducible refine wpD_nil ?_
    go_wp2
    go_ret2
    have hz1 : w.heap.size ≤ w1.heap.size := by have := hb1.size; simp at this; omega
    have hz2 : w1.heap.size ≤ w2.heap.size := by have := hb2.size; simpa using this
    have hz3 : w2.heap.size ≤ w3.heap.size := by have := hb3.size; simpa using this
    refine GrRes.of (us := us) hres.out ?_ (by repeat (first | with_reducible exact bl_refl _ | with_reducible assumption | with_reducible refine bl_al ?_ _ | with_reducible refine bl_dr ?_ | with_reducible refine bl_tr ?_ (by assumption) | with_reducible refine bl_set ?_ ?_ _ | with_reducible exact Nat.le_refl _ | omega | (simp only [World.size_alloc, World.size_setCell, World.size_drew] at *; omega) | (dsimp only; omega) | (simp; done) | (simp; omega)))
    rw [hqH.out]
    exact hrow3H.out.rebase (by omega)
end Go.Proofs.Ytfabgnnpgepcoaa
