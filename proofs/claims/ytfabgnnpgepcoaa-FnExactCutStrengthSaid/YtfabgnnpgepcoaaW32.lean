/- Walks: CutStrength, the program's and the reference's. -/
import Derived.Test.YtfabgnnpgepcoaaW31
import Derived.Test.YtfabgnnpgepcoaaW28
namespace Go.Proofs.Ytfabgnnpgepcoaa
open Go.RowKit Go.Shelf
set_option linter.unusedSimpArgs false
set_option linter.unusedVariables false
attribute [local go_sem] BelowBy.cell BelowBy.cell_drew stillUpon givesUpon BelowBy.cell_drew2 BelowBy.cell_drew3

theorem keepL_get {ps : List Int} {bs : List Bd} {k j : Nat} {b : Bd} (h : (keepL ps bs k)[j]? = some b) : ∃ q : Nat, bs[q]? = some b := by
  have hm := List.mem_of_getElem? h
  unfold keepL at hm
  obtain ⟨h1, _⟩ := List.mem_filter.1 hm
  obtain ⟨q, hq, rfl⟩ := List.mem_iff_getElem.1 (List.mem_of_mem_take h1)
  exact ⟨q, List.getElem?_eq_getElem hq⟩
set_option maxRecDepth 100000 in
set_option maxHeartbeats 1000000 in
theorem cutStrength_any (base : Nat) (P_ : Option Addr) (np cp : Nat) (ps : List Int) (v : Value) (bs : List Bd) (w : World) (hrow : w.ownsRow base 96 3 v bs.length (bdCells bs)) (hn : bs.length ≤ 100000) (hs : ∀ (k : Nat) (b : Bd), bs[k]? = some b → 0 ≤ b.s ∧ b.s ≤ 4)
    (h : RdSl 1 RInt w P_ np ps) (hnp : np ≤ 1073741824) :
    Calls Try.prog 89 #[v, .slice P_ np cp] w fun e w' => e = .returned (.int .i64 (sumB (keepL ps bs bs.length))) ∧ Below w.heap.size w w' := by
  have hH := Lib.hid h
  have hrH := Lib.hid hrow
  have hPb : 0 < np → ∀ b o, P_ = some ⟨b, o, none⟩ → b < w.heap.size + 1 := fun hp b o e => by
    obtain ⟨b', o', e', hb', _⟩ := h.cells hp
    rw [e] at e'
    injection e' with e'
    injection e' with e1 e2
    omega
  have hPbH := Lib.hid hPb
  have hsH := Lib.hid hs
  clear h hrow hPb hs
  go_enter Try.func89, Try.ntmps89
  go_wp2_with fail
  refine (CloneB_any base v bs _ (hrH.out.alloc _) hn).mono ?_
  rintro e w1 ⟨v1, rfl, hrow1, hb1⟩
  have hz1 : (w.alloc (Obj.cells #[.slice P_ np cp] 29)).heap.size = w.heap.size + 1 := by simp
  rw [hz1] at hrow1
  have hs1 : w.heap.size + 1 ≤ w1.heap.size := by have := hb1.size; simp at this; omega
  have x0 : w1.cell? ⟨w.heap.size, 0, none⟩ = some (.slice P_ np cp) := (hb1.cell (p := ⟨w.heap.size, 0, none⟩) (by simp)).trans (by go_simp)
  have hR1 := Lib.hid (hH.out.below RInt.stable (show Below w.heap.size w w1 by repeat (first | with_reducible exact bl_refl _ | with_reducible assumption | with_reducible refine bl_al ?_ _ | with_reducible refine bl_dr ?_ | with_reducible refine bl_tr ?_ (by assumption) | with_reducible refine bl_set ?_ ?_ _ | with_reducible exact Nat.le_refl _ | omega | (simp only [World.size_alloc, World.size_setCell, World.size_drew] at *; omega) | (dsimp only; omega) | (simp; done) | (simp; omega))))
  have hB1 := Lib.hid (show Below w.heap.size w w1 by repeat (first | with_reducible exact bl_refl _ | with_reducible assumption | with_reducible refine bl_al ?_ _ | with_reducible refine bl_dr ?_ | with_reducible refine bl_tr ?_ (by assumption) | with_reducible refine bl_set ?_ ?_ _ | with_reducible exact Nat.le_refl _ | omega | (simp only [World.size_alloc, World.size_setCell, World.size_drew] at *; omega) | (dsimp only; omega) | (simp; done) | (simp; omega)))
  have hrow1H := Lib.hid hrow1
  clear hrow1 hb1 hz1
  go_wp2_with fail
  refine (DeleteFuncB_any (w.heap.size + 1) w.heap.size P_ np cp ps v1 bs _ hrow1H.out hn x0 (by omega) hs1 hR1.out hnp hPbH.out).mono ?_
  rintro e w2 ⟨A2, c2, rfl, hrd, hb2⟩
  have hrdH := Lib.hid hrd
  have hb2H := Lib.hid hb2
  have hkl := keepL_len ps bs bs.length
  clear hrd hb2 x0
  go_wp2_with fail
  refine (strengthOf_any A2 _ c2 (keepL ps bs bs.length) _ hrdH.out (by omega) (fun k b hb => by obtain ⟨q, hq⟩ := keepL_get hb; exact hsH.out q b hq)).mono ?_
  rintro e w3 ⟨rfl, hb3⟩
  go_wp2
  go_ret
  exact ⟨rfl, hB1.out.trans ((hb2H.out.mono (by omega)).trans (hb3.mono (by have := hb2H.out.size; omega)))⟩
set_option maxRecDepth 100000 in
set_option maxHeartbeats 1000000 in
theorem l06Cut_any (A P_ : Option Addr) (n c np cp : Nat) (ps : List Int) (bs : List Bd) (w : World) (hB : RdSl 3 RBd w A n bs) (hn : n ≤ 100000) (hs : ∀ (k : Nat) (b : Bd), bs[k]? = some b → 0 ≤ b.s ∧ b.s ≤ 4) (h : RdSl 1 RInt w P_ np ps) (hnp : np ≤ 1073741824) :
    Calls Try.prog 97 #[.slice A n c, .slice P_ np cp] w fun e w' => e = .returned (.int .i64 (sumB (keepL ps bs bs.length))) ∧ Below w.heap.size w w' := by
  have hl := hB.len
  have hH := Lib.hid h
  have hsH := Lib.hid hs
  clear h hs
  go_enter Try.func97, Try.ntmps97
  go_wp2
  go_loopg [6, 5] n (fun r x y wr => ∃ k : Nat, k + r = n ∧ x = .int .i64 (k : Int) ∧ y = .int .i64 (sumB (keepL ps bs k)) ∧ Below w.heap.size w wr)
  case atStart => exact ⟨0, by omega, rfl, rfl, bl_refl _⟩
  case round =>
    obtain ⟨k, hk, rfl, rfl, hbw⟩ := hrel
    have hb := sumB_bound (bs := keepL ps bs k) (fun j b hj => by obtain ⟨q, hq⟩ := keepL_get hj; exact hsH.out q b hq)
    have hkl := keepL_len ps bs k
    have r1 := hB.below RBd.stable hbw
    by_cases hlt : k < n
    · obtain ⟨b, o, rfl, hb1, hc⟩ := r1.ptr (by omega)
      obtain ⟨e, he⟩ := hB.get hlt
      obtain ⟨c0, c1, c2⟩ := hc k e he
      obtain ⟨S, hS⟩ : ∃ S, sumB (keepL ps bs k) = S := ⟨_, rfl⟩
      obtain ⟨e0, e4⟩ := hsH.out k e he
      rw [hS] at hb
      rw [hS]
      obtain ⟨S0, S4⟩ := hb
      have S5 : S ≤ 400000 := by omega
      have hSH := Lib.hid hS
      have heH := Lib.hid he
      have hbl : b ≤ wr.heap.size := by omega
      clear hc he hB r1 hS S4 hkl
      cases hcd : cutDel ps e
      · have hne : (hasB ps (e.a : Int) == hasB ps (e.b : Int)) = false := hcd
        have hnx := Lib.hid (show sumB (keepL ps bs (k + 1)) = S + e.s by rw [keepL_succ_yes heH.out hcd, sumB_app, hSH.out]; simp [sumB])
        have hneH := Lib.hid hne
        clear hcd hne
        go_wp2
        refine wp_region_ord [(0, .q), (1, .q), (2, .q), (3, .q), (4, .q), (5, .q), (7, .q), (8, .q), (9, .q), (10, .q), (11, .q), (12, .q), (6, .g), (13, .g), (14, .q)] (by kernel_rfl) (by kernel_rfl) ?_
        simp only [pick, List.filterMap_cons, List.filterMap_nil, List.getElem?_toArray, List.getElem?_cons_zero, List.getElem?_cons_succ, Option.map_some]
        repeat (first
          | ((with_reducible refine wpD_p (fun K hK => ?_)); go_simp; refine hK _ ?_; clear hK K)
          | ((with_reducible refine wpD_q (fun K hK => ?_)); go_simp; (first | refine hK _ ?_ | (go_bits; refine hK _ ?_) | (go_bits; go_simp; refine hK _ ?_)); clear hK K)
          | ((with_reducible refine wpD_g (fun K hK => ?_)); go_simp; refine hK _ _ ?_; clear hK K)
          | ((with_reducible refine wpD_g (fun K hK => ?_)); go_simp; refine ⟨Grew.of_alloc _, hK _ _ ?_⟩; clear hK K)
          | ((with_reducible refine wpD_g (fun K hK => ?_)); go_simp; go_at_call 144; refine (l00Has_any _ _ _ ps _ _ (hH.out.below RInt.stable (by repeat (first | with_reducible exact bl_refl _ | with_reducible assumption | with_reducible refine bl_al ?_ _ | with_reducible refine bl_dr ?_ | with_reducible refine bl_tr ?_ (by assumption) | with_reducible refine bl_set ?_ ?_ _ | with_reducible exact Nat.le_refl _ | omega | (simp only [World.size_alloc, World.size_setCell, World.size_drew] at *; omega) | (dsimp only; omega) | (simp; done) | (simp; omega)))) hnp).mono ?_; rintro e _ ⟨rfl, rfl⟩; refine ⟨_, rfl, Below.refl _ _, hK _ _ ?_⟩; clear hK K))
        with_reducible refine wpD_nil ?_
        rw [hneH.out]
        go_wp2
        go_roundg (n - (k + 1))
        case measure => omega
        case rel => exact ⟨k + 1, by omega, by go_num, by rw [hnx.out], by repeat (first | with_reducible exact bl_refl _ | with_reducible assumption | with_reducible refine bl_al ?_ _ | with_reducible refine bl_dr ?_ | with_reducible refine bl_tr ?_ (by assumption) | with_reducible refine bl_set ?_ ?_ _ | with_reducible exact Nat.le_refl _ | omega | (simp only [World.size_alloc, World.size_setCell, World.size_drew] at *; omega) | (dsimp only; omega) | (simp; done) | (simp; omega))⟩
      · have hne : (hasB ps (e.a : Int) == hasB ps (e.b : Int)) = true := hcd
        have hnx := Lib.hid (show sumB (keepL ps bs (k + 1)) = S by rw [keepL_succ_no heH.out hcd, hSH.out])
        have hneH := Lib.hid hne
        clear hcd hne
        go_wp2
        refine wp_region_ord [(0, .q), (1, .q), (2, .q), (3, .q), (4, .q), (5, .q), (7, .q), (8, .q), (9, .q), (10, .q), (11, .q), (12, .q), (6, .g), (13, .g), (14, .q)] (by kernel_rfl) (by kernel_rfl) ?_
        simp only [pick, List.filterMap_cons, List.filterMap_nil, List.getElem?_toArray, List.getElem?_cons_zero, List.getElem?_cons_succ, Option.map_some]
        repeat (first
          | ((with_reducible refine wpD_p (fun K hK => ?_)); go_simp; refine hK _ ?_; clear hK K)
          | ((with_reducible refine wpD_q (fun K hK => ?_)); go_simp; (first | refine hK _ ?_ | (go_bits; refine hK _ ?_) | (go_bits; go_simp; refine hK _ ?_)); clear hK K)
          | ((with_reducible refine wpD_g (fun K hK => ?_)); go_simp; refine hK _ _ ?_; clear hK K)
          | ((with_reducible refine wpD_g (fun K hK => ?_)); go_simp; refine ⟨Grew.of_alloc _, hK _ _ ?_⟩; clear hK K)
          | ((with_reducible refine wpD_g (fun K hK => ?_)); go_simp; go_at_call 144; refine (l00Has_any _ _ _ ps _ _ (hH.out.below RInt.stable (by repeat (first | with_reducible exact bl_refl _ | with_reducible assumption | with_reducible refine bl_al ?_ _ | with_reducible refine bl_dr ?_ | with_reducible refine bl_tr ?_ (by assumption) | with_reducible refine bl_set ?_ ?_ _ | with_reducible exact Nat.le_refl _ | omega | (simp only [World.size_alloc, World.size_setCell, World.size_drew] at *; omega) | (dsimp only; omega) | (simp; done) | (simp; omega)))) hnp).mono ?_; rintro e _ ⟨rfl, rfl⟩; refine ⟨_, rfl, Below.refl _ _, hK _ _ ?_⟩; clear hK K))
        with_reducible refine wpD_nil ?_
        rw [hneH.out]
        go_wp2
        go_roundg (n - (k + 1))
        case measure => omega
        case rel => exact ⟨k + 1, by omega, by go_num, by rw [hnx.out], by repeat (first | with_reducible exact bl_refl _ | with_reducible assumption | with_reducible refine bl_al ?_ _ | with_reducible refine bl_dr ?_ | with_reducible refine bl_tr ?_ (by assumption) | with_reducible refine bl_set ?_ ?_ _ | with_reducible exact Nat.le_refl _ | omega | (simp only [World.size_alloc, World.size_setCell, World.size_drew] at *; omega) | (dsimp only; omega) | (simp; done) | (simp; omega))⟩
    · obtain rfl : k = n := by omega
      clear r1
      go_wp2
      go_ret
      exact ⟨ret_int (by rw [hl]), hbw⟩
noncomputable def cutR (gs : List Gl) (ts : List Ti) (xs : List Pl) (ps : List Int) : Int × Int :=
  if validAsmB gs ts xs = false then (0, 1) else if risesB 0 ((xs.length : Int) - 1) ps = false then (0, 2) else (sumB (keepL ps (bondsL gs ts xs) (bondsL gs ts xs).length), 0)
set_option maxRecDepth 100000 in
set_option maxHeartbeats 1000000 in
theorem CutStrength_any (G T A P_ : Option Addr) (n cg m ct q ca np cp : Nat) (gs : List Gl) (ts : List Ti) (xs : List Pl) (ps : List Int) (w : World) (h : SA w G n T m A q gs ts xs) (hP : RdSl 1 RInt w P_ np ps) (hnp : np ≤ 1073741824) :
    Calls Try.prog 38 #[.agg #[.slice G n cg, .slice T m ct], .agg #[.slice A q ca], .slice P_ np cp] w (ChkRes w (cutR gs ts xs ps)) := by
  have hql := h.A.len
  have hq1 := h.q
  have hH := Lib.hid h
  have hPH := Lib.hid hP
  clear h hP
  cases hv : validAsmB gs ts xs
  · have hvH := Lib.hid hv
    have hrH := Lib.hid (show (0, 1) = cutR gs ts xs ps by unfold cutR; rw [if_pos hv])
    clear hv
    go_enter Try.func38, Try.ntmps38
    go_wp2_with fail
    refine ((hH.out.below (by repeat (first | with_reducible exact bl_refl _ | with_reducible assumption | with_reducible refine bl_al ?_ _ | with_reducible refine bl_dr ?_ | with_reducible refine bl_tr ?_ (by assumption) | with_reducible refine bl_set ?_ ?_ _ | with_reducible exact Nat.le_refl _ | omega | (simp only [World.size_alloc, World.size_setCell, World.size_drew] at *; omega) | (dsimp only; omega) | (simp; done) | (simp; omega)))).valid hvH.out).mono ?_
    rintro e w1 ⟨rfl, hb1⟩
    go_wp2
    go_ret2
    exact ChkRes.of hrH.out (by repeat (first | with_reducible exact bl_refl _ | with_reducible assumption | with_reducible refine bl_al ?_ _ | with_reducible refine bl_dr ?_ | with_reducible refine bl_tr ?_ (by assumption) | with_reducible refine bl_set ?_ ?_ _ | with_reducible exact Nat.le_refl _ | omega | (simp only [World.size_alloc, World.size_setCell, World.size_drew] at *; omega) | (dsimp only; omega) | (simp; done) | (simp; omega)))
  · have hvH := Lib.hid hv
    have hV := valid_of hv
    cases hrs : risesB 0 ((q : Int) - 1) ps
    · have hrsH := Lib.hid hrs
      have hrH := Lib.hid (show (0, 2) = cutR gs ts xs ps by unfold cutR; rw [if_neg (by rw [hv]; decide), hql, if_pos hrs])
      clear hv hrs
      go_enter Try.func38, Try.ntmps38
      go_wp2_with fail
      refine ((hH.out.below (by repeat (first | with_reducible exact bl_refl _ | with_reducible assumption | with_reducible refine bl_al ?_ _ | with_reducible refine bl_dr ?_ | with_reducible refine bl_tr ?_ (by assumption) | with_reducible refine bl_set ?_ ?_ _ | with_reducible exact Nat.le_refl _ | omega | (simp only [World.size_alloc, World.size_setCell, World.size_drew] at *; omega) | (dsimp only; omega) | (simp; done) | (simp; omega)))).valid hvH.out).mono ?_
      rintro e w1 ⟨rfl, hb1⟩
      obtain ⟨chb1, fhb1, shb1, thb1⟩ := bcell hb1
      have l1 := shb1 (w.heap.size + 1) (by go_simp)
      go_wp2_with fail
      refine (isPart_any _ _ _ _ _ _ ps _ (hPH.out.below RInt.stable (by repeat (first | with_reducible exact bl_refl _ | with_reducible assumption | with_reducible refine bl_al ?_ _ | with_reducible refine bl_dr ?_ | with_reducible refine bl_tr ?_ (by assumption) | with_reducible refine bl_set ?_ ?_ _ | with_reducible exact Nat.le_refl _ | omega | (simp only [World.size_alloc, World.size_setCell, World.size_drew] at *; omega) | (dsimp only; omega) | (simp; done) | (simp; omega)))) hnp hq1).mono ?_
      rw [hrsH.out]
      rintro e w2 ⟨rfl, hb2⟩
      go_wp2
      go_ret2
      exact ChkRes.of hrH.out (by repeat (first | with_reducible exact bl_refl _ | with_reducible assumption | with_reducible refine bl_al ?_ _ | with_reducible refine bl_dr ?_ | with_reducible refine bl_tr ?_ (by assumption) | with_reducible refine bl_set ?_ ?_ _ | with_reducible exact Nat.le_refl _ | omega | (simp only [World.size_alloc, World.size_setCell, World.size_drew] at *; omega) | (dsimp only; omega) | (simp; done) | (simp; omega)))
    · have hrsH := Lib.hid hrs
      have hrH := Lib.hid (show (sumB (keepL ps (bondsL gs ts xs) (bondsL gs ts xs).length), 0) = cutR gs ts xs ps by unfold cutR; rw [if_neg (by rw [hv]; decide), hql, if_neg (by rw [hrs]; decide)])
      have hbl := bondsL_len hV
      clear hv hrs
      go_enter Try.func38, Try.ntmps38
      go_wp2_with fail
      refine ((hH.out.below (by repeat (first | with_reducible exact bl_refl _ | with_reducible assumption | with_reducible refine bl_al ?_ _ | with_reducible refine bl_dr ?_ | with_reducible refine bl_tr ?_ (by assumption) | with_reducible refine bl_set ?_ ?_ _ | with_reducible exact Nat.le_refl _ | omega | (simp only [World.size_alloc, World.size_setCell, World.size_drew] at *; omega) | (dsimp only; omega) | (simp; done) | (simp; omega)))).valid hvH.out).mono ?_
      rintro e w1 ⟨rfl, hb1⟩
      obtain ⟨chb1, fhb1, shb1, thb1⟩ := bcell hb1
      have l1 := shb1 (w.heap.size + 1) (by go_simp)
      have l0 := shb1 w.heap.size (by go_simp)
      go_wp2_with fail
      refine (isPart_any _ _ _ _ _ _ ps _ (hPH.out.below RInt.stable (by repeat (first | with_reducible exact bl_refl _ | with_reducible assumption | with_reducible refine bl_al ?_ _ | with_reducible refine bl_dr ?_ | with_reducible refine bl_tr ?_ (by assumption) | with_reducible refine bl_set ?_ ?_ _ | with_reducible exact Nat.le_refl _ | omega | (simp only [World.size_alloc, World.size_setCell, World.size_drew] at *; omega) | (dsimp only; omega) | (simp; done) | (simp; omega)))) hnp hq1).mono ?_
      rw [hrsH.out]
      rintro e w2 ⟨rfl, hb2⟩
      obtain ⟨chb2, fhb2, shb2, thb2⟩ := bcell hb2
      go_wp2_with fail
      refine ((hH.out.below (by repeat (first | with_reducible exact bl_refl _ | with_reducible assumption | with_reducible refine bl_al ?_ _ | with_reducible refine bl_dr ?_ | with_reducible refine bl_tr ?_ (by assumption) | with_reducible refine bl_set ?_ ?_ _ | with_reducible exact Nat.le_refl _ | omega | (simp only [World.size_alloc, World.size_setCell, World.size_drew] at *; omega) | (dsimp only; omega) | (simp; done) | (simp; omega)))).bonds hV).mono ?_
      rintro e w3 ⟨v3, rfl, hrow, hb3⟩
      have hrowH := Lib.hid hrow
      clear hrow
      go_wp2_with fail
      refine (cutStrength_any _ _ _ _ ps v3 _ _ hrowH.out (by omega) (bonds_s hV) (hPH.out.below RInt.stable (by repeat (first | with_reducible exact bl_refl _ | with_reducible assumption | with_reducible refine bl_al ?_ _ | with_reducible refine bl_dr ?_ | with_reducible refine bl_tr ?_ (by assumption) | with_reducible refine bl_set ?_ ?_ _ | with_reducible exact Nat.le_refl _ | omega | (simp only [World.size_alloc, World.size_setCell, World.size_drew] at *; omega) | (dsimp only; omega) | (simp; done) | (simp; omega)))) hnp).mono ?_
      rintro e w4 ⟨rfl, hb4⟩
      go_wp2
      go_ret2
      exact ChkRes.of hrH.out (by repeat (first | with_reducible exact bl_refl _ | with_reducible assumption | with_reducible refine bl_al ?_ _ | with_reducible refine bl_dr ?_ | with_reducible refine bl_tr ?_ (by assumption) | with_reducible refine bl_set ?_ ?_ _ | with_reducible exact Nat.le_refl _ | omega | (simp only [World.size_alloc, World.size_setCell, World.size_drew] at *; omega) | (dsimp only; omega) | (simp; done) | (simp; omega)))
set_option maxRecDepth 100000 in
set_option maxHeartbeats 1000000 in
theorem sCutStrength_any (G T A P_ : Option Addr) (n cg m ct q ca np cp : Nat) (gs : List Gl) (ts : List Ti) (xs : List Pl) (ps : List Int) (w : World) (h : SA w G n T m A q gs ts xs) (hP : RdSl 1 RInt w P_ np ps) (hnp : np ≤ 1073741824) :
    Calls Try.prog 45 #[.agg #[.slice G n cg, .slice T m ct], .agg #[.slice A q ca], .slice P_ np cp] w (ChkRes w (cutR gs ts xs ps)) := by
  have hql := h.A.len
  have hq1 := h.q
  have h0 := Lib.hid (h.box cg ct ca)
  have hPH := Lib.hid hP
  clear h hP
  have hc1 := codeB_true
  have hc2 := codeB_false
  cases hv : validAsmB gs ts xs
  · have hvH := Lib.hid hv
    have hrH := Lib.hid (show (0, 1) = cutR gs ts xs ps by unfold cutR; rw [if_pos hv])
    clear hv
    go_enter Try.func45, Try.ntmps45
    go_wp2_with fail
    refine (h0.out.asked hvH.out).mono ?_
    rintro e w1 ⟨rfl, hb1⟩
    go_wp2
    go_ret2
    exact ChkRes.of hrH.out (by repeat (first | with_reducible exact bl_refl _ | with_reducible assumption | with_reducible refine bl_al ?_ _ | with_reducible refine bl_dr ?_ | with_reducible refine bl_tr ?_ (by assumption) | with_reducible refine bl_set ?_ ?_ _ | with_reducible exact Nat.le_refl _ | omega | (simp only [World.size_alloc, World.size_setCell, World.size_drew] at *; omega) | (dsimp only; omega) | (simp; done) | (simp; omega)))
  · have hvH := Lib.hid hv
    have hV := valid_of hv
    cases hrs : risesB 0 ((q : Int) - 1) ps
    · have hrsH := Lib.hid hrs
      have hrH := Lib.hid (show (0, 2) = cutR gs ts xs ps by unfold cutR; rw [if_neg (by rw [hv]; decide), hql, if_pos hrs])
      clear hv hrs
      go_enter Try.func45, Try.ntmps45
      go_wp2_with fail
      refine (h0.out.asked hvH.out).mono ?_
      rintro e w1 ⟨rfl, hb1⟩
      go_wp2_with fail
      refine (l06Part_any _ _ _ _ ps xs q _ (h0.out.below hb1).a hql (hPH.out.below RInt.stable (by repeat (first | with_reducible exact bl_refl _ | with_reducible assumption | with_reducible refine bl_al ?_ _ | with_reducible refine bl_dr ?_ | with_reducible refine bl_tr ?_ (by assumption) | with_reducible refine bl_set ?_ ?_ _ | with_reducible exact Nat.le_refl _ | omega | (simp only [World.size_alloc, World.size_setCell, World.size_drew] at *; omega) | (dsimp only; omega) | (simp; done) | (simp; omega)))) hnp hq1).mono ?_
      rw [hrsH.out]
      rintro e w2 ⟨rfl, hb2⟩
      go_wp2
      go_ret2
      exact ChkRes.of hrH.out (by repeat (first | with_reducible exact bl_refl _ | with_reducible assumption | with_reducible refine bl_al ?_ _ | with_reducible refine bl_dr ?_ | with_reducible refine bl_tr ?_ (by assumption) | with_reducible refine bl_set ?_ ?_ _ | with_reducible exact Nat.le_refl _ | omega | (simp only [World.size_alloc, World.size_setCell, World.size_drew] at *; omega) | (dsimp only; omega) | (simp; done) | (simp; omega)))
    · have hrsH := Lib.hid hrs
      have hrH := Lib.hid (show (sumB (keepL ps (bondsL gs ts xs) (bondsL gs ts xs).length), 0) = cutR gs ts xs ps by unfold cutR; rw [if_neg (by rw [hv]; decide), hql, if_neg (by rw [hrs]; decide)])
      have hbl := bondsL_len hV
      clear hv hrs
      go_enter Try.func45, Try.ntmps45
      go_wp2_with fail
      refine (h0.out.asked hvH.out).mono ?_
      rintro e w1 ⟨rfl, hb1⟩
      have h1 := Lib.hid (h0.out.below hb1)
      go_wp2_with fail
      refine (l06Part_any _ _ _ _ ps xs q _ h1.out.a hql (hPH.out.below RInt.stable (by repeat (first | with_reducible exact bl_refl _ | with_reducible assumption | with_reducible refine bl_al ?_ _ | with_reducible refine bl_dr ?_ | with_reducible refine bl_tr ?_ (by assumption) | with_reducible refine bl_set ?_ ?_ _ | with_reducible exact Nat.le_refl _ | omega | (simp only [World.size_alloc, World.size_setCell, World.size_drew] at *; omega) | (dsimp only; omega) | (simp; done) | (simp; omega)))) hnp hq1).mono ?_
      rw [hrsH.out]
      rintro e w2 ⟨rfl, hb2⟩
      go_wp2_with fail
      refine ((h1.out.below hb2).bonds hV).mono ?_
      rintro e w3 ⟨v3, rfl, hrow, hb3⟩
      obtain ⟨A3, c3, rfl, rd3⟩ := rd_of_row hrow
      have rd3H := Lib.hid rd3
      clear hrow rd3
      go_wp2_with fail
      refine (l06Cut_any _ _ _ _ _ _ ps _ _ rd3H.out (by omega) (bonds_s hV) (hPH.out.below RInt.stable (by repeat (first | with_reducible exact bl_refl _ | with_reducible assumption | with_reducible refine bl_al ?_ _ | with_reducible refine bl_dr ?_ | with_reducible refine bl_tr ?_ (by assumption) | with_reducible refine bl_set ?_ ?_ _ | with_reducible exact Nat.le_refl _ | omega | (simp only [World.size_alloc, World.size_setCell, World.size_drew] at *; omega) | (dsimp only; omega) | (simp; done) | (simp; omega)))) hnp).mono ?_
      rintro e w4 ⟨rfl, hb4⟩
      go_wp2
      go_ret2
      exact ChkRes.of hrH.out (by repeat (first | with_reducible exact bl_refl _ | with_reducible assumption | with_reducible refine bl_al ?_ _ | with_reducible refine bl_dr ?_ | with_reducible refine bl_tr ?_ (by assumption) | with_reducible refine bl_set ?_ ?_ _ | with_reducible exact Nat.le_refl _ | omega | (simp only [World.size_alloc, World.size_setCell, World.size_drew] at *; omega) | (dsimp only; omega) | (simp; done) | (simp; omega)))
end Go.Proofs.Ytfabgnnpgepcoaa
