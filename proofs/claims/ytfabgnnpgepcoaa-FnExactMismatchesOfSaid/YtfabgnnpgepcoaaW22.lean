/- Walk: the reference's MismatchesOf. -/
import Derived.Test.YtfabgnnpgepcoaaW21
namespace Go.Proofs.Ytfabgnnpgepcoaa
open Go.RowKit Go.Shelf
set_option linter.unusedSimpArgs false
set_option linter.unusedVariables false
attribute [local go_sem] BelowBy.cell BelowBy.cell_drew stillUpon givesUpon BelowBy.cell_drew2 BelowBy.cell_drew3

set_option maxHeartbeats 1000000 in
set_option maxRecDepth 100000 in
theorem l06Misfit_any (p : Nat) (gs : List Gl) (ts : List Ti) (xs : List Pl) (a d b : Nat) (w : World) (hs : SetAt w p gs ts) (hV : Valid gs ts xs) (ha : a < ts.length) (hb : b < ts.length) (hd : d < 4) :
    Calls Try.prog 140 #[.pointer (some ⟨p, 0, none⟩), .int .i64 a, .int .i64 d, .int .i64 b] w fun e w' => e = .returned (.bool (decide (sideI ts a d ≠ sideI ts b (oppN d)))) ∧ Below w.heap.size w w' := by
  obtain ⟨hlt, ⟨A, n, c, h1, h2⟩, ⟨B, m, dd, h3, h4⟩⟩ := id hs
  have hl := h4.len
  obtain ⟨bT, oT, rfl, hbT, _⟩ := h4.ptr (by omega)
  obtain ⟨b2, o2, c2, z1, hb2, z2a⟩ := side_cell h4 hV ha rfl
  obtain ⟨b3, o3, c3, z3, hb3, z4a⟩ := side_cell h4 hV hb rfl
  have hod : oppN d < 4 := by unfold oppN; split <;> omega
  have hod' : ((oppN d : Nat) : Int) < 4 := by omega
  have hdI : (d : Int) < 4 := by omega
  have hd0 : (0 : Int) ≤ (d : Int) := by omega
  have hod0 : (0 : Int) ≤ ((oppN d : Nat) : Int) := by omega
  have z2 := z2a d hd
  have z4 := z4a (oppN d) hod
  have ham : a < m := by omega
  have hbm : b < m := by omega
  obtain ⟨u1, hu1⟩ : ∃ r, sideI ts a d = r := ⟨_, rfl⟩
  obtain ⟨u2, hu2⟩ : ∃ r, sideI ts b (oppN d) = r := ⟨_, rfl⟩
  rw [hu1] at z2
  rw [hu2] at z4
  have hr := Lib.hid (show decide (sideI ts a d ≠ sideI ts b (oppN d)) = (u1 != u2) by rw [hu1, hu2, Bool.eq_iff_iff]; simp)
  clear z2a z4a hu1 hu2 hl h2 h4 hs
  go_enter Try.func140, Try.ntmps140
  go_wp2
  refine wp_region_ord [(0, .q), (1, .q), (2, .q), (3, .q), (4, .q), (5, .q), (6, .q), (7, .q), (8, .q), (9, .q), (10, .q), (11, .q), (12, .q), (13, .q), (14, .q), (15, .q), (16, .q), (17, .q), (18, .q), (19, .q), (20, .g), (21, .q), (22, .q), (23, .q), (24, .q)] (by kernel_rfl) (by kernel_rfl) ?_
  simp only [pick, List.filterMap_cons, List.filterMap_nil, List.getElem?_toArray, List.getElem?_cons_zero, List.getElem?_cons_succ, Option.map_some]
  repeat (first
    | ((with_reducible refine wpD_q (fun K hK => ?_)); go_simp; (first | refine hK _ ?_ | (go_bits; refine hK _ ?_) | (go_bits; go_simp; refine hK _ ?_)); clear hK K)
    | ((with_reducible refine wpD_g (fun K hK => ?_)); go_simp; refine hK _ _ ?_; clear hK K)
    | ((with_reducible refine wpD_g (fun K hK => ?_)); go_simp; refine ⟨Grew.of_alloc _, hK _ _ ?_⟩; clear hK K)
    | ((with_reducible refine wpD_g (fun K hK => ?_)); go_simp; go_at_call 158; refine (sOppN_any _ _ hd).mono ?_; rintro e _ ⟨rfl, rfl⟩; refine ⟨_, rfl, Below.refl _ _, hK _ _ ?_⟩; clear hK K))
  with_reducible refine wpD_nil ?_
  go_wp2
  go_ret
  exact ⟨ret_bool hr.out.symm, by repeat (first | with_reducible exact bl_refl _ | with_reducible assumption | with_reducible refine bl_al ?_ _ | with_reducible refine bl_dr ?_ | with_reducible refine bl_tr ?_ (by assumption) | with_reducible refine bl_set ?_ ?_ _ | with_reducible exact Nat.le_refl _ | omega | (simp only [World.size_alloc, World.size_setCell, World.size_drew] at *; omega) | (dsimp only; omega) | (simp; done) | (simp; omega))⟩
theorem l06Misfit_at {p : Nat} {gs : List Gl} {ts : List Ti} {xs : List Pl} {a b : Int} {d : Nat} {r : Bool} {w : World} (an bn : Nat) (h1 : a = an) (h2 : b = bn) (hs : SetAt w p gs ts) (hV : Valid gs ts xs) (ha : an < ts.length) (hb : bn < ts.length) (hd : d < 4) (hr : decide (sideI ts an d ≠ sideI ts bn (oppN d)) = r) :
    Calls Try.prog 140 #[.pointer (some ⟨p, 0, none⟩), .int .i64 a, .int .i64 d, .int .i64 b] w fun e w' => e = .returned (.bool r) ∧ Below w.heap.size w w' := by
  subst h1 h2 hr; exact l06Misfit_any p gs ts xs _ _ _ w hs hV ha hb hd
theorem cell_three_new0 (w : World) (a b : Value) (t : TypeId) : ∀ j u, [a, b, Value.int .i64 0][j]? = some u → (w.alloc (.cells #[a, b, .int .i64 0] t)).cell? ((⟨w.heap.size, 0, none⟩ : Addr).add j) = some u := cell_three_new w a b _ t
set_option maxHeartbeats 1000000 in
set_option maxRecDepth 100000 in
theorem l06Misfits_any (p pa : Nat) (gs : List Gl) (ts : List Ti) (xs : List Pl) (w : World) (hs : SetAt w p gs ts) (ha : AsmAt w pa xs) (hV : Valid gs ts xs) :
    Calls Try.prog 92 #[.pointer (some ⟨p, 0, none⟩), .pointer (some ⟨pa, 0, none⟩)] w fun e W' => ∃ v, e = .returned v ∧ W'.ownsRow w.heap.size 96 3 v (misL ts (nbAll xs xs.length)).length (bdCells (misL ts (nbAll xs xs.length))) ∧ Below w.heap.size w W' := by
  obtain ⟨i0, hi, hz0, hz1, hz2⟩ := info_parts infoBond
  have h5 := hV.len
  obtain ⟨plt, A, n, c, h1, h2⟩ := id ha
  have hl := h2.len
  go_enter Try.func92, Try.ntmps92
  go_wp2
  go_loopg [6, 5] n (fun r x out wr => ∃ k : Nat, k + r = n ∧ x = .int .i64 k ∧ wr.ownsRow w.heap.size 96 3 out (misL ts (nbAll xs k)).length (bdCells (misL ts (nbAll xs k))) ∧ Below w.heap.size w wr)
  case atStart => exact ⟨0, by omega, rfl, World.ownsRow_made _ _ _ (Nat.le_refl _) (by decide) rfl, by repeat (first | with_reducible exact bl_refl _ | with_reducible assumption | with_reducible refine bl_al ?_ _ | with_reducible refine bl_dr ?_ | with_reducible refine bl_tr ?_ (by assumption) | with_reducible refine bl_set ?_ ?_ _ | with_reducible exact Nat.le_refl _ | omega | (simp only [World.size_alloc, World.size_setCell, World.size_drew] at *; omega) | (dsimp only; omega) | (simp; done) | (simp; omega))⟩
  case round =>
    obtain ⟨i, hk, rfl, hrow, hbw⟩ := hrel
    obtain ⟨plt', A', n', c', g1, g2⟩ := ha.below hbw
    obtain rfl : n' = n := by rw [← g2.len]; exact hl
    by_cases hin : i < n'
    · obtain ⟨e, he⟩ := g2.get hin
      have heH := Lib.hid he
      clear he h1 h2
      go_wp2
      obtain ⟨W0, hW0⟩ : ∃ W0, W0 = wr := ⟨_, rfl⟩
      subst hW0
      go_loopg [7, 5] 2 (fun r x out wr => ∃ (j : Nat) (D : Int), j + r = 2 ∧ D = 1 - (j : Int) ∧ x = .int .i64 D ∧ wr.ownsRow w.heap.size 96 3 out (misL ts (nbUpto xs i j)).length (bdCells (misL ts (nbUpto xs i j))) ∧ Below w.heap.size w wr)
      case atStart => exact ⟨0, 1, by omega, by omega, rfl, by (rw [nbUpto_zero]; exact hrow), hbw⟩
      case round =>
        obtain ⟨j, D, hj, hD, rfl, hrow2, hbw2⟩ := hrel
        clear hrow
        by_cases hj2 : j < 2
        · obtain ⟨d, hd⟩ : ∃ d, d = dirOf j := ⟨_, rfl⟩
          have hd4 : d < 4 := by rw [hd]; unfold dirOf; split <;> omega
          obtain rfl : D = (d : Int) := by rw [hD, hd]; unfold dirOf; split <;> omega
          have hD2 : (d : Int) - 1 = 1 - ((j + 1 : Nat) : Int) := by omega
          have hD2H := Lib.hid hD2
          have hnbs := nbUpto_succ xs i j hj2
          rw [← hd] at hnbs
          have hnbsH := Lib.hid hnbs
          have hnbl := Lib.hid (nbUpto_len xs i j)
          have hbl := Lib.hid (misL_len ts (nbUpto xs i j))
          clear hD hD2 hnbs hd
          have hd0 : (0 : Int) ≤ (d : Int) := by omega
          obtain ⟨plt2, A2, n2, c2, g1b, g2b⟩ := ha.below hbw2
          obtain rfl : n2 = n' := by rw [← g2b.len]; exact hl
          rcases placeI_cases xs (stepX e.x d) (stepY e.y d) with hp | ⟨k, hp, hkx⟩
          · have hnn := Lib.hid (nb_none heH.out hp)
            have hpH := Lib.hid hp
            clear hp
            go_wp2_with fail
            refine (l06Neighbor_at (ha.below hbw2) hV heH.out hd4 hpH.out).mono ?_
            rintro _ w1 ⟨rfl, hb1⟩
            go_wp2
            refine wp_region_ord [(0, .q), (1, .q), (2, .q), (3, .q), (4, .q), (5, .q), (6, .q), (7, .q), (8, .q), (9, .q), (10, .q), (11, .q), (12, .q), (13, .q), (14, .q), (15, .q), (16, .q), (17, .q), (18, .q), (19, .q), (20, .q), (21, .g), (22, .q)] (by kernel_rfl) (by kernel_rfl) ?_
            simp only [pick, List.filterMap_cons, List.filterMap_nil, List.getElem?_toArray, List.getElem?_cons_zero, List.getElem?_cons_succ, Option.map_some]
            repeat (first
              | ((with_reducible refine wpD_q (fun K hK => ?_)); go_simp; (first | refine hK _ ?_ | (go_bits; refine hK _ ?_) | (go_bits; go_simp; refine hK _ ?_)); clear hK K)
              | ((with_reducible refine wpD_g (fun K hK => ?_)); go_simp; refine hK _ _ ?_; clear hK K)
              | ((with_reducible refine wpD_g (fun K hK => ?_)); go_simp; refine ⟨Grew.of_alloc _, hK _ _ ?_⟩; clear hK K))
            with_reducible refine wpD_nil ?_
            go_wp2
            go_roundg (2 - (j + 1))
            case measure => omega
            case rel => exact ⟨j + 1, _, by omega, hD2H.out, rfl, by (rw [hnbsH.out, hnn.out, List.append_nil]; exact (ownsRow_below hrow2 hb1.drew)), hbw2.trans (Below.mono (show Below wr.heap.size wr w1.drew from hb1.drew) hbw2.size)⟩
          · have hnn := Lib.hid (nb_some heH.out hd4 hp hkx)
            have hpH := Lib.hid hp
            clear hp
            obtain ⟨b, o, rfl, hb, hc⟩ := g2b.ptr (by omega)
            obtain ⟨e2, he2⟩ := g2b.get (k := k) (by omega)
            obtain ⟨x0, x1, x2⟩ := hc i e heH.out
            obtain ⟨y0, y1, y2⟩ := hc k e2 he2
            obtain ⟨t1, ht1, ht1l⟩ := hV.ti i e heH.out
            obtain ⟨t2, ht2, ht2l⟩ := hV.ti k e2 he2
            rw [ht1] at x2
            rw [ht2] at y2
            have hs' : misT ts (xs := xs) ⟨(i, k, d), lt_of_get heH.out, hkx, hd4⟩ = decide (sideI ts t1 d ≠ sideI ts t2 (oppN d)) := by
              unfold misT tileN
              simp only [heH.out, he2, ht1, ht2, Int.toNat_natCast]
            obtain ⟨r, hr⟩ : ∃ r, decide (sideI ts t1 d ≠ sideI ts t2 (oppN d)) = r := ⟨_, rfl⟩
            rw [hr] at hs'
            have hsH := Lib.hid hs'
            have hrH := Lib.hid hr
            have hkn : k < n2 := by omega
            have hk0 : (0 : Int) ≤ (k : Int) := by omega
            clear hs' hr he2 ht1 ht2 hc g2b
            cases r
            rotate_left
            · go_wp2_with fail
              refine (l06Neighbor_at (ha.below hbw2) hV heH.out hd4 hpH.out).mono ?_
              rintro _ w1 ⟨rfl, hb1⟩
              obtain ⟨chb1, fhb1, shb1, thb1⟩ := bcell hb1
              have sb1 := shb1 b hb
              have sp1 := shb1 pa plt2
              go_wp2
              refine wp_region_ord [(0, .q), (1, .q), (2, .q), (3, .q), (4, .q), (5, .q), (6, .q), (7, .q), (8, .q), (9, .q), (10, .q), (11, .q), (12, .q), (13, .q), (14, .q), (15, .q), (16, .q), (17, .q), (18, .q), (19, .q), (20, .q), (21, .g), (22, .q)] (by kernel_rfl) (by kernel_rfl) ?_
              simp only [pick, List.filterMap_cons, List.filterMap_nil, List.getElem?_toArray, List.getElem?_cons_zero, List.getElem?_cons_succ, Option.map_some]
              repeat (first
                | ((with_reducible refine wpD_q (fun K hK => ?_)); go_simp; (first | refine hK _ ?_ | (go_bits; refine hK _ ?_) | (go_bits; go_simp; refine hK _ ?_)); clear hK K)
                | ((with_reducible refine wpD_g (fun K hK => ?_)); go_simp; refine hK _ _ ?_; clear hK K)
                | ((with_reducible refine wpD_g (fun K hK => ?_)); go_simp; refine ⟨Grew.of_alloc _, hK _ _ ?_⟩; clear hK K)
                | ((with_reducible refine wpD_g (fun K hK => ?_)); go_simp; go_at_call 140; refine (l06Misfit_at t1 t2 rfl rfl (hs.below (hbw2.trans (Below.mono (by repeat (first | with_reducible exact bl_refl _ | with_reducible assumption | with_reducible refine bl_al ?_ _ | with_reducible refine bl_dr ?_ | with_reducible refine bl_tr ?_ (by assumption) | with_reducible refine bl_set ?_ ?_ _ | with_reducible exact Nat.le_refl _ | omega | (simp only [World.size_alloc, World.size_setCell, World.size_drew] at *; omega) | (dsimp only; omega) | (simp; done) | (simp; omega))) hbw2.size))) hV ht1l ht2l hd4 hrH.out).mono ?_; rintro e w2 ⟨rfl, hb2⟩; refine ⟨_, rfl, hb2, hK _ _ ?_⟩; clear hK K; obtain ⟨chb2, fhb2, shb2, thb2⟩ := bcell hb2))
              with_reducible refine wpD_nil ?_
              have hbA : Below wr.heap.size wr w2 := by repeat (first | with_reducible exact bl_refl _ | with_reducible assumption | with_reducible refine bl_al ?_ _ | with_reducible refine bl_dr ?_ | with_reducible refine bl_tr ?_ (by assumption) | with_reducible refine bl_set ?_ ?_ _ | with_reducible exact Nat.le_refl _ | omega | (simp only [World.size_alloc, World.size_setCell, World.size_drew] at *; omega) | (dsimp only; omega) | (simp; done) | (simp; omega))
              have hB2 : Below w.heap.size w w2 := hbw2.trans (hbA.mono hbw2.size)
              have hrow' := ownsRow_below hrow2 hbA
              have hbl' := hbl.out
              have hnbl' := hnbl.out
              go_wp2_with (at_builtin; refine wpList_append_own _ rfl _ _ 71 rfl w.heap.size 96 i0 (.agg #[.int .i64 0, .int .i64 0, .int .i64 0]) 3 24 Try.underlying71 hi hz0 hz1 hz2 rfl (by decide) _ _ _ rfl (hrow'.alloc _) ⟨w2.heap.size, 0, none⟩ 1 1 [.int .i64 i, .int .i64 k, .int .i64 0] rfl rfl (cell_three_new _ _ _ _ _) (fun x hx => by simp at hx; rcases hx with rfl | rfl | rfl <;> rfl) (by unfold maxLen; omega) (by omega) (by have := hB2.size; simp; omega) ?_; intro v' w3 hown' hgrow _)
              go_roundg (2 - (j + 1))
              case measure => omega
              case rel => exact ⟨j + 1, _, by omega, hD2H.out, rfl, by (rw [hnbsH.out, hnn.out, misL_hit _ hsH.out, List.length_append, bdCells_snoc]; exact hown'), (hB2.alloc hB2.size _).grown hgrow (by have := hB2.size; simp; omega) (fun b' hb' => (hrow'.lt b' hb').1)⟩
            · go_wp2_with fail
              refine (l06Neighbor_at (ha.below hbw2) hV heH.out hd4 hpH.out).mono ?_
              rintro _ w1 ⟨rfl, hb1⟩
              obtain ⟨chb1, fhb1, shb1, thb1⟩ := bcell hb1
              have sb1 := shb1 b hb
              have sp1 := shb1 pa plt2
              go_wp2
              refine wp_region_ord [(0, .q), (1, .q), (2, .q), (3, .q), (4, .q), (5, .q), (6, .q), (7, .q), (8, .q), (9, .q), (10, .q), (11, .q), (12, .q), (13, .q), (14, .q), (15, .q), (16, .q), (17, .q), (18, .q), (19, .q), (20, .q), (21, .g), (22, .q)] (by kernel_rfl) (by kernel_rfl) ?_
              simp only [pick, List.filterMap_cons, List.filterMap_nil, List.getElem?_toArray, List.getElem?_cons_zero, List.getElem?_cons_succ, Option.map_some]
              repeat (first
                | ((with_reducible refine wpD_q (fun K hK => ?_)); go_simp; (first | refine hK _ ?_ | (go_bits; refine hK _ ?_) | (go_bits; go_simp; refine hK _ ?_)); clear hK K)
                | ((with_reducible refine wpD_g (fun K hK => ?_)); go_simp; refine hK _ _ ?_; clear hK K)
                | ((with_reducible refine wpD_g (fun K hK => ?_)); go_simp; refine ⟨Grew.of_alloc _, hK _ _ ?_⟩; clear hK K)
                | ((with_reducible refine wpD_g (fun K hK => ?_)); go_simp; go_at_call 140; refine (l06Misfit_at t1 t2 rfl rfl (hs.below (hbw2.trans (Below.mono (by repeat (first | with_reducible exact bl_refl _ | with_reducible assumption | with_reducible refine bl_al ?_ _ | with_reducible refine bl_dr ?_ | with_reducible refine bl_tr ?_ (by assumption) | with_reducible refine bl_set ?_ ?_ _ | with_reducible exact Nat.le_refl _ | omega | (simp only [World.size_alloc, World.size_setCell, World.size_drew] at *; omega) | (dsimp only; omega) | (simp; done) | (simp; omega))) hbw2.size))) hV ht1l ht2l hd4 hrH.out).mono ?_; rintro e w2 ⟨rfl, hb2⟩; refine ⟨_, rfl, hb2, hK _ _ ?_⟩; clear hK K; obtain ⟨chb2, fhb2, shb2, thb2⟩ := bcell hb2))
              with_reducible refine wpD_nil ?_
              have hbA : Below wr.heap.size wr w2 := by repeat (first | with_reducible exact bl_refl _ | with_reducible assumption | with_reducible refine bl_al ?_ _ | with_reducible refine bl_dr ?_ | with_reducible refine bl_tr ?_ (by assumption) | with_reducible refine bl_set ?_ ?_ _ | with_reducible exact Nat.le_refl _ | omega | (simp only [World.size_alloc, World.size_setCell, World.size_drew] at *; omega) | (dsimp only; omega) | (simp; done) | (simp; omega))
              have hB2 : Below w.heap.size w w2 := hbw2.trans (hbA.mono hbw2.size)
              go_wp2
              go_roundg (2 - (j + 1))
              case measure => omega
              case rel => exact ⟨j + 1, _, by omega, hD2H.out, rfl, by (rw [hnbsH.out, hnn.out, misL_miss _ hsH.out]; exact ownsRow_below hrow2 hbA), hB2⟩
        · obtain rfl : j = 2 := by omega
          obtain rfl : D = -1 := by omega
          go_wp2
          go_roundg (n' - (i + 1))
          case measure => omega
          case rel => exact ⟨i + 1, by omega, by go_num, by (rw [← nbUpto_two]; exact hrow2), hbw2⟩
    · obtain rfl : i = n' := by omega
      clear g2
      go_wp2
      go_ret
      exact ⟨_, rfl, by (rw [hl]; exact hrow), hbw⟩
set_option maxRecDepth 100000 in
set_option maxHeartbeats 1000000 in
theorem sMismatchesOf_any (G T A : Option Addr) (n cg m ct q ca : Nat) (gs : List Gl) (ts : List Ti) (xs : List Pl) (w : World) (h : SA w G n T m A q gs ts xs) :
    Calls Try.prog 40 #[.agg #[.slice G n cg, .slice T m ct], .agg #[.slice A q ca]] w (BdsRes w (missR gs ts xs)) := by
  have h0 := Lib.hid (h.box cg ct ca)
  clear h
  have hc1 := codeB_true
  have hc2 := codeB_false
  cases hv : validAsmB gs ts xs
  · have hvH := Lib.hid hv
    clear hv
    go_enter Try.func40, Try.ntmps40
    go_wp2_with fail
    refine (h0.out.asked hvH.out).mono ?_
    rintro e w1 ⟨rfl, hb1⟩
    go_wp2
    go_ret2
    exact BdsRes.of (missR_no hvH.out) (World.ownsRow_nil _ _ _ _) (by repeat (first | with_reducible exact bl_refl _ | with_reducible assumption | with_reducible refine bl_al ?_ _ | with_reducible refine bl_dr ?_ | with_reducible refine bl_tr ?_ (by assumption) | with_reducible refine bl_set ?_ ?_ _ | with_reducible exact Nat.le_refl _ | omega | (simp only [World.size_alloc, World.size_setCell, World.size_drew] at *; omega) | (dsimp only; omega) | (simp; done) | (simp; omega)))
  · have hvH := Lib.hid hv
    have hV := valid_of hv
    clear hv
    go_enter Try.func40, Try.ntmps40
    go_wp2_with fail
    refine (h0.out.asked hvH.out).mono ?_
    rintro e w1 ⟨rfl, hb1⟩
    go_wp2_with fail
    refine (l06Misfits_any _ _ gs ts xs _ (h0.out.below hb1).s (h0.out.below hb1).a hV).mono ?_
    rintro e w2 ⟨v, rfl, hrow, hb2⟩
    have hz : w.heap.size ≤ w1.heap.size := by have := hb1.size; simp at this; omega
    have hrowH := Lib.hid hrow
    clear hrow
    go_wp2
    go_ret2
    exact BdsRes.of (missR_yes hvH.out) (ownsRow_base hrowH.out hz) (by repeat (first | with_reducible exact bl_refl _ | with_reducible assumption | with_reducible refine bl_al ?_ _ | with_reducible refine bl_dr ?_ | with_reducible refine bl_tr ?_ (by assumption) | with_reducible refine bl_set ?_ ?_ _ | with_reducible exact Nat.le_refl _ | omega | (simp only [World.size_alloc, World.size_setCell, World.size_drew] at *; omega) | (dsimp only; omega) | (simp; done) | (simp; omega)))
theorem missR_len (gs : List Gl) (ts : List Ti) (xs : List Pl) : (missR gs ts xs).1.length ≤ 1073741824 := by
  unfold missR
  split
  · rename_i h
    have h1 := misL_len ts (nbAll xs xs.length)
    have h2 := nbAll_len xs xs.length
    have h3 := (valid_of h).len
    show (misL ts (nbAll xs xs.length)).length ≤ _
    omega
  · simp
end Go.Proofs.Ytfabgnnpgepcoaa
