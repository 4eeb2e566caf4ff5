/- The reference's list of bonds. -/
import Derived.Test.YtmhgjgclclnmaaaGreatW15
import Derived.Test.YtmhgjgclclnmaaaGreatW11
namespace Go.Proofs.YtmhgjgclclnmaaaGreat
open Go.RowKit
set_option linter.unusedSimpArgs false
set_option linter.unusedVariables false
attribute [local go_sem] BelowBy.cell BelowBy.cell_drew stillUpon givesUpon

theorem l06Neighbor_at {op : Nat} {p : Nat} {gs : List Gl} {ts : List Ti} {xs : List Pl} {i : Nat} {e : Pl} {d : Nat} {r : Int} {w : World} (ha : AsmAt w p op xs) (hV : Valid gs ts xs) (he : xs[i]? = some e) (hd : d < 4) (hr : placeI xs (stepX e.x d) (stepY e.y d) = r) :
    Calls Tryz.prog 99 #[.pointer (some ⟨p, op, none⟩), .int .i64 i, .int .i64 d] w fun e' w' => e' = .returned (.int .i64 r) ∧ Below w.heap.size w w' := by
  subst hr; exact l06Neighbor_any p gs ts xs i e d w ha hV he hd
theorem l02Bond_at {op : Nat} {p : Nat} {gs : List Gl} {ts : List Ti} {xs : List Pl} {a b r : Int} {d : Nat} {w : World} (an bn : Nat) (h1 : a = an) (h2 : b = bn) (hs : SetAt w p op gs ts) (hV : Valid gs ts xs) (ha : an < ts.length) (hb : bn < ts.length) (hd : d < 4) (hr : bondI gs ts an d bn = r) :
    Calls Tryz.prog 100 #[.pointer (some ⟨p, op, none⟩), .int .i64 a, .int .i64 d, .int .i64 b] w fun e w' => e = .returned (.int .i64 r) ∧ Below w.heap.size w w' := by
  subst h1 h2 hr; exact l02Bond_any p gs ts xs _ _ _ w hs hV ha hb hd
set_option maxHeartbeats 1000000 in
set_option maxRecDepth 100000 in
theorem l06Bonds_any {op opa : Nat} (p pa : Nat) (gs : List Gl) (ts : List Ti) (xs : List Pl) (w : World) (hs : SetAt w p op gs ts) (ha : AsmAt w pa opa xs) (hV : Valid gs ts xs) :
    Calls Tryz.prog 49 #[.pointer (some ⟨p, op, none⟩), .pointer (some ⟨pa, opa, none⟩)] w fun e W' => ∃ v, e = .returned v ∧ W'.ownsRow w.heap.size 49 3 v (bondsL gs ts xs).length (bdCells (bondsL gs ts xs)) ∧ Below w.heap.size w W' := by
  obtain ⟨i0, hi, hz0, hz1, hz2⟩ := info_parts infoBond
  have h5 := hV.len
  obtain ⟨plt, A, n, c, h1, h2⟩ := id ha
  have hl := h2.len
  go_enter Tryz.func49, Tryz.ntmps49
  go_wp2
  go_loopg [6, 5] n (fun r x out wr => ∃ k : Nat, k + r = n ∧ x = .int .i64 k ∧ wr.ownsRow w.heap.size 49 3 out (bdL gs ts (nbAll xs k)).length (bdCells (bdL gs ts (nbAll xs k))) ∧ Below w.heap.size w wr)
  case atStart => exact ⟨0, by omega, rfl, World.ownsRow_made _ _ _ (Nat.le_refl _) (by decide) rfl, by exact bel_⟩
  case round =>
    obtain ⟨i, hk, rfl, hrow, hbw⟩ := hrel
    obtain ⟨plt', A', n', c', g1, g2⟩ := ha.below hbw
    obtain rfl : n' = n := by rw [← g2.len]; exact hl
    by_cases hin : i < n'
    · obtain ⟨e, he⟩ := g2.get hin
      have heH := Lib.hid he
      clear he h1 h2
      go_wp2
      obtain ⟨W0, hW0⟩ : ∃ W0, W0 = wr := ⟨_, rfl⟩
      subst hW0
      go_loopg [7, 5] 2 (fun r x out wr => ∃ (j : Nat) (D : Int), j + r = 2 ∧ D = 1 - (j : Int) ∧ x = .int .i64 D ∧ wr.ownsRow w.heap.size 49 3 out (bdL gs ts (nbUpto xs i j)).length (bdCells (bdL gs ts (nbUpto xs i j))) ∧ Below w.heap.size w wr)
      case atStart => exact ⟨0, 1, by omega, by omega, rfl, by (rw [nbUpto_zero]; exact hrow), hbw⟩
      case round =>
        obtain ⟨j, D, hj, hD, rfl, hrow2, hbw2⟩ := hrel
        clear hrow
        by_cases hj2 : j < 2
        · obtain ⟨d, hd⟩ : ∃ d, d = dirOf j := ⟨_, rfl⟩
          have hd4 : d < 4 := by rw [hd]; unfold dirOf; split <;> omega
          obtain rfl : D = (d : Int) := by rw [hD, hd]; unfold dirOf; split <;> omega
          have hD2 : (d : Int) - 1 = 1 - ((j + 1 : Nat) : Int) := by omega
          have hD2H := Lib.hid hD2
          have hnbs := nbUpto_succ xs i j hj2
          rw [← hd] at hnbs
          have hnbsH := Lib.hid hnbs
          have hnbl := Lib.hid (nbUpto_len xs i j)
          have hbl := Lib.hid (bdL_len gs ts (nbUpto xs i j))
          clear hD hD2 hnbs hd
          have hd0 : (0 : Int) ≤ (d : Int) := by omega
          obtain ⟨plt2, A2, n2, c2, g1b, g2b⟩ := ha.below hbw2
          obtain rfl : n2 = n' := by rw [← g2b.len]; exact hl
          rcases placeI_cases xs (stepX e.x d) (stepY e.y d) with hp | ⟨k, hp, hkx⟩
          · have hnn := Lib.hid (nb_none heH.out hp)
            have hpH := Lib.hid hp
            clear hp
            go_wp2_with (go_at_call 99; refine (l06Neighbor_at (ha.below (hbw2.trans (Below.mono (by exact bel_) hbw2.size))) hV heH.out hd4 hpH.out).mono ?_; rintro e w1 ⟨rfl, hb1⟩; obtain ⟨chb1, fhb1, shb1, thb1⟩ := bcell hb1)
            go_roundg (2 - (j + 1))
            case measure => omega
            case rel => exact ⟨j + 1, _, by omega, hD2H.out, rfl, by (rw [hnbsH.out, hnn.out, List.append_nil]; exact ownsRow_below hrow2 hb1), hbw2.trans (hb1.mono hbw2.size)⟩
          · have hnn := Lib.hid (nb_some heH.out hd4 hp hkx)
            have hpH := Lib.hid hp
            clear hp
            obtain ⟨b, o, rfl, hb, hc⟩ := g2b.ptr (by omega)
            obtain ⟨e2, he2⟩ := g2b.get (k := k) (by omega)
            obtain ⟨x0, x1, x2⟩ := hc i e heH.out
            obtain ⟨y0, y1, y2⟩ := hc k e2 he2
            obtain ⟨t1, ht1, ht1l⟩ := hV.ti i e heH.out
            obtain ⟨t2, ht2, ht2l⟩ := hV.ti k e2 he2
            rw [ht1] at x2
            rw [ht2] at y2
            have hs' : bdS gs ts (xs := xs) ⟨(i, k, d), lt_of_get heH.out, hkx, hd4⟩ = bondI gs ts t1 d t2 := by
              unfold bdS tileN
              simp only [heH.out, he2, ht1, ht2, Int.toNat_natCast]
            obtain ⟨r, hr⟩ : ∃ r, bondI gs ts t1 d t2 = r := ⟨_, rfl⟩
            rw [hr] at hs'
            have hsH := Lib.hid hs'
            have hrH := Lib.hid hr
            have hkn : k < n2 := by omega
            have hk0 : (0 : Int) ≤ (k : Int) := by omega
            clear hs' hr he2 ht1 ht2 hc g2b
            by_cases hpos : 0 < r
            · go_wp2_with fail
              refine (l06Neighbor_at (ha.below hbw2) hV heH.out hd4 hpH.out).mono ?_
              rintro _ w1 ⟨rfl, hb1⟩
              obtain ⟨chb1, fhb1, shb1, thb1⟩ := bcell hb1
              have sb1 := shb1 b hb
              have sp1 := shb1 pa plt2
              go_wp2
              refine wp_region_ord [(0, .q), (1, .q), (2, .q), (3, .q), (4, .q), (5, .q), (6, .q), (7, .q), (8, .q), (9, .q), (10, .q), (11, .q), (12, .q), (13, .q), (14, .q), (15, .q), (16, .q), (17, .q), (18, .g), (19, .q)] (by kernel_rfl) (by kernel_rfl) ?_
              simp only [pick, List.filterMap_cons, List.filterMap_nil, List.getElem?_toArray, List.getElem?_cons_zero, List.getElem?_cons_succ, Option.map_some]
              repeat (first
                | ((with_reducible refine wpD_p (fun K hK => ?_)); go_simp; refine hK _ ?_; clear hK K)
                | ((with_reducible refine wpD_q (fun K hK => ?_)); go_simp; (first | refine hK _ ?_ | (go_bits; refine hK _ ?_) | (go_bits; go_simp; refine hK _ ?_)); clear hK K)
                | ((with_reducible refine wpD_g (fun K hK => ?_)); go_simp; refine hK _ _ ?_; clear hK K)
                | ((with_reducible refine wpD_g (fun K hK => ?_)); go_simp; refine ⟨Grew.of_alloc _, hK _ _ ?_⟩; clear hK K)
                | ((with_reducible refine wpD_g (fun K hK => ?_)); go_simp; go_at_call 100; refine (l02Bond_at t1 t2 rfl rfl (hs.below (hbw2.trans (Below.mono (by exact bel_) hbw2.size))) hV ht1l ht2l hd4 hrH.out).mono ?_; rintro e w2 ⟨rfl, hb2⟩; refine ⟨_, rfl, hb2, hK _ _ ?_⟩; clear hK K; obtain ⟨chb2, fhb2, shb2, thb2⟩ := bcell hb2))
              with_reducible refine wpD_nil ?_
              have hbA : Below wr.heap.size wr w2 := by exact bel_
              have hB2 : Below w.heap.size w w2 := hbw2.trans (hbA.mono hbw2.size)
              have hrow' := ownsRow_below hrow2 hbA
              have hbl' := hbl.out
              have hnbl' := hnbl.out
              go_wp2_with (at_builtin; refine wpList_append_own _ rfl _ _ 44 rfl w.heap.size 49 i0 (.agg #[.int .i64 0, .int .i64 0, .int .i64 0]) 3 24 Tryz.underlying44 hi hz0 hz1 hz2 rfl (by decide) _ _ _ rfl (hrow'.alloc _) ⟨w2.heap.size, 0, none⟩ 1 1 [.int .i64 i, .int .i64 k, .int .i64 r] rfl rfl (cell_three_new _ _ _ _ _) (fun x hx => by simp at hx; rcases hx with rfl | rfl | rfl <;> rfl) (by unfold maxLen; omega) (by omega) (by have := hB2.size; simp; omega) ?_; intro v' w3 hown' hgrow _)
              go_roundg (2 - (j + 1))
              case measure => omega
              case rel => exact ⟨j + 1, _, by omega, hD2H.out, rfl, by (rw [hnbsH.out, hnn.out, bdL_hit _ (by rw [hsH.out]; exact hpos), List.length_append, bdCells_snoc]; simp only [hsH.out]; exact hown'), (hB2.alloc hB2.size _).grown hgrow (by have := hB2.size; simp; omega) (fun b' hb' => (hrow'.lt b' hb').1)⟩
            · have hp2 : decide (0 < r) = false := decide_eq_false hpos
              go_wp2_with fail
              refine (l06Neighbor_at (ha.below hbw2) hV heH.out hd4 hpH.out).mono ?_
              rintro _ w1 ⟨rfl, hb1⟩
              obtain ⟨chb1, fhb1, shb1, thb1⟩ := bcell hb1
              have sb1 := shb1 b hb
              have sp1 := shb1 pa plt2
              go_wp2
              refine wp_region_ord [(0, .q), (1, .q), (2, .q), (3, .q), (4, .q), (5, .q), (6, .q), (7, .q), (8, .q), (9, .q), (10, .q), (11, .q), (12, .q), (13, .q), (14, .q), (15, .q), (16, .q), (17, .q), (18, .g), (19, .q)] (by kernel_rfl) (by kernel_rfl) ?_
              simp only [pick, List.filterMap_cons, List.filterMap_nil, List.getElem?_toArray, List.getElem?_cons_zero, List.getElem?_cons_succ, Option.map_some]
              repeat (first
                | ((with_reducible refine wpD_p (fun K hK => ?_)); go_simp; refine hK _ ?_; clear hK K)
                | ((with_reducible refine wpD_q (fun K hK => ?_)); go_simp; (first | refine hK _ ?_ | (go_bits; refine hK _ ?_) | (go_bits; go_simp; refine hK _ ?_)); clear hK K)
                | ((with_reducible refine wpD_g (fun K hK => ?_)); go_simp; refine hK _ _ ?_; clear hK K)
                | ((with_reducible refine wpD_g (fun K hK => ?_)); go_simp; refine ⟨Grew.of_alloc _, hK _ _ ?_⟩; clear hK K)
                | ((with_reducible refine wpD_g (fun K hK => ?_)); go_simp; go_at_call 100; refine (l02Bond_at t1 t2 rfl rfl (hs.below (hbw2.trans (Below.mono (by exact bel_) hbw2.size))) hV ht1l ht2l hd4 hrH.out).mono ?_; rintro e w2 ⟨rfl, hb2⟩; refine ⟨_, rfl, hb2, hK _ _ ?_⟩; clear hK K; obtain ⟨chb2, fhb2, shb2, thb2⟩ := bcell hb2))
              with_reducible refine wpD_nil ?_
              have hbA : Below wr.heap.size wr w2 := by exact bel_
              have hB2 : Below w.heap.size w w2 := hbw2.trans (hbA.mono hbw2.size)
              go_wp2
              go_roundg (2 - (j + 1))
              case measure => omega
              case rel => exact ⟨j + 1, _, by omega, hD2H.out, rfl, by (rw [hnbsH.out, hnn.out, bdL_miss _ (by rw [hsH.out]; omega)]; exact ownsRow_below hrow2 hbA), hB2⟩
        · obtain rfl : j = 2 := by omega
          obtain rfl : D = -1 := by omega
          go_wp2
          go_roundg (n' - (i + 1))
          case measure => omega
          case rel => exact ⟨i + 1, by omega, by go_num, by (rw [← nbUpto_two]; exact hrow2), hbw2⟩
    · obtain rfl : i = n' := by omega
      clear g2
      go_wp2
      go_ret
      exact ⟨_, rfl, by (unfold bondsL; rw [hl]; exact hrow), hbw⟩
end Go.Proofs.YtmhgjgclclnmaaaGreat
