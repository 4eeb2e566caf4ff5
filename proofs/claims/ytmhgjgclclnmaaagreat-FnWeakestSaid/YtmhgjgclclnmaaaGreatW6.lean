/- Walks: the reference's check of a set. -/
import Derived.Test.YtmhgjgclclnmaaaGreatW5
namespace Go.Proofs.YtmhgjgclclnmaaaGreat
open Go.RowKit
set_option linter.unusedSimpArgs false
set_option linter.unusedVariables false
attribute [local go_sem] BelowBy.cell BelowBy.cell_drew stillUpon givesUpon
theorem neq_t {r a : Int} {b : Bool} (h : (r == a) = b) (hb : b = true) : (r != a) = false := by subst hb; simpa using h
theorem neq_f {r a : Int} {b : Bool} (h : (r == a) = b) (hb : b = false) : (r != a) = true := by subst hb; simpa using h
theorem okGl_eq {gs : List Gl} {j : Nat} {g : Gl} (h : gs[j]? = some g) : okGl gs j = (isNameB g.name && (inB g.s 1 4 && freshG gs j)) := by unfold okGl; rw [h]
theorem okTi_eq {n : Nat} {ts : List Ti} {j : Nat} {t : Ti} (h : ts[j]? = some t) : okTi n ts j = (isNameB t.name && (decide (t.sides.length = 4) && (freshT ts j && allB t.sides.length (okSide n t.sides)))) := by unfold okTi; rw [h]
theorem validSetB_gl {gs : List Gl} {ts : List Ti} {k : Nat} (hk : k < gs.length) (h : okGl gs k = false) : validSetB gs ts = false := by
  unfold validSetB; rw [allB_false hk h]; simp
theorem validSetB_ti {gs : List Gl} {ts : List Ti} {k : Nat} (hk : k < ts.length) (h : okTi gs.length ts k = false) : validSetB gs ts = false := by
  unfold validSetB; rw [allB_false hk h]; simp
theorem validSetB_ok {gs : List Gl} {ts : List Ti} (h1 : gs.length ≤ 200) (h2 : 1 ≤ ts.length) (h3 : ts.length ≤ 160) (hg : ∀ j, j < gs.length → okGl gs j = true) (ht : ∀ j, j < ts.length → okTi gs.length ts j = true) : validSetB gs ts = true := by
  unfold validSetB; rw [allB_true hg, allB_true ht]; simp [h1, h2, h3]
theorem validSetB_size {gs : List Gl} {ts : List Ti} (h : ¬ (gs.length ≤ 200 ∧ 1 ≤ ts.length ∧ ts.length ≤ 160)) : validSetB gs ts = false := by
  unfold validSetB
  have : (decide (gs.length ≤ 200) && (decide (1 ≤ ts.length) && decide (ts.length ≤ 160))) = false := by
    rw [Bool.eq_false_iff]; intro hh; apply h; simpa using hh
  rw [this]; rfl
set_option maxHeartbeats 4000000 in
theorem l02Ok_any {op : Nat} (p : Nat) (gs : List Gl) (ts : List Ti) (w : World) (h : SetAt w p op gs ts) (hgm : gs.length ≤ 281474976710656) (htm : ts.length ≤ 281474976710656)
    (hgn : ∀ (k : Nat) (e : Gl), gs[k]? = some e → e.name.size ≤ 9223372036854775807) (htn : ∀ (k : Nat) (e : Ti), ts[k]? = some e → e.name.size ≤ 9223372036854775807 ∧ e.sides.length ≤ 9223372036854775807) :
    Calls Tryz.prog 127 #[.pointer (some ⟨p, op, none⟩)] w fun e w' => e = .returned (.bool (validSetB gs ts)) ∧ Below w.heap.size w w' := by
  obtain ⟨hlt, ⟨A, n, c, h1, h2⟩, ⟨B, m, d, h3, h4⟩⟩ := id h
  have hlg := h2.len
  have hlt' := h4.len
  have hgn := Lib.hid hgn
  have htn := Lib.hid htn
  by_cases hz1 : n ≤ 200
  rotate_left
  · go_enter Tryz.func127, Tryz.ntmps127
    go_wp2
    go_ret
    exact ⟨ret_bool (validSetB_size (by omega)).symm, by exact bel_⟩
  by_cases hz2 : 1 ≤ m
  rotate_left
  · go_enter Tryz.func127, Tryz.ntmps127
    go_wp2
    go_ret
    exact ⟨ret_bool (validSetB_size (by omega)).symm, by exact bel_⟩
  by_cases hz3 : m ≤ 160
  rotate_left
  · go_enter Tryz.func127, Tryz.ntmps127
    go_wp2
    go_ret
    exact ⟨ret_bool (validSetB_size (by omega)).symm, by exact bel_⟩
  go_enter Tryz.func127, Tryz.ntmps127
  go_wp2
  go_loopg [3] n (fun r x wr => ∃ k : Nat, k + r = n ∧ x = .int .i64 k ∧ (∀ j, j < k → okGl gs j = true) ∧ Below w.heap.size w wr)
  case atStart => exact ⟨0, by omega, rfl, fun j hj => by omega, by exact bel_⟩
  case round =>
    obtain ⟨k, hk, rfl, hok, hbw⟩ := hrel
    have hset := h.below hbw
    obtain ⟨plt, ⟨A', n', c', g1, g2⟩, ⟨B', m', d', g3, g4⟩⟩ := id hset
    have hset := Lib.hid hset
    obtain rfl : n' = n := by rw [← g2.len]; exact hlg
    obtain rfl : m' = m := by rw [← g4.len]; exact hlt'
    have hok := Lib.hid hok
    clear h1 h2 h3 h4
    by_cases hkn : k < n'
    · obtain ⟨b, o, rfl, hb, hc⟩ := g2.ptr (by omega)
      obtain ⟨e, he⟩ := g2.get hkn
      obtain ⟨c0, c1⟩ := hc k e he
      have hsz := hgn.out k e he
      have HK := Lib.hid (okGl_eq he)
      have he := Lib.hid he
      clear g2 g4 hc
      cases hv1 : isNameB e.name
      · go_wp2_with (go_at_call 169; refine (sIsName_any _ _ hsz).mono ?_; rintro e _ ⟨rfl, rfl⟩)
        go_ret
        exact ⟨ret_bool (validSetB_gl (k := k) (by omega) (by rw [HK.out, hv1]; rfl)).symm, by exact bel_⟩
      · cases hv2 : inB e.s 1 4
        · go_wp2_with (first
            | (go_at_call 169; refine (sIsName_any _ _ hsz).mono ?_; rintro e _ ⟨rfl, rfl⟩)
            | (go_at_call 96; refine (l00In_any _ _ _ _).mono ?_; rintro e _ ⟨rfl, rfl⟩))
          go_ret
          exact ⟨ret_bool (validSetB_gl (k := k) (by omega) (by rw [HK.out, hv1, hv2]; rfl)).symm, by exact bel_⟩
        · cases hv3 : freshG gs k
          · go_wp2_with (first
              | (go_at_call 169; refine (sIsName_any _ _ hsz).mono ?_; rintro e _ ⟨rfl, rfl⟩)
              | (go_at_call 96; refine (l00In_any _ _ _ _).mono ?_; rintro e _ ⟨rfl, rfl⟩)
              | (go_at_call 170; refine (l02Glue_any _ gs ts k e _ (hset.out.below (by exact bel_)) hgm he.out).mono ?_; rintro _ _ ⟨⟨r, rfl, hr⟩, rfl⟩; replace hr := neq_f hr hv3))
            go_ret
            exact ⟨ret_bool (validSetB_gl (k := k) (by omega) (by rw [HK.out, hv1, hv2, hv3]; rfl)).symm, by exact bel_⟩
          · go_wp2_with (first
              | (go_at_call 169; refine (sIsName_any _ _ hsz).mono ?_; rintro e _ ⟨rfl, rfl⟩)
              | (go_at_call 96; refine (l00In_any _ _ _ _).mono ?_; rintro e _ ⟨rfl, rfl⟩)
              | (go_at_call 170; refine (l02Glue_any _ gs ts k e _ (hset.out.below (by exact bel_)) hgm he.out).mono ?_; rintro _ _ ⟨⟨r, rfl, hr⟩, rfl⟩; replace hr := neq_t hr hv3))
            go_roundg (n' - (k + 1))
            case measure => omega
            case rel => exact ⟨k + 1, by omega, by go_num, fun j hj => (by rcases Nat.lt_succ_iff_lt_or_eq.1 hj with hj | rfl; exact hok.out j hj; rw [HK.out, hv1, hv2, hv3]; rfl), by exact bel_⟩
    · obtain rfl : n' = k := by omega
      clear g2 g4
      have hokG := Lib.hid (fun (j : Nat) (hj : j < gs.length) => hok.out j (by omega))
      clear hok
      go_wp2
      go_loopg [5] m' (fun r x w2 => ∃ k : Nat, k + r = m' ∧ x = .int .i64 k ∧ (∀ j, j < k → okTi gs.length ts j = true) ∧ Below w.heap.size w w2)
      case atStart => exact ⟨0, by omega, rfl, fun j hj => by omega, by exact bel_⟩
      case round =>
        obtain ⟨k, hk, rfl, hokX, hbw2⟩ := hrel
        obtain ⟨w2, hw2⟩ : ∃ w2, w2 = wr := ⟨_, rfl⟩
        subst hw2
        have hset := h.below hbw2
        clear plt g1 g3
        obtain ⟨plt, ⟨A', n2, c', g1, g2⟩, ⟨B', m2, d', g3, g4⟩⟩ := id hset
        have hset := Lib.hid hset
        obtain rfl : n2 = n' := by rw [← g2.len]; exact hlg
        obtain rfl : m2 = m' := by rw [← g4.len]; exact hlt'
        have hokT := Lib.hid hokX
        clear hokX
        by_cases hkn : k < m2
        · obtain ⟨b, o, rfl, hb, hc⟩ := g4.ptr (by omega)
          obtain ⟨e, he⟩ := g4.get hkn
          obtain ⟨c0, SA, sn, sc, c1, hss⟩ := hc k e he
          obtain ⟨hsz, hsz2⟩ := htn.out k e he
          have hsl := hss.len
          have HK := Lib.hid (okTi_eq (n := gs.length) he)
          have he := Lib.hid he
          clear g2 g4 hc
          cases hv1 : isNameB e.name
          · go_wp2_with (go_at_call 169; refine (sIsName_any _ _ hsz).mono ?_; rintro e _ ⟨rfl, rfl⟩)
            go_ret
            exact ⟨ret_bool (validSetB_ti (k := k) (by omega) (by rw [HK.out, hv1]; rfl)).symm, by exact bel_⟩
          · by_cases h4 : sn = 4
            · have hsl4 : decide (e.sides.length = 4) = true := decide_eq_true (by omega)
              subst h4
              cases hv3 : freshT ts k
              · go_wp2_with (first
                  | (go_at_call 169; refine (sIsName_any _ _ hsz).mono ?_; rintro e _ ⟨rfl, rfl⟩)
                  | (go_at_call 171; refine (l02Tile_any _ gs ts k e _ (hset.out.below (by exact bel_)) htm he.out).mono ?_; rintro _ _ ⟨⟨r, rfl, hr⟩, rfl⟩; replace hr := neq_f hr hv3))
                go_ret
                exact ⟨ret_bool (validSetB_ti (k := k) (by omega) (by rw [HK.out, hv1, hsl4, hv3]; rfl)).symm, by exact bel_⟩
              · go_wp2_with (first
                  | (go_at_call 169; refine (sIsName_any _ _ hsz).mono ?_; rintro e _ ⟨rfl, rfl⟩)
                  | (go_at_call 171; refine (l02Tile_any _ gs ts k e _ (hset.out.below (by exact bel_)) htm he.out).mono ?_; rintro _ _ ⟨⟨r, rfl, hr⟩, rfl⟩; replace hr := neq_t hr hv3))
                go_loopg [7] 4 (fun r x w3 => ∃ q : Nat, q + r = 4 ∧ x = .int .i64 q ∧ (∀ j, j < q → okSide gs.length e.sides j = true) ∧ Below w2.heap.size w2 w3 ∧ w3.cell? ⟨w2.heap.size, 1, none⟩ = some (.slice SA 4 sc) ∧ w2.heap.size < w3.heap.size)
                case atStart => exact ⟨0, by omega, rfl, fun j hj => by omega, by exact bel_, by go_simp, by simp⟩
                case round =>
                  obtain ⟨q, hq, rfl, hokS, hbw3, hx1, hlt3⟩ := hrel
                  have hset3 := hset.out.below hbw3
                  obtain ⟨plt3, ⟨A3, n3, c3, g1', g2'⟩, -⟩ := id hset3
                  obtain rfl : n3 = n2 := by rw [← g2'.len]; exact hlg
                  have hss3 := hss.below RInt.stable hbw3
                  have hokS := Lib.hid hokS
                  by_cases hq4 : q < 4
                  · obtain ⟨b3, o3, rfl, hb3, hc3⟩ := hss3.ptr (by omega)
                    obtain ⟨v, hv⟩ := hss3.get hq4
                    have c3 := hc3 q v hv
                    simp only [RInt, Nat.mul_one] at c3
                    have HS : okSide gs.length e.sides q = inB v 0 gs.length := by unfold okSide; rw [hv]
                    have hlgi : (gs.length : Int) = n3 := by omega
                    rw [hlgi] at HS
                    have HS := Lib.hid HS
                    have hlgi := Lib.hid hlgi
                    clear hc3 hv hss3 g2'
                    cases hv4 : inB v 0 n3
                    · go_wp2
                      refine wp_region_ord [(0, .q), (1, .q), (2, .q), (3, .q), (4, .q), (5, .q), (6, .q), (7, .q), (8, .q), (9, .q), (10, .g), (11, .q)] (by kernel_rfl) (by kernel_rfl) ?_
                      simp only [pick, List.filterMap_cons, List.filterMap_nil, List.getElem?_toArray, List.getElem?_cons_zero, List.getElem?_cons_succ, Option.map_some]
                      repeat (first
                        | ((with_reducible refine wpD_p (fun K hK => ?_)); go_simp; refine hK _ ?_; clear hK K)
                        | ((with_reducible refine wpD_q (fun K hK => ?_)); go_simp; (first | refine hK _ ?_ | (go_bits; refine hK _ ?_) | (go_bits; go_simp; refine hK _ ?_)); clear hK K)
                        | ((with_reducible refine wpD_g (fun K hK => ?_)); go_simp; refine hK _ _ ?_; clear hK K)
                        | ((with_reducible refine wpD_g (fun K hK => ?_)); go_simp; refine ⟨Grew.of_alloc _, hK _ _ ?_⟩; clear hK K)
                        | ((with_reducible refine wpD_g (fun K hK => ?_)); go_simp; go_at_call 96; refine (l00In_any _ _ _ _).mono ?_; rintro e _ ⟨rfl, rfl⟩; refine ⟨_, rfl, Below.refl _ _, hK _ _ ?_⟩; clear hK K))
                      with_reducible refine wpD_nil ?_
                      go_wp2
                      go_ret
                      exact ⟨ret_bool (validSetB_ti (k := k) (by omega) (by rw [HK.out, hv1, hsl4, hv3, allB_false (k := q) (by omega) (by rw [HS.out, hv4])]; rfl)).symm, by exact bel_⟩
                    · go_wp2
                      refine wp_region_ord [(0, .q), (1, .q), (2, .q), (3, .q), (4, .q), (5, .q), (6, .q), (7, .q), (8, .q), (9, .q), (10, .g), (11, .q)] (by kernel_rfl) (by kernel_rfl) ?_
                      simp only [pick, List.filterMap_cons, List.filterMap_nil, List.getElem?_toArray, List.getElem?_cons_zero, List.getElem?_cons_succ, Option.map_some]
                      repeat (first
                        | ((with_reducible refine wpD_p (fun K hK => ?_)); go_simp; refine hK _ ?_; clear hK K)
                        | ((with_reducible refine wpD_q (fun K hK => ?_)); go_simp; (first | refine hK _ ?_ | (go_bits; refine hK _ ?_) | (go_bits; go_simp; refine hK _ ?_)); clear hK K)
                        | ((with_reducible refine wpD_g (fun K hK => ?_)); go_simp; refine hK _ _ ?_; clear hK K)
                        | ((with_reducible refine wpD_g (fun K hK => ?_)); go_simp; refine ⟨Grew.of_alloc _, hK _ _ ?_⟩; clear hK K)
                        | ((with_reducible refine wpD_g (fun K hK => ?_)); go_simp; go_at_call 96; refine (l00In_any _ _ _ _).mono ?_; rintro e _ ⟨rfl, rfl⟩; refine ⟨_, rfl, Below.refl _ _, hK _ _ ?_⟩; clear hK K))
                      with_reducible refine wpD_nil ?_
                      go_wp2
                      go_roundg (4 - (q + 1))
                      case measure => omega
                      case rel => exact ⟨q + 1, by omega, by go_num, fun j hj => (by rcases Nat.lt_succ_iff_lt_or_eq.1 hj with hj | rfl; exact hokS.out j hj; rw [HS.out, hv4]), by exact bel_, by go_simp, by go_simp⟩
                  · obtain rfl : q = 4 := by omega
                    go_wp2
                    go_roundg (m2 - (k + 1))
                    case measure => omega
                    case rel => exact ⟨k + 1, by omega, by go_num, fun j hj => (by rcases Nat.lt_succ_iff_lt_or_eq.1 hj with hj | rfl; exact hokT.out j hj; rw [HK.out, hv1, hsl4, hv3, allB_true (fun j hj => hokS.out j (by omega))]; rfl), by exact bel_⟩
            · have hsl4 : decide (e.sides.length = 4) = false := decide_eq_false (by omega)
              have h4' : ((sn : Int) != 4) = true := by simp; omega
              go_wp2_with (go_at_call 169; refine (sIsName_any _ _ hsz).mono ?_; rintro e _ ⟨rfl, rfl⟩)
              go_ret
              exact ⟨ret_bool (validSetB_ti (k := k) (by omega) (by rw [HK.out, hv1, hsl4]; rfl)).symm, by exact bel_⟩
        · obtain rfl : m2 = k := by omega
          clear g2 g4
          go_wp2
          go_ret
          exact ⟨ret_bool (validSetB_ok (by omega) (by omega) (by omega) hokG.out (fun j hj => hokT.out j (by omega))).symm, by exact bel_⟩
end Go.Proofs.YtmhgjgclclnmaaaGreat
