import Derived.Test.YtpnahobgmemdjaaGAU
set_option linter.unusedSimpArgs false
set_option linter.unusedVariables false
/- Plain: is a block complete? -/

namespace Go.Proofs.Ytpnahobgmemdjaa
open Go.RowKit Go.Shelf
/-- the tile at place i of a block -/
noncomputable def vB (xs : List Pl) (k : Nat) (b : Pt) (i : Nat) : Int := atI xs ((k : Int) * b.x + ((i % k : Nat) : Int)) ((k : Int) * b.y + ((i / k : Nat) : Int))
theorem vB_rng {xs : List Pl} (h : hasFormB xs = true) (k : Nat) (b : Pt) (i : Nat) : -1 ≤ vB xs k b i ∧ vB xs k b i ≤ 159 := by
  unfold vB
  rcases atI_cases (form_valid h) ((k : Int) * b.x + ((i % k : Nat) : Int)) ((k : Int) * b.y + ((i / k : Nat) : Int)) with ⟨_, h2⟩ | ⟨j, t, e, _, _, _, ht, h2⟩
  · rw [h2]; omega
  · rw [h2]
    have : noTiles.length = 160 := by unfold noTiles; exact List.length_replicate
    omega
def okC (F : Nat → Int) (K i : Nat) : Bool := decide (0 ≤ F i ∧ F i % (K : Int) = (i : Int) ∧ (i = 0 ∨ F i / (K : Int) = F (i - 1) / (K : Int)))
noncomputable def compI (xs : List Pl) (k : Nat) (b : Pt) : Int := if allB (k * k) (okC (vB xs k b) (k * k)) then vB xs k b (k * k - 1) / ((k * k : Nat) : Int) else -1
theorem compI_bad {xs : List Pl} {k : Nat} {b : Pt} {i : Nat} (hi : i < k * k) (h : okC (vB xs k b) (k * k) i = false) : compI xs k b = -1 := by
  unfold compI; rw [allB_false hi h]; rfl
theorem compI_good {xs : List Pl} {k : Nat} {b : Pt} (h : ∀ i, i < k * k → okC (vB xs k b) (k * k) i = true) : compI xs k b = vB xs k b (k * k - 1) / ((k * k : Nat) : Int) := by
  unfold compI; rw [allB_true h]; rfl
theorem okC_no {F : Nat → Int} {K i : Nat} (h : okC F K i = false) : F i < 0 ∨ (0 ≤ F i ∧ ¬ F i % (K : Int) = (i : Int)) ∨ (0 ≤ F i ∧ F i % (K : Int) = (i : Int) ∧ 0 < i ∧ ¬ F i / (K : Int) = F (i - 1) / (K : Int)) := by
  unfold okC at h
  rw [decide_eq_false_iff_not] at h
  omega
theorem okC_yes {F : Nat → Int} {K i : Nat} (h : okC F K i = true) : 0 ≤ F i ∧ F i % (K : Int) = (i : Int) ∧ (i = 0 ∨ F i / (K : Int) = F (i - 1) / (K : Int)) := by
  unfold okC at h
  rwa [decide_eq_true_eq] at h
/-- the program's test: the difference to the place -/
theorem okC_yesI {F : Nat → Int} {K i : Nat} (hK : K = 1 ∨ K = 4 ∨ K = 9 ∨ K = 16) (hi : i < K) (hp : 0 < i → okC F K (i - 1) = true) (h : okC F K i = true) :
    0 ≤ F i - (i : Int) ∧ (F i - (i : Int)) % (K : Int) = 0 ∧ (i = 0 ∨ F i - (i : Int) = F (i - 1) - ((i : Int) - 1)) := by
  obtain ⟨h1, h2, h3⟩ := okC_yes h
  rcases Nat.eq_zero_or_pos i with h0 | h0
  · subst h0
    rcases hK with rfl | rfl | rfl | rfl <;> omega
  · obtain ⟨p1, p2, _⟩ := okC_yes (hp h0)
    obtain ⟨j, rfl⟩ : ∃ j, i = j + 1 := ⟨i - 1, by omega⟩
    simp only [Nat.add_sub_cancel] at *
    rcases hK with rfl | rfl | rfl | rfl <;> omega
theorem okC_noI {F : Nat → Int} {K i : Nat} (hK : K = 1 ∨ K = 4 ∨ K = 9 ∨ K = 16) (hi : i < K) (hp : 0 < i → okC F K (i - 1) = true) (h : okC F K i = false) :
    F i - (i : Int) < 0 ∨ (0 ≤ F i - (i : Int) ∧ ¬ (F i - (i : Int)) % (K : Int) = 0) ∨ (0 ≤ F i - (i : Int) ∧ (F i - (i : Int)) % (K : Int) = 0 ∧ 0 < i ∧ ¬ F i - (i : Int) = F (i - 1) - ((i : Int) - 1)) := by
  have h3 := okC_no h
  rcases Nat.eq_zero_or_pos i with h0 | h0
  · subst h0
    rcases hK with rfl | rfl | rfl | rfl <;> omega
  · obtain ⟨p1, p2, _⟩ := okC_yes (hp h0)
    obtain ⟨j, rfl⟩ : ∃ j, i = j + 1 := ⟨i - 1, by omega⟩
    simp only [Nat.add_sub_cancel] at *
    rcases hK with rfl | rfl | rfl | rfl <;> omega
theorem compI_endI {F : Nat → Int} {K : Nat} (hK : K = 1 ∨ K = 4 ∨ K = 9 ∨ K = 16) (h : okC F K (K - 1) = true) : (F (K - 1) - ((K : Int) - 1)) / (K : Int) = F (K - 1) / (K : Int) := by
  obtain ⟨h1, h2, h3⟩ := okC_yes h
  rcases hK with rfl | rfl | rfl | rfl <;> omega
theorem rect_get {k i : Nat} (hk : 1 ≤ k ∧ k ≤ 4) (hi : i < k * k) : (rectP 0 0 k k)[i]? = some ⟨((i % k : Nat) : Int), ((i / k : Nat) : Int)⟩ := by
  have h1 : ∀ i, i < 1 → (rectP 0 0 1 1)[i]? = some ⟨((i % 1 : Nat) : Int), ((i / 1 : Nat) : Int)⟩ := by decide
  have h2 : ∀ i, i < 4 → (rectP 0 0 2 2)[i]? = some ⟨((i % 2 : Nat) : Int), ((i / 2 : Nat) : Int)⟩ := by decide
  have h3 : ∀ i, i < 9 → (rectP 0 0 3 3)[i]? = some ⟨((i % 3 : Nat) : Int), ((i / 3 : Nat) : Int)⟩ := by decide
  have h4 : ∀ i, i < 16 → (rectP 0 0 4 4)[i]? = some ⟨((i % 4 : Nat) : Int), ((i / 4 : Nat) : Int)⟩ := by decide
  have : k = 1 ∨ k = 2 ∨ k = 3 ∨ k = 4 := by omega
  rcases this with rfl | rfl | rfl | rfl
  · exact h1 i hi
  · exact h2 i hi
  · exact h3 i hi
  · exact h4 i hi
theorem sq_cases {k : Nat} (hk : 1 ≤ k ∧ k ≤ 4) : k * k = 1 ∨ k * k = 4 ∨ k * k = 9 ∨ k * k = 16 := by
  have : k = 1 ∨ k = 2 ∨ k = 3 ∨ k = 4 := by omega
  rcases this with rfl | rfl | rfl | rfl <;> simp
end Go.Proofs.Ytpnahobgmemdjaa
/- Walks: the blocks of an assembly. -/

namespace Go.Proofs.Ytpnahobgmemdjaa
open Go.RowKit Go.Shelf
attribute [local go_sem] BelowBy.cell BelowBy.cell_drew stillUpon givesUpon

set_option maxRecDepth 100000 in
set_option maxHeartbeats 4000000 in
theorem blocks_any {A : Option Addr} {n c : Nat} {xs : List Pl} {k : Int} {w : World} (h : RdSl 3 RPl w A n xs) (hf : hasFormB xs = true) (hk : 1 ≤ k ∧ k ≤ 4) :
    Calls Try.prog 81 #[.agg #[.slice A n c], .int .i64 k] w (OwnPts w (blocksP k xs)) := by
  obtain ⟨i0, hi, hz0, hz1, hz2⟩ := info_parts infoPtQ
  have hV := form_valid hf
  have hpt := Lib.hid hV.pt
  have hn : n ≤ 500 := by have := form_len hf; rw [h.len] at this; exact this
  have hH := Lib.hid h
  have hl := Lib.hid h.len
  clear h hf hV
  go_enter Try.func81, Try.ntmps81
  go_wp2
  go_loopg [13, 5] n (fun g i v wr => ∃ (j : Nat), j + g = n ∧ i = .int .i64 (j : Int) ∧ Hid (wr.ownsRow (w.heap.size + 1) 34 2 v j (ptCells ((xs.map (blkP k)).take j))) ∧ Hid (Below w.heap.size w wr) ∧ w.heap.size + 1 ≤ wr.heap.size ∧ Hid (j = 0 → v = .slice none 0 0))
  case atStart => exact ⟨0, by omega, rfl, Lib.hid (World.ownsRow_nil _ _ _ _), Lib.hid (bl_al (bl_refl _) _), by simp, Lib.hid (fun _ => rfl)⟩
  case round =>
    obtain ⟨j, hj, rfl, hO, hbw, hsz, hzz⟩ := hrel
    have hszl := hbw.out.size
    obtain ⟨A1, c1, rfl⟩ := ownsRow_form hO.out
    by_cases hkn : j < n
    · have hAw := hH.out.below RPl.stable hbw.out
      obtain ⟨bb, ob, rfl, hbb, hbc⟩ := hAw.ptr (by omega)
      obtain ⟨e, he⟩ := hAw.get hkn
      obtain ⟨e0, e1, e2⟩ := hbc j e he
      have htk := Lib.hid (show (xs.map (blkP k)).take (j + 1) = (xs.map (blkP k)).take j ++ [⟨e.x / k, e.y / k⟩] by rw [List.take_add_one, List.getElem?_map, he]; rfl)
      have hp := hpt.out j e he
      have hpx : -1000 ≤ e.x ∧ e.x ≤ 1000 := by omega
      have hpy : -1000 ≤ e.y ∧ e.y ≤ 1000 := by omega
      clear hbc he hAw hp
      go_wp2_with fail
      refine (blockOf_any (r := e.x / k) (s := e.y / k) hpx hpy hk rfl rfl).mono ?_
      rintro e' w2 ⟨⟨u, v, rfl⟩, hb2⟩
      have hb2H := Lib.hid (show Below wr.heap.size wr w2 by exact bel_)
      have hs2 : wr.heap.size ≤ w2.heap.size := hb2H.out.size
      clear hb2
      obtain ⟨r, hr⟩ : ∃ r, e.x / k = r := ⟨_, rfl⟩
      obtain ⟨s, hs⟩ : ∃ s, e.y / k = s := ⟨_, rfl⟩
      rw [hr, hs] at htk ⊢
      clear hr hs
      go_wp2_with (at_builtin; refine wpList_append_own_at _ rfl _ _ 42 rfl (w.heap.size + 1) 34 i0 (.agg #[.int .i64 0, .int .i64 0]) 2 16 Try.underlying42 hi hz0 hz1 hz2 rfl (by decide) (.slice A1 j c1) j (ptCells ((xs.map (blkP k)).take j)) rfl ((ownsRow_below hO.out (by have hb2 := hb2H.out; exact bel_)).alloc _) ⟨w2.heap.size + 1 + 1, 0, none⟩ 1 1 [.int .i64 r, .int .i64 s] rfl rfl (cell_pt2n _ _ _ _ _ (by simp)) (fun x hx => by simp at hx; rcases hx with rfl | rfl <;> rfl) (by unfold maxLen; omega) (by omega) (by simp; omega) ?_; intro v5 w5 hown5 hgrow5 _ hat5; have hown5H := Lib.hid hown5; have hgrow5H := Lib.hid hgrow5; clear hown5 hgrow5 hat5)
      have hbX : Below (w.heap.size + 1) wr w5 := (show Below (w.heap.size + 1) wr _ from (hb2H.out.mono (by omega)).trans (bl_al (bl_al (bl_refl _) _) _ |>.mono (by omega))).trans (below_app (by simp; omega) (fun g e => (hO.out.lt g e).1) hgrow5H.out)
      have hs5 : w.heap.size + 1 ≤ w5.heap.size := by have := hbX.size; omega
      have hbXH := Lib.hid hbX
      clear hbX
      go_roundg (n - (j + 1))
      case measure => omega
      case rel =>
        refine ⟨j + 1, by omega, by go_num, Lib.hid ?_, Lib.hid ?_, hs5, Lib.hid (fun h => by omega)⟩
        · rw [htk.out, ptCells_snoc]; exact hown5H.out
        · exact hbw.out.trans (hbXH.out.mono (by omega))
    · obtain rfl : j = n := by omega
      have ht := Lib.hid (show (xs.map (blkP k)).take j = xs.map (blkP k) from List.take_of_length_le (by rw [List.length_map, hl.out]; exact Nat.le_refl _))
      have hml : (xs.map (blkP k)).length = j := by rw [List.length_map]; exact hl.out
      have hO2 := hO.out
      rw [ht.out] at hO2
      have hss := sortedShape_any (w.heap.size + 1) (.slice A1 j c1) (xs.map (blkP k)) wr (by rw [hml]; exact hO2) (by rw [hml]; omega) (by rw [hml]; exact hzz.out)
      have hssH := Lib.hid hss
      clear hss hO2 hml
      go_wp2_with (go_at_call 58; refine hssH.out.mono ?_; rintro e w3 ⟨v3, rfl, hown3, hb3⟩; have hown3H := Lib.hid hown3; have hb3H := Lib.hid hb3; clear hown3 hb3)
      go_ret
      exact ⟨_, rfl, ownsRow_baseQ hown3H.out hszl, hbw.out.trans (hb3H.out.mono hszl)⟩
end Go.Proofs.Ytpnahobgmemdjaa
/- Walk: is a block complete? -/


namespace Go.Proofs.Ytpnahobgmemdjaa
open Go.RowKit Go.Shelf
attribute [local go_sem] BelowBy.cell BelowBy.cell_drew stillUpon givesUpon

set_option maxRecDepth 100000 in
set_option maxHeartbeats 4000000 in
theorem complete_any {A : Option Addr} {n c k : Nat} {xs : List Pl} {x y r : Int} {w : World} (h : RdSl 3 RPl w A n xs) (hf : hasFormB xs = true) (hk : 1 ≤ k ∧ k ≤ 4) (hx : -1000 ≤ x ∧ x ≤ 1000) (hy : -1000 ≤ y ∧ y ≤ 1000) (hr : compI xs k ⟨x, y⟩ = r) :
    Calls Try.prog 82 #[.agg #[.slice A n c], .agg #[.int .i64 x, .int .i64 y], .int .i64 (k : Int)] w fun e w' => e = .returned (.int .i64 r) ∧ Below w.heap.size w w' := by
  have hV := Lib.hid (form_valid hf)
  have hrg := Lib.hid (vB_rng hf k ⟨x, y⟩)
  have hsq := Lib.hid (sq_cases hk)
  have hbad := Lib.hid (fun (i : Nat) (hi : i < k * k) (ho : okC (vB xs k ⟨x, y⟩) (k * k) i = false) => hr.symm.trans (compI_bad hi ho))
  have hgood := Lib.hid (fun (ho : ∀ i, i < k * k → okC (vB xs k ⟨x, y⟩) (k * k) i = true) => hr.symm.trans (compI_good ho))
  have hdef := Lib.hid (fun (i : Nat) => (show atI xs ((k : Int) * x + ((i % k : Nat) : Int)) ((k : Int) * y + ((i / k : Nat) : Int)) = vB xs k ⟨x, y⟩ i from rfl))
  have hget := Lib.hid (fun (i : Nat) (hi : i < k * k) => rect_get hk hi)
  obtain ⟨F, hF⟩ : ∃ F, vB xs k ⟨x, y⟩ = F := ⟨_, rfl⟩
  obtain ⟨K, hK⟩ : ∃ K, k * k = K := ⟨_, rfl⟩
  rw [hF] at hrg hbad hgood hdef
  rw [hK] at hsq hbad hgood hget
  have hKK : (k : Int) * (k : Int) = (K : Int) := by rw [← hK]; push_cast; rfl
  have hK1 : 1 ≤ K ∧ K ≤ 16 := by have := hsq.out; omega
  have hKH := Lib.hid hK
  have hH := Lib.hid h
  clear h hf hr hF hK
  go_enter Try.func82, Try.ntmps82
  go_wp2_with fail
  refine (cells_any hk).mono ?_
  rintro e w1 ⟨v, rfl, hown, hb1⟩
  rw [hKH.out] at hown
  obtain ⟨A1, c1, rfl⟩ := ownsRow_form hown
  have hrd := Lib.hid (rdPts hown (by rw [rectP_len]; exact hKH.out.symm))
  have x0 : w1.cell? ⟨w.heap.size, 0, none⟩ = some (.slice A n c) := (hb1.cell (p := ⟨w.heap.size, 0, none⟩) (by simp; try omega)).trans (by go_simp)
  have x1 : w1.cell? ⟨w.heap.size + 1, 0, none⟩ = some (.int .i64 x) := (hb1.cell (p := ⟨w.heap.size + 1, 0, none⟩) (by simp; try omega)).trans (by go_simp)
  have x2 : w1.cell? ⟨w.heap.size + 1, 1, none⟩ = some (.int .i64 y) := (hb1.cell (p := ⟨w.heap.size + 1, 1, none⟩) (by simp; try omega)).trans (by go_simp)
  have hs1 : w.heap.size + 1 < w1.heap.size := by have := hb1.size; simp at this; omega
  have hb1H := Lib.hid (show Below w.heap.size w w1 by exact bel_)
  have x0H := Lib.hid x0
  have x1H := Lib.hid x1
  have x2H := Lib.hid x2
  clear hown hb1 x0 x1 x2
  have hkI : 1 ≤ (k : Int) ∧ (k : Int) ≤ 4 := by omega
  go_wp2
  go_loopg [14, 7] K (fun g i t wr => ∃ (j : Nat) (tv : Int), j + g = K ∧ i = .int .i64 (j : Int) ∧ t = .int .i64 tv ∧ Hid (tv = if j = 0 then -1 else F (j - 1) - ((j : Int) - 1)) ∧ (-100 ≤ tv ∧ tv ≤ 200) ∧ Hid (∀ i, i < j → okC F K i = true) ∧ Hid (Below w1.heap.size w1 wr))
  case atStart => exact ⟨0, -1, by omega, rfl, rfl, Lib.hid (by simp), by omega, Lib.hid (fun i hi => by omega), Lib.hid (Below.refl _ _)⟩
  case round =>
    obtain ⟨j, tv, hj, rfl, rfl, htv, htr, hok, hbw⟩ := hrel
    have hszl := hbw.out.size
    by_cases hjK : j < K
    · have hrdw := hrd.out.below RPt.stable hbw.out
      obtain ⟨bb, ob, rfl, hbb, hbc⟩ := hrdw.ptr (by omega)
      obtain ⟨c0, c1'⟩ := hbc j _ (hget.out j hjK)
      have y0 := (hbw.out.cell (p := ⟨w.heap.size, 0, none⟩) (by simp; omega)).trans x0H.out
      have y1 := (hbw.out.cell (p := ⟨w.heap.size + 1, 0, none⟩) (by simp; omega)).trans x1H.out
      have y2 := (hbw.out.cell (p := ⟨w.heap.size + 1, 1, none⟩) (by simp; omega)).trans x2H.out
      have l0 : w.heap.size < wr.heap.size := by omega
      have l1 : w.heap.size + 1 < wr.heap.size := by omega
      have hbq : Below w.heap.size w wr := hb1H.out.trans (hbw.out.mono (by omega))
      have hat := hdef.out j
      have hcx : j % k < k := Nat.mod_lt _ (by omega)
      have hcy : j / k < k := Nat.div_lt_of_lt_mul (by rw [hKH.out]; exact hjK)
      obtain ⟨cx, ecx⟩ : ∃ cx, j % k = cx := ⟨_, rfl⟩
      obtain ⟨cy, ecy⟩ : ∃ cy, j / k = cy := ⟨_, rfl⟩
      simp only [ecx] at c0 c1' hat hcx
      simp only [ecy] at c0 c1' hat hcy
      have hcx2 : 0 ≤ (cx : Int) ∧ (cx : Int) ≤ 4 := by omega
      have hcy2 : 0 ≤ (cy : Int) ∧ (cy : Int) ≤ 4 := by omega
      obtain ⟨fv, hfv⟩ : ∃ fv, F j = fv := ⟨_, rfl⟩
      have hfr := hrg.out j
      rw [hfv] at hat hfr
      have hatH := Lib.hid hat
      have hfvH := Lib.hid hfv
      obtain ⟨d, hd⟩ : ∃ d, fv - (j : Int) = d := ⟨_, rfl⟩
      have hdr : -200 ≤ d ∧ d ≤ 200 := by omega
      have hprev := Lib.hid (fun (h0 : 0 < j) => hok.out (j - 1) (by omega))
      clear hat ecx ecy hcx hcy hfv hbc hrdw
      cases hb : okC F K j
      · have hno := okC_noI hsq.out hjK hprev.out hb
        have hres := Lib.hid (hbad.out j hjK hb)
        rw [hfvH.out, hd] at hno
        clear hb
        rcases hno with h1 | ⟨h1, h2⟩ | ⟨h1, h2, h3, h4⟩
        · clear hprev
          go_wp2
          refine wp_region_ord [(0, .q), (1, .q), (2, .q), (3, .q), (6, .q), (4, .g), (5, .g), (7, .q), (8, .q)] (by kernel_rfl) (by kernel_rfl) ?_
          simp only [pick, List.filterMap_cons, List.filterMap_nil, List.getElem?_toArray, List.getElem?_cons_zero, List.getElem?_cons_succ, Option.map_some]
          repeat (first
            | ((with_reducible refine wpD_p (fun K hK => ?_)); go_simp; refine hK _ ?_; clear hK K)
            | ((with_reducible refine wpD_q (fun K hK => ?_)); go_simp; (first | refine hK _ ?_ | (go_bits; refine hK _ ?_) | (go_bits; go_simp; refine hK _ ?_)); clear hK K)
            | ((with_reducible refine wpD_g (fun K hK => ?_)); go_simp; refine hK _ _ ?_; clear hK K)
            | ((with_reducible refine wpD_g (fun K hK => ?_)); go_simp; refine ⟨Grew.of_alloc _, hK _ _ ?_⟩; clear hK K)
            | ((with_reducible refine wpD_g (fun K hK => ?_)); go_simp; go_at_call 46; refine (pointOf_any hx hy hkI hcx2 hcy2 rfl rfl).mono ?_; rintro e w2 ⟨rfl, hb2⟩; refine ⟨_, rfl, hb2, hK _ _ ?_⟩; clear hK K; obtain ⟨chb2, fhb2, shb2, thb2⟩ := bcell hb2; (try have bhb20 := shb2 (w.heap.size) (by go_simp)))
            | ((with_reducible refine wpD_g (fun K hK => ?_)); go_simp; go_at_call 72; refine (at_at (hH.out.below RPl.stable (by exact bel_)) hV.out hatH.out).mono ?_; rintro e w3 ⟨rfl, hb3⟩; refine ⟨_, rfl, hb3, hK _ _ ?_⟩; clear hK K; obtain ⟨chb3, fhb3, shb3, thb3⟩ := bcell hb3; (try have bhb30 := shb3 (w.heap.size) (by go_simp))))
          with_reducible refine wpD_nil ?_
          have hb3H := Lib.hid (show Below w.heap.size w w3 by exact bel_)
          have hbwO := hbw.out
          have hb3W := Lib.hid (show Below w1.heap.size w1 w3 by exact bel_)
          clear hbwO
          go_wp2
          go_ret
          exact ⟨ret_int hres.out.symm, hb3H.out⟩
        · clear hprev
          go_wp2
          refine wp_region_ord [(0, .q), (1, .q), (2, .q), (3, .q), (6, .q), (4, .g), (5, .g), (7, .q), (8, .q)] (by kernel_rfl) (by kernel_rfl) ?_
          simp only [pick, List.filterMap_cons, List.filterMap_nil, List.getElem?_toArray, List.getElem?_cons_zero, List.getElem?_cons_succ, Option.map_some]
          repeat (first
            | ((with_reducible refine wpD_p (fun K hK => ?_)); go_simp; refine hK _ ?_; clear hK K)
            | ((with_reducible refine wpD_q (fun K hK => ?_)); go_simp; (first | refine hK _ ?_ | (go_bits; refine hK _ ?_) | (go_bits; go_simp; refine hK _ ?_)); clear hK K)
            | ((with_reducible refine wpD_g (fun K hK => ?_)); go_simp; refine hK _ _ ?_; clear hK K)
            | ((with_reducible refine wpD_g (fun K hK => ?_)); go_simp; refine ⟨Grew.of_alloc _, hK _ _ ?_⟩; clear hK K)
            | ((with_reducible refine wpD_g (fun K hK => ?_)); go_simp; go_at_call 46; refine (pointOf_any hx hy hkI hcx2 hcy2 rfl rfl).mono ?_; rintro e w2 ⟨rfl, hb2⟩; refine ⟨_, rfl, hb2, hK _ _ ?_⟩; clear hK K; obtain ⟨chb2, fhb2, shb2, thb2⟩ := bcell hb2; (try have bhb20 := shb2 (w.heap.size) (by go_simp)))
            | ((with_reducible refine wpD_g (fun K hK => ?_)); go_simp; go_at_call 72; refine (at_at (hH.out.below RPl.stable (by exact bel_)) hV.out hatH.out).mono ?_; rintro e w3 ⟨rfl, hb3⟩; refine ⟨_, rfl, hb3, hK _ _ ?_⟩; clear hK K; obtain ⟨chb3, fhb3, shb3, thb3⟩ := bcell hb3; (try have bhb30 := shb3 (w.heap.size) (by go_simp))))
          with_reducible refine wpD_nil ?_
          have hb3H := Lib.hid (show Below w.heap.size w w3 by exact bel_)
          have hbwO := hbw.out
          have hb3W := Lib.hid (show Below w1.heap.size w1 w3 by exact bel_)
          clear hbwO
          go_wp2
          go_ret
          exact ⟨ret_int hres.out.symm, hb3H.out⟩
        · have htv2 : tv = F (j - 1) - ((j : Int) - 1) := by rw [htv.out, if_neg (by omega)]
          rw [← htv2] at h4
          have hne : (d != tv) = true := by simpa using h4
          have hj0 : (0 : Int) < (j : Int) := by omega
          clear hprev htv2
          go_wp2
          refine wp_region_ord [(0, .q), (1, .q), (2, .q), (3, .q), (6, .q), (4, .g), (5, .g), (7, .q), (8, .q)] (by kernel_rfl) (by kernel_rfl) ?_
          simp only [pick, List.filterMap_cons, List.filterMap_nil, List.getElem?_toArray, List.getElem?_cons_zero, List.getElem?_cons_succ, Option.map_some]
          repeat (first
            | ((with_reducible refine wpD_p (fun K hK => ?_)); go_simp; refine hK _ ?_; clear hK K)
            | ((with_reducible refine wpD_q (fun K hK => ?_)); go_simp; (first | refine hK _ ?_ | (go_bits; refine hK _ ?_) | (go_bits; go_simp; refine hK _ ?_)); clear hK K)
            | ((with_reducible refine wpD_g (fun K hK => ?_)); go_simp; refine hK _ _ ?_; clear hK K)
            | ((with_reducible refine wpD_g (fun K hK => ?_)); go_simp; refine ⟨Grew.of_alloc _, hK _ _ ?_⟩; clear hK K)
            | ((with_reducible refine wpD_g (fun K hK => ?_)); go_simp; go_at_call 46; refine (pointOf_any hx hy hkI hcx2 hcy2 rfl rfl).mono ?_; rintro e w2 ⟨rfl, hb2⟩; refine ⟨_, rfl, hb2, hK _ _ ?_⟩; clear hK K; obtain ⟨chb2, fhb2, shb2, thb2⟩ := bcell hb2; (try have bhb20 := shb2 (w.heap.size) (by go_simp)))
            | ((with_reducible refine wpD_g (fun K hK => ?_)); go_simp; go_at_call 72; refine (at_at (hH.out.below RPl.stable (by exact bel_)) hV.out hatH.out).mono ?_; rintro e w3 ⟨rfl, hb3⟩; refine ⟨_, rfl, hb3, hK _ _ ?_⟩; clear hK K; obtain ⟨chb3, fhb3, shb3, thb3⟩ := bcell hb3; (try have bhb30 := shb3 (w.heap.size) (by go_simp))))
          with_reducible refine wpD_nil ?_
          have hb3H := Lib.hid (show Below w.heap.size w w3 by exact bel_)
          have hbwO := hbw.out
          have hb3W := Lib.hid (show Below w1.heap.size w1 w3 by exact bel_)
          clear hbwO
          go_wp2
          go_ret
          exact ⟨ret_int hres.out.symm, hb3H.out⟩
      · obtain ⟨h1, h2, h3⟩ := okC_yesI hsq.out hjK hprev.out hb
        rw [hfvH.out, hd] at h1 h2 h3
        have hok2 := Lib.hid (show ∀ i, i < j + 1 → okC F K i = true from fun i hi => by
          rcases Nat.lt_succ_iff_lt_or_eq.1 hi with h | rfl
          · exact hok.out i h
          · exact hb)
        have htv2 := Lib.hid (show d = if j + 1 = 0 then -1 else F (j + 1 - 1) - (((j + 1 : Nat) : Int) - 1) by rw [if_neg (by omega), Nat.add_sub_cancel, hfvH.out]; omega)
        clear hb
        rcases Nat.eq_zero_or_pos j with h0 | h0
        · have hj0 : ¬ (0 : Int) < (j : Int) := by omega
          clear h3 hprev h0
          go_wp2
          refine wp_region_ord [(0, .q), (1, .q), (2, .q), (3, .q), (6, .q), (4, .g), (5, .g), (7, .q), (8, .q)] (by kernel_rfl) (by kernel_rfl) ?_
          simp only [pick, List.filterMap_cons, List.filterMap_nil, List.getElem?_toArray, List.getElem?_cons_zero, List.getElem?_cons_succ, Option.map_some]
          repeat (first
            | ((with_reducible refine wpD_p (fun K hK => ?_)); go_simp; refine hK _ ?_; clear hK K)
            | ((with_reducible refine wpD_q (fun K hK => ?_)); go_simp; (first | refine hK _ ?_ | (go_bits; refine hK _ ?_) | (go_bits; go_simp; refine hK _ ?_)); clear hK K)
            | ((with_reducible refine wpD_g (fun K hK => ?_)); go_simp; refine hK _ _ ?_; clear hK K)
            | ((with_reducible refine wpD_g (fun K hK => ?_)); go_simp; refine ⟨Grew.of_alloc _, hK _ _ ?_⟩; clear hK K)
            | ((with_reducible refine wpD_g (fun K hK => ?_)); go_simp; go_at_call 46; refine (pointOf_any hx hy hkI hcx2 hcy2 rfl rfl).mono ?_; rintro e w2 ⟨rfl, hb2⟩; refine ⟨_, rfl, hb2, hK _ _ ?_⟩; clear hK K; obtain ⟨chb2, fhb2, shb2, thb2⟩ := bcell hb2; (try have bhb20 := shb2 (w.heap.size) (by go_simp)))
            | ((with_reducible refine wpD_g (fun K hK => ?_)); go_simp; go_at_call 72; refine (at_at (hH.out.below RPl.stable (by exact bel_)) hV.out hatH.out).mono ?_; rintro e w3 ⟨rfl, hb3⟩; refine ⟨_, rfl, hb3, hK _ _ ?_⟩; clear hK K; obtain ⟨chb3, fhb3, shb3, thb3⟩ := bcell hb3; (try have bhb30 := shb3 (w.heap.size) (by go_simp))))
          with_reducible refine wpD_nil ?_
          have hb3H := Lib.hid (show Below w.heap.size w w3 by exact bel_)
          have hbwO := hbw.out
          have hb3W := Lib.hid (show Below w1.heap.size w1 w3 by exact bel_)
          clear hbwO
          go_wp2
          go_roundg (K - (j + 1))
          case measure => omega
          case rel => exact ⟨j + 1, d, by omega, by go_num, rfl, htv2, (by omega), hok2, hb3W⟩
        · have h4 : d = tv := by
            rcases h3 with h | h
            · omega
            · rw [h, htv.out, if_neg (by omega)]
          have hj0 : (0 : Int) < (j : Int) := by omega
          clear h3 hprev
          subst h4
          go_wp2
          refine wp_region_ord [(0, .q), (1, .q), (2, .q), (3, .q), (6, .q), (4, .g), (5, .g), (7, .q), (8, .q)] (by kernel_rfl) (by kernel_rfl) ?_
          simp only [pick, List.filterMap_cons, List.filterMap_nil, List.getElem?_toArray, List.getElem?_cons_zero, List.getElem?_cons_succ, Option.map_some]
          repeat (first
            | ((with_reducible refine wpD_p (fun K hK => ?_)); go_simp; refine hK _ ?_; clear hK K)
            | ((with_reducible refine wpD_q (fun K hK => ?_)); go_simp; (first | refine hK _ ?_ | (go_bits; refine hK _ ?_) | (go_bits; go_simp; refine hK _ ?_)); clear hK K)
            | ((with_reducible refine wpD_g (fun K hK => ?_)); go_simp; refine hK _ _ ?_; clear hK K)
            | ((with_reducible refine wpD_g (fun K hK => ?_)); go_simp; refine ⟨Grew.of_alloc _, hK _ _ ?_⟩; clear hK K)
            | ((with_reducible refine wpD_g (fun K hK => ?_)); go_simp; go_at_call 46; refine (pointOf_any hx hy hkI hcx2 hcy2 rfl rfl).mono ?_; rintro e w2 ⟨rfl, hb2⟩; refine ⟨_, rfl, hb2, hK _ _ ?_⟩; clear hK K; obtain ⟨chb2, fhb2, shb2, thb2⟩ := bcell hb2; (try have bhb20 := shb2 (w.heap.size) (by go_simp)))
            | ((with_reducible refine wpD_g (fun K hK => ?_)); go_simp; go_at_call 72; refine (at_at (hH.out.below RPl.stable (by exact bel_)) hV.out hatH.out).mono ?_; rintro e w3 ⟨rfl, hb3⟩; refine ⟨_, rfl, hb3, hK _ _ ?_⟩; clear hK K; obtain ⟨chb3, fhb3, shb3, thb3⟩ := bcell hb3; (try have bhb30 := shb3 (w.heap.size) (by go_simp))))
          with_reducible refine wpD_nil ?_
          have hb3H := Lib.hid (show Below w.heap.size w w3 by exact bel_)
          have hbwO := hbw.out
          have hb3W := Lib.hid (show Below w1.heap.size w1 w3 by exact bel_)
          clear hbwO
          go_wp2
          go_roundg (K - (j + 1))
          case measure => omega
          case rel => exact ⟨j + 1, d, by omega, by go_num, rfl, htv2, (by omega), hok2, hb3W⟩
    · obtain rfl : j = K := by omega
      obtain ⟨m, hm⟩ : ∃ m, j = m + 1 := ⟨j - 1, by omega⟩
      have hend := compI_endI hsq.out (hok.out (j - 1) (by omega))
      have hg := hgood.out hok.out
      rw [← hend] at hg
      have htv2 := htv.out
      rw [if_neg (by omega)] at htv2
      rw [← htv2] at hg
      have hgH := Lib.hid hg
      have htv0 : 0 ≤ tv := by
        have hprev := fun (h0 : 0 < j - 1) => hok.out (j - 1 - 1) (by omega)
        have := (okC_yesI hsq.out (show j - 1 < j by omega) hprev (hok.out (j - 1) (by omega))).1
        omega
      have hbq : Below w.heap.size w wr := hb1H.out.trans (hbw.out.mono (by omega))
      clear hend hg htv2 hm
      go_wp2
      go_ret
      exact ⟨ret_int hgH.out.symm, hbq⟩
end Go.Proofs.Ytpnahobgmemdjaa
