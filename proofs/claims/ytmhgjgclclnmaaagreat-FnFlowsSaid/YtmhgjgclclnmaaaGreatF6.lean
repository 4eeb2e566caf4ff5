/- Walks: units are sent along the first shortest ways. -/
import Derived.Test.YtmhgjgclclnmaaaGreatKX
import Derived.Test.YtmhgjgclclnmaaaGreatP9
namespace Go.Proofs.YtmhgjgclclnmaaaGreat
open Go.RowKit Go.Shelf
set_option linter.unusedSimpArgs false
set_option linter.unusedVariables false
attribute [local go_sem] BelowBy.cell BelowBy.cell_drew stillUpon givesUpon BelowBy.cell_drew2 BelowBy.cell_drew3

theorem flowM_bound {n : Nat} {bs : List Bd} (hb : BondsOk n bs) {f : Nat → Int} (h : InvF bs f) (m u v : Nat) : -(4 * (m : Int)) ≤ flowM bs f m u v ∧ flowM bs f m u v ≤ 4 * (m : Int) := by
  induction m with
  | zero => simp [flowM]
  | succ m ih =>
    simp only [flowM]
    cases he : bs[m]? with
    | none => simp; omega
    | some e =>
      have h1 := h m e he
      have h2 := hb.s m e he
      dsimp only
      have hk : ∃ d : Int, (if e.a = u ∧ e.b = v then f m else if e.a = v ∧ e.b = u then -f m else 0) = d ∧ -4 ≤ d ∧ d ≤ 4 := by
        by_cases c1 : e.a = u ∧ e.b = v
        · exact ⟨_, if_pos c1, by omega, by omega⟩
        · by_cases c2 : e.a = v ∧ e.b = u
          · exact ⟨_, (if_neg c1).trans (if_pos c2), by omega, by omega⟩
          · exact ⟨0, (if_neg c1).trans (if_neg c2), by omega, by omega⟩
      obtain ⟨d, hd, h3, h4⟩ := hk
      rw [hd]
      omega
theorem freeE_eq {n : Nat} {bs : List Bd} (hb : BondsOk n bs) {f : Nat → Int} (h : InvF bs f) : freeE (roomM bs bs.length) (flowM bs f bs.length) = edgeB bs f := by
  funext u v
  exact free_edge hb h u v
theorem pushM_eq {F : Nat → Nat → Int} {u v : Nat} (h : u ≠ v) : (fun a b => if a = v ∧ b = u then F v u - 1 else (fun a b => if a = u ∧ b = v then F u v + 1 else F a b) a b) = pushM F u v := by
  funext a b
  unfold pushM
  by_cases c1 : a = v ∧ b = u
  · have c2 : ¬ (a = u ∧ b = v) := fun c => h (by rw [← c.1, c1.1])
    rw [if_pos c1, if_neg c2, if_pos c1]
  · rw [if_neg c1]
    by_cases c2 : a = u ∧ b = v
    · rw [if_pos c2]; exact if_pos c2
    · rw [if_neg c2, if_neg c1]; exact if_neg c2
theorem flowV_ge {n : Nat} {bs : List Bd} (hb : BondsOk n bs) {x y k : Nat} (hx : x < n) (hxy : x ≠ y) (h : ∀ j, j < k → ¬ stopF n bs x y j) : k ≤ flowV n bs x y := by
  have hs := exists_stop hb hx hxy
  obtain ⟨K, h1, h2⟩ := exists_least hs
  rw [flowV_eq h1 h2]
  rcases Nat.lt_or_ge K k with h3 | h3
  · exact (h K h3 h1).elim
  · exact h3
/-- what is left of sending: the value and the network -/
def SendRes (w : World) (base p n : Nat) (bs : List Bd) (x y M : Nat) (vR vF : Value) (uR uF : List Value) (e : Ending) (w' : World) : Prop :=
  e = .returned (.int .i64 ((min (flowV n bs x y) M : Nat) : Int)) ∧ Net w' base p n (roomM bs bs.length) (flowM bs (iterF n bs x y (min (flowV n bs x y) M)) bs.length) vR vF uR uF ∧ Below base w w'
set_option maxRecDepth 100000 in
set_option maxHeartbeats 4000000 in
theorem send_any (base p n x y M : Nat) (bs : List Bd) (vR vF : Value) (uR uF : List Value) (w : World) (h : Net w base p n (roomM bs bs.length) zeroM vR vF uR uF) (hb : BondsOk n bs) (hx : x < n) (hy : y < n) (hxy : x ≠ y) (hn : n ≤ 100000) (hm : bs.length ≤ 1000000) (hM : M ≤ 1099511627776) (hbase : base ≤ w.heap.size) :
    Calls Tryz.prog 95 #[.pointer (some ⟨p, 0, none⟩), .int .i64 (x : Int), .int .i64 (y : Int), .int .i64 (M : Int)] w (SendRes w base p n bs x y M vR vF uR uF) := by
  have hN := Lib.hid h
  have hbH := Lib.hid hb
  obtain ⟨m, hmE⟩ : ∃ m, bs.length = m := ⟨_, rfl⟩
  have hmH := Lib.hid hmE
  rw [hmE] at hm
  clear h hb hmE
  have hqn := fun W A k c => Lib.run_eql_slice_nil (P := Tryz.prog) W 169 3 A k c 0 0 Tryz.underlying169
  go_enter Tryz.func95, Tryz.ntmps95
  go_wp2
  go_loopg [9] (8 * m + 1) (fun gk v wr => ∃ k : Nat, k + gk = 8 * m + 1 ∧ v = .int .i64 (k : Int) ∧ k ≤ M ∧ Hid (∀ j, j < k → ¬ stopF n bs x y j) ∧ Hid (Net wr base p n (roomM bs bs.length) (flowM bs (iterF n bs x y k) bs.length) vR vF uR uF) ∧ Hid (Below base w wr))
  case atStart =>
    refine ⟨0, by omega, rfl, by omega, Lib.hid (fun j hj => by omega), Lib.hid ?_, Lib.hid (Below.refl _ _)⟩
    have : flowM bs (iterF n bs x y 0) bs.length = zeroM := by
      funext a b
      have key : ∀ k, flowM bs (fun _ => 0) k a b = 0 := by
        intro k
        induction k with
        | zero => rfl
        | succ k ih =>
          simp only [flowM, ih]
          cases bs[k]? with
          | none => rfl
          | some e => simp
      exact key _
    rw [this]
    exact hN.out
  case round =>
    obtain ⟨k, hk, rfl, hkM, hns, hnet, hbw⟩ := hrel
    have hinv := Lib.hid (iterF_inv hbH.out x y k)
    have hfe := Lib.hid (freeE_eq hbH.out hinv.out)
    have hsz := Nat.le_trans hbase hbw.out.size
    cases hw : wayTo n (edgeB bs (iterF n bs x y k)) x y with
    | none =>
      have hstop := Lib.hid (show stopF n bs x y k from hw)
      have hv := Lib.hid (flowV_eq hstop.out hns.out)
      have hwH := Lib.hid hw
      clear hw
      go_wp2_with (go_at_call 102; refine (way_any base p n x y _ _ vR vF uR uF _ hnet.out hx hy hn).mono ?_; rintro e w2 ⟨hb2, he⟩; rw [hfe.out, hwH.out] at he; have he2 : e = .returned (.slice none 0 0) := he; subst he2; have hb2H := Lib.hid hb2; clear hb2 he)
      go_ret
      have hmin : min (flowV n bs x y) M = k := by rw [hv.out]; omega
      rw [SendRes, hmin]
      exact ⟨rfl, hnet.out.below hb2H.out, hbw.out.trans (hb2H.out.mono hsz)⟩
    | some W =>
      have hnstop := Lib.hid (show ¬ stopF n bs x y k from fun h => by rw [stopF, hw] at h; cases h)
      have hwH := Lib.hid hw
      clear hw
      by_cases hMk : M ≤ k
      · obtain rfl : k = M := by omega
        go_wp2_with (go_at_call 102; refine (way_any base p n x y _ _ vR vF uR uF _ hnet.out hx hy hn).mono ?_; rintro e w2 ⟨hb2, he⟩; rw [hfe.out, hwH.out] at he; obtain ⟨gW, cW, rfl, hrowW⟩ := he; have hb2H := Lib.hid hb2; have hrowH := Lib.hid hrowW; clear hb2 hrowW)
        go_ret
        have hge := flowV_ge hbH.out hx hxy (k := k) hns.out
        have hmin : min (flowV n bs x y) k = k := by omega
        rw [SendRes, hmin]
        exact ⟨rfl, hnet.out.below hb2H.out, hbw.out.trans (hb2H.out.mono hsz)⟩
      · have hlt : k < M := by omega
        have hleft := iterF_left hbH.out hx hxy (k := k + 1) (fun j hj => by
          rcases Nat.lt_succ_iff_lt_or_eq.1 hj with hj | rfl
          · exact hns.out j hj
          · exact hnstop.out)
        have hk8 : k + 1 ≤ 8 * m := by have := hmH.out; omega
        go_wp2_with (go_at_call 102; refine (way_any base p n x y _ _ vR vF uR uF _ hnet.out hx hy hn).mono ?_; rintro e w2 ⟨hb2, he⟩; rw [hfe.out, hwH.out] at he; obtain ⟨gW, cW, rfl, hrowW⟩ := he; have hb2H := Lib.hid hb2; have hrowH := Lib.hid hrowW; clear hb2 hrowW)
        obtain ⟨D, hD, hW, hWl⟩ := wayTo_some hwH.out
        have hDH := Lib.hid hD
        have hWH := Lib.hid hW
        have hWlH := Lib.hid hWl
        have hDn := wayL_short hx hD
        have hwg := hrowH.out.lt gW rfl
        obtain ⟨hwg1, hwg2⟩ := hwg
        obtain ⟨N, hNE⟩ : ∃ N, W.length = N := ⟨_, rfl⟩
        rw [hNE] at hrowH ⊢
        have hNl : N ≤ D + 1 := by omega
        have hNg : D + 1 ≤ N := by omega
        clear hD hW hWl hNE
        have hnet2 := Lib.hid (hnet.out.below hb2H.out)
        have hbw2 := Lib.hid (hbw.out.trans (hb2H.out.mono hsz))
        have hwl : gW < w2.heap.size := hwg2
        obtain ⟨wo, rfl⟩ : ∃ wo : World, wo = wr := ⟨_, rfl⟩
        go_loopg [11] D (fun gk i wr => ∃ t j : Nat, t + gk = D ∧ i = .int .i64 (j : Int) ∧ Hid (j = t + 1) ∧ 1 ≤ j ∧ Hid (Net wr base p n (roomM bs bs.length) (matK (flowM bs (iterF n bs x y k) bs.length) W t) vR vF uR uF) ∧ Hid (Below base w wr) ∧ Hid (wr.ownsRow wo.heap.size 3 1 (.slice (some ⟨gW, 0, none⟩) N cW) N ((intsI W).map (Value.int .i64))))
        case atStart => exact ⟨0, 1, by omega, rfl, Lib.hid rfl, by omega, hnet2, hbw2, hrowH⟩
        case round =>
          clear hnet2 hbw2 hrowH hwl hwg2 hb2H
          obtain ⟨t, j, ht, rfl, hjt, hj1, hnet2, hbw2, hrowH⟩ := hrel
          by_cases htD : t < D
          · obtain ⟨u, hu⟩ : ∃ u, W[t]? = some u := ⟨_, List.getElem?_eq_getElem (by have := hWlH.out; omega)⟩
            obtain ⟨v, hv⟩ : ∃ v, W[t + 1]? = some v := ⟨_, List.getElem?_eq_getElem (by have := hWlH.out; omega)⟩
            have hu2 := hu
            have hv2 := hv
            rw [hWH.out] at hu2 hv2
            obtain ⟨hun, _, hdu, _⟩ := wayL_spec D x hx hDH.out t u hu2
            obtain ⟨hvn, _, hdv, _⟩ := wayL_spec D x hx hDH.out (t + 1) v hv2
            have huv : u ≠ v := fun e => by
              rw [e, hdv] at hdu
              injection hdu with hdu
              omega
            have hfl := augK_flowM hbH.out hx hDH.out t (by omega)
            rw [← hWH.out] at hfl
            have hbd1 := flowM_bound hbH.out (augK_inv hinv.out (W := W) t) bs.length u v
            have hbd2 := flowM_bound hbH.out (augK_inv hinv.out (W := W) t) bs.length v u
            rw [hfl] at hbd1 hbd2
            have hms := Lib.hid (matK_succ (F := flowM bs (iterF n bs x y k) bs.length) hu hv)
            obtain ⟨F0, hF0⟩ : ∃ F0, matK (flowM bs (iterF n bs x y k) bs.length) W t = F0 := ⟨_, rfl⟩
            rw [hF0] at hnet2 hbd1 hbd2 hms
            rw [hmH.out] at hbd1 hbd2
            have cw1 := (hrowH.out.cellAt t (by omega)).trans (by simp [intsI, hu] : _ = some (Value.int .i64 (u : Int)))
            have cw2 := (hrowH.out.cellAt (t + 1) (by omega)).trans (by simp [intsI, hv] : _ = some (Value.int .i64 (v : Int)))
            have lw := (hrowH.out.lt gW rfl).2
            obtain ⟨g, cap, g', cap', hvF, c1, l1, l2, _, hbg, hx1, hown, hcols⟩ := hnet2.out.F.at hun
            have c2 := hcols v hvn
            have f2 := hown.frozenAt v
            have c0 := hnet2.out.flow
            rw [hvF] at c0
            have l0 := hnet2.out.lt
            obtain ⟨r1, hr1E⟩ : ∃ r, F0 u v = r := ⟨_, rfl⟩
            rw [hr1E] at c2 hbd1
            have hr1H := Lib.hid hr1E
            have hx1H := Lib.hid hx1
            have huvH := Lib.hid huv
            have hw1 : IntKind.i64.wrap (r1 + 1) = r1 + 1 := IntWalk.i64_in _ ⟨by omega, by omega⟩
            have hbwo := hbw.out.size
            have hw0 : IntKind.i64.wrap ((j : Int) - 1) = (t : Int) := by
              rw [IntWalk.i64_in _ ⟨by omega, by have := hjt.out; omega⟩]
              have := hjt.out
              omega
            have htD1 : t < N := by omega
            have htD2 : j < N := by have := hjt.out; omega
            rw [← hjt.out] at cw2
            have hgne := Lib.hid (show g' ≠ gW from fun e => by
              have := hnet.out.F.lt (g := g') (.inr ⟨u, _, hx1, rfl⟩)
              omega)
            have hu2H := Lib.hid hu
            have hv2H := Lib.hid hv
            clear hu hv hu2 hv2 hdu hdv huv hfl hF0 hvF hcols hown hr1E hx1
            go_wp2
            refine wp_region_ord [(0, .q), (1, .q), (2, .q), (3, .q), (4, .q), (5, .q), (6, .q), (7, .q), (8, .q), (9, .q), (10, .q), (11, .q), (12, .q), (13, .q), (14, .q), (15, .q), (16, .q), (17, .q), (18, .q), (19, .b)] (by kernel_rfl) (by kernel_rfl) ?_
            simp only [pick, List.filterMap_cons, List.filterMap_nil, List.getElem?_toArray, List.getElem?_cons_zero, List.getElem?_cons_succ, Option.map_some]
            repeat (first | ((with_reducible refine wpD_p (fun K hK => ?_)); go_simp; refine hK _ ?_; clear hK K) | ((with_reducible refine wpD_q (fun K hK => ?_)); go_simp; (first | refine hK _ ?_ | (go_bits; refine hK _ ?_) | (go_bits; go_simp; refine hK _ ?_)); clear hK K))
            with_reducible refine wpD_b (fun K hK => ?_)
            go_simp
            refine hK _ _ ?_
            clear hK K
            with_reducible refine wpD_nil ?_
            obtain ⟨W2, hW2⟩ : ∃ W2, W2 = (wr.setCell ⟨g', v, none⟩ (.int .i64 (r1 + 1))).drew := ⟨_, rfl⟩
            rw [← hW2]
            have hnet3 : Net W2 base p n (roomM bs bs.length) (fun a b => if a = u ∧ b = v then r1 + 1 else F0 a b) vR vF uR uF := by
              rw [hW2]
              exact (hnet2.out.storeF hun hx1H.out (r1 + 1)).below (by exact bel_)
            have hbw3 : Below base w W2 := by
              rw [hW2]
              exact (hbw2.out.setCell (p := ⟨g', v, none⟩) hbg _).drew
            have hrow3 : W2.ownsRow wo.heap.size 3 1 (.slice (some ⟨gW, 0, none⟩) N cW) N ((intsI W).map (Value.int .i64)) := by
              rw [hW2]
              refine ownsRow_grown hrowH.out (fun b hb => ?_)
              have hb2 : some gW = some b := hb
              injection hb2 with hb3
              exact Below.heap_setCell _ _ _ _ (by have := hgne.out; simp; omega)
            have cx1 := (hrow3.cellAt t (by omega)).trans (by simp [intsI, hu2H.out] : _ = some (Value.int .i64 (u : Int)))
            have cx2 := (hrow3.cellAt (t + 1) (by have := hjt.out; omega)).trans (by simp [intsI, hv2H.out] : _ = some (Value.int .i64 (v : Int)))
            rw [← hjt.out] at cx2
            have lx := (hrow3.lt gW rfl).2
            have hnet3H := Lib.hid hnet3
            have hbw3H := Lib.hid hbw3
            have hrow3H := Lib.hid hrow3
            clear hW2 hnet3 hbw3 hrow3 cw1 cw2 lw c0 c1 c2 f2 l0 l1 l2 hw1
            obtain ⟨g5, cap5, g6, cap6, hvF5, c1, l1, l2, _, hbg6, hx5, hown5, hcols5⟩ := hnet3H.out.F.at hvn
            have c2 := hcols5 u hun
            have f2 := hown5.frozenAt u
            have c0 := hnet3H.out.flow
            rw [hvF5] at c0
            have l0 := hnet3H.out.lt
            rw [if_neg (fun c => huvH.out c.1.symm)] at c2
            obtain ⟨r2, hr2E⟩ : ∃ r, F0 v u = r := ⟨_, rfl⟩
            rw [hr2E] at c2 hbd2
            have hr2H := Lib.hid hr2E
            have hw2 : IntKind.i64.wrap (r2 - 1) = r2 - 1 := IntWalk.i64_in _ ⟨by omega, by omega⟩
            have hx5H := Lib.hid hx5
            have hg6ne := Lib.hid (show g6 ≠ gW from fun e => by
              have := hnet.out.F.lt (g := g6) (.inr ⟨v, _, hx5, rfl⟩)
              omega)
            clear hcols5 hx5 hvF5 hown5 hr2E
            go_wp2
            refine wp_region_ord [(0, .q), (1, .q), (2, .q), (3, .q), (4, .q), (5, .q), (6, .q), (7, .q), (8, .q), (9, .q), (10, .q), (11, .q), (12, .q), (13, .q), (14, .q), (15, .q), (16, .q), (17, .q), (18, .q), (19, .b)] (by kernel_rfl) (by kernel_rfl) ?_
            simp only [pick, List.filterMap_cons, List.filterMap_nil, List.getElem?_toArray, List.getElem?_cons_zero, List.getElem?_cons_succ, Option.map_some]
            repeat (first | ((with_reducible refine wpD_p (fun K hK => ?_)); go_simp; refine hK _ ?_; clear hK K) | ((with_reducible refine wpD_q (fun K hK => ?_)); go_simp; (first | refine hK _ ?_ | (go_bits; refine hK _ ?_) | (go_bits; go_simp; refine hK _ ?_)); clear hK K))
            with_reducible refine wpD_b (fun K hK => ?_)
            go_simp
            refine hK _ _ ?_
            clear hK K
            with_reducible refine wpD_nil ?_
            go_wp2
            go_roundg (D - (t + 1))
            case measure => omega
            case rel =>
              refine ⟨t + 1, j + 1, by omega, by go_num, Lib.hid (by rw [hjt.out]), by omega, Lib.hid ?_, Lib.hid ?_, Lib.hid ?_⟩
              · have h3 := hnet3H.out.storeF (j := u) hvn hx5H.out (r2 - 1)
                rw [hms.out, ← pushM_eq huvH.out, hr1H.out, hr2H.out]
                exact h3.below (by exact bel_)
              · exact (hbw3H.out.setCell (p := ⟨g6, u, none⟩) hbg6 _).drew
              · refine ownsRow_grown hrow3H.out (fun b hb => ?_)
                have hb2 : some gW = some b := hb
                injection hb2 with hb3
                exact Below.heap_setCell _ _ _ _ (by have := hg6ne.out; simp; omega)
          · obtain rfl : t = D := by omega
            have hjN : ¬ (j < N) := by have := hjt.out; omega
            have hnext : Hid (Net wr base p n (roomM bs bs.length) (flowM bs (iterF n bs x y (k + 1)) bs.length) vR vF uR uF) := by
              refine Lib.hid ?_
              have h1 := augK_flowM hbH.out hx hDH.out t (Nat.le_refl _)
              rw [← hWH.out] at h1
              simp only [iterF, hwH.out]
              rw [hWlH.out, Nat.add_sub_cancel, h1]
              exact hnet2.out
            go_wp2
            go_roundg (8 * m + 1 - (k + 1))
            case measure => omega
            case rel =>
              refine ⟨k + 1, by omega, by go_num, by omega, Lib.hid (fun j' hj' => ?_), hnext, hbw2⟩
              rcases Nat.lt_succ_iff_lt_or_eq.1 hj' with hj' | rfl
              · exact hns.out j' hj'
              · exact hnstop.out
end Go.Proofs.YtmhgjgclclnmaaaGreat
