/- Walks: the reference's groups by bonds. -/
import Derived.Test.YtfabgnnpgepcoaaW39
namespace Go.Proofs.Ytfabgnnpgepcoaa
open Go.RowKit Go.Shelf
set_option linter.unusedSimpArgs false
set_option linter.unusedVariables false
attribute [local go_sem] BelowBy.cell BelowBy.cell_drew stillUpon givesUpon BelowBy.cell_drew2 BelowBy.cell_drew3

theorem l00Max_any (a b : Int) (w : World) : Calls Try.prog 149 #[.int .i64 a, .int .i64 b] w fun e w' => e = .returned (.int .i64 (max a b)) ∧ w = w' := by
  go_enter Try.func149, Try.ntmps149
  go_wp2
  · rename_i h
    go_ret
    exact ⟨ret_int (by omega), rfl⟩
  · go_ret
    exact ⟨ret_int (by omega), rfl⟩
theorem l00Min_any (a b : Int) (w : World) : Calls Try.prog 150 #[.int .i64 a, .int .i64 b] w fun e w' => e = .returned (.int .i64 (min a b)) ∧ w = w' := by
  go_enter Try.func150, Try.ntmps150
  go_wp2
  · go_ret
    exact ⟨ret_int (by omega), rfl⟩
  · go_ret
    exact ⟨ret_int (by omega), rfl⟩
theorem l00Max_at (a b m : Nat) (w : World) (h : max a b = m) : Calls Try.prog 149 #[.int .i64 (a : Int), .int .i64 (b : Int)] w fun e w' => e = .returned (.int .i64 (m : Int)) ∧ w = w' := by
  have := l00Max_any a b w
  rwa [show max (a : Int) (b : Int) = (m : Int) by omega] at this
theorem l00Min_at (a b m : Nat) (w : World) (h : min a b = m) : Calls Try.prog 150 #[.int .i64 (a : Int), .int .i64 (b : Int)] w fun e w' => e = .returned (.int .i64 (m : Int)) ∧ w = w' := by
  have := l00Min_any a b w
  rwa [show min (a : Int) (b : Int) = (m : Int) by omega] at this
theorem intsN_snoc (l : List Nat) (x : Nat) : intsN l ++ [Value.int .i64 (x : Int)] = intsN (l ++ [x]) := by simp [intsN]
theorem intsN_get {l : List Nat} {k x : Nat} (h : l[k]? = some x) : (intsN l)[k]? = some (.int .i64 (x : Int)) := by simp [intsN, h]
theorem intsN_set (l : List Nat) (k x : Nat) : (intsN l).set k (.int .i64 (x : Int)) = intsN (l.set k x) := by simp [intsN, List.map_set]
/-- labels as a row -/
def labsL (f : Nat → Nat) (n : Nat) : List Nat := (List.range n).map f
theorem labsL_len (f : Nat → Nat) (n : Nat) : (labsL f n).length = n := by simp [labsL]
theorem labsL_get {f : Nat → Nat} {n k : Nat} (h : k < n) : (labsL f n)[k]? = some (f k) := by simp [labsL, h]
theorem labsL_set (f : Nat → Nat) (n k x : Nat) : (labsL f n).set k x = labsL (fun j => if j = k then x else f j) n := by
  apply List.ext_getElem?
  intro j
  rw [List.getElem?_set, labsL_len]
  by_cases e : k = j
  · subst e
    by_cases hk : k < n
    · rw [if_pos rfl, if_pos hk, labsL_get hk, if_pos rfl]
    · rw [if_pos rfl, if_neg hk, List.getElem?_eq_none (by rw [labsL_len]; omega)]
  · rw [if_neg e]
    by_cases hj : j < n
    · rw [labsL_get hj, labsL_get hj, if_neg (fun h => e h.symm)]
    · rw [List.getElem?_eq_none (by rw [labsL_len]; omega), List.getElem?_eq_none (by rw [labsL_len]; omega)]
theorem labsL_id_snoc (k : Nat) : labsL (fun j => j) k ++ [k] = labsL (fun j => j) (k + 1) := by simp [labsL, List.range_succ]
/-- half of a round's relabelling -/
def relabTo (f : Nat → Nat) (a b t : Nat) : Nat → Nat := fun j => if j < t then relab f a b j else f j
theorem relabTo_zero (f : Nat → Nat) (a b : Nat) : relabTo f a b 0 = f := by funext j; simp [relabTo]
theorem relabTo_hit {f : Nat → Nat} {a b t : Nat} (h : f t = max (f a) (f b)) : relabTo f a b (t + 1) = fun j => if j = t then min (f a) (f b) else relabTo f a b t j := by
  funext j
  unfold relabTo relab
  by_cases e : j = t
  · subst e; simp [h]
  · by_cases hj : j < t
    · simp [e, hj, Nat.lt_succ_of_lt hj]
    · have : ¬ j < t + 1 := by omega
      simp [e, hj, this]
theorem relabTo_miss {f : Nat → Nat} {a b t : Nat} (h : f t ≠ max (f a) (f b)) : relabTo f a b (t + 1) = relabTo f a b t := by
  funext j
  unfold relabTo relab
  by_cases e : j = t
  · subst e; simp [h]
  · by_cases hj : j < t
    · simp [hj, Nat.lt_succ_of_lt hj]
    · have : ¬ j < t + 1 := by omega
      simp [hj, this]
theorem labsL_all (f : Nat → Nat) (a b n : Nat) : labsL (relabTo f a b n) n = labsL (relab f a b) n := by
  unfold labsL
  apply List.map_congr_left
  intro j hj
  simp at hj
  simp [relabTo, hj]
set_option maxRecDepth 100000 in
set_option maxHeartbeats 2000000 in
theorem l06Groups_any (n : Nat) (B : Option Addr) (m c : Nat) (bs : List Bd) (w : World) (hB : RdSl 3 RBd w B m bs) (hn : n ≤ 100000) (hm : m ≤ 1000000) (hbs : ∀ (k : Nat) (e : Bd), bs[k]? = some e → e.a < n ∧ e.b < n) :
    Calls Try.prog 101 #[.int .i64 (n : Int), .slice B m c] w (OwnGr w (groupsL (labOf bs m) n)) := by
  obtain ⟨i0, hi, hz0, hz1, hz2⟩ := info_parts infoIs
  obtain ⟨i1, hi', hz0', hz1', hz2'⟩ := info_parts infoI
  have hBH := Lib.hid hB
  have hbsH := Lib.hid hbs
  clear hB hbs
  go_enter Try.func101, Try.ntmps101
  go_wp2
  go_loopg [6, 5] n (fun g i v wr => ∃ (k : Nat), k + g = n ∧ i = .int .i64 (k : Int) ∧ Hid (wr.ownsRow w.heap.size 2 1 v k (intsN (labsL (fun j => j) k))) ∧ Hid (Below w.heap.size w wr))
  case atStart => exact ⟨0, by omega, rfl, Lib.hid (World.ownsRow_made _ _ _ (Nat.le_refl _) (by decide) rfl), Lib.hid (bl_al (bl_refl _) _)⟩
  case round =>
    obtain ⟨k, hk, rfl, hrow, hbw⟩ := hrel
    have hszl := hbw.out.size
    obtain ⟨A0, c0, rfl⟩ := ownsRow_form hrow.out
    by_cases hkn : k < n
    · go_wp2_with (at_builtin; refine wpList_append_own _ rfl _ _ 29 rfl w.heap.size 2 i1 (.int .i64 0) 1 8 Try.underlying29 hi' hz0' hz1' hz2' rfl (by decide) _ k (intsN (labsL (fun j => j) k)) rfl (hrow.out.alloc _) ⟨wr.heap.size, 0, none⟩ 1 1 [.int .i64 (k : Int)] rfl rfl (cell_one_new _ _ _) (fun x hx => by simp at hx; subst hx; rfl) (by unfold maxLen; omega) (by omega) (by simp; omega) ?_; intro u3 w3 hown3 hgrow3 _; have hown3H := Lib.hid hown3; have hgrow3H := Lib.hid hgrow3; clear hown3 hgrow3)
      go_roundg (n - (k + 1))
      case measure => omega
      case rel =>
        refine ⟨k + 1, by omega, by go_num, Lib.hid ?_, Lib.hid ?_⟩
        · rw [← labsL_id_snoc, ← intsN_snoc]
          exact hown3H.out
        · exact hbw.out.trans (below_app hszl (fun g e => (hrow.out.lt g e).1) hgrow3H.out)
    · obtain rfl : k = n := by omega
      obtain ⟨wa, rfl⟩ : ∃ wa : World, wa = wr := ⟨_, rfl⟩
      go_wp2
      go_loopg [7] m (fun g i wr => ∃ (j : Nat), j + g = m ∧ i = .int .i64 (j : Int) ∧ Hid (Below w.heap.size w wr) ∧ Hid (wr.ownsRow w.heap.size 2 1 (.slice A0 k c0) k (intsN (labsL (labOf bs j) k))))
      case atStart => exact ⟨0, by omega, rfl, hbw, hrow⟩
      case round =>
        clear hbw hszl hrow
        obtain ⟨j, hj, rfl, hbw, hrow⟩ := hrel
        have hszl := hbw.out.size
        by_cases hjm : j < m
        · have hBw := hBH.out.below RBd.stable hbw.out
          obtain ⟨bb, ob, rfl, hbb, hbc⟩ := hBw.ptr (by omega)
          obtain ⟨e, he⟩ := hBw.get hjm
          obtain ⟨e0, e1, e2⟩ := hbc j e he
          obtain ⟨hea, heb⟩ := hbsH.out j e he
          have hlab := Lib.hid (labOf_succ he)
          have hbb0 : bb < w.heap.size := by
            obtain ⟨b', o', e', hb', _⟩ := hBH.out.ptr (by omega)
            injection e' with e'
            injection e' with e'
            omega
          obtain ⟨f, hf⟩ : ∃ f, labOf bs j = f := ⟨_, rfl⟩
          rw [hf] at hrow hlab
          obtain ⟨g0, cap0, hv⟩ : ∃ g0 cap0, Value.slice A0 k c0 = .slice (some ⟨g0, 0, none⟩) k cap0 := by
            rcases hrow.out.2 with ⟨_, h0⟩ | ⟨g, cap, cur, hv, _⟩
            · omega
            · exact ⟨g, cap, hv⟩
          injection hv with hv1 hv2 hv3
          subst hv1 hv3
          have ra := (hrow.out.cellAt e.a (by omega)).trans (intsN_get (labsL_get hea))
          have rb := (hrow.out.cellAt e.b (by omega)).trans (intsN_get (labsL_get heb))
          have hg0 := hrow.out.lt g0 rfl
          obtain ⟨hg1, hg2⟩ := hg0
          have hfH := Lib.hid hf
          clear hbc he hBw hf hv2
          obtain ⟨la, hlaE⟩ : ∃ la, f e.a = la := ⟨_, rfl⟩
          obtain ⟨lb, hlbE⟩ : ∃ lb, f e.b = lb := ⟨_, rfl⟩
          rw [hlaE] at ra
          rw [hlbE] at rb
          have hlaH := Lib.hid hlaE
          have hlbH := Lib.hid hlbE
          clear hlaE hlbE
          obtain ⟨wo, rfl⟩ : ∃ wo : World, wo = wr := ⟨_, rfl⟩
          go_wp2
          go_loopg [10] k (fun g i wr => ∃ (t : Nat), t + g = k ∧ i = .int .i64 (t : Int) ∧ Hid (Below w.heap.size w wr) ∧ Hid (wr.ownsRow w.heap.size 2 1 (.slice (some ⟨g0, 0, none⟩) k c0) k (intsN (labsL (relabTo f e.a e.b t) k))))
          case atStart => exact ⟨0, by omega, rfl, hbw, Lib.hid (by rw [relabTo_zero]; exact hrow.out)⟩
          case round =>
            clear hbw hszl hrow ra rb e0 e1 e2 hg2
            obtain ⟨t, ht, rfl, hbw, hrow⟩ := hrel
            have hszl := hbw.out.size
            by_cases htk : t < k
            · have hft : relabTo f e.a e.b t t = f t := by simp [relabTo]
              have rt := (hrow.out.cellAt t (by omega)).trans (intsN_get (labsL_get htk))
              rw [hft] at rt
              have hg2 := (hrow.out.lt g0 rfl).2
              have fz := hrow.out.frozenAt t
              obtain ⟨mx, hmx⟩ : ∃ mx, max la lb = mx := ⟨_, rfl⟩
              obtain ⟨mn, hmn⟩ : ∃ mn, min la lb = mn := ⟨_, rfl⟩
              have hmxH := Lib.hid hmx
              have hmnH := Lib.hid hmn
              obtain ⟨lt, hlt⟩ : ∃ lt, f t = lt := ⟨_, rfl⟩
              rw [hlt] at rt
              have hltH := Lib.hid hlt
              clear hft hmx hmn hlt
              by_cases hq : lt = mx
              · subst hq
                go_wp2
                refine wp_region_ord [(0, .q), (1, .q), (2, .q), (3, .q), (4, .q), (5, .q), (6, .g), (7, .q)] (by kernel_rfl) (by kernel_rfl) ?_
                simp only [pick, List.filterMap_cons, List.filterMap_nil, List.getElem?_toArray, List.getElem?_cons_zero, List.getElem?_cons_succ, Option.map_some]
                repeat (first
                  | ((with_reducible refine wpD_p (fun K hK => ?_)); go_simp; refine hK _ ?_; clear hK K)
                  | ((with_reducible refine wpD_q (fun K hK => ?_)); go_simp; (first | refine hK _ ?_ | (go_bits; refine hK _ ?_) | (go_bits; go_simp; refine hK _ ?_)); clear hK K)
                  | ((with_reducible refine wpD_g (fun K hK => ?_)); go_simp; refine hK _ _ ?_; clear hK K)
                  | ((with_reducible refine wpD_g (fun K hK => ?_)); go_simp; refine ⟨Grew.of_alloc _, hK _ _ ?_⟩; clear hK K)
                  | ((with_reducible refine wpD_g (fun K hK => ?_)); go_simp; go_at_call 149; refine (l00Max_at la lb _ _ hmxH.out).mono ?_; rintro e _ ⟨rfl, rfl⟩; refine ⟨_, rfl, Below.refl _ _, hK _ _ ?_⟩; clear hK K))
                with_reducible refine wpD_nil ?_
                go_wp2_with (go_at_call 150; refine (l00Min_at la lb _ _ hmnH.out).mono ?_; rintro e _ ⟨rfl, rfl⟩)
                go_roundg (k - (t + 1))
                case measure => omega
                case rel =>
                  refine ⟨t + 1, by omega, by go_num, Lib.hid ?_, Lib.hid ?_⟩
                  · exact (hbw.out.setCell (p := ⟨g0, t, none⟩) hg1 _).drew
                  · have hs := (hrow.out.stored t (.int .i64 (mn : Int))).1
                    rw [intsN_set, labsL_set, ← hmnH.out, ← hlaH.out, ← hlbH.out, ← relabTo_hit (by rw [hltH.out, hlaH.out, hlbH.out, hmxH.out])] at hs
                    rw [← hmnH.out, ← hlaH.out, ← hlbH.out]
                    exact hs
              · have hqd : ((lt : Int) == (mx : Int)) = false := by simp; omega
                go_wp2
                refine wp_region_ord [(0, .q), (1, .q), (2, .q), (3, .q), (4, .q), (5, .q), (6, .g), (7, .q)] (by kernel_rfl) (by kernel_rfl) ?_
                simp only [pick, List.filterMap_cons, List.filterMap_nil, List.getElem?_toArray, List.getElem?_cons_zero, List.getElem?_cons_succ, Option.map_some]
                repeat (first
                  | ((with_reducible refine wpD_p (fun K hK => ?_)); go_simp; refine hK _ ?_; clear hK K)
                  | ((with_reducible refine wpD_q (fun K hK => ?_)); go_simp; (first | refine hK _ ?_ | (go_bits; refine hK _ ?_) | (go_bits; go_simp; refine hK _ ?_)); clear hK K)
                  | ((with_reducible refine wpD_g (fun K hK => ?_)); go_simp; refine hK _ _ ?_; clear hK K)
                  | ((with_reducible refine wpD_g (fun K hK => ?_)); go_simp; refine ⟨Grew.of_alloc _, hK _ _ ?_⟩; clear hK K)
                  | ((with_reducible refine wpD_g (fun K hK => ?_)); go_simp; go_at_call 149; refine (l00Max_at la lb _ _ hmxH.out).mono ?_; rintro e _ ⟨rfl, rfl⟩; refine ⟨_, rfl, Below.refl _ _, hK _ _ ?_⟩; clear hK K))
                with_reducible refine wpD_nil ?_
                go_wp2
                go_roundg (k - (t + 1))
                case measure => omega
                case rel =>
                  refine ⟨t + 1, by omega, by go_num, Lib.hid ?_, Lib.hid ?_⟩
                  · exact hbw.out.drew
                  · rw [relabTo_miss (by rw [hltH.out, hlaH.out, hlbH.out, hmxH.out]; exact hq)]
                    exact hrow.out
            · obtain rfl : t = k := by omega
              go_wp2
              go_roundg (m - (j + 1))
              case measure => omega
              case rel => exact ⟨j + 1, by omega, by go_num, hbw, Lib.hid (by rw [hlab.out, ← labsL_all]; exact hrow.out)⟩
        · obtain rfl : j = m := by omega
          obtain ⟨f, hf⟩ : ∃ f, labOf bs j = f := ⟨_, rfl⟩
          have hLab := Lib.hid (Lab.of bs j)
          rw [hf] at hrow hLab
          have hfH := Lib.hid hf
          clear hf
          obtain ⟨wb, rfl⟩ : ∃ wb : World, wb = wr := ⟨_, rfl⟩
          go_wp2
          go_loopg [12, 11] k (fun g i v wr => ∃ (t : Nat) (us : List Value), t + g = k ∧ i = .int .i64 (t : Int) ∧ Hid (Own2 wr wb.heap.size 29 2 1 v us (((rootsL f t).map (partL f k)).map intsN)) ∧ Hid (Below wb.heap.size wb wr))
          case atStart => exact ⟨0, [], by omega, rfl, Lib.hid (Own2.of_empty (World.ownsRow_made _ _ _ (Nat.le_refl _) (by decide) rfl)), Lib.hid (bl_al (bl_refl _) _)⟩
          case round =>
            obtain ⟨t, us, ht, rfl, hO, hbq⟩ := hrel
            have hszq := hbq.out.size
            have hul : us.length = (rootsL f t).length := by rw [hO.out.len]; simp
            have hrl := rootsL_len f t
            obtain ⟨N0, hN0⟩ : ∃ N0, (rootsL f t).length = N0 := ⟨_, rfl⟩
            rw [hN0] at hul hrl
            have hulH := Lib.hid hul
            clear hul hN0
            obtain ⟨A1, c1, rfl⟩ := hO.out.form hulH.out
            by_cases htk : t < k
            · obtain ⟨g0, cap0, hv⟩ : ∃ g0 cap0, Value.slice A0 k c0 = .slice (some ⟨g0, 0, none⟩) k cap0 := by
                rcases hrow.out.2 with ⟨_, h0⟩ | ⟨g, cap, cur, hv, _⟩
                · omega
                · exact ⟨g, cap, hv⟩
              injection hv with hv1 hv2 hv3
              subst hv1 hv3
              clear hv2
              have hg0 := (hrow.out.lt g0 rfl).2
              have hnc := Lib.hid (fun (q : Nat) (hq : q < k) (W : World) (hW : Below wb.heap.size wb W) => (hW.cell (p := ⟨g0, q, none⟩) hg0).trans ((hrow.out.cellAt q (by omega)).trans (intsN_get (labsL_get hq))))
              have rt := hnc.out t htk wr hbq.out
              have hg1 : g0 < wr.heap.size := by omega
              obtain ⟨r, hr⟩ : ∃ r, f t = r := ⟨_, rfl⟩
              rw [hr] at rt
              have hrH := Lib.hid hr
              clear hr
              by_cases hrt : r = t
              · subst hrt
                obtain ⟨wo, rfl⟩ : ∃ wo : World, wo = wr := ⟨_, rfl⟩
                go_wp2
                go_loopg [14, 13] (k - r) (fun g i v wr => ∃ (q : Nat), r ≤ q ∧ q + g = k ∧ i = .int .i64 (q : Int) ∧ Hid (wr.ownsRow wo.heap.size 2 1 v (partL f q r).length (intsN (partL f q r))) ∧ Hid (Below wo.heap.size wo wr))
                case atStart => exact ⟨r, Nat.le_refl _, by omega, rfl, Lib.hid (by rw [partL_new hLab.out.le (Nat.le_refl _)]; exact World.ownsRow_made _ _ _ (Nat.le_refl _) (by decide) rfl), Lib.hid (bl_al (bl_refl _) _)⟩
                case round =>
                  clear rt hg1
                  obtain ⟨q, hq1, hq, rfl, hpr, hbp⟩ := hrel
                  have hszp := hbp.out.size
                  have hpl : (partL f q r).length ≤ q := by
                    have := List.length_filter_le (fun k => f k == r) (List.range q)
                    simpa [partL] using this
                  obtain ⟨np, hnp⟩ : ∃ np, (partL f q r).length = np := ⟨_, rfl⟩
                  rw [hnp] at hpr hpl
                  have hnpH := Lib.hid hnp
                  clear hnp
                  obtain ⟨A2, c2, rfl⟩ := ownsRow_form hpr.out
                  by_cases hqk : q < k
                  · have rq := hnc.out q hqk wr (hbq.out.trans (hbp.out.mono hszq))
                    have hg1 : g0 < wr.heap.size := by omega
                    obtain ⟨s, hs⟩ : ∃ s, f q = s := ⟨_, rfl⟩
                    rw [hs] at rq
                    have hsH := Lib.hid hs
                    clear hs
                    by_cases hsr : s = r
                    · subst hsr
                      go_wp2_with (at_builtin; refine wpList_append_own _ rfl _ _ 29 rfl wo.heap.size 2 i1 (.int .i64 0) 1 8 Try.underlying29 hi' hz0' hz1' hz2' rfl (by decide) _ np (intsN (partL f q s)) rfl (hpr.out.alloc _) ⟨wr.heap.size, 0, none⟩ 1 1 [.int .i64 (q : Int)] rfl rfl (cell_one_new _ _ _) (fun x hx => by simp at hx; subst hx; rfl) (by unfold maxLen; omega) (by omega) (by simp; omega) ?_; intro u3 w3 hown3 hgrow3 _; have hown3H := Lib.hid hown3; have hgrow3H := Lib.hid hgrow3; clear hown3 hgrow3)
                      go_roundg (k - (q + 1))
                      case measure => omega
                      case rel =>
                        refine ⟨q + 1, by omega, by omega, by go_num, Lib.hid ?_, Lib.hid ?_⟩
                        · rw [partL_succ_yes hsH.out, ← intsN_snoc, List.length_append, hnpH.out]
                          exact hown3H.out
                        · exact hbp.out.trans (below_app hszp (fun g e => (hpr.out.lt g e).1) hgrow3H.out)
                    · have hsd : ((s : Int) == (r : Int)) = false := by simp; omega
                      go_wp2
                      go_roundg (k - (q + 1))
                      case measure => omega
                      case rel =>
                        refine ⟨q + 1, by omega, by omega, by go_num, Lib.hid ?_, hbp⟩
                        rw [partL_succ_no (by rw [hsH.out]; exact hsr), hnpH.out]
                        exact hpr.out
                  · obtain rfl : q = k := by omega
                    have hO1 := Lib.hid (hO.out.below hbp.out)
                    have hprB := Lib.hid (ownsRow_base hpr.out hszq)
                    go_wp2_with (at_builtin; refine wpList_append_own_at _ rfl _ _ 82 rfl wb.heap.size 29 i0 (.slice none 0 0) 1 24 Try.underlying82 hi hz0 hz1 hz2 rfl (by decide) _ N0 us rfl ((hO1.out.outerN hulH.out).alloc _) ⟨wr.heap.size, 0, none⟩ 1 1 [.slice A2 np c2] rfl rfl (cell_one_new _ _ _) (fun x hx => by simp at hx; subst hx; rfl) (by unfold maxLen; omega) (by omega) (by simp; omega) ?_; intro v2 w2 hown2 hgrow2 _ hat2; have hO2 := Lib.hid ((hO1.out.alloc _).push hulH.out (hprB.out.alloc _) (fun g e => ⟨fun e' => by have := (hO.out.lt g e').2; have := (hpr.out.lt g e).1; omega, fun k u hu e' => by have := (hO.out.ltIn hu g e').2; have := (hpr.out.lt g e).1; omega⟩) hown2 hgrow2 hat2); have hgrow2H := Lib.hid hgrow2; clear hown2 hgrow2 hat2)
                    go_roundg (q - (r + 1))
                    case measure => omega
                    case rel =>
                      refine ⟨r + 1, us ++ [.slice A2 np c2], by omega, by go_num, Lib.hid ?_, Lib.hid ?_⟩
                      · rw [rootsL_succ_yes hrH.out, List.map_append, List.map_append]
                        exact hO2.out
                      · exact hbq.out.trans ((hbp.out.mono hszq).trans (below_app (by omega) (fun g e => (hO.out.lt g e).1) hgrow2H.out))
              · have hrd : ((r : Int) != (t : Int)) = true := by simp; omega
                go_wp2
                go_roundg (k - (t + 1))
                case measure => omega
                case rel =>
                  refine ⟨t + 1, us, by omega, by go_num, Lib.hid ?_, hbq⟩
                  rw [rootsL_succ_no (by rw [hrH.out]; exact hrt)]
                  exact hO.out
            · obtain rfl : t = k := by omega
              go_wp2
              go_ret
              refine ⟨_, us, rfl, ?_, ?_⟩
              · rw [hfH.out]
                exact hO.out.rebase hszl
              · exact hbw.out.trans (hbq.out.mono hszl)
end Go.Proofs.Ytfabgnnpgepcoaa
