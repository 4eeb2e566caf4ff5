/- Walks: the reference sends one unit more. -/
import Derived.Test.YtmpmokefgdjnkaaGreatS2
import Derived.Test.YtmpmokefgdjnkaaGreatP11
namespace Go.Proofs.YtmpmokefgdjnkaaGreat
open Go.RowKit Go.Shelf
set_option linter.unusedSimpArgs false
set_option linter.unusedVariables false
attribute [local go_sem] BelowBy.cell BelowBy.cell_drew stillUpon givesUpon BelowBy.cell_drew2 BelowBy.cell_drew3

def bestT : Option (Nat × Nat) → Int
  | none => -1
  | some (m, _) => (m : Int)
def bestB : Option (Nat × Nat) → Int
  | none => 0
  | some (_, i) => (i : Int)
@[local go_sem] theorem bestT_none : bestT none = -1 := rfl
@[local go_sem] theorem bestT_some (m i : Nat) : bestT (some (m, i)) = (m : Int) := rfl
theorem leftI_some {l : Nat → Option Nat} {v d : Nat} (h : leftI l v = (d : Int)) : l v = some d := by
  unfold leftI at h
  cases hl : l v with
  | none => rw [hl] at h; exfalso; have h' : (-1 : Int) = (d : Int) := h; omega
  | some x => rw [hl] at h; have h' : (x : Int) = (d : Int) := h; congr 1; omega
def GrowRes (w0 : World) (p n gF : Nat) (B : Option Addr) (m c : Nat) (bs : List Bd) (f : Nat → Int) (vA : Value) (uA : List Value) (x y : Nat) (e : Ending) (w' : World) : Prop := match wayTo n (edgeB bs f) x y with
  | none => e = .returned (.bool false) ∧ SNet w0 w' p n gF B m c bs.length bs f vA uA
  | some W => e = .returned (.bool true) ∧ SNet w0 w' p n gF B m c bs.length bs (augK bs f W (W.length - 1)) vA uA
set_option maxRecDepth 100000 in
set_option maxHeartbeats 4000000 in
theorem grow_any {w0 : World} (p n gF : Nat) (B : Option Addr) (m c x y : Nat) (bs : List Bd) (f : Nat → Int) (vA : Value) (uA : List Value) (w : World) (h : SNet w0 w p n gF B m c bs.length bs f vA uA) (hB : RdSl 3 RBd w0 B m bs) (hbo : BondsOk n bs) (hinv : InvF bs f) (hx : x < n) (hy : y < n) (hn : n ≤ 100000) (hm : m ≤ 100000) :
    Calls Tryz.prog 139 #[.pointer (some ⟨p, 0, none⟩), .int .i64 (x : Int), .int .i64 (y : Int)] w (GrowRes w0 p n gF B m c bs f vA uA x y) := by
  have hN := Lib.hid h
  have hBH := Lib.hid hB
  have hboH := Lib.hid hbo
  have hinvH := Lib.hid hinv
  have lp := h.lt
  have lg := h.fl.lt
  have hml := Lib.hid hB.len
  clear h hB hbo hinv
  cases hd : distTo n (edgeB bs f) y x with
  | none =>
    have hw : wayTo n (edgeB bs f) x y = none := by unfold wayTo; rw [hd]; rfl
    rw [show GrowRes w0 p n gF B m c bs f vA uA x y = fun e w' => e = .returned (.bool false) ∧ SNet w0 w' p n gF B m c bs.length bs f vA uA by funext e w'; unfold GrowRes; rw [hw]]
    have hdI := Lib.hid (show leftI (distTo n (edgeB bs f) y) x = -1 by unfold leftI; rw [hd])
    clear hd hw
    go_enter Tryz.func139, Tryz.ntmps139
    go_wp2_with (go_at_call 140; refine (steps_any p n gF B m c y bs f vA uA _ hN.out hBH.out hboH.out hinvH.out hy hn hm).mono ?_; rintro e w1 ⟨g, cg, rfl, hrow, hb1⟩; have hrowH := Lib.hid hrow; have hb1H := Lib.hid hb1; have cx := (hrow.cellAt x (by omega)).trans (rowL_get hx); rw [hdI.out] at cx; have lx := (hrow.lt g rfl).2; clear hrow hb1)
    go_ret
    exact ⟨rfl, hN.out.below hb1H.out⟩
  | some D =>
    have hw : wayTo n (edgeB bs f) x y = some (wayL n (edgeB bs f) y D x) := by unfold wayTo; rw [hd]; rfl
    obtain ⟨W, hW⟩ : ∃ W, W = wayL n (edgeB bs f) y D x := ⟨_, rfl⟩
    have hWl : W.length = D + 1 := by rw [hW, wayL_len]
    have hDn := wayL_short hx hd
    rw [show GrowRes w0 p n gF B m c bs f vA uA x y = fun e w' => e = .returned (.bool true) ∧ SNet w0 w' p n gF B m c bs.length bs (augK bs f W D) vA uA by funext e w'; unfold GrowRes; rw [hw, ← hW]; dsimp only; rw [hWl, Nat.add_sub_cancel]]
    have hdI := Lib.hid (show leftI (distTo n (edgeB bs f) y) x = (D : Int) by unfold leftI; rw [hd])
    have hWH := Lib.hid hW
    have hWlH := Lib.hid hWl
    have hdH := Lib.hid hd
    have hW0 := Lib.hid (show W[0]? = some x by rw [hW, wayL_head])
    clear hd hw hW hWl
    go_enter Tryz.func139, Tryz.ntmps139
    go_wp2_with (go_at_call 140; refine (steps_any p n gF B m c y bs f vA uA _ hN.out hBH.out hboH.out hinvH.out hy hn hm).mono ?_; rintro e w1 ⟨g, cg, rfl, hrow, hb1⟩; have hrowH := Lib.hid hrow; have hb1H := Lib.hid hb1; have cx := (hrow.cellAt x (by omega)).trans (rowL_get hx); rw [hdI.out] at cx; have lx := (hrow.lt g rfl); clear hrow hb1)
    obtain ⟨lx1, lx2⟩ := lx
    have hN1 := Lib.hid (hN.out.below hb1H.out)
    go_loopg [8] D (fun gk a wr => ∃ (j u : Nat), j + gk = D ∧ a = .int .i64 (u : Int) ∧ Hid (W[j]? = some u) ∧ Hid (SNet w0 wr p n gF B m c bs.length bs (augK bs f W j) vA uA) ∧ Hid (wr.ownsRow w.heap.size 2 1 (.slice (some ⟨g, 0, none⟩) n cg) n (rowL (distTo n (edgeB bs f) y) n)))
    case atStart => exact ⟨0, x, by omega, rfl, hW0, hN1, hrowH⟩
    case round =>
      clear cx hN1 hrowH lx2
      obtain ⟨j, u, hj, rfl, hu, hS, hrow⟩ := hrel
      have hu2 := hu.out
      rw [hWH.out] at hu2
      obtain ⟨hun, _, hdu, _⟩ := wayL_spec D x hx hdH.out j u hu2
      by_cases hjD : j < D
      · obtain ⟨v, hv⟩ : ∃ v, W[j + 1]? = some v := ⟨_, List.getElem?_eq_getElem (by have := hWlH.out; omega)⟩
        have hvH := Lib.hid hv
        have huy : ((u : Int) != (y : Int)) = true := by
          have : u ≠ y := fun e => by
            rw [e, distTo_goal] at hdu
            injection hdu with hdu
            omega
          simp; omega
        obtain ⟨K, hKE⟩ : ∃ K, (incL bs bs.length u).length = K := ⟨_, rfl⟩
        have hKH := Lib.hid hKE
        have hKm : K ≤ m := by
          rw [← hKE, ← hml.out]
          have := List.length_filter_le (incB bs u) (List.range bs.length)
          simpa [incL] using this
        have hduH := Lib.hid hdu
        have cinv := Lib.hid (augK_inv hinvH.out (W := W) j)
        have hend := Lib.hid (fun c hc => best_end hboH.out hx hdH.out hWH.out hu.out hv (c := c) hc)
        obtain ⟨cf, hcf⟩ : ∃ cf, augK bs f W j = cf := ⟨_, rfl⟩
        rw [hcf] at hS cinv hend
        have hcfH := Lib.hid hcf
        clear hv hKE hdu hu2 hcf
        go_wp2
        go_loopg [9, 10, 11] K (fun gk nx bx tx wr => ∃ (t : Nat) (bc : Option (Nat × Nat)), t + gk = K ∧ tx = .int .i64 (t : Int) ∧ nx = .int .i64 (bestT bc) ∧ bx = .int .i64 (bestB bc) ∧ Hid (Best (Qual bs cf (distTo n (edgeB bs f) y) u (D - j - 1)) (incL bs bs.length u) t bc) ∧ Hid (∀ m i, bc = some (m, i) → ∃ j', j' < t ∧ (incL bs bs.length u)[j']? = some i) ∧ Hid (SNet w0 wr p n gF B m c bs.length bs cf vA uA) ∧ Hid (wr.ownsRow w.heap.size 2 1 (.slice (some ⟨g, 0, none⟩) n cg) n (rowL (distTo n (edgeB bs f) y) n)))
        case atStart => exact ⟨0, none, by omega, rfl, rfl, rfl, Lib.hid (Best.start _ _), Lib.hid (fun m i e => by cases e), hS, hrow⟩
        case round =>
          clear hS hrow
          obtain ⟨t, bc, ht, rfl, rfl, rfl, hbest, hpast, hS, hrow⟩ := hrel
          have k2 := hS.out.c2
          have lp2 := hS.out.lt
          obtain ⟨gA, cA, A', cA', hvA, lA, cAu, hinc⟩ := hS.out.inc hun
          rw [hvA] at k2
          rw [hKH.out] at cAu
          by_cases htK : t < K
          · obtain ⟨b, hb⟩ : ∃ b, (incL bs bs.length u)[t]? = some b := ⟨_, List.getElem?_eq_getElem (by rw [hKH.out]; exact htK)⟩
            obtain ⟨gI, rfl, lI, cI⟩ := hinc t b hb
            obtain ⟨e, he, hinc2⟩ := incL_mem (List.mem_of_getElem? hb)
            have hs4 := hboH.out.s b e he
            have hfi := cinv.out b e he
            obtain ⟨v', hvE⟩ : ∃ v', oth e u = v' := ⟨_, rfl⟩
            obtain ⟨r, hrE⟩ : ∃ r, rs e (cf b) u = r := ⟨_, rfl⟩
            have hvn : v' < n := by
              rw [← hvE]
              unfold oth
              split
              · exact hboH.out.b b e he
              · exact hboH.out.a b e he
            have heH := Lib.hid he
            have hbH := Lib.hid hb
            have hincH := Lib.hid hinc2
            have hvEH := Lib.hid hvE
            have hrEH := Lib.hid hrE
            clear hinc he hb hvA hvE hrE hinc2
            go_upto_region 12 with (go_at_call 147; refine (room_any p n gF _ m c bs.length u b bs cf vA uA e _ (hS.out.below (by exact bel_)) hBH.out heH.out hs4 hfi hrEH.out hvEH.out).mono ?_; rintro x w4 ⟨rfl, hb4⟩; have hb4H := Lib.hid hb4; clear hb4)
            have hS4 := Lib.hid (hS.out.below hb4H.out)
            have hrow4 := Lib.hid (ownsRow_below hrow.out hb4H.out)
            have cv := (hrow4.out.cellAt v' (by omega)).trans (rowL_get hvn)
            have cu := (hrow4.out.cellAt u (by omega)).trans (rowL_get hun)
            rw [show leftI (distTo n (edgeB bs f) y) u = ((D - j : Nat) : Int) by unfold leftI; rw [hduH.out]] at cu
            have lr4 := (hrow4.out.lt g rfl).2
            have hs4' := hb4H.out.size
            have k4 := (hb4H.out.cell (p := ⟨p, 2, none⟩) lp2).trans k2
            have cA4 := (hb4H.out.cell (p := ⟨gA, u, none⟩) lA).trans cAu
            have cI4 := (hb4H.out.cell (p := ⟨gI, t, none⟩) lI).trans cI
            have lp4 : p < w4.heap.size := by omega
            have lA4 : gA < w4.heap.size := by omega
            have lI4 : gI < w4.heap.size := by omega
            have hw1 : IntKind.i64.wrap (((D - j : Nat) : Int) - 1) = ((D - j - 1 : Nat) : Int) := by rw [IntWalk.i64_in _ ⟨by omega, by omega⟩]; omega
            have hDj1 : D - j - 1 ≤ 100000 := by omega
            obtain ⟨X, hX⟩ : ∃ X, D - j = X := ⟨_, rfl⟩
            obtain ⟨Y, hY⟩ : ∃ Y, D - j - 1 = Y := ⟨_, rfl⟩
            rw [hX] at cu hw1
            rw [hX] at hY
            have hbl := Lib.hid (fun m i (hc : bc = some (m, i)) => by obtain ⟨j', hj', hb'⟩ := hpast.out m i hc; exact Nat.le_of_lt (incL_sorted hj' hb' hbH.out))
            have hYH := Lib.hid (show D - j - 1 = Y by omega)
            have hbest1 := hbest
            by_cases hr0 : 0 < r
            · by_cases hl : leftI (distTo n (edgeB bs f) y) v' = (Y : Int)
              · have hdv : distTo n (edgeB bs f) y v' = some (D - j - 1) := by rw [hYH.out]; exact leftI_some hl
                have hq : Qual bs cf (distTo n (edgeB bs f) y) u (D - j - 1) b v' := ⟨e, heH.out, hincH.out, hvEH.out, by rw [hrEH.out]; exact hr0, hdv⟩
                have hqH := Lib.hid hq
                rw [hl] at cv
                clear hdv hq hl
                cases bc with
                | none =>
                  have hnext := Lib.hid (hbest.out.take hbH.out hqH.out (fun t' h => hqH.out.uniq h) (fun m i hc => by cases hc))
                  clear hbl hpast hbest1
                  refine wp_region_ord [(0, .q), (1, .q), (2, .q), (3, .q), (4, .q), (5, .q), (6, .q), (7, .q), (8, .q), (9, .q), (10, .q), (11, .q), (12, .q), (13, .q), (14, .q), (15, .q), (16, .q), (17, .q), (18, .q), (19, .q), (20, .q), (21, .q), (22, .q)] (by kernel_rfl) (by kernel_rfl) ?_
                  simp only [pick, List.filterMap_cons, List.filterMap_nil, List.getElem?_toArray, List.getElem?_cons_zero, List.getElem?_cons_succ, Option.map_some]
                  repeat (first | ((with_reducible refine wpD_p (fun K hK => ?_)); go_simp; refine hK _ ?_; clear hK K) | ((with_reducible refine wpD_q (fun K hK => ?_)); go_simp; (first | refine hK _ ?_ | (go_bits; refine hK _ ?_) | (go_bits; go_simp; refine hK _ ?_)); clear hK K))
                  with_reducible refine wpD_nil ?_
                  go_wp2
                  go_roundg (K - (t + 1))
                  case measure => omega
                  case rel => exact ⟨t + 1, some (v', b), by omega, by go_num, rfl, rfl, hnext, Lib.hid (fun m i hc => by obtain ⟨rfl, rfl⟩ := Prod.mk.inj (Option.some.inj hc); exact ⟨t, by omega, hbH.out⟩), Lib.hid (hS4.out.below (by exact bel_)), Lib.hid (ownsRow_below hrow4.out (by exact bel_))⟩
                | some mi =>
                  obtain ⟨m', i⟩ := mi
                  have hm0 : ¬ ((m' : Int) < 0) := by omega
                  by_cases hlt0 : v' < m'
                  · have hlt : (v' : Int) < (m' : Int) := by omega
                    have hnext := Lib.hid (hbest.out.take hbH.out hqH.out (fun t' h => hqH.out.uniq h) (fun m i hc => by obtain ⟨rfl, rfl⟩ := Prod.mk.inj (Option.some.inj hc); exact hlt0))
                    clear hbl hpast hbest1
                    refine wp_region_ord [(0, .q), (1, .q), (2, .q), (3, .q), (4, .q), (5, .q), (6, .q), (7, .q), (8, .q), (9, .q), (10, .q), (11, .q), (12, .q), (13, .q), (14, .q), (15, .q), (16, .q), (17, .q), (18, .q), (19, .q), (20, .q), (21, .q), (22, .q)] (by kernel_rfl) (by kernel_rfl) ?_
                    simp only [pick, List.filterMap_cons, List.filterMap_nil, List.getElem?_toArray, List.getElem?_cons_zero, List.getElem?_cons_succ, Option.map_some]
                    repeat (first | ((with_reducible refine wpD_p (fun K hK => ?_)); go_simp; refine hK _ ?_; clear hK K) | ((with_reducible refine wpD_q (fun K hK => ?_)); go_simp; (first | refine hK _ ?_ | (go_bits; refine hK _ ?_) | (go_bits; go_simp; refine hK _ ?_)); clear hK K))
                    with_reducible refine wpD_nil ?_
                    go_wp2
                    go_roundg (K - (t + 1))
                    case measure => omega
                    case rel => exact ⟨t + 1, some (v', b), by omega, by go_num, rfl, rfl, hnext, Lib.hid (fun m i hc => by obtain ⟨rfl, rfl⟩ := Prod.mk.inj (Option.some.inj hc); exact ⟨t, by omega, hbH.out⟩), Lib.hid (hS4.out.below (by exact bel_)), Lib.hid (ownsRow_below hrow4.out (by exact bel_))⟩
                  · have hlt : ¬ ((v' : Int) < (m' : Int)) := by omega
                    have hnext := Lib.hid (hbest.out.keep hbH.out hqH.out (fun t' h => hqH.out.uniq h) hlt0 (hbl.out m' i rfl))
                    clear hbl hbest1
                    refine wp_region_ord [(0, .q), (1, .q), (2, .q), (3, .q), (4, .q), (5, .q), (6, .q), (7, .q), (8, .q), (9, .q), (10, .q), (11, .q), (12, .q), (13, .q), (14, .q), (15, .q), (16, .q), (17, .q), (18, .q), (19, .q), (20, .q), (21, .q), (22, .q)] (by kernel_rfl) (by kernel_rfl) ?_
                    simp only [pick, List.filterMap_cons, List.filterMap_nil, List.getElem?_toArray, List.getElem?_cons_zero, List.getElem?_cons_succ, Option.map_some]
                    repeat (first | ((with_reducible refine wpD_p (fun K hK => ?_)); go_simp; refine hK _ ?_; clear hK K) | ((with_reducible refine wpD_q (fun K hK => ?_)); go_simp; (first | refine hK _ ?_ | (go_bits; refine hK _ ?_) | (go_bits; go_simp; refine hK _ ?_)); clear hK K))
                    with_reducible refine wpD_nil ?_
                    go_wp2
                    go_roundg (K - (t + 1))
                    case measure => omega
                    case rel => exact ⟨t + 1, some (m', i), by omega, by go_num, rfl, rfl, hnext, Lib.hid (fun m i hc => by obtain ⟨j', hj', hb'⟩ := hpast.out m i hc; exact ⟨j', by omega, hb'⟩), Lib.hid (hS4.out.below (by exact bel_)), Lib.hid (ownsRow_below hrow4.out (by exact bel_))⟩
              · have hnext := Lib.hid (hbest.out.skip hbH.out (fun t' ⟨e', he', _, h3, _, h5⟩ => by rw [heH.out] at he'; obtain rfl := Option.some.inj he'; rw [hvEH.out] at h3; subst h3; rw [hYH.out] at h5; exact hl (by unfold leftI; rw [h5])))
                obtain ⟨lv, hlv⟩ : ∃ lv, leftI (distTo n (edgeB bs f) y) v' = lv := ⟨_, rfl⟩
                rw [hlv] at cv hl
                have hlb : (lv == (Y : Int)) = false := by simp; exact hl
                clear hlv
                refine wp_region_ord [(0, .q), (1, .q), (2, .q), (3, .q), (4, .q), (5, .q), (6, .q), (7, .q), (8, .q), (9, .q), (10, .q), (11, .q), (12, .q), (13, .q), (14, .q), (15, .q), (16, .q), (17, .q), (18, .q), (19, .q), (20, .q), (21, .q), (22, .q)] (by kernel_rfl) (by kernel_rfl) ?_
                simp only [pick, List.filterMap_cons, List.filterMap_nil, List.getElem?_toArray, List.getElem?_cons_zero, List.getElem?_cons_succ, Option.map_some]
                repeat (first | ((with_reducible refine wpD_p (fun K hK => ?_)); go_simp; refine hK _ ?_; clear hK K) | ((with_reducible refine wpD_q (fun K hK => ?_)); go_simp; (first | refine hK _ ?_ | (go_bits; refine hK _ ?_) | (go_bits; go_simp; refine hK _ ?_)); clear hK K))
                with_reducible refine wpD_nil ?_
                go_wp2
                go_roundg (K - (t + 1))
                case measure => omega
                case rel => exact ⟨t + 1, bc, by omega, by go_num, rfl, rfl, hnext, Lib.hid (fun m i hc => by obtain ⟨j', hj', hb'⟩ := hpast.out m i hc; exact ⟨j', by omega, hb'⟩), Lib.hid (hS4.out.below (by exact bel_)), Lib.hid (ownsRow_below hrow4.out (by exact bel_))⟩
            · have hnr : ¬ (0 < r) := hr0
              have hnext := Lib.hid (hbest.out.skip hbH.out (fun t' ⟨e', he', _, _, h4, _⟩ => by rw [heH.out] at he'; obtain rfl := Option.some.inj he'; rw [hrEH.out] at h4; exact hr0 h4))
              refine wp_region_ord [(0, .q), (1, .q), (2, .q), (3, .q), (4, .q), (5, .q), (6, .q), (7, .q), (8, .q), (9, .q), (10, .q), (11, .q), (12, .q), (13, .q), (14, .q), (15, .q), (16, .q), (17, .q), (18, .q), (19, .q), (20, .q), (21, .q), (22, .q)] (by kernel_rfl) (by kernel_rfl) ?_
              simp only [pick, List.filterMap_cons, List.filterMap_nil, List.getElem?_toArray, List.getElem?_cons_zero, List.getElem?_cons_succ, Option.map_some]
              repeat (first | ((with_reducible refine wpD_p (fun K hK => ?_)); go_simp; refine hK _ ?_; clear hK K) | ((with_reducible refine wpD_q (fun K hK => ?_)); go_simp; (first | refine hK _ ?_ | (go_bits; refine hK _ ?_) | (go_bits; go_simp; refine hK _ ?_)); clear hK K))
              with_reducible refine wpD_nil ?_
              go_wp2
              go_roundg (K - (t + 1))
              case measure => omega
              case rel => exact ⟨t + 1, bc, by omega, by go_num, rfl, rfl, hnext, Lib.hid (fun m i hc => by obtain ⟨j', hj', hb'⟩ := hpast.out m i hc; exact ⟨j', by omega, hb'⟩), Lib.hid (hS4.out.below (by exact bel_)), Lib.hid (ownsRow_below hrow4.out (by exact bel_))⟩
          · obtain rfl : t = K := by omega
            obtain ⟨i, rfl, hfst⟩ := hend.out bc (by rw [hKH.out]; exact hbest.out)
            have hib := (firstB_some.1 hfst).1
            obtain ⟨e, he⟩ : ∃ e, bs[i]? = some e := ⟨_, List.getElem?_eq_getElem hib⟩
            have hs4 := hboH.out.s i e he
            have hfi := cinv.out i e he
            have heH := Lib.hid he
            have hfstH := Lib.hid hfst
            have hg2 := (hrow.out.lt g rfl)
            obtain ⟨hg3, hg4⟩ := hg2
            clear he hfst hinc hbest hpast hend
            go_wp2_with (go_at_call 148; refine (push_any p n gF _ m c bs.length u i bs cf vA uA e _ hS.out hBH.out heH.out hs4 hfi).mono ?_; rintro x w5 ⟨rfl, hS5, hg5⟩; have hS5H := Lib.hid hS5; have hg5H := Lib.hid hg5; clear hS5 hg5)
            go_roundg (D - (j + 1))
            case measure => omega
            case rel =>
              refine ⟨j + 1, v, by omega, rfl, hvH, Lib.hid ?_, Lib.hid (ownsRow_grown hrow.out (fun b hb => ?_))⟩
              · rw [augK_succ hu.out hvH.out, hcfH.out, pushB_at hfstH.out heH.out]
                exact hS5H.out
              · have hb2 : some g = some b := hb
                injection hb2 with hb3
                rw [← hb3]
                exact hg5H.out.block g hg4 (fun e => by injection e with e; omega)
      · obtain rfl : j = D := by omega
        rw [Nat.sub_self] at hdu
        obtain rfl := distTo_zero hdu
        go_wp2
        go_ret
        exact ⟨rfl, hS.out⟩
end Go.Proofs.YtmpmokefgdjnkaaGreat
