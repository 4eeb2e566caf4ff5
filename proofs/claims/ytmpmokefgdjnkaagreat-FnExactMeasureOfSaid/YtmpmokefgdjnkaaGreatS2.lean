/- Walks: the reference's steps to a goal. -/
import Derived.Test.YtmpmokefgdjnkaaGreatP10
namespace Go.Proofs.YtmpmokefgdjnkaaGreat
open Go.RowKit Go.Shelf
set_option linter.unusedSimpArgs false
set_option linter.unusedVariables false
attribute [local go_sem] BelowBy.cell BelowBy.cell_drew stillUpon givesUpon BelowBy.cell_drew2 BelowBy.cell_drew3

def rowL (l : Nat → Option Nat) (n : Nat) : List Value := (List.range n).map fun v => Value.int .i64 (leftI l v)
theorem rowL_len (l : Nat → Option Nat) (n : Nat) : (rowL l n).length = n := by simp [rowL]
theorem rowL_get {l : Nat → Option Nat} {n v : Nat} (h : v < n) : (rowL l n)[v]? = some (.int .i64 (leftI l v)) := by simp [rowL, h]
theorem rowL_set {l : Nat → Option Nat} {n t d : Nat} : (rowL l n).set t (.int .i64 (d : Int)) = rowL (fun v => if v = t then some d else l v) n := by
  apply List.ext_getElem?
  intro j
  rw [List.getElem?_set, rowL_len]
  by_cases hj : j < n
  · rw [rowL_get hj, rowL_get hj]
    by_cases e : t = j
    · subst e; simp [hj, leftI]
    · rw [if_neg e]
      have : ¬ j = t := fun h => e h.symm
      simp [leftI, this]
  · rw [List.getElem?_eq_none (by rw [rowL_len]; omega), List.getElem?_eq_none (by rw [rowL_len]; omega)]
    split
    · rw [if_neg (by omega)]
    · rfl
theorem rowL_start (n y : Nat) : (List.replicate n (Value.int .i64 (-1))).set y (.int .i64 0) = rowL (fun v => if v = y then some 0 else none) n := by
  have : List.replicate n (Value.int .i64 (-1)) = rowL (fun _ => none) n := by
    apply List.ext_getElem?
    intro j
    by_cases hj : j < n
    · rw [rowL_get hj, List.getElem?_replicate, if_pos hj]; rfl
    · rw [List.getElem?_eq_none (by simp; omega), List.getElem?_eq_none (by rw [rowL_len]; omega)]
  rw [this]
  exact rowL_set (d := 0)
theorem rowL_congr {l l' : Nat → Option Nat} {n : Nat} (h : ∀ v, v < n → l v = l' v) : rowL l n = rowL l' n := by
  unfold rowL
  apply List.map_congr_left
  intro v hv
  unfold leftI
  rw [h v (by simpa using hv)]
def StepsRes (w : World) (n : Nat) (l : Nat → Option Nat) (e : Ending) (w' : World) : Prop := ∃ g c, e = .returned (.slice (some ⟨g, 0, none⟩) n c) ∧ w'.ownsRow w.heap.size 2 1 (.slice (some ⟨g, 0, none⟩) n c) n (rowL l n) ∧ Below w.heap.size w w'
set_option maxRecDepth 100000 in
set_option maxHeartbeats 4000000 in
theorem steps_any {w0 : World} (p n gF : Nat) (B : Option Addr) (m c y : Nat) (bs : List Bd) (f : Nat → Int) (vA : Value) (uA : List Value) (w : World) (h : SNet w0 w p n gF B m c bs.length bs f vA uA) (hB : RdSl 3 RBd w0 B m bs) (hbo : BondsOk n bs) (hinv : InvF bs f) (hy : y < n) (hn : n ≤ 100000) (hm : m ≤ 100000) :
    Calls Tryz.prog 140 #[.pointer (some ⟨p, 0, none⟩), .int .i64 (y : Int)] w (StepsRes w n (distTo n (edgeB bs f) y)) := by
  obtain ⟨i1, hi', hz0', hz1', hz2'⟩ := info_parts infoI
  have hN := Lib.hid h
  have hBH := Lib.hid hB
  have hboH := Lib.hid hbo
  have hinvH := Lib.hid hinv
  have k0 := h.c0
  have lp := h.lt
  have hml := Lib.hid hB.len
  clear h hB hbo hinv
  go_enter Tryz.func140, Tryz.ntmps140
  go_wp2
  go_loopg [6, 5] n (fun gk x v wr => ∃ k : Nat, k + gk = n ∧ x = .int .i64 (k : Int) ∧ Hid (wr.ownsRow w.heap.size 2 1 v k (List.replicate k (.int .i64 (-1)))) ∧ Hid (Below w.heap.size w wr))
  case atStart => exact ⟨0, by omega, rfl, Lib.hid (World.ownsRow_made _ _ _ (Nat.le_refl _) (by decide) rfl), Lib.hid (bl_al (bl_refl _) _)⟩
  case round =>
    obtain ⟨k, hk, rfl, hrow, hbw⟩ := hrel
    have hsz := hbw.out.size
    have k1 := (hbw.out.cell (p := ⟨p, 0, none⟩) lp).trans k0
    have lp1 : p < wr.heap.size := by omega
    obtain ⟨A0, c0, rfl⟩ := ownsRow_form hrow.out
    by_cases hkn : k < n
    · go_wp2_with (at_builtin; refine wpList_append_own _ rfl _ _ 58 rfl w.heap.size 2 i1 (.int .i64 0) 1 8 Tryz.underlying58 hi' hz0' hz1' hz2' rfl (by decide) _ k (List.replicate k (.int .i64 (-1))) rfl (hrow.out.alloc _) ⟨wr.heap.size, 0, none⟩ 1 1 [.int .i64 (-1)] rfl rfl (cell_one_new _ _ _) (fun x hx => by simp at hx; subst hx; rfl) (by unfold maxLen; omega) (by omega) (by simp; omega) ?_; intro u3 w3 hown3 hgrow3 _; have hown3H := Lib.hid hown3; have hgrow3H := Lib.hid hgrow3; clear hown3 hgrow3)
      go_roundg (n - (k + 1))
      case measure => omega
      case rel =>
        refine ⟨k + 1, by omega, by go_num, Lib.hid ?_, Lib.hid (hbw.out.trans (below_app hsz (fun g e => (hrow.out.lt g e).1) hgrow3H.out))⟩
        have h3 := hown3H.out
        rw [show [Value.int .i64 (-1)] = List.replicate 1 (Value.int .i64 (-1)) from rfl, List.replicate_append_replicate] at h3
        exact h3
    · obtain rfl : k = n := by omega
      obtain ⟨wa, rfl⟩ : ∃ wa : World, wa = wr := ⟨_, rfl⟩
      obtain ⟨g0, cap0, hv⟩ : ∃ g0 cap0, Value.slice A0 k c0 = .slice (some ⟨g0, 0, none⟩) k cap0 := by
        rcases hrow.out.2 with ⟨_, h0⟩ | ⟨g, cap, cur, hv, _⟩
        · omega
        · exact ⟨g, cap, hv⟩
      injection hv with hv1 hv2 hv3
      subst hv1 hv3
      clear hv2 k0
      have hg0 := (hrow.out.lt g0 rfl)
      obtain ⟨hg1, hg2⟩ := hg0
      have cy := (hrow.out.cellAt y (by omega)).trans (show _ = some (Value.int .i64 (-1)) by rw [List.getElem?_replicate, if_pos hy])
      have fy := hrow.out.frozenAt y
      have hrow1 := (hrow.out.stored y (.int .i64 0)).1
      rw [rowL_start] at hrow1
      have hrow1H := Lib.hid hrow1
      have hbw1 := Lib.hid (hbw.out.setCell (p := ⟨g0, y, none⟩) hg1 (.int .i64 0))
      clear hrow1
      go_wp2
      go_loopg [8, 7] k (fun gk x q wr => ∃ (i : Nat) (L : List Nat) (l : Nat → Option Nat), i + gk = k ∧ x = .int .i64 (i : Int) ∧ Hid (Back k bs f y L l i 0) ∧ i ≤ L.length ∧ Hid (wr.ownsRow w.heap.size 2 1 (.slice (some ⟨g0, 0, none⟩) k c0) k (rowL l k)) ∧ Hid (wr.ownsRow wa.heap.size 2 1 q L.length ((intsI L).map (Value.int .i64))) ∧ Hid (Below w.heap.size w wr) ∧ wa.heap.size ≤ wr.heap.size)
      case atStart =>
        refine ⟨0, [y], _, by omega, rfl, Lib.hid (Back.start hy), by simp, Lib.hid (hrow1H.out.alloc _), Lib.hid ?_, Lib.hid (hbw1.out.alloc (by simp; exact hbw.out.size) _), by simp⟩
        have := World.ownsRow_lit (base := wa.heap.size) (e := 2) (size := 1) (wa.setCell ⟨g0, y, none⟩ (.int .i64 0)) #[.int .i64 (y : Int)] 1 (by simp) (by decide) rfl
        simpa [intsI] using this
      case round =>
        clear hbw1 hrow1H cy fy hbw hrow k1 lp1
        obtain ⟨i, L, l, hi, rfl, hbk, hiL, hrow, hque, hbw, hsz1⟩ := hrel
        have hLn := hbk.out.size
        have lp1 : p < wr.heap.size := by omega
        obtain ⟨Aq, cq, rfl⟩ := ownsRow_form hque.out
        by_cases hil : i < L.length
        · obtain ⟨u, hu⟩ : ∃ u, L[i]? = some u := ⟨_, List.getElem?_eq_getElem hil⟩
          obtain ⟨gq, cq', hvq⟩ : ∃ gq cq', Value.slice Aq L.length cq = .slice (some ⟨gq, 0, none⟩) L.length cq' := by
            rcases hque.out.2 with ⟨_, h0⟩ | ⟨g, cap, cur, hv, _⟩
            · omega
            · exact ⟨g, cap, hv⟩
          injection hvq with hv1 hv2 hv3
          subst hv1 hv3
          have cu := (hque.out.cellAt i (by omega)).trans (show _ = some (Value.int .i64 (u : Int)) by simp [intsI, hu])
          have lq := (hque.out.lt gq rfl).2
          have hun : u < k := hbk.out.lt i u hu
          obtain ⟨N, hNE⟩ : ∃ N, L.length = N := ⟨_, rfl⟩
          rw [hNE] at hil hque hLn hiL ⊢
          have hNH := Lib.hid hNE
          have huH := Lib.hid hu
          obtain ⟨K, hKE⟩ : ∃ K, (incL bs bs.length u).length = K := ⟨_, rfl⟩
          have hKH := Lib.hid hKE
          have hKm : K ≤ m := by
            rw [← hKE, ← hml.out]
            have := List.length_filter_le (incB bs u) (List.range bs.length)
            simpa [incL] using this
          clear hv2 hu hNE hKE
          go_wp2
          go_loopg [10, 7] K (fun gk x q wr => ∃ (t : Nat) (L : List Nat) (l : Nat → Option Nat), t + gk = K ∧ x = .int .i64 (t : Int) ∧ Hid (Back k bs f y L l i t) ∧ Hid (L[i]? = some u) ∧ Hid (wr.ownsRow w.heap.size 2 1 (.slice (some ⟨g0, 0, none⟩) k c0) k (rowL l k)) ∧ Hid (wr.ownsRow wa.heap.size 2 1 q L.length ((intsI L).map (Value.int .i64))) ∧ Hid (Below w.heap.size w wr) ∧ wa.heap.size ≤ wr.heap.size)
          case atStart => exact ⟨0, L, l, by omega, rfl, hbk, huH, hrow, by rw [hNH.out]; exact hque, hbw, hsz1⟩
          case round =>
            clear hbk huH hrow hque hbw hsz1 hLn hiL hil lq cu lp1 hNH
            obtain ⟨t, L, l, ht, rfl, hbk, hu, hrow, hque, hbw, hsz1⟩ := hrel
            have lp1 : p < wr.heap.size := by omega
            have hNw := Lib.hid (hN.out.below hbw.out)
            have k2 := hNw.out.c2
            obtain ⟨gA, cA, A', cA', hvA, lA, cAu, hinc⟩ := hNw.out.inc hun
            rw [hvA] at k2
            rw [hKH.out] at cAu
            have hLn := hbk.out.size
            obtain ⟨Aq, cq, rfl⟩ := ownsRow_form hque.out
            by_cases htK : t < K
            · obtain ⟨b, hb⟩ : ∃ b, (incL bs bs.length u)[t]? = some b := ⟨_, List.getElem?_eq_getElem (by rw [hKH.out]; exact htK)⟩
              obtain ⟨gI, rfl, lI, cI⟩ := hinc t b hb
              obtain ⟨e, he, hinc2⟩ := incL_mem (List.mem_of_getElem? hb)
              have hbm : b < m := by rw [← hml.out]; exact (List.getElem?_eq_some_iff.1 he).1
              have k3 := hNw.out.c1
              obtain ⟨bb, ob, hBe, hbb, hbc⟩ := (hBH.out.below RBd.stable hNw.out.bw).ptr (by omega)
              rw [hBe] at k3
              obtain ⟨e0, e1, e2⟩ := hbc b e he
              have hea := hboH.out.a b e he
              have heb := hboH.out.b b e he
              have hs4 := hboH.out.s b e he
              have hfi := hinvH.out b e he
              obtain ⟨v, hvE⟩ : ∃ v, oth e u = v := ⟨_, rfl⟩
              obtain ⟨r, hrE⟩ : ∃ r, rs e (f b) v = r := ⟨_, rfl⟩
              have hov : oth e v = u := by rw [← hvE]; exact (oth_of_jo (hboH.out.ne b e he) (jo_oth hinc2).2).2
              have hsum : (e.a : Int) + (e.b : Int) - (u : Int) = (v : Int) := by
                rw [← hvE]
                unfold oth
                by_cases h1 : e.a = u
                · rw [if_pos h1]; omega
                · rw [if_neg h1]
                  have := hinc2.resolve_left h1
                  omega
              have hvn : v < k := by
                rw [← hvE]
                unfold oth
                split
                · exact heb
                · exact hea
              have hw1 : IntKind.i64.wrap ((e.a : Int) + (e.b : Int)) = (e.a : Int) + (e.b : Int) := IntWalk.i64_in _ ⟨by omega, by omega⟩
              have hw2 : IntKind.i64.wrap ((e.a : Int) + (e.b : Int) - (u : Int)) = (v : Int) := by rw [IntWalk.i64_in _ ⟨by omega, by omega⟩, hsum]
              have co := (hrow.out.cellAt v (by omega)).trans (rowL_get hvn)
              have fo := hrow.out.frozenAt v
              have lo := (hrow.out.lt g0 rfl).2
              have heH := Lib.hid he
              have hbH := Lib.hid hb
              have hincH := Lib.hid hinc2
              have hvEH := Lib.hid hvE
              have hrEH := Lib.hid hrE
              have hovH := Lib.hid hov
              clear hinc he hb hbc hBe hvA hvE hrE hinc2 hov hsum hea heb
              go_wp2
              refine wp_region_ord [(0, .q), (1, .q), (2, .q), (3, .q), (4, .q), (5, .q), (6, .q), (7, .q), (8, .q), (9, .q), (10, .q), (11, .q), (12, .q), (13, .q), (14, .q), (15, .q), (16, .q), (17, .q), (18, .q), (19, .q)] (by kernel_rfl) (by kernel_rfl) ?_
              simp only [pick, List.filterMap_cons, List.filterMap_nil, List.getElem?_toArray, List.getElem?_cons_zero, List.getElem?_cons_succ, Option.map_some]
              repeat (first | ((with_reducible refine wpD_p (fun K hK => ?_)); go_simp; refine hK _ ?_; clear hK K) | ((with_reducible refine wpD_q (fun K hK => ?_)); go_simp; (first | refine hK _ ?_ | (go_bits; refine hK _ ?_) | (go_bits; go_simp; refine hK _ ?_)); clear hK K))
              with_reducible refine wpD_nil ?_
              by_cases hvL : v ∈ L
              · obtain ⟨d, hd⟩ := (hbk.out.mem v hvn).1 hvL
                rw [show leftI l v = (d : Int) by unfold leftI; rw [hd]] at co
                have hnn : ¬ ((d : Int) < 0) := by omega
                have hnext := Lib.hid (hbk.out.skip hboH.out hu.out hbH.out heH.out (fun _ => by rw [hvEH.out]; exact hvL))
                clear hd
                go_wp2_with (go_at_call 147; refine (room_any p k gF _ m c bs.length v b bs f vA uA e _ (hNw.out.below (by exact bel_)) hBH.out heH.out hs4 hfi hrEH.out hovH.out).mono ?_; rintro x w4 ⟨rfl, hb4⟩; have hb4' := Lib.hid (show Below wr.heap.size wr w4 by exact bel_); have hrow4 := Lib.hid (ownsRow_below hrow.out hb4'.out); have hque4 := Lib.hid (ownsRow_below hque.out hb4'.out); have co4 := (hb4'.out.cell (p := ⟨g0, v, none⟩) lo).trans co; have lo4 := (hrow4.out.lt g0 rfl).2; have hs4' := hb4'.out.size; clear hb4)
                go_roundg (K - (t + 1))
                case measure => omega
                case rel => exact ⟨t + 1, L, l, by omega, by go_num, hnext, hu, hrow4, hque4, Lib.hid (hbw.out.trans (hb4'.out.mono hbw.out.size)), by omega⟩
              · have hln : l v = none := by
                  cases hl : l v with
                  | none => rfl
                  | some d => exact (hvL ((hbk.out.mem v hvn).2 ⟨d, hl⟩)).elim
                rw [show leftI l v = -1 by unfold leftI; rw [hln]] at co
                by_cases hr0 : 0 < r
                · obtain ⟨au, hau⟩ := (hbk.out.mem u hun).1 (List.mem_of_getElem? hu.out)
                  have hnext := Lib.hid (hbk.out.found hboH.out hu.out hau hbH.out heH.out hincH.out (by rw [hvEH.out, hrEH.out]; exact hr0) (by rw [hvEH.out]; exact hvL))
                  rw [hvEH.out] at hnext
                  have cu2 := (hrow.out.cellAt u (by omega)).trans (rowL_get hun)
                  rw [show leftI l u = (au : Int) by unfold leftI; rw [hau]] at cu2
                  have hau2 : au ≤ 100000 := by
                    have h1 := hbk.out.bd i u au hu.out hau
                    have h2 := (List.getElem?_eq_some_iff.1 hu.out).1
                    omega
                  have hauH := Lib.hid hau
                  have hu2 := Lib.hid (show (L ++ [v])[i]? = some u by rw [List.getElem?_append_left (List.getElem?_eq_some_iff.1 hu.out).1]; exact hu.out)
                  obtain ⟨N, hNE⟩ : ∃ N, L.length = N := ⟨_, rfl⟩
                  rw [hNE] at hque hLn ⊢
                  have hNH := Lib.hid hNE
                  clear hln hau hNE
                  go_wp2_with (first
                    | (go_at_call 147; refine (room_any p k gF _ m c bs.length v b bs f vA uA e _ (hNw.out.below (by exact bel_)) hBH.out heH.out hs4 hfi hrEH.out hovH.out).mono ?_; rintro x w4 ⟨rfl, hb4⟩; have hb4' := Lib.hid (show Below wr.heap.size wr w4 by exact bel_); have hrow4 := Lib.hid (ownsRow_below hrow.out hb4'.out); have hque4 := Lib.hid (ownsRow_below hque.out hb4'.out); have co4 := (hb4'.out.cell (p := ⟨g0, v, none⟩) lo).trans co; have cu4 := (hb4'.out.cell (p := ⟨g0, u, none⟩) lo).trans cu2; have fo4 := hrow4.out.frozenAt v; have lo4 := (hrow4.out.lt g0 rfl).2; have hs4' := hb4'.out.size; have hrow5 := Lib.hid ((hrow4.out.stored v (.int .i64 ((au : Int) + 1))).1); have hque5 := Lib.hid (ownsRow_setCell_below hque4.out (a := ⟨g0, v, none⟩) hg2 (.int .i64 ((au : Int) + 1))); have hnews := Lib.hid (show ∀ (j : Nat) (u : Value), [Value.int .i64 (v : Int)][j]? = some u → ((w4.setCell ⟨g0, v, none⟩ (.int .i64 ((au : Int) + 1))).alloc (Obj.cells #[.int .i64 (v : Int)] 2)).cell? ((⟨w4.heap.size, 0, none⟩ : Addr).add j) = some u by have := cell_one_new (w4.setCell ⟨g0, v, none⟩ (.int .i64 ((au : Int) + 1))) (.int .i64 (v : Int)) 2; simpa using this); clear hb4)
                    | (at_builtin; refine wpList_append_own _ rfl _ _ 58 rfl wa.heap.size 2 i1 (.int .i64 0) 1 8 Tryz.underlying58 hi' hz0' hz1' hz2' rfl (by decide) _ N ((intsI L).map (Value.int .i64)) rfl (hque5.out.alloc _) ⟨w4.heap.size, 0, none⟩ 1 1 [.int .i64 (v : Int)] rfl rfl hnews.out (fun x hx => by simp at hx; subst hx; rfl) (by unfold maxLen; omega) (by omega) (by simp; omega) ?_; intro u6 w6 hown6 hgrow6 _; have hown6H := Lib.hid hown6; have hgrow6H := Lib.hid hgrow6; clear hown6 hgrow6))
                  go_roundg (K - (t + 1))
                  case measure => omega
                  case rel =>
                    have hb6 := below_app (W := w4.setCell ⟨g0, v, none⟩ (.int .i64 ((au : Int) + 1))) (B0 := wa.heap.size) (by simp; omega) (fun g e => (hque5.out.lt g e).1) hgrow6H.out
                    have h6s := hb6.size
                    simp at h6s
                    refine ⟨t + 1, L ++ [v], _, by omega, by go_num, hnext, hu2, Lib.hid ?_, Lib.hid ?_, Lib.hid ?_, by omega⟩
                    · have h5 := ownsRow_grown hrow5.out (w' := w6) (fun b hb => by
                        have hb2 : some g0 = some b := hb
                        injection hb2 with hb3
                        rw [← hb3]
                        exact hb6.block _ hg2)
                      rw [show ((au : Int) + 1) = ((au + 1 : Nat) : Int) by omega, rowL_set] at h5
                      exact h5
                    · rw [List.length_append, hNH.out]
                      have h6 := hown6H.out
                      simpa [intsI] using h6
                    · exact ((hbw.out.trans (hb4'.out.mono hbw.out.size)).setCell (p := ⟨g0, v, none⟩) hg1 _).trans (hb6.mono (by omega))
                · have hnr : ¬ (0 < r) := hr0
                  have hnext := Lib.hid (hbk.out.skip hboH.out hu.out hbH.out heH.out (fun h => by rw [hvEH.out, hrEH.out] at h; exact (hr0 h).elim))
                  clear hln
                  go_wp2_with (go_at_call 147; refine (room_any p k gF _ m c bs.length v b bs f vA uA e _ (hNw.out.below (by exact bel_)) hBH.out heH.out hs4 hfi hrEH.out hovH.out).mono ?_; rintro x w4 ⟨rfl, hb4⟩; have hb4' := Lib.hid (show Below wr.heap.size wr w4 by exact bel_); have hrow4 := Lib.hid (ownsRow_below hrow.out hb4'.out); have hque4 := Lib.hid (ownsRow_below hque.out hb4'.out); have co4 := (hb4'.out.cell (p := ⟨g0, v, none⟩) lo).trans co; have lo4 := (hrow4.out.lt g0 rfl).2; have hs4' := hb4'.out.size; clear hb4)
                  go_roundg (K - (t + 1))
                  case measure => omega
                  case rel => exact ⟨t + 1, L, l, by omega, by go_num, hnext, hu, hrow4, hque4, Lib.hid (hbw.out.trans (hb4'.out.mono hbw.out.size)), by omega⟩
            · obtain rfl : t = K := by omega
              have hdone := Lib.hid (Back.done (u := u) (by rw [hKH.out]; exact hbk.out) hu.out)
              have hil := (List.getElem?_eq_some_iff.1 hu.out).1
              go_wp2
              go_roundg (k - (i + 1))
              case measure => omega
              case rel => exact ⟨i + 1, L, l, by omega, by go_num, hdone, by omega, hrow, hque, hbw, hsz1⟩
        · obtain rfl : i = L.length := by omega
          have hdist := Lib.hid (hbk.out.dist hy)
          go_wp2
          go_ret
          refine ⟨g0, c0, rfl, ?_, hbw.out⟩
          rw [← rowL_congr hdist.out]
          exact hrow.out
end Go.Proofs.YtmpmokefgdjnkaaGreat
