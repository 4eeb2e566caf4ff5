/- Walk: the reference's system of a shape. -/
import Derived.Test.YtdcndhiidjgmaaaGreatDoorSy0
import Derived.Test.YtdcndhiidjgmaaaGreatDoorDn
import Derived.Test.YtdcndhiidjgmaaaGreatDoorKG
import Derived.Test.YtdcndhiidjgmaaaGreatDoorKF
namespace Go.Proofs.YtdcndhiidjgmaaaGreatDoor
open Go.RowKit Go.Shelf
set_option linter.unusedSimpArgs false
set_option linter.unusedVariables false
attribute [local go_sem] BelowBy.cell BelowBy.cell_drew stillUpon givesUpon

theorem Opposite_opp (d : Nat) (w : World) (hd : d < 4) : Calls Tryz.prog 52 #[.int .i64 (d : Int)] w fun e w' => e = .returned (.int .i64 (oppN d : Int)) ∧ w = w' := by
  rw [oppN_back d hd]; exact Opposite_back d w hd
def SyL (w : World) (ps : List Pt) (rn : Nat) (solid : Bool) (e : Ending) (w' : World) : Prop :=
  ∃ A B C ca cb cc us, e = .returned (.agg #[.slice A (shapeG ps rn solid).1.length ca, .slice B (shapeG ps rn solid).2.length cb, .slice C (shapeL ps rn solid).length cc, .int .i64 2]) ∧ OwnSy w' w.heap.size w'.heap.size A B C ca cb cc us ⟨(shapeG ps rn solid).1, (shapeG ps rn solid).2, shapeL ps rn solid, 2⟩ ∧ Below w.heap.size w w'
theorem made4L {w : World} {base b k : Nat} {o : Obj} (hb : base ≤ b) (h : w.heap[b]? = some (Obj.cells #[.int .i64 0, .int .i64 0, .int .i64 0, .int .i64 0] 2)) : (w.alloc o).ownsRow base 2 1 (.slice (some ⟨b, 0, none⟩) 4 4) (tileP k).sides.length (flatC encI (tileP k).sides) := by
  refine World.ownsRow.alloc (w := w) ?_ o
  exact ⟨rfl, .inr ⟨b, 4, #[.int .i64 0, .int .i64 0, .int .i64 0, .int .i64 0], rfl, hb, h, Nat.le_refl _, by decide, by simp, rfl⟩⟩
set_option maxRecDepth 100000 in
set_option maxHeartbeats 8000000 in
theorem l22System_any (A : Option Addr) (n c : Nat) (ps : List Pt) (rn : Nat) (solid : Bool) (w : World) (h : RdSl 2 RPt w A n ps) (hS : Shp ps) (hn : n ≤ 160) (hr : rn < n) :
    Calls Tryz.prog 27 #[.slice A n c, .int .i64 rn, .bool solid] w (SyL w ps rn solid) := by
  obtain ⟨iT, hiT, hT0, hT1, hT2⟩ := info_parts infoTi
  obtain ⟨iG, hiG, hG0, hG1, hG2⟩ := info_parts infoGl
  have hl := Lib.hid h.len
  have hH := Lib.hid h
  have hSH := Lib.hid hS
  clear h hS
  go_enter Tryz.func27, Tryz.ntmps27
  go_wp2_with fail
  refine (l22Ways_any A n c ps rn _ (hH.out.below RPt.stable (bl_al (bl_refl _) _)) hSH.out (by omega) hr).mono ?_
  unfold WaysR
  rw [hl.out]
  rintro e w2 ⟨Ap, cp, As, cs, rfl, hP, hQ, hb2⟩
  have hb2H := Lib.hid (show Below w.heap.size w w2 from (bl_al (bl_refl _) _).trans (hb2.mono (by simp)))
  obtain ⟨par, hpar⟩ : ∃ par, (ways (nbP ps) n rn).1 = par := ⟨_, rfl⟩
  rw [hpar] at hP
  have hparH := Lib.hid (show (ways (nbP ps) ps.length rn).1 = par by rw [hl.out]; exact hpar)
  have hPH := Lib.hid (ownsRow_lo hP (show w.heap.size ≤ _ by simp))
  have bR := Lib.hid ((Bx.made w [.slice none 0 0, .slice none 0 0, .slice none 0 0, .int .i64 0] 32).below hb2)
  have hsz2 := hb2H.out.size
  have lR := bR.out.lt
  obtain ⟨gp, rfl⟩ : ∃ g, Ap = some ⟨g, 0, none⟩ := by
    rcases hPH.out.2 with ⟨_, h0⟩ | ⟨g, cap, cur, hv, _⟩
    · omega
    · injection hv with e; exact ⟨g, e⟩
  have hgp := (hPH.out.lt gp rfl).2
  have hpn : par.length = n := by have := hPH.out.1; rw [intsQ_len] at this; omega
  clear hP hQ hb2 hpar
  go_wp2
  go_loopg [10] n (fun g i wr => ∃ (k : Nat) (us : List Value) (B2 : Option Addr) (c2 : Nat), k + g = n ∧ i = .int .i64 (k : Int) ∧ Hid (us.length = k) ∧ Hid (OwnT wr (w2.heap.size + 1) 59 2 (.slice B2 k c2) us (tiles0 k)) ∧ Hid (Bx wr w2.heap.size [.slice none 0 0, .slice B2 k c2, .slice none 0 0, .int .i64 2]) ∧ Hid (Below w2.heap.size w2 wr))
  case atStart => exact ⟨0, [], none, 0, by omega, rfl, Lib.hid rfl, Lib.hid (OwnT.nil _ _ _ _), Lib.hid (Bx.made w2 [.slice none 0 0, .slice none 0 0, .slice none 0 0, .int .i64 2] 32), Lib.hid (bl_al (bl_refl _) _)⟩
  case round =>
    obtain ⟨k, us, B2, c2, hk, rfl, hul, hO, bS, hbw⟩ := hrel
    have hszl := hbw.out.size
    have y1 := bS.out.cell 1 _ rfl
    have f1 := bS.out.froz 1
    have lS := bS.out.lt
    by_cases hkn : k < n
    · obtain ⟨nd, hnd⟩ : ∃ nd, decN k = nd := ⟨_, rfl⟩
      have hz3 : nd.size ≤ 3 := by rw [← hnd]; exact decN_size (by omega)
      have hz1 : (⟨#[112]⟩ : ByteArray).size = 1 := rfl
      have hcat := fun W : World => run_string_add_sum (P := Tryz.prog) (w := W) ⟨#[112]⟩ nd (by rw [hz1]; omega)
      obtain ⟨nm, hnm⟩ : ∃ nm, (⟨#[112]⟩ : ByteArray) ++ nd = nm := ⟨_, rfl⟩
      rw [hnm] at hcat
      have hnmT : (tileP k).name = nm := by rw [← hnm, ← hnd]; rfl
      have hndH := Lib.hid hnd
      have hnmH := Lib.hid hnmT
      clear hnd hnm hnmT
      go_wp2_with fail
      refine wp_region_flV slV 6 [(0, .p), (1, .p), (2, .q), (3, .q), (4, .g), (5, .q)] [(7, .p), (8, .g), (9, .b), (10, .p), (11, .p), (12, .b)] _ (Obj.cells #[.int .i64 0, .int .i64 0, .int .i64 0, .int .i64 0] 2) (by kernel_rfl) (by kernel_rfl) (by kernel_rfl) (by kernel_rfl) rfl (fun a w => ⟨rfl, by unfold slV; go_simp⟩) ?_
      simp only [pick, List.filterMap_cons, List.filterMap_nil, List.getElem?_toArray, List.getElem?_cons_zero, List.getElem?_cons_succ, Option.map_some]
      repeat (first | ((with_reducible refine wpL_p (fun K hK => ?_)); go_simp; refine hK _ ?_; clear hK K) | ((with_reducible refine wpL_q (fun K hK => ?_)); go_simp; (first | refine hK _ ?_ | (go_bits; refine hK _ ?_) | (go_bits; go_simp; refine hK _ ?_)); clear hK K))
      with_reducible refine wpL_g rfl (fun K hK st4 u4 mv4 => ?_)
      have hu4 := mv4.below
      have fu4 := (FlAt.none (Obj.cells #[.int .i64 0, .int .i64 0, .int .i64 0, .int .i64 0] 2) (World.drew wr)).mv mv4
      have j4 : Below wr.heap.size wr u4 := (Below.refl _ wr).drew.trans (hu4.mono (Nat.le_refl _))
      clear mv4
      go_simp
      refine (lDecimal_n (u := k) _ (by omega) hndH.out).mono ?_
      rintro e wb ⟨rfl, hb6⟩
      refine ⟨_, rfl, hb6, hK _ _ _ ?_⟩
      clear hK K
      have fd4 := fu4.below hb6
      have j5 : Below wr.heap.size wr wb := j4.trans (hb6.mono j4.size)
      repeat (first | ((with_reducible refine wpL_p (fun K hK => ?_)); go_simp; refine hK _ ?_; clear hK K) | ((with_reducible refine wpL_q (fun K hK => ?_)); go_simp; (first | refine hK _ ?_ | (go_bits; refine hK _ ?_) | (go_bits; go_simp; refine hK _ ?_)); clear hK K))
      with_reducible refine wpL_nil (fun b9 wc mvF => ?_)
      have huF := mvF.below
      obtain ⟨fl9, fb9⟩ := (fd4.mv mvF).2 _ rfl
      have j8 : Below wr.heap.size wr wc := j5.trans (huF.mono j5.size)
      clear mvF
      simp only [World.size_drew] at fl9
      simp only [slV]
      repeat (first | ((with_reducible refine wpD_p (fun K hK => ?_)); go_simp; refine hK _ ?_; clear hK K) | ((with_reducible refine wpD_q (fun K hK => ?_)); go_simp; (first | refine hK _ ?_ | (go_bits; refine hK _ ?_) | (go_bits; go_simp; refine hK _ ?_)); clear hK K))
      with_reducible refine wpD_g (fun K hK => ?_)
      go_simp
      refine ⟨Grew.of_alloc _, hK _ _ ?_⟩
      clear hK K
      have hA4 : Below wc.heap.size wc (wc.alloc (Obj.cells #[Value.string nm, Value.slice (some ⟨b9, 0, none⟩) 4 4] 59)) := bl_al (bl_refl _) _
      have j9 : Below wr.heap.size wr (wc.alloc (Obj.cells #[Value.string nm, Value.slice (some ⟨b9, 0, none⟩) 4 4] 59)) := j8.trans (hA4.mono j8.size)
      have hs8 := j8.size
      have hO9 := Lib.hid (hO.out.below j9)
      have hout := hO9.out.outer
      rw [hul.out] at hout
      refine wpD_append_atN rfl _ _ 25 rfl (w2.heap.size + 1) 59 iT (.agg #[.string ByteArray.empty, .slice none 0 0]) 2 40 Tryz.underlying25 hiT hT0 hT1 hT2 rfl (by decide) (.slice B2 k c2) k (flatC encNU (((tiles0 k).map Ti.name).zip us)) (by go_simp) hout ⟨wc.heap.size, 0, none⟩ 1 1 [.string nm, .slice (some ⟨b9, 0, none⟩) 4 4] (by go_simp) rfl (cell_two_newN _ _ _ _) (fun x hx => by simp at hx; rcases hx with rfl | rfl <;> rfl) (by unfold maxLen; omega) (by omega) (by simp; omega) ?_
      intro v5 w5 hown5 hgrow5 hat5
      obtain ⟨A5, c5, rfl⟩ := ownsRow_form hown5
      have hx9 : (wc.alloc (Obj.cells #[Value.string nm, Value.slice (some ⟨b9, 0, none⟩) 4 4] 59)).ownsRow (w2.heap.size + 1) 2 1 (.slice (some ⟨b9, 0, none⟩) 4 4) (tileP k).sides.length (flatC encI (tileP k).sides) := made4L (by omega) fb9
      have hT5 : OwnT w5 (w2.heap.size + 1) 59 2 (.slice A5 (k + 1) c5) (us ++ [.slice (some ⟨b9, 0, none⟩) 4 4]) (tiles0 (k + 1)) := hO9.out.push hul.out hx9 (fun g e => by
        have e3 : b9 = g := by injection e
        clear e
        subst e3
        refine ⟨fun e2 => ?_, fun j u hu e2 => ?_⟩
        · have := (hO.out.lt _ e2).2; omega
        · have := (hO.out.ltIn hu _ e2).2; omega) (by rw [hnmH.out]; exact hown5) hgrow5 hat5
      have hT5H := Lib.hid hT5
      have hul5 := Lib.hid (show (us ++ [Value.slice (some ⟨b9, 0, none⟩) 4 4]).length = k + 1 by rw [List.length_append, hul.out]; rfl)
      have bS5 := Lib.hid ((bS.out.below j9).grown hgrow5 (fun e => by have := (hO.out.lt _ e).1; omega))
      have bw5 := Lib.hid ((hbw.out.trans (j9.mono hszl)).grown hgrow5 (by simp; omega) (fun g e => by have := (hO.out.lt g e).1; omega))
      have q1 := bS5.out.cell 1 _ rfl
      have qf := bS5.out.froz 1
      have ql := bS5.out.lt
      clear hown5 hgrow5 hat5 hT5 hx9 hA4 j9 hO9 hout fb9 fl9 j8 huF j5 j4 hu4 fu4 fd4 hb6 y1 f1 lS hbw bS hO
      repeat (first | ((with_reducible refine wpD_p (fun K hK => ?_)); go_simp; refine hK _ ?_; clear hK K) | ((with_reducible refine wpD_q (fun K hK => ?_)); go_simp; (first | refine hK _ ?_ | (go_bits; refine hK _ ?_) | (go_bits; go_simp; refine hK _ ?_)); clear hK K))
      with_reducible refine wpD_b (fun K hK => ?_)
      go_simp
      refine hK _ _ ?_
      clear hK K
      with_reducible refine wpD_nil ?_
      go_wp2
      go_roundg (n - (k + 1))
      case measure => omega
      case rel => exact ⟨k + 1, _, A5, c5, by omega, by go_num, hul5, Lib.hid (hT5H.out.setBelow (p := ⟨w2.heap.size, 1, none⟩) (Nat.lt_succ_self _) _), Lib.hid (bS5.out.setSame 1 _), Lib.hid (bw5.out.setCell (p := ⟨w2.heap.size, 1, none⟩) (Nat.le_refl _) _)⟩
    · obtain rfl : k = n := by omega
      obtain ⟨B, hB⟩ : ∃ B, B = w2.heap.size := ⟨_, rfl⟩
      have hszB : B < wr.heap.size := by omega
      clear y1 f1 lS
      rw [← hB] at hO bS ⊢
      have hBl : w2.heap.size ≤ B := by omega
      have hBH := Lib.hid hB
      clear hB
      go_wp2
      go_loopg [11] k (fun g i wr => ∃ (v : Nat) (st : GT) (us : List Value) (A1 : Option Addr) (c1 : Nat) (B2 : Option Addr) (c2 : Nat), v + g = k ∧ i = .int .i64 (v : Int) ∧ Hid (glueI ps par solid ([], tiles0 k) v = st) ∧ Hid (OwnT wr (B + 1) 59 2 (.slice B2 k c2) us st.2) ∧ Hid (wr.ownsRow (B + 1) 69 2 (.slice A1 st.1.length c1) st.1.length (flatC encGl st.1)) ∧ Hid (Bx wr B [.slice A1 st.1.length c1, .slice B2 k c2, .slice none 0 0, .int .i64 2]) ∧ Hid (Below w2.heap.size w2 wr) ∧ B < wr.heap.size)
      case atStart => exact ⟨0, ([], tiles0 k), us, none, 0, B2, c2, by omega, rfl, Lib.hid rfl, hO, Lib.hid (World.ownsRow_nil _ _ _ _), bS, hbw, hszB⟩
      case round =>
        clear hO bS hbw hszl hszB hul
        obtain ⟨v, st, us, A1, c1, B2, c2, hv, rfl, hst, hO, hG, bS, hbw, hszB⟩ := hrel
        by_cases hvn : v < k
        · obtain ⟨⟨px, py⟩, hp⟩ := ((hH.out.below RPt.stable hb2H.out).below RPt.stable hbw.out).get hvn
          have hpt := hSH.out.pt v _ hp
          simp only at hpt
          have hpH := Lib.hid hp
          obtain ⟨pv, hpv⟩ : ∃ pv, par[v]? = some pv := ⟨_, List.getElem?_eq_getElem (by omega)⟩
          have hpvH := Lib.hid hpv
          have c4 := (hPH.out.cellAt v (by omega)).trans (intsQ_get hpv)
          have c4H := Lib.hid c4
          clear hp hpv c4
          go_wp2
          go_loopg [12] 2 (fun g i wy => ∃ (j : Nat) (sj : GT) (A1 : Option Addr) (c1 : Nat), j + g = 2 ∧ i = .int .i64 (1 - (j : Int)) ∧ Hid (glueJ ps par solid v st j = sj) ∧ Hid (OwnT wy (B + 1) 59 2 (.slice B2 k c2) us sj.2) ∧ Hid (wy.ownsRow (B + 1) 69 2 (.slice A1 sj.1.length c1) sj.1.length (flatC encGl sj.1)) ∧ Hid (Bx wy B [.slice A1 sj.1.length c1, .slice B2 k c2, .slice none 0 0, .int .i64 2]) ∧ Hid (Below w2.heap.size w2 wy) ∧ B < wy.heap.size)
          case atStart => exact ⟨0, st, A1, c1, by omega, rfl, Lib.hid rfl, hO, hG, bS, hbw, hszB⟩
          case round =>
            clear hO hG bS hbw hszB
            obtain ⟨j, sj, A1, c1, hj, rfl, hsj, hO, hG, bS, hbw, hszB⟩ := hrel
            by_cases hj2 : j < 2
            · obtain ⟨d, hd⟩ : ∃ d, 1 - j = d := ⟨_, rfl⟩
              have hd4 : d < 4 := by omega
              have hdH := Lib.hid hd
              have hdl1 : (d : Int) + (j : Int) ≤ 1 := by omega
              have hdl2 : 1 ≤ (d : Int) + (j : Int) := by omega
              rw [show (1 : Int) - (j : Int) = (d : Int) by omega]
              have hd0 : (0 : Int) ≤ (d : Int) := by omega
              have hAy := Lib.hid ((hH.out.below RPt.stable hb2H.out).below RPt.stable hbw.out)
              obtain ⟨bb, ob, rfl, hbb, hbc⟩ := hAy.out.ptr (by omega)
              obtain ⟨p0, p1⟩ := hbc v _ hpH.out
              simp only at p0 p1
              obtain ⟨sx, hsxe⟩ : ∃ sx, stepX px (d : Nat) = sx := ⟨_, rfl⟩
              obtain ⟨sy, hsye⟩ : ∃ sy, stepY py (d : Nat) = sy := ⟨_, rfl⟩
              have hsr : (-62 ≤ sx ∧ sx ≤ 62) ∧ (-62 ≤ sy ∧ sy ≤ 62) := by
                rw [← hsxe, ← hsye]
                have : d = 0 ∨ d = 1 ∨ d = 2 ∨ d = 3 := by omega
                rcases this with rfl | rfl | rfl | rfl <;> simp [stepX, stepY] <;> omega
              have hsxH := Lib.hid hsxe
              have hsyH := Lib.hid hsye
              have hvI : (v : Int) < (k : Int) := by omega
              clear hsxe hsye hd hbc
              cases hix : idxP ps sx sy with
              | none =>
                have hnb := Lib.hid (show nbP ps v d = none by unfold nbP; rw [hpH.out]; simp only; rw [hsxH.out, hsyH.out]; exact hix)
                have hri := Lib.hid (idxI_none hix)
                clear hix
                go_wp2_with (first
                  | (go_at_call 51; refine (l01Step_to _ hd4 ⟨by omega, by omega⟩ ⟨by omega, by omega⟩ hsxH.out hsyH.out).mono ?_; rintro e' w3 ⟨rfl, hb3⟩; have hs3 := hb3.size; have hb3H := Lib.hid hb3; clear hb3)
                  | (go_at_call 50; refine (l22Place_at (ps := ps) (hAy.out.below RPt.stable hb3H.out) hSH.out (by omega) hri.out).mono ?_; rintro e' w4 ⟨rfl, hb4⟩; have hs4 := hb4.size; have hb4H := Lib.hid hb4; clear hb4))
                have hb5 : Hid (Below wr.heap.size wr w4) := Lib.hid ((hb3H.out).trans (hb4H.out.mono hs3))
                go_roundg (2 - (j + 1))
                case measure => omega
                case rel => exact ⟨j + 1, sj, A1, c1, by omega, by go_num, Lib.hid (show glue1 ps par solid v (1 - j) (glueJ ps par solid v st j) = sj by rw [hdH.out, glue1_none hnb.out]; exact hsj.out), Lib.hid (hO.out.below hb5.out), Lib.hid (ownsRow_below hG.out hb5.out), Lib.hid (bS.out.below hb5.out), Lib.hid (hbw.out.trans (hb5.out.mono hbw.out.size)), by omega⟩
              | some rI =>
                have hkp := idxP_some hix
                have hnb := Lib.hid (show nbP ps v d = some rI by unfold nbP; rw [hpH.out]; simp only; rw [hsxH.out, hsyH.out]; exact hix)
                have hrk : rI < k := by rw [← hl.out]; exact (List.getElem?_eq_some_iff.1 hkp).1
                have hri := Lib.hid (idxI_some hix)
                clear hix hkp
                obtain ⟨pk, hpk⟩ : ∃ pk, par[rI]? = some pk := ⟨_, List.getElem?_eq_getElem (by omega)⟩
                have c5 := (hPH.out.cellAt rI (by omega)).trans (intsQ_get hpk)
                have hpkH := Lib.hid hpk
                have rI0 : (0 : Int) ≤ (rI : Int) := by omega
                have rIk : (rI : Int) < (k : Int) := by omega
                clear hpk
                go_wp2_with (first
                  | (go_at_call 51; refine (l01Step_to _ hd4 ⟨by omega, by omega⟩ ⟨by omega, by omega⟩ hsxH.out hsyH.out).mono ?_; rintro e' w3 ⟨rfl, hb3⟩; have hs3 := hb3.size; have hb3H := Lib.hid hb3; clear hb3)
                  | (go_at_call 50; refine (l22Place_at (ps := ps) (hAy.out.below RPt.stable hb3H.out) hSH.out (by omega) hri.out).mono ?_; rintro e' w4 ⟨rfl, hb4⟩; have hs4 := hb4.size; have hb4H := Lib.hid hb4; clear hb4))
                have hb5 := hb3H.out.trans (hb4H.out.mono hs3)
                have hO4 := Lib.hid (hO.out.below hb5)
                have hG4 := Lib.hid (ownsRow_below hG.out hb5)
                have bS4 := Lib.hid (bS.out.below hb5)
                have bw4 := Lib.hid (hbw.out.trans (hb5.mono hbw.out.size))
                have q4 := (bw4.out.cell (p := ⟨gp, v, none⟩) hgp).trans c4H.out
                have q5 := (bw4.out.cell (p := ⟨gp, rI, none⟩) hgp).trans c5
                have lq : gp < w4.heap.size := Nat.lt_of_lt_of_le hgp bw4.out.size
                have hszB4 : B < w4.heap.size := by omega
                clear hb5 hO hG bS hbw hszB hb3H hb4H hs3 hs4 hAy c5 p0 p1 hbb hri
                by_cases hp1' : pv = (d : Int)
                · have hS2 := Lib.hid (show strS par solid v d rI = 2 by unfold strS; rw [if_pos (.inl (by rw [hpvH.out, hp1']))])
                  subst hp1'
                  go_wp2_with fail
                  refine wp_region_ord [(0, .q), (1, .q), (2, .q), (3, .q), (4, .q), (5, .q), (6, .q), (7, .q), (8, .q), (9, .q), (10, .q), (11, .q), (12, .g), (13, .q), (14, .q)] (by kernel_rfl) (by kernel_rfl) ?_
                  simp only [pick, List.filterMap_cons, List.filterMap_nil, List.getElem?_toArray, List.getElem?_cons_zero, List.getElem?_cons_succ, Option.map_some]
                  repeat (first
                    | ((with_reducible refine wpD_p (fun K hK => ?_)); go_simp; refine hK _ ?_; clear hK K)
                    | ((with_reducible refine wpD_q (fun K hK => ?_)); go_simp; (first | refine hK _ ?_ | (go_bits; refine hK _ ?_) | (go_bits; go_simp; refine hK _ ?_)); clear hK K)
                    | ((with_reducible refine wpD_g (fun K hK => ?_)); go_simp; refine hK _ _ ?_; clear hK K)
                    | ((with_reducible refine wpD_g (fun K hK => ?_)); go_simp; refine ⟨Grew.of_alloc _, hK _ _ ?_⟩; clear hK K)
                    | ((with_reducible refine wpD_g (fun K hK => ?_)); go_simp; go_at_call 52; refine (Opposite_opp d _ hd4).mono ?_; rintro e _ ⟨rfl, rfl⟩; refine ⟨_, rfl, Below.refl _ _, hK _ _ ?_⟩; clear hK K))
                  with_reducible refine wpD_nil ?_
                  clear q4 q5 lq
                  have hdr : Below w4.heap.size w4 w4.drew := bl_dr (bl_refl _)
                  replace hO4 := Lib.hid (hO4.out.below hdr)
                  replace hG4 := Lib.hid (ownsRow_below hG4.out hdr)
                  replace bS4 := Lib.hid (bS4.out.below hdr)
                  replace bw4 := Lib.hid (bw4.out.trans (hdr.mono bw4.out.size))
                  replace hszB4 := Nat.lt_of_lt_of_le hszB4 hdr.size
                  obtain ⟨wd, hwd⟩ : ∃ wd, wd = w4.drew := ⟨_, rfl⟩
                  rw [← hwd] at hO4 hG4 bS4 bw4 hszB4 ⊢
                  clear hdr hwd
                  go_wp2_with fail
                  have hGI : GInvS k (0 + 2 * v + j) sj := by
                    rw [← hsj.out, ← hst.out]
                    exact (((GInvS.start k).I ps par _ v).J ps par _ v j)
                  obtain ⟨ng, hng⟩ : ∃ ng, sj.1.length = ng := ⟨_, rfl⟩
                  have hng2 : ng ≤ 322 := by
                    rw [← hng]
                    have := hGI.gl
                    omega
                  have hngH := Lib.hid hng
                  have hGx := hG4.out
                  have bSx := bS4.out
                  rw [hng] at hGx bSx
                  have hG5 := Lib.hid hGx
                  have bS5 := Lib.hid bSx
                  obtain ⟨t, ht⟩ : ∃ t, (⟨#[103]⟩ : ByteArray) ++ decN v = t := ⟨_, rfl⟩
                  obtain ⟨dv, hdv⟩ : ∃ dv, decN v = dv := ⟨_, rfl⟩
                  obtain ⟨dk, hdk⟩ : ∃ dk, decN rI = dk := ⟨_, rfl⟩
                  have hz3 : dv.size ≤ 3 := by rw [← hdv]; exact decN_size (by omega)
                  have hz4 : dk.size ≤ 3 := by rw [← hdk]; exact decN_size (by omega)
                  have hz1 : (⟨#[103]⟩ : ByteArray).size = 1 := rfl
                  have hz2 : (⟨#[95]⟩ : ByteArray).size = 1 := rfl
                  rw [hdv] at ht
                  have htz : t.size ≤ 4 := by rw [← ht, ByteArray.size_append]; omega
                  have hcat1 := fun W : World => run_string_add_sum (P := Tryz.prog) (w := W) ⟨#[103]⟩ dv (by rw [hz1]; omega)
                  rw [ht] at hcat1
                  have hcat2 := fun W : World => run_string_add_sum (P := Tryz.prog) (w := W) t ⟨#[95]⟩ (by rw [hz2]; omega)
                  have hcat3 := fun W : World => run_string_add_sum (P := Tryz.prog) (w := W) (t ++ ⟨#[95]⟩) dk (by rw [ByteArray.size_append, hz2]; omega)
                  obtain ⟨nm, hnm⟩ : ∃ nm, t ++ (⟨#[95]⟩ : ByteArray) ++ dk = nm := ⟨_, rfl⟩
                  rw [hnm] at hcat3
                  have hnmH := Lib.hid (show pairN ⟨#[103]⟩ v rI = nm by unfold pairN; rw [hdv, hdk, ht]; exact hnm)
                  have hdvH := Lib.hid hdv
                  have hdkH := Lib.hid hdk
                  have y0 := bS5.out.cell 0 _ rfl
                  have f0 := bS5.out.froz 0
                  have lS := bS5.out.lt
                  clear hGx bSx hG4 bS4 hng hnm hdv hdk ht hz1 hz2 htz hz3 hz4
                  refine wp_region_ord [(0, .q), (1, .q), (2, .q), (3, .q), (7, .q), (10, .q), (4, .g), (5, .q), (6, .q), (8, .g), (9, .q), (11, .q), (12, .g), (13, .b), (14, .q), (15, .q), (16, .b)] (by kernel_rfl) (by kernel_rfl) ?_
                  simp only [pick, List.filterMap_cons, List.filterMap_nil, List.getElem?_toArray, List.getElem?_cons_zero, List.getElem?_cons_succ, Option.map_some]
                  repeat (first | ((with_reducible refine wpD_p (fun K hK => ?_)); go_simp; refine hK _ ?_; clear hK K) | ((with_reducible refine wpD_q (fun K hK => ?_)); go_simp; (first | refine hK _ ?_ | (go_bits; refine hK _ ?_) | (go_bits; go_simp; refine hK _ ?_)); clear hK K))
                  with_reducible refine wpD_g (fun K hK => ?_)
                  go_simp
                  refine (lDecimal_n (u := v) _ (by omega) hdvH.out).mono ?_
                  rintro e w5a ⟨rfl, hb5a⟩
                  refine ⟨_, rfl, hb5a, hK _ _ ?_⟩
                  clear hK K
                  repeat (first | ((with_reducible refine wpD_p (fun K hK => ?_)); go_simp; refine hK _ ?_; clear hK K) | ((with_reducible refine wpD_q (fun K hK => ?_)); go_simp; (first | refine hK _ ?_ | (go_bits; refine hK _ ?_) | (go_bits; go_simp; refine hK _ ?_)); clear hK K))
                  with_reducible refine wpD_g (fun K hK => ?_)
                  go_simp
                  refine (lDecimal_n (u := rI) _ (by omega) hdkH.out).mono ?_
                  rintro e w5 ⟨rfl, hb5⟩
                  refine ⟨_, rfl, hb5, hK _ _ ?_⟩
                  clear hK K
                  have j5 : Below wd.heap.size wd w5 := ((bl_dr (bl_refl wd)).trans (hb5a.mono (by simp))).trans (hb5.mono (by have := hb5a.size; simp at this; omega))
                  repeat (first | ((with_reducible refine wpD_p (fun K hK => ?_)); go_simp; refine hK _ ?_; clear hK K) | ((with_reducible refine wpD_q (fun K hK => ?_)); go_simp; (first | refine hK _ ?_ | (go_bits; refine hK _ ?_) | (go_bits; go_simp; refine hK _ ?_)); clear hK K))
                  with_reducible refine wpD_g (fun K hK => ?_)
                  go_simp
                  refine ⟨Grew.of_alloc _, hK _ _ ?_⟩
                  clear hK K
                  have hA5 : Below w5.heap.size w5 (w5.alloc (Obj.cells #[Value.string nm, Value.int .i64 2] 69)) := bl_al (bl_refl _) _
                  have j6 : Below wd.heap.size wd (w5.alloc (Obj.cells #[Value.string nm, Value.int .i64 2] 69)) := j5.trans (hA5.mono j5.size)
                  have hs5 := j5.size
                  have hG6 := Lib.hid (ownsRow_below hG5.out j6)
                  refine wpD_append_atN rfl _ _ 24 rfl (B + 1) 69 iG (.agg #[.string ByteArray.empty, .int .i64 0]) 2 24 Tryz.underlying24 hiG hG0 hG1 hG2 rfl (by decide) (.slice A1 ng c1) ng (flatC encGl sj.1) (by go_simp) hG6.out ⟨w5.heap.size, 0, none⟩ 1 1 [.string nm, .int .i64 2] (by go_simp) rfl (cell_two_newN _ _ _ _) (fun x hx => by simp at hx; rcases hx with rfl | rfl <;> rfl) (by unfold maxLen; omega) (by omega) (by simp; omega) ?_
                  intro v7 w7 hown7 hgrow7 hat7
                  obtain ⟨A7, c7, rfl⟩ := ownsRow_form hown7
                  have j7 := (hO4.out.below j6)
                  have hO7 := Lib.hid (j7.keptG hG6.out (by decide) (by decide) hgrow7)
                  have bS7 := Lib.hid ((bS5.out.below j6).grown hgrow7 (fun e => by have := (hG6.out.lt _ e).1; omega))
                  have bw7 := Lib.hid ((bw4.out.trans (j6.mono bw4.out.size)).grown hgrow7 (by have := bw4.out.size; simp; omega) (fun g e => by have := (hG6.out.lt g e).1; omega))
                  have hG7 := Lib.hid (show w7.ownsRow (B + 1) 69 2 (.slice A7 (ng + 1) c7) (ng + 1) (flatC encGl (sj.1 ++ [⟨nm, 2⟩])) by rw [flatC_snoc]; exact hown7)
                  have hsw7 : B < w7.heap.size := by have h1 := hgrow7.size; have h2 := j6.size; omega
                  have z0 := bS7.out.cell 0 _ rfl
                  have zf := bS7.out.froz 0
                  have zl := bS7.out.lt
                  clear hown7 hgrow7 hat7 j7 hO4 bS5 bw4 hG6 hA5 j6 j5 hs5 hb5 hb5a hG5 y0 f0 lS hcat1 hcat2 hcat3
                  repeat (first | ((with_reducible refine wpD_p (fun K hK => ?_)); go_simp; refine hK _ ?_; clear hK K) | ((with_reducible refine wpD_q (fun K hK => ?_)); go_simp; (first | refine hK _ ?_ | (go_bits; refine hK _ ?_) | (go_bits; go_simp; refine hK _ ?_)); clear hK K))
                  with_reducible refine wpD_b (fun K hK => ?_)
                  go_simp
                  refine hK _ _ ?_
                  clear hK K
                  with_reducible refine wpD_nil ?_
                  have hO8 := Lib.hid (hO7.out.setBelow (p := ⟨B, 0, none⟩) (Nat.lt_succ_self _) (.slice A7 (ng + 1) c7))
                  have bS8 := Lib.hid (bS7.out.setSame 0 (.slice A7 (ng + 1) c7))
                  have hG8 := Lib.hid (ownsRow_setB hG7.out (p := ⟨B, 0, none⟩) (Nat.lt_succ_self _) (.slice A7 (ng + 1) c7))
                  have bw8 := Lib.hid (bw7.out.setCell (p := ⟨B, 0, none⟩) hBl (.slice A7 (ng + 1) c7))
                  obtain ⟨w8, hw8⟩ : ∃ w8, w8 = w7.setCell ⟨B, 0, none⟩ (.slice A7 (ng + 1) c7) := ⟨_, rfl⟩
                  have hsw8 : B < w8.heap.size := by rw [hw8]; simpa using hsw7
                  rw [← hw8] at hO8 bS8 hG8 bw8 ⊢
                  clear hw8 hO7 bS7 hG7 bw7 z0 zf zl hsw7
                  obtain ⟨tv, htv⟩ : ∃ t, sj.2[v]? = some t := ⟨_, List.getElem?_eq_getElem (by rw [hGI.len]; exact hvn)⟩
                  obtain ⟨bv, cv, huv, hbv1, hbv2, fv, hcv⟩ := hO8.out.sideAt hGI.four htv
                  obtain ⟨gT, cT, eT, hgT1, hgT2, hcT⟩ := hO8.out.outAt huv
                  have hus : us.length = k := hO8.out.len.trans hGI.len
                  rw [hus] at eT
                  clear hus
                  obtain ⟨eT1, eT3⟩ : B2 = some ⟨gT, 0, none⟩ ∧ c2 = cT := by
                    injection eT with e1 e2 e3
                    exact ⟨e1, e3⟩
                  clear eT
                  subst eT1 eT3
                  obtain ⟨xv, hxv⟩ := hcv d hd4
                  have fvd := fv d
                  have y0 := bS8.out.cell 0 _ rfl
                  have y1 := bS8.out.cell 1 _ rfl
                  have lS := bS8.out.lt
                  have huvH := Lib.hid huv
                  have htvH := Lib.hid htv
                  clear huv htv fv hcv
                  have hd4I : (d : Int) < 4 := by omega
                  go_wp2_with fail
                  refine wp_region_ord [(0, .q), (1, .q), (2, .q), (3, .q), (4, .q), (5, .q), (6, .q), (7, .q), (8, .q), (9, .q), (10, .q), (11, .q), (12, .q), (13, .b)] (by kernel_rfl) (by kernel_rfl) ?_
                  simp only [pick, List.filterMap_cons, List.filterMap_nil, List.getElem?_toArray, List.getElem?_cons_zero, List.getElem?_cons_succ, Option.map_some]
                  repeat (first
                    | ((with_reducible refine wpD_p (fun K hK => ?_)); go_simp; refine hK _ ?_; clear hK K)
                    | ((with_reducible refine wpD_q (fun K hK => ?_)); go_simp; (first | refine hK _ ?_ | (go_bits; refine hK _ ?_) | (go_bits; go_simp; refine hK _ ?_)); clear hK K)
                    | ((with_reducible refine wpD_g (fun K hK => ?_)); go_simp; refine hK _ _ ?_; clear hK K)
                    | ((with_reducible refine wpD_g (fun K hK => ?_)); go_simp; refine ⟨Grew.of_alloc _, hK _ _ ?_⟩; clear hK K))
                  with_reducible refine wpD_b (fun K hK => ?_)
                  go_simp
                  refine hK _ _ ?_
                  clear hK K
                  with_reducible refine wpD_nil ?_
                  have hdr8 : Below (w8.setCell ⟨bv, d, none⟩ (.int .i64 ((ng : Int) + 1))).heap.size (w8.setCell ⟨bv, d, none⟩ (.int .i64 ((ng : Int) + 1))) (w8.setCell ⟨bv, d, none⟩ (.int .i64 ((ng : Int) + 1))).drew := bl_dr (bl_refl _)
                  have hne7 : (Value.slice A7 (ng + 1) c7).ownBlock ≠ some bv := own_ne_own (hO8.out.inner v _ tv huvH.out htvH.out) hG8.out (by decide) rfl
                  have hO9 := Lib.hid ((hO8.out.setSide (d := d) ((ng : Int) + 1) huvH.out htvH.out).below hdr8)
                  have hG9 := Lib.hid (ownsRow_below (kept_set hG8.out bv d (.int .i64 ((ng : Int) + 1)) hne7) hdr8)
                  have bS9 := Lib.hid ((bS8.out.setOther (a := ⟨bv, d, none⟩) (show bv ≠ B by omega) (.int .i64 ((ng : Int) + 1))).below hdr8)
                  have bw9 := bw8.out.setCell (p := ⟨bv, d, none⟩) (show w2.heap.size ≤ bv by omega) (.int .i64 ((ng : Int) + 1))
                  replace bw9 := Lib.hid (bw9.trans (hdr8.mono bw9.size))
                  obtain ⟨w9, hw9⟩ : ∃ w9, w9 = (w8.setCell ⟨bv, d, none⟩ (.int .i64 ((ng : Int) + 1))).drew := ⟨_, rfl⟩
                  have hsw9 : B < w9.heap.size := by rw [hw9]; simpa using hsw8
                  rw [← hw9] at hO9 hG9 bS9 bw9 ⊢
                  clear hw9 hO8 hG8 bS8 bw8 hne7 y0 y1 lS hcT hxv fvd hbv1 hbv2 hgT1 hgT2 huvH htvH hdr8
                  obtain ⟨tk, htk⟩ : ∃ t, (setSide sj.2 v d ((ng : Int) + 1))[rI]? = some t := ⟨_, List.getElem?_eq_getElem (by rw [setSide_len, hGI.len]; exact hrk)⟩
                  obtain ⟨bk, ck, huk, hbk1, hbk2, fk, hck⟩ := hO9.out.sideAt (hGI.four.set v d _) htk
                  obtain ⟨g2, cT2, eT, hgT1, hgT2, hcT⟩ := hO9.out.outAt huk
                  obtain rfl : gT = g2 := by injection eT with e1 _ _; injection e1 with e1; injection e1
                  have ho4 : oppN d < 4 := opp4 hd4
                  have ho4I : ((oppN d : Nat) : Int) < 4 := by omega
                  obtain ⟨xk, hxk⟩ := hck (oppN d) ho4
                  have fkd := fk (oppN d)
                  have lT := hgT2
                  have y0 := bS9.out.cell 0 _ rfl
                  have y1 := bS9.out.cell 1 _ rfl
                  have lS := bS9.out.lt
                  have hukH := Lib.hid huk
                  have htkH := Lib.hid htk
                  clear huk htk fk hck eT
                  go_wp2_with fail
                  refine wp_region_ord [(0, .q), (1, .q), (2, .q), (3, .q), (4, .q), (5, .q), (6, .q), (7, .q), (9, .q), (10, .q), (11, .q), (12, .q), (8, .g), (13, .q), (14, .b)] (by kernel_rfl) (by kernel_rfl) ?_
                  simp only [pick, List.filterMap_cons, List.filterMap_nil, List.getElem?_toArray, List.getElem?_cons_zero, List.getElem?_cons_succ, Option.map_some]
                  repeat (first
                    | ((with_reducible refine wpD_p (fun K hK => ?_)); go_simp; refine hK _ ?_; clear hK K)
                    | ((with_reducible refine wpD_q (fun K hK => ?_)); go_simp; (first | refine hK _ ?_ | (go_bits; refine hK _ ?_) | (go_bits; go_simp; refine hK _ ?_)); clear hK K)
                    | ((with_reducible refine wpD_g (fun K hK => ?_)); go_simp; refine hK _ _ ?_; clear hK K)
                    | ((with_reducible refine wpD_g (fun K hK => ?_)); go_simp; refine ⟨Grew.of_alloc _, hK _ _ ?_⟩; clear hK K)
                    | ((with_reducible refine wpD_g (fun K hK => ?_)); go_simp; go_at_call 52; refine (Opposite_opp d _ hd4).mono ?_; rintro e _ ⟨rfl, rfl⟩; refine ⟨_, rfl, Below.refl _ _, hK _ _ ?_⟩; clear hK K))
                  with_reducible refine wpD_b (fun K hK => ?_)
                  go_simp
                  refine hK _ _ ?_
                  clear hK K
                  with_reducible refine wpD_nil ?_
                  have hdr : Below (w9.setCell ⟨bk, oppN d, none⟩ (.int .i64 ((ng : Int) + 1))).heap.size (w9.setCell ⟨bk, oppN d, none⟩ (.int .i64 ((ng : Int) + 1))) (w9.setCell ⟨bk, oppN d, none⟩ (.int .i64 ((ng : Int) + 1))).drew := bl_dr (bl_refl _)
                  have hne9 : (Value.slice A7 (ng + 1) c7).ownBlock ≠ some bk := own_ne_own (hO9.out.inner rI _ tk hukH.out htkH.out) hG9.out (by decide) rfl
                  have hO10 := Lib.hid ((hO9.out.setSide (d := oppN d) ((ng : Int) + 1) hukH.out htkH.out).below hdr)
                  have hG10 := Lib.hid (ownsRow_below (kept_set hG9.out bk (oppN d) (.int .i64 ((ng : Int) + 1)) hne9) hdr)
                  have bS10 := Lib.hid ((bS9.out.setOther (a := ⟨bk, oppN d, none⟩) (show bk ≠ B by omega) (.int .i64 ((ng : Int) + 1))).below hdr)
                  have bw10 := bw9.out.setCell (p := ⟨bk, oppN d, none⟩) (show w2.heap.size ≤ bk by omega) (.int .i64 ((ng : Int) + 1))
                  replace bw10 := Lib.hid (bw10.trans (hdr.mono bw10.size))
                  have hl10 : (sj.1 ++ [(⟨nm, 2⟩ : Gl)]).length = ng + 1 := by rw [List.length_append, hngH.out]; rfl
                  have hx10 : ((ng + 1 : Nat) : Int) = (ng : Int) + 1 := by omega
                  have hsj10 := Lib.hid (show glue1 ps par _ v (1 - j) (glueJ ps par _ v st j) = (sj.1 ++ [(⟨nm, 2⟩ : Gl)], setSide (setSide sj.2 v d ((ng : Int) + 1)) rI (oppN d) ((ng : Int) + 1)) by rw [hdH.out, hsj.out, glue1_some hnb.out hS2.out (by decide), hngH.out, hnmH.out, hx10])
                  have hlH := Lib.hid hl10
                  clear hl10 hx10 hO9 hG9 bS9 bw9 hne9 y0 y1 lS lT hcT hxk fkd hdr
                  go_wp2
                  go_roundg (2 - (j + 1))
                  case measure => omega
                  case rel => exact ⟨j + 1, _, A7, c7, by omega, by go_num, hsj10, hO10, Lib.hid (by rw [hlH.out]; exact hG10.out), Lib.hid (by rw [hlH.out]; exact bS10.out), bw10, by simp; omega⟩
                · have hq1 : (pv == (d : Int)) = false := by simpa using hp1'
                  by_cases hp2' : pk = (oppN d : Int)
                  · have hS2 := Lib.hid (show strS par solid v d rI = 2 by unfold strS; rw [if_pos (.inr (by rw [hpkH.out, hp2']))])
                    subst hp2'
                    go_wp2_with fail
                    refine wp_region_ord [(0, .q), (1, .q), (2, .q), (3, .q), (4, .q), (5, .q), (6, .q), (7, .q), (8, .q), (9, .q), (10, .q), (11, .q), (12, .g), (13, .q), (14, .q)] (by kernel_rfl) (by kernel_rfl) ?_
                    simp only [pick, List.filterMap_cons, List.filterMap_nil, List.getElem?_toArray, List.getElem?_cons_zero, List.getElem?_cons_succ, Option.map_some]
                    repeat (first
                      | ((with_reducible refine wpD_p (fun K hK => ?_)); go_simp; refine hK _ ?_; clear hK K)
                      | ((with_reducible refine wpD_q (fun K hK => ?_)); go_simp; (first | refine hK _ ?_ | (go_bits; refine hK _ ?_) | (go_bits; go_simp; refine hK _ ?_)); clear hK K)
                      | ((with_reducible refine wpD_g (fun K hK => ?_)); go_simp; refine hK _ _ ?_; clear hK K)
                      | ((with_reducible refine wpD_g (fun K hK => ?_)); go_simp; refine ⟨Grew.of_alloc _, hK _ _ ?_⟩; clear hK K)
                      | ((with_reducible refine wpD_g (fun K hK => ?_)); go_simp; go_at_call 52; refine (Opposite_opp d _ hd4).mono ?_; rintro e _ ⟨rfl, rfl⟩; refine ⟨_, rfl, Below.refl _ _, hK _ _ ?_⟩; clear hK K))
                    with_reducible refine wpD_nil ?_
                    clear q4 q5 lq
                    have hdr : Below w4.heap.size w4 w4.drew := bl_dr (bl_refl _)
                    replace hO4 := Lib.hid (hO4.out.below hdr)
                    replace hG4 := Lib.hid (ownsRow_below hG4.out hdr)
                    replace bS4 := Lib.hid (bS4.out.below hdr)
                    replace bw4 := Lib.hid (bw4.out.trans (hdr.mono bw4.out.size))
                    replace hszB4 := Nat.lt_of_lt_of_le hszB4 hdr.size
                    obtain ⟨wd, hwd⟩ : ∃ wd, wd = w4.drew := ⟨_, rfl⟩
                    rw [← hwd] at hO4 hG4 bS4 bw4 hszB4 ⊢
                    clear hdr hwd
                    go_wp2_with fail
                    have hGI : GInvS k (0 + 2 * v + j) sj := by
                      rw [← hsj.out, ← hst.out]
                      exact (((GInvS.start k).I ps par _ v).J ps par _ v j)
                    obtain ⟨ng, hng⟩ : ∃ ng, sj.1.length = ng := ⟨_, rfl⟩
                    have hng2 : ng ≤ 322 := by
                      rw [← hng]
                      have := hGI.gl
                      omega
                    have hngH := Lib.hid hng
                    have hGx := hG4.out
                    have bSx := bS4.out
                    rw [hng] at hGx bSx
                    have hG5 := Lib.hid hGx
                    have bS5 := Lib.hid bSx
                    obtain ⟨t, ht⟩ : ∃ t, (⟨#[103]⟩ : ByteArray) ++ decN v = t := ⟨_, rfl⟩
                    obtain ⟨dv, hdv⟩ : ∃ dv, decN v = dv := ⟨_, rfl⟩
                    obtain ⟨dk, hdk⟩ : ∃ dk, decN rI = dk := ⟨_, rfl⟩
                    have hz3 : dv.size ≤ 3 := by rw [← hdv]; exact decN_size (by omega)
                    have hz4 : dk.size ≤ 3 := by rw [← hdk]; exact decN_size (by omega)
                    have hz1 : (⟨#[103]⟩ : ByteArray).size = 1 := rfl
                    have hz2 : (⟨#[95]⟩ : ByteArray).size = 1 := rfl
                    rw [hdv] at ht
                    have htz : t.size ≤ 4 := by rw [← ht, ByteArray.size_append]; omega
                    have hcat1 := fun W : World => run_string_add_sum (P := Tryz.prog) (w := W) ⟨#[103]⟩ dv (by rw [hz1]; omega)
                    rw [ht] at hcat1
                    have hcat2 := fun W : World => run_string_add_sum (P := Tryz.prog) (w := W) t ⟨#[95]⟩ (by rw [hz2]; omega)
                    have hcat3 := fun W : World => run_string_add_sum (P := Tryz.prog) (w := W) (t ++ ⟨#[95]⟩) dk (by rw [ByteArray.size_append, hz2]; omega)
                    obtain ⟨nm, hnm⟩ : ∃ nm, t ++ (⟨#[95]⟩ : ByteArray) ++ dk = nm := ⟨_, rfl⟩
                    rw [hnm] at hcat3
                    have hnmH := Lib.hid (show pairN ⟨#[103]⟩ v rI = nm by unfold pairN; rw [hdv, hdk, ht]; exact hnm)
                    have hdvH := Lib.hid hdv
                    have hdkH := Lib.hid hdk
                    have y0 := bS5.out.cell 0 _ rfl
                    have f0 := bS5.out.froz 0
                    have lS := bS5.out.lt
                    clear hGx bSx hG4 bS4 hng hnm hdv hdk ht hz1 hz2 htz hz3 hz4
                    refine wp_region_ord [(0, .q), (1, .q), (2, .q), (3, .q), (7, .q), (10, .q), (4, .g), (5, .q), (6, .q), (8, .g), (9, .q), (11, .q), (12, .g), (13, .b), (14, .q), (15, .q), (16, .b)] (by kernel_rfl) (by kernel_rfl) ?_
                    simp only [pick, List.filterMap_cons, List.filterMap_nil, List.getElem?_toArray, List.getElem?_cons_zero, List.getElem?_cons_succ, Option.map_some]
                    repeat (first | ((with_reducible refine wpD_p (fun K hK => ?_)); go_simp; refine hK _ ?_; clear hK K) | ((with_reducible refine wpD_q (fun K hK => ?_)); go_simp; (first | refine hK _ ?_ | (go_bits; refine hK _ ?_) | (go_bits; go_simp; refine hK _ ?_)); clear hK K))
                    with_reducible refine wpD_g (fun K hK => ?_)
                    go_simp
                    refine (lDecimal_n (u := v) _ (by omega) hdvH.out).mono ?_
                    rintro e w5a ⟨rfl, hb5a⟩
                    refine ⟨_, rfl, hb5a, hK _ _ ?_⟩
                    clear hK K
                    repeat (first | ((with_reducible refine wpD_p (fun K hK => ?_)); go_simp; refine hK _ ?_; clear hK K) | ((with_reducible refine wpD_q (fun K hK => ?_)); go_simp; (first | refine hK _ ?_ | (go_bits; refine hK _ ?_) | (go_bits; go_simp; refine hK _ ?_)); clear hK K))
                    with_reducible refine wpD_g (fun K hK => ?_)
                    go_simp
                    refine (lDecimal_n (u := rI) _ (by omega) hdkH.out).mono ?_
                    rintro e w5 ⟨rfl, hb5⟩
                    refine ⟨_, rfl, hb5, hK _ _ ?_⟩
                    clear hK K
                    have j5 : Below wd.heap.size wd w5 := ((bl_dr (bl_refl wd)).trans (hb5a.mono (by simp))).trans (hb5.mono (by have := hb5a.size; simp at this; omega))
                    repeat (first | ((with_reducible refine wpD_p (fun K hK => ?_)); go_simp; refine hK _ ?_; clear hK K) | ((with_reducible refine wpD_q (fun K hK => ?_)); go_simp; (first | refine hK _ ?_ | (go_bits; refine hK _ ?_) | (go_bits; go_simp; refine hK _ ?_)); clear hK K))
                    with_reducible refine wpD_g (fun K hK => ?_)
                    go_simp
                    refine ⟨Grew.of_alloc _, hK _ _ ?_⟩
                    clear hK K
                    have hA5 : Below w5.heap.size w5 (w5.alloc (Obj.cells #[Value.string nm, Value.int .i64 2] 69)) := bl_al (bl_refl _) _
                    have j6 : Below wd.heap.size wd (w5.alloc (Obj.cells #[Value.string nm, Value.int .i64 2] 69)) := j5.trans (hA5.mono j5.size)
                    have hs5 := j5.size
                    have hG6 := Lib.hid (ownsRow_below hG5.out j6)
                    refine wpD_append_atN rfl _ _ 24 rfl (B + 1) 69 iG (.agg #[.string ByteArray.empty, .int .i64 0]) 2 24 Tryz.underlying24 hiG hG0 hG1 hG2 rfl (by decide) (.slice A1 ng c1) ng (flatC encGl sj.1) (by go_simp) hG6.out ⟨w5.heap.size, 0, none⟩ 1 1 [.string nm, .int .i64 2] (by go_simp) rfl (cell_two_newN _ _ _ _) (fun x hx => by simp at hx; rcases hx with rfl | rfl <;> rfl) (by unfold maxLen; omega) (by omega) (by simp; omega) ?_
                    intro v7 w7 hown7 hgrow7 hat7
                    obtain ⟨A7, c7, rfl⟩ := ownsRow_form hown7
                    have j7 := (hO4.out.below j6)
                    have hO7 := Lib.hid (j7.keptG hG6.out (by decide) (by decide) hgrow7)
                    have bS7 := Lib.hid ((bS5.out.below j6).grown hgrow7 (fun e => by have := (hG6.out.lt _ e).1; omega))
                    have bw7 := Lib.hid ((bw4.out.trans (j6.mono bw4.out.size)).grown hgrow7 (by have := bw4.out.size; simp; omega) (fun g e => by have := (hG6.out.lt g e).1; omega))
                    have hG7 := Lib.hid (show w7.ownsRow (B + 1) 69 2 (.slice A7 (ng + 1) c7) (ng + 1) (flatC encGl (sj.1 ++ [⟨nm, 2⟩])) by rw [flatC_snoc]; exact hown7)
                    have hsw7 : B < w7.heap.size := by have h1 := hgrow7.size; have h2 := j6.size; omega
                    have z0 := bS7.out.cell 0 _ rfl
                    have zf := bS7.out.froz 0
                    have zl := bS7.out.lt
                    clear hown7 hgrow7 hat7 j7 hO4 bS5 bw4 hG6 hA5 j6 j5 hs5 hb5 hb5a hG5 y0 f0 lS hcat1 hcat2 hcat3
                    repeat (first | ((with_reducible refine wpD_p (fun K hK => ?_)); go_simp; refine hK _ ?_; clear hK K) | ((with_reducible refine wpD_q (fun K hK => ?_)); go_simp; (first | refine hK _ ?_ | (go_bits; refine hK _ ?_) | (go_bits; go_simp; refine hK _ ?_)); clear hK K))
                    with_reducible refine wpD_b (fun K hK => ?_)
                    go_simp
                    refine hK _ _ ?_
                    clear hK K
                    with_reducible refine wpD_nil ?_
                    have hO8 := Lib.hid (hO7.out.setBelow (p := ⟨B, 0, none⟩) (Nat.lt_succ_self _) (.slice A7 (ng + 1) c7))
                    have bS8 := Lib.hid (bS7.out.setSame 0 (.slice A7 (ng + 1) c7))
                    have hG8 := Lib.hid (ownsRow_setB hG7.out (p := ⟨B, 0, none⟩) (Nat.lt_succ_self _) (.slice A7 (ng + 1) c7))
                    have bw8 := Lib.hid (bw7.out.setCell (p := ⟨B, 0, none⟩) hBl (.slice A7 (ng + 1) c7))
                    obtain ⟨w8, hw8⟩ : ∃ w8, w8 = w7.setCell ⟨B, 0, none⟩ (.slice A7 (ng + 1) c7) := ⟨_, rfl⟩
                    have hsw8 : B < w8.heap.size := by rw [hw8]; simpa using hsw7
                    rw [← hw8] at hO8 bS8 hG8 bw8 ⊢
                    clear hw8 hO7 bS7 hG7 bw7 z0 zf zl hsw7
                    obtain ⟨tv, htv⟩ : ∃ t, sj.2[v]? = some t := ⟨_, List.getElem?_eq_getElem (by rw [hGI.len]; exact hvn)⟩
                    obtain ⟨bv, cv, huv, hbv1, hbv2, fv, hcv⟩ := hO8.out.sideAt hGI.four htv
                    obtain ⟨gT, cT, eT, hgT1, hgT2, hcT⟩ := hO8.out.outAt huv
                    have hus : us.length = k := hO8.out.len.trans hGI.len
                    rw [hus] at eT
                    clear hus
                    obtain ⟨eT1, eT3⟩ : B2 = some ⟨gT, 0, none⟩ ∧ c2 = cT := by
                      injection eT with e1 e2 e3
                      exact ⟨e1, e3⟩
                    clear eT
                    subst eT1 eT3
                    obtain ⟨xv, hxv⟩ := hcv d hd4
                    have fvd := fv d
                    have y0 := bS8.out.cell 0 _ rfl
                    have y1 := bS8.out.cell 1 _ rfl
                    have lS := bS8.out.lt
                    have huvH := Lib.hid huv
                    have htvH := Lib.hid htv
                    clear huv htv fv hcv
                    have hd4I : (d : Int) < 4 := by omega
                    go_wp2_with fail
                    refine wp_region_ord [(0, .q), (1, .q), (2, .q), (3, .q), (4, .q), (5, .q), (6, .q), (7, .q), (8, .q), (9, .q), (10, .q), (11, .q), (12, .q), (13, .b)] (by kernel_rfl) (by kernel_rfl) ?_
                    simp only [pick, List.filterMap_cons, List.filterMap_nil, List.getElem?_toArray, List.getElem?_cons_zero, List.getElem?_cons_succ, Option.map_some]
                    repeat (first
                      | ((with_reducible refine wpD_p (fun K hK => ?_)); go_simp; refine hK _ ?_; clear hK K)
                      | ((with_reducible refine wpD_q (fun K hK => ?_)); go_simp; (first | refine hK _ ?_ | (go_bits; refine hK _ ?_) | (go_bits; go_simp; refine hK _ ?_)); clear hK K)
                      | ((with_reducible refine wpD_g (fun K hK => ?_)); go_simp; refine hK _ _ ?_; clear hK K)
                      | ((with_reducible refine wpD_g (fun K hK => ?_)); go_simp; refine ⟨Grew.of_alloc _, hK _ _ ?_⟩; clear hK K))
                    with_reducible refine wpD_b (fun K hK => ?_)
                    go_simp
                    refine hK _ _ ?_
                    clear hK K
                    with_reducible refine wpD_nil ?_
                    have hdr8 : Below (w8.setCell ⟨bv, d, none⟩ (.int .i64 ((ng : Int) + 1))).heap.size (w8.setCell ⟨bv, d, none⟩ (.int .i64 ((ng : Int) + 1))) (w8.setCell ⟨bv, d, none⟩ (.int .i64 ((ng : Int) + 1))).drew := bl_dr (bl_refl _)
                    have hne7 : (Value.slice A7 (ng + 1) c7).ownBlock ≠ some bv := own_ne_own (hO8.out.inner v _ tv huvH.out htvH.out) hG8.out (by decide) rfl
                    have hO9 := Lib.hid ((hO8.out.setSide (d := d) ((ng : Int) + 1) huvH.out htvH.out).below hdr8)
                    have hG9 := Lib.hid (ownsRow_below (kept_set hG8.out bv d (.int .i64 ((ng : Int) + 1)) hne7) hdr8)
                    have bS9 := Lib.hid ((bS8.out.setOther (a := ⟨bv, d, none⟩) (show bv ≠ B by omega) (.int .i64 ((ng : Int) + 1))).below hdr8)
                    have bw9 := bw8.out.setCell (p := ⟨bv, d, none⟩) (show w2.heap.size ≤ bv by omega) (.int .i64 ((ng : Int) + 1))
                    replace bw9 := Lib.hid (bw9.trans (hdr8.mono bw9.size))
                    obtain ⟨w9, hw9⟩ : ∃ w9, w9 = (w8.setCell ⟨bv, d, none⟩ (.int .i64 ((ng : Int) + 1))).drew := ⟨_, rfl⟩
                    have hsw9 : B < w9.heap.size := by rw [hw9]; simpa using hsw8
                    rw [← hw9] at hO9 hG9 bS9 bw9 ⊢
                    clear hw9 hO8 hG8 bS8 bw8 hne7 y0 y1 lS hcT hxv fvd hbv1 hbv2 hgT1 hgT2 huvH htvH hdr8
                    obtain ⟨tk, htk⟩ : ∃ t, (setSide sj.2 v d ((ng : Int) + 1))[rI]? = some t := ⟨_, List.getElem?_eq_getElem (by rw [setSide_len, hGI.len]; exact hrk)⟩
                    obtain ⟨bk, ck, huk, hbk1, hbk2, fk, hck⟩ := hO9.out.sideAt (hGI.four.set v d _) htk
                    obtain ⟨g2, cT2, eT, hgT1, hgT2, hcT⟩ := hO9.out.outAt huk
                    obtain rfl : gT = g2 := by injection eT with e1 _ _; injection e1 with e1; injection e1
                    have ho4 : oppN d < 4 := opp4 hd4
                    have ho4I : ((oppN d : Nat) : Int) < 4 := by omega
                    obtain ⟨xk, hxk⟩ := hck (oppN d) ho4
                    have fkd := fk (oppN d)
                    have lT := hgT2
                    have y0 := bS9.out.cell 0 _ rfl
                    have y1 := bS9.out.cell 1 _ rfl
                    have lS := bS9.out.lt
                    have hukH := Lib.hid huk
                    have htkH := Lib.hid htk
                    clear huk htk fk hck eT
                    go_wp2_with fail
                    refine wp_region_ord [(0, .q), (1, .q), (2, .q), (3, .q), (4, .q), (5, .q), (6, .q), (7, .q), (9, .q), (10, .q), (11, .q), (12, .q), (8, .g), (13, .q), (14, .b)] (by kernel_rfl) (by kernel_rfl) ?_
                    simp only [pick, List.filterMap_cons, List.filterMap_nil, List.getElem?_toArray, List.getElem?_cons_zero, List.getElem?_cons_succ, Option.map_some]
                    repeat (first
                      | ((with_reducible refine wpD_p (fun K hK => ?_)); go_simp; refine hK _ ?_; clear hK K)
                      | ((with_reducible refine wpD_q (fun K hK => ?_)); go_simp; (first | refine hK _ ?_ | (go_bits; refine hK _ ?_) | (go_bits; go_simp; refine hK _ ?_)); clear hK K)
                      | ((with_reducible refine wpD_g (fun K hK => ?_)); go_simp; refine hK _ _ ?_; clear hK K)
                      | ((with_reducible refine wpD_g (fun K hK => ?_)); go_simp; refine ⟨Grew.of_alloc _, hK _ _ ?_⟩; clear hK K)
                      | ((with_reducible refine wpD_g (fun K hK => ?_)); go_simp; go_at_call 52; refine (Opposite_opp d _ hd4).mono ?_; rintro e _ ⟨rfl, rfl⟩; refine ⟨_, rfl, Below.refl _ _, hK _ _ ?_⟩; clear hK K))
                    with_reducible refine wpD_b (fun K hK => ?_)
                    go_simp
                    refine hK _ _ ?_
                    clear hK K
                    with_reducible refine wpD_nil ?_
                    have hdr : Below (w9.setCell ⟨bk, oppN d, none⟩ (.int .i64 ((ng : Int) + 1))).heap.size (w9.setCell ⟨bk, oppN d, none⟩ (.int .i64 ((ng : Int) + 1))) (w9.setCell ⟨bk, oppN d, none⟩ (.int .i64 ((ng : Int) + 1))).drew := bl_dr (bl_refl _)
                    have hne9 : (Value.slice A7 (ng + 1) c7).ownBlock ≠ some bk := own_ne_own (hO9.out.inner rI _ tk hukH.out htkH.out) hG9.out (by decide) rfl
                    have hO10 := Lib.hid ((hO9.out.setSide (d := oppN d) ((ng : Int) + 1) hukH.out htkH.out).below hdr)
                    have hG10 := Lib.hid (ownsRow_below (kept_set hG9.out bk (oppN d) (.int .i64 ((ng : Int) + 1)) hne9) hdr)
                    have bS10 := Lib.hid ((bS9.out.setOther (a := ⟨bk, oppN d, none⟩) (show bk ≠ B by omega) (.int .i64 ((ng : Int) + 1))).below hdr)
                    have bw10 := bw9.out.setCell (p := ⟨bk, oppN d, none⟩) (show w2.heap.size ≤ bk by omega) (.int .i64 ((ng : Int) + 1))
                    replace bw10 := Lib.hid (bw10.trans (hdr.mono bw10.size))
                    have hl10 : (sj.1 ++ [(⟨nm, 2⟩ : Gl)]).length = ng + 1 := by rw [List.length_append, hngH.out]; rfl
                    have hx10 : ((ng + 1 : Nat) : Int) = (ng : Int) + 1 := by omega
                    have hsj10 := Lib.hid (show glue1 ps par _ v (1 - j) (glueJ ps par _ v st j) = (sj.1 ++ [(⟨nm, 2⟩ : Gl)], setSide (setSide sj.2 v d ((ng : Int) + 1)) rI (oppN d) ((ng : Int) + 1)) by rw [hdH.out, hsj.out, glue1_some hnb.out hS2.out (by decide), hngH.out, hnmH.out, hx10])
                    have hlH := Lib.hid hl10
                    clear hl10 hx10 hO9 hG9 bS9 bw9 hne9 y0 y1 lS lT hcT hxk fkd hdr
                    go_wp2
                    go_roundg (2 - (j + 1))
                    case measure => omega
                    case rel => exact ⟨j + 1, _, A7, c7, by omega, by go_num, hsj10, hO10, Lib.hid (by rw [hlH.out]; exact hG10.out), Lib.hid (by rw [hlH.out]; exact bS10.out), bw10, by simp; omega⟩
                  · have hno : ¬ (par[v]? = some (d : Int) ∨ par[rI]? = some (oppN d : Int)) := by
                      rintro (h | h)
                      · rw [hpvH.out] at h; injection h with h; exact hp1' h
                      · rw [hpkH.out] at h; injection h with h; exact hp2' h
                    have hq2 : (pk == (oppN d : Int)) = false := by simpa using hp2'
                    cases solid with
                    | true =>
                      have hS2 := Lib.hid (show strS par true v d rI = 1 by unfold strS; rw [if_neg hno]; rfl)
                      clear hno
                      go_wp2_with fail
                      refine wp_region_ord [(0, .q), (1, .q), (2, .q), (3, .q), (4, .q), (5, .q), (6, .q), (7, .q), (8, .q), (9, .q), (10, .q), (11, .q), (12, .g), (13, .q), (14, .q)] (by kernel_rfl) (by kernel_rfl) ?_
                      simp only [pick, List.filterMap_cons, List.filterMap_nil, List.getElem?_toArray, List.getElem?_cons_zero, List.getElem?_cons_succ, Option.map_some]
                      repeat (first
                        | ((with_reducible refine wpD_p (fun K hK => ?_)); go_simp; refine hK _ ?_; clear hK K)
                        | ((with_reducible refine wpD_q (fun K hK => ?_)); go_simp; (first | refine hK _ ?_ | (go_bits; refine hK _ ?_) | (go_bits; go_simp; refine hK _ ?_)); clear hK K)
                        | ((with_reducible refine wpD_g (fun K hK => ?_)); go_simp; refine hK _ _ ?_; clear hK K)
                        | ((with_reducible refine wpD_g (fun K hK => ?_)); go_simp; refine ⟨Grew.of_alloc _, hK _ _ ?_⟩; clear hK K)
                        | ((with_reducible refine wpD_g (fun K hK => ?_)); go_simp; go_at_call 52; refine (Opposite_opp d _ hd4).mono ?_; rintro e _ ⟨rfl, rfl⟩; refine ⟨_, rfl, Below.refl _ _, hK _ _ ?_⟩; clear hK K))
                      with_reducible refine wpD_nil ?_
                      clear q4 q5 lq
                      have hdr : Below w4.heap.size w4 w4.drew := bl_dr (bl_refl _)
                      replace hO4 := Lib.hid (hO4.out.below hdr)
                      replace hG4 := Lib.hid (ownsRow_below hG4.out hdr)
                      replace bS4 := Lib.hid (bS4.out.below hdr)
                      replace bw4 := Lib.hid (bw4.out.trans (hdr.mono bw4.out.size))
                      replace hszB4 := Nat.lt_of_lt_of_le hszB4 hdr.size
                      obtain ⟨wd, hwd⟩ : ∃ wd, wd = w4.drew := ⟨_, rfl⟩
                      rw [← hwd] at hO4 hG4 bS4 bw4 hszB4 ⊢
                      clear hdr hwd
                      go_wp2_with fail
                      have hGI : GInvS k (0 + 2 * v + j) sj := by
                        rw [← hsj.out, ← hst.out]
                        exact (((GInvS.start k).I ps par _ v).J ps par _ v j)
                      obtain ⟨ng, hng⟩ : ∃ ng, sj.1.length = ng := ⟨_, rfl⟩
                      have hng2 : ng ≤ 322 := by
                        rw [← hng]
                        have := hGI.gl
                        omega
                      have hngH := Lib.hid hng
                      have hGx := hG4.out
                      have bSx := bS4.out
                      rw [hng] at hGx bSx
                      have hG5 := Lib.hid hGx
                      have bS5 := Lib.hid bSx
                      obtain ⟨t, ht⟩ : ∃ t, (⟨#[103]⟩ : ByteArray) ++ decN v = t := ⟨_, rfl⟩
                      obtain ⟨dv, hdv⟩ : ∃ dv, decN v = dv := ⟨_, rfl⟩
                      obtain ⟨dk, hdk⟩ : ∃ dk, decN rI = dk := ⟨_, rfl⟩
                      have hz3 : dv.size ≤ 3 := by rw [← hdv]; exact decN_size (by omega)
                      have hz4 : dk.size ≤ 3 := by rw [← hdk]; exact decN_size (by omega)
                      have hz1 : (⟨#[103]⟩ : ByteArray).size = 1 := rfl
                      have hz2 : (⟨#[95]⟩ : ByteArray).size = 1 := rfl
                      rw [hdv] at ht
                      have htz : t.size ≤ 4 := by rw [← ht, ByteArray.size_append]; omega
                      have hcat1 := fun W : World => run_string_add_sum (P := Tryz.prog) (w := W) ⟨#[103]⟩ dv (by rw [hz1]; omega)
                      rw [ht] at hcat1
                      have hcat2 := fun W : World => run_string_add_sum (P := Tryz.prog) (w := W) t ⟨#[95]⟩ (by rw [hz2]; omega)
                      have hcat3 := fun W : World => run_string_add_sum (P := Tryz.prog) (w := W) (t ++ ⟨#[95]⟩) dk (by rw [ByteArray.size_append, hz2]; omega)
                      obtain ⟨nm, hnm⟩ : ∃ nm, t ++ (⟨#[95]⟩ : ByteArray) ++ dk = nm := ⟨_, rfl⟩
                      rw [hnm] at hcat3
                      have hnmH := Lib.hid (show pairN ⟨#[103]⟩ v rI = nm by unfold pairN; rw [hdv, hdk, ht]; exact hnm)
                      have hdvH := Lib.hid hdv
                      have hdkH := Lib.hid hdk
                      have y0 := bS5.out.cell 0 _ rfl
                      have f0 := bS5.out.froz 0
                      have lS := bS5.out.lt
                      clear hGx bSx hG4 bS4 hng hnm hdv hdk ht hz1 hz2 htz hz3 hz4
                      refine wp_region_ord [(0, .q), (1, .q), (2, .q), (3, .q), (7, .q), (10, .q), (4, .g), (5, .q), (6, .q), (8, .g), (9, .q), (11, .q), (12, .g), (13, .b), (14, .q), (15, .q), (16, .b)] (by kernel_rfl) (by kernel_rfl) ?_
                      simp only [pick, List.filterMap_cons, List.filterMap_nil, List.getElem?_toArray, List.getElem?_cons_zero, List.getElem?_cons_succ, Option.map_some]
                      repeat (first | ((with_reducible refine wpD_p (fun K hK => ?_)); go_simp; refine hK _ ?_; clear hK K) | ((with_reducible refine wpD_q (fun K hK => ?_)); go_simp; (first | refine hK _ ?_ | (go_bits; refine hK _ ?_) | (go_bits; go_simp; refine hK _ ?_)); clear hK K))
                      with_reducible refine wpD_g (fun K hK => ?_)
                      go_simp
                      refine (lDecimal_n (u := v) _ (by omega) hdvH.out).mono ?_
                      rintro e w5a ⟨rfl, hb5a⟩
                      refine ⟨_, rfl, hb5a, hK _ _ ?_⟩
                      clear hK K
                      repeat (first | ((with_reducible refine wpD_p (fun K hK => ?_)); go_simp; refine hK _ ?_; clear hK K) | ((with_reducible refine wpD_q (fun K hK => ?_)); go_simp; (first | refine hK _ ?_ | (go_bits; refine hK _ ?_) | (go_bits; go_simp; refine hK _ ?_)); clear hK K))
                      with_reducible refine wpD_g (fun K hK => ?_)
                      go_simp
                      refine (lDecimal_n (u := rI) _ (by omega) hdkH.out).mono ?_
                      rintro e w5 ⟨rfl, hb5⟩
                      refine ⟨_, rfl, hb5, hK _ _ ?_⟩
                      clear hK K
                      have j5 : Below wd.heap.size wd w5 := ((bl_dr (bl_refl wd)).trans (hb5a.mono (by simp))).trans (hb5.mono (by have := hb5a.size; simp at this; omega))
                      repeat (first | ((with_reducible refine wpD_p (fun K hK => ?_)); go_simp; refine hK _ ?_; clear hK K) | ((with_reducible refine wpD_q (fun K hK => ?_)); go_simp; (first | refine hK _ ?_ | (go_bits; refine hK _ ?_) | (go_bits; go_simp; refine hK _ ?_)); clear hK K))
                      with_reducible refine wpD_g (fun K hK => ?_)
                      go_simp
                      refine ⟨Grew.of_alloc _, hK _ _ ?_⟩
                      clear hK K
                      have hA5 : Below w5.heap.size w5 (w5.alloc (Obj.cells #[Value.string nm, Value.int .i64 1] 69)) := bl_al (bl_refl _) _
                      have j6 : Below wd.heap.size wd (w5.alloc (Obj.cells #[Value.string nm, Value.int .i64 1] 69)) := j5.trans (hA5.mono j5.size)
                      have hs5 := j5.size
                      have hG6 := Lib.hid (ownsRow_below hG5.out j6)
                      refine wpD_append_atN rfl _ _ 24 rfl (B + 1) 69 iG (.agg #[.string ByteArray.empty, .int .i64 0]) 2 24 Tryz.underlying24 hiG hG0 hG1 hG2 rfl (by decide) (.slice A1 ng c1) ng (flatC encGl sj.1) (by go_simp) hG6.out ⟨w5.heap.size, 0, none⟩ 1 1 [.string nm, .int .i64 1] (by go_simp) rfl (cell_two_newN _ _ _ _) (fun x hx => by simp at hx; rcases hx with rfl | rfl <;> rfl) (by unfold maxLen; omega) (by omega) (by simp; omega) ?_
                      intro v7 w7 hown7 hgrow7 hat7
                      obtain ⟨A7, c7, rfl⟩ := ownsRow_form hown7
                      have j7 := (hO4.out.below j6)
                      have hO7 := Lib.hid (j7.keptG hG6.out (by decide) (by decide) hgrow7)
                      have bS7 := Lib.hid ((bS5.out.below j6).grown hgrow7 (fun e => by have := (hG6.out.lt _ e).1; omega))
                      have bw7 := Lib.hid ((bw4.out.trans (j6.mono bw4.out.size)).grown hgrow7 (by have := bw4.out.size; simp; omega) (fun g e => by have := (hG6.out.lt g e).1; omega))
                      have hG7 := Lib.hid (show w7.ownsRow (B + 1) 69 2 (.slice A7 (ng + 1) c7) (ng + 1) (flatC encGl (sj.1 ++ [⟨nm, 1⟩])) by rw [flatC_snoc]; exact hown7)
                      have hsw7 : B < w7.heap.size := by have h1 := hgrow7.size; have h2 := j6.size; omega
                      have z0 := bS7.out.cell 0 _ rfl
                      have zf := bS7.out.froz 0
                      have zl := bS7.out.lt
                      clear hown7 hgrow7 hat7 j7 hO4 bS5 bw4 hG6 hA5 j6 j5 hs5 hb5 hb5a hG5 y0 f0 lS hcat1 hcat2 hcat3
                      repeat (first | ((with_reducible refine wpD_p (fun K hK => ?_)); go_simp; refine hK _ ?_; clear hK K) | ((with_reducible refine wpD_q (fun K hK => ?_)); go_simp; (first | refine hK _ ?_ | (go_bits; refine hK _ ?_) | (go_bits; go_simp; refine hK _ ?_)); clear hK K))
                      with_reducible refine wpD_b (fun K hK => ?_)
                      go_simp
                      refine hK _ _ ?_
                      clear hK K
                      with_reducible refine wpD_nil ?_
                      have hO8 := Lib.hid (hO7.out.setBelow (p := ⟨B, 0, none⟩) (Nat.lt_succ_self _) (.slice A7 (ng + 1) c7))
                      have bS8 := Lib.hid (bS7.out.setSame 0 (.slice A7 (ng + 1) c7))
                      have hG8 := Lib.hid (ownsRow_setB hG7.out (p := ⟨B, 0, none⟩) (Nat.lt_succ_self _) (.slice A7 (ng + 1) c7))
                      have bw8 := Lib.hid (bw7.out.setCell (p := ⟨B, 0, none⟩) hBl (.slice A7 (ng + 1) c7))
                      obtain ⟨w8, hw8⟩ : ∃ w8, w8 = w7.setCell ⟨B, 0, none⟩ (.slice A7 (ng + 1) c7) := ⟨_, rfl⟩
                      have hsw8 : B < w8.heap.size := by rw [hw8]; simpa using hsw7
                      rw [← hw8] at hO8 bS8 hG8 bw8 ⊢
                      clear hw8 hO7 bS7 hG7 bw7 z0 zf zl hsw7
                      obtain ⟨tv, htv⟩ : ∃ t, sj.2[v]? = some t := ⟨_, List.getElem?_eq_getElem (by rw [hGI.len]; exact hvn)⟩
                      obtain ⟨bv, cv, huv, hbv1, hbv2, fv, hcv⟩ := hO8.out.sideAt hGI.four htv
                      obtain ⟨gT, cT, eT, hgT1, hgT2, hcT⟩ := hO8.out.outAt huv
                      have hus : us.length = k := hO8.out.len.trans hGI.len
                      rw [hus] at eT
                      clear hus
                      obtain ⟨eT1, eT3⟩ : B2 = some ⟨gT, 0, none⟩ ∧ c2 = cT := by
                        injection eT with e1 e2 e3
                        exact ⟨e1, e3⟩
                      clear eT
                      subst eT1 eT3
                      obtain ⟨xv, hxv⟩ := hcv d hd4
                      have fvd := fv d
                      have y0 := bS8.out.cell 0 _ rfl
                      have y1 := bS8.out.cell 1 _ rfl
                      have lS := bS8.out.lt
                      have huvH := Lib.hid huv
                      have htvH := Lib.hid htv
                      clear huv htv fv hcv
                      have hd4I : (d : Int) < 4 := by omega
                      go_wp2_with fail
                      refine wp_region_ord [(0, .q), (1, .q), (2, .q), (3, .q), (4, .q), (5, .q), (6, .q), (7, .q), (8, .q), (9, .q), (10, .q), (11, .q), (12, .q), (13, .b)] (by kernel_rfl) (by kernel_rfl) ?_
                      simp only [pick, List.filterMap_cons, List.filterMap_nil, List.getElem?_toArray, List.getElem?_cons_zero, List.getElem?_cons_succ, Option.map_some]
                      repeat (first
                        | ((with_reducible refine wpD_p (fun K hK => ?_)); go_simp; refine hK _ ?_; clear hK K)
                        | ((with_reducible refine wpD_q (fun K hK => ?_)); go_simp; (first | refine hK _ ?_ | (go_bits; refine hK _ ?_) | (go_bits; go_simp; refine hK _ ?_)); clear hK K)
                        | ((with_reducible refine wpD_g (fun K hK => ?_)); go_simp; refine hK _ _ ?_; clear hK K)
                        | ((with_reducible refine wpD_g (fun K hK => ?_)); go_simp; refine ⟨Grew.of_alloc _, hK _ _ ?_⟩; clear hK K))
                      with_reducible refine wpD_b (fun K hK => ?_)
                      go_simp
                      refine hK _ _ ?_
                      clear hK K
                      with_reducible refine wpD_nil ?_
                      have hdr8 : Below (w8.setCell ⟨bv, d, none⟩ (.int .i64 ((ng : Int) + 1))).heap.size (w8.setCell ⟨bv, d, none⟩ (.int .i64 ((ng : Int) + 1))) (w8.setCell ⟨bv, d, none⟩ (.int .i64 ((ng : Int) + 1))).drew := bl_dr (bl_refl _)
                      have hne7 : (Value.slice A7 (ng + 1) c7).ownBlock ≠ some bv := own_ne_own (hO8.out.inner v _ tv huvH.out htvH.out) hG8.out (by decide) rfl
                      have hO9 := Lib.hid ((hO8.out.setSide (d := d) ((ng : Int) + 1) huvH.out htvH.out).below hdr8)
                      have hG9 := Lib.hid (ownsRow_below (kept_set hG8.out bv d (.int .i64 ((ng : Int) + 1)) hne7) hdr8)
                      have bS9 := Lib.hid ((bS8.out.setOther (a := ⟨bv, d, none⟩) (show bv ≠ B by omega) (.int .i64 ((ng : Int) + 1))).below hdr8)
                      have bw9 := bw8.out.setCell (p := ⟨bv, d, none⟩) (show w2.heap.size ≤ bv by omega) (.int .i64 ((ng : Int) + 1))
                      replace bw9 := Lib.hid (bw9.trans (hdr8.mono bw9.size))
                      obtain ⟨w9, hw9⟩ : ∃ w9, w9 = (w8.setCell ⟨bv, d, none⟩ (.int .i64 ((ng : Int) + 1))).drew := ⟨_, rfl⟩
                      have hsw9 : B < w9.heap.size := by rw [hw9]; simpa using hsw8
                      rw [← hw9] at hO9 hG9 bS9 bw9 ⊢
                      clear hw9 hO8 hG8 bS8 bw8 hne7 y0 y1 lS hcT hxv fvd hbv1 hbv2 hgT1 hgT2 huvH htvH hdr8
                      obtain ⟨tk, htk⟩ : ∃ t, (setSide sj.2 v d ((ng : Int) + 1))[rI]? = some t := ⟨_, List.getElem?_eq_getElem (by rw [setSide_len, hGI.len]; exact hrk)⟩
                      obtain ⟨bk, ck, huk, hbk1, hbk2, fk, hck⟩ := hO9.out.sideAt (hGI.four.set v d _) htk
                      obtain ⟨g2, cT2, eT, hgT1, hgT2, hcT⟩ := hO9.out.outAt huk
                      obtain rfl : gT = g2 := by injection eT with e1 _ _; injection e1 with e1; injection e1
                      have ho4 : oppN d < 4 := opp4 hd4
                      have ho4I : ((oppN d : Nat) : Int) < 4 := by omega
                      obtain ⟨xk, hxk⟩ := hck (oppN d) ho4
                      have fkd := fk (oppN d)
                      have lT := hgT2
                      have y0 := bS9.out.cell 0 _ rfl
                      have y1 := bS9.out.cell 1 _ rfl
                      have lS := bS9.out.lt
                      have hukH := Lib.hid huk
                      have htkH := Lib.hid htk
                      clear huk htk fk hck eT
                      go_wp2_with fail
                      refine wp_region_ord [(0, .q), (1, .q), (2, .q), (3, .q), (4, .q), (5, .q), (6, .q), (7, .q), (9, .q), (10, .q), (11, .q), (12, .q), (8, .g), (13, .q), (14, .b)] (by kernel_rfl) (by kernel_rfl) ?_
                      simp only [pick, List.filterMap_cons, List.filterMap_nil, List.getElem?_toArray, List.getElem?_cons_zero, List.getElem?_cons_succ, Option.map_some]
                      repeat (first
                        | ((with_reducible refine wpD_p (fun K hK => ?_)); go_simp; refine hK _ ?_; clear hK K)
                        | ((with_reducible refine wpD_q (fun K hK => ?_)); go_simp; (first | refine hK _ ?_ | (go_bits; refine hK _ ?_) | (go_bits; go_simp; refine hK _ ?_)); clear hK K)
                        | ((with_reducible refine wpD_g (fun K hK => ?_)); go_simp; refine hK _ _ ?_; clear hK K)
                        | ((with_reducible refine wpD_g (fun K hK => ?_)); go_simp; refine ⟨Grew.of_alloc _, hK _ _ ?_⟩; clear hK K)
                        | ((with_reducible refine wpD_g (fun K hK => ?_)); go_simp; go_at_call 52; refine (Opposite_opp d _ hd4).mono ?_; rintro e _ ⟨rfl, rfl⟩; refine ⟨_, rfl, Below.refl _ _, hK _ _ ?_⟩; clear hK K))
                      with_reducible refine wpD_b (fun K hK => ?_)
                      go_simp
                      refine hK _ _ ?_
                      clear hK K
                      with_reducible refine wpD_nil ?_
                      have hdr : Below (w9.setCell ⟨bk, oppN d, none⟩ (.int .i64 ((ng : Int) + 1))).heap.size (w9.setCell ⟨bk, oppN d, none⟩ (.int .i64 ((ng : Int) + 1))) (w9.setCell ⟨bk, oppN d, none⟩ (.int .i64 ((ng : Int) + 1))).drew := bl_dr (bl_refl _)
                      have hne9 : (Value.slice A7 (ng + 1) c7).ownBlock ≠ some bk := own_ne_own (hO9.out.inner rI _ tk hukH.out htkH.out) hG9.out (by decide) rfl
                      have hO10 := Lib.hid ((hO9.out.setSide (d := oppN d) ((ng : Int) + 1) hukH.out htkH.out).below hdr)
                      have hG10 := Lib.hid (ownsRow_below (kept_set hG9.out bk (oppN d) (.int .i64 ((ng : Int) + 1)) hne9) hdr)
                      have bS10 := Lib.hid ((bS9.out.setOther (a := ⟨bk, oppN d, none⟩) (show bk ≠ B by omega) (.int .i64 ((ng : Int) + 1))).below hdr)
                      have bw10 := bw9.out.setCell (p := ⟨bk, oppN d, none⟩) (show w2.heap.size ≤ bk by omega) (.int .i64 ((ng : Int) + 1))
                      replace bw10 := Lib.hid (bw10.trans (hdr.mono bw10.size))
                      have hl10 : (sj.1 ++ [(⟨nm, 1⟩ : Gl)]).length = ng + 1 := by rw [List.length_append, hngH.out]; rfl
                      have hx10 : ((ng + 1 : Nat) : Int) = (ng : Int) + 1 := by omega
                      have hsj10 := Lib.hid (show glue1 ps par _ v (1 - j) (glueJ ps par _ v st j) = (sj.1 ++ [(⟨nm, 1⟩ : Gl)], setSide (setSide sj.2 v d ((ng : Int) + 1)) rI (oppN d) ((ng : Int) + 1)) by rw [hdH.out, hsj.out, glue1_some hnb.out hS2.out (by decide), hngH.out, hnmH.out, hx10])
                      have hlH := Lib.hid hl10
                      clear hl10 hx10 hO9 hG9 bS9 bw9 hne9 y0 y1 lS lT hcT hxk fkd hdr
                      go_wp2
                      go_roundg (2 - (j + 1))
                      case measure => omega
                      case rel => exact ⟨j + 1, _, A7, c7, by omega, by go_num, hsj10, hO10, Lib.hid (by rw [hlH.out]; exact hG10.out), Lib.hid (by rw [hlH.out]; exact bS10.out), bw10, by simp; omega⟩
                    | false =>
                      have hS2 := Lib.hid (show strS par false v d rI = 0 by unfold strS; rw [if_neg hno]; rfl)
                      clear hno
                      go_wp2_with fail
                      refine wp_region_ord [(0, .q), (1, .q), (2, .q), (3, .q), (4, .q), (5, .q), (6, .q), (7, .q), (8, .q), (9, .q), (10, .q), (11, .q), (12, .g), (13, .q), (14, .q)] (by kernel_rfl) (by kernel_rfl) ?_
                      simp only [pick, List.filterMap_cons, List.filterMap_nil, List.getElem?_toArray, List.getElem?_cons_zero, List.getElem?_cons_succ, Option.map_some]
                      repeat (first
                        | ((with_reducible refine wpD_p (fun K hK => ?_)); go_simp; refine hK _ ?_; clear hK K)
                        | ((with_reducible refine wpD_q (fun K hK => ?_)); go_simp; (first | refine hK _ ?_ | (go_bits; refine hK _ ?_) | (go_bits; go_simp; refine hK _ ?_)); clear hK K)
                        | ((with_reducible refine wpD_g (fun K hK => ?_)); go_simp; refine hK _ _ ?_; clear hK K)
                        | ((with_reducible refine wpD_g (fun K hK => ?_)); go_simp; refine ⟨Grew.of_alloc _, hK _ _ ?_⟩; clear hK K)
                        | ((with_reducible refine wpD_g (fun K hK => ?_)); go_simp; go_at_call 52; refine (Opposite_opp d _ hd4).mono ?_; rintro e _ ⟨rfl, rfl⟩; refine ⟨_, rfl, Below.refl _ _, hK _ _ ?_⟩; clear hK K))
                      with_reducible refine wpD_nil ?_
                      clear q4 q5 lq
                      have hdr : Below w4.heap.size w4 w4.drew := bl_dr (bl_refl _)
                      replace hO4 := Lib.hid (hO4.out.below hdr)
                      replace hG4 := Lib.hid (ownsRow_below hG4.out hdr)
                      replace bS4 := Lib.hid (bS4.out.below hdr)
                      replace bw4 := Lib.hid (bw4.out.trans (hdr.mono bw4.out.size))
                      replace hszB4 := Nat.lt_of_lt_of_le hszB4 hdr.size
                      obtain ⟨wd, hwd⟩ : ∃ wd, wd = w4.drew := ⟨_, rfl⟩
                      rw [← hwd] at hO4 hG4 bS4 bw4 hszB4 ⊢
                      clear hdr hwd
                      go_wp2
                      go_roundg (2 - (j + 1))
                      case measure => omega
                      case rel => exact ⟨j + 1, sj, A1, c1, by omega, by go_num, Lib.hid (show glue1 ps par false v (1 - j) (glueJ ps par false v st j) = sj by rw [hdH.out, glue1_zero hnb.out hS2.out]; exact hsj.out), hO4, hG4, bS4, bw4, hszB4⟩
            · obtain rfl : j = 2 := by omega
              go_wp2
              go_roundg (k - (v + 1))
              case measure => omega
              case rel => exact ⟨v + 1, sj, us, A1, c1, B2, c2, by omega, by go_num, Lib.hid (show glueJ ps par solid v (glueI ps par solid ([], tiles0 k) v) 2 = sj by rw [hst.out]; exact hsj.out), hO, hG, bS, hbw, hszB⟩
        · obtain rfl : v = k := by omega
          have hst2 := Lib.hid (show shapeG ps rn solid = st by unfold shapeG; rw [hparH.out, hl.out]; exact hst.out)
          have hGI : GInvS v (0 + 2 * v) st := by
            rw [← hst.out]
            exact ((GInvS.start v).I ps par _ v)
          have hAy := Lib.hid ((hH.out.below RPt.stable hb2H.out).below RPt.stable hbw.out)
          obtain ⟨⟨ex, ey⟩, he⟩ := hAy.out.get hr
          obtain ⟨bb, ob, rfl, hbb, hbc⟩ := hAy.out.ptr (by omega)
          obtain ⟨p0, p1⟩ := hbc rn _ he
          have heH := Lib.hid (show shapeL ps rn solid = [⟨ex, ey, rn⟩] by unfold shapeL; rw [he])
          simp only at p0 p1
          obtain ⟨ng, hng⟩ : ∃ ng, st.1.length = ng := ⟨_, rfl⟩
          have bSx := bS.out
          rw [hng] at bSx
          have hngH := Lib.hid hng
          have bR3 := Lib.hid (bR.out.below hbw.out)
          have y0 := bSx.cell 0 _ rfl
          have y1 := bSx.cell 1 _ rfl
          have y2 := bSx.cell 2 _ rfl
          have y3 := bSx.cell 3 _ rfl
          have fB := bSx.froz
          have lB := bSx.lt
          have fR := bR3.out.froz
          have z0 := bR3.out.cell 0 _ rfl
          have z1 := bR3.out.cell 1 _ rfl
          have z2 := bR3.out.cell 2 _ rfl
          have z3 := bR3.out.cell 3 _ rfl
          have lR3 := bR3.out.lt
          have hrI0 : (0 : Int) ≤ (rn : Int) := by omega
          have hrI : (rn : Int) < (v : Int) := by omega
          clear he hbc bSx hng
          go_wp2
          refine bodyPost_ret (v := .agg #[.slice A1 ng c1, .slice B2 v c2, .slice (some ⟨wr.heap.size, 0, none⟩) 1 1, .int .i64 2]) (by simp only [results, Tryz.results27]; go_simp) rfl ?_
          have hlB : w.heap.size < B + 1 := by omega
          obtain ⟨W4, hW4⟩ : ∃ W4, W4 = (((((wr.setCell ⟨B, 2, none⟩ (.slice (some ⟨wr.heap.size, 0, none⟩) 1 1)).setCell ⟨w.heap.size, 0, none⟩ (.slice A1 ng c1)).setCell ⟨w.heap.size, 1, none⟩ (.slice B2 v c2)).setCell ⟨w.heap.size, 2, none⟩ (.slice (some ⟨wr.heap.size, 0, none⟩) 1 1)).setCell ⟨w.heap.size, 3, none⟩ (.int .i64 2)) := ⟨_, rfl⟩
          have hs4 : W4.heap.size = wr.heap.size := by rw [hW4]; simp
          have hp4 := World.ownsRow_lit (base := B + 1) (e := 72) (size := 3) W4 #[.int .i64 ex, .int .i64 ey, .int .i64 (rn : Int)] 1 (by omega) (by decide) rfl
          have hO4 := (hO.out.setBelow (p := ⟨B, 2, none⟩) (Nat.lt_succ_self _) (.slice (some ⟨wr.heap.size, 0, none⟩) 1 1)).set4 hlB (.slice A1 ng c1) (.slice B2 v c2) (.slice (some ⟨wr.heap.size, 0, none⟩) 1 1) (.int .i64 2)
          have hG4 := row_set4 (ownsRow_setB hG.out (p := ⟨B, 2, none⟩) (Nat.lt_succ_self _) (.slice (some ⟨wr.heap.size, 0, none⟩) 1 1)) hlB (.slice A1 ng c1) (.slice B2 v c2) (.slice (some ⟨wr.heap.size, 0, none⟩) 1 1) (.int .i64 2)
          have hb4 := bl_sys (hb2H.out.trans ((hbw.out.setCell (p := ⟨B, 2, none⟩) hBl (.slice (some ⟨wr.heap.size, 0, none⟩) 1 1)).mono hb2H.out.size)) (.slice A1 ng c1) (.slice B2 v c2) (.slice (some ⟨wr.heap.size, 0, none⟩) 1 1) (.int .i64 2)
          rw [← hW4] at hO4 hG4 hb4 ⊢
          rw [hs4] at hp4
          have hal : Below W4.heap.size W4 (W4.alloc (Obj.cells #[.int .i64 ex, .int .i64 ey, .int .i64 (rn : Int)] 72)) := bl_al (bl_refl _) _
          refine ⟨A1, B2, some ⟨wr.heap.size, 0, none⟩, c1, c2, 1, us, ?_, ?_, hb4.trans (hal.mono hb4.size)⟩
          · rw [hst2.out, hngH.out, hGI.len, heH.out]
            rfl
          · rw [hst2.out, heH.out]
            refine OwnSy.of (base := B + 1) (by omega) ?_ (ownsRow_below hG4 hal) ?_ ?_ hGI.four
            · simp; omega
            · rw [hGI.len]; exact hO4.below hal
            · exact hp4
end Go.Proofs.YtdcndhiidjgmaaaGreatDoor
