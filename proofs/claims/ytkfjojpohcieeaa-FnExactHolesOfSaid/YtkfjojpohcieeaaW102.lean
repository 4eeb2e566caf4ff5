/- Walks: the least rectangle of points, the reference; the area, both. -/
import Derived.Test.YtkfjojpohcieeaaW101
namespace Go.Proofs.Ytkfjojpohcieeaa
open Go.RowKit
set_option linter.unusedSimpArgs false
set_option linter.unusedVariables false
attribute [local go_sem] BelowBy.cell BelowBy.cell_drew stillUpon givesUpon

theorem l00Min_v {x y r : Int} (w : World) (h : mn x y = r) :
    Calls Try.prog 77 #[.int .i64 x, .int .i64 y] w fun e w' => e = .returned (.int .i64 r) ∧ w = w' := by
  subst h
  by_cases hh : x < y
  · have hr := Lib.hid (show mn x y = x by unfold mn; split <;> omega)
    go_enter Try.func77, Try.ntmps77
    go_wp2
    go_ret
    exact ⟨ret_int hr.out.symm, rfl⟩
  · have hr := Lib.hid (show mn x y = y by unfold mn; split <;> omega)
    go_enter Try.func77, Try.ntmps77
    go_wp2
    go_ret
    exact ⟨ret_int hr.out.symm, rfl⟩
theorem l00Max_v {x y r : Int} (w : World) (h : mx x y = r) :
    Calls Try.prog 78 #[.int .i64 x, .int .i64 y] w fun e w' => e = .returned (.int .i64 r) ∧ w = w' := by
  subst h
  by_cases hh : y < x
  · have hr := Lib.hid (show mx x y = x by unfold mx; split <;> omega)
    go_enter Try.func78, Try.ntmps78
    go_wp2
    go_ret
    exact ⟨ret_int hr.out.symm, rfl⟩
  · have hr := Lib.hid (show mx x y = y by unfold mx; split <;> omega)
    go_enter Try.func78, Try.ntmps78
    go_wp2
    go_ret
    exact ⟨ret_int hr.out.symm, rfl⟩
set_option maxRecDepth 100000 in
set_option maxHeartbeats 4000000 in
theorem l03Bounds_any {A : Option Addr} {n c : Nat} {ps : List Pt} {w : World} (h : RdSl 2 RPt w A n ps) (hn : 0 < n) (hm : n ≤ 100000) :
    Calls Try.prog 48 #[.slice A n c] w fun e w' => e = .returned (.tuple #[.agg #[.int .i64 (bxN ps n).lx, .int .i64 (bxN ps n).ly], .agg #[.int .i64 (bxN ps n).hx, .int .i64 (bxN ps n).hy]]) ∧ Below w.heap.size w w' := by
  have hA := Lib.hid h
  obtain ⟨b, o, rfl, hb, hc⟩ := h.ptr hn
  obtain ⟨e0, he0⟩ := h.get hn
  obtain ⟨d0, d1⟩ := hc 0 e0 he0
  simp only [Nat.zero_mul, Nat.add_zero] at d0 d1
  have hb0 := Lib.hid (show bxN ps 1 = ⟨e0.x, e0.y, e0.x, e0.y⟩ by rw [bxN_one]; simp [bxN, ptA, he0])
  have hnI : (0 : Int) < (n : Int) := by omega
  have hbs : b ≤ w.heap.size := by omega
  have hbs1 : b ≤ w.heap.size + 1 := by omega
  have hbs2 : b ≤ w.heap.size + 1 + 1 := by omega
  have hbn1 : ¬ b = w.heap.size := by omega
  have hbn2 : ¬ b = w.heap.size + 1 := by omega
  have hbn3 : ¬ b = w.heap.size + 1 + 1 := by omega
  have hbl1 : b < w.heap.size + 1 := by omega
  have hbl2 : b < w.heap.size + 1 + 1 := by omega
  have hbl3 : b < w.heap.size + 1 + 1 + 1 := by omega
  clear h hc he0
  go_enter Try.func48, Try.ntmps48
  have q2 : PtB ((((w.alloc (.cells #[.int .i64 0, .int .i64 0] 52)).alloc (.cells #[.int .i64 0, .int .i64 0] 52)).alloc (.cells #[.int .i64 e0.x, .int .i64 e0.y] 52)).alloc (.cells #[.int .i64 e0.x, .int .i64 e0.y] 52)) w.heap.size 0 0 := (((PtB.new w 0 0).al _).al _).al _
  have q3 : PtB ((((w.alloc (.cells #[.int .i64 0, .int .i64 0] 52)).alloc (.cells #[.int .i64 0, .int .i64 0] 52)).alloc (.cells #[.int .i64 e0.x, .int .i64 e0.y] 52)).alloc (.cells #[.int .i64 e0.x, .int .i64 e0.y] 52)) (w.heap.size + 1) 0 0 := by
    have := PtB.new (w.alloc (.cells #[.int .i64 0, .int .i64 0] 52)) 0 0
    simp only [World.size_alloc] at this
    exact (this.al _).al _
  have q4 : PtB ((((w.alloc (.cells #[.int .i64 0, .int .i64 0] 52)).alloc (.cells #[.int .i64 0, .int .i64 0] 52)).alloc (.cells #[.int .i64 e0.x, .int .i64 e0.y] 52)).alloc (.cells #[.int .i64 e0.x, .int .i64 e0.y] 52)) (w.heap.size + 1 + 1) e0.x e0.y := by
    have := PtB.new ((w.alloc (.cells #[.int .i64 0, .int .i64 0] 52)).alloc (.cells #[.int .i64 0, .int .i64 0] 52)) e0.x e0.y
    simp only [World.size_alloc] at this
    exact this.al _
  have q5 : PtB ((((w.alloc (.cells #[.int .i64 0, .int .i64 0] 52)).alloc (.cells #[.int .i64 0, .int .i64 0] 52)).alloc (.cells #[.int .i64 e0.x, .int .i64 e0.y] 52)).alloc (.cells #[.int .i64 e0.x, .int .i64 e0.y] 52)) (w.heap.size + 1 + 1 + 1) e0.x e0.y := by
    have := PtB.new (((w.alloc (.cells #[.int .i64 0, .int .i64 0] 52)).alloc (.cells #[.int .i64 0, .int .i64 0] 52)).alloc (.cells #[.int .i64 e0.x, .int .i64 e0.y] 52)) e0.x e0.y
    simp only [World.size_alloc] at this
    exact this
  have k6H := Lib.hid (show Below w.heap.size w ((((w.alloc (.cells #[.int .i64 0, .int .i64 0] 52)).alloc (.cells #[.int .i64 0, .int .i64 0] 52)).alloc (.cells #[.int .i64 e0.x, .int .i64 e0.y] 52)).alloc (.cells #[.int .i64 e0.x, .int .i64 e0.y] 52)) from bl_al (bl_al (bl_al (bl_al (bl_refl _) _) _) _) _)
  have q2H := Lib.hid q2
  have q3H := Lib.hid q3
  have start := Lib.hid (show PtB ((((w.alloc (.cells #[.int .i64 0, .int .i64 0] 52)).alloc (.cells #[.int .i64 0, .int .i64 0] 52)).alloc (.cells #[.int .i64 e0.x, .int .i64 e0.y] 52)).alloc (.cells #[.int .i64 e0.x, .int .i64 e0.y] 52)) (w.heap.size + 1 + 1) (bxN ps 1).lx (bxN ps 1).ly ∧
    PtB ((((w.alloc (.cells #[.int .i64 0, .int .i64 0] 52)).alloc (.cells #[.int .i64 0, .int .i64 0] 52)).alloc (.cells #[.int .i64 e0.x, .int .i64 e0.y] 52)).alloc (.cells #[.int .i64 e0.x, .int .i64 e0.y] 52)) (w.heap.size + 1 + 1 + 1) (bxN ps 1).hx (bxN ps 1).hy by rw [hb0.out]; exact ⟨q4, q5⟩)
  clear q2 q3 q4 q5 hb0
  go_wp2
  generalize ((((w.alloc (.cells #[.int .i64 0, .int .i64 0] 52)).alloc (.cells #[.int .i64 0, .int .i64 0] 52)).alloc (.cells #[.int .i64 e0.x, .int .i64 e0.y] 52)).alloc (.cells #[.int .i64 e0.x, .int .i64 e0.y] 52)) = w6 at k6H q2H q3H start ⊢
  obtain ⟨b4, hb4⟩ : ∃ b4, w.heap.size + 1 + 1 = b4 := ⟨_, rfl⟩
  rw [hb4] at start ⊢
  obtain ⟨b5, hb5⟩ : ∃ b5, b4 + 1 = b5 := ⟨_, rfl⟩
  rw [hb5] at start ⊢
  have ne45 : b4 ≠ b5 := by omega
  have ne45' : ¬ b4 = b5 := ne45
  have ne54' : ¬ b5 = b4 := fun e => ne45 e.symm
  have z6 : w.heap.size ≤ b4 := by omega
  have z7 : w.heap.size ≤ b5 := by omega
  have z2 : w.heap.size ≠ b4 := by omega
  have z3 : w.heap.size ≠ b5 := by omega
  have z4 : w.heap.size + 1 ≠ b4 := by omega
  have z5 : w.heap.size + 1 ≠ b5 := by omega
  have y4 : ¬ b = b4 := by omega
  have y5 : ¬ b = b5 := by omega
  clear hbn1 hbn2 hbn3 hbl1 hbl2 hbl3 hbs hbs1 hbs2 d0 d1 hb4 hb5
  go_loopg [6] (n - 1) (fun g i wr => ∃ j : Nat, j + g = n ∧ i = .int .i64 (j : Int) ∧ Hid (Below w.heap.size w wr) ∧ Hid (PtB wr w.heap.size 0 0) ∧ Hid (PtB wr (w.heap.size + 1) 0 0) ∧ Hid (PtB wr b4 (bxN ps j).lx (bxN ps j).ly ∧ PtB wr b5 (bxN ps j).hx (bxN ps j).hy))
  case atStart => exact ⟨1, by omega, rfl, k6H, q2H, q3H, start⟩
  case round =>
    obtain ⟨j, hj, rfl, hbw, hq2, hq3, hq⟩ := hrel
    have a0 := hq.out.1.c0
    have a1 := hq.out.1.c1
    have a2 := hq.out.1.f0
    have a3 := hq.out.1.f1
    have a4 := hq.out.1.lt
    have c0 := hq.out.2.c0
    have c1 := hq.out.2.c1
    have c2 := hq.out.2.f0
    have c3 := hq.out.2.f1
    have c4 := hq.out.2.lt
    by_cases hjn : j < n
    · have hAw := hA.out.below RPt.stable hbw.out
      obtain ⟨b', o', hbo, hbb, hc⟩ := hAw.ptr hn
      cases hbo
      obtain ⟨e, he⟩ := hAw.get hjn
      obtain ⟨d0, d1⟩ := hc j e he
      have hnx := Lib.hid (show ptA ps j = e by simp [ptA, he])
      have hjI : (j : Int) < (n : Int) := by omega
      have hj0 : (0 : Int) ≤ (j : Int) := by omega
      have hbs' : b ≤ wr.heap.size := by omega
      obtain ⟨m1, hm1⟩ : ∃ v, mn (bxN ps j).lx e.x = v := ⟨_, rfl⟩
      obtain ⟨m2, hm2⟩ : ∃ v, mn (bxN ps j).ly e.y = v := ⟨_, rfl⟩
      obtain ⟨m3, hm3⟩ : ∃ v, mx (bxN ps j).hx e.x = v := ⟨_, rfl⟩
      obtain ⟨m4, hm4⟩ : ∃ v, mx (bxN ps j).hy e.y = v := ⟨_, rfl⟩
      have hx2 := Lib.hid (show bxN ps (j + 1) = ⟨m1, m2, m3, m4⟩ by simp only [bxN]; rw [hnx.out, hm1, hm2, hm3, hm4])
      have h1H := Lib.hid hm1
      have h2H := Lib.hid hm2
      have h3H := Lib.hid hm3
      have h4H := Lib.hid hm4
      clear hc he hAw hm1 hm2 hm3 hm4
      go_wp2
      refine wp_region_ord [(0, .q), (1, .q), (2, .q), (3, .q), (4, .q), (5, .q), (6, .q), (8, .q), (9, .q), (10, .q), (11, .q), (12, .q), (13, .q), (14, .q), (7, .g), (15, .g), (16, .q), (17, .b)] (by kernel_rfl) (by kernel_rfl) ?_
      simp only [pick, List.filterMap_cons, List.filterMap_nil, List.getElem?_toArray, List.getElem?_cons_zero, List.getElem?_cons_succ, Option.map_some]
      repeat (first
        | ((with_reducible refine wpD_p (fun K hK => ?_)); go_simp; refine hK _ ?_; clear hK K)
        | ((with_reducible refine wpD_q (fun K hK => ?_)); go_simp; (first | refine hK _ ?_ | (go_bits; refine hK _ ?_) | (go_bits; go_simp; refine hK _ ?_)); clear hK K)
        | ((with_reducible refine wpD_g (fun K hK => ?_)); go_simp; refine hK _ _ ?_; clear hK K)
        | ((with_reducible refine wpD_g (fun K hK => ?_)); go_simp; refine ⟨Grew.of_alloc _, hK _ _ ?_⟩; clear hK K)
        | ((with_reducible refine wpD_g (fun K hK => ?_)); go_simp; go_at_call 77; refine (l00Min_v _ (by first | exact h1H.out | exact h2H.out)).mono ?_; rintro e _ ⟨rfl, rfl⟩; refine ⟨_, rfl, Below.refl _ _, hK _ _ ?_⟩; clear hK K))
      with_reducible refine wpD_b (fun K hK => ?_)
      go_simp
      refine hK _ _ ?_
      clear hK K
      with_reducible refine wpD_nil ?_
      go_wp2
      refine wp_region_ord [(0, .q), (1, .q), (2, .q), (3, .q), (4, .q), (5, .q), (6, .q), (8, .q), (9, .q), (10, .q), (11, .q), (12, .q), (13, .q), (14, .q), (7, .g), (15, .g), (16, .q), (17, .b)] (by kernel_rfl) (by kernel_rfl) ?_
      simp only [pick, List.filterMap_cons, List.filterMap_nil, List.getElem?_toArray, List.getElem?_cons_zero, List.getElem?_cons_succ, Option.map_some]
      repeat (first
        | ((with_reducible refine wpD_p (fun K hK => ?_)); go_simp; refine hK _ ?_; clear hK K)
        | ((with_reducible refine wpD_q (fun K hK => ?_)); go_simp; (first | refine hK _ ?_ | (go_bits; refine hK _ ?_) | (go_bits; go_simp; refine hK _ ?_)); clear hK K)
        | ((with_reducible refine wpD_g (fun K hK => ?_)); go_simp; refine hK _ _ ?_; clear hK K)
        | ((with_reducible refine wpD_g (fun K hK => ?_)); go_simp; refine ⟨Grew.of_alloc _, hK _ _ ?_⟩; clear hK K)
        | ((with_reducible refine wpD_g (fun K hK => ?_)); go_simp; go_at_call 78; refine (l00Max_v _ (by first | exact h3H.out | exact h4H.out)).mono ?_; rintro e _ ⟨rfl, rfl⟩; refine ⟨_, rfl, Below.refl _ _, hK _ _ ?_⟩; clear hK K))
      with_reducible refine wpD_b (fun K hK => ?_)
      go_simp
      refine hK _ _ ?_
      clear hK K
      with_reducible refine wpD_nil ?_
      go_wp2
      go_roundg (n - (j + 1))
      case measure => omega
      case rel =>
        exact ⟨j + 1, by omega, by go_num, Lib.hid ((((hbw.out.setCell (p := ⟨b4, 0, none⟩) z6 _).setCell (p := ⟨b4, 1, none⟩) z6 _).setCell (p := ⟨b5, 0, none⟩) z7 _).setCell (p := ⟨b5, 1, none⟩) z7 _).drew.drew,
          Lib.hid (((hq2.out.far2 z2 _ _).far2 z3 _ _).dr.dr), Lib.hid (((hq3.out.far2 z4 _ _).far2 z5 _ _).dr.dr), Lib.hid (by rw [hx2.out]; exact ⟨((hq.out.1.put _ _).far2 ne45 _ _).dr.dr, ((hq.out.2.far2 (fun e => ne45 e.symm) _ _).put _ _).dr.dr⟩)⟩
    · obtain rfl : j = n := by omega
      go_wp2_with fail
      have hJc : ∀ W, Js (fun x => x ≠ w.heap.size ∧ x ≠ w.heap.size + 1) wr.drew W → ∀ o', W.cell? ⟨b4, o', none⟩ = wr.cell? ⟨b4, o', none⟩ ∧ W.cell? ⟨b5, o', none⟩ = wr.cell? ⟨b5, o', none⟩ := fun W hW o' =>
        ⟨hW.cell o' ⟨by omega, by omega⟩ (by exact a4), hW.cell o' ⟨by omega, by omega⟩ (by exact c4)⟩
      refine wp_region_ordJ [(0, .p), (1, .p), (2, .b), (3, .b)] (by kernel_rfl) (by kernel_rfl) (Js (fun x => x ≠ w.heap.size ∧ x ≠ w.heap.size + 1) wr.drew) (Js.refl _ _) ?_
      simp only [pick, List.filterMap_cons, List.filterMap_nil, List.getElem?_toArray, List.getElem?_cons_zero, List.getElem?_cons_succ, Option.map_some]
      have e0' := hq2.out.c0
      have e1' := hq2.out.c1
      have e2' := hq2.out.f0
      have e3' := hq2.out.f1
      have e4' := hq3.out.c0
      have e5' := hq3.out.c1
      have e6' := hq3.out.f0
      have e7' := hq3.out.f1
      repeat (with_reducible refine wpDJ_pv rfl (fun K hK => ?_); apply Exists.intro; apply And.intro; (focus (intro W hW; have hc := hJc W hW; go_simp; (first | done | rfl | exact ⟨rfl, rfl⟩))); go_simp; refine hK _ ?_; clear hK K)
      clear hJc
      with_reducible refine wpDJ_b (fun K hK => ?_)
      go_simp
      refine ⟨((Js.refl _ wr.drew).set (p := w.heap.size) (fun b' hs _ => hs.1) _).set (p := w.heap.size) (fun b' hs _ => hs.1) _, hK _ _ ?_⟩
      clear hK K
      with_reducible refine wpDJ_b (fun K hK => ?_)
      go_simp
      refine ⟨((((Js.refl _ wr.drew).set (p := w.heap.size) (fun b' hs _ => hs.1) _).set (p := w.heap.size) (fun b' hs _ => hs.1) _).set (p := w.heap.size + 1) (fun b' hs _ => hs.2) _).set (p := w.heap.size + 1) (fun b' hs _ => hs.2) _, hK _ _ ?_⟩
      clear hK K
      with_reducible refine wpDJ_nil ?_
      go_wp2
      refine bodyPost_ret (v := .tuple #[.agg #[.int .i64 (bxN ps j).lx, .int .i64 (bxN ps j).ly], .agg #[.int .i64 (bxN ps j).hx, .int .i64 (bxN ps j).hy]]) (by simp only [results, Try.results48]; go_simp) rfl ?_
      exact ⟨rfl, (((hbw.out.drew.setCell (p := ⟨w.heap.size, 0, none⟩) (Nat.le_refl _) _).setCell (p := ⟨w.heap.size, 1, none⟩) (Nat.le_refl _) _).setCell (p := ⟨w.heap.size + 1, 0, none⟩) (Nat.le_succ _) _).setCell (p := ⟨w.heap.size + 1, 1, none⟩) (Nat.le_succ _) _⟩
theorem areaI_wraps {bx : Bx} (h1 : -60 ≤ bx.lx ∧ bx.lx ≤ 60) (h2 : -60 ≤ bx.ly ∧ bx.ly ≤ 60) (h3 : -60 ≤ bx.hx ∧ bx.hx ≤ 60) (h4 : -60 ≤ bx.hy ∧ bx.hy ≤ 60) :
    IntKind.i64.wrap (bx.hx - bx.lx) = bx.hx - bx.lx ∧ IntKind.i64.wrap (bx.hx - bx.lx + 1) = bx.hx - bx.lx + 1 ∧ IntKind.i64.wrap (bx.hy - bx.ly) = bx.hy - bx.ly ∧ IntKind.i64.wrap (bx.hy - bx.ly + 1) = bx.hy - bx.ly + 1 ∧
      IntKind.i64.wrap ((bx.hx - bx.lx + 1) * (bx.hy - bx.ly + 1)) = areaI bx := by
  have hW : ∀ n : Int, -9000000000000000000 ≤ n → n ≤ 9000000000000000000 → IntKind.i64.wrap n = n := fun n h1 h2 => by
    simp [IntKind.wrap, IntKind.bits, IntKind.signed]; omega
  have hr := areaI_rng h1 h2 h3 h4
  exact ⟨hW _ (by omega) (by omega), hW _ (by omega) (by omega), hW _ (by omega) (by omega), hW _ (by omega) (by omega), hW (areaI bx) (by omega) (by omega)⟩
end Go.Proofs.Ytkfjojpohcieeaa
