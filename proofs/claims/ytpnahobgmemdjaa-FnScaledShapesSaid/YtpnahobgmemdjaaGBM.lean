import Derived.Test.YtpnahobgmemdjaaGBK
import Derived.Test.YtpnahobgmemdjaaGAR
import Derived.Test.YtpnahobgmemdjaaGBL
import Derived.Test.YtpnahobgmemdjaaGAX
set_option linter.unusedSimpArgs false
set_option linter.unusedVariables false
/- Walk: the drawn shape of the law on scaled shapes. -/




namespace Go.Proofs.Ytpnahobgmemdjaa
open Go.RowKit
attribute [local go_sem] BelowBy.cell BelowBy.cell_drew stillUpon givesUpon

/-- a point comes between: all before are less, it is less than all behind -/
theorem Sm.ins {ps : List Pt} {B j : Nat} {q : Pt} (h : Sm ps B) (h1 : ∀ (i : Nat) (p : Pt), i < j → ps[i]? = some p → ltP p q) (h2 : ∀ p, ps[j]? = some p → ltP q p) (hq : (-((B + 1 : Nat) : Int) ≤ q.x ∧ q.x ≤ ((B + 1 : Nat) : Int)) ∧ (-((B + 1 : Nat) : Int) ≤ q.y ∧ q.y ≤ ((B + 1 : Nat) : Int))) :
    Sm (ps.take j ++ [q] ++ ps.drop j) (B + 1) := by
  refine ⟨?_, fun p hp => ?_⟩
  · unfold SortS
    rw [List.append_assoc, List.pairwise_append, List.singleton_append, List.pairwise_cons]
    have hbehind : ∀ p ∈ ps.drop j, ltP q p := fun p hp => by
      obtain ⟨i, hi⟩ := List.getElem?_of_mem hp
      rw [List.getElem?_drop] at hi
      obtain ⟨p0, hp0⟩ : ∃ p0, ps[j]? = some p0 := ⟨_, List.getElem?_eq_getElem (by have := (List.getElem?_eq_some_iff.1 hi).1; omega)⟩
      have h3 := h2 p0 hp0
      rcases Nat.eq_zero_or_pos i with h0 | h0
      · subst h0
        rw [Nat.add_zero, hp0] at hi
        injection hi with hi
        rw [← hi]; exact h3
      · exact ltP_trans h3 (h.srt.get (by omega) hp0 hi)
    refine ⟨List.Pairwise.sublist (List.take_sublist _ _) h.srt, ⟨hbehind, List.Pairwise.sublist (List.drop_sublist _ _) h.srt⟩, fun a ha b hb => ?_⟩
    obtain ⟨i, hi⟩ := List.getElem?_of_mem ha
    have hij : i < j := by
      have := (List.getElem?_eq_some_iff.1 hi).1
      rw [List.length_take] at this
      omega
    rw [List.getElem?_take_of_lt hij] at hi
    have h3 := h1 i a hij hi
    rcases List.mem_cons.1 hb with rfl | hb
    · exact h3
    · exact ltP_trans h3 (hbehind b hb)
  · simp only [List.mem_append, List.mem_cons, List.not_mem_nil, or_false] at hp
    have hold : ∀ p ∈ ps, (-((B + 1 : Nat) : Int) ≤ p.x ∧ p.x ≤ ((B + 1 : Nat) : Int)) ∧ (-((B + 1 : Nat) : Int) ≤ p.y ∧ p.y ≤ ((B + 1 : Nat) : Int)) := fun p hp => by
      have := h.rng p hp; omega
    rcases hp with (hp | rfl) | hp
    · exact hold p (List.mem_of_mem_take hp)
    · exact hq
    · exact hold p (List.mem_of_mem_drop hp)
theorem validPt_of {x y : Int} (h : (-60 ≤ x ∧ x ≤ 60) ∧ (-60 ≤ y ∧ y ≤ 60)) : validPt x y = true := by
  simp only [validPt, Bool.and_eq_true, inB_true]; exact h
theorem lt_or_eq_or {p q : Pt} (h : lessPt p.x p.y q.x q.y = false) (hne : ¬ p = q) : ltP q p := by
  have h1 : ¬ ltP p q := fun h2 => by unfold ltP at h2; rw [h] at h2; cases h2
  rw [ltP_iff] at h1 ⊢
  have h2 : ¬ (p.x = q.x ∧ p.y = q.y) := fun hh => hne (by cases p; cases q; simp only at hh; rw [hh.1, hh.2])
  omega
theorem step_b {x : Int} {d B : Nat} (h : -(B : Int) ≤ x ∧ x ≤ B) : (-((B + 1 : Nat) : Int) ≤ stepX x d ∧ stepX x d ≤ ((B + 1 : Nat) : Int)) ∧ (-((B + 1 : Nat) : Int) ≤ stepY x d ∧ stepY x d ≤ ((B + 1 : Nat) : Int)) := by
  constructor
  · unfold stepX; split <;> (try split) <;> omega
  · unfold stepY; split <;> (try split) <;> omega
/-- the drawn shape -/
def DrawnS (w : World) (e : Ending) (w' : World) : Prop := ∃ A N c ps, e = .returned (.slice A N c) ∧ RdSl 2 RPt w' A N ps ∧ Sm ps 9 ∧ 1 ≤ N ∧ N ≤ 10 ∧ Below w.heap.size w w'
set_option maxRecDepth 100000 in
set_option maxHeartbeats 8000000 in
theorem a2Shape_any {C : Option Addr} {n c : Nat} {bs : List Nat} {w : World} (h : RdSl 1 RBy w C n bs) :
    Calls Try.prog 14 #[.slice C n c] w (DrawnS w) := by
  obtain ⟨i0, hi, hz0, hz1, hz2⟩ := info_parts infoPtQ
  have hH := Lib.hid h
  clear h
  have hal : Below w.heap.size w (w.alloc (Obj.cells #[.int .i64 0, .int .i64 0] 34)) := bl_al (bl_refl _) _
  have hO0 : Hid ((w.alloc (Obj.cells #[.int .i64 0, .int .i64 0] 34)).ownsRow w.heap.size 34 2 (.slice (some ⟨w.heap.size, 0, none⟩) 1 1) 1 (ptCells [⟨0, 0⟩])) := Lib.hid (World.ownsRow_lit (base := w.heap.size) (e := 34) (size := 2) w #[.int .i64 0, .int .i64 0] 1 (Nat.le_refl _) (by decide) rfl)
  have hbw0 := Lib.hid hal
  have hSm0 : Hid (Sm [⟨0, 0⟩] 0) := Lib.hid ⟨List.pairwise_singleton _ _, fun p hp => by simp at hp; subst hp; simp⟩
  clear hal
  go_enter Try.func14, Try.ntmps14
  go_wp2
  go_loopg [4, 3] 9 (fun g i v wr => ∃ (k N : Nat) (A : Option Addr) (cN : Nat) (ps : List Pt), k + g = 9 ∧ 1 ≤ N ∧ N ≤ k + 1 ∧ i = .int .i64 (k : Int) ∧ v = .slice A N cN ∧ Hid (ps.length = N) ∧ Hid (wr.ownsRow w.heap.size 34 2 (.slice A N cN) N (ptCells ps)) ∧ Hid (Sm ps k) ∧ Hid (Below w.heap.size w wr))
  case atStart => exact ⟨0, 1, some ⟨w.heap.size, 0, none⟩, 1, [⟨0, 0⟩], by omega, by omega, by omega, rfl, rfl, Lib.hid rfl, hO0, hSm0, hbw0⟩
  case round =>
    clear hO0 hSm0 hbw0
    obtain ⟨k, N, A, cN, ps, hk, hN1, hNk, rfl, rfl, hl, hO, hSm, hbw⟩ := hrel
    have hszl := hbw.out.size
    by_cases hk9 : k < 9
    · have hkI : (k : Int) < 9 := by omega
      have hm2 : IntKind.i64.wrap (2 * (k : Int)) = ((2 * k : Nat) : Int) := by rw [wrapFs (by omega) (by omega)]; omega
      obtain ⟨k2, hk2⟩ : ∃ k2, 2 * k = k2 := ⟨_, rfl⟩
      rw [hk2] at hm2
      have hm3 : IntKind.i64.wrap ((k2 : Int) + 1) = ((k2 + 1 : Nat) : Int) := by rw [wrapFs (by omega) (by omega)]; omega
      obtain ⟨k3, hk3⟩ : ∃ k3, k2 + 1 = k3 := ⟨_, rfl⟩
      rw [hk3] at hm3
      have hk20 : k3 ≤ 30 := by omega
      have hk22 : k2 ≤ 30 := by omega
      have hR := Lib.hid (rdPt_own hO.out hl.out)
      obtain ⟨gS, hgS⟩ : ∃ g, A = some ⟨g, 0, none⟩ := by
        rcases hO.out.2 with ⟨_, h0⟩ | ⟨g, cap, cur, hv, _⟩
        · omega
        · injection hv with e; exact ⟨g, e⟩
      subst hgS
      have hcap : N ≤ cN := by
        rcases hO.out.2 with ⟨_, h0⟩ | ⟨g, cap, cur, hv, _, _, hle, _⟩
        · omega
        · injection hv with e1 e2 e3; omega
      clear hk2 hk3
      go_wp2_with fail
      refine (a2At_any k2 (hH.out.below RBy.stable hbw.out) rfl hN1 (by omega) (by omega)).mono ?_
      rintro _ _ ⟨v, rfl, hv, rfl⟩
      obtain ⟨e, he⟩ : ∃ e, ps[v]? = some e := ⟨_, List.getElem?_eq_getElem (by rw [hl.out]; exact hv)⟩
      have her := hSm.out.rng e (List.mem_of_getElem? he)
      obtain ⟨bS, oS, hSe, hbS, hcS⟩ := hR.out.ptr (by omega)
      obtain ⟨e0, e1⟩ := hcS v e he
      injection hSe with hSe
      injection hSe with q1 q2 _
      subst q1 q2
      simp only [Nat.zero_add] at e0 e1
      have hv0 : (0 : Int) ≤ (v : Int) := by omega
      have hvI : (v : Int) < (N : Int) := by omega
      clear hcS he
      go_wp2_with fail
      obtain ⟨b5, hb5⟩ : ∃ b, wr.heap.size = b := ⟨_, rfl⟩
      obtain ⟨wa, hwa⟩ : ∃ z, z = wr.alloc (Obj.cells #[.int .i64 e.x, .int .i64 e.y] 34) := ⟨_, rfl⟩
      have hal : Below wr.heap.size wr wa := by rw [hwa]; exact bl_al (bl_refl _) _
      have bE0 : Bx wa wr.heap.size [.int .i64 e.x, .int .i64 e.y] := by rw [hwa]; exact Bx.made wr [.int .i64 e.x, .int .i64 e.y] _
      rw [hb5] at bE0
      have bE := Lib.hid bE0
      have hOa := Lib.hid (ownsRow_below hO.out hal)
      have hbwa := Lib.hid (hbw.out.trans (hal.mono hszl))
      rw [← hwa]
      try simp only [hb5]
      clear hwa hb5 hal bE0 hO hbw hszl hR hbS e0 e1
      have x0 := bE.out.cell 0 _ rfl
      have x1 := bE.out.cell 1 _ rfl
      have lx := bE.out.lt
      -- the step, with its box
      refine wp_region_fl 10 [(0, .q), (1, .q), (2, .q), (3, .q), (4, .q), (5, .g), (6, .g), (7, .q), (8, .q), (9, .p)] [(11, .b), (12, .q)] _ (Obj.cells #[.int .i64 0, .int .i64 0] 34) (by kernel_rfl) (by kernel_rfl) (by kernel_rfl) (by kernel_rfl) rfl (fun a w => ⟨rfl, by unfold flPtr; go_simp⟩) ?_
      simp only [pick, List.filterMap_cons, List.filterMap_nil, List.getElem?_toArray, List.getElem?_cons_zero, List.getElem?_cons_succ, Option.map_some]
      repeat (first | ((with_reducible refine wpL_p (fun K hK => ?_)); go_simp; refine hK _ ?_; clear hK K) | ((with_reducible refine wpL_q (fun K hK => ?_)); go_simp; (first | refine hK _ ?_ | (go_bits; refine hK _ ?_) | (go_bits; go_simp; refine hK _ ?_)); clear hK K))
      with_reducible refine wpL_g rfl (fun KK hKK st4 u4 mv4 => ?_)
      have hu4 := mv4.below
      have fu4 := (FlAt.none (Obj.cells #[.int .i64 0, .int .i64 0] 34) (World.drew wa)).mv mv4
      clear mv4
      have j4 : Below wa.heap.size wa u4 := (bl_dr (bl_refl wa)).trans (hu4.mono (Nat.le_refl _))
      clear hu4
      go_simp
      refine (a2At_any k3 ((hH.out.below RBy.stable hbwa.out).below RBy.stable j4) rfl (show 1 ≤ 4 by omega) (by omega) (by omega)).mono ?_
      rintro _ _ ⟨dd, rfl, hd4, rfl⟩
      refine ⟨_, rfl, Below.refl _ _, hKK _ _ _ ?_⟩
      clear hKK KK
      have hdB := Lib.hid (show inB (dd : Int) 0 3 = true from inB_true.2 (by omega))
      obtain ⟨X, hX⟩ : ∃ X, stepX e.x (dd : Int) = X := ⟨_, rfl⟩
      obtain ⟨Y, hY⟩ : ∃ Y, stepY e.y (dd : Int) = Y := ⟨_, rfl⟩
      have hXH := Lib.hid hX
      have hYH := Lib.hid hY
      have hXY := Lib.hid (show (-((k + 1 : Nat) : Int) ≤ X ∧ X ≤ ((k + 1 : Nat) : Int)) ∧ (-((k + 1 : Nat) : Int) ≤ Y ∧ Y ≤ ((k + 1 : Nat) : Int)) by rw [← hX, ← hY]; exact ⟨(step_b her.1).1, (step_b her.2).2⟩)
      have hvE := Lib.hid (validPt_of (x := e.x) (y := e.y) (by omega))
      have hvX := Lib.hid (validPt_of (x := X) (y := Y) (by have := hXY.out; omega))
      clear hX hY
      repeat (first | ((with_reducible refine wpL_p (fun K hK => ?_)); go_simp; refine hK _ ?_; clear hK K) | ((with_reducible refine wpL_q (fun K hK => ?_)); go_simp; (first | refine hK _ ?_ | (go_bits; refine hK _ ?_) | (go_bits; go_simp; refine hK _ ?_)); clear hK K))
      with_reducible refine wpL_g rfl (fun KK hKK st5 u5 mv5 => ?_)
      have hu5 := mv5.below
      have fu5 := fu4.mv mv5
      clear mv5
      have j5 : Below wa.heap.size wa u5 := j4.trans (hu5.mono j4.size)
      clear hu5 fu4
      go_simp
      refine (lStep_ok _ hvE.out hdB.out hvX.out hXH.out hYH.out).mono ?_
      rintro _ w8 ⟨rfl, hb8⟩
      refine ⟨_, rfl, hb8, hKK _ _ _ ?_⟩
      clear hKK KK
      have fd5 := fu5.below hb8
      have j6 : Below wa.heap.size wa w8 := j5.trans (hb8.mono j5.size)
      clear hb8 fu5
      repeat (first | ((with_reducible refine wpL_p (fun K hK => ?_)); go_simp; refine hK _ ?_; clear hK K) | ((with_reducible refine wpL_q (fun K hK => ?_)); go_simp; (first | refine hK _ ?_ | (go_bits; refine hK _ ?_) | (go_bits; go_simp; refine hK _ ?_)); clear hK K))
      with_reducible refine wpL_nil (fun b6 w9 mvF => ?_)
      have huF := mvF.below
      obtain ⟨fl9, fb9⟩ := (fd5.mv mvF).2 _ rfl
      have j8 : Below wa.heap.size wa w9 := j6.trans (huF.mono j6.size)
      clear mvF fd5 huF
      simp only [World.size_drew] at fl9
      have rF : w9.rowIs b6 34 2 (fun i => (#[.int .i64 0, .int .i64 0] : Array Value).getD i undef) := ⟨_, fb9, rfl, fun i hi => by
        have : i = 0 ∨ i = 1 := by omega
        rcases this with rfl | rfl <;> rfl⟩
      have f0 : w9.cell? ⟨b6, 0, none⟩ = some (.int .i64 0) := rF.cell (i := 0) (by decide)
      have f1 : w9.cell? ⟨b6, 1, none⟩ = some (.int .i64 0) := rF.cell (i := 1) (by decide)
      have ff := fun i => rF.frozen i
      have lF : b6 < w9.heap.size := (Array.getElem?_eq_some_iff.1 fb9).1
      have bN0 : Bx w9 b6 [.int .i64 0, .int .i64 0] := ⟨lF, fun j u hu => by
        have hj := (List.getElem?_eq_some_iff.1 hu).1
        have : j = 0 ∨ j = 1 := by simp at hj; omega
        rcases this with rfl | rfl
        · simp at hu; subst hu; exact f0
        · simp at hu; subst hu; exact f1, fun j => rF.frozen j⟩
      have bN := Lib.hid ((bN0.setSame 0 (.int .i64 X)).setSame 1 (.int .i64 Y))
      have jF : Below wa.heap.size wa ((w9.setCell ⟨b6, 0, none⟩ (.int .i64 X)).setCell ⟨b6, 1, none⟩ (.int .i64 Y)) := (j8.setCell (p := ⟨b6, 0, none⟩) fl9 _).setCell (p := ⟨b6, 1, none⟩) fl9 _
      have hOn := Lib.hid (ownsRow_below hOa.out jF)
      have hbwn := Lib.hid (hbwa.out.trans (jF.mono hbwa.out.size))
      clear j4 j5 j6 j8 fb9 rF bN0 bE x0 x1 lx
      simp only [flPtr]
      with_reducible refine wpD_b (fun K hK => ?_)
      go_simp
      refine hK _ _ ?_
      clear hK K
      repeat (first | ((with_reducible refine wpD_p (fun K hK => ?_)); go_simp; refine hK _ ?_; clear hK K) | ((with_reducible refine wpD_q (fun K hK => ?_)); go_simp; (first | refine hK _ ?_ | (go_bits; refine hK _ ?_) | (go_bits; go_simp; refine hK _ ?_)); clear hK K))
      with_reducible refine wpD_nil ?_
      obtain ⟨wn, hwn⟩ : ∃ z, z = (w9.setCell ⟨b6, 0, none⟩ (.int .i64 X)).setCell ⟨b6, 1, none⟩ (.int .i64 Y) := ⟨_, rfl⟩
      rw [← hwn] at bN hOn hbwn ⊢
      clear hwn jF f0 f1 ff lF fl9 hOa hbwa
      go_wp2_with fail
      go_loopg [8] (N + 1) (fun g i wr => ∃ j : Nat, j + g = N + 1 ∧ j ≤ N ∧ i = .int .i64 (j : Int) ∧ Hid (∀ (i : Nat) (p : Pt), i < j → ps[i]? = some p → ltP p ⟨X, Y⟩) ∧ Hid (wr.ownsRow w.heap.size 34 2 (.slice (some ⟨gS, 0, none⟩) N cN) N (ptCells ps)) ∧ Hid (Bx wr b6 [.int .i64 X, .int .i64 Y]) ∧ Hid (Below w.heap.size w wr))
      case atStart => exact ⟨0, by omega, by omega, rfl, Lib.hid (fun i p h => by omega), hOn, bN, hbwn⟩
      case round =>
        clear hOn bN hbwn
        obtain ⟨j, hj, hjN, rfl, hlt, hO, bN, hbw⟩ := hrel
        have x0 := bN.out.cell 0 _ rfl
        have x1 := bN.out.cell 1 _ rfl
        have lx := bN.out.lt
        by_cases hjn : j < N
        · have hjI : (j : Int) < (N : Int) := by omega
          have hj0 : (0 : Int) ≤ (j : Int) := by omega
          obtain ⟨bS, oS, hSe, hbS, hcS⟩ := (rdPt_own hO.out hl.out).ptr (by omega)
          injection hSe with hSe
          injection hSe with q1 q2 _
          subst q1 q2
          obtain ⟨e', he'⟩ : ∃ e', ps[j]? = some e' := ⟨_, List.getElem?_eq_getElem (by rw [hl.out]; exact hjn)⟩
          obtain ⟨p0, p1⟩ := hcS j e' he'
          simp only [Nat.zero_add] at p0 p1
          clear hcS
          cases hlp : lessPt e'.x e'.y X Y
          · have hlpH := Lib.hid hlp
            clear hlp
            go_wp2_with fail
            refine wp_region_ord [(0, .q), (1, .q), (2, .q), (3, .q), (4, .q), (5, .q), (6, .q), (7, .q), (8, .q), (9, .q), (10, .g), (11, .q)] (by kernel_rfl) (by kernel_rfl) ?_
            simp only [pick, List.filterMap_cons, List.filterMap_nil, List.getElem?_toArray, List.getElem?_cons_zero, List.getElem?_cons_succ, Option.map_some]
            repeat (first | ((with_reducible refine wpD_p (fun K hK => ?_)); go_simp; refine hK _ ?_; clear hK K) | ((with_reducible refine wpD_q (fun K hK => ?_)); go_simp; (first | refine hK _ ?_ | (go_bits; refine hK _ ?_) | (go_bits; go_simp; refine hK _ ?_)); clear hK K))
            with_reducible refine wpD_g (fun KK hKK => ?_)
            go_simp
            refine (sLessPoint_at hlpH.out).mono ?_
            rintro _ w12 ⟨rfl, hb⟩
            refine ⟨_, rfl, hb, hKK _ _ ?_⟩
            clear hKK KK
            have jb := (bl_dr (bl_refl wr)).trans (hb.mono (Nat.le_refl _))
            clear hb
            repeat (first | ((with_reducible refine wpD_p (fun K hK => ?_)); go_simp; refine hK _ ?_; clear hK K) | ((with_reducible refine wpD_q (fun K hK => ?_)); go_simp; (first | refine hK _ ?_ | (go_bits; refine hK _ ?_) | (go_bits; go_simp; refine hK _ ?_)); clear hK K))
            with_reducible refine wpD_nil ?_
            replace hO := Lib.hid (ownsRow_below hO.out jb)
            replace bN := Lib.hid (bN.out.below jb)
            replace hbw := Lib.hid (hbw.out.trans (jb.mono hbw.out.size))
            replace p0 := (jb.cell (p := ⟨gS, j * 2, none⟩) hbS).trans p0
            replace p1 := (jb.cell (p := ⟨gS, j * 2 + 1, none⟩) hbS).trans p1
            replace hbS := Nat.lt_of_lt_of_le hbS jb.size
            clear jb x0 x1 lx
            have x0 := bN.out.cell 0 _ rfl
            have x1 := bN.out.cell 1 _ rfl
            have lx := bN.out.lt
            go_wp2_with fail
            cases hx : (e'.x == X) <;> cases hy : (e'.y == Y)
            · have hne : ¬ e' = ⟨X, Y⟩ := fun h => by subst h; simp at hx hy
              have h2 : Hid (∀ p, ps[j]? = some p → ltP ⟨X, Y⟩ p) := Lib.hid (fun p hp => by rw [he'] at hp; injection hp with hp; subst hp; exact lt_or_eq_or (p := e') (q := ⟨X, Y⟩) hlpH.out hne)
              refine wp_region_ord [(0, .q), (1, .q), (2, .q), (3, .q), (4, .q), (5, .q), (6, .q), (7, .q), (8, .q), (9, .q), (10, .q), (11, .q), (12, .q), (13, .q), (14, .q), (15, .q)] (by kernel_rfl) (by kernel_rfl) ?_
              simp only [pick, List.filterMap_cons, List.filterMap_nil, List.getElem?_toArray, List.getElem?_cons_zero, List.getElem?_cons_succ, Option.map_some]
              repeat (first
                | ((with_reducible refine wpD_p (fun K hK => ?_)); go_simp; refine hK _ ?_; clear hK K)
                | ((with_reducible refine wpD_q (fun K hK => ?_)); go_simp; (first | refine hK _ ?_ | (go_bits; refine hK _ ?_) | (go_bits; go_simp; refine hK _ ?_)); clear hK K)
                | ((with_reducible refine wpD_g (fun K hK => ?_)); go_simp; refine hK _ _ ?_; clear hK K)
                | ((with_reducible refine wpD_g (fun K hK => ?_)); go_simp; refine ⟨Grew.of_alloc _, hK _ _ ?_⟩; clear hK K))
              with_reducible refine wpD_nil ?_
              replace hO := Lib.hid (ownsRow_below hO.out (bl_dr (bl_refl _)))
              replace bN := Lib.hid (bN.out.below (bl_dr (bl_refl _)))
              replace hbw := Lib.hid (hbw.out.trans ((bl_dr (bl_refl _)).mono hbw.out.size))
              clear x0 x1 lx
              obtain ⟨wb, hwb⟩ : ∃ z, z = w12.drew := ⟨_, rfl⟩
              rw [← hwb] at hO bN hbw ⊢
              clear hwb
              have x0 := bN.out.cell 0 _ rfl
              have x1 := bN.out.cell 1 _ rfl
              have lx := bN.out.lt
              have hjcI : (j : Int) ≤ (cN : Int) := by omega
              have hjNI : (j : Int) ≤ (N : Int) := by omega
              have hj0 : (0 : Int) ≤ (j : Int) := by omega
              have hjc : j ≤ cN := by omega
              obtain ⟨A7, hA7, hn7⟩ := news_drop w.heap.size N cN gS ps hl.out hcap j
              have htk := Lib.hid (show (ps.take j).length = j by rw [List.length_take, hl.out]; omega)
              have hdp := Lib.hid (show (ps.drop j).length = N - j by rw [List.length_drop, hl.out])
              have kA := Lib.hid (bl_dr (bl_al (bl_refl wb) (Obj.cells #[] 34)))
              have kB := Lib.hid (bl_dr (bl_al (bl_al (bl_refl wb) (Obj.cells #[] 34)) (Obj.cells #[.int .i64 X, .int .i64 Y] 34)))
              have kC := Lib.hid (bl_dr (bl_al (bl_al (bl_refl wb) (Obj.cells #[.int .i64 X, .int .i64 Y] 34)) (Obj.cells #[] 34)))
              have oA := Lib.hid (own_empty wb)
              have oB := Lib.hid (own_emptyB wb (Obj.cells #[.int .i64 X, .int .i64 Y] 34))
              have oC := Lib.hid (own_emptyC wb (Obj.cells #[.int .i64 X, .int .i64 Y] 34))
              have qB := Lib.hid (show Bx ((wb.alloc (Obj.cells #[] 34)).alloc (Obj.cells #[.int .i64 X, .int .i64 Y] 34)).drew (wb.heap.size + 1) [.int .i64 X, .int .i64 Y] from (World.size_alloc wb (Obj.cells #[] 34)) ▸ Bx.drew (Bx.made (wb.alloc (Obj.cells #[] 34)) [.int .i64 X, .int .i64 Y] 34))
              have qC := Lib.hid (Bx.drew ((Bx.made wb [.int .i64 X, .int .i64 Y] 34).below (bl_al (bl_refl _) (Obj.cells #[] 34))))
              go_wp2_with fail
              go_region_law (first
                | (refine step_pts rfl (.tmp 64) (.tmp 67) rfl wb [] (ps.take j) wb.heap.size 0 (Nat.zero_add j) (by simp [Act.eval, Act.put]) kA.out oA.out ⟨gS, 0, none⟩ cN (by simp [Act.eval, Act.put]) htk.out (news_take (ownsRow_below hO.out kA.out) j) (by omega) ?_
                   intro g1 c1 w1 hO1 hB1 hG1 hg1
                   have z0 := (bN.out.below hB1.out).cell 0 _ rfl
                   have z1 := (bN.out.below hB1.out).cell 1 _ rfl)
                | (refine step_pts rfl (.tmp 64) (.tmp 67) rfl wb [] (ps.take j) wb.heap.size 0 (Nat.zero_add j) (by simp [Act.eval, Act.put]) kB.out oB.out ⟨gS, 0, none⟩ cN (by simp [Act.eval, Act.put]) htk.out (news_take (ownsRow_below hO.out kB.out) j) (by omega) ?_
                   intro g1 c1 w1 hO1 hB1 hG1 hg1
                   have qq := Lib.hid (qB.out.grown hG1.out (by simp)))
                | (refine step_pts rfl (.tmp 64) (.tmp 67) rfl wb [] (ps.take j) (wb.heap.size + 1) 0 (Nat.zero_add j) (by simp [Act.eval, Act.put]) kC.out oC.out ⟨gS, 0, none⟩ cN (by simp [Act.eval, Act.put]) htk.out (news_take (ownsRow_below hO.out kC.out) j) (by omega) ?_
                   intro g1 c1 w1 hO1 hB1 hG1 hg1
                   have qq := Lib.hid (qC.out.grown hG1.out (by simp)))
                | (refine step_pts rfl (.tmp 68) (.tmp 70) rfl wb (ps.take j) [⟨X, Y⟩] g1 c1 (show j + 1 = j + 1 from rfl) (by simp [Act.eval, Act.put]) hB1.out hO1.out ⟨wb.heap.size + 1, 0, none⟩ 1 (by simp [Act.eval, Act.put]) rfl qq.out.news (by omega) ?_
                   intro g2 c2 w2 hO2 hB2 hG2 hg2)
                | (refine step_pts rfl (.tmp 68) (.tmp 70) rfl wb (ps.take j) [⟨X, Y⟩] g1 c1 (show j + 1 = j + 1 from rfl) (by simp [Act.eval, Act.put]) hB1.out hO1.out ⟨wb.heap.size, 0, none⟩ 1 (by simp [Act.eval, Act.put]) rfl qq.out.news (by omega) ?_
                   intro g2 c2 w2 hO2 hB2 hG2 hg2)
                | (refine step_pts rfl (.tmp 68) (.tmp 70) rfl wb (ps.take j) [⟨X, Y⟩] g1 c1 (show j + 1 = j + 1 from rfl) (by simp [Act.eval, Act.put]) (hB1.out.trans ((bl_al (bl_refl w1) (Obj.cells #[.int .i64 X, .int .i64 Y] 34)).mono hB1.out.size)) (ownsRow_below hO1.out (bl_al (bl_refl w1) (Obj.cells #[.int .i64 X, .int .i64 Y] 34))) ⟨w1.heap.size, 0, none⟩ 1 (by simp [Act.eval, Act.put]) rfl (Bx.made w1 [.int .i64 X, .int .i64 Y] 34).news (by omega) ?_
                   intro g2 c2 w2 hO2 hB2 hG2 hg2)
                | (refine step_pts rfl (.tmp 71) (.tmp 74) rfl wb (ps.take j ++ [⟨X, Y⟩]) (ps.drop j) g2 c2 (show j + 1 + (N - j) = N + 1 by omega) (by simp [Act.eval, Act.put]) hB2.out hO2.out A7 (cN - j) (by simp [Act.eval, Act.put, hA7]) hdp.out (hn7.out _ (ownsRow_below hO.out hB2.out)) (by omega) ?_
                   intro g3 c3 w3 hO3 hB3 hG3 hg3))
              all_goals
                replace hO := Lib.hid (own_rebase hO3.out hbw.out.size)
                replace hbw := Lib.hid (hbw.out.trans (hB3.out.mono hbw.out.size))
                have hSm3 : Hid (Sm (ps.take j ++ ([⟨X, Y⟩] : List Pt) ++ ps.drop j) (k + 1)) := Lib.hid (Sm.ins hSm.out hlt.out h2.out hXY.out)
                have hl3 := Lib.hid (show (ps.take j ++ ([⟨X, Y⟩] : List Pt) ++ ps.drop j).length = N + 1 by rw [List.length_append, List.length_append, htk.out, hdp.out, List.length_singleton]; omega)
                clear x0 x1 lx bN hO1 hO2 hO3 hB1 hB2 hB3 hG1 hG2 hG3 hg1 hg2 hg3 kA kB kC oA oB oC qB qC
                go_wp2
                go_roundg (9 - (k + 1))
                case measure => omega
                case rel => exact ⟨k + 1, N + 1, some ⟨g3, 0, none⟩, c3, _, by omega, by omega, by omega, by go_num, rfl, hl3, hO, hSm3, hbw⟩
            · have hne : ¬ e' = ⟨X, Y⟩ := fun h => by subst h; simp at hx hy
              have h2 : Hid (∀ p, ps[j]? = some p → ltP ⟨X, Y⟩ p) := Lib.hid (fun p hp => by rw [he'] at hp; injection hp with hp; subst hp; exact lt_or_eq_or (p := e') (q := ⟨X, Y⟩) hlpH.out hne)
              refine wp_region_ord [(0, .q), (1, .q), (2, .q), (3, .q), (4, .q), (5, .q), (6, .q), (7, .q), (8, .q), (9, .q), (10, .q), (11, .q), (12, .q), (13, .q), (14, .q), (15, .q)] (by kernel_rfl) (by kernel_rfl) ?_
              simp only [pick, List.filterMap_cons, List.filterMap_nil, List.getElem?_toArray, List.getElem?_cons_zero, List.getElem?_cons_succ, Option.map_some]
              repeat (first
                | ((with_reducible refine wpD_p (fun K hK => ?_)); go_simp; refine hK _ ?_; clear hK K)
                | ((with_reducible refine wpD_q (fun K hK => ?_)); go_simp; (first | refine hK _ ?_ | (go_bits; refine hK _ ?_) | (go_bits; go_simp; refine hK _ ?_)); clear hK K)
                | ((with_reducible refine wpD_g (fun K hK => ?_)); go_simp; refine hK _ _ ?_; clear hK K)
                | ((with_reducible refine wpD_g (fun K hK => ?_)); go_simp; refine ⟨Grew.of_alloc _, hK _ _ ?_⟩; clear hK K))
              with_reducible refine wpD_nil ?_
              replace hO := Lib.hid (ownsRow_below hO.out (bl_dr (bl_refl _)))
              replace bN := Lib.hid (bN.out.below (bl_dr (bl_refl _)))
              replace hbw := Lib.hid (hbw.out.trans ((bl_dr (bl_refl _)).mono hbw.out.size))
              clear x0 x1 lx
              obtain ⟨wb, hwb⟩ : ∃ z, z = w12.drew := ⟨_, rfl⟩
              rw [← hwb] at hO bN hbw ⊢
              clear hwb
              have x0 := bN.out.cell 0 _ rfl
              have x1 := bN.out.cell 1 _ rfl
              have lx := bN.out.lt
              have hjcI : (j : Int) ≤ (cN : Int) := by omega
              have hjNI : (j : Int) ≤ (N : Int) := by omega
              have hj0 : (0 : Int) ≤ (j : Int) := by omega
              have hjc : j ≤ cN := by omega
              obtain ⟨A7, hA7, hn7⟩ := news_drop w.heap.size N cN gS ps hl.out hcap j
              have htk := Lib.hid (show (ps.take j).length = j by rw [List.length_take, hl.out]; omega)
              have hdp := Lib.hid (show (ps.drop j).length = N - j by rw [List.length_drop, hl.out])
              have kA := Lib.hid (bl_dr (bl_al (bl_refl wb) (Obj.cells #[] 34)))
              have kB := Lib.hid (bl_dr (bl_al (bl_al (bl_refl wb) (Obj.cells #[] 34)) (Obj.cells #[.int .i64 X, .int .i64 Y] 34)))
              have kC := Lib.hid (bl_dr (bl_al (bl_al (bl_refl wb) (Obj.cells #[.int .i64 X, .int .i64 Y] 34)) (Obj.cells #[] 34)))
              have oA := Lib.hid (own_empty wb)
              have oB := Lib.hid (own_emptyB wb (Obj.cells #[.int .i64 X, .int .i64 Y] 34))
              have oC := Lib.hid (own_emptyC wb (Obj.cells #[.int .i64 X, .int .i64 Y] 34))
              have qB := Lib.hid (show Bx ((wb.alloc (Obj.cells #[] 34)).alloc (Obj.cells #[.int .i64 X, .int .i64 Y] 34)).drew (wb.heap.size + 1) [.int .i64 X, .int .i64 Y] from (World.size_alloc wb (Obj.cells #[] 34)) ▸ Bx.drew (Bx.made (wb.alloc (Obj.cells #[] 34)) [.int .i64 X, .int .i64 Y] 34))
              have qC := Lib.hid (Bx.drew ((Bx.made wb [.int .i64 X, .int .i64 Y] 34).below (bl_al (bl_refl _) (Obj.cells #[] 34))))
              go_wp2_with fail
              go_region_law (first
                | (refine step_pts rfl (.tmp 64) (.tmp 67) rfl wb [] (ps.take j) wb.heap.size 0 (Nat.zero_add j) (by simp [Act.eval, Act.put]) kA.out oA.out ⟨gS, 0, none⟩ cN (by simp [Act.eval, Act.put]) htk.out (news_take (ownsRow_below hO.out kA.out) j) (by omega) ?_
                   intro g1 c1 w1 hO1 hB1 hG1 hg1
                   have z0 := (bN.out.below hB1.out).cell 0 _ rfl
                   have z1 := (bN.out.below hB1.out).cell 1 _ rfl)
                | (refine step_pts rfl (.tmp 64) (.tmp 67) rfl wb [] (ps.take j) wb.heap.size 0 (Nat.zero_add j) (by simp [Act.eval, Act.put]) kB.out oB.out ⟨gS, 0, none⟩ cN (by simp [Act.eval, Act.put]) htk.out (news_take (ownsRow_below hO.out kB.out) j) (by omega) ?_
                   intro g1 c1 w1 hO1 hB1 hG1 hg1
                   have qq := Lib.hid (qB.out.grown hG1.out (by simp)))
                | (refine step_pts rfl (.tmp 64) (.tmp 67) rfl wb [] (ps.take j) (wb.heap.size + 1) 0 (Nat.zero_add j) (by simp [Act.eval, Act.put]) kC.out oC.out ⟨gS, 0, none⟩ cN (by simp [Act.eval, Act.put]) htk.out (news_take (ownsRow_below hO.out kC.out) j) (by omega) ?_
                   intro g1 c1 w1 hO1 hB1 hG1 hg1
                   have qq := Lib.hid (qC.out.grown hG1.out (by simp)))
                | (refine step_pts rfl (.tmp 68) (.tmp 70) rfl wb (ps.take j) [⟨X, Y⟩] g1 c1 (show j + 1 = j + 1 from rfl) (by simp [Act.eval, Act.put]) hB1.out hO1.out ⟨wb.heap.size + 1, 0, none⟩ 1 (by simp [Act.eval, Act.put]) rfl qq.out.news (by omega) ?_
                   intro g2 c2 w2 hO2 hB2 hG2 hg2)
                | (refine step_pts rfl (.tmp 68) (.tmp 70) rfl wb (ps.take j) [⟨X, Y⟩] g1 c1 (show j + 1 = j + 1 from rfl) (by simp [Act.eval, Act.put]) hB1.out hO1.out ⟨wb.heap.size, 0, none⟩ 1 (by simp [Act.eval, Act.put]) rfl qq.out.news (by omega) ?_
                   intro g2 c2 w2 hO2 hB2 hG2 hg2)
                | (refine step_pts rfl (.tmp 68) (.tmp 70) rfl wb (ps.take j) [⟨X, Y⟩] g1 c1 (show j + 1 = j + 1 from rfl) (by simp [Act.eval, Act.put]) (hB1.out.trans ((bl_al (bl_refl w1) (Obj.cells #[.int .i64 X, .int .i64 Y] 34)).mono hB1.out.size)) (ownsRow_below hO1.out (bl_al (bl_refl w1) (Obj.cells #[.int .i64 X, .int .i64 Y] 34))) ⟨w1.heap.size, 0, none⟩ 1 (by simp [Act.eval, Act.put]) rfl (Bx.made w1 [.int .i64 X, .int .i64 Y] 34).news (by omega) ?_
                   intro g2 c2 w2 hO2 hB2 hG2 hg2)
                | (refine step_pts rfl (.tmp 71) (.tmp 74) rfl wb (ps.take j ++ [⟨X, Y⟩]) (ps.drop j) g2 c2 (show j + 1 + (N - j) = N + 1 by omega) (by simp [Act.eval, Act.put]) hB2.out hO2.out A7 (cN - j) (by simp [Act.eval, Act.put, hA7]) hdp.out (hn7.out _ (ownsRow_below hO.out hB2.out)) (by omega) ?_
                   intro g3 c3 w3 hO3 hB3 hG3 hg3))
              all_goals
                replace hO := Lib.hid (own_rebase hO3.out hbw.out.size)
                replace hbw := Lib.hid (hbw.out.trans (hB3.out.mono hbw.out.size))
                have hSm3 : Hid (Sm (ps.take j ++ ([⟨X, Y⟩] : List Pt) ++ ps.drop j) (k + 1)) := Lib.hid (Sm.ins hSm.out hlt.out h2.out hXY.out)
                have hl3 := Lib.hid (show (ps.take j ++ ([⟨X, Y⟩] : List Pt) ++ ps.drop j).length = N + 1 by rw [List.length_append, List.length_append, htk.out, hdp.out, List.length_singleton]; omega)
                clear x0 x1 lx bN hO1 hO2 hO3 hB1 hB2 hB3 hG1 hG2 hG3 hg1 hg2 hg3 kA kB kC oA oB oC qB qC
                go_wp2
                go_roundg (9 - (k + 1))
                case measure => omega
                case rel => exact ⟨k + 1, N + 1, some ⟨g3, 0, none⟩, c3, _, by omega, by omega, by omega, by go_num, rfl, hl3, hO, hSm3, hbw⟩
            · have hne : ¬ e' = ⟨X, Y⟩ := fun h => by subst h; simp at hx hy
              have h2 : Hid (∀ p, ps[j]? = some p → ltP ⟨X, Y⟩ p) := Lib.hid (fun p hp => by rw [he'] at hp; injection hp with hp; subst hp; exact lt_or_eq_or (p := e') (q := ⟨X, Y⟩) hlpH.out hne)
              refine wp_region_ord [(0, .q), (1, .q), (2, .q), (3, .q), (4, .q), (5, .q), (6, .q), (7, .q), (8, .q), (9, .q), (10, .q), (11, .q), (12, .q), (13, .q), (14, .q), (15, .q)] (by kernel_rfl) (by kernel_rfl) ?_
              simp only [pick, List.filterMap_cons, List.filterMap_nil, List.getElem?_toArray, List.getElem?_cons_zero, List.getElem?_cons_succ, Option.map_some]
              repeat (first
                | ((with_reducible refine wpD_p (fun K hK => ?_)); go_simp; refine hK _ ?_; clear hK K)
                | ((with_reducible refine wpD_q (fun K hK => ?_)); go_simp; (first | refine hK _ ?_ | (go_bits; refine hK _ ?_) | (go_bits; go_simp; refine hK _ ?_)); clear hK K)
                | ((with_reducible refine wpD_g (fun K hK => ?_)); go_simp; refine hK _ _ ?_; clear hK K)
                | ((with_reducible refine wpD_g (fun K hK => ?_)); go_simp; refine ⟨Grew.of_alloc _, hK _ _ ?_⟩; clear hK K))
              with_reducible refine wpD_nil ?_
              replace hO := Lib.hid (ownsRow_below hO.out (bl_dr (bl_refl _)))
              replace bN := Lib.hid (bN.out.below (bl_dr (bl_refl _)))
              replace hbw := Lib.hid (hbw.out.trans ((bl_dr (bl_refl _)).mono hbw.out.size))
              clear x0 x1 lx
              obtain ⟨wb, hwb⟩ : ∃ z, z = w12.drew := ⟨_, rfl⟩
              rw [← hwb] at hO bN hbw ⊢
              clear hwb
              have x0 := bN.out.cell 0 _ rfl
              have x1 := bN.out.cell 1 _ rfl
              have lx := bN.out.lt
              have hjcI : (j : Int) ≤ (cN : Int) := by omega
              have hjNI : (j : Int) ≤ (N : Int) := by omega
              have hj0 : (0 : Int) ≤ (j : Int) := by omega
              have hjc : j ≤ cN := by omega
              obtain ⟨A7, hA7, hn7⟩ := news_drop w.heap.size N cN gS ps hl.out hcap j
              have htk := Lib.hid (show (ps.take j).length = j by rw [List.length_take, hl.out]; omega)
              have hdp := Lib.hid (show (ps.drop j).length = N - j by rw [List.length_drop, hl.out])
              have kA := Lib.hid (bl_dr (bl_al (bl_refl wb) (Obj.cells #[] 34)))
              have kB := Lib.hid (bl_dr (bl_al (bl_al (bl_refl wb) (Obj.cells #[] 34)) (Obj.cells #[.int .i64 X, .int .i64 Y] 34)))
              have kC := Lib.hid (bl_dr (bl_al (bl_al (bl_refl wb) (Obj.cells #[.int .i64 X, .int .i64 Y] 34)) (Obj.cells #[] 34)))
              have oA := Lib.hid (own_empty wb)
              have oB := Lib.hid (own_emptyB wb (Obj.cells #[.int .i64 X, .int .i64 Y] 34))
              have oC := Lib.hid (own_emptyC wb (Obj.cells #[.int .i64 X, .int .i64 Y] 34))
              have qB := Lib.hid (show Bx ((wb.alloc (Obj.cells #[] 34)).alloc (Obj.cells #[.int .i64 X, .int .i64 Y] 34)).drew (wb.heap.size + 1) [.int .i64 X, .int .i64 Y] from (World.size_alloc wb (Obj.cells #[] 34)) ▸ Bx.drew (Bx.made (wb.alloc (Obj.cells #[] 34)) [.int .i64 X, .int .i64 Y] 34))
              have qC := Lib.hid (Bx.drew ((Bx.made wb [.int .i64 X, .int .i64 Y] 34).below (bl_al (bl_refl _) (Obj.cells #[] 34))))
              go_wp2_with fail
              go_region_law (first
                | (refine step_pts rfl (.tmp 64) (.tmp 67) rfl wb [] (ps.take j) wb.heap.size 0 (Nat.zero_add j) (by simp [Act.eval, Act.put]) kA.out oA.out ⟨gS, 0, none⟩ cN (by simp [Act.eval, Act.put]) htk.out (news_take (ownsRow_below hO.out kA.out) j) (by omega) ?_
                   intro g1 c1 w1 hO1 hB1 hG1 hg1
                   have z0 := (bN.out.below hB1.out).cell 0 _ rfl
                   have z1 := (bN.out.below hB1.out).cell 1 _ rfl)
                | (refine step_pts rfl (.tmp 64) (.tmp 67) rfl wb [] (ps.take j) wb.heap.size 0 (Nat.zero_add j) (by simp [Act.eval, Act.put]) kB.out oB.out ⟨gS, 0, none⟩ cN (by simp [Act.eval, Act.put]) htk.out (news_take (ownsRow_below hO.out kB.out) j) (by omega) ?_
                   intro g1 c1 w1 hO1 hB1 hG1 hg1
                   have qq := Lib.hid (qB.out.grown hG1.out (by simp)))
                | (refine step_pts rfl (.tmp 64) (.tmp 67) rfl wb [] (ps.take j) (wb.heap.size + 1) 0 (Nat.zero_add j) (by simp [Act.eval, Act.put]) kC.out oC.out ⟨gS, 0, none⟩ cN (by simp [Act.eval, Act.put]) htk.out (news_take (ownsRow_below hO.out kC.out) j) (by omega) ?_
                   intro g1 c1 w1 hO1 hB1 hG1 hg1
                   have qq := Lib.hid (qC.out.grown hG1.out (by simp)))
                | (refine step_pts rfl (.tmp 68) (.tmp 70) rfl wb (ps.take j) [⟨X, Y⟩] g1 c1 (show j + 1 = j + 1 from rfl) (by simp [Act.eval, Act.put]) hB1.out hO1.out ⟨wb.heap.size + 1, 0, none⟩ 1 (by simp [Act.eval, Act.put]) rfl qq.out.news (by omega) ?_
                   intro g2 c2 w2 hO2 hB2 hG2 hg2)
                | (refine step_pts rfl (.tmp 68) (.tmp 70) rfl wb (ps.take j) [⟨X, Y⟩] g1 c1 (show j + 1 = j + 1 from rfl) (by simp [Act.eval, Act.put]) hB1.out hO1.out ⟨wb.heap.size, 0, none⟩ 1 (by simp [Act.eval, Act.put]) rfl qq.out.news (by omega) ?_
                   intro g2 c2 w2 hO2 hB2 hG2 hg2)
                | (refine step_pts rfl (.tmp 68) (.tmp 70) rfl wb (ps.take j) [⟨X, Y⟩] g1 c1 (show j + 1 = j + 1 from rfl) (by simp [Act.eval, Act.put]) (hB1.out.trans ((bl_al (bl_refl w1) (Obj.cells #[.int .i64 X, .int .i64 Y] 34)).mono hB1.out.size)) (ownsRow_below hO1.out (bl_al (bl_refl w1) (Obj.cells #[.int .i64 X, .int .i64 Y] 34))) ⟨w1.heap.size, 0, none⟩ 1 (by simp [Act.eval, Act.put]) rfl (Bx.made w1 [.int .i64 X, .int .i64 Y] 34).news (by omega) ?_
                   intro g2 c2 w2 hO2 hB2 hG2 hg2)
                | (refine step_pts rfl (.tmp 71) (.tmp 74) rfl wb (ps.take j ++ [⟨X, Y⟩]) (ps.drop j) g2 c2 (show j + 1 + (N - j) = N + 1 by omega) (by simp [Act.eval, Act.put]) hB2.out hO2.out A7 (cN - j) (by simp [Act.eval, Act.put, hA7]) hdp.out (hn7.out _ (ownsRow_below hO.out hB2.out)) (by omega) ?_
                   intro g3 c3 w3 hO3 hB3 hG3 hg3))
              all_goals
                replace hO := Lib.hid (own_rebase hO3.out hbw.out.size)
                replace hbw := Lib.hid (hbw.out.trans (hB3.out.mono hbw.out.size))
                have hSm3 : Hid (Sm (ps.take j ++ ([⟨X, Y⟩] : List Pt) ++ ps.drop j) (k + 1)) := Lib.hid (Sm.ins hSm.out hlt.out h2.out hXY.out)
                have hl3 := Lib.hid (show (ps.take j ++ ([⟨X, Y⟩] : List Pt) ++ ps.drop j).length = N + 1 by rw [List.length_append, List.length_append, htk.out, hdp.out, List.length_singleton]; omega)
                clear x0 x1 lx bN hO1 hO2 hO3 hB1 hB2 hB3 hG1 hG2 hG3 hg1 hg2 hg3 kA kB kC oA oB oC qB qC
                go_wp2
                go_roundg (9 - (k + 1))
                case measure => omega
                case rel => exact ⟨k + 1, N + 1, some ⟨g3, 0, none⟩, c3, _, by omega, by omega, by omega, by go_num, rfl, hl3, hO, hSm3, hbw⟩
            · refine wp_region_ord [(0, .q), (1, .q), (2, .q), (3, .q), (4, .q), (5, .q), (6, .q), (7, .q), (8, .q), (9, .q), (10, .q), (11, .q), (12, .q), (13, .q), (14, .q), (15, .q)] (by kernel_rfl) (by kernel_rfl) ?_
              simp only [pick, List.filterMap_cons, List.filterMap_nil, List.getElem?_toArray, List.getElem?_cons_zero, List.getElem?_cons_succ, Option.map_some]
              repeat (first
                | ((with_reducible refine wpD_p (fun K hK => ?_)); go_simp; refine hK _ ?_; clear hK K)
                | ((with_reducible refine wpD_q (fun K hK => ?_)); go_simp; (first | refine hK _ ?_ | (go_bits; refine hK _ ?_) | (go_bits; go_simp; refine hK _ ?_)); clear hK K)
                | ((with_reducible refine wpD_g (fun K hK => ?_)); go_simp; refine hK _ _ ?_; clear hK K)
                | ((with_reducible refine wpD_g (fun K hK => ?_)); go_simp; refine ⟨Grew.of_alloc _, hK _ _ ?_⟩; clear hK K))
              with_reducible refine wpD_nil ?_
              go_wp2
              go_roundg (9 - (k + 1))
              case measure => omega
              case rel => exact ⟨k + 1, N, some ⟨gS, 0, none⟩, cN, ps, by omega, hN1, by omega, by go_num, rfl, hl, Lib.hid (ownsRow_below hO.out (bl_dr (bl_refl _))), Lib.hid ⟨hSm.out.srt, fun p hp => by have := hSm.out.rng p hp; omega⟩, Lib.hid (hbw.out.trans ((bl_dr (bl_refl _)).mono hbw.out.size))⟩
          · have hlpH := Lib.hid hlp
            clear hlp
            go_wp2_with fail
            refine wp_region_ord [(0, .q), (1, .q), (2, .q), (3, .q), (4, .q), (5, .q), (6, .q), (7, .q), (8, .q), (9, .q), (10, .g), (11, .q)] (by kernel_rfl) (by kernel_rfl) ?_
            simp only [pick, List.filterMap_cons, List.filterMap_nil, List.getElem?_toArray, List.getElem?_cons_zero, List.getElem?_cons_succ, Option.map_some]
            repeat (first | ((with_reducible refine wpD_p (fun K hK => ?_)); go_simp; refine hK _ ?_; clear hK K) | ((with_reducible refine wpD_q (fun K hK => ?_)); go_simp; (first | refine hK _ ?_ | (go_bits; refine hK _ ?_) | (go_bits; go_simp; refine hK _ ?_)); clear hK K))
            with_reducible refine wpD_g (fun KK hKK => ?_)
            go_simp
            refine (sLessPoint_at hlpH.out).mono ?_
            rintro _ w12 ⟨rfl, hb⟩
            refine ⟨_, rfl, hb, hKK _ _ ?_⟩
            clear hKK KK
            have jb := (bl_dr (bl_refl wr)).trans (hb.mono (Nat.le_refl _))
            clear hb
            repeat (first | ((with_reducible refine wpD_p (fun K hK => ?_)); go_simp; refine hK _ ?_; clear hK K) | ((with_reducible refine wpD_q (fun K hK => ?_)); go_simp; (first | refine hK _ ?_ | (go_bits; refine hK _ ?_) | (go_bits; go_simp; refine hK _ ?_)); clear hK K))
            with_reducible refine wpD_nil ?_
            go_wp2
            go_roundg (N + 1 - (j + 1))
            case measure => omega
            case rel => exact ⟨j + 1, by omega, by omega, by go_num, Lib.hid (fun i p hi hp => by
              rcases Nat.lt_or_ge i j with h | h
              · exact hlt.out i p h hp
              · obtain rfl : i = j := by omega
                rw [he'] at hp
                injection hp with hp
                subst hp
                exact hlpH.out), Lib.hid (ownsRow_below hO.out jb), Lib.hid (bN.out.below jb), Lib.hid (hbw.out.trans (jb.mono hbw.out.size))⟩
        · have hjE := Lib.hid (show j = N by omega)
          have hjI : ¬ (j : Int) < (N : Int) := by omega
          have h2 : Hid (∀ p, ps[j]? = some p → ltP ⟨X, Y⟩ p) := Lib.hid (fun p hp => by have := (List.getElem?_eq_some_iff.1 hp).1; rw [hl.out] at this; omega)
          go_wp2_with fail
          refine wp_region_ord [(0, .q), (1, .q), (2, .q), (3, .q), (4, .q), (5, .q), (6, .q), (7, .q), (8, .q), (9, .q), (10, .g), (11, .q)] (by kernel_rfl) (by kernel_rfl) ?_
          simp only [pick, List.filterMap_cons, List.filterMap_nil, List.getElem?_toArray, List.getElem?_cons_zero, List.getElem?_cons_succ, Option.map_some]
          repeat (first
            | ((with_reducible refine wpD_p (fun K hK => ?_)); go_simp; refine hK _ ?_; clear hK K)
            | ((with_reducible refine wpD_q (fun K hK => ?_)); go_simp; (first | refine hK _ ?_ | (go_bits; refine hK _ ?_) | (go_bits; go_simp; refine hK _ ?_)); clear hK K)
            | ((with_reducible refine wpD_g (fun K hK => ?_)); go_simp; refine hK _ _ ?_; clear hK K)
            | ((with_reducible refine wpD_g (fun K hK => ?_)); go_simp; refine ⟨Grew.of_alloc _, hK _ _ ?_⟩; clear hK K))
          with_reducible refine wpD_nil ?_
          replace hO := Lib.hid (ownsRow_below hO.out (bl_dr (bl_refl wr)))
          replace bN := Lib.hid (bN.out.below (bl_dr (bl_refl wr)))
          replace hbw := Lib.hid (hbw.out.trans ((bl_dr (bl_refl wr)).mono hbw.out.size))
          clear x0 x1 lx
          have x0 := bN.out.cell 0 _ rfl
          have x1 := bN.out.cell 1 _ rfl
          have lx := bN.out.lt
          go_wp2_with fail
          refine wp_region_ord [(0, .q), (1, .q), (2, .q), (3, .q), (4, .q), (5, .q), (6, .q), (7, .q), (8, .q), (9, .q), (10, .q), (11, .q), (12, .q), (13, .q), (14, .q), (15, .q)] (by kernel_rfl) (by kernel_rfl) ?_
          simp only [pick, List.filterMap_cons, List.filterMap_nil, List.getElem?_toArray, List.getElem?_cons_zero, List.getElem?_cons_succ, Option.map_some]
          repeat (first
            | ((with_reducible refine wpD_p (fun K hK => ?_)); go_simp; refine hK _ ?_; clear hK K)
            | ((with_reducible refine wpD_q (fun K hK => ?_)); go_simp; (first | refine hK _ ?_ | (go_bits; refine hK _ ?_) | (go_bits; go_simp; refine hK _ ?_)); clear hK K)
            | ((with_reducible refine wpD_g (fun K hK => ?_)); go_simp; refine hK _ _ ?_; clear hK K)
            | ((with_reducible refine wpD_g (fun K hK => ?_)); go_simp; refine ⟨Grew.of_alloc _, hK _ _ ?_⟩; clear hK K))
          with_reducible refine wpD_nil ?_
          replace hO := Lib.hid (ownsRow_below hO.out (bl_dr (bl_refl _)))
          replace bN := Lib.hid (bN.out.below (bl_dr (bl_refl _)))
          replace hbw := Lib.hid (hbw.out.trans ((bl_dr (bl_refl _)).mono hbw.out.size))
          clear x0 x1 lx
          obtain ⟨wb, hwb⟩ : ∃ z, z = wr.drew.drew := ⟨_, rfl⟩
          rw [← hwb] at hO bN hbw ⊢
          clear hwb
          have x0 := bN.out.cell 0 _ rfl
          have x1 := bN.out.cell 1 _ rfl
          have lx := bN.out.lt
          have hjcI : (j : Int) ≤ (cN : Int) := by omega
          have hjNI : (j : Int) ≤ (N : Int) := by omega
          have hj0 : (0 : Int) ≤ (j : Int) := by omega
          have hjc : j ≤ cN := by omega
          obtain ⟨A7, hA7, hn7⟩ := news_drop w.heap.size N cN gS ps hl.out hcap j
          have htk := Lib.hid (show (ps.take j).length = j by rw [List.length_take, hl.out]; omega)
          have hdp := Lib.hid (show (ps.drop j).length = N - j by rw [List.length_drop, hl.out])
          have kA := Lib.hid (bl_dr (bl_al (bl_refl wb) (Obj.cells #[] 34)))
          have kB := Lib.hid (bl_dr (bl_al (bl_al (bl_refl wb) (Obj.cells #[] 34)) (Obj.cells #[.int .i64 X, .int .i64 Y] 34)))
          have kC := Lib.hid (bl_dr (bl_al (bl_al (bl_refl wb) (Obj.cells #[.int .i64 X, .int .i64 Y] 34)) (Obj.cells #[] 34)))
          have oA := Lib.hid (own_empty wb)
          have oB := Lib.hid (own_emptyB wb (Obj.cells #[.int .i64 X, .int .i64 Y] 34))
          have oC := Lib.hid (own_emptyC wb (Obj.cells #[.int .i64 X, .int .i64 Y] 34))
          have qB := Lib.hid (show Bx ((wb.alloc (Obj.cells #[] 34)).alloc (Obj.cells #[.int .i64 X, .int .i64 Y] 34)).drew (wb.heap.size + 1) [.int .i64 X, .int .i64 Y] from (World.size_alloc wb (Obj.cells #[] 34)) ▸ Bx.drew (Bx.made (wb.alloc (Obj.cells #[] 34)) [.int .i64 X, .int .i64 Y] 34))
          have qC := Lib.hid (Bx.drew ((Bx.made wb [.int .i64 X, .int .i64 Y] 34).below (bl_al (bl_refl _) (Obj.cells #[] 34))))
          go_wp2_with fail
          go_region_law (first
            | (refine step_pts rfl (.tmp 64) (.tmp 67) rfl wb [] (ps.take j) wb.heap.size 0 (Nat.zero_add j) (by simp [Act.eval, Act.put]) kA.out oA.out ⟨gS, 0, none⟩ cN (by simp [Act.eval, Act.put]) htk.out (news_take (ownsRow_below hO.out kA.out) j) (by omega) ?_
               intro g1 c1 w1 hO1 hB1 hG1 hg1
               have z0 := (bN.out.below hB1.out).cell 0 _ rfl
               have z1 := (bN.out.below hB1.out).cell 1 _ rfl)
            | (refine step_pts rfl (.tmp 64) (.tmp 67) rfl wb [] (ps.take j) wb.heap.size 0 (Nat.zero_add j) (by simp [Act.eval, Act.put]) kB.out oB.out ⟨gS, 0, none⟩ cN (by simp [Act.eval, Act.put]) htk.out (news_take (ownsRow_below hO.out kB.out) j) (by omega) ?_
               intro g1 c1 w1 hO1 hB1 hG1 hg1
               have qq := Lib.hid (qB.out.grown hG1.out (by simp)))
            | (refine step_pts rfl (.tmp 64) (.tmp 67) rfl wb [] (ps.take j) (wb.heap.size + 1) 0 (Nat.zero_add j) (by simp [Act.eval, Act.put]) kC.out oC.out ⟨gS, 0, none⟩ cN (by simp [Act.eval, Act.put]) htk.out (news_take (ownsRow_below hO.out kC.out) j) (by omega) ?_
               intro g1 c1 w1 hO1 hB1 hG1 hg1
               have qq := Lib.hid (qC.out.grown hG1.out (by simp)))
            | (refine step_pts rfl (.tmp 68) (.tmp 70) rfl wb (ps.take j) [⟨X, Y⟩] g1 c1 (show j + 1 = j + 1 from rfl) (by simp [Act.eval, Act.put]) hB1.out hO1.out ⟨wb.heap.size + 1, 0, none⟩ 1 (by simp [Act.eval, Act.put]) rfl qq.out.news (by omega) ?_
               intro g2 c2 w2 hO2 hB2 hG2 hg2)
            | (refine step_pts rfl (.tmp 68) (.tmp 70) rfl wb (ps.take j) [⟨X, Y⟩] g1 c1 (show j + 1 = j + 1 from rfl) (by simp [Act.eval, Act.put]) hB1.out hO1.out ⟨wb.heap.size, 0, none⟩ 1 (by simp [Act.eval, Act.put]) rfl qq.out.news (by omega) ?_
               intro g2 c2 w2 hO2 hB2 hG2 hg2)
            | (refine step_pts rfl (.tmp 68) (.tmp 70) rfl wb (ps.take j) [⟨X, Y⟩] g1 c1 (show j + 1 = j + 1 from rfl) (by simp [Act.eval, Act.put]) (hB1.out.trans ((bl_al (bl_refl w1) (Obj.cells #[.int .i64 X, .int .i64 Y] 34)).mono hB1.out.size)) (ownsRow_below hO1.out (bl_al (bl_refl w1) (Obj.cells #[.int .i64 X, .int .i64 Y] 34))) ⟨w1.heap.size, 0, none⟩ 1 (by simp [Act.eval, Act.put]) rfl (Bx.made w1 [.int .i64 X, .int .i64 Y] 34).news (by omega) ?_
               intro g2 c2 w2 hO2 hB2 hG2 hg2)
            | (refine step_pts rfl (.tmp 71) (.tmp 74) rfl wb (ps.take j ++ [⟨X, Y⟩]) (ps.drop j) g2 c2 (show j + 1 + (N - j) = N + 1 by omega) (by simp [Act.eval, Act.put]) hB2.out hO2.out A7 (cN - j) (by simp [Act.eval, Act.put, hA7]) hdp.out (hn7.out _ (ownsRow_below hO.out hB2.out)) (by omega) ?_
               intro g3 c3 w3 hO3 hB3 hG3 hg3))
          all_goals
            replace hO := Lib.hid (own_rebase hO3.out hbw.out.size)
            replace hbw := Lib.hid (hbw.out.trans (hB3.out.mono hbw.out.size))
            have hSm3 : Hid (Sm (ps.take j ++ ([⟨X, Y⟩] : List Pt) ++ ps.drop j) (k + 1)) := Lib.hid (Sm.ins hSm.out hlt.out h2.out hXY.out)
            have hl3 := Lib.hid (show (ps.take j ++ ([⟨X, Y⟩] : List Pt) ++ ps.drop j).length = N + 1 by rw [List.length_append, List.length_append, htk.out, hdp.out, List.length_singleton]; omega)
            clear x0 x1 lx bN hO1 hO2 hO3 hB1 hB2 hB3 hG1 hG2 hG3 hg1 hg2 hg3 kA kB kC oA oB oC qB qC
            go_wp2
            go_roundg (9 - (k + 1))
            case measure => omega
            case rel => exact ⟨k + 1, N + 1, some ⟨g3, 0, none⟩, c3, _, by omega, by omega, by omega, by go_num, rfl, hl3, hO, hSm3, hbw⟩
    · obtain rfl : k = 9 := by omega
      go_wp2
      go_ret
      exact ⟨_, N, cN, ps, rfl, rdPt_own hO.out hl.out, hSm.out, hN1, by omega, hbw.out⟩
end Go.Proofs.Ytpnahobgmemdjaa
/- Walks: DecodeBlocks of both. -/

namespace Go.Proofs.Ytpnahobgmemdjaa
open Go.RowKit Go.Shelf
attribute [local go_sem] BelowBy.cell BelowBy.cell_drew stillUpon givesUpon

set_option maxRecDepth 100000 in
set_option maxHeartbeats 4000000 in
theorem DecodeBlocks_any (A : Option Addr) (n c : Nat) (xs : List Pl) (k : Int) (w : World) (h : RdSl 3 RPl w A n xs) (hn : n ≤ 1073741824) :
    Calls Try.prog 20 #[.agg #[.slice A n c], .int .i64 k] w (AsmRes w (decR xs k)) := by
  have hH := Lib.hid h
  clear h
  by_cases hc : blkCode xs k = 0
  · have hR := Lib.hid (show decR xs k = (decB xs k.toNat, 0) by unfold decR; rw [if_pos hc])
    obtain ⟨hf, hk1, hk2⟩ := blkCode_zero hc
    obtain ⟨K, rfl⟩ : ∃ K : Nat, k = (K : Int) := ⟨k.toNat, by omega⟩
    have hcH := Lib.hid hc
    have hfH := Lib.hid hf
    have hk' : 1 ≤ K ∧ K ≤ 4 := by omega
    clear hc hf
    go_enter Try.func20, Try.ntmps20
    go_wp2_with fail
    refine (blockCode_at (hH.out.below RPl.stable (by exact bel_)) hn hcH.out).mono ?_
    rintro e w1 ⟨rfl, hb1⟩
    have a0 : w1.cell? ⟨w.heap.size, 0, none⟩ = some (.slice A n c) := (hb1.cell (p := ⟨w.heap.size, 0, none⟩) (by simp; try omega)).trans (by go_simp)
    have r0 : w1.cell? ⟨w.heap.size + 1, 0, none⟩ = some (.slice none 0 0) := (hb1.cell (p := ⟨w.heap.size + 1, 0, none⟩) (by simp; try omega)).trans (by go_simp)
    have rf : w1.frozen? ⟨w.heap.size + 1, 0, none⟩ = false := (hb1.frozen (p := ⟨w.heap.size + 1, 0, none⟩) (by simp; try omega)).trans (by go_simp)
    have hs1 : w.heap.size + 2 ≤ w1.heap.size := by have := hb1.size; simp at this; omega
    have l0 : w.heap.size < w1.heap.size := by omega
    have l1 : w.heap.size + 1 < w1.heap.size := by omega
    have hb1H := Lib.hid (show Below w.heap.size w w1 by exact bel_)
    clear hb1
    have a0H := Lib.hid a0
    go_wp2_with fail
    refine (decodeBlocks_any (hH.out.below RPl.stable hb1H.out) hfH.out hk').mono ?_
    rintro e w2 ⟨A3, c3, rfl, hown, hb2⟩
    have r2 := (hb2.cell (p := ⟨w.heap.size + 1, 0, none⟩) l1).trans r0
    have rf2 := (hb2.frozen (p := ⟨w.heap.size + 1, 0, none⟩) l1).trans rf
    have l2 : w.heap.size + 1 < w2.heap.size := Nat.lt_of_lt_of_le l1 hb2.size
    have hb2H := Lib.hid hb2
    have hownH := Lib.hid hown
    clear hb2 hown r0 rf a0
    go_wp2
    refine bodyPost_ret (v := .tuple #[.agg #[.slice A3 (decB xs K).length c3], .int .i64 0]) (by simp only [results, Try.results20]; go_simp) rfl ?_
    refine AsmRes.of (bs := decB xs K) hR.out.symm rfl ?_ ?_
    · exact ownsRow_baseQ (ownsRow_setCell_below hownH.out (by show w.heap.size + 1 < w1.heap.size; omega) _) (by omega)
    · exact (hb1H.out.trans (hb2H.out.mono (by omega))).setCell (p := ⟨w.heap.size + 1, 0, none⟩) (by simp) _
  · have hR := Lib.hid (show decR xs k = ([], blkCode xs k) by unfold decR; rw [if_neg hc])
    obtain ⟨r, hr⟩ : ∃ r, blkCode xs k = r := ⟨_, rfl⟩
    rw [hr] at hR hc
    have hrH := Lib.hid hr
    have hb : (r != 0) = true := by simpa using hc
    clear hr
    go_enter Try.func20, Try.ntmps20
    go_wp2_with fail
    refine (blockCode_at (hH.out.below RPl.stable (by exact bel_)) hn hrH.out).mono ?_
    rintro e w1 ⟨rfl, hb1⟩
    have a0 : w1.cell? ⟨w.heap.size, 0, none⟩ = some (.slice A n c) := (hb1.cell (p := ⟨w.heap.size, 0, none⟩) (by simp; try omega)).trans (by go_simp)
    have r0 : w1.cell? ⟨w.heap.size + 1, 0, none⟩ = some (.slice none 0 0) := (hb1.cell (p := ⟨w.heap.size + 1, 0, none⟩) (by simp; try omega)).trans (by go_simp)
    have rf : w1.frozen? ⟨w.heap.size + 1, 0, none⟩ = false := (hb1.frozen (p := ⟨w.heap.size + 1, 0, none⟩) (by simp; try omega)).trans (by go_simp)
    have hs1 : w.heap.size + 2 ≤ w1.heap.size := by have := hb1.size; simp at this; omega
    have l0 : w.heap.size < w1.heap.size := by omega
    have l1 : w.heap.size + 1 < w1.heap.size := by omega
    have hb1H := Lib.hid (show Below w.heap.size w w1 by exact bel_)
    clear hb1
    go_wp2
    refine bodyPost_ret (v := .tuple #[.agg #[.slice none 0 0], .int .i64 r]) (by simp only [results, Try.results20]; go_simp) rfl ?_
    refine AsmRes.of (bs := []) (n := 0) hR.out.symm rfl (World.ownsRow_nil _ _ _ _) ?_
    exact hb1H.out.setCell (p := ⟨w.heap.size + 1, 0, none⟩) (by simp) _
end Go.Proofs.Ytpnahobgmemdjaa
/- Walk: the law on scaled shapes. -/




namespace Go.Proofs.Ytpnahobgmemdjaa
open Go.RowKit
attribute [local go_sem] BelowBy.cell BelowBy.cell_drew stillUpon givesUpon

theorem asm_res {w w' : World} {e : Ending} {ps : List Pt} {N : Nat} (hl : ps.length = N) (h : AsmRes w (asmP ps, 0) e w') : ∃ F c, e = .returned (.tuple #[.agg #[.slice F N c], .int .i64 0]) ∧ RdSl 3 RPl w' F N (asmP ps) ∧ Below w.heap.size w w' := by
  obtain ⟨F, c, rfl, hO, hb⟩ := h
  have e1 : (asmP ps).length = N := (asmN_len _ _).trans hl
  subst e1
  exact ⟨F, c, rfl, RowPl.rd ⟨hO, rfl⟩, hb⟩
set_option maxRecDepth 100000 in
set_option maxHeartbeats 8000000 in
theorem FnScaledShapes_any {n n2 c c2 : Nat} {C D : Option Addr} {bs bs2 : List Nat} (w : World) (h : RdSl 1 RBy w C n bs) (h2 : RdSl 1 RBy w D n2 bs2) :
    Calls Try.prog 4 #[.slice C n c, .slice D n2 c2] w fun e w' => e = .returned (.bool true) ∧ Below w.heap.size w w' := by
  obtain ⟨i0, hi, hz0, hz1, hz2⟩ := info_parts infoPl
  have hH := Lib.hid h
  have hBy := Lib.hid h2
  clear h h2
  go_enter Try.func4, Try.ntmps4
  go_wp2_with fail
  cases hv : (decide (3000 < n) || decide (3000 < n2))
  case true =>
    refine (a2Long_at w hv).mono ?_
    rintro _ _ ⟨rfl, rfl⟩
    clear hv
    go_wp2
    go_ret
    exact ⟨rfl, Below.refl _ _⟩
  case false =>
  refine (a2Long_at w hv).mono ?_
  rintro _ _ ⟨rfl, rfl⟩
  clear hv
  go_wp2_with fail
  refine (a2Shape_any hH.out).mono ?_
  rintro _ w1 ⟨A, N, cN, ps, rfl, hR, hSm, hN1, hN10, hb1⟩
  replace hR := Lib.hid hR
  replace hSm := Lib.hid hSm
  have hbw := Lib.hid hb1
  clear hb1
  have hl := Lib.hid hR.out.len
  go_wp2_with fail
  refine (a2At_any 0 (hBy.out.below RBy.stable hbw.out) rfl (show 1 ≤ 3 by omega) (by omega) (by omega)).mono ?_
  rintro _ _ ⟨v, rfl, hv3, rfl⟩
  have hw1 : IntKind.i64.wrap (1 + (v : Int)) = ((v + 1 : Nat) : Int) := by rw [wrapFs (by omega) (by omega)]; omega
  obtain ⟨k, hk⟩ : ∃ k, v + 1 = k := ⟨_, rfl⟩
  have hk13 : 1 ≤ k ∧ k ≤ 3 := by omega
  rw [hk] at hw1
  clear hk
  have h3 := Lib.hid (S3.mk hSm.out hk13 (by rw [hl.out]; exact hN10))
  go_wp2_with fail
  obtain ⟨wa, hwa⟩ : ∃ z, z = w1.alloc (Obj.cells #[.slice none 0 0] 26) := ⟨_, rfl⟩
  have hal : Below w1.heap.size w1 wa := by rw [hwa]; exact bl_al (bl_refl _) _
  have bx0 : Bx wa w1.heap.size [.slice none 0 0] := by rw [hwa]; exact Bx.made w1 [.slice none 0 0] _
  obtain ⟨b7, hb7⟩ : ∃ b, w1.heap.size = b := ⟨_, rfl⟩
  rw [hb7] at bx0
  have b7x := Lib.hid bx0
  clear bx0
  rw [← hwa]
  try simp only [hb7]
  have hbr0 := Lib.hid hal
  clear hwa hal
  go_loopg [8] N (fun g i wr => ∃ (j : Nat) (A1 : Option Addr) (c1 : Nat), j + g = N ∧ i = .int .i64 (j : Int) ∧ Hid (RowPl wr (b7 + 1) (.slice A1 j c1) j (asmN ps j)) ∧ Hid (Bx wr b7 [.slice A1 j c1]) ∧ Hid (Below w1.heap.size w1 wr))
  case atStart => exact ⟨0, none, 0, by omega, rfl, Lib.hid ⟨World.ownsRow_nil _ _ _ _, rfl⟩, b7x, hbr0⟩
  case round =>
    clear b7x hbr0
    obtain ⟨j, A1, c1, hj, rfl, hO, b7x, hbr⟩ := hrel
    have x7 := b7x.out.cell 0 _ rfl
    have l7 := b7x.out.lt
    by_cases hjn : j < N
    · have hjI : (j : Int) < (N : Int) := by omega
      have hj0 : (0 : Int) ≤ (j : Int) := by omega
      obtain ⟨gS, oS, rfl, hgS, hcS⟩ := (hR.out.below RPt.stable hbr.out).ptr (by omega)
      obtain ⟨e, he⟩ : ∃ e, ps[j]? = some e := ⟨_, List.getElem?_eq_getElem (by rw [hl.out]; exact hjn)⟩
      obtain ⟨p0, p1⟩ := hcS j e he
      have heH := Lib.hid he
      clear hcS he
      go_wp2_with fail
      refine wp_region_ord [(0, .q), (1, .q), (2, .q), (3, .q), (4, .q), (5, .q), (6, .q), (7, .q), (8, .g), (9, .b), (10, .q), (11, .b)] (by kernel_rfl) (by kernel_rfl) ?_
      simp only [pick, List.filterMap_cons, List.filterMap_nil, List.getElem?_toArray, List.getElem?_cons_zero, List.getElem?_cons_succ, Option.map_some]
      have jb : Below wr.heap.size wr wr.drew := bl_dr (bl_refl _)
      repeat (first | ((with_reducible refine wpD_p (fun K hK => ?_)); go_simp; refine hK _ ?_; clear hK K) | ((with_reducible refine wpD_q (fun K hK => ?_)); go_simp; (first | refine hK _ ?_ | (go_bits; refine hK _ ?_) | (go_bits; go_simp; refine hK _ ?_)); clear hK K))
      with_reducible refine wpD_g (fun K hK => ?_)
      go_simp
      refine ⟨Grew.of_alloc _, hK _ _ ?_⟩
      clear hK K
      have hal : Below wr.heap.size wr (wr.drew.alloc (Obj.cells #[.int .i64 e.x, .int .i64 e.y, .int .i64 (j : Int)] 38)) := bl_al (bl_dr (bl_refl _)) _
      have hs7 : b7 + 1 ≤ wr.heap.size := l7
      have hO4 := hO.out.below hal
      have b74 := b7x.out.below hal
      refine wpD_append_atN rfl _ _ 24 rfl (b7 + 1) 38 i0 (.agg #[.int .i64 0, .int .i64 0, .int .i64 0]) 3 24 Try.underlying24 hi hz0 hz1 hz2 rfl (by decide) (.slice A1 j c1) j (plCells (asmN ps j)) (by go_simp) hO4.own ⟨wr.heap.size, 0, none⟩ 1 1 [.int .i64 e.x, .int .i64 e.y, .int .i64 (j : Int)] (by go_simp) rfl (cell_three_newF _ _ _ _ _) (fun x hx => by simp at hx; rcases hx with rfl | rfl | rfl <;> rfl) (by unfold maxLen; omega) (by omega) (by simp; omega) ?_
      intro v9 w9 hown9 hgrow9 hat9
      obtain ⟨A9, c9, rfl⟩ := ownsRow_form hown9
      have hs1 := hbr.out.size
      have hbr9 := Lib.hid ((hbr.out.trans (hal.mono hs1)).grown hgrow9 (by simp; omega) (fun g e => by have := (hO4.own.lt g e).1; omega))
      have b79 := Lib.hid (b74.grown hgrow9 (fun e => by have := (hO4.own.lt _ e).1; omega))
      have hO9 := Lib.hid (RowPl.snoc hO4.len hown9)
      clear hown9 hgrow9 hat9 hs1 hal hO4 jb x7 l7 b74 hs7
      have x7 := b79.out.cell 0 _ rfl
      have f7 := b79.out.froz 0
      have l7 := b79.out.lt
      repeat (first | ((with_reducible refine wpD_p (fun K hK => ?_)); go_simp; refine hK _ ?_; clear hK K) | ((with_reducible refine wpD_q (fun K hK => ?_)); go_simp; (first | refine hK _ ?_ | (go_bits; refine hK _ ?_) | (go_bits; go_simp; refine hK _ ?_)); clear hK K))
      with_reducible refine wpD_b (fun K hK => ?_)
      go_simp
      refine hK _ _ ?_
      clear hK K
      with_reducible refine wpD_nil ?_
      go_wp2
      go_roundg (N - (j + 1))
      case measure => omega
      case rel => exact ⟨j + 1, A9, c9, by omega, by go_num, Lib.hid (by rw [asmN_succ heH.out]; exact ⟨ownsRow_setB hO9.out.own (by simp) _, hO9.out.len⟩), Lib.hid (b79.out.setSame 0 _), Lib.hid (hbr9.out.setCell (p := ⟨b7, 0, none⟩) (Nat.le_of_eq hb7) _)⟩
    · obtain rfl : j = N := by omega
      have hjI : ¬ (j : Int) < (j : Int) := by omega
      have hP := Lib.hid (show RdSl 3 RPl wr A1 j (asmP ps) by
        have h5 := hO.out.rd
        have e5 : asmP ps = asmN ps j := by unfold asmP; rw [hl.out]
        rw [e5]; exact h5)
      replace hR := Lib.hid (hR.out.below RPt.stable hbr.out)
      replace hbw := Lib.hid (hbw.out.trans (hbr.out.mono hbw.out.size))
      clear hO hbr hj hb7
      obtain ⟨Z, hZ⟩ : ∃ Z, bigP k ps = Z := ⟨_, rfl⟩
      obtain ⟨NZ, hNZ⟩ : ∃ NZ, Z.length = NZ := ⟨_, rfl⟩
      obtain ⟨L, hL⟩ : ∃ L, scS k ps = L := ⟨_, rfl⟩
      obtain ⟨NL, hNL⟩ : ∃ NL, L.length = NL := ⟨_, rfl⟩
      obtain ⟨H1, hH1⟩ : ∃ H, homeP L = H := ⟨_, rfl⟩
      obtain ⟨H2, hH2⟩ : ∃ H, homeP ps = H := ⟨_, rfl⟩
      have hdec := Lib.hid (show decR Z (k : Int) = (asmP ps, 0) by rw [← hZ]; exact big_decode h3.out)
      have hfZ := Lib.hid (show hasFormB Z = true by rw [← hZ]; exact big_form h3.out)
      have hpZ := Lib.hid (show Z.map plPt = L by rw [← hZ, ← hL]; exact big_points h3.out)
      have hsL := Lib.hid (show shapeB L = true by rw [← hL]; exact scS_shape h3.out (by rw [hl.out]; exact hN1))
      have hrL := Lib.hid (show ∀ p ∈ L, (-29 ≤ p.x ∧ p.x ≤ 29) ∧ (-29 ≤ p.y ∧ p.y ≤ 29) by rw [← hL]; exact scS_rng h3.out)
      have hsp := Lib.hid (hSm.out.shape (by omega) (by rw [hl.out]; exact hN1) (by rw [hl.out]; omega))
      have hrp := Lib.hid (show ∀ p ∈ ps, (-29 ≤ p.x ∧ p.x ≤ 29) ∧ (-29 ≤ p.y ∧ p.y ≤ 29) from fun p hp => by have := hSm.out.rng p hp; omega)
      have hn5 : NZ ≤ 500 := by have := form_len hfZ.out; omega
      have hm5 : NL ≤ 500 := by
        have e5 : L.length = Z.length := by rw [← hpZ.out, List.length_map]
        omega
      have ha5 := Lib.hid (show (asmP ps).length ≤ 1000000 by have e5 : (asmP ps).length = ps.length := asmN_len _ _; rw [e5, hl.out]; omega)
      replace hZ := Lib.hid hZ
      replace hL := Lib.hid hL
      replace hNZ := Lib.hid hNZ
      replace hNL := Lib.hid hNL
      replace hH1 := Lib.hid hH1
      replace hH2 := Lib.hid hH2
      go_wp2_with fail
      refine (ScaleUp_any hP.out h3.out hN1 hZ.out hNZ.out).mono ?_
      rintro _ w2 ⟨B, cB, rfl, hZr, hj⟩
      replace hZr := Lib.hid hZr
      try replace hR := Lib.hid (hR.out.below RPt.stable hj)
      try replace hP := Lib.hid (hP.out.below RPl.stable hj)
      try replace hZr := Lib.hid (hZr.out.below RPl.stable hj)
      try replace hLr := Lib.hid (hLr.out.below RPt.stable hj)
      try replace hDr := Lib.hid (hDr.out.below RPl.stable hj)
      try replace hUr := Lib.hid (hUr.out.below RPt.stable hj)
      try replace h21 := Lib.hid (h21.out.below RPt.stable hj)
      try replace h23 := Lib.hid (h23.out.below RPt.stable hj)
      try replace h25 := Lib.hid (h25.out.below RPt.stable hj)
      try replace h27 := Lib.hid (h27.out.below RPt.stable hj)
      try replace b7x := Lib.hid (b7x.out.below hj)
      try replace b9x := Lib.hid (b9x.out.below hj)
      try replace bDx := Lib.hid (bDx.out.below hj)
      try replace hbw := Lib.hid (hbw.out.trans ((hj).mono hbw.out.size))
      try (replace x7 := b7x.out.cell 0 _ rfl; replace l7 := b7x.out.lt)
      try (replace x9 := b9x.out.cell 0 _ rfl; replace l9 := b9x.out.lt)
      try (replace xD := bDx.out.cell 0 _ rfl; replace lD := bDx.out.lt)
      clear hj
      go_wp2_with fail
      obtain ⟨w3, hwa⟩ : ∃ z, z = w2.alloc (Obj.cells #[.slice B NZ cB] 26) := ⟨_, rfl⟩
      have hal : Below w2.heap.size w2 w3 := by rw [hwa]; exact bl_al (bl_refl _) _
      have bx0 : Bx w3 w2.heap.size [.slice B NZ cB] := by rw [hwa]; exact Bx.made w2 [.slice B NZ cB] _
      obtain ⟨b9, hb9⟩ : ∃ b, w2.heap.size = b := ⟨_, rfl⟩
      rw [hb9] at bx0
      have b9x := Lib.hid bx0
      clear bx0
      rw [← hwa]
      try simp only [hb9]
      try replace hR := Lib.hid (hR.out.below RPt.stable hal)
      try replace hP := Lib.hid (hP.out.below RPl.stable hal)
      try replace hZr := Lib.hid (hZr.out.below RPl.stable hal)
      try replace hLr := Lib.hid (hLr.out.below RPt.stable hal)
      try replace hDr := Lib.hid (hDr.out.below RPl.stable hal)
      try replace hUr := Lib.hid (hUr.out.below RPt.stable hal)
      try replace h21 := Lib.hid (h21.out.below RPt.stable hal)
      try replace h23 := Lib.hid (h23.out.below RPt.stable hal)
      try replace h25 := Lib.hid (h25.out.below RPt.stable hal)
      try replace h27 := Lib.hid (h27.out.below RPt.stable hal)
      try replace b7x := Lib.hid (b7x.out.below hal)
      try replace b9x := Lib.hid (b9x.out.below hal)
      try replace bDx := Lib.hid (bDx.out.below hal)
      try replace hbw := Lib.hid (hbw.out.trans ((hal).mono hbw.out.size))
      try (replace x7 := b7x.out.cell 0 _ rfl; replace l7 := b7x.out.lt)
      try (replace x9 := b9x.out.cell 0 _ rfl; replace l9 := b9x.out.lt)
      try (replace xD := bDx.out.cell 0 _ rfl; replace lD := bDx.out.lt)
      have x9 := b9x.out.cell 0 _ rfl
      have l9 := b9x.out.lt
      clear hwa hal hb9
      refine (ScaleShape_any hR.out h3.out hN1 hL.out hNL.out).mono ?_
      rintro _ w4 ⟨E, cE, rfl, hLr, hj⟩
      replace hLr := Lib.hid hLr
      try replace hR := Lib.hid (hR.out.below RPt.stable hj)
      try replace hP := Lib.hid (hP.out.below RPl.stable hj)
      try replace hZr := Lib.hid (hZr.out.below RPl.stable hj)
      try replace hLr := Lib.hid (hLr.out.below RPt.stable hj)
      try replace hDr := Lib.hid (hDr.out.below RPl.stable hj)
      try replace hUr := Lib.hid (hUr.out.below RPt.stable hj)
      try replace h21 := Lib.hid (h21.out.below RPt.stable hj)
      try replace h23 := Lib.hid (h23.out.below RPt.stable hj)
      try replace h25 := Lib.hid (h25.out.below RPt.stable hj)
      try replace h27 := Lib.hid (h27.out.below RPt.stable hj)
      try replace b7x := Lib.hid (b7x.out.below hj)
      try replace b9x := Lib.hid (b9x.out.below hj)
      try replace bDx := Lib.hid (bDx.out.below hj)
      try replace hbw := Lib.hid (hbw.out.trans ((hj).mono hbw.out.size))
      try (replace x7 := b7x.out.cell 0 _ rfl; replace l7 := b7x.out.lt)
      try (replace x9 := b9x.out.cell 0 _ rfl; replace l9 := b9x.out.lt)
      try (replace xD := bDx.out.cell 0 _ rfl; replace lD := bDx.out.lt)
      clear hj
      go_wp2_with fail
      refine (DecodeBlocks_any B NZ cB Z (k : Int) w4 hZr.out (by omega)).mono ?_
      rw [hdec.out]
      intro e w5 hres
      obtain ⟨F, cF, rfl, hDr, hj⟩ := asm_res hl.out hres
      replace hDr := Lib.hid hDr
      try replace hR := Lib.hid (hR.out.below RPt.stable hj)
      try replace hP := Lib.hid (hP.out.below RPl.stable hj)
      try replace hZr := Lib.hid (hZr.out.below RPl.stable hj)
      try replace hLr := Lib.hid (hLr.out.below RPt.stable hj)
      try replace hDr := Lib.hid (hDr.out.below RPl.stable hj)
      try replace hUr := Lib.hid (hUr.out.below RPt.stable hj)
      try replace h21 := Lib.hid (h21.out.below RPt.stable hj)
      try replace h23 := Lib.hid (h23.out.below RPt.stable hj)
      try replace h25 := Lib.hid (h25.out.below RPt.stable hj)
      try replace h27 := Lib.hid (h27.out.below RPt.stable hj)
      try replace b7x := Lib.hid (b7x.out.below hj)
      try replace b9x := Lib.hid (b9x.out.below hj)
      try replace bDx := Lib.hid (bDx.out.below hj)
      try replace hbw := Lib.hid (hbw.out.trans ((hj).mono hbw.out.size))
      try (replace x7 := b7x.out.cell 0 _ rfl; replace l7 := b7x.out.lt)
      try (replace x9 := b9x.out.cell 0 _ rfl; replace l9 := b9x.out.lt)
      try (replace xD := bDx.out.cell 0 _ rfl; replace lD := bDx.out.lt)
      clear hj hres
      go_wp2_with fail
      obtain ⟨w6, hwa⟩ : ∃ z, z = w5.alloc (Obj.cells #[.slice F j cF] 26) := ⟨_, rfl⟩
      have hal : Below w5.heap.size w5 w6 := by rw [hwa]; exact bl_al (bl_refl _) _
      have bx0 : Bx w6 w5.heap.size [.slice F j cF] := by rw [hwa]; exact Bx.made w5 [.slice F j cF] _
      obtain ⟨bD, hbD⟩ : ∃ b, w5.heap.size = b := ⟨_, rfl⟩
      rw [hbD] at bx0
      have bDx := Lib.hid bx0
      clear bx0
      rw [← hwa]
      try simp only [hbD]
      try replace hR := Lib.hid (hR.out.below RPt.stable hal)
      try replace hP := Lib.hid (hP.out.below RPl.stable hal)
      try replace hZr := Lib.hid (hZr.out.below RPl.stable hal)
      try replace hLr := Lib.hid (hLr.out.below RPt.stable hal)
      try replace hDr := Lib.hid (hDr.out.below RPl.stable hal)
      try replace hUr := Lib.hid (hUr.out.below RPt.stable hal)
      try replace h21 := Lib.hid (h21.out.below RPt.stable hal)
      try replace h23 := Lib.hid (h23.out.below RPt.stable hal)
      try replace h25 := Lib.hid (h25.out.below RPt.stable hal)
      try replace h27 := Lib.hid (h27.out.below RPt.stable hal)
      try replace b7x := Lib.hid (b7x.out.below hal)
      try replace b9x := Lib.hid (b9x.out.below hal)
      try replace bDx := Lib.hid (bDx.out.below hal)
      try replace hbw := Lib.hid (hbw.out.trans ((hal).mono hbw.out.size))
      try (replace x7 := b7x.out.cell 0 _ rfl; replace l7 := b7x.out.lt)
      try (replace x9 := b9x.out.cell 0 _ rfl; replace l9 := b9x.out.lt)
      try (replace xD := bDx.out.cell 0 _ rfl; replace lD := bDx.out.lt)
      have xD := bDx.out.cell 0 _ rfl
      have lD := bDx.out.lt
      clear hwa hal hbD
      refine (UnscaleShape_any hLr.out h3.out hN1 hl.out hL.out).mono ?_
      rintro _ w7 ⟨U, cU, rfl, hUr, hj⟩
      replace hUr := Lib.hid hUr
      try replace hR := Lib.hid (hR.out.below RPt.stable hj)
      try replace hP := Lib.hid (hP.out.below RPl.stable hj)
      try replace hZr := Lib.hid (hZr.out.below RPl.stable hj)
      try replace hLr := Lib.hid (hLr.out.below RPt.stable hj)
      try replace hDr := Lib.hid (hDr.out.below RPl.stable hj)
      try replace hUr := Lib.hid (hUr.out.below RPt.stable hj)
      try replace h21 := Lib.hid (h21.out.below RPt.stable hj)
      try replace h23 := Lib.hid (h23.out.below RPt.stable hj)
      try replace h25 := Lib.hid (h25.out.below RPt.stable hj)
      try replace h27 := Lib.hid (h27.out.below RPt.stable hj)
      try replace b7x := Lib.hid (b7x.out.below hj)
      try replace b9x := Lib.hid (b9x.out.below hj)
      try replace bDx := Lib.hid (bDx.out.below hj)
      try replace hbw := Lib.hid (hbw.out.trans ((hj).mono hbw.out.size))
      try (replace x7 := b7x.out.cell 0 _ rfl; replace l7 := b7x.out.lt)
      try (replace x9 := b9x.out.cell 0 _ rfl; replace l9 := b9x.out.lt)
      try (replace xD := bDx.out.cell 0 _ rfl; replace lD := bDx.out.lt)
      clear hj
      go_wp2_with fail
      refine (PointsOf_any hZr.out hfZ.out hpZ.out).mono ?_
      rintro _ w8 ⟨T, cT, rfl, hT, hj⟩
      replace hT := Lib.hid hT
      try replace hR := Lib.hid (hR.out.below RPt.stable hj)
      try replace hP := Lib.hid (hP.out.below RPl.stable hj)
      try replace hZr := Lib.hid (hZr.out.below RPl.stable hj)
      try replace hLr := Lib.hid (hLr.out.below RPt.stable hj)
      try replace hDr := Lib.hid (hDr.out.below RPl.stable hj)
      try replace hUr := Lib.hid (hUr.out.below RPt.stable hj)
      try replace h21 := Lib.hid (h21.out.below RPt.stable hj)
      try replace h23 := Lib.hid (h23.out.below RPt.stable hj)
      try replace h25 := Lib.hid (h25.out.below RPt.stable hj)
      try replace h27 := Lib.hid (h27.out.below RPt.stable hj)
      try replace b7x := Lib.hid (b7x.out.below hj)
      try replace b9x := Lib.hid (b9x.out.below hj)
      try replace bDx := Lib.hid (bDx.out.below hj)
      try replace hbw := Lib.hid (hbw.out.trans ((hj).mono hbw.out.size))
      try (replace x7 := b7x.out.cell 0 _ rfl; replace l7 := b7x.out.lt)
      try (replace x9 := b9x.out.cell 0 _ rfl; replace l9 := b9x.out.lt)
      try (replace xD := bDx.out.cell 0 _ rfl; replace lD := bDx.out.lt)
      clear hj
      go_wp2_with fail
      refine (HomeShape_any hT.out hsL.out hrL.out hH1.out).mono ?_
      rintro _ w9 ⟨V1, cV1, rfl, h21, hj⟩
      replace h21 := Lib.hid h21
      try replace hR := Lib.hid (hR.out.below RPt.stable hj)
      try replace hP := Lib.hid (hP.out.below RPl.stable hj)
      try replace hZr := Lib.hid (hZr.out.below RPl.stable hj)
      try replace hLr := Lib.hid (hLr.out.below RPt.stable hj)
      try replace hDr := Lib.hid (hDr.out.below RPl.stable hj)
      try replace hUr := Lib.hid (hUr.out.below RPt.stable hj)
      try replace h21 := Lib.hid (h21.out.below RPt.stable hj)
      try replace h23 := Lib.hid (h23.out.below RPt.stable hj)
      try replace h25 := Lib.hid (h25.out.below RPt.stable hj)
      try replace h27 := Lib.hid (h27.out.below RPt.stable hj)
      try replace b7x := Lib.hid (b7x.out.below hj)
      try replace b9x := Lib.hid (b9x.out.below hj)
      try replace bDx := Lib.hid (bDx.out.below hj)
      try replace hbw := Lib.hid (hbw.out.trans ((hj).mono hbw.out.size))
      try (replace x7 := b7x.out.cell 0 _ rfl; replace l7 := b7x.out.lt)
      try (replace x9 := b9x.out.cell 0 _ rfl; replace l9 := b9x.out.lt)
      try (replace xD := bDx.out.cell 0 _ rfl; replace lD := bDx.out.lt)
      clear hj hT
      go_wp2_with fail
      refine (HomeShape_any hLr.out hsL.out hrL.out hH1.out).mono ?_
      rintro _ w10 ⟨V2, cV2, rfl, h23, hj⟩
      replace h23 := Lib.hid h23
      try replace hR := Lib.hid (hR.out.below RPt.stable hj)
      try replace hP := Lib.hid (hP.out.below RPl.stable hj)
      try replace hZr := Lib.hid (hZr.out.below RPl.stable hj)
      try replace hLr := Lib.hid (hLr.out.below RPt.stable hj)
      try replace hDr := Lib.hid (hDr.out.below RPl.stable hj)
      try replace hUr := Lib.hid (hUr.out.below RPt.stable hj)
      try replace h21 := Lib.hid (h21.out.below RPt.stable hj)
      try replace h23 := Lib.hid (h23.out.below RPt.stable hj)
      try replace h25 := Lib.hid (h25.out.below RPt.stable hj)
      try replace h27 := Lib.hid (h27.out.below RPt.stable hj)
      try replace b7x := Lib.hid (b7x.out.below hj)
      try replace b9x := Lib.hid (b9x.out.below hj)
      try replace bDx := Lib.hid (bDx.out.below hj)
      try replace hbw := Lib.hid (hbw.out.trans ((hj).mono hbw.out.size))
      try (replace x7 := b7x.out.cell 0 _ rfl; replace l7 := b7x.out.lt)
      try (replace x9 := b9x.out.cell 0 _ rfl; replace l9 := b9x.out.lt)
      try (replace xD := bDx.out.cell 0 _ rfl; replace lD := bDx.out.lt)
      clear hj
      go_wp2_with fail
      refine (HomeShape_any hR.out hsp.out hrp.out hH2.out).mono ?_
      rintro _ w11 ⟨V3, cV3, rfl, h25, hj⟩
      replace h25 := Lib.hid h25
      try replace hR := Lib.hid (hR.out.below RPt.stable hj)
      try replace hP := Lib.hid (hP.out.below RPl.stable hj)
      try replace hZr := Lib.hid (hZr.out.below RPl.stable hj)
      try replace hLr := Lib.hid (hLr.out.below RPt.stable hj)
      try replace hDr := Lib.hid (hDr.out.below RPl.stable hj)
      try replace hUr := Lib.hid (hUr.out.below RPt.stable hj)
      try replace h21 := Lib.hid (h21.out.below RPt.stable hj)
      try replace h23 := Lib.hid (h23.out.below RPt.stable hj)
      try replace h25 := Lib.hid (h25.out.below RPt.stable hj)
      try replace h27 := Lib.hid (h27.out.below RPt.stable hj)
      try replace b7x := Lib.hid (b7x.out.below hj)
      try replace b9x := Lib.hid (b9x.out.below hj)
      try replace bDx := Lib.hid (bDx.out.below hj)
      try replace hbw := Lib.hid (hbw.out.trans ((hj).mono hbw.out.size))
      try (replace x7 := b7x.out.cell 0 _ rfl; replace l7 := b7x.out.lt)
      try (replace x9 := b9x.out.cell 0 _ rfl; replace l9 := b9x.out.lt)
      try (replace xD := bDx.out.cell 0 _ rfl; replace lD := bDx.out.lt)
      clear hj
      go_wp2_with fail
      refine (HomeShape_any hUr.out hsp.out hrp.out hH2.out).mono ?_
      rintro _ w12 ⟨V4, cV4, rfl, h27, hj⟩
      replace h27 := Lib.hid h27
      try replace hR := Lib.hid (hR.out.below RPt.stable hj)
      try replace hP := Lib.hid (hP.out.below RPl.stable hj)
      try replace hZr := Lib.hid (hZr.out.below RPl.stable hj)
      try replace hLr := Lib.hid (hLr.out.below RPt.stable hj)
      try replace hDr := Lib.hid (hDr.out.below RPl.stable hj)
      try replace hUr := Lib.hid (hUr.out.below RPt.stable hj)
      try replace h21 := Lib.hid (h21.out.below RPt.stable hj)
      try replace h23 := Lib.hid (h23.out.below RPt.stable hj)
      try replace h25 := Lib.hid (h25.out.below RPt.stable hj)
      try replace h27 := Lib.hid (h27.out.below RPt.stable hj)
      try replace b7x := Lib.hid (b7x.out.below hj)
      try replace b9x := Lib.hid (b9x.out.below hj)
      try replace bDx := Lib.hid (bDx.out.below hj)
      try replace hbw := Lib.hid (hbw.out.trans ((hj).mono hbw.out.size))
      try (replace x7 := b7x.out.cell 0 _ rfl; replace l7 := b7x.out.lt)
      try (replace x9 := b9x.out.cell 0 _ rfl; replace l9 := b9x.out.lt)
      try (replace xD := bDx.out.cell 0 _ rfl; replace lD := bDx.out.lt)
      clear hj
      go_wp2_with fail
      refine (SameAssembly_any hDr.out hP.out ha5.out).mono ?_
      rintro _ w13 ⟨rfl, hj⟩
      try replace hR := Lib.hid (hR.out.below RPt.stable hj)
      try replace hP := Lib.hid (hP.out.below RPl.stable hj)
      try replace hZr := Lib.hid (hZr.out.below RPl.stable hj)
      try replace hLr := Lib.hid (hLr.out.below RPt.stable hj)
      try replace hDr := Lib.hid (hDr.out.below RPl.stable hj)
      try replace hUr := Lib.hid (hUr.out.below RPt.stable hj)
      try replace h21 := Lib.hid (h21.out.below RPt.stable hj)
      try replace h23 := Lib.hid (h23.out.below RPt.stable hj)
      try replace h25 := Lib.hid (h25.out.below RPt.stable hj)
      try replace h27 := Lib.hid (h27.out.below RPt.stable hj)
      try replace b7x := Lib.hid (b7x.out.below hj)
      try replace b9x := Lib.hid (b9x.out.below hj)
      try replace bDx := Lib.hid (bDx.out.below hj)
      try replace hbw := Lib.hid (hbw.out.trans ((hj).mono hbw.out.size))
      try (replace x7 := b7x.out.cell 0 _ rfl; replace l7 := b7x.out.lt)
      try (replace x9 := b9x.out.cell 0 _ rfl; replace l9 := b9x.out.lt)
      try (replace xD := bDx.out.cell 0 _ rfl; replace lD := bDx.out.lt)
      clear hj
      go_wp2_with fail
      refine (SameShape_any h21.out h23.out (by omega)).mono ?_
      rintro _ w14 ⟨rfl, hj⟩
      try replace hR := Lib.hid (hR.out.below RPt.stable hj)
      try replace hP := Lib.hid (hP.out.below RPl.stable hj)
      try replace hZr := Lib.hid (hZr.out.below RPl.stable hj)
      try replace hLr := Lib.hid (hLr.out.below RPt.stable hj)
      try replace hDr := Lib.hid (hDr.out.below RPl.stable hj)
      try replace hUr := Lib.hid (hUr.out.below RPt.stable hj)
      try replace h21 := Lib.hid (h21.out.below RPt.stable hj)
      try replace h23 := Lib.hid (h23.out.below RPt.stable hj)
      try replace h25 := Lib.hid (h25.out.below RPt.stable hj)
      try replace h27 := Lib.hid (h27.out.below RPt.stable hj)
      try replace b7x := Lib.hid (b7x.out.below hj)
      try replace b9x := Lib.hid (b9x.out.below hj)
      try replace bDx := Lib.hid (bDx.out.below hj)
      try replace hbw := Lib.hid (hbw.out.trans ((hj).mono hbw.out.size))
      try (replace x7 := b7x.out.cell 0 _ rfl; replace l7 := b7x.out.lt)
      try (replace x9 := b9x.out.cell 0 _ rfl; replace l9 := b9x.out.lt)
      try (replace xD := bDx.out.cell 0 _ rfl; replace lD := bDx.out.lt)
      clear hj
      go_wp2_with fail
      refine (SameShape_any h25.out h27.out (by omega)).mono ?_
      rintro _ w15 ⟨rfl, hj⟩
      try replace hR := Lib.hid (hR.out.below RPt.stable hj)
      try replace hP := Lib.hid (hP.out.below RPl.stable hj)
      try replace hZr := Lib.hid (hZr.out.below RPl.stable hj)
      try replace hLr := Lib.hid (hLr.out.below RPt.stable hj)
      try replace hDr := Lib.hid (hDr.out.below RPl.stable hj)
      try replace hUr := Lib.hid (hUr.out.below RPt.stable hj)
      try replace h21 := Lib.hid (h21.out.below RPt.stable hj)
      try replace h23 := Lib.hid (h23.out.below RPt.stable hj)
      try replace h25 := Lib.hid (h25.out.below RPt.stable hj)
      try replace h27 := Lib.hid (h27.out.below RPt.stable hj)
      try replace b7x := Lib.hid (b7x.out.below hj)
      try replace b9x := Lib.hid (b9x.out.below hj)
      try replace bDx := Lib.hid (bDx.out.below hj)
      try replace hbw := Lib.hid (hbw.out.trans ((hj).mono hbw.out.size))
      try (replace x7 := b7x.out.cell 0 _ rfl; replace l7 := b7x.out.lt)
      try (replace x9 := b9x.out.cell 0 _ rfl; replace l9 := b9x.out.lt)
      try (replace xD := bDx.out.cell 0 _ rfl; replace lD := bDx.out.lt)
      clear hj
      go_wp2
      go_ret
      exact ⟨rfl, hbw.out⟩
end Go.Proofs.Ytpnahobgmemdjaa
