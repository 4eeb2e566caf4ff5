import Derived.Test.YtkppijcjmhkkkaaGBL
import Derived.Test.YtkppijcjmhkkkaaGBJ
import Derived.Test.YtkppijcjmhkkkaaGBH
import Derived.Test.YtkppijcjmhkkkaaGBI
set_option linter.unusedSimpArgs false
set_option linter.unusedVariables false
/- Walks: a shape turned by a symmetry, the program. -/



namespace Go.Proofs.Ytkppijcjmhkkkaa
open Go.RowKit
attribute [local go_sem] BelowBy.cell BelowBy.cell_drew stillUpon givesUpon

theorem near_of {B : Nat} {ps : List Pt} (h : Near B ps) {C : Nat} (hC : B ≤ C) : Near C ps := fun p hp => by have := h p hp; omega
theorem putAll_map (f : Pt → Pt) (ps : List Pt) : putAll [] (ps.map f) = mapS f ps := rfl
/-- what is asked of a shape that is turned -/
structure TnOk (ps : List Pt) (n : Nat) (s : Nat) : Prop where
  len : ps.length = n
  srt : SortS ps
  nr : Near 30 ps
  pos : 1 ≤ n
  n25 : n ≤ 25
  s8 : s < 8
theorem TnOk.rng {ps : List Pt} {n s : Nat} (h : TnOk ps n s) : ∀ p ∈ mapS (tp s) ps, (-30 ≤ p.x ∧ p.x ≤ 30) ∧ (-30 ≤ p.y ∧ p.y ≤ 30) := fun p hp => by
  have := (tp_all (B := 30) (by rw [h.len]; exact h.pos) (by omega) h.srt h.nr s).1 p hp
  omega
theorem TnOk.tlen {ps : List Pt} {n s : Nat} (h : TnOk ps n s) : (mapS (tp s) ps).length = n :=
  (tp_all (B := 30) (by rw [h.len]; exact h.pos) (by omega) h.srt h.nr s).2.2.2.trans h.len
theorem TnOk.shp {ps : List Pt} {n s : Nat} (h : TnOk ps n s) : shapeB (turnP s ps) = true := by
  have e : turnP s ps = homeP (mapS (tp s) ps) := (home_nf (mapS_sorted _ _)).symm
  rw [e]
  exact home_shape (mapS_sorted _ _) h.rng (by rw [h.tlen]; exact h.pos) (by rw [h.tlen]; have := h.n25; omega)
set_option maxRecDepth 100000 in
set_option maxHeartbeats 4000000 in
theorem turned_any {A : Option Addr} {n c s : Nat} {ps T : List Pt} {w : World} (h : RdSl 2 RPt w A n ps) (ho : TnOk ps n s) (hT : turnP s ps = T) :
    Calls Try.prog 38 #[.slice A n c, .int .i64 (s : Int)] w (PtsN w n T) := by
  obtain ⟨i0, hi, hz0, hz1, hz2⟩ := info_parts infoPtQ
  have hn25 := ho.n25
  have hn1 := ho.pos
  have hs8 := ho.s8
  obtain ⟨r, hr⟩ : ∃ r, s % 4 = r := ⟨_, rfl⟩
  have hr4 : r < 4 := by omega
  have hm : Int.tmod (s : Int) 4 = (r : Int) := by rw [← hr]; rfl
  have hrH2 := Lib.hid hr.symm
  have hTH := Lib.hid (show homeP (mapS (tp s) ps) = T by rw [← hT]; exact home_nf (mapS_sorted _ _))
  have hH := Lib.hid h
  have hoH := Lib.hid ho
  clear h ho hT hr
  by_cases h4 : 4 ≤ s
  · have h4I : (4 : Int) ≤ (s : Int) := by omega
    go_enter Try.func38, Try.ntmps38
    go_wp2
    go_loopg [10, 5] n (fun g i v wr => ∃ m : Nat, m + g = n ∧ i = .int .i64 (m : Int) ∧ Hid (RowPt wr w.heap.size v m ((ps.take m).map (tp s))) ∧ Hid (Below w.heap.size w wr))
    case atStart => exact ⟨0, by omega, rfl, Lib.hid ⟨World.ownsRow_nil _ _ _ _, rfl⟩, Lib.hid (bl_refl _)⟩
    case round =>
      obtain ⟨m, hm9, rfl, hO, hbw⟩ := hrel
      have hszl := hbw.out.size
      obtain ⟨A1, c1, rfl⟩ := ownsRow_form hO.out.own
      by_cases hmn : m < n
      · have hmI : (m : Int) < (n : Int) := by omega
        have hAw := hH.out.below RPt.stable hbw.out
        obtain ⟨bb, ob, rfl, hbb, hbc⟩ := hAw.ptr (by omega)
        obtain ⟨e, he⟩ := hAw.get hmn
        obtain ⟨e0, e1⟩ := hbc m e he
        have heH := Lib.hid he
        have her := hoH.out.nr e (List.mem_of_getElem? he)
        have wn : IntKind.i64.wrap (-e.x) = -e.x := wrapFs (by omega) (by omega)
        clear hbc he hAw
        obtain ⟨b7, hb7⟩ : ∃ b, wr.heap.size = b := ⟨_, rfl⟩
        have hal : Below wr.heap.size wr (wr.alloc (Obj.cells #[.int .i64 (-e.x), .int .i64 e.y] 49)) := bl_al (bl_refl _) _
        have bP0 : Hid (Bx (wr.alloc (Obj.cells #[.int .i64 (-e.x), .int .i64 e.y] 49)) b7 [.int .i64 (-e.x), .int .i64 e.y]) := Lib.hid (by rw [← hb7]; exact Bx.made wr [.int .i64 (-e.x), .int .i64 e.y] _)
        have hO0 := Lib.hid (hO.out.below hal)
        have hne : Hid ((Value.slice A1 m c1).ownBlock ≠ some b7) := Lib.hid (fun e => by have := (hO.out.own.lt _ e).2; omega)
        have hbw0 := Lib.hid (hbw.out.trans (hal.mono hszl))
        have hbl : w.heap.size ≤ b7 := by omega
        clear hal hO hbw hszl
        obtain ⟨p0, hp0⟩ : ∃ p0 : Pt, p0 = mirP e := ⟨_, rfl⟩
        have hp0H := Lib.hid hp0
        clear hp0
        go_wp2_with fail
        go_loopg [22] r (fun g i wr => ∃ (j : Nat) (x y : Int), j + g = r ∧ i = .int .i64 (j : Int) ∧ ((-40 ≤ x ∧ x ≤ 40) ∧ (-40 ≤ y ∧ y ≤ 40)) ∧ Hid (rotN j p0 = ⟨x, y⟩) ∧ Hid (RowPt wr w.heap.size (.slice A1 m c1) m ((ps.take m).map (tp s))) ∧ Hid (Below w.heap.size w wr) ∧ Hid (Bx wr b7 [.int .i64 x, .int .i64 y]))
        case atStart => exact ⟨0, -e.x, e.y, by omega, rfl, by omega, Lib.hid hp0H.out, hO0, hbw0, bP0⟩
        case round =>
          clear hO0 hbw0 bP0
          obtain ⟨j, x, y, hj, rfl, hxy, hrt, hO, hbw, bP⟩ := hrel
          have x0 := bP.out.cell 0 _ rfl
          have x1 := bP.out.cell 1 _ rfl
          have f0 := bP.out.froz 0
          have f1 := bP.out.froz 1
          have lx := bP.out.lt
          by_cases hjr : j < r
          · have hjI : (j : Int) < (r : Int) := by omega
            have wn : IntKind.i64.wrap (-x) = -x := wrapFs (by omega) (by omega)
            have hrt2 := Lib.hid (show rotN (j + 1) p0 = ⟨y, -x⟩ by show rotP (rotN j p0) = _; rw [hrt.out]; rfl)
            go_wp2
            go_roundg (r - (j + 1))
            case measure => omega
            case rel => exact ⟨j + 1, y, -x, by omega, by go_num, by omega, hrt2, Lib.hid ⟨own_setO (own_setO hO.out.own hne.out _) hne.out _, hO.out.len⟩, Lib.hid ((hbw.out.setCell (p := ⟨b7, 0, none⟩) hbl _).setCell (p := ⟨b7, 1, none⟩) hbl _), Lib.hid ((bP.out.setSame 0 _).setSame 1 _)⟩
          · obtain rfl : j = r := by omega
            have hjI : ¬ (j : Int) < (j : Int) := by omega
            have htk := Lib.hid (show (ps.take (m + 1)).map (tp s) = (ps.take m).map (tp s) ++ [⟨x, y⟩] by
              rw [List.take_add_one, heH.out, List.map_append]
              show _ ++ [tp s e] = _
              have h9 : tp s e = ⟨x, y⟩ := by rw [← hrt.out, hp0H.out, hrH2.out]; unfold tp; simp only [h4, if_true, if_false]
              rw [h9])
            have hszl := hbw.out.size
            have hal : Below wr.heap.size wr (wr.alloc (Obj.cells #[.int .i64 x, .int .i64 y] 49)) := bl_al (bl_refl _) _
            have hO1 := Lib.hid (hO.out.below hal)
            have halH := Lib.hid hal
            clear hal
            go_wp2_with (at_builtin; go_loud (refine wpList_append_own_at _ rfl _ _ 24 rfl w.heap.size 49 i0 (.agg #[.int .i64 0, .int .i64 0]) 2 16 Try.underlying24 hi hz0 hz1 hz2 rfl (by decide) (.slice A1 m c1) m (ptCells ((ps.take m).map (tp s))) rfl hO1.out.own ⟨wr.heap.size, 0, none⟩ 1 1 [.int .i64 x, .int .i64 y] rfl rfl (cell_pt2 _ _ _ _) (fun x hx => by simp at hx; rcases hx with rfl | rfl <;> rfl) (by unfold maxLen; omega) (by omega) (by simp; omega) ?_; intro v9 w9 hown9 hgrow9 hat9 hat9b; obtain ⟨A9, c9, rfl⟩ := ownsRow_form hown9; have hs9 := halH.out.size; have bw9 := Lib.hid ((hbw.out.trans (halH.out.mono hszl)).grown hgrow9 (by omega) (fun g e => (hO1.out.own.lt g e).1)); have hO9 := Lib.hid (RowPt.snoc hO1.out.len hown9); clear hown9 hgrow9 hat9 hat9b hs9))
            go_roundg (n - (m + 1))
            case measure => omega
            case rel => exact ⟨m + 1, by omega, by go_num, Lib.hid (by rw [htk.out]; exact hO9.out), bw9⟩
      · obtain rfl : m = n := by omega
        have hmI : ¬ (m : Int) < (m : Int) := by omega
        have htk := Lib.hid (show (ps.take m).map (tp s) = ps.map (tp s) by rw [List.take_of_length_le (by rw [hoH.out.len]; exact Nat.le_refl _)])
        have hO5 := hO.out.own
        rw [htk.out] at hO5
        have hl5 := Lib.hid (show (ps.map (tp s)).length = m by rw [List.length_map, hoH.out.len])
        have hO5H := Lib.hid hO5
        clear hO hO5
        go_wp2_with fail
        refine (sortedShape_any w.heap.size _ (ps.map (tp s)) _ (by rw [hl5.out]; exact hO5H.out) (by rw [hl5.out]; omega) (fun h0 => by rw [hl5.out] at h0; omega)).mono ?_
        rintro e w2 ⟨v, rfl, hO2, hb2⟩
        rw [putAll_map] at hO2
        obtain ⟨B, cb, rfl, hR⟩ := own_rd hO2 hoH.out.tlen
        have hRH := Lib.hid hR
        have hb2H := Lib.hid (hbw.out.trans (hb2.mono hszl))
        clear hO2 hb2 hR
        go_wp2_with fail
        refine (home_any hRH.out hoH.out.rng hn1 (by omega)).mono ?_
        rw [hTH.out]
        rintro _ w3 ⟨B3, c3, rfl, hR3, hb3⟩
        have hR3H := Lib.hid hR3
        have hb3H := Lib.hid (hb2H.out.trans (hb3.mono hb2H.out.size))
        clear hR3 hb3
        go_wp2
        go_ret
        exact ⟨B3, c3, rfl, hR3H.out, hb3H.out⟩
  · have h4I : ¬ (4 : Int) ≤ (s : Int) := by omega
    go_enter Try.func38, Try.ntmps38
    go_wp2
    go_loopg [10, 5] n (fun g i v wr => ∃ m : Nat, m + g = n ∧ i = .int .i64 (m : Int) ∧ Hid (RowPt wr w.heap.size v m ((ps.take m).map (tp s))) ∧ Hid (Below w.heap.size w wr))
    case atStart => exact ⟨0, by omega, rfl, Lib.hid ⟨World.ownsRow_nil _ _ _ _, rfl⟩, Lib.hid (bl_refl _)⟩
    case round =>
      obtain ⟨m, hm9, rfl, hO, hbw⟩ := hrel
      have hszl := hbw.out.size
      obtain ⟨A1, c1, rfl⟩ := ownsRow_form hO.out.own
      by_cases hmn : m < n
      · have hmI : (m : Int) < (n : Int) := by omega
        have hAw := hH.out.below RPt.stable hbw.out
        obtain ⟨bb, ob, rfl, hbb, hbc⟩ := hAw.ptr (by omega)
        obtain ⟨e, he⟩ := hAw.get hmn
        obtain ⟨e0, e1⟩ := hbc m e he
        have heH := Lib.hid he
        have her := hoH.out.nr e (List.mem_of_getElem? he)
        clear hbc he hAw
        obtain ⟨b7, hb7⟩ : ∃ b, wr.heap.size = b := ⟨_, rfl⟩
        have hal : Below wr.heap.size wr (wr.alloc (Obj.cells #[.int .i64 e.x, .int .i64 e.y] 49)) := bl_al (bl_refl _) _
        have bP0 : Hid (Bx (wr.alloc (Obj.cells #[.int .i64 e.x, .int .i64 e.y] 49)) b7 [.int .i64 e.x, .int .i64 e.y]) := Lib.hid (by rw [← hb7]; exact Bx.made wr [.int .i64 e.x, .int .i64 e.y] _)
        have hO0 := Lib.hid (hO.out.below hal)
        have hne : Hid ((Value.slice A1 m c1).ownBlock ≠ some b7) := Lib.hid (fun e => by have := (hO.out.own.lt _ e).2; omega)
        have hbw0 := Lib.hid (hbw.out.trans (hal.mono hszl))
        have hbl : w.heap.size ≤ b7 := by omega
        clear hal hO hbw hszl
        obtain ⟨p0, hp0⟩ : ∃ p0 : Pt, p0 = e := ⟨_, rfl⟩
        have hp0H := Lib.hid hp0
        clear hp0
        go_wp2_with fail
        go_loopg [22] r (fun g i wr => ∃ (j : Nat) (x y : Int), j + g = r ∧ i = .int .i64 (j : Int) ∧ ((-40 ≤ x ∧ x ≤ 40) ∧ (-40 ≤ y ∧ y ≤ 40)) ∧ Hid (rotN j p0 = ⟨x, y⟩) ∧ Hid (RowPt wr w.heap.size (.slice A1 m c1) m ((ps.take m).map (tp s))) ∧ Hid (Below w.heap.size w wr) ∧ Hid (Bx wr b7 [.int .i64 x, .int .i64 y]))
        case atStart => exact ⟨0, e.x, e.y, by omega, rfl, by omega, Lib.hid hp0H.out, hO0, hbw0, bP0⟩
        case round =>
          clear hO0 hbw0 bP0
          obtain ⟨j, x, y, hj, rfl, hxy, hrt, hO, hbw, bP⟩ := hrel
          have x0 := bP.out.cell 0 _ rfl
          have x1 := bP.out.cell 1 _ rfl
          have f0 := bP.out.froz 0
          have f1 := bP.out.froz 1
          have lx := bP.out.lt
          by_cases hjr : j < r
          · have hjI : (j : Int) < (r : Int) := by omega
            have wn : IntKind.i64.wrap (-x) = -x := wrapFs (by omega) (by omega)
            have hrt2 := Lib.hid (show rotN (j + 1) p0 = ⟨y, -x⟩ by show rotP (rotN j p0) = _; rw [hrt.out]; rfl)
            go_wp2
            go_roundg (r - (j + 1))
            case measure => omega
            case rel => exact ⟨j + 1, y, -x, by omega, by go_num, by omega, hrt2, Lib.hid ⟨own_setO (own_setO hO.out.own hne.out _) hne.out _, hO.out.len⟩, Lib.hid ((hbw.out.setCell (p := ⟨b7, 0, none⟩) hbl _).setCell (p := ⟨b7, 1, none⟩) hbl _), Lib.hid ((bP.out.setSame 0 _).setSame 1 _)⟩
          · obtain rfl : j = r := by omega
            have hjI : ¬ (j : Int) < (j : Int) := by omega
            have htk := Lib.hid (show (ps.take (m + 1)).map (tp s) = (ps.take m).map (tp s) ++ [⟨x, y⟩] by
              rw [List.take_add_one, heH.out, List.map_append]
              show _ ++ [tp s e] = _
              have h9 : tp s e = ⟨x, y⟩ := by rw [← hrt.out, hp0H.out, hrH2.out]; unfold tp; simp only [h4, if_true, if_false]
              rw [h9])
            have hszl := hbw.out.size
            have hal : Below wr.heap.size wr (wr.alloc (Obj.cells #[.int .i64 x, .int .i64 y] 49)) := bl_al (bl_refl _) _
            have hO1 := Lib.hid (hO.out.below hal)
            have halH := Lib.hid hal
            clear hal
            go_wp2_with (at_builtin; go_loud (refine wpList_append_own_at _ rfl _ _ 24 rfl w.heap.size 49 i0 (.agg #[.int .i64 0, .int .i64 0]) 2 16 Try.underlying24 hi hz0 hz1 hz2 rfl (by decide) (.slice A1 m c1) m (ptCells ((ps.take m).map (tp s))) rfl hO1.out.own ⟨wr.heap.size, 0, none⟩ 1 1 [.int .i64 x, .int .i64 y] rfl rfl (cell_pt2 _ _ _ _) (fun x hx => by simp at hx; rcases hx with rfl | rfl <;> rfl) (by unfold maxLen; omega) (by omega) (by simp; omega) ?_; intro v9 w9 hown9 hgrow9 hat9 hat9b; obtain ⟨A9, c9, rfl⟩ := ownsRow_form hown9; have hs9 := halH.out.size; have bw9 := Lib.hid ((hbw.out.trans (halH.out.mono hszl)).grown hgrow9 (by omega) (fun g e => (hO1.out.own.lt g e).1)); have hO9 := Lib.hid (RowPt.snoc hO1.out.len hown9); clear hown9 hgrow9 hat9 hat9b hs9))
            go_roundg (n - (m + 1))
            case measure => omega
            case rel => exact ⟨m + 1, by omega, by go_num, Lib.hid (by rw [htk.out]; exact hO9.out), bw9⟩
      · obtain rfl : m = n := by omega
        have hmI : ¬ (m : Int) < (m : Int) := by omega
        have htk := Lib.hid (show (ps.take m).map (tp s) = ps.map (tp s) by rw [List.take_of_length_le (by rw [hoH.out.len]; exact Nat.le_refl _)])
        have hO5 := hO.out.own
        rw [htk.out] at hO5
        have hl5 := Lib.hid (show (ps.map (tp s)).length = m by rw [List.length_map, hoH.out.len])
        have hO5H := Lib.hid hO5
        clear hO hO5
        go_wp2_with fail
        refine (sortedShape_any w.heap.size _ (ps.map (tp s)) _ (by rw [hl5.out]; exact hO5H.out) (by rw [hl5.out]; omega) (fun h0 => by rw [hl5.out] at h0; omega)).mono ?_
        rintro e w2 ⟨v, rfl, hO2, hb2⟩
        rw [putAll_map] at hO2
        obtain ⟨B, cb, rfl, hR⟩ := own_rd hO2 hoH.out.tlen
        have hRH := Lib.hid hR
        have hb2H := Lib.hid (hbw.out.trans (hb2.mono hszl))
        clear hO2 hb2 hR
        go_wp2_with fail
        refine (home_any hRH.out hoH.out.rng hn1 (by omega)).mono ?_
        rw [hTH.out]
        rintro _ w3 ⟨B3, c3, rfl, hR3, hb3⟩
        have hR3H := Lib.hid hR3
        have hb3H := Lib.hid (hb2H.out.trans (hb3.mono hb2H.out.size))
        clear hR3 hb3
        go_wp2
        go_ret
        exact ⟨B3, c3, rfl, hR3H.out, hb3H.out⟩
set_option maxRecDepth 100000 in
set_option maxHeartbeats 2000000 in
theorem TurnShape_any {A : Option Addr} {n c s : Nat} {ps T : List Pt} {w : World} (h : RdSl 2 RPt w A n ps) (ho : TnOk ps n s) (hsh : shapeB ps = true) (hT : turnP s ps = T) :
    Calls Try.prog 15 #[.slice A n c, .int .i64 (s : Int)] w fun e w' => ∃ B c', e = .returned (.tuple #[.slice B n c', .int .i64 0]) ∧ RdSl 2 RPt w' B n T ∧ Below w.heap.size w w' := by
  have hn25 := ho.n25
  have hs8 := ho.s8
  have hB : Hid (inB (s : Int) 0 7 = true) := Lib.hid (inB_true.2 (by omega))
  have hsT := Lib.hid (show shapeB T = true by rw [← hT]; exact ho.shp)
  have hH := Lib.hid h
  have hoH := Lib.hid ho
  have hshH := Lib.hid hsh
  have hTH := Lib.hid hT
  clear h ho hsh hT
  go_enter Try.func15, Try.ntmps15
  go_wp2_with (go_at_call 23; refine (within_at hB.out).mono ?_; rintro e _ ⟨rfl, rfl⟩)
  refine (shapeCodeB_at hH.out (by omega) hshH.out).mono ?_
  rintro e w1 ⟨rfl, hb1⟩
  have hb1H := Lib.hid hb1
  have hH1 := Lib.hid (hH.out.below RPt.stable hb1)
  clear hb1
  go_wp2_with fail
  refine (turned_any hH1.out hoH.out hTH.out).mono ?_
  rintro e w2 ⟨B, cb, rfl, hR, hb2⟩
  have hRH := Lib.hid hR
  have hb2H := Lib.hid (hb1H.out.trans (hb2.mono hb1H.out.size))
  clear hR hb2
  go_wp2_with fail
  refine (validated_any hRH.out (by omega) hsT.out).mono ?_
  rintro e w3 ⟨rfl, hb3⟩
  have hR3 := Lib.hid (hRH.out.below RPt.stable hb3)
  have hb3H := Lib.hid (hb2H.out.trans (hb3.mono hb2H.out.size))
  clear hb3
  go_wp2
  refine bodyPost_ret (v := .tuple #[.slice B n cb, .int .i64 0]) (by simp only [results, Try.results15]; go_simp) rfl ?_
  exact ⟨B, cb, rfl, hR3.out, hb3H.out⟩
end Go.Proofs.Ytkppijcjmhkkkaa
/- Walks: a shape turned by a symmetry, the reference. -/


namespace Go.Proofs.Ytkppijcjmhkkkaa
open Go.RowKit
attribute [local go_sem] BelowBy.cell BelowBy.cell_drew stillUpon givesUpon

set_option maxRecDepth 100000 in
set_option maxHeartbeats 2000000 in
theorem l04Turn_any {s : Nat} {x y X Y : Int} {w : World} (hs8 : s < 8) (hb : (-30 ≤ x ∧ x ≤ 30) ∧ (-30 ≤ y ∧ y ≤ 30)) (hT : tp s ⟨x, y⟩ = ⟨X, Y⟩) :
    Calls Try.prog 64 #[.agg #[.int .i64 x, .int .i64 y], .int .i64 (s : Int)] w fun e w' => e = .returned (.agg #[.int .i64 X, .int .i64 Y]) ∧ Below w.heap.size w w' := by
  obtain ⟨r, hr⟩ : ∃ r, s % 4 = r := ⟨_, rfl⟩
  have hr4 : r < 4 := by omega
  have hm : Int.tmod (s : Int) 4 = (r : Int) := by rw [← hr]; rfl
  have hrH2 := Lib.hid hr.symm
  have hTH := Lib.hid hT
  clear hr hT
  obtain ⟨b2, hb2⟩ : ∃ b, w.heap.size = b := ⟨_, rfl⟩
  obtain ⟨b4, hb4⟩ : ∃ b, b2 + 1 = b := ⟨_, rfl⟩
  have hbl : w.heap.size ≤ b2 := by omega
  have hbl4 : w.heap.size ≤ b4 := by omega
  have hb24 : b2 ≠ b4 := by omega
  replace hb2 := Lib.hid hb2
  replace hb4 := Lib.hid hb4
  by_cases h4 : 4 ≤ s
  · have h4I : (4 : Int) ≤ (s : Int) := by omega
    have wn : IntKind.i64.wrap (-x) = -x := wrapFs (by omega) (by omega)
    obtain ⟨W, hW⟩ : ∃ W, W = (w.alloc (Obj.cells #[.int .i64 (-x), .int .i64 y] 49)).alloc (Obj.cells #[.int .i64 0, .int .i64 0] 49) := ⟨_, rfl⟩
    have hal1 : Below w.heap.size w (w.alloc (Obj.cells #[.int .i64 (-x), .int .i64 y] 49)) := bl_al (bl_refl _) _
    have hbw0 : Hid (Below w.heap.size w W) := Lib.hid (by rw [hW]; exact bl_al hal1 _)
    have b20 : Hid (Bx W b2 [.int .i64 (-x), .int .i64 y]) := Lib.hid (by
      rw [hW, ← hb2.out]
      exact (Bx.made w [.int .i64 (-x), .int .i64 y] 49).below (bl_al (bl_refl _) _))
    have b40 : Hid (Bx W b4 [.int .i64 0, .int .i64 0]) := Lib.hid (by
      rw [hW, ← hb4.out, ← hb2.out]
      have := Bx.made (w.alloc (Obj.cells #[.int .i64 (-x), .int .i64 y] 49)) [.int .i64 0, .int .i64 0] 49
      simp only [World.size_alloc] at this
      exact this)
    go_enter Try.func64, Try.ntmps64
    go_wp2_with fail
    rw [← hW]
    try simp only [hb2.out, hb4.out]
    clear hW hb2 hb4 hal1
    obtain ⟨p0, hp0⟩ : ∃ p0 : Pt, p0 = mirP ⟨x, y⟩ := ⟨_, rfl⟩
    have hp0H := Lib.hid hp0
    clear hp0
    go_wp2_with fail
    go_loopg [5] r (fun g i wr => ∃ (j k : Nat) (x y : Int), j + g = r ∧ k = g ∧ i = .int .i64 (k : Int) ∧ ((-40 ≤ x ∧ x ≤ 40) ∧ (-40 ≤ y ∧ y ≤ 40)) ∧ Hid (rotN j p0 = ⟨x, y⟩) ∧ Hid (Below w.heap.size w wr) ∧ Hid (Bx wr b2 [.int .i64 x, .int .i64 y]) ∧ Hid (Bx wr b4 [.int .i64 0, .int .i64 0]))
    case atStart => exact ⟨0, r, -x, y, by omega, rfl, rfl, by omega, Lib.hid hp0H.out, hbw0, b20, b40⟩
    case round =>
      clear hbw0 b20 b40
      obtain ⟨j, k, x, y, hj, hk, rfl, hxy, hrt, hbw, b2x, b4x⟩ := hrel
      have x0 := b2x.out.cell 0 _ rfl
      have x1 := b2x.out.cell 1 _ rfl
      have f0 := b2x.out.froz 0
      have f1 := b2x.out.froz 1
      have lx := b2x.out.lt
      have y0 := b4x.out.cell 0 _ rfl
      have y1 := b4x.out.cell 1 _ rfl
      have g0 := b4x.out.froz 0
      have g1 := b4x.out.froz 1
      have ly := b4x.out.lt
      by_cases hjr : 0 < k
      · have hjI : (0 : Int) < (k : Int) := by omega
        have wn : IntKind.i64.wrap (-x) = -x := wrapFs (by omega) (by omega)
        have hrt2 := Lib.hid (show rotN (j + 1) p0 = ⟨y, -x⟩ by show rotP (rotN j p0) = _; rw [hrt.out]; rfl)
        go_wp2
        go_roundg (k - 1)
        case measure => omega
        case rel => exact ⟨j + 1, k - 1, y, -x, by omega, rfl, by congr 1; omega, by omega, hrt2, Lib.hid ((hbw.out.setCell (p := ⟨b2, 0, none⟩) hbl _).setCell (p := ⟨b2, 1, none⟩) hbl _), Lib.hid ((b2x.out.setSame 0 _).setSame 1 _), Lib.hid ((b4x.out.setOther (a := ⟨b2, 0, none⟩) hb24 _).setOther (a := ⟨b2, 1, none⟩) hb24 _)⟩
      · have hjI : ¬ (0 : Int) < (k : Int) := by omega
        obtain rfl : j = r := by omega
        have h9 := Lib.hid (show (⟨X, Y⟩ : Pt) = ⟨x, y⟩ by rw [← hTH.out, ← hrt.out, hp0H.out, hrH2.out]; unfold tp; simp only [h4, if_true, if_false])
        obtain ⟨hX, hY⟩ : X = x ∧ Y = y := by
          have := h9.out
          injection this with h1 h2
          exact ⟨h1, h2⟩
        subst hX
        subst hY
        go_wp2
        refine bodyPost_ret (v := .agg #[.int .i64 X, .int .i64 Y]) (by simp only [results, Try.results64]; go_simp) rfl ?_
        exact ⟨rfl, (hbw.out.setCell (p := ⟨b4, 0, none⟩) hbl4 _).setCell (p := ⟨b4, 1, none⟩) hbl4 _⟩
  · have h4I : ¬ (4 : Int) ≤ (s : Int) := by omega
    obtain ⟨W, hW⟩ : ∃ W, W = (w.alloc (Obj.cells #[.int .i64 x, .int .i64 y] 49)).alloc (Obj.cells #[.int .i64 0, .int .i64 0] 49) := ⟨_, rfl⟩
    have hal1 : Below w.heap.size w (w.alloc (Obj.cells #[.int .i64 x, .int .i64 y] 49)) := bl_al (bl_refl _) _
    have hbw0 : Hid (Below w.heap.size w W) := Lib.hid (by rw [hW]; exact bl_al hal1 _)
    have b20 : Hid (Bx W b2 [.int .i64 x, .int .i64 y]) := Lib.hid (by
      rw [hW, ← hb2.out]
      exact (Bx.made w [.int .i64 x, .int .i64 y] 49).below (bl_al (bl_refl _) _))
    have b40 : Hid (Bx W b4 [.int .i64 0, .int .i64 0]) := Lib.hid (by
      rw [hW, ← hb4.out, ← hb2.out]
      have := Bx.made (w.alloc (Obj.cells #[.int .i64 x, .int .i64 y] 49)) [.int .i64 0, .int .i64 0] 49
      simp only [World.size_alloc] at this
      exact this)
    go_enter Try.func64, Try.ntmps64
    go_wp2_with fail
    rw [← hW]
    try simp only [hb2.out, hb4.out]
    clear hW hb2 hb4 hal1
    obtain ⟨p0, hp0⟩ : ∃ p0 : Pt, p0 = ⟨x, y⟩ := ⟨_, rfl⟩
    have hp0H := Lib.hid hp0
    clear hp0
    go_wp2_with fail
    go_loopg [5] r (fun g i wr => ∃ (j k : Nat) (x y : Int), j + g = r ∧ k = g ∧ i = .int .i64 (k : Int) ∧ ((-40 ≤ x ∧ x ≤ 40) ∧ (-40 ≤ y ∧ y ≤ 40)) ∧ Hid (rotN j p0 = ⟨x, y⟩) ∧ Hid (Below w.heap.size w wr) ∧ Hid (Bx wr b2 [.int .i64 x, .int .i64 y]) ∧ Hid (Bx wr b4 [.int .i64 0, .int .i64 0]))
    case atStart => exact ⟨0, r, x, y, by omega, rfl, rfl, by omega, Lib.hid hp0H.out, hbw0, b20, b40⟩
    case round =>
      clear hbw0 b20 b40
      obtain ⟨j, k, x, y, hj, hk, rfl, hxy, hrt, hbw, b2x, b4x⟩ := hrel
      have x0 := b2x.out.cell 0 _ rfl
      have x1 := b2x.out.cell 1 _ rfl
      have f0 := b2x.out.froz 0
      have f1 := b2x.out.froz 1
      have lx := b2x.out.lt
      have y0 := b4x.out.cell 0 _ rfl
      have y1 := b4x.out.cell 1 _ rfl
      have g0 := b4x.out.froz 0
      have g1 := b4x.out.froz 1
      have ly := b4x.out.lt
      by_cases hjr : 0 < k
      · have hjI : (0 : Int) < (k : Int) := by omega
        have wn : IntKind.i64.wrap (-x) = -x := wrapFs (by omega) (by omega)
        have hrt2 := Lib.hid (show rotN (j + 1) p0 = ⟨y, -x⟩ by show rotP (rotN j p0) = _; rw [hrt.out]; rfl)
        go_wp2
        go_roundg (k - 1)
        case measure => omega
        case rel => exact ⟨j + 1, k - 1, y, -x, by omega, rfl, by congr 1; omega, by omega, hrt2, Lib.hid ((hbw.out.setCell (p := ⟨b2, 0, none⟩) hbl _).setCell (p := ⟨b2, 1, none⟩) hbl _), Lib.hid ((b2x.out.setSame 0 _).setSame 1 _), Lib.hid ((b4x.out.setOther (a := ⟨b2, 0, none⟩) hb24 _).setOther (a := ⟨b2, 1, none⟩) hb24 _)⟩
      · have hjI : ¬ (0 : Int) < (k : Int) := by omega
        obtain rfl : j = r := by omega
        have h9 := Lib.hid (show (⟨X, Y⟩ : Pt) = ⟨x, y⟩ by rw [← hTH.out, ← hrt.out, hp0H.out, hrH2.out]; unfold tp; simp only [h4, if_true, if_false])
        obtain ⟨hX, hY⟩ : X = x ∧ Y = y := by
          have := h9.out
          injection this with h1 h2
          exact ⟨h1, h2⟩
        subst hX
        subst hY
        go_wp2
        refine bodyPost_ret (v := .agg #[.int .i64 X, .int .i64 Y]) (by simp only [results, Try.results64]; go_simp) rfl ?_
        exact ⟨rfl, (hbw.out.setCell (p := ⟨b4, 0, none⟩) hbl4 _).setCell (p := ⟨b4, 1, none⟩) hbl4 _⟩
theorem cell_two_newND (w : World) (a b : Value) (t : TypeId) : ∀ j u, [a, b][j]? = some u → (w.alloc (Obj.cells #[a, b] t)).drew.cell? ((⟨w.heap.size, 0, none⟩ : Addr).add j) = some u := fun j u h => cell_two_newN w a b t j u h
/-- points moved home, in the order in which they come -/
def homeL (L : List Pt) : List Pt := L.map fun p => ⟨p.x - (boxB L).lx, p.y - (boxB L).ly⟩
theorem homeL_len (L : List Pt) : (homeL L).length = L.length := by simp [homeL]
theorem box_same {L M : List Pt} (hL : 0 < L.length) (hM : 0 < M.length) (h : ∀ p, p ∈ M ↔ p ∈ L) : (boxB M).lx = (boxB L).lx ∧ (boxB M).ly = (boxB L).ly := by
  obtain ⟨⟨p1, m1, e1⟩, ⟨p2, m2, e2⟩, ⟨p3, m3, e3⟩, ⟨p4, m4, e4⟩⟩ := boxB_at hL
  obtain ⟨a, _, b, _⟩ := boxB_is hM (a := (boxB L).lx) (b := (boxB L).hx) (c := (boxB L).ly) (d := (boxB L).hy) (fun p hp => boxB_in ((h p).1 hp)) ⟨p1, (h _).2 m1, e1⟩ ⟨p2, (h _).2 m2, e2⟩ ⟨p3, (h _).2 m3, e3⟩ ⟨p4, (h _).2 m4, e4⟩
  exact ⟨a, b⟩
theorem homeL_turn {ps : List Pt} (hn : 0 < ps.length) (s : Nat) : putAll [] (homeL (ps.map (tp s))) = turnP s ps := by
  have hm := map_pos hn (tp s)
  obtain ⟨e1, e2⟩ := box_same (L := ps.map (tp s)) (M := mapS (tp s) ps) (by rw [List.length_map]; exact hn) hm (fun p => by rw [mapS_of, List.mem_map])
  refine SortS.ext (putAll_sorted _ _ List.Pairwise.nil) (mapS_sorted _ _) fun q => ?_
  unfold turnP nf
  rw [putAll_mem, mapS_of, e1, e2]
  unfold homeL
  rw [List.mem_map]
  constructor
  · rintro (h | ⟨p, hp, rfl⟩)
    · cases h
    · exact ⟨p, mapS_of.2 (List.mem_map.1 hp), rfl⟩
  · rintro ⟨p, hp, rfl⟩
    exact .inr ⟨p, List.mem_map.2 (mapS_of.1 hp), rfl⟩
set_option maxRecDepth 100000 in
set_option maxHeartbeats 2000000 in
theorem l04Home_any {A : Option Addr} {n c : Nat} {ps : List Pt} {w : World} (h : RdSl 2 RPt w A n ps) (hr : Near 30 ps) (h1 : 1 ≤ n) (h5 : n ≤ 500) :
    Calls Try.prog 65 #[.slice A n c] w (PtsN w n (homeL ps)) := by
  obtain ⟨i0, hi, hz0, hz1, hz2⟩ := info_parts infoPtQ
  have hl := h.len
  obtain ⟨lx, hlx⟩ : ∃ v, (bxN ps n).lx = v := ⟨_, rfl⟩
  obtain ⟨ly, hly⟩ : ∃ v, (bxN ps n).ly = v := ⟨_, rfl⟩
  have hlow := bxN_low (B := -30) (fun p hp => by have := hr p hp; omega) (by omega) n (by omega)
  have hup : lx ≤ 30 ∧ ly ≤ 30 := by
    obtain ⟨p, hp⟩ : ∃ p, ps[0]? = some p := ⟨_, List.getElem?_eq_getElem (by omega)⟩
    have := bxN_le n 0 p (by omega) hp
    have := hr p (List.mem_of_getElem? hp)
    omega
  rw [hlx, hly] at hlow
  have hrH := Lib.hid hr
  have hh := Lib.hid (show homeL ps = ps.map (fun p => ⟨p.x - lx, p.y - ly⟩) by unfold homeL boxB; rw [hl, hlx, hly])
  have hH := Lib.hid h
  have hlH := Lib.hid hl
  rw [hh.out]
  clear h hr hl hh
  go_enter Try.func65, Try.ntmps65
  go_wp2_with fail
  refine (l03Bounds_any hH.out (by omega) (by omega)).mono ?_
  rw [hlx, hly]
  rintro e w1 ⟨rfl, hb1⟩
  have hb1H := Lib.hid hb1
  obtain ⟨hx, hhx⟩ : ∃ v, (bxN ps n).hx = v := ⟨_, rfl⟩
  obtain ⟨hy, hhy⟩ : ∃ v, (bxN ps n).hy = v := ⟨_, rfl⟩
  rw [hhx, hhy]
  clear hb1 hlx hly hhx hhy
  go_wp2_with fail
  have bL0 := ((Bx.made w1 [.int .i64 lx, .int .i64 ly] 49).below (bl_al (bl_refl _) (Obj.cells #[.int .i64 hx, .int .i64 hy] 49)))
  have hb2 : Below w1.heap.size w1 ((w1.alloc (Obj.cells #[.int .i64 lx, .int .i64 ly] 49)).alloc (Obj.cells #[.int .i64 hx, .int .i64 hy] 49)) := bl_al (bl_al (bl_refl _) _) _
  obtain ⟨w2, hw2⟩ : ∃ z, z = (w1.alloc (Obj.cells #[.int .i64 lx, .int .i64 ly] 49)).alloc (Obj.cells #[.int .i64 hx, .int .i64 hy] 49) := ⟨_, rfl⟩
  simp only [List.toArray] at bL0
  rw [← hw2] at bL0 hb2 ⊢
  obtain ⟨b3, hb3⟩ : ∃ b, w1.heap.size = b := ⟨_, rfl⟩
  have hs2 : w2.heap.size = w1.heap.size + 1 + 1 := by rw [hw2]; simp
  have hO0 := own_nil0 w2
  have hal0 : Below w2.heap.size w2 (w2.alloc (Obj.cells #[] 49)) := bl_al (bl_refl _) _
  have hbw2 := Lib.hid ((hb1H.out.trans (hb2.mono hb1H.out.size)).trans (hal0.mono (show w.heap.size ≤ w2.heap.size by have := hb1H.out.size; omega)))
  have bL1 := bL0.below hal0
  obtain ⟨w3, hw3⟩ : ∃ z, z = w2.alloc (Obj.cells #[] 49) := ⟨_, rfl⟩
  obtain ⟨b5, hb5⟩ : ∃ b, w2.heap.size = b := ⟨_, rfl⟩
  rw [← hw3] at hO0 hbw2 bL1 ⊢
  simp only [hb3] at bL1
  have h53 : b3 < b5 := by omega
  have hs5 : b5 ≤ w3.heap.size := by rw [hw3]; simp; omega
  have hb3w : w.heap.size ≤ b3 := by have := hb1H.out.size; omega
  simp only [hb5] at hO0
  have h535 : b3 + 1 + 1 = b5 := by omega
  try simp only [hb3, hs2, h535]
  clear h535
  have hO := Lib.hid hO0
  have bL := Lib.hid bL1
  clear hw2 hb2 hb3 bL0 hs2 hb1H hw3 hO0 bL1 hal0 hb5
  go_loopg [5, 6] n (fun g v i wr => ∃ (k : Nat), k + g = n ∧ b5 ≤ wr.heap.size ∧ i = .int .i64 (k : Int) ∧ Hid (wr.ownsRow b5 49 2 v k (ptCells ((ps.map (fun p => (⟨p.x - lx, p.y - ly⟩ : Pt))).take k))) ∧ Hid (Below w.heap.size w wr) ∧ Hid (Bx wr b3 [.int .i64 lx, .int .i64 ly]))
  case atStart => exact ⟨0, by omega, hs5, rfl, hO, hbw2, bL⟩
  case round =>
    clear hbw2 bL hO
    obtain ⟨k, hk, hs5, rfl, hO, hbw, bL⟩ := hrel
    have hszl := hbw.out.size
    obtain ⟨A1, c1, rfl⟩ := ownsRow_form hO.out
    by_cases hkn : k < n
    · have hkI : (k : Int) < (n : Int) := by omega
      have hAw := hH.out.below RPt.stable hbw.out
      obtain ⟨bb, ob, rfl, hbb, hbc⟩ := hAw.ptr (by omega)
      obtain ⟨e, he⟩ := hAw.get hkn
      obtain ⟨e0, e1⟩ := hbc k e he
      have her := hrH.out e (List.mem_of_getElem? he)
      have htk := Lib.hid (show (ps.map (fun p => (⟨p.x - lx, p.y - ly⟩ : Pt))).take (k + 1) = (ps.map (fun p => (⟨p.x - lx, p.y - ly⟩ : Pt))).take k ++ [⟨e.x - lx, e.y - ly⟩] by rw [List.take_add_one, List.getElem?_map, he]; rfl)
      have y0 := bL.out.cell 0 _ rfl
      have y1 := bL.out.cell 1 _ rfl
      have ly0 := bL.out.lt
      obtain ⟨X, hX⟩ : ∃ X : Int, e.x - lx = X := ⟨_, rfl⟩
      obtain ⟨Y, hY⟩ : ∃ Y : Int, e.y - ly = Y := ⟨_, rfl⟩
      have wx : IntKind.i64.wrap (e.x - lx) = X := by rw [hX]; exact wrapFs (by omega) (by omega)
      have wy : IntKind.i64.wrap (e.y - ly) = Y := by rw [hY]; exact wrapFs (by omega) (by omega)
      have hXH := Lib.hid hX
      have hYH := Lib.hid hY
      clear hbc he hAw hX hY
      go_wp2_with fail
      refine wp_region_ord [(0, .q), (1, .q), (2, .q), (3, .q), (4, .q), (5, .q), (6, .q), (7, .q), (8, .q), (9, .q), (10, .q), (11, .q), (12, .q), (13, .q), (14, .q), (15, .q), (16, .q), (17, .q), (18, .g), (19, .b), (20, .q)] (by kernel_rfl) (by kernel_rfl) ?_
      simp only [pick, List.filterMap_cons, List.filterMap_nil, List.getElem?_toArray, List.getElem?_cons_zero, List.getElem?_cons_succ, Option.map_some]
      repeat (first | ((with_reducible refine wpD_p (fun K hK => ?_)); go_simp; refine hK _ ?_; clear hK K) | ((with_reducible refine wpD_q (fun K hK => ?_)); go_simp; (first | refine hK _ ?_ | (go_bits; refine hK _ ?_) | (go_bits; go_simp; refine hK _ ?_)); clear hK K))
      with_reducible refine wpD_g (fun K hK => ?_)
      go_simp
      refine ⟨Grew.of_alloc _, hK _ _ ?_⟩
      clear hK K
      have hal : Below wr.heap.size wr (wr.alloc (Obj.cells #[.int .i64 X, .int .i64 Y] 49)).drew := bl_dr (bl_al (bl_refl _) _)
      have hO4 := ownsRow_below hO.out hal
      have bL4 := bL.out.below hal
      refine wpD_append_atN rfl _ _ 24 rfl b5 49 i0 (.agg #[.int .i64 0, .int .i64 0]) 2 16 Try.underlying24 hi hz0 hz1 hz2 rfl (by decide) (.slice A1 k c1) k (ptCells ((ps.map (fun p => (⟨p.x - lx, p.y - ly⟩ : Pt))).take k)) (by go_simp) hO4 ⟨wr.heap.size, 0, none⟩ 1 1 [.int .i64 X, .int .i64 Y] (by go_simp) rfl (cell_two_newND _ _ _ _) (fun x hx => by simp at hx; rcases hx with rfl | rfl <;> rfl) (by unfold maxLen; omega) (by omega) (by simp; omega) ?_
      intro v9 w9 hown9 hgrow9 hat9
      obtain ⟨A9, c9, rfl⟩ := ownsRow_form hown9
      have hbw9 := Lib.hid (hbw.out.trans ((hal.mono hszl).grown hgrow9 (by simp; omega) (fun g e => by have := (hO4.lt g e).1; omega)))
      have bL9 := Lib.hid (bL4.grown hgrow9 (fun e => by have := (hO4.lt _ e).1; omega))
      have hO9 := Lib.hid hown9
      have hs9 : b5 ≤ w9.heap.size := Nat.le_trans hs5 (Nat.le_trans hal.size hgrow9.size)
      clear hown9 hgrow9 hat9 hal hO4 bL4 y0 y1 ly0
      repeat (first | ((with_reducible refine wpD_p (fun K hK => ?_)); go_simp; refine hK _ ?_; clear hK K) | ((with_reducible refine wpD_q (fun K hK => ?_)); go_simp; (first | refine hK _ ?_ | (go_bits; refine hK _ ?_) | (go_bits; go_simp; refine hK _ ?_)); clear hK K))
      with_reducible refine wpD_nil ?_
      go_wp2
      go_roundg (n - (k + 1))
      case measure => omega
      case rel => exact ⟨k + 1, by omega, hs9, by go_num, Lib.hid (by rw [htk.out, ptCells_snoc, hXH.out, hYH.out]; exact hO9.out), hbw9, bL9⟩
    · obtain rfl : k = n := by omega
      have hkI : ¬ (k : Int) < (k : Int) := by omega
      have ht := Lib.hid (show (ps.map (fun p => (⟨p.x - lx, p.y - ly⟩ : Pt))).take k = ps.map (fun p => (⟨p.x - lx, p.y - ly⟩ : Pt)) from List.take_of_length_le (by rw [List.length_map, hlH.out]; exact Nat.le_refl _))
      go_wp2
      go_ret
      have hF := hO.out
      rw [ht.out] at hF
      exact ⟨A1, c1, rfl, rdPt_own hF (by rw [List.length_map, hlH.out]), hbw.out⟩
set_option maxRecDepth 100000 in
set_option maxHeartbeats 2000000 in
theorem l04Turned_any {A : Option Addr} {n c s : Nat} {ps T : List Pt} {w : World} (h : RdSl 2 RPt w A n ps) (ho : TnOk ps n s) (hT : turnP s ps = T) :
    Calls Try.prog 39 #[.slice A n c, .int .i64 (s : Int)] w (PtsN w n T) := by
  obtain ⟨i0, hi, hz0, hz1, hz2⟩ := info_parts infoPtQ
  have hn25 := ho.n25
  have hn1 := ho.pos
  have hs8 := ho.s8
  have hTH := Lib.hid (show putAll [] (homeL (ps.map (tp s))) = T by rw [← hT]; exact homeL_turn (by rw [ho.len]; exact hn1) s)
  have hTl := Lib.hid (show T.length = n by
    rw [← hT]
    unfold turnP nf
    rw [mapS_len (mov_turn _) (mapS_sorted _ _)]
    exact ho.tlen)
  have hnr := Lib.hid (show Near 30 (ps.map (tp s)) from fun p hp => by
    have := ho.rng p (mapS_of.2 (List.mem_map.1 hp))
    omega)
  have hH := Lib.hid h
  have hoH := Lib.hid ho
  clear h ho hT
  go_enter Try.func39, Try.ntmps39
  go_wp2_with fail
  have hal : Below w.heap.size w (w.alloc (Obj.cells #[] 49)) := bl_al (bl_refl _) _
  have hO := Lib.hid (RowPt.mk (L := []) (own_nil0 w) rfl)
  obtain ⟨w1, hw1⟩ : ∃ z, z = w.alloc (Obj.cells #[] 49) := ⟨_, rfl⟩
  rw [← hw1] at hO hal ⊢
  have hbw0 := Lib.hid hal
  clear hw1 hal
  go_loopg [5, 6] n (fun g v i wr => ∃ m : Nat, m + g = n ∧ i = .int .i64 (m : Int) ∧ Hid (RowPt wr w.heap.size v m ((ps.take m).map (tp s))) ∧ Hid (Below w.heap.size w wr))
  case atStart => exact ⟨0, by omega, rfl, hO, hbw0⟩
  case round =>
    clear hO hbw0
    obtain ⟨m, hm, rfl, hO, hbw⟩ := hrel
    have hszl := hbw.out.size
    obtain ⟨A1, c1, rfl⟩ := ownsRow_form hO.out.own
    by_cases hmn : m < n
    · have hmI : (m : Int) < (n : Int) := by omega
      have hAw := hH.out.below RPt.stable hbw.out
      obtain ⟨bb, ob, rfl, hbb, hbc⟩ := hAw.ptr (by omega)
      obtain ⟨e, he⟩ := hAw.get hmn
      obtain ⟨e0, e1⟩ := hbc m e he
      have her := hoH.out.nr e (List.mem_of_getElem? he)
      obtain ⟨X, Y, hXY⟩ : ∃ X Y, tp s ⟨e.x, e.y⟩ = ⟨X, Y⟩ := ⟨(tp s ⟨e.x, e.y⟩).x, (tp s ⟨e.x, e.y⟩).y, rfl⟩
      have htk := Lib.hid (show (ps.take (m + 1)).map (tp s) = (ps.take m).map (tp s) ++ [⟨X, Y⟩] by
        rw [List.take_add_one, he, List.map_append, ← hXY]; rfl)
      have hXYH := Lib.hid hXY
      clear hbc he hAw hXY
      go_wp2_with fail
      refine (l04Turn_any hs8 (by omega) hXYH.out).mono ?_
      rintro _ w5 ⟨rfl, hb5⟩
      have hO5 := Lib.hid (hO.out.below hb5)
      have hbw5 := Lib.hid (hbw.out.trans (hb5.mono hszl))
      clear hb5 hO hbw
      have hs5 := hbw5.out.size
      have hal : Below w5.heap.size w5 (w5.alloc (Obj.cells #[.int .i64 X, .int .i64 Y] 49)) := bl_al (bl_refl _) _
      have hO1 := Lib.hid (hO5.out.below hal)
      have halH := Lib.hid hal
      clear hal hO5
      go_wp2_with (at_builtin; go_loud (refine wpList_append_own_at _ rfl _ _ 24 rfl w.heap.size 49 i0 (.agg #[.int .i64 0, .int .i64 0]) 2 16 Try.underlying24 hi hz0 hz1 hz2 rfl (by decide) (.slice A1 m c1) m (ptCells ((ps.take m).map (tp s))) rfl hO1.out.own ⟨w5.heap.size, 0, none⟩ 1 1 [.int .i64 X, .int .i64 Y] rfl rfl (cell_pt2 _ _ _ _) (fun x hx => by simp at hx; rcases hx with rfl | rfl <;> rfl) (by unfold maxLen; omega) (by omega) (by simp; omega) ?_; intro v9 w9 hown9 hgrow9 hat9 hat9b; obtain ⟨A9, c9, rfl⟩ := ownsRow_form hown9; have hs9 := halH.out.size; have bw9 := Lib.hid ((hbw5.out.trans (halH.out.mono hs5)).grown hgrow9 (by omega) (fun g e => (hO1.out.own.lt g e).1)); have hO9 := Lib.hid (RowPt.snoc hO1.out.len hown9); clear hown9 hgrow9 hat9 hat9b hs9))
      go_roundg (n - (m + 1))
      case measure => omega
      case rel => exact ⟨m + 1, by omega, by go_num, Lib.hid (by rw [htk.out]; exact hO9.out), bw9⟩
    · obtain rfl : m = n := by omega
      have hmI : ¬ (m : Int) < (m : Int) := by omega
      have htk := Lib.hid (show (ps.take m).map (tp s) = ps.map (tp s) by rw [List.take_of_length_le (by rw [hoH.out.len]; exact Nat.le_refl _)])
      have hO5 := hO.out.own
      rw [htk.out] at hO5
      have hl5 : (ps.map (tp s)).length = m := by rw [List.length_map, hoH.out.len]
      have hR5 := Lib.hid (rdPt_own hO5 hl5)
      clear hO hO5 hl5
      go_wp2_with fail
      refine (l04Home_any hR5.out hnr.out hn1 (by omega)).mono ?_
      rintro _ w6 ⟨B, cb, rfl, hR6, hb6⟩
      have hR6H := Lib.hid hR6
      have hbw6 := Lib.hid (hbw.out.trans (hb6.mono hszl))
      clear hR6 hb6
      go_wp2_with fail
      refine (l04Sorted_any hR6H.out (by omega)).mono ?_
      rw [hTH.out]
      rintro _ w7 ⟨v, rfl, hO7, hb7⟩
      obtain ⟨E, cE, rfl, hR7⟩ := own_rd hO7 hTl.out
      have hR7H := Lib.hid hR7
      have hbw7 := Lib.hid (hbw6.out.trans (hb7.mono hbw6.out.size))
      clear hO7 hR7 hb7
      go_wp2
      go_ret
      exact ⟨E, cE, rfl, hR7H.out, hbw7.out⟩
set_option maxRecDepth 100000 in
set_option maxHeartbeats 2000000 in
theorem sTurnShape_any {A : Option Addr} {n c s : Nat} {ps T : List Pt} {w : World} (h : RdSl 2 RPt w A n ps) (ho : TnOk ps n s) (hsh : shapeB ps = true) (hT : turnP s ps = T) :
    Calls Try.prog 16 #[.slice A n c, .int .i64 (s : Int)] w fun e w' => ∃ B c', e = .returned (.tuple #[.slice B n c', .int .i64 0]) ∧ RdSl 2 RPt w' B n T ∧ Below w.heap.size w w' := by
  have hn25 := ho.n25
  have hs8 := ho.s8
  have hB : Hid (inB (s : Int) 0 7 = true) := Lib.hid (inB_true.2 (by omega))
  have hsT := Lib.hid (show shapeB T = true by rw [← hT]; exact ho.shp)
  have hH := Lib.hid h
  have hoH := Lib.hid ho
  have hshH := Lib.hid hsh
  have hTH := Lib.hid hT
  clear h ho hsh hT
  go_enter Try.func16, Try.ntmps16
  go_wp2_with fail
  refine (l04Ok_any A n c ps _ hH.out (by omega)).mono ?_
  rw [hshH.out]
  rintro _ w3 ⟨rfl, hb3⟩
  have hbw3 := Lib.hid hb3
  have hH3 := Lib.hid (hH.out.below RPt.stable hb3)
  clear hb3
  go_wp2_with fail
  refine (l00In_at hB.out).mono ?_
  rintro _ _ ⟨rfl, rfl⟩
  go_wp2_with fail
  refine (l04Turned_any hH3.out hoH.out hTH.out).mono ?_
  rintro e w5 ⟨B, cb, rfl, hR, hb5⟩
  have hRH := Lib.hid hR
  have hbw5 := Lib.hid (hbw3.out.trans (hb5.mono hbw3.out.size))
  clear hR hb5
  go_wp2_with fail
  refine (l04Ok_any B n cb T _ hRH.out (by omega)).mono ?_
  rw [hsT.out]
  rintro _ w6 ⟨rfl, hb6⟩
  have hR6 := Lib.hid (hRH.out.below RPt.stable hb6)
  have hbw6 := Lib.hid (hbw5.out.trans (hb6.mono hbw5.out.size))
  clear hb6
  go_wp2
  refine bodyPost_ret (v := .tuple #[.slice B n cb, .int .i64 0]) (by simp only [results, Try.results16]; go_simp) rfl ?_
  exact ⟨B, cb, rfl, hR6.out, hbw6.out⟩
end Go.Proofs.Ytkppijcjmhkkkaa
/- Walk: the law on scaled shapes' measures. -/



namespace Go.Proofs.Ytkppijcjmhkkkaa
open Go.RowKit
attribute [local go_sem] BelowBy.cell BelowBy.cell_drew stillUpon givesUpon

theorem HolesN_any {A : Option Addr} {n c M : Nat} {ps : List Pt} {w : World} (h : RdSl 2 RPt w A n ps) (hsh : shapeB ps = true) (hM : (holesB ps).length = M) :
    Calls Try.prog 13 #[.slice A n c] w fun e w' => ∃ B c', e = .returned (.tuple #[.slice B M c', .int .i64 0]) ∧ Below w.heap.size w w' := by
  have hl := h.len
  have h5 := (shp_of hsh).2.2
  refine (HolesOf_any A n c ps w h (by omega)).mono ?_
  rintro e w' ⟨B, c', us, rfl, _, hb⟩
  have e1 : holR ps = (holesB ps, 0) := by unfold holR; rw [if_pos hsh]
  rw [e1] at *
  refine ⟨B, c', ?_, hb⟩
  rw [← hM]
theorem oneB_parts (ps : List Pt) : oneB ps = decide ((partsP ps).length = 1) := by
  unfold oneB partsP partsN namesL
  simp
theorem IsConnectedN_any {A : Option Addr} {n c : Nat} {ps : List Pt} {v : Bool} {w : World} (h : RdSl 2 RPt w A n ps) (hsh : shapeB ps = true) (hv : decide ((partsP ps).length = 1) = v) :
    Calls Try.prog 14 #[.slice A n c] w fun e w' => e = .returned (.bool v) ∧ Below w.heap.size w w' := by
  have hl := h.len
  have h5 := (shp_of hsh).2.2
  refine (IsConnected_any A n c ps w h (by omega)).mono ?_
  rintro e w' ⟨rfl, hb⟩
  refine ⟨?_, hb⟩
  rw [hsh, Bool.true_and, oneB_parts, hv]
set_option maxRecDepth 100000 in
set_option maxHeartbeats 8000000 in
theorem FnScaled_any {n n2 c c2 : Nat} {C D : Option Addr} {bs bs2 : List Nat} (w : World) (h : RdSl 1 RBy w C n bs) (h2 : RdSl 1 RBy w D n2 bs2) :
    Calls Try.prog 3 #[.slice C n c, .slice D n2 c2] w fun e w' => e = .returned (.bool true) ∧ Below w.heap.size w w' := by
  have hH := Lib.hid h
  have hBy := Lib.hid h2
  clear h h2
  by_cases hn : 4096 < n
  · have hnH := Lib.hid (show decide (4096 < n) = true from decide_eq_true hn)
    clear hn
    go_enter Try.func3, Try.ntmps3
    go_wp2_with fail
    refine (f6big_at _ hnH.out).mono ?_
    rintro e _ ⟨rfl, rfl⟩
    go_wp2
    go_ret
    exact ⟨rfl, bl_refl _⟩
  have hnH := Lib.hid (show decide (4096 < n) = false from decide_eq_false hn)
  by_cases hm : 4096 < n2
  · have hmH := Lib.hid (show decide (4096 < n2) = true from decide_eq_true hm)
    clear hm hn
    go_enter Try.func3, Try.ntmps3
    go_wp2_with fail
    refine (f6big_at _ hnH.out).mono ?_
    rintro e _ ⟨rfl, rfl⟩
    go_wp2_with fail
    refine (f6big_at _ hmH.out).mono ?_
    rintro e _ ⟨rfl, rfl⟩
    go_wp2
    go_ret
    exact ⟨rfl, bl_refl _⟩
  have hmH := Lib.hid (show decide (4096 < n2) = false from decide_eq_false hm)
  have hnle : n ≤ 1000000 := by omega
  have hmle : n2 ≤ 1000000 := by omega
  clear hm hn
  go_enter Try.func3, Try.ntmps3
  go_wp2_with fail
  refine (f6big_at _ hnH.out).mono ?_
  rintro e _ ⟨rfl, rfl⟩
  go_wp2_with fail
  refine (f6big_at _ hmH.out).mono ?_
  rintro e _ ⟨rfl, rfl⟩
  go_wp2_with fail
  refine (LawShape_any hH.out hnle).mono ?_
  rintro _ w1 ⟨A, N, cN, ps, rfl, hR, hSm, hN1, hN25, hb1⟩
  replace hR := Lib.hid hR
  replace hSm := Lib.hid hSm
  replace hBy := Lib.hid (hBy.out.below RBy.stable hb1)
  have hbw := Lib.hid hb1
  clear hb1 hH
  have hl := Lib.hid hR.out.len
  go_wp2_with fail
  refine (LawPickS_any 3 hBy.out hmle (by omega) (by omega)).mono ?_
  rintro _ w2 ⟨v, rfl, hv3, hj⟩
  try replace hR := Lib.hid (hR.out.below RPt.stable hj)
  try replace hP := Lib.hid (hP.out.below RPt.stable hj)
  try replace hQ := Lib.hid (hQ.out.below RPt.stable hj)
  try replace hU := Lib.hid (hU.out.below RPt.stable hj)
  try replace hBy := Lib.hid (hBy.out.below RBy.stable hj)
  try replace hbw := Lib.hid (hbw.out.trans ((hj).mono hbw.out.size))
  clear hj
  have hw1 : IntKind.i64.wrap (1 + (v : Int)) = ((v + 1 : Nat) : Int) := by rw [wrapFs (by omega) (by omega)]; omega
  obtain ⟨k, hk⟩ : ∃ k, v + 1 = k := ⟨_, rfl⟩
  have hk13 : 1 ≤ k ∧ k ≤ 3 := by omega
  rw [hk] at hw1
  clear hk hv3 hBy
  have h3 := Lib.hid (show S4 ps k from ⟨hSm.out, hk13, by rw [hl.out]; exact hN25⟩)
  obtain ⟨L, hL⟩ : ∃ L, scS k ps = L := ⟨_, rfl⟩
  obtain ⟨M, hM⟩ : ∃ M, L.length = M := ⟨_, rfl⟩
  have hsp := Lib.hid (hSm.out.shape (by omega) (by rw [hl.out]; exact hN1) (by rw [hl.out]; omega))
  have hsL := Lib.hid (show shapeB L = true by rw [← hL]; exact h3.out.shape (by rw [hl.out]; exact hN1))
  obtain ⟨x, hx⟩ : ∃ x, perim ps = x := ⟨_, rfl⟩
  obtain ⟨g, hg⟩ : ∃ g, (holesB ps).length = g := ⟨_, rfl⟩
  obtain ⟨cc, hcc⟩ : ∃ cc, decide ((partsP ps).length = 1) = cc := ⟨_, rfl⟩
  obtain ⟨hSp, hp1, hp5⟩ := shp_of hsp.out
  obtain ⟨hSL, hL1, hL5⟩ := shp_of hsL.out
  have hMN : M = N * (k * k) := by rw [← hM, ← hL, h3.out.len, hl.out]
  have hxL := Lib.hid (show perim L = k * x by rw [← hL, sc_perim hk13 hSm.out.srt, hx])
  have hgL := Lib.hid (show (holesB L).length = g by rw [← hL, ← hg]; exact (sc_holes hk13 hSp (by omega) (by rw [hL]; exact hSL) (by rw [hL]; omega)).symm)
  have hcL := Lib.hid (show decide ((partsP L).length = 1) = cc by rw [← hcc, ← hL, sc_parts hk13 hSp (by omega) (by rw [hL]; exact hSL) (by rw [hL]; omega)])
  obtain ⟨q, hq⟩ : ∃ q, k * k = q := ⟨_, rfl⟩
  have hq9 : q ≤ 9 := by rw [← hq]; exact h3.out.kk
  rw [hq] at hMN
  have hM9 : M ≤ 225 := by
    have : N * q ≤ 25 * 9 := Nat.mul_le_mul hN25 hq9
    omega
  have hx9 : x ≤ 100 := by
    rw [← hx]
    have h9 : perim ps ≤ 4 * ps.length := by have := out_all ps ps; unfold perim; omega
    rw [hl.out] at h9
    omega
  obtain ⟨y, hy⟩ : ∃ y, k * x = y := ⟨_, rfl⟩
  have hy9 : y ≤ 300 := by
    have : k * x ≤ 3 * 100 := Nat.mul_le_mul hk13.2 hx9
    omega
  rw [hy] at hxL
  have wy : IntKind.i64.wrap ((k : Int) * (x : Int)) = (y : Int) := by rw [← Int.natCast_mul, hy]; exact wrapFs (by omega) (by omega)
  have wq : IntKind.i64.wrap ((k : Int) * (k : Int)) = (q : Int) := by rw [← Int.natCast_mul, hq]; exact wrapFs (by omega) (by omega)
  have wM : IntKind.i64.wrap ((q : Int) * (N : Int)) = (M : Int) := by rw [← Int.natCast_mul, Nat.mul_comm, ← hMN]; exact wrapFs (by omega) (by omega)
  replace hL := Lib.hid hL
  replace hM := Lib.hid hM
  replace hx := Lib.hid hx
  replace hg := Lib.hid hg
  replace hcc := Lib.hid hcc
  clear hSp hp1 hp5 hSL hL1 hL5 hMN hq hy hSm
  go_wp2_with fail
  refine (ScaleShape_any hR.out h3.out hN1 hL.out hM.out).mono ?_
  rintro _ w3 ⟨B, cB, rfl, hP, hj⟩
  replace hP := Lib.hid hP
  try replace hR := Lib.hid (hR.out.below RPt.stable hj)
  try replace hP := Lib.hid (hP.out.below RPt.stable hj)
  try replace hQ := Lib.hid (hQ.out.below RPt.stable hj)
  try replace hU := Lib.hid (hU.out.below RPt.stable hj)
  try replace hBy := Lib.hid (hBy.out.below RBy.stable hj)
  try replace hbw := Lib.hid (hbw.out.trans ((hj).mono hbw.out.size))
  clear hj
  go_wp2_with fail
  refine (sScaleShape_any hR.out h3.out hN1 hL.out hM.out).mono ?_
  rintro _ w4 ⟨E, cE, rfl, hQ, hj⟩
  replace hQ := Lib.hid hQ
  try replace hR := Lib.hid (hR.out.below RPt.stable hj)
  try replace hP := Lib.hid (hP.out.below RPt.stable hj)
  try replace hQ := Lib.hid (hQ.out.below RPt.stable hj)
  try replace hU := Lib.hid (hU.out.below RPt.stable hj)
  try replace hBy := Lib.hid (hBy.out.below RBy.stable hj)
  try replace hbw := Lib.hid (hbw.out.trans ((hj).mono hbw.out.size))
  clear hj
  go_wp2_with fail
  refine (sSameShape_any hP.out hQ.out (by omega)).mono ?_
  rintro _ w5 ⟨rfl, hj⟩
  try replace hR := Lib.hid (hR.out.below RPt.stable hj)
  try replace hP := Lib.hid (hP.out.below RPt.stable hj)
  try replace hQ := Lib.hid (hQ.out.below RPt.stable hj)
  try replace hU := Lib.hid (hU.out.below RPt.stable hj)
  try replace hBy := Lib.hid (hBy.out.below RBy.stable hj)
  try replace hbw := Lib.hid (hbw.out.trans ((hj).mono hbw.out.size))
  clear hj hP
  go_wp2_with fail
  refine (UnscaleShape_any hQ.out h3.out hN1 hl.out hL.out).mono ?_
  rintro _ w6 ⟨U, cU, rfl, hU, hj⟩
  replace hU := Lib.hid hU
  try replace hR := Lib.hid (hR.out.below RPt.stable hj)
  try replace hP := Lib.hid (hP.out.below RPt.stable hj)
  try replace hQ := Lib.hid (hQ.out.below RPt.stable hj)
  try replace hU := Lib.hid (hU.out.below RPt.stable hj)
  try replace hBy := Lib.hid (hBy.out.below RBy.stable hj)
  try replace hbw := Lib.hid (hbw.out.trans ((hj).mono hbw.out.size))
  clear hj
  go_wp2_with fail
  refine (PerimeterOf_any hR.out hsp.out hx.out).mono ?_
  rintro _ w7 ⟨rfl, hj⟩
  try replace hR := Lib.hid (hR.out.below RPt.stable hj)
  try replace hP := Lib.hid (hP.out.below RPt.stable hj)
  try replace hQ := Lib.hid (hQ.out.below RPt.stable hj)
  try replace hU := Lib.hid (hU.out.below RPt.stable hj)
  try replace hBy := Lib.hid (hBy.out.below RBy.stable hj)
  try replace hbw := Lib.hid (hbw.out.trans ((hj).mono hbw.out.size))
  clear hj
  go_wp2_with fail
  refine (PerimeterOf_any hQ.out hsL.out hxL.out).mono ?_
  rintro _ w8 ⟨rfl, hj⟩
  try replace hR := Lib.hid (hR.out.below RPt.stable hj)
  try replace hP := Lib.hid (hP.out.below RPt.stable hj)
  try replace hQ := Lib.hid (hQ.out.below RPt.stable hj)
  try replace hU := Lib.hid (hU.out.below RPt.stable hj)
  try replace hBy := Lib.hid (hBy.out.below RBy.stable hj)
  try replace hbw := Lib.hid (hbw.out.trans ((hj).mono hbw.out.size))
  clear hj
  go_wp2_with fail
  refine (HolesN_any hR.out hsp.out hg.out).mono ?_
  rintro _ w9 ⟨F, cF, rfl, hj⟩
  try replace hR := Lib.hid (hR.out.below RPt.stable hj)
  try replace hP := Lib.hid (hP.out.below RPt.stable hj)
  try replace hQ := Lib.hid (hQ.out.below RPt.stable hj)
  try replace hU := Lib.hid (hU.out.below RPt.stable hj)
  try replace hBy := Lib.hid (hBy.out.below RBy.stable hj)
  try replace hbw := Lib.hid (hbw.out.trans ((hj).mono hbw.out.size))
  clear hj
  go_wp2_with fail
  refine (HolesN_any hQ.out hsL.out hgL.out).mono ?_
  rintro _ w10 ⟨G, cG, rfl, hj⟩
  try replace hR := Lib.hid (hR.out.below RPt.stable hj)
  try replace hP := Lib.hid (hP.out.below RPt.stable hj)
  try replace hQ := Lib.hid (hQ.out.below RPt.stable hj)
  try replace hU := Lib.hid (hU.out.below RPt.stable hj)
  try replace hBy := Lib.hid (hBy.out.below RBy.stable hj)
  try replace hbw := Lib.hid (hbw.out.trans ((hj).mono hbw.out.size))
  clear hj
  go_wp2_with fail
  refine (sSameShape_any hU.out hR.out (by omega)).mono ?_
  rintro _ w11 ⟨rfl, hj⟩
  try replace hR := Lib.hid (hR.out.below RPt.stable hj)
  try replace hP := Lib.hid (hP.out.below RPt.stable hj)
  try replace hQ := Lib.hid (hQ.out.below RPt.stable hj)
  try replace hU := Lib.hid (hU.out.below RPt.stable hj)
  try replace hBy := Lib.hid (hBy.out.below RBy.stable hj)
  try replace hbw := Lib.hid (hbw.out.trans ((hj).mono hbw.out.size))
  clear hj
  go_wp2_with fail
  refine (IsConnectedN_any hR.out hsp.out hcc.out).mono ?_
  rintro _ w12 ⟨rfl, hj⟩
  try replace hR := Lib.hid (hR.out.below RPt.stable hj)
  try replace hP := Lib.hid (hP.out.below RPt.stable hj)
  try replace hQ := Lib.hid (hQ.out.below RPt.stable hj)
  try replace hU := Lib.hid (hU.out.below RPt.stable hj)
  try replace hBy := Lib.hid (hBy.out.below RBy.stable hj)
  try replace hbw := Lib.hid (hbw.out.trans ((hj).mono hbw.out.size))
  clear hj
  go_wp2_with fail
  refine (IsConnectedN_any hQ.out hsL.out hcL.out).mono ?_
  rintro _ w13 ⟨rfl, hj⟩
  try replace hR := Lib.hid (hR.out.below RPt.stable hj)
  try replace hP := Lib.hid (hP.out.below RPt.stable hj)
  try replace hQ := Lib.hid (hQ.out.below RPt.stable hj)
  try replace hU := Lib.hid (hU.out.below RPt.stable hj)
  try replace hBy := Lib.hid (hBy.out.below RBy.stable hj)
  try replace hbw := Lib.hid (hbw.out.trans ((hj).mono hbw.out.size))
  clear hj
  go_wp2
  go_ret
  exact ⟨by simp, hbw.out⟩
end Go.Proofs.Ytkppijcjmhkkkaa
