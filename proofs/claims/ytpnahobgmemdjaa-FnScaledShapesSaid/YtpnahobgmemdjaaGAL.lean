import Derived.Test.YtpnahobgmemdjaaGAK
import Derived.Test.YtpnahobgmemdjaaGAE
import Derived.Test.YtpnahobgmemdjaaGAF
set_option linter.unusedSimpArgs false
set_option linter.unusedVariables false
/- Walks: shapes that are valid, of both. -/



namespace Go.Proofs.Ytpnahobgmemdjaa
open Go.RowKit Go.Shelf
attribute [local go_sem] BelowBy.cell BelowBy.cell_drew stillUpon givesUpon

/-- a shape's test of place j -/
def okPt (ps : List Pt) (j : Nat) : Bool := match ps[j]? with
  | none => true
  | some e => validPt e.x e.y && (match j with
    | 0 => true
    | i + 1 => match ps[i]? with
      | none => true
      | some d => lessPt d.x d.y e.x e.y)
def shapeB (ps : List Pt) : Bool := allB ps.length (okPt ps) && decide (1 ≤ ps.length ∧ ps.length ≤ 500)
theorem okPt_eq0 {ps : List Pt} {e : Pt} (h : ps[0]? = some e) : okPt ps 0 = validPt e.x e.y := by
  unfold okPt; rw [h]; simp
theorem okPt_eqS {ps : List Pt} {k : Nat} {e d : Pt} (h : ps[k + 1]? = some e) (hd : ps[k]? = some d) : okPt ps (k + 1) = (validPt e.x e.y && lessPt d.x d.y e.x e.y) := by
  unfold okPt; rw [h]; simp only [hd]
theorem shapeB_bad {ps : List Pt} {k : Nat} (hk : k < ps.length) (h : okPt ps k = false) : shapeB ps = false := by
  unfold shapeB; rw [allB_false hk h]; rfl
theorem shapeB_ok {ps : List Pt} (h : ∀ j, j < ps.length → okPt ps j = true) : shapeB ps = decide (1 ≤ ps.length ∧ ps.length ≤ 500) := by
  unfold shapeB; rw [allB_true h]; rfl
theorem shapeB_len {ps : List Pt} (h1 : ¬ (1 ≤ ps.length ∧ ps.length ≤ 500)) : shapeB ps = false := by
  unfold shapeB; rw [decide_eq_false h1]; simp
theorem shp_of {ps : List Pt} (h : shapeB ps = true) : Shp ps ∧ 1 ≤ ps.length ∧ ps.length ≤ 500 := by
  unfold shapeB at h
  simp only [Bool.and_eq_true, decide_eq_true_eq] at h
  obtain ⟨hf, h4⟩ := h
  have hpl : ∀ (k : Nat) (e : Pt), ps[k]? = some e → validPt e.x e.y = true := fun k e he => by
    have := allB_at hf (lt_of_get he)
    unfold okPt at this
    rw [he] at this
    simp only [Bool.and_eq_true] at this
    exact this.1
  have hstep : ∀ (k : Nat) (d e : Pt), ps[k]? = some d → ps[k + 1]? = some e → lessPt d.x d.y e.x e.y = true := fun k d e hd he => by
    have := allB_at hf (lt_of_get he)
    rw [okPt_eqS he hd] at this
    simp only [Bool.and_eq_true] at this
    exact this.2
  refine ⟨⟨fun k e he => ?_, ?_⟩, h4⟩
  · have := hpl k e he
    simp only [validPt, Bool.and_eq_true, inB_true] at this
    exact this
  · intro i j d e hij hd he
    induction j generalizing e with
    | zero => omega
    | succ j ih =>
      have hj : j < ps.length := by have := lt_of_get he; omega
      obtain ⟨c, hc⟩ : ∃ c, ps[j]? = some c := ⟨_, List.getElem?_eq_getElem hj⟩
      have h2 := hstep j c e hc he
      rcases Nat.lt_or_ge i j with h | h
      · have h1 := ih c h hc
        rw [lessPt_iff] at h1 h2 ⊢
        omega
      · obtain rfl : i = j := by omega
        rw [hd] at hc
        obtain rfl := Option.some.inj hc
        exact h2
theorem Shp.sortS {ps : List Pt} (h : Shp ps) : SortS ps := by
  unfold SortS
  rw [List.pairwise_iff_getElem]
  intro i j hi hj hij
  exact h.sorted i j _ _ hij (List.getElem?_eq_getElem hi) (List.getElem?_eq_getElem hj)
set_option maxHeartbeats 2000000 in
theorem ValidShape_any (A : Option Addr) (n c : Nat) (ps : List Pt) (w : World) (h : RdSl 2 RPt w A n ps) (hn : n ≤ 1073741824) :
    Calls Try.prog 78 #[.slice A n c] w fun e w' => e = .returned (.bool (shapeB ps)) ∧ Below w.heap.size w w' := by
  
  have hla := h.len
  go_enter Try.func78, Try.ntmps78
  go_wp2
  go_loopg [7] n (fun g i wr => ∃ k : Nat, k + g = n ∧ i = .int .i64 k ∧ Hid (∀ j, j < k → okPt ps j = true) ∧ Below w.heap.size w wr)
  case atStart => exact ⟨0, by omega, rfl, Lib.hid fun j hj => by omega, Below.refl _ _⟩
  case round =>
    obtain ⟨k, hk, rfl, hok, hbw⟩ := hrel
    have h' := h.below RPt.stable hbw
    have hszw := hbw.size
    by_cases hlt : k < n
    · obtain ⟨b, o, rfl, hb, hc⟩ := h'.ptr (by omega)
      obtain ⟨e, he⟩ := h.get hlt
      obtain ⟨c0, c1⟩ := hc k e he
      have hkz : k = 0 ∨ ∃ k', k = k' + 1 := by
        cases k with
        | zero => exact Or.inl rfl
        | succ k' => exact Or.inr ⟨k', rfl⟩
      rcases hkz with rfl | ⟨i, rfl⟩
      · have HK := Lib.hid (okPt_eq0 he)
        clear he hc h'
        simp only [Nat.zero_mul, Nat.add_zero] at c0 c1
        cases hv1 : validPt e.x e.y
        · go_wp2
          refine wp_region_ord [(0, .q), (1, .g), (2, .q), (3, .q), (4, .q), (5, .q), (6, .q), (7, .q), (8, .q), (9, .q), (10, .q), (11, .q), (12, .q), (13, .g), (14, .q), (15, .q), (16, .q)] (by kernel_rfl) (by kernel_rfl) ?_
          simp only [pick, List.filterMap_cons, List.filterMap_nil, List.getElem?_toArray, List.getElem?_cons_zero, List.getElem?_cons_succ, Option.map_some]
          repeat (first
            | ((with_reducible refine wpD_p (fun K hK => ?_)); go_simp; refine hK _ ?_; clear hK K)
            | ((with_reducible refine wpD_q (fun K hK => ?_)); go_simp; (first | refine hK _ ?_ | (go_bits; refine hK _ ?_) | (go_bits; go_simp; refine hK _ ?_)); clear hK K)
            | ((with_reducible refine wpD_g (fun K hK => ?_)); go_simp; refine hK _ _ ?_; clear hK K)
            | ((with_reducible refine wpD_g (fun K hK => ?_)); go_simp; refine ⟨Grew.of_alloc _, hK _ _ ?_⟩; clear hK K)
            | ((with_reducible refine wpD_g (fun K hK => ?_)); go_simp; go_at_call 66; refine (ValidPoint_any _ _ _).mono ?_; rintro e w1 ⟨rfl, hb1⟩; refine ⟨_, rfl, hb1, hK _ _ ?_⟩; clear hK K; obtain ⟨chb1, fhb1, shb1, thb1⟩ := bcell hb1; (try have bhb10 := shb1 (wr.heap.size) (by go_simp)); (try have bhb11 := shb1 (b) (by go_simp)))
            | ((with_reducible refine wpD_g (fun K hK => ?_)); go_simp; go_at_call 68; refine (LessPoint_any _ _ _ _ _).mono ?_; rintro e w2 ⟨rfl, hb2⟩; refine ⟨_, rfl, hb2, hK _ _ ?_⟩; clear hK K; obtain ⟨chb2, fhb2, shb2, thb2⟩ := bcell hb2; (try have bhb20 := shb2 (wr.heap.size) (by go_simp)); (try have bhb21 := shb2 (b) (by go_simp))))
          with_reducible refine wpD_nil ?_
          go_wp2
          go_ret
          exact ⟨ret_bool (shapeB_bad (k := 0) (by omega) (by rw [HK.out, hv1])).symm, by exact bel_⟩
        · go_wp2
          refine wp_region_ord [(0, .q), (1, .g), (2, .q), (3, .q), (4, .q), (5, .q), (6, .q), (7, .q), (8, .q), (9, .q), (10, .q), (11, .q), (12, .q), (13, .g), (14, .q), (15, .q), (16, .q)] (by kernel_rfl) (by kernel_rfl) ?_
          simp only [pick, List.filterMap_cons, List.filterMap_nil, List.getElem?_toArray, List.getElem?_cons_zero, List.getElem?_cons_succ, Option.map_some]
          repeat (first
            | ((with_reducible refine wpD_p (fun K hK => ?_)); go_simp; refine hK _ ?_; clear hK K)
            | ((with_reducible refine wpD_q (fun K hK => ?_)); go_simp; (first | refine hK _ ?_ | (go_bits; refine hK _ ?_) | (go_bits; go_simp; refine hK _ ?_)); clear hK K)
            | ((with_reducible refine wpD_g (fun K hK => ?_)); go_simp; refine hK _ _ ?_; clear hK K)
            | ((with_reducible refine wpD_g (fun K hK => ?_)); go_simp; refine ⟨Grew.of_alloc _, hK _ _ ?_⟩; clear hK K)
            | ((with_reducible refine wpD_g (fun K hK => ?_)); go_simp; go_at_call 66; refine (ValidPoint_any _ _ _).mono ?_; rintro e w1 ⟨rfl, hb1⟩; refine ⟨_, rfl, hb1, hK _ _ ?_⟩; clear hK K; obtain ⟨chb1, fhb1, shb1, thb1⟩ := bcell hb1; (try have bhb10 := shb1 (wr.heap.size) (by go_simp)); (try have bhb11 := shb1 (b) (by go_simp)))
            | ((with_reducible refine wpD_g (fun K hK => ?_)); go_simp; go_at_call 68; refine (LessPoint_any _ _ _ _ _).mono ?_; rintro e w2 ⟨rfl, hb2⟩; refine ⟨_, rfl, hb2, hK _ _ ?_⟩; clear hK K; obtain ⟨chb2, fhb2, shb2, thb2⟩ := bcell hb2; (try have bhb20 := shb2 (wr.heap.size) (by go_simp)); (try have bhb21 := shb2 (b) (by go_simp))))
          with_reducible refine wpD_nil ?_
          go_wp2
          go_roundg (n - (0 + 1))
          case measure => omega
          case rel => exact ⟨0 + 1, by omega, by go_num, Lib.hid fun j hj => (by obtain rfl : j = 0 := by omega
                                                                                 rw [HK.out, hv1]), by exact bel_⟩
      · obtain ⟨d, hd⟩ := h.get (k := i) (by omega)
        obtain ⟨d0, d1⟩ := hc i d hd
        have HK := Lib.hid (okPt_eqS he hd)
        have hi : i < n := by omega
        have hpos : (0 : Int) < (i : Int) + 1 := by omega
        clear he hc h' hd
        cases hv1 : validPt e.x e.y
        · go_wp2
          refine wp_region_ord [(0, .q), (1, .g), (2, .q), (3, .q), (4, .q), (5, .q), (6, .q), (7, .q), (8, .q), (9, .q), (10, .q), (11, .q), (12, .q), (13, .g), (14, .q), (15, .q), (16, .q)] (by kernel_rfl) (by kernel_rfl) ?_
          simp only [pick, List.filterMap_cons, List.filterMap_nil, List.getElem?_toArray, List.getElem?_cons_zero, List.getElem?_cons_succ, Option.map_some]
          repeat (first
            | ((with_reducible refine wpD_p (fun K hK => ?_)); go_simp; refine hK _ ?_; clear hK K)
            | ((with_reducible refine wpD_q (fun K hK => ?_)); go_simp; (first | refine hK _ ?_ | (go_bits; refine hK _ ?_) | (go_bits; go_simp; refine hK _ ?_)); clear hK K)
            | ((with_reducible refine wpD_g (fun K hK => ?_)); go_simp; refine hK _ _ ?_; clear hK K)
            | ((with_reducible refine wpD_g (fun K hK => ?_)); go_simp; refine ⟨Grew.of_alloc _, hK _ _ ?_⟩; clear hK K)
            | ((with_reducible refine wpD_g (fun K hK => ?_)); go_simp; go_at_call 66; refine (ValidPoint_any _ _ _).mono ?_; rintro e w1 ⟨rfl, hb1⟩; refine ⟨_, rfl, hb1, hK _ _ ?_⟩; clear hK K; obtain ⟨chb1, fhb1, shb1, thb1⟩ := bcell hb1; (try have bhb10 := shb1 (wr.heap.size) (by go_simp)); (try have bhb11 := shb1 (b) (by go_simp)))
            | ((with_reducible refine wpD_g (fun K hK => ?_)); go_simp; go_at_call 68; refine (LessPoint_any _ _ _ _ _).mono ?_; rintro e w2 ⟨rfl, hb2⟩; refine ⟨_, rfl, hb2, hK _ _ ?_⟩; clear hK K; obtain ⟨chb2, fhb2, shb2, thb2⟩ := bcell hb2; (try have bhb20 := shb2 (wr.heap.size) (by go_simp)); (try have bhb21 := shb2 (b) (by go_simp))))
          with_reducible refine wpD_nil ?_
          go_wp2
          go_ret
          exact ⟨ret_bool (shapeB_bad (k := i + 1) (by omega) (by rw [HK.out, hv1]; rfl)).symm, by exact bel_⟩
        · cases hv3 : lessPt d.x d.y e.x e.y
          · go_wp2
            refine wp_region_ord [(0, .q), (1, .g), (2, .q), (3, .q), (4, .q), (5, .q), (6, .q), (7, .q), (8, .q), (9, .q), (10, .q), (11, .q), (12, .q), (13, .g), (14, .q), (15, .q), (16, .q)] (by kernel_rfl) (by kernel_rfl) ?_
            simp only [pick, List.filterMap_cons, List.filterMap_nil, List.getElem?_toArray, List.getElem?_cons_zero, List.getElem?_cons_succ, Option.map_some]
            repeat (first
              | ((with_reducible refine wpD_p (fun K hK => ?_)); go_simp; refine hK _ ?_; clear hK K)
              | ((with_reducible refine wpD_q (fun K hK => ?_)); go_simp; (first | refine hK _ ?_ | (go_bits; refine hK _ ?_) | (go_bits; go_simp; refine hK _ ?_)); clear hK K)
              | ((with_reducible refine wpD_g (fun K hK => ?_)); go_simp; refine hK _ _ ?_; clear hK K)
              | ((with_reducible refine wpD_g (fun K hK => ?_)); go_simp; refine ⟨Grew.of_alloc _, hK _ _ ?_⟩; clear hK K)
              | ((with_reducible refine wpD_g (fun K hK => ?_)); go_simp; go_at_call 66; refine (ValidPoint_any _ _ _).mono ?_; rintro e w1 ⟨rfl, hb1⟩; refine ⟨_, rfl, hb1, hK _ _ ?_⟩; clear hK K; obtain ⟨chb1, fhb1, shb1, thb1⟩ := bcell hb1; (try have bhb10 := shb1 (wr.heap.size) (by go_simp)); (try have bhb11 := shb1 (b) (by go_simp)))
              | ((with_reducible refine wpD_g (fun K hK => ?_)); go_simp; go_at_call 68; refine (LessPoint_any _ _ _ _ _).mono ?_; rintro e w2 ⟨rfl, hb2⟩; refine ⟨_, rfl, hb2, hK _ _ ?_⟩; clear hK K; obtain ⟨chb2, fhb2, shb2, thb2⟩ := bcell hb2; (try have bhb20 := shb2 (wr.heap.size) (by go_simp)); (try have bhb21 := shb2 (b) (by go_simp))))
            with_reducible refine wpD_nil ?_
            go_wp2
            go_ret
            exact ⟨ret_bool (shapeB_bad (k := i + 1) (by omega) (by rw [HK.out, hv1, hv3]; rfl)).symm, by exact bel_⟩
          · go_wp2
            refine wp_region_ord [(0, .q), (1, .g), (2, .q), (3, .q), (4, .q), (5, .q), (6, .q), (7, .q), (8, .q), (9, .q), (10, .q), (11, .q), (12, .q), (13, .g), (14, .q), (15, .q), (16, .q)] (by kernel_rfl) (by kernel_rfl) ?_
            simp only [pick, List.filterMap_cons, List.filterMap_nil, List.getElem?_toArray, List.getElem?_cons_zero, List.getElem?_cons_succ, Option.map_some]
            repeat (first
              | ((with_reducible refine wpD_p (fun K hK => ?_)); go_simp; refine hK _ ?_; clear hK K)
              | ((with_reducible refine wpD_q (fun K hK => ?_)); go_simp; (first | refine hK _ ?_ | (go_bits; refine hK _ ?_) | (go_bits; go_simp; refine hK _ ?_)); clear hK K)
              | ((with_reducible refine wpD_g (fun K hK => ?_)); go_simp; refine hK _ _ ?_; clear hK K)
              | ((with_reducible refine wpD_g (fun K hK => ?_)); go_simp; refine ⟨Grew.of_alloc _, hK _ _ ?_⟩; clear hK K)
              | ((with_reducible refine wpD_g (fun K hK => ?_)); go_simp; go_at_call 66; refine (ValidPoint_any _ _ _).mono ?_; rintro e w1 ⟨rfl, hb1⟩; refine ⟨_, rfl, hb1, hK _ _ ?_⟩; clear hK K; obtain ⟨chb1, fhb1, shb1, thb1⟩ := bcell hb1; (try have bhb10 := shb1 (wr.heap.size) (by go_simp)); (try have bhb11 := shb1 (b) (by go_simp)))
              | ((with_reducible refine wpD_g (fun K hK => ?_)); go_simp; go_at_call 68; refine (LessPoint_any _ _ _ _ _).mono ?_; rintro e w2 ⟨rfl, hb2⟩; refine ⟨_, rfl, hb2, hK _ _ ?_⟩; clear hK K; obtain ⟨chb2, fhb2, shb2, thb2⟩ := bcell hb2; (try have bhb20 := shb2 (wr.heap.size) (by go_simp)); (try have bhb21 := shb2 (b) (by go_simp))))
            with_reducible refine wpD_nil ?_
            go_wp2
            go_roundg (n - ((i + 1) + 1))
            case measure => omega
            case rel => exact ⟨(i + 1) + 1, by omega, by go_num, Lib.hid fun j hj => (by
              rcases Nat.lt_succ_iff_lt_or_eq.1 hj with hj | rfl
              · exact hok.out j hj
              · rw [HK.out, hv1, hv3]; rfl), by exact bel_⟩
    · obtain rfl : k = n := by omega
      have hd := Lib.hid (shapeB_ok (ps := ps) (by rw [hla]; exact hok.out))
      go_wp2_with (go_at_call 49; refine (within_any _ _ _ _).mono ?_; rintro e _ ⟨rfl, rfl⟩)
      go_ret
      refine ⟨ret_bool ?_, by exact bel_⟩
      rw [hd.out, hla, Bool.eq_iff_iff, inB_true, decide_eq_true_eq]
      omega
set_option maxHeartbeats 4000000 in
theorem l04Ok_any (A : Option Addr) (n c : Nat) (ps : List Pt) (w : World) (h : RdSl 2 RPt w A n ps) (hn : n ≤ 1073741824) :
    Calls Try.prog 54 #[.slice A n c] w fun e w' => e = .returned (.bool (shapeB ps)) ∧ Below w.heap.size w w' := by
  
  have hla := h.len
  by_cases hz0 : n < 1
  · go_enter Try.func54, Try.ntmps54
    go_wp2
    go_ret
    exact ⟨ret_bool (shapeB_len (by omega)).symm, by exact bel_⟩
  by_cases hz1 : 500 < n
  · go_enter Try.func54, Try.ntmps54
    go_wp2
    go_ret
    exact ⟨ret_bool (shapeB_len (by omega)).symm, by exact bel_⟩
  go_enter Try.func54, Try.ntmps54
  go_wp2
  go_loopg [3] n (fun r x wr => ∃ k : Nat, k + r = n ∧ x = .int .i64 k ∧ Hid (∀ j, j < k → okPt ps j = true) ∧ Below w.heap.size w wr)
  case atStart => exact ⟨0, by omega, rfl, Lib.hid fun j hj => by omega, by exact bel_⟩
  case round =>
    obtain ⟨k, hk, rfl, hok, hbw⟩ := hrel
    have h' := h.below RPt.stable hbw
    have hszw := hbw.size
    by_cases hlt : k < n
    · obtain ⟨b, o, rfl, hb, hc⟩ := h'.ptr (by omega)
      obtain ⟨e, he⟩ := h.get hlt
      obtain ⟨c0, c1⟩ := hc k e he
      have hkz : k = 0 ∨ ∃ k', k = k' + 1 := by
        cases k with
        | zero => exact Or.inl rfl
        | succ k' => exact Or.inr ⟨k', rfl⟩
      rcases hkz with rfl | ⟨i, rfl⟩
      · have HK := Lib.hid (okPt_eq0 he)
        clear he hc h'
        simp only [Nat.zero_mul, Nat.add_zero] at c0 c1
        cases hv1 : validPt e.x e.y
        · go_wp2
          refine wp_region_ord [(0, .q), (1, .q), (2, .q), (3, .q), (4, .g), (5, .q), (6, .q), (7, .q), (8, .q), (9, .q), (10, .q), (11, .q), (12, .q), (13, .q), (14, .q), (15, .q), (16, .q), (17, .q), (18, .q), (19, .g), (20, .q), (21, .q), (22, .q)] (by kernel_rfl) (by kernel_rfl) ?_
          simp only [pick, List.filterMap_cons, List.filterMap_nil, List.getElem?_toArray, List.getElem?_cons_zero, List.getElem?_cons_succ, Option.map_some]
          repeat (first
            | ((with_reducible refine wpD_p (fun K hK => ?_)); go_simp; refine hK _ ?_; clear hK K)
            | ((with_reducible refine wpD_q (fun K hK => ?_)); go_simp; (first | refine hK _ ?_ | (go_bits; refine hK _ ?_) | (go_bits; go_simp; refine hK _ ?_)); clear hK K)
            | ((with_reducible refine wpD_g (fun K hK => ?_)); go_simp; refine hK _ _ ?_; clear hK K)
            | ((with_reducible refine wpD_g (fun K hK => ?_)); go_simp; refine ⟨Grew.of_alloc _, hK _ _ ?_⟩; clear hK K)
            | ((with_reducible refine wpD_g (fun K hK => ?_)); go_simp; go_at_call 38; refine (l01Point_any _ _ _).mono ?_; rintro e w1 ⟨rfl, hb1⟩; refine ⟨_, rfl, hb1, hK _ _ ?_⟩; clear hK K; obtain ⟨chb1, fhb1, shb1, thb1⟩ := bcell hb1; (try have bhb10 := shb1 (b) (by go_simp)))
            | ((with_reducible refine wpD_g (fun K hK => ?_)); go_simp; go_at_call 43; refine (sLessPoint_any _ _ _ _ _).mono ?_; rintro e w2 ⟨rfl, hb2⟩; refine ⟨_, rfl, hb2, hK _ _ ?_⟩; clear hK K; obtain ⟨chb2, fhb2, shb2, thb2⟩ := bcell hb2; (try have bhb20 := shb2 (b) (by go_simp))))
          with_reducible refine wpD_nil ?_
          go_wp2
          go_ret
          exact ⟨ret_bool (shapeB_bad (k := 0) (by omega) (by rw [HK.out, hv1])).symm, by exact bel_⟩
        · go_wp2
          refine wp_region_ord [(0, .q), (1, .q), (2, .q), (3, .q), (4, .g), (5, .q), (6, .q), (7, .q), (8, .q), (9, .q), (10, .q), (11, .q), (12, .q), (13, .q), (14, .q), (15, .q), (16, .q), (17, .q), (18, .q), (19, .g), (20, .q), (21, .q), (22, .q)] (by kernel_rfl) (by kernel_rfl) ?_
          simp only [pick, List.filterMap_cons, List.filterMap_nil, List.getElem?_toArray, List.getElem?_cons_zero, List.getElem?_cons_succ, Option.map_some]
          repeat (first
            | ((with_reducible refine wpD_p (fun K hK => ?_)); go_simp; refine hK _ ?_; clear hK K)
            | ((with_reducible refine wpD_q (fun K hK => ?_)); go_simp; (first | refine hK _ ?_ | (go_bits; refine hK _ ?_) | (go_bits; go_simp; refine hK _ ?_)); clear hK K)
            | ((with_reducible refine wpD_g (fun K hK => ?_)); go_simp; refine hK _ _ ?_; clear hK K)
            | ((with_reducible refine wpD_g (fun K hK => ?_)); go_simp; refine ⟨Grew.of_alloc _, hK _ _ ?_⟩; clear hK K)
            | ((with_reducible refine wpD_g (fun K hK => ?_)); go_simp; go_at_call 38; refine (l01Point_any _ _ _).mono ?_; rintro e w1 ⟨rfl, hb1⟩; refine ⟨_, rfl, hb1, hK _ _ ?_⟩; clear hK K; obtain ⟨chb1, fhb1, shb1, thb1⟩ := bcell hb1; (try have bhb10 := shb1 (b) (by go_simp)))
            | ((with_reducible refine wpD_g (fun K hK => ?_)); go_simp; go_at_call 43; refine (sLessPoint_any _ _ _ _ _).mono ?_; rintro e w2 ⟨rfl, hb2⟩; refine ⟨_, rfl, hb2, hK _ _ ?_⟩; clear hK K; obtain ⟨chb2, fhb2, shb2, thb2⟩ := bcell hb2; (try have bhb20 := shb2 (b) (by go_simp))))
          with_reducible refine wpD_nil ?_
          go_wp2
          go_roundg (n - (0 + 1))
          case measure => omega
          case rel => exact ⟨0 + 1, by omega, by go_num, Lib.hid fun j hj => (by obtain rfl : j = 0 := by omega
                                                                                 rw [HK.out, hv1]), by exact bel_⟩
      · obtain ⟨d, hd⟩ := h.get (k := i) (by omega)
        obtain ⟨d0, d1⟩ := hc i d hd
        have HK := Lib.hid (okPt_eqS he hd)
        have hi : i < n := by omega
        have hpos : (0 : Int) < (i : Int) + 1 := by omega
        have hltI : ((i : Int) + 1) < (n : Int) := by omega
        have h0I : 0 ≤ ((i : Int) + 1) := by omega
        clear he hc h' hd
        cases hv1 : validPt e.x e.y
        · go_wp2
          refine wp_region_ord [(0, .q), (1, .q), (2, .q), (3, .q), (4, .g), (5, .q), (6, .q), (7, .q), (8, .q), (9, .q), (10, .q), (11, .q), (12, .q), (13, .q), (14, .q), (15, .q), (16, .q), (17, .q), (18, .q), (19, .g), (20, .q), (21, .q), (22, .q)] (by kernel_rfl) (by kernel_rfl) ?_
          simp only [pick, List.filterMap_cons, List.filterMap_nil, List.getElem?_toArray, List.getElem?_cons_zero, List.getElem?_cons_succ, Option.map_some]
          repeat (first
            | ((with_reducible refine wpD_p (fun K hK => ?_)); go_simp; refine hK _ ?_; clear hK K)
            | ((with_reducible refine wpD_q (fun K hK => ?_)); go_simp; (first | refine hK _ ?_ | (go_bits; refine hK _ ?_) | (go_bits; go_simp; refine hK _ ?_)); clear hK K)
            | ((with_reducible refine wpD_g (fun K hK => ?_)); go_simp; refine hK _ _ ?_; clear hK K)
            | ((with_reducible refine wpD_g (fun K hK => ?_)); go_simp; refine ⟨Grew.of_alloc _, hK _ _ ?_⟩; clear hK K)
            | ((with_reducible refine wpD_g (fun K hK => ?_)); go_simp; go_at_call 38; refine (l01Point_any _ _ _).mono ?_; rintro e w1 ⟨rfl, hb1⟩; refine ⟨_, rfl, hb1, hK _ _ ?_⟩; clear hK K; obtain ⟨chb1, fhb1, shb1, thb1⟩ := bcell hb1; (try have bhb10 := shb1 (b) (by go_simp)))
            | ((with_reducible refine wpD_g (fun K hK => ?_)); go_simp; go_at_call 43; refine (sLessPoint_any _ _ _ _ _).mono ?_; rintro e w2 ⟨rfl, hb2⟩; refine ⟨_, rfl, hb2, hK _ _ ?_⟩; clear hK K; obtain ⟨chb2, fhb2, shb2, thb2⟩ := bcell hb2; (try have bhb20 := shb2 (b) (by go_simp))))
          with_reducible refine wpD_nil ?_
          go_wp2
          go_ret
          exact ⟨ret_bool (shapeB_bad (k := i + 1) (by omega) (by rw [HK.out, hv1]; rfl)).symm, by exact bel_⟩
        · cases hv3 : lessPt d.x d.y e.x e.y
          · go_wp2
            refine wp_region_ord [(0, .q), (1, .q), (2, .q), (3, .q), (4, .g), (5, .q), (6, .q), (7, .q), (8, .q), (9, .q), (10, .q), (11, .q), (12, .q), (13, .q), (14, .q), (15, .q), (16, .q), (17, .q), (18, .q), (19, .g), (20, .q), (21, .q), (22, .q)] (by kernel_rfl) (by kernel_rfl) ?_
            simp only [pick, List.filterMap_cons, List.filterMap_nil, List.getElem?_toArray, List.getElem?_cons_zero, List.getElem?_cons_succ, Option.map_some]
            repeat (first
              | ((with_reducible refine wpD_p (fun K hK => ?_)); go_simp; refine hK _ ?_; clear hK K)
              | ((with_reducible refine wpD_q (fun K hK => ?_)); go_simp; (first | refine hK _ ?_ | (go_bits; refine hK _ ?_) | (go_bits; go_simp; refine hK _ ?_)); clear hK K)
              | ((with_reducible refine wpD_g (fun K hK => ?_)); go_simp; refine hK _ _ ?_; clear hK K)
              | ((with_reducible refine wpD_g (fun K hK => ?_)); go_simp; refine ⟨Grew.of_alloc _, hK _ _ ?_⟩; clear hK K)
              | ((with_reducible refine wpD_g (fun K hK => ?_)); go_simp; go_at_call 38; refine (l01Point_any _ _ _).mono ?_; rintro e w1 ⟨rfl, hb1⟩; refine ⟨_, rfl, hb1, hK _ _ ?_⟩; clear hK K; obtain ⟨chb1, fhb1, shb1, thb1⟩ := bcell hb1; (try have bhb10 := shb1 (b) (by go_simp)); have q0 := (hb1.cell (p := ⟨b, o + i * 2, none⟩) hb).trans d0; have q1 := (hb1.cell (p := ⟨b, o + i * 2 + 1, none⟩) hb).trans d1; have q2 := (hb1.cell (p := ⟨b, o + (i + 1) * 2, none⟩) hb).trans c0; have q3 := (hb1.cell (p := ⟨b, o + (i + 1) * 2 + 1, none⟩) hb).trans c1)
              | ((with_reducible refine wpD_g (fun K hK => ?_)); go_simp; go_at_call 43; refine (sLessPoint_any _ _ _ _ _).mono ?_; rintro e w2 ⟨rfl, hb2⟩; refine ⟨_, rfl, hb2, hK _ _ ?_⟩; clear hK K; obtain ⟨chb2, fhb2, shb2, thb2⟩ := bcell hb2; (try have bhb20 := shb2 (b) (by go_simp))))
            with_reducible refine wpD_nil ?_
            go_wp2
            go_ret
            exact ⟨ret_bool (shapeB_bad (k := i + 1) (by omega) (by rw [HK.out, hv1, hv3]; rfl)).symm, by exact bel_⟩
          · go_wp2
            refine wp_region_ord [(0, .q), (1, .q), (2, .q), (3, .q), (4, .g), (5, .q), (6, .q), (7, .q), (8, .q), (9, .q), (10, .q), (11, .q), (12, .q), (13, .q), (14, .q), (15, .q), (16, .q), (17, .q), (18, .q), (19, .g), (20, .q), (21, .q), (22, .q)] (by kernel_rfl) (by kernel_rfl) ?_
            simp only [pick, List.filterMap_cons, List.filterMap_nil, List.getElem?_toArray, List.getElem?_cons_zero, List.getElem?_cons_succ, Option.map_some]
            repeat (first
              | ((with_reducible refine wpD_p (fun K hK => ?_)); go_simp; refine hK _ ?_; clear hK K)
              | ((with_reducible refine wpD_q (fun K hK => ?_)); go_simp; (first | refine hK _ ?_ | (go_bits; refine hK _ ?_) | (go_bits; go_simp; refine hK _ ?_)); clear hK K)
              | ((with_reducible refine wpD_g (fun K hK => ?_)); go_simp; refine hK _ _ ?_; clear hK K)
              | ((with_reducible refine wpD_g (fun K hK => ?_)); go_simp; refine ⟨Grew.of_alloc _, hK _ _ ?_⟩; clear hK K)
              | ((with_reducible refine wpD_g (fun K hK => ?_)); go_simp; go_at_call 38; refine (l01Point_any _ _ _).mono ?_; rintro e w1 ⟨rfl, hb1⟩; refine ⟨_, rfl, hb1, hK _ _ ?_⟩; clear hK K; obtain ⟨chb1, fhb1, shb1, thb1⟩ := bcell hb1; (try have bhb10 := shb1 (b) (by go_simp)); have q0 := (hb1.cell (p := ⟨b, o + i * 2, none⟩) hb).trans d0; have q1 := (hb1.cell (p := ⟨b, o + i * 2 + 1, none⟩) hb).trans d1; have q2 := (hb1.cell (p := ⟨b, o + (i + 1) * 2, none⟩) hb).trans c0; have q3 := (hb1.cell (p := ⟨b, o + (i + 1) * 2 + 1, none⟩) hb).trans c1)
              | ((with_reducible refine wpD_g (fun K hK => ?_)); go_simp; go_at_call 43; refine (sLessPoint_any _ _ _ _ _).mono ?_; rintro e w2 ⟨rfl, hb2⟩; refine ⟨_, rfl, hb2, hK _ _ ?_⟩; clear hK K; obtain ⟨chb2, fhb2, shb2, thb2⟩ := bcell hb2; (try have bhb20 := shb2 (b) (by go_simp))))
            with_reducible refine wpD_nil ?_
            go_wp2
            go_roundg (n - ((i + 1) + 1))
            case measure => omega
            case rel => exact ⟨(i + 1) + 1, by omega, by go_num, Lib.hid fun j hj => (by
              rcases Nat.lt_succ_iff_lt_or_eq.1 hj with hj | rfl
              · exact hok.out j hj
              · rw [HK.out, hv1, hv3]; rfl), by exact bel_⟩
    · obtain rfl : k = n := by omega
      have hd := Lib.hid (shapeB_ok (ps := ps) (by rw [hla]; exact hok.out))
      go_wp2
      go_ret
      refine ⟨ret_bool ?_, by exact bel_⟩
      rw [hd.out, hla]
      exact (decide_eq_true (by omega)).symm
/-- one connected part -/
def oneB (ps : List Pt) : Bool := decide ((allP (nbP ps) ps.length ps.length).2.length = 1)
end Go.Proofs.Ytpnahobgmemdjaa
/- Walks: the reference on assemblies: valid, index, neighbors, bonds' strengths. -/

namespace Go.Proofs.Ytpnahobgmemdjaa
open Go.RowKit
attribute [local go_sem] BelowBy.cell BelowBy.cell_drew stillUpon givesUpon
def codeB (b : Bool) : Int := if b then 0 else 1
theorem sLessPoint_at {ax ay bx b_y : Int} {v : Bool} {w : World} (h : lessPt ax ay bx b_y = v) :
    Calls Try.prog 43 #[.agg #[.int .i64 ax, .int .i64 ay], .agg #[.int .i64 bx, .int .i64 b_y]] w fun e w' => e = .returned (.bool v) ∧ Below w.heap.size w w' := by
  rw [← h]; exact sLessPoint_any _ _ _ _ _
set_option maxHeartbeats 2000000 in
theorem l03Index_any {op : Nat} (p : Nat) (gs : List Gl) (ts : List Ti) (xs : List Pl) (x y : Int) (w : World) (ha : AsmAt w p op xs) (hV : Valid gs ts xs) :
    Calls Try.prog 64 #[.pointer (some ⟨p, op, none⟩), .agg #[.int .i64 x, .int .i64 y]] w fun e w' => e = .returned (.int .i64 (placeI xs x y)) ∧ Below w.heap.size w w' := by
  obtain ⟨hlt, ⟨A, n, c, h1, h2⟩⟩ := id ha
  have hl := h2.len
  have h5 := hV.len
  
  go_enter Try.func64, Try.ntmps64
  go_wp2
  go_loopg [5, 6] n (fun g lo hi wr => ∃ i j : Nat, j - i ≤ g ∧ i ≤ j ∧ j ≤ n ∧ lo = .int .i64 i ∧ hi = .int .i64 j ∧ (∀ (k : Nat) (d : Pl), k < i → xs[k]? = some d → lessPt d.x d.y x y = true) ∧ (∀ (k : Nat) (d : Pl), j ≤ k → xs[k]? = some d → lessPt d.x d.y x y = false) ∧
    Below w.heap.size w wr ∧ wr.cell? ⟨w.heap.size, 0, none⟩ = some (.int .i64 x) ∧ wr.cell? ⟨w.heap.size, 1, none⟩ = some (.int .i64 y) ∧ w.heap.size < wr.heap.size)
  case atStart => exact ⟨0, n, by omega, by omega, by omega, rfl, rfl, fun k d hk => by omega, fun k d hk hd => by have := lt_of_get hd; omega, by exact bel_, by go_simp, by go_simp, by simp⟩
  case round =>
    obtain ⟨i, j, hg, hij, hjn, rfl, rfl, hloX, hhiX, hbw, hx0, hx1, hsz⟩ := hrel
    have hlo := Lib.hid hloX
    have hhi := Lib.hid hhiX
    clear hloX hhiX
    obtain ⟨plt, ⟨A', n', c', g1, g2⟩⟩ := ha.below hbw
    obtain rfl : n' = n := by rw [← g2.len]; exact hl
    by_cases hlt2 : i < j
    · obtain ⟨b, o, rfl, hb, hc⟩ := g2.ptr (by omega)
      obtain ⟨m, hm⟩ : ∃ m : Nat, m = (i + j) / 2 := ⟨_, rfl⟩
      have hm1 : i ≤ m := by omega
      have hm2 : m < j := by omega
      have hmi : ((i : Int) + (j : Int)) / 2 = (m : Int) := by omega
      have hmn : m < n' := by omega
      clear hm
      obtain ⟨e, he⟩ := g2.get (k := m) (by omega)
      obtain ⟨c0, c1, c2⟩ := hc m e he
      have he := Lib.hid he
      clear hc g2
      cases hl4 : lessPt e.x e.y x y
      · go_wp2
        refine wp_region_ord [(0, .q), (1, .q), (2, .q), (3, .q), (4, .q), (5, .q), (6, .q), (7, .q), (8, .q), (9, .g)] (by kernel_rfl) (by kernel_rfl) ?_
        simp only [pick, List.filterMap_cons, List.filterMap_nil, List.getElem?_toArray, List.getElem?_cons_zero, List.getElem?_cons_succ, Option.map_some]
        repeat (first
          | ((with_reducible refine wpD_p (fun K hK => ?_)); go_simp; refine hK _ ?_; clear hK K)
          | ((with_reducible refine wpD_q (fun K hK => ?_)); go_simp; (first | refine hK _ ?_ | (go_bits; refine hK _ ?_) | (go_bits; go_simp; refine hK _ ?_)); clear hK K)
          | ((with_reducible refine wpD_g (fun K hK => ?_)); go_simp; refine hK _ _ ?_; clear hK K)
          | ((with_reducible refine wpD_g (fun K hK => ?_)); go_simp; refine ⟨Grew.of_alloc _, hK _ _ ?_⟩; clear hK K)
          | ((with_reducible refine wpD_g (fun K hK => ?_)); go_simp; go_at_call 43; refine (sLessPoint_at hl4).mono ?_; rintro e w1 ⟨rfl, hb1⟩; refine ⟨_, rfl, hb1, hK _ _ ?_⟩; clear hK K; obtain ⟨chb1, fhb1, shb1, thb1⟩ := bcell hb1))
        with_reducible refine wpD_nil ?_
        go_wp2
        go_roundg (m - i)
        case measure => omega
        case rel => exact ⟨i, m, by omega, hm1, by omega, rfl, rfl, hlo.out, fun k d hk hd => (by
            rcases Nat.lt_or_ge m k with hmk | hmk
            · cases hh : lessPt d.x d.y x y with
              | false => rfl
              | true => rw [← hl4]; exact (lessPt_trans (hV.sorted m k e d hmk he.out hd) hh).symm
            · obtain rfl : m = k := by omega
              rw [he.out] at hd
              obtain rfl := Option.some.inj hd
              exact hl4), by exact bel_, (hb1.cell (p := ⟨w.heap.size, 0, none⟩) hsz).trans hx0, (hb1.cell (p := ⟨w.heap.size, 1, none⟩) hsz).trans hx1, Nat.lt_of_lt_of_le hsz hb1.size⟩
      · go_wp2
        refine wp_region_ord [(0, .q), (1, .q), (2, .q), (3, .q), (4, .q), (5, .q), (6, .q), (7, .q), (8, .q), (9, .g)] (by kernel_rfl) (by kernel_rfl) ?_
        simp only [pick, List.filterMap_cons, List.filterMap_nil, List.getElem?_toArray, List.getElem?_cons_zero, List.getElem?_cons_succ, Option.map_some]
        repeat (first
          | ((with_reducible refine wpD_p (fun K hK => ?_)); go_simp; refine hK _ ?_; clear hK K)
          | ((with_reducible refine wpD_q (fun K hK => ?_)); go_simp; (first | refine hK _ ?_ | (go_bits; refine hK _ ?_) | (go_bits; go_simp; refine hK _ ?_)); clear hK K)
          | ((with_reducible refine wpD_g (fun K hK => ?_)); go_simp; refine hK _ _ ?_; clear hK K)
          | ((with_reducible refine wpD_g (fun K hK => ?_)); go_simp; refine ⟨Grew.of_alloc _, hK _ _ ?_⟩; clear hK K)
          | ((with_reducible refine wpD_g (fun K hK => ?_)); go_simp; go_at_call 43; refine (sLessPoint_at hl4).mono ?_; rintro e w1 ⟨rfl, hb1⟩; refine ⟨_, rfl, hb1, hK _ _ ?_⟩; clear hK K; obtain ⟨chb1, fhb1, shb1, thb1⟩ := bcell hb1))
        with_reducible refine wpD_nil ?_
        go_wp2
        go_roundg (j - (m + 1))
        case measure => omega
        case rel => exact ⟨m + 1, j, by omega, hm2, by omega, by go_num, rfl, fun k d hk hd => (by
            rcases Nat.lt_or_ge k m with hmk | hmk
            · exact lessPt_trans (hV.sorted k m d e hmk hd he.out) hl4
            · obtain rfl : m = k := by omega
              rw [he.out] at hd
              obtain rfl := Option.some.inj hd
              exact hl4), hhi.out, by exact bel_, (hb1.cell (p := ⟨w.heap.size, 0, none⟩) hsz).trans hx0, (hb1.cell (p := ⟨w.heap.size, 1, none⟩) hsz).trans hx1, Nat.lt_of_lt_of_le hsz hb1.size⟩
    · obtain rfl : i = j := by omega
      by_cases hin : i < n'
      · obtain ⟨b, o, rfl, hb, hc⟩ := g2.ptr (by omega)
        obtain ⟨e, he⟩ := g2.get (k := i) (by omega)
        obtain ⟨c0, c1, c2⟩ := hc i e he
        have he := Lib.hid he
        clear hc g2
        by_cases hxy : e.x = x ∧ e.y = y
        · obtain ⟨hx, hy⟩ := hxy
          have hP := Lib.hid (IsPlace.eq hV (place_found he.out hx hy))
          subst hx hy
          go_wp2
          refine wp_region_ord [(0, .q), (1, .q), (2, .q), (3, .q), (4, .q), (5, .q), (6, .q), (7, .q), (8, .q), (9, .q), (10, .q), (11, .q), (12, .q), (13, .q), (14, .q), (15, .q), (16, .q), (17, .q), (18, .q)] (by kernel_rfl) (by kernel_rfl) ?_
          simp only [pick, List.filterMap_cons, List.filterMap_nil, List.getElem?_toArray, List.getElem?_cons_zero, List.getElem?_cons_succ, Option.map_some]
          repeat (first
            | ((with_reducible refine wpD_p (fun K hK => ?_)); go_simp; refine hK _ ?_; clear hK K)
            | ((with_reducible refine wpD_q (fun K hK => ?_)); go_simp; (first | refine hK _ ?_ | (go_bits; refine hK _ ?_) | (go_bits; go_simp; refine hK _ ?_)); clear hK K)
            | ((with_reducible refine wpD_g (fun K hK => ?_)); go_simp; refine hK _ _ ?_; clear hK K)
            | ((with_reducible refine wpD_g (fun K hK => ?_)); go_simp; refine ⟨Grew.of_alloc _, hK _ _ ?_⟩; clear hK K))
          with_reducible refine wpD_nil ?_
          go_wp2
          go_ret
          exact ⟨ret_int hP.out, by exact bel_⟩
        · have hP := Lib.hid (IsPlace.eq hV (place_none hV hlo.out hhi.out (fun d hd => by rw [he.out] at hd; obtain rfl := Option.some.inj hd; exact hxy)))
          by_cases hx : e.x = x
          · have hy : ¬ e.y = y := fun h => hxy ⟨hx, h⟩
            subst hx
            have hy' : (e.y == y) = false := by simpa using hy
            go_wp2
            refine wp_region_ord [(0, .q), (1, .q), (2, .q), (3, .q), (4, .q), (5, .q), (6, .q), (7, .q), (8, .q), (9, .q), (10, .q), (11, .q), (12, .q), (13, .q), (14, .q), (15, .q), (16, .q), (17, .q), (18, .q)] (by kernel_rfl) (by kernel_rfl) ?_
            simp only [pick, List.filterMap_cons, List.filterMap_nil, List.getElem?_toArray, List.getElem?_cons_zero, List.getElem?_cons_succ, Option.map_some]
            repeat (first
              | ((with_reducible refine wpD_p (fun K hK => ?_)); go_simp; refine hK _ ?_; clear hK K)
              | ((with_reducible refine wpD_q (fun K hK => ?_)); go_simp; (first | refine hK _ ?_ | (go_bits; refine hK _ ?_) | (go_bits; go_simp; refine hK _ ?_)); clear hK K)
              | ((with_reducible refine wpD_g (fun K hK => ?_)); go_simp; refine hK _ _ ?_; clear hK K)
              | ((with_reducible refine wpD_g (fun K hK => ?_)); go_simp; refine ⟨Grew.of_alloc _, hK _ _ ?_⟩; clear hK K))
            with_reducible refine wpD_nil ?_
            go_wp2
            go_ret
            exact ⟨ret_int hP.out, by exact bel_⟩
          · have hx' : (e.x == x) = false := by simpa using hx
            go_wp2
            refine wp_region_ord [(0, .q), (1, .q), (2, .q), (3, .q), (4, .q), (5, .q), (6, .q), (7, .q), (8, .q), (9, .q), (10, .q), (11, .q), (12, .q), (13, .q), (14, .q), (15, .q), (16, .q), (17, .q), (18, .q)] (by kernel_rfl) (by kernel_rfl) ?_
            simp only [pick, List.filterMap_cons, List.filterMap_nil, List.getElem?_toArray, List.getElem?_cons_zero, List.getElem?_cons_succ, Option.map_some]
            repeat (first
              | ((with_reducible refine wpD_p (fun K hK => ?_)); go_simp; refine hK _ ?_; clear hK K)
              | ((with_reducible refine wpD_q (fun K hK => ?_)); go_simp; (first | refine hK _ ?_ | (go_bits; refine hK _ ?_) | (go_bits; go_simp; refine hK _ ?_)); clear hK K)
              | ((with_reducible refine wpD_g (fun K hK => ?_)); go_simp; refine hK _ _ ?_; clear hK K)
              | ((with_reducible refine wpD_g (fun K hK => ?_)); go_simp; refine ⟨Grew.of_alloc _, hK _ _ ?_⟩; clear hK K))
            with_reducible refine wpD_nil ?_
            go_wp2
            go_ret
            exact ⟨ret_int hP.out, by exact bel_⟩
      · have hP := Lib.hid (IsPlace.eq hV (place_none hV hlo.out hhi.out (fun d hd => by have := lt_of_get hd; omega)))
        clear g2
        go_wp2
        refine wp_region_ord [(0, .q), (1, .q), (2, .q), (3, .q), (4, .q), (5, .q), (6, .q), (7, .q), (8, .q), (9, .q), (10, .q), (11, .q), (12, .q), (13, .q), (14, .q), (15, .q), (16, .q), (17, .q), (18, .q)] (by kernel_rfl) (by kernel_rfl) ?_
        simp only [pick, List.filterMap_cons, List.filterMap_nil, List.getElem?_toArray, List.getElem?_cons_zero, List.getElem?_cons_succ, Option.map_some]
        repeat (first
          | ((with_reducible refine wpD_p (fun K hK => ?_)); go_simp; refine hK _ ?_; clear hK K)
          | ((with_reducible refine wpD_q (fun K hK => ?_)); go_simp; (first | refine hK _ ?_ | (go_bits; refine hK _ ?_) | (go_bits; go_simp; refine hK _ ?_)); clear hK K)
          | ((with_reducible refine wpD_g (fun K hK => ?_)); go_simp; refine hK _ _ ?_; clear hK K)
          | ((with_reducible refine wpD_g (fun K hK => ?_)); go_simp; refine ⟨Grew.of_alloc _, hK _ _ ?_⟩; clear hK K))
        with_reducible refine wpD_nil ?_
        go_wp2
        go_ret
        exact ⟨ret_int hP.out, by exact bel_⟩
end Go.Proofs.Ytpnahobgmemdjaa
/- Walks: the reference looks for a point in an assembly and in a shape, by places. -/


namespace Go.Proofs.Ytpnahobgmemdjaa
open Go.RowKit Go.Shelf
attribute [local go_sem] BelowBy.cell BelowBy.cell_drew stillUpon givesUpon

def plPt (e : Pl) : Pt := ⟨e.x, e.y⟩
/-- the place of a point, or -1 -/
def idxI (ps : List Pt) (x y : Int) : Int := match idxP ps x y with
  | some v => (v : Int)
  | none => -1
theorem idxI_yes {ps : List Pt} (hS : Shp ps) {i : Nat} {e : Pt} (he : ps[i]? = some e) : (i : Int) = idxI ps e.x e.y := by
  unfold idxI; rw [hS.idx he]
theorem idxI_no {ps : List Pt} {x y : Int} {i : Nat} (h1 : ∀ (k : Nat) (d : Pt), k < i → ps[k]? = some d → lessPt d.x d.y x y = true) (h2 : ∀ (k : Nat) (d : Pt), i ≤ k → ps[k]? = some d → lessPt d.x d.y x y = false) (hS : Shp ps)
    (h3 : ∀ (d : Pt), ps[i]? = some d → ¬ (d.x = x ∧ d.y = y)) : (-1 : Int) = idxI ps x y := by
  unfold idxI
  cases hi : idxP ps x y with
  | none => rfl
  | some v =>
    exfalso
    have hv := idxP_some hi
    rcases Nat.lt_trichotomy v i with h | h | h
    · have := h1 v _ h hv
      rw [lessPt_irrefl] at this
      cases this
    · subst h
      exact h3 _ hv ⟨rfl, rfl⟩
    · obtain ⟨d, hd⟩ : ∃ d, ps[i]? = some d := ⟨_, List.getElem?_eq_getElem (by have := lt_of_get hv; omega)⟩
      have h4 := hS.sorted i v d _ h hd hv
      have h5 := h2 i d (Nat.le_refl _) hd
      simp only at h4
      rw [h5] at h4
      cases h4
theorem Shp.less_of_less {ps : List Pt} (hS : Shp ps) {x y : Int} {m k : Nat} {d e : Pt} (he : ps[m]? = some e) (hd : ps[k]? = some d) (h : lessPt e.x e.y x y = true) (hk : k ≤ m) : lessPt d.x d.y x y = true := by
  rcases Nat.lt_or_ge k m with hmk | hmk
  · exact lessPt_trans (hS.sorted k m d e hmk hd he) h
  · obtain rfl : k = m := by omega
    rw [he] at hd
    obtain rfl := Option.some.inj hd
    exact h
theorem Shp.not_less {ps : List Pt} (hS : Shp ps) {x y : Int} {m k : Nat} {d e : Pt} (he : ps[m]? = some e) (hd : ps[k]? = some d) (h : lessPt e.x e.y x y = false) (hk : m ≤ k) : lessPt d.x d.y x y = false := by
  rcases Nat.lt_or_ge m k with hmk | hmk
  · cases hh : lessPt d.x d.y x y with
    | false => rfl
    | true => rw [← h]; exact (lessPt_trans (hS.sorted m k e d hmk he hd) hh).symm
  · obtain rfl : m = k := by omega
    rw [he] at hd
    obtain rfl := Option.some.inj hd
    exact h
theorem plPt_get {xs : List Pl} {k : Nat} {e : Pl} (h : xs[k]? = some e) : (xs.map plPt)[k]? = some ⟨e.x, e.y⟩ := by
  rw [List.getElem?_map, h]; rfl
set_option maxHeartbeats 2000000 in
theorem l03IndexS_any {op : Nat} (p : Nat) (xs : List Pl) (x y : Int) (w : World) (ha : AsmAt w p op xs) (hS : Shp (xs.map plPt)) (h5 : xs.length ≤ 100000) :
    Calls Try.prog 64 #[.pointer (some ⟨p, op, none⟩), .agg #[.int .i64 x, .int .i64 y]] w fun e w' => e = .returned (.int .i64 (idxI (xs.map plPt) x y)) ∧ Below w.heap.size w w' := by
  obtain ⟨hlt, ⟨A, n, c, h1, h2⟩⟩ := id ha
  have hl := h2.len
  obtain ⟨ps, hps⟩ : ∃ ps, xs.map plPt = ps := ⟨_, rfl⟩
  have hget := Lib.hid (fun (k : Nat) (e : Pl) (h : xs[k]? = some e) => (hps ▸ plPt_get h : ps[k]? = some ⟨e.x, e.y⟩))
  have hlp : ps.length = n := by rw [← hps]; simpa using hl
  rw [hps] at hS ⊢
  clear hps
  
  go_enter Try.func64, Try.ntmps64
  go_wp2
  go_loopg [5, 6] n (fun g lo hi wr => ∃ i j : Nat, j - i ≤ g ∧ i ≤ j ∧ j ≤ n ∧ lo = .int .i64 i ∧ hi = .int .i64 j ∧ Hid (∀ (k : Nat) (d : Pt), k < i → ps[k]? = some d → lessPt d.x d.y x y = true) ∧ Hid (∀ (k : Nat) (d : Pt), j ≤ k → ps[k]? = some d → lessPt d.x d.y x y = false) ∧
    Below w.heap.size w wr ∧ wr.cell? ⟨w.heap.size, 0, none⟩ = some (.int .i64 x) ∧ wr.cell? ⟨w.heap.size, 1, none⟩ = some (.int .i64 y) ∧ w.heap.size < wr.heap.size)
  case atStart => exact ⟨0, n, by omega, by omega, by omega, rfl, rfl, Lib.hid fun k d hk => by omega, Lib.hid fun k d hk hd => by have := lt_of_get hd; omega, by exact bel_, by go_simp, by go_simp, by simp⟩
  case round =>
    obtain ⟨i, j, hg, hij, hjn, rfl, rfl, hlo, hhi, hbw, hx0, hx1, hsz⟩ := hrel
    obtain ⟨plt, ⟨A', n', c', g1, g2⟩⟩ := ha.below hbw
    obtain rfl : n' = n := by rw [← g2.len]; exact hl
    by_cases hlt2 : i < j
    · obtain ⟨b, o, rfl, hb, hc⟩ := g2.ptr (by omega)
      obtain ⟨m, hm⟩ : ∃ m : Nat, m = (i + j) / 2 := ⟨_, rfl⟩
      have hm1 : i ≤ m := by omega
      have hm2 : m < j := by omega
      have hmi : ((i : Int) + (j : Int)) / 2 = (m : Int) := by omega
      have hmn : m < n' := by omega
      clear hm
      obtain ⟨e, he0⟩ := g2.get (k := m) (by omega)
      obtain ⟨c0, c1, c2⟩ := hc m e he0
      have he := Lib.hid (hget.out m e he0)
      clear hc g2 he0
      cases hl4 : lessPt e.x e.y x y
      · go_wp2
        refine wp_region_ord [(0, .q), (1, .q), (2, .q), (3, .q), (4, .q), (5, .q), (6, .q), (7, .q), (8, .q), (9, .g)] (by kernel_rfl) (by kernel_rfl) ?_
        simp only [pick, List.filterMap_cons, List.filterMap_nil, List.getElem?_toArray, List.getElem?_cons_zero, List.getElem?_cons_succ, Option.map_some]
        repeat (first
          | ((with_reducible refine wpD_p (fun K hK => ?_)); go_simp; refine hK _ ?_; clear hK K)
          | ((with_reducible refine wpD_q (fun K hK => ?_)); go_simp; (first | refine hK _ ?_ | (go_bits; refine hK _ ?_) | (go_bits; go_simp; refine hK _ ?_)); clear hK K)
          | ((with_reducible refine wpD_g (fun K hK => ?_)); go_simp; refine hK _ _ ?_; clear hK K)
          | ((with_reducible refine wpD_g (fun K hK => ?_)); go_simp; refine ⟨Grew.of_alloc _, hK _ _ ?_⟩; clear hK K)
          | ((with_reducible refine wpD_g (fun K hK => ?_)); go_simp; go_at_call 43; refine (sLessPoint_at hl4).mono ?_; rintro e w1 ⟨rfl, hb1⟩; refine ⟨_, rfl, hb1, hK _ _ ?_⟩; clear hK K; obtain ⟨chb1, fhb1, shb1, thb1⟩ := bcell hb1))
        with_reducible refine wpD_nil ?_
        go_wp2
        go_roundg (m - i)
        case measure => omega
        case rel => exact ⟨i, m, by omega, hm1, by omega, rfl, rfl, hlo, Lib.hid fun k d hk hd => hS.not_less he.out hd hl4 hk, by exact bel_, (hb1.cell (p := ⟨w.heap.size, 0, none⟩) hsz).trans hx0, (hb1.cell (p := ⟨w.heap.size, 1, none⟩) hsz).trans hx1, Nat.lt_of_lt_of_le hsz hb1.size⟩
      · go_wp2
        refine wp_region_ord [(0, .q), (1, .q), (2, .q), (3, .q), (4, .q), (5, .q), (6, .q), (7, .q), (8, .q), (9, .g)] (by kernel_rfl) (by kernel_rfl) ?_
        simp only [pick, List.filterMap_cons, List.filterMap_nil, List.getElem?_toArray, List.getElem?_cons_zero, List.getElem?_cons_succ, Option.map_some]
        repeat (first
          | ((with_reducible refine wpD_p (fun K hK => ?_)); go_simp; refine hK _ ?_; clear hK K)
          | ((with_reducible refine wpD_q (fun K hK => ?_)); go_simp; (first | refine hK _ ?_ | (go_bits; refine hK _ ?_) | (go_bits; go_simp; refine hK _ ?_)); clear hK K)
          | ((with_reducible refine wpD_g (fun K hK => ?_)); go_simp; refine hK _ _ ?_; clear hK K)
          | ((with_reducible refine wpD_g (fun K hK => ?_)); go_simp; refine ⟨Grew.of_alloc _, hK _ _ ?_⟩; clear hK K)
          | ((with_reducible refine wpD_g (fun K hK => ?_)); go_simp; go_at_call 43; refine (sLessPoint_at hl4).mono ?_; rintro e w1 ⟨rfl, hb1⟩; refine ⟨_, rfl, hb1, hK _ _ ?_⟩; clear hK K; obtain ⟨chb1, fhb1, shb1, thb1⟩ := bcell hb1))
        with_reducible refine wpD_nil ?_
        go_wp2
        go_roundg (j - (m + 1))
        case measure => omega
        case rel => exact ⟨m + 1, j, by omega, hm2, by omega, by go_num, rfl, Lib.hid fun k d hk hd => hS.less_of_less he.out hd hl4 (by omega), hhi, by exact bel_, (hb1.cell (p := ⟨w.heap.size, 0, none⟩) hsz).trans hx0, (hb1.cell (p := ⟨w.heap.size, 1, none⟩) hsz).trans hx1, Nat.lt_of_lt_of_le hsz hb1.size⟩
    · obtain rfl : i = j := by omega
      by_cases hin : i < n'
      · obtain ⟨b, o, rfl, hb, hc⟩ := g2.ptr (by omega)
        obtain ⟨e, he0⟩ := g2.get (k := i) (by omega)
        obtain ⟨c0, c1, c2⟩ := hc i e he0
        have he := Lib.hid (hget.out i e he0)
        clear hc g2 he0
        by_cases hxy : e.x = x ∧ e.y = y
        · obtain ⟨hx, hy⟩ := hxy
          subst hx hy
          have hP := Lib.hid (idxI_yes hS he.out)
          go_wp2
          refine wp_region_ord [(0, .q), (1, .q), (2, .q), (3, .q), (4, .q), (5, .q), (6, .q), (7, .q), (8, .q), (9, .q), (10, .q), (11, .q), (12, .q), (13, .q), (14, .q), (15, .q), (16, .q), (17, .q), (18, .q)] (by kernel_rfl) (by kernel_rfl) ?_
          simp only [pick, List.filterMap_cons, List.filterMap_nil, List.getElem?_toArray, List.getElem?_cons_zero, List.getElem?_cons_succ, Option.map_some]
          repeat (first
            | ((with_reducible refine wpD_p (fun K hK => ?_)); go_simp; refine hK _ ?_; clear hK K)
            | ((with_reducible refine wpD_q (fun K hK => ?_)); go_simp; (first | refine hK _ ?_ | (go_bits; refine hK _ ?_) | (go_bits; go_simp; refine hK _ ?_)); clear hK K)
            | ((with_reducible refine wpD_g (fun K hK => ?_)); go_simp; refine hK _ _ ?_; clear hK K)
            | ((with_reducible refine wpD_g (fun K hK => ?_)); go_simp; refine ⟨Grew.of_alloc _, hK _ _ ?_⟩; clear hK K))
          with_reducible refine wpD_nil ?_
          go_wp2
          go_ret
          exact ⟨ret_int hP.out, by exact bel_⟩
        · have hP := Lib.hid (idxI_no hlo.out hhi.out hS (fun d hd => by rw [he.out] at hd; obtain rfl := Option.some.inj hd; exact hxy))
          by_cases hx : e.x = x
          · have hy : ¬ e.y = y := fun h => hxy ⟨hx, h⟩
            subst hx
            have hy' : (e.y == y) = false := by simpa using hy
            go_wp2
            refine wp_region_ord [(0, .q), (1, .q), (2, .q), (3, .q), (4, .q), (5, .q), (6, .q), (7, .q), (8, .q), (9, .q), (10, .q), (11, .q), (12, .q), (13, .q), (14, .q), (15, .q), (16, .q), (17, .q), (18, .q)] (by kernel_rfl) (by kernel_rfl) ?_
            simp only [pick, List.filterMap_cons, List.filterMap_nil, List.getElem?_toArray, List.getElem?_cons_zero, List.getElem?_cons_succ, Option.map_some]
            repeat (first
              | ((with_reducible refine wpD_p (fun K hK => ?_)); go_simp; refine hK _ ?_; clear hK K)
              | ((with_reducible refine wpD_q (fun K hK => ?_)); go_simp; (first | refine hK _ ?_ | (go_bits; refine hK _ ?_) | (go_bits; go_simp; refine hK _ ?_)); clear hK K)
              | ((with_reducible refine wpD_g (fun K hK => ?_)); go_simp; refine hK _ _ ?_; clear hK K)
              | ((with_reducible refine wpD_g (fun K hK => ?_)); go_simp; refine ⟨Grew.of_alloc _, hK _ _ ?_⟩; clear hK K))
            with_reducible refine wpD_nil ?_
            go_wp2
            go_ret
            exact ⟨ret_int hP.out, by exact bel_⟩
          · have hx' : (e.x == x) = false := by simpa using hx
            go_wp2
            refine wp_region_ord [(0, .q), (1, .q), (2, .q), (3, .q), (4, .q), (5, .q), (6, .q), (7, .q), (8, .q), (9, .q), (10, .q), (11, .q), (12, .q), (13, .q), (14, .q), (15, .q), (16, .q), (17, .q), (18, .q)] (by kernel_rfl) (by kernel_rfl) ?_
            simp only [pick, List.filterMap_cons, List.filterMap_nil, List.getElem?_toArray, List.getElem?_cons_zero, List.getElem?_cons_succ, Option.map_some]
            repeat (first
              | ((with_reducible refine wpD_p (fun K hK => ?_)); go_simp; refine hK _ ?_; clear hK K)
              | ((with_reducible refine wpD_q (fun K hK => ?_)); go_simp; (first | refine hK _ ?_ | (go_bits; refine hK _ ?_) | (go_bits; go_simp; refine hK _ ?_)); clear hK K)
              | ((with_reducible refine wpD_g (fun K hK => ?_)); go_simp; refine hK _ _ ?_; clear hK K)
              | ((with_reducible refine wpD_g (fun K hK => ?_)); go_simp; refine ⟨Grew.of_alloc _, hK _ _ ?_⟩; clear hK K))
            with_reducible refine wpD_nil ?_
            go_wp2
            go_ret
            exact ⟨ret_int hP.out, by exact bel_⟩
      · have hP := Lib.hid (idxI_no hlo.out hhi.out hS (fun d hd => by have := lt_of_get hd; omega))
        clear g2
        go_wp2
        refine wp_region_ord [(0, .q), (1, .q), (2, .q), (3, .q), (4, .q), (5, .q), (6, .q), (7, .q), (8, .q), (9, .q), (10, .q), (11, .q), (12, .q), (13, .q), (14, .q), (15, .q), (16, .q), (17, .q), (18, .q)] (by kernel_rfl) (by kernel_rfl) ?_
        simp only [pick, List.filterMap_cons, List.filterMap_nil, List.getElem?_toArray, List.getElem?_cons_zero, List.getElem?_cons_succ, Option.map_some]
        repeat (first
          | ((with_reducible refine wpD_p (fun K hK => ?_)); go_simp; refine hK _ ?_; clear hK K)
          | ((with_reducible refine wpD_q (fun K hK => ?_)); go_simp; (first | refine hK _ ?_ | (go_bits; refine hK _ ?_) | (go_bits; go_simp; refine hK _ ?_)); clear hK K)
          | ((with_reducible refine wpD_g (fun K hK => ?_)); go_simp; refine hK _ _ ?_; clear hK K)
          | ((with_reducible refine wpD_g (fun K hK => ?_)); go_simp; refine ⟨Grew.of_alloc _, hK _ _ ?_⟩; clear hK K))
        with_reducible refine wpD_nil ?_
        go_wp2
        go_ret
        exact ⟨ret_int hP.out, by exact bel_⟩
end Go.Proofs.Ytpnahobgmemdjaa
