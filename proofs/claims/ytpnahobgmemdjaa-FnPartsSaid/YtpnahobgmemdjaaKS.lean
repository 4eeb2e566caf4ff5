import Derived.Test.YtpnahobgmemdjaaKQ
import Derived.Test.YtpnahobgmemdjaaW10
import Derived.Test.YtpnahobgmemdjaaKE
import Derived.Test.YtpnahobgmemdjaaKC
import Derived.Test.YtpnahobgmemdjaaHTo
import Derived.Test.YtpnahobgmemdjaaW15
import Derived.Test.YtpnahobgmemdjaaOrdR
import Derived.Test.YtpnahobgmemdjaaPlC
import Derived.Test.YtpnahobgmemdjaaOrdApp
set_option linter.unusedSimpArgs false
set_option linter.unusedVariables false
/- Walks: shapes that are valid, of both. -/



namespace Go.Proofs.Ytpnahobgmemdjaa
open Go.RowKit Go.Shelf
attribute [local go_sem] BelowBy.cell BelowBy.cell_drew stillUpon givesUpon

/-- a shape's test of place j -/
def okPt (ps : List Pt) (j : Nat) : Bool := match ps[j]? with
  | none => true
  | some e => validPt e.x e.y && (match j with
    | 0 => true
    | i + 1 => match ps[i]? with
      | none => true
      | some d => lessPt d.x d.y e.x e.y)
def shapeB (ps : List Pt) : Bool := allB ps.length (okPt ps) && decide (1 ≤ ps.length ∧ ps.length ≤ 500)
theorem okPt_eq0 {ps : List Pt} {e : Pt} (h : ps[0]? = some e) : okPt ps 0 = validPt e.x e.y := by
  unfold okPt; rw [h]; simp
theorem okPt_eqS {ps : List Pt} {k : Nat} {e d : Pt} (h : ps[k + 1]? = some e) (hd : ps[k]? = some d) : okPt ps (k + 1) = (validPt e.x e.y && lessPt d.x d.y e.x e.y) := by
  unfold okPt; rw [h]; simp only [hd]
theorem shapeB_bad {ps : List Pt} {k : Nat} (hk : k < ps.length) (h : okPt ps k = false) : shapeB ps = false := by
  unfold shapeB; rw [allB_false hk h]; rfl
theorem shapeB_ok {ps : List Pt} (h : ∀ j, j < ps.length → okPt ps j = true) : shapeB ps = decide (1 ≤ ps.length ∧ ps.length ≤ 500) := by
  unfold shapeB; rw [allB_true h]; rfl
theorem shapeB_len {ps : List Pt} (h1 : ¬ (1 ≤ ps.length ∧ ps.length ≤ 500)) : shapeB ps = false := by
  unfold shapeB; rw [decide_eq_false h1]; simp
theorem shp_of {ps : List Pt} (h : shapeB ps = true) : Shp ps ∧ 1 ≤ ps.length ∧ ps.length ≤ 500 := by
  unfold shapeB at h
  simp only [Bool.and_eq_true, decide_eq_true_eq] at h
  obtain ⟨hf, h4⟩ := h
  have hpl : ∀ (k : Nat) (e : Pt), ps[k]? = some e → validPt e.x e.y = true := fun k e he => by
    have := allB_at hf (lt_of_get he)
    unfold okPt at this
    rw [he] at this
    simp only [Bool.and_eq_true] at this
    exact this.1
  have hstep : ∀ (k : Nat) (d e : Pt), ps[k]? = some d → ps[k + 1]? = some e → lessPt d.x d.y e.x e.y = true := fun k d e hd he => by
    have := allB_at hf (lt_of_get he)
    rw [okPt_eqS he hd] at this
    simp only [Bool.and_eq_true] at this
    exact this.2
  refine ⟨⟨fun k e he => ?_, ?_⟩, h4⟩
  · have := hpl k e he
    simp only [validPt, Bool.and_eq_true, inB_true] at this
    exact this
  · intro i j d e hij hd he
    induction j generalizing e with
    | zero => omega
    | succ j ih =>
      have hj : j < ps.length := by have := lt_of_get he; omega
      obtain ⟨c, hc⟩ : ∃ c, ps[j]? = some c := ⟨_, List.getElem?_eq_getElem hj⟩
      have h2 := hstep j c e hc he
      rcases Nat.lt_or_ge i j with h | h
      · have h1 := ih c h hc
        rw [lessPt_iff] at h1 h2 ⊢
        omega
      · obtain rfl : i = j := by omega
        rw [hd] at hc
        obtain rfl := Option.some.inj hc
        exact h2
theorem Shp.sortS {ps : List Pt} (h : Shp ps) : SortS ps := by
  unfold SortS
  rw [List.pairwise_iff_getElem]
  intro i j hi hj hij
  exact h.sorted i j _ _ hij (List.getElem?_eq_getElem hi) (List.getElem?_eq_getElem hj)
set_option maxHeartbeats 2000000 in
theorem ValidShape_any (A : Option Addr) (n c : Nat) (ps : List Pt) (w : World) (h : RdSl 2 RPt w A n ps) (hn : n ≤ 1073741824) :
    Calls Try.prog 78 #[.slice A n c] w fun e w' => e = .returned (.bool (shapeB ps)) ∧ Below w.heap.size w w' := by
  
  have hla := h.len
  go_enter Try.func78, Try.ntmps78
  go_wp2
  go_loopg [7] n (fun g i wr => ∃ k : Nat, k + g = n ∧ i = .int .i64 k ∧ Hid (∀ j, j < k → okPt ps j = true) ∧ Below w.heap.size w wr)
  case atStart => exact ⟨0, by omega, rfl, Lib.hid fun j hj => by omega, Below.refl _ _⟩
  case round =>
    obtain ⟨k, hk, rfl, hok, hbw⟩ := hrel
    have h' := h.below RPt.stable hbw
    have hszw := hbw.size
    by_cases hlt : k < n
    · obtain ⟨b, o, rfl, hb, hc⟩ := h'.ptr (by omega)
      obtain ⟨e, he⟩ := h.get hlt
      obtain ⟨c0, c1⟩ := hc k e he
      have hkz : k = 0 ∨ ∃ k', k = k' + 1 := by
        cases k with
        | zero => exact Or.inl rfl
        | succ k' => exact Or.inr ⟨k', rfl⟩
      rcases hkz with rfl | ⟨i, rfl⟩
      · have HK := Lib.hid (okPt_eq0 he)
        clear he hc h'
        simp only [Nat.zero_mul, Nat.add_zero] at c0 c1
        cases hv1 : validPt e.x e.y
        · go_wp2
          refine wp_region_ord [(0, .q), (1, .g), (2, .q), (3, .q), (4, .q), (5, .q), (6, .q), (7, .q), (8, .q), (9, .q), (10, .q), (11, .q), (12, .q), (13, .g), (14, .q), (15, .q), (16, .q)] (by kernel_rfl) (by kernel_rfl) ?_
          simp only [pick, List.filterMap_cons, List.filterMap_nil, List.getElem?_toArray, List.getElem?_cons_zero, List.getElem?_cons_succ, Option.map_some]
          repeat (first
            | ((with_reducible refine wpD_p (fun K hK => ?_)); go_simp; refine hK _ ?_; clear hK K)
            | ((with_reducible refine wpD_q (fun K hK => ?_)); go_simp; (first | refine hK _ ?_ | (go_bits; refine hK _ ?_) | (go_bits; go_simp; refine hK _ ?_)); clear hK K)
            | ((with_reducible refine wpD_g (fun K hK => ?_)); go_simp; refine hK _ _ ?_; clear hK K)
            | ((with_reducible refine wpD_g (fun K hK => ?_)); go_simp; refine ⟨Grew.of_alloc _, hK _ _ ?_⟩; clear hK K)
            | ((with_reducible refine wpD_g (fun K hK => ?_)); go_simp; go_at_call 66; refine (ValidPoint_any _ _ _).mono ?_; rintro e w1 ⟨rfl, hb1⟩; refine ⟨_, rfl, hb1, hK _ _ ?_⟩; clear hK K; obtain ⟨chb1, fhb1, shb1, thb1⟩ := bcell hb1; (try have bhb10 := shb1 (wr.heap.size) (by go_simp)); (try have bhb11 := shb1 (b) (by go_simp)))
            | ((with_reducible refine wpD_g (fun K hK => ?_)); go_simp; go_at_call 68; refine (LessPoint_any _ _ _ _ _).mono ?_; rintro e w2 ⟨rfl, hb2⟩; refine ⟨_, rfl, hb2, hK _ _ ?_⟩; clear hK K; obtain ⟨chb2, fhb2, shb2, thb2⟩ := bcell hb2; (try have bhb20 := shb2 (wr.heap.size) (by go_simp)); (try have bhb21 := shb2 (b) (by go_simp))))
          with_reducible refine wpD_nil ?_
          go_wp2
          go_ret
          exact ⟨ret_bool (shapeB_bad (k := 0) (by omega) (by rw [HK.out, hv1])).symm, by exact bel_⟩
        · go_wp2
          refine wp_region_ord [(0, .q), (1, .g), (2, .q), (3, .q), (4, .q), (5, .q), (6, .q), (7, .q), (8, .q), (9, .q), (10, .q), (11, .q), (12, .q), (13, .g), (14, .q), (15, .q), (16, .q)] (by kernel_rfl) (by kernel_rfl) ?_
          simp only [pick, List.filterMap_cons, List.filterMap_nil, List.getElem?_toArray, List.getElem?_cons_zero, List.getElem?_cons_succ, Option.map_some]
          repeat (first
            | ((with_reducible refine wpD_p (fun K hK => ?_)); go_simp; refine hK _ ?_; clear hK K)
            | ((with_reducible refine wpD_q (fun K hK => ?_)); go_simp; (first | refine hK _ ?_ | (go_bits; refine hK _ ?_) | (go_bits; go_simp; refine hK _ ?_)); clear hK K)
            | ((with_reducible refine wpD_g (fun K hK => ?_)); go_simp; refine hK _ _ ?_; clear hK K)
            | ((with_reducible refine wpD_g (fun K hK => ?_)); go_simp; refine ⟨Grew.of_alloc _, hK _ _ ?_⟩; clear hK K)
            | ((with_reducible refine wpD_g (fun K hK => ?_)); go_simp; go_at_call 66; refine (ValidPoint_any _ _ _).mono ?_; rintro e w1 ⟨rfl, hb1⟩; refine ⟨_, rfl, hb1, hK _ _ ?_⟩; clear hK K; obtain ⟨chb1, fhb1, shb1, thb1⟩ := bcell hb1; (try have bhb10 := shb1 (wr.heap.size) (by go_simp)); (try have bhb11 := shb1 (b) (by go_simp)))
            | ((with_reducible refine wpD_g (fun K hK => ?_)); go_simp; go_at_call 68; refine (LessPoint_any _ _ _ _ _).mono ?_; rintro e w2 ⟨rfl, hb2⟩; refine ⟨_, rfl, hb2, hK _ _ ?_⟩; clear hK K; obtain ⟨chb2, fhb2, shb2, thb2⟩ := bcell hb2; (try have bhb20 := shb2 (wr.heap.size) (by go_simp)); (try have bhb21 := shb2 (b) (by go_simp))))
          with_reducible refine wpD_nil ?_
          go_wp2
          go_roundg (n - (0 + 1))
          case measure => omega
          case rel => exact ⟨0 + 1, by omega, by go_num, Lib.hid fun j hj => (by obtain rfl : j = 0 := by omega
                                                                                 rw [HK.out, hv1]), by exact bel_⟩
      · obtain ⟨d, hd⟩ := h.get (k := i) (by omega)
        obtain ⟨d0, d1⟩ := hc i d hd
        have HK := Lib.hid (okPt_eqS he hd)
        have hi : i < n := by omega
        have hpos : (0 : Int) < (i : Int) + 1 := by omega
        clear he hc h' hd
        cases hv1 : validPt e.x e.y
        · go_wp2
          refine wp_region_ord [(0, .q), (1, .g), (2, .q), (3, .q), (4, .q), (5, .q), (6, .q), (7, .q), (8, .q), (9, .q), (10, .q), (11, .q), (12, .q), (13, .g), (14, .q), (15, .q), (16, .q)] (by kernel_rfl) (by kernel_rfl) ?_
          simp only [pick, List.filterMap_cons, List.filterMap_nil, List.getElem?_toArray, List.getElem?_cons_zero, List.getElem?_cons_succ, Option.map_some]
          repeat (first
            | ((with_reducible refine wpD_p (fun K hK => ?_)); go_simp; refine hK _ ?_; clear hK K)
            | ((with_reducible refine wpD_q (fun K hK => ?_)); go_simp; (first | refine hK _ ?_ | (go_bits; refine hK _ ?_) | (go_bits; go_simp; refine hK _ ?_)); clear hK K)
            | ((with_reducible refine wpD_g (fun K hK => ?_)); go_simp; refine hK _ _ ?_; clear hK K)
            | ((with_reducible refine wpD_g (fun K hK => ?_)); go_simp; refine ⟨Grew.of_alloc _, hK _ _ ?_⟩; clear hK K)
            | ((with_reducible refine wpD_g (fun K hK => ?_)); go_simp; go_at_call 66; refine (ValidPoint_any _ _ _).mono ?_; rintro e w1 ⟨rfl, hb1⟩; refine ⟨_, rfl, hb1, hK _ _ ?_⟩; clear hK K; obtain ⟨chb1, fhb1, shb1, thb1⟩ := bcell hb1; (try have bhb10 := shb1 (wr.heap.size) (by go_simp)); (try have bhb11 := shb1 (b) (by go_simp)))
            | ((with_reducible refine wpD_g (fun K hK => ?_)); go_simp; go_at_call 68; refine (LessPoint_any _ _ _ _ _).mono ?_; rintro e w2 ⟨rfl, hb2⟩; refine ⟨_, rfl, hb2, hK _ _ ?_⟩; clear hK K; obtain ⟨chb2, fhb2, shb2, thb2⟩ := bcell hb2; (try have bhb20 := shb2 (wr.heap.size) (by go_simp)); (try have bhb21 := shb2 (b) (by go_simp))))
          with_reducible refine wpD_nil ?_
          go_wp2
          go_ret
          exact ⟨ret_bool (shapeB_bad (k := i + 1) (by omega) (by rw [HK.out, hv1]; rfl)).symm, by exact bel_⟩
        · cases hv3 : lessPt d.x d.y e.x e.y
          · go_wp2
            refine wp_region_ord [(0, .q), (1, .g), (2, .q), (3, .q), (4, .q), (5, .q), (6, .q), (7, .q), (8, .q), (9, .q), (10, .q), (11, .q), (12, .q), (13, .g), (14, .q), (15, .q), (16, .q)] (by kernel_rfl) (by kernel_rfl) ?_
            simp only [pick, List.filterMap_cons, List.filterMap_nil, List.getElem?_toArray, List.getElem?_cons_zero, List.getElem?_cons_succ, Option.map_some]
            repeat (first
              | ((with_reducible refine wpD_p (fun K hK => ?_)); go_simp; refine hK _ ?_; clear hK K)
              | ((with_reducible refine wpD_q (fun K hK => ?_)); go_simp; (first | refine hK _ ?_ | (go_bits; refine hK _ ?_) | (go_bits; go_simp; refine hK _ ?_)); clear hK K)
              | ((with_reducible refine wpD_g (fun K hK => ?_)); go_simp; refine hK _ _ ?_; clear hK K)
              | ((with_reducible refine wpD_g (fun K hK => ?_)); go_simp; refine ⟨Grew.of_alloc _, hK _ _ ?_⟩; clear hK K)
              | ((with_reducible refine wpD_g (fun K hK => ?_)); go_simp; go_at_call 66; refine (ValidPoint_any _ _ _).mono ?_; rintro e w1 ⟨rfl, hb1⟩; refine ⟨_, rfl, hb1, hK _ _ ?_⟩; clear hK K; obtain ⟨chb1, fhb1, shb1, thb1⟩ := bcell hb1; (try have bhb10 := shb1 (wr.heap.size) (by go_simp)); (try have bhb11 := shb1 (b) (by go_simp)))
              | ((with_reducible refine wpD_g (fun K hK => ?_)); go_simp; go_at_call 68; refine (LessPoint_any _ _ _ _ _).mono ?_; rintro e w2 ⟨rfl, hb2⟩; refine ⟨_, rfl, hb2, hK _ _ ?_⟩; clear hK K; obtain ⟨chb2, fhb2, shb2, thb2⟩ := bcell hb2; (try have bhb20 := shb2 (wr.heap.size) (by go_simp)); (try have bhb21 := shb2 (b) (by go_simp))))
            with_reducible refine wpD_nil ?_
            go_wp2
            go_ret
            exact ⟨ret_bool (shapeB_bad (k := i + 1) (by omega) (by rw [HK.out, hv1, hv3]; rfl)).symm, by exact bel_⟩
          · go_wp2
            refine wp_region_ord [(0, .q), (1, .g), (2, .q), (3, .q), (4, .q), (5, .q), (6, .q), (7, .q), (8, .q), (9, .q), (10, .q), (11, .q), (12, .q), (13, .g), (14, .q), (15, .q), (16, .q)] (by kernel_rfl) (by kernel_rfl) ?_
            simp only [pick, List.filterMap_cons, List.filterMap_nil, List.getElem?_toArray, List.getElem?_cons_zero, List.getElem?_cons_succ, Option.map_some]
            repeat (first
              | ((with_reducible refine wpD_p (fun K hK => ?_)); go_simp; refine hK _ ?_; clear hK K)
              | ((with_reducible refine wpD_q (fun K hK => ?_)); go_simp; (first | refine hK _ ?_ | (go_bits; refine hK _ ?_) | (go_bits; go_simp; refine hK _ ?_)); clear hK K)
              | ((with_reducible refine wpD_g (fun K hK => ?_)); go_simp; refine hK _ _ ?_; clear hK K)
              | ((with_reducible refine wpD_g (fun K hK => ?_)); go_simp; refine ⟨Grew.of_alloc _, hK _ _ ?_⟩; clear hK K)
              | ((with_reducible refine wpD_g (fun K hK => ?_)); go_simp; go_at_call 66; refine (ValidPoint_any _ _ _).mono ?_; rintro e w1 ⟨rfl, hb1⟩; refine ⟨_, rfl, hb1, hK _ _ ?_⟩; clear hK K; obtain ⟨chb1, fhb1, shb1, thb1⟩ := bcell hb1; (try have bhb10 := shb1 (wr.heap.size) (by go_simp)); (try have bhb11 := shb1 (b) (by go_simp)))
              | ((with_reducible refine wpD_g (fun K hK => ?_)); go_simp; go_at_call 68; refine (LessPoint_any _ _ _ _ _).mono ?_; rintro e w2 ⟨rfl, hb2⟩; refine ⟨_, rfl, hb2, hK _ _ ?_⟩; clear hK K; obtain ⟨chb2, fhb2, shb2, thb2⟩ := bcell hb2; (try have bhb20 := shb2 (wr.heap.size) (by go_simp)); (try have bhb21 := shb2 (b) (by go_simp))))
            with_reducible refine wpD_nil ?_
            go_wp2
            go_roundg (n - ((i + 1) + 1))
            case measure => omega
            case rel => exact ⟨(i + 1) + 1, by omega, by go_num, Lib.hid fun j hj => (by
              rcases Nat.lt_succ_iff_lt_or_eq.1 hj with hj | rfl
              · exact hok.out j hj
              · rw [HK.out, hv1, hv3]; rfl), by exact bel_⟩
    · obtain rfl : k = n := by omega
      have hd := Lib.hid (shapeB_ok (ps := ps) (by rw [hla]; exact hok.out))
      go_wp2_with (go_at_call 49; refine (within_any _ _ _ _).mono ?_; rintro e _ ⟨rfl, rfl⟩)
      go_ret
      refine ⟨ret_bool ?_, by exact bel_⟩
      rw [hd.out, hla, Bool.eq_iff_iff, inB_true, decide_eq_true_eq]
      omega
set_option maxHeartbeats 4000000 in
theorem l04Ok_any (A : Option Addr) (n c : Nat) (ps : List Pt) (w : World) (h : RdSl 2 RPt w A n ps) (hn : n ≤ 1073741824) :
    Calls Try.prog 54 #[.slice A n c] w fun e w' => e = .returned (.bool (shapeB ps)) ∧ Below w.heap.size w w' := by
  
  have hla := h.len
  by_cases hz0 : n < 1
  · go_enter Try.func54, Try.ntmps54
    go_wp2
    go_ret
    exact ⟨ret_bool (shapeB_len (by omega)).symm, by exact bel_⟩
  by_cases hz1 : 500 < n
  · go_enter Try.func54, Try.ntmps54
    go_wp2
    go_ret
    exact ⟨ret_bool (shapeB_len (by omega)).symm, by exact bel_⟩
  go_enter Try.func54, Try.ntmps54
  go_wp2
  go_loopg [3] n (fun r x wr => ∃ k : Nat, k + r = n ∧ x = .int .i64 k ∧ Hid (∀ j, j < k → okPt ps j = true) ∧ Below w.heap.size w wr)
  case atStart => exact ⟨0, by omega, rfl, Lib.hid fun j hj => by omega, by exact bel_⟩
  case round =>
    obtain ⟨k, hk, rfl, hok, hbw⟩ := hrel
    have h' := h.below RPt.stable hbw
    have hszw := hbw.size
    by_cases hlt : k < n
    · obtain ⟨b, o, rfl, hb, hc⟩ := h'.ptr (by omega)
      obtain ⟨e, he⟩ := h.get hlt
      obtain ⟨c0, c1⟩ := hc k e he
      have hkz : k = 0 ∨ ∃ k', k = k' + 1 := by
        cases k with
        | zero => exact Or.inl rfl
        | succ k' => exact Or.inr ⟨k', rfl⟩
      rcases hkz with rfl | ⟨i, rfl⟩
      · have HK := Lib.hid (okPt_eq0 he)
        clear he hc h'
        simp only [Nat.zero_mul, Nat.add_zero] at c0 c1
        cases hv1 : validPt e.x e.y
        · go_wp2
          refine wp_region_ord [(0, .q), (1, .q), (2, .q), (3, .q), (4, .g), (5, .q), (6, .q), (7, .q), (8, .q), (9, .q), (10, .q), (11, .q), (12, .q), (13, .q), (14, .q), (15, .q), (16, .q), (17, .q), (18, .q), (19, .g), (20, .q), (21, .q), (22, .q)] (by kernel_rfl) (by kernel_rfl) ?_
          simp only [pick, List.filterMap_cons, List.filterMap_nil, List.getElem?_toArray, List.getElem?_cons_zero, List.getElem?_cons_succ, Option.map_some]
          repeat (first
            | ((with_reducible refine wpD_p (fun K hK => ?_)); go_simp; refine hK _ ?_; clear hK K)
            | ((with_reducible refine wpD_q (fun K hK => ?_)); go_simp; (first | refine hK _ ?_ | (go_bits; refine hK _ ?_) | (go_bits; go_simp; refine hK _ ?_)); clear hK K)
            | ((with_reducible refine wpD_g (fun K hK => ?_)); go_simp; refine hK _ _ ?_; clear hK K)
            | ((with_reducible refine wpD_g (fun K hK => ?_)); go_simp; refine ⟨Grew.of_alloc _, hK _ _ ?_⟩; clear hK K)
            | ((with_reducible refine wpD_g (fun K hK => ?_)); go_simp; go_at_call 38; refine (l01Point_any _ _ _).mono ?_; rintro e w1 ⟨rfl, hb1⟩; refine ⟨_, rfl, hb1, hK _ _ ?_⟩; clear hK K; obtain ⟨chb1, fhb1, shb1, thb1⟩ := bcell hb1; (try have bhb10 := shb1 (b) (by go_simp)))
            | ((with_reducible refine wpD_g (fun K hK => ?_)); go_simp; go_at_call 43; refine (sLessPoint_any _ _ _ _ _).mono ?_; rintro e w2 ⟨rfl, hb2⟩; refine ⟨_, rfl, hb2, hK _ _ ?_⟩; clear hK K; obtain ⟨chb2, fhb2, shb2, thb2⟩ := bcell hb2; (try have bhb20 := shb2 (b) (by go_simp))))
          with_reducible refine wpD_nil ?_
          go_wp2
          go_ret
          exact ⟨ret_bool (shapeB_bad (k := 0) (by omega) (by rw [HK.out, hv1])).symm, by exact bel_⟩
        · go_wp2
          refine wp_region_ord [(0, .q), (1, .q), (2, .q), (3, .q), (4, .g), (5, .q), (6, .q), (7, .q), (8, .q), (9, .q), (10, .q), (11, .q), (12, .q), (13, .q), (14, .q), (15, .q), (16, .q), (17, .q), (18, .q), (19, .g), (20, .q), (21, .q), (22, .q)] (by kernel_rfl) (by kernel_rfl) ?_
          simp only [pick, List.filterMap_cons, List.filterMap_nil, List.getElem?_toArray, List.getElem?_cons_zero, List.getElem?_cons_succ, Option.map_some]
          repeat (first
            | ((with_reducible refine wpD_p (fun K hK => ?_)); go_simp; refine hK _ ?_; clear hK K)
            | ((with_reducible refine wpD_q (fun K hK => ?_)); go_simp; (first | refine hK _ ?_ | (go_bits; refine hK _ ?_) | (go_bits; go_simp; refine hK _ ?_)); clear hK K)
            | ((with_reducible refine wpD_g (fun K hK => ?_)); go_simp; refine hK _ _ ?_; clear hK K)
            | ((with_reducible refine wpD_g (fun K hK => ?_)); go_simp; refine ⟨Grew.of_alloc _, hK _ _ ?_⟩; clear hK K)
            | ((with_reducible refine wpD_g (fun K hK => ?_)); go_simp; go_at_call 38; refine (l01Point_any _ _ _).mono ?_; rintro e w1 ⟨rfl, hb1⟩; refine ⟨_, rfl, hb1, hK _ _ ?_⟩; clear hK K; obtain ⟨chb1, fhb1, shb1, thb1⟩ := bcell hb1; (try have bhb10 := shb1 (b) (by go_simp)))
            | ((with_reducible refine wpD_g (fun K hK => ?_)); go_simp; go_at_call 43; refine (sLessPoint_any _ _ _ _ _).mono ?_; rintro e w2 ⟨rfl, hb2⟩; refine ⟨_, rfl, hb2, hK _ _ ?_⟩; clear hK K; obtain ⟨chb2, fhb2, shb2, thb2⟩ := bcell hb2; (try have bhb20 := shb2 (b) (by go_simp))))
          with_reducible refine wpD_nil ?_
          go_wp2
          go_roundg (n - (0 + 1))
          case measure => omega
          case rel => exact ⟨0 + 1, by omega, by go_num, Lib.hid fun j hj => (by obtain rfl : j = 0 := by omega
                                                                                 rw [HK.out, hv1]), by exact bel_⟩
      · obtain ⟨d, hd⟩ := h.get (k := i) (by omega)
        obtain ⟨d0, d1⟩ := hc i d hd
        have HK := Lib.hid (okPt_eqS he hd)
        have hi : i < n := by omega
        have hpos : (0 : Int) < (i : Int) + 1 := by omega
        have hltI : ((i : Int) + 1) < (n : Int) := by omega
        have h0I : 0 ≤ ((i : Int) + 1) := by omega
        clear he hc h' hd
        cases hv1 : validPt e.x e.y
        · go_wp2
          refine wp_region_ord [(0, .q), (1, .q), (2, .q), (3, .q), (4, .g), (5, .q), (6, .q), (7, .q), (8, .q), (9, .q), (10, .q), (11, .q), (12, .q), (13, .q), (14, .q), (15, .q), (16, .q), (17, .q), (18, .q), (19, .g), (20, .q), (21, .q), (22, .q)] (by kernel_rfl) (by kernel_rfl) ?_
          simp only [pick, List.filterMap_cons, List.filterMap_nil, List.getElem?_toArray, List.getElem?_cons_zero, List.getElem?_cons_succ, Option.map_some]
          repeat (first
            | ((with_reducible refine wpD_p (fun K hK => ?_)); go_simp; refine hK _ ?_; clear hK K)
            | ((with_reducible refine wpD_q (fun K hK => ?_)); go_simp; (first | refine hK _ ?_ | (go_bits; refine hK _ ?_) | (go_bits; go_simp; refine hK _ ?_)); clear hK K)
            | ((with_reducible refine wpD_g (fun K hK => ?_)); go_simp; refine hK _ _ ?_; clear hK K)
            | ((with_reducible refine wpD_g (fun K hK => ?_)); go_simp; refine ⟨Grew.of_alloc _, hK _ _ ?_⟩; clear hK K)
            | ((with_reducible refine wpD_g (fun K hK => ?_)); go_simp; go_at_call 38; refine (l01Point_any _ _ _).mono ?_; rintro e w1 ⟨rfl, hb1⟩; refine ⟨_, rfl, hb1, hK _ _ ?_⟩; clear hK K; obtain ⟨chb1, fhb1, shb1, thb1⟩ := bcell hb1; (try have bhb10 := shb1 (b) (by go_simp)))
            | ((with_reducible refine wpD_g (fun K hK => ?_)); go_simp; go_at_call 43; refine (sLessPoint_any _ _ _ _ _).mono ?_; rintro e w2 ⟨rfl, hb2⟩; refine ⟨_, rfl, hb2, hK _ _ ?_⟩; clear hK K; obtain ⟨chb2, fhb2, shb2, thb2⟩ := bcell hb2; (try have bhb20 := shb2 (b) (by go_simp))))
          with_reducible refine wpD_nil ?_
          go_wp2
          go_ret
          exact ⟨ret_bool (shapeB_bad (k := i + 1) (by omega) (by rw [HK.out, hv1]; rfl)).symm, by exact bel_⟩
        · cases hv3 : lessPt d.x d.y e.x e.y
          · go_wp2
            refine wp_region_ord [(0, .q), (1, .q), (2, .q), (3, .q), (4, .g), (5, .q), (6, .q), (7, .q), (8, .q), (9, .q), (10, .q), (11, .q), (12, .q), (13, .q), (14, .q), (15, .q), (16, .q), (17, .q), (18, .q), (19, .g), (20, .q), (21, .q), (22, .q)] (by kernel_rfl) (by kernel_rfl) ?_
            simp only [pick, List.filterMap_cons, List.filterMap_nil, List.getElem?_toArray, List.getElem?_cons_zero, List.getElem?_cons_succ, Option.map_some]
            repeat (first
              | ((with_reducible refine wpD_p (fun K hK => ?_)); go_simp; refine hK _ ?_; clear hK K)
              | ((with_reducible refine wpD_q (fun K hK => ?_)); go_simp; (first | refine hK _ ?_ | (go_bits; refine hK _ ?_) | (go_bits; go_simp; refine hK _ ?_)); clear hK K)
              | ((with_reducible refine wpD_g (fun K hK => ?_)); go_simp; refine hK _ _ ?_; clear hK K)
              | ((with_reducible refine wpD_g (fun K hK => ?_)); go_simp; refine ⟨Grew.of_alloc _, hK _ _ ?_⟩; clear hK K)
              | ((with_reducible refine wpD_g (fun K hK => ?_)); go_simp; go_at_call 38; refine (l01Point_any _ _ _).mono ?_; rintro e w1 ⟨rfl, hb1⟩; refine ⟨_, rfl, hb1, hK _ _ ?_⟩; clear hK K; obtain ⟨chb1, fhb1, shb1, thb1⟩ := bcell hb1; (try have bhb10 := shb1 (b) (by go_simp)); have q0 := (hb1.cell (p := ⟨b, o + i * 2, none⟩) hb).trans d0; have q1 := (hb1.cell (p := ⟨b, o + i * 2 + 1, none⟩) hb).trans d1; have q2 := (hb1.cell (p := ⟨b, o + (i + 1) * 2, none⟩) hb).trans c0; have q3 := (hb1.cell (p := ⟨b, o + (i + 1) * 2 + 1, none⟩) hb).trans c1)
              | ((with_reducible refine wpD_g (fun K hK => ?_)); go_simp; go_at_call 43; refine (sLessPoint_any _ _ _ _ _).mono ?_; rintro e w2 ⟨rfl, hb2⟩; refine ⟨_, rfl, hb2, hK _ _ ?_⟩; clear hK K; obtain ⟨chb2, fhb2, shb2, thb2⟩ := bcell hb2; (try have bhb20 := shb2 (b) (by go_simp))))
            with_reducible refine wpD_nil ?_
            go_wp2
            go_ret
            exact ⟨ret_bool (shapeB_bad (k := i + 1) (by omega) (by rw [HK.out, hv1, hv3]; rfl)).symm, by exact bel_⟩
          · go_wp2
            refine wp_region_ord [(0, .q), (1, .q), (2, .q), (3, .q), (4, .g), (5, .q), (6, .q), (7, .q), (8, .q), (9, .q), (10, .q), (11, .q), (12, .q), (13, .q), (14, .q), (15, .q), (16, .q), (17, .q), (18, .q), (19, .g), (20, .q), (21, .q), (22, .q)] (by kernel_rfl) (by kernel_rfl) ?_
            simp only [pick, List.filterMap_cons, List.filterMap_nil, List.getElem?_toArray, List.getElem?_cons_zero, List.getElem?_cons_succ, Option.map_some]
            repeat (first
              | ((with_reducible refine wpD_p (fun K hK => ?_)); go_simp; refine hK _ ?_; clear hK K)
              | ((with_reducible refine wpD_q (fun K hK => ?_)); go_simp; (first | refine hK _ ?_ | (go_bits; refine hK _ ?_) | (go_bits; go_simp; refine hK _ ?_)); clear hK K)
              | ((with_reducible refine wpD_g (fun K hK => ?_)); go_simp; refine hK _ _ ?_; clear hK K)
              | ((with_reducible refine wpD_g (fun K hK => ?_)); go_simp; refine ⟨Grew.of_alloc _, hK _ _ ?_⟩; clear hK K)
              | ((with_reducible refine wpD_g (fun K hK => ?_)); go_simp; go_at_call 38; refine (l01Point_any _ _ _).mono ?_; rintro e w1 ⟨rfl, hb1⟩; refine ⟨_, rfl, hb1, hK _ _ ?_⟩; clear hK K; obtain ⟨chb1, fhb1, shb1, thb1⟩ := bcell hb1; (try have bhb10 := shb1 (b) (by go_simp)); have q0 := (hb1.cell (p := ⟨b, o + i * 2, none⟩) hb).trans d0; have q1 := (hb1.cell (p := ⟨b, o + i * 2 + 1, none⟩) hb).trans d1; have q2 := (hb1.cell (p := ⟨b, o + (i + 1) * 2, none⟩) hb).trans c0; have q3 := (hb1.cell (p := ⟨b, o + (i + 1) * 2 + 1, none⟩) hb).trans c1)
              | ((with_reducible refine wpD_g (fun K hK => ?_)); go_simp; go_at_call 43; refine (sLessPoint_any _ _ _ _ _).mono ?_; rintro e w2 ⟨rfl, hb2⟩; refine ⟨_, rfl, hb2, hK _ _ ?_⟩; clear hK K; obtain ⟨chb2, fhb2, shb2, thb2⟩ := bcell hb2; (try have bhb20 := shb2 (b) (by go_simp))))
            with_reducible refine wpD_nil ?_
            go_wp2
            go_roundg (n - ((i + 1) + 1))
            case measure => omega
            case rel => exact ⟨(i + 1) + 1, by omega, by go_num, Lib.hid fun j hj => (by
              rcases Nat.lt_succ_iff_lt_or_eq.1 hj with hj | rfl
              · exact hok.out j hj
              · rw [HK.out, hv1, hv3]; rfl), by exact bel_⟩
    · obtain rfl : k = n := by omega
      have hd := Lib.hid (shapeB_ok (ps := ps) (by rw [hla]; exact hok.out))
      go_wp2
      go_ret
      refine ⟨ret_bool ?_, by exact bel_⟩
      rw [hd.out, hla]
      exact (decide_eq_true (by omega)).symm
/-- one connected part -/
def oneB (ps : List Pt) : Bool := decide ((allP (nbP ps) ps.length ps.length).2.length = 1)
end Go.Proofs.Ytpnahobgmemdjaa
/- Walks: the reference looks for a point in an assembly and in a shape, by places. -/


namespace Go.Proofs.Ytpnahobgmemdjaa
open Go.RowKit Go.Shelf
attribute [local go_sem] BelowBy.cell BelowBy.cell_drew stillUpon givesUpon

def plPt (e : Pl) : Pt := ⟨e.x, e.y⟩
/-- the place of a point, or -1 -/
def idxI (ps : List Pt) (x y : Int) : Int := match idxP ps x y with
  | some v => (v : Int)
  | none => -1
theorem idxI_yes {ps : List Pt} (hS : Shp ps) {i : Nat} {e : Pt} (he : ps[i]? = some e) : (i : Int) = idxI ps e.x e.y := by
  unfold idxI; rw [hS.idx he]
theorem idxI_no {ps : List Pt} {x y : Int} {i : Nat} (h1 : ∀ (k : Nat) (d : Pt), k < i → ps[k]? = some d → lessPt d.x d.y x y = true) (h2 : ∀ (k : Nat) (d : Pt), i ≤ k → ps[k]? = some d → lessPt d.x d.y x y = false) (hS : Shp ps)
    (h3 : ∀ (d : Pt), ps[i]? = some d → ¬ (d.x = x ∧ d.y = y)) : (-1 : Int) = idxI ps x y := by
  unfold idxI
  cases hi : idxP ps x y with
  | none => rfl
  | some v =>
    exfalso
    have hv := idxP_some hi
    rcases Nat.lt_trichotomy v i with h | h | h
    · have := h1 v _ h hv
      rw [lessPt_irrefl] at this
      cases this
    · subst h
      exact h3 _ hv ⟨rfl, rfl⟩
    · obtain ⟨d, hd⟩ : ∃ d, ps[i]? = some d := ⟨_, List.getElem?_eq_getElem (by have := lt_of_get hv; omega)⟩
      have h4 := hS.sorted i v d _ h hd hv
      have h5 := h2 i d (Nat.le_refl _) hd
      simp only at h4
      rw [h5] at h4
      cases h4
theorem Shp.less_of_less {ps : List Pt} (hS : Shp ps) {x y : Int} {m k : Nat} {d e : Pt} (he : ps[m]? = some e) (hd : ps[k]? = some d) (h : lessPt e.x e.y x y = true) (hk : k ≤ m) : lessPt d.x d.y x y = true := by
  rcases Nat.lt_or_ge k m with hmk | hmk
  · exact lessPt_trans (hS.sorted k m d e hmk hd he) h
  · obtain rfl : k = m := by omega
    rw [he] at hd
    obtain rfl := Option.some.inj hd
    exact h
theorem Shp.not_less {ps : List Pt} (hS : Shp ps) {x y : Int} {m k : Nat} {d e : Pt} (he : ps[m]? = some e) (hd : ps[k]? = some d) (h : lessPt e.x e.y x y = false) (hk : m ≤ k) : lessPt d.x d.y x y = false := by
  rcases Nat.lt_or_ge m k with hmk | hmk
  · cases hh : lessPt d.x d.y x y with
    | false => rfl
    | true => rw [← h]; exact (lessPt_trans (hS.sorted m k e d hmk he hd) hh).symm
  · obtain rfl : m = k := by omega
    rw [he] at hd
    obtain rfl := Option.some.inj hd
    exact h
theorem plPt_get {xs : List Pl} {k : Nat} {e : Pl} (h : xs[k]? = some e) : (xs.map plPt)[k]? = some ⟨e.x, e.y⟩ := by
  rw [List.getElem?_map, h]; rfl
set_option maxHeartbeats 2000000 in
theorem l03IndexS_any {op : Nat} (p : Nat) (xs : List Pl) (x y : Int) (w : World) (ha : AsmAt w p op xs) (hS : Shp (xs.map plPt)) (h5 : xs.length ≤ 100000) :
    Calls Try.prog 64 #[.pointer (some ⟨p, op, none⟩), .agg #[.int .i64 x, .int .i64 y]] w fun e w' => e = .returned (.int .i64 (idxI (xs.map plPt) x y)) ∧ Below w.heap.size w w' := by
  obtain ⟨hlt, ⟨A, n, c, h1, h2⟩⟩ := id ha
  have hl := h2.len
  obtain ⟨ps, hps⟩ : ∃ ps, xs.map plPt = ps := ⟨_, rfl⟩
  have hget := Lib.hid (fun (k : Nat) (e : Pl) (h : xs[k]? = some e) => (hps ▸ plPt_get h : ps[k]? = some ⟨e.x, e.y⟩))
  have hlp : ps.length = n := by rw [← hps]; simpa using hl
  rw [hps] at hS ⊢
  clear hps
  
  go_enter Try.func64, Try.ntmps64
  go_wp2
  go_loopg [5, 6] n (fun g lo hi wr => ∃ i j : Nat, j - i ≤ g ∧ i ≤ j ∧ j ≤ n ∧ lo = .int .i64 i ∧ hi = .int .i64 j ∧ Hid (∀ (k : Nat) (d : Pt), k < i → ps[k]? = some d → lessPt d.x d.y x y = true) ∧ Hid (∀ (k : Nat) (d : Pt), j ≤ k → ps[k]? = some d → lessPt d.x d.y x y = false) ∧
    Below w.heap.size w wr ∧ wr.cell? ⟨w.heap.size, 0, none⟩ = some (.int .i64 x) ∧ wr.cell? ⟨w.heap.size, 1, none⟩ = some (.int .i64 y) ∧ w.heap.size < wr.heap.size)
  case atStart => exact ⟨0, n, by omega, by omega, by omega, rfl, rfl, Lib.hid fun k d hk => by omega, Lib.hid fun k d hk hd => by have := lt_of_get hd; omega, by exact bel_, by go_simp, by go_simp, by simp⟩
  case round =>
    obtain ⟨i, j, hg, hij, hjn, rfl, rfl, hlo, hhi, hbw, hx0, hx1, hsz⟩ := hrel
    obtain ⟨plt, ⟨A', n', c', g1, g2⟩⟩ := ha.below hbw
    obtain rfl : n' = n := by rw [← g2.len]; exact hl
    by_cases hlt2 : i < j
    · obtain ⟨b, o, rfl, hb, hc⟩ := g2.ptr (by omega)
      obtain ⟨m, hm⟩ : ∃ m : Nat, m = (i + j) / 2 := ⟨_, rfl⟩
      have hm1 : i ≤ m := by omega
      have hm2 : m < j := by omega
      have hmi : ((i : Int) + (j : Int)) / 2 = (m : Int) := by omega
      have hmn : m < n' := by omega
      clear hm
      obtain ⟨e, he0⟩ := g2.get (k := m) (by omega)
      obtain ⟨c0, c1, c2⟩ := hc m e he0
      have he := Lib.hid (hget.out m e he0)
      clear hc g2 he0
      cases hl4 : lessPt e.x e.y x y
      · go_wp2
        refine wp_region_ord [(0, .q), (1, .q), (2, .q), (3, .q), (4, .q), (5, .q), (6, .q), (7, .q), (8, .q), (9, .g)] (by kernel_rfl) (by kernel_rfl) ?_
        simp only [pick, List.filterMap_cons, List.filterMap_nil, List.getElem?_toArray, List.getElem?_cons_zero, List.getElem?_cons_succ, Option.map_some]
        repeat (first
          | ((with_reducible refine wpD_p (fun K hK => ?_)); go_simp; refine hK _ ?_; clear hK K)
          | ((with_reducible refine wpD_q (fun K hK => ?_)); go_simp; (first | refine hK _ ?_ | (go_bits; refine hK _ ?_) | (go_bits; go_simp; refine hK _ ?_)); clear hK K)
          | ((with_reducible refine wpD_g (fun K hK => ?_)); go_simp; refine hK _ _ ?_; clear hK K)
          | ((with_reducible refine wpD_g (fun K hK => ?_)); go_simp; refine ⟨Grew.of_alloc _, hK _ _ ?_⟩; clear hK K)
          | ((with_reducible refine wpD_g (fun K hK => ?_)); go_simp; go_at_call 43; refine (sLessPoint_at hl4).mono ?_; rintro e w1 ⟨rfl, hb1⟩; refine ⟨_, rfl, hb1, hK _ _ ?_⟩; clear hK K; obtain ⟨chb1, fhb1, shb1, thb1⟩ := bcell hb1))
        with_reducible refine wpD_nil ?_
        go_wp2
        go_roundg (m - i)
        case measure => omega
        case rel => exact ⟨i, m, by omega, hm1, by omega, rfl, rfl, hlo, Lib.hid fun k d hk hd => hS.not_less he.out hd hl4 hk, by exact bel_, (hb1.cell (p := ⟨w.heap.size, 0, none⟩) hsz).trans hx0, (hb1.cell (p := ⟨w.heap.size, 1, none⟩) hsz).trans hx1, Nat.lt_of_lt_of_le hsz hb1.size⟩
      · go_wp2
        refine wp_region_ord [(0, .q), (1, .q), (2, .q), (3, .q), (4, .q), (5, .q), (6, .q), (7, .q), (8, .q), (9, .g)] (by kernel_rfl) (by kernel_rfl) ?_
        simp only [pick, List.filterMap_cons, List.filterMap_nil, List.getElem?_toArray, List.getElem?_cons_zero, List.getElem?_cons_succ, Option.map_some]
        repeat (first
          | ((with_reducible refine wpD_p (fun K hK => ?_)); go_simp; refine hK _ ?_; clear hK K)
          | ((with_reducible refine wpD_q (fun K hK => ?_)); go_simp; (first | refine hK _ ?_ | (go_bits; refine hK _ ?_) | (go_bits; go_simp; refine hK _ ?_)); clear hK K)
          | ((with_reducible refine wpD_g (fun K hK => ?_)); go_simp; refine hK _ _ ?_; clear hK K)
          | ((with_reducible refine wpD_g (fun K hK => ?_)); go_simp; refine ⟨Grew.of_alloc _, hK _ _ ?_⟩; clear hK K)
          | ((with_reducible refine wpD_g (fun K hK => ?_)); go_simp; go_at_call 43; refine (sLessPoint_at hl4).mono ?_; rintro e w1 ⟨rfl, hb1⟩; refine ⟨_, rfl, hb1, hK _ _ ?_⟩; clear hK K; obtain ⟨chb1, fhb1, shb1, thb1⟩ := bcell hb1))
        with_reducible refine wpD_nil ?_
        go_wp2
        go_roundg (j - (m + 1))
        case measure => omega
        case rel => exact ⟨m + 1, j, by omega, hm2, by omega, by go_num, rfl, Lib.hid fun k d hk hd => hS.less_of_less he.out hd hl4 (by omega), hhi, by exact bel_, (hb1.cell (p := ⟨w.heap.size, 0, none⟩) hsz).trans hx0, (hb1.cell (p := ⟨w.heap.size, 1, none⟩) hsz).trans hx1, Nat.lt_of_lt_of_le hsz hb1.size⟩
    · obtain rfl : i = j := by omega
      by_cases hin : i < n'
      · obtain ⟨b, o, rfl, hb, hc⟩ := g2.ptr (by omega)
        obtain ⟨e, he0⟩ := g2.get (k := i) (by omega)
        obtain ⟨c0, c1, c2⟩ := hc i e he0
        have he := Lib.hid (hget.out i e he0)
        clear hc g2 he0
        by_cases hxy : e.x = x ∧ e.y = y
        · obtain ⟨hx, hy⟩ := hxy
          subst hx hy
          have hP := Lib.hid (idxI_yes hS he.out)
          go_wp2
          refine wp_region_ord [(0, .q), (1, .q), (2, .q), (3, .q), (4, .q), (5, .q), (6, .q), (7, .q), (8, .q), (9, .q), (10, .q), (11, .q), (12, .q), (13, .q), (14, .q), (15, .q), (16, .q), (17, .q), (18, .q)] (by kernel_rfl) (by kernel_rfl) ?_
          simp only [pick, List.filterMap_cons, List.filterMap_nil, List.getElem?_toArray, List.getElem?_cons_zero, List.getElem?_cons_succ, Option.map_some]
          repeat (first
            | ((with_reducible refine wpD_p (fun K hK => ?_)); go_simp; refine hK _ ?_; clear hK K)
            | ((with_reducible refine wpD_q (fun K hK => ?_)); go_simp; (first | refine hK _ ?_ | (go_bits; refine hK _ ?_) | (go_bits; go_simp; refine hK _ ?_)); clear hK K)
            | ((with_reducible refine wpD_g (fun K hK => ?_)); go_simp; refine hK _ _ ?_; clear hK K)
            | ((with_reducible refine wpD_g (fun K hK => ?_)); go_simp; refine ⟨Grew.of_alloc _, hK _ _ ?_⟩; clear hK K))
          with_reducible refine wpD_nil ?_
          go_wp2
          go_ret
          exact ⟨ret_int hP.out, by exact bel_⟩
        · have hP := Lib.hid (idxI_no hlo.out hhi.out hS (fun d hd => by rw [he.out] at hd; obtain rfl := Option.some.inj hd; exact hxy))
          by_cases hx : e.x = x
          · have hy : ¬ e.y = y := fun h => hxy ⟨hx, h⟩
            subst hx
            have hy' : (e.y == y) = false := by simpa using hy
            go_wp2
            refine wp_region_ord [(0, .q), (1, .q), (2, .q), (3, .q), (4, .q), (5, .q), (6, .q), (7, .q), (8, .q), (9, .q), (10, .q), (11, .q), (12, .q), (13, .q), (14, .q), (15, .q), (16, .q), (17, .q), (18, .q)] (by kernel_rfl) (by kernel_rfl) ?_
            simp only [pick, List.filterMap_cons, List.filterMap_nil, List.getElem?_toArray, List.getElem?_cons_zero, List.getElem?_cons_succ, Option.map_some]
            repeat (first
              | ((with_reducible refine wpD_p (fun K hK => ?_)); go_simp; refine hK _ ?_; clear hK K)
              | ((with_reducible refine wpD_q (fun K hK => ?_)); go_simp; (first | refine hK _ ?_ | (go_bits; refine hK _ ?_) | (go_bits; go_simp; refine hK _ ?_)); clear hK K)
              | ((with_reducible refine wpD_g (fun K hK => ?_)); go_simp; refine hK _ _ ?_; clear hK K)
              | ((with_reducible refine wpD_g (fun K hK => ?_)); go_simp; refine ⟨Grew.of_alloc _, hK _ _ ?_⟩; clear hK K))
            with_reducible refine wpD_nil ?_
            go_wp2
            go_ret
            exact ⟨ret_int hP.out, by exact bel_⟩
          · have hx' : (e.x == x) = false := by simpa using hx
            go_wp2
            refine wp_region_ord [(0, .q), (1, .q), (2, .q), (3, .q), (4, .q), (5, .q), (6, .q), (7, .q), (8, .q), (9, .q), (10, .q), (11, .q), (12, .q), (13, .q), (14, .q), (15, .q), (16, .q), (17, .q), (18, .q)] (by kernel_rfl) (by kernel_rfl) ?_
            simp only [pick, List.filterMap_cons, List.filterMap_nil, List.getElem?_toArray, List.getElem?_cons_zero, List.getElem?_cons_succ, Option.map_some]
            repeat (first
              | ((with_reducible refine wpD_p (fun K hK => ?_)); go_simp; refine hK _ ?_; clear hK K)
              | ((with_reducible refine wpD_q (fun K hK => ?_)); go_simp; (first | refine hK _ ?_ | (go_bits; refine hK _ ?_) | (go_bits; go_simp; refine hK _ ?_)); clear hK K)
              | ((with_reducible refine wpD_g (fun K hK => ?_)); go_simp; refine hK _ _ ?_; clear hK K)
              | ((with_reducible refine wpD_g (fun K hK => ?_)); go_simp; refine ⟨Grew.of_alloc _, hK _ _ ?_⟩; clear hK K))
            with_reducible refine wpD_nil ?_
            go_wp2
            go_ret
            exact ⟨ret_int hP.out, by exact bel_⟩
      · have hP := Lib.hid (idxI_no hlo.out hhi.out hS (fun d hd => by have := lt_of_get hd; omega))
        clear g2
        go_wp2
        refine wp_region_ord [(0, .q), (1, .q), (2, .q), (3, .q), (4, .q), (5, .q), (6, .q), (7, .q), (8, .q), (9, .q), (10, .q), (11, .q), (12, .q), (13, .q), (14, .q), (15, .q), (16, .q), (17, .q), (18, .q)] (by kernel_rfl) (by kernel_rfl) ?_
        simp only [pick, List.filterMap_cons, List.filterMap_nil, List.getElem?_toArray, List.getElem?_cons_zero, List.getElem?_cons_succ, Option.map_some]
        repeat (first
          | ((with_reducible refine wpD_p (fun K hK => ?_)); go_simp; refine hK _ ?_; clear hK K)
          | ((with_reducible refine wpD_q (fun K hK => ?_)); go_simp; (first | refine hK _ ?_ | (go_bits; refine hK _ ?_) | (go_bits; go_simp; refine hK _ ?_)); clear hK K)
          | ((with_reducible refine wpD_g (fun K hK => ?_)); go_simp; refine hK _ _ ?_; clear hK K)
          | ((with_reducible refine wpD_g (fun K hK => ?_)); go_simp; refine ⟨Grew.of_alloc _, hK _ _ ?_⟩; clear hK K))
        with_reducible refine wpD_nil ?_
        go_wp2
        go_ret
        exact ⟨ret_int hP.out, by exact bel_⟩
end Go.Proofs.Ytpnahobgmemdjaa
/- Walks: the reference's connected parts, by places. -/




namespace Go.Proofs.Ytpnahobgmemdjaa
open Go.RowKit Go.Shelf
attribute [local go_sem] BelowBy.cell BelowBy.cell_drew stillUpon givesUpon ByR.cell ByR.cell_drew

section
variable {nb : Nat → Nat → Option Nat} {n : Nat}
theorem visS_more {c : Nat} {st : List Nat × List Nat} : ∀ k, ∃ l, (visS nb c st k).1 = st.1 ++ l
  | 0 => ⟨[], by simp [visS]⟩
  | k + 1 => by
    obtain ⟨l, hl⟩ := visS_more (c := c) (st := st) k
    obtain ⟨m, hm⟩ := vis4_grow (nb := nb) (c := c) (st := visS nb c st k) k 4
    exact ⟨l ++ m, by simp only [visS]; rw [hm, hl, List.append_assoc]⟩
theorem allP_rng : ∀ (i v q : Nat), (allP nb n i).1[v]? = some q → q ≤ (allP nb n i).2.length
  | 0, v, q, h => by
    simp only [allP] at h ⊢
    have := List.mem_of_getElem? h
    rw [List.mem_replicate] at this
    omega
  | i + 1, v, q, h => by
    have ih := allP_rng i v
    by_cases h0 : (allP nb n i).1[i]? = some 0
    · obtain ⟨h1, h2⟩ := allP_yes (nb := nb) (n := n) (i := i) rfl rfl h0 rfl
      rw [h1] at h
      rw [h2, List.length_append]
      have hV := (VisInv.start (n := n) (Nat.succ_ne_zero (allP nb n i).2.length) (allP_len nb n i) h0).all (nb := nb) n
      by_cases hm : v ∈ (visS nb ((allP nb n i).2.length + 1) ([i], (allP nb n i).1.set i ((allP nb n i).2.length + 1)) n).1
      · have := hV.is v hm
        rw [h] at this
        injection this with this
        simp; omega
      · rw [hV.other v hm] at h
        have := ih q h
        simp; omega
    · rw [allP_no h0] at h ⊢
      exact ih q h
theorem allP_done : ∀ (i v : Nat), v < i → (allP nb n i).1[v]? ≠ some 0
  | 0, v, h => by omega
  | i + 1, v, h => by
    have ih := allP_done i v
    by_cases h0 : (allP nb n i).1[i]? = some 0
    · obtain ⟨h1, h2⟩ := allP_yes (nb := nb) (n := n) (i := i) rfl rfl h0 rfl
      rw [h1]
      have hV := (VisInv.start (n := n) (Nat.succ_ne_zero (allP nb n i).2.length) (allP_len nb n i) h0).all (nb := nb) n
      by_cases hm : v ∈ (visS nb ((allP nb n i).2.length + 1) ([i], (allP nb n i).1.set i ((allP nb n i).2.length + 1)) n).1
      · rw [hV.is v hm]
        intro hh
        injection hh with hh
        omega
      · rw [hV.other v hm]
        rcases Nat.lt_or_ge v i with hlt | hge
        · exact ih hlt
        · exfalso
          obtain rfl : v = i := by omega
          obtain ⟨l, hl⟩ := visS_more (nb := nb) (c := (allP nb n v).2.length + 1) (st := ([v], (allP nb n v).1.set v ((allP nb n v).2.length + 1))) n
          rw [hl] at hm
          simp at hm
    · rw [allP_no h0]
      rcases Nat.lt_or_ge v i with hlt | hge
      · exact ih hlt
      · obtain rfl : v = i := by omega
        exact h0
theorem allP_named {v : Nat} (hv : v < n) : ∃ q, (allP nb n n).1[v]? = some (q + 1) ∧ q < (allP nb n n).2.length := by
  obtain ⟨q, hq⟩ : ∃ q, (allP nb n n).1[v]? = some q := ⟨_, List.getElem?_eq_getElem (by rw [allP_len]; exact hv)⟩
  have h1 := allP_rng n v q hq
  have h2 := allP_done (nb := nb) (n := n) n v hv
  cases q with
  | zero => exact absurd hq h2
  | succ q => exact ⟨q, hq, by omega⟩
end
theorem vis1_none {ps : List Pt} {c k d u : Nat} {st : List Nat × List Nat} {e : Pt} (hu : st.1[k]? = some u) (he : ps[u]? = some e) (hl : idxP ps (stepX e.x d) (stepY e.y d) = none) : vis1 (nbP ps) c k d st = st := by
  unfold vis1 nbP
  rw [hu]
  simp only [he, hl]
theorem vis1_old {ps : List Pt} {c k d u v q : Nat} {st : List Nat × List Nat} {e : Pt} (hu : st.1[k]? = some u) (he : ps[u]? = some e) (hl : idxP ps (stepX e.x d) (stepY e.y d) = some v) (hv : st.2[v]? = some q) (hq : q ≠ 0) : vis1 (nbP ps) c k d st = st := by
  unfold vis1 nbP
  rw [hu]
  simp only [he, hl, hv, Option.some.injEq, if_neg hq]
theorem vis1_new {ps : List Pt} {c k d u v : Nat} {st : List Nat × List Nat} {e : Pt} (hu : st.1[k]? = some u) (he : ps[u]? = some e) (hl : idxP ps (stepX e.x d) (stepY e.y d) = some v) (hv : st.2[v]? = some 0) : vis1 (nbP ps) c k d st = (st.1 ++ [v], st.2.set v c) := by
  unfold vis1 nbP
  rw [hu]
  simp only [he, hl, hv, if_true]
theorem idxI_some {ps : List Pt} {x y : Int} {v : Nat} (h : idxP ps x y = some v) : idxI ps x y = (v : Int) := by
  unfold idxI; rw [h]
theorem idxI_none {ps : List Pt} {x y : Int} (h : idxP ps x y = none) : idxI ps x y = -1 := by
  unfold idxI; rw [h]
theorem l03IndexS_at {op p : Nat} {xs : List Pl} {ps : List Pt} {x y r : Int} {w : World} (ha : AsmAt w p op xs) (hS : Shp (xs.map plPt)) (h5 : xs.length ≤ 100000) (hps : xs.map plPt = ps) (hr : idxI ps x y = r) :
    Calls Try.prog 64 #[.pointer (some ⟨p, op, none⟩), .agg #[.int .i64 x, .int .i64 y]] w fun e w' => e = .returned (.int .i64 r) ∧ Below w.heap.size w w' := by
  rw [← hr, ← hps]; exact l03IndexS_any p xs x y w ha hS h5
def numsV (l : List Nat) : List Value := l.map fun x => Value.int .i64 ((x : Nat) : Int)
theorem numsV_len (l : List Nat) : (numsV l).length = l.length := by simp [numsV]
theorem numsV_snoc (l : List Nat) (x : Nat) : numsV l ++ [Value.int .i64 (x : Int)] = numsV (l ++ [x]) := by simp [numsV]
theorem numsV_get {l : List Nat} {k x : Nat} (h : l[k]? = some x) : (numsV l)[k]? = some (.int .i64 (x : Int)) := by simp [numsV, h]
theorem numsV_set (l : List Nat) (k x : Nat) : (numsV l).set k (.int .i64 (x : Int)) = numsV (l.set k x) := by simp [numsV, List.map_set]
theorem infoRowQ : (Try.prog.info? 67).map (fun i => (i.zero, i.size, i.bytes)) = some (some (.slice none 0 0), 1, 24) := by kernel_rfl
def OwnNs (w : World) (gss : List (List Nat)) (e : Ending) (w' : World) : Prop := ∃ v us, e = .returned v ∧ Own2 w' w.heap.size 67 2 1 v us (gss.map numsV) ∧ Below w.heap.size w w'
/-- the places below t with name q + 1 -/
def nameL (nm : List Nat) (q t : Nat) : List Nat := (List.range t).filter fun i => decide (nm[i]? = some (q + 1))
theorem nameL_zero (nm : List Nat) (q : Nat) : nameL nm q 0 = [] := rfl
theorem nameL_yes {nm : List Nat} {q t : Nat} (h : nm[t]? = some (q + 1)) : nameL nm q (t + 1) = nameL nm q t ++ [t] := by
  unfold nameL; rw [List.range_succ, List.filter_append]; simp [h]
theorem nameL_no {nm : List Nat} {q t : Nat} (h : nm[t]? ≠ some (q + 1)) : nameL nm q (t + 1) = nameL nm q t := by
  unfold nameL; rw [List.range_succ, List.filter_append]; simp [h]
theorem nameL_len (nm : List Nat) (q t : Nat) : (nameL nm q t).length ≤ t := by
  have := List.length_filter_le (fun i => decide (nm[i]? = some (q + 1))) (List.range t)
  simpa [nameL] using this
def namesL (nm : List Nat) (c t : Nat) : List (List Nat) := (List.range c).map fun q => nameL nm q t
theorem namesL_get {nm : List Nat} {c t q : Nat} (h : q < c) : (namesL nm c t)[q]? = some (nameL nm q t) := by simp [namesL, h]
theorem namesL_zero (nm : List Nat) (c : Nat) : (namesL nm c 0).map numsV = List.replicate c [] := by
  apply List.ext_getElem?
  intro j
  by_cases hj : j < c
  · rw [List.getElem?_map, namesL_get hj, List.getElem?_replicate, if_pos hj]; simp [nameL, numsV]
  · rw [List.getElem?_eq_none (by simp [namesL]; omega), List.getElem?_eq_none (by simp; omega)]
theorem namesL_succ {nm : List Nat} {c t q : Nat} (h : nm[t]? = some (q + 1)) (hq : q < c) : namesL nm c (t + 1) = (namesL nm c t).set q (nameL nm q t ++ [t]) := by
  apply List.ext_getElem?
  intro j
  rw [List.getElem?_set]
  by_cases hj : j < c
  · rw [namesL_get hj, namesL_get hj]
    by_cases e : q = j
    · subst e
      rw [if_pos rfl, if_pos (by simp [namesL]; omega), nameL_yes h]
    · rw [if_neg e, nameL_no (by rw [h]; intro hh; injection hh with hh; omega)]
  · rw [List.getElem?_eq_none (by simp [namesL]; omega)]
    by_cases e : q = j
    · omega
    · rw [if_neg e, List.getElem?_eq_none (by simp [namesL]; omega)]
/-- the parts as the reference tells them -/
def partsN (ps : List Pt) : List (List Nat) := namesL (allP (nbP ps) ps.length ps.length).1 (allP (nbP ps) ps.length ps.length).2.length ps.length
theorem gby_setCell (w : World) (b o : Nat) (u : Value) : w.grownBy (w.setCell ⟨b, o, none⟩ u) (some b) :=
  ⟨rfl, rfl, rfl, by simp, fun i hi hne => Below.heap_setCell _ _ _ _ (fun e => hne (by rw [e]))⟩
theorem made_zero (n : Nat) : (madeCells #[Value.int .i64 0] n).toList = numsV (List.replicate n 0) := by
  apply List.ext_getElem?
  intro j
  by_cases hj : j < n
  · simp [madeCells, hj, numsV, Nat.mod_one]
  · rw [List.getElem?_eq_none (by rw [Array.length_toList, size_madeCells]; omega), List.getElem?_eq_none (by simp [numsV]; omega)]
theorem Own2.offs {w : World} {base : Nat} {T E : TypeId} {size : Nat} {v : Value} {us : List Value} {rows : List (List Value)} (h : Own2 w base T E size v us rows) {p : Nat} (hp : ∀ g, v.ownBlock = some g → g ≠ p) (hu : ∀ (k : Nat) (u : Value) (g : Nat), us[k]? = some u → u.ownBlock = some g → g ≠ p) (o : Nat) (x : Value) : Own2 (w.setCell ⟨p, o, none⟩ x) base T E size v us rows :=
  h.kept (gby_setCell w p o x) fun g e => by
    injection e with e
    subst e
    exact ⟨fun e' => hp _ e' rfl, fun k u hk e' => hu k u _ hk e' rfl⟩
theorem l01Step_to {x y X Y : Int} {d : Nat} (w : World) (hd : d < 4) (hx : -100 ≤ x ∧ x ≤ 100) (hy : -100 ≤ y ∧ y ≤ 100) (hX : stepX x (d : Nat) = X) (hY : stepY y (d : Nat) = Y) :
    Calls Try.prog 40 #[.agg #[.int .i64 x, .int .i64 y], .int .i64 (d : Int)] w fun e w' => e = .returned (.agg #[.int .i64 X, .int .i64 Y]) ∧ Below w.heap.size w w' := by
  rw [← hX, ← hY]
  exact l01Step_any _ _ _ _ ⟨by omega, by omega⟩ ⟨by omega, by omega⟩ ⟨by omega, by omega⟩
set_option maxRecDepth 100000 in
set_option maxHeartbeats 4000000 in
theorem l03Parts_any {pa oa : Nat} (xs : List Pl) (w : World) (ha : AsmAt w pa oa xs) (hS : Shp (xs.map plPt)) (hn : xs.length ≤ 100000) :
    Calls Try.prog 35 #[.pointer (some ⟨pa, oa, none⟩)] w (OwnNs w (partsN (xs.map plPt))) := by
  obtain ⟨i0, hi, hz0, hz1, hz2⟩ := info_parts infoRowQ
  obtain ⟨i1, hi', hz0', hz1', hz2'⟩ := info_parts infoI
  have la := ha.lt
  obtain ⟨_, C, n, cc, cq, hR⟩ := id ha
  have hlx := hR.len
  have hmk := fun W => run_makeN (P := Try.prog) 67 2 _ 1 8 Try.underlying67 infoI n (by omega) (by omega) W
  have hAH := Lib.hid ha
  have hSH := Lib.hid hS
  obtain ⟨ps, hps⟩ : ∃ ps, xs.map plPt = ps := ⟨_, rfl⟩
  have hpsH := Lib.hid hps
  have hlp : Hid (ps.length = n) := Lib.hid (by rw [← hps]; simpa using hlx)
  have hpn : partsN (xs.map plPt) = namesL (allP (nbP ps) n n).1 (allP (nbP ps) n n).2.length n := by unfold partsN; rw [hps, hlp.out]
  rw [hpn]
  clear ha hS hR hps hpn
  go_enter Try.func35, Try.ntmps35
  go_wp2
  go_loopg [5, 3] n (fun g i v wr => ∃ (j : Nat) (us : List Value), j + g = n ∧ i = .int .i64 (j : Int) ∧ Hid (Own2 wr w.heap.size 67 2 1 v us (List.replicate (allP (nbP ps) n j).2.length [])) ∧ Hid ((∀ g, v.ownBlock = some g → g ≠ w.heap.size + 1) ∧ ∀ (k : Nat) (u : Value) (g : Nat), us[k]? = some u → u.ownBlock = some g → g ≠ w.heap.size + 1) ∧ Hid (wr.ownsRow w.heap.size 2 1 (.slice (some ⟨w.heap.size + 1, 0, none⟩) n n) n (numsV (allP (nbP ps) n j).1)) ∧ Hid (Below w.heap.size w wr))
  case atStart => exact ⟨0, [], by omega, rfl, Lib.hid (Own2.of_empty ((World.ownsRow_made _ _ _ (Nat.le_refl _) (by decide) rfl).alloc _)), Lib.hid ⟨fun g e => by (have e1 : some w.heap.size = some g := e); injection e1 with e1; omega, fun k u g h => by simp at h⟩, Lib.hid (by have := World.ownsRow_lit (base := w.heap.size) (e := 2) (size := 1) (w.alloc (Obj.cells #[] 67)) (madeCells #[Value.int .i64 0] n) n (by simp) (by unfold maxLen; omega) (by rw [size_madeCells, Nat.mul_one]); rw [made_zero] at this; simpa [allP] using this), Lib.hid (bl_al (bl_al (bl_refl _) _) _)⟩
  case round =>
    obtain ⟨j, us, hj, rfl, hO, hof, hN, hbw⟩ := hrel
    have hszl := hbw.out.size
    have cqw := (hbw.out.cell (p := ⟨pa, oa, none⟩) la).trans cq
    have law : pa < wr.heap.size := by omega
    have hcnt := allP_count (nbP ps) n j
    have hul : us.length = (allP (nbP ps) n j).2.length := by rw [hO.out.len]; simp
    have hNl := (hN.out.lt (w.heap.size + 1) rfl).2
    have hulH := Lib.hid hul
    obtain ⟨A0, c0, rfl⟩ := hO.out.form hul
    clear hul
    by_cases hjn : j < n
    · have hnl := Lib.hid (allP_len (nbP ps) n j)
      obtain ⟨nm, hnm⟩ : ∃ nm, (allP (nbP ps) n j).1 = nm := ⟨_, rfl⟩
      obtain ⟨P, hP⟩ : ∃ P, (allP (nbP ps) n j).2 = P := ⟨_, rfl⟩
      obtain ⟨q, hq⟩ : ∃ q, nm[j]? = some q := ⟨_, List.getElem?_eq_getElem (by rw [← hnm, hnl.out]; exact hjn)⟩
      rw [hnm] at hN hnl
      rw [hP] at hO hulH hcnt hof ⊢
      have hnmH := Lib.hid hnm
      have hPH := Lib.hid hP
      have r0 := (hN.out.cellAt j (by omega)).trans (numsV_get hq)
      have hqH := Lib.hid hq
      clear hnm hP hq
      by_cases hq0 : q = 0
      · subst hq0
        have hsO := Lib.hid (fun (g : Nat) (h : Value.ownBlock (.slice A0 P.length c0) = some g) => (hO.out.lt g h).2)
        have hsU := Lib.hid (fun (k : Nat) (u : Value) (g : Nat) (hk : us[k]? = some u) (h : u.ownBlock = some g) => (hO.out.ltIn hk g h).2)
        have hO1 := Lib.hid ((hO.out.alloc (Obj.cells #[] 2)).alloc (Obj.cells #[.slice (some ⟨wr.heap.size, 0, none⟩) 0 0] 67))
        go_wp2_with (at_builtin; refine wpList_append_own_at _ rfl _ _ 65 rfl w.heap.size 67 i0 (.slice none 0 0) 1 24 Try.underlying65 hi hz0 hz1 hz2 rfl (by decide) _ P.length us rfl (hO1.out.outerN hulH.out) ⟨wr.heap.size + 1, 0, none⟩ 1 1 [.slice (some ⟨wr.heap.size, 0, none⟩) 0 0] rfl rfl (by have := cell_one_new (wr.alloc (Obj.cells #[] 2)) (.slice (some ⟨wr.heap.size, 0, none⟩) 0 0) 67; simpa using this) (fun x hx => by simp at hx; subst hx; rfl) (by unfold maxLen; omega) (by omega) (by simp; omega) ?_; intro v5 w5 hown5 hgrow5 _ hat5; have hs5 : wr.heap.size + 2 ≤ w5.heap.size := (by have := hgrow5.size; simpa using this); have hN5 := Lib.hid (((hN.out.alloc (Obj.cells #[] 2)).alloc (Obj.cells #[.slice (some ⟨wr.heap.size, 0, none⟩) 0 0] 67)).kept hgrow5 (.inr fun e => hof.out.1 _ e.symm rfl)); have z1 := (hN5.out.cellAt j (by omega)).trans (numsV_get hqH.out); have z2 := hN5.out.frozenAt j; have z3 := (hN5.out.lt (w.heap.size + 1) rfl).2; have hO5 := hO1.out.push hulH.out (x := .slice (some ⟨wr.heap.size, 0, none⟩) 0 0) (n := 0) (r := []) ((World.ownsRow_lit (base := w.heap.size) (e := 2) (size := 1) wr #[] 0 hszl (by decide) rfl).alloc _) (fun g e => by (have e1 : some wr.heap.size = some g := e); injection e1 with e1; subst e1; exact ⟨fun e' => by (have := hsO.out _ e'; omega), fun i u hu e' => by (have := hsU.out i u _ hu e'; omega)⟩) hown5 hgrow5 hat5; have hb5 := Lib.hid (((hbw.out.alloc hszl (Obj.cells #[] 2)).alloc (by simp; omega) (Obj.cells #[.slice (some ⟨wr.heap.size, 0, none⟩) 0 0] 67)).grown hgrow5 (by simp; omega) (fun g e => (hO.out.lt g e).1)); have hof5 := Lib.hid (show (∀ g, v5.ownBlock = some g → g ≠ w.heap.size + 1 ∧ g < w5.heap.size) from fun g e => ⟨fun hh => by (rcases hat5 with h | h; exact hof.out.1 g (h ▸ e) hh; rw [h] at e; injection e with e; simp at e; omega), (hown5.lt g e).2⟩); obtain ⟨A5, c5, rfl⟩ := ownsRow_form hown5; have hO5H := Lib.hid hO5; clear hO5 hown5 hgrow5 hat5)
        have hjl : j < nm.length := by rw [hnl.out]; exact hjn
        have hst := Lib.hid (show (numsV nm).set j (.int .i64 ((P.length : Int) + 1)) = numsV (nm.set j (P.length + 1)) by have := numsV_set nm j (P.length + 1); simpa using this)
        have hN6 := Lib.hid (((hN5.out.stored j (.int .i64 ((P.length : Int) + 1))).1).alloc (Obj.cells #[.int .i64 (j : Int)] 2))
        have hU5 := Lib.hid (show ∀ (k : Nat) (u : Value) (g : Nat), (us ++ [Value.slice (some ⟨wr.heap.size, 0, none⟩) 0 0])[k]? = some u → u.ownBlock = some g → g ≠ w.heap.size + 1 ∧ g < w5.heap.size from fun k u g hk hu => by
          refine ⟨?_, (hO5H.out.ltIn hk g hu).2⟩
          rcases Nat.lt_or_ge k us.length with hlt | hge
          · rw [List.getElem?_append_left hlt] at hk
            exact hof.out.2 k u g hk hu
          · rw [List.getElem?_append_right hge] at hk
            have := (List.getElem?_eq_some_iff.1 hk).1
            simp at this
            have h0 : k - us.length = 0 := by omega
            rw [h0] at hk
            simp at hk
            subst hk
            have e1 : some wr.heap.size = some g := hu
            injection e1 with e1
            omega)
        have hO6 := Lib.hid ((hO5H.out.offs (p := w.heap.size + 1) (fun g e => (hof5.out g e).1) (fun k u g hk hu => (hU5.out k u g hk hu).1) j (.int .i64 ((P.length : Int) + 1))).alloc (Obj.cells #[.int .i64 (j : Int)] 2))
        have hb6 := Lib.hid ((hb5.out.setCell (p := ⟨w.heap.size + 1, j, none⟩) (by simp) (.int .i64 ((P.length : Int) + 1))).alloc (by simp; omega) (Obj.cells #[.int .i64 (j : Int)] 2))
        have hR6 := Lib.hid (World.ownsRow_lit (base := w5.heap.size) (e := 2) (size := 1) (w5.setCell ⟨w.heap.size + 1, j, none⟩ (.int .i64 ((P.length : Int) + 1))) #[.int .i64 (j : Int)] 1 (by simp) (by decide) rfl)
        have hV0 := Lib.hid (VisInv.start (n := n) (c := P.length + 1) (N0 := nm) (i := j) (Nat.succ_ne_zero _) hnl.out hqH.out)
        obtain ⟨st0, hst0⟩ : ∃ st0, (([j], nm.set j (P.length + 1)) : List Nat × List Nat) = st0 := ⟨_, rfl⟩
        rw [hst.out] at hN6
        obtain ⟨W7, hW7⟩ : ∃ W7, (w5.setCell ⟨w.heap.size + 1, j, none⟩ (.int .i64 ((P.length : Int) + 1))).alloc (Obj.cells #[.int .i64 (j : Int)] 2) = W7 := ⟨_, rfl⟩
        have hsW : w5.heap.size + 1 ≤ W7.heap.size := by rw [← hW7]; simp
        rw [hW7] at hN6 hO6 hb6 hR6 ⊢
        have hN7 : Hid (W7.ownsRow w.heap.size 2 1 (.slice (some ⟨w.heap.size + 1, 0, none⟩) n n) n (numsV st0.2)) := Lib.hid (by rw [← hst0]; exact hN6.out)
        have hR7 : Hid (W7.ownsRow w5.heap.size 2 1 (.slice (some ⟨w5.heap.size, 0, none⟩) 1 1) st0.1.length (numsV st0.1)) := Lib.hid (by rw [← hst0]; simpa [numsV] using hR6.out)
        have hst0H := Lib.hid hst0
        rw [hst0] at hV0
        obtain ⟨us5, hus5⟩ : ∃ us5, us ++ [Value.slice (some ⟨wr.heap.size, 0, none⟩) 0 0] = us5 := ⟨_, rfl⟩
        rw [hus5] at hO6 hU5
        have hrep : List.replicate P.length ([] : List Value) ++ [[]] = List.replicate (P.length + 1) [] := (List.replicate_succ').symm
        rw [hrep] at hO6
        obtain ⟨cN, hcN⟩ : ∃ cN, P.length + 1 = cN := ⟨_, rfl⟩
        rw [hcN] at hV0 hO6 hof5 ⊢
        have hccH := Lib.hid hcN
        have hul5 := Lib.hid (show us5.length = cN by rw [← hus5, ← hcN]; simp [hulH.out])
        obtain ⟨s0, hs0⟩ : ∃ s0, w5.heap.size = s0 := ⟨_, rfl⟩
        rw [hs0] at hR7 hof5 hU5 hsW hs5 ⊢
        clear hst0 hN6 hR6 hN5 hO5H hO1 hb5 hO hN hbw hst hus5 hof hsO hsU r0 z1 z2 z3 hcN hrep cqw
        go_loopg [7, 6] n (fun g i v wx => ∃ (q : Nat), q + g = n ∧ i = .int .i64 (q : Int) ∧ Hid (wx.ownsRow s0 2 1 v (visS (nbP ps) cN st0 q).1.length (numsV (visS (nbP ps) cN st0 q).1)) ∧ Hid (wx.ownsRow w.heap.size 2 1 (.slice (some ⟨w.heap.size + 1, 0, none⟩) n n) n (numsV (visS (nbP ps) cN st0 q).2)) ∧ Hid (Own2 wx w.heap.size 67 2 1 (.slice A5 cN c5) us5 (List.replicate cN [])) ∧ Hid (Below w.heap.size w wx) ∧ W7.heap.size ≤ wx.heap.size)
        case atStart => exact ⟨0, by omega, rfl, hR7, hN7, hO6, hb6, by omega⟩
        case round =>
          clear hR7 hN7 hO6 hb6
          obtain ⟨q, hq, rfl, hR, hN, hO, hbx, hsx⟩ := hrel
          have hszx := hbx.out.size
          have hVq := Lib.hid (hV0.out.all (nb := nbP ps) q)
          have hlen := VisInv.length hVq.out
          obtain ⟨st, hst⟩ : ∃ st, visS (nbP ps) cN st0 q = st := ⟨_, rfl⟩
          rw [hst] at hR hN hVq hlen
          have hstH := Lib.hid hst
          clear hst
          obtain ⟨A9, c9, rfl⟩ := ownsRow_form hR.out
          by_cases hqn : q < st.1.length
          · obtain ⟨u, hu⟩ : ∃ u, st.1[q]? = some u := ⟨_, List.getElem?_eq_getElem hqn⟩
            have hun : u < n := hVq.out.lt u (List.mem_of_getElem? hu)
            obtain ⟨eu, heu⟩ : ∃ eu, xs[u]? = some eu := ⟨_, List.getElem?_eq_getElem (by omega)⟩
            have hpu : ps[u]? = some ⟨eu.x, eu.y⟩ := by rw [← hpsH.out]; exact plPt_get heu
            have hptu := (hpsH.out ▸ hSH.out : Shp ps).pt u _ hpu
            simp only at hptu
            have huH := Lib.hid hu
            have heuH := Lib.hid heu
            have hpuH := Lib.hid hpu
            have hj0 : j ∈ st0.1 := by rw [← hst0H.out]; simp
            have hjst : j ∈ st.1 := by
              rw [← hstH.out]
              obtain ⟨l, hl⟩ := visS_more (nb := nbP ps) (c := cN) (st := st0) q
              rw [hl]
              exact List.mem_append_left _ hj0
            have hjstH := Lib.hid hjst
            clear hu heu hpu hj0 hjst
            go_wp2
            go_loopg [8, 6] 4 (fun g i v wy => ∃ (d : Nat), d + g = 4 ∧ i = .int .i64 (d : Int) ∧ Hid (wy.ownsRow s0 2 1 v (vis4 (nbP ps) cN q st d).1.length (numsV (vis4 (nbP ps) cN q st d).1)) ∧ Hid (wy.ownsRow w.heap.size 2 1 (.slice (some ⟨w.heap.size + 1, 0, none⟩) n n) n (numsV (vis4 (nbP ps) cN q st d).2)) ∧ Hid (Own2 wy w.heap.size 67 2 1 (.slice A5 cN c5) us5 (List.replicate cN [])) ∧ Hid (Below w.heap.size w wy) ∧ W7.heap.size ≤ wy.heap.size)
            case atStart => exact ⟨0, by omega, rfl, hR, hN, hO, hbx, hsx⟩
            case round =>
              clear hR hN hO hbx hsx hszx
              obtain ⟨d, hd, rfl, hR, hN, hO, hby, hsy⟩ := hrel
              have hszy := hby.out.size
              have hVd := Lib.hid (hVq.out.four (nb := nbP ps) q d)
              have hlend := VisInv.length hVd.out
              have hud := vis4_at (nb := nbP ps) (c := cN) huH.out d
              have hjd : (vis4 (nbP ps) cN q st d).2[j]? = some cN := by
                obtain ⟨l, hl⟩ := vis4_grow (nb := nbP ps) (c := cN) (st := st) q d
                exact hVd.out.is j (by rw [hl]; exact List.mem_append_left _ hjstH.out)
              have h4 : vis4 (nbP ps) cN q st (d + 1) = vis1 (nbP ps) cN q d (vis4 (nbP ps) cN q st d) := rfl
              have h4' : d = 4 → vis4 (nbP ps) cN q st d = visS (nbP ps) cN st0 (q + 1) := fun e => by subst e; rw [← hstH.out]; rfl
              obtain ⟨sd, hsd⟩ : ∃ sd, vis4 (nbP ps) cN q st d = sd := ⟨_, rfl⟩
              rw [hsd] at hR hN hVd hlend hud h4 h4' hjd
              have h4H := Lib.hid h4
              have h4'H := Lib.hid h4'
              clear hsd h4 h4'
              have hqd : q < sd.1.length := (List.getElem?_eq_some_iff.1 hud).1
              obtain ⟨A9, c9, rfl⟩ := ownsRow_form hR.out
              by_cases hd4 : d < 4
              · have hdI : (d : Int) < 4 := by omega
                obtain ⟨g9, cap9, hv9⟩ : ∃ g9 cap9, Value.slice A9 sd.1.length c9 = .slice (some ⟨g9, 0, none⟩) sd.1.length cap9 := by
                  rcases hR.out.2 with ⟨_, h0⟩ | ⟨g, cap, cur, hv, _⟩
                  · omega
                  · exact ⟨g, cap, hv⟩
                injection hv9 with hv1 hv2 hv3
                subst hv1 hv3
                clear hv2
                have hgl := (hR.out.lt g9 rfl)
                have r0 := (hR.out.cellAt q (by omega)).trans (numsV_get hud)
                have r9 := (hN.out.cellAt j (by omega)).trans (numsV_get hjd)
                have hNl := (hN.out.lt (w.heap.size + 1) rfl).2
                have cqy := (hby.out.cell (p := ⟨pa, oa, none⟩) la).trans cq
                have lay : pa < wr.heap.size := by omega
                obtain ⟨_, C', k', cc', cq', hRx⟩ := hAH.out.below hby.out
                rw [cqy] at cq'
                obtain ⟨rfl, rfl, rfl⟩ : C = C' ∧ n = k' ∧ cc = cc' := by injection cq' with h; injection h with a b c; exact ⟨a, b, c⟩
                obtain ⟨bC, oC, hCe, hbC, hcC⟩ := hRx.ptr (by omega)
                obtain ⟨d0, d1, d2⟩ := hcC u eu heuH.out
                subst hCe
                obtain ⟨sx, hsxe⟩ : ∃ sx, stepX eu.x (d : Nat) = sx := ⟨_, rfl⟩
                obtain ⟨sy, hsye⟩ : ∃ sy, stepY eu.y (d : Nat) = sy := ⟨_, rfl⟩
                have hsxH := Lib.hid hsxe
                have hsyH := Lib.hid hsye
                have hudH := Lib.hid hud
                have hjdH := Lib.hid hjd
                have hAy := Lib.hid (hAH.out.below hby.out)
                clear hsxe hsye hud hjd hcC hRx cq'
                
                cases hix : idxP ps sx sy with
                | none =>
                  have hms := Lib.hid (vis1_none (c := cN) (d := d) hudH.out hpuH.out (by rw [hsxH.out, hsyH.out]; exact hix))
                  have hri := Lib.hid (idxI_none hix)
                  clear hix
                  go_wp2
                  refine wp_region_ord [(0, .q), (1, .q), (2, .q), (3, .q), (4, .q), (5, .q), (6, .q), (7, .q), (8, .q), (9, .q), (10, .q), (11, .q), (12, .q), (13, .g), (14, .g), (15, .q)] (by kernel_rfl) (by kernel_rfl) ?_
                  simp only [pick, List.filterMap_cons, List.filterMap_nil, List.getElem?_toArray, List.getElem?_cons_zero, List.getElem?_cons_succ, Option.map_some]
                  repeat (first
                    | ((with_reducible refine wpD_p (fun K hK => ?_)); go_simp; refine hK _ ?_; clear hK K)
                    | ((with_reducible refine wpD_q (fun K hK => ?_)); go_simp; (first | refine hK _ ?_ | (go_bits; refine hK _ ?_) | (go_bits; go_simp; refine hK _ ?_)); clear hK K)
                    | ((with_reducible refine wpD_g (fun K hK => ?_)); go_simp; refine hK _ _ ?_; clear hK K)
                    | ((with_reducible refine wpD_g (fun K hK => ?_)); go_simp; refine ⟨Grew.of_alloc _, hK _ _ ?_⟩; clear hK K)
                    | ((with_reducible refine wpD_g (fun K hK => ?_)); go_simp; go_at_call 40; refine (l01Step_to _ hd4 ⟨by omega, by omega⟩ ⟨by omega, by omega⟩ hsxH.out hsyH.out).mono ?_; rintro e w1 ⟨rfl, hb1⟩; refine ⟨_, rfl, hb1, hK _ _ ?_⟩; clear hK K; obtain ⟨chb1, fhb1, shb1, thb1⟩ := bcell hb1; (try have bhb10 := shb1 (pa) (by go_simp)))
                    | ((with_reducible refine wpD_g (fun K hK => ?_)); go_simp; go_at_call 64; refine (l03IndexS_at (hAy.out.below (by exact bel_)) hSH.out hn hpsH.out hri.out).mono ?_; rintro e w2 ⟨rfl, hb2⟩; refine ⟨_, rfl, hb2, hK _ _ ?_⟩; clear hK K; obtain ⟨chb2, fhb2, shb2, thb2⟩ := bcell hb2; (try have bhb20 := shb2 (pa) (by go_simp))))
                  with_reducible refine wpD_nil ?_
                  have hb2' : Below wr.heap.size wr w2 := by exact bel_
                  have hb2H := Lib.hid hb2'
                  have hs2 := hb2'.size
                  go_wp2
                  go_roundg (4 - (d + 1))
                  case measure => omega
                  case rel => exact ⟨d + 1, by omega, by go_num, Lib.hid (by rw [h4H.out, hms.out]; exact ownsRow_below hR.out hb2H.out), Lib.hid (by rw [h4H.out, hms.out]; exact ownsRow_below hN.out hb2H.out), Lib.hid (hO.out.below hb2H.out), Lib.hid (hby.out.trans (hb2H.out.mono hszy)), by omega⟩
                | some v =>
                  have hvp := idxP_some hix
                  have hvn : v < n := by rw [← hlp.out]; exact lt_of_get hvp
                  obtain ⟨q', hq'⟩ : ∃ q', sd.2[v]? = some q' := ⟨_, List.getElem?_eq_getElem (by rw [hVd.out.len]; exact hvn)⟩
                  have r2 := (hN.out.cellAt v (by omega)).trans (numsV_get hq')
                  have hri := Lib.hid (idxI_some hix)
                  have hixH := Lib.hid (show idxP ps (stepX eu.x d) (stepY eu.y d) = some v by rw [hsxH.out, hsyH.out]; exact hix)
                  have hq'H := Lib.hid hq'
                  clear hix hvp hq'
                  by_cases hq0 : q' = 0
                  · subst hq0
                    have hvis := Lib.hid (vis1_new (c := cN) (d := d) hudH.out hpuH.out hixH.out hq'H.out)
                    go_wp2
                    refine wp_region_ord [(0, .q), (1, .q), (2, .q), (3, .q), (4, .q), (5, .q), (6, .q), (7, .q), (8, .q), (9, .q), (10, .q), (11, .q), (12, .q), (13, .g), (14, .g), (15, .q)] (by kernel_rfl) (by kernel_rfl) ?_
                    simp only [pick, List.filterMap_cons, List.filterMap_nil, List.getElem?_toArray, List.getElem?_cons_zero, List.getElem?_cons_succ, Option.map_some]
                    repeat (first
                      | ((with_reducible refine wpD_p (fun K hK => ?_)); go_simp; refine hK _ ?_; clear hK K)
                      | ((with_reducible refine wpD_q (fun K hK => ?_)); go_simp; (first | refine hK _ ?_ | (go_bits; refine hK _ ?_) | (go_bits; go_simp; refine hK _ ?_)); clear hK K)
                      | ((with_reducible refine wpD_g (fun K hK => ?_)); go_simp; refine hK _ _ ?_; clear hK K)
                      | ((with_reducible refine wpD_g (fun K hK => ?_)); go_simp; refine ⟨Grew.of_alloc _, hK _ _ ?_⟩; clear hK K)
                      | ((with_reducible refine wpD_g (fun K hK => ?_)); go_simp; go_at_call 40; refine (l01Step_to _ hd4 ⟨by omega, by omega⟩ ⟨by omega, by omega⟩ hsxH.out hsyH.out).mono ?_; rintro e w1 ⟨rfl, hb1⟩; refine ⟨_, rfl, hb1, hK _ _ ?_⟩; clear hK K; obtain ⟨chb1, fhb1, shb1, thb1⟩ := bcell hb1; (try have bhb10 := shb1 (pa) (by go_simp)))
                      | ((with_reducible refine wpD_g (fun K hK => ?_)); go_simp; go_at_call 64; refine (l03IndexS_at (hAy.out.below (by exact bel_)) hSH.out hn hpsH.out hri.out).mono ?_; rintro e w2 ⟨rfl, hb2⟩; refine ⟨_, rfl, hb2, hK _ _ ?_⟩; clear hK K; obtain ⟨chb2, fhb2, shb2, thb2⟩ := bcell hb2; (try have bhb20 := shb2 (pa) (by go_simp))))
                    with_reducible refine wpD_nil ?_
                    have hb2' : Below wr.heap.size wr w2 := by exact bel_
                    have hb2H := Lib.hid hb2'
                    have hs2 := hb2'.size
                    have q2 := (hb2'.cell (p := ⟨w.heap.size + 1, v, none⟩) hNl).trans r2
                    have q9 := (hb2'.cell (p := ⟨w.heap.size + 1, j, none⟩) hNl).trans r9
                    have qf := (hb2'.frozen (p := ⟨w.heap.size + 1, v, none⟩) hNl).trans (hN.out.frozenAt v)
                    have ql : w.heap.size + 1 < w2.heap.size := by omega
                    have hR2 := Lib.hid ((ownsRow_below hR.out hb2').kept (gby_setCell w2 (w.heap.size + 1) v (.int .i64 (cN : Int))) (.inr (by intro e; (have e1 : some g9 = some (w.heap.size + 1) := e); injection e1 with e1; omega)))
                    have hN2 := Lib.hid (((ownsRow_below hN.out hb2').stored v (.int .i64 (cN : Int))).1)
                    have hO2 := Lib.hid ((hO.out.below hb2').offs (p := w.heap.size + 1) (fun g e => (hof5.out g e).1) (fun k u g hk hu => (hU5.out k u g hk hu).1) v (.int .i64 (cN : Int)))
                    have hbs := Lib.hid ((hby.out.trans (hb2'.mono hszy)).setCell (p := ⟨w.heap.size + 1, v, none⟩) (by simp) (.int .i64 (cN : Int)))
                    clear hb2'
                    go_wp2_with (at_builtin; refine wpList_append_own_at _ rfl _ _ 67 rfl s0 2 i1 (.int .i64 0) 1 8 Try.underlying67 hi' hz0' hz1' hz2' rfl (by decide) _ sd.1.length (numsV sd.1) rfl (hR2.out.alloc _) ⟨w2.heap.size, 0, none⟩ 1 1 [.int .i64 (v : Int)] rfl rfl (by have := cell_one_new (w2.setCell ⟨w.heap.size + 1, v, none⟩ (.int .i64 (cN : Int))) (.int .i64 (v : Int)) 2; simpa using this) (fun x hx => by simp at hx; subst hx; rfl) (by unfold maxLen; omega) (by omega) (by simp; omega) ?_; intro v5 w8 hown8 hgrow8 _ hat8; have hown8H := Lib.hid hown8; have hgrow8H := Lib.hid hgrow8; clear hown8 hgrow8 hat8)
                    have hs8 : w2.heap.size + 1 ≤ w8.heap.size := by have := hgrow8H.out.size; simpa using this
                    go_roundg (4 - (d + 1))
                    case measure => omega
                    case rel =>
                      refine ⟨d + 1, by omega, by go_num, Lib.hid ?_, Lib.hid ?_, Lib.hid ?_, Lib.hid ((hbs.out.alloc (by simp; omega) _).grown hgrow8H.out (by simp; omega) fun g e => by (have e1 : some g9 = some g := e); injection e1 with e1; omega), by omega⟩
                      · rw [h4H.out, hvis.out]
                        have := hown8H.out
                        rw [numsV_snoc] at this
                        simpa using this
                      · rw [h4H.out, hvis.out]
                        have h1 := hN2.out
                        rw [numsV_set] at h1
                        exact (h1.alloc _).kept hgrow8H.out (.inr (by intro e; (have e1 : some (w.heap.size + 1) = some g9 := e); injection e1 with e1; omega))
                      · refine (hO2.out.alloc _).kept hgrow8H.out fun g e => ?_
                        have e1 : some g9 = some g := e
                        injection e1 with e1
                        subst e1
                        exact ⟨fun e' => by have := (hof5.out _ e').2; omega, fun i u hu e' => by have := (hU5.out i u _ hu e').2; omega⟩
                  · have hms := Lib.hid (vis1_old (c := cN) (d := d) hudH.out hpuH.out hixH.out hq'H.out hq0)
                    have hqd0 : ((q' : Int) == 0) = false := by simp; omega
                    go_wp2
                    refine wp_region_ord [(0, .q), (1, .q), (2, .q), (3, .q), (4, .q), (5, .q), (6, .q), (7, .q), (8, .q), (9, .q), (10, .q), (11, .q), (12, .q), (13, .g), (14, .g), (15, .q)] (by kernel_rfl) (by kernel_rfl) ?_
                    simp only [pick, List.filterMap_cons, List.filterMap_nil, List.getElem?_toArray, List.getElem?_cons_zero, List.getElem?_cons_succ, Option.map_some]
                    repeat (first
                      | ((with_reducible refine wpD_p (fun K hK => ?_)); go_simp; refine hK _ ?_; clear hK K)
                      | ((with_reducible refine wpD_q (fun K hK => ?_)); go_simp; (first | refine hK _ ?_ | (go_bits; refine hK _ ?_) | (go_bits; go_simp; refine hK _ ?_)); clear hK K)
                      | ((with_reducible refine wpD_g (fun K hK => ?_)); go_simp; refine hK _ _ ?_; clear hK K)
                      | ((with_reducible refine wpD_g (fun K hK => ?_)); go_simp; refine ⟨Grew.of_alloc _, hK _ _ ?_⟩; clear hK K)
                      | ((with_reducible refine wpD_g (fun K hK => ?_)); go_simp; go_at_call 40; refine (l01Step_to _ hd4 ⟨by omega, by omega⟩ ⟨by omega, by omega⟩ hsxH.out hsyH.out).mono ?_; rintro e w1 ⟨rfl, hb1⟩; refine ⟨_, rfl, hb1, hK _ _ ?_⟩; clear hK K; obtain ⟨chb1, fhb1, shb1, thb1⟩ := bcell hb1; (try have bhb10 := shb1 (pa) (by go_simp)))
                      | ((with_reducible refine wpD_g (fun K hK => ?_)); go_simp; go_at_call 64; refine (l03IndexS_at (hAy.out.below (by exact bel_)) hSH.out hn hpsH.out hri.out).mono ?_; rintro e w2 ⟨rfl, hb2⟩; refine ⟨_, rfl, hb2, hK _ _ ?_⟩; clear hK K; obtain ⟨chb2, fhb2, shb2, thb2⟩ := bcell hb2; (try have bhb20 := shb2 (pa) (by go_simp))))
                    with_reducible refine wpD_nil ?_
                    have hb2' : Below wr.heap.size wr w2 := by exact bel_
                    have hb2H := Lib.hid hb2'
                    have hs2 := hb2'.size
                    have q2 := (hb2'.cell (p := ⟨w.heap.size + 1, v, none⟩) hNl).trans r2
                    have ql : w.heap.size + 1 < w2.heap.size := by omega
                    clear hb2'
                    go_wp2
                    go_roundg (4 - (d + 1))
                    case measure => omega
                    case rel => exact ⟨d + 1, by omega, by go_num, Lib.hid (by rw [h4H.out, hms.out]; exact ownsRow_below hR.out hb2H.out), Lib.hid (by rw [h4H.out, hms.out]; exact ownsRow_below hN.out hb2H.out), Lib.hid (hO.out.below hb2H.out), Lib.hid (hby.out.trans (hb2H.out.mono hszy)), by omega⟩
              · obtain rfl : d = 4 := by omega
                go_wp2
                go_roundg (n - (q + 1))
                case measure => omega
                case rel =>
                  refine ⟨q + 1, by omega, by go_num, Lib.hid ?_, Lib.hid ?_, hO, hby, hsy⟩
                  · rw [← h4'H.out (by simp)]; exact hR.out
                  · rw [← h4'H.out (by simp)]; exact hN.out
          · have hend := Lib.hid (visS_end hV0.out (nb := nbP ps) (k := q) (by rw [hstH.out]; omega))
            have hyes := Lib.hid (allP_yes (nb := nbP ps) (n := n) (i := j) hnmH.out hPH.out hqH.out (st := st) (by rw [hst0H.out, hccH.out, ← hend.out, hstH.out]))
            go_wp2
            go_roundg (n - (j + 1))
            case measure => omega
            case rel => exact ⟨j + 1, us5, by omega, by go_num, Lib.hid (by rw [hyes.out.2]; simp only [List.length_append, List.length_singleton]; rw [hccH.out]; exact hO.out), Lib.hid ⟨fun g e => (hof5.out g e).1, fun k u g hk hu => (hU5.out k u g hk hu).1⟩, Lib.hid (by rw [hyes.out.1]; exact hN.out), hbx⟩
      · have hqp : (0 : Int) < (q : Int) := by omega
        have hno := Lib.hid (allP_no (nb := nbP ps) (n := n) (i := j) (by rw [hnmH.out, hqH.out]; intro hh; injection hh with hh; exact hq0 hh))
        go_wp2
        go_roundg (n - (j + 1))
        case measure => omega
        case rel => exact ⟨j + 1, us, by omega, by go_num, Lib.hid (by rw [hno.out, hPH.out]; exact hO.out), hof, Lib.hid (by rw [hno.out, hnmH.out]; exact hN.out), hbw⟩
    · obtain rfl : j = n := by omega
      obtain ⟨nm, hnm⟩ : ∃ nm, (allP (nbP ps) j j).1 = nm := ⟨_, rfl⟩
      obtain ⟨P, hP⟩ : ∃ P, (allP (nbP ps) j j).2 = P := ⟨_, rfl⟩
      have hnamed := Lib.hid (fun (v : Nat) (hv : v < j) => (hnm ▸ hP ▸ allP_named (nb := nbP ps) hv : ∃ q, nm[v]? = some (q + 1) ∧ q < P.length))
      rw [hnm] at hN
      rw [hP] at hO hulH hcnt hof
      rw [hnm, hP]
      obtain ⟨cN, hcN⟩ : ∃ cN, P.length = cN := ⟨_, rfl⟩
      rw [hcN] at hO hulH hcnt hof hnamed ⊢
      have hO0 : Hid (Own2 wr w.heap.size 67 2 1 (.slice A0 cN c0) us ((namesL nm cN 0).map numsV)) := Lib.hid (by rw [namesL_zero]; exact hO.out)
      have hEq := Lib.hid (show namesL (allP (nbP ps) j j).1 (allP (nbP ps) j j).2.length j = namesL nm cN j by rw [hnm, hP, hcN])
      clear hnm hP hcN hO
      go_wp2
      go_loopg [10] j (fun g i wy => ∃ (t : Nat) (us : List Value), t + g = j ∧ i = .int .i64 (t : Int) ∧ Hid (Own2 wy w.heap.size 67 2 1 (.slice A0 cN c0) us ((namesL nm cN t).map numsV)) ∧ Hid (∀ (k : Nat) (u : Value) (g : Nat), us[k]? = some u → u.ownBlock = some g → g ≠ w.heap.size + 1) ∧ Hid (us.length = cN) ∧ Hid (wy.ownsRow w.heap.size 2 1 (.slice (some ⟨w.heap.size + 1, 0, none⟩) j j) j (numsV nm)) ∧ Hid (Below w.heap.size w wy))
      case atStart => exact ⟨0, us, by omega, rfl, hO0, Lib.hid hof.out.2, hulH, hN, hbw⟩
      case round =>
        clear hO0 hN hbw hulH hszl cqw law hNl
        have hofv := Lib.hid hof.out.1
        clear hof
        obtain ⟨t, us, ht, rfl, hO, hofu, hul, hN, hbw⟩ := hrel
        have hszl := hbw.out.size
        have hNl := (hN.out.lt (w.heap.size + 1) rfl).2
        by_cases htn : t < j
        · obtain ⟨q, hq, hqc⟩ := hnamed.out t htn
          obtain ⟨g2, cap2, hv⟩ := hO.out.formPos hul.out (by omega)
          injection hv with hv1 hv2 hv3
          subst hv1 hv3
          clear hv2
          have r0 : wr.cell? ⟨w.heap.size + 1, t, none⟩ = some (.int .i64 ((q : Int) + 1)) := by
            have := (hN.out.cellAt t (by omega)).trans (numsV_get hq)
            simpa using this
          have hsucc := Lib.hid (namesL_succ (c := cN) hq hqc)
          obtain ⟨u, hu⟩ : ∃ u, us[q]? = some u := ⟨_, List.getElem?_eq_getElem (by rw [hul.out]; exact hqc)⟩
          obtain ⟨n', r', hr', hown0⟩ := hO.out.get hu
          rw [List.getElem?_map, namesL_get hqc] at hr'
          simp only [Option.map_some, Option.some.injEq] at hr'
          subst hr'
          obtain ⟨A1, cap1, rfl⟩ := ownsRow_form hown0
          have huH := Lib.hid hu
          have hownH := Lib.hid hown0
          have hl' := hown0.1
          rw [numsV_len, Nat.mul_one] at hl'
          have hll : n' ≤ t := by
            rw [← hl']
            exact nameL_len nm q t
          obtain ⟨q1, q2, q3⟩ := hO.out.cellAt hul.out hu
          obtain ⟨rowa, hrowa⟩ : ∃ row, (Value.slice A1 n' cap1).ownBlock = row := ⟨_, rfl⟩
          have r1a : ¬ some (w.heap.size + 1) = rowa := fun h => hofu.out q _ _ huH.out (hrowa.trans h.symm) rfl
          have r2a : ¬ some g2 = rowa := fun h => hO.out.off q _ _ huH.out (hrowa.trans h.symm) rfl
          have hg2 : g2 ≠ w.heap.size + 1 := hofv.out g2 rfl
          clear hq hu hown0 hl'
          go_wp2
          refine wp_region_row (rowa) [(0, .q), (1, .q), (2, .q), (3, .q), (4, .q), (5, .q), (6, .q), (7, .q), (8, .q), (9, .q), (10, .q), (11, .q), (12, .q), (13, .q), (14, .q), (15, .g), (16, .g), (17, .q), (18, .b)] (by kernel_rfl) (by kernel_rfl) ?_
          simp only [pick, List.filterMap_cons, List.filterMap_nil, List.getElem?_toArray, List.getElem?_cons_zero, List.getElem?_cons_succ, Option.map_some]
          repeat (first | ((with_reducible refine wpR_p (fun K hK => ?_)); go_simp; refine hK _ ?_; clear hK K) | ((with_reducible refine wpR_q (fun K hK => ?_)); go_simp; (first | refine hK _ ?_ | (go_bits; refine hK _ ?_) | (go_bits; go_simp; refine hK _ ?_)); clear hK K))
          with_reducible refine wpR_g (fun K hK => ?_)
          go_simp
          refine ⟨GrewR.of_alloc _, hK _ _ ?_⟩
          clear hK K
          have hba : Below wr.heap.size wr (wr.alloc (Obj.cells #[.int .i64 (t : Int)] 2)).drew := by exact bel_
          have hbaH := Lib.hid hba
          clear hba
          refine wpR_append_at rfl _ _ 67 rfl w.heap.size 2 i1 (.int .i64 0) 1 8 Try.underlying67 hi' hz0' hz1' hz2' rfl (by decide) (.slice A1 n' cap1) n' (numsV (nameL nm q t)) (by go_simp) (ownsRow_below hownH.out hbaH.out) hrowa ⟨wr.heap.size, 0, none⟩ 1 1 [.int .i64 (t : Int)] (by go_simp) rfl ?hnewsa (fun x hx => by simp at hx; subst hx; rfl) (by unfold maxLen; omega) (by omega) (by simp; omega) ?_
          case hnewsa =>
            have := cell_one_new wr (.int .i64 (t : Int)) 2
            simpa using this
          intro va w3 hown3 hgrow3 hat3
          obtain ⟨A3, cap3, rfl⟩ := ownsRow_form hown3
          obtain ⟨z1, z2, z3, z4⟩ := (hO.out.below hbaH.out).after hul.out huH.out hgrow3
          have hown3H := Lib.hid hown3
          have hgrow3H := Lib.hid hgrow3
          have hat3H := Lib.hid hat3
          have n1 := (World.cell?_of_block (w := (wr.alloc (Obj.cells #[.int .i64 (t : Int)] 2)).drew) (w' := w3) (a := ⟨w.heap.size + 1, t, none⟩) (hgrow3.block (w.heap.size + 1) (by simp; omega) (fun h => r1a (h.trans hrowa))))
          clear hown3 hgrow3 hat3
          repeat (first | ((with_reducible refine wpR_p (fun K hK => ?_)); go_simp; refine hK _ ?_; clear hK K) | ((with_reducible refine wpR_q (fun K hK => ?_)); go_simp; (first | refine hK _ ?_ | (go_bits; refine hK _ ?_) | (go_bits; go_simp; refine hK _ ?_)); clear hK K))
          with_reducible refine wpR_b (fun K hK => ?_)
          go_simp
          refine hK _ _ ?_
          clear hK K
          with_reducible refine wpR_nil ?_
          go_wp2
          go_roundg (j - (t + 1))
          case measure => omega
          case rel =>
            have hF := (hO.out.below hbaH.out).grow hul.out huH.out hown3H.out hgrow3H.out hat3H.out
            refine ⟨t + 1, us.set q (.slice A3 (n' + 1) cap3), by omega, by go_num, Lib.hid ?_, Lib.hid ?_, Lib.hid (by rw [List.length_set]; exact hul.out), Lib.hid ?_, Lib.hid ?_⟩
            · have hrw : ((namesL nm cN t).map numsV).set q (numsV (nameL nm q t) ++ [Value.int .i64 (t : Int)]) = (namesL nm cN (t + 1)).map numsV := by
                rw [hsucc.out, List.map_set, numsV_snoc]
              rw [hrw] at hF
              exact hF
            · intro k u g hk hu e
              by_cases hkq : q = k
              · subst hkq
                rw [List.getElem?_set_self (by rw [hul.out]; exact hqc)] at hk
                injection hk with hk
                subst hk
                rcases hat3H.out with h | h
                · exact hofu.out q _ g huH.out (h ▸ hu) e
                · rw [h] at hu
                  injection hu with hu
                  have := hbaH.out.size
                  omega
              · rw [List.getElem?_set_ne hkq] at hk
                exact hofu.out k u g hk hu e
            · exact (((ownsRow_below hN.out hbaH.out).kept hgrow3H.out (.inr fun h => r1a (h.trans hrowa))).kept (gby_setCell w3 g2 q _) (.inr (by intro e; (have e1 : some (w.heap.size + 1) = some g2 := e); injection e1 with e1; omega)))
            · have h1 : Below w.heap.size w w3 := (hbw.out.trans (hbaH.out.mono hszl)).grown hgrow3H.out (by have := hbaH.out.size; omega) (fun g e => (hownH.out.lt g e).1)
              exact h1.setCell (p := ⟨g2, q, none⟩) z4 _
        · obtain rfl : t = j := by omega
          go_wp2
          go_ret
          exact ⟨.slice A0 cN c0, us, rfl, by rw [hEq.out]; exact hO.out, hbw.out⟩
end Go.Proofs.Ytpnahobgmemdjaa
/- Walks: the reference's connected parts of points. -/



namespace Go.Proofs.Ytpnahobgmemdjaa
open Go.RowKit Go.Shelf
attribute [local go_sem] BelowBy.cell BelowBy.cell_drew stillUpon givesUpon

def pl0 (e : Pt) : Pl := ⟨e.x, e.y, 0⟩
theorem pl0_pt (ps : List Pt) : (ps.map pl0).map plPt = ps := by
  rw [List.map_map]
  have : (plPt ∘ pl0) = id := by funext e; rfl
  rw [this, List.map_id]
theorem infoPlQ : (Try.prog.info? 38).map (fun i => (i.zero, i.size, i.bytes)) = some (some (.agg #[.int .i64 0, .int .i64 0, .int .i64 0]), 3, 24) := by kernel_rfl
theorem nameL_lt {nm : List Nat} {q t v : Nat} (h : v ∈ nameL nm q t) : v < t := by
  unfold nameL at h
  have := (List.mem_filter.1 h).1
  simpa using this
theorem partsN_len (ps : List Pt) : (partsN ps).length = (allP (nbP ps) ps.length ps.length).2.length := by simp [partsN, namesL]
theorem partsN_le (ps : List Pt) : (partsN ps).length ≤ ps.length := by rw [partsN_len]; exact allP_count _ _ _
theorem partsN_lt {ps : List Pt} {i : Nat} {l : List Nat} (h : (partsN ps)[i]? = some l) : ∀ v ∈ l, v < ps.length := by
  intro v hv
  have := List.mem_of_getElem? h
  unfold partsN namesL at this
  rw [List.mem_map] at this
  obtain ⟨q, _, rfl⟩ := this
  exact nameL_lt hv
theorem partsN_each {ps : List Pt} {i : Nat} {l : List Nat} (h : (partsN ps)[i]? = some l) : l.length ≤ ps.length := by
  have := List.mem_of_getElem? h
  unfold partsN namesL at this
  rw [List.mem_map] at this
  obtain ⟨q, _, rfl⟩ := this
  exact nameL_len _ _ _
def rowsQ (ps : List Pt) (P : List (List Nat)) : List (List Value) := P.map fun l => ptCells (ptsAt ps l)
end Go.Proofs.Ytpnahobgmemdjaa
