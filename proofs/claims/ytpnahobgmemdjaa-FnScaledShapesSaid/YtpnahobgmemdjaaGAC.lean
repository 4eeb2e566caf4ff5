import Derived.Test.YtpnahobgmemdjaaGAB
import Derived.Lib.SlicesS
import Derived.Test.YtpnahobgmemdjaaGAA
set_option linter.unusedSimpArgs false
set_option linter.unusedVariables false
/- Walks: the reference's functions on sets. -/


namespace Go.Proofs.Ytpnahobgmemdjaa
open Go.RowKit
attribute [local go_sem] BelowBy.cell BelowBy.cell_drew stillUpon givesUpon
/-- A tile set lies in block p. -/
structure SetAt (w : World) (p op : Nat) (gs : List Gl) (ts : List Ti) : Prop where
  lt : p < w.heap.size
  gl : ∃ A n c, w.cell? ⟨p, op, none⟩ = some (.slice A n c) ∧ RdSl 2 RGl w A n gs
  ti : ∃ A n c, w.cell? ⟨p, op + 1, none⟩ = some (.slice A n c) ∧ RdSl 2 RTi w A n ts
theorem SetAt.below {op : Nat} {w w' : World} {p : Nat} {gs : List Gl} {ts : List Ti} (h : SetAt w p op gs ts) (hb : Below w.heap.size w w') : SetAt w' p op gs ts := by
  obtain ⟨A, n, c, h1, h2⟩ := h.gl
  obtain ⟨B, m, d, h3, h4⟩ := h.ti
  exact ⟨Nat.lt_of_lt_of_le h.lt hb.size, ⟨A, n, c, (hb.cell (p := ⟨p, op, none⟩) h.lt).trans h1, h2.below RGl.stable hb⟩, ⟨B, m, d, (hb.cell (p := ⟨p, op + 1, none⟩) h.lt).trans h3, h4.below RTi.stable hb⟩⟩
/-- no earlier glue has the name of glue j -/
def freshG (gs : List Gl) (j : Nat) : Bool := match gs[j]? with
  | none => true
  | some g => allB j (fun i => match gs[i]? with | none => true | some e => decide (e.name ≠ g.name))
def freshT (ts : List Ti) (j : Nat) : Bool := match ts[j]? with
  | none => true
  | some g => allB j (fun i => match ts[i]? with | none => true | some e => decide (e.name ≠ g.name))
theorem freshG_true {gs : List Gl} {j : Nat} {g : Gl} (hj : gs[j]? = some g) (h : ∀ i, i < j → ∀ e, gs[i]? = some e → e.name ≠ g.name) : freshG gs j = true := by
  unfold freshG; rw [hj]
  exact allB_true fun i hi => by
    cases he : gs[i]? with
    | none => simp [he]
    | some e => simpa [he] using h i hi e he
theorem freshG_false {gs : List Gl} {i j : Nat} {g e : Gl} (hj : gs[j]? = some g) (hi : i < j) (he : gs[i]? = some e) (h : e.name = g.name) : freshG gs j = false := by
  unfold freshG; rw [hj]
  exact allB_false hi (by simp [he, h])
theorem freshT_true {ts : List Ti} {j : Nat} {g : Ti} (hj : ts[j]? = some g) (h : ∀ i, i < j → ∀ e, ts[i]? = some e → e.name ≠ g.name) : freshT ts j = true := by
  unfold freshT; rw [hj]
  exact allB_true fun i hi => by
    cases he : ts[i]? with
    | none => simp [he]
    | some e => simpa [he] using h i hi e he
theorem freshT_false {ts : List Ti} {i j : Nat} {g e : Ti} (hj : ts[j]? = some g) (hi : i < j) (he : ts[i]? = some e) (h : e.name = g.name) : freshT ts j = false := by
  unfold freshT; rw [hj]
  exact allB_false hi (by simp [he, h])
def okGl (gs : List Gl) (j : Nat) : Bool := match gs[j]? with
  | none => true
  | some g => isNameB g.name && (inB g.s 1 4 && freshG gs j)
def okSide (n : Nat) (xs : List Int) (j : Nat) : Bool := match xs[j]? with
  | none => true
  | some x => inB x 0 n
def okTi (n : Nat) (ts : List Ti) (j : Nat) : Bool := match ts[j]? with
  | none => true
  | some t => isNameB t.name && (decide (t.sides.length = 4) && (freshT ts j && allB t.sides.length (okSide n t.sides)))
def validSetB (gs : List Gl) (ts : List Ti) : Bool := (decide (gs.length ≤ 200) && (decide (1 ≤ ts.length) && decide (ts.length ≤ 160))) && (allB gs.length (okGl gs) && allB ts.length (okTi gs.length ts))
end Go.Proofs.Ytpnahobgmemdjaa
/- Walks: the reference's check of a set. -/

namespace Go.Proofs.Ytpnahobgmemdjaa
open Go.RowKit
attribute [local go_sem] BelowBy.cell BelowBy.cell_drew stillUpon givesUpon
theorem neq_t {r a : Int} {b : Bool} (h : (r == a) = b) (hb : b = true) : (r != a) = false := by subst hb; simpa using h
theorem neq_f {r a : Int} {b : Bool} (h : (r == a) = b) (hb : b = false) : (r != a) = true := by subst hb; simpa using h
theorem okGl_eq {gs : List Gl} {j : Nat} {g : Gl} (h : gs[j]? = some g) : okGl gs j = (isNameB g.name && (inB g.s 1 4 && freshG gs j)) := by unfold okGl; rw [h]
theorem okTi_eq {n : Nat} {ts : List Ti} {j : Nat} {t : Ti} (h : ts[j]? = some t) : okTi n ts j = (isNameB t.name && (decide (t.sides.length = 4) && (freshT ts j && allB t.sides.length (okSide n t.sides)))) := by unfold okTi; rw [h]
theorem validSetB_gl {gs : List Gl} {ts : List Ti} {k : Nat} (hk : k < gs.length) (h : okGl gs k = false) : validSetB gs ts = false := by
  unfold validSetB; rw [allB_false hk h]; simp
theorem validSetB_ti {gs : List Gl} {ts : List Ti} {k : Nat} (hk : k < ts.length) (h : okTi gs.length ts k = false) : validSetB gs ts = false := by
  unfold validSetB; rw [allB_false hk h]; simp
theorem validSetB_ok {gs : List Gl} {ts : List Ti} (h1 : gs.length ≤ 200) (h2 : 1 ≤ ts.length) (h3 : ts.length ≤ 160) (hg : ∀ j, j < gs.length → okGl gs j = true) (ht : ∀ j, j < ts.length → okTi gs.length ts j = true) : validSetB gs ts = true := by
  unfold validSetB; rw [allB_true hg, allB_true ht]; simp [h1, h2, h3]
theorem validSetB_size {gs : List Gl} {ts : List Ti} (h : ¬ (gs.length ≤ 200 ∧ 1 ≤ ts.length ∧ ts.length ≤ 160)) : validSetB gs ts = false := by
  unfold validSetB
  have : (decide (gs.length ≤ 200) && (decide (1 ≤ ts.length) && decide (ts.length ≤ 160))) = false := by
    rw [Bool.eq_false_iff]; intro hh; apply h; simpa using hh
  rw [this]; rfl
end Go.Proofs.Ytpnahobgmemdjaa
/- Walks: the form of an assembly. -/

namespace Go.Proofs.Ytpnahobgmemdjaa
open Go.RowKit
attribute [local go_sem] BelowBy.cell BelowBy.cell_drew stillUpon givesUpon
set_option maxHeartbeats 2000000 in
theorem hasForm_any (A : Option Addr) (n c : Nat) (xs : List Pl) (w : World) (h : RdSl 3 RPl w A n xs) (hn : n ≤ 1073741824) :
    Calls Try.prog 30 #[.agg #[.slice A n c]] w fun e w' => e = .returned (.bool (hasFormB xs)) ∧ Below w.heap.size w w' := by
  
  go_enter Try.func30, Try.ntmps30
  go_wp2
  go_loopg [8] n (fun g i wr => ∃ k : Nat, k + g = n ∧ i = .int .i64 k ∧ (∀ j, j < k → okPl xs j = true) ∧ Below w.heap.size w wr ∧ wr.cell? ⟨w.heap.size, 0, none⟩ = some (.slice A n c) ∧ w.heap.size < wr.heap.size)
  case atStart => exact ⟨0, by omega, rfl, fun j hj => by omega, (Below.refl _ _).alloc (Nat.le_refl _) _, by simp, by simp⟩
  case round =>
    obtain ⟨k, hk, rfl, hok, hbw, hbox, hsz⟩ := hrel
    have h' := h.below RPl.stable hbw
    have hsz' := Nat.le_of_lt hsz
    by_cases hlt : k < n
    · obtain ⟨b, o, rfl, hb, hc⟩ := h'.ptr (by omega)
      obtain ⟨e, he⟩ := h.get hlt
      obtain ⟨c0, c1, c2⟩ := hc k e he
      have HE := Lib.hid he
      clear he
      have key : ∀ (v1 v2 v3 : Bool), validPt e.x e.y = v1 → inB e.t 0 159 = v2 → (∀ i, k = i + 1 → ∀ d, xs[i]? = some d → lessPt d.x d.y e.x e.y = v3) → okPl xs k = (v1 && v2 && (k == 0 || v3)) := by
        intro v1 v2 v3 h1 h2 h3
        unfold okPl
        rw [HE.out]
        simp only [h1, h2]
        cases k with
        | zero => simp
        | succ i =>
          obtain ⟨d, hd⟩ := h.get (k := i) (by omega)
          simp only [hd, h3 i rfl d hd]
          simp
      have HKey := Lib.hid key
      clear key
      cases hv1 : validPt e.x e.y
      · go_wp2
        refine wp_region_ord [(0, .q), (1, .q), (2, .g), (3, .q), (4, .q), (5, .q), (6, .q), (7, .g), (8, .q), (9, .q), (10, .q), (11, .q), (12, .q), (13, .q), (14, .q), (15, .q), (16, .q), (17, .q), (18, .q), (19, .q), (20, .q), (21, .q), (22, .q), (23, .g), (24, .q), (25, .q), (26, .q)] (by kernel_rfl) (by kernel_rfl) ?_
        simp only [pick, List.filterMap_cons, List.filterMap_nil, List.getElem?_toArray, List.getElem?_cons_zero, List.getElem?_cons_succ, Option.map_some]
        repeat (first
          | ((with_reducible refine wpD_p (fun K hK => ?_)); go_simp; refine hK _ ?_; clear hK K)
          | ((with_reducible refine wpD_q (fun K hK => ?_)); go_simp; (first | refine hK _ ?_ | (go_bits; refine hK _ ?_) | (go_bits; go_simp; refine hK _ ?_)); clear hK K)
          | ((with_reducible refine wpD_g (fun K hK => ?_)); go_simp; refine hK _ _ ?_; clear hK K)
          | ((with_reducible refine wpD_g (fun K hK => ?_)); go_simp; refine ⟨Grew.of_alloc _, hK _ _ ?_⟩; clear hK K)
          | ((with_reducible refine wpD_g (fun K hK => ?_)); go_simp; go_at_call 66; refine (ValidPoint_any _ _ _).mono ?_; rintro e w1 ⟨rfl, hb1⟩; refine ⟨_, rfl, hb1, hK _ _ ?_⟩; clear hK K; obtain ⟨chb1, fhb1, shb1, thb1⟩ := bcell hb1; (try have bhb10 := shb1 (w.heap.size) (by go_simp)); (try have bhb11 := shb1 (wr.heap.size) (by go_simp)); (try have bhb12 := shb1 (b) (by go_simp)))
          | ((with_reducible refine wpD_g (fun K hK => ?_)); go_simp; go_at_call 67; refine (isIndex_any _ _ _ (by omega) (by omega)).mono ?_; rintro e _ ⟨rfl, rfl⟩; refine ⟨_, rfl, Below.refl _ _, hK _ _ ?_⟩; clear hK K)
          | ((with_reducible refine wpD_g (fun K hK => ?_)); go_simp; go_at_call 68; refine (LessPoint_any _ _ _ _ _).mono ?_; rintro e w2 ⟨rfl, hb2⟩; refine ⟨_, rfl, hb2, hK _ _ ?_⟩; clear hK K; obtain ⟨chb2, fhb2, shb2, thb2⟩ := bcell hb2; (try have bhb20 := shb2 (w.heap.size) (by go_simp)); (try have bhb21 := shb2 (wr.heap.size) (by go_simp)); (try have bhb22 := shb2 (b) (by go_simp))))
        with_reducible refine wpD_nil ?_
        go_wp2
        go_ret
        refine ⟨ret_bool ?_, ?_⟩
        · have := allB_false (n := xs.length) (p := okPl xs) (k := k) (by rw [h.len]; omega) (by rw [HKey.out false (inB e.t 0 159) (match k with | 0 => true | i + 1 => match xs[i]? with | none => true | some d => lessPt d.x d.y e.x e.y) hv1 rfl (by rintro i rfl d hd; simp [hd])]; rfl)
          simp [hasFormB, this]
        · exact bel_
      · cases hv2 : inB e.t 0 159
        · go_wp2
          refine wp_region_ord [(0, .q), (1, .q), (2, .g), (3, .q), (4, .q), (5, .q), (6, .q), (7, .g), (8, .q), (9, .q), (10, .q), (11, .q), (12, .q), (13, .q), (14, .q), (15, .q), (16, .q), (17, .q), (18, .q), (19, .q), (20, .q), (21, .q), (22, .q), (23, .g), (24, .q), (25, .q), (26, .q)] (by kernel_rfl) (by kernel_rfl) ?_
          simp only [pick, List.filterMap_cons, List.filterMap_nil, List.getElem?_toArray, List.getElem?_cons_zero, List.getElem?_cons_succ, Option.map_some]
          repeat (first
            | ((with_reducible refine wpD_p (fun K hK => ?_)); go_simp; refine hK _ ?_; clear hK K)
            | ((with_reducible refine wpD_q (fun K hK => ?_)); go_simp; (first | refine hK _ ?_ | (go_bits; refine hK _ ?_) | (go_bits; go_simp; refine hK _ ?_)); clear hK K)
            | ((with_reducible refine wpD_g (fun K hK => ?_)); go_simp; refine hK _ _ ?_; clear hK K)
            | ((with_reducible refine wpD_g (fun K hK => ?_)); go_simp; refine ⟨Grew.of_alloc _, hK _ _ ?_⟩; clear hK K)
            | ((with_reducible refine wpD_g (fun K hK => ?_)); go_simp; go_at_call 66; refine (ValidPoint_any _ _ _).mono ?_; rintro e w1 ⟨rfl, hb1⟩; refine ⟨_, rfl, hb1, hK _ _ ?_⟩; clear hK K; obtain ⟨chb1, fhb1, shb1, thb1⟩ := bcell hb1; (try have bhb10 := shb1 (w.heap.size) (by go_simp)); (try have bhb11 := shb1 (wr.heap.size) (by go_simp)); (try have bhb12 := shb1 (b) (by go_simp)))
            | ((with_reducible refine wpD_g (fun K hK => ?_)); go_simp; go_at_call 67; refine (isIndex_any _ _ _ (by omega) (by omega)).mono ?_; rintro e _ ⟨rfl, rfl⟩; refine ⟨_, rfl, Below.refl _ _, hK _ _ ?_⟩; clear hK K)
            | ((with_reducible refine wpD_g (fun K hK => ?_)); go_simp; go_at_call 68; refine (LessPoint_any _ _ _ _ _).mono ?_; rintro e w2 ⟨rfl, hb2⟩; refine ⟨_, rfl, hb2, hK _ _ ?_⟩; clear hK K; obtain ⟨chb2, fhb2, shb2, thb2⟩ := bcell hb2; (try have bhb20 := shb2 (w.heap.size) (by go_simp)); (try have bhb21 := shb2 (wr.heap.size) (by go_simp)); (try have bhb22 := shb2 (b) (by go_simp))))
          with_reducible refine wpD_nil ?_
          go_wp2
          go_ret
          refine ⟨ret_bool ?_, ?_⟩
          · have := allB_false (n := xs.length) (p := okPl xs) (k := k) (by rw [h.len]; omega) (by rw [HKey.out true false (match k with | 0 => true | i + 1 => match xs[i]? with | none => true | some d => lessPt d.x d.y e.x e.y) hv1 hv2 (by rintro i rfl d hd; simp [hd])]; rfl)
            simp [hasFormB, this]
          · exact bel_
        · cases k with
          | zero =>
            simp only [Nat.zero_mul, Nat.add_zero] at c0 c1 c2
            go_wp2
            refine wp_region_ord [(0, .q), (1, .q), (2, .g), (3, .q), (4, .q), (5, .q), (6, .q), (7, .g), (8, .q), (9, .q), (10, .q), (11, .q), (12, .q), (13, .q), (14, .q), (15, .q), (16, .q), (17, .q), (18, .q), (19, .q), (20, .q), (21, .q), (22, .q), (23, .g), (24, .q), (25, .q), (26, .q)] (by kernel_rfl) (by kernel_rfl) ?_
            simp only [pick, List.filterMap_cons, List.filterMap_nil, List.getElem?_toArray, List.getElem?_cons_zero, List.getElem?_cons_succ, Option.map_some]
            repeat (first
              | ((with_reducible refine wpD_p (fun K hK => ?_)); go_simp; refine hK _ ?_; clear hK K)
              | ((with_reducible refine wpD_q (fun K hK => ?_)); go_simp; (first | refine hK _ ?_ | (go_bits; refine hK _ ?_) | (go_bits; go_simp; refine hK _ ?_)); clear hK K)
              | ((with_reducible refine wpD_g (fun K hK => ?_)); go_simp; refine hK _ _ ?_; clear hK K)
              | ((with_reducible refine wpD_g (fun K hK => ?_)); go_simp; refine ⟨Grew.of_alloc _, hK _ _ ?_⟩; clear hK K)
              | ((with_reducible refine wpD_g (fun K hK => ?_)); go_simp; go_at_call 66; refine (ValidPoint_any _ _ _).mono ?_; rintro e w1 ⟨rfl, hb1⟩; refine ⟨_, rfl, hb1, hK _ _ ?_⟩; clear hK K; obtain ⟨chb1, fhb1, shb1, thb1⟩ := bcell hb1; (try have bhb10 := shb1 (w.heap.size) (by go_simp)); (try have bhb11 := shb1 (wr.heap.size) (by go_simp)); (try have bhb12 := shb1 (b) (by go_simp)))
              | ((with_reducible refine wpD_g (fun K hK => ?_)); go_simp; go_at_call 67; refine (isIndex_any _ _ _ (by omega) (by omega)).mono ?_; rintro e _ ⟨rfl, rfl⟩; refine ⟨_, rfl, Below.refl _ _, hK _ _ ?_⟩; clear hK K)
              | ((with_reducible refine wpD_g (fun K hK => ?_)); go_simp; go_at_call 68; refine (LessPoint_any _ _ _ _ _).mono ?_; rintro e w2 ⟨rfl, hb2⟩; refine ⟨_, rfl, hb2, hK _ _ ?_⟩; clear hK K; obtain ⟨chb2, fhb2, shb2, thb2⟩ := bcell hb2; (try have bhb20 := shb2 (w.heap.size) (by go_simp)); (try have bhb21 := shb2 (wr.heap.size) (by go_simp)); (try have bhb22 := shb2 (b) (by go_simp))))
            with_reducible refine wpD_nil ?_
            go_wp2
            go_roundg (n - (0 + 1))
            case measure => omega
            case rel => exact ⟨0 + 1, by omega, by go_num, fun j hj => (by rcases Nat.lt_succ_iff_lt_or_eq.1 hj with hj | rfl; exact hok j hj; exact HKey.out true true true hv1 hv2 (by rintro i h0; omega)), (by exact bel_), (by go_simp), (by have := hb1.size; simp at this ⊢; omega)⟩
          | succ i =>
            obtain ⟨d, hd⟩ := h.get (k := i) (by omega)
            obtain ⟨d0, d1, d2⟩ := hc i d hd
            have HD := Lib.hid hd
            clear hd
            have hi : i < n := by omega
            have hpos : (0 : Int) < (i : Int) + 1 := by omega
            cases hv3 : lessPt d.x d.y e.x e.y
            · go_wp2
              refine wp_region_ord [(0, .q), (1, .q), (2, .g), (3, .q), (4, .q), (5, .q), (6, .q), (7, .g), (8, .q), (9, .q), (10, .q), (11, .q), (12, .q), (13, .q), (14, .q), (15, .q), (16, .q), (17, .q), (18, .q), (19, .q), (20, .q), (21, .q), (22, .q), (23, .g), (24, .q), (25, .q), (26, .q)] (by kernel_rfl) (by kernel_rfl) ?_
              simp only [pick, List.filterMap_cons, List.filterMap_nil, List.getElem?_toArray, List.getElem?_cons_zero, List.getElem?_cons_succ, Option.map_some]
              repeat (first
                | ((with_reducible refine wpD_p (fun K hK => ?_)); go_simp; refine hK _ ?_; clear hK K)
                | ((with_reducible refine wpD_q (fun K hK => ?_)); go_simp; (first | refine hK _ ?_ | (go_bits; refine hK _ ?_) | (go_bits; go_simp; refine hK _ ?_)); clear hK K)
                | ((with_reducible refine wpD_g (fun K hK => ?_)); go_simp; refine hK _ _ ?_; clear hK K)
                | ((with_reducible refine wpD_g (fun K hK => ?_)); go_simp; refine ⟨Grew.of_alloc _, hK _ _ ?_⟩; clear hK K)
                | ((with_reducible refine wpD_g (fun K hK => ?_)); go_simp; go_at_call 66; refine (ValidPoint_any _ _ _).mono ?_; rintro e w1 ⟨rfl, hb1⟩; refine ⟨_, rfl, hb1, hK _ _ ?_⟩; clear hK K; obtain ⟨chb1, fhb1, shb1, thb1⟩ := bcell hb1; (try have bhb10 := shb1 (w.heap.size) (by go_simp)); (try have bhb11 := shb1 (wr.heap.size) (by go_simp)); (try have bhb12 := shb1 (b) (by go_simp)))
                | ((with_reducible refine wpD_g (fun K hK => ?_)); go_simp; go_at_call 67; refine (isIndex_any _ _ _ (by omega) (by omega)).mono ?_; rintro e _ ⟨rfl, rfl⟩; refine ⟨_, rfl, Below.refl _ _, hK _ _ ?_⟩; clear hK K)
                | ((with_reducible refine wpD_g (fun K hK => ?_)); go_simp; go_at_call 68; refine (LessPoint_any _ _ _ _ _).mono ?_; rintro e w2 ⟨rfl, hb2⟩; refine ⟨_, rfl, hb2, hK _ _ ?_⟩; clear hK K; obtain ⟨chb2, fhb2, shb2, thb2⟩ := bcell hb2; (try have bhb20 := shb2 (w.heap.size) (by go_simp)); (try have bhb21 := shb2 (wr.heap.size) (by go_simp)); (try have bhb22 := shb2 (b) (by go_simp))))
              with_reducible refine wpD_nil ?_
              go_wp2
              go_ret
              refine ⟨ret_bool ?_, ?_⟩
              · have := allB_false (n := xs.length) (p := okPl xs) (k := i + 1) (by rw [h.len]; omega) (by rw [HKey.out true true false hv1 hv2 (by rintro i' h0 d' hd'; obtain rfl := Nat.succ.inj h0; obtain rfl := Option.some.inj (HD.out.symm.trans hd'); exact hv3)]; rfl)
                simp [hasFormB, this]
              · exact bel_
            · go_wp2
              refine wp_region_ord [(0, .q), (1, .q), (2, .g), (3, .q), (4, .q), (5, .q), (6, .q), (7, .g), (8, .q), (9, .q), (10, .q), (11, .q), (12, .q), (13, .q), (14, .q), (15, .q), (16, .q), (17, .q), (18, .q), (19, .q), (20, .q), (21, .q), (22, .q), (23, .g), (24, .q), (25, .q), (26, .q)] (by kernel_rfl) (by kernel_rfl) ?_
              simp only [pick, List.filterMap_cons, List.filterMap_nil, List.getElem?_toArray, List.getElem?_cons_zero, List.getElem?_cons_succ, Option.map_some]
              repeat (first
                | ((with_reducible refine wpD_p (fun K hK => ?_)); go_simp; refine hK _ ?_; clear hK K)
                | ((with_reducible refine wpD_q (fun K hK => ?_)); go_simp; (first | refine hK _ ?_ | (go_bits; refine hK _ ?_) | (go_bits; go_simp; refine hK _ ?_)); clear hK K)
                | ((with_reducible refine wpD_g (fun K hK => ?_)); go_simp; refine hK _ _ ?_; clear hK K)
                | ((with_reducible refine wpD_g (fun K hK => ?_)); go_simp; refine ⟨Grew.of_alloc _, hK _ _ ?_⟩; clear hK K)
                | ((with_reducible refine wpD_g (fun K hK => ?_)); go_simp; go_at_call 66; refine (ValidPoint_any _ _ _).mono ?_; rintro e w1 ⟨rfl, hb1⟩; refine ⟨_, rfl, hb1, hK _ _ ?_⟩; clear hK K; obtain ⟨chb1, fhb1, shb1, thb1⟩ := bcell hb1; (try have bhb10 := shb1 (w.heap.size) (by go_simp)); (try have bhb11 := shb1 (wr.heap.size) (by go_simp)); (try have bhb12 := shb1 (b) (by go_simp)))
                | ((with_reducible refine wpD_g (fun K hK => ?_)); go_simp; go_at_call 67; refine (isIndex_any _ _ _ (by omega) (by omega)).mono ?_; rintro e _ ⟨rfl, rfl⟩; refine ⟨_, rfl, Below.refl _ _, hK _ _ ?_⟩; clear hK K)
                | ((with_reducible refine wpD_g (fun K hK => ?_)); go_simp; go_at_call 68; refine (LessPoint_any _ _ _ _ _).mono ?_; rintro e w2 ⟨rfl, hb2⟩; refine ⟨_, rfl, hb2, hK _ _ ?_⟩; clear hK K; obtain ⟨chb2, fhb2, shb2, thb2⟩ := bcell hb2; (try have bhb20 := shb2 (w.heap.size) (by go_simp)); (try have bhb21 := shb2 (wr.heap.size) (by go_simp)); (try have bhb22 := shb2 (b) (by go_simp))))
              with_reducible refine wpD_nil ?_
              go_wp2
              go_roundg (n - ((i + 1) + 1))
              case measure => omega
              case rel => exact ⟨(i + 1) + 1, by omega, by go_num, fun j hj => (by rcases Nat.lt_succ_iff_lt_or_eq.1 hj with hj | rfl; exact hok j hj; exact HKey.out true true true hv1 hv2 (by rintro i' h0 d' hd'; obtain rfl := Nat.succ.inj h0; obtain rfl := Option.some.inj (HD.out.symm.trans hd'); exact hv3)), (by exact bel_), (by go_simp), (by have := hb1.size; simp at this ⊢; omega)⟩
    · obtain rfl : k = n := by omega
      go_wp2
      go_ret
      refine ⟨ret_bool ?_, ?_⟩
      · rw [hasFormB, h.len, allB_true hok, Bool.true_and, decide_eq_decide]; omega
      · exact bel_
end Go.Proofs.Ytpnahobgmemdjaa
