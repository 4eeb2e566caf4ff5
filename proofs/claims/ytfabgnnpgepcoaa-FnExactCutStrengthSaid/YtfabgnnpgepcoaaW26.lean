/- Walks: numbers in a list; numbers that rise. -/
import Derived.Test.YtfabgnnpgepcoaaW18
namespace Go.Proofs.Ytfabgnnpgepcoaa
open Go.RowKit Go.Shelf
set_option linter.unusedSimpArgs false
set_option linter.unusedVariables false
attribute [local go_sem] BelowBy.cell BelowBy.cell_drew stillUpon givesUpon BelowBy.cell_drew2 BelowBy.cell_drew3

def hasB (ps : List Int) (v : Int) : Bool := ps.any fun e => e == v
theorem hasB_true {ps : List Int} {k : Nat} {v : Int} (h : ps[k]? = some v) : hasB ps v = true := by
  unfold hasB; rw [List.any_eq_true]; exact ⟨v, List.mem_of_getElem? h, by simp⟩
theorem hasB_false {ps : List Int} {v : Int} (h : ∀ (j : Nat) (e : Int), ps[j]? = some e → e ≠ v) : hasB ps v = false := by
  unfold hasB; rw [List.any_eq_false]
  intro e he
  obtain ⟨j, hj, rfl⟩ := List.mem_iff_getElem.1 he
  simpa using h j _ (List.getElem?_eq_getElem hj)
set_option maxHeartbeats 1000000 in
theorem l00Has_any (A : Option Addr) (n c : Nat) (ps : List Int) (v : Int) (w : World) (h : RdSl 1 RInt w A n ps) (hn : n ≤ 1073741824) :
    Calls Try.prog 144 #[.slice A n c, .int .i64 v] w fun e w' => e = .returned (.bool (hasB ps v)) ∧ w = w' := by
  have hl := h.len
  go_enter Try.func144, Try.ntmps144
  go_wp2
  go_loopg [5] n (fun r x wr => ∃ k : Nat, k + r = n ∧ x = .int .i64 (k : Int) ∧ Hid (∀ (j : Nat) (e : Int), j < k → ps[j]? = some e → e ≠ v) ∧ w = wr)
  case atStart => exact ⟨0, by omega, rfl, Lib.hid (fun j e hj => by omega), rfl⟩
  case round =>
    obtain ⟨k, hk, rfl, hno, rfl⟩ := hrel
    by_cases hlt : k < n
    · obtain ⟨b, o, rfl, hb1, hc⟩ := h.ptr (by omega)
      obtain ⟨e, he⟩ := h.get hlt
      have c0 := hc k e he
      unfold RInt at c0
      simp only [Nat.mul_one] at c0
      have heH := Lib.hid he
      clear hc he h hl
      by_cases hev : e = v
      · subst hev
        go_wp2
        go_ret
        exact ⟨ret_bool (hasB_true heH.out).symm, rfl⟩
      · have hv : (e == v) = false := by simpa using hev
        have hevH := Lib.hid hev
        clear hev
        go_wp2
        go_roundg (n - (k + 1))
        case measure => omega
        case rel => exact ⟨k + 1, by omega, by go_num, Lib.hid (fun j e' hj he' => by
          rcases Nat.lt_succ_iff_lt_or_eq.1 hj with hj | rfl
          · exact hno.out j e' hj he'
          · rw [heH.out] at he'; obtain rfl := Option.some.inj he'; exact hevH.out), rfl⟩
    · obtain rfl : k = n := by omega
      clear h
      go_wp2
      go_ret
      exact ⟨ret_bool (hasB_false fun j e he => hno.out j e (by rw [← hl]; exact lt_of_get he) he).symm, rfl⟩
def IdxRes (w : World) (b : Bool) (e : Ending) (w' : World) : Prop := ∃ r : Int, e = .returned (.int .i64 r) ∧ decide (0 ≤ r) = b ∧ w = w'
set_option maxHeartbeats 1000000 in
theorem IndexI_any (A : Option Addr) (n c : Nat) (ps : List Int) (v : Int) (w : World) (h : RdSl 1 RInt w A n ps) (hn : n ≤ 1073741824) :
    Calls Try.prog 173 #[.slice A n c, .int .i64 v] w (IdxRes w (hasB ps v)) := by
  have hl := h.len
  go_enter Try.func173, Try.ntmps173
  go_wp2
  go_loopg [8] n (fun r x wr => ∃ k : Nat, k + r = n ∧ x = .int .i64 (k : Int) ∧ Hid (∀ (j : Nat) (e : Int), j < k → ps[j]? = some e → e ≠ v) ∧ w = wr)
  case atStart => exact ⟨0, by omega, rfl, Lib.hid (fun j e hj => by omega), rfl⟩
  case round =>
    obtain ⟨k, hk, rfl, hno, rfl⟩ := hrel
    by_cases hlt : k < n
    · obtain ⟨b, o, rfl, hb1, hc⟩ := h.ptr (by omega)
      obtain ⟨e, he⟩ := h.get hlt
      have c0 := hc k e he
      unfold RInt at c0
      simp only [Nat.mul_one] at c0
      have heH := Lib.hid he
      clear hc he h hl
      by_cases hev : v = e
      · subst hev
        go_wp2
        go_ret
        exact ⟨_, rfl, by rw [hasB_true heH.out]; simp, rfl⟩
      · have hv : (v == e) = false := by simpa using hev
        have hevH := Lib.hid hev
        clear hev
        go_wp2
        go_roundg (n - (k + 1))
        case measure => omega
        case rel => exact ⟨k + 1, by omega, by go_num, Lib.hid (fun j e' hj he' => by
          rcases Nat.lt_succ_iff_lt_or_eq.1 hj with hj | rfl
          · exact hno.out j e' hj he'
          · rw [heH.out] at he'; obtain rfl := Option.some.inj he'; exact fun e0 => hevH.out e0.symm), rfl⟩
    · obtain rfl : k = n := by omega
      clear h
      go_wp2
      go_ret
      exact ⟨_, rfl, by rw [hasB_false fun j e he => hno.out j e (by rw [← hl]; exact lt_of_get he) he]; simp, rfl⟩
theorem ContainsI_any (A : Option Addr) (n c : Nat) (ps : List Int) (v : Int) (w : World) (h : RdSl 1 RInt w A n ps) (hn : n ≤ 1073741824) :
    Calls Try.prog 137 #[.slice A n c, .int .i64 v] w fun e w' => e = .returned (.bool (hasB ps v)) ∧ w = w' := by
  have hH := Lib.hid h
  clear h
  go_enter Try.func137, Try.ntmps137
  go_wp2_with fail
  refine (IndexI_any _ _ _ ps _ _ hH.out hn).mono ?_
  rintro e w1 ⟨r, rfl, hr, rfl⟩
  have hrH := Lib.hid hr
  clear hr
  go_wp2
  go_ret
  exact ⟨ret_bool hrH.out, rfl⟩
/-- numbers rise within bounds -/
def okRise (lo hi : Int) (ps : List Int) (j : Nat) : Bool := match ps[j]? with
  | none => true
  | some k => inB k lo hi && (match j with
    | 0 => true
    | i + 1 => match ps[i]? with
      | none => true
      | some d => decide (d < k))
def risesB (lo hi : Int) (ps : List Int) : Bool := allB ps.length (okRise lo hi ps)
theorem okRise_no {lo hi : Int} {ps : List Int} {k : Nat} {e : Int} (he : ps[k]? = some e) (h : inB e lo hi = false) : okRise lo hi ps k = false := by
  unfold okRise; rw [he]; simp [h]
theorem okRise_zero {lo hi : Int} {ps : List Int} {e : Int} (he : ps[0]? = some e) (h : inB e lo hi = true) : okRise lo hi ps 0 = true := by
  unfold okRise; rw [he]; simp [h]
theorem okRise_succ {lo hi : Int} {ps : List Int} {k : Nat} {d e : Int} (he : ps[k + 1]? = some e) (hd : ps[k]? = some d) (h : inB e lo hi = true) : okRise lo hi ps (k + 1) = decide (d < e) := by
  unfold okRise; rw [he]; simp [h, hd]
set_option maxHeartbeats 2000000 in
theorem l00Rises_any (A : Option Addr) (n c : Nat) (ps : List Int) (lo hi : Int) (w : World) (h : RdSl 1 RInt w A n ps) (hn : n ≤ 1073741824) :
    Calls Try.prog 143 #[.slice A n c, .int .i64 lo, .int .i64 hi] w fun e w' => e = .returned (.bool (risesB lo hi ps)) ∧ Below w.heap.size w w' := by
  have hl := h.len
  go_enter Try.func143, Try.ntmps143
  go_wp2
  go_loopg [7] n (fun r x wr => ∃ k : Nat, k + r = n ∧ x = .int .i64 (k : Int) ∧ Hid (∀ j, j < k → okRise lo hi ps j = true) ∧ Below w.heap.size w wr)
  case atStart => exact ⟨0, by omega, rfl, Lib.hid (fun j hj => by omega), bl_refl _⟩
  case round =>
    obtain ⟨k, hk, rfl, hok, hbw⟩ := hrel
    have h' := h.below RInt.stable hbw
    by_cases hlt : k < n
    · obtain ⟨b, o, rfl, hb, hc⟩ := h'.ptr (by omega)
      obtain ⟨e, he⟩ := h.get hlt
      have c0 := hc k e he
      simp only [RInt, Nat.mul_one] at c0
      have heH := Lib.hid he
      have hbl : b ≤ wr.heap.size := by omega
      cases hv1 : inB e lo hi
      · have hno := Lib.hid (okRise_no he hv1)
        clear he hc h h'
        go_wp2
        refine wp_region_ord [(0, .q), (1, .q), (2, .q), (3, .q), (4, .q), (5, .q), (6, .g), (7, .q), (8, .q), (9, .q), (10, .q), (11, .q), (12, .q), (13, .q), (14, .q), (15, .q), (16, .q), (17, .q), (18, .q), (19, .q), (20, .q), (21, .q), (22, .q), (23, .q)] (by kernel_rfl) (by kernel_rfl) ?_
        simp only [pick, List.filterMap_cons, List.filterMap_nil, List.getElem?_toArray, List.getElem?_cons_zero, List.getElem?_cons_succ, Option.map_some]
        repeat (first
          | ((with_reducible refine wpD_p (fun K hK => ?_)); go_simp; refine hK _ ?_; clear hK K)
          | ((with_reducible refine wpD_q (fun K hK => ?_)); go_simp; (first | refine hK _ ?_ | (go_bits; refine hK _ ?_) | (go_bits; go_simp; refine hK _ ?_)); clear hK K)
          | ((with_reducible refine wpD_g (fun K hK => ?_)); go_simp; refine hK _ _ ?_; clear hK K)
          | ((with_reducible refine wpD_g (fun K hK => ?_)); go_simp; refine ⟨Grew.of_alloc _, hK _ _ ?_⟩; clear hK K)
          | ((with_reducible refine wpD_g (fun K hK => ?_)); go_simp; go_at_call 60; refine (l00In_any _ _ _ _).mono ?_; rintro e _ ⟨rfl, rfl⟩; refine ⟨_, rfl, Below.refl _ _, hK _ _ ?_⟩; clear hK K))
        with_reducible refine wpD_nil ?_
        go_wp2
        go_ret
        exact ⟨ret_bool (allB_false (n := ps.length) (by omega) hno.out).symm, by repeat (first | with_reducible exact bl_refl _ | with_reducible assumption | with_reducible refine bl_al ?_ _ | with_reducible refine bl_dr ?_ | with_reducible refine bl_tr ?_ (by assumption) | with_reducible refine bl_set ?_ ?_ _ | with_reducible exact Nat.le_refl _ | omega | (simp only [World.size_alloc, World.size_setCell, World.size_drew] at *; omega) | (dsimp only; omega) | (simp; done) | (simp; omega))⟩
      · cases k with
        | zero =>
          have hyes := Lib.hid (okRise_zero he hv1)
          simp only [Nat.add_zero] at c0
          clear he hc h h'
          go_wp2
          refine wp_region_ord [(0, .q), (1, .q), (2, .q), (3, .q), (4, .q), (5, .q), (6, .g), (7, .q), (8, .q), (9, .q), (10, .q), (11, .q), (12, .q), (13, .q), (14, .q), (15, .q), (16, .q), (17, .q), (18, .q), (19, .q), (20, .q), (21, .q), (22, .q), (23, .q)] (by kernel_rfl) (by kernel_rfl) ?_
          simp only [pick, List.filterMap_cons, List.filterMap_nil, List.getElem?_toArray, List.getElem?_cons_zero, List.getElem?_cons_succ, Option.map_some]
          repeat (first
            | ((with_reducible refine wpD_p (fun K hK => ?_)); go_simp; refine hK _ ?_; clear hK K)
            | ((with_reducible refine wpD_q (fun K hK => ?_)); go_simp; (first | refine hK _ ?_ | (go_bits; refine hK _ ?_) | (go_bits; go_simp; refine hK _ ?_)); clear hK K)
            | ((with_reducible refine wpD_g (fun K hK => ?_)); go_simp; refine hK _ _ ?_; clear hK K)
            | ((with_reducible refine wpD_g (fun K hK => ?_)); go_simp; refine ⟨Grew.of_alloc _, hK _ _ ?_⟩; clear hK K)
            | ((with_reducible refine wpD_g (fun K hK => ?_)); go_simp; go_at_call 60; refine (l00In_any _ _ _ _).mono ?_; rintro e _ ⟨rfl, rfl⟩; refine ⟨_, rfl, Below.refl _ _, hK _ _ ?_⟩; clear hK K))
          with_reducible refine wpD_nil ?_
          go_wp2
          go_roundg (n - (0 + 1))
          case measure => omega
          case rel => exact ⟨0 + 1, by omega, by go_num, Lib.hid (fun j hj => (show j = 0 by omega) ▸ hyes.out), by repeat (first | with_reducible exact bl_refl _ | with_reducible assumption | with_reducible refine bl_al ?_ _ | with_reducible refine bl_dr ?_ | with_reducible refine bl_tr ?_ (by assumption) | with_reducible refine bl_set ?_ ?_ _ | with_reducible exact Nat.le_refl _ | omega | (simp only [World.size_alloc, World.size_setCell, World.size_drew] at *; omega) | (dsimp only; omega) | (simp; done) | (simp; omega))⟩
        | succ i =>
          obtain ⟨d, hd⟩ := h.get (k := i) (by omega)
          have d0 := hc i d hd
          simp only [RInt, Nat.mul_one] at d0
          have hi' : i < n := by omega
          have hpos : (0 : Int) < (i : Int) + 1 := by omega
          have hI1 : (i : Int) + 1 < (n : Int) := by omega
          have hI0 : (0 : Int) ≤ (i : Int) + 1 := by omega
          have hrs := okRise_succ he hd hv1
          by_cases hv3 : d < e
          · have hge : decide (e ≤ d) = false := decide_eq_false (by omega)
            have hyes := Lib.hid (show okRise lo hi ps (i + 1) = true by rw [hrs]; exact decide_eq_true hv3)
            clear he hd hc h h' hrs hv3
            go_wp2
            refine wp_region_ord [(0, .q), (1, .q), (2, .q), (3, .q), (4, .q), (5, .q), (6, .g), (7, .q), (8, .q), (9, .q), (10, .q), (11, .q), (12, .q), (13, .q), (14, .q), (15, .q), (16, .q), (17, .q), (18, .q), (19, .q), (20, .q), (21, .q), (22, .q), (23, .q)] (by kernel_rfl) (by kernel_rfl) ?_
            simp only [pick, List.filterMap_cons, List.filterMap_nil, List.getElem?_toArray, List.getElem?_cons_zero, List.getElem?_cons_succ, Option.map_some]
            repeat (first
              | ((with_reducible refine wpD_p (fun K hK => ?_)); go_simp; refine hK _ ?_; clear hK K)
              | ((with_reducible refine wpD_q (fun K hK => ?_)); go_simp; (first | refine hK _ ?_ | (go_bits; refine hK _ ?_) | (go_bits; go_simp; refine hK _ ?_)); clear hK K)
              | ((with_reducible refine wpD_g (fun K hK => ?_)); go_simp; refine hK _ _ ?_; clear hK K)
              | ((with_reducible refine wpD_g (fun K hK => ?_)); go_simp; refine ⟨Grew.of_alloc _, hK _ _ ?_⟩; clear hK K)
              | ((with_reducible refine wpD_g (fun K hK => ?_)); go_simp; go_at_call 60; refine (l00In_any _ _ _ _).mono ?_; rintro e _ ⟨rfl, rfl⟩; refine ⟨_, rfl, Below.refl _ _, hK _ _ ?_⟩; clear hK K))
            with_reducible refine wpD_nil ?_
            go_wp2
            go_roundg (n - ((i + 1) + 1))
            case measure => omega
            case rel => exact ⟨(i + 1) + 1, by omega, by go_num, Lib.hid (fun j hj => by
              rcases Nat.lt_succ_iff_lt_or_eq.1 hj with hj | rfl
              · exact hok.out j hj
              · exact hyes.out), by repeat (first | with_reducible exact bl_refl _ | with_reducible assumption | with_reducible refine bl_al ?_ _ | with_reducible refine bl_dr ?_ | with_reducible refine bl_tr ?_ (by assumption) | with_reducible refine bl_set ?_ ?_ _ | with_reducible exact Nat.le_refl _ | omega | (simp only [World.size_alloc, World.size_setCell, World.size_drew] at *; omega) | (dsimp only; omega) | (simp; done) | (simp; omega))⟩
          · have hge : decide (e ≤ d) = true := decide_eq_true (by omega)
            have hno := Lib.hid (show okRise lo hi ps (i + 1) = false by rw [hrs]; exact decide_eq_false hv3)
            clear he hd hc h h' hrs hv3
            go_wp2
            refine wp_region_ord [(0, .q), (1, .q), (2, .q), (3, .q), (4, .q), (5, .q), (6, .g), (7, .q), (8, .q), (9, .q), (10, .q), (11, .q), (12, .q), (13, .q), (14, .q), (15, .q), (16, .q), (17, .q), (18, .q), (19, .q), (20, .q), (21, .q), (22, .q), (23, .q)] (by kernel_rfl) (by kernel_rfl) ?_
            simp only [pick, List.filterMap_cons, List.filterMap_nil, List.getElem?_toArray, List.getElem?_cons_zero, List.getElem?_cons_succ, Option.map_some]
            repeat (first
              | ((with_reducible refine wpD_p (fun K hK => ?_)); go_simp; refine hK _ ?_; clear hK K)
              | ((with_reducible refine wpD_q (fun K hK => ?_)); go_simp; (first | refine hK _ ?_ | (go_bits; refine hK _ ?_) | (go_bits; go_simp; refine hK _ ?_)); clear hK K)
              | ((with_reducible refine wpD_g (fun K hK => ?_)); go_simp; refine hK _ _ ?_; clear hK K)
              | ((with_reducible refine wpD_g (fun K hK => ?_)); go_simp; refine ⟨Grew.of_alloc _, hK _ _ ?_⟩; clear hK K)
              | ((with_reducible refine wpD_g (fun K hK => ?_)); go_simp; go_at_call 60; refine (l00In_any _ _ _ _).mono ?_; rintro e _ ⟨rfl, rfl⟩; refine ⟨_, rfl, Below.refl _ _, hK _ _ ?_⟩; clear hK K))
            with_reducible refine wpD_nil ?_
            go_wp2
            go_ret
            exact ⟨ret_bool (allB_false (n := ps.length) (by omega) hno.out).symm, by repeat (first | with_reducible exact bl_refl _ | with_reducible assumption | with_reducible refine bl_al ?_ _ | with_reducible refine bl_dr ?_ | with_reducible refine bl_tr ?_ (by assumption) | with_reducible refine bl_set ?_ ?_ _ | with_reducible exact Nat.le_refl _ | omega | (simp only [World.size_alloc, World.size_setCell, World.size_drew] at *; omega) | (dsimp only; omega) | (simp; done) | (simp; omega))⟩
    · obtain rfl : k = n := by omega
      clear h h'
      go_wp2
      go_ret
      exact ⟨ret_bool (by unfold risesB; rw [hl, allB_true hok.out]), hbw⟩
set_option maxHeartbeats 2000000 in
theorem isPart_any (A B : Option Addr) (q ca n c : Nat) (ps : List Int) (w : World) (h : RdSl 1 RInt w B n ps) (hn : n ≤ 1073741824) (hq : q ≤ 1073741824) :
    Calls Try.prog 88 #[.agg #[.slice A q ca], .slice B n c] w fun e w' => e = .returned (.bool (risesB 0 ((q : Int) - 1) ps)) ∧ Below w.heap.size w w' := by
  have hl := h.len
  obtain ⟨hi, hhi⟩ : ∃ hi, hi = (q : Int) - 1 := ⟨_, rfl⟩
  rw [← hhi]
  have hhiH := Lib.hid hhi
  clear hhi
  go_enter Try.func88, Try.ntmps88
  go_wp2
  go_loopg [9] n (fun r x wr => ∃ k : Nat, k + r = n ∧ x = .int .i64 (k : Int) ∧ Hid (∀ j, j < k → okRise 0 hi ps j = true) ∧ Below w.heap.size w wr ∧ wr.cell? ⟨w.heap.size, 0, none⟩ = some (.slice A q ca) ∧ w.heap.size < wr.heap.size)
  case atStart => exact ⟨0, by omega, rfl, Lib.hid (fun j hj => by omega), by repeat (first | with_reducible exact bl_refl _ | with_reducible assumption | with_reducible refine bl_al ?_ _ | with_reducible refine bl_dr ?_ | with_reducible refine bl_tr ?_ (by assumption) | with_reducible refine bl_set ?_ ?_ _ | with_reducible exact Nat.le_refl _ | omega | (simp only [World.size_alloc, World.size_setCell, World.size_drew] at *; omega) | (dsimp only; omega) | (simp; done) | (simp; omega)), by go_simp, by simp⟩
  case round =>
    obtain ⟨k, hk, rfl, hok, hbw, hbox, hsz⟩ := hrel
    have h' := h.below RInt.stable hbw
    by_cases hlt : k < n
    · obtain ⟨b, o, rfl, hb, hc⟩ := h'.ptr (by omega)
      obtain ⟨e, he⟩ := h.get hlt
      have c0 := hc k e he
      simp only [RInt, Nat.mul_one] at c0
      have heH := Lib.hid he
      cases hv1 : inB e 0 hi
      · have hno := Lib.hid (okRise_no he hv1)
        have hv1H := Lib.hid hv1
        clear he hc h h' hv1
        go_wp2_with (go_at_call 112; refine (isIndex_any _ _ _ (by omega) (by omega)).mono ?_; rintro e w' ⟨rfl, rfl⟩; rw [← hhiH.out, hv1H.out])
        go_ret
        exact ⟨ret_bool (allB_false (n := ps.length) (by omega) hno.out).symm, hbw⟩
      · have hv1H := Lib.hid hv1
        cases k with
        | zero =>
          have hyes := Lib.hid (okRise_zero he hv1)
          simp only [Nat.add_zero] at c0
          clear he hc h h' hv1
          go_wp2_with (go_at_call 112; refine (isIndex_any _ _ _ (by omega) (by omega)).mono ?_; rintro e w' ⟨rfl, rfl⟩; rw [← hhiH.out, hv1H.out])
          go_roundg (n - (0 + 1))
          case measure => omega
          case rel => exact ⟨0 + 1, by omega, by go_num, Lib.hid (fun j hj => (show j = 0 by omega) ▸ hyes.out), hbw, hbox, hsz⟩
        | succ i =>
          obtain ⟨d, hd⟩ := h.get (k := i) (by omega)
          have d0 := hc i d hd
          simp only [RInt, Nat.mul_one] at d0
          have hi' : i < n := by omega
          have hpos : (0 : Int) < (i : Int) + 1 := by omega
          have hI1 : (i : Int) + 1 < (n : Int) := by omega
          have hI0 : (0 : Int) ≤ (i : Int) + 1 := by omega
          have hrs := okRise_succ he hd hv1
          by_cases hv3 : d < e
          · have hge : decide (e ≤ d) = false := decide_eq_false (by omega)
            have hyes := Lib.hid (show okRise 0 hi ps (i + 1) = true by rw [hrs]; exact decide_eq_true hv3)
            clear he hd hc h h' hrs hv3 hv1
            go_wp2_with (go_at_call 112; refine (isIndex_any _ _ _ (by omega) (by omega)).mono ?_; rintro e w' ⟨rfl, rfl⟩; rw [← hhiH.out, hv1H.out])
            go_roundg (n - ((i + 1) + 1))
            case measure => omega
            case rel => exact ⟨(i + 1) + 1, by omega, by go_num, Lib.hid (fun j hj => by
              rcases Nat.lt_succ_iff_lt_or_eq.1 hj with hj | rfl
              · exact hok.out j hj
              · exact hyes.out), hbw, hbox, hsz⟩
          · have hge : decide (e ≤ d) = true := decide_eq_true (by omega)
            have hno := Lib.hid (show okRise 0 hi ps (i + 1) = false by rw [hrs]; exact decide_eq_false hv3)
            clear he hd hc h h' hrs hv3 hv1
            go_wp2_with (go_at_call 112; refine (isIndex_any _ _ _ (by omega) (by omega)).mono ?_; rintro e w' ⟨rfl, rfl⟩; rw [← hhiH.out, hv1H.out])
            go_ret
            exact ⟨ret_bool (allB_false (n := ps.length) (by omega) hno.out).symm, hbw⟩
    · obtain rfl : k = n := by omega
      clear h h'
      go_wp2
      go_ret
      exact ⟨ret_bool (by unfold risesB; rw [hl, allB_true hok.out]), hbw⟩
set_option maxHeartbeats 1000000 in
theorem l06Part_any (p : Nat) (B : Option Addr) (n c : Nat) (ps : List Int) (xs : List Pl) (q : Nat) (w : World) (ha : AsmAt w p xs) (hq : xs.length = q) (h : RdSl 1 RInt w B n ps) (hn : n ≤ 1073741824) (hq1 : q ≤ 1073741824) :
    Calls Try.prog 96 #[.pointer (some ⟨p, 0, none⟩), .slice B n c] w fun e w' => e = .returned (.bool (risesB 0 ((q : Int) - 1) ps)) ∧ Below w.heap.size w w' := by
  obtain ⟨hlt, ⟨A, n', c', h1, h2⟩⟩ := id ha
  obtain rfl : n' = q := by rw [← h2.len]; exact hq
  have hH := Lib.hid h
  clear h h2 ha hq
  go_enter Try.func96, Try.ntmps96
  go_wp2_with fail
  refine (l00Rises_any _ _ _ ps _ _ _ hH.out hn).mono ?_
  rintro e w1 ⟨rfl, hb1⟩
  go_wp2
  go_ret
  exact ⟨rfl, hb1⟩
end Go.Proofs.Ytfabgnnpgepcoaa
