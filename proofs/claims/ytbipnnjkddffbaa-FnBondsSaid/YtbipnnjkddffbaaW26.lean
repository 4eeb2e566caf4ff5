/- Walks: numbers in a list; numbers that rise. -/
import Derived.Test.YtbipnnjkddffbaaP2
import Derived.Test.YtbipnnjkddffbaaHTo
import Derived.Test.YtbipnnjkddffbaaW17a
namespace Go.Proofs.Ytbipnnjkddffbaa
open Go.RowKit Go.Shelf
set_option linter.unusedSimpArgs false
set_option linter.unusedVariables false
attribute [local go_sem] BelowBy.cell BelowBy.cell_drew stillUpon givesUpon BelowBy.cell_drew2 BelowBy.cell_drew3

def hasB (ps : List Int) (v : Int) : Bool := ps.any fun e => e == v
theorem hasB_true {ps : List Int} {k : Nat} {v : Int} (h : ps[k]? = some v) : hasB ps v = true := by
  unfold hasB; rw [List.any_eq_true]; exact ⟨v, List.mem_of_getElem? h, by simp⟩
theorem hasB_false {ps : List Int} {v : Int} (h : ∀ (j : Nat) (e : Int), ps[j]? = some e → e ≠ v) : hasB ps v = false := by
  unfold hasB; rw [List.any_eq_false]
  intro e he
  obtain ⟨j, hj, rfl⟩ := List.mem_iff_getElem.1 he
  simpa using h j _ (List.getElem?_eq_getElem hj)
def IdxRes (w : World) (b : Bool) (e : Ending) (w' : World) : Prop := ∃ r : Int, e = .returned (.int .i64 r) ∧ decide (0 ≤ r) = b ∧ w = w'
set_option maxHeartbeats 1000000 in
theorem IndexI_any (A : Option Addr) (n c : Nat) (ps : List Int) (v : Int) (w : World) (h : RdSl 1 RInt w A n ps) (hn : n ≤ 1073741824) :
    Calls Try.prog 146 #[.slice A n c, .int .i64 v] w (IdxRes w (hasB ps v)) := by
  have hl := h.len
  go_enter Try.func146, Try.ntmps146
  go_wp2
  go_loopg [8] n (fun r x wr => ∃ k : Nat, k + r = n ∧ x = .int .i64 (k : Int) ∧ Hid (∀ (j : Nat) (e : Int), j < k → ps[j]? = some e → e ≠ v) ∧ w = wr)
  case atStart => exact ⟨0, by omega, rfl, Lib.hid (fun j e hj => by omega), rfl⟩
  case round =>
    obtain ⟨k, hk, rfl, hno, rfl⟩ := hrel
    by_cases hlt : k < n
    · obtain ⟨b, o, rfl, hb1, hc⟩ := h.ptr (by omega)
      obtain ⟨e, he⟩ := h.get hlt
      have c0 := hc k e he
      unfold RInt at c0
      simp only [Nat.mul_one] at c0
      have heH := Lib.hid he
      clear hc he h hl
      by_cases hev : v = e
      · subst hev
        go_wp2
        go_ret
        exact ⟨_, rfl, by rw [hasB_true heH.out]; simp, rfl⟩
      · have hv : (v == e) = false := by simpa using hev
        have hevH := Lib.hid hev
        clear hev
        go_wp2
        go_roundg (n - (k + 1))
        case measure => omega
        case rel => exact ⟨k + 1, by omega, by go_num, Lib.hid (fun j e' hj he' => by
          rcases Nat.lt_succ_iff_lt_or_eq.1 hj with hj | rfl
          · exact hno.out j e' hj he'
          · rw [heH.out] at he'; obtain rfl := Option.some.inj he'; exact fun e0 => hevH.out e0.symm), rfl⟩
    · obtain rfl : k = n := by omega
      clear h
      go_wp2
      go_ret
      exact ⟨_, rfl, by rw [hasB_false fun j e he => hno.out j e (by rw [← hl]; exact lt_of_get he) he]; simp, rfl⟩
theorem ContainsI_any (A : Option Addr) (n c : Nat) (ps : List Int) (v : Int) (w : World) (h : RdSl 1 RInt w A n ps) (hn : n ≤ 1073741824) :
    Calls Try.prog 106 #[.slice A n c, .int .i64 v] w fun e w' => e = .returned (.bool (hasB ps v)) ∧ w = w' := by
  have hH := Lib.hid h
  clear h
  go_enter Try.func106, Try.ntmps106
  go_wp2_with fail
  refine (IndexI_any _ _ _ ps _ _ hH.out hn).mono ?_
  rintro e w1 ⟨r, rfl, hr, rfl⟩
  have hrH := Lib.hid hr
  clear hr
  go_wp2
  go_ret
  exact ⟨ret_bool hrH.out, rfl⟩
/-- numbers rise within bounds -/
def okRise (lo hi : Int) (ps : List Int) (j : Nat) : Bool := match ps[j]? with
  | none => true
  | some k => inB k lo hi && (match j with
    | 0 => true
    | i + 1 => match ps[i]? with
      | none => true
      | some d => decide (d < k))
def risesB (lo hi : Int) (ps : List Int) : Bool := allB ps.length (okRise lo hi ps)
theorem okRise_no {lo hi : Int} {ps : List Int} {k : Nat} {e : Int} (he : ps[k]? = some e) (h : inB e lo hi = false) : okRise lo hi ps k = false := by
  unfold okRise; rw [he]; simp [h]
theorem okRise_zero {lo hi : Int} {ps : List Int} {e : Int} (he : ps[0]? = some e) (h : inB e lo hi = true) : okRise lo hi ps 0 = true := by
  unfold okRise; rw [he]; simp [h]
theorem okRise_succ {lo hi : Int} {ps : List Int} {k : Nat} {d e : Int} (he : ps[k + 1]? = some e) (hd : ps[k]? = some d) (h : inB e lo hi = true) : okRise lo hi ps (k + 1) = decide (d < e) := by
  unfold okRise; rw [he]; simp [h, hd]
set_option maxHeartbeats 2000000 in
theorem isPart_any (A B : Option Addr) (q ca n c : Nat) (ps : List Int) (w : World) (h : RdSl 1 RInt w B n ps) (hn : n ≤ 1073741824) (hq : q ≤ 1073741824) :
    Calls Try.prog 53 #[.agg #[.slice A q ca], .slice B n c] w fun e w' => e = .returned (.bool (risesB 0 ((q : Int) - 1) ps)) ∧ Below w.heap.size w w' := by
  have hl := h.len
  obtain ⟨hi, hhi⟩ : ∃ hi, hi = (q : Int) - 1 := ⟨_, rfl⟩
  rw [← hhi]
  have hhiH := Lib.hid hhi
  clear hhi
  go_enter Try.func53, Try.ntmps53
  go_wp2
  go_loopg [9] n (fun r x wr => ∃ k : Nat, k + r = n ∧ x = .int .i64 (k : Int) ∧ Hid (∀ j, j < k → okRise 0 hi ps j = true) ∧ Below w.heap.size w wr ∧ wr.cell? ⟨w.heap.size, 0, none⟩ = some (.slice A q ca) ∧ w.heap.size < wr.heap.size)
  case atStart => exact ⟨0, by omega, rfl, Lib.hid (fun j hj => by omega), by exact bel_, by go_simp, by simp⟩
  case round =>
    obtain ⟨k, hk, rfl, hok, hbw, hbox, hsz⟩ := hrel
    have h' := h.below RInt.stable hbw
    by_cases hlt : k < n
    · obtain ⟨b, o, rfl, hb, hc⟩ := h'.ptr (by omega)
      obtain ⟨e, he⟩ := h.get hlt
      have c0 := hc k e he
      simp only [RInt, Nat.mul_one] at c0
      have heH := Lib.hid he
      cases hv1 : inB e 0 hi
      · have hno := Lib.hid (okRise_no he hv1)
        have hv1H := Lib.hid hv1
        clear he hc h h' hv1
        go_wp2_with (go_at_call 74; refine (isIndex_any _ _ _ (by omega) (by omega)).mono ?_; rintro e w' ⟨rfl, rfl⟩; rw [← hhiH.out, hv1H.out])
        go_ret
        exact ⟨ret_bool (allB_false (n := ps.length) (by omega) hno.out).symm, hbw⟩
      · have hv1H := Lib.hid hv1
        cases k with
        | zero =>
          have hyes := Lib.hid (okRise_zero he hv1)
          simp only [Nat.add_zero] at c0
          clear he hc h h' hv1
          go_wp2_with (go_at_call 74; refine (isIndex_any _ _ _ (by omega) (by omega)).mono ?_; rintro e w' ⟨rfl, rfl⟩; rw [← hhiH.out, hv1H.out])
          go_roundg (n - (0 + 1))
          case measure => omega
          case rel => exact ⟨0 + 1, by omega, by go_num, Lib.hid (fun j hj => (show j = 0 by omega) ▸ hyes.out), hbw, hbox, hsz⟩
        | succ i =>
          obtain ⟨d, hd⟩ := h.get (k := i) (by omega)
          have d0 := hc i d hd
          simp only [RInt, Nat.mul_one] at d0
          have hi' : i < n := by omega
          have hpos : (0 : Int) < (i : Int) + 1 := by omega
          have hI1 : (i : Int) + 1 < (n : Int) := by omega
          have hI0 : (0 : Int) ≤ (i : Int) + 1 := by omega
          have hrs := okRise_succ he hd hv1
          by_cases hv3 : d < e
          · have hge : decide (e ≤ d) = false := decide_eq_false (by omega)
            have hyes := Lib.hid (show okRise 0 hi ps (i + 1) = true by rw [hrs]; exact decide_eq_true hv3)
            clear he hd hc h h' hrs hv3 hv1
            go_wp2_with (go_at_call 74; refine (isIndex_any _ _ _ (by omega) (by omega)).mono ?_; rintro e w' ⟨rfl, rfl⟩; rw [← hhiH.out, hv1H.out])
            go_roundg (n - ((i + 1) + 1))
            case measure => omega
            case rel => exact ⟨(i + 1) + 1, by omega, by go_num, Lib.hid (fun j hj => by
              rcases Nat.lt_succ_iff_lt_or_eq.1 hj with hj | rfl
              · exact hok.out j hj
              · exact hyes.out), hbw, hbox, hsz⟩
          · have hge : decide (e ≤ d) = true := decide_eq_true (by omega)
            have hno := Lib.hid (show okRise 0 hi ps (i + 1) = false by rw [hrs]; exact decide_eq_false hv3)
            clear he hd hc h h' hrs hv3 hv1
            go_wp2_with (go_at_call 74; refine (isIndex_any _ _ _ (by omega) (by omega)).mono ?_; rintro e w' ⟨rfl, rfl⟩; rw [← hhiH.out, hv1H.out])
            go_ret
            exact ⟨ret_bool (allB_false (n := ps.length) (by omega) hno.out).symm, hbw⟩
    · obtain rfl : k = n := by omega
      clear h h'
      go_wp2
      go_ret
      exact ⟨ret_bool (by unfold risesB; rw [hl, allB_true hok.out]), hbw⟩
end Go.Proofs.Ytbipnnjkddffbaa
