/- Walks: the fires of a signal tile, by the program. -/
import Derived.Test.YtbipnnjkddffbaaSg1
import Derived.Test.YtbipnnjkddffbaaOrd
import Derived.Test.YtbipnnjkddffbaaW1
import Derived.Test.YtbipnnjkddffbaaHTo
namespace Go.Proofs.Ytbipnnjkddffbaa
open Go.RowKit
set_option linter.unusedSimpArgs false
set_option linter.unusedVariables false
attribute [local go_sem] BelowBy.cell BelowBy.cell_drew stillUpon givesUpon

/-- the glue on a side -/
def sideAt (s : List Int) (d : Int) : Int := (s[d.toNat]?).getD 0
/-- a fire is right at a tile with these sides -/
def fireOk (s : List Int) (f : Fi) : Bool := inB f.f 0 3 && (inB f.t 0 3 && (decide (f.f ≠ f.t) && (decide (sideAt s f.f ≠ 0) && decide (sideAt s f.t ≠ 0))))
theorem isDir_at {d : Int} {v : Bool} {w : World} (h : inB d 0 3 = v) : Calls Try.prog 125 #[.int .i64 d] w fun e w' => e = .returned (.bool v) ∧ w = w' := by
  subst h
  go_enter Try.func125, Try.ntmps125
  go_wp2_with (go_at_call 116; refine (within_any _ _ _ _).mono ?_; rintro e _ ⟨rfl, rfl⟩)
  go_ret
  exact ⟨rfl, rfl⟩
theorem signalsOk1_any (p : Nat) (A : Option Addr) (c : Nat) (sd : List Int) (f : Fi) (w : World) (lp : p < w.heap.size) (c1 : w.cell? ⟨p, 1, none⟩ = some (.slice A 4 c)) (hs : RdSl 1 RInt w A 4 sd) :
    Calls Try.prog 124 #[.agg #[.int .i64 f.f, .int .i64 f.t], .pointer (some ⟨p, 0, none⟩)] w fun e w' => e = .returned (.bool (!fireOk sd f)) ∧ Below w.heap.size w w' := by
  cases h1 : inB f.f 0 3
  · have e1 : fireOk sd f = false := by unfold fireOk; rw [h1]; rfl
    have h1H := Lib.hid h1
    clear h1
    rw [e1]
    go_enter Try.func124, Try.ntmps124
    go_wp2_with (go_at_call 125; refine (isDir_at h1H.out).mono ?_; rintro e _ ⟨rfl, rfl⟩)
    go_ret
    exact ⟨rfl, by exact bel_⟩
  cases h2 : inB f.t 0 3
  · have e1 : fireOk sd f = false := by unfold fireOk; rw [h2]; simp
    have h1H := Lib.hid h1
    have h2H := Lib.hid h2
    clear h1 h2
    rw [e1]
    go_enter Try.func124, Try.ntmps124
    go_wp2_with (go_at_call 125; refine (isDir_at (by first | exact h1H.out | exact h2H.out)).mono ?_; rintro e _ ⟨rfl, rfl⟩)
    go_ret
    exact ⟨rfl, by exact bel_⟩
  obtain ⟨a, b⟩ := f
  obtain ⟨i, rfl, hi⟩ : ∃ i : Nat, a = i ∧ i < 4 := ⟨a.toNat, by have := inB_true.1 h1; simp at this; omega, by have := inB_true.1 h1; simp at this; omega⟩
  obtain ⟨j, rfl, hj⟩ : ∃ j : Nat, b = j ∧ j < 4 := ⟨b.toNat, by have := inB_true.1 h2; simp at this; omega, by have := inB_true.1 h2; simp at this; omega⟩
  obtain ⟨b0, o0, rfl, hb0, hc⟩ := hs.ptr (by omega)
  obtain ⟨v, hv⟩ := hs.get (k := i) (by omega)
  obtain ⟨u, hu⟩ := hs.get (k := j) (by omega)
  have x1 := hc i v hv
  have x2 := hc j u hu
  unfold RInt at x1 x2
  simp only [Nat.mul_one] at x1 x2
  have sv : sideAt sd i = v := by unfold sideAt; simp [hv]
  have su : sideAt sd j = u := by unfold sideAt; simp [hu]
  have ef : fireOk sd ⟨i, j⟩ = (decide ((i : Int) ≠ j) && (decide (v ≠ 0) && decide (u ≠ 0))) := by
    unfold fireOk; rw [h1, h2, sv, su]; simp
  have h1H := Lib.hid h1
  have h2H := Lib.hid h2
  clear h1 h2 sv su hc hv hu hs
  rw [ef]
  clear ef
  by_cases hij : i = j
  · subst hij
    simp only [ne_eq, not_true_eq_false, decide_false, Bool.false_and]
    go_enter Try.func124, Try.ntmps124
    go_wp2_with (go_at_call 125; refine (isDir_at (by first | exact h1H.out | exact h2H.out)).mono ?_; rintro e _ ⟨rfl, rfl⟩)
    go_ret
    exact ⟨rfl, by exact bel_⟩
  have hij2 : ((i : Int) == (j : Int)) = false := by simp; omega
  have hij3 : decide ((i : Int) ≠ (j : Int)) = true := by simp; omega
  rw [hij3]
  clear hij3
  by_cases hv0 : v = 0
  · subst hv0
    simp only [ne_eq, not_true_eq_false, decide_false, Bool.false_and, Bool.and_false]
    go_enter Try.func124, Try.ntmps124
    go_wp2_with (go_at_call 125; refine (isDir_at (by first | exact h1H.out | exact h2H.out)).mono ?_; rintro e _ ⟨rfl, rfl⟩)
    go_ret
    exact ⟨rfl, by exact bel_⟩
  have hv2 : (v == 0) = false := by simp; omega
  have hv3 : decide (v ≠ 0) = true := by simp; omega
  rw [hv3]
  clear hv3
  by_cases hu0 : u = 0
  · subst hu0
    simp only [ne_eq, not_true_eq_false, decide_false, Bool.false_and, Bool.and_false]
    go_enter Try.func124, Try.ntmps124
    go_wp2_with (go_at_call 125; refine (isDir_at (by first | exact h1H.out | exact h2H.out)).mono ?_; rintro e _ ⟨rfl, rfl⟩)
    go_ret
    exact ⟨rfl, by exact bel_⟩
  have hu2 : (u == 0) = false := by simp; omega
  have hu3 : decide (u ≠ 0) = true := by simp; omega
  rw [hu3]
  clear hu3
  go_enter Try.func124, Try.ntmps124
  go_wp2_with (go_at_call 125; refine (isDir_at (by first | exact h1H.out | exact h2H.out)).mono ?_; rintro e _ ⟨rfl, rfl⟩)
  go_ret
  exact ⟨rfl, by exact bel_⟩
end Go.Proofs.Ytbipnnjkddffbaa
