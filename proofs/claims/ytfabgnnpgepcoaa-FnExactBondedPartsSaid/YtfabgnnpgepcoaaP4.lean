/- Plain facts: the groups that bonds connect, by labels. -/
import Derived.Test.YtfabgnnpgepcoaaP2
namespace Go.Proofs.Ytfabgnnpgepcoaa
set_option linter.unusedSimpArgs false
set_option linter.unusedVariables false
/-- one bond: both groups get the lesser label -/
def relab (f : Nat → Nat) (a b : Nat) : Nat → Nat := fun k => if f k = max (f a) (f b) then min (f a) (f b) else f k
def labOf (bs : List Bd) : Nat → Nat → Nat
  | 0 => fun k => k
  | m + 1 => match bs[m]? with
    | some e => relab (labOf bs m) e.a e.b
    | none => labOf bs m
theorem labOf_succ {bs : List Bd} {m : Nat} {e : Bd} (h : bs[m]? = some e) : labOf bs (m + 1) = relab (labOf bs m) e.a e.b := by simp only [labOf, h]
/-- labels: no greater than the number; a label's own label is itself -/
structure Lab (f : Nat → Nat) : Prop where
  le : ∀ k, f k ≤ k
  idem : ∀ k, f (f k) = f k
theorem Lab.id : Lab fun k => k := ⟨fun _ => Nat.le_refl _, fun _ => rfl⟩
theorem Lab.relab {f : Nat → Nat} (h : Lab f) (a b : Nat) : Lab (relab f a b) := by
  constructor
  · intro k
    unfold Proofs.Ytfabgnnpgepcoaa.relab
    have := h.le k
    split <;> omega
  · intro k
    have hk := h.idem k
    have ha := h.idem a
    have hb := h.idem b
    unfold Proofs.Ytfabgnnpgepcoaa.relab
    by_cases h1 : f k = max (f a) (f b)
    · rw [if_pos h1]
      rcases Nat.le_total (f a) (f b) with h2 | h2
      · rw [Nat.min_eq_left h2, Nat.max_eq_right h2, ha]
        split <;> omega
      · rw [Nat.min_eq_right h2, Nat.max_eq_left h2, hb]
        split <;> omega
    · rw [if_neg h1, hk, if_neg h1]
theorem Lab.of (bs : List Bd) (m : Nat) : Lab (labOf bs m) := by
  induction m with
  | zero => exact Lab.id
  | succ m ih =>
    simp only [labOf]
    split
    · exact ih.relab _ _
    · exact ih
/-- the groups of the numbers below m, in the order of their least numbers -/
def rootsL (f : Nat → Nat) (m : Nat) : List Nat := (List.range m).filter fun i => f i == i
def partL (f : Nat → Nat) (m r : Nat) : List Nat := (List.range m).filter fun k => f k == r
def groupsL (f : Nat → Nat) (m : Nat) : List (List Nat) := (rootsL f m).map (partL f m)
theorem rootsL_succ_yes {f : Nat → Nat} {m : Nat} (h : f m = m) : rootsL f (m + 1) = rootsL f m ++ [m] := by
  unfold rootsL; rw [List.range_succ, List.filter_append]; simp [h]
theorem rootsL_succ_no {f : Nat → Nat} {m : Nat} (h : f m ≠ m) : rootsL f (m + 1) = rootsL f m := by
  unfold rootsL; rw [List.range_succ, List.filter_append]; simp [h]
theorem partL_succ_yes {f : Nat → Nat} {m r : Nat} (h : f m = r) : partL f (m + 1) r = partL f m r ++ [m] := by
  unfold partL; rw [List.range_succ, List.filter_append]; simp [h]
theorem partL_succ_no {f : Nat → Nat} {m r : Nat} (h : f m ≠ r) : partL f (m + 1) r = partL f m r := by
  unfold partL; rw [List.range_succ, List.filter_append]; simp [h]
theorem mem_rootsL {f : Nat → Nat} {m r : Nat} : r ∈ rootsL f m ↔ r < m ∧ f r = r := by
  unfold rootsL; simp
end Go.Proofs.Ytfabgnnpgepcoaa
