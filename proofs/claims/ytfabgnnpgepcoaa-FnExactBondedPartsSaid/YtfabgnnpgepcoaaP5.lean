/- Plain facts: the groups grow by one number. -/
import Derived.Test.YtfabgnnpgepcoaaP4
namespace Go.Proofs.Ytfabgnnpgepcoaa
set_option linter.unusedSimpArgs false
set_option linter.unusedVariables false
theorem rootsL_get {f : Nat → Nat} : ∀ (m k r : Nat), (rootsL f m)[k]? = some r → r < m ∧ f r = r ∧ k = (rootsL f r).length := by
  intro m
  induction m with
  | zero => intro k r h; simp [rootsL] at h
  | succ m ih =>
    intro k r h
    by_cases hm : f m = m
    · rw [rootsL_succ_yes hm] at h
      rcases Nat.lt_or_ge k (rootsL f m).length with hlt | hge
      · rw [List.getElem?_append_left hlt] at h
        have := ih k r h
        exact ⟨by omega, this.2⟩
      · have hl := (List.getElem?_eq_some_iff.1 h).1
        simp at hl
        obtain rfl : k = (rootsL f m).length := by omega
        simp at h
        subst h
        exact ⟨by omega, hm, rfl⟩
    · rw [rootsL_succ_no hm] at h
      have := ih k r h
      exact ⟨by omega, this.2⟩
theorem rootsL_at {f : Nat → Nat} {m r : Nat} (h : r < m) (hr : f r = r) : (rootsL f m)[(rootsL f r).length]? = some r := by
  have hmem : r ∈ rootsL f m := mem_rootsL.2 ⟨h, hr⟩
  obtain ⟨k, hk⟩ := List.mem_iff_getElem?.1 hmem
  obtain ⟨_, _, rfl⟩ := rootsL_get m k r hk
  exact hk
theorem rootsL_lt {f : Nat → Nat} {m r : Nat} (h : r < m) (hr : f r = r) : (rootsL f r).length < (rootsL f m).length :=
  (List.getElem?_eq_some_iff.1 (rootsL_at h hr)).1
theorem rootsL_len (f : Nat → Nat) (m : Nat) : (rootsL f m).length ≤ m := by
  unfold rootsL
  have := List.length_filter_le (fun i => f i == i) (List.range m)
  simpa using this
theorem partL_new {f : Nat → Nat} (hf : ∀ k, f k ≤ k) {m r : Nat} (h : m ≤ r) : partL f m r = [] := by
  unfold partL
  rw [List.filter_eq_nil_iff]
  intro k hk
  have := hf k
  simp at hk ⊢
  omega
theorem groupsL_get {f : Nat → Nat} {m k : Nat} : (groupsL f m)[k]? = ((rootsL f m)[k]?).map (partL f m) := by
  unfold groupsL; rw [List.getElem?_map]
/-- number m joins the group of its label -/
theorem groupsL_old {f : Nat → Nat} {m : Nat} (h : f m ≠ m) (hlt : f m < m) (hr : f (f m) = f m) :
    groupsL f (m + 1) = (groupsL f m).set (rootsL f (f m)).length (partL f m (f m) ++ [m]) := by
  apply List.ext_getElem?
  intro j
  have hk := rootsL_lt hlt hr
  rw [List.getElem?_set, groupsL_get, groupsL_get, rootsL_succ_no h]
  have hgl : (groupsL f m).length = (rootsL f m).length := by simp [groupsL]
  by_cases e : (rootsL f (f m)).length = j
  · subst e
    rw [if_pos rfl, if_pos (by rw [hgl]; exact hk), rootsL_at hlt hr]
    simp [partL_succ_yes]
  · rw [if_neg e]
    cases hg : (rootsL f m)[j]? with
    | none => rfl
    | some r =>
      obtain ⟨h1, h2, h3⟩ := rootsL_get m j r hg
      have : f m ≠ r := by
        rintro rfl
        exact e h3.symm
      simp [partL_succ_no this]
/-- number m opens a group -/
theorem groupsL_new {f : Nat → Nat} (hf : ∀ k, f k ≤ k) {m : Nat} (h : f m = m) : groupsL f (m + 1) = groupsL f m ++ [[m]] := by
  unfold groupsL
  rw [rootsL_succ_yes h, List.map_append]
  congr 1
  · apply List.map_congr_left
    intro r hr
    have := (mem_rootsL.1 hr).1
    exact partL_succ_no (by omega)
  · simp [partL_succ_yes h, partL_new hf (Nat.le_refl m)]
/-- where a label's group lies -/
def placeM (f : Nat → Nat) (i : Nat) (r : Nat) : Option Nat := if r < i ∧ f r = r then some (rootsL f r).length else none
theorem placeM_zero (f : Nat → Nat) : placeM f 0 = fun _ => none := by
  funext r; unfold placeM; simp
theorem placeM_old {f : Nat → Nat} {m : Nat} (h : f m ≠ m) : placeM f (m + 1) = placeM f m := by
  funext r
  unfold placeM
  by_cases hr : r < m
  · simp [hr, Nat.lt_succ_of_lt hr]
  · by_cases e : r = m
    · subst e; simp [h]
    · have : ¬ r < m + 1 := by omega
      simp [hr, this]
theorem placeM_new {f : Nat → Nat} {m : Nat} (h : f m = m) : placeM f (m + 1) = fun j => if j = m then some (rootsL f m).length else placeM f m j := by
  funext r
  unfold placeM
  by_cases e : r = m
  · subst e; simp [h]
  · rw [if_neg e]
    by_cases hr : r < m
    · simp [hr, Nat.lt_succ_of_lt hr]
    · have : ¬ r < m + 1 := by omega
      simp [hr, this]
theorem placeM_yes {f : Nat → Nat} {m r : Nat} (h : r < m) (hr : f r = r) : placeM f m r = some (rootsL f r).length := by
  unfold placeM; rw [if_pos ⟨h, hr⟩]
theorem placeM_no {f : Nat → Nat} {m : Nat} : placeM f m m = none := by
  unfold placeM; simp
/-- each label of the round is replaced, one number after the other -/
theorem labOf_lt {bs : List Bd} (m k : Nat) : labOf bs m k ≤ k := (Lab.of bs m).le k
end Go.Proofs.Ytfabgnnpgepcoaa
