/- Plain: parts by breadth first search, on numbers: nb u d is the neighbor of u in direction d. -/
import Derived.Test.YtkfjojpohcieeaaBase2
import Derived.Test.YtkfjojpohcieeaaP7
namespace Go.Proofs.Ytkfjojpohcieeaa
open Go.RowKit
set_option linter.unusedSimpArgs false
set_option linter.unusedVariables false
/-- one look: from the k-th of the part in direction d; names: 0 is not yet taken -/
def vis1 (nb : Nat → Nat → Option Nat) (c k d : Nat) (st : List Nat × List Nat) : List Nat × List Nat :=
  match st.1[k]? with
  | none => st
  | some u => match nb u d with
    | none => st
    | some v => if st.2[v]? = some 0 then (st.1 ++ [v], st.2.set v c) else st
def vis4 (nb : Nat → Nat → Option Nat) (c k : Nat) (st : List Nat × List Nat) : Nat → List Nat × List Nat
  | 0 => st
  | d + 1 => vis1 nb c k d (vis4 nb c k st d)
def visS (nb : Nat → Nat → Option Nat) (c : Nat) (st : List Nat × List Nat) : Nat → List Nat × List Nat
  | 0 => st
  | k + 1 => vis4 nb c k (visS nb c st k) 4
/-- the parts of 0 .. n - 1 behind the first i numbers -/
def allP (nb : Nat → Nat → Option Nat) (n : Nat) : Nat → List Nat × List (List Nat)
  | 0 => (List.replicate n 0, [])
  | i + 1 => if (allP nb n i).1[i]? = some 0 then
      ((visS nb ((allP nb n i).2.length + 1) ([i], (allP nb n i).1.set i ((allP nb n i).2.length + 1)) n).2, (allP nb n i).2 ++ [(visS nb ((allP nb n i).2.length + 1) ([i], (allP nb n i).1.set i ((allP nb n i).2.length + 1)) n).1])
    else allP nb n i
/-- what holds while a part is searched: N0 are the names before it, c its name -/
structure VisInv (n c : Nat) (N0 : List Nat) (st : List Nat × List Nat) : Prop where
  pos : c ≠ 0
  len : st.2.length = n
  nd : st.1.Nodup
  lt : ∀ v ∈ st.1, v < n
  was : ∀ v ∈ st.1, N0[v]? = some 0
  is : ∀ v ∈ st.1, st.2[v]? = some c
  other : ∀ v, v ∉ st.1 → st.2[v]? = N0[v]?
section
variable {nb : Nat → Nat → Option Nat} {n c : Nat} {N0 : List Nat} {st : List Nat × List Nat}
theorem VisInv.length (h : VisInv n c N0 st) : st.1.length ≤ n := nodup_len n st.1 h.nd h.lt
theorem VisInv.one (h : VisInv n c N0 st) (k d : Nat) : VisInv n c N0 (vis1 nb c k d st) := by
  unfold vis1
  split
  · exact h
  · split
    · exact h
    · split
      · rename_i v _ hv
        have hvl : v < n := by rw [← h.len]; exact (List.getElem?_eq_some_iff.1 hv).1
        have hm : v ∉ st.1 := fun hm => by
          have hc0 := h.is v hm
          rw [hv] at hc0
          injection hc0 with hc0
          exact h.pos hc0.symm
        refine ⟨h.pos, by rw [List.length_set]; exact h.len, ?_, ?_, ?_, ?_, ?_⟩
        · rw [List.nodup_append]
          refine ⟨h.nd, by simp, ?_⟩
          intro a ha b hb
          simp at hb
          subst hb
          exact fun e => hm (e ▸ ha)
        · intro u hu
          rcases List.mem_append.1 hu with hu | hu
          · exact h.lt u hu
          · simp at hu; subst hu; exact hvl
        · intro u hu
          rcases List.mem_append.1 hu with hu | hu
          · exact h.was u hu
          · simp at hu; subst hu; rw [← h.other u hm]; exact hv
        · intro u hu
          rcases List.mem_append.1 hu with hu | hu
          · have hne : v ≠ u := fun e => hm (e ▸ hu)
            rw [List.getElem?_set_ne hne]; exact h.is u hu
          · simp at hu; subst hu; rw [List.getElem?_set_self (by rw [h.len]; exact hvl)]
        · intro u hu
          have h1 : u ∉ st.1 := fun hh => hu (List.mem_append.2 (Or.inl hh))
          have h2 : v ≠ u := fun e => hu (List.mem_append.2 (Or.inr (by simp [e])))
          rw [List.getElem?_set_ne h2]; exact h.other u h1
      · exact h
theorem VisInv.four (h : VisInv n c N0 st) (k : Nat) : ∀ d, VisInv n c N0 (vis4 nb c k st d)
  | 0 => h
  | d + 1 => (VisInv.four h k d).one k d
theorem VisInv.all (h : VisInv n c N0 st) : ∀ k, VisInv n c N0 (visS nb c st k)
  | 0 => h
  | k + 1 => (VisInv.all h k).four k 4
theorem vis1_far {k d : Nat} (h : st.1.length ≤ k) : vis1 nb c k d st = st := by
  unfold vis1
  rw [List.getElem?_eq_none h]
theorem vis4_far {k : Nat} (h : st.1.length ≤ k) : ∀ d, vis4 nb c k st d = st
  | 0 => rfl
  | d + 1 => by
    simp only [vis4]
    rw [vis4_far h d]
    exact vis1_far h
/-- behind the part's end nothing turns any more -/
theorem visS_stop {k : Nat} (h : (visS nb c st k).1.length ≤ k) : ∀ j, visS nb c st (k + j) = visS nb c st k
  | 0 => rfl
  | j + 1 => by
    show vis4 nb c (k + j) (visS nb c st (k + j)) 4 = _
    rw [visS_stop h j]
    exact vis4_far (by omega) 4
theorem visS_end (h : VisInv n c N0 st) {k : Nat} (hk : (visS nb c st k).1.length ≤ k) : visS nb c st k = visS nb c st n := by
  rcases Nat.le_total k n with h1 | h1
  · obtain ⟨j, rfl⟩ : ∃ j, n = k + j := ⟨n - k, by omega⟩
    exact (visS_stop hk j).symm
  · obtain ⟨j, rfl⟩ : ∃ j, k = n + j := ⟨k - n, by omega⟩
    exact visS_stop (VisInv.length (h.all n)) j
theorem vis1_grow (k d : Nat) : ∃ l, (vis1 nb c k d st).1 = st.1 ++ l := by
  unfold vis1
  split
  · exact ⟨[], by simp⟩
  · split
    · exact ⟨[], by simp⟩
    · split
      · exact ⟨_, rfl⟩
      · exact ⟨[], by simp⟩
theorem vis4_grow (k : Nat) : ∀ d, ∃ l, (vis4 nb c k st d).1 = st.1 ++ l
  | 0 => ⟨[], by simp [vis4]⟩
  | d + 1 => by
    obtain ⟨l, hl⟩ := vis4_grow k d
    obtain ⟨m, hm⟩ := vis1_grow (nb := nb) (c := c) (st := vis4 nb c k st d) k d
    exact ⟨l ++ m, by simp only [vis4]; rw [hm, hl, List.append_assoc]⟩
/-- the k-th of the part stays where it is while it is looked around -/
theorem vis4_at {k u : Nat} (h : st.1[k]? = some u) (d : Nat) : (vis4 nb c k st d).1[k]? = some u := by
  obtain ⟨l, hl⟩ := vis4_grow (nb := nb) (c := c) (st := st) k d
  rw [hl, List.getElem?_append_left (List.getElem?_eq_some_iff.1 h).1]
  exact h
/-- where a part begins -/
theorem VisInv.start {i : Nat} (hc : c ≠ 0) (hl : N0.length = n) (hi : N0[i]? = some 0) : VisInv n c N0 ([i], N0.set i c) := by
  have hil : i < n := by rw [← hl]; exact (List.getElem?_eq_some_iff.1 hi).1
  refine ⟨hc, by rw [List.length_set]; exact hl, by simp, ?_, ?_, ?_, ?_⟩
  · intro v hv; simp at hv; subst hv; exact hil
  · intro v hv; simp at hv; subst hv; exact hi
  · intro v hv; simp at hv; subst hv; rw [List.getElem?_set_self (by rw [hl]; exact hil)]
  · intro v hv
    have hne : i ≠ v := fun e => hv (by simp [e])
    rw [List.getElem?_set_ne hne]
end
/-- the names behind the first i numbers are as long as they were -/
theorem allP_len (nb : Nat → Nat → Option Nat) (n : Nat) : ∀ i, (allP nb n i).1.length = n
  | 0 => List.length_replicate ..
  | i + 1 => by
    have ih := allP_len nb n i
    simp only [allP]
    split
    · rename_i h0
      exact ((VisInv.start (Nat.succ_ne_zero _) ih h0).all n).len
    · exact ih
theorem allP_count (nb : Nat → Nat → Option Nat) (n : Nat) : ∀ i, (allP nb n i).2.length ≤ i
  | 0 => Nat.le_refl _
  | i + 1 => by
    have ih := allP_count nb n i
    simp only [allP]
    split
    · rw [List.length_append]; simp; omega
    · omega
end Go.Proofs.Ytkfjojpohcieeaa
