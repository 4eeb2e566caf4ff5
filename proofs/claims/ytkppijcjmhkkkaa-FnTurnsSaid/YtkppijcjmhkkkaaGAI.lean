import Derived.Test.YtkppijcjmhkkkaaGAB
import Derived.Test.YtkppijcjmhkkkaaGAH
import Derived.Test.YtkppijcjmhkkkaaGAG
import Derived.Test.YtkppijcjmhkkkaaGAF
set_option linter.unusedSimpArgs false
set_option linter.unusedVariables false
/- Plain: parts by breadth first search, on numbers: nb u d is the neighbor of u in direction d. -/


namespace Go.Proofs.Ytkppijcjmhkkkaa
open Go.RowKit
/-- one look: from the k-th of the part in direction d; names: 0 is not yet taken -/
def vis1 (nb : Nat → Nat → Option Nat) (c k d : Nat) (st : List Nat × List Nat) : List Nat × List Nat :=
  match st.1[k]? with
  | none => st
  | some u => match nb u d with
    | none => st
    | some v => if st.2[v]? = some 0 then (st.1 ++ [v], st.2.set v c) else st
def vis4 (nb : Nat → Nat → Option Nat) (c k : Nat) (st : List Nat × List Nat) : Nat → List Nat × List Nat
  | 0 => st
  | d + 1 => vis1 nb c k d (vis4 nb c k st d)
def visS (nb : Nat → Nat → Option Nat) (c : Nat) (st : List Nat × List Nat) : Nat → List Nat × List Nat
  | 0 => st
  | k + 1 => vis4 nb c k (visS nb c st k) 4
/-- the parts of 0 .. n - 1 behind the first i numbers -/
def allP (nb : Nat → Nat → Option Nat) (n : Nat) : Nat → List Nat × List (List Nat)
  | 0 => (List.replicate n 0, [])
  | i + 1 => if (allP nb n i).1[i]? = some 0 then
      ((visS nb ((allP nb n i).2.length + 1) ([i], (allP nb n i).1.set i ((allP nb n i).2.length + 1)) n).2, (allP nb n i).2 ++ [(visS nb ((allP nb n i).2.length + 1) ([i], (allP nb n i).1.set i ((allP nb n i).2.length + 1)) n).1])
    else allP nb n i
/-- what holds while a part is searched: N0 are the names before it, c its name -/
structure VisInv (n c : Nat) (N0 : List Nat) (st : List Nat × List Nat) : Prop where
  pos : c ≠ 0
  len : st.2.length = n
  nd : st.1.Nodup
  lt : ∀ v ∈ st.1, v < n
  was : ∀ v ∈ st.1, N0[v]? = some 0
  is : ∀ v ∈ st.1, st.2[v]? = some c
  other : ∀ v, v ∉ st.1 → st.2[v]? = N0[v]?
section
variable {nb : Nat → Nat → Option Nat} {n c : Nat} {N0 : List Nat} {st : List Nat × List Nat}
theorem VisInv.length (h : VisInv n c N0 st) : st.1.length ≤ n := nodup_len n st.1 h.nd h.lt
theorem VisInv.one (h : VisInv n c N0 st) (k d : Nat) : VisInv n c N0 (vis1 nb c k d st) := by
  unfold vis1
  split
  · exact h
  · split
    · exact h
    · split
      · rename_i v _ hv
        have hvl : v < n := by rw [← h.len]; exact (List.getElem?_eq_some_iff.1 hv).1
        have hm : v ∉ st.1 := fun hm => by
          have hc0 := h.is v hm
          rw [hv] at hc0
          injection hc0 with hc0
          exact h.pos hc0.symm
        refine ⟨h.pos, by rw [List.length_set]; exact h.len, ?_, ?_, ?_, ?_, ?_⟩
        · rw [List.nodup_append]
          refine ⟨h.nd, by simp, ?_⟩
          intro a ha b hb
          simp at hb
          subst hb
          exact fun e => hm (e ▸ ha)
        · intro u hu
          rcases List.mem_append.1 hu with hu | hu
          · exact h.lt u hu
          · simp at hu; subst hu; exact hvl
        · intro u hu
          rcases List.mem_append.1 hu with hu | hu
          · exact h.was u hu
          · simp at hu; subst hu; rw [← h.other u hm]; exact hv
        · intro u hu
          rcases List.mem_append.1 hu with hu | hu
          · have hne : v ≠ u := fun e => hm (e ▸ hu)
            rw [List.getElem?_set_ne hne]; exact h.is u hu
          · simp at hu; subst hu; rw [List.getElem?_set_self (by rw [h.len]; exact hvl)]
        · intro u hu
          have h1 : u ∉ st.1 := fun hh => hu (List.mem_append.2 (Or.inl hh))
          have h2 : v ≠ u := fun e => hu (List.mem_append.2 (Or.inr (by simp [e])))
          rw [List.getElem?_set_ne h2]; exact h.other u h1
      · exact h
theorem VisInv.four (h : VisInv n c N0 st) (k : Nat) : ∀ d, VisInv n c N0 (vis4 nb c k st d)
  | 0 => h
  | d + 1 => (VisInv.four h k d).one k d
theorem VisInv.all (h : VisInv n c N0 st) : ∀ k, VisInv n c N0 (visS nb c st k)
  | 0 => h
  | k + 1 => (VisInv.all h k).four k 4
theorem vis1_far {k d : Nat} (h : st.1.length ≤ k) : vis1 nb c k d st = st := by
  unfold vis1
  rw [List.getElem?_eq_none h]
theorem vis4_far {k : Nat} (h : st.1.length ≤ k) : ∀ d, vis4 nb c k st d = st
  | 0 => rfl
  | d + 1 => by
    simp only [vis4]
    rw [vis4_far h d]
    exact vis1_far h
/-- behind the part's end nothing turns any more -/
theorem visS_stop {k : Nat} (h : (visS nb c st k).1.length ≤ k) : ∀ j, visS nb c st (k + j) = visS nb c st k
  | 0 => rfl
  | j + 1 => by
    show vis4 nb c (k + j) (visS nb c st (k + j)) 4 = _
    rw [visS_stop h j]
    exact vis4_far (by omega) 4
theorem visS_end (h : VisInv n c N0 st) {k : Nat} (hk : (visS nb c st k).1.length ≤ k) : visS nb c st k = visS nb c st n := by
  rcases Nat.le_total k n with h1 | h1
  · obtain ⟨j, rfl⟩ : ∃ j, n = k + j := ⟨n - k, by omega⟩
    exact (visS_stop hk j).symm
  · obtain ⟨j, rfl⟩ : ∃ j, k = n + j := ⟨k - n, by omega⟩
    exact visS_stop (VisInv.length (h.all n)) j
theorem vis1_grow (k d : Nat) : ∃ l, (vis1 nb c k d st).1 = st.1 ++ l := by
  unfold vis1
  split
  · exact ⟨[], by simp⟩
  · split
    · exact ⟨[], by simp⟩
    · split
      · exact ⟨_, rfl⟩
      · exact ⟨[], by simp⟩
theorem vis4_grow (k : Nat) : ∀ d, ∃ l, (vis4 nb c k st d).1 = st.1 ++ l
  | 0 => ⟨[], by simp [vis4]⟩
  | d + 1 => by
    obtain ⟨l, hl⟩ := vis4_grow k d
    obtain ⟨m, hm⟩ := vis1_grow (nb := nb) (c := c) (st := vis4 nb c k st d) k d
    exact ⟨l ++ m, by simp only [vis4]; rw [hm, hl, List.append_assoc]⟩
/-- the k-th of the part stays where it is while it is looked around -/
theorem vis4_at {k u : Nat} (h : st.1[k]? = some u) (d : Nat) : (vis4 nb c k st d).1[k]? = some u := by
  obtain ⟨l, hl⟩ := vis4_grow (nb := nb) (c := c) (st := st) k d
  rw [hl, List.getElem?_append_left (List.getElem?_eq_some_iff.1 h).1]
  exact h
/-- where a part begins -/
theorem VisInv.start {i : Nat} (hc : c ≠ 0) (hl : N0.length = n) (hi : N0[i]? = some 0) : VisInv n c N0 ([i], N0.set i c) := by
  have hil : i < n := by rw [← hl]; exact (List.getElem?_eq_some_iff.1 hi).1
  refine ⟨hc, by rw [List.length_set]; exact hl, by simp, ?_, ?_, ?_, ?_⟩
  · intro v hv; simp at hv; subst hv; exact hil
  · intro v hv; simp at hv; subst hv; exact hi
  · intro v hv; simp at hv; subst hv; rw [List.getElem?_set_self (by rw [hl]; exact hil)]
  · intro v hv
    have hne : i ≠ v := fun e => hv (by simp [e])
    rw [List.getElem?_set_ne hne]
end
/-- the names behind the first i numbers are as long as they were -/
theorem allP_len (nb : Nat → Nat → Option Nat) (n : Nat) : ∀ i, (allP nb n i).1.length = n
  | 0 => List.length_replicate ..
  | i + 1 => by
    have ih := allP_len nb n i
    simp only [allP]
    split
    · rename_i h0
      exact ((VisInv.start (Nat.succ_ne_zero _) ih h0).all n).len
    · exact ih
theorem allP_count (nb : Nat → Nat → Option Nat) (n : Nat) : ∀ i, (allP nb n i).2.length ≤ i
  | 0 => Nat.le_refl _
  | i + 1 => by
    have ih := allP_count nb n i
    simp only [allP]
    split
    · rw [List.length_append]; simp; omega
    · omega
end Go.Proofs.Ytkppijcjmhkkkaa
/- Plain: steps and parents by breadth first search from a root; a connected graph is reached from every root. -/

namespace Go.Proofs.Ytkppijcjmhkkkaa
open Go.RowKit
def backI (d : Nat) : Int := ((d + 2) % 4 : Nat)
/-- one look: from the k-th of the queue in direction d; queue, parents, steps (-1: not reached) -/
def way1 (nb : Nat → Nat → Option Nat) (k d : Nat) (st : List Nat × List Int × List Int) : List Nat × List Int × List Int :=
  match st.1[k]? with
  | none => st
  | some u => match nb u d with
    | none => st
    | some v => if st.2.2[v]? = some (-1) then (st.1 ++ [v], st.2.1.set v (backI d), st.2.2.set v (st.2.2[u]?.getD 0 + 1)) else st
def way4 (nb : Nat → Nat → Option Nat) (k : Nat) (st : List Nat × List Int × List Int) : Nat → List Nat × List Int × List Int
  | 0 => st
  | d + 1 => way1 nb k d (way4 nb k st d)
def wayS (nb : Nat → Nat → Option Nat) (st : List Nat × List Int × List Int) : Nat → List Nat × List Int × List Int
  | 0 => st
  | k + 1 => way4 nb k (wayS nb st k) 4
def way0 (n r : Nat) : List Nat × List Int × List Int := ([r], List.replicate n (-1), (List.replicate n (-1)).set r 0)
/-- parents and steps from root r -/
def ways (nb : Nat → Nat → Option Nat) (n r : Nat) : List Int × List Int := (wayS nb (way0 n r) n).2
structure WayInv (n r : Nat) (st : List Nat × List Int × List Int) : Prop where
  lp : st.2.1.length = n
  ls : st.2.2.length = n
  nd : st.1.Nodup
  lt : ∀ v ∈ st.1, v < n
  is : ∀ v ∈ st.1, ∃ s : Int, st.2.2[v]? = some s ∧ 0 ≤ s ∧ s < (st.1.length : Int)
  par : ∀ v ∈ st.1, ∃ p : Int, st.2.1[v]? = some p ∧ -1 ≤ p ∧ p ≤ 3
  other : ∀ v, v < n → v ∉ st.1 → st.2.2[v]? = some (-1) ∧ st.2.1[v]? = some (-1)
  root : st.1[0]? = some r
section
variable {nb : Nat → Nat → Option Nat} {n r : Nat} {st : List Nat × List Int × List Int}
theorem WayInv.length (h : WayInv n r st) : st.1.length ≤ n := nodup_len n st.1 h.nd h.lt
theorem backI_rng (d : Nat) : 0 ≤ backI d ∧ backI d ≤ 3 := by unfold backI; omega
theorem WayInv.start (hr : r < n) : WayInv n r (way0 n r) := by
  unfold way0
  refine ⟨List.length_replicate .., by rw [List.length_set, List.length_replicate], by simp, ?_, ?_, ?_, ?_, rfl⟩
  · intro v hv; simp at hv; subst hv; exact hr
  · intro v hv
    simp at hv
    subst hv
    exact ⟨0, by rw [List.getElem?_set_self (by rw [List.length_replicate]; exact hr)], by omega, by simp⟩
  · intro v hv
    simp at hv
    subst hv
    exact ⟨-1, by rw [List.getElem?_replicate, if_pos hr], by omega, by omega⟩
  · intro v hvn hv
    have hne : r ≠ v := fun e => hv (by simp [e])
    show ((List.replicate n (-1 : Int)).set r 0)[v]? = _ ∧ (List.replicate n (-1 : Int))[v]? = _
    rw [List.getElem?_set_ne hne, List.getElem?_replicate, if_pos hvn]
    exact ⟨rfl, rfl⟩
theorem WayInv.one (h : WayInv n r st) (k d : Nat) : WayInv n r (way1 nb k d st) := by
  unfold way1
  split
  · exact h
  · rename_i u hu
    split
    · exact h
    · split
      · rename_i v _ hv
        have hvl : v < n := by rw [← h.ls]; exact (List.getElem?_eq_some_iff.1 hv).1
        have hm : v ∉ st.1 := fun hm => by
          obtain ⟨s, hs, h0, _⟩ := h.is v hm
          rw [hv] at hs
          injection hs with hs
          omega
        have hum : u ∈ st.1 := List.mem_of_getElem? hu
        obtain ⟨su, hsu, su0, su1⟩ := h.is u hum
        rw [hsu, Option.getD_some]
        refine ⟨by rw [List.length_set]; exact h.lp, by rw [List.length_set]; exact h.ls, ?_, ?_, ?_, ?_, ?_, ?_⟩
        · rw [List.nodup_append]
          refine ⟨h.nd, by simp, ?_⟩
          intro a ha b hb
          simp at hb
          subst hb
          exact fun e => hm (e ▸ ha)
        · intro x hx
          rcases List.mem_append.1 hx with hx | hx
          · exact h.lt x hx
          · simp at hx; subst hx; exact hvl
        · intro x hx
          rw [List.length_append]
          rcases List.mem_append.1 hx with hx | hx
          · have hne : v ≠ x := fun e => hm (e ▸ hx)
            obtain ⟨s, hs, h0, h1⟩ := h.is x hx
            exact ⟨s, by show (st.2.2.set v _)[x]? = _; rw [List.getElem?_set_ne hne]; exact hs, h0, by simp; omega⟩
          · simp at hx
            subst hx
            exact ⟨su + 1, by show (st.2.2.set x _)[x]? = _; rw [List.getElem?_set_self (by rw [h.ls]; exact hvl)], by omega, by simp; omega⟩
        · intro x hx
          rcases List.mem_append.1 hx with hx | hx
          · have hne : v ≠ x := fun e => hm (e ▸ hx)
            obtain ⟨p, hp, h0, h1⟩ := h.par x hx
            exact ⟨p, by show (st.2.1.set v _)[x]? = _; rw [List.getElem?_set_ne hne]; exact hp, h0, h1⟩
          · simp at hx
            subst hx
            have := backI_rng d
            exact ⟨backI d, by show (st.2.1.set x _)[x]? = _; rw [List.getElem?_set_self (by rw [h.lp]; exact hvl)], by omega, by omega⟩
        · intro x hxn hx
          have h1 : x ∉ st.1 := fun hh => hx (List.mem_append.2 (Or.inl hh))
          have h2 : v ≠ x := fun e => hx (List.mem_append.2 (Or.inr (by simp [e])))
          show (st.2.2.set v _)[x]? = _ ∧ (st.2.1.set v _)[x]? = _
          rw [List.getElem?_set_ne h2, List.getElem?_set_ne h2]
          exact h.other x hxn h1
        · show (st.1 ++ [v])[0]? = some r
          rw [List.getElem?_append_left (List.getElem?_eq_some_iff.1 h.root).1]
          exact h.root
      · exact h
theorem WayInv.four (h : WayInv n r st) (k : Nat) : ∀ d, WayInv n r (way4 nb k st d)
  | 0 => h
  | d + 1 => (WayInv.four h k d).one k d
theorem WayInv.all (h : WayInv n r st) : ∀ k, WayInv n r (wayS nb st k)
  | 0 => h
  | k + 1 => (WayInv.all h k).four k 4
theorem way1_far {k d : Nat} (h : st.1.length ≤ k) : way1 nb k d st = st := by
  unfold way1
  rw [List.getElem?_eq_none h]
theorem way4_far {k : Nat} (h : st.1.length ≤ k) : ∀ d, way4 nb k st d = st
  | 0 => rfl
  | d + 1 => by
    simp only [way4]
    rw [way4_far h d]
    exact way1_far h
theorem wayS_stop {k : Nat} (h : (wayS nb st k).1.length ≤ k) : ∀ j, wayS nb st (k + j) = wayS nb st k
  | 0 => rfl
  | j + 1 => by
    show way4 nb (k + j) (wayS nb st (k + j)) 4 = _
    rw [wayS_stop h j]
    exact way4_far (by omega) 4
theorem wayS_end (h : WayInv n r st) {k : Nat} (hk : (wayS nb st k).1.length ≤ k) : wayS nb st k = wayS nb st n := by
  rcases Nat.le_total k n with h1 | h1
  · obtain ⟨j, rfl⟩ : ∃ j, n = k + j := ⟨n - k, by omega⟩
    exact (wayS_stop hk j).symm
  · obtain ⟨j, rfl⟩ : ∃ j, k = n + j := ⟨k - n, by omega⟩
    exact wayS_stop (WayInv.length (h.all n)) j
theorem way1_grow (k d : Nat) : ∃ l, (way1 nb k d st).1 = st.1 ++ l := by
  unfold way1
  split
  · exact ⟨[], by simp⟩
  · split
    · exact ⟨[], by simp⟩
    · split
      · exact ⟨_, rfl⟩
      · exact ⟨[], by simp⟩
theorem way4_grow (k : Nat) : ∀ d, ∃ l, (way4 nb k st d).1 = st.1 ++ l
  | 0 => ⟨[], by simp [way4]⟩
  | d + 1 => by
    obtain ⟨l, hl⟩ := way4_grow k d
    obtain ⟨m, hm⟩ := way1_grow (nb := nb) (st := way4 nb k st d) k d
    exact ⟨l ++ m, by simp only [way4]; rw [hm, hl, List.append_assoc]⟩
theorem wayS_grow : ∀ k j, ∃ l, (wayS nb st (k + j)).1 = (wayS nb st k).1 ++ l
  | k, 0 => ⟨[], by simp⟩
  | k, j + 1 => by
    obtain ⟨l, hl⟩ := wayS_grow k j
    obtain ⟨m, hm⟩ := way4_grow (nb := nb) (st := wayS nb st (k + j)) (k + j) 4
    exact ⟨l ++ m, by show (way4 nb (k + j) (wayS nb st (k + j)) 4).1 = _; rw [hm, hl, List.append_assoc]⟩
theorem way4_at {k u : Nat} (h : st.1[k]? = some u) (d : Nat) : (way4 nb k st d).1[k]? = some u := by
  obtain ⟨l, hl⟩ := way4_grow (nb := nb) (st := st) k d
  rw [hl, List.getElem?_append_left (List.getElem?_eq_some_iff.1 h).1]
  exact h
/-- who has been looked at has its neighbors in the queue -/
theorem way1_hit {k d u v : Nat} (h : WayInv n r st) (hu : st.1[k]? = some u) (hv : nb u d = some v) (hvn : v < n) : v ∈ (way1 nb k d st).1 := by
  unfold way1
  rw [hu]
  simp only [hv]
  split
  · exact List.mem_append.2 (Or.inr (by simp))
  · rename_i hne
    rcases Classical.em (v ∈ st.1) with hm | hm
    · exact hm
    · exact absurd (h.other v hvn hm).1 hne
theorem way4_mem {k d v : Nat} (h : v ∈ st.1) : v ∈ (way4 nb k st d).1 := by
  obtain ⟨l, hl⟩ := way4_grow (nb := nb) (st := st) k d
  rw [hl]; exact List.mem_append.2 (Or.inl h)
theorem way4_hit {k u v : Nat} (h : WayInv n r st) (hu : st.1[k]? = some u) : ∀ (e d : Nat), d < e → nb u d = some v → v < n → v ∈ (way4 nb k st e).1
  | 0, d, hd, _, _ => absurd hd (Nat.not_lt_zero _)
  | e + 1, d, hd, hv, hvn => by
    simp only [way4]
    by_cases hde : d = e
    · subst hde
      exact way1_hit (h.four k d) (way4_at hu d) hv hvn
    · obtain ⟨l, hl⟩ := way1_grow (nb := nb) (st := way4 nb k st e) k e
      rw [hl]
      exact List.mem_append.2 (Or.inl (way4_hit h hu e d (by omega) hv hvn))
/-- the reached are closed -/
theorem wayS_closed (hr : r < n) {u v d : Nat} (hu : u ∈ (wayS nb (way0 n r) n).1) (hd : d < 4) (hv : nb u d = some v) (hvn : v < n) : v ∈ (wayS nb (way0 n r) n).1 := by
  have h0 := WayInv.start hr
  have hI := h0.all (nb := nb) n
  obtain ⟨k, hk⟩ := List.mem_iff_getElem?.1 hu
  have hkl : k < (wayS nb (way0 n r) n).1.length := (List.getElem?_eq_some_iff.1 hk).1
  have hkn : k < n := Nat.lt_of_lt_of_le hkl hI.length
  -- the k-th was there when its turn came
  have hthere : (wayS nb (way0 n r) k).1[k]? = some u := by
    obtain ⟨l, hl⟩ := wayS_grow (nb := nb) (st := way0 n r) k (n - k)
    rw [show k + (n - k) = n by omega] at hl
    rcases Nat.lt_or_ge k (wayS nb (way0 n r) k).1.length with h1 | h1
    · rw [hl, List.getElem?_append_left h1] at hk; exact hk
    · have := wayS_stop h1 (n - k)
      rw [show k + (n - k) = n by omega] at this
      rw [this] at hkl
      omega
  have hnext : v ∈ (wayS nb (way0 n r) (k + 1)).1 := way4_hit (h0.all k) hthere 4 d hd hv hvn
  obtain ⟨l, hl⟩ := wayS_grow (nb := nb) (st := way0 n r) (k + 1) (n - (k + 1))
  rw [show k + 1 + (n - (k + 1)) = n by omega] at hl
  rw [hl]
  exact List.mem_append.2 (Or.inl hnext)
/-- a part lies within each closed set that holds its first -/
theorem vis_within {c : Nat} {S : Nat → Prop} (hS : ∀ u d v, S u → d < 4 → nb u d = some v → S v) : ∀ {st : List Nat × List Nat}, (∀ u ∈ st.1, S u) → ∀ k, ∀ u ∈ (visS nb c st k).1, S u
  | st, h, 0 => h
  | st, h, k + 1 => by
    have ih := vis_within (c := c) hS h k
    have one : ∀ (d : Nat) (s : List Nat × List Nat), d < 4 → (∀ u ∈ s.1, S u) → ∀ u ∈ (vis1 nb c k d s).1, S u := by
      intro d s hd hs u hu
      unfold vis1 at hu
      split at hu
      · exact hs u hu
      · rename_i x hx
        split at hu
        · exact hs u hu
        · rename_i v hv
          split at hu
          · rcases List.mem_append.1 hu with hu | hu
            · exact hs u hu
            · simp at hu; subst hu; exact hS x d u (hs x (List.mem_of_getElem? hx)) hd hv
          · exact hs u hu
    have four : ∀ (e : Nat), e ≤ 4 → ∀ u ∈ (vis4 nb c k (visS nb c st k) e).1, S u := by
      intro e
      induction e with
      | zero => intro _; exact ih
      | succ e ihe => intro he; exact one e _ (by omega) (ihe (by omega))
    exact four 4 (Nat.le_refl _)
end
section
variable {nb : Nat → Nat → Option Nat} {n r : Nat}
theorem allP_step (i : Nat) : (allP nb n (i + 1)).2.length = (allP nb n i).2.length + (if (allP nb n i).1[i]? = some 0 then 1 else 0) := by
  simp only [allP]
  split
  · rw [List.length_append]; rfl
  · rfl
theorem allP_mono : ∀ i j, (allP nb n i).2.length ≤ (allP nb n (i + j)).2.length
  | i, 0 => Nat.le_refl _
  | i, j + 1 => by
    have := allP_mono i j
    have := allP_step (nb := nb) (n := n) (i + j)
    show _ ≤ (allP nb n (i + j + 1)).2.length
    omega
theorem allP_one (hn : 0 < n) : allP nb n 1 = ((visS nb 1 ([0], (List.replicate n 0).set 0 1) n).2, [(visS nb 1 ([0], (List.replicate n 0).set 0 1) n).1]) := by
  have h0 : (allP nb n 0).1[0]? = some 0 := by show (List.replicate n 0)[0]? = some 0; rw [List.getElem?_replicate, if_pos hn]
  rw [allP, if_pos h0]
  rfl
theorem allP_same (h1 : (allP nb n n).2.length = 1) (hn : 0 < n) : ∀ i, i + 1 ≤ n → allP nb n (i + 1) = allP nb n 1 ∧ (0 < i → (allP nb n 1).1[i]? ≠ some 0)
  | 0, _ => ⟨rfl, fun h => absurd h (Nat.lt_irrefl _)⟩
  | i + 1, hi => by
    obtain ⟨he, _⟩ := allP_same h1 hn i (by omega)
    have hl1 : (allP nb n 1).2.length = 1 := by rw [allP_one hn]; rfl
    have hs := allP_step (nb := nb) (n := n) (i + 1)
    have hm := allP_mono (nb := nb) (n := n) (i + 1 + 1) (n - (i + 1 + 1))
    rw [show i + 1 + 1 + (n - (i + 1 + 1)) = n by omega, h1] at hm
    rw [he, hl1] at hs
    have hne : (allP nb n 1).1[i + 1]? ≠ some 0 := fun e => by rw [if_pos e] at hs; omega
    refine ⟨?_, fun _ => hne⟩
    have : allP nb n (i + 1 + 1) = allP nb n (i + 1) := by
      show (if (allP nb n (i + 1)).1[i + 1]? = some 0 then _ else allP nb n (i + 1)) = _
      rw [if_neg (by rw [he]; exact hne)]
    rw [this, he]
/-- one part: every number is in it -/
theorem one_part (h1 : (allP nb n n).2.length = 1) (hn : 0 < n) {v : Nat} (hv : v < n) : v ∈ (visS nb 1 ([0], (List.replicate n 0).set 0 1) n).1 := by
  have hI := (VisInv.start (n := n) (c := 1) (N0 := List.replicate n 0) (i := 0) (by decide) (List.length_replicate ..) (by rw [List.getElem?_replicate, if_pos hn])).all (nb := nb) n
  rcases Classical.em (v ∈ (visS nb 1 ([0], (List.replicate n 0).set 0 1) n).1) with h | h
  · exact h
  · exfalso
    have ho := hI.other v h
    rw [List.getElem?_replicate, if_pos hv] at ho
    have hne := (allP_same h1 hn v (by omega)).2
    rw [allP_one hn] at hne
    rcases Nat.eq_zero_or_pos v with h0 | h0
    · subst h0
      obtain ⟨l, hl⟩ : ∃ l, (visS nb 1 ([0], (List.replicate n 0).set 0 1) n).1 = [0] ++ l := by
        have grow : ∀ k, ∃ l, (visS nb 1 ([0], (List.replicate n 0).set 0 1) k).1 = [0] ++ l := by
          intro k
          induction k with
          | zero => exact ⟨[], by simp [visS]⟩
          | succ k ih =>
            obtain ⟨l, hl⟩ := ih
            obtain ⟨m, hm⟩ := vis4_grow (nb := nb) (c := 1) (st := visS nb 1 ([0], (List.replicate n 0).set 0 1) k) k 4
            exact ⟨l ++ m, by simp only [visS]; rw [hm, hl, List.append_assoc]⟩
        exact grow n
      exact h (by rw [hl]; simp)
    · exact hne h0 ho
/-- from every root of a connected graph all is reached -/
theorem reach_all (h1 : (allP nb n n).2.length = 1) (hr : r < n) (hsym : ∀ u d v, u < n → d < 4 → nb u d = some v → v < n ∧ ∃ e, e < 4 ∧ nb v e = some u) {v : Nat} (hv : v < n) : v ∈ (wayS nb (way0 n r) n).1 := by
  have hn : 0 < n := by omega
  have hrq : r ∈ (wayS nb (way0 n r) n).1 := List.mem_of_getElem? ((WayInv.start hr).all (nb := nb) n).root
  rcases Classical.em (0 ∈ (wayS nb (way0 n r) n).1) with h0 | h0
  · have := vis_within (nb := nb) (c := 1) (S := fun u => u < n ∧ u ∈ (wayS nb (way0 n r) n).1) (fun u d v hu hd hv => by
      obtain ⟨hvn, _⟩ := hsym u d v hu.1 hd hv
      exact ⟨hvn, wayS_closed hr hu.2 hd hv hvn⟩) (st := ([0], (List.replicate n 0).set 0 1)) (fun u hu => by simp at hu; subst hu; exact ⟨hn, h0⟩) n v (one_part h1 hn hv)
    exact this.2
  · exfalso
    have := vis_within (nb := nb) (c := 1) (S := fun u => u < n ∧ u ∉ (wayS nb (way0 n r) n).1) (fun u d v hu hd hv => by
      obtain ⟨hvn, e, he, hback⟩ := hsym u d v hu.1 hd hv
      exact ⟨hvn, fun hm => hu.2 (wayS_closed hr hm he hback hu.1)⟩) (st := ([0], (List.replicate n 0).set 0 1)) (fun u hu => by simp at hu; subst hu; exact ⟨hn, h0⟩) n r (one_part h1 hn hr)
    exact this.2 hrq
end
end Go.Proofs.Ytkppijcjmhkkkaa
/- Points by their places in a shape; maps from points to bools that a call makes. -/




namespace Go.Proofs.Ytkppijcjmhkkkaa
open Go.RowKit Go.Shelf
open Go.Maps (Keyed)
set_option maxRecDepth 100000
/-- points in ascending order, all valid -/
structure Shp (ps : List Pt) : Prop where
  pt : ∀ (k : Nat) (e : Pt), ps[k]? = some e → (-60 ≤ e.x ∧ e.x ≤ 60) ∧ (-60 ≤ e.y ∧ e.y ≤ 60)
  sorted : ∀ (i j : Nat) (d e : Pt), i < j → ps[i]? = some d → ps[j]? = some e → lessPt d.x d.y e.x e.y = true
theorem lessPt_irrefl (x y : Int) : lessPt x y x y = false := by simp [lessPt, cmpPt, orI, cmpI]
theorem Shp.inj {ps : List Pt} (h : Shp ps) {i j : Nat} {e : Pt} (hi : ps[i]? = some e) (hj : ps[j]? = some e) : i = j := by
  rcases Nat.lt_trichotomy i j with hlt | heq | hlt
  · have := h.sorted i j e e hlt hi hj
    rw [lessPt_irrefl] at this
    cases this
  · exact heq
  · have := h.sorted j i e e hlt hj hi
    rw [lessPt_irrefl] at this
    cases this
/-- the place of a point -/
def idxP (ps : List Pt) (x y : Int) : Option Nat := ps.findIdx? fun e => e.x == x && e.y == y
theorem idxP_some {ps : List Pt} {x y : Int} {k : Nat} (h : idxP ps x y = some k) : ps[k]? = some ⟨x, y⟩ := by
  unfold idxP at h
  rw [List.findIdx?_eq_some_iff_getElem] at h
  obtain ⟨hk, hp, _⟩ := h
  simp only [Bool.and_eq_true, beq_iff_eq] at hp
  rw [List.getElem?_eq_getElem hk]
  have : ps[k] = ⟨x, y⟩ := by
    cases hh : ps[k] with
    | mk a b => rw [hh] at hp; simp only at hp; rw [hp.1, hp.2]
  rw [this]
theorem idxP_none {ps : List Pt} {x y : Int} (h : idxP ps x y = none) (k : Nat) : ps[k]? ≠ some ⟨x, y⟩ := by
  intro hk
  unfold idxP at h
  rw [List.findIdx?_eq_none_iff] at h
  have := h _ (List.mem_of_getElem? hk)
  simp at this
theorem Shp.idx {ps : List Pt} (h : Shp ps) {k : Nat} {e : Pt} (hk : ps[k]? = some e) : idxP ps e.x e.y = some k := by
  cases hi : idxP ps e.x e.y with
  | none => exact absurd hk (idxP_none hi k)
  | some j => rw [h.inj hk (idxP_some hi)]
/-- the neighbor of a point, by their places -/
def nbP (ps : List Pt) (u d : Nat) : Option Nat := match ps[u]? with
  | some e => idxP ps (stepX e.x d) (stepY e.y d)
  | none => none
theorem nbP_sym {ps : List Pt} (h : Shp ps) (u d v : Nat) (hu : u < ps.length) (hd : d < 4) (hv : nbP ps u d = some v) : v < ps.length ∧ ∃ e, e < 4 ∧ nbP ps v e = some u := by
  obtain ⟨e, he⟩ : ∃ e, ps[u]? = some e := ⟨_, List.getElem?_eq_getElem hu⟩
  unfold nbP at hv
  rw [he] at hv
  simp only at hv
  have hk := idxP_some hv
  refine ⟨(List.getElem?_eq_some_iff.1 hk).1, (d + 2) % 4, by omega, ?_⟩
  unfold nbP
  rw [hk]
  simp only
  have hb : stepX (stepX e.x d) (((d + 2) % 4 : Nat) : Int) = e.x ∧ stepY (stepY e.y d) (((d + 2) % 4 : Nat) : Int) = e.y := by
    have : d = 0 ∨ d = 1 ∨ d = 2 ∨ d = 3 := by omega
    rcases this with rfl | rfl | rfl | rfl <;> simp [stepX, stepY]
  rw [hb.1, hb.2]
  exact h.idx he
/-- the points that are not yet taken -/
def leftB (ps : List Pt) (nm : List Nat) (x y : Int) : Bool := match idxP ps x y with
  | some v => decide (nm[v]? = some 0)
  | none => false
theorem leftB_set {ps : List Pt} (h : Shp ps) {nm : List Nat} {v c : Nat} {e : Pt} (he : ps[v]? = some e) (hv : v < nm.length) (hc : c ≠ 0) (x y : Int) : leftB ps (nm.set v c) x y = (leftB ps nm x y && !decide (x = e.x ∧ y = e.y)) := by
  unfold leftB
  cases hi : idxP ps x y with
  | none => simp
  | some k =>
    have hk := idxP_some hi
    by_cases hkv : v = k
    · subst hkv
      rw [he] at hk
      injection hk with hk
      subst hk
      simp only [List.getElem?_set_self hv]
      simp [hc]
    · simp only [List.getElem?_set_ne hkv]
      have hne : ¬ (x = e.x ∧ y = e.y) := fun hh => by
        obtain ⟨rfl, rfl⟩ := hh
        exact hkv (h.inj he hk)
      simp [hne]
/-- block b maps points to bools: S; at most n were laid in -/
def LMap (w : World) (b n : Nat) (S : Int → Int → Bool) : Prop :=
  ∃ D : DataW Unit, w.ownsMap Try.prog 49 (plainElem Try.prog 4) b n D ∧ ∀ x y, W64 x → W64 y → D.atKey (pkey x y) (.lit (.bool false)) = .lit (.bool (S x y))
section
variable {w w' : World} {b n : Nat} {S S' : Int → Int → Bool}
theorem LMap.made (w : World) : LMap (w.alloc (.map #[] 0)) w.heap.size 0 (fun _ _ => false) :=
  ⟨_, World.ownsMap_made _ _ _ _, fun x y _ _ => WideAt.atKey_none _ (fun p hp => by simp at hp)⟩
theorem LMap.lt (h : LMap w b n S) : b < w.heap.size := by
  obtain ⟨D, h, _⟩ := h
  exact h.lt
theorem LMap.block (h : LMap w b n S) (hb : w'.heap[b]? = w.heap[b]?) : LMap w' b n S := by
  obtain ⟨D, ⟨es, clock, hh, r⟩, h2⟩ := h
  exact ⟨D, ⟨es, clock, hb.trans hh, r⟩, h2⟩
theorem LMap.below (h : LMap w b n S) (hb : Below w.heap.size w w') : LMap w' b n S := h.block (hb.block b h.lt)
theorem LMap.say (h : LMap w b n S) (hS : ∀ x y, S x y = S' x y) : LMap w b n S' := by
  obtain rfl : S = S' := funext fun x => funext fun y => hS x y
  exact h
end
section
variable {ops : Array Oper} {rest : List Oper} {o : Oper} {a : Act} {Q : Exit → Act → World → Prop}
theorem zero_bo (w : World) : (zeroValue 4).run Try.prog w = .ok (.bool false) w := by kernel_rfl
theorem wpList_look_lmap (w : World) (hg : o.guard = none) (m k : Operand) (hop : o.op = Op.lookup 83 m k false) (b n : Nat) (S : Int → Int → Bool) (hm : a.eval m = .map (some b)) (h : LMap w b n S) (x y : Int) (hx : W64 x) (hy : W64 y) (hk : a.eval k = .agg #[.int .i64 x, .int .i64 y])
    (hK : wpList Try.prog ops Q rest (a.put o.dst (.bool (S x y))) w) : wpList Try.prog ops Q (o :: rest) a w := by
  obtain ⟨D, hown, hat⟩ := h
  have hw : Region.wanted o (yielded ops a.tmps) = true := by simp [Region.wanted, hg]
  refine wpList_wanted hw fun K' hK' => ?_
  obtain ⟨v, ps, hrun, hv⟩ := hown.lookup pt_keyed Try.underlying83 (zero_bo w) (plainElem_bool Try.underlying4 false) (keyOf_pt hx hy)
  rw [hat x y hx hy] at hv
  obtain rfl := plainElem_bool_inv Try.underlying4 hv
  unfold Oper.wp
  simp [execOp, hop, hm, hk, hrun, Result.andThen]
  exact hK' _ _ hK
theorem wpList_put_lmap (w : World) (hg : o.guard = none) (m k u : Operand) (hop : o.op = Op.mapUpdate 83 m k u) (b n : Nat) (S : Int → Int → Bool) (hm : a.eval m = .map (some b)) (h : LMap w b n S) (x y : Int) (hx : W64 x) (hy : W64 y) (hn : n < maxLen) (hk : a.eval k = .agg #[.int .i64 x, .int .i64 y]) (hu : a.eval u = .bool true)
    (hK : ∀ w', LMap w' b (n + 1) (fun i j => S i j || decide (i = x ∧ j = y)) → w.grownBy w' (some b) → wpList Try.prog ops Q rest (a.put o.dst undef) w') : wpList Try.prog ops Q (o :: rest) a w := by
  obtain ⟨D, hown, hat⟩ := h
  refine wpList_mapUpdate_own w hg m k u 83 hop _ _ pt_keyed Try.underlying83 _ b n D hm hown hn _ _ _ hk hu (keyOf_pt hx hy) _ [] (plainElem_bool Try.underlying4 true) ?_
  intro w' h1 h2
  refine hK w' ⟨_, h1, fun i j hi hj => ?_⟩ h2
  by_cases hij : i = x ∧ j = y
  · obtain ⟨rfl, rfl⟩ := hij
    rw [Maps.atKey_put_same hown.isMap (pt_keyed.key (keyOf_pt hi hj))]
    simp
  · rw [Maps.atKey_put_other (fun e => hij (pkey_inj hi hj hx hy e)), hat i j hi hj]
    simp [hij]
theorem wpList_del_lmap (w : World) (hg : o.guard = none) (m k : Operand) (hop : o.op = Op.call { callee := Callee.builtin Builtin.delete, args := #[m, k], argTypes := #[83, 49] }) (b n : Nat) (S : Int → Int → Bool) (hm : a.eval m = .map (some b)) (h : LMap w b n S) (x y : Int) (hx : W64 x) (hy : W64 y) (hk : a.eval k = .agg #[.int .i64 x, .int .i64 y])
    (hK : ∀ w', LMap w' b n (fun i j => S i j && !decide (i = x ∧ j = y)) → w.grownBy w' (some b) → wpList Try.prog ops Q rest (a.put o.dst (.tuple #[])) w') : wpList Try.prog ops Q (o :: rest) a w := by
  obtain ⟨D, hown, hat⟩ := h
  refine wpList_delete_own w hg m k 83 49 hop 4 pt_keyed Try.underlying83 _ b n D hm hown _ _ hk (keyOf_pt hx hy) ?_
  intro w' h1 h2
  refine hK w' ⟨_, h1, fun i j hi hj => ?_⟩ h2.grown
  by_cases hij : i = x ∧ j = y
  · obtain ⟨rfl, rfl⟩ := hij
    rw [Maps.atKey_del_same]
    simp
  · rw [Maps.atKey_del_other (fun e => hij (pkey_inj hi hj hx hy e)), hat i j hi hj]
    simp [hij]
end
end Go.Proofs.Ytkppijcjmhkkkaa
