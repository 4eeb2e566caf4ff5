import Derived.Test.YtpnahobgmemdjaaBase2
import Derived.Test.YtpnahobgmemdjaaKY
import Derived.Test.YtpnahobgmemdjaaW70
import Derived.Test.YtpnahobgmemdjaaPts
import Derived.Test.YtpnahobgmemdjaaW12
import Derived.Test.YtpnahobgmemdjaaShelf
import Derived.Sort.OwnSortedInts
import Derived.Test.YtpnahobgmemdjaaN1
set_option linter.unusedSimpArgs false
set_option linter.unusedVariables false
/- Plain: parts by breadth first search, on numbers: nb u d is the neighbor of u in direction d. -/


namespace Go.Proofs.Ytpnahobgmemdjaa
open Go.RowKit
/-- one look: from the k-th of the part in direction d; names: 0 is not yet taken -/
def vis1 (nb : Nat → Nat → Option Nat) (c k d : Nat) (st : List Nat × List Nat) : List Nat × List Nat :=
  match st.1[k]? with
  | none => st
  | some u => match nb u d with
    | none => st
    | some v => if st.2[v]? = some 0 then (st.1 ++ [v], st.2.set v c) else st
def vis4 (nb : Nat → Nat → Option Nat) (c k : Nat) (st : List Nat × List Nat) : Nat → List Nat × List Nat
  | 0 => st
  | d + 1 => vis1 nb c k d (vis4 nb c k st d)
def visS (nb : Nat → Nat → Option Nat) (c : Nat) (st : List Nat × List Nat) : Nat → List Nat × List Nat
  | 0 => st
  | k + 1 => vis4 nb c k (visS nb c st k) 4
/-- the parts of 0 .. n - 1 behind the first i numbers -/
def allP (nb : Nat → Nat → Option Nat) (n : Nat) : Nat → List Nat × List (List Nat)
  | 0 => (List.replicate n 0, [])
  | i + 1 => if (allP nb n i).1[i]? = some 0 then
      ((visS nb ((allP nb n i).2.length + 1) ([i], (allP nb n i).1.set i ((allP nb n i).2.length + 1)) n).2, (allP nb n i).2 ++ [(visS nb ((allP nb n i).2.length + 1) ([i], (allP nb n i).1.set i ((allP nb n i).2.length + 1)) n).1])
    else allP nb n i
/-- what holds while a part is searched: N0 are the names before it, c its name -/
structure VisInv (n c : Nat) (N0 : List Nat) (st : List Nat × List Nat) : Prop where
  pos : c ≠ 0
  len : st.2.length = n
  nd : st.1.Nodup
  lt : ∀ v ∈ st.1, v < n
  was : ∀ v ∈ st.1, N0[v]? = some 0
  is : ∀ v ∈ st.1, st.2[v]? = some c
  other : ∀ v, v ∉ st.1 → st.2[v]? = N0[v]?
section
variable {nb : Nat → Nat → Option Nat} {n c : Nat} {N0 : List Nat} {st : List Nat × List Nat}
theorem VisInv.length (h : VisInv n c N0 st) : st.1.length ≤ n := nodup_len n st.1 h.nd h.lt
theorem VisInv.one (h : VisInv n c N0 st) (k d : Nat) : VisInv n c N0 (vis1 nb c k d st) := by
  unfold vis1
  split
  · exact h
  · split
    · exact h
    · split
      · rename_i v _ hv
        have hvl : v < n := by rw [← h.len]; exact (List.getElem?_eq_some_iff.1 hv).1
        have hm : v ∉ st.1 := fun hm => by
          have hc0 := h.is v hm
          rw [hv] at hc0
          injection hc0 with hc0
          exact h.pos hc0.symm
        refine ⟨h.pos, by rw [List.length_set]; exact h.len, ?_, ?_, ?_, ?_, ?_⟩
        · rw [List.nodup_append]
          refine ⟨h.nd, by simp, ?_⟩
          intro a ha b hb
          simp at hb
          subst hb
          exact fun e => hm (e ▸ ha)
        · intro u hu
          rcases List.mem_append.1 hu with hu | hu
          · exact h.lt u hu
          · simp at hu; subst hu; exact hvl
        · intro u hu
          rcases List.mem_append.1 hu with hu | hu
          · exact h.was u hu
          · simp at hu; subst hu; rw [← h.other u hm]; exact hv
        · intro u hu
          rcases List.mem_append.1 hu with hu | hu
          · have hne : v ≠ u := fun e => hm (e ▸ hu)
            rw [List.getElem?_set_ne hne]; exact h.is u hu
          · simp at hu; subst hu; rw [List.getElem?_set_self (by rw [h.len]; exact hvl)]
        · intro u hu
          have h1 : u ∉ st.1 := fun hh => hu (List.mem_append.2 (Or.inl hh))
          have h2 : v ≠ u := fun e => hu (List.mem_append.2 (Or.inr (by simp [e])))
          rw [List.getElem?_set_ne h2]; exact h.other u h1
      · exact h
theorem VisInv.four (h : VisInv n c N0 st) (k : Nat) : ∀ d, VisInv n c N0 (vis4 nb c k st d)
  | 0 => h
  | d + 1 => (VisInv.four h k d).one k d
theorem VisInv.all (h : VisInv n c N0 st) : ∀ k, VisInv n c N0 (visS nb c st k)
  | 0 => h
  | k + 1 => (VisInv.all h k).four k 4
theorem vis1_far {k d : Nat} (h : st.1.length ≤ k) : vis1 nb c k d st = st := by
  unfold vis1
  rw [List.getElem?_eq_none h]
theorem vis4_far {k : Nat} (h : st.1.length ≤ k) : ∀ d, vis4 nb c k st d = st
  | 0 => rfl
  | d + 1 => by
    simp only [vis4]
    rw [vis4_far h d]
    exact vis1_far h
/-- behind the part's end nothing turns any more -/
theorem visS_stop {k : Nat} (h : (visS nb c st k).1.length ≤ k) : ∀ j, visS nb c st (k + j) = visS nb c st k
  | 0 => rfl
  | j + 1 => by
    show vis4 nb c (k + j) (visS nb c st (k + j)) 4 = _
    rw [visS_stop h j]
    exact vis4_far (by omega) 4
theorem visS_end (h : VisInv n c N0 st) {k : Nat} (hk : (visS nb c st k).1.length ≤ k) : visS nb c st k = visS nb c st n := by
  rcases Nat.le_total k n with h1 | h1
  · obtain ⟨j, rfl⟩ : ∃ j, n = k + j := ⟨n - k, by omega⟩
    exact (visS_stop hk j).symm
  · obtain ⟨j, rfl⟩ : ∃ j, k = n + j := ⟨k - n, by omega⟩
    exact visS_stop (VisInv.length (h.all n)) j
theorem vis1_grow (k d : Nat) : ∃ l, (vis1 nb c k d st).1 = st.1 ++ l := by
  unfold vis1
  split
  · exact ⟨[], by simp⟩
  · split
    · exact ⟨[], by simp⟩
    · split
      · exact ⟨_, rfl⟩
      · exact ⟨[], by simp⟩
theorem vis4_grow (k : Nat) : ∀ d, ∃ l, (vis4 nb c k st d).1 = st.1 ++ l
  | 0 => ⟨[], by simp [vis4]⟩
  | d + 1 => by
    obtain ⟨l, hl⟩ := vis4_grow k d
    obtain ⟨m, hm⟩ := vis1_grow (nb := nb) (c := c) (st := vis4 nb c k st d) k d
    exact ⟨l ++ m, by simp only [vis4]; rw [hm, hl, List.append_assoc]⟩
/-- the k-th of the part stays where it is while it is looked around -/
theorem vis4_at {k u : Nat} (h : st.1[k]? = some u) (d : Nat) : (vis4 nb c k st d).1[k]? = some u := by
  obtain ⟨l, hl⟩ := vis4_grow (nb := nb) (c := c) (st := st) k d
  rw [hl, List.getElem?_append_left (List.getElem?_eq_some_iff.1 h).1]
  exact h
/-- where a part begins -/
theorem VisInv.start {i : Nat} (hc : c ≠ 0) (hl : N0.length = n) (hi : N0[i]? = some 0) : VisInv n c N0 ([i], N0.set i c) := by
  have hil : i < n := by rw [← hl]; exact (List.getElem?_eq_some_iff.1 hi).1
  refine ⟨hc, by rw [List.length_set]; exact hl, by simp, ?_, ?_, ?_, ?_⟩
  · intro v hv; simp at hv; subst hv; exact hil
  · intro v hv; simp at hv; subst hv; exact hi
  · intro v hv; simp at hv; subst hv; rw [List.getElem?_set_self (by rw [hl]; exact hil)]
  · intro v hv
    have hne : i ≠ v := fun e => hv (by simp [e])
    rw [List.getElem?_set_ne hne]
end
/-- the names behind the first i numbers are as long as they were -/
theorem allP_len (nb : Nat → Nat → Option Nat) (n : Nat) : ∀ i, (allP nb n i).1.length = n
  | 0 => List.length_replicate ..
  | i + 1 => by
    have ih := allP_len nb n i
    simp only [allP]
    split
    · rename_i h0
      exact ((VisInv.start (Nat.succ_ne_zero _) ih h0).all n).len
    · exact ih
theorem allP_count (nb : Nat → Nat → Option Nat) (n : Nat) : ∀ i, (allP nb n i).2.length ≤ i
  | 0 => Nat.le_refl _
  | i + 1 => by
    have ih := allP_count nb n i
    simp only [allP]
    split
    · rw [List.length_append]; simp; omega
    · omega
end Go.Proofs.Ytpnahobgmemdjaa
/- Plain: steps and parents by breadth first search from a root; a connected graph is reached from every root. -/

namespace Go.Proofs.Ytpnahobgmemdjaa
open Go.RowKit
def backI (d : Nat) : Int := ((d + 2) % 4 : Nat)
/-- one look: from the k-th of the queue in direction d; queue, parents, steps (-1: not reached) -/
def way1 (nb : Nat → Nat → Option Nat) (k d : Nat) (st : List Nat × List Int × List Int) : List Nat × List Int × List Int :=
  match st.1[k]? with
  | none => st
  | some u => match nb u d with
    | none => st
    | some v => if st.2.2[v]? = some (-1) then (st.1 ++ [v], st.2.1.set v (backI d), st.2.2.set v (st.2.2[u]?.getD 0 + 1)) else st
def way4 (nb : Nat → Nat → Option Nat) (k : Nat) (st : List Nat × List Int × List Int) : Nat → List Nat × List Int × List Int
  | 0 => st
  | d + 1 => way1 nb k d (way4 nb k st d)
def wayS (nb : Nat → Nat → Option Nat) (st : List Nat × List Int × List Int) : Nat → List Nat × List Int × List Int
  | 0 => st
  | k + 1 => way4 nb k (wayS nb st k) 4
def way0 (n r : Nat) : List Nat × List Int × List Int := ([r], List.replicate n (-1), (List.replicate n (-1)).set r 0)
/-- parents and steps from root r -/
def ways (nb : Nat → Nat → Option Nat) (n r : Nat) : List Int × List Int := (wayS nb (way0 n r) n).2
structure WayInv (n r : Nat) (st : List Nat × List Int × List Int) : Prop where
  lp : st.2.1.length = n
  ls : st.2.2.length = n
  nd : st.1.Nodup
  lt : ∀ v ∈ st.1, v < n
  is : ∀ v ∈ st.1, ∃ s : Int, st.2.2[v]? = some s ∧ 0 ≤ s ∧ s < (st.1.length : Int)
  par : ∀ v ∈ st.1, ∃ p : Int, st.2.1[v]? = some p ∧ -1 ≤ p ∧ p ≤ 3
  other : ∀ v, v < n → v ∉ st.1 → st.2.2[v]? = some (-1) ∧ st.2.1[v]? = some (-1)
  root : st.1[0]? = some r
section
variable {nb : Nat → Nat → Option Nat} {n r : Nat} {st : List Nat × List Int × List Int}
theorem WayInv.length (h : WayInv n r st) : st.1.length ≤ n := nodup_len n st.1 h.nd h.lt
theorem backI_rng (d : Nat) : 0 ≤ backI d ∧ backI d ≤ 3 := by unfold backI; omega
theorem WayInv.start (hr : r < n) : WayInv n r (way0 n r) := by
  unfold way0
  refine ⟨List.length_replicate .., by rw [List.length_set, List.length_replicate], by simp, ?_, ?_, ?_, ?_, rfl⟩
  · intro v hv; simp at hv; subst hv; exact hr
  · intro v hv
    simp at hv
    subst hv
    exact ⟨0, by rw [List.getElem?_set_self (by rw [List.length_replicate]; exact hr)], by omega, by simp⟩
  · intro v hv
    simp at hv
    subst hv
    exact ⟨-1, by rw [List.getElem?_replicate, if_pos hr], by omega, by omega⟩
  · intro v hvn hv
    have hne : r ≠ v := fun e => hv (by simp [e])
    show ((List.replicate n (-1 : Int)).set r 0)[v]? = _ ∧ (List.replicate n (-1 : Int))[v]? = _
    rw [List.getElem?_set_ne hne, List.getElem?_replicate, if_pos hvn]
    exact ⟨rfl, rfl⟩
theorem WayInv.one (h : WayInv n r st) (k d : Nat) : WayInv n r (way1 nb k d st) := by
  unfold way1
  split
  · exact h
  · rename_i u hu
    split
    · exact h
    · split
      · rename_i v _ hv
        have hvl : v < n := by rw [← h.ls]; exact (List.getElem?_eq_some_iff.1 hv).1
        have hm : v ∉ st.1 := fun hm => by
          obtain ⟨s, hs, h0, _⟩ := h.is v hm
          rw [hv] at hs
          injection hs with hs
          omega
        have hum : u ∈ st.1 := List.mem_of_getElem? hu
        obtain ⟨su, hsu, su0, su1⟩ := h.is u hum
        rw [hsu, Option.getD_some]
        refine ⟨by rw [List.length_set]; exact h.lp, by rw [List.length_set]; exact h.ls, ?_, ?_, ?_, ?_, ?_, ?_⟩
        · rw [List.nodup_append]
          refine ⟨h.nd, by simp, ?_⟩
          intro a ha b hb
          simp at hb
          subst hb
          exact fun e => hm (e ▸ ha)
        · intro x hx
          rcases List.mem_append.1 hx with hx | hx
          · exact h.lt x hx
          · simp at hx; subst hx; exact hvl
        · intro x hx
          rw [List.length_append]
          rcases List.mem_append.1 hx with hx | hx
          · have hne : v ≠ x := fun e => hm (e ▸ hx)
            obtain ⟨s, hs, h0, h1⟩ := h.is x hx
            exact ⟨s, by show (st.2.2.set v _)[x]? = _; rw [List.getElem?_set_ne hne]; exact hs, h0, by simp; omega⟩
          · simp at hx
            subst hx
            exact ⟨su + 1, by show (st.2.2.set x _)[x]? = _; rw [List.getElem?_set_self (by rw [h.ls]; exact hvl)], by omega, by simp; omega⟩
        · intro x hx
          rcases List.mem_append.1 hx with hx | hx
          · have hne : v ≠ x := fun e => hm (e ▸ hx)
            obtain ⟨p, hp, h0, h1⟩ := h.par x hx
            exact ⟨p, by show (st.2.1.set v _)[x]? = _; rw [List.getElem?_set_ne hne]; exact hp, h0, h1⟩
          · simp at hx
            subst hx
            have := backI_rng d
            exact ⟨backI d, by show (st.2.1.set x _)[x]? = _; rw [List.getElem?_set_self (by rw [h.lp]; exact hvl)], by omega, by omega⟩
        · intro x hxn hx
          have h1 : x ∉ st.1 := fun hh => hx (List.mem_append.2 (Or.inl hh))
          have h2 : v ≠ x := fun e => hx (List.mem_append.2 (Or.inr (by simp [e])))
          show (st.2.2.set v _)[x]? = _ ∧ (st.2.1.set v _)[x]? = _
          rw [List.getElem?_set_ne h2, List.getElem?_set_ne h2]
          exact h.other x hxn h1
        · show (st.1 ++ [v])[0]? = some r
          rw [List.getElem?_append_left (List.getElem?_eq_some_iff.1 h.root).1]
          exact h.root
      · exact h
theorem WayInv.four (h : WayInv n r st) (k : Nat) : ∀ d, WayInv n r (way4 nb k st d)
  | 0 => h
  | d + 1 => (WayInv.four h k d).one k d
theorem WayInv.all (h : WayInv n r st) : ∀ k, WayInv n r (wayS nb st k)
  | 0 => h
  | k + 1 => (WayInv.all h k).four k 4
theorem way1_far {k d : Nat} (h : st.1.length ≤ k) : way1 nb k d st = st := by
  unfold way1
  rw [List.getElem?_eq_none h]
theorem way4_far {k : Nat} (h : st.1.length ≤ k) : ∀ d, way4 nb k st d = st
  | 0 => rfl
  | d + 1 => by
    simp only [way4]
    rw [way4_far h d]
    exact way1_far h
theorem wayS_stop {k : Nat} (h : (wayS nb st k).1.length ≤ k) : ∀ j, wayS nb st (k + j) = wayS nb st k
  | 0 => rfl
  | j + 1 => by
    show way4 nb (k + j) (wayS nb st (k + j)) 4 = _
    rw [wayS_stop h j]
    exact way4_far (by omega) 4
theorem wayS_end (h : WayInv n r st) {k : Nat} (hk : (wayS nb st k).1.length ≤ k) : wayS nb st k = wayS nb st n := by
  rcases Nat.le_total k n with h1 | h1
  · obtain ⟨j, rfl⟩ : ∃ j, n = k + j := ⟨n - k, by omega⟩
    exact (wayS_stop hk j).symm
  · obtain ⟨j, rfl⟩ : ∃ j, k = n + j := ⟨k - n, by omega⟩
    exact wayS_stop (WayInv.length (h.all n)) j
theorem way1_grow (k d : Nat) : ∃ l, (way1 nb k d st).1 = st.1 ++ l := by
  unfold way1
  split
  · exact ⟨[], by simp⟩
  · split
    · exact ⟨[], by simp⟩
    · split
      · exact ⟨_, rfl⟩
      · exact ⟨[], by simp⟩
theorem way4_grow (k : Nat) : ∀ d, ∃ l, (way4 nb k st d).1 = st.1 ++ l
  | 0 => ⟨[], by simp [way4]⟩
  | d + 1 => by
    obtain ⟨l, hl⟩ := way4_grow k d
    obtain ⟨m, hm⟩ := way1_grow (nb := nb) (st := way4 nb k st d) k d
    exact ⟨l ++ m, by simp only [way4]; rw [hm, hl, List.append_assoc]⟩
theorem wayS_grow : ∀ k j, ∃ l, (wayS nb st (k + j)).1 = (wayS nb st k).1 ++ l
  | k, 0 => ⟨[], by simp⟩
  | k, j + 1 => by
    obtain ⟨l, hl⟩ := wayS_grow k j
    obtain ⟨m, hm⟩ := way4_grow (nb := nb) (st := wayS nb st (k + j)) (k + j) 4
    exact ⟨l ++ m, by show (way4 nb (k + j) (wayS nb st (k + j)) 4).1 = _; rw [hm, hl, List.append_assoc]⟩
theorem way4_at {k u : Nat} (h : st.1[k]? = some u) (d : Nat) : (way4 nb k st d).1[k]? = some u := by
  obtain ⟨l, hl⟩ := way4_grow (nb := nb) (st := st) k d
  rw [hl, List.getElem?_append_left (List.getElem?_eq_some_iff.1 h).1]
  exact h
/-- who has been looked at has its neighbors in the queue -/
theorem way1_hit {k d u v : Nat} (h : WayInv n r st) (hu : st.1[k]? = some u) (hv : nb u d = some v) (hvn : v < n) : v ∈ (way1 nb k d st).1 := by
  unfold way1
  rw [hu]
  simp only [hv]
  split
  · exact List.mem_append.2 (Or.inr (by simp))
  · rename_i hne
    rcases Classical.em (v ∈ st.1) with hm | hm
    · exact hm
    · exact absurd (h.other v hvn hm).1 hne
theorem way4_mem {k d v : Nat} (h : v ∈ st.1) : v ∈ (way4 nb k st d).1 := by
  obtain ⟨l, hl⟩ := way4_grow (nb := nb) (st := st) k d
  rw [hl]; exact List.mem_append.2 (Or.inl h)
theorem way4_hit {k u v : Nat} (h : WayInv n r st) (hu : st.1[k]? = some u) : ∀ (e d : Nat), d < e → nb u d = some v → v < n → v ∈ (way4 nb k st e).1
  | 0, d, hd, _, _ => absurd hd (Nat.not_lt_zero _)
  | e + 1, d, hd, hv, hvn => by
    simp only [way4]
    by_cases hde : d = e
    · subst hde
      exact way1_hit (h.four k d) (way4_at hu d) hv hvn
    · obtain ⟨l, hl⟩ := way1_grow (nb := nb) (st := way4 nb k st e) k e
      rw [hl]
      exact List.mem_append.2 (Or.inl (way4_hit h hu e d (by omega) hv hvn))
/-- the reached are closed -/
theorem wayS_closed (hr : r < n) {u v d : Nat} (hu : u ∈ (wayS nb (way0 n r) n).1) (hd : d < 4) (hv : nb u d = some v) (hvn : v < n) : v ∈ (wayS nb (way0 n r) n).1 := by
  have h0 := WayInv.start hr
  have hI := h0.all (nb := nb) n
  obtain ⟨k, hk⟩ := List.mem_iff_getElem?.1 hu
  have hkl : k < (wayS nb (way0 n r) n).1.length := (List.getElem?_eq_some_iff.1 hk).1
  have hkn : k < n := Nat.lt_of_lt_of_le hkl hI.length
  -- the k-th was there when its turn came
  have hthere : (wayS nb (way0 n r) k).1[k]? = some u := by
    obtain ⟨l, hl⟩ := wayS_grow (nb := nb) (st := way0 n r) k (n - k)
    rw [show k + (n - k) = n by omega] at hl
    rcases Nat.lt_or_ge k (wayS nb (way0 n r) k).1.length with h1 | h1
    · rw [hl, List.getElem?_append_left h1] at hk; exact hk
    · have := wayS_stop h1 (n - k)
      rw [show k + (n - k) = n by omega] at this
      rw [this] at hkl
      omega
  have hnext : v ∈ (wayS nb (way0 n r) (k + 1)).1 := way4_hit (h0.all k) hthere 4 d hd hv hvn
  obtain ⟨l, hl⟩ := wayS_grow (nb := nb) (st := way0 n r) (k + 1) (n - (k + 1))
  rw [show k + 1 + (n - (k + 1)) = n by omega] at hl
  rw [hl]
  exact List.mem_append.2 (Or.inl hnext)
/-- a part lies within each closed set that holds its first -/
theorem vis_within {c : Nat} {S : Nat → Prop} (hS : ∀ u d v, S u → d < 4 → nb u d = some v → S v) : ∀ {st : List Nat × List Nat}, (∀ u ∈ st.1, S u) → ∀ k, ∀ u ∈ (visS nb c st k).1, S u
  | st, h, 0 => h
  | st, h, k + 1 => by
    have ih := vis_within (c := c) hS h k
    have one : ∀ (d : Nat) (s : List Nat × List Nat), d < 4 → (∀ u ∈ s.1, S u) → ∀ u ∈ (vis1 nb c k d s).1, S u := by
      intro d s hd hs u hu
      unfold vis1 at hu
      split at hu
      · exact hs u hu
      · rename_i x hx
        split at hu
        · exact hs u hu
        · rename_i v hv
          split at hu
          · rcases List.mem_append.1 hu with hu | hu
            · exact hs u hu
            · simp at hu; subst hu; exact hS x d u (hs x (List.mem_of_getElem? hx)) hd hv
          · exact hs u hu
    have four : ∀ (e : Nat), e ≤ 4 → ∀ u ∈ (vis4 nb c k (visS nb c st k) e).1, S u := by
      intro e
      induction e with
      | zero => intro _; exact ih
      | succ e ihe => intro he; exact one e _ (by omega) (ihe (by omega))
    exact four 4 (Nat.le_refl _)
end
section
variable {nb : Nat → Nat → Option Nat} {n r : Nat}
theorem allP_step (i : Nat) : (allP nb n (i + 1)).2.length = (allP nb n i).2.length + (if (allP nb n i).1[i]? = some 0 then 1 else 0) := by
  simp only [allP]
  split
  · rw [List.length_append]; rfl
  · rfl
theorem allP_mono : ∀ i j, (allP nb n i).2.length ≤ (allP nb n (i + j)).2.length
  | i, 0 => Nat.le_refl _
  | i, j + 1 => by
    have := allP_mono i j
    have := allP_step (nb := nb) (n := n) (i + j)
    show _ ≤ (allP nb n (i + j + 1)).2.length
    omega
theorem allP_one (hn : 0 < n) : allP nb n 1 = ((visS nb 1 ([0], (List.replicate n 0).set 0 1) n).2, [(visS nb 1 ([0], (List.replicate n 0).set 0 1) n).1]) := by
  have h0 : (allP nb n 0).1[0]? = some 0 := by show (List.replicate n 0)[0]? = some 0; rw [List.getElem?_replicate, if_pos hn]
  rw [allP, if_pos h0]
  rfl
theorem allP_same (h1 : (allP nb n n).2.length = 1) (hn : 0 < n) : ∀ i, i + 1 ≤ n → allP nb n (i + 1) = allP nb n 1 ∧ (0 < i → (allP nb n 1).1[i]? ≠ some 0)
  | 0, _ => ⟨rfl, fun h => absurd h (Nat.lt_irrefl _)⟩
  | i + 1, hi => by
    obtain ⟨he, _⟩ := allP_same h1 hn i (by omega)
    have hl1 : (allP nb n 1).2.length = 1 := by rw [allP_one hn]; rfl
    have hs := allP_step (nb := nb) (n := n) (i + 1)
    have hm := allP_mono (nb := nb) (n := n) (i + 1 + 1) (n - (i + 1 + 1))
    rw [show i + 1 + 1 + (n - (i + 1 + 1)) = n by omega, h1] at hm
    rw [he, hl1] at hs
    have hne : (allP nb n 1).1[i + 1]? ≠ some 0 := fun e => by rw [if_pos e] at hs; omega
    refine ⟨?_, fun _ => hne⟩
    have : allP nb n (i + 1 + 1) = allP nb n (i + 1) := by
      show (if (allP nb n (i + 1)).1[i + 1]? = some 0 then _ else allP nb n (i + 1)) = _
      rw [if_neg (by rw [he]; exact hne)]
    rw [this, he]
/-- one part: every number is in it -/
theorem one_part (h1 : (allP nb n n).2.length = 1) (hn : 0 < n) {v : Nat} (hv : v < n) : v ∈ (visS nb 1 ([0], (List.replicate n 0).set 0 1) n).1 := by
  have hI := (VisInv.start (n := n) (c := 1) (N0 := List.replicate n 0) (i := 0) (by decide) (List.length_replicate ..) (by rw [List.getElem?_replicate, if_pos hn])).all (nb := nb) n
  rcases Classical.em (v ∈ (visS nb 1 ([0], (List.replicate n 0).set 0 1) n).1) with h | h
  · exact h
  · exfalso
    have ho := hI.other v h
    rw [List.getElem?_replicate, if_pos hv] at ho
    have hne := (allP_same h1 hn v (by omega)).2
    rw [allP_one hn] at hne
    rcases Nat.eq_zero_or_pos v with h0 | h0
    · subst h0
      obtain ⟨l, hl⟩ : ∃ l, (visS nb 1 ([0], (List.replicate n 0).set 0 1) n).1 = [0] ++ l := by
        have grow : ∀ k, ∃ l, (visS nb 1 ([0], (List.replicate n 0).set 0 1) k).1 = [0] ++ l := by
          intro k
          induction k with
          | zero => exact ⟨[], by simp [visS]⟩
          | succ k ih =>
            obtain ⟨l, hl⟩ := ih
            obtain ⟨m, hm⟩ := vis4_grow (nb := nb) (c := 1) (st := visS nb 1 ([0], (List.replicate n 0).set 0 1) k) k 4
            exact ⟨l ++ m, by simp only [visS]; rw [hm, hl, List.append_assoc]⟩
        exact grow n
      exact h (by rw [hl]; simp)
    · exact hne h0 ho
/-- from every root of a connected graph all is reached -/
theorem reach_all (h1 : (allP nb n n).2.length = 1) (hr : r < n) (hsym : ∀ u d v, u < n → d < 4 → nb u d = some v → v < n ∧ ∃ e, e < 4 ∧ nb v e = some u) {v : Nat} (hv : v < n) : v ∈ (wayS nb (way0 n r) n).1 := by
  have hn : 0 < n := by omega
  have hrq : r ∈ (wayS nb (way0 n r) n).1 := List.mem_of_getElem? ((WayInv.start hr).all (nb := nb) n).root
  rcases Classical.em (0 ∈ (wayS nb (way0 n r) n).1) with h0 | h0
  · have := vis_within (nb := nb) (c := 1) (S := fun u => u < n ∧ u ∈ (wayS nb (way0 n r) n).1) (fun u d v hu hd hv => by
      obtain ⟨hvn, _⟩ := hsym u d v hu.1 hd hv
      exact ⟨hvn, wayS_closed hr hu.2 hd hv hvn⟩) (st := ([0], (List.replicate n 0).set 0 1)) (fun u hu => by simp at hu; subst hu; exact ⟨hn, h0⟩) n v (one_part h1 hn hv)
    exact this.2
  · exfalso
    have := vis_within (nb := nb) (c := 1) (S := fun u => u < n ∧ u ∉ (wayS nb (way0 n r) n).1) (fun u d v hu hd hv => by
      obtain ⟨hvn, e, he, hback⟩ := hsym u d v hu.1 hd hv
      exact ⟨hvn, fun hm => hu.2 (wayS_closed hr hm he hback hu.1)⟩) (st := ([0], (List.replicate n 0).set 0 1)) (fun u hu => by simp at hu; subst hu; exact ⟨hn, h0⟩) n r (one_part h1 hn hr)
    exact this.2 hrq
end
end Go.Proofs.Ytpnahobgmemdjaa
/- Points by their places in a shape; maps from points to bools that a call makes. -/




namespace Go.Proofs.Ytpnahobgmemdjaa
open Go.RowKit Go.Shelf
open Go.Maps (Keyed)
set_option maxRecDepth 100000
/-- points in ascending order, all valid -/
structure Shp (ps : List Pt) : Prop where
  pt : ∀ (k : Nat) (e : Pt), ps[k]? = some e → (-60 ≤ e.x ∧ e.x ≤ 60) ∧ (-60 ≤ e.y ∧ e.y ≤ 60)
  sorted : ∀ (i j : Nat) (d e : Pt), i < j → ps[i]? = some d → ps[j]? = some e → lessPt d.x d.y e.x e.y = true
theorem lessPt_irrefl (x y : Int) : lessPt x y x y = false := by simp [lessPt, cmpPt, orI, cmpI]
theorem Shp.inj {ps : List Pt} (h : Shp ps) {i j : Nat} {e : Pt} (hi : ps[i]? = some e) (hj : ps[j]? = some e) : i = j := by
  rcases Nat.lt_trichotomy i j with hlt | heq | hlt
  · have := h.sorted i j e e hlt hi hj
    rw [lessPt_irrefl] at this
    cases this
  · exact heq
  · have := h.sorted j i e e hlt hj hi
    rw [lessPt_irrefl] at this
    cases this
/-- the place of a point -/
def idxP (ps : List Pt) (x y : Int) : Option Nat := ps.findIdx? fun e => e.x == x && e.y == y
theorem idxP_some {ps : List Pt} {x y : Int} {k : Nat} (h : idxP ps x y = some k) : ps[k]? = some ⟨x, y⟩ := by
  unfold idxP at h
  rw [List.findIdx?_eq_some_iff_getElem] at h
  obtain ⟨hk, hp, _⟩ := h
  simp only [Bool.and_eq_true, beq_iff_eq] at hp
  rw [List.getElem?_eq_getElem hk]
  have : ps[k] = ⟨x, y⟩ := by
    cases hh : ps[k] with
    | mk a b => rw [hh] at hp; simp only at hp; rw [hp.1, hp.2]
  rw [this]
theorem idxP_none {ps : List Pt} {x y : Int} (h : idxP ps x y = none) (k : Nat) : ps[k]? ≠ some ⟨x, y⟩ := by
  intro hk
  unfold idxP at h
  rw [List.findIdx?_eq_none_iff] at h
  have := h _ (List.mem_of_getElem? hk)
  simp at this
theorem Shp.idx {ps : List Pt} (h : Shp ps) {k : Nat} {e : Pt} (hk : ps[k]? = some e) : idxP ps e.x e.y = some k := by
  cases hi : idxP ps e.x e.y with
  | none => exact absurd hk (idxP_none hi k)
  | some j => rw [h.inj hk (idxP_some hi)]
/-- the neighbor of a point, by their places -/
def nbP (ps : List Pt) (u d : Nat) : Option Nat := match ps[u]? with
  | some e => idxP ps (stepX e.x d) (stepY e.y d)
  | none => none
theorem nbP_sym {ps : List Pt} (h : Shp ps) (u d v : Nat) (hu : u < ps.length) (hd : d < 4) (hv : nbP ps u d = some v) : v < ps.length ∧ ∃ e, e < 4 ∧ nbP ps v e = some u := by
  obtain ⟨e, he⟩ : ∃ e, ps[u]? = some e := ⟨_, List.getElem?_eq_getElem hu⟩
  unfold nbP at hv
  rw [he] at hv
  simp only at hv
  have hk := idxP_some hv
  refine ⟨(List.getElem?_eq_some_iff.1 hk).1, (d + 2) % 4, by omega, ?_⟩
  unfold nbP
  rw [hk]
  simp only
  have hb : stepX (stepX e.x d) (((d + 2) % 4 : Nat) : Int) = e.x ∧ stepY (stepY e.y d) (((d + 2) % 4 : Nat) : Int) = e.y := by
    have : d = 0 ∨ d = 1 ∨ d = 2 ∨ d = 3 := by omega
    rcases this with rfl | rfl | rfl | rfl <;> simp [stepX, stepY]
  rw [hb.1, hb.2]
  exact h.idx he
/-- the points that are not yet taken -/
def leftB (ps : List Pt) (nm : List Nat) (x y : Int) : Bool := match idxP ps x y with
  | some v => decide (nm[v]? = some 0)
  | none => false
theorem leftB_set {ps : List Pt} (h : Shp ps) {nm : List Nat} {v c : Nat} {e : Pt} (he : ps[v]? = some e) (hv : v < nm.length) (hc : c ≠ 0) (x y : Int) : leftB ps (nm.set v c) x y = (leftB ps nm x y && !decide (x = e.x ∧ y = e.y)) := by
  unfold leftB
  cases hi : idxP ps x y with
  | none => simp
  | some k =>
    have hk := idxP_some hi
    by_cases hkv : v = k
    · subst hkv
      rw [he] at hk
      injection hk with hk
      subst hk
      simp only [List.getElem?_set_self hv]
      simp [hc]
    · simp only [List.getElem?_set_ne hkv]
      have hne : ¬ (x = e.x ∧ y = e.y) := fun hh => by
        obtain ⟨rfl, rfl⟩ := hh
        exact hkv (h.inj he hk)
      simp [hne]
/-- block b maps points to bools: S; at most n were laid in -/
def LMap (w : World) (b n : Nat) (S : Int → Int → Bool) : Prop :=
  ∃ D : DataW Unit, w.ownsMap Try.prog 34 (plainElem Try.prog 4) b n D ∧ ∀ x y, W64 x → W64 y → D.atKey (pkey x y) (.lit (.bool false)) = .lit (.bool (S x y))
section
variable {w w' : World} {b n : Nat} {S S' : Int → Int → Bool}
theorem LMap.made (w : World) : LMap (w.alloc (.map #[] 0)) w.heap.size 0 (fun _ _ => false) :=
  ⟨_, World.ownsMap_made _ _ _ _, fun x y _ _ => WideAt.atKey_none _ (fun p hp => by simp at hp)⟩
theorem LMap.lt (h : LMap w b n S) : b < w.heap.size := by
  obtain ⟨D, h, _⟩ := h
  exact h.lt
theorem LMap.block (h : LMap w b n S) (hb : w'.heap[b]? = w.heap[b]?) : LMap w' b n S := by
  obtain ⟨D, ⟨es, clock, hh, r⟩, h2⟩ := h
  exact ⟨D, ⟨es, clock, hb.trans hh, r⟩, h2⟩
theorem LMap.below (h : LMap w b n S) (hb : Below w.heap.size w w') : LMap w' b n S := h.block (hb.block b h.lt)
theorem LMap.say (h : LMap w b n S) (hS : ∀ x y, S x y = S' x y) : LMap w b n S' := by
  obtain rfl : S = S' := funext fun x => funext fun y => hS x y
  exact h
end
section
variable {ops : Array Oper} {rest : List Oper} {o : Oper} {a : Act} {Q : Exit → Act → World → Prop}
theorem zero_bo (w : World) : (zeroValue 4).run Try.prog w = .ok (.bool false) w := by kernel_rfl
theorem wpList_look_lmap (w : World) (hg : o.guard = none) (m k : Operand) (hop : o.op = Op.lookup 93 m k false) (b n : Nat) (S : Int → Int → Bool) (hm : a.eval m = .map (some b)) (h : LMap w b n S) (x y : Int) (hx : W64 x) (hy : W64 y) (hk : a.eval k = .agg #[.int .i64 x, .int .i64 y])
    (hK : wpList Try.prog ops Q rest (a.put o.dst (.bool (S x y))) w) : wpList Try.prog ops Q (o :: rest) a w := by
  obtain ⟨D, hown, hat⟩ := h
  have hw : Region.wanted o (yielded ops a.tmps) = true := by simp [Region.wanted, hg]
  refine wpList_wanted hw fun K' hK' => ?_
  obtain ⟨v, ps, hrun, hv⟩ := hown.lookup pt_keyed Try.underlying93 (zero_bo w) (plainElem_bool Try.underlying4 false) (keyOf_pt hx hy)
  rw [hat x y hx hy] at hv
  obtain rfl := plainElem_bool_inv Try.underlying4 hv
  unfold Oper.wp
  simp [execOp, hop, hm, hk, hrun, Result.andThen]
  exact hK' _ _ hK
theorem wpList_put_lmap (w : World) (hg : o.guard = none) (m k u : Operand) (hop : o.op = Op.mapUpdate 93 m k u) (b n : Nat) (S : Int → Int → Bool) (hm : a.eval m = .map (some b)) (h : LMap w b n S) (x y : Int) (hx : W64 x) (hy : W64 y) (hn : n < maxLen) (hk : a.eval k = .agg #[.int .i64 x, .int .i64 y]) (hu : a.eval u = .bool true)
    (hK : ∀ w', LMap w' b (n + 1) (fun i j => S i j || decide (i = x ∧ j = y)) → w.grownBy w' (some b) → wpList Try.prog ops Q rest (a.put o.dst undef) w') : wpList Try.prog ops Q (o :: rest) a w := by
  obtain ⟨D, hown, hat⟩ := h
  refine wpList_mapUpdate_own w hg m k u 93 hop _ _ pt_keyed Try.underlying93 _ b n D hm hown hn _ _ _ hk hu (keyOf_pt hx hy) _ [] (plainElem_bool Try.underlying4 true) ?_
  intro w' h1 h2
  refine hK w' ⟨_, h1, fun i j hi hj => ?_⟩ h2
  by_cases hij : i = x ∧ j = y
  · obtain ⟨rfl, rfl⟩ := hij
    rw [Maps.atKey_put_same hown.isMap (pt_keyed.key (keyOf_pt hi hj))]
    simp
  · rw [Maps.atKey_put_other (fun e => hij (pkey_inj hi hj hx hy e)), hat i j hi hj]
    simp [hij]
theorem wpList_del_lmap (w : World) (hg : o.guard = none) (m k : Operand) (hop : o.op = Op.call { callee := Callee.builtin Builtin.delete, args := #[m, k], argTypes := #[93, 34] }) (b n : Nat) (S : Int → Int → Bool) (hm : a.eval m = .map (some b)) (h : LMap w b n S) (x y : Int) (hx : W64 x) (hy : W64 y) (hk : a.eval k = .agg #[.int .i64 x, .int .i64 y])
    (hK : ∀ w', LMap w' b n (fun i j => S i j && !decide (i = x ∧ j = y)) → w.grownBy w' (some b) → wpList Try.prog ops Q rest (a.put o.dst (.tuple #[])) w') : wpList Try.prog ops Q (o :: rest) a w := by
  obtain ⟨D, hown, hat⟩ := h
  refine wpList_delete_own w hg m k 93 34 hop 4 pt_keyed Try.underlying93 _ b n D hm hown _ _ hk (keyOf_pt hx hy) ?_
  intro w' h1 h2
  refine hK w' ⟨_, h1, fun i j hi hj => ?_⟩ h2.grown
  by_cases hij : i = x ∧ j = y
  · obtain ⟨rfl, rfl⟩ := hij
    rw [Maps.atKey_del_same]
    simp
  · rw [Maps.atKey_del_other (fun e => hij (pkey_inj hi hj hx hy e)), hat i j hi hj]
    simp [hij]
end
end Go.Proofs.Ytpnahobgmemdjaa
/- slices.SortFunc at rows of points that a call has made. -/



namespace Go.Proofs.Ytpnahobgmemdjaa
open Go.RowKit Go.Shelf Go.Lib Go.Sort
attribute [local go_sem] BelowBy.cell BelowBy.cell_drew stillUpon givesUpon

set_option maxRecDepth 100000
def encPt (p : Pt) : List Value := [.int .i64 p.x, .int .i64 p.y]
def cmpP (x y : Pt) : Int := cmpPt x.x x.y y.x y.y
theorem comparePoints_exact (x y : Pt) (w : World) :
    Calls Try.prog 71 #[.agg #[.int .i64 x.x, .int .i64 x.y], .agg #[.int .i64 y.x, .int .i64 y.y]] w fun e w' => e = .returned (.int .i64 (cmpP x y)) ∧ ∃ q os, w' = grow (w.drewN q) os := by
  go_enter Try.func71, Try.ntmps71
  go_wp2
  refine wp_region_ord [(0, .q), (1, .q), (2, .q), (3, .q), (5, .q), (6, .q), (7, .q), (8, .q), (4, .g), (9, .g), (10, .g), (11, .g), (12, .q)] (by kernel_rfl) (by kernel_rfl) ?_
  simp only [pick, List.filterMap_cons, List.filterMap_nil, List.getElem?_toArray, List.getElem?_cons_zero, List.getElem?_cons_succ, Option.map_some]
  repeat (first | ((with_reducible refine wpD_p (fun K hK => ?_)); go_simp; refine hK _ ?_; clear hK K) | ((with_reducible refine wpD_q (fun K hK => ?_)); go_simp; (first | refine hK _ ?_ | (go_bits; refine hK _ ?_) | (go_bits; go_simp; refine hK _ ?_)); clear hK K))
  with_reducible refine wpD_g (fun K hK => ?_)
  go_simp
  refine (Compare_any _ _ _).mono ?_
  rintro e _ ⟨rfl, rfl⟩
  refine ⟨_, rfl, Below.refl _ _, hK _ _ ?_⟩
  clear hK K
  with_reducible refine wpD_g (fun K hK => ?_)
  go_simp
  refine (Compare_any _ _ _).mono ?_
  rintro e _ ⟨rfl, rfl⟩
  refine ⟨_, rfl, Below.refl _ _, hK _ _ ?_⟩
  clear hK K
  with_reducible refine wpD_g (fun K hK => ?_)
  go_simp
  refine ⟨Grew.of_alloc _, hK _ _ ?_⟩
  clear hK K
  with_reducible refine wpD_g (fun K hK => ?_)
  go_simp
  refine (Or_any (cmpI x.y y.y) (cmpI x.x y.x) _ _ _ _ (by go_simp) (by go_simp)).mono ?_
  rintro e _ ⟨rfl, rfl⟩
  refine ⟨_, rfl, Below.refl _ _, hK _ _ ?_⟩
  clear hK K
  repeat (first | ((with_reducible refine wpD_p (fun K hK => ?_)); go_simp; refine hK _ ?_; clear hK K) | ((with_reducible refine wpD_q (fun K hK => ?_)); go_simp; (first | refine hK _ ?_ | (go_bits; refine hK _ ?_) | (go_bits; go_simp; refine hK _ ?_)); clear hK K))
  with_reducible refine wpD_nil ?_
  go_wp2
  go_ret
  refine ⟨rfl, ?_⟩
  simp only [alloc_eq_grow, drew_grow, grow_grow, World.drew_is_drewN, World.drewN_drewN]
  exact ⟨_, _, rfl⟩
theorem ltOf_cmpP (x y : Pt) : ltOf cmpP x y = lessPt x.x x.y y.x y.y := rfl
theorem lessPt_said (a b c d : Int) : lessPt a b c d = decide (b < d ∨ (b = d ∧ a < c)) := by
  unfold lessPt cmpPt orI cmpI
  by_cases h1 : b < d
  · simp [h1]
  · by_cases h2 : d < b
    · have : ¬ b = d := by omega
      simp [h1, h2, this]
    · obtain rfl : b = d := by omega
      by_cases h3 : a < c
      · simp [h3]
      · by_cases h4 : c < a
        · simp [h3, h4]
        · simp [h3, h4]
theorem swo_cmpP : SWO (ltOf cmpP) where
  irrefl x := by rw [ltOf_cmpP]; exact lessPt_irrefl _ _
  trans x y z h1 h2 := by
    rw [ltOf_cmpP, lessPt_said, decide_eq_true_eq] at *
    omega
  ntrans x y z h1 h2 := by
    rw [ltOf_cmpP, lessPt_said, decide_eq_false_iff_not] at *
    omega
theorem part_cmpP (x y : Pt) (h1 : ltOf cmpP x y = false) (h2 : ltOf cmpP y x = false) : x = y := by
  rw [ltOf_cmpP, lessPt_said, decide_eq_false_iff_not] at *
  cases x
  cases y
  simp only [Pt.mk.injEq]
  simp only at h1 h2
  omega
/-- points in order -/
def sortP (L : List Pt) : List Pt := L.mergeSort fun x y => !(ltOf cmpP) y x
theorem sortP_len (L : List Pt) : (sortP L).length = L.length := List.length_mergeSort _
theorem flat_pt (L : List Pt) : (flatK encPt 2 L.toArray).toList = ptCells L := by
  apply List.ext_getElem?
  intro t
  rw [Array.getElem?_toList]
  by_cases ht : t < L.length * 2
  · have hs : t < (flatK encPt 2 L.toArray).size := by rw [size_flatK]; simpa using ht
    have h1 : (flatK encPt 2 L.toArray)[t]? = some (flatK encPt 2 L.toArray)[t]! := by rw [getElem!_pos _ t hs, Array.getElem?_eq_getElem hs]
    rw [h1, get_flatK _ _ _ _ (by simpa using ht)]
    have hq : t / 2 < L.length := by omega
    have hg := ptCells_get L (t / 2) _ (List.getElem?_eq_getElem hq)
    have he : L.toArray[t / 2]! = L[t / 2] := by rw [getElem!_pos _ _ (by simpa using hq)]; simp
    rw [he]
    rcases (show t % 2 = 0 ∨ t % 2 = 1 by omega) with hm | hm
    · rw [hm]
      have : t / 2 * 2 = t := by omega
      rw [this] at hg
      rw [hg.1]; rfl
    · rw [hm]
      have : t / 2 * 2 + 1 = t := by omega
      rw [this] at hg
      rw [hg.2]; rfl
  · rw [Array.getElem?_eq_none (by rw [size_flatK]; simpa using ht), List.getElem?_eq_none (by rw [ptCells_len]; omega)]
theorem holds_row {w : World} {g : Nat} {cur : Array Value} {e : TypeId} {L : List Pt} (hb : w.heap[g]? = some (.cells cur e (0, 0))) (ht : cur.toList.take (L.length * 2) = ptCells L) : HoldsK encPt 2 w g 0 L.toArray := by
  intro j hj
  rw [size_flatK] at hj
  have hj' : j < L.length * 2 := by simpa using hj
  refine ⟨?_, by simp [World.frozen?, hb]⟩
  have h1 : (cur.toList.take (L.length * 2))[j]? = (ptCells L)[j]? := by rw [ht]
  rw [List.getElem?_take_of_lt hj', ← flat_pt, Array.getElem?_toList, Array.getElem?_toList] at h1
  have hs : j < (flatK encPt 2 L.toArray).size := by rw [size_flatK]; simpa using hj'
  simp only [World.cell?, hb, Nat.zero_add]
  simp only [Option.isSome_none, Bool.false_eq_true, if_false, id]
  rw [h1, getElem!_pos _ j hs, Array.getElem?_eq_getElem hs]
theorem heap_sortedK {w : World} {g n : Nat} {os : Array Obj} {cur : Array Value} {e : TypeId} {fr : Nat × Nat} (d : Array Pt) (hb : w.heap[g]? = some (.cells cur e fr)) :
    (sortWorldK encPt 2 w g 0 n d os).heap[g]? = some (.cells (putCells id 0 (flatK encPt 2 d) cur) e fr) := by
  have hg : g < w.heap.size := (Array.getElem?_eq_some_iff.1 hb).1
  unfold sortWorldK putRowK
  rw [heap_grow_old _ _ (by simpa using hg)]
  simp [putRow, mapBlock, Sort.ahead, Array.getElem?_modify, hb, onCells]
theorem grownBy_sortedK {w : World} {g n : Nat} {os : Array Obj} (d : Array Pt) : w.grownBy (sortWorldK encPt 2 w g 0 n d os) (some g) := by
  refine ⟨rfl, rfl, rfl, by simp [sortWorldK, putRowK], fun k hk hne => ?_⟩
  unfold sortWorldK putRowK
  rw [heap_grow_old _ _ (by simpa using hk)]
  have : g ≠ k := fun e => hne (by rw [e])
  simp [putRow, mapBlock, Sort.ahead, Array.getElem?_modify, this]
theorem take_putK (cur : Array Value) (L : List Pt) (h : L.length * 2 ≤ cur.size) : (putCells id 0 (flatK encPt 2 L.toArray) cur).toList.take (L.length * 2) = ptCells L := by
  rw [← flat_pt]
  apply List.ext_getElem?
  intro j
  by_cases hj : j < L.length * 2
  · have hs : j < (flatK encPt 2 L.toArray).size := by rw [size_flatK]; simpa using hj
    rw [List.getElem?_take_of_lt hj, Array.getElem?_toList, Array.getElem?_toList]
    simp only [putCells, Array.getElem?_mapIdx, Nat.zero_le, Nat.zero_add, true_and, Nat.sub_zero]
    rw [Array.getElem?_eq_getElem (show j < cur.size by omega)]
    simp only [Option.map_some, id]
    rw [if_pos hs, getElem!_pos _ j hs, Array.getElem?_eq_getElem hs]
  · rw [List.getElem?_take_eq_none (by omega), Array.getElem?_toList, Array.getElem?_eq_none (by rw [size_flatK]; simpa using hj)]
set_option maxHeartbeats 1000000 in
theorem SortFuncPt_any (L : List Pt) (B g cap : Nat) (w : World) (hrow : w.ownsRow B 34 2 (.slice (some ⟨g, 0, none⟩) L.length cap) L.length (ptCells L)) (hl : L.length ≤ 1000000) :
    Calls Try.prog 70 #[.slice (some ⟨g, 0, none⟩) L.length cap, .func (.func 71) #[] #[]] w fun e w' => e = .returned (.tuple #[]) ∧
      w'.ownsRow B 34 2 (.slice (some ⟨g, 0, none⟩) L.length cap) L.length (ptCells (sortP L)) ∧ w.grownBy w' (some g) := by
  rcases hrow with ⟨hcl, h0 | ⟨g', cap', cur, hv, hB, hb, h1, h2, h3, h4⟩⟩
  · cases h0.1
  cases hv
  have eg : ∀ args w, (callFunc 71 args).run Try.prog w = .ok (.enter 71 args) w := enters_of Try.func71 (by kernel_rfl) rfl
  have hH := holds_row hb h4
  have hgl := (Array.getElem?_eq_some_iff.1 hb).1
  have hcon := AnyQ.slices_SortFunc_total Try.sortPt 2 Try.isAgg34 Try.sizeOf34 encPt (fun _ => rfl) (fun x v hv => by simp [encPt] at hv; rcases hv with rfl | rfl <;> rfl) cmpP swo_cmpP 71 #[] g 0 cap L.toArray w eg
    (fun _ _ _ _ x y => comparePoints_exact x y _) hH hgl (by simp; omega) part_cmpP
  refine hcon.mono ?_
  rintro e w' ⟨he, n, os, rfl⟩
  refine ⟨he, ?_, grownBy_sortedK _⟩
  have hsl := sortP_len L
  refine ⟨by rw [ptCells_len, hsl], .inr ⟨g, cap, _, rfl, hB, heap_sortedK _ hb, h1, h2, by simp [putCells, h3], ?_⟩⟩
  have := take_putK cur (sortP L) (by rw [hsl, h3]; exact Nat.mul_le_mul_right 2 h1)
  rw [hsl] at this
  exact this
end Go.Proofs.Ytpnahobgmemdjaa
/- Walks: the program's connected parts of points. -/



namespace Go.Proofs.Ytpnahobgmemdjaa
open Go.RowKit Go.Shelf
attribute [local go_sem] BelowBy.cell BelowBy.cell_drew stillUpon givesUpon

/-- the first k points -/
def firstB (ps : List Pt) (k : Nat) (x y : Int) : Bool := match idxP ps x y with
  | some v => decide (v < k)
  | none => false
theorem firstB_zero (ps : List Pt) (x y : Int) : firstB ps 0 x y = false := by
  unfold firstB; split <;> simp
theorem firstB_succ {ps : List Pt} (h : Shp ps) {k : Nat} {e : Pt} (he : ps[k]? = some e) (x y : Int) : firstB ps (k + 1) x y = (firstB ps k x y || decide (x = e.x ∧ y = e.y)) := by
  unfold firstB
  cases hi : idxP ps x y with
  | none =>
    have : ¬ (x = e.x ∧ y = e.y) := fun hh => by
      obtain ⟨rfl, rfl⟩ := hh
      rw [h.idx he] at hi
      cases hi
    simp [this]
  | some v =>
    simp only []
    have hv := idxP_some hi
    by_cases hvk : v = k
    · subst hvk
      rw [he] at hv
      injection hv with hv
      subst hv
      simp
    · have hne : ¬ (x = e.x ∧ y = e.y) := fun hh => by
        obtain ⟨rfl, rfl⟩ := hh
        rw [h.idx he] at hi
        injection hi with hi
        exact hvk hi.symm
      have : (v < k + 1) ↔ v < k := by omega
      simp [hne, this]
theorem firstB_all (ps : List Pt) (x y : Int) : firstB ps ps.length x y = leftB ps (List.replicate ps.length 0) x y := by
  unfold firstB leftB
  cases hi : idxP ps x y with
  | none => rfl
  | some v =>
    have hv := (List.getElem?_eq_some_iff.1 (idxP_some hi)).1
    simp [hv]
def ptAt (ps : List Pt) (v : Nat) : Pt := (ps[v]?).getD ⟨0, 0⟩
def ptsAt (ps : List Pt) (l : List Nat) : List Pt := l.map (ptAt ps)
theorem ptAt_of {ps : List Pt} {v : Nat} {e : Pt} (h : ps[v]? = some e) : ptAt ps v = e := by unfold ptAt; rw [h]; rfl
theorem ptsAt_len (ps : List Pt) (l : List Nat) : (ptsAt ps l).length = l.length := by simp [ptsAt]
theorem leftB_at {ps : List Pt} (h : Shp ps) {nm : List Nat} {k : Nat} {e : Pt} (he : ps[k]? = some e) : leftB ps nm e.x e.y = decide (nm[k]? = some 0) := by
  unfold leftB; rw [h.idx he]
theorem vis1_hit {ps : List Pt} {c k d u : Nat} {st : List Nat × List Nat} {e : Pt} (hu : st.1[k]? = some u) (he : ps[u]? = some e) (hl : leftB ps st.2 (stepX e.x d) (stepY e.y d) = true) :
    ∃ v, v < ps.length ∧ ps[v]? = some ⟨stepX e.x d, stepY e.y d⟩ ∧ st.2[v]? = some 0 ∧ vis1 (nbP ps) c k d st = (st.1 ++ [v], st.2.set v c) := by
  unfold leftB at hl
  cases hi : idxP ps (stepX e.x d) (stepY e.y d) with
  | none => rw [hi] at hl; cases hl
  | some v =>
    rw [hi] at hl
    simp only [decide_eq_true_eq] at hl
    have hv := idxP_some hi
    refine ⟨v, (List.getElem?_eq_some_iff.1 hv).1, hv, hl, ?_⟩
    unfold vis1 nbP
    rw [hu]
    simp only [he, hi, hl, if_true]
theorem vis1_miss {ps : List Pt} {c k d u : Nat} {st : List Nat × List Nat} {e : Pt} (hu : st.1[k]? = some u) (he : ps[u]? = some e) (hl : leftB ps st.2 (stepX e.x d) (stepY e.y d) = false) : vis1 (nbP ps) c k d st = st := by
  unfold leftB at hl
  unfold vis1 nbP
  rw [hu]
  simp only [he]
  cases hi : idxP ps (stepX e.x d) (stepY e.y d) with
  | none => rfl
  | some v =>
    rw [hi] at hl
    simp only [decide_eq_false_iff_not] at hl
    simp only [if_neg hl]
theorem visS_pos {nb : Nat → Nat → Option Nat} {c : Nat} {st : List Nat × List Nat} (h : 0 < st.1.length) : ∀ k, 0 < (visS nb c st k).1.length
  | 0 => h
  | k + 1 => by
    have ih := visS_pos (nb := nb) (c := c) h k
    obtain ⟨l, hl⟩ := vis4_grow (nb := nb) (c := c) (st := visS nb c st k) k 4
    simp only [visS]
    rw [hl, List.length_append]
    omega
/-- the parts as rows of points -/
def partsV (ps : List Pt) (P : List (List Nat)) : List (List Value) := P.map fun l => ptCells (sortP (ptsAt ps l))
theorem allP_yes {nb : Nat → Nat → Option Nat} {n i : Nat} {nm : List Nat} {P : List (List Nat)} {st : List Nat × List Nat} (h1 : (allP nb n i).1 = nm) (h2 : (allP nb n i).2 = P) (h0 : nm[i]? = some 0) (hst : visS nb (P.length + 1) ([i], nm.set i (P.length + 1)) n = st) :
    (allP nb n (i + 1)).1 = st.2 ∧ (allP nb n (i + 1)).2 = P ++ [st.1] := by
  subst h1 h2 hst
  simp only [allP, if_pos h0]
  exact ⟨trivial, trivial⟩
theorem allP_no {nb : Nat → Nat → Option Nat} {n i : Nat} (h0 : (allP nb n i).1[i]? ≠ some 0) : allP nb n (i + 1) = allP nb n i := by
  simp only [allP, if_neg h0]
theorem infoPtQ : (Try.prog.info? 34).map (fun i => (i.zero, i.size, i.bytes)) = some (some (.agg #[.int .i64 0, .int .i64 0]), 2, 16) := by kernel_rfl
theorem infoPtsQ : (Try.prog.info? 42).map (fun i => (i.zero, i.size, i.bytes)) = some (some (.slice none 0 0), 1, 24) := by kernel_rfl
theorem ownsRow_baseQ {w : World} {base base' : Nat} {e : TypeId} {size : Nat} {v : Value} {n : Nat} {xs : List Value} (h : w.ownsRow base e size v n xs) (hb : base' ≤ base) : w.ownsRow base' e size v n xs :=
  ⟨h.1, h.2.imp id (fun ⟨g, cap, cur, h1, h2, h3⟩ => ⟨g, cap, cur, h1, Nat.le_trans hb h2, h3⟩)⟩
def OwnPs (w : World) (rows : List (List Value)) (e : Ending) (w' : World) : Prop := ∃ v us, e = .returned v ∧ Own2 w' w.heap.size 42 34 2 v us rows ∧ Below w.heap.size w w'
set_option maxRecDepth 100000 in
set_option maxHeartbeats 4000000 in
theorem connected_any (A : Option Addr) (n c : Nat) (ps : List Pt) (w : World) (hA : RdSl 2 RPt w A n ps) (hS : Shp ps) (hn : n ≤ 100000) :
    Calls Try.prog 31 #[.slice A n c] w (OwnPs w (partsV ps (allP (nbP ps) n n).2)) := by
  obtain ⟨i0, hi, hz0, hz1, hz2⟩ := info_parts infoPtQ
  obtain ⟨i1, hi', hz0', hz1', hz2'⟩ := info_parts infoPtsQ
  have hmm := @run_makeMap Try.prog
  have hl := hA.len
  have hlH := Lib.hid hl
  have hAH := Lib.hid hA
  have hSH := Lib.hid hS
  clear hA hl hS
  go_enter Try.func31, Try.ntmps31
  go_wp2
  go_loopg [16] n (fun g i wr => ∃ (k : Nat), k + g = n ∧ i = .int .i64 (k : Int) ∧ Hid (LMap wr w.heap.size k (firstB ps k)) ∧ Hid (Below w.heap.size w wr))
  case atStart => exact ⟨0, by omega, rfl, Lib.hid ((LMap.made w).say fun x y => (firstB_zero ps x y).symm), Lib.hid (bl_al (bl_refl _) _)⟩
  case round =>
    obtain ⟨k, hk, rfl, hM, hbw⟩ := hrel
    have hszl := hbw.out.size
    have hMl := hM.out.lt
    by_cases hkn : k < n
    · have hAw := hAH.out.below RPt.stable hbw.out
      obtain ⟨bb, ob, rfl, hbb, hbc⟩ := hAw.ptr (by omega)
      obtain ⟨e, he⟩ := hAw.get hkn
      obtain ⟨e0, e1⟩ := hbc k e he
      have hpt := hSH.out.pt k e he
      have heH := Lib.hid he
      clear hbc he hAw
      go_wp2_with (at_mapUpdate; refine wpList_put_lmap _ rfl _ _ _ rfl w.heap.size k _ rfl ((hM.out).below (by exact bel_)) e.x e.y (W64.of (by omega)) (W64.of (by omega)) (by unfold maxLen; omega) rfl rfl ?_; intro w4 hM4 hg4; have hM4H := Lib.hid hM4; have hb4 := Lib.hid ((hbw.out.alloc hszl _).grown hg4 (by simp; try omega) (by intro q e; injection e with e; omega)); clear hM4 hg4)
      go_roundg (n - (k + 1))
      case measure => omega
      case rel => exact ⟨k + 1, by omega, by go_num, Lib.hid (hM4H.out.say fun x y => (firstB_succ hSH.out heH.out x y).symm), hb4⟩
    · obtain rfl : k = n := by omega
      have hM0 := Lib.hid (hM.out.say (S' := leftB ps (List.replicate k 0)) fun x y => by have := firstB_all ps x y; rw [hlH.out] at this; exact this)
      obtain ⟨wa, rfl⟩ : ∃ wa : World, wa = wr := ⟨_, rfl⟩
      clear hM
      go_wp2
      go_loopg [25, 6] k (fun g i v wr => ∃ (j : Nat) (us : List Value), j + g = k ∧ i = .int .i64 (j : Int) ∧ Hid (Own2 wr (w.heap.size + 1) 42 34 2 v us (partsV ps (allP (nbP ps) k j).2)) ∧ Hid (us.length = (allP (nbP ps) k j).2.length) ∧ Hid (LMap wr w.heap.size k (leftB ps (allP (nbP ps) k j).1)) ∧ Hid (Below w.heap.size w wr) ∧ w.heap.size < wr.heap.size)
      case atStart => exact ⟨0, [], by omega, rfl, Lib.hid (Own2.nil _ _ _ _ _), Lib.hid rfl, Lib.hid (hM0.out.say fun x y => rfl), hbw, hMl⟩
      case round =>
        clear hbw hszl hMl hM0
        obtain ⟨j, us, hj, rfl, hO, hul, hM, hbw, hMl⟩ := hrel
        have hszl := hbw.out.size
        have hcnt := allP_count (nbP ps) k j
        obtain ⟨A0, c0, rfl⟩ := hO.out.form hul.out
        by_cases hjn : j < k
        · have hAw := hAH.out.below RPt.stable hbw.out
          obtain ⟨bb, ob, rfl, hbb, hbc⟩ := hAw.ptr (by omega)
          obtain ⟨e, he⟩ := hAw.get hjn
          obtain ⟨e0, e1⟩ := hbc j e he
          have hpt := hSH.out.pt j e he
          have heH := Lib.hid he
          have hnl := Lib.hid (allP_len (nbP ps) k j)
          obtain ⟨nm, hnm⟩ : ∃ nm, (allP (nbP ps) k j).1 = nm := ⟨_, rfl⟩
          obtain ⟨P, hP⟩ : ∃ P, (allP (nbP ps) k j).2 = P := ⟨_, rfl⟩
          have hlb := leftB_at (nm := nm) hSH.out he
          rw [hnm] at hM hnl
          rw [hP] at hO hul hcnt ⊢
          have hnmH := Lib.hid hnm
          have hPH := Lib.hid hP
          clear hbc he hAw hnm hP
          cases hb0 : leftB ps nm e.x e.y
          · rw [hb0] at hlb
            have h0 : (allP (nbP ps) k j).1[j]? ≠ some 0 := by
              rw [hnmH.out]
              exact of_decide_eq_false hlb.symm
            have hno := Lib.hid (allP_no h0)
            clear hlb h0
            have hlk := Lib.hid hb0
            clear hb0
            go_wp2_with (at_lookup; refine wpList_look_lmap _ rfl _ _ rfl w.heap.size k _ rfl (hM.out.below (by exact bel_)) e.x e.y (W64.of (by omega)) (W64.of (by omega)) rfl ?_; rw [hlk.out])
            go_roundg (k - (j + 1))
            case measure => omega
            case rel =>
              refine ⟨j + 1, us, by omega, by go_num, Lib.hid ?_, Lib.hid ?_, Lib.hid ?_, Lib.hid (hbw.out.alloc hszl _), by simp; omega⟩
              · rw [hno.out, hPH.out]; exact hO.out.alloc _
              · rw [hno.out, hPH.out]; exact hul.out
              · rw [hno.out, hnmH.out]; exact hM.out.below (by exact bel_)
          · rw [hb0] at hlb
            have h0 := of_decide_eq_true hlb.symm
            have h0H := Lib.hid h0
            clear hlb h0
            have hlk := Lib.hid hb0
            clear hb0
            have hjl : j < nm.length := by rw [hnl.out]; exact hjn
            have hjlH := Lib.hid hjl
            have hfar : Hid (∀ g, Value.ownBlock (.slice A0 P.length c0) = some g → g < wr.heap.size) := Lib.hid fun g hg => (hO.out.lt g hg).2
            have hfin : Hid (∀ (q : Nat) (u : Value) (g : Nat), us[q]? = some u → u.ownBlock = some g → g < wr.heap.size) := Lib.hid fun q u g hu hg => (hO.out.ltIn hu g hg).2
            obtain ⟨wj, hwj⟩ : ∃ wj : World, wj = wr := ⟨_, rfl⟩
            have hs0 : wj.heap.size = wr.heap.size := by rw [hwj]
            rw [← hwj] at hfar hfin
            clear hwj
            go_wp2_with (first
              | (at_lookup; refine wpList_look_lmap _ rfl _ _ rfl w.heap.size k _ rfl (hM.out.below (by exact bel_)) e.x e.y (W64.of (by omega)) (W64.of (by omega)) rfl ?_; rw [hlk.out])
              | (at_delete; refine wpList_del_lmap _ rfl _ _ rfl w.heap.size k _ rfl (hM.out.below (by exact bel_)) e.x e.y (W64.of (by omega)) (W64.of (by omega)) rfl ?_; intro w4 hM4 hg4; have hM4H := Lib.hid hM4; have hg4H := Lib.hid hg4; clear hM4 hg4))
            have hO4 := Lib.hid (((hO.out.alloc (Obj.cells #[.int .i64 e.x, .int .i64 e.y] 34)).alloc (Obj.cells #[.int .i64 e.x, .int .i64 e.y] 34)).keptBelow hg4H.out (by intro g e; injection e with e; omega))
            have hR4 := Lib.hid ((World.ownsRow_lit (base := wj.heap.size) (e := 34) (size := 2) (wr.alloc (Obj.cells #[.int .i64 e.x, .int .i64 e.y] 34)) #[.int .i64 e.x, .int .i64 e.y] 1 (by rw [hs0]; simp) (by decide) rfl).kept hg4H.out (.inr (by simp [Value.ownBlock]; omega)))
            have hb4 := Lib.hid (((hbw.out.alloc hszl (Obj.cells #[.int .i64 e.x, .int .i64 e.y] 34)).alloc (by simp; omega) (Obj.cells #[.int .i64 e.x, .int .i64 e.y] 34)).grown hg4H.out (by simp; omega) (by intro q e; injection e with e; omega))
            have hs4 : wr.heap.size + 2 ≤ w4.heap.size := by have := hg4H.out.size; simpa using this
            have hM5 := Lib.hid (hM4H.out.say (S' := leftB ps (nm.set j (P.length + 1))) fun x y => (leftB_set hSH.out heH.out hjlH.out (Nat.succ_ne_zero _) x y).symm)
            have hV0 := Lib.hid (VisInv.start (n := k) (c := P.length + 1) (N0 := nm) (i := j) (Nat.succ_ne_zero _) hnl.out h0H.out)
            obtain ⟨st0, hst0⟩ : ∃ st0, (([j], nm.set j (P.length + 1)) : List Nat × List Nat) = st0 := ⟨_, rfl⟩
            have hR5 : Hid (w4.ownsRow wj.heap.size 34 2 (.slice (some ⟨wr.heap.size + 1, 0, none⟩) 1 1) st0.1.length (ptCells (ptsAt ps st0.1))) := Lib.hid (by
              rw [← hst0]
              simpa [ptsAt, ptAt_of heH.out, ptCells] using hR4.out)
            have hM6 : Hid (LMap w4 w.heap.size k (leftB ps st0.2)) := Lib.hid (by rw [← hst0]; exact hM5.out)
            have hst0H := Lib.hid hst0
            rw [hst0] at hV0
            clear hst0 hM4H hM5 hR4 hM hO hg4H hlk
            have hbw' : Below w.heap.size w wr := hbw.out
            obtain ⟨cc, hcc⟩ : ∃ cc, P.length + 1 = cc := ⟨_, rfl⟩
            rw [hcc] at hV0
            have hccH := Lib.hid hcc
            obtain ⟨wk, hwk⟩ : ∃ wk : World, wk = w4 := ⟨_, rfl⟩
            have hs5 : wk.heap.size = w4.heap.size := by rw [hwk]
            clear hwk
            go_loopg [10, 9] k (fun g i v wx => ∃ (q : Nat), q + g = k ∧ i = .int .i64 (q : Int) ∧ Hid (wx.ownsRow wj.heap.size 34 2 v (visS (nbP ps) cc st0 q).1.length (ptCells (ptsAt ps (visS (nbP ps) cc st0 q).1))) ∧ Hid (LMap wx w.heap.size k (leftB ps (visS (nbP ps) cc st0 q).2)) ∧ Hid (Own2 wx (w.heap.size + 1) 42 34 2 (.slice A0 P.length c0) us (partsV ps P)) ∧ Hid (Below w.heap.size w wx) ∧ wk.heap.size ≤ wx.heap.size)
            case atStart => exact ⟨0, by omega, rfl, hR5, hM6, hO4, hb4, by omega⟩
            case round =>
              clear hR5 hM6 hO4 hb4
              obtain ⟨q, hq, rfl, hR, hM, hO, hbx, hsx⟩ := hrel
              have hszx := hbx.out.size
              have hAx := hAH.out.below RPt.stable hbx.out
              have hVq := Lib.hid (hV0.out.all (nb := nbP ps) q)
              have hlen := VisInv.length hVq.out
              obtain ⟨st, hst⟩ : ∃ st, visS (nbP ps) cc st0 q = st := ⟨_, rfl⟩
              rw [hst] at hR hM hVq hlen
              have hstH := Lib.hid hst
              clear hst
              obtain ⟨A9, c9, rfl⟩ := ownsRow_form hR.out
              by_cases hqn : q < st.1.length
              · obtain ⟨g9, cap9, hv9⟩ : ∃ g9 cap9, Value.slice A9 st.1.length c9 = .slice (some ⟨g9, 0, none⟩) st.1.length cap9 := by
                  rcases hR.out.2 with ⟨_, h0⟩ | ⟨g, cap, cur, hv, _⟩
                  · omega
                  · exact ⟨g, cap, hv⟩
                injection hv9 with hv1 hv2 hv3
                subst hv1 hv3
                clear hv2
                obtain ⟨u, hu⟩ : ∃ u, st.1[q]? = some u := ⟨_, List.getElem?_eq_getElem hqn⟩
                have hun : u < k := hVq.out.lt u (List.mem_of_getElem? hu)
                obtain ⟨eu, heu⟩ : ∃ eu, ps[u]? = some eu := ⟨_, List.getElem?_eq_getElem (by rw [hlH.out]; exact hun)⟩
                have hptu := hSH.out.pt u eu heu
                have huH := Lib.hid hu
                have heuH := Lib.hid heu
                clear hu heu hAx
                have hgl := (hR.out.lt g9 rfl)
                go_wp2
                go_loopg [43, 9] 4 (fun g i v wy => ∃ (d : Nat), d + g = 4 ∧ i = .int .i64 (d : Int) ∧ Hid (wy.ownsRow wj.heap.size 34 2 v (vis4 (nbP ps) cc q st d).1.length (ptCells (ptsAt ps (vis4 (nbP ps) cc q st d).1))) ∧ Hid (LMap wy w.heap.size k (leftB ps (vis4 (nbP ps) cc q st d).2)) ∧ Hid (Own2 wy (w.heap.size + 1) 42 34 2 (.slice A0 P.length c0) us (partsV ps P)) ∧ Hid (Below w.heap.size w wy) ∧ wk.heap.size ≤ wy.heap.size)
                case atStart => exact ⟨0, by omega, rfl, hR, hM, hO, hbx, hsx⟩
                case round =>
                  clear hR hM hO hbx hsx hszx hgl
                  obtain ⟨d, hd, rfl, hR, hM, hO, hby, hsy⟩ := hrel
                  have hszy := hby.out.size
                  have hVd := Lib.hid (hVq.out.four (nb := nbP ps) q d)
                  have hlend := VisInv.length hVd.out
                  have hud := vis4_at (nb := nbP ps) (c := cc) huH.out d
                  have h4 : vis4 (nbP ps) cc q st (d + 1) = vis1 (nbP ps) cc q d (vis4 (nbP ps) cc q st d) := rfl
                  have h4' : d = 4 → vis4 (nbP ps) cc q st d = visS (nbP ps) cc st0 (q + 1) := fun e => by subst e; rw [← hstH.out]; rfl
                  obtain ⟨sd, hsd⟩ : ∃ sd, vis4 (nbP ps) cc q st d = sd := ⟨_, rfl⟩
                  rw [hsd] at hR hM hVd hlend hud h4 h4'
                  have h4H := Lib.hid h4
                  have h4'H := Lib.hid h4'
                  clear hsd h4 h4'
                  have hqd : q < sd.1.length := (List.getElem?_eq_some_iff.1 hud).1
                  obtain ⟨A9, c9, rfl⟩ := ownsRow_form hR.out
                  by_cases hd4 : d < 4
                  · have hdI : (d : Int) < 4 := by omega
                    obtain ⟨g9, cap9, hv9⟩ : ∃ g9 cap9, Value.slice A9 sd.1.length c9 = .slice (some ⟨g9, 0, none⟩) sd.1.length cap9 := by
                      rcases hR.out.2 with ⟨_, h0⟩ | ⟨g, cap, cur, hv, _⟩
                      · omega
                      · exact ⟨g, cap, hv⟩
                    injection hv9 with hv1 hv2 hv3
                    subst hv1 hv3
                    clear hv2
                    have hgl := (hR.out.lt g9 rfl)
                    have hgt := ptCells_get (ptsAt ps sd.1) q eu (by unfold ptsAt; rw [List.getElem?_map, hud]; simp [ptAt_of heuH.out])
                    have r0 := (hR.out.cellAt (q * 2) (by omega)).trans hgt.1
                    have r1 := (hR.out.cellAt (q * 2 + 1) (by omega)).trans hgt.2
                    obtain ⟨sx, hsxe⟩ : ∃ sx, stepX eu.x (d : Nat) = sx := ⟨_, rfl⟩
                    obtain ⟨sy, hsye⟩ : ∃ sy, stepY eu.y (d : Nat) = sy := ⟨_, rfl⟩
                    have hsr : (-62 ≤ sx ∧ sx ≤ 62) ∧ (-62 ≤ sy ∧ sy ≤ 62) := by
                      rw [← hsxe, ← hsye]
                      have : d = 0 ∨ d = 1 ∨ d = 2 ∨ d = 3 := by omega
                      rcases this with rfl | rfl | rfl | rfl <;> simp [stepX, stepY] <;> omega
                    have hsxH := Lib.hid hsxe
                    have hsyH := Lib.hid hsye
                    have hudH := Lib.hid hud
                    clear hgt hsxe hsye hud
                    cases hlb : leftB ps sd.2 sx sy
                    · have hms := Lib.hid (vis1_miss (c := cc) (d := d) hudH.out heuH.out (by rw [hsxH.out, hsyH.out]; exact hlb))
                      have hlk := Lib.hid hlb
                      clear hlb
                      go_wp2_with (first
                        | (go_at_call 69; refine (step_any _ _ _ _ hd4 ⟨by omega, by omega⟩ ⟨by omega, by omega⟩).mono ?_; rw [hsxH.out, hsyH.out]; rintro e' w1 ⟨rfl, hb1⟩; obtain ⟨c1, f1, s1, t1⟩ := bcell hb1; have hb1H := Lib.hid hb1; clear hb1)
                        | (at_lookup; refine wpList_look_lmap _ rfl _ _ rfl w.heap.size k _ rfl ((hM.out.below hb1H.out).below (by exact bel_)) sx sy (W64.of (by omega)) (W64.of (by omega)) rfl ?_; rw [hlk.out]))
                      have hs1 := hb1H.out.size
                      go_roundg (4 - (d + 1))
                      case measure => omega
                      case rel =>
                        refine ⟨d + 1, by omega, by go_num, Lib.hid ?_, Lib.hid ?_, Lib.hid ((hO.out.below hb1H.out).alloc _), Lib.hid ((hby.out.trans (hb1H.out.mono hszy)).alloc (by omega) _), by simp; omega⟩
                        · rw [h4H.out, hms.out]; exact (ownsRow_below hR.out hb1H.out).alloc _
                        · rw [h4H.out, hms.out]; exact (hM.out.below hb1H.out).below (by exact bel_)
                    · obtain ⟨vv, hvn, hvp, hv0, hvis⟩ := vis1_hit (c := cc) (d := d) hudH.out heuH.out (by rw [hsxH.out, hsyH.out]; exact hlb)
                      rw [hsxH.out, hsyH.out] at hvp
                      have hlk := Lib.hid hlb
                      have hvpH := Lib.hid hvp
                      have hvisH := Lib.hid hvis
                      have hv0H := Lib.hid hv0
                      have hccn := hVd.out.pos
                      have hset := Lib.hid (leftB_set hSH.out (nm := sd.2) hvp (by rw [hVd.out.len, ← hlH.out]; exact hvn) hccn)
                      clear hlb hvp hvis hv0
                      go_wp2_with (first
                        | (go_at_call 69; refine (step_any _ _ _ _ hd4 ⟨by omega, by omega⟩ ⟨by omega, by omega⟩).mono ?_; rw [hsxH.out, hsyH.out]; rintro e' w1 ⟨rfl, hb1⟩; obtain ⟨c1, f1, s1, t1⟩ := bcell hb1; have hs1 := hb1.size; have hb1H := Lib.hid hb1; clear hb1)
                        | (at_lookup; refine wpList_look_lmap _ rfl _ _ rfl w.heap.size k _ rfl ((hM.out.below hb1H.out).below (by exact bel_)) sx sy (W64.of (by omega)) (W64.of (by omega)) rfl ?_; rw [hlk.out])
                        | (at_delete; refine wpList_del_lmap _ rfl _ _ rfl w.heap.size k _ rfl ((hM.out.below hb1H.out).below (by exact bel_)) sx sy (W64.of (by omega)) (W64.of (by omega)) rfl ?_; intro w4 hM4 hg4; have hs4 : w1.heap.size + 1 ≤ w4.heap.size := (by have := hg4.size; simpa using this); (have x0 := (World.cell?_of_block (w := w1.alloc (Obj.cells #[.int .i64 sx, .int .i64 sy] 34)) (w' := w4) (a := ⟨w1.heap.size, 0, none⟩) (hg4.block w1.heap.size (by simp) (by intro h; injection h with h; omega))).trans (show _ = some (Value.int .i64 sx) by go_simp); have x1 := (World.cell?_of_block (w := w1.alloc (Obj.cells #[.int .i64 sx, .int .i64 sy] 34)) (w' := w4) (a := ⟨w1.heap.size, 1, none⟩) (hg4.block w1.heap.size (by simp) (by intro h; injection h with h; omega))).trans (show _ = some (Value.int .i64 sy) by go_simp)); have hM4H := Lib.hid hM4; (have hR4 := Lib.hid (((ownsRow_below hR.out hb1H.out).alloc (Obj.cells #[.int .i64 sx, .int .i64 sy] 34)).kept hg4 (.inr (by simp [Value.ownBlock]; omega))); have hO4 := Lib.hid (((hO.out.below hb1H.out).alloc (Obj.cells #[.int .i64 sx, .int .i64 sy] 34)).keptBelow hg4 (by intro g e; injection e with e; omega)); have hb4 := Lib.hid (((hby.out.trans (hb1H.out.mono hszy)).alloc (by omega) (Obj.cells #[.int .i64 sx, .int .i64 sy] 34)).grown hg4 (by simp; omega) (by intro q e; injection e with e; omega)); clear hM4 hg4))
                        | (at_builtin; (refine wpList_append_own_at _ rfl _ _ 42 rfl wj.heap.size 34 i0 (.agg #[.int .i64 0, .int .i64 0]) 2 16 Try.underlying42 hi hz0 hz1 hz2 rfl (by decide) _ sd.1.length (ptCells (ptsAt ps sd.1)) rfl (hR4.out.alloc _) ⟨w4.heap.size, 0, none⟩ 1 1 [.int .i64 sx, .int .i64 sy] rfl rfl (cell_pt2 _ _ _ _) (fun x hx => by simp at hx; rcases hx with rfl | rfl <;> rfl) (by unfold maxLen; omega) (by omega) (by simp; omega) ?_); intro v5 w5 hown5 hgrow5 _ hat5; have hown5H := Lib.hid hown5; have hgrow5H := Lib.hid hgrow5; clear hown5 hgrow5 hat5))
                      have hs5' : w4.heap.size + 1 ≤ w5.heap.size := by have := hgrow5H.out.size; simpa using this
                      have hbb5 := Lib.hid (below_app (B0 := w.heap.size + 1) (W := w4) (by omega) (fun g e => by have e1 : some g9 = some g := e; injection e1 with e1; omega) hgrow5H.out)
                      go_roundg (4 - (d + 1))
                      case measure => omega
                      case rel =>
                        refine ⟨d + 1, by omega, by go_num, Lib.hid ?_, Lib.hid ?_, Lib.hid ?_, Lib.hid (hb4.out.trans (hbb5.out.mono (by omega))), by omega⟩
                        · rw [h4H.out, hvisH.out]
                          have := hown5H.out
                          rw [← ptCells_snoc _ ⟨sx, sy⟩] at this
                          simpa [ptsAt, ptAt_of hvpH.out] using this
                        · rw [h4H.out, hvisH.out]
                          exact (hM4H.out.block (hbb5.out.block _ (by omega))).say fun x y => (hset.out x y).symm
                        · refine (hO4.out.alloc _).kept hgrow5H.out fun g e => ?_
                          have e1 : some g9 = some g := e
                          injection e1 with e1
                          subst e1
                          exact ⟨fun e' => by have := hfar.out _ e'; omega, fun i u hu e' => by have := hfin.out i u _ hu e'; omega⟩
                  · obtain rfl : d = 4 := by omega
                    go_wp2
                    go_roundg (k - (q + 1))
                    case measure => omega
                    case rel =>
                      refine ⟨q + 1, by omega, by go_num, Lib.hid ?_, Lib.hid ?_, hO, hby, hsy⟩
                      · rw [← h4'H.out (by simp)]; exact hR.out
                      · rw [← h4'H.out (by simp)]; exact hM.out
              · have hend := Lib.hid (visS_end hV0.out (nb := nbP ps) (k := q) (by rw [hstH.out]; omega))
                have h1 : 0 < st.1.length := by
                  have := visS_pos (nb := nbP ps) (c := cc) (st := st0) (by rw [← hst0H.out]; simp) q
                  rw [hstH.out] at this
                  exact this
                obtain ⟨g9, cap9, hv9⟩ : ∃ g9 cap9, Value.slice A9 st.1.length c9 = .slice (some ⟨g9, 0, none⟩) st.1.length cap9 := by
                  rcases hR.out.2 with ⟨_, h0⟩ | ⟨g, cap, cur, hv, _⟩
                  · omega
                  · exact ⟨g, cap, hv⟩
                injection hv9 with hv1 hv2 hv3
                subst hv1 hv3
                clear hv2 hAx
                have hgl := (hR.out.lt g9 rfl)
                have hyes := Lib.hid (allP_yes (nb := nbP ps) (n := k) (i := j) hnmH.out hPH.out h0H.out (st := st) (by rw [hst0H.out, hccH.out, ← hend.out, hstH.out]))
                have hR1 := Lib.hid (show wr.ownsRow wj.heap.size 34 2 (.slice (some ⟨g9, 0, none⟩) (ptsAt ps st.1).length c9) (ptsAt ps st.1).length (ptCells (ptsAt ps st.1)) by rw [ptsAt_len]; exact hR.out)
                have hpl := ptsAt_len ps st.1
                have hsl := sortP_len (ptsAt ps st.1)
                obtain ⟨L, hL⟩ : ∃ L, ptsAt ps st.1 = L := ⟨_, rfl⟩
                rw [hL] at hR1 hpl hsl
                have hLH := Lib.hid hL
                clear hL
                have hll : L.length = st.1.length := hpl
                have hvL : Value.slice (some ⟨g9, 0, none⟩) st.1.length c9 = .slice (some ⟨g9, 0, none⟩) L.length c9 := by rw [hll]
                go_wp2_with (first
                  | (go_at_call 70; rw [hvL]; refine (SortFuncPt_any L wj.heap.size g9 c9 wr hR1.out (by omega)).mono ?_; rintro e' w1 ⟨rfl, hrow1, hg1⟩; have hrow1H := Lib.hid hrow1; have hg1H := Lib.hid hg1; have hs1 := hg1.size; have hO1 := Lib.hid (hO.out.kept hg1 fun g e => by (injection e with e; subst e; exact ⟨fun e' => by (have := hfar.out _ e'; omega), fun i u hu e' => by (have := hfin.out i u _ hu e'; omega)⟩)); clear hrow1 hg1)
                  | (at_builtin; (refine wpList_append_own_at _ rfl _ _ 60 rfl (w.heap.size + 1) 42 i1 (.slice none 0 0) 1 24 Try.underlying60 hi' hz0' hz1' hz2' rfl (by decide) _ P.length us rfl ((hO1.out.outerN hul.out).alloc _) ⟨w1.heap.size, 0, none⟩ 1 1 [.slice (some ⟨g9, 0, none⟩) L.length c9] rfl rfl (cell_one_new _ _ _) (fun x hx => by simp at hx; subst hx; rfl) (by unfold maxLen; omega) (by omega) (by simp; omega) ?_); intro v5 w5 hown5 hgrow5 _ hat5; have hown5H := Lib.hid hown5; have hgrow5H := Lib.hid hgrow5; have hat5H := Lib.hid hat5; clear hown5 hgrow5 hat5))
                have hs5' : w1.heap.size + 1 ≤ w5.heap.size := by have := hgrow5H.out.size; simpa using this
                have hbA := Lib.hid (below_app (B0 := w.heap.size + 1) (W := w1) (by omega) (fun g e => (hO1.out.lt g e).1) hgrow5H.out)
                have hb1 := Lib.hid ((Below.refl (w.heap.size + 1) wr).grown hg1H.out (by omega) (fun g e => by injection e with e; omega))
                go_roundg (k - (j + 1))
                case measure => omega
                case rel =>
                  refine ⟨j + 1, us ++ [.slice (some ⟨g9, 0, none⟩) L.length c9], by omega, by go_num, Lib.hid ?_, Lib.hid ?_, Lib.hid ?_, Lib.hid (hbx.out.trans ((hb1.out.trans (hbA.out.mono (by omega))).mono (by omega))), by omega⟩
                  · rw [hyes.out.2]
                    have hx : (w1.alloc (Obj.cells #[.slice (some ⟨g9, 0, none⟩) L.length c9] 42)).ownsRow (w.heap.size + 1) 34 2 (.slice (some ⟨g9, 0, none⟩) L.length c9) L.length (ptCells (sortP L)) := by
                      exact ((ownsRow_baseQ hrow1H.out (by omega)).alloc _)
                    have := (hO1.out.alloc (Obj.cells #[.slice (some ⟨g9, 0, none⟩) L.length c9] 42)).push hul.out hx (fun g e => by (have e1 : some g9 = some g := e); injection e1 with e1; subst e1; exact ⟨fun e' => by (have := hfar.out _ e'; omega), fun i u hu e' => by (have := hfin.out i u _ hu e'; omega)⟩) hown5H.out hgrow5H.out hat5H.out
                    simpa [partsV, hLH.out] using this
                  · rw [hyes.out.2]; simp [hul.out]
                  · rw [hyes.out.1]
                    exact hM.out.block (((hb1.out.trans (hbA.out.mono (by omega)))).block _ (by omega))
        · obtain rfl : j = k := by omega
          go_wp2
          go_ret
          exact ⟨_, us, rfl, hO.out.rebase (by omega), hbw.out⟩
end Go.Proofs.Ytpnahobgmemdjaa
