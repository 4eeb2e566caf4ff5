import Derived.Test.YtdcndhiidjgmaaaGreatDoorBase2
set_option linter.unusedSimpArgs false
set_option linter.unusedVariables false
/- Plain facts: the first of the shortest ways, by steps to the goal and by a search from the start. -/
namespace Go.Proofs.YtdcndhiidjgmaaaGreatDoor
/-- from v the goal y is reached in k steps -/
def inK (n : Nat) (E : Nat → Nat → Bool) (y : Nat) : Nat → Nat → Prop
  | 0, v => v = y
  | k + 1, v => ∃ u, u < n ∧ E v u = true ∧ inK n E y k u
theorem exists_least {p : Nat → Prop} (h : ∃ k, p k) : ∃ k, p k ∧ ∀ j, j < k → ¬ p j := by
  obtain ⟨k, hk⟩ := h
  induction k using Nat.strongRecOn with
  | ind k ih =>
    by_cases hj : ∃ j, j < k ∧ p j
    · obtain ⟨j, hj, hp⟩ := hj
      exact ih j hj hp
    · exact ⟨k, hk, fun j h1 h2 => hj ⟨j, h1, h2⟩⟩
open Classical in
/-- how many steps it takes -/
noncomputable def distTo (n : Nat) (E : Nat → Nat → Bool) (y v : Nat) : Option Nat := if h : ∃ k, inK n E y k v then some (Classical.choose (exists_least h)) else none
theorem distTo_some {n : Nat} {E : Nat → Nat → Bool} {y v k : Nat} : distTo n E y v = some k ↔ inK n E y k v ∧ ∀ j, j < k → ¬ inK n E y j v := by
  unfold distTo
  split
  · rename_i h
    have hs := Classical.choose_spec (exists_least h)
    constructor
    · intro e
      injection e with e
      rw [← e]; exact hs
    · intro ⟨h1, h2⟩
      congr 1
      rcases Nat.lt_trichotomy (Classical.choose (exists_least h)) k with h3 | h3 | h3
      · exact (h2 _ h3 hs.1).elim
      · exact h3
      · exact (hs.2 _ h3 h1).elim
  · rename_i h
    exact ⟨(fun e => by cases e), fun ⟨h1, _⟩ => (h ⟨k, h1⟩).elim⟩
theorem distTo_none {n : Nat} {E : Nat → Nat → Bool} {y v : Nat} : distTo n E y v = none ↔ ∀ k, ¬ inK n E y k v := by
  unfold distTo
  split
  · rename_i h
    exact ⟨(fun e => by cases e), (fun e => by obtain ⟨k, hk⟩ := h; exact (e k hk).elim)⟩
  · rename_i h
    exact ⟨fun _ k hk => h ⟨k, hk⟩, fun _ => rfl⟩
theorem distTo_of {n : Nat} {E : Nat → Nat → Bool} {y v k : Nat} (h : inK n E y k v) : ∃ d, distTo n E y v = some d ∧ d ≤ k := by
  cases hd : distTo n E y v with
  | none => exact (distTo_none.1 hd k h).elim
  | some d =>
    refine ⟨d, rfl, ?_⟩
    rcases Nat.lt_or_ge k d with h1 | h1
    · exact ((distTo_some.1 hd).2 k h1 h).elim
    · exact h1
theorem distTo_goal (n : Nat) (E : Nat → Nat → Bool) (y : Nat) : distTo n E y y = some 0 := distTo_some.2 ⟨rfl, fun j hj => by omega⟩
theorem distTo_zero {n : Nat} {E : Nat → Nat → Bool} {y v : Nat} (h : distTo n E y v = some 0) : v = y := (distTo_some.1 h).1
theorem distTo_edge {n : Nat} {E : Nat → Nat → Bool} {y u v d : Nat} (hu : u < n) (he : E v u = true) (h : distTo n E y u = some d) : ∃ d', distTo n E y v = some d' ∧ d' ≤ d + 1 :=
  distTo_of (k := d + 1) ⟨u, hu, he, (distTo_some.1 h).1⟩
theorem distTo_next {n : Nat} {E : Nat → Nat → Bool} {y v d : Nat} (h : distTo n E y v = some (d + 1)) : ∃ u, u < n ∧ E v u = true ∧ distTo n E y u = some d := by
  obtain ⟨⟨u, hu, he, hk⟩, h2⟩ := distTo_some.1 h
  obtain ⟨d', hd, hle⟩ := distTo_of hk
  refine ⟨u, hu, he, ?_⟩
  rcases Nat.lt_or_ge d' d with h3 | h3
  · exact (h2 (d' + 1) (by omega) ⟨u, hu, he, (distTo_some.1 hd).1⟩).elim
  · rw [hd, show d' = d by omega]
/-- steps that fit are the steps -/
structure IsDist (n : Nat) (E : Nat → Nat → Bool) (y : Nat) (left : Nat → Option Nat) : Prop where
  goal : left y = some 0
  edge : ∀ u v d, u < n → v < n → E v u = true → left u = some d → ∃ d', left v = some d' ∧ d' ≤ d + 1
  next : ∀ v d, v < n → left v = some d → (v = y ∧ d = 0) ∨ ∃ u d', u < n ∧ E v u = true ∧ left u = some d' ∧ d = d' + 1
theorem IsDist.eq {n : Nat} {E : Nat → Nat → Bool} {y : Nat} {left : Nat → Option Nat} (h : IsDist n E y left) (hy : y < n) : ∀ v, v < n → left v = distTo n E y v := by
  have h1 : ∀ k v, v < n → inK n E y k v → ∃ d, left v = some d ∧ d ≤ k := by
    intro k
    induction k with
    | zero =>
      intro v hv hk
      obtain rfl : v = y := hk
      exact ⟨0, h.goal, Nat.le_refl _⟩
    | succ k ih =>
      intro v hv ⟨u, hu, he, hk⟩
      obtain ⟨d, hd, hle⟩ := ih u hu hk
      obtain ⟨d', hd', hle'⟩ := h.edge u v d hu hv he hd
      exact ⟨d', hd', by omega⟩
  have h2 : ∀ d v, v < n → left v = some d → inK n E y d v := by
    intro d
    induction d with
    | zero =>
      intro v hv hl
      rcases h.next v 0 hv hl with ⟨rfl, _⟩ | ⟨u, d', _, _, _, e⟩
      · rfl
      · omega
    | succ d ih =>
      intro v hv hl
      rcases h.next v (d + 1) hv hl with ⟨_, e⟩ | ⟨u, d', hu, he, hd, e⟩
      · omega
      · obtain rfl : d = d' := by omega
        exact ⟨u, hu, he, ih u hu hd⟩
  intro v hv
  cases hl : left v with
  | none =>
    refine (distTo_none.2 fun k hk => ?_).symm
    obtain ⟨d, hd, _⟩ := h1 k v hv hk
    rw [hl] at hd; cases hd
  | some d =>
    refine (distTo_some.2 ⟨h2 d v hv hl, fun j hj hk => ?_⟩).symm
    obtain ⟨d', hd', hle⟩ := h1 j v hv hk
    rw [hl] at hd'
    injection hd' with hd'
    omega
/-- the next point of the way: the least one that is a step nearer -/
noncomputable def nextOn (n : Nat) (E : Nat → Nat → Bool) (y d v : Nat) : Nat := match (List.range n).find? (fun u => E v u && decide (distTo n E y u = some d)) with
  | some u => u
  | none => v
/-- the way from v, d steps long -/
noncomputable def wayL (n : Nat) (E : Nat → Nat → Bool) (y : Nat) : Nat → Nat → List Nat
  | 0, v => [v]
  | d + 1, v => v :: wayL n E y d (nextOn n E y d v)
noncomputable def wayTo (n : Nat) (E : Nat → Nat → Bool) (x y : Nat) : Option (List Nat) := (distTo n E y x).map fun d => wayL n E y d x
theorem nextOn_spec {n : Nat} {E : Nat → Nat → Bool} {y v d : Nat} (h : distTo n E y v = some (d + 1)) : nextOn n E y d v < n ∧ E v (nextOn n E y d v) = true ∧ distTo n E y (nextOn n E y d v) = some d ∧
    ∀ u, u < nextOn n E y d v → E v u = true → distTo n E y u ≠ some d := by
  obtain ⟨u, hu, he, hd⟩ := distTo_next h
  unfold nextOn
  cases hf : (List.range n).find? (fun u => E v u && decide (distTo n E y u = some d)) with
  | none =>
    have := List.find?_eq_none.1 hf u (by simpa using hu)
    simp [he, hd] at this
  | some u' =>
    dsimp only
    obtain ⟨hp, as, bs, hab, hno⟩ := List.find?_eq_some_iff_append.1 hf
    simp only [Bool.and_eq_true, decide_eq_true_eq] at hp
    have hm : u' ∈ List.range n := List.mem_of_find?_eq_some hf
    refine ⟨by simpa using hm, hp.1, hp.2, fun t ht he' hd' => ?_⟩
    have htm : t ∈ as := by
      have hn : n = as.length + (bs.length + 1) := by
        have := congrArg List.length hab
        simpa using this
      have hu' : as.length = u' := by
        have h1 := congrArg (fun l => l[as.length]?) hab
        have hlt : as.length < n := by omega
        simp [hlt] at h1
        exact h1
      have h2 := congrArg (fun l => l[t]?) hab
      have hlt : t < n := by omega
      have hta : t < as.length := by omega
      simp only [List.getElem?_append_left hta] at h2
      rw [List.getElem?_range hlt] at h2
      exact List.mem_of_getElem? h2.symm
    have := hno t htm
    simp [he', hd'] at this
theorem wayL_len (n : Nat) (E : Nat → Nat → Bool) (y : Nat) : ∀ d v, (wayL n E y d v).length = d + 1
  | 0, v => rfl
  | d + 1, v => by simp [wayL, wayL_len n E y d]
theorem wayL_head (n : Nat) (E : Nat → Nat → Bool) (y d v : Nat) : (wayL n E y d v)[0]? = some v := by cases d <;> rfl
/-- what stands on the way -/
theorem wayL_spec {n : Nat} {E : Nat → Nat → Bool} {y : Nat} : ∀ d v, v < n → distTo n E y v = some d → ∀ j u, (wayL n E y d v)[j]? = some u → u < n ∧ j ≤ d ∧ distTo n E y u = some (d - j) ∧
    ∀ u', (wayL n E y d v)[j + 1]? = some u' → E u u' = true ∧ ∀ t, t < u' → E u t = true → distTo n E y t ≠ some (d - j - 1) := by
  intro d
  induction d with
  | zero =>
    intro v hv h j u hu
    match j with
    | 0 =>
      obtain rfl : v = u := by simpa [wayL] using hu
      exact ⟨hv, Nat.le_refl _, h, fun u' hu' => by simp [wayL] at hu'⟩
    | j + 1 => simp [wayL] at hu
  | succ d ih =>
    intro v hv h j u hu
    obtain ⟨h1, h2, h3, h4⟩ := nextOn_spec h
    match j with
    | 0 =>
      obtain rfl : v = u := by simpa [wayL] using hu
      refine ⟨hv, Nat.zero_le _, h, fun u' hu' => ?_⟩
      simp only [wayL, Nat.zero_add, List.getElem?_cons_succ] at hu'
      rw [wayL_head] at hu'
      obtain rfl := Option.some.inj hu'
      exact ⟨h2, fun t ht he => by simpa using h4 t ht he⟩
    | j + 1 =>
      simp only [wayL, List.getElem?_cons_succ] at hu ⊢
      obtain ⟨a1, a2, a3, a4⟩ := ih _ h1 h3 j u hu
      refine ⟨a1, by omega, by rw [a3]; congr 1; omega, fun u' hu' => ?_⟩
      obtain ⟨b1, b2⟩ := a4 u' hu'
      exact ⟨b1, fun t ht he => by rw [show d + 1 - (j + 1) - 1 = d - j - 1 by omega]; exact b2 t ht he⟩
theorem wayL_last {n : Nat} {E : Nat → Nat → Bool} {y : Nat} {d v : Nat} (hv : v < n) (h : distTo n E y v = some d) : (wayL n E y d v)[d]? = some y := by
  have hlt : d < (wayL n E y d v).length := by rw [wayL_len]; omega
  obtain ⟨u, hu⟩ : ∃ u, (wayL n E y d v)[d]? = some u := ⟨_, List.getElem?_eq_getElem hlt⟩
  obtain ⟨_, _, h3, _⟩ := wayL_spec d v hv h d u hu
  rw [Nat.sub_self] at h3
  rw [hu, distTo_zero h3]
/-- a search from x: L what was found, in order; q the places of those from which it was; i are done, of the next one the points below t -/
structure Bfs (n : Nat) (E : Nat → Nat → Bool) (x : Nat) (L q : List Nat) (i t : Nat) : Prop where
  len : q.length = L.length
  head : L[0]? = some x
  lt : ∀ (k v : Nat), L[k]? = some v → v < n
  nodup : ∀ (j k v : Nat), L[j]? = some v → L[k]? = some v → j = k
  from_ : ∀ (k v p u : Nat), 0 < k → L[k]? = some v → q[k]? = some p → L[p]? = some u → p < k ∧ E u v = true ∧ (p < i ∨ (p = i ∧ v < t))
  within : ∀ (k p : Nat), q[k]? = some p → p ≤ k ∧ (0 < k → p < k)
  early : ∀ (k v p p' u' : Nat), 0 < k → L[k]? = some v → q[k]? = some p → p' < p → L[p']? = some u' → E u' v = false
  order : ∀ (k k' p p' v v' : Nat), 0 < k → k < k' → q[k]? = some p → q[k']? = some p' → L[k]? = some v → L[k']? = some v' → p < p' ∨ (p = p' ∧ v < v')
  full : ∀ (p u v : Nat), L[p]? = some u → v < n → E u v = true → (p < i ∨ (p = i ∧ v < t)) → v ∈ L
theorem Bfs.start {n : Nat} {E : Nat → Nat → Bool} {x : Nat} (hx : x < n) : Bfs n E x [x] [0] 0 0 := by
  refine ⟨rfl, rfl, fun k v h => ?_, fun j k v h1 h2 => ?_, fun k v p u h0 h => ?_, fun k p h => ?_, fun k v p p' u' h0 h => ?_, fun k k' p p' v v' h0 h1 h2 h3 => ?_, fun p u v h1 h2 h3 h4 => by omega⟩
  · match k, h with
    | 0, h => simp at h; omega
    | k + 1, h => simp at h
  · match j, k, h1, h2 with
    | 0, 0, _, _ => rfl
    | j + 1, _, h1, _ => simp at h1
    | _, k + 1, _, h2 => simp at h2
  · match k, h with
    | 0, _ => omega
    | k + 1, h => simp at h
  · match k, h with
    | 0, h => simp at h; omega
    | k + 1, h => simp at h
  · match k, h with
    | 0, _ => omega
    | k + 1, h => simp at h
  · match k', h3 with
    | 0, _ => omega
    | k' + 1, h3 => simp at h3
theorem Bfs.skip {n : Nat} {E : Nat → Nat → Bool} {x : Nat} {L q : List Nat} {i t u : Nat} (h : Bfs n E x L q i t) (hi : L[i]? = some u) (hs : E u t = true → t ∈ L) : Bfs n E x L q i (t + 1) := by
  refine ⟨h.len, h.head, h.lt, h.nodup, fun k v p u h0 h1 h2 h3 => ?_, h.within, h.early, h.order, fun p u' v h1 h2 h3 h4 => ?_⟩
  · obtain ⟨a, b, c⟩ := h.from_ k v p u h0 h1 h2 h3
    exact ⟨a, b, by omega⟩
  · rcases h4 with h4 | ⟨rfl, h4⟩
    · exact h.full p u' v h1 h2 h3 (.inl h4)
    · rcases Nat.lt_succ_iff_lt_or_eq.1 h4 with h4 | rfl
      · exact h.full p u' v h1 h2 h3 (.inr ⟨rfl, h4⟩)
      · rw [hi] at h1
        obtain rfl := Option.some.inj h1
        exact hs h3
theorem Bfs.done {n : Nat} {E : Nat → Nat → Bool} {x : Nat} {L q : List Nat} {i : Nat} (h : Bfs n E x L q i n) : Bfs n E x L q (i + 1) 0 := by
  refine ⟨h.len, h.head, h.lt, h.nodup, fun k v p u h0 h1 h2 h3 => ?_, h.within, h.early, h.order, fun p u' v h1 h2 h3 h4 => ?_⟩
  · obtain ⟨a, b, c⟩ := h.from_ k v p u h0 h1 h2 h3
    exact ⟨a, b, by omega⟩
  · exact h.full p u' v h1 h2 h3 (by omega)
theorem get_snoc {α : Type} {L : List α} {a v : α} {k : Nat} (h : (L ++ [a])[k]? = some v) : (k < L.length ∧ L[k]? = some v) ∨ (k = L.length ∧ v = a) := by
  rcases Nat.lt_or_ge k L.length with hlt | hge
  · rw [List.getElem?_append_left hlt] at h
    exact .inl ⟨hlt, h⟩
  · have hlt := (List.getElem?_eq_some_iff.1 h).1
    simp at hlt
    obtain rfl : k = L.length := by omega
    simp at h
    exact .inr ⟨rfl, h.symm⟩
theorem Bfs.found {n : Nat} {E : Nat → Nat → Bool} {x : Nat} {L q : List Nat} {i t u : Nat} (h : Bfs n E x L q i t) (hi : L[i]? = some u) (ht : t < n) (he : E u t = true) (hn : t ∉ L) : Bfs n E x (L ++ [t]) (q ++ [i]) i (t + 1) := by
  have hil := (List.getElem?_eq_some_iff.1 hi).1
  have hL0 : 0 < L.length := by omega
  have hold : ∀ {k v}, k < L.length → (L ++ [t])[k]? = some v → L[k]? = some v := fun hk h => by rwa [List.getElem?_append_left hk] at h
  refine ⟨by simp [h.len], by rw [List.getElem?_append_left hL0]; exact h.head, fun k v hv => ?_, fun j k v hj hk => ?_, fun k v p u' h0 hv hp hu => ?_, fun k p hp => ?_, fun k v p p' u' h0 hv hp hlt hu => ?_, fun k k' p p' v v' h0 hkk hp hp' hv hv' => ?_, fun p u' v hu hv hE hc => ?_⟩
  · rcases get_snoc hv with ⟨_, hv⟩ | ⟨_, rfl⟩
    · exact h.lt k v hv
    · exact ht
  · rcases get_snoc hj with ⟨_, hj1⟩ | ⟨rfl, rfl⟩
    · rcases get_snoc hk with ⟨_, hk1⟩ | ⟨rfl, rfl⟩
      · exact h.nodup j k v hj1 hk1
      · exact (hn (List.mem_of_getElem? hj1)).elim
    · rcases get_snoc hk with ⟨_, hk⟩ | ⟨rfl, _⟩
      · exact (hn (List.mem_of_getElem? hk)).elim
      · rfl
  · rcases get_snoc hv with ⟨hk, hv⟩ | ⟨rfl, rfl⟩
    · rcases get_snoc hp with ⟨_, hp⟩ | ⟨hk', _⟩
      · have hpk := (h.within k p hp).2 h0
        obtain ⟨a, b, c⟩ := h.from_ k v p u' h0 hv hp (hold (by omega) hu)
        exact ⟨a, b, by omega⟩
      · rw [h.len] at hk'; omega
    · rcases get_snoc hp with ⟨hk', _⟩ | ⟨_, rfl⟩
      · rw [h.len] at hk'; omega
      · have := hold hil hu
        rw [hi] at this
        obtain rfl := Option.some.inj this
        exact ⟨hil, he, .inr ⟨rfl, Nat.lt_succ_self _⟩⟩
  · rcases get_snoc hp with ⟨_, hp⟩ | ⟨rfl, rfl⟩
    · exact h.within k p hp
    · rw [h.len]; exact ⟨Nat.le_of_lt hil, fun _ => hil⟩
  · rcases get_snoc hv with ⟨hk, hv⟩ | ⟨rfl, rfl⟩
    · rcases get_snoc hp with ⟨_, hp⟩ | ⟨hk', _⟩
      · have hpk := (h.within k p hp).2 h0
        exact h.early k v p p' u' h0 hv hp hlt (hold (by omega) hu)
      · rw [h.len] at hk'; omega
    · rcases get_snoc hp with ⟨hk', _⟩ | ⟨_, rfl⟩
      · rw [h.len] at hk'; omega
      · cases hE : E u' v
        · rfl
        · exact (hn (h.full p' u' v (hold (by omega) hu) ht hE (.inl hlt))).elim
  · rcases get_snoc hp' with ⟨hk', hp'⟩ | ⟨rfl, rfl⟩
    · rw [h.len] at hk'
      rcases get_snoc hp with ⟨_, hp⟩ | ⟨hk, _⟩
      · exact h.order k k' p p' v v' h0 hkk hp hp' (hold (by omega) hv) (hold hk' hv')
      · rw [h.len] at hk; omega
    · rw [h.len] at hkk hv'
      simp at hv'
      subst hv'
      rcases get_snoc hp with ⟨_, hp⟩ | ⟨hk, _⟩
      · have hpk := (h.within k p hp).2 h0
        have hpl : p < L.length := by omega
        obtain ⟨_, _, c⟩ := h.from_ k v p _ h0 (hold hkk hv) hp (List.getElem?_eq_getElem hpl)
        exact c
      · rw [h.len] at hk; omega
  · rcases get_snoc hu with ⟨_, hu⟩ | ⟨rfl, rfl⟩
    · rcases hc with hc | ⟨rfl, hc⟩
      · exact List.mem_append_left _ (h.full p u' v hu hv hE (.inl hc))
      · rcases Nat.lt_succ_iff_lt_or_eq.1 hc with hc | rfl
        · exact List.mem_append_left _ (h.full p u' v hu hv hE (.inr ⟨rfl, hc⟩))
        · exact List.mem_append_right _ (List.mem_singleton.2 rfl)
    · omega
/-- at the end: what is reached is found -/
theorem Bfs.closed {n : Nat} {E : Nat → Nat → Bool} {x : Nat} {L q : List Nat} (h : Bfs n E x L q L.length 0) {u v : Nat} (hu : u ∈ L) (hv : v < n) (he : E u v = true) : v ∈ L := by
  obtain ⟨p, hp⟩ := List.mem_iff_getElem?.1 hu
  exact h.full p u v hp hv he (.inl (List.getElem?_eq_some_iff.1 hp).1)
theorem Bfs.reach {n : Nat} {E : Nat → Nat → Bool} {x : Nat} {L q : List Nat} (h : Bfs n E x L q L.length 0) {y : Nat} : ∀ d v, v ∈ L → v < n → distTo n E y v = some d → y ∈ L := by
  intro d
  induction d with
  | zero =>
    intro v hv _ hd
    rw [← distTo_zero hd]; exact hv
  | succ d ih =>
    intro v hv hvn hd
    obtain ⟨u, hu, he, hd'⟩ := distTo_next hd
    exact ih u (h.closed hv hu he) hu hd'
/-- every point that was found is reached -/
theorem Bfs.inK' {n : Nat} {E : Nat → Nat → Bool} {x : Nat} {L q : List Nat} (h : Bfs n E x L q L.length 0) {y : Nat} : ∀ (k v j : Nat), L[k]? = some v → inK n E y j v → ∃ j', inK n E y j' x := by
  intro k
  induction k using Nat.strongRecOn with
  | ind k ih =>
    intro v j hv hj
    by_cases h0 : k = 0
    · subst h0
      rw [h.head] at hv
      obtain rfl := Option.some.inj hv
      exact ⟨j, hj⟩
    · have hkl := (List.getElem?_eq_some_iff.1 hv).1
      obtain ⟨p, hp⟩ : ∃ p, q[k]? = some p := ⟨_, List.getElem?_eq_getElem (by rw [h.len]; exact hkl)⟩
      have hpk := (h.within k p hp).2 (by omega)
      obtain ⟨u, hu⟩ : ∃ u, L[p]? = some u := ⟨_, List.getElem?_eq_getElem (by omega)⟩
      obtain ⟨_, he, _⟩ := h.from_ k v p u (by omega) hv hp hu
      exact ih p hpk u (j + 1) hu ⟨v, h.lt k v hv, he, hj⟩
theorem Bfs.way {n : Nat} {E : Nat → Nat → Bool} {x y : Nat} {L q : List Nat} (h : Bfs n E x L q L.length 0) (hx : x < n) : wayTo n E x y = none ↔ y ∉ L := by
  unfold wayTo
  cases hd : distTo n E y x with
  | none =>
    refine ⟨fun _ hy => ?_, fun _ => rfl⟩
    obtain ⟨k, hk⟩ := List.mem_iff_getElem?.1 hy
    obtain ⟨j, hj⟩ := h.inK' k y 0 hk rfl
    exact distTo_none.1 hd j hj
  | some d =>
    refine ⟨fun e => by simp at e, fun hy => (hy ?_).elim⟩
    exact h.reach d x (List.mem_of_getElem? h.head) hx hd
/-- the places of the way's points among those that were found: each was found from the one before it -/
theorem Bfs.chain {n : Nat} {E : Nat → Nat → Bool} {x y D : Nat} {L q : List Nat} (h : Bfs n E x L q L.length 0) (hx : x < n) (hD : distTo n E y x = some D) :
    ∀ (m r v : Nat), m ≤ D → (wayL n E y D x)[m]? = some v → L[r]? = some v →
      (∀ (p l u : Nat), p < r → L[p]? = some u → distTo n E y u = some l → D - m < l) ∧ (∀ (m' r' v' : Nat), m = m' + 1 → (wayL n E y D x)[m']? = some v' → L[r']? = some v' → q[r]? = some r') := by
  have hdist : ∀ {p r : Nat} {u v l : Nat}, L[p]? = some u → L[r]? = some v → E u v = true → distTo n E y v = some l → ∃ l', distTo n E y u = some l' ∧ l' ≤ l + 1 := fun hp hr he hl => distTo_edge (h.lt _ _ hr) he hl
  intro m
  induction m with
  | zero =>
    intro r v hm hv hr
    rw [wayL_head] at hv
    obtain rfl := Option.some.inj hv
    obtain rfl := h.nodup 0 r x h.head hr
    exact ⟨fun p l u hp => by omega, fun m' r' v' e => by omega⟩
  | succ m ih =>
    intro r v hm hv hr
    have hlen := wayL_len n E y D x
    obtain ⟨u, hu⟩ : ∃ u, (wayL n E y D x)[m]? = some u := ⟨_, List.getElem?_eq_getElem (by omega)⟩
    obtain ⟨hun, _, hud, hnx⟩ := wayL_spec D x hx hD m u hu
    obtain ⟨huv, hmin⟩ := hnx v hv
    obtain ⟨hvn, _, hvd, _⟩ := wayL_spec D x hx hD (m + 1) v hv
    have huL : u ∈ L := by
      have : ∀ (j w : Nat), j ≤ m → (wayL n E y D x)[j]? = some w → w ∈ L := by
        intro j
        induction j with
        | zero =>
          intro w _ hw
          rw [wayL_head] at hw
          obtain rfl := Option.some.inj hw
          exact List.mem_of_getElem? h.head
        | succ j ihj =>
          intro w hj hw
          obtain ⟨w', hw'⟩ : ∃ w', (wayL n E y D x)[j]? = some w' := ⟨_, List.getElem?_eq_getElem (by omega)⟩
          obtain ⟨_, _, _, hn2⟩ := wayL_spec D x hx hD j w' hw'
          obtain ⟨hwn, _, _, _⟩ := wayL_spec D x hx hD (j + 1) w hw
          exact h.closed (ihj w' (by omega) hw') hwn (hn2 w hw).1
      exact this m u (Nat.le_refl _) hu
    obtain ⟨ru, hru⟩ := List.mem_iff_getElem?.1 huL
    obtain ⟨hS, _⟩ := ih ru u (by omega) hu hru
    have hrl := (List.getElem?_eq_some_iff.1 hr).1
    have hr0 : 0 < r := by
      rcases Nat.eq_zero_or_pos r with h0 | h0
      · subst h0
        rw [h.head] at hr
        obtain rfl := Option.some.inj hr
        rw [hD] at hvd
        injection hvd with hvd
        omega
      · exact h0
    obtain ⟨p, hp⟩ : ∃ p, q[r]? = some p := ⟨_, List.getElem?_eq_getElem (by rw [h.len]; exact hrl)⟩
    have hpr := (h.within r p hp).2 hr0
    obtain ⟨w, hw⟩ : ∃ w, L[p]? = some w := ⟨_, List.getElem?_eq_getElem (by omega)⟩
    obtain ⟨_, hwv, _⟩ := h.from_ r v p w hr0 hr hp hw
    have hpru : p = ru := by
      rcases Nat.lt_trichotomy p ru with h1 | h1 | h1
      · obtain ⟨l', hl', hle⟩ := hdist hw hr hwv hvd
        have := hS p l' w h1 hw hl'
        omega
      · exact h1
      · have := h.early r v p ru u hr0 hr hp h1 hru
        rw [huv] at this; cases this
    subst hpru
    refine ⟨fun p' l w' hp' hw' hl => ?_, fun m' r' v' e hv' hr' => ?_⟩
    · rcases Nat.lt_or_ge (D - (m + 1)) l with h1 | h1
      · exact h1
      · exfalso
        rcases Nat.eq_zero_or_pos p' with h0 | h0
        · subst h0
          rw [h.head] at hw'
          obtain rfl := Option.some.inj hw'
          rw [hD] at hl
          injection hl with hl
          omega
        · have hp'l : p' < L.length := by omega
          obtain ⟨s, hs⟩ : ∃ s, q[p']? = some s := ⟨_, List.getElem?_eq_getElem (by rw [h.len]; exact hp'l)⟩
          have hsp := (h.within p' s hs).2 h0
          obtain ⟨z, hz⟩ : ∃ z, L[s]? = some z := ⟨_, List.getElem?_eq_getElem (by omega)⟩
          obtain ⟨_, hzw, _⟩ := h.from_ p' w' s z h0 hw' hs hz
          obtain ⟨lz, hlz, hle⟩ := hdist hz hw' hzw hl
          rcases h.order p' r s p w' v h0 hp' hs hp hw' hr with h2 | ⟨rfl, h2⟩
          · have := hS s lz z h2 hz hlz
            omega
          · rw [hru] at hz
            obtain rfl := Option.some.inj hz
            rw [hud] at hlz
            injection hlz with hlz
            exact hmin w' h2 hzw (by rw [hl]; congr 1; omega)
    · obtain rfl : m' = m := by omega
      rw [hu] at hv'
      obtain rfl := Option.some.inj hv'
      rw [h.nodup r' p u hr' hru]
      exact hp
end Go.Proofs.YtdcndhiidjgmaaaGreatDoor
/- Plain facts: a list of different numbers below n is no longer than n; the way by a search. -/

namespace Go.Proofs.YtdcndhiidjgmaaaGreatDoor
theorem nodup_len : ∀ (n : Nat) (L : List Nat), L.Nodup → (∀ v ∈ L, v < n) → L.length ≤ n := by
  intro n
  induction n with
  | zero =>
    intro L _ h
    cases L with
    | nil => simp
    | cons a L => have := h a (List.mem_cons_self ..); omega
  | succ n ih =>
    intro L hd h
    by_cases hm : n ∈ L
    · have h1 := ih (L.erase n) (hd.erase n) (fun v hv => by
        have h2 := (hd.mem_erase_iff).1 hv
        have := h v h2.2
        omega)
      rw [List.length_erase_of_mem hm] at h1
      omega
    · have := ih L hd (fun v hv => by
        have := h v hv
        have : v ≠ n := fun e => hm (e ▸ hv)
        omega)
      omega
theorem nodup_of_get {L : List Nat} (h : ∀ (j k v : Nat), L[j]? = some v → L[k]? = some v → j = k) : L.Nodup := by
  rw [List.nodup_iff_pairwise_ne, List.pairwise_iff_getElem]
  intro i j hi hj hij e
  have := h i j L[i] (List.getElem?_eq_getElem hi) (by rw [List.getElem?_eq_getElem hj, e])
  omega
theorem Bfs.size {n : Nat} {E : Nat → Nat → Bool} {x : Nat} {L q : List Nat} {i t : Nat} (h : Bfs n E x L q i t) : L.length ≤ n :=
  nodup_len n L (nodup_of_get h.nodup) (fun v hv => by
    obtain ⟨k, hk⟩ := List.mem_iff_getElem?.1 hv
    exact h.lt k v hk)
theorem Bfs.room {n : Nat} {E : Nat → Nat → Bool} {x : Nat} {L q : List Nat} {i t v : Nat} (h : Bfs n E x L q i t) (hv : v < n) (hn : v ∉ L) : L.length < n := by
  have := nodup_len n (L ++ [v]) (by
    rw [List.nodup_append]
    exact ⟨nodup_of_get h.nodup, by simp, fun a ha b hb e => by
      simp at hb
      subst hb
      exact hn (e ▸ ha)⟩) (fun u hu => by
    rcases List.mem_append.1 hu with hu | hu
    · obtain ⟨k, hk⟩ := List.mem_iff_getElem?.1 hu
      exact h.lt k u hk
    · simp at hu; omega)
  simp at this
  omega
/-- the row of parents -/
structure Par (n : Nat) (L q : List Nat) (f : Nat → Int) : Prop where
  at_ : ∀ (k v p u : Nat), L[k]? = some v → q[k]? = some p → L[p]? = some u → f v = (u : Int)
  no : ∀ v, v < n → v ∉ L → f v = -1
theorem Par.start {n x : Nat} : Par n [x] [0] fun j => if j = x then (x : Int) else -1 := by
  refine ⟨fun k v p u hk hp hu => ?_, fun v _ hv => ?_⟩
  · match k, hk, hp with
    | 0, hk, hp =>
      simp at hk hp
      subst hk hp
      simp at hu
      subst hu
      simp
    | k + 1, hk, _ => simp at hk
  · simp at hv
    rw [if_neg hv]
theorem Par.found {n : Nat} {E : Nat → Nat → Bool} {x : Nat} {L q : List Nat} {i t u s : Nat} {f : Nat → Int} (h : Par n L q f) (hb : Bfs n E x L q i s) (hi : L[i]? = some u) (hn : t ∉ L) : Par n (L ++ [t]) (q ++ [i]) fun j => if j = t then (u : Int) else f j := by
  have hil := (List.getElem?_eq_some_iff.1 hi).1
  refine ⟨fun k v p w hk hp hw => ?_, fun v hv hv' => ?_⟩
  · rcases get_snoc hk with ⟨hkl, hk1⟩ | ⟨rfl, rfl⟩
    · rcases get_snoc hp with ⟨_, hp1⟩ | ⟨hk', _⟩
      · have hpk := (hb.within k p hp1).1
        have hpl : p < L.length := by omega
        rw [List.getElem?_append_left hpl] at hw
        have hne : v ≠ t := fun e => hn (e ▸ List.mem_of_getElem? hk1)
        rw [if_neg hne]
        exact h.at_ k v p w hk1 hp1 hw
      · rw [hb.len] at hk'; omega
    · rcases get_snoc hp with ⟨hk', _⟩ | ⟨_, rfl⟩
      · rw [hb.len] at hk'; omega
      · rw [List.getElem?_append_left hil, hi] at hw
        obtain rfl := Option.some.inj hw
        rw [if_pos rfl]
  · simp only [List.mem_append, List.mem_singleton, not_or] at hv'
    rw [if_neg hv'.2]
    exact h.no v hv hv'.1
/-- behind the search: who stands before whom on the way -/
theorem Par.back {n : Nat} {E : Nat → Nat → Bool} {x y D m u v : Nat} {L q : List Nat} {f : Nat → Int} (h : Par n L q f) (hb : Bfs n E x L q L.length 0) (hx : x < n) (hD : distTo n E y x = some D) (hm : m < D)
    (hu : (wayL n E y D x)[m]? = some u) (hv : (wayL n E y D x)[m + 1]? = some v) : f v = (u : Int) := by
  have hin : ∀ (j w : Nat), j ≤ D → (wayL n E y D x)[j]? = some w → w ∈ L := by
    intro j
    induction j with
    | zero =>
      intro w _ hw
      rw [wayL_head] at hw
      obtain rfl := Option.some.inj hw
      exact List.mem_of_getElem? hb.head
    | succ j ih =>
      intro w hj hw
      obtain ⟨w', hw'⟩ : ∃ w', (wayL n E y D x)[j]? = some w' := ⟨_, List.getElem?_eq_getElem (by rw [wayL_len]; omega)⟩
      obtain ⟨_, _, _, hn2⟩ := wayL_spec D x hx hD j w' hw'
      obtain ⟨hwn, _, _, _⟩ := wayL_spec D x hx hD (j + 1) w hw
      exact hb.closed (ih w' (by omega) hw') hwn (hn2 w hw).1
  obtain ⟨ru, hru⟩ := List.mem_iff_getElem?.1 (hin m u (by omega) hu)
  obtain ⟨rv, hrv⟩ := List.mem_iff_getElem?.1 (hin (m + 1) v (by omega) hv)
  have hq := (hb.chain hx hD (m + 1) rv v (by omega) hv hrv).2 m ru u rfl hu hru
  exact h.at_ rv v ru u hrv hq hru
/-- on the way no point but the first is the start -/
theorem wayL_start {n : Nat} {E : Nat → Nat → Bool} {x y D m : Nat} (hx : x < n) (hD : distTo n E y x = some D) (h : (wayL n E y D x)[m]? = some x) : m = 0 := by
  obtain ⟨_, h1, h2, _⟩ := wayL_spec D x hx hD m x h
  rw [hD] at h2
  injection h2 with h2
  omega
theorem wayL_short {n : Nat} {E : Nat → Nat → Bool} {x y D : Nat} (hx : x < n) (hD : distTo n E y x = some D) : D < n := by
  have := nodup_len n (wayL n E y D x) (nodup_of_get fun j k v hj hk => by
    obtain ⟨_, h1, h2, _⟩ := wayL_spec D x hx hD j v hj
    obtain ⟨_, h3, h4, _⟩ := wayL_spec D x hx hD k v hk
    rw [h2] at h4
    injection h4 with h4
    omega) (fun v hv => by
    obtain ⟨k, hk⟩ := List.mem_iff_getElem?.1 hv
    exact (wayL_spec D x hx hD k v hk).1)
  rw [wayL_len] at this
  omega
theorem drop_last {W : List Nat} {D y : Nat} (hl : W.length = D + 1) (h : W[D]? = some y) : W.drop D = [y] := by
  obtain ⟨hlt, he⟩ := List.getElem?_eq_some_iff.1 h
  rw [List.drop_eq_getElem_cons hlt, he, List.drop_eq_nil_of_le (by omega)]
theorem drop_more {W : List Nat} {m z : Nat} (h : W[m]? = some z) : W.drop m = z :: W.drop (m + 1) := by
  obtain ⟨hlt, he⟩ := List.getElem?_eq_some_iff.1 h
  rw [List.drop_eq_getElem_cons hlt, he]
end Go.Proofs.YtdcndhiidjgmaaaGreatDoor
/- Plain: parts by breadth first search, on numbers: nb u d is the neighbor of u in direction d. -/


namespace Go.Proofs.YtdcndhiidjgmaaaGreatDoor
open Go.RowKit
/-- one look: from the k-th of the part in direction d; names: 0 is not yet taken -/
def vis1 (nb : Nat → Nat → Option Nat) (c k d : Nat) (st : List Nat × List Nat) : List Nat × List Nat :=
  match st.1[k]? with
  | none => st
  | some u => match nb u d with
    | none => st
    | some v => if st.2[v]? = some 0 then (st.1 ++ [v], st.2.set v c) else st
def vis4 (nb : Nat → Nat → Option Nat) (c k : Nat) (st : List Nat × List Nat) : Nat → List Nat × List Nat
  | 0 => st
  | d + 1 => vis1 nb c k d (vis4 nb c k st d)
def visS (nb : Nat → Nat → Option Nat) (c : Nat) (st : List Nat × List Nat) : Nat → List Nat × List Nat
  | 0 => st
  | k + 1 => vis4 nb c k (visS nb c st k) 4
/-- the parts of 0 .. n - 1 behind the first i numbers -/
def allP (nb : Nat → Nat → Option Nat) (n : Nat) : Nat → List Nat × List (List Nat)
  | 0 => (List.replicate n 0, [])
  | i + 1 => if (allP nb n i).1[i]? = some 0 then
      ((visS nb ((allP nb n i).2.length + 1) ([i], (allP nb n i).1.set i ((allP nb n i).2.length + 1)) n).2, (allP nb n i).2 ++ [(visS nb ((allP nb n i).2.length + 1) ([i], (allP nb n i).1.set i ((allP nb n i).2.length + 1)) n).1])
    else allP nb n i
/-- what holds while a part is searched: N0 are the names before it, c its name -/
structure VisInv (n c : Nat) (N0 : List Nat) (st : List Nat × List Nat) : Prop where
  pos : c ≠ 0
  len : st.2.length = n
  nd : st.1.Nodup
  lt : ∀ v ∈ st.1, v < n
  was : ∀ v ∈ st.1, N0[v]? = some 0
  is : ∀ v ∈ st.1, st.2[v]? = some c
  other : ∀ v, v ∉ st.1 → st.2[v]? = N0[v]?
section
variable {nb : Nat → Nat → Option Nat} {n c : Nat} {N0 : List Nat} {st : List Nat × List Nat}
theorem VisInv.length (h : VisInv n c N0 st) : st.1.length ≤ n := nodup_len n st.1 h.nd h.lt
theorem VisInv.one (h : VisInv n c N0 st) (k d : Nat) : VisInv n c N0 (vis1 nb c k d st) := by
  unfold vis1
  split
  · exact h
  · split
    · exact h
    · split
      · rename_i v _ hv
        have hvl : v < n := by rw [← h.len]; exact (List.getElem?_eq_some_iff.1 hv).1
        have hm : v ∉ st.1 := fun hm => by
          have hc0 := h.is v hm
          rw [hv] at hc0
          injection hc0 with hc0
          exact h.pos hc0.symm
        refine ⟨h.pos, by rw [List.length_set]; exact h.len, ?_, ?_, ?_, ?_, ?_⟩
        · rw [List.nodup_append]
          refine ⟨h.nd, by simp, ?_⟩
          intro a ha b hb
          simp at hb
          subst hb
          exact fun e => hm (e ▸ ha)
        · intro u hu
          rcases List.mem_append.1 hu with hu | hu
          · exact h.lt u hu
          · simp at hu; subst hu; exact hvl
        · intro u hu
          rcases List.mem_append.1 hu with hu | hu
          · exact h.was u hu
          · simp at hu; subst hu; rw [← h.other u hm]; exact hv
        · intro u hu
          rcases List.mem_append.1 hu with hu | hu
          · have hne : v ≠ u := fun e => hm (e ▸ hu)
            rw [List.getElem?_set_ne hne]; exact h.is u hu
          · simp at hu; subst hu; rw [List.getElem?_set_self (by rw [h.len]; exact hvl)]
        · intro u hu
          have h1 : u ∉ st.1 := fun hh => hu (List.mem_append.2 (Or.inl hh))
          have h2 : v ≠ u := fun e => hu (List.mem_append.2 (Or.inr (by simp [e])))
          rw [List.getElem?_set_ne h2]; exact h.other u h1
      · exact h
theorem VisInv.four (h : VisInv n c N0 st) (k : Nat) : ∀ d, VisInv n c N0 (vis4 nb c k st d)
  | 0 => h
  | d + 1 => (VisInv.four h k d).one k d
theorem VisInv.all (h : VisInv n c N0 st) : ∀ k, VisInv n c N0 (visS nb c st k)
  | 0 => h
  | k + 1 => (VisInv.all h k).four k 4
theorem vis1_far {k d : Nat} (h : st.1.length ≤ k) : vis1 nb c k d st = st := by
  unfold vis1
  rw [List.getElem?_eq_none h]
theorem vis4_far {k : Nat} (h : st.1.length ≤ k) : ∀ d, vis4 nb c k st d = st
  | 0 => rfl
  | d + 1 => by
    simp only [vis4]
    rw [vis4_far h d]
    exact vis1_far h
/-- behind the part's end nothing turns any more -/
theorem visS_stop {k : Nat} (h : (visS nb c st k).1.length ≤ k) : ∀ j, visS nb c st (k + j) = visS nb c st k
  | 0 => rfl
  | j + 1 => by
    show vis4 nb c (k + j) (visS nb c st (k + j)) 4 = _
    rw [visS_stop h j]
    exact vis4_far (by omega) 4
theorem visS_end (h : VisInv n c N0 st) {k : Nat} (hk : (visS nb c st k).1.length ≤ k) : visS nb c st k = visS nb c st n := by
  rcases Nat.le_total k n with h1 | h1
  · obtain ⟨j, rfl⟩ : ∃ j, n = k + j := ⟨n - k, by omega⟩
    exact (visS_stop hk j).symm
  · obtain ⟨j, rfl⟩ : ∃ j, k = n + j := ⟨k - n, by omega⟩
    exact visS_stop (VisInv.length (h.all n)) j
theorem vis1_grow (k d : Nat) : ∃ l, (vis1 nb c k d st).1 = st.1 ++ l := by
  unfold vis1
  split
  · exact ⟨[], by simp⟩
  · split
    · exact ⟨[], by simp⟩
    · split
      · exact ⟨_, rfl⟩
      · exact ⟨[], by simp⟩
theorem vis4_grow (k : Nat) : ∀ d, ∃ l, (vis4 nb c k st d).1 = st.1 ++ l
  | 0 => ⟨[], by simp [vis4]⟩
  | d + 1 => by
    obtain ⟨l, hl⟩ := vis4_grow k d
    obtain ⟨m, hm⟩ := vis1_grow (nb := nb) (c := c) (st := vis4 nb c k st d) k d
    exact ⟨l ++ m, by simp only [vis4]; rw [hm, hl, List.append_assoc]⟩
/-- the k-th of the part stays where it is while it is looked around -/
theorem vis4_at {k u : Nat} (h : st.1[k]? = some u) (d : Nat) : (vis4 nb c k st d).1[k]? = some u := by
  obtain ⟨l, hl⟩ := vis4_grow (nb := nb) (c := c) (st := st) k d
  rw [hl, List.getElem?_append_left (List.getElem?_eq_some_iff.1 h).1]
  exact h
/-- where a part begins -/
theorem VisInv.start {i : Nat} (hc : c ≠ 0) (hl : N0.length = n) (hi : N0[i]? = some 0) : VisInv n c N0 ([i], N0.set i c) := by
  have hil : i < n := by rw [← hl]; exact (List.getElem?_eq_some_iff.1 hi).1
  refine ⟨hc, by rw [List.length_set]; exact hl, by simp, ?_, ?_, ?_, ?_⟩
  · intro v hv; simp at hv; subst hv; exact hil
  · intro v hv; simp at hv; subst hv; exact hi
  · intro v hv; simp at hv; subst hv; rw [List.getElem?_set_self (by rw [hl]; exact hil)]
  · intro v hv
    have hne : i ≠ v := fun e => hv (by simp [e])
    rw [List.getElem?_set_ne hne]
end
/-- the names behind the first i numbers are as long as they were -/
theorem allP_len (nb : Nat → Nat → Option Nat) (n : Nat) : ∀ i, (allP nb n i).1.length = n
  | 0 => List.length_replicate ..
  | i + 1 => by
    have ih := allP_len nb n i
    simp only [allP]
    split
    · rename_i h0
      exact ((VisInv.start (Nat.succ_ne_zero _) ih h0).all n).len
    · exact ih
theorem allP_count (nb : Nat → Nat → Option Nat) (n : Nat) : ∀ i, (allP nb n i).2.length ≤ i
  | 0 => Nat.le_refl _
  | i + 1 => by
    have ih := allP_count nb n i
    simp only [allP]
    split
    · rw [List.length_append]; simp; omega
    · omega
end Go.Proofs.YtdcndhiidjgmaaaGreatDoor
/- Plain: steps and parents by breadth first search from a root; a connected graph is reached from every root. -/

namespace Go.Proofs.YtdcndhiidjgmaaaGreatDoor
open Go.RowKit
def backI (d : Nat) : Int := ((d + 2) % 4 : Nat)
/-- one look: from the k-th of the queue in direction d; queue, parents, steps (-1: not reached) -/
def way1 (nb : Nat → Nat → Option Nat) (k d : Nat) (st : List Nat × List Int × List Int) : List Nat × List Int × List Int :=
  match st.1[k]? with
  | none => st
  | some u => match nb u d with
    | none => st
    | some v => if st.2.2[v]? = some (-1) then (st.1 ++ [v], st.2.1.set v (backI d), st.2.2.set v (st.2.2[u]?.getD 0 + 1)) else st
def way4 (nb : Nat → Nat → Option Nat) (k : Nat) (st : List Nat × List Int × List Int) : Nat → List Nat × List Int × List Int
  | 0 => st
  | d + 1 => way1 nb k d (way4 nb k st d)
def wayS (nb : Nat → Nat → Option Nat) (st : List Nat × List Int × List Int) : Nat → List Nat × List Int × List Int
  | 0 => st
  | k + 1 => way4 nb k (wayS nb st k) 4
def way0 (n r : Nat) : List Nat × List Int × List Int := ([r], List.replicate n (-1), (List.replicate n (-1)).set r 0)
/-- parents and steps from root r -/
def ways (nb : Nat → Nat → Option Nat) (n r : Nat) : List Int × List Int := (wayS nb (way0 n r) n).2
structure WayInv (n r : Nat) (st : List Nat × List Int × List Int) : Prop where
  lp : st.2.1.length = n
  ls : st.2.2.length = n
  nd : st.1.Nodup
  lt : ∀ v ∈ st.1, v < n
  is : ∀ v ∈ st.1, ∃ s : Int, st.2.2[v]? = some s ∧ 0 ≤ s ∧ s < (st.1.length : Int)
  par : ∀ v ∈ st.1, ∃ p : Int, st.2.1[v]? = some p ∧ -1 ≤ p ∧ p ≤ 3
  other : ∀ v, v < n → v ∉ st.1 → st.2.2[v]? = some (-1) ∧ st.2.1[v]? = some (-1)
  root : st.1[0]? = some r
section
variable {nb : Nat → Nat → Option Nat} {n r : Nat} {st : List Nat × List Int × List Int}
theorem WayInv.length (h : WayInv n r st) : st.1.length ≤ n := nodup_len n st.1 h.nd h.lt
theorem backI_rng (d : Nat) : 0 ≤ backI d ∧ backI d ≤ 3 := by unfold backI; omega
theorem WayInv.start (hr : r < n) : WayInv n r (way0 n r) := by
  unfold way0
  refine ⟨List.length_replicate .., by rw [List.length_set, List.length_replicate], by simp, ?_, ?_, ?_, ?_, rfl⟩
  · intro v hv; simp at hv; subst hv; exact hr
  · intro v hv
    simp at hv
    subst hv
    exact ⟨0, by rw [List.getElem?_set_self (by rw [List.length_replicate]; exact hr)], by omega, by simp⟩
  · intro v hv
    simp at hv
    subst hv
    exact ⟨-1, by rw [List.getElem?_replicate, if_pos hr], by omega, by omega⟩
  · intro v hvn hv
    have hne : r ≠ v := fun e => hv (by simp [e])
    show ((List.replicate n (-1 : Int)).set r 0)[v]? = _ ∧ (List.replicate n (-1 : Int))[v]? = _
    rw [List.getElem?_set_ne hne, List.getElem?_replicate, if_pos hvn]
    exact ⟨rfl, rfl⟩
theorem WayInv.one (h : WayInv n r st) (k d : Nat) : WayInv n r (way1 nb k d st) := by
  unfold way1
  split
  · exact h
  · rename_i u hu
    split
    · exact h
    · split
      · rename_i v _ hv
        have hvl : v < n := by rw [← h.ls]; exact (List.getElem?_eq_some_iff.1 hv).1
        have hm : v ∉ st.1 := fun hm => by
          obtain ⟨s, hs, h0, _⟩ := h.is v hm
          rw [hv] at hs
          injection hs with hs
          omega
        have hum : u ∈ st.1 := List.mem_of_getElem? hu
        obtain ⟨su, hsu, su0, su1⟩ := h.is u hum
        rw [hsu, Option.getD_some]
        refine ⟨by rw [List.length_set]; exact h.lp, by rw [List.length_set]; exact h.ls, ?_, ?_, ?_, ?_, ?_, ?_⟩
        · rw [List.nodup_append]
          refine ⟨h.nd, by simp, ?_⟩
          intro a ha b hb
          simp at hb
          subst hb
          exact fun e => hm (e ▸ ha)
        · intro x hx
          rcases List.mem_append.1 hx with hx | hx
          · exact h.lt x hx
          · simp at hx; subst hx; exact hvl
        · intro x hx
          rw [List.length_append]
          rcases List.mem_append.1 hx with hx | hx
          · have hne : v ≠ x := fun e => hm (e ▸ hx)
            obtain ⟨s, hs, h0, h1⟩ := h.is x hx
            exact ⟨s, by show (st.2.2.set v _)[x]? = _; rw [List.getElem?_set_ne hne]; exact hs, h0, by simp; omega⟩
          · simp at hx
            subst hx
            exact ⟨su + 1, by show (st.2.2.set x _)[x]? = _; rw [List.getElem?_set_self (by rw [h.ls]; exact hvl)], by omega, by simp; omega⟩
        · intro x hx
          rcases List.mem_append.1 hx with hx | hx
          · have hne : v ≠ x := fun e => hm (e ▸ hx)
            obtain ⟨p, hp, h0, h1⟩ := h.par x hx
            exact ⟨p, by show (st.2.1.set v _)[x]? = _; rw [List.getElem?_set_ne hne]; exact hp, h0, h1⟩
          · simp at hx
            subst hx
            have := backI_rng d
            exact ⟨backI d, by show (st.2.1.set x _)[x]? = _; rw [List.getElem?_set_self (by rw [h.lp]; exact hvl)], by omega, by omega⟩
        · intro x hxn hx
          have h1 : x ∉ st.1 := fun hh => hx (List.mem_append.2 (Or.inl hh))
          have h2 : v ≠ x := fun e => hx (List.mem_append.2 (Or.inr (by simp [e])))
          show (st.2.2.set v _)[x]? = _ ∧ (st.2.1.set v _)[x]? = _
          rw [List.getElem?_set_ne h2, List.getElem?_set_ne h2]
          exact h.other x hxn h1
        · show (st.1 ++ [v])[0]? = some r
          rw [List.getElem?_append_left (List.getElem?_eq_some_iff.1 h.root).1]
          exact h.root
      · exact h
theorem WayInv.four (h : WayInv n r st) (k : Nat) : ∀ d, WayInv n r (way4 nb k st d)
  | 0 => h
  | d + 1 => (WayInv.four h k d).one k d
theorem WayInv.all (h : WayInv n r st) : ∀ k, WayInv n r (wayS nb st k)
  | 0 => h
  | k + 1 => (WayInv.all h k).four k 4
theorem way1_far {k d : Nat} (h : st.1.length ≤ k) : way1 nb k d st = st := by
  unfold way1
  rw [List.getElem?_eq_none h]
theorem way4_far {k : Nat} (h : st.1.length ≤ k) : ∀ d, way4 nb k st d = st
  | 0 => rfl
  | d + 1 => by
    simp only [way4]
    rw [way4_far h d]
    exact way1_far h
theorem wayS_stop {k : Nat} (h : (wayS nb st k).1.length ≤ k) : ∀ j, wayS nb st (k + j) = wayS nb st k
  | 0 => rfl
  | j + 1 => by
    show way4 nb (k + j) (wayS nb st (k + j)) 4 = _
    rw [wayS_stop h j]
    exact way4_far (by omega) 4
theorem wayS_end (h : WayInv n r st) {k : Nat} (hk : (wayS nb st k).1.length ≤ k) : wayS nb st k = wayS nb st n := by
  rcases Nat.le_total k n with h1 | h1
  · obtain ⟨j, rfl⟩ : ∃ j, n = k + j := ⟨n - k, by omega⟩
    exact (wayS_stop hk j).symm
  · obtain ⟨j, rfl⟩ : ∃ j, k = n + j := ⟨k - n, by omega⟩
    exact wayS_stop (WayInv.length (h.all n)) j
theorem way1_grow (k d : Nat) : ∃ l, (way1 nb k d st).1 = st.1 ++ l := by
  unfold way1
  split
  · exact ⟨[], by simp⟩
  · split
    · exact ⟨[], by simp⟩
    · split
      · exact ⟨_, rfl⟩
      · exact ⟨[], by simp⟩
theorem way4_grow (k : Nat) : ∀ d, ∃ l, (way4 nb k st d).1 = st.1 ++ l
  | 0 => ⟨[], by simp [way4]⟩
  | d + 1 => by
    obtain ⟨l, hl⟩ := way4_grow k d
    obtain ⟨m, hm⟩ := way1_grow (nb := nb) (st := way4 nb k st d) k d
    exact ⟨l ++ m, by simp only [way4]; rw [hm, hl, List.append_assoc]⟩
theorem wayS_grow : ∀ k j, ∃ l, (wayS nb st (k + j)).1 = (wayS nb st k).1 ++ l
  | k, 0 => ⟨[], by simp⟩
  | k, j + 1 => by
    obtain ⟨l, hl⟩ := wayS_grow k j
    obtain ⟨m, hm⟩ := way4_grow (nb := nb) (st := wayS nb st (k + j)) (k + j) 4
    exact ⟨l ++ m, by show (way4 nb (k + j) (wayS nb st (k + j)) 4).1 = _; rw [hm, hl, List.append_assoc]⟩
theorem way4_at {k u : Nat} (h : st.1[k]? = some u) (d : Nat) : (way4 nb k st d).1[k]? = some u := by
  obtain ⟨l, hl⟩ := way4_grow (nb := nb) (st := st) k d
  rw [hl, List.getElem?_append_left (List.getElem?_eq_some_iff.1 h).1]
  exact h
/-- who has been looked at has its neighbors in the queue -/
theorem way1_hit {k d u v : Nat} (h : WayInv n r st) (hu : st.1[k]? = some u) (hv : nb u d = some v) (hvn : v < n) : v ∈ (way1 nb k d st).1 := by
  unfold way1
  rw [hu]
  simp only [hv]
  split
  · exact List.mem_append.2 (Or.inr (by simp))
  · rename_i hne
    rcases Classical.em (v ∈ st.1) with hm | hm
    · exact hm
    · exact absurd (h.other v hvn hm).1 hne
theorem way4_mem {k d v : Nat} (h : v ∈ st.1) : v ∈ (way4 nb k st d).1 := by
  obtain ⟨l, hl⟩ := way4_grow (nb := nb) (st := st) k d
  rw [hl]; exact List.mem_append.2 (Or.inl h)
theorem way4_hit {k u v : Nat} (h : WayInv n r st) (hu : st.1[k]? = some u) : ∀ (e d : Nat), d < e → nb u d = some v → v < n → v ∈ (way4 nb k st e).1
  | 0, d, hd, _, _ => absurd hd (Nat.not_lt_zero _)
  | e + 1, d, hd, hv, hvn => by
    simp only [way4]
    by_cases hde : d = e
    · subst hde
      exact way1_hit (h.four k d) (way4_at hu d) hv hvn
    · obtain ⟨l, hl⟩ := way1_grow (nb := nb) (st := way4 nb k st e) k e
      rw [hl]
      exact List.mem_append.2 (Or.inl (way4_hit h hu e d (by omega) hv hvn))
/-- the reached are closed -/
theorem wayS_closed (hr : r < n) {u v d : Nat} (hu : u ∈ (wayS nb (way0 n r) n).1) (hd : d < 4) (hv : nb u d = some v) (hvn : v < n) : v ∈ (wayS nb (way0 n r) n).1 := by
  have h0 := WayInv.start hr
  have hI := h0.all (nb := nb) n
  obtain ⟨k, hk⟩ := List.mem_iff_getElem?.1 hu
  have hkl : k < (wayS nb (way0 n r) n).1.length := (List.getElem?_eq_some_iff.1 hk).1
  have hkn : k < n := Nat.lt_of_lt_of_le hkl hI.length
  -- the k-th was there when its turn came
  have hthere : (wayS nb (way0 n r) k).1[k]? = some u := by
    obtain ⟨l, hl⟩ := wayS_grow (nb := nb) (st := way0 n r) k (n - k)
    rw [show k + (n - k) = n by omega] at hl
    rcases Nat.lt_or_ge k (wayS nb (way0 n r) k).1.length with h1 | h1
    · rw [hl, List.getElem?_append_left h1] at hk; exact hk
    · have := wayS_stop h1 (n - k)
      rw [show k + (n - k) = n by omega] at this
      rw [this] at hkl
      omega
  have hnext : v ∈ (wayS nb (way0 n r) (k + 1)).1 := way4_hit (h0.all k) hthere 4 d hd hv hvn
  obtain ⟨l, hl⟩ := wayS_grow (nb := nb) (st := way0 n r) (k + 1) (n - (k + 1))
  rw [show k + 1 + (n - (k + 1)) = n by omega] at hl
  rw [hl]
  exact List.mem_append.2 (Or.inl hnext)
/-- a part lies within each closed set that holds its first -/
theorem vis_within {c : Nat} {S : Nat → Prop} (hS : ∀ u d v, S u → d < 4 → nb u d = some v → S v) : ∀ {st : List Nat × List Nat}, (∀ u ∈ st.1, S u) → ∀ k, ∀ u ∈ (visS nb c st k).1, S u
  | st, h, 0 => h
  | st, h, k + 1 => by
    have ih := vis_within (c := c) hS h k
    have one : ∀ (d : Nat) (s : List Nat × List Nat), d < 4 → (∀ u ∈ s.1, S u) → ∀ u ∈ (vis1 nb c k d s).1, S u := by
      intro d s hd hs u hu
      unfold vis1 at hu
      split at hu
      · exact hs u hu
      · rename_i x hx
        split at hu
        · exact hs u hu
        · rename_i v hv
          split at hu
          · rcases List.mem_append.1 hu with hu | hu
            · exact hs u hu
            · simp at hu; subst hu; exact hS x d u (hs x (List.mem_of_getElem? hx)) hd hv
          · exact hs u hu
    have four : ∀ (e : Nat), e ≤ 4 → ∀ u ∈ (vis4 nb c k (visS nb c st k) e).1, S u := by
      intro e
      induction e with
      | zero => intro _; exact ih
      | succ e ihe => intro he; exact one e _ (by omega) (ihe (by omega))
    exact four 4 (Nat.le_refl _)
end
section
variable {nb : Nat → Nat → Option Nat} {n r : Nat}
theorem allP_step (i : Nat) : (allP nb n (i + 1)).2.length = (allP nb n i).2.length + (if (allP nb n i).1[i]? = some 0 then 1 else 0) := by
  simp only [allP]
  split
  · rw [List.length_append]; rfl
  · rfl
theorem allP_mono : ∀ i j, (allP nb n i).2.length ≤ (allP nb n (i + j)).2.length
  | i, 0 => Nat.le_refl _
  | i, j + 1 => by
    have := allP_mono i j
    have := allP_step (nb := nb) (n := n) (i + j)
    show _ ≤ (allP nb n (i + j + 1)).2.length
    omega
theorem allP_one (hn : 0 < n) : allP nb n 1 = ((visS nb 1 ([0], (List.replicate n 0).set 0 1) n).2, [(visS nb 1 ([0], (List.replicate n 0).set 0 1) n).1]) := by
  have h0 : (allP nb n 0).1[0]? = some 0 := by show (List.replicate n 0)[0]? = some 0; rw [List.getElem?_replicate, if_pos hn]
  rw [allP, if_pos h0]
  rfl
theorem allP_same (h1 : (allP nb n n).2.length = 1) (hn : 0 < n) : ∀ i, i + 1 ≤ n → allP nb n (i + 1) = allP nb n 1 ∧ (0 < i → (allP nb n 1).1[i]? ≠ some 0)
  | 0, _ => ⟨rfl, fun h => absurd h (Nat.lt_irrefl _)⟩
  | i + 1, hi => by
    obtain ⟨he, _⟩ := allP_same h1 hn i (by omega)
    have hl1 : (allP nb n 1).2.length = 1 := by rw [allP_one hn]; rfl
    have hs := allP_step (nb := nb) (n := n) (i + 1)
    have hm := allP_mono (nb := nb) (n := n) (i + 1 + 1) (n - (i + 1 + 1))
    rw [show i + 1 + 1 + (n - (i + 1 + 1)) = n by omega, h1] at hm
    rw [he, hl1] at hs
    have hne : (allP nb n 1).1[i + 1]? ≠ some 0 := fun e => by rw [if_pos e] at hs; omega
    refine ⟨?_, fun _ => hne⟩
    have : allP nb n (i + 1 + 1) = allP nb n (i + 1) := by
      show (if (allP nb n (i + 1)).1[i + 1]? = some 0 then _ else allP nb n (i + 1)) = _
      rw [if_neg (by rw [he]; exact hne)]
    rw [this, he]
/-- one part: every number is in it -/
theorem one_part (h1 : (allP nb n n).2.length = 1) (hn : 0 < n) {v : Nat} (hv : v < n) : v ∈ (visS nb 1 ([0], (List.replicate n 0).set 0 1) n).1 := by
  have hI := (VisInv.start (n := n) (c := 1) (N0 := List.replicate n 0) (i := 0) (by decide) (List.length_replicate ..) (by rw [List.getElem?_replicate, if_pos hn])).all (nb := nb) n
  rcases Classical.em (v ∈ (visS nb 1 ([0], (List.replicate n 0).set 0 1) n).1) with h | h
  · exact h
  · exfalso
    have ho := hI.other v h
    rw [List.getElem?_replicate, if_pos hv] at ho
    have hne := (allP_same h1 hn v (by omega)).2
    rw [allP_one hn] at hne
    rcases Nat.eq_zero_or_pos v with h0 | h0
    · subst h0
      obtain ⟨l, hl⟩ : ∃ l, (visS nb 1 ([0], (List.replicate n 0).set 0 1) n).1 = [0] ++ l := by
        have grow : ∀ k, ∃ l, (visS nb 1 ([0], (List.replicate n 0).set 0 1) k).1 = [0] ++ l := by
          intro k
          induction k with
          | zero => exact ⟨[], by simp [visS]⟩
          | succ k ih =>
            obtain ⟨l, hl⟩ := ih
            obtain ⟨m, hm⟩ := vis4_grow (nb := nb) (c := 1) (st := visS nb 1 ([0], (List.replicate n 0).set 0 1) k) k 4
            exact ⟨l ++ m, by simp only [visS]; rw [hm, hl, List.append_assoc]⟩
        exact grow n
      exact h (by rw [hl]; simp)
    · exact hne h0 ho
/-- from every root of a connected graph all is reached -/
theorem reach_all (h1 : (allP nb n n).2.length = 1) (hr : r < n) (hsym : ∀ u d v, u < n → d < 4 → nb u d = some v → v < n ∧ ∃ e, e < 4 ∧ nb v e = some u) {v : Nat} (hv : v < n) : v ∈ (wayS nb (way0 n r) n).1 := by
  have hn : 0 < n := by omega
  have hrq : r ∈ (wayS nb (way0 n r) n).1 := List.mem_of_getElem? ((WayInv.start hr).all (nb := nb) n).root
  rcases Classical.em (0 ∈ (wayS nb (way0 n r) n).1) with h0 | h0
  · have := vis_within (nb := nb) (c := 1) (S := fun u => u < n ∧ u ∈ (wayS nb (way0 n r) n).1) (fun u d v hu hd hv => by
      obtain ⟨hvn, _⟩ := hsym u d v hu.1 hd hv
      exact ⟨hvn, wayS_closed hr hu.2 hd hv hvn⟩) (st := ([0], (List.replicate n 0).set 0 1)) (fun u hu => by simp at hu; subst hu; exact ⟨hn, h0⟩) n v (one_part h1 hn hv)
    exact this.2
  · exfalso
    have := vis_within (nb := nb) (c := 1) (S := fun u => u < n ∧ u ∉ (wayS nb (way0 n r) n).1) (fun u d v hu hd hv => by
      obtain ⟨hvn, e, he, hback⟩ := hsym u d v hu.1 hd hv
      exact ⟨hvn, fun hm => hu.2 (wayS_closed hr hm he hback hu.1)⟩) (st := ([0], (List.replicate n 0).set 0 1)) (fun u hu => by simp at hu; subst hu; exact ⟨hn, h0⟩) n r (one_part h1 hn hr)
    exact this.2 hrq
end
end Go.Proofs.YtdcndhiidjgmaaaGreatDoor
