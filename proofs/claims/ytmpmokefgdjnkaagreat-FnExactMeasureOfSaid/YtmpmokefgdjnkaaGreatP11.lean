/- Plain facts: the choice of the next bond on the way. -/
import Derived.Test.YtmpmokefgdjnkaaGreatP10
namespace Go.Proofs.YtmpmokefgdjnkaaGreat
set_option linter.unusedSimpArgs false
set_option linter.unusedVariables false
/-- bond b leads with room from u to t, which is d steps off -/
def Qual (bs : List Bd) (f : Nat → Int) (dist : Nat → Option Nat) (u d b t : Nat) : Prop := ∃ e, bs[b]? = some e ∧ (e.a = u ∨ e.b = u) ∧ oth e u = t ∧ 0 < rs e (f b) u ∧ dist t = some d
/-- the least point so far, with the first bond to it -/
def Best (Q : Nat → Nat → Prop) (inc : List Nat) (k : Nat) : Option (Nat × Nat) → Prop
  | none => ∀ (j b t : Nat), j < k → inc[j]? = some b → ¬ Q b t
  | some (m, i) => Q i m ∧ ∀ (j b t : Nat), j < k → inc[j]? = some b → Q b t → m < t ∨ (m = t ∧ i ≤ b)
theorem Best.start (Q : Nat → Nat → Prop) (inc : List Nat) : Best Q inc 0 none := fun j b t h => by omega
theorem Best.skip {Q : Nat → Nat → Prop} {inc : List Nat} {k b : Nat} {c : Option (Nat × Nat)} (h : Best Q inc k c) (hb : inc[k]? = some b) (hq : ∀ t, ¬ Q b t) : Best Q inc (k + 1) c := by
  cases c with
  | none =>
    intro j b' t hj hb' hQ
    rcases Nat.lt_succ_iff_lt_or_eq.1 hj with hj | rfl
    · exact h j b' t hj hb' hQ
    · rw [hb] at hb'
      obtain rfl := Option.some.inj hb'
      exact hq t hQ
  | some c =>
    obtain ⟨m, i⟩ := c
    refine ⟨h.1, fun j b' t hj hb' hQ => ?_⟩
    rcases Nat.lt_succ_iff_lt_or_eq.1 hj with hj | rfl
    · exact h.2 j b' t hj hb' hQ
    · rw [hb] at hb'
      obtain rfl := Option.some.inj hb'
      exact (hq t hQ).elim
/-- not less than the least so far -/
theorem Best.keep {Q : Nat → Nat → Prop} {inc : List Nat} {k b t m i : Nat} (h : Best Q inc k (some (m, i))) (hb : inc[k]? = some b) (hq : Q b t) (hu : ∀ t', Q b t' → t' = t) (ht : ¬ t < m) (hi : i ≤ b) : Best Q inc (k + 1) (some (m, i)) := by
  refine ⟨h.1, fun j b' t' hj hb' hQ => ?_⟩
  rcases Nat.lt_succ_iff_lt_or_eq.1 hj with hj | rfl
  · exact h.2 j b' t' hj hb' hQ
  · rw [hb] at hb'
    obtain rfl := Option.some.inj hb'
    rw [hu t' hQ]
    omega
theorem Best.take {Q : Nat → Nat → Prop} {inc : List Nat} {k b t : Nat} {c : Option (Nat × Nat)} (h : Best Q inc k c) (hb : inc[k]? = some b) (hq : Q b t) (hu : ∀ t', Q b t' → t' = t) (hc : ∀ m i, c = some (m, i) → t < m) : Best Q inc (k + 1) (some (t, b)) := by
  refine ⟨hq, fun j b' t' hj hb' hQ => ?_⟩
  rcases Nat.lt_succ_iff_lt_or_eq.1 hj with hj | rfl
  · cases c with
    | none => exact (h j b' t' hj hb' hQ).elim
    | some c =>
      obtain ⟨m, i⟩ := c
      have := hc m i rfl
      rcases h.2 j b' t' hj hb' hQ with h1 | ⟨h1, _⟩
      · exact .inl (by omega)
      · exact .inl (by omega)
  · rw [hb] at hb'
    obtain rfl := Option.some.inj hb'
    rw [hu t' hQ]
    exact .inr ⟨rfl, Nat.le_refl _⟩
theorem Qual.uniq {bs : List Bd} {f : Nat → Int} {dist : Nat → Option Nat} {u d b t t' : Nat} (h : Qual bs f dist u d b t) (h' : Qual bs f dist u d b t') : t' = t := by
  obtain ⟨e, he, _, h1, _⟩ := h
  obtain ⟨e', he', _, h2, _⟩ := h'
  rw [he] at he'
  obtain rfl := Option.some.inj he'
  rw [← h1, ← h2]
theorem filter_range_sorted (p : Nat → Bool) : ∀ (n : Nat) (j k a b : Nat), j < k → ((List.range n).filter p)[j]? = some a → ((List.range n).filter p)[k]? = some b → a < b := by
  intro n
  induction n with
  | zero => intro j k a b _ h; simp at h
  | succ n ih =>
    intro j k a b hjk ha hb
    rw [List.range_succ, List.filter_append] at ha hb
    by_cases hp : p n = true
    · simp only [List.filter_cons, hp, if_true, List.filter_nil] at ha hb
      rcases get_snoc hb with ⟨_, hb⟩ | ⟨rfl, rfl⟩
      · rcases get_snoc ha with ⟨_, ha⟩ | ⟨rfl, _⟩
        · exact ih j k a b hjk ha hb
        · omega
      · rcases get_snoc ha with ⟨_, ha⟩ | ⟨rfl, _⟩
        · have := List.mem_of_getElem? ha
          simp at this
          omega
        · omega
    · have hp' : p n = false := by simpa using hp
      simp only [List.filter_cons, hp', List.filter_nil] at ha hb
      simp at ha hb
      exact ih j k a b hjk (by simpa using ha) (by simpa using hb)
theorem incL_sorted {bs : List Bd} {u j k a b : Nat} (h : j < k) (ha : (incL bs bs.length u)[j]? = some a) (hb : (incL bs bs.length u)[k]? = some b) : a < b := filter_range_sorted _ _ j k a b h ha hb
/-- the best so far is an earlier bond -/
theorem Best.le {bs : List Bd} {f : Nat → Int} {dist : Nat → Option Nat} {u d k b m i : Nat} (hi : i ∈ (incL bs bs.length u).take k) (hb : (incL bs bs.length u)[k]? = some b) : i ≤ b := by
  obtain ⟨j, hj⟩ := List.mem_iff_getElem?.1 hi
  rw [List.getElem?_take] at hj
  split at hj
  · rename_i hjk
    exact Nat.le_of_lt (incL_sorted hjk hj hb)
  · cases hj
/-- at the end: the next point of the way, and the bond that a unit is pushed over -/
theorem best_end {n : Nat} {bs : List Bd} (hb : BondsOk n bs) {f : Nat → Int} {x y D j u v : Nat} {W : List Nat} {c : Option (Nat × Nat)} (hx : x < n) (hD : distTo n (edgeB bs f) y x = some D) (hW : W = wayL n (edgeB bs f) y D x) (hu : W[j]? = some u) (hv : W[j + 1]? = some v)
    (h : Best (Qual bs (augK bs f W j) (distTo n (edgeB bs f) y) u (D - j - 1)) (incL bs bs.length u) (incL bs bs.length u).length c) : ∃ i, c = some (v, i) ∧ firstB bs (augK bs f W j) u v = some i := by
  subst hW
  obtain ⟨hun, _, hdu, hnx⟩ := wayL_spec D x hx hD j u hu
  obtain ⟨hE, hmin⟩ := hnx v hv
  obtain ⟨hvn, hj1, hdv, _⟩ := wayL_spec D x hx hD (j + 1) v hv
  have hdv' : distTo n (edgeB bs f) y v = some (D - j - 1) := by rw [hdv]; congr 1
  have hjD : j < D := by omega
  have hstep := (augK_step hx hD hu hv).2
  obtain ⟨b, e, he, hjo, hr⟩ := edgeB_true.1 hstep
  have hinc : e.a = u ∨ e.b = u := by
    simp only [jo, decide_eq_true_eq] at hjo
    rcases hjo with h | h
    · exact .inl h.1
    · exact .inr h.2
  have hq : Qual bs (augK bs f (wayL n (edgeB bs f) y D x) j) (distTo n (edgeB bs f) y) u (D - j - 1) b v := ⟨e, he, hinc, (oth_of_jo (hb.ne b e he) hjo).1, hr, hdv'⟩
  obtain ⟨k, hk⟩ := List.mem_iff_getElem?.1 (mem_incL he hinc)
  have hkl := (List.getElem?_eq_some_iff.1 hk).1
  cases c with
  | none => exact (h k b v hkl hk hq).elim
  | some c =>
    obtain ⟨m, i⟩ := c
    obtain ⟨⟨e', he', hinc', hot', hr', hd'⟩, hall⟩ := h
    have hjo' := (jo_oth hinc').2
    rw [hot'] at hjo'
    have hEm : edgeB bs f u m = true := by
      rw [← augK_edge hx hD hu hd' hjD]
      exact edgeB_true.2 ⟨i, e', he', hjo', hr'⟩
    have hmv : m = v := by
      have h1 : ¬ m < v := fun hlt => hmin m hlt hEm hd'
      rcases hall k b v hkl hk hq with h2 | ⟨h2, _⟩ <;> omega
    subst hmv
    refine ⟨i, rfl, firstB_some.2 ⟨(List.getElem?_eq_some_iff.1 he').1, ?_, fun b' hb' => ?_⟩⟩
    · rw [hitB_eq he']
      simp [hjo', hr']
    · cases hh : hitB bs (augK bs f (wayL n (edgeB bs f) y D x) j) u m b' with
      | false => rfl
      | true =>
        exfalso
        have hbl : b' < bs.length := by have := (List.getElem?_eq_some_iff.1 he').1; omega
        have he2 := List.getElem?_eq_getElem hbl
        rw [hitB_eq he2] at hh
        simp only [Bool.and_eq_true, decide_eq_true_eq] at hh
        have hinc2 : bs[b'].a = u ∨ bs[b'].b = u := by
          have h3 := hh.1
          simp only [jo, decide_eq_true_eq] at h3
          rcases h3 with h | h
          · exact .inl h.1
          · exact .inr h.2
        obtain ⟨k2, hk2⟩ := List.mem_iff_getElem?.1 (mem_incL he2 hinc2)
        have := hall k2 b' m (List.getElem?_eq_some_iff.1 hk2).1 hk2 ⟨_, he2, hinc2, (oth_of_jo (hb.ne b' _ he2) hh.1).1, hh.2, hd'⟩
        omega
end Go.Proofs.YtmpmokefgdjnkaaGreat
