/- Plain facts: a search backward from the goal gives the steps to it. -/
import Derived.Test.YthieodccakphiaaGreatS1
namespace Go.Proofs.YthieodccakphiaaGreat
set_option linter.unusedSimpArgs false
set_option linter.unusedVariables false
def oth (e : Bd) (u : Nat) : Nat := if e.a = u then e.b else e.a
theorem incL_mem {bs : List Bd} {u b : Nat} (h : b ∈ incL bs bs.length u) : ∃ e, bs[b]? = some e ∧ (e.a = u ∨ e.b = u) := by
  unfold incL at h
  simp only [List.mem_filter, List.mem_range] at h
  have he := List.getElem?_eq_getElem h.1
  have := h.2
  unfold incB at this
  rw [he] at this
  exact ⟨_, he, by simpa using this⟩
theorem mem_incL {bs : List Bd} {u b : Nat} {e : Bd} (he : bs[b]? = some e) (h : e.a = u ∨ e.b = u) : b ∈ incL bs bs.length u := by
  unfold incL
  simp only [List.mem_filter, List.mem_range]
  refine ⟨(List.getElem?_eq_some_iff.1 he).1, ?_⟩
  unfold incB
  rw [he]
  simpa using h
theorem jo_oth {e : Bd} {u : Nat} (h : e.a = u ∨ e.b = u) : jo e (oth e u) u = true ∧ jo e u (oth e u) = true := by
  unfold oth jo
  by_cases ha : e.a = u
  · simp [ha]
  · have hb := h.resolve_left ha
    simp [ha, hb]
theorem oth_of_jo {e : Bd} {u v : Nat} (hne : e.a ≠ e.b) (h : jo e u v = true) : oth e u = v ∧ oth e v = u := by
  simp only [jo, decide_eq_true_eq] at h
  unfold oth
  rcases h with ⟨h1, h2⟩ | ⟨h1, h2⟩
  · have : ¬ e.a = v := fun e' => hne (e'.trans h2.symm)
    rw [if_pos h1, if_neg this]; exact ⟨h2, h1⟩
  · have : ¬ e.a = u := fun e' => hne (e'.trans h2.symm)
    rw [if_neg this, if_pos h1]; exact ⟨h1, h2⟩
theorem jo_sym {e : Bd} {u v : Nat} (h : jo e u v = true) : jo e v u = true := by
  simp only [jo, decide_eq_true_eq] at h ⊢
  rcases h with h | h
  · exact .inr h
  · exact .inl h
/-- i points are done, of the next one the first k bonds -/
structure Back (n : Nat) (bs : List Bd) (f : Nat → Int) (y : Nat) (L : List Nat) (l : Nat → Option Nat) (i k : Nat) : Prop where
  head : L[0]? = some y
  gy : l y = some 0
  lt : ∀ (j v : Nat), L[j]? = some v → v < n
  nodup : ∀ (j j' v : Nat), L[j]? = some v → L[j']? = some v → j = j'
  mem : ∀ (v : Nat), v < n → (v ∈ L ↔ ∃ d, l v = some d)
  mono : ∀ (j j' u v a b : Nat), j ≤ j' → L[j]? = some u → L[j']? = some v → l u = some a → l v = some b → a ≤ b
  top : ∀ (j v b u a : Nat), L[j]? = some v → l v = some b → L[i]? = some u → l u = some a → b ≤ a + 1
  next : ∀ (v d : Nat), v < n → l v = some d → (v = y ∧ d = 0) ∨ ∃ u d', u < n ∧ edgeB bs f v u = true ∧ l u = some d' ∧ d = d' + 1
  full : ∀ (p u v : Nat), L[p]? = some u → p < i → v < n → edgeB bs f v u = true → ∃ d d', l u = some d ∧ l v = some d' ∧ d' ≤ d + 1
  part : ∀ (u j b v : Nat) (e : Bd), L[i]? = some u → j < k → (incL bs bs.length u)[j]? = some b → bs[b]? = some e → jo e v u = true → 0 < rs e (f b) v → v ∈ L
  bd : ∀ (j v d : Nat), L[j]? = some v → l v = some d → d ≤ j
theorem Back.start {n : Nat} {bs : List Bd} {f : Nat → Int} {y : Nat} (hy : y < n) : Back n bs f y [y] (fun v => if v = y then some 0 else none) 0 0 := by
  have hget : ∀ {j v : Nat}, [y][j]? = some v → j = 0 ∧ v = y := fun {j v} h => by
    match j, h with
    | 0, h => simp at h; exact ⟨rfl, h.symm⟩
    | j + 1, h => simp at h
  refine ⟨rfl, by simp, fun j v h => by rw [(hget h).2]; exact hy, fun j j' v h h' => by rw [(hget h).1, (hget h').1], fun v hv => ?_, fun j j' u v a b _ hu hv ha hb => ?_, fun j v b u a hv hb hu ha => ?_, fun v d hv h => ?_, fun p u v h hp => by omega, fun u j b v e h hj => by omega, fun j v d hv hd => ?_⟩
  · by_cases h : v = y <;> simp [h]
  · rw [(hget hu).2] at ha
    rw [(hget hv).2] at hb
    simp at ha hb
    omega
  · rw [(hget hv).2] at hb
    simp at hb
    omega
  · by_cases h' : v = y
    · simp [h'] at h
      exact .inl ⟨h', h.symm⟩
    · simp [h'] at h
  · rw [(hget hv).2] at hd
    simp at hd
    omega
section
variable {n : Nat} {bs : List Bd} {f : Nat → Int} {y : Nat} {L : List Nat} {l : Nat → Option Nat} {i k u b : Nat} {e : Bd}
theorem Back.skip (h : Back n bs f y L l i k) (hb : BondsOk n bs) (hi : L[i]? = some u) (hk : (incL bs bs.length u)[k]? = some b) (he : bs[b]? = some e) (hs : 0 < rs e (f b) (oth e u) → oth e u ∈ L) : Back n bs f y L l i (k + 1) := by
  refine ⟨h.head, h.gy, h.lt, h.nodup, h.mem, h.mono, h.top, h.next, h.full, fun u' j b' v e' hu' hj hj' he' hjo hrs => ?_, h.bd⟩
  rcases Nat.lt_succ_iff_lt_or_eq.1 hj with hj | rfl
  · exact h.part u' j b' v e' hu' hj hj' he' hjo hrs
  · rw [hi] at hu'
    obtain rfl := Option.some.inj hu'
    rw [hk] at hj'
    obtain rfl := Option.some.inj hj'
    rw [he] at he'
    obtain rfl := Option.some.inj he'
    have := (oth_of_jo (hb.ne b e he) hjo).2
    rw [this] at hs
    exact hs hrs
theorem Back.found (h : Back n bs f y L l i k) (hb : BondsOk n bs) {a : Nat} (hi : L[i]? = some u) (ha : l u = some a) (hk : (incL bs bs.length u)[k]? = some b) (he : bs[b]? = some e) (hinc : e.a = u ∨ e.b = u) (hr : 0 < rs e (f b) (oth e u)) (hn : oth e u ∉ L) :
    Back n bs f y (L ++ [oth e u]) (fun v => if v = oth e u then some (a + 1) else l v) i (k + 1) := by
  obtain ⟨t, ht⟩ : ∃ t, oth e u = t := ⟨_, rfl⟩
  have hjo := (jo_oth hinc).1
  rw [ht] at hr hn hjo ⊢
  have hil := (List.getElem?_eq_some_iff.1 hi).1
  have htn : t < n := by
    rw [← ht]
    unfold oth
    split
    · exact hb.b b e he
    · exact hb.a b e he
  have hun := h.lt i u hi
  have hne : ∀ {j v : Nat}, L[j]? = some v → v ≠ t := fun hv e' => hn (e' ▸ List.mem_of_getElem? hv)
  have hyt : y ≠ t := hne h.head
  have hut : u ≠ t := hne hi
  have hold : ∀ {j v : Nat}, j < L.length → (L ++ [t])[j]? = some v → L[j]? = some v := fun hj h => by rwa [List.getElem?_append_left hj] at h
  refine ⟨by rw [List.getElem?_append_left (by omega)]; exact h.head, by rw [if_neg hyt]; exact h.gy, fun j v hv => ?_, fun j j' v hv hv' => ?_, fun v hv => ?_, fun j j' p q c d hjj hp hq hc hd => ?_, fun j v c p d hv hc hp hd => ?_, fun v d hv hd => ?_, fun p q v hq hp hv hE => ?_, fun q j b' v e' hq hj hj' he' hjo' hrs => ?_, fun j v d hv hd => ?_⟩
  · rcases get_snoc hv with ⟨_, hv⟩ | ⟨_, rfl⟩
    · exact h.lt j v hv
    · exact htn
  · rcases get_snoc hv with ⟨_, h1⟩ | ⟨rfl, rfl⟩
    · rcases get_snoc hv' with ⟨_, h2⟩ | ⟨rfl, rfl⟩
      · exact h.nodup j j' v h1 h2
      · exact (hne h1 rfl).elim
    · rcases get_snoc hv' with ⟨_, h2⟩ | ⟨rfl, _⟩
      · exact (hne h2 rfl).elim
      · rfl
  · by_cases e1 : v = t
    · simp [e1]
    · have := h.mem v hv
      simp only [List.mem_append, List.mem_singleton, e1, or_false, if_false]
      exact this
  · rcases get_snoc hp with ⟨hjl, h1⟩ | ⟨rfl, rfl⟩
    · rw [if_neg (hne h1)] at hc
      rcases get_snoc hq with ⟨_, h2⟩ | ⟨rfl, rfl⟩
      · rw [if_neg (hne h2)] at hd
        exact h.mono j j' p q c d hjj h1 h2 hc hd
      · rw [if_pos rfl] at hd
        injection hd with hd
        have := h.top j p c u a h1 hc hi ha
        omega
    · rcases get_snoc hq with ⟨hj'l, _⟩ | ⟨_, rfl⟩
      · omega
      · rw [hc] at hd
        injection hd with hd
        omega
  · have hp' := hold hil hp
    rw [hi] at hp'
    obtain rfl := Option.some.inj hp'
    rw [if_neg hut, ha] at hd
    injection hd with hd
    rcases get_snoc hv with ⟨_, h1⟩ | ⟨_, rfl⟩
    · rw [if_neg (hne h1)] at hc
      have := h.top j v c u a h1 hc hi ha
      omega
    · rw [if_pos rfl] at hc
      injection hc with hc
      omega
  · by_cases e1 : v = t
    · subst e1
      rw [if_pos rfl] at hd
      injection hd with hd
      refine .inr ⟨u, a, hun, edgeB_true.2 ⟨b, e, he, hjo, hr⟩, by rw [if_neg hut]; exact ha, hd.symm⟩
    · rw [if_neg e1] at hd
      rcases h.next v d hv hd with h1 | ⟨q, d', h1, h2, h3, h4⟩
      · exact .inl h1
      · have hqL := (h.mem q h1).2 ⟨d', h3⟩
        refine .inr ⟨q, d', h1, h2, ?_, h4⟩
        rw [if_neg (fun (e' : q = t) => hn (e' ▸ hqL))]
        exact h3
  · have hq' := hold (by omega) hq
    obtain ⟨d, d', h1, h2, h3⟩ := h.full p q v hq' hp hv hE
    have hvL := (h.mem v hv).2 ⟨d', h2⟩
    exact ⟨d, d', by rw [if_neg (hne hq')]; exact h1, by rw [if_neg (fun (e' : v = t) => hn (e' ▸ hvL))]; exact h2, h3⟩
  · have hq' := hold hil hq
    rcases Nat.lt_succ_iff_lt_or_eq.1 hj with hj | rfl
    · exact List.mem_append_left _ (h.part q j b' v e' hq' hj hj' he' hjo' hrs)
    · rw [hi] at hq'
      obtain rfl := Option.some.inj hq'
      rw [hk] at hj'
      obtain rfl := Option.some.inj hj'
      rw [he] at he'
      obtain rfl := Option.some.inj he'
      have := (oth_of_jo (hb.ne b e he) hjo').2
      rw [ht] at this
      rw [this]
      exact List.mem_append_right _ (List.mem_singleton.2 rfl)
  · rcases get_snoc hv with ⟨_, h1⟩ | ⟨rfl, rfl⟩
    · rw [if_neg (hne h1)] at hd
      exact h.bd j v d h1 hd
    · rw [if_pos rfl] at hd
      injection hd with hd
      have := h.bd i u a hi ha
      omega
theorem Back.done (h : Back n bs f y L l i (incL bs bs.length u).length) (hi : L[i]? = some u) : Back n bs f y L l (i + 1) 0 := by
  have hun := h.lt i u hi
  obtain ⟨a, ha⟩ := (h.mem u hun).1 (List.mem_of_getElem? hi)
  refine ⟨h.head, h.gy, h.lt, h.nodup, h.mem, h.mono, fun j v b p d hv hb hp hd => ?_, h.next, fun p q v hq hp hv hE => ?_, fun q j b' v e' _ hj => by omega, h.bd⟩
  · have h1 := h.top j v b u a hv hb hi ha
    have h2 := h.mono i (i + 1) u p a d (by omega) hi hp ha hd
    omega
  · rcases Nat.lt_succ_iff_lt_or_eq.1 hp with hp | rfl
    · exact h.full p q v hq hp hv hE
    · rw [hi] at hq
      obtain rfl := Option.some.inj hq
      obtain ⟨b, e, he, hjo, hr⟩ := edgeB_true.1 hE
      have hinc : b ∈ incL bs bs.length u := mem_incL he (by
        simp only [jo, decide_eq_true_eq] at hjo
        rcases hjo with h | h
        · exact .inr h.2
        · exact .inl h.1)
      obtain ⟨j, hj⟩ := List.mem_iff_getElem?.1 hinc
      have hvL := h.part u j b v e hi (List.getElem?_eq_some_iff.1 hj).1 hj he hjo hr
      obtain ⟨d', hd'⟩ := (h.mem v hv).1 hvL
      obtain ⟨jv, hjv⟩ := List.mem_iff_getElem?.1 hvL
      exact ⟨a, d', ha, hd', h.top jv v d' u a hjv hd' hi ha⟩
theorem Back.dist (h : Back n bs f y L l L.length 0) (hy : y < n) : ∀ v, v < n → l v = distTo n (edgeB bs f) y v := by
  refine IsDist.eq ⟨h.gy, fun u v d hu hv hE hd => ?_, fun v d hv hd => h.next v d hv hd⟩ hy
  have huL := (h.mem u hu).2 ⟨d, hd⟩
  obtain ⟨p, hp⟩ := List.mem_iff_getElem?.1 huL
  obtain ⟨d0, d', h1, h2, h3⟩ := h.full p u v hp (List.getElem?_eq_some_iff.1 hp).1 hv hE
  rw [hd] at h1
  injection h1 with h1
  exact ⟨d', h2, by omega⟩
theorem Back.size (h : Back n bs f y L l i k) : L.length ≤ n :=
  nodup_len n L (nodup_of_get h.nodup) (fun v hv => by
    obtain ⟨j, hj⟩ := List.mem_iff_getElem?.1 hv
    exact h.lt j v hj)
end
def leftI (l : Nat → Option Nat) (v : Nat) : Int := match l v with
  | some d => (d : Int)
  | none => -1
end Go.Proofs.YthieodccakphiaaGreat
