/- Plain facts: a list of different numbers below n is no longer than n; the way by a search. -/
import Derived.Test.YtmhgjgclclnmaaaGreatP6
namespace Go.Proofs.YtmhgjgclclnmaaaGreat
set_option linter.unusedSimpArgs false
set_option linter.unusedVariables false
theorem nodup_len : ∀ (n : Nat) (L : List Nat), L.Nodup → (∀ v ∈ L, v < n) → L.length ≤ n := by
  intro n
  induction n with
  | zero =>
    intro L _ h
    cases L with
    | nil => simp
    | cons a L => have := h a (List.mem_cons_self ..); omega
  | succ n ih =>
    intro L hd h
    by_cases hm : n ∈ L
    · have h1 := ih (L.erase n) (hd.erase n) (fun v hv => by
        have h2 := (hd.mem_erase_iff).1 hv
        have := h v h2.2
        omega)
      rw [List.length_erase_of_mem hm] at h1
      omega
    · have := ih L hd (fun v hv => by
        have := h v hv
        have : v ≠ n := fun e => hm (e ▸ hv)
        omega)
      omega
theorem nodup_of_get {L : List Nat} (h : ∀ (j k v : Nat), L[j]? = some v → L[k]? = some v → j = k) : L.Nodup := by
  rw [List.nodup_iff_pairwise_ne, List.pairwise_iff_getElem]
  intro i j hi hj hij e
  have := h i j L[i] (List.getElem?_eq_getElem hi) (by rw [List.getElem?_eq_getElem hj, e])
  omega
theorem Bfs.size {n : Nat} {E : Nat → Nat → Bool} {x : Nat} {L q : List Nat} {i t : Nat} (h : Bfs n E x L q i t) : L.length ≤ n :=
  nodup_len n L (nodup_of_get h.nodup) (fun v hv => by
    obtain ⟨k, hk⟩ := List.mem_iff_getElem?.1 hv
    exact h.lt k v hk)
theorem Bfs.room {n : Nat} {E : Nat → Nat → Bool} {x : Nat} {L q : List Nat} {i t v : Nat} (h : Bfs n E x L q i t) (hv : v < n) (hn : v ∉ L) : L.length < n := by
  have := nodup_len n (L ++ [v]) (by
    rw [List.nodup_append]
    exact ⟨nodup_of_get h.nodup, by simp, fun a ha b hb e => by
      simp at hb
      subst hb
      exact hn (e ▸ ha)⟩) (fun u hu => by
    rcases List.mem_append.1 hu with hu | hu
    · obtain ⟨k, hk⟩ := List.mem_iff_getElem?.1 hu
      exact h.lt k u hk
    · simp at hu; omega)
  simp at this
  omega
/-- the row of parents -/
structure Par (n : Nat) (L q : List Nat) (f : Nat → Int) : Prop where
  at_ : ∀ (k v p u : Nat), L[k]? = some v → q[k]? = some p → L[p]? = some u → f v = (u : Int)
  no : ∀ v, v < n → v ∉ L → f v = -1
theorem Par.start {n x : Nat} : Par n [x] [0] fun j => if j = x then (x : Int) else -1 := by
  refine ⟨fun k v p u hk hp hu => ?_, fun v _ hv => ?_⟩
  · match k, hk, hp with
    | 0, hk, hp =>
      simp at hk hp
      subst hk hp
      simp at hu
      subst hu
      simp
    | k + 1, hk, _ => simp at hk
  · simp at hv
    rw [if_neg hv]
theorem Par.found {n : Nat} {E : Nat → Nat → Bool} {x : Nat} {L q : List Nat} {i t u s : Nat} {f : Nat → Int} (h : Par n L q f) (hb : Bfs n E x L q i s) (hi : L[i]? = some u) (hn : t ∉ L) : Par n (L ++ [t]) (q ++ [i]) fun j => if j = t then (u : Int) else f j := by
  have hil := (List.getElem?_eq_some_iff.1 hi).1
  refine ⟨fun k v p w hk hp hw => ?_, fun v hv hv' => ?_⟩
  · rcases get_snoc hk with ⟨hkl, hk1⟩ | ⟨rfl, rfl⟩
    · rcases get_snoc hp with ⟨_, hp1⟩ | ⟨hk', _⟩
      · have hpk := (hb.within k p hp1).1
        have hpl : p < L.length := by omega
        rw [List.getElem?_append_left hpl] at hw
        have hne : v ≠ t := fun e => hn (e ▸ List.mem_of_getElem? hk1)
        rw [if_neg hne]
        exact h.at_ k v p w hk1 hp1 hw
      · rw [hb.len] at hk'; omega
    · rcases get_snoc hp with ⟨hk', _⟩ | ⟨_, rfl⟩
      · rw [hb.len] at hk'; omega
      · rw [List.getElem?_append_left hil, hi] at hw
        obtain rfl := Option.some.inj hw
        rw [if_pos rfl]
  · simp only [List.mem_append, List.mem_singleton, not_or] at hv'
    rw [if_neg hv'.2]
    exact h.no v hv hv'.1
/-- behind the search: who stands before whom on the way -/
theorem Par.back {n : Nat} {E : Nat → Nat → Bool} {x y D m u v : Nat} {L q : List Nat} {f : Nat → Int} (h : Par n L q f) (hb : Bfs n E x L q L.length 0) (hx : x < n) (hD : distTo n E y x = some D) (hm : m < D)
    (hu : (wayL n E y D x)[m]? = some u) (hv : (wayL n E y D x)[m + 1]? = some v) : f v = (u : Int) := by
  have hin : ∀ (j w : Nat), j ≤ D → (wayL n E y D x)[j]? = some w → w ∈ L := by
    intro j
    induction j with
    | zero =>
      intro w _ hw
      rw [wayL_head] at hw
      obtain rfl := Option.some.inj hw
      exact List.mem_of_getElem? hb.head
    | succ j ih =>
      intro w hj hw
      obtain ⟨w', hw'⟩ : ∃ w', (wayL n E y D x)[j]? = some w' := ⟨_, List.getElem?_eq_getElem (by rw [wayL_len]; omega)⟩
      obtain ⟨_, _, _, hn2⟩ := wayL_spec D x hx hD j w' hw'
      obtain ⟨hwn, _, _, _⟩ := wayL_spec D x hx hD (j + 1) w hw
      exact hb.closed (ih w' (by omega) hw') hwn (hn2 w hw).1
  obtain ⟨ru, hru⟩ := List.mem_iff_getElem?.1 (hin m u (by omega) hu)
  obtain ⟨rv, hrv⟩ := List.mem_iff_getElem?.1 (hin (m + 1) v (by omega) hv)
  have hq := (hb.chain hx hD (m + 1) rv v (by omega) hv hrv).2 m ru u rfl hu hru
  exact h.at_ rv v ru u hrv hq hru
/-- on the way no point but the first is the start -/
theorem wayL_start {n : Nat} {E : Nat → Nat → Bool} {x y D m : Nat} (hx : x < n) (hD : distTo n E y x = some D) (h : (wayL n E y D x)[m]? = some x) : m = 0 := by
  obtain ⟨_, h1, h2, _⟩ := wayL_spec D x hx hD m x h
  rw [hD] at h2
  injection h2 with h2
  omega
theorem wayL_short {n : Nat} {E : Nat → Nat → Bool} {x y D : Nat} (hx : x < n) (hD : distTo n E y x = some D) : D < n := by
  have := nodup_len n (wayL n E y D x) (nodup_of_get fun j k v hj hk => by
    obtain ⟨_, h1, h2, _⟩ := wayL_spec D x hx hD j v hj
    obtain ⟨_, h3, h4, _⟩ := wayL_spec D x hx hD k v hk
    rw [h2] at h4
    injection h4 with h4
    omega) (fun v hv => by
    obtain ⟨k, hk⟩ := List.mem_iff_getElem?.1 hv
    exact (wayL_spec D x hx hD k v hk).1)
  rw [wayL_len] at this
  omega
theorem drop_last {W : List Nat} {D y : Nat} (hl : W.length = D + 1) (h : W[D]? = some y) : W.drop D = [y] := by
  obtain ⟨hlt, he⟩ := List.getElem?_eq_some_iff.1 h
  rw [List.drop_eq_getElem_cons hlt, he, List.drop_eq_nil_of_le (by omega)]
theorem drop_more {W : List Nat} {m z : Nat} (h : W[m]? = some z) : W.drop m = z :: W.drop (m + 1) := by
  obtain ⟨hlt, he⟩ := List.getElem?_eq_some_iff.1 h
  rw [List.drop_eq_getElem_cons hlt, he]
end Go.Proofs.YtmhgjgclclnmaaaGreat
