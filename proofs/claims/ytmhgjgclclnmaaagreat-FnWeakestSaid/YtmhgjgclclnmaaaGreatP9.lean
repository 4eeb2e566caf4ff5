/- Plain facts: the flow grows along a way, and how often. -/
import Derived.Test.YtmhgjgclclnmaaaGreatP8
namespace Go.Proofs.YtmhgjgclclnmaaaGreat
set_option linter.unusedSimpArgs false
set_option linter.unusedVariables false
/-- one unit more along the first k steps of a way -/
def augK (bs : List Bd) (f : Nat → Int) (W : List Nat) : Nat → Nat → Int
  | 0 => f
  | k + 1 => match W[k]?, W[k + 1]? with
    | some u, some v => pushB bs (augK bs f W k) u v
    | _, _ => augK bs f W k
theorem augK_succ {bs : List Bd} {f : Nat → Int} {W : List Nat} {k u v : Nat} (hu : W[k]? = some u) (hv : W[k + 1]? = some v) : augK bs f W (k + 1) = pushB bs (augK bs f W k) u v := by simp only [augK, hu, hv]
def matK (F : Nat → Nat → Int) (W : List Nat) : Nat → Nat → Nat → Int
  | 0 => F
  | k + 1 => match W[k]?, W[k + 1]? with
    | some u, some v => pushM (matK F W k) u v
    | _, _ => matK F W k
theorem matK_succ {F : Nat → Nat → Int} {W : List Nat} {k u v : Nat} (hu : W[k]? = some u) (hv : W[k + 1]? = some v) : matK F W (k + 1) = pushM (matK F W k) u v := by simp only [matK, hu, hv]
theorem augK_inv {bs : List Bd} {f : Nat → Int} {W : List Nat} (h : InvF bs f) (k : Nat) : InvF bs (augK bs f W k) := by
  induction k with
  | zero => exact h
  | succ k ih =>
    simp only [augK]
    split
    · exact ih.push _ _
    · exact ih
theorem pushB_other {bs : List Bd} {f : Nat → Int} {u v i : Nat} {e : Bd} (he : bs[i]? = some e) (hj : jo e u v = false) : pushB bs f u v i = f i := by
  cases hf : firstB bs f u v with
  | none => unfold pushB; rw [hf]
  | some k =>
    obtain ⟨h1, h2, _⟩ := firstB_some.1 hf
    rw [pushB_at hf (List.getElem?_eq_getElem h1)]
    dsimp only
    rw [if_neg]
    rintro rfl
    rw [hitB_eq he, hj] at h2
    cases h2
section
variable {n : Nat} {bs : List Bd} {f : Nat → Int} {x y D : Nat}
/-- a bond between a point of the way and one a step nearer bears what it bore -/
theorem augK_same (hx : x < n) (hD : distTo n (edgeB bs f) y x = some D) {j u t i : Nat} {e : Bd} (hu : (wayL n (edgeB bs f) y D x)[j]? = some u) (ht : distTo n (edgeB bs f) y t = some (D - j - 1)) (hjD : j < D) (he : bs[i]? = some e) (hj : jo e u t = true) :
    ∀ k, k ≤ j → augK bs f (wayL n (edgeB bs f) y D x) k i = f i := by
  intro k
  induction k with
  | zero => intro _; rfl
  | succ k ih =>
    intro hk
    have hl := wayL_len n (edgeB bs f) y D x
    obtain ⟨p, hp⟩ : ∃ p, (wayL n (edgeB bs f) y D x)[k]? = some p := ⟨_, List.getElem?_eq_getElem (by omega)⟩
    obtain ⟨q, hq⟩ : ∃ q, (wayL n (edgeB bs f) y D x)[k + 1]? = some q := ⟨_, List.getElem?_eq_getElem (by omega)⟩
    rw [augK_succ hp hq]
    obtain ⟨_, _, hdp, _⟩ := wayL_spec D x hx hD k p hp
    obtain ⟨_, _, hdq, _⟩ := wayL_spec D x hx hD (k + 1) q hq
    obtain ⟨_, _, hdu, _⟩ := wayL_spec D x hx hD j u hu
    have hc : jo e p q = false := by
      cases hc : jo e p q
      · rfl
      · exfalso
        simp only [jo, decide_eq_true_eq] at hj hc
        have hup : u ≠ p := fun e' => by
          rw [e', hdp] at hdu
          injection hdu with hdu
          omega
        have htp : t ≠ p := fun e' => by
          rw [e', hdp] at ht
          injection ht with ht
          omega
        rcases hj with ⟨a1, a2⟩ | ⟨a1, a2⟩ <;> rcases hc with ⟨b1, b2⟩ | ⟨b1, b2⟩
        · exact hup (by rw [← a1, b1])
        · exact htp (by rw [← a2, b2])
        · exact htp (by rw [← a1, b1])
        · exact hup (by rw [← a2, b2])
    rw [pushB_other he hc]
    exact ih (by omega)
theorem augK_edge (hx : x < n) (hD : distTo n (edgeB bs f) y x = some D) {j u t : Nat} (hu : (wayL n (edgeB bs f) y D x)[j]? = some u) (ht : distTo n (edgeB bs f) y t = some (D - j - 1)) (hjD : j < D) :
    edgeB bs (augK bs f (wayL n (edgeB bs f) y D x) j) u t = edgeB bs f u t := by
  rw [Bool.eq_iff_iff, edgeB_true, edgeB_true]
  constructor
  · intro ⟨i, e, he, h1, h2⟩
    rw [augK_same hx hD hu ht hjD he h1 j (Nat.le_refl _)] at h2
    exact ⟨i, e, he, h1, h2⟩
  · intro ⟨i, e, he, h1, h2⟩
    rw [← augK_same hx hD hu ht hjD he h1 j (Nat.le_refl _)] at h2
    exact ⟨i, e, he, h1, h2⟩
theorem augK_step (hx : x < n) (hD : distTo n (edgeB bs f) y x = some D) {j u v : Nat} (hu : (wayL n (edgeB bs f) y D x)[j]? = some u) (hv : (wayL n (edgeB bs f) y D x)[j + 1]? = some v) : j < D ∧ edgeB bs (augK bs f (wayL n (edgeB bs f) y D x) j) u v = true := by
  obtain ⟨_, h1, h2, _⟩ := wayL_spec D x hx hD (j + 1) v hv
  obtain ⟨_, _, _, h3⟩ := wayL_spec D x hx hD j u hu
  refine ⟨by omega, ?_⟩
  rw [augK_edge hx hD hu (by rw [h2]; congr 1) (by omega)]
  exact (h3 v hv).1
theorem augK_flowM (hb : BondsOk n bs) (hx : x < n) (hD : distTo n (edgeB bs f) y x = some D) : ∀ k, k ≤ D → flowM bs (augK bs f (wayL n (edgeB bs f) y D x) k) bs.length = matK (flowM bs f bs.length) (wayL n (edgeB bs f) y D x) k := by
  intro k
  induction k with
  | zero => intro _; rfl
  | succ k ih =>
    intro hk
    have hl := wayL_len n (edgeB bs f) y D x
    obtain ⟨u, hu⟩ : ∃ u, (wayL n (edgeB bs f) y D x)[k]? = some u := ⟨_, List.getElem?_eq_getElem (by omega)⟩
    obtain ⟨v, hv⟩ : ∃ v, (wayL n (edgeB bs f) y D x)[k + 1]? = some v := ⟨_, List.getElem?_eq_getElem (by omega)⟩
    rw [augK_succ hu hv, matK_succ hu hv, flowM_push hb (augK_step hx hD hu hv).2, ih (by omega)]
end
/-- what more can leave a point -/
def outR (bs : List Bd) (f : Nat → Int) (x : Nat) : Nat → Int
  | 0 => 0
  | m + 1 => outR bs f x m + match bs[m]? with
    | some e => if e.a = x then e.s - f m else if e.b = x then e.s + f m else 0
    | none => 0
theorem outR_bound {n : Nat} {bs : List Bd} (hb : BondsOk n bs) {f : Nat → Int} (h : InvF bs f) (x m : Nat) : 0 ≤ outR bs f x m ∧ outR bs f x m ≤ 8 * (m : Int) := by
  induction m with
  | zero => simp [outR]
  | succ m ih =>
    simp only [outR]
    cases he : bs[m]? with
    | none => simp; omega
    | some e =>
      have h1 := h m e he
      have h2 := hb.s m e he
      dsimp only
      have hk : ∃ d : Int, (if e.a = x then e.s - f m else if e.b = x then e.s + f m else 0) = d ∧ 0 ≤ d ∧ d ≤ 8 := by
        by_cases c1 : e.a = x
        · exact ⟨_, if_pos c1, by omega, by omega⟩
        · by_cases c2 : e.b = x
          · exact ⟨_, (if_neg c1).trans (if_pos c2), by omega, by omega⟩
          · exact ⟨0, (if_neg c1).trans (if_neg c2), by omega, by omega⟩
      obtain ⟨d, hd, h3, h4⟩ := hk
      rw [hd]
      omega
theorem outR_push {n : Nat} {bs : List Bd} (hb : BondsOk n bs) {f : Nat → Int} {u v x : Nat} (h : edgeB bs f u v = true) (hv : v ≠ x) : outR bs (pushB bs f u v) x bs.length = outR bs f x bs.length - if u = x then 1 else 0 := by
  unfold edgeB at h
  cases hf : firstB bs f u v with
  | none => rw [hf] at h; cases h
  | some i =>
    obtain ⟨h1, h2, _⟩ := firstB_some.1 hf
    have he := List.getElem?_eq_getElem h1
    obtain ⟨e, hee⟩ : ∃ e, bs[i] = e := ⟨_, rfl⟩
    rw [hee] at he
    rw [pushB_at hf he]
    rw [hitB_eq he] at h2
    simp only [Bool.and_eq_true, jo, decide_eq_true_eq] at h2
    have hne := hb.ne i e he
    have key : ∀ m, outR bs (fun j => if j = i then (if e.a = u then f i + 1 else f i - 1) else f j) x m = outR bs f x m - if i < m then (if u = x then 1 else 0) else 0 := by
      intro m
      induction m with
      | zero => simp [outR]
      | succ m ih =>
        simp only [outR]
        rw [ih]
        by_cases hm : m = i
        · subst hm
          rw [he]
          dsimp only
          rw [if_pos rfl, if_neg (Nat.lt_irrefl _), if_pos (Nat.lt_succ_self _)]
          rcases h2.1 with ⟨p1, p2⟩ | ⟨p1, p2⟩
          · subst p1 p2
            rw [if_pos rfl]
            by_cases c1 : e.a = x
            · rw [if_pos c1, if_pos c1, if_pos c1]; omega
            · rw [if_neg c1, if_neg c1, if_neg c1, if_neg hv, if_neg hv]; omega
          · subst p1 p2
            rw [if_neg hne, if_neg hv, if_neg hv]
            by_cases c1 : e.b = x
            · rw [if_pos c1, if_pos c1, if_pos c1]; omega
            · rw [if_neg c1, if_neg c1, if_neg c1]; omega
        · rw [if_neg hm]
          have : (i < m + 1) ↔ (i < m) := by omega
          simp only [this]
          omega
    rw [key, if_pos h1]
section
variable {n : Nat} {bs : List Bd} {f : Nat → Int} {x y D : Nat}
theorem outR_aug (hb : BondsOk n bs) (hx : x < n) (hD : distTo n (edgeB bs f) y x = some D) : ∀ k, k ≤ D → outR bs (augK bs f (wayL n (edgeB bs f) y D x) k) x bs.length = outR bs f x bs.length - if 0 < k then 1 else 0 := by
  intro k
  induction k with
  | zero => intro _; simp [augK]
  | succ k ih =>
    intro hk
    have hl := wayL_len n (edgeB bs f) y D x
    obtain ⟨u, hu⟩ : ∃ u, (wayL n (edgeB bs f) y D x)[k]? = some u := ⟨_, List.getElem?_eq_getElem (by omega)⟩
    obtain ⟨v, hv⟩ : ∃ v, (wayL n (edgeB bs f) y D x)[k + 1]? = some v := ⟨_, List.getElem?_eq_getElem (by omega)⟩
    have hvx : v ≠ x := fun e => by
      have := wayL_start hx hD (e ▸ hv)
      omega
    rw [augK_succ hu hv, outR_push hb (augK_step hx hD hu hv).2 hvx, ih (by omega)]
    by_cases h0 : k = 0
    · subst h0
      rw [wayL_head] at hu
      obtain rfl := Option.some.inj hu
      simp
    · have : u ≠ x := fun e => h0 (wayL_start hx hD (e ▸ hu))
      rw [if_neg this, if_pos (by omega), if_pos (by omega)]
      omega
end
/-- the flows, one unit after the other -/
noncomputable def iterF (n : Nat) (bs : List Bd) (x y : Nat) : Nat → Nat → Int
  | 0 => fun _ => 0
  | k + 1 => match wayTo n (edgeB bs (iterF n bs x y k)) x y with
    | some W => augK bs (iterF n bs x y k) W (W.length - 1)
    | none => iterF n bs x y k
def stopF (n : Nat) (bs : List Bd) (x y k : Nat) : Prop := wayTo n (edgeB bs (iterF n bs x y k)) x y = none
theorem iterF_inv {n : Nat} {bs : List Bd} (hb : BondsOk n bs) (x y k : Nat) : InvF bs (iterF n bs x y k) := by
  induction k with
  | zero =>
    intro i e he
    have := hb.s i e he
    simp only [iterF]
    omega
  | succ k ih =>
    simp only [iterF]
    split
    · exact augK_inv ih _
    · exact ih
theorem wayTo_some {n : Nat} {E : Nat → Nat → Bool} {x y : Nat} {W : List Nat} (h : wayTo n E x y = some W) : ∃ D, distTo n E y x = some D ∧ W = wayL n E y D x ∧ W.length = D + 1 := by
  unfold wayTo at h
  cases hd : distTo n E y x with
  | none => rw [hd] at h; cases h
  | some D =>
    rw [hd] at h
    injection h with h
    exact ⟨D, rfl, h.symm, by rw [← h, wayL_len]⟩
theorem iterF_out {n : Nat} {bs : List Bd} (hb : BondsOk n bs) {x y k : Nat} (hx : x < n) (hxy : x ≠ y) (h : ¬ stopF n bs x y k) : outR bs (iterF n bs x y (k + 1)) x bs.length = outR bs (iterF n bs x y k) x bs.length - 1 := by
  unfold stopF at h
  cases hw : wayTo n (edgeB bs (iterF n bs x y k)) x y with
  | none => exact (h hw).elim
  | some W =>
    obtain ⟨D, hD, hW, hl⟩ := wayTo_some hw
    have hD0 : 0 < D := by
      rcases Nat.eq_zero_or_pos D with h0 | h0
      · subst h0
        exact (hxy (distTo_zero hD)).elim
      · exact h0
    simp only [iterF, hw]
    rw [hl, hW, outR_aug hb hx hD (D + 1 - 1) (by omega), if_pos (by omega)]
theorem exists_stop {n : Nat} {bs : List Bd} (hb : BondsOk n bs) {x y : Nat} (hx : x < n) (hxy : x ≠ y) : ∃ k, stopF n bs x y k := by
  have key : ∀ (m k : Nat), outR bs (iterF n bs x y k) x bs.length ≤ (m : Int) → ∃ k, stopF n bs x y k := by
    intro m
    induction m with
    | zero =>
      intro k hk
      by_cases hs : stopF n bs x y k
      · exact ⟨k, hs⟩
      · have h1 := iterF_out hb hx hxy hs
        have h2 := (outR_bound hb (iterF_inv hb x y (k + 1)) x bs.length).1
        omega
    | succ m ih =>
      intro k hk
      by_cases hs : stopF n bs x y k
      · exact ⟨k, hs⟩
      · have h1 := iterF_out hb hx hxy hs
        exact ih (k + 1) (by omega)
  have h0 := (outR_bound hb (iterF_inv hb x y 0) x bs.length).2
  exact key (8 * bs.length) 0 (by omega)
open Classical in
/-- the greatest flow's value -/
noncomputable def flowV (n : Nat) (bs : List Bd) (x y : Nat) : Nat := if h : ∃ k, stopF n bs x y k then Classical.choose (exists_least h) else 0
theorem flowV_eq {n : Nat} {bs : List Bd} {x y k : Nat} (h1 : stopF n bs x y k) (h2 : ∀ j, j < k → ¬ stopF n bs x y j) : flowV n bs x y = k := by
  unfold flowV
  rw [dif_pos ⟨k, h1⟩]
  have hs := Classical.choose_spec (exists_least ⟨k, h1⟩)
  rcases Nat.lt_trichotomy (Classical.choose (exists_least ⟨k, h1⟩)) k with h3 | h3 | h3
  · exact (h2 _ h3 hs.1).elim
  · exact h3
  · exact (hs.2 _ h3 h1).elim
/-- how many units at most -/
theorem iterF_left {n : Nat} {bs : List Bd} (hb : BondsOk n bs) {x y k : Nat} (hx : x < n) (hxy : x ≠ y) (h : ∀ j, j < k → ¬ stopF n bs x y j) : (k : Int) + outR bs (iterF n bs x y k) x bs.length ≤ 8 * (bs.length : Int) ∧ 0 ≤ outR bs (iterF n bs x y k) x bs.length := by
  refine ⟨?_, (outR_bound hb (iterF_inv hb x y k) x bs.length).1⟩
  induction k with
  | zero =>
    have := (outR_bound hb (iterF_inv hb x y 0) x bs.length).2
    omega
  | succ k ih =>
    have h1 := ih (fun j hj => h j (by omega))
    have h2 := iterF_out hb hx hxy (h k (by omega))
    omega
end Go.Proofs.YtmhgjgclclnmaaaGreat
