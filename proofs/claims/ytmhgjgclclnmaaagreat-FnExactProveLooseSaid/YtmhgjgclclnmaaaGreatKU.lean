import Derived.Test.YtmhgjgclclnmaaaGreatP9
import Derived.Test.YtmhgjgclclnmaaaGreatKQ
import Derived.Test.YtmhgjgclclnmaaaGreatN1
import Derived.Test.YtmhgjgclclnmaaaGreatHTo
import Derived.Test.YtmhgjgclclnmaaaGreatOrdApp
import Derived.Test.YtmhgjgclclnmaaaGreatD1
import Derived.Test.YtmhgjgclclnmaaaGreatF6
import Derived.Test.YtmhgjgclclnmaaaGreatW23
import Derived.Test.YtmhgjgclclnmaaaGreatF7
set_option linter.unusedSimpArgs false
set_option linter.unusedVariables false
/- Plain facts: the greatest flow between two points is as strong as the weakest cut between them. -/

namespace Go.Proofs.YtmhgjgclclnmaaaGreat
/-- what leaves a point over one bond -/
def tmF (e : Bd) (c : Int) (t : Nat) : Int := (if t = e.a then c else 0) - (if t = e.b then c else 0)
theorem tmF_add (e : Bd) (c d : Int) (t : Nat) : tmF e (c + d) t = tmF e c t + tmF e d t := by
  unfold tmF
  split <;> split <;> omega
theorem tmF_sub (e : Bd) (c d : Int) (t : Nat) : tmF e (c - d) t = tmF e c t - tmF e d t := by
  unfold tmF
  split <;> split <;> omega
/-- what leaves a point over the first m bonds -/
def netF (bs : List Bd) (f : Nat → Int) (t : Nat) : Nat → Int
  | 0 => 0
  | m + 1 => netF bs f t m + match bs[m]? with
    | some e => tmF e (f m) t
    | none => 0
theorem netF_some {bs : List Bd} (f : Nat → Int) (t : Nat) {m : Nat} {e : Bd} (he : bs[m]? = some e) : netF bs f t (m + 1) = netF bs f t m + tmF e (f m) t := by simp only [netF, he]
theorem netF_none {bs : List Bd} (f : Nat → Int) (t : Nat) {m : Nat} (he : bs[m]? = none) : netF bs f t (m + 1) = netF bs f t m := by simp only [netF, he, Int.add_zero]
theorem netF_push {n : Nat} {bs : List Bd} (hb : BondsOk n bs) {f : Nat → Int} {u v : Nat} (h : edgeB bs f u v = true) (t : Nat) : netF bs (pushB bs f u v) t bs.length = netF bs f t bs.length + ((if t = u then 1 else 0) - (if t = v then 1 else 0)) := by
  unfold edgeB at h
  cases hf : firstB bs f u v with
  | none => rw [hf] at h; cases h
  | some i =>
    obtain ⟨h1, h2, _⟩ := firstB_some.1 hf
    have he := List.getElem?_eq_getElem h1
    obtain ⟨e, hee⟩ : ∃ e, bs[i] = e := ⟨_, rfl⟩
    rw [hee] at he
    rw [pushB_at hf he]
    rw [hitB_eq he] at h2
    simp only [Bool.and_eq_true, jo, decide_eq_true_eq] at h2
    have hne := hb.ne i e he
    have key : ∀ m, netF bs (fun j => if j = i then (if e.a = u then f i + 1 else f i - 1) else f j) t m = netF bs f t m + if i < m then ((if t = u then 1 else 0) - (if t = v then 1 else 0)) else 0 := by
      intro m
      induction m with
      | zero => simp [netF]
      | succ m ih =>
        by_cases hm : m = i
        · subst hm
          rw [netF_some _ t he, netF_some f t he, ih, if_pos rfl, if_neg (Nat.lt_irrefl _), if_pos (Nat.lt_succ_self _)]
          rcases h2.1 with ⟨p1, p2⟩ | ⟨p1, p2⟩
          · subst p1 p2
            rw [if_pos rfl, tmF_add]
            simp only [tmF]
            omega
          · subst p1 p2
            rw [if_neg hne, tmF_sub]
            simp only [tmF]
            omega
        · have hlt : (i < m + 1) ↔ (i < m) := by omega
          cases he' : bs[m]? with
          | none =>
            rw [netF_none _ t he', netF_none f t he', ih]
            simp only [hlt]
          | some e' =>
            rw [netF_some _ t he', netF_some f t he', ih, if_neg hm]
            simp only [hlt]
            omega
    rw [key, if_pos h1]
section
variable {n : Nat} {bs : List Bd} {f : Nat → Int} {x y D : Nat}
theorem netF_aug (hb : BondsOk n bs) (hx : x < n) (hD : distTo n (edgeB bs f) y x = some D) (t : Nat) : ∀ (k u : Nat), (wayL n (edgeB bs f) y D x)[k]? = some u →
    netF bs (augK bs f (wayL n (edgeB bs f) y D x) k) t bs.length = netF bs f t bs.length + ((if t = x then 1 else 0) - (if t = u then 1 else 0)) := by
  intro k
  induction k with
  | zero =>
    intro u hu
    rw [wayL_head] at hu
    obtain rfl := Option.some.inj hu
    simp only [augK]
    omega
  | succ k ih =>
    intro v hv
    have hlt := (List.getElem?_eq_some_iff.1 hv).1
    obtain ⟨u, hu⟩ : ∃ u, (wayL n (edgeB bs f) y D x)[k]? = some u := ⟨_, List.getElem?_eq_getElem (by omega)⟩
    rw [augK_succ hu hv, netF_push hb (augK_step hx hD hu hv).2 t, ih u hu]
    omega
end
theorem netF_zero (bs : List Bd) (t m : Nat) : netF bs (fun _ => 0) t m = 0 := by
  induction m with
  | zero => rfl
  | succ m ih =>
    cases he : bs[m]? with
    | none => rw [netF_none _ t he, ih]
    | some e => rw [netF_some _ t he, ih]; simp [tmF]
theorem netF_iter {n : Nat} {bs : List Bd} (hb : BondsOk n bs) {x y : Nat} (hx : x < n) (t : Nat) : ∀ k, (∀ j, j < k → ¬ stopF n bs x y j) →
    netF bs (iterF n bs x y k) t bs.length = (if t = x then (k : Int) else 0) - (if t = y then (k : Int) else 0) := by
  intro k
  induction k with
  | zero =>
    intro _
    simp only [iterF]
    rw [netF_zero]
    simp
  | succ k ih =>
    intro h
    have ih := ih (fun j hj => h j (by omega))
    have hs := h k (by omega)
    unfold stopF at hs
    cases hw : wayTo n (edgeB bs (iterF n bs x y k)) x y with
    | none => exact (hs hw).elim
    | some W =>
      obtain ⟨D, hD, hW, hl⟩ := wayTo_some hw
      simp only [iterF, hw]
      rw [hl, hW, netF_aug hb hx hD t (D + 1 - 1) y (wayL_last hx hD), ih]
      by_cases c1 : t = x
      · by_cases c2 : t = y
        · (simp only [if_pos c1, if_pos c2, Int.sub_zero, Int.zero_sub, Int.sub_self]) <;> omega
        · (simp only [if_pos c1, if_neg c2, Int.sub_zero, Int.zero_sub, Int.sub_self]) <;> omega
      · by_cases c2 : t = y
        · (simp only [if_neg c1, if_pos c2, Int.sub_zero, Int.zero_sub, Int.sub_self]) <;> omega
        · (simp only [if_neg c1, if_neg c2, Int.sub_zero, Int.zero_sub, Int.sub_self]) <;> omega
theorem flowV_stop {n : Nat} {bs : List Bd} (hb : BondsOk n bs) {x y : Nat} (hx : x < n) (hxy : x ≠ y) : stopF n bs x y (flowV n bs x y) ∧ ∀ j, j < flowV n bs x y → ¬ stopF n bs x y j := by
  obtain ⟨k, h1, h2⟩ := exists_least (exists_stop hb hx hxy)
  rw [flowV_eq h1 h2]
  exact ⟨h1, h2⟩
/-- the greatest flow -/
noncomputable def finF (n : Nat) (bs : List Bd) (x y : Nat) : Nat → Int := iterF n bs x y (flowV n bs x y)
theorem netF_fin {n : Nat} {bs : List Bd} (hb : BondsOk n bs) {x y : Nat} (hx : x < n) (hxy : x ≠ y) (t : Nat) :
    netF bs (finF n bs x y) t bs.length = (if t = x then (flowV n bs x y : Int) else 0) - (if t = y then (flowV n bs x y : Int) else 0) :=
  netF_iter hb hx t _ (flowV_stop hb hx hxy).2
/-- sums over the points of a part -/
def sumV (g : Nat → Int) (P : Nat → Bool) : Nat → Int
  | 0 => 0
  | n + 1 => sumV g P n + if P n = true then g n else 0
theorem sumV_add (g h : Nat → Int) (P : Nat → Bool) (n : Nat) : sumV (fun v => g v + h v) P n = sumV g P n + sumV h P n := by
  induction n with
  | zero => simp [sumV]
  | succ n ih =>
    simp only [sumV]
    rw [ih]
    split <;> omega
theorem sumV_sub (g h : Nat → Int) (P : Nat → Bool) (n : Nat) : sumV (fun v => g v - h v) P n = sumV g P n - sumV h P n := by
  induction n with
  | zero => simp [sumV]
  | succ n ih =>
    simp only [sumV]
    rw [ih]
    split <;> omega
theorem sumV_zero (P : Nat → Bool) (n : Nat) : sumV (fun _ => 0) P n = 0 := by
  induction n with
  | zero => rfl
  | succ n ih => simp only [sumV]; rw [ih]; split <;> rfl
theorem sumV_congr {g h : Nat → Int} {P : Nat → Bool} {n : Nat} (e : ∀ v, v < n → g v = h v) : sumV g P n = sumV h P n := by
  induction n with
  | zero => rfl
  | succ n ih => simp only [sumV]; rw [ih (fun v hv => e v (by omega)), e n (by omega)]
theorem sumV_at (a : Nat) (c : Int) (P : Nat → Bool) : ∀ n, sumV (fun v => if v = a then c else 0) P n = if a < n then (if P a = true then c else 0) else 0
  | 0 => by simp [sumV]
  | n + 1 => by
    simp only [sumV]
    rw [sumV_at a c P n]
    by_cases h : n = a
    · subst h
      rw [if_neg (Nat.lt_irrefl _), if_pos (Nat.lt_succ_self _), if_pos rfl]
      omega
    · rw [if_neg h]
      have : (a < n + 1) ↔ (a < n) := by omega
      simp only [this]
      split <;> split <;> omega
/-- what crosses from a part to the rest -/
def crossF (bs : List Bd) (f : Nat → Int) (P : Nat → Bool) : Nat → Int
  | 0 => 0
  | m + 1 => crossF bs f P m + match bs[m]? with
    | some e => (if P e.a = true then f m else 0) - (if P e.b = true then f m else 0)
    | none => 0
theorem crossF_some {bs : List Bd} (f : Nat → Int) (P : Nat → Bool) {m : Nat} {e : Bd} (he : bs[m]? = some e) : crossF bs f P (m + 1) = crossF bs f P m + ((if P e.a = true then f m else 0) - (if P e.b = true then f m else 0)) := by simp only [crossF, he]
theorem crossF_none {bs : List Bd} (f : Nat → Int) (P : Nat → Bool) {m : Nat} (he : bs[m]? = none) : crossF bs f P (m + 1) = crossF bs f P m := by simp only [crossF, he, Int.add_zero]
/-- the strength of the bonds between a part and the rest -/
def cutP (bs : List Bd) (P : Nat → Bool) : Nat → Int
  | 0 => 0
  | m + 1 => cutP bs P m + match bs[m]? with
    | some e => if P e.a = P e.b then 0 else e.s
    | none => 0
theorem cutP_some {bs : List Bd} (P : Nat → Bool) {m : Nat} {e : Bd} (he : bs[m]? = some e) : cutP bs P (m + 1) = cutP bs P m + (if P e.a = P e.b then 0 else e.s) := by simp only [cutP, he]
theorem cutP_none {bs : List Bd} (P : Nat → Bool) {m : Nat} (he : bs[m]? = none) : cutP bs P (m + 1) = cutP bs P m := by simp only [cutP, he, Int.add_zero]
theorem sumV_net {n : Nat} {bs : List Bd} (hb : BondsOk n bs) (f : Nat → Int) (P : Nat → Bool) : ∀ m, sumV (fun v => netF bs f v m) P n = crossF bs f P m
  | 0 => by simp only [netF, crossF]; exact sumV_zero P n
  | m + 1 => by
    cases he : bs[m]? with
    | none =>
      rw [crossF_none f P he, sumV_congr (fun v _ => netF_none f v he)]
      exact sumV_net hb f P m
    | some e =>
      rw [crossF_some f P he, sumV_congr (fun v _ => netF_some f v he), sumV_add, sumV_net hb f P m]
      unfold tmF
      rw [sumV_sub, sumV_at, sumV_at, if_pos (hb.a m e he), if_pos (hb.b m e he)]
theorem cross_fin {n : Nat} {bs : List Bd} (hb : BondsOk n bs) {x y : Nat} (hx : x < n) (hxy : x ≠ y) {P : Nat → Bool} (h1 : P x = true) (h2 : P y = false) : crossF bs (finF n bs x y) P bs.length = (flowV n bs x y : Int) := by
  rw [← sumV_net hb, sumV_congr (fun v _ => netF_fin hb hx hxy v), sumV_sub, sumV_at, sumV_at, if_pos hx, if_pos h1]
  rw [h2]
  split <;> simp
theorem cross_le {bs : List Bd} {f : Nat → Int} (h : InvF bs f) (P : Nat → Bool) : ∀ m, crossF bs f P m ≤ cutP bs P m
  | 0 => Int.le_refl _
  | m + 1 => by
    have ih := cross_le h P m
    cases he : bs[m]? with
    | none => rw [crossF_none f P he, cutP_none P he]; exact ih
    | some e =>
      have hi := h m e he
      rw [crossF_some f P he, cutP_some P he]
      cases ha : P e.a <;> cases hc : P e.b <;> simp <;> omega
theorem cross_eq {bs : List Bd} {f : Nat → Int} {P : Nat → Bool} (h : ∀ (i : Nat) (e : Bd), bs[i]? = some e → (P e.a = true → P e.b = false → f i = e.s) ∧ (P e.a = false → P e.b = true → f i = - e.s)) : ∀ m, crossF bs f P m = cutP bs P m
  | 0 => rfl
  | m + 1 => by
    have ih := cross_eq h m
    cases he : bs[m]? with
    | none => rw [crossF_none f P he, cutP_none P he]; exact ih
    | some e =>
      have hi := h m e he
      rw [crossF_some f P he, cutP_some P he, ih]
      cases ha : P e.a <;> cases hc : P e.b
      · simp
      · have := hi.2 ha hc; simp; omega
      · have := hi.1 ha hc; simp; omega
      · simp
theorem finF_inv {n : Nat} {bs : List Bd} (hb : BondsOk n bs) (x y : Nat) : InvF bs (finF n bs x y) := iterF_inv hb x y _
/-- no flow is greater than a cut -/
theorem flow_le_cut {n : Nat} {bs : List Bd} (hb : BondsOk n bs) {x y : Nat} (hx : x < n) {P : Nat → Bool} (h1 : P x = true) (h2 : P y = false) : (flowV n bs x y : Int) ≤ cutP bs P bs.length := by
  have hxy : x ≠ y := fun e => by rw [e, h2] at h1; cases h1
  rw [← cross_fin hb hx hxy h1 h2]
  exact cross_le (finF_inv hb x y) P _
/-- the points from which there is no way to y in the end -/
noncomputable def farP (n : Nat) (bs : List Bd) (x y : Nat) : Nat → Bool := fun v => !(distTo n (edgeB bs (finF n bs x y)) y v).isSome
theorem farP_x {n : Nat} {bs : List Bd} (hb : BondsOk n bs) {x y : Nat} (hx : x < n) (hxy : x ≠ y) : farP n bs x y x = true := by
  have h := (flowV_stop hb hx hxy).1
  unfold stopF wayTo at h
  unfold farP finF
  cases hd : distTo n (edgeB bs (iterF n bs x y (flowV n bs x y))) y x with
  | none => rfl
  | some d => rw [hd] at h; cases h
theorem farP_y (n : Nat) (bs : List Bd) (x y : Nat) : farP n bs x y y = false := by
  unfold farP
  rw [distTo_goal]
  rfl
theorem far_no_edge {n : Nat} {bs : List Bd} {x y u v : Nat} (hv : v < n) (hu : farP n bs x y u = true) (hw : farP n bs x y v = false) : edgeB bs (finF n bs x y) u v = false := by
  cases he : edgeB bs (finF n bs x y) u v
  · rfl
  · exfalso
    unfold farP at hu hw
    cases hd : distTo n (edgeB bs (finF n bs x y)) y v with
    | none => rw [hd] at hw; cases hw
    | some d =>
      obtain ⟨d', hd', _⟩ := distTo_edge hv he hd
      rw [hd'] at hu
      cases hu
theorem flow_eq_cut {n : Nat} {bs : List Bd} (hb : BondsOk n bs) {x y : Nat} (hx : x < n) (hxy : x ≠ y) : (flowV n bs x y : Int) = cutP bs (farP n bs x y) bs.length := by
  rw [← cross_fin hb hx hxy (farP_x hb hx hxy) (farP_y n bs x y)]
  refine cross_eq (fun i e he => ?_) _
  have hinv := finF_inv hb x y i e he
  have hne := hb.ne i e he
  constructor
  · intro ha hc
    have := far_no_edge (hb.b i e he) ha hc
    have hr : ¬ 0 < rs e (finF n bs x y i) e.a := fun hr => by
      have h2 : edgeB bs (finF n bs x y) e.a e.b = true := edgeB_true.2 ⟨i, e, he, by simp [jo], hr⟩
      rw [this] at h2
      cases h2
    unfold rs at hr
    rw [if_pos rfl] at hr
    omega
  · intro ha hc
    have := far_no_edge (hb.a i e he) hc ha
    have hr : ¬ 0 < rs e (finF n bs x y i) e.b := fun hr => by
      have h2 : edgeB bs (finF n bs x y) e.b e.a = true := edgeB_true.2 ⟨i, e, he, by simp [jo], hr⟩
      rw [this] at h2
      cases h2
    unfold rs at hr
    rw [if_neg hne] at hr
    omega
theorem cutP_not (bs : List Bd) (P : Nat → Bool) : ∀ m, cutP bs (fun v => !P v) m = cutP bs P m
  | 0 => rfl
  | m + 1 => by
    cases he : bs[m]? with
    | none => rw [cutP_none _ he, cutP_none P he, cutP_not bs P m]
    | some e =>
      rw [cutP_some _ he, cutP_some P he, cutP_not bs P m]
      cases P e.a <;> cases P e.b <;> simp
theorem cutP_congr {n : Nat} {bs : List Bd} (hb : BondsOk n bs) {P Q : Nat → Bool} (h : ∀ v, v < n → P v = Q v) : ∀ m, cutP bs P m = cutP bs Q m
  | 0 => rfl
  | m + 1 => by
    cases he : bs[m]? with
    | none => rw [cutP_none P he, cutP_none Q he, cutP_congr hb h m]
    | some e => rw [cutP_some P he, cutP_some Q he, cutP_congr hb h m, h _ (hb.a m e he), h _ (hb.b m e he)]
/-- as much flows in the other direction -/
theorem flowV_comm {n : Nat} {bs : List Bd} (hb : BondsOk n bs) {x y : Nat} (hx : x < n) (hy : y < n) (hxy : x ≠ y) : flowV n bs x y = flowV n bs y x := by
  have key : ∀ {x y : Nat}, x < n → y < n → x ≠ y → (flowV n bs y x : Int) ≤ (flowV n bs x y : Int) := fun {x y} hx hy hxy => by
    rw [flow_eq_cut hb hx hxy, ← cutP_not]
    refine flow_le_cut hb hy ?_ ?_
    · simp only [farP_y, Bool.not_false]
    · simp only [farP_x hb hx hxy, Bool.not_true]
  have h1 := key hx hy hxy
  have h2 := key hy hx hxy.symm
  omega
theorem cutP_nonneg {n : Nat} {bs : List Bd} (hb : BondsOk n bs) (P : Nat → Bool) : ∀ m, 0 ≤ cutP bs P m
  | 0 => Int.le_refl _
  | m + 1 => by
    have ih := cutP_nonneg hb P m
    cases he : bs[m]? with
    | none => rw [cutP_none P he]; exact ih
    | some e =>
      have := hb.s m e he
      rw [cutP_some P he]
      split <;> omega
/-- a bond between both parts is part of the cut -/
theorem cutP_ge {n : Nat} {bs : List Bd} (hb : BondsOk n bs) {P : Nat → Bool} {i : Nat} {e : Bd} (he : bs[i]? = some e) (h : P e.a ≠ P e.b) : ∀ m, i < m → e.s ≤ cutP bs P m
  | 0, hi => by omega
  | m + 1, hi => by
    have h0 := cutP_nonneg hb P m
    by_cases hm : i = m
    · subst hm
      rw [cutP_some P he, if_neg h]
      omega
    · have ih := cutP_ge hb he h m (by omega)
      cases he' : bs[m]? with
      | none => rw [cutP_none P he']; exact ih
      | some e' =>
        have := hb.s m e' he'
        rw [cutP_some P he']
        split <;> omega
end Go.Proofs.YtmhgjgclclnmaaaGreat
/- Plain facts: bonds turned around carry the same flows; bonds between groups. -/


namespace Go.Proofs.YtmhgjgclclnmaaaGreat
def swB (e : Bd) : Bd := ⟨e.b, e.a, e.s⟩
/-- some of the bonds are turned around -/
structure TurnedB (bs cs : List Bd) (σ : Nat → Bool) : Prop where
  len : cs.length = bs.length
  get : ∀ (i : Nat) (e : Bd), bs[i]? = some e → cs[i]? = some (if σ i = true then swB e else e)
def flipF (σ : Nat → Bool) (f : Nat → Int) : Nat → Int := fun i => if σ i = true then -f i else f i
section
variable {n : Nat} {bs cs : List Bd} {σ : Nat → Bool}
theorem jo_sw (e : Bd) (u v : Nat) : jo (swB e) u v = jo e u v := by
  unfold jo swB
  apply decide_eq_decide.2
  constructor
  · rintro (⟨h1, h2⟩ | ⟨h1, h2⟩)
    · exact .inr ⟨h2, h1⟩
    · exact .inl ⟨h2, h1⟩
  · rintro (⟨h1, h2⟩ | ⟨h1, h2⟩)
    · exact .inr ⟨h2, h1⟩
    · exact .inl ⟨h2, h1⟩
theorem rs_sw {e : Bd} {x : Int} {u v : Nat} (hne : e.a ≠ e.b) (h : jo e u v = true) : rs (swB e) (-x) u = rs e x u := by
  simp only [jo, decide_eq_true_eq] at h
  unfold rs swB
  dsimp only
  rcases h with ⟨h1, h2⟩ | ⟨h1, h2⟩
  · subst h1
    rw [if_neg (fun h => hne h.symm), if_pos rfl]; omega
  · subst h2
    rw [if_pos rfl, if_neg hne]; omega
theorem hit_turn (h : TurnedB bs cs σ) (hb : BondsOk n bs) (f : Nat → Int) (u v i : Nat) : hitB cs (flipF σ f) u v i = hitB bs f u v i := by
  cases he : bs[i]? with
  | none =>
    have : cs[i]? = none := by rw [List.getElem?_eq_none_iff, h.len]; exact List.getElem?_eq_none_iff.1 he
    unfold hitB; rw [he, this]
  | some e =>
    rw [hitB_eq he, hitB_eq (h.get i e he)]
    unfold flipF
    by_cases hs : σ i = true
    · rw [if_pos hs, if_pos hs, jo_sw]
      by_cases hj : jo e u v = true
      · rw [rs_sw (hb.ne i e he) hj]
      · have hj : jo e u v = false := by simpa using hj
        simp [hj]
    · rw [if_neg hs, if_neg hs]
theorem first_turn (h : TurnedB bs cs σ) (hb : BondsOk n bs) (f : Nat → Int) (u v : Nat) : firstB cs (flipF σ f) u v = firstB bs f u v := by
  unfold firstB
  rw [h.len]
  have : hitB cs (flipF σ f) u v = hitB bs f u v := funext fun i => hit_turn h hb f u v i
  rw [this]
theorem edge_turn (h : TurnedB bs cs σ) (hb : BondsOk n bs) (f : Nat → Int) : edgeB cs (flipF σ f) = edgeB bs f := by
  funext u v
  unfold edgeB
  rw [first_turn h hb]
theorem push_turn (h : TurnedB bs cs σ) (hb : BondsOk n bs) (f : Nat → Int) (u v : Nat) : pushB cs (flipF σ f) u v = flipF σ (pushB bs f u v) := by
  cases hf : firstB bs f u v with
  | none =>
    have h1 := first_turn h hb f u v
    rw [hf] at h1
    unfold pushB
    rw [hf, h1]
  | some i =>
    have h1 := first_turn h hb f u v
    rw [hf] at h1
    obtain ⟨hi, hh, _⟩ := firstB_some.1 hf
    have he := List.getElem?_eq_getElem hi
    rw [hitB_eq he] at hh
    have hj : jo bs[i] u v = true := by revert hh; cases jo bs[i] u v <;> simp
    have hne := hb.ne i _ he
    rw [pushB_at hf he, pushB_at h1 (h.get i _ he)]
    generalize bs[i] = e at *
    simp only [jo, decide_eq_true_eq] at hj
    funext j
    unfold flipF
    by_cases hji : j = i
    · subst hji
      dsimp only
      rw [if_pos rfl, if_pos rfl]
      by_cases hs : σ j = true
      · rw [if_pos hs, if_pos hs, if_pos hs]
        unfold swB
        dsimp only
        rcases hj with ⟨h2, h3⟩ | ⟨h2, h3⟩
        · subst h2
          rw [if_neg (fun h => hne h.symm), if_pos rfl]; omega
        · subst h3
          rw [if_pos rfl, if_neg hne]; omega
      · rw [if_neg hs, if_neg hs, if_neg hs]
    · dsimp only
      rw [if_neg hji, if_neg hji]
theorem aug_turn (h : TurnedB bs cs σ) (hb : BondsOk n bs) (f : Nat → Int) (W : List Nat) : ∀ k, augK cs (flipF σ f) W k = flipF σ (augK bs f W k)
  | 0 => rfl
  | k + 1 => by
    simp only [augK]
    rw [aug_turn h hb f W k]
    split
    · exact push_turn h hb _ _ _
    · rfl
theorem iter_turn (h : TurnedB bs cs σ) (hb : BondsOk n bs) (x y : Nat) : ∀ k, iterF n cs x y k = flipF σ (iterF n bs x y k)
  | 0 => by
    funext i
    simp [iterF, flipF]
  | k + 1 => by
    simp only [iterF]
    rw [iter_turn h hb x y k, edge_turn h hb]
    split
    · exact aug_turn h hb _ _ _
    · rfl
theorem stop_turn (h : TurnedB bs cs σ) (hb : BondsOk n bs) (x y k : Nat) : stopF n cs x y k ↔ stopF n bs x y k := by
  unfold stopF
  rw [iter_turn h hb, edge_turn h hb]
theorem flowV_turn (h : TurnedB bs cs σ) (hb : BondsOk n bs) (x y : Nat) : flowV n cs x y = flowV n bs x y := by
  by_cases hE : ∃ k, stopF n bs x y k
  · obtain ⟨K, h1, h2⟩ := exists_least hE
    rw [flowV_eq h1 h2]
    exact flowV_eq ((stop_turn h hb x y K).2 h1) (fun j hj hs => h2 j hj ((stop_turn h hb x y j).1 hs))
  · unfold flowV
    rw [dif_neg hE, dif_neg (fun ⟨k, hk⟩ => hE ⟨k, (stop_turn h hb x y k).1 hk⟩)]
end
/-- the bonds of at least a strength -/
def strongL (t : Int) (bs : List Bd) (k : Nat) : List Bd := (bs.take k).filter fun b => decide (t ≤ b.s)
theorem strongL_yes {t : Int} {bs : List Bd} {k : Nat} {e : Bd} (he : bs[k]? = some e) (h : t ≤ e.s) : strongL t bs (k + 1) = strongL t bs k ++ [e] := by
  obtain ⟨hk, rfl⟩ := List.getElem?_eq_some_iff.1 he
  unfold strongL; rw [List.take_succ_eq_append_getElem hk, List.filter_append]; simp [h]
theorem strongL_no {t : Int} {bs : List Bd} {k : Nat} {e : Bd} (he : bs[k]? = some e) (h : ¬ t ≤ e.s) : strongL t bs (k + 1) = strongL t bs k := by
  obtain ⟨hk, rfl⟩ := List.getElem?_eq_some_iff.1 he
  unfold strongL; rw [List.take_succ_eq_append_getElem hk, List.filter_append]; simp [h]
theorem strongL_len (t : Int) (bs : List Bd) (k : Nat) : (strongL t bs k).length ≤ k := Nat.le_trans (List.length_filter_le _ _) (List.length_take_le _ _)
theorem strongL_mem {t : Int} {bs : List Bd} {k j : Nat} {e : Bd} (h : (strongL t bs k)[j]? = some e) : ∃ q : Nat, bs[q]? = some e := by
  have hm := List.mem_of_getElem? h
  unfold strongL at hm
  obtain ⟨h1, _⟩ := List.mem_filter.1 hm
  obtain ⟨q, hq, rfl⟩ := List.mem_iff_getElem.1 (List.mem_of_mem_take h1)
  exact ⟨q, List.getElem?_eq_getElem hq⟩
/-- the numbers of a list get a name -/
def asg (f : Nat → Nat) (g : Nat) (l : List Nat) (j : Nat) : Nat → Nat := fun x => if x ∈ l.take j then g else f x
theorem asg_zero (f : Nat → Nat) (g : Nat) (l : List Nat) : asg f g l 0 = f := by funext x; simp [asg]
theorem asg_succ {f : Nat → Nat} {g : Nat} {l : List Nat} {j k : Nat} (h : l[j]? = some k) : asg f g l (j + 1) = fun x => if x = k then g else asg f g l j x := by
  obtain ⟨hj, rfl⟩ := List.getElem?_eq_some_iff.1 h
  funext x
  unfold asg
  rw [List.take_succ_eq_append_getElem hj]
  by_cases hx : x = l[j]
  · rw [if_pos hx, if_pos (List.mem_append.2 (.inr (List.mem_singleton.2 hx)))]
  · rw [if_neg hx]
    by_cases hm : x ∈ l.take j
    · rw [if_pos hm, if_pos (List.mem_append.2 (.inl hm))]
    · rw [if_neg hm, if_neg (fun h => (List.mem_append.1 h).elim hm fun h => hx (List.mem_singleton.1 h))]
/-- the names of the first g groups' numbers -/
def ofG (gss : List (List Nat)) : Nat → Nat → Nat
  | 0 => fun _ => 0
  | g + 1 => match gss[g]? with
    | some l => asg (ofG gss g) g l l.length
    | none => ofG gss g
theorem ofG_succ {gss : List (List Nat)} {g : Nat} {l : List Nat} (h : gss[g]? = some l) : ofG gss (g + 1) = asg (ofG gss g) g l l.length := by simp only [ofG, h]
theorem ofG_lt (gss : List (List Nat)) : ∀ g x, ofG gss g x < g ∨ ofG gss g x = 0
  | 0, x => .inr rfl
  | g + 1, x => by
    have ih := ofG_lt gss g x
    cases hg : gss[g]? with
    | some l =>
      rw [ofG_succ hg]
      unfold asg
      split
      · exact .inl (Nat.lt_succ_self _)
      · rcases ih with h | h
        · exact .inl (by omega)
        · exact .inr h
    | none =>
      have : ofG gss (g + 1) = ofG gss g := by simp only [ofG, hg]
      rw [this]
      rcases ih with h | h
      · exact .inl (by omega)
      · exact .inr h
/-- the bonds between the groups -/
def ctrI (f : Nat → Nat) (bs : List Bd) (k : Nat) : List Bd := (bs.take k).filterMap fun e => if f e.a = f e.b then none else some ⟨f e.a, f e.b, e.s⟩
def ctrS (f : Nat → Nat) (bs : List Bd) (k : Nat) : List Bd := (bs.take k).filterMap fun e => if f e.a = f e.b then none else some ⟨min (f e.a) (f e.b), max (f e.a) (f e.b), e.s⟩
theorem ctrI_yes {f : Nat → Nat} {bs : List Bd} {k : Nat} {e : Bd} (he : bs[k]? = some e) (h : f e.a ≠ f e.b) : ctrI f bs (k + 1) = ctrI f bs k ++ [⟨f e.a, f e.b, e.s⟩] := by
  obtain ⟨hk, rfl⟩ := List.getElem?_eq_some_iff.1 he
  unfold ctrI; rw [List.take_succ_eq_append_getElem hk, List.filterMap_append]; simp [h]
theorem ctrI_no {f : Nat → Nat} {bs : List Bd} {k : Nat} {e : Bd} (he : bs[k]? = some e) (h : f e.a = f e.b) : ctrI f bs (k + 1) = ctrI f bs k := by
  obtain ⟨hk, rfl⟩ := List.getElem?_eq_some_iff.1 he
  unfold ctrI; rw [List.take_succ_eq_append_getElem hk, List.filterMap_append]; simp [h]
theorem ctrS_yes {f : Nat → Nat} {bs : List Bd} {k : Nat} {e : Bd} (he : bs[k]? = some e) (h : f e.a ≠ f e.b) : ctrS f bs (k + 1) = ctrS f bs k ++ [⟨min (f e.a) (f e.b), max (f e.a) (f e.b), e.s⟩] := by
  obtain ⟨hk, rfl⟩ := List.getElem?_eq_some_iff.1 he
  unfold ctrS; rw [List.take_succ_eq_append_getElem hk, List.filterMap_append]; simp [h]
theorem ctrS_no {f : Nat → Nat} {bs : List Bd} {k : Nat} {e : Bd} (he : bs[k]? = some e) (h : f e.a = f e.b) : ctrS f bs (k + 1) = ctrS f bs k := by
  obtain ⟨hk, rfl⟩ := List.getElem?_eq_some_iff.1 he
  unfold ctrS; rw [List.take_succ_eq_append_getElem hk, List.filterMap_append]; simp [h]
theorem ctrI_len (f : Nat → Nat) (bs : List Bd) (k : Nat) : (ctrI f bs k).length ≤ k := Nat.le_trans (List.length_filterMap_le _ _) (List.length_take_le _ _)
theorem ctrS_len (f : Nat → Nat) (bs : List Bd) (k : Nat) : (ctrS f bs k).length ≤ k := Nat.le_trans (List.length_filterMap_le _ _) (List.length_take_le _ _)
theorem ctrS_map (f : Nat → Nat) (bs : List Bd) (k : Nat) : ctrS f bs k = (ctrI f bs k).map fun e => if e.b < e.a then swB e else e := by
  unfold ctrS ctrI
  rw [List.map_filterMap]
  congr 1
  funext e
  by_cases h : f e.a = f e.b
  · simp [h]
  · rw [if_neg h, if_neg h]
    simp only [Option.map_some, swB]
    congr 1
    by_cases hl : f e.b < f e.a
    · rw [if_pos hl, Nat.min_eq_right (by omega), Nat.max_eq_left (by omega)]
    · rw [if_neg hl, Nat.min_eq_left (by omega), Nat.max_eq_right (by omega)]
theorem ctr_turned (f : Nat → Nat) (bs : List Bd) (k : Nat) : TurnedB (ctrI f bs k) (ctrS f bs k) (fun i => match (ctrI f bs k)[i]? with | some e => decide (e.b < e.a) | none => false) := by
  refine ⟨by rw [ctrS_map]; simp, fun i e he => ?_⟩
  rw [ctrS_map, List.getElem?_map, he]
  simp
theorem ctrI_ok {f : Nat → Nat} {n c : Nat} {bs : List Bd} (hb : BondsOk n bs) (hf : ∀ x, f x < c) (k : Nat) : BondsOk c (ctrI f bs k) := by
  have hm : ∀ (i : Nat) (e : Bd), (ctrI f bs k)[i]? = some e → ∃ (q : Nat) (e' : Bd), bs[q]? = some e' ∧ f e'.a ≠ f e'.b ∧ e = ⟨f e'.a, f e'.b, e'.s⟩ := fun i e h => by
    have hm := List.mem_of_getElem? h
    unfold ctrI at hm
    obtain ⟨e', h1, h2⟩ := List.mem_filterMap.1 hm
    obtain ⟨q, hq, rfl⟩ := List.mem_iff_getElem.1 (List.mem_of_mem_take h1)
    split at h2
    · cases h2
    · rename_i hne
      injection h2 with h2
      exact ⟨q, _, List.getElem?_eq_getElem hq, hne, h2.symm⟩
  refine ⟨fun i e h => ?_, fun i e h => ?_, fun i e h => ?_, fun i e h => ?_⟩
  all_goals obtain ⟨q, e', h1, h2, rfl⟩ := hm i e h
  · exact hf _
  · exact hf _
  · exact h2
  · exact hb.s q e' h1
theorem ctrS_ok {f : Nat → Nat} {n c : Nat} {bs : List Bd} (hb : BondsOk n bs) (hf : ∀ x, f x < c) (k : Nat) : BondsOk c (ctrS f bs k) := by
  have h0 := ctrI_ok hb hf k
  have hm : ∀ (i : Nat) (e : Bd), (ctrS f bs k)[i]? = some e → ∃ e', (ctrI f bs k)[i]? = some e' ∧ e = if e'.b < e'.a then swB e' else e' := fun i e h => by
    rw [ctrS_map, List.getElem?_map] at h
    cases hi : (ctrI f bs k)[i]? with
    | none => rw [hi] at h; cases h
    | some e' =>
      rw [hi] at h
      injection h with h
      exact ⟨e', rfl, h.symm⟩
  refine ⟨fun i e h => ?_, fun i e h => ?_, fun i e h => ?_, fun i e h => ?_⟩
  all_goals (obtain ⟨e', h1, rfl⟩ := hm i e h; have ha := h0.a i e' h1; have hb' := h0.b i e' h1; have hn := h0.ne i e' h1; have hs := h0.s i e' h1; by_cases hc : e'.b < e'.a)
  all_goals (first | rw [if_pos hc] | rw [if_neg hc])
  · exact hb'
  · exact ha
  · exact ha
  · exact hb'
  · exact fun h => hn h.symm
  · exact hn
  · exact hs
  · exact hs
/-- the groups of points that strong bonds make -/
def grpT (n : Nat) (bs : List Bd) (t : Int) : List (List Nat) := groupsL (labOf (strongL t bs bs.length) (strongL t bs bs.length).length) n
theorem grpT_lt {n g k x : Nat} {bs : List Bd} {t : Int} {l : List Nat} (hg : (grpT n bs t)[g]? = some l) (hk : l[k]? = some x) : x < n := by
  unfold grpT at hg
  rw [groupsL_get] at hg
  obtain ⟨r, _, rfl⟩ := Option.map_eq_some_iff.1 hg
  have hm := List.mem_of_getElem? hk
  unfold partL at hm
  exact List.mem_range.1 (List.mem_filter.1 hm).1
theorem grpT_len (n : Nat) (bs : List Bd) (t : Int) : (grpT n bs t).length ≤ n := by
  unfold grpT groupsL
  rw [List.length_map]
  exact rootsL_len _ _
theorem grpT_len2 {n g : Nat} {bs : List Bd} {t : Int} {l : List Nat} (hg : (grpT n bs t)[g]? = some l) : l.length ≤ n := by
  unfold grpT at hg
  rw [groupsL_get] at hg
  obtain ⟨r, _, rfl⟩ := Option.map_eq_some_iff.1 hg
  unfold partL
  have := List.length_filter_le (fun k => labOf (strongL t bs bs.length) (strongL t bs bs.length).length k == r) (List.range n)
  simpa using this
/-- the group of each point -/
def nameT (n : Nat) (bs : List Bd) (t : Int) : Nat → Nat := ofG (grpT n bs t) (grpT n bs t).length
theorem nameT_lt {n : Nat} {bs : List Bd} {t : Int} (h : 0 < (grpT n bs t).length) (x : Nat) : nameT n bs t x < (grpT n bs t).length := by
  rcases ofG_lt (grpT n bs t) (grpT n bs t).length x with h1 | h1
  · exact h1
  · unfold nameT; omega
theorem nameT_le (n : Nat) (bs : List Bd) (t : Int) (x : Nat) : nameT n bs t x ≤ n := by
  have := grpT_len n bs t
  rcases ofG_lt (grpT n bs t) (grpT n bs t).length x with h1 | h1
  · unfold nameT; omega
  · unfold nameT; omega
/-- the bonds between the groups, as the program lists them -/
def shrI (n : Nat) (bs : List Bd) (t : Int) : List Bd := ctrI (nameT n bs t) bs bs.length
def shrS (n : Nat) (bs : List Bd) (t : Int) : List Bd := ctrS (nameT n bs t) bs bs.length
theorem shr_flow {n : Nat} {bs : List Bd} {t : Int} (hb : BondsOk n bs) (h : 0 < (grpT n bs t).length) (x y : Nat) : flowV (grpT n bs t).length (shrS n bs t) x y = flowV (grpT n bs t).length (shrI n bs t) x y :=
  flowV_turn (ctr_turned _ _ _) (ctrI_ok hb (nameT_lt h) _) x y
/-- no cut is weaker -/
noncomputable def holdsB (n : Nat) (bs : List Bd) (t : Nat) : Bool := decide (∀ y, y < n - 1 → t ≤ flowV n bs 0 (y + 1))
theorem holdsB_few {n : Nat} (h : n < 2) (bs : List Bd) (t : Nat) : holdsB n bs t = true := by
  unfold holdsB
  exact decide_eq_true fun y hy => by omega
theorem holdsB_weak {n : Nat} (h : ¬ n < 2) (bs : List Bd) (t : Nat) : holdsB n bs t = decide ((t : Int) ≤ (weakR n bs).1) := by
  unfold holdsB weakR
  obtain ⟨k, hk⟩ : ∃ k, n - 1 = k + 1 := ⟨n - 2, by omega⟩
  rw [hk]
  exact decide_eq_decide.2 (weakK_least n bs t k).symm
theorem holdsB_eq {n : Nat} {bs cs : List Bd} (t : Nat) (h : ∀ y, flowV n cs 0 y = flowV n bs 0 y) : holdsB n cs t = holdsB n bs t := by
  unfold holdsB
  exact decide_eq_decide.2 ⟨fun h1 y hy => by rw [← h]; exact h1 y hy, fun h1 y hy => by rw [h]; exact h1 y hy⟩
/-- whether they are stable, and the code -/
noncomputable def stabR (n : Nat) (bs : List Bd) (t : Nat) : Bool × Int := if 64 < (grpT n bs t).length then (false, 4) else (holdsB (grpT n bs t).length (shrI n bs t) t, 0)
end Go.Proofs.YtmhgjgclclnmaaaGreat
/- Plain facts: contraction along strong bonds keeps whether all cuts are strong. -/


namespace Go.Proofs.YtmhgjgclclnmaaaGreat
/-- points of one label lie on one side of a part that splits no bond -/
theorem lab_same {bs : List Bd} {P : Nat → Bool} (h : ∀ (i : Nat) (e : Bd), bs[i]? = some e → P e.a = P e.b) : ∀ (m u v : Nat), labOf bs m u = labOf bs m v → P u = P v := by
  intro m
  induction m with
  | zero =>
    intro u v huv
    obtain rfl : u = v := huv
    rfl
  | succ m ih =>
    intro u v huv
    cases he : bs[m]? with
    | none =>
      simp only [labOf, he] at huv
      exact ih u v huv
    | some e =>
      rw [labOf_succ he] at huv
      have hab := h m e he
      have key : ∀ z, labOf bs m z = max (labOf bs m e.a) (labOf bs m e.b) ∨ labOf bs m z = min (labOf bs m e.a) (labOf bs m e.b) → P z = P e.a := fun z hz => by
        have : labOf bs m z = labOf bs m e.a ∨ labOf bs m z = labOf bs m e.b := by omega
        rcases this with h1 | h1
        · exact ih z e.a h1
        · exact (ih z e.b h1).trans hab.symm
      unfold relab at huv
      by_cases h1 : labOf bs m u = max (labOf bs m e.a) (labOf bs m e.b)
      · rw [if_pos h1] at huv
        by_cases h2 : labOf bs m v = max (labOf bs m e.a) (labOf bs m e.b)
        · rw [key u (.inl h1), key v (.inl h2)]
        · rw [if_neg h2] at huv
          rw [key u (.inl h1), key v (.inr huv.symm)]
      · rw [if_neg h1] at huv
        by_cases h2 : labOf bs m v = max (labOf bs m e.a) (labOf bs m e.b)
        · rw [if_pos h2] at huv
          rw [key u (.inr huv), key v (.inl h2)]
        · rw [if_neg h2] at huv
          exact ih u v huv
/-- the name of a point is the place of its label -/
theorem ofG_groups {f : Nat → Nat} {n j x : Nat} (hx : x < n) (hj : (rootsL f n)[j]? = some (f x)) : ∀ k, k ≤ (rootsL f n).length → ofG (groupsL f n) k x = if j < k then j else 0 := by
  intro k
  induction k with
  | zero => intro _; rfl
  | succ k ih =>
    intro hk
    have ih := ih (by omega)
    obtain ⟨r, hr⟩ : ∃ r, (rootsL f n)[k]? = some r := ⟨_, List.getElem?_eq_getElem (by omega)⟩
    have hg : (groupsL f n)[k]? = some (partL f n r) := by rw [groupsL_get, hr]; rfl
    rw [ofG_succ hg]
    unfold asg
    rw [List.take_length]
    by_cases hjk : j = k
    · subst hjk
      rw [hr] at hj
      have hrf : r = f x := Option.some.inj hj
      have hm : x ∈ partL f n r := by
        unfold partL
        rw [List.mem_filter]
        exact ⟨List.mem_range.2 hx, by simp [hrf]⟩
      rw [if_pos hm, if_pos (Nat.lt_succ_self _)]
    · have hm : ¬ x ∈ partL f n r := fun hm => by
        unfold partL at hm
        rw [List.mem_filter] at hm
        have hfr : f x = r := by simpa using hm.2
        obtain ⟨_, _, e1⟩ := rootsL_get n k r hr
        obtain ⟨_, _, e2⟩ := rootsL_get n j (f x) hj
        rw [hfr] at e2
        omega
      rw [if_neg hm, ih]
      by_cases h1 : j < k
      · rw [if_pos h1, if_pos (by omega)]
      · rw [if_neg h1, if_neg (by omega)]
section
variable {n : Nat} {bs : List Bd} {t : Int}
/-- the label of a point among the strong bonds -/
def labT (bs : List Bd) (t : Int) : Nat → Nat := labOf (strongL t bs bs.length) (strongL t bs bs.length).length
theorem nameT_root {x : Nat} (hx : x < n) : ∃ j, (rootsL (labT bs t) n)[j]? = some (labT bs t x) ∧ nameT n bs t x = j ∧ j < (grpT n bs t).length := by
  have hL := Lab.of (strongL t bs bs.length) (strongL t bs bs.length).length
  have hle := hL.le x
  have hj := rootsL_at (f := labT bs t) (m := n) (r := labT bs t x) (by show labOf _ _ x < n; omega) (hL.idem x)
  have hjl := (List.getElem?_eq_some_iff.1 hj).1
  have hgl : (grpT n bs t).length = (rootsL (labT bs t) n).length := by unfold grpT groupsL labT; rw [List.length_map]
  refine ⟨_, hj, ?_, by rw [hgl]; exact hjl⟩
  have := ofG_groups hx hj (rootsL (labT bs t) n).length (Nat.le_refl _)
  rw [if_pos hjl] at this
  unfold nameT
  rw [hgl]
  exact this
theorem nameT_lab {x y : Nat} (hx : x < n) (hy : y < n) (h : nameT n bs t x = nameT n bs t y) : labT bs t x = labT bs t y := by
  obtain ⟨i, h1, h2, _⟩ := nameT_root (bs := bs) (t := t) hx
  obtain ⟨j, h3, h4, _⟩ := nameT_root (bs := bs) (t := t) hy
  obtain rfl : i = j := by omega
  rw [h1] at h3
  exact Option.some.inj h3
theorem nameT_zero (h0 : 0 < n) : nameT n bs t 0 = 0 := by
  obtain ⟨j, h1, h2, _⟩ := nameT_root (bs := bs) (t := t) h0
  obtain ⟨_, _, e⟩ := rootsL_get n j _ h1
  have hL := (Lab.of (strongL t bs bs.length) (strongL t bs bs.length).length).le 0
  have : labT bs t 0 = 0 := by show labOf _ _ 0 = 0; omega
  rw [this] at e
  rw [h2, e]
  rfl
theorem nameT_onto {g : Nat} (h : g < (grpT n bs t).length) : ∃ x, x < n ∧ nameT n bs t x = g := by
  have hgl : (grpT n bs t).length = (rootsL (labT bs t) n).length := by unfold grpT groupsL labT; rw [List.length_map]
  rw [hgl] at h
  obtain ⟨r, hr⟩ : ∃ r, (rootsL (labT bs t) n)[g]? = some r := ⟨_, List.getElem?_eq_getElem h⟩
  obtain ⟨hrn, hrr, he⟩ := rootsL_get n g r hr
  refine ⟨r, hrn, ?_⟩
  obtain ⟨j, h1, h2, _⟩ := nameT_root (bs := bs) (t := t) hrn
  obtain ⟨_, _, e2⟩ := rootsL_get n j _ h1
  rw [hrr] at e2
  omega
theorem grpT_pos (h : 0 < n) : 0 < (grpT n bs t).length := by
  obtain ⟨j, _, _, hj⟩ := nameT_root (bs := bs) (t := t) h
  omega
theorem strong_get {k : Nat} {e : Bd} (h : (strongL t bs bs.length)[k]? = some e) : t ≤ e.s ∧ ∃ q : Nat, bs[q]? = some e := by
  refine ⟨?_, strongL_mem h⟩
  have hm := List.mem_of_getElem? h
  unfold strongL at hm
  have := (List.mem_filter.1 hm).2
  simpa using this
end
/-- a cut of the groups, seen at the points -/
theorem cutP_ctr (f : Nat → Nat) (bs : List Bd) (P : Nat → Bool) : ∀ m, m ≤ bs.length → cutP (ctrI f bs m) P (ctrI f bs m).length = cutP bs (fun v => P (f v)) m := by
  intro m
  induction m with
  | zero => intro _; rfl
  | succ m ih =>
    intro hm
    have ih := ih (by omega)
    have he := List.getElem?_eq_getElem (show m < bs.length by omega)
    obtain ⟨e, hee⟩ : ∃ e, bs[m] = e := ⟨_, rfl⟩
    rw [hee] at he
    rw [cutP_some _ he]
    by_cases h : f e.a = f e.b
    · have hP : P (f e.a) = P (f e.b) := by rw [h]
      rw [ctrI_no he h, ih]
      simp [hP]
    · rw [ctrI_yes he h, List.length_append]
      have hold : ∀ k, k ≤ (ctrI f bs m).length → cutP (ctrI f bs m ++ [⟨f e.a, f e.b, e.s⟩]) P k = cutP (ctrI f bs m) P k := by
        intro k
        induction k with
        | zero => intro _; rfl
        | succ k ihk =>
          intro hk
          have hg := List.getElem?_eq_getElem (show k < (ctrI f bs m).length by omega)
          rw [cutP_some P hg, cutP_some P ((List.getElem?_append_left (by omega)).trans hg), ihk (by omega)]
      have hl : (ctrI f bs m ++ [(⟨f e.a, f e.b, e.s⟩ : Bd)])[(ctrI f bs m).length]? = some ⟨f e.a, f e.b, e.s⟩ := by simp
      simp only [List.length_cons, List.length_nil, Nat.zero_add]
      rw [cutP_some P hl, hold _ (Nat.le_refl _), ih]
theorem holds_groups {n : Nat} {bs : List Bd} (hb : BondsOk n bs) (h0 : 0 < n) (t : Nat) : holdsB (grpT n bs t).length (shrI n bs t) t = holdsB n bs t := by
  have hg0 := grpT_pos (bs := bs) (t := (t : Int)) h0
  have hbg : BondsOk (grpT n bs t).length (shrI n bs t) := ctrI_ok hb (nameT_lt hg0) _
  have hz := nameT_zero (bs := bs) (t := (t : Int)) h0
  unfold holdsB
  apply decide_eq_decide.2
  constructor
  · intro h y hy
    have hyn : y + 1 < n := by omega
    have hne : (0 : Nat) ≠ y + 1 := by omega
    have hc := flow_eq_cut hb h0 hne
    obtain ⟨P, hP⟩ : ∃ P, farP n bs 0 (y + 1) = P := ⟨_, rfl⟩
    have hP0 := farP_x hb h0 hne
    have hPy := farP_y n bs 0 (y + 1)
    rw [hP] at hc hP0 hPy
    by_cases hs : ∃ (i : Nat) (e : Bd), bs[i]? = some e ∧ (t : Int) ≤ e.s ∧ P e.a ≠ P e.b
    · obtain ⟨i, e, he, h1, h2⟩ := hs
      have := cutP_ge hb he h2 bs.length (List.getElem?_eq_some_iff.1 he).1
      omega
    · have hl : ∀ {u v : Nat}, u < n → v < n → nameT n bs t u = nameT n bs t v → P u = P v := fun {u v} hu hv huv => by
        refine lab_same (bs := strongL t bs bs.length) (fun i e he => ?_) _ u v (nameT_lab hu hv huv)
        obtain ⟨h1, q, hq⟩ := strong_get he
        cases hpa : P e.a <;> cases hpb : P e.b
        · rfl
        · exact (hs ⟨q, e, hq, h1, by rw [hpa, hpb]; decide⟩).elim
        · exact (hs ⟨q, e, hq, h1, by rw [hpa, hpb]; decide⟩).elim
        · rfl
      have hQ : ∀ g, ∃ c : Bool, ∀ u, u < n → nameT n bs t u = g → P u = c := fun g => by
        by_cases hx : ∃ u, u < n ∧ nameT n bs t u = g
        · obtain ⟨u, hu, hug⟩ := hx
          exact ⟨P u, fun v hv hvg => hl hv hu (hvg.trans hug.symm)⟩
        · exact ⟨true, fun u hu hug => (hx ⟨u, hu, hug⟩).elim⟩
      obtain ⟨Q, hQ⟩ : ∃ Q : Nat → Bool, ∀ g u, u < n → nameT n bs t u = g → P u = Q g := ⟨fun g => Classical.choose (hQ g), fun g u hu hug => Classical.choose_spec (hQ g) u hu hug⟩
      have hcc := cutP_ctr (nameT n bs t) bs Q bs.length (Nat.le_refl _)
      rw [cutP_congr hb (Q := P) (fun v hv => (hQ _ v hv rfl).symm)] at hcc
      obtain ⟨g, hg⟩ : ∃ g, nameT n bs t (y + 1) = g := ⟨_, rfl⟩
      have hgl : g < (grpT n bs t).length := by rw [← hg]; exact nameT_lt hg0 _
      have hQ0 := hQ 0 0 h0 hz
      have hQg := hQ g (y + 1) hyn hg
      rw [hP0] at hQ0
      rw [hPy] at hQg
      have hgz : g ≠ 0 := fun e => by
        subst e
        rw [← hQ0] at hQg
        cases hQg
      obtain ⟨g', rfl⟩ : ∃ g', g = g' + 1 := ⟨g - 1, by omega⟩
      have h1 := h g' (by omega)
      have h2 := flow_le_cut hbg (x := 0) (y := g' + 1) hg0 (P := Q) hQ0.symm hQg.symm
      have h3 : cutP (shrI n bs t) Q (shrI n bs t).length = cutP bs P bs.length := hcc
      omega
  · intro h g hg
    obtain ⟨y, hy, hyg⟩ := nameT_onto (bs := bs) (t := (t : Int)) (n := n) (g := g + 1) (by omega)
    have hy0 : y ≠ 0 := fun e => by
      subst e
      omega
    obtain ⟨y', rfl⟩ : ∃ y', y = y' + 1 := ⟨y - 1, by omega⟩
    have h1 := h y' (by omega)
    have hne : (0 : Nat) ≠ g + 1 := by omega
    have hc := flow_eq_cut hbg hg0 hne
    have hP0 := farP_x hbg hg0 hne
    have hPy := farP_y (grpT n bs t).length (shrI n bs t) 0 (g + 1)
    obtain ⟨P, hP⟩ : ∃ P, farP (grpT n bs t).length (shrI n bs t) 0 (g + 1) = P := ⟨_, rfl⟩
    rw [hP] at hc hP0 hPy
    have hcc : cutP (shrI n bs t) P (shrI n bs t).length = cutP bs (fun v => P (nameT n bs t v)) bs.length := cutP_ctr (nameT n bs t) bs P bs.length (Nat.le_refl _)
    have h2 := flow_le_cut hb (x := 0) (y := y' + 1) h0 (P := fun v => P (nameT n bs t v)) (by rw [hz]; exact hP0) (by rw [hyg]; exact hPy)
    omega
/-- up to 64 points: stable is that no cut is weak -/
theorem stabR_small {n : Nat} {bs : List Bd} (hb : BondsOk n bs) (h : n ≤ 64) (t : Nat) : stabR n bs t = (holdsB n bs t, 0) := by
  have hl := grpT_len n bs t
  unfold stabR
  rw [if_neg (by omega)]
  by_cases h0 : 0 < n
  · rw [holds_groups hb h0]
  · obtain rfl : n = 0 := by omega
    rw [holdsB_few (by omega), holdsB_few (by omega)]
end Go.Proofs.YtmhgjgclclnmaaaGreat
/- Walks: the program's groups by bonds. -/




namespace Go.Proofs.YtmhgjgclclnmaaaGreat
open Go.RowKit Go.Shelf
attribute [local go_sem] BelowBy.cell BelowBy.cell_drew stillUpon givesUpon BelowBy.cell_drew2 BelowBy.cell_drew3

theorem Forest.blocks {w w' : World} {Bg n : Nat} {f : Nat → Nat} (h : Forest w Bg n f) (hk : ∀ i, i < n → w'.heap[Bg + i]? = w.heap[Bg + i]?) : Forest w' Bg n f := fun i hi => by
  obtain ⟨h1, h2, h3, h4⟩ := h i hi
  have hb := hk i hi
  have hlt : Bg + i < w'.heap.size := by
    have := Array.getElem?_eq_getElem h1
    rw [← hb] at this
    exact (Array.getElem?_eq_some_iff.1 this).1
  refine ⟨hlt, (World.cell?_of_block (w := w) (a := ⟨Bg + i, 1, none⟩) hb).trans h2, (World.frozen?_of_block (w := w) (a := ⟨Bg + i, 0, none⟩) hb).trans h3, ?_⟩
  rcases h4 with ⟨h5, h6⟩ | ⟨h5, j, h6, h7, h8⟩
  · exact .inl ⟨h5, (World.cell?_of_block (w := w) (a := ⟨Bg + i, 0, none⟩) hb).trans h6⟩
  · exact .inr ⟨h5, j, h6, h7, (World.cell?_of_block (w := w) (a := ⟨Bg + i, 0, none⟩) hb).trans h8⟩
theorem Forest.one {w : World} {Bg k : Nat} (h : Forest w Bg k fun j => j) (hs : w.heap.size = Bg + k) (T : TypeId) : Forest (w.alloc (.cells #[.pointer none, .int .i64 (k : Int)] T)) Bg (k + 1) fun j => j := fun i hi => by
  rcases Nat.lt_succ_iff_lt_or_eq.1 hi with hi | rfl
  · exact (h.below (bl_al (bl_refl _) _)) i hi
  · refine ⟨by simp; omega, ?_, ?_, .inl ⟨rfl, ?_⟩⟩
    all_goals (rw [← hs]; go_simp)
theorem Forest.setBelow {w : World} {Bg n : Nat} {f : Nat → Nat} (h : Forest w Bg n f) {p : Addr} (hp : p.block < Bg) (u : Value) : Forest (w.setCell p u) Bg n f :=
  h.blocks fun i _ => Below.heap_setCell _ _ _ _ (by omega)
theorem Forest.root {w : World} {Bg n r : Nat} {f : Nat → Nat} (h : Forest w Bg n f) (hr : f r = r) (hn : r < n) : w.cell? ⟨Bg + r, 0, none⟩ = some (.pointer none) := by
  obtain ⟨_, _, _, ⟨_, h⟩ | ⟨h, _⟩⟩ := h r hn
  · exact h
  · exact (h hr).elim
theorem relab_lt {f : Nat → Nat} {a b : Nat} (h : f a < f b) : relab f a b = fun k => if f k = f b then f a else f k := by
  funext k
  unfold relab
  rw [Nat.max_eq_right (Nat.le_of_lt h), Nat.min_eq_left (Nat.le_of_lt h)]
theorem relab_gt {f : Nat → Nat} {a b : Nat} (h : f b < f a) : relab f a b = fun k => if f k = f a then f b else f k := by
  funext k
  unfold relab
  rw [Nat.max_eq_left (Nat.le_of_lt h), Nat.min_eq_right (Nat.le_of_lt h)]
theorem relab_eq {f : Nat → Nat} {a b : Nat} (h : f a = f b) : relab f a b = f := by
  funext k
  unfold relab
  rw [h, Nat.max_self, Nat.min_self]
  split
  · rename_i e; exact e.symm
  · rfl
def intsN (l : List Nat) : List Value := l.map fun x => Value.int .i64 ((x : Nat) : Int)
theorem intsN_len (l : List Nat) : (intsN l).length = l.length := by simp [intsN]
def OwnGr (w : World) (gss : List (List Nat)) (e : Ending) (w' : World) : Prop := ∃ v us, e = .returned v ∧ Own2 w' w.heap.size 33 2 1 v us (gss.map intsN) ∧ Below w.heap.size w w'
theorem infoGp : (Tryz.prog.info? 265).map (fun i => (i.zero, i.size, i.bytes)) = some (some (.pointer none), 1, 8) := by kernel_rfl
theorem infoGs : (Tryz.prog.info? 33).map (fun i => (i.zero, i.size, i.bytes)) = some (some (.slice none 0 0), 1, 24) := by kernel_rfl
set_option maxRecDepth 100000 in
set_option maxHeartbeats 2000000 in
theorem groupsBy_any (n : Nat) (B : Option Addr) (m c : Nat) (bs : List Bd) (w : World) (hB : RdSl 3 RBd w B m bs) (hn : n ≤ 100000) (hm : m ≤ 1000000) (hbs : ∀ (k : Nat) (e : Bd), bs[k]? = some e → e.a < n ∧ e.b < n) :
    Calls Tryz.prog 174 #[.int .i64 (n : Int), .slice B m c] w (OwnGr w (groupsL (labOf bs m) n)) := by
  obtain ⟨i0, hi, hz0, hz1, hz2⟩ := info_parts infoGs
  obtain ⟨i1, hi', hz0', hz1', hz2'⟩ := info_parts infoI
  have hmk := fun W => run_makeN (P := Tryz.prog) 264 265 _ 1 8 Tryz.underlying264 infoGp n (by omega) (by omega) W
  have hmm := @run_makeMap Tryz.prog
  have hBH := Lib.hid hB
  have hbsH := Lib.hid hbs
  have hml := Lib.hid hB.len
  clear hB hbs
  go_enter Tryz.func174, Tryz.ntmps174
  go_wp2
  obtain ⟨Bg, hBg⟩ : ∃ Bg, Bg = w.heap.size + 1 := ⟨_, rfl⟩
  have hBgl : w.heap.size < Bg := by omega
  have hBgH := Lib.hid hBg
  clear hBg
  go_loopg [21] n (fun g i wr => ∃ (k : Nat) (f : Nat → Value), k + g = n ∧ i = .int .i64 (k : Int) ∧ Hid (Below w.heap.size w wr) ∧ Hid (wr.heap.size = Bg + k) ∧ Hid (wr.rowIs w.heap.size 265 n f) ∧ Hid (∀ j, j < k → f j = .pointer (some ⟨Bg + j, 0, none⟩)) ∧ Hid (Forest wr Bg k fun j => j))
  case atStart => exact ⟨0, _, by omega, rfl, Lib.hid (bl_al (bl_refl _) _), Lib.hid (by rw [hBgH.out]; simp), Lib.hid (by have := rowIs_make w #[.pointer none] n 265; simpa [Value.cells] using this), Lib.hid (fun j hj => by omega), Lib.hid (fun j hj => by omega)⟩
  case round =>
    obtain ⟨k, f, hk, rfl, hbw, hsz, hrow, hf, hFo⟩ := hrel
    by_cases hkn : k < n
    · have hc0 := hrow.out.cell hkn
      have hf0 := hrow.out.frozen k
      have hl0 := hrow.out.lt
      go_wp2
      go_roundg (n - (k + 1))
      case measure => omega
      case rel =>
        refine ⟨k + 1, _, by omega, by go_num, Lib.hid ?_, Lib.hid ?_, Lib.hid ((hrow.out.set k _).alloc _), Lib.hid fun j hj => ?_, Lib.hid (((hFo.out.setBelow (p := ⟨w.heap.size, k, none⟩) hBgl _).one (by simpa using hsz.out) _))⟩
        · exact (hbw.out.setCell (p := ⟨w.heap.size, k, none⟩) (Nat.le_refl _) _).alloc (by simp; omega) _
        · have := hsz.out
          simp; omega
        · rcases Nat.lt_succ_iff_lt_or_eq.1 hj with hj | rfl
          · show (if j = k then _ else f j) = _
            rw [if_neg (by omega)]; exact hf.out j hj
          · show (if j = j then _ else f j) = _
            rw [if_pos rfl, hsz.out]
    · obtain rfl : k = n := by omega
      have hrowK := Lib.hid (hrow.out.congr (g := fun j => .pointer (some ⟨Bg + j, 0, none⟩)) hf.out)
      have hszl : Bg ≤ wr.heap.size := by have := hsz.out; omega
      obtain ⟨wa, rfl⟩ : ∃ wa : World, wa = wr := ⟨_, rfl⟩
      clear hrow hf hsz
      go_wp2
      go_loopg [33] m (fun g i wr => ∃ (j : Nat), j + g = m ∧ i = .int .i64 (j : Int) ∧ Hid (Below w.heap.size w wr) ∧ Bg ≤ wr.heap.size ∧ Hid (wr.rowIs w.heap.size 265 k fun j => .pointer (some ⟨Bg + j, 0, none⟩)) ∧ Hid (Forest wr Bg k (labOf bs j)))
      case atStart => exact ⟨0, by omega, rfl, hbw, hszl, hrowK, hFo⟩
      case round =>
        clear hbw hszl hrowK hFo
        obtain ⟨j, hj, rfl, hbw, hszl, hrowK, hFo⟩ := hrel
        by_cases hjm : j < m
        · have hBw := hBH.out.below RBd.stable hbw.out
          obtain ⟨bb, ob, rfl, hbb, hbc⟩ := hBw.ptr (by omega)
          obtain ⟨e, he⟩ := hBw.get hjm
          obtain ⟨e0, e1, e2⟩ := hbc j e he
          obtain ⟨hea, heb⟩ := hbsH.out j e he
          have hlab := Lib.hid (labOf_succ he)
          have hLab := Lib.hid (Lab.of bs j)
          obtain ⟨f, hf⟩ : ∃ f, labOf bs j = f := ⟨_, rfl⟩
          rw [hf] at hFo hlab hLab
          have hla := hLab.out.le e.a
          have hlb := hLab.out.le e.b
          have hia := hLab.out.idem e.a
          have hib := hLab.out.idem e.b
          have a4 := hFo.out.root hia (by omega)
          have b4 := hFo.out.root hib (by omega)
          obtain ⟨a1, a2, a3, _⟩ := hFo.out (f e.a) (by omega)
          obtain ⟨b1, b2, b3, _⟩ := hFo.out (f e.b) (by omega)
          have ra := hrowK.out.cell (i := e.a) hea
          have rb := hrowK.out.cell (i := e.b) heb
          have hl0 := hrowK.out.lt
          have hiaH := Lib.hid hia
          have hibH := Lib.hid hib
          have hfH := Lib.hid hf
          clear hbc he hBw hf hia hib
          obtain ⟨la, hlaE⟩ : ∃ la, f e.a = la := ⟨_, rfl⟩
          obtain ⟨lb, hlbE⟩ : ∃ lb, f e.b = lb := ⟨_, rfl⟩
          rw [hlaE] at a1 a2 a3 a4 hla
          rw [hlbE] at b1 b2 b3 b4 hlb
          have hlaH := Lib.hid hlaE
          have hlbH := Lib.hid hlbE
          rcases Nat.lt_trichotomy la lb with hlt | heq | hgt
          · go_wp2
            refine wp_region_ord [(0, .q), (1, .q), (2, .q), (3, .q), (4, .q), (6, .q), (7, .q), (8, .q), (9, .q), (10, .q), (5, .g), (11, .g), (12, .q), (13, .q)] (by kernel_rfl) (by kernel_rfl) ?_
            simp only [pick, List.filterMap_cons, List.filterMap_nil, List.getElem?_toArray, List.getElem?_cons_zero, List.getElem?_cons_succ, Option.map_some]
            repeat (first
              | ((with_reducible refine wpD_p (fun K hK => ?_)); go_simp; refine hK _ ?_; clear hK K)
              | ((with_reducible refine wpD_q (fun K hK => ?_)); go_simp; (first | refine hK _ ?_ | (go_bits; refine hK _ ?_) | (go_bits; go_simp; refine hK _ ?_)); clear hK K)
              | ((with_reducible refine wpD_g (fun K hK => ?_)); go_simp; refine hK _ _ ?_; clear hK K)
              | ((with_reducible refine wpD_g (fun K hK => ?_)); go_simp; refine ⟨Grew.of_alloc _, hK _ _ ?_⟩; clear hK K)
              | ((with_reducible refine wpD_g (fun K hK => ?_)); go_simp; go_at_call 201; refine (first_any _ _ _ _ _ (hFo.out.below (by exact bel_)) (by omega)).mono ?_; rintro e _ ⟨rfl, rfl⟩; refine ⟨_, rfl, Below.refl _ _, hK _ _ ?_⟩; clear hK K))
            with_reducible refine wpD_nil ?_
            go_wp2
            refine wp_region_ord [(0, .q), (1, .q), (2, .q), (3, .q), (4, .q), (5, .q), (6, .q), (7, .q), (8, .q), (9, .q)] (by kernel_rfl) (by kernel_rfl) ?_
            simp only [pick, List.filterMap_cons, List.filterMap_nil, List.getElem?_toArray, List.getElem?_cons_zero, List.getElem?_cons_succ, Option.map_some]
            repeat (first | ((with_reducible refine wpD_p (fun K hK => ?_)); go_simp; refine hK _ ?_; clear hK K) | ((with_reducible refine wpD_q (fun K hK => ?_)); go_simp; (first | refine hK _ ?_ | (go_bits; refine hK _ ?_) | (go_bits; go_simp; refine hK _ ?_)); clear hK K))
            with_reducible refine wpD_nil ?_
            go_wp2
            go_roundg (m - (j + 1))
            case measure => omega
            case rel =>
              refine ⟨j + 1, by omega, by go_num, Lib.hid ?_, ?_, Lib.hid ?_, Lib.hid ?_⟩
              · exact (((hbw.out.setCell (p := ⟨Bg + lb, 0, none⟩) (by simp; omega) _).alloc (by simp; omega) _).drew).drew
              · simp; omega
              · exact ((hrowK.out.setOther (a := ⟨Bg + lb, 0, none⟩) (by simp; omega) _).alloc _).drew.drew
              · rw [hlab.out, relab_lt (by omega), hlaE, hlbE]
                exact (hFo.out.led hLab.out (x := la) (y := lb) (by rw [← hlaE]; exact hiaH.out) (by rw [← hlbE]; exact hibH.out) hlt (by omega)).below (by exact bel_)
          · subst heq
            go_wp2
            refine wp_region_ord [(0, .q), (1, .q), (2, .q), (3, .q), (4, .q), (6, .q), (7, .q), (8, .q), (9, .q), (10, .q), (5, .g), (11, .g), (12, .q), (13, .q)] (by kernel_rfl) (by kernel_rfl) ?_
            simp only [pick, List.filterMap_cons, List.filterMap_nil, List.getElem?_toArray, List.getElem?_cons_zero, List.getElem?_cons_succ, Option.map_some]
            repeat (first
              | ((with_reducible refine wpD_p (fun K hK => ?_)); go_simp; refine hK _ ?_; clear hK K)
              | ((with_reducible refine wpD_q (fun K hK => ?_)); go_simp; (first | refine hK _ ?_ | (go_bits; refine hK _ ?_) | (go_bits; go_simp; refine hK _ ?_)); clear hK K)
              | ((with_reducible refine wpD_g (fun K hK => ?_)); go_simp; refine hK _ _ ?_; clear hK K)
              | ((with_reducible refine wpD_g (fun K hK => ?_)); go_simp; refine ⟨Grew.of_alloc _, hK _ _ ?_⟩; clear hK K)
              | ((with_reducible refine wpD_g (fun K hK => ?_)); go_simp; go_at_call 201; refine (first_any _ _ _ _ _ (hFo.out.below (by exact bel_)) (by omega)).mono ?_; rintro e _ ⟨rfl, rfl⟩; refine ⟨_, rfl, Below.refl _ _, hK _ _ ?_⟩; clear hK K))
            with_reducible refine wpD_nil ?_
            go_wp2
            refine wp_region_ord [(0, .q), (1, .q), (2, .q), (3, .q), (4, .q), (5, .q), (6, .q), (7, .q), (8, .q), (9, .q)] (by kernel_rfl) (by kernel_rfl) ?_
            simp only [pick, List.filterMap_cons, List.filterMap_nil, List.getElem?_toArray, List.getElem?_cons_zero, List.getElem?_cons_succ, Option.map_some]
            repeat (first | ((with_reducible refine wpD_p (fun K hK => ?_)); go_simp; refine hK _ ?_; clear hK K) | ((with_reducible refine wpD_q (fun K hK => ?_)); go_simp; (first | refine hK _ ?_ | (go_bits; refine hK _ ?_) | (go_bits; go_simp; refine hK _ ?_)); clear hK K))
            with_reducible refine wpD_nil ?_
            go_wp2
            refine wp_region_ord [(0, .q), (1, .q), (2, .q), (3, .q), (4, .q), (5, .q), (6, .q), (7, .q), (8, .q), (9, .q)] (by kernel_rfl) (by kernel_rfl) ?_
            simp only [pick, List.filterMap_cons, List.filterMap_nil, List.getElem?_toArray, List.getElem?_cons_zero, List.getElem?_cons_succ, Option.map_some]
            repeat (first | ((with_reducible refine wpD_p (fun K hK => ?_)); go_simp; refine hK _ ?_; clear hK K) | ((with_reducible refine wpD_q (fun K hK => ?_)); go_simp; (first | refine hK _ ?_ | (go_bits; refine hK _ ?_) | (go_bits; go_simp; refine hK _ ?_)); clear hK K))
            with_reducible refine wpD_nil ?_
            go_wp2
            go_roundg (m - (j + 1))
            case measure => omega
            case rel =>
              refine ⟨j + 1, by omega, by go_num, Lib.hid ?_, ?_, Lib.hid ?_, Lib.hid ?_⟩
              · exact ((hbw.out.alloc (by omega) _).drew).drew.drew
              · simp; omega
              · exact (hrowK.out.alloc _).drew.drew.drew
              · rw [hlab.out, relab_eq (by omega)]
                exact hFo.out.below (by exact bel_)
          · go_wp2
            refine wp_region_ord [(0, .q), (1, .q), (2, .q), (3, .q), (4, .q), (6, .q), (7, .q), (8, .q), (9, .q), (10, .q), (5, .g), (11, .g), (12, .q), (13, .q)] (by kernel_rfl) (by kernel_rfl) ?_
            simp only [pick, List.filterMap_cons, List.filterMap_nil, List.getElem?_toArray, List.getElem?_cons_zero, List.getElem?_cons_succ, Option.map_some]
            repeat (first
              | ((with_reducible refine wpD_p (fun K hK => ?_)); go_simp; refine hK _ ?_; clear hK K)
              | ((with_reducible refine wpD_q (fun K hK => ?_)); go_simp; (first | refine hK _ ?_ | (go_bits; refine hK _ ?_) | (go_bits; go_simp; refine hK _ ?_)); clear hK K)
              | ((with_reducible refine wpD_g (fun K hK => ?_)); go_simp; refine hK _ _ ?_; clear hK K)
              | ((with_reducible refine wpD_g (fun K hK => ?_)); go_simp; refine ⟨Grew.of_alloc _, hK _ _ ?_⟩; clear hK K)
              | ((with_reducible refine wpD_g (fun K hK => ?_)); go_simp; go_at_call 201; refine (first_any _ _ _ _ _ (hFo.out.below (by exact bel_)) (by omega)).mono ?_; rintro e _ ⟨rfl, rfl⟩; refine ⟨_, rfl, Below.refl _ _, hK _ _ ?_⟩; clear hK K))
            with_reducible refine wpD_nil ?_
            go_wp2
            refine wp_region_ord [(0, .q), (1, .q), (2, .q), (3, .q), (4, .q), (5, .q), (6, .q), (7, .q), (8, .q), (9, .q)] (by kernel_rfl) (by kernel_rfl) ?_
            simp only [pick, List.filterMap_cons, List.filterMap_nil, List.getElem?_toArray, List.getElem?_cons_zero, List.getElem?_cons_succ, Option.map_some]
            repeat (first | ((with_reducible refine wpD_p (fun K hK => ?_)); go_simp; refine hK _ ?_; clear hK K) | ((with_reducible refine wpD_q (fun K hK => ?_)); go_simp; (first | refine hK _ ?_ | (go_bits; refine hK _ ?_) | (go_bits; go_simp; refine hK _ ?_)); clear hK K))
            with_reducible refine wpD_nil ?_
            have hgt' : ¬ la < lb := by omega
            go_wp2
            refine wp_region_ord [(0, .q), (1, .q), (2, .q), (3, .q), (4, .q), (5, .q), (6, .q), (7, .q), (8, .q), (9, .q)] (by kernel_rfl) (by kernel_rfl) ?_
            simp only [pick, List.filterMap_cons, List.filterMap_nil, List.getElem?_toArray, List.getElem?_cons_zero, List.getElem?_cons_succ, Option.map_some]
            repeat (first | ((with_reducible refine wpD_p (fun K hK => ?_)); go_simp; refine hK _ ?_; clear hK K) | ((with_reducible refine wpD_q (fun K hK => ?_)); go_simp; (first | refine hK _ ?_ | (go_bits; refine hK _ ?_) | (go_bits; go_simp; refine hK _ ?_)); clear hK K))
            with_reducible refine wpD_nil ?_
            go_wp2
            go_roundg (m - (j + 1))
            case measure => omega
            case rel =>
              refine ⟨j + 1, by omega, by go_num, Lib.hid ?_, ?_, Lib.hid ?_, Lib.hid ?_⟩
              · exact (((hbw.out.setCell (p := ⟨Bg + la, 0, none⟩) (by simp; omega) _).alloc (by simp; omega) _).drew).drew.drew
              · simp; omega
              · exact ((hrowK.out.setOther (a := ⟨Bg + la, 0, none⟩) (by simp; omega) _).alloc _).drew.drew.drew
              · rw [hlab.out, relab_gt (by omega), hlaE, hlbE]
                exact (hFo.out.led hLab.out (x := lb) (y := la) (by rw [← hlbE]; exact hibH.out) (by rw [← hlaE]; exact hiaH.out) hgt (by omega)).below (by exact bel_)
        · obtain rfl : j = m := by omega
          obtain ⟨f, hf⟩ : ∃ f, labOf bs j = f := ⟨_, rfl⟩
          have hLab := Lib.hid (Lab.of bs j)
          rw [hf] at hFo hLab
          have hfH := Lib.hid hf
          clear hf
          obtain ⟨wb, rfl⟩ : ∃ wb : World, wb = wr := ⟨_, rfl⟩
          have hwb : w.heap.size < wb.heap.size := by omega
          go_wp2
          go_loopg [81, 11] k (fun g i v wr => ∃ (t : Nat) (us : List Value), t + g = k ∧ i = .int .i64 (t : Int) ∧ Hid (Own2 wr (wb.heap.size + 1) 33 2 1 v us ((groupsL f t).map intsN)) ∧ Hid (∃ c, c ≤ t ∧ IMap wr wb.heap.size c (placeM f t)) ∧ Hid (Below wb.heap.size wb wr) ∧ wb.heap.size < wr.heap.size)
          case atStart => exact ⟨0, [], by omega, rfl, Lib.hid (Own2.nil _ _ _ _ _), Lib.hid ⟨0, Nat.le_refl _, by rw [placeM_zero]; exact IMap.made wb⟩, Lib.hid (bl_al (bl_refl _) _), by simp⟩
          case round =>
            obtain ⟨t, us, ht, rfl, hO, hM, hbq, hszq⟩ := hrel
            by_cases htk : t < k
            · have ra := (hbq.out.cell (p := ⟨w.heap.size, t, none⟩) hwb).trans (hrowK.out.cell (i := t) htk)
              have hl0 : w.heap.size < wr.heap.size := by omega
              have hle := hLab.out.le t
              have hid := Lib.hid (hLab.out.idem t)
              have hFq := Lib.hid (hFo.out.below hbq.out)
              obtain ⟨r, hr⟩ : ∃ r, f t = r := ⟨_, rfl⟩
              have hul : us.length = (rootsL f t).length := by rw [hO.out.len]; simp [groupsL]
              have hrl := rootsL_len f t
              have hulH := Lib.hid hul
              obtain ⟨A0, cap0, rfl⟩ := hO.out.form hul
              rw [hr] at hle
              obtain ⟨a1, a2, a3, _⟩ := hFq.out r (by omega)
              have hrH := Lib.hid hr
              obtain ⟨c0, hc0, hM0⟩ := hM.out
              have hM0 := Lib.hid hM0
              clear hul hM
              by_cases hrt : r = t
              · subst hrt
                have hno := Lib.hid (placeM_no (f := f) (m := r))
                have hns : (placeM f r r).isSome = false := by rw [hno.out]; rfl
                obtain ⟨p, hp⟩ : ∃ p, (rootsL f r).length = p := ⟨_, rfl⟩
                rw [hp] at hrl hO hulH ⊢
                have hpH := Lib.hid hp
                clear hp
                go_wp2_with (first
                  | (go_at_call 201; refine (first_any Bg k r f wr hFq.out htk).mono ?_; rintro e _ ⟨rfl, rfl⟩)
                  | (at_lookup; refine wpList_look_imap _ rfl _ _ rfl wb.heap.size c0 _ rfl hM0.out r (by omega) rfl ?_; intro c hc)
                  | (at_mapUpdate; refine wpList_put_imap _ rfl _ _ _ rfl wb.heap.size c0 _ rfl hM0.out r p (by omega) (by omega) (by unfold maxLen; omega) rfl rfl ?_; intro w1 hM1 hg1; have hM1H := Lib.hid hM1; have hO1 := Lib.hid (hO.out.keptBelow hg1 (by intro g e; injection e with e; omega)); have hs1 : wb.heap.size < w1.heap.size := Nat.lt_of_lt_of_le hszq hg1.size; clear hM1)
                  | (at_builtin; refine wpList_append_own_at _ rfl _ _ 63 rfl (wb.heap.size + 1) 33 i0 (.slice none 0 0) 1 24 Tryz.underlying63 hi hz0 hz1 hz2 rfl (by decide) _ p us rfl ((hO1.out.outerN hulH.out).alloc _) ⟨w1.heap.size, 0, none⟩ 1 1 [.slice none 0 0] rfl rfl (cell_one_new _ _ _) (fun x hx => by simp at hx; subst hx; rfl) (by unfold maxLen; omega) (by omega) (by simp; omega) ?_; intro v2 w2 hown2 hgrow2 _ hat2; have hO2 := (hO1.out.alloc _).push hulH.out (x := .slice none 0 0) (r := []) (n := 0) (World.ownsRow_nil _ _ _ _) (fun g e => by simp [Value.ownBlock] at e) hown2 hgrow2 hat2; have hN2 := Lib.hid (show (us ++ [Value.slice none 0 0]).length = p + 1 by simp [hulH.out]); have hu2 := Lib.hid (show (us ++ [Value.slice none 0 0])[p]? = some (.slice none 0 0) by rw [← hulH.out]; simp); obtain ⟨g2, cap2, rfl⟩ := hO2.formPos hN2.out (by omega); obtain ⟨q1, q2, q3⟩ := hO2.cellAt hN2.out hu2.out; have hO2 := Lib.hid hO2; have hbA := Lib.hid (below_app (B0 := wb.heap.size + 1) hs1 (fun g e => (hO1.out.lt g e).1) hgrow2); clear hown2 hgrow2 hat2)
                  | (at_builtin; refine wpList_append_own_at _ rfl _ _ 33 rfl (wb.heap.size + 1) 2 i1 (.int .i64 0) 1 8 Tryz.underlying33 hi' hz0' hz1' hz2' rfl (by decide) _ 0 [] rfl (World.ownsRow_nil _ _ _ _) ⟨w2.heap.size, 0, none⟩ 1 1 [.int .i64 (r : Int)] rfl rfl (cell_one_new _ _ _) (fun x hx => by simp at hx; subst hx; rfl) (by unfold maxLen; omega) (by omega) (by simp; have := hbA.out.size; omega) ?_; intro u3 w3 hown3 hgrow3 _ hat3; obtain ⟨g3, cap3, rfl⟩ := ownsRow_succ hown3; obtain ⟨z1, z2, z3, z4⟩ := (hO2.out.alloc _).after hN2.out hu2.out hgrow3; have hown3H := Lib.hid hown3; have hgrow3H := Lib.hid hgrow3; have hat3H := Lib.hid hat3; clear hown3 hgrow3 hat3))
                have hb3 := Lib.hid (below_app (B0 := wb.heap.size + 1) (W := w2) (row := none) (by have := hbA.out.size; omega) (fun g e => by cases e) hgrow3H.out)
                have hb1 := Lib.hid ((Below.refl wb.heap.size wr).grown hg1 (by omega) (fun g e => by injection e with e; omega))
                go_roundg (k - (r + 1))
                case measure => omega
                case rel =>
                  have hbF : Below (wb.heap.size + 1) w1 (w3.setCell ⟨g2, p, none⟩ (.slice (some ⟨g3, 0, none⟩) (0 + 1) cap3)) := (hbA.out.trans hb3.out).setCell (p := ⟨g2, p, none⟩) z4 _
                  refine ⟨r + 1, (us ++ [Value.slice none 0 0]).set p (.slice (some ⟨g3, 0, none⟩) (0 + 1) cap3), by omega, by go_num, Lib.hid ?_, Lib.hid ⟨c0 + 1, by omega, ?_⟩, Lib.hid ?_, ?_⟩
                  · have hF := (hO2.out.alloc _).grow hN2.out hu2.out hown3H.out hgrow3H.out hat3H.out
                    have hrw : ((groupsL f r).map intsN ++ [[]]).set p ([] ++ [Value.int .i64 (r : Int)]) = (groupsL f (r + 1)).map intsN := by
                      rw [groupsL_new hLab.out.le hrH.out, List.map_append, ← hpH.out, List.set_append_right _ _ (by simp [groupsL])]
                      simp [groupsL, intsN]
                    rw [hrw] at hF
                    exact hF
                  · rw [placeM_new hrH.out, hpH.out]
                    exact hM1H.out.block (hbF.block _ (by omega))
                  · exact hbq.out.trans (hb1.out.trans (hbF.mono (by omega)))
                  · exact Nat.lt_of_lt_of_le hs1 hbF.size
              · have hlt : r < t := by omega
                have hne : f t ≠ t := by rw [hrH.out]; exact hrt
                have hneH := Lib.hid hne
                have hidr : f r = r := by
                  have := hid.out
                  rw [hrH.out] at this
                  exact this
                obtain ⟨p, hp⟩ : ∃ p, (rootsL f r).length = p := ⟨_, rfl⟩
                have hpl := rootsL_lt hlt hidr
                have hgt := rootsL_at hlt hidr
                obtain ⟨N0, hN0⟩ : ∃ N0, (rootsL f t).length = N0 := ⟨_, rfl⟩
                rw [hN0] at hO hulH hrl hpl ⊢
                rw [hp] at hpl hgt
                obtain ⟨g2, cap2, hv⟩ := hO.out.formPos hulH.out (by omega)
                injection hv with hv1 hv2 hv3
                subst hv1 hv3
                clear hN0 hv2
                have hyes := Lib.hid (placeM_yes hlt hidr)
                have hys : (placeM f t r).isSome = true := by rw [hyes.out]; rfl
                have hpH := Lib.hid hp
                have hidrH := Lib.hid hidr
                obtain ⟨u, hu⟩ : ∃ u, us[p]? = some u := ⟨_, List.getElem?_eq_getElem (by rw [hulH.out]; exact hpl)⟩
                obtain ⟨n', r', hr', hown0⟩ := hO.out.get hu
                rw [List.getElem?_map, groupsL_get, hgt] at hr'
                simp only [Option.map_some, Option.some.injEq] at hr'
                subst hr'
                obtain ⟨A1, cap1, rfl⟩ := ownsRow_form hown0
                have huH := Lib.hid hu
                have hownH := Lib.hid hown0
                have hl' := hown0.1
                rw [intsN_len, Nat.mul_one] at hl'
                have hll : n' ≤ t := by
                  rw [← hl']
                  have := List.length_filter_le (fun k => f k == r) (List.range t)
                  simpa [partL] using this
                have hO2 := hO
                obtain ⟨q1, q2, q3⟩ := hO2.out.cellAt hulH.out hu
                clear hp hidr hu hown0 hl' hO hgt
                go_wp2_with (first
                  | (go_at_call 201; refine (first_any Bg k t f wr hFq.out htk).mono ?_; rintro e _ ⟨rfl, rfl⟩)
                  | (at_lookup; refine wpList_look_imap _ rfl _ _ rfl wb.heap.size c0 _ rfl hM0.out r (by omega) rfl ?_; intro c hc; obtain rfl := hc p (by rw [hyes.out, hpH.out]))
                  | (at_builtin; refine wpList_append_own_at _ rfl _ _ 33 rfl (wb.heap.size + 1) 2 i1 (.int .i64 0) 1 8 Tryz.underlying33 hi' hz0' hz1' hz2' rfl (by decide) _ n' (intsN (partL f t r)) rfl (hownH.out.alloc _) ⟨wr.heap.size, 0, none⟩ 1 1 [.int .i64 (t : Int)] rfl rfl (cell_one_new _ _ _) (fun x hx => by simp at hx; subst hx; rfl) (by unfold maxLen; omega) (by omega) (by simp; omega) ?_; intro u3 w3 hown3 hgrow3 _ hat3; obtain ⟨g3, cap3, rfl⟩ := ownsRow_succ hown3; obtain ⟨z1, z2, z3, z4⟩ := (hO2.out.alloc _).after hulH.out huH.out hgrow3; have hown3H := Lib.hid hown3; have hgrow3H := Lib.hid hgrow3; have hat3H := Lib.hid hat3; clear hown3 hgrow3 hat3))
                have hb3 := Lib.hid (below_app (B0 := wb.heap.size + 1) (W := wr) (by omega) (fun g e => (hownH.out.lt g e).1) hgrow3H.out)
                go_roundg (k - (t + 1))
                case measure => omega
                case rel =>
                  have hbF : Below (wb.heap.size + 1) wr (w3.setCell ⟨g2, p, none⟩ (.slice (some ⟨g3, 0, none⟩) (n' + 1) cap3)) := hb3.out.setCell (p := ⟨g2, p, none⟩) z4 _
                  refine ⟨t + 1, us.set p (.slice (some ⟨g3, 0, none⟩) (n' + 1) cap3), by omega, by go_num, Lib.hid ?_, Lib.hid ⟨c0, by omega, ?_⟩, Lib.hid ?_, ?_⟩
                  · have hF := (hO2.out.alloc _).grow hulH.out huH.out hown3H.out hgrow3H.out hat3H.out
                    have hrw : ((groupsL f t).map intsN).set p (intsN (partL f t r) ++ [Value.int .i64 (t : Int)]) = (groupsL f (t + 1)).map intsN := by
                      rw [groupsL_old hneH.out (by rw [hrH.out]; exact hlt) (by rw [hrH.out]; exact hidrH.out), hrH.out, hpH.out, List.map_set]
                      simp [intsN]
                    rw [hrw] at hF
                    exact hF
                  · rw [placeM_old hneH.out]
                    exact hM0.out.block (hbF.block _ (by omega))
                  · exact hbq.out.trans (hbF.mono (by omega))
                  · exact Nat.lt_of_lt_of_le hszq hbF.size
            · obtain rfl : t = k := by omega
              obtain ⟨A0, cap0, rfl⟩ := hO.out.form rfl
              go_wp2
              go_ret
              refine ⟨_, us, rfl, ?_, ?_⟩
              · rw [hfH.out]
                exact hO.out.rebase (by omega)
              · exact hbw.out.trans (hbq.out.mono (by omega))
end Go.Proofs.YtmhgjgclclnmaaaGreat
/- Walks: the reference's groups by bonds. -/

namespace Go.Proofs.YtmhgjgclclnmaaaGreat
open Go.RowKit Go.Shelf
attribute [local go_sem] BelowBy.cell BelowBy.cell_drew stillUpon givesUpon BelowBy.cell_drew2 BelowBy.cell_drew3

theorem l00Max_any (a b : Int) (w : World) : Calls Tryz.prog 214 #[.int .i64 a, .int .i64 b] w fun e w' => e = .returned (.int .i64 (max a b)) ∧ w = w' := by
  go_enter Tryz.func214, Tryz.ntmps214
  go_wp2
  · rename_i h
    go_ret
    exact ⟨ret_int (by omega), rfl⟩
  · go_ret
    exact ⟨ret_int (by omega), rfl⟩
theorem l00Min_any (a b : Int) (w : World) : Calls Tryz.prog 213 #[.int .i64 a, .int .i64 b] w fun e w' => e = .returned (.int .i64 (min a b)) ∧ w = w' := by
  go_enter Tryz.func213, Tryz.ntmps213
  go_wp2
  · go_ret
    exact ⟨ret_int (by omega), rfl⟩
  · go_ret
    exact ⟨ret_int (by omega), rfl⟩
theorem l00Max_at (a b m : Nat) (w : World) (h : max a b = m) : Calls Tryz.prog 214 #[.int .i64 (a : Int), .int .i64 (b : Int)] w fun e w' => e = .returned (.int .i64 (m : Int)) ∧ w = w' := by
  have := l00Max_any a b w
  rwa [show max (a : Int) (b : Int) = (m : Int) by omega] at this
theorem l00Min_at (a b m : Nat) (w : World) (h : min a b = m) : Calls Tryz.prog 213 #[.int .i64 (a : Int), .int .i64 (b : Int)] w fun e w' => e = .returned (.int .i64 (m : Int)) ∧ w = w' := by
  have := l00Min_any a b w
  rwa [show min (a : Int) (b : Int) = (m : Int) by omega] at this
theorem intsN_snoc (l : List Nat) (x : Nat) : intsN l ++ [Value.int .i64 (x : Int)] = intsN (l ++ [x]) := by simp [intsN]
theorem intsN_get {l : List Nat} {k x : Nat} (h : l[k]? = some x) : (intsN l)[k]? = some (.int .i64 (x : Int)) := by simp [intsN, h]
theorem intsN_set (l : List Nat) (k x : Nat) : (intsN l).set k (.int .i64 (x : Int)) = intsN (l.set k x) := by simp [intsN, List.map_set]
/-- labels as a row -/
def labsL (f : Nat → Nat) (n : Nat) : List Nat := (List.range n).map f
theorem labsL_len (f : Nat → Nat) (n : Nat) : (labsL f n).length = n := by simp [labsL]
theorem labsL_get {f : Nat → Nat} {n k : Nat} (h : k < n) : (labsL f n)[k]? = some (f k) := by simp [labsL, h]
theorem labsL_set (f : Nat → Nat) (n k x : Nat) : (labsL f n).set k x = labsL (fun j => if j = k then x else f j) n := by
  apply List.ext_getElem?
  intro j
  rw [List.getElem?_set, labsL_len]
  by_cases e : k = j
  · subst e
    by_cases hk : k < n
    · rw [if_pos rfl, if_pos hk, labsL_get hk, if_pos rfl]
    · rw [if_pos rfl, if_neg hk, List.getElem?_eq_none (by rw [labsL_len]; omega)]
  · rw [if_neg e]
    by_cases hj : j < n
    · rw [labsL_get hj, labsL_get hj, if_neg (fun h => e h.symm)]
    · rw [List.getElem?_eq_none (by rw [labsL_len]; omega), List.getElem?_eq_none (by rw [labsL_len]; omega)]
theorem labsL_id_snoc (k : Nat) : labsL (fun j => j) k ++ [k] = labsL (fun j => j) (k + 1) := by simp [labsL, List.range_succ]
/-- half of a round's relabelling -/
def relabTo (f : Nat → Nat) (a b t : Nat) : Nat → Nat := fun j => if j < t then relab f a b j else f j
theorem relabTo_zero (f : Nat → Nat) (a b : Nat) : relabTo f a b 0 = f := by funext j; simp [relabTo]
theorem relabTo_hit {f : Nat → Nat} {a b t : Nat} (h : f t = max (f a) (f b)) : relabTo f a b (t + 1) = fun j => if j = t then min (f a) (f b) else relabTo f a b t j := by
  funext j
  unfold relabTo relab
  by_cases e : j = t
  · subst e; simp [h]
  · by_cases hj : j < t
    · simp [e, hj, Nat.lt_succ_of_lt hj]
    · have : ¬ j < t + 1 := by omega
      simp [e, hj, this]
theorem relabTo_miss {f : Nat → Nat} {a b t : Nat} (h : f t ≠ max (f a) (f b)) : relabTo f a b (t + 1) = relabTo f a b t := by
  funext j
  unfold relabTo relab
  by_cases e : j = t
  · subst e; simp [h]
  · by_cases hj : j < t
    · simp [hj, Nat.lt_succ_of_lt hj]
    · have : ¬ j < t + 1 := by omega
      simp [hj, this]
theorem labsL_all (f : Nat → Nat) (a b n : Nat) : labsL (relabTo f a b n) n = labsL (relab f a b) n := by
  unfold labsL
  apply List.map_congr_left
  intro j hj
  simp at hj
  simp [relabTo, hj]
set_option maxRecDepth 100000 in
set_option maxHeartbeats 2000000 in
theorem l06Groups_any (n : Nat) (B : Option Addr) (m c : Nat) (bs : List Bd) (w : World) (hB : RdSl 3 RBd w B m bs) (hn : n ≤ 100000) (hm : m ≤ 1000000) (hbs : ∀ (k : Nat) (e : Bd), bs[k]? = some e → e.a < n ∧ e.b < n) :
    Calls Tryz.prog 212 #[.int .i64 (n : Int), .slice B m c] w (OwnGr w (groupsL (labOf bs m) n)) := by
  obtain ⟨i0, hi, hz0, hz1, hz2⟩ := info_parts infoGs
  obtain ⟨i1, hi', hz0', hz1', hz2'⟩ := info_parts infoI
  have hBH := Lib.hid hB
  have hbsH := Lib.hid hbs
  clear hB hbs
  go_enter Tryz.func212, Tryz.ntmps212
  go_wp2
  go_loopg [6, 5] n (fun g i v wr => ∃ (k : Nat), k + g = n ∧ i = .int .i64 (k : Int) ∧ Hid (wr.ownsRow w.heap.size 2 1 v k (intsN (labsL (fun j => j) k))) ∧ Hid (Below w.heap.size w wr))
  case atStart => exact ⟨0, by omega, rfl, Lib.hid (World.ownsRow_made _ _ _ (Nat.le_refl _) (by decide) rfl), Lib.hid (bl_al (bl_refl _) _)⟩
  case round =>
    obtain ⟨k, hk, rfl, hrow, hbw⟩ := hrel
    have hszl := hbw.out.size
    obtain ⟨A0, c0, rfl⟩ := ownsRow_form hrow.out
    by_cases hkn : k < n
    · go_wp2_with (at_builtin; refine wpList_append_own _ rfl _ _ 33 rfl w.heap.size 2 i1 (.int .i64 0) 1 8 Tryz.underlying33 hi' hz0' hz1' hz2' rfl (by decide) _ k (intsN (labsL (fun j => j) k)) rfl (hrow.out.alloc _) ⟨wr.heap.size, 0, none⟩ 1 1 [.int .i64 (k : Int)] rfl rfl (cell_one_new _ _ _) (fun x hx => by simp at hx; subst hx; rfl) (by unfold maxLen; omega) (by omega) (by simp; omega) ?_; intro u3 w3 hown3 hgrow3 _; have hown3H := Lib.hid hown3; have hgrow3H := Lib.hid hgrow3; clear hown3 hgrow3)
      go_roundg (n - (k + 1))
      case measure => omega
      case rel =>
        refine ⟨k + 1, by omega, by go_num, Lib.hid ?_, Lib.hid ?_⟩
        · rw [← labsL_id_snoc, ← intsN_snoc]
          exact hown3H.out
        · exact hbw.out.trans (below_app hszl (fun g e => (hrow.out.lt g e).1) hgrow3H.out)
    · obtain rfl : k = n := by omega
      obtain ⟨wa, rfl⟩ : ∃ wa : World, wa = wr := ⟨_, rfl⟩
      go_wp2
      go_loopg [7] m (fun g i wr => ∃ (j : Nat), j + g = m ∧ i = .int .i64 (j : Int) ∧ Hid (Below w.heap.size w wr) ∧ Hid (wr.ownsRow w.heap.size 2 1 (.slice A0 k c0) k (intsN (labsL (labOf bs j) k))))
      case atStart => exact ⟨0, by omega, rfl, hbw, hrow⟩
      case round =>
        clear hbw hszl hrow
        obtain ⟨j, hj, rfl, hbw, hrow⟩ := hrel
        have hszl := hbw.out.size
        by_cases hjm : j < m
        · have hBw := hBH.out.below RBd.stable hbw.out
          obtain ⟨bb, ob, rfl, hbb, hbc⟩ := hBw.ptr (by omega)
          obtain ⟨e, he⟩ := hBw.get hjm
          obtain ⟨e0, e1, e2⟩ := hbc j e he
          obtain ⟨hea, heb⟩ := hbsH.out j e he
          have hlab := Lib.hid (labOf_succ he)
          have hbb0 : bb < w.heap.size := by
            obtain ⟨b', o', e', hb', _⟩ := hBH.out.ptr (by omega)
            injection e' with e'
            injection e' with e'
            omega
          obtain ⟨f, hf⟩ : ∃ f, labOf bs j = f := ⟨_, rfl⟩
          rw [hf] at hrow hlab
          obtain ⟨g0, cap0, hv⟩ : ∃ g0 cap0, Value.slice A0 k c0 = .slice (some ⟨g0, 0, none⟩) k cap0 := by
            rcases hrow.out.2 with ⟨_, h0⟩ | ⟨g, cap, cur, hv, _⟩
            · omega
            · exact ⟨g, cap, hv⟩
          injection hv with hv1 hv2 hv3
          subst hv1 hv3
          have ra := (hrow.out.cellAt e.a (by omega)).trans (intsN_get (labsL_get hea))
          have rb := (hrow.out.cellAt e.b (by omega)).trans (intsN_get (labsL_get heb))
          have hg0 := hrow.out.lt g0 rfl
          obtain ⟨hg1, hg2⟩ := hg0
          have hfH := Lib.hid hf
          clear hbc he hBw hf hv2
          obtain ⟨la, hlaE⟩ : ∃ la, f e.a = la := ⟨_, rfl⟩
          obtain ⟨lb, hlbE⟩ : ∃ lb, f e.b = lb := ⟨_, rfl⟩
          rw [hlaE] at ra
          rw [hlbE] at rb
          have hlaH := Lib.hid hlaE
          have hlbH := Lib.hid hlbE
          clear hlaE hlbE
          obtain ⟨wo, rfl⟩ : ∃ wo : World, wo = wr := ⟨_, rfl⟩
          go_wp2
          go_loopg [10] k (fun g i wr => ∃ (t : Nat), t + g = k ∧ i = .int .i64 (t : Int) ∧ Hid (Below w.heap.size w wr) ∧ Hid (wr.ownsRow w.heap.size 2 1 (.slice (some ⟨g0, 0, none⟩) k c0) k (intsN (labsL (relabTo f e.a e.b t) k))))
          case atStart => exact ⟨0, by omega, rfl, hbw, Lib.hid (by rw [relabTo_zero]; exact hrow.out)⟩
          case round =>
            clear hbw hszl hrow ra rb e0 e1 e2 hg2
            obtain ⟨t, ht, rfl, hbw, hrow⟩ := hrel
            have hszl := hbw.out.size
            by_cases htk : t < k
            · have hft : relabTo f e.a e.b t t = f t := by simp [relabTo]
              have rt := (hrow.out.cellAt t (by omega)).trans (intsN_get (labsL_get htk))
              rw [hft] at rt
              have hg2 := (hrow.out.lt g0 rfl).2
              have fz := hrow.out.frozenAt t
              obtain ⟨mx, hmx⟩ : ∃ mx, max la lb = mx := ⟨_, rfl⟩
              obtain ⟨mn, hmn⟩ : ∃ mn, min la lb = mn := ⟨_, rfl⟩
              have hmxH := Lib.hid hmx
              have hmnH := Lib.hid hmn
              obtain ⟨lt, hlt⟩ : ∃ lt, f t = lt := ⟨_, rfl⟩
              rw [hlt] at rt
              have hltH := Lib.hid hlt
              clear hft hmx hmn hlt
              by_cases hq : lt = mx
              · subst hq
                go_wp2
                refine wp_region_ord [(0, .q), (1, .q), (2, .q), (3, .q), (4, .q), (5, .q), (6, .g), (7, .q)] (by kernel_rfl) (by kernel_rfl) ?_
                simp only [pick, List.filterMap_cons, List.filterMap_nil, List.getElem?_toArray, List.getElem?_cons_zero, List.getElem?_cons_succ, Option.map_some]
                repeat (first
                  | ((with_reducible refine wpD_p (fun K hK => ?_)); go_simp; refine hK _ ?_; clear hK K)
                  | ((with_reducible refine wpD_q (fun K hK => ?_)); go_simp; (first | refine hK _ ?_ | (go_bits; refine hK _ ?_) | (go_bits; go_simp; refine hK _ ?_)); clear hK K)
                  | ((with_reducible refine wpD_g (fun K hK => ?_)); go_simp; refine hK _ _ ?_; clear hK K)
                  | ((with_reducible refine wpD_g (fun K hK => ?_)); go_simp; refine ⟨Grew.of_alloc _, hK _ _ ?_⟩; clear hK K)
                  | ((with_reducible refine wpD_g (fun K hK => ?_)); go_simp; go_at_call 214; refine (l00Max_at la lb _ _ hmxH.out).mono ?_; rintro e _ ⟨rfl, rfl⟩; refine ⟨_, rfl, Below.refl _ _, hK _ _ ?_⟩; clear hK K))
                with_reducible refine wpD_nil ?_
                go_wp2_with (go_at_call 213; refine (l00Min_at la lb _ _ hmnH.out).mono ?_; rintro e _ ⟨rfl, rfl⟩)
                go_roundg (k - (t + 1))
                case measure => omega
                case rel =>
                  refine ⟨t + 1, by omega, by go_num, Lib.hid ?_, Lib.hid ?_⟩
                  · exact (hbw.out.setCell (p := ⟨g0, t, none⟩) hg1 _).drew
                  · have hs := (hrow.out.stored t (.int .i64 (mn : Int))).1
                    rw [intsN_set, labsL_set, ← hmnH.out, ← hlaH.out, ← hlbH.out, ← relabTo_hit (by rw [hltH.out, hlaH.out, hlbH.out, hmxH.out])] at hs
                    rw [← hmnH.out, ← hlaH.out, ← hlbH.out]
                    exact hs
              · have hqd : ((lt : Int) == (mx : Int)) = false := by simp; omega
                go_wp2
                refine wp_region_ord [(0, .q), (1, .q), (2, .q), (3, .q), (4, .q), (5, .q), (6, .g), (7, .q)] (by kernel_rfl) (by kernel_rfl) ?_
                simp only [pick, List.filterMap_cons, List.filterMap_nil, List.getElem?_toArray, List.getElem?_cons_zero, List.getElem?_cons_succ, Option.map_some]
                repeat (first
                  | ((with_reducible refine wpD_p (fun K hK => ?_)); go_simp; refine hK _ ?_; clear hK K)
                  | ((with_reducible refine wpD_q (fun K hK => ?_)); go_simp; (first | refine hK _ ?_ | (go_bits; refine hK _ ?_) | (go_bits; go_simp; refine hK _ ?_)); clear hK K)
                  | ((with_reducible refine wpD_g (fun K hK => ?_)); go_simp; refine hK _ _ ?_; clear hK K)
                  | ((with_reducible refine wpD_g (fun K hK => ?_)); go_simp; refine ⟨Grew.of_alloc _, hK _ _ ?_⟩; clear hK K)
                  | ((with_reducible refine wpD_g (fun K hK => ?_)); go_simp; go_at_call 214; refine (l00Max_at la lb _ _ hmxH.out).mono ?_; rintro e _ ⟨rfl, rfl⟩; refine ⟨_, rfl, Below.refl _ _, hK _ _ ?_⟩; clear hK K))
                with_reducible refine wpD_nil ?_
                go_wp2
                go_roundg (k - (t + 1))
                case measure => omega
                case rel =>
                  refine ⟨t + 1, by omega, by go_num, Lib.hid ?_, Lib.hid ?_⟩
                  · exact hbw.out.drew
                  · rw [relabTo_miss (by rw [hltH.out, hlaH.out, hlbH.out, hmxH.out]; exact hq)]
                    exact hrow.out
            · obtain rfl : t = k := by omega
              go_wp2
              go_roundg (m - (j + 1))
              case measure => omega
              case rel => exact ⟨j + 1, by omega, by go_num, hbw, Lib.hid (by rw [hlab.out, ← labsL_all]; exact hrow.out)⟩
        · obtain rfl : j = m := by omega
          obtain ⟨f, hf⟩ : ∃ f, labOf bs j = f := ⟨_, rfl⟩
          have hLab := Lib.hid (Lab.of bs j)
          rw [hf] at hrow hLab
          have hfH := Lib.hid hf
          clear hf
          obtain ⟨wb, rfl⟩ : ∃ wb : World, wb = wr := ⟨_, rfl⟩
          go_wp2
          go_loopg [12, 11] k (fun g i v wr => ∃ (t : Nat) (us : List Value), t + g = k ∧ i = .int .i64 (t : Int) ∧ Hid (Own2 wr wb.heap.size 33 2 1 v us (((rootsL f t).map (partL f k)).map intsN)) ∧ Hid (Below wb.heap.size wb wr))
          case atStart => exact ⟨0, [], by omega, rfl, Lib.hid (Own2.of_empty (World.ownsRow_made _ _ _ (Nat.le_refl _) (by decide) rfl)), Lib.hid (bl_al (bl_refl _) _)⟩
          case round =>
            obtain ⟨t, us, ht, rfl, hO, hbq⟩ := hrel
            have hszq := hbq.out.size
            have hul : us.length = (rootsL f t).length := by rw [hO.out.len]; simp
            have hrl := rootsL_len f t
            obtain ⟨N0, hN0⟩ : ∃ N0, (rootsL f t).length = N0 := ⟨_, rfl⟩
            rw [hN0] at hul hrl
            have hulH := Lib.hid hul
            clear hul hN0
            obtain ⟨A1, c1, rfl⟩ := hO.out.form hulH.out
            by_cases htk : t < k
            · obtain ⟨g0, cap0, hv⟩ : ∃ g0 cap0, Value.slice A0 k c0 = .slice (some ⟨g0, 0, none⟩) k cap0 := by
                rcases hrow.out.2 with ⟨_, h0⟩ | ⟨g, cap, cur, hv, _⟩
                · omega
                · exact ⟨g, cap, hv⟩
              injection hv with hv1 hv2 hv3
              subst hv1 hv3
              clear hv2
              have hg0 := (hrow.out.lt g0 rfl).2
              have hnc := Lib.hid (fun (q : Nat) (hq : q < k) (W : World) (hW : Below wb.heap.size wb W) => (hW.cell (p := ⟨g0, q, none⟩) hg0).trans ((hrow.out.cellAt q (by omega)).trans (intsN_get (labsL_get hq))))
              have rt := hnc.out t htk wr hbq.out
              have hg1 : g0 < wr.heap.size := by omega
              obtain ⟨r, hr⟩ : ∃ r, f t = r := ⟨_, rfl⟩
              rw [hr] at rt
              have hrH := Lib.hid hr
              clear hr
              by_cases hrt : r = t
              · subst hrt
                obtain ⟨wo, rfl⟩ : ∃ wo : World, wo = wr := ⟨_, rfl⟩
                go_wp2
                go_loopg [14, 13] (k - r) (fun g i v wr => ∃ (q : Nat), r ≤ q ∧ q + g = k ∧ i = .int .i64 (q : Int) ∧ Hid (wr.ownsRow wo.heap.size 2 1 v (partL f q r).length (intsN (partL f q r))) ∧ Hid (Below wo.heap.size wo wr))
                case atStart => exact ⟨r, Nat.le_refl _, by omega, rfl, Lib.hid (by rw [partL_new hLab.out.le (Nat.le_refl _)]; exact World.ownsRow_made _ _ _ (Nat.le_refl _) (by decide) rfl), Lib.hid (bl_al (bl_refl _) _)⟩
                case round =>
                  clear rt hg1
                  obtain ⟨q, hq1, hq, rfl, hpr, hbp⟩ := hrel
                  have hszp := hbp.out.size
                  have hpl : (partL f q r).length ≤ q := by
                    have := List.length_filter_le (fun k => f k == r) (List.range q)
                    simpa [partL] using this
                  obtain ⟨np, hnp⟩ : ∃ np, (partL f q r).length = np := ⟨_, rfl⟩
                  rw [hnp] at hpr hpl
                  have hnpH := Lib.hid hnp
                  clear hnp
                  obtain ⟨A2, c2, rfl⟩ := ownsRow_form hpr.out
                  by_cases hqk : q < k
                  · have rq := hnc.out q hqk wr (hbq.out.trans (hbp.out.mono hszq))
                    have hg1 : g0 < wr.heap.size := by omega
                    obtain ⟨s, hs⟩ : ∃ s, f q = s := ⟨_, rfl⟩
                    rw [hs] at rq
                    have hsH := Lib.hid hs
                    clear hs
                    by_cases hsr : s = r
                    · subst hsr
                      go_wp2_with (at_builtin; refine wpList_append_own _ rfl _ _ 33 rfl wo.heap.size 2 i1 (.int .i64 0) 1 8 Tryz.underlying33 hi' hz0' hz1' hz2' rfl (by decide) _ np (intsN (partL f q s)) rfl (hpr.out.alloc _) ⟨wr.heap.size, 0, none⟩ 1 1 [.int .i64 (q : Int)] rfl rfl (cell_one_new _ _ _) (fun x hx => by simp at hx; subst hx; rfl) (by unfold maxLen; omega) (by omega) (by simp; omega) ?_; intro u3 w3 hown3 hgrow3 _; have hown3H := Lib.hid hown3; have hgrow3H := Lib.hid hgrow3; clear hown3 hgrow3)
                      go_roundg (k - (q + 1))
                      case measure => omega
                      case rel =>
                        refine ⟨q + 1, by omega, by omega, by go_num, Lib.hid ?_, Lib.hid ?_⟩
                        · rw [partL_succ_yes hsH.out, ← intsN_snoc, List.length_append, hnpH.out]
                          exact hown3H.out
                        · exact hbp.out.trans (below_app hszp (fun g e => (hpr.out.lt g e).1) hgrow3H.out)
                    · have hsd : ((s : Int) == (r : Int)) = false := by simp; omega
                      go_wp2
                      go_roundg (k - (q + 1))
                      case measure => omega
                      case rel =>
                        refine ⟨q + 1, by omega, by omega, by go_num, Lib.hid ?_, hbp⟩
                        rw [partL_succ_no (by rw [hsH.out]; exact hsr), hnpH.out]
                        exact hpr.out
                  · obtain rfl : q = k := by omega
                    have hO1 := Lib.hid (hO.out.below hbp.out)
                    have hprB := Lib.hid (ownsRow_base hpr.out hszq)
                    go_wp2_with (at_builtin; refine wpList_append_own_at _ rfl _ _ 63 rfl wb.heap.size 33 i0 (.slice none 0 0) 1 24 Tryz.underlying63 hi hz0 hz1 hz2 rfl (by decide) _ N0 us rfl ((hO1.out.outerN hulH.out).alloc _) ⟨wr.heap.size, 0, none⟩ 1 1 [.slice A2 np c2] rfl rfl (cell_one_new _ _ _) (fun x hx => by simp at hx; subst hx; rfl) (by unfold maxLen; omega) (by omega) (by simp; omega) ?_; intro v2 w2 hown2 hgrow2 _ hat2; have hO2 := Lib.hid ((hO1.out.alloc _).push hulH.out (hprB.out.alloc _) (fun g e => ⟨fun e' => by have := (hO.out.lt g e').2; have := (hpr.out.lt g e).1; omega, fun k u hu e' => by have := (hO.out.ltIn hu g e').2; have := (hpr.out.lt g e).1; omega⟩) hown2 hgrow2 hat2); have hgrow2H := Lib.hid hgrow2; clear hown2 hgrow2 hat2)
                    go_roundg (q - (r + 1))
                    case measure => omega
                    case rel =>
                      refine ⟨r + 1, us ++ [.slice A2 np c2], by omega, by go_num, Lib.hid ?_, Lib.hid ?_⟩
                      · rw [rootsL_succ_yes hrH.out, List.map_append, List.map_append]
                        exact hO2.out
                      · exact hbq.out.trans ((hbp.out.mono hszq).trans (below_app (by omega) (fun g e => (hO.out.lt g e).1) hgrow2H.out))
              · have hrd : ((r : Int) != (t : Int)) = true := by simp; omega
                go_wp2
                go_roundg (k - (t + 1))
                case measure => omega
                case rel =>
                  refine ⟨t + 1, us, by omega, by go_num, Lib.hid ?_, hbq⟩
                  rw [rootsL_succ_no (by rw [hrH.out]; exact hrt)]
                  exact hO.out
            · obtain rfl : t = k := by omega
              go_wp2
              go_ret
              refine ⟨_, us, rfl, ?_, ?_⟩
              · rw [hfH.out]
                exact hO.out.rebase hszl
              · exact hbw.out.trans (hbq.out.mono hszl)
end Go.Proofs.YtmhgjgclclnmaaaGreat
/- Walks: the reference's bonds between groups. -/




namespace Go.Proofs.YtmhgjgclclnmaaaGreat
open Go.RowKit Go.Shelf
attribute [local go_sem] BelowBy.cell BelowBy.cell_drew stillUpon givesUpon BelowBy.cell_drew2 BelowBy.cell_drew3

def ShrRes (w : World) (k : Nat) (cs : List Bd) (e : Ending) (w' : World) : Prop := ∃ v, e = .returned (.tuple #[.int .i64 (k : Int), v]) ∧ w'.ownsRow w.heap.size 49 3 v cs.length (bdCells cs) ∧ Below w.heap.size w w'
set_option maxRecDepth 100000 in
set_option maxHeartbeats 4000000 in
theorem l07Shrunk_any (n : Nat) (B : Option Addr) (m c : Nat) (bs : List Bd) (t : Int) (w : World) (hB : RdSl 3 RBd w B m bs) (hb : BondsOk n bs) (hn : n ≤ 100000) (hm : m ≤ 100000) :
    Calls Tryz.prog 210 #[.int .i64 (n : Int), .slice B m c, .int .i64 t] w (ShrRes w (grpT n bs t).length (shrS n bs t)) := by
  obtain ⟨i0, hi, hz0, hz1, hz2⟩ := info_parts infoBond
  have hmk := fun W => run_makeN (P := Tryz.prog) 33 2 _ 1 8 Tryz.underlying33 infoI n (by omega) (by omega) W
  have hBH := Lib.hid hB
  have hbH := Lib.hid hb
  have hml := Lib.hid hB.len
  clear hB hb
  go_enter Tryz.func210, Tryz.ntmps210
  go_wp2
  go_loopg [9, 8] m (fun gk i v wr => ∃ k : Nat, k + gk = m ∧ i = .int .i64 (k : Int) ∧ Hid (wr.ownsRow w.heap.size 49 3 v (strongL t bs k).length (bdCells (strongL t bs k))) ∧ Hid (Below w.heap.size w wr))
  case atStart => exact ⟨0, by omega, rfl, Lib.hid (by have := World.ownsRow_lit (base := w.heap.size) (e := 49) (size := 3) w #[] 0 (Nat.le_refl _) (by decide) rfl; simpa [strongL, bdCells] using this), Lib.hid (bl_al (bl_refl _) _)⟩
  case round =>
    obtain ⟨k, hk, rfl, hrow, hbw⟩ := hrel
    have hsz := hbw.out.size
    obtain ⟨A1, c1, rfl⟩ := ownsRow_form hrow.out
    by_cases hkm : k < m
    · clear hmk
      have hBw := hBH.out.below RBd.stable hbw.out
      obtain ⟨bb, ob, rfl, hbb, hbc⟩ := hBw.ptr (by omega)
      obtain ⟨e, he⟩ := hBw.get hkm
      obtain ⟨e0, e1, e2⟩ := hbc k e he
      have hsl := strongL_len t bs k
      obtain ⟨L, hL⟩ : ∃ L, (strongL t bs k).length = L := ⟨_, rfl⟩
      rw [hL] at hrow hsl ⊢
      have hLH := Lib.hid hL
      have heH := Lib.hid he
      clear hbc he hBw hL
      by_cases hts : t ≤ e.s
      · have hy := Lib.hid (strongL_yes heH.out hts)
        go_wp2_with (at_builtin; refine wpList_append_own _ rfl _ _ 44 rfl w.heap.size 49 i0 (.agg #[.int .i64 0, .int .i64 0, .int .i64 0]) 3 24 Tryz.underlying44 hi hz0 hz1 hz2 rfl (by decide) _ L (bdCells (strongL t bs k)) rfl (hrow.out.alloc _) ⟨wr.heap.size, 0, none⟩ 1 1 [.int .i64 (e.a : Int), .int .i64 (e.b : Int), .int .i64 e.s] rfl rfl (cell_three_new _ _ _ _ _) (fun x hx => by simp at hx; rcases hx with rfl | rfl | rfl <;> rfl) (by unfold maxLen; omega) (by omega) (by simp; omega) ?_; intro u3 w3 hown3 hgrow3 _; have hown3H := Lib.hid hown3; have hgrow3H := Lib.hid hgrow3; clear hown3 hgrow3)
        go_roundg (m - (k + 1))
        case measure => omega
        case rel =>
          refine ⟨k + 1, by omega, by go_num, Lib.hid ?_, Lib.hid (hbw.out.trans (below_app hsz (fun b e => (hrow.out.lt b e).1) hgrow3H.out))⟩
          rw [hy.out, bdCells_snoc, List.length_append, hLH.out]
          exact hown3H.out
      · have hy := Lib.hid (strongL_no heH.out hts)
        go_wp2
        go_roundg (m - (k + 1))
        case measure => omega
        case rel => exact ⟨k + 1, by omega, by go_num, Lib.hid (by rw [hy.out, hLH.out]; exact hrow.out), hbw⟩
    · obtain rfl : k = m := by omega
      have hsl := strongL_len t bs k
      obtain ⟨A2, c2, hA2, hrd⟩ := rd_of_row hrow.out
      injection hA2 with hA2 _ hc2
      subst hA2; subst hc2
      have hrdH := Lib.hid hrd
      have hin := Lib.hid (show ∀ (j : Nat) (e : Bd), (strongL t bs k)[j]? = some e → e.a < n ∧ e.b < n from fun j e h => by obtain ⟨q, hq⟩ := strongL_mem h; exact ⟨hbH.out.a q e hq, hbH.out.b q e hq⟩)
      have hgr := Lib.hid (show grpT n bs t = groupsL (labOf (strongL t bs k) (strongL t bs k).length) n by unfold grpT; rw [hml.out])
      clear hrd
      obtain ⟨wa, rfl⟩ : ∃ wa : World, wa = wr := ⟨_, rfl⟩
      go_wp2_with (go_at_call 212; refine (l06Groups_any n A1 _ c1 (strongL t bs k) _ hrdH.out hn (by omega) hin.out).mono ?_; rw [← hgr.out]; rintro e w1 ⟨vG, us, rfl, hown, hb1⟩; have hownH := Lib.hid hown; have hb1H := Lib.hid hb1; have hs1 := hb1.size; obtain ⟨AG, cG, rfl⟩ := hown.form hown.len; clear hown hb1)
      have hK := grpT_len n bs t
      obtain ⟨gss, hgss⟩ : ∃ gss, grpT n bs t = gss := ⟨_, rfl⟩
      have hgssH := Lib.hid hgss
      obtain ⟨K, hKE⟩ : ∃ K, gss.length = K := ⟨_, rfl⟩
      have hKH := Lib.hid hKE
      rw [hgss] at hownH hK ⊢
      have husl := Lib.hid (show us.length = K by rw [hownH.out.len, List.length_map, hKE])
      rw [List.length_map, hKE] at hownH
      try rw [List.length_map]
      rw [hKE]
      rw [hKE] at hK
      clear hgss hKE
      go_loopg [12] K (fun gk i wr => ∃ g : Nat, g + gk = K ∧ i = .int .i64 (g : Int) ∧ Hid (wr.rowIs w1.heap.size 2 n (fun x => .int .i64 (ofG gss g x : Int))) ∧ Hid (Below w1.heap.size w1 wr))
      case atStart => exact ⟨0, by omega, rfl, Lib.hid (by have := World.rowIs_made w1 (.int .i64 0) n 2; simpa [ofG] using this), Lib.hid (bl_al (bl_refl _) _)⟩
      case round =>
        clear hmk
        obtain ⟨g, hg, rfl, hnm, hbg⟩ := hrel
        have hszg := hbg.out.size
        have hownr := hownH.out.below hbg.out
        by_cases hgK : g < K
        · obtain ⟨gG, cG', hvG⟩ := hownr.formPos husl.out (by omega)
          injection hvG with hv1 hv2 hv3
          subst hv1; subst hv3
          obtain ⟨u, hu⟩ : ∃ u, us[g]? = some u := ⟨_, List.getElem?_eq_getElem (by rw [husl.out]; exact hgK)⟩
          obtain ⟨l, hl⟩ : ∃ l, gss[g]? = some l := ⟨_, List.getElem?_eq_getElem (by rw [hKH.out]; exact hgK)⟩
          obtain ⟨cu, fu, lu⟩ := hownH.out.cellAt husl.out hu
          obtain ⟨N0, r0, hr0, hin0⟩ := hownH.out.get hu
          rw [List.getElem?_map, hl] at hr0
          obtain rfl := Option.some.inj hr0
          have hN0 := hin0.1
          rw [intsN_len, Nat.mul_one] at hN0
          subst hN0
          obtain ⟨Au, cu', rfl⟩ := ownsRow_form hin0
          have hinH := Lib.hid hin0
          have hlH := Lib.hid hl
          have hll := grpT_len2 (by rw [hgssH.out]; exact hl)
          have hltu : gG < w1.heap.size := lu
          obtain ⟨M, hME⟩ : ∃ M, l.length = M := ⟨_, rfl⟩
          have hMH := Lib.hid hME
          rw [hME] at cu hinH hll
          have cuH := Lib.hid cu
          clear hin0 hl hu hME cu fu hownr
          have cg := (hbg.out.cell (p := ⟨gG, g, none⟩) lu).trans cuH.out
          have lg : gG < wr.heap.size := by omega
          go_wp2
          go_loopg [13] M (fun gk i wr => ∃ j : Nat, j + gk = M ∧ i = .int .i64 (j : Int) ∧ Hid (wr.rowIs w1.heap.size 2 n (fun x => .int .i64 (asg (ofG gss g) g l j x : Int))) ∧ Hid (Below w1.heap.size w1 wr))
          case atStart => exact ⟨0, by omega, rfl, Lib.hid (by rw [asg_zero]; exact hnm.out), hbg⟩
          case round =>
            clear hnm hbg hszg cg lg
            obtain ⟨j, hj, rfl, hnm, hbg⟩ := hrel
            have hszg := hbg.out.size
            have cg := (hbg.out.cell (p := ⟨gG, g, none⟩) lu).trans cuH.out
            have lg : gG < wr.heap.size := by omega
            by_cases hjM : j < M
            · obtain ⟨gu, cu2, hvu⟩ : ∃ gu cu2, Value.slice Au M cu' = .slice (some ⟨gu, 0, none⟩) M cu2 := by
                rcases hinH.out.2 with ⟨_, h0⟩ | ⟨g', cap, cur, hv, _⟩
                · omega
                · exact ⟨g', cap, hv⟩
              injection hvu with hu1 hu2 hu3
              subst hu1; subst hu3
              obtain ⟨x, hx⟩ : ∃ x, l[j]? = some x := ⟨_, List.getElem?_eq_getElem (by rw [hMH.out]; exact hjM)⟩
              have hxn := grpT_lt (by rw [hgssH.out]; exact hlH.out) hx
              have lgu := (hinH.out.lt gu rfl).2
              have cx := (hbg.out.cell (p := ⟨gu, j, none⟩) lgu).trans ((hinH.out.cellAt j (by omega)).trans (intsN_get hx))
              have lgu2 : gu < wr.heap.size := by omega
              have cn := hnm.out.cell (i := x) hxn
              have fn := hnm.out.frozen x
              have ln := hnm.out.lt
              have has := Lib.hid (asg_succ (f := ofG gss g) (g := g) hx)
              clear hx hu2
              go_wp2
              go_roundg (M - (j + 1))
              case measure => omega
              case rel =>
                refine ⟨j + 1, by omega, by go_num, Lib.hid ?_, Lib.hid (hbg.out.setCell (p := ⟨w1.heap.size, x, none⟩) (Nat.le_refl _) _)⟩
                have h3 := hnm.out.set x (.int .i64 (g : Int))
                rw [has.out]
                refine h3.congr ?_
                intro i hi
                by_cases hix : i = x
                · simp [hix]
                · simp [hix]
            · obtain rfl : j = M := by omega
              have hof := Lib.hid (ofG_succ hlH.out)
              go_wp2
              go_roundg (K - (g + 1))
              case measure => omega
              case rel =>
                exact ⟨g + 1, by omega, by go_num, Lib.hid (by rw [hof.out, hMH.out]; exact hnm.out), hbg⟩
        · obtain rfl : g = K := by omega
          obtain ⟨f, hf⟩ : ∃ f, ofG gss g = f := ⟨_, rfl⟩
          rw [hf] at hnm
          have hfn := Lib.hid (show nameT n bs t = f by unfold nameT; rw [hgssH.out, hKH.out, hf])
          clear hf hownr
          obtain ⟨wn, rfl⟩ : ∃ wn : World, wn = wr := ⟨_, rfl⟩
          have hbn := Lib.hid (hbw.out.trans ((hb1H.out.trans (hbg.out.mono hs1)).mono hsz))
          have hsn := hbn.out.size
          have hfle := Lib.hid (nameT_le n bs t)
          go_wp2
          go_loopg [15, 14] k (fun gk i v wr => ∃ j : Nat, j + gk = k ∧ i = .int .i64 (j : Int) ∧ Hid (wr.ownsRow wn.heap.size 49 3 v (ctrS f bs j).length (bdCells (ctrS f bs j))) ∧ Hid (Below wn.heap.size wn wr))
          case atStart => exact ⟨0, by omega, rfl, Lib.hid (by have := World.ownsRow_lit (base := wn.heap.size) (e := 49) (size := 3) wn #[] 0 (Nat.le_refl _) (by decide) rfl; simpa [ctrS, bdCells] using this), Lib.hid (bl_al (bl_refl _) _)⟩
          case round =>
            obtain ⟨j, hj, rfl, hrw, hbr⟩ := hrel
            have hszr := hbr.out.size
            obtain ⟨A3, c3, rfl⟩ := ownsRow_form hrw.out
            by_cases hjk : j < k
            · have hBw := (hBH.out.below RBd.stable hbn.out).below RBd.stable hbr.out
              obtain ⟨bb, ob, rfl, hbb, hbc⟩ := hBw.ptr (by omega)
              obtain ⟨e, he⟩ := hBw.get hjk
              obtain ⟨e0, e1, e2⟩ := hbc j e he
              have hea := hbH.out.a j e he
              have heb := hbH.out.b j e he
              have hcl := ctrS_len f bs j
              obtain ⟨L, hL⟩ : ∃ L, (ctrS f bs j).length = L := ⟨_, rfl⟩
              rw [hL] at hrw hcl ⊢
              have hLH := Lib.hid hL
              have heH := Lib.hid he
              have ln := hnm.out.lt
              have ca := (hbr.out.cell (p := ⟨w1.heap.size, e.a, none⟩) ln).trans (hnm.out.cell (i := e.a) hea)
              have cb := (hbr.out.cell (p := ⟨w1.heap.size, e.b, none⟩) ln).trans (hnm.out.cell (i := e.b) heb)
              have lnr : w1.heap.size < wr.heap.size := by omega
              have hla := hfle.out e.a
              have hlb := hfle.out e.b
              rw [hfn.out] at hla hlb
              obtain ⟨la, hlaE⟩ : ∃ la, f e.a = la := ⟨_, rfl⟩
              obtain ⟨lb, hlbE⟩ : ∃ lb, f e.b = lb := ⟨_, rfl⟩
              rw [hlaE] at ca hla
              rw [hlbE] at cb hlb
              have hlaH := Lib.hid hlaE
              have hlbH := Lib.hid hlbE
              clear hbc he hBw hL hlaE hlbE
              by_cases hll : la = lb
              · subst hll
                have hno := Lib.hid (ctrS_no (f := f) heH.out (by rw [hlaH.out, hlbH.out]))
                go_wp2
                go_roundg (k - (j + 1))
                case measure => omega
                case rel => exact ⟨j + 1, by omega, by go_num, Lib.hid (by rw [hno.out, hLH.out]; exact hrw.out), hbr⟩
              · have hyes := Lib.hid (ctrS_yes (f := f) heH.out (by rw [hlaH.out, hlbH.out]; exact hll))
                have hlld : ((la : Int) == (lb : Int)) = false := by simp; omega
                obtain ⟨mn, hmn⟩ : ∃ mn, min la lb = mn := ⟨_, rfl⟩
                obtain ⟨mx, hmx⟩ : ∃ mx, max la lb = mx := ⟨_, rfl⟩
                have hmnH := Lib.hid hmn
                have hmxH := Lib.hid hmx
                clear hmn hmx
                go_wp2
                refine wp_region_ord [(0, .q), (1, .q), (2, .q), (4, .q), (5, .q), (7, .q), (8, .q), (9, .q), (10, .q), (11, .q), (3, .g), (6, .g), (12, .q), (13, .g), (14, .b), (15, .q)] (by kernel_rfl) (by kernel_rfl) ?_
                simp only [pick, List.filterMap_cons, List.filterMap_nil, List.getElem?_toArray, List.getElem?_cons_zero, List.getElem?_cons_succ, Option.map_some]
                repeat (first
                  | ((with_reducible refine wpD_p (fun K hK => ?_)); go_simp; refine hK _ ?_; clear hK K)
                  | ((with_reducible refine wpD_q (fun K hK => ?_)); go_simp; (first | refine hK _ ?_ | (go_bits; refine hK _ ?_) | (go_bits; go_simp; refine hK _ ?_)); clear hK K)
                  | ((with_reducible refine wpD_g (fun K hK => ?_)); go_simp; refine hK _ _ ?_; clear hK K)
                  | ((with_reducible refine wpD_g (fun K hK => ?_)); go_simp; refine ⟨Grew.of_alloc _, hK _ _ ?_⟩; clear hK K)
                  | ((with_reducible refine wpD_g (fun K hK => ?_)); go_simp; go_at_call 213; refine (l00Min_at la lb _ _ hmnH.out).mono ?_; rintro e _ ⟨rfl, rfl⟩; refine ⟨_, rfl, Below.refl _ _, hK _ _ ?_⟩; clear hK K)
                  | ((with_reducible refine wpD_g (fun K hK => ?_)); go_simp; go_at_call 214; refine (l00Max_at la lb _ _ hmxH.out).mono ?_; rintro e _ ⟨rfl, rfl⟩; refine ⟨_, rfl, Below.refl _ _, hK _ _ ?_⟩; clear hK K))
                have hb9 : Below wr.heap.size wr (wr.alloc (Obj.cells #[.int .i64 (mn : Int), .int .i64 (mx : Int), .int .i64 e.s] 49)).drew := by exact bel_
                have hb9H := Lib.hid hb9
                clear hb9
                refine wpD_append rfl _ _ 44 rfl wn.heap.size 49 i0 (.agg #[.int .i64 0, .int .i64 0, .int .i64 0]) 3 24 Tryz.underlying44 hi hz0 hz1 hz2 rfl (by decide) (.slice A3 L c3) L (bdCells (ctrS f bs j)) (by go_simp) (ownsRow_below hrw.out hb9H.out) ⟨wr.heap.size, 0, none⟩ 1 1 [.int .i64 (mn : Int), .int .i64 (mx : Int), .int .i64 e.s] (by go_simp) rfl ?hnews (fun x hx => by simp at hx; rcases hx with rfl | rfl | rfl <;> rfl) (by unfold maxLen; omega) (by omega) (by simp; omega) ?_
                case hnews =>
                  have := cell_three_new wr (.int .i64 (mn : Int)) (.int .i64 (mx : Int)) (.int .i64 e.s) 49
                  simpa using this
                intro v5 w5 hown5 hgrow5
                obtain ⟨A5, c5, rfl⟩ := ownsRow_form hown5
                have hown5H := Lib.hid hown5
                have hbw5 : Below wn.heap.size wn w5 := (hbr.out.trans (hb9H.out.mono hszr)).grown hgrow5 (by simp; omega) (fun b e => (hrw.out.lt b e).1)
                have hbw5H := Lib.hid hbw5
                clear hown5 hgrow5 hbw5
                repeat (first | ((with_reducible refine wpD_p (fun K hK => ?_)); go_simp; refine hK _ ?_; clear hK K) | ((with_reducible refine wpD_q (fun K hK => ?_)); go_simp; (first | refine hK _ ?_ | (go_bits; refine hK _ ?_) | (go_bits; go_simp; refine hK _ ?_)); clear hK K))
                with_reducible refine wpD_nil ?_
                go_wp2
                go_roundg (k - (j + 1))
                case measure => omega
                case rel =>
                  refine ⟨j + 1, by omega, by go_num, Lib.hid ?_, hbw5H⟩
                  rw [hyes.out, bdCells_snoc, List.length_append, hLH.out, hlaH.out, hlbH.out, hmnH.out, hmxH.out]
                  exact hown5H.out
            · obtain rfl : j = k := by omega
              go_wp2
              go_ret2
              refine ⟨.slice A3 (ctrS f bs j).length c3, by rw [hgssH.out, hKH.out]; rfl, ?_, hbn.out.trans (hbr.out.mono hsn)⟩
              unfold shrS
              rw [hml.out, hfn.out]
              exact ownsRow_base hrw.out hsn
end Go.Proofs.YtmhgjgclclnmaaaGreat
/- Walks: the program's bonds between groups. -/


namespace Go.Proofs.YtmhgjgclclnmaaaGreat
open Go.RowKit Go.Shelf
attribute [local go_sem] BelowBy.cell BelowBy.cell_drew stillUpon givesUpon BelowBy.cell_drew2 BelowBy.cell_drew3

theorem keep_strong (t : Int) (bs : List Bd) (k : Nat) : keepL t bs k = strongL t bs k := by
  unfold keepL strongL
  congr 1
  funext b
  unfold weakB
  by_cases h : b.s < t
  · have : ¬ t ≤ b.s := by omega
    simp [h, this]
  · have : t ≤ b.s := by omega
    simp [h, this]
set_option maxRecDepth 100000 in
set_option maxHeartbeats 4000000 in
theorem contracted_any (base n : Nat) (v : Value) (bs : List Bd) (t : Int) (w : World) (hrow : w.ownsRow base 49 3 v bs.length (bdCells bs)) (hb : BondsOk n bs) (hn : n ≤ 100000) (hm : bs.length ≤ 100000) :
    Calls Tryz.prog 129 #[.int .i64 (n : Int), v, .int .i64 t] w (ShrRes w (grpT n bs t).length (shrI n bs t)) := by
  obtain ⟨i0, hi, hz0, hz1, hz2⟩ := info_parts infoBond
  have hmk := fun W => run_makeN (P := Tryz.prog) 33 2 _ 1 8 Tryz.underlying33 infoI n (by omega) (by omega) W
  obtain ⟨B, c, rfl, hB⟩ := rd_of_row hrow
  have hBH := Lib.hid hB
  have hrH := Lib.hid hrow
  have hbH := Lib.hid hb
  obtain ⟨m, hmE⟩ : ∃ m, bs.length = m := ⟨_, rfl⟩
  have hml := Lib.hid hmE
  clear hB hb hrow
  rw [hmE] at hrH hBH hm ⊢
  clear hmE
  go_enter Tryz.func129, Tryz.ntmps129
  go_wp2_with fail
  refine (CloneB_any base _ bs _ (by rw [hml.out]; exact hrH.out.alloc _) (by rw [hml.out]; exact hm)).mono ?_
  rintro e w1 ⟨v1, rfl, hrow1, hb1⟩
  have hz1' : (w.alloc (Obj.cells #[.int .i64 t] 2)).heap.size = w.heap.size + 1 := by simp
  rw [hz1'] at hrow1
  have hs1 : w.heap.size + 1 ≤ w1.heap.size := by have := hb1.size; simp at this; omega
  have x0 : w1.cell? ⟨w.heap.size, 0, none⟩ = some (.int .i64 t) := (hb1.cell (p := ⟨w.heap.size, 0, none⟩) (by simp)).trans (by go_simp)
  have hB1 := Lib.hid (show Below w.heap.size w w1 by exact bel_)
  have hrow1H := Lib.hid hrow1
  clear hrow1 hb1 hz1'
  go_wp2_with fail
  refine (DeleteFuncB_any (w.heap.size + 1) w.heap.size t v1 bs _ hrow1H.out (by rw [hml.out]; exact hm) x0 (by omega) hs1).mono ?_
  rw [keep_strong]
  rintro e w2 ⟨A2, c2, rfl, hrd, hb2⟩
  have hrdH := Lib.hid hrd
  have hb2H := Lib.hid (hB1.out.trans (hb2.mono (by omega)))
  have hsl := strongL_len t bs bs.length
  rw [hml.out] at hsl
  have hin := Lib.hid (show ∀ (j : Nat) (e : Bd), (strongL t bs bs.length)[j]? = some e → e.a < n ∧ e.b < n from fun j e h => by obtain ⟨q, hq⟩ := strongL_mem h; exact ⟨hbH.out.a q e hq, hbH.out.b q e hq⟩)
  have hgr := Lib.hid (show grpT n bs t = groupsL (labOf (strongL t bs bs.length) (strongL t bs bs.length).length) n from rfl)
  have hs2 := hb2H.out.size
  clear hrd hb2 x0
  go_wp2_with fail
  refine (groupsBy_any n A2 _ c2 (strongL t bs bs.length) _ hrdH.out hn (by rw [hml.out]; omega) hin.out).mono ?_
  rw [← hgr.out]
  rintro e w3 ⟨vG, us, rfl, hown, hb3⟩
  have hownH := Lib.hid hown
  have hb3H := Lib.hid (hb2H.out.trans (hb3.mono hs2))
  have hs3 := hb3H.out.size
  obtain ⟨AG, cG, rfl⟩ := hown.form hown.len
  clear hown hb3
  have hK := grpT_len n bs t
  obtain ⟨gss, hgss⟩ : ∃ gss, grpT n bs t = gss := ⟨_, rfl⟩
  have hgssH := Lib.hid hgss
  obtain ⟨K, hKE⟩ : ∃ K, gss.length = K := ⟨_, rfl⟩
  have hKH := Lib.hid hKE
  rw [hgss] at hownH hK ⊢
  have husl := Lib.hid (show us.length = K by rw [hownH.out.len, List.length_map, hKE])
  rw [List.length_map, hKE] at hownH
  try rw [List.length_map]
  rw [hKE]
  rw [hKE] at hK
  clear hgss hKE
  go_wp2
  go_loopg [27] K (fun gk i wr => ∃ g : Nat, g + gk = K ∧ i = .int .i64 (g : Int) ∧ Hid (wr.rowIs w3.heap.size 2 n (fun x => .int .i64 (ofG gss g x : Int))) ∧ Hid (Below w3.heap.size w3 wr))
  case atStart => exact ⟨0, by omega, rfl, Lib.hid (by have := World.rowIs_made w3 (.int .i64 0) n 2; simpa [ofG] using this), Lib.hid (bl_al (bl_refl _) _)⟩
  case round =>
    clear hmk
    obtain ⟨g, hg, rfl, hnm, hbg⟩ := hrel
    have hszg := hbg.out.size
    have hownr := hownH.out.below hbg.out
    by_cases hgK : g < K
    · obtain ⟨gG, cG', hvG⟩ := hownr.formPos husl.out (by omega)
      injection hvG with hv1 hv2 hv3
      subst hv1; subst hv3
      obtain ⟨u, hu⟩ : ∃ u, us[g]? = some u := ⟨_, List.getElem?_eq_getElem (by rw [husl.out]; exact hgK)⟩
      obtain ⟨l, hl⟩ : ∃ l, gss[g]? = some l := ⟨_, List.getElem?_eq_getElem (by rw [hKH.out]; exact hgK)⟩
      obtain ⟨cu, fu, lu⟩ := hownH.out.cellAt husl.out hu
      obtain ⟨N0, r0, hr0, hin0⟩ := hownH.out.get hu
      rw [List.getElem?_map, hl] at hr0
      obtain rfl := Option.some.inj hr0
      have hN0 := hin0.1
      rw [intsN_len, Nat.mul_one] at hN0
      subst hN0
      obtain ⟨Au, cu', rfl⟩ := ownsRow_form hin0
      have hinH := Lib.hid hin0
      have hlH := Lib.hid hl
      have hll := grpT_len2 (by rw [hgssH.out]; exact hl)
      obtain ⟨M, hME⟩ : ∃ M, l.length = M := ⟨_, rfl⟩
      have hMH := Lib.hid hME
      rw [hME] at cu hinH hll
      have cg := (hbg.out.cell (p := ⟨gG, g, none⟩) lu).trans cu
      have lg : gG < wr.heap.size := by omega
      clear hin0 hl hu hME cu fu hownr
      go_wp2
      go_loopg [34] M (fun gk i wr => ∃ j : Nat, j + gk = M ∧ i = .int .i64 (j : Int) ∧ Hid (wr.rowIs w3.heap.size 2 n (fun x => .int .i64 (asg (ofG gss g) g l j x : Int))) ∧ Hid (Below w3.heap.size w3 wr))
      case atStart => exact ⟨0, by omega, rfl, Lib.hid (by rw [asg_zero]; exact hnm.out), hbg⟩
      case round =>
        clear hnm hbg hszg cg lg
        obtain ⟨j, hj, rfl, hnm, hbg⟩ := hrel
        have hszg := hbg.out.size
        by_cases hjM : j < M
        · obtain ⟨gu, cu2, hvu⟩ : ∃ gu cu2, Value.slice Au M cu' = .slice (some ⟨gu, 0, none⟩) M cu2 := by
            rcases hinH.out.2 with ⟨_, h0⟩ | ⟨g', cap, cur, hv, _⟩
            · omega
            · exact ⟨g', cap, hv⟩
          injection hvu with hu1 hu2 hu3
          subst hu1; subst hu3
          obtain ⟨x, hx⟩ : ∃ x, l[j]? = some x := ⟨_, List.getElem?_eq_getElem (by rw [hMH.out]; exact hjM)⟩
          have hxn := grpT_lt (by rw [hgssH.out]; exact hlH.out) hx
          have lgu := (hinH.out.lt gu rfl).2
          have cx := (hbg.out.cell (p := ⟨gu, j, none⟩) lgu).trans ((hinH.out.cellAt j (by omega)).trans (intsN_get hx))
          have lgu2 : gu < wr.heap.size := by omega
          have cn := hnm.out.cell (i := x) hxn
          have fn := hnm.out.frozen x
          have ln := hnm.out.lt
          have has := Lib.hid (asg_succ (f := ofG gss g) (g := g) hx)
          clear hx hu2
          go_wp2
          go_roundg (M - (j + 1))
          case measure => omega
          case rel =>
            refine ⟨j + 1, by omega, by go_num, Lib.hid ?_, Lib.hid (hbg.out.setCell (p := ⟨w3.heap.size, x, none⟩) (Nat.le_refl _) _)⟩
            have h3 := hnm.out.set x (.int .i64 (g : Int))
            rw [has.out]
            refine h3.congr ?_
            intro i hi
            by_cases hix : i = x
            · simp [hix]
            · simp [hix]
        · obtain rfl : j = M := by omega
          have hof := Lib.hid (ofG_succ hlH.out)
          go_wp2
          go_roundg (K - (g + 1))
          case measure => omega
          case rel =>
            exact ⟨g + 1, by omega, by go_num, Lib.hid (by rw [hof.out, hMH.out]; exact hnm.out), hbg⟩
    · obtain rfl : g = K := by omega
      obtain ⟨f, hf⟩ : ∃ f, ofG gss g = f := ⟨_, rfl⟩
      rw [hf] at hnm
      have hfn := Lib.hid (show nameT n bs t = f by unfold nameT; rw [hgssH.out, hKH.out, hf])
      clear hf hownr
      obtain ⟨wn, rfl⟩ : ∃ wn : World, wn = wr := ⟨_, rfl⟩
      have hbn := Lib.hid (hb3H.out.trans (hbg.out.mono hs3))
      have hsn := hbn.out.size
      have hfle := Lib.hid (nameT_le n bs t)
      go_wp2
      go_loopg [46, 14] m (fun gk i v wr => ∃ j : Nat, j + gk = m ∧ i = .int .i64 (j : Int) ∧ Hid (wr.ownsRow wn.heap.size 49 3 v (ctrI f bs j).length (bdCells (ctrI f bs j))) ∧ Hid (Below wn.heap.size wn wr))
      case atStart => exact ⟨0, by omega, rfl, Lib.hid (World.ownsRow_nil _ _ _ _), Lib.hid (bl_refl _)⟩
      case round =>
        obtain ⟨j, hj, rfl, hrw, hbr⟩ := hrel
        have hszr := hbr.out.size
        obtain ⟨A3, c3, rfl⟩ := ownsRow_form hrw.out
        by_cases hjk : j < m
        · have hBw := (hBH.out.below RBd.stable hbn.out).below RBd.stable hbr.out
          obtain ⟨bb, ob, rfl, hbb, hbc⟩ := hBw.ptr (by omega)
          obtain ⟨e, he⟩ := hBw.get hjk
          obtain ⟨e0, e1, e2⟩ := hbc j e he
          have hea := hbH.out.a j e he
          have heb := hbH.out.b j e he
          have hcl := ctrI_len f bs j
          obtain ⟨L, hL⟩ : ∃ L, (ctrI f bs j).length = L := ⟨_, rfl⟩
          rw [hL] at hrw hcl ⊢
          have hLH := Lib.hid hL
          have heH := Lib.hid he
          have ln := hnm.out.lt
          have ca := (hbr.out.cell (p := ⟨w3.heap.size, e.a, none⟩) ln).trans (hnm.out.cell (i := e.a) hea)
          have cb := (hbr.out.cell (p := ⟨w3.heap.size, e.b, none⟩) ln).trans (hnm.out.cell (i := e.b) heb)
          have lnr : w3.heap.size < wr.heap.size := by omega
          have hla := hfle.out e.a
          have hlb := hfle.out e.b
          rw [hfn.out] at hla hlb
          obtain ⟨la, hlaE⟩ : ∃ la, f e.a = la := ⟨_, rfl⟩
          obtain ⟨lb, hlbE⟩ : ∃ lb, f e.b = lb := ⟨_, rfl⟩
          rw [hlaE] at ca hla
          rw [hlbE] at cb hlb
          have hlaH := Lib.hid hlaE
          have hlbH := Lib.hid hlbE
          clear hbc he hBw hL hlaE hlbE
          by_cases hll : la = lb
          · subst hll
            have hno := Lib.hid (ctrI_no (f := f) heH.out (by rw [hlaH.out, hlbH.out]))
            go_wp2
            refine wp_region_ord [(0, .q), (1, .q), (2, .q), (3, .q), (4, .q), (5, .q), (6, .q), (7, .q), (8, .q), (9, .q), (10, .q)] (by kernel_rfl) (by kernel_rfl) ?_
            simp only [pick, List.filterMap_cons, List.filterMap_nil, List.getElem?_toArray, List.getElem?_cons_zero, List.getElem?_cons_succ, Option.map_some]
            repeat (first | ((with_reducible refine wpD_p (fun K hK => ?_)); go_simp; refine hK _ ?_; clear hK K) | ((with_reducible refine wpD_q (fun K hK => ?_)); go_simp; (first | refine hK _ ?_ | (go_bits; refine hK _ ?_) | (go_bits; go_simp; refine hK _ ?_)); clear hK K))
            with_reducible refine wpD_nil ?_
            go_wp2
            go_roundg (m - (j + 1))
            case measure => omega
            case rel => exact ⟨j + 1, by omega, by go_num, Lib.hid (by rw [hno.out, hLH.out]; exact ownsRow_below hrw.out (by exact bel_)), Lib.hid (hbr.out.trans (Below.mono (by exact bel_) hszr))⟩
          · have hyes := Lib.hid (ctrI_yes (f := f) heH.out (by rw [hlaH.out, hlbH.out]; exact hll))
            have hlld : ((la : Int) == (lb : Int)) = false := by simp; omega
            go_wp2
            refine wp_region_ord [(0, .q), (1, .q), (2, .q), (3, .q), (4, .q), (5, .q), (6, .q), (7, .q), (8, .q), (9, .q), (10, .q)] (by kernel_rfl) (by kernel_rfl) ?_
            simp only [pick, List.filterMap_cons, List.filterMap_nil, List.getElem?_toArray, List.getElem?_cons_zero, List.getElem?_cons_succ, Option.map_some]
            repeat (first | ((with_reducible refine wpD_p (fun K hK => ?_)); go_simp; refine hK _ ?_; clear hK K) | ((with_reducible refine wpD_q (fun K hK => ?_)); go_simp; (first | refine hK _ ?_ | (go_bits; refine hK _ ?_) | (go_bits; go_simp; refine hK _ ?_)); clear hK K))
            with_reducible refine wpD_nil ?_
            go_wp2
            refine wp_region_ord [(0, .q), (1, .q), (2, .q), (3, .q), (4, .q), (5, .q), (6, .q), (7, .q), (8, .q), (9, .q), (10, .q), (11, .q), (12, .q), (13, .q), (14, .g), (15, .b), (16, .q)] (by kernel_rfl) (by kernel_rfl) ?_
            simp only [pick, List.filterMap_cons, List.filterMap_nil, List.getElem?_toArray, List.getElem?_cons_zero, List.getElem?_cons_succ, Option.map_some]
            repeat (first | ((with_reducible refine wpD_p (fun K hK => ?_)); go_simp; refine hK _ ?_; clear hK K) | ((with_reducible refine wpD_q (fun K hK => ?_)); go_simp; (first | refine hK _ ?_ | (go_bits; refine hK _ ?_) | (go_bits; go_simp; refine hK _ ?_)); clear hK K))
            with_reducible refine wpD_g (fun K hK => ?_)
            go_simp
            refine ⟨Grew.of_alloc _, hK _ _ ?_⟩
            clear hK K
            have hb9 : Below wr.heap.size wr (((wr.alloc (Obj.cells #[.int .i64 (e.a : Int), .int .i64 (e.b : Int), .int .i64 e.s] 49)).drew.alloc (Obj.cells #[.int .i64 (la : Int), .int .i64 (lb : Int), .int .i64 e.s] 49)).drew) := by exact bel_
            have hb9H := Lib.hid hb9
            clear hb9
            refine wpD_append rfl _ _ 44 rfl wn.heap.size 49 i0 (.agg #[.int .i64 0, .int .i64 0, .int .i64 0]) 3 24 Tryz.underlying44 hi hz0 hz1 hz2 rfl (by decide) (.slice A3 L c3) L (bdCells (ctrI f bs j)) (by go_simp) (ownsRow_below hrw.out hb9H.out) ⟨wr.heap.size + 1, 0, none⟩ 1 1 [.int .i64 (la : Int), .int .i64 (lb : Int), .int .i64 e.s] (by go_simp) rfl ?hnews (fun x hx => by simp at hx; rcases hx with rfl | rfl | rfl <;> rfl) (by unfold maxLen; omega) (by omega) (by simp; omega) ?_
            case hnews =>
              have := cell_three_new (wr.alloc (Obj.cells #[.int .i64 (e.a : Int), .int .i64 (e.b : Int), .int .i64 e.s] 49)) (.int .i64 (la : Int)) (.int .i64 (lb : Int)) (.int .i64 e.s) 49
              simpa using this
            intro v5 w5 hown5 hgrow5
            obtain ⟨A5, c5, rfl⟩ := ownsRow_form hown5
            have hown5H := Lib.hid hown5
            have hbw5 : Below wn.heap.size wn w5 := (hbr.out.trans (hb9H.out.mono hszr)).grown hgrow5 (by simp; omega) (fun b e => (hrw.out.lt b e).1)
            have hbw5H := Lib.hid hbw5
            clear hown5 hgrow5 hbw5
            repeat (first | ((with_reducible refine wpD_p (fun K hK => ?_)); go_simp; refine hK _ ?_; clear hK K) | ((with_reducible refine wpD_q (fun K hK => ?_)); go_simp; (first | refine hK _ ?_ | (go_bits; refine hK _ ?_) | (go_bits; go_simp; refine hK _ ?_)); clear hK K))
            with_reducible refine wpD_nil ?_
            go_wp2
            go_roundg (m - (j + 1))
            case measure => omega
            case rel =>
              refine ⟨j + 1, by omega, by go_num, Lib.hid ?_, hbw5H⟩
              rw [hyes.out, bdCells_snoc, List.length_append, hLH.out, hlaH.out, hlbH.out]
              exact hown5H.out
        · obtain rfl : j = m := by omega
          go_wp2
          go_ret2
          refine ⟨.slice A3 (ctrI f bs j).length c3, by rw [hgssH.out, hKH.out]; rfl, ?_, hbn.out.trans (hbr.out.mono hsn)⟩
          unfold shrI
          rw [hml.out, hfn.out]
          exact ownsRow_base hrw.out hsn
end Go.Proofs.YtmhgjgclclnmaaaGreat
/- Walk: the reference's IsStable. -/

namespace Go.Proofs.YtmhgjgclclnmaaaGreat
open Go.RowKit Go.Shelf
attribute [local go_sem] BelowBy.cell BelowBy.cell_drew stillUpon givesUpon BelowBy.cell_drew2 BelowBy.cell_drew3

/-- a Boolean and a code -/
def BCodeRes (w : World) (r : Bool × Int) (e : Ending) (w' : World) : Prop := e = .returned (.tuple #[.bool r.1, .int .i64 r.2]) ∧ Below w.heap.size w w'
theorem BCodeRes.of {w w' : World} {r : Bool × Int} {b : Bool} {c : Int} (h : (b, c) = r) (hb : Below w.heap.size w w') : BCodeRes w r (.returned (.tuple #[.bool b, .int .i64 c])) w' := by
  subst h; exact ⟨rfl, hb⟩
def tempB (t : Int) : Bool := inB t 1 16
theorem tempB_true {t : Int} (h : tempB t = true) : ∃ k : Nat, t = k ∧ 1 ≤ k ∧ k ≤ 16 := by
  have : 1 ≤ t ∧ t ≤ 16 := by simpa [tempB, inB] using h
  exact ⟨t.toNat, by omega, by omega, by omega⟩
theorem l07Temperature_any (t : Int) (w : World) : Calls Tryz.prog 195 #[.int .i64 t] w fun e w' => e = .returned (.bool (tempB t)) ∧ w = w' := by
  go_enter Tryz.func195, Tryz.ntmps195
  go_wp2_with (go_at_call 96; refine (l00In_any _ _ _ _).mono ?_; rintro e _ ⟨rfl, rfl⟩)
  go_ret
  exact ⟨ret_bool rfl, rfl⟩
noncomputable def stabVR (gs : List Gl) (ts : List Ti) (xs : List Pl) (t : Int) : Bool × Int := stabR xs.length (bondsL gs ts xs) t.toNat
theorem stabR_full {n t : Nat} {bs : List Bd} (h : 64 < (grpT n bs t).length) : ((false, 4) : Bool × Int) = stabR n bs t := by unfold stabR; rw [if_pos h]
theorem stabR_few {n t : Nat} {bs : List Bd} (h : ¬ 64 < (grpT n bs t).length) (h2 : (grpT n bs t).length < 2) : ((true, 0) : Bool × Int) = stabR n bs t := by unfold stabR; rw [if_neg h, holdsB_few h2]
theorem stabR_is {n t : Nat} {bs : List Bd} (h : ¬ 64 < (grpT n bs t).length) : ((holdsB (grpT n bs t).length (shrI n bs t) t, 0) : Bool × Int) = stabR n bs t := by unfold stabR; rw [if_neg h]
theorem stabR_weak {n t : Nat} {bs : List Bd} (hb : BondsOk n bs) (h : ¬ 64 < (grpT n bs t).length) (h2 : ¬ (grpT n bs t).length < 2) : ((decide ((t : Int) ≤ (weakR (grpT n bs t).length (shrS n bs t)).1), 0) : Bool × Int) = stabR n bs t := by
  rw [← stabR_is h, ← holdsB_weak h2, holdsB_eq t (fun y => shr_flow hb (by omega) 0 y)]
set_option maxRecDepth 100000 in
set_option maxHeartbeats 2000000 in
theorem l07Stable_any {op opa : Nat} {p pa : Nat} {gs : List Gl} {ts : List Ti} {xs : List Pl} {w : World} (h : SAt w p op pa opa gs ts xs) (hV : Valid gs ts xs) (t : Nat) (ht : t ≤ 1000) :
    Calls Tryz.prog 196 #[.pointer (some ⟨p, op, none⟩), .pointer (some ⟨pa, opa, none⟩), .int .i64 (t : Int)] w (BCodeRes w (stabR xs.length (bondsL gs ts xs) t)) := by
  have hH := Lib.hid h
  have hlp := h.s.lt
  obtain ⟨lq, A, q, ca, cq, hA⟩ := h.a
  have hlen := hA.len
  have hbo := bondsOk hV
  have hbl := bondsL_len hV
  have hVl := hV.len
  rw [hlen] at hbo hVl ⊢
  have hboH := Lib.hid hbo
  clear h hA hbo
  generalize hbs : bondsL gs ts xs = bs at *
  have hbsH := Lib.hid hbs
  clear hbs
  have hok := Lib.hid (fun (h : 0 < (grpT q bs t).length) => ctrS_ok hboH.out (nameT_lt h) bs.length)
  have hsl := ctrS_len (nameT q bs t) bs bs.length
  have hgl := grpT_len q bs t
  go_enter Tryz.func196, Tryz.ntmps196
  go_wp2
  refine wp_region_ord [(0, .q), (1, .q), (2, .q), (3, .q), (4, .q), (5, .q), (6, .q), (8, .q), (7, .g), (9, .g), (10, .q), (11, .q), (12, .q), (13, .q), (14, .q)] (by kernel_rfl) (by kernel_rfl) ?_
  simp only [pick, List.filterMap_cons, List.filterMap_nil, List.getElem?_toArray, List.getElem?_cons_zero, List.getElem?_cons_succ, Option.map_some]
  repeat (first | ((with_reducible refine wpD_p (fun K hK => ?_)); go_simp; refine hK _ ?_; clear hK K) | ((with_reducible refine wpD_q (fun K hK => ?_)); go_simp; (first | refine hK _ ?_ | (go_bits; refine hK _ ?_) | (go_bits; go_simp; refine hK _ ?_)); clear hK K))
  with_reducible refine wpD_g (fun K hK => ?_)
  go_simp
  refine ((hH.out.below (by exact bel_)).bonds hV).mono ?_
  rw [hbsH.out]
  rintro e w2 ⟨v, rfl, hrow, hb2⟩
  obtain ⟨B, cb, rfl, hB⟩ := rd_of_row hrow
  refine ⟨_, rfl, hb2, hK _ _ ?_⟩
  clear hK K hrow
  have hBH := Lib.hid hB
  clear hB
  repeat (first | ((with_reducible refine wpD_p (fun K hK => ?_)); go_simp; refine hK _ ?_; clear hK K) | ((with_reducible refine wpD_q (fun K hK => ?_)); go_simp; (first | refine hK _ ?_ | (go_bits; refine hK _ ?_) | (go_bits; go_simp; refine hK _ ?_)); clear hK K))
  with_reducible refine wpD_g (fun K hK => ?_)
  go_simp
  refine (l07Shrunk_any q B _ cb bs t _ hBH.out hboH.out (by omega) (by omega)).mono ?_
  rintro e w3 ⟨v3, rfl, hrow3, hb3⟩
  obtain ⟨B3, c3, rfl, hB3⟩ := rd_of_row hrow3
  refine ⟨_, rfl, hb3, hK _ _ ?_⟩
  have hB3H := Lib.hid hB3
  clear hK K hrow3 hB3
  repeat (first | ((with_reducible refine wpD_p (fun K hK => ?_)); go_simp; refine hK _ ?_; clear hK K) | ((with_reducible refine wpD_q (fun K hK => ?_)); go_simp; (first | refine hK _ ?_ | (go_bits; refine hK _ ?_) | (go_bits; go_simp; refine hK _ ?_)); clear hK K))
  with_reducible refine wpD_nil ?_
  obtain ⟨K, hK⟩ : ∃ K, (grpT q bs t).length = K := ⟨_, rfl⟩
  have hfull := Lib.hid (stabR_full (n := q) (t := t) (bs := bs))
  have hfew := Lib.hid (stabR_few (n := q) (t := t) (bs := bs))
  have hweak := Lib.hid (stabR_weak (n := q) (t := t) hboH.out)
  have hbb : Below w.heap.size w w3 := by exact bel_
  have hbbH := Lib.hid hbb
  have hs3 := hbb.size
  rw [hK] at hfull hfew hweak hok hgl ⊢
  clear hK hbb hb2 hb3
  by_cases h64 : 64 < K
  · have h64H := Lib.hid h64
    have hi64 : (64 : Int) < (K : Int) := by omega
    go_wp2
    go_ret2
    exact BCodeRes.of (hfull.out h64H.out) hbbH.out
  · have h64H := Lib.hid h64
    have hi64 : ¬ (64 : Int) < (K : Int) := by omega
    by_cases h2 : K < 2
    · have h2H := Lib.hid h2
      have hi2 : (K : Int) < 2 := by omega
      go_wp2
      go_ret2
      exact BCodeRes.of (hfew.out h64H.out h2H.out) hbbH.out
    · have h2H := Lib.hid h2
      have hi2 : ¬ (K : Int) < 2 := by omega
      have hwk := Lib.hid (hweak.out h64H.out h2H.out)
      have hsl2 : (shrS q bs t).length ≤ bs.length := hsl
      go_wp2_with (go_at_call 75; refine (l07Weakest_any K B3 _ c3 (shrS q bs t) _ hB3H.out (hok.out (by omega)) (by omega) (by omega) (by omega)).mono ?_; rintro e w4 ⟨v4, rfl, _, hb4⟩; have hb4H := Lib.hid hb4; clear hb4)
      go_ret2
      exact BCodeRes.of hwk.out (hbbH.out.trans (hb4H.out.mono hs3))
noncomputable def isStabR (gs : List Gl) (ts : List Ti) (xs : List Pl) (t : Int) : Bool × Int := if validAsmB gs ts xs = false then (false, 1) else if tempB t = false then (false, 2) else stabVR gs ts xs t
theorem isStabR_no {gs : List Gl} {ts : List Ti} {xs : List Pl} {t : Int} (h : validAsmB gs ts xs = false) : ((false, 1) : Bool × Int) = isStabR gs ts xs t := by unfold isStabR; rw [if_pos h]
theorem isStabR_range {gs : List Gl} {ts : List Ti} {xs : List Pl} {t : Int} (h : validAsmB gs ts xs = true) (h2 : tempB t = false) : ((false, 2) : Bool × Int) = isStabR gs ts xs t := by unfold isStabR; rw [if_neg (by rw [h]; decide), if_pos h2]
theorem isStabR_yes {gs : List Gl} {ts : List Ti} {xs : List Pl} {t : Nat} (h : validAsmB gs ts xs = true) (h2 : tempB t = true) : stabR xs.length (bondsL gs ts xs) t = isStabR gs ts xs t := by unfold isStabR; rw [if_neg (by rw [h]; decide), if_neg (by rw [h2]; decide)]; rfl
end Go.Proofs.YtmhgjgclclnmaaaGreat
/- Walk: the program's IsStable. -/



namespace Go.Proofs.YtmhgjgclclnmaaaGreat
open Go.RowKit Go.Shelf
attribute [local go_sem] BelowBy.cell BelowBy.cell_drew stillUpon givesUpon BelowBy.cell_drew2 BelowBy.cell_drew3

theorem send0_any (base p n y M : Nat) (bs : List Bd) (vR vF : Value) (uR uF : List Value) (w : World) (h : Net w base p n (roomM bs bs.length) zeroM vR vF uR uF) (hb : BondsOk n bs) (hy : y < n) (hy0 : 0 < y) (hn : n ≤ 100000) (hm : bs.length ≤ 1000000) (hM : M ≤ 1099511627776) (hbase : base ≤ w.heap.size) :
    Calls Tryz.prog 95 #[.pointer (some ⟨p, 0, none⟩), .int .i64 0, .int .i64 (y : Int), .int .i64 (M : Int)] w (SendRes w base p n bs 0 y M vR vF uR uF) := send_any base p n 0 y M bs vR vF uR uF w h hb (by omega) hy (by omega) hn hm hM hbase
theorem isTemperature_any (t : Int) (w : World) : Calls Tryz.prog 78 #[.int .i64 t] w fun e w' => e = .returned (.bool (tempB t)) ∧ w = w' := by
  go_enter Tryz.func78, Tryz.ntmps78
  go_wp2_with (go_at_call 51; refine (within_any _ _ _ _).mono ?_; rintro e w' ⟨rfl, rfl⟩)
  go_ret
  exact ⟨ret_bool rfl, rfl⟩
set_option maxRecDepth 100000 in
set_option maxHeartbeats 2000000 in
theorem holds_any (n t : Nat) (B : Option Addr) (m c : Nat) (bs : List Bd) (w : World) (hB : RdSl 3 RBd w B m bs) (hb : 1 < n → BondsOk n bs) (hn : n ≤ 100000) (hm : m ≤ 100000) (ht : t ≤ 1000) :
    Calls Tryz.prog 130 #[.int .i64 (n : Int), .slice B m c, .int .i64 (t : Int)] w fun e w' => e = .returned (.bool (holdsB n bs t)) ∧ Below w.heap.size w w' := by
  have hBH := Lib.hid hB
  have hbH := Lib.hid hb
  have hml := Lib.hid hB.len
  clear hB hb
  obtain ⟨r, hrE⟩ : ∃ r, holdsB n bs t = r := ⟨_, rfl⟩
  rw [hrE]
  have hrH := Lib.hid hrE
  clear hrE
  go_enter Tryz.func130, Tryz.ntmps130
  go_wp2
  go_loopg [7] n (fun gk yv wr => ∃ y : Nat, (y + gk = n + 1) ∧ 1 ≤ y ∧ yv = .int .i64 (y : Int) ∧ Hid (∀ j, j < y - 1 → t ≤ flowV n bs 0 (j + 1)) ∧ Hid (Below w.heap.size w wr))
  case atStart => exact ⟨1, by omega, by omega, rfl, Lib.hid (fun j hj => by omega), Lib.hid (bl_refl _)⟩
  case round =>
    obtain ⟨y, hy, hy1, rfl, hall, hbw⟩ := hrel
    have hsz := hbw.out.size
    by_cases hyn : y < n
    · have hb1 := hbH.out (by omega)
      have hbo := Lib.hid hb1
      have hB1 := Lib.hid (hBH.out.below RBd.stable hbw.out)
      clear hb1
      obtain ⟨fv, hfv⟩ : ∃ fv, flowV n bs 0 y = fv := ⟨_, rfl⟩
      have hfvH := Lib.hid hfv
      clear hfv
      obtain ⟨s, hs⟩ : ∃ s, min fv t = s := ⟨_, rfl⟩
      have hsH := Lib.hid hs
      clear hs
      by_cases hlt : s < t
      · have hr := Lib.hid (show false = r by
          rw [← hrH.out]
          unfold holdsB
          refine (decide_eq_false (fun h => ?_)).symm
          have h1 := h (y - 1) (by omega)
          rw [show y - 1 + 1 = y by omega, hfvH.out] at h1
          have := hsH.out
          omega)
        have hlti : (s : Int) < (t : Int) := by omega
        go_wp2_with (first
          | (go_at_call 94; refine (networkOf_any n B m c bs _ hB1.out hbo.out hn (by omega)).mono ?_; rintro e w1 ⟨p, vR, vF, uR, uF, rfl, hnet, hbx⟩; have hnetH := Lib.hid hnet; have hb1H := Lib.hid hbx; have hs1 := hbx.size; clear hnet hbx)
          | (go_at_call 95; refine (send0_any wr.heap.size p n y t bs vR vF uR uF _ (by rw [hml.out]; exact hnetH.out) hbo.out hyn (by omega) hn (by rw [hml.out]; omega) (by omega) hs1).mono ?_; rintro e w2 ⟨rfl, _, hbx⟩; rw [hfvH.out, hsH.out]; have hb2H := Lib.hid hbx; clear hbx))
        go_ret
        exact ⟨ret_bool hr.out, hbw.out.trans ((hb1H.out.trans hb2H.out).mono hsz)⟩
      · have hlti : ¬ (s : Int) < (t : Int) := by omega
        have hge : t ≤ fv := by have := hsH.out; omega
        have hgeH := Lib.hid hge
        clear hge
        go_wp2_with (first
          | (go_at_call 94; refine (networkOf_any n B m c bs _ hB1.out hbo.out hn (by omega)).mono ?_; rintro e w1 ⟨p, vR, vF, uR, uF, rfl, hnet, hbx⟩; have hnetH := Lib.hid hnet; have hb1H := Lib.hid hbx; have hs1 := hbx.size; clear hnet hbx)
          | (go_at_call 95; refine (send0_any wr.heap.size p n y t bs vR vF uR uF _ (by rw [hml.out]; exact hnetH.out) hbo.out hyn (by omega) hn (by rw [hml.out]; omega) (by omega) hs1).mono ?_; rintro e w2 ⟨rfl, _, hbx⟩; rw [hfvH.out, hsH.out]; have hb2H := Lib.hid hbx; clear hbx))
        go_roundg (n + 1 - (y + 1))
        case measure => omega
        case rel =>
          refine ⟨y + 1, by omega, by omega, by go_num, Lib.hid (fun j hj => ?_), Lib.hid (hbw.out.trans ((hb1H.out.trans hb2H.out).mono hsz))⟩
          by_cases hjy : j < y - 1
          · exact hall.out j hjy
          · obtain rfl : j = y - 1 := by omega
            rw [show y - 1 + 1 = y by omega, hfvH.out]
            exact hgeH.out
    · have hr := Lib.hid (show true = r by
        rw [← hrH.out]
        unfold holdsB
        exact (decide_eq_true fun j hj => hall.out j (by omega)).symm)
      have hyi : ¬ (y : Int) < (n : Int) := by omega
      go_wp2
      go_ret
      exact ⟨ret_bool hr.out, hbw.out⟩
/-- stable, and whether there was room -/
def StabRes (w : World) (r : Bool × Int) (e : Ending) (w' : World) : Prop := ∃ b ok, e = .returned (.tuple #[.bool b, .bool ok]) ∧ ((ok = true ∧ r = (b, 0)) ∨ (ok = false ∧ r = (false, 4))) ∧ Below w.heap.size w w'
set_option maxRecDepth 100000 in
set_option maxHeartbeats 2000000 in
theorem stable_any (G T A : Option Addr) (n cg m ct q ca : Nat) (gs : List Gl) (ts : List Ti) (xs : List Pl) (t : Nat) (w : World) (h : SA w G n T m A q gs ts xs) (hV : Valid gs ts xs) (ht : t ≤ 1000) :
    Calls Tryz.prog 79 #[.agg #[.slice G n cg, .slice T m ct], .agg #[.slice A q ca], .int .i64 (t : Int)] w (StabRes w (stabR xs.length (bondsL gs ts xs) t)) := by
  have hSA := Lib.hid h
  have hlen := h.A.len
  have hbo := bondsOk hV
  have hbl := bondsL_len hV
  have hVl := hV.len
  rw [hlen] at hbo hVl ⊢
  have hboH := Lib.hid hbo
  clear h hbo
  generalize hbs : bondsL gs ts xs = bs at *
  have hbsH := Lib.hid hbs
  clear hbs
  have hok := Lib.hid (fun (h : 0 < (grpT q bs t).length) => ctrI_ok hboH.out (nameT_lt h) bs.length)
  have hsl := ctrI_len (nameT q bs t) bs bs.length
  have hgl := grpT_len q bs t
  go_enter Tryz.func79, Tryz.ntmps79
  go_wp2
  refine wp_region_ord [(0, .q), (1, .q), (2, .q), (3, .q), (4, .q), (6, .q), (5, .g), (7, .g), (8, .q), (9, .q), (10, .q), (11, .q), (12, .q)] (by kernel_rfl) (by kernel_rfl) ?_
  simp only [pick, List.filterMap_cons, List.filterMap_nil, List.getElem?_toArray, List.getElem?_cons_zero, List.getElem?_cons_succ, Option.map_some]
  repeat (first | ((with_reducible refine wpD_p (fun K hK => ?_)); go_simp; refine hK _ ?_; clear hK K) | ((with_reducible refine wpD_q (fun K hK => ?_)); go_simp; (first | refine hK _ ?_ | (go_bits; refine hK _ ?_) | (go_bits; go_simp; refine hK _ ?_)); clear hK K))
  with_reducible refine wpD_g (fun K hK => ?_)
  go_simp
  refine ((hSA.out.below (by exact bel_)).bonds hV).mono ?_
  rw [hbsH.out]
  rintro e w2 ⟨v, rfl, hrow, hb2⟩
  refine ⟨_, rfl, hb2, hK _ _ ?_⟩
  have hrowH := Lib.hid hrow
  clear hK K hrow
  repeat (first | ((with_reducible refine wpD_p (fun K hK => ?_)); go_simp; refine hK _ ?_; clear hK K) | ((with_reducible refine wpD_q (fun K hK => ?_)); go_simp; (first | refine hK _ ?_ | (go_bits; refine hK _ ?_) | (go_bits; go_simp; refine hK _ ?_)); clear hK K))
  with_reducible refine wpD_g (fun K hK => ?_)
  go_simp
  refine (contracted_any _ q v bs t _ hrowH.out hboH.out (by omega) (by omega)).mono ?_
  rintro e w3 ⟨v3, rfl, hrow3, hb3⟩
  obtain ⟨B3, c3, rfl, hB3⟩ := rd_of_row hrow3
  refine ⟨_, rfl, hb3, hK _ _ ?_⟩
  have hB3H := Lib.hid hB3
  clear hK K hrow3 hB3
  repeat (first | ((with_reducible refine wpD_p (fun K hK => ?_)); go_simp; refine hK _ ?_; clear hK K) | ((with_reducible refine wpD_q (fun K hK => ?_)); go_simp; (first | refine hK _ ?_ | (go_bits; refine hK _ ?_) | (go_bits; go_simp; refine hK _ ?_)); clear hK K))
  with_reducible refine wpD_nil ?_
  obtain ⟨K, hK⟩ : ∃ K, (grpT q bs t).length = K := ⟨_, rfl⟩
  have hfull := Lib.hid (stabR_full (n := q) (t := t) (bs := bs))
  have his := Lib.hid (stabR_is (n := q) (t := t) (bs := bs))
  have hbb : Below w.heap.size w w3 := by exact bel_
  have hbbH := Lib.hid hbb
  have hs3 := hbb.size
  rw [hK] at hfull his hok hgl ⊢
  clear hK hbb hb2 hb3
  by_cases h64 : 64 < K
  · have h64H := Lib.hid h64
    have hi64 : (64 : Int) < (K : Int) := by omega
    go_wp2
    go_ret2
    exact ⟨false, false, rfl, .inr ⟨rfl, (hfull.out h64H.out).symm⟩, hbbH.out⟩
  · have h64H := Lib.hid h64
    have hi64 : ¬ (64 : Int) < (K : Int) := by omega
    have hsl2 : (shrI q bs t).length ≤ bs.length := hsl
    have hisH := Lib.hid (his.out h64H.out)
    obtain ⟨b, hbE⟩ : ∃ b, holdsB K (shrI q bs t) t = b := ⟨_, rfl⟩
    have hbEH := Lib.hid hbE
    clear hbE
    go_wp2_with (go_at_call 130; refine (holds_any K t B3 _ c3 (shrI q bs t) _ hB3H.out (fun h => hok.out (by omega)) (by omega) (by omega) ht).mono ?_; rw [hbEH.out]; rintro e w4 ⟨rfl, hb4⟩; have hb4H := Lib.hid hb4; clear hb4)
    go_ret2
    exact ⟨b, true, rfl, .inl ⟨rfl, by rw [← hisH.out, hbEH.out]⟩, hbbH.out.trans (hb4H.out.mono hs3)⟩
set_option maxRecDepth 100000 in
set_option maxHeartbeats 2000000 in
theorem IsStable_any (G T A : Option Addr) (n cg m ct q ca : Nat) (gs : List Gl) (ts : List Ti) (xs : List Pl) (t : Int) (w : World) (h : SA w G n T m A q gs ts xs) :
    Calls Tryz.prog 36 #[.agg #[.slice G n cg, .slice T m ct], .agg #[.slice A q ca], .int .i64 t] w (BCodeRes w (isStabR gs ts xs t)) := by
  have hSA := Lib.hid h
  clear h
  cases hval : validAsmB gs ts xs
  · have hvH := Lib.hid hval
    clear hval
    go_enter Tryz.func36, Tryz.ntmps36
    go_wp2_with fail
    refine ((hSA.out.below (by exact bel_)).valid hvH.out).mono ?_
    rintro e w1 ⟨rfl, hb1⟩
    go_wp2
    go_ret2
    exact BCodeRes.of (isStabR_no hvH.out) (by exact bel_)
  · have hvH := Lib.hid hval
    have hV := valid_of hval
    clear hval
    cases htmp : tempB t
    · have htH := Lib.hid htmp
      clear htmp
      go_enter Tryz.func36, Tryz.ntmps36
      go_wp2_with fail
      refine ((hSA.out.below (by exact bel_)).valid hvH.out).mono ?_
      rintro e w1 ⟨rfl, hb1⟩
      go_wp2_with (go_at_call 78; refine (isTemperature_any t _).mono ?_; rw [htH.out]; rintro e _ ⟨rfl, rfl⟩)
      go_ret2
      exact BCodeRes.of (isStabR_range hvH.out htH.out) (by exact bel_)
    · have htH := Lib.hid htmp
      obtain ⟨tn, rfl, ht1, ht2⟩ := tempB_true htmp
      clear htmp
      have hr := Lib.hid (isStabR_yes hvH.out htH.out)
      go_enter Tryz.func36, Tryz.ntmps36
      go_wp2_with fail
      refine ((hSA.out.below (by exact bel_)).valid hvH.out).mono ?_
      rintro e w1 ⟨rfl, hb1⟩
      have ca1 := (hb1.cell (p := ⟨w.heap.size + 1, 0, none⟩) (by simp)).trans (show _ = some (Value.slice A q ca) by go_simp)
      have cg1 := (hb1.cell (p := ⟨w.heap.size, 0, none⟩) (by simp; omega)).trans (show _ = some (Value.slice G n cg) by go_simp)
      have ct1 := (hb1.cell (p := ⟨w.heap.size, 1, none⟩) (by simp; omega)).trans (show _ = some (Value.slice T m ct) by go_simp)
      have la1 : w.heap.size + 1 < w1.heap.size := by have := hb1.size; simp at this; omega
      have lg1 : w.heap.size < w1.heap.size := by omega
      have hb1H : Below w.heap.size w w1 := by exact bel_
      have hSA1 := Lib.hid (hSA.out.below hb1H)
      go_wp2_with (first
        | (go_at_call 78; refine (isTemperature_any tn _).mono ?_; rw [htH.out]; rintro e _ ⟨rfl, rfl⟩)
        | (go_at_call 79; refine (stable_any G T A n cg m ct q ca gs ts xs tn _ hSA1.out hV (by omega)).mono ?_; rw [hr.out]; rintro e w2 ⟨b, ok, rfl, (⟨rfl, hre⟩ | ⟨rfl, hre⟩), hb2⟩))
      · go_ret2
        exact BCodeRes.of hre.symm (by exact bel_)
      · go_ret2
        exact BCodeRes.of hre.symm (by exact bel_)
end Go.Proofs.YtmhgjgclclnmaaaGreat
/- Walks: systems: the reference's test and the program's. -/

namespace Go.Proofs.YtmhgjgclclnmaaaGreat
open Go.RowKit Go.Shelf
attribute [local go_sem] BelowBy.cell BelowBy.cell_drew stillUpon givesUpon BelowBy.cell_drew2 BelowBy.cell_drew3

/-- a valid system -/
noncomputable def sysOkB (gs : List Gl) (ts : List Ti) (xs : List Pl) (t : Int) : Bool := decide (0 < xs.length) && (isStabR gs ts xs t).1
theorem isStabR_cases (gs : List Gl) (ts : List Ti) (xs : List Pl) (t : Int) : (∃ c : Int, c ≠ 0 ∧ isStabR gs ts xs t = (false, c)) ∨ ∃ b, isStabR gs ts xs t = (b, 0) := by
  unfold isStabR
  split
  · exact .inl ⟨1, by decide, rfl⟩
  · split
    · exact .inl ⟨2, by decide, rfl⟩
    · unfold stabVR stabR
      split
      · exact .inl ⟨4, by decide, rfl⟩
      · exact .inr ⟨_, rfl⟩
theorem sysOkB_valid {gs : List Gl} {ts : List Ti} {xs : List Pl} {t : Int} (h : sysOkB gs ts xs t = true) : validAsmB gs ts xs = true ∧ 0 < xs.length ∧ tempB t = true := by
  unfold sysOkB at h
  simp only [Bool.and_eq_true, decide_eq_true_eq] at h
  obtain ⟨h1, h2⟩ := h
  refine ⟨?_, h1, ?_⟩
  · cases hv : validAsmB gs ts xs
    · rw [← isStabR_no hv] at h2; cases h2
    · rfl
  · cases hv : validAsmB gs ts xs
    · rw [← isStabR_no hv] at h2; cases h2
    · cases ht : tempB t
      · rw [← isStabR_range hv ht] at h2; cases h2
      · rfl
structure SysAt (w : World) (p o : Nat) (gs : List Gl) (ts : List Ti) (xs : List Pl) (t : Int) : Prop where
  sat : SAt w p o p (o + 2) gs ts xs
  temp : w.cell? ⟨p, o + 3, none⟩ = some (.int .i64 t)
section
variable {w w' : World} {p o q oq : Nat} {gs : List Gl} {ts : List Ti} {xs : List Pl} {t : Int}
theorem SysAt.below (h : SysAt w p o gs ts xs t) (hb : Below w.heap.size w w') : SysAt w' p o gs ts xs t :=
  ⟨h.sat.below hb, (hb.cell (p := ⟨p, o + 3, none⟩) h.sat.s.lt).trans h.temp⟩
theorem SA.sysbox {G T A : Option Addr} {n m k : Nat} (h : SA w G n T m A k gs ts xs) (cg ct ca : Nat) (t : Int) : SysAt (w.alloc (Obj.cells #[.slice G n cg, .slice T m ct, .slice A k ca, .int .i64 t] 69)) w.heap.size 0 gs ts xs t :=
  ⟨⟨⟨by simp, ⟨G, n, cg, by go_simp, h.G.below RGl.stable (by exact bel_)⟩, ⟨T, m, ct, by go_simp, h.T.below RTi.stable (by exact bel_)⟩⟩, ⟨by simp, A, k, ca, by go_simp, h.A.below RPl.stable (by exact bel_)⟩,
    by rw [h.A.len]; exact h.q, by rw [h.G.len]; exact h.gm, by rw [h.T.len]; exact h.tm, h.gn, h.tn⟩, by go_simp⟩
theorem SAt.set {v : Bool} (h : SAt w p o q oq gs ts xs) (hv : validSetB gs ts = v) :
    Calls Tryz.prog 127 #[.pointer (some ⟨p, o, none⟩)] w fun e w' => e = .returned (.bool v) ∧ Below w.heap.size w w' := by
  rw [← hv]; exact l02Ok_any _ gs ts _ h.s (Nat.le_trans h.gm (by decide)) (Nat.le_trans h.tm (by decide)) h.gn h.tn
theorem SAt.form {v : Bool} (h : SAt w p o q oq gs ts xs) (hv : (hasFormB xs && allB xs.length (okTile ts.length xs)) = v) :
    Calls Tryz.prog 128 #[.pointer (some ⟨p, o, none⟩), .pointer (some ⟨q, oq, none⟩)] w fun e w' => e = .returned (.bool v) ∧ Below w.heap.size w w' := by
  rw [← hv]; exact l03Ok_any _ _ gs ts xs _ h.s h.a h.q (Nat.le_trans h.tm (by decide))
end
theorem l07Temperature_at (t : Int) (w : World) {v : Bool} (h : tempB t = v) : Calls Tryz.prog 195 #[.int .i64 t] w fun e w' => e = .returned (.bool v) ∧ w = w' := by
  rw [← h]; exact l07Temperature_any t w
set_option maxRecDepth 100000 in
set_option maxHeartbeats 4000000 in
theorem l08Ok_any {o : Nat} (p : Nat) (gs : List Gl) (ts : List Ti) (xs : List Pl) (t : Int) (w : World) (h : SysAt w p o gs ts xs t) :
    Calls Tryz.prog 160 #[.pointer (some ⟨p, o, none⟩)] w fun e w' => e = .returned (.bool (sysOkB gs ts xs t)) ∧ Below w.heap.size w w' := by
  
  have hS := Lib.hid h.sat
  have ct := h.temp
  have lp := h.sat.s.lt
  obtain ⟨lq, A, q, ca, cq, hA⟩ := h.sat.a
  have hlen := hA.len
  have hq0 := h.sat.q
  rw [hlen] at hq0
  have hlenH := Lib.hid hlen
  clear h hA hlen
  cases hv2 : validSetB gs ts
  · have hv2H := Lib.hid hv2
    have hr := Lib.hid (show false = sysOkB gs ts xs t by unfold sysOkB; rw [← isStabR_no (show validAsmB gs ts xs = false by unfold validAsmB; rw [hv2]; rfl)]; simp)
    clear hv2
    go_enter Tryz.func160, Tryz.ntmps160
    go_wp2
    refine wp_region_ord [(0, .q), (1, .q), (2, .q), (3, .g), (4, .q), (5, .q), (6, .q), (7, .q), (8, .q), (9, .q), (10, .q), (11, .q), (12, .g), (13, .q), (14, .q), (15, .q), (16, .q), (17, .q), (18, .q), (19, .q), (20, .q), (21, .q), (22, .q), (23, .q), (24, .q), (25, .q), (26, .q), (27, .q), (28, .q), (29, .g), (30, .q), (31, .q)] (by kernel_rfl) (by kernel_rfl) ?_
    simp only [pick, List.filterMap_cons, List.filterMap_nil, List.getElem?_toArray, List.getElem?_cons_zero, List.getElem?_cons_succ, Option.map_some]
    repeat (first
      | ((with_reducible refine wpD_p (fun K hK => ?_)); go_simp; refine hK _ ?_; clear hK K)
      | ((with_reducible refine wpD_q (fun K hK => ?_)); go_simp; (first | refine hK _ ?_ | (go_bits; refine hK _ ?_) | (go_bits; go_simp; refine hK _ ?_)); clear hK K)
      | ((with_reducible refine wpD_g (fun K hK => ?_)); go_simp; refine hK _ _ ?_; clear hK K)
      | ((with_reducible refine wpD_g (fun K hK => ?_)); go_simp; refine ⟨Grew.of_alloc _, hK _ _ ?_⟩; clear hK K)
      | ((with_reducible refine wpD_g (fun K hK => ?_)); go_simp; go_at_call 127; refine ((hS.out.below (by exact bel_)).set hv2H.out).mono ?_; rintro e w1 ⟨rfl, hb1⟩; refine ⟨_, rfl, hb1, hK _ _ ?_⟩; clear hK K; obtain ⟨chb1, fhb1, shb1, thb1⟩ := bcell hb1; (try have bhb10 := shb1 (p) (by go_simp)); have cq1 := (hb1.cell (p := ⟨p, o + 2, none⟩) (by simpa using lp)).trans (show _ = some (Value.slice A q ca) by simpa using cq); have ct1 := (hb1.cell (p := ⟨p, o + 3, none⟩) (by simpa using lp)).trans (show _ = some (Value.int .i64 t) by simpa using ct)))
    with_reducible refine wpD_nil ?_
    go_wp2
    go_ret
    exact ⟨ret_bool hr.out, by exact bel_⟩
  · have hv2H := Lib.hid hv2
    cases hv3 : (hasFormB xs && allB xs.length (okTile ts.length xs))
    · have hv3H := Lib.hid hv3
      have hr := Lib.hid (show false = sysOkB gs ts xs t by unfold sysOkB; rw [← isStabR_no (show validAsmB gs ts xs = false by unfold validAsmB; rw [hv2, hv3]; rfl)]; simp)
      clear hv2 hv3
      go_enter Tryz.func160, Tryz.ntmps160
      go_wp2
      refine wp_region_ord [(0, .q), (1, .q), (2, .q), (3, .g), (4, .q), (5, .q), (6, .q), (7, .q), (8, .q), (9, .q), (10, .q), (11, .q), (12, .g), (13, .q), (14, .q), (15, .q), (16, .q), (17, .q), (18, .q), (19, .q), (20, .q), (21, .q), (22, .q), (23, .q), (24, .q), (25, .q), (26, .q), (27, .q), (28, .q), (29, .g), (30, .q), (31, .q)] (by kernel_rfl) (by kernel_rfl) ?_
      simp only [pick, List.filterMap_cons, List.filterMap_nil, List.getElem?_toArray, List.getElem?_cons_zero, List.getElem?_cons_succ, Option.map_some]
      repeat (first
        | ((with_reducible refine wpD_p (fun K hK => ?_)); go_simp; refine hK _ ?_; clear hK K)
        | ((with_reducible refine wpD_q (fun K hK => ?_)); go_simp; (first | refine hK _ ?_ | (go_bits; refine hK _ ?_) | (go_bits; go_simp; refine hK _ ?_)); clear hK K)
        | ((with_reducible refine wpD_g (fun K hK => ?_)); go_simp; refine hK _ _ ?_; clear hK K)
        | ((with_reducible refine wpD_g (fun K hK => ?_)); go_simp; refine ⟨Grew.of_alloc _, hK _ _ ?_⟩; clear hK K)
        | ((with_reducible refine wpD_g (fun K hK => ?_)); go_simp; go_at_call 127; refine ((hS.out.below (by exact bel_)).set hv2H.out).mono ?_; rintro e w1 ⟨rfl, hb1⟩; refine ⟨_, rfl, hb1, hK _ _ ?_⟩; clear hK K; obtain ⟨chb1, fhb1, shb1, thb1⟩ := bcell hb1; (try have bhb10 := shb1 (p) (by go_simp)); have cq1 := (hb1.cell (p := ⟨p, o + 2, none⟩) (by simpa using lp)).trans (show _ = some (Value.slice A q ca) by simpa using cq); have ct1 := (hb1.cell (p := ⟨p, o + 3, none⟩) (by simpa using lp)).trans (show _ = some (Value.int .i64 t) by simpa using ct))
        | ((with_reducible refine wpD_g (fun K hK => ?_)); go_simp; go_at_call 128; refine ((hS.out.below (by exact bel_)).form hv3H.out).mono ?_; rintro e w2 ⟨rfl, hb2⟩; refine ⟨_, rfl, hb2, hK _ _ ?_⟩; clear hK K; obtain ⟨chb2, fhb2, shb2, thb2⟩ := bcell hb2; (try have bhb20 := shb2 (p) (by go_simp)); have cq2 := (hb2.cell (p := ⟨p, o + 2, none⟩) bhb10).trans cq1; have ct2 := (hb2.cell (p := ⟨p, o + 3, none⟩) bhb10).trans ct1))
      with_reducible refine wpD_nil ?_
      go_wp2
      go_ret
      exact ⟨ret_bool hr.out, by exact bel_⟩
    · have hv3H := Lib.hid hv3
      have hval : validAsmB gs ts xs = true := by unfold validAsmB; rw [hv2, hv3]; rfl
      have hvH := Lib.hid hval
      have hV := valid_of hval
      clear hv2 hv3 hval
      by_cases hq1 : q = 0
      · subst hq1
        have hr := Lib.hid (show false = sysOkB gs ts xs t by unfold sysOkB; rw [hlenH.out]; rfl)
        go_enter Tryz.func160, Tryz.ntmps160
        go_wp2
        refine wp_region_ord [(0, .q), (1, .q), (2, .q), (3, .g), (4, .q), (5, .q), (6, .q), (7, .q), (8, .q), (9, .q), (10, .q), (11, .q), (12, .g), (13, .q), (14, .q), (15, .q), (16, .q), (17, .q), (18, .q), (19, .q), (20, .q), (21, .q), (22, .q), (23, .q), (24, .q), (25, .q), (26, .q), (27, .q), (28, .q), (29, .g), (30, .q), (31, .q)] (by kernel_rfl) (by kernel_rfl) ?_
        simp only [pick, List.filterMap_cons, List.filterMap_nil, List.getElem?_toArray, List.getElem?_cons_zero, List.getElem?_cons_succ, Option.map_some]
        repeat (first
          | ((with_reducible refine wpD_p (fun K hK => ?_)); go_simp; refine hK _ ?_; clear hK K)
          | ((with_reducible refine wpD_q (fun K hK => ?_)); go_simp; (first | refine hK _ ?_ | (go_bits; refine hK _ ?_) | (go_bits; go_simp; refine hK _ ?_)); clear hK K)
          | ((with_reducible refine wpD_g (fun K hK => ?_)); go_simp; refine hK _ _ ?_; clear hK K)
          | ((with_reducible refine wpD_g (fun K hK => ?_)); go_simp; refine ⟨Grew.of_alloc _, hK _ _ ?_⟩; clear hK K)
          | ((with_reducible refine wpD_g (fun K hK => ?_)); go_simp; go_at_call 127; refine ((hS.out.below (by exact bel_)).set hv2H.out).mono ?_; rintro e w1 ⟨rfl, hb1⟩; refine ⟨_, rfl, hb1, hK _ _ ?_⟩; clear hK K; obtain ⟨chb1, fhb1, shb1, thb1⟩ := bcell hb1; (try have bhb10 := shb1 (p) (by go_simp)); have cq1 := (hb1.cell (p := ⟨p, o + 2, none⟩) (by simpa using lp)).trans (show _ = some (Value.slice A 0 ca) by simpa using cq); have ct1 := (hb1.cell (p := ⟨p, o + 3, none⟩) (by simpa using lp)).trans (show _ = some (Value.int .i64 t) by simpa using ct))
          | ((with_reducible refine wpD_g (fun K hK => ?_)); go_simp; go_at_call 128; refine ((hS.out.below (by exact bel_)).form hv3H.out).mono ?_; rintro e w2 ⟨rfl, hb2⟩; refine ⟨_, rfl, hb2, hK _ _ ?_⟩; clear hK K; obtain ⟨chb2, fhb2, shb2, thb2⟩ := bcell hb2; (try have bhb20 := shb2 (p) (by go_simp)); have cq2 := (hb2.cell (p := ⟨p, o + 2, none⟩) bhb10).trans cq1; have ct2 := (hb2.cell (p := ⟨p, o + 3, none⟩) bhb10).trans ct1))
        with_reducible refine wpD_nil ?_
        go_wp2
        go_ret
        exact ⟨ret_bool hr.out, by exact bel_⟩
      · have hqd : ((q : Int) == 0) = false := by simp; omega
        have hqH := Lib.hid hq1
        cases htm : tempB t
        · have htH := Lib.hid htm
          have hr := Lib.hid (show false = sysOkB gs ts xs t by unfold sysOkB; rw [← isStabR_range hvH.out htm]; simp)
          clear htm
          go_enter Tryz.func160, Tryz.ntmps160
          go_wp2
          refine wp_region_ord [(0, .q), (1, .q), (2, .q), (3, .g), (4, .q), (5, .q), (6, .q), (7, .q), (8, .q), (9, .q), (10, .q), (11, .q), (12, .g), (13, .q), (14, .q), (15, .q), (16, .q), (17, .q), (18, .q), (19, .q), (20, .q), (21, .q), (22, .q), (23, .q), (24, .q), (25, .q), (26, .q), (27, .q), (28, .q), (29, .g), (30, .q), (31, .q)] (by kernel_rfl) (by kernel_rfl) ?_
          simp only [pick, List.filterMap_cons, List.filterMap_nil, List.getElem?_toArray, List.getElem?_cons_zero, List.getElem?_cons_succ, Option.map_some]
          repeat (first
            | ((with_reducible refine wpD_p (fun K hK => ?_)); go_simp; refine hK _ ?_; clear hK K)
            | ((with_reducible refine wpD_q (fun K hK => ?_)); go_simp; (first | refine hK _ ?_ | (go_bits; refine hK _ ?_) | (go_bits; go_simp; refine hK _ ?_)); clear hK K)
            | ((with_reducible refine wpD_g (fun K hK => ?_)); go_simp; refine hK _ _ ?_; clear hK K)
            | ((with_reducible refine wpD_g (fun K hK => ?_)); go_simp; refine ⟨Grew.of_alloc _, hK _ _ ?_⟩; clear hK K)
            | ((with_reducible refine wpD_g (fun K hK => ?_)); go_simp; go_at_call 127; refine ((hS.out.below (by exact bel_)).set hv2H.out).mono ?_; rintro e w1 ⟨rfl, hb1⟩; refine ⟨_, rfl, hb1, hK _ _ ?_⟩; clear hK K; obtain ⟨chb1, fhb1, shb1, thb1⟩ := bcell hb1; (try have bhb10 := shb1 (p) (by go_simp)); have cq1 := (hb1.cell (p := ⟨p, o + 2, none⟩) (by simpa using lp)).trans (show _ = some (Value.slice A q ca) by simpa using cq); have ct1 := (hb1.cell (p := ⟨p, o + 3, none⟩) (by simpa using lp)).trans (show _ = some (Value.int .i64 t) by simpa using ct))
            | ((with_reducible refine wpD_g (fun K hK => ?_)); go_simp; go_at_call 128; refine ((hS.out.below (by exact bel_)).form hv3H.out).mono ?_; rintro e w2 ⟨rfl, hb2⟩; refine ⟨_, rfl, hb2, hK _ _ ?_⟩; clear hK K; obtain ⟨chb2, fhb2, shb2, thb2⟩ := bcell hb2; (try have bhb20 := shb2 (p) (by go_simp)); have cq2 := (hb2.cell (p := ⟨p, o + 2, none⟩) bhb10).trans cq1; have ct2 := (hb2.cell (p := ⟨p, o + 3, none⟩) bhb10).trans ct1)
            | ((with_reducible refine wpD_g (fun K hK => ?_)); go_simp; go_at_call 195; refine (l07Temperature_at t _ htH.out).mono ?_; rintro e _ ⟨rfl, rfl⟩; refine ⟨_, rfl, Below.refl _ _, hK _ _ ?_⟩; clear hK K))
          with_reducible refine wpD_nil ?_
          go_wp2
          go_ret
          exact ⟨ret_bool hr.out, by exact bel_⟩
        · have htH := Lib.hid htm
          obtain ⟨tn, rfl, ht1, ht2⟩ := tempB_true htm
          have hrr := isStabR_yes hvH.out htm
          have hrH := Lib.hid hrr
          have hsy := Lib.hid (show (isStabR gs ts xs tn).1 = sysOkB gs ts xs tn by unfold sysOkB; rw [hlenH.out, decide_eq_true (show 0 < q by omega), Bool.true_and])
          clear htm hrr
          rcases isStabR_cases gs ts xs tn with ⟨c, hc, hcr⟩ | ⟨b, hcr⟩
          · have hcrH := Lib.hid hcr
            clear hcr
            go_enter Tryz.func160, Tryz.ntmps160
            go_wp2
            refine wp_region_ord [(0, .q), (1, .q), (2, .q), (3, .g), (4, .q), (5, .q), (6, .q), (7, .q), (8, .q), (9, .q), (10, .q), (11, .q), (12, .g), (13, .q), (14, .q), (15, .q), (16, .q), (17, .q), (18, .q), (19, .q), (20, .q), (21, .q), (22, .q), (23, .q), (24, .q), (25, .q), (26, .q), (27, .q), (28, .q), (29, .g), (30, .q), (31, .q)] (by kernel_rfl) (by kernel_rfl) ?_
            simp only [pick, List.filterMap_cons, List.filterMap_nil, List.getElem?_toArray, List.getElem?_cons_zero, List.getElem?_cons_succ, Option.map_some]
            repeat (first
              | ((with_reducible refine wpD_p (fun K hK => ?_)); go_simp; refine hK _ ?_; clear hK K)
              | ((with_reducible refine wpD_q (fun K hK => ?_)); go_simp; (first | refine hK _ ?_ | (go_bits; refine hK _ ?_) | (go_bits; go_simp; refine hK _ ?_)); clear hK K)
              | ((with_reducible refine wpD_g (fun K hK => ?_)); go_simp; refine hK _ _ ?_; clear hK K)
              | ((with_reducible refine wpD_g (fun K hK => ?_)); go_simp; refine ⟨Grew.of_alloc _, hK _ _ ?_⟩; clear hK K)
              | ((with_reducible refine wpD_g (fun K hK => ?_)); go_simp; go_at_call 127; refine ((hS.out.below (by exact bel_)).set hv2H.out).mono ?_; rintro e w1 ⟨rfl, hb1⟩; refine ⟨_, rfl, hb1, hK _ _ ?_⟩; clear hK K; obtain ⟨chb1, fhb1, shb1, thb1⟩ := bcell hb1; (try have bhb10 := shb1 (p) (by go_simp)); have cq1 := (hb1.cell (p := ⟨p, o + 2, none⟩) (by simpa using lp)).trans (show _ = some (Value.slice A q ca) by simpa using cq); have ct1 := (hb1.cell (p := ⟨p, o + 3, none⟩) (by simpa using lp)).trans (show _ = some (Value.int .i64 (tn : Int)) by simpa using ct))
              | ((with_reducible refine wpD_g (fun K hK => ?_)); go_simp; go_at_call 128; refine ((hS.out.below (by exact bel_)).form hv3H.out).mono ?_; rintro e w2 ⟨rfl, hb2⟩; refine ⟨_, rfl, hb2, hK _ _ ?_⟩; clear hK K; obtain ⟨chb2, fhb2, shb2, thb2⟩ := bcell hb2; (try have bhb20 := shb2 (p) (by go_simp)); have cq2 := (hb2.cell (p := ⟨p, o + 2, none⟩) bhb10).trans cq1; have ct2 := (hb2.cell (p := ⟨p, o + 3, none⟩) bhb10).trans ct1)
              | ((with_reducible refine wpD_g (fun K hK => ?_)); go_simp; go_at_call 195; refine (l07Temperature_at tn _ htH.out).mono ?_; rintro e _ ⟨rfl, rfl⟩; refine ⟨_, rfl, Below.refl _ _, hK _ _ ?_⟩; clear hK K))
            with_reducible refine wpD_nil ?_
            go_wp2
            refine wp_region_ord [(0, .q), (1, .q), (2, .q), (3, .q), (4, .q), (5, .q), (6, .q), (7, .q), (8, .q), (9, .q), (10, .g), (11, .q), (12, .q), (13, .q), (14, .q), (15, .q)] (by kernel_rfl) (by kernel_rfl) ?_
            simp only [pick, List.filterMap_cons, List.filterMap_nil, List.getElem?_toArray, List.getElem?_cons_zero, List.getElem?_cons_succ, Option.map_some]
            repeat (first | ((with_reducible refine wpD_p (fun K hK => ?_)); go_simp; refine hK _ ?_; clear hK K) | ((with_reducible refine wpD_q (fun K hK => ?_)); go_simp; (first | refine hK _ ?_ | (go_bits; refine hK _ ?_) | (go_bits; go_simp; refine hK _ ?_)); clear hK K))
            with_reducible refine wpD_g (fun K hK => ?_)
            go_simp
            refine (l07Stable_any (hS.out.below (by exact bel_)) hV tn (by omega)).mono ?_
            rw [hrH.out, hcrH.out]
            rintro e w3 ⟨rfl, hb3⟩
            refine ⟨_, rfl, hb3, hK _ _ ?_⟩
            clear hK K
            repeat (first | ((with_reducible refine wpD_p (fun K hK => ?_)); go_simp; refine hK _ ?_; clear hK K) | ((with_reducible refine wpD_q (fun K hK => ?_)); go_simp; (first | refine hK _ ?_ | (go_bits; refine hK _ ?_) | (go_bits; go_simp; refine hK _ ?_)); clear hK K))
            with_reducible refine wpD_nil ?_
            go_wp2
            go_ret
            exact ⟨ret_bool (by rw [← hsy.out, hcrH.out]), by exact bel_⟩
          · have hcrH := Lib.hid hcr
            clear hcr
            cases b
            all_goals
              go_enter Tryz.func160, Tryz.ntmps160
              go_wp2
              refine wp_region_ord [(0, .q), (1, .q), (2, .q), (3, .g), (4, .q), (5, .q), (6, .q), (7, .q), (8, .q), (9, .q), (10, .q), (11, .q), (12, .g), (13, .q), (14, .q), (15, .q), (16, .q), (17, .q), (18, .q), (19, .q), (20, .q), (21, .q), (22, .q), (23, .q), (24, .q), (25, .q), (26, .q), (27, .q), (28, .q), (29, .g), (30, .q), (31, .q)] (by kernel_rfl) (by kernel_rfl) ?_
              simp only [pick, List.filterMap_cons, List.filterMap_nil, List.getElem?_toArray, List.getElem?_cons_zero, List.getElem?_cons_succ, Option.map_some]
              repeat (first
                | ((with_reducible refine wpD_p (fun K hK => ?_)); go_simp; refine hK _ ?_; clear hK K)
                | ((with_reducible refine wpD_q (fun K hK => ?_)); go_simp; (first | refine hK _ ?_ | (go_bits; refine hK _ ?_) | (go_bits; go_simp; refine hK _ ?_)); clear hK K)
                | ((with_reducible refine wpD_g (fun K hK => ?_)); go_simp; refine hK _ _ ?_; clear hK K)
                | ((with_reducible refine wpD_g (fun K hK => ?_)); go_simp; refine ⟨Grew.of_alloc _, hK _ _ ?_⟩; clear hK K)
                | ((with_reducible refine wpD_g (fun K hK => ?_)); go_simp; go_at_call 127; refine ((hS.out.below (by exact bel_)).set hv2H.out).mono ?_; rintro e w1 ⟨rfl, hb1⟩; refine ⟨_, rfl, hb1, hK _ _ ?_⟩; clear hK K; obtain ⟨chb1, fhb1, shb1, thb1⟩ := bcell hb1; (try have bhb10 := shb1 (p) (by go_simp)); have cq1 := (hb1.cell (p := ⟨p, o + 2, none⟩) (by simpa using lp)).trans (show _ = some (Value.slice A q ca) by simpa using cq); have ct1 := (hb1.cell (p := ⟨p, o + 3, none⟩) (by simpa using lp)).trans (show _ = some (Value.int .i64 (tn : Int)) by simpa using ct))
                | ((with_reducible refine wpD_g (fun K hK => ?_)); go_simp; go_at_call 128; refine ((hS.out.below (by exact bel_)).form hv3H.out).mono ?_; rintro e w2 ⟨rfl, hb2⟩; refine ⟨_, rfl, hb2, hK _ _ ?_⟩; clear hK K; obtain ⟨chb2, fhb2, shb2, thb2⟩ := bcell hb2; (try have bhb20 := shb2 (p) (by go_simp)); have cq2 := (hb2.cell (p := ⟨p, o + 2, none⟩) bhb10).trans cq1; have ct2 := (hb2.cell (p := ⟨p, o + 3, none⟩) bhb10).trans ct1)
                | ((with_reducible refine wpD_g (fun K hK => ?_)); go_simp; go_at_call 195; refine (l07Temperature_at tn _ htH.out).mono ?_; rintro e _ ⟨rfl, rfl⟩; refine ⟨_, rfl, Below.refl _ _, hK _ _ ?_⟩; clear hK K))
              with_reducible refine wpD_nil ?_
              go_wp2
              refine wp_region_ord [(0, .q), (1, .q), (2, .q), (3, .q), (4, .q), (5, .q), (6, .q), (7, .q), (8, .q), (9, .q), (10, .g), (11, .q), (12, .q), (13, .q), (14, .q), (15, .q)] (by kernel_rfl) (by kernel_rfl) ?_
              simp only [pick, List.filterMap_cons, List.filterMap_nil, List.getElem?_toArray, List.getElem?_cons_zero, List.getElem?_cons_succ, Option.map_some]
              repeat (first | ((with_reducible refine wpD_p (fun K hK => ?_)); go_simp; refine hK _ ?_; clear hK K) | ((with_reducible refine wpD_q (fun K hK => ?_)); go_simp; (first | refine hK _ ?_ | (go_bits; refine hK _ ?_) | (go_bits; go_simp; refine hK _ ?_)); clear hK K))
              with_reducible refine wpD_g (fun K hK => ?_)
              go_simp
              refine (l07Stable_any (hS.out.below (by exact bel_)) hV tn (by omega)).mono ?_
              rw [hrH.out, hcrH.out]
              rintro e w3 ⟨rfl, hb3⟩
              refine ⟨_, rfl, hb3, hK _ _ ?_⟩
              clear hK K
              repeat (first | ((with_reducible refine wpD_p (fun K hK => ?_)); go_simp; refine hK _ ?_; clear hK K) | ((with_reducible refine wpD_q (fun K hK => ?_)); go_simp; (first | refine hK _ ?_ | (go_bits; refine hK _ ?_) | (go_bits; go_simp; refine hK _ ?_)); clear hK K))
              with_reducible refine wpD_nil ?_
              go_wp2
              go_ret
              exact ⟨ret_bool (by rw [← hsy.out, hcrH.out]), by exact bel_⟩
set_option maxRecDepth 100000 in
set_option maxHeartbeats 2000000 in
theorem ValidSystem_any (G T A : Option Addr) (n cg m ct q ca : Nat) (gs : List Gl) (ts : List Ti) (xs : List Pl) (t : Int) (w : World) (h : SA w G n T m A q gs ts xs) :
    Calls Tryz.prog 164 #[.agg #[.slice G n cg, .slice T m ct, .slice A q ca, .int .i64 t]] w fun e w' => e = .returned (.bool (sysOkB gs ts xs t)) ∧ Below w.heap.size w w' := by
  
  have hSA := Lib.hid h
  have hlen := Lib.hid h.A.len
  have hq0 := h.q
  clear h
  by_cases hq1 : q = 0
  · subst hq1
    have hr := Lib.hid (show false = sysOkB gs ts xs t by unfold sysOkB; rw [hlen.out]; rfl)
    go_enter Tryz.func164, Tryz.ntmps164
    go_wp2
    go_ret
    exact ⟨ret_bool hr.out, by exact bel_⟩
  · have hqd : ((q : Int) == 0) = false := by simp; omega
    have hsy := Lib.hid (show (isStabR gs ts xs t).1 = sysOkB gs ts xs t by unfold sysOkB; rw [hlen.out, decide_eq_true (show 0 < q by omega), Bool.true_and])
    rcases isStabR_cases gs ts xs t with ⟨c, hc, hcr⟩ | ⟨b, hcr⟩
    · have hcrH := Lib.hid hcr
      clear hcr
      go_enter Tryz.func164, Tryz.ntmps164
      go_wp2_with (go_at_call 36; refine (IsStable_any G T A n cg m ct q ca gs ts xs t _ (hSA.out.below (by exact bel_))).mono ?_; rw [hcrH.out]; rintro e w1 ⟨rfl, hb1⟩)
      go_ret
      exact ⟨ret_bool (by rw [← hsy.out, hcrH.out]), by exact bel_⟩
    · have hcrH := Lib.hid hcr
      clear hcr
      cases b
      all_goals
        go_enter Tryz.func164, Tryz.ntmps164
        go_wp2_with (go_at_call 36; refine (IsStable_any G T A n cg m ct q ca gs ts xs t _ (hSA.out.below (by exact bel_))).mono ?_; rw [hcrH.out]; rintro e w1 ⟨rfl, hb1⟩)
        go_ret
        exact ⟨ret_bool (by rw [← hsy.out, hcrH.out]), by exact bel_⟩
end Go.Proofs.YtmhgjgclclnmaaaGreat
/- Walks: the code of a system and an assembly; a glue by its name; the name of a tile's side. -/


namespace Go.Proofs.YtmhgjgclclnmaaaGreat
open Go.RowKit Go.Shelf
attribute [local go_sem] BelowBy.cell BelowBy.cell_drew stillUpon givesUpon BelowBy.cell_drew2 BelowBy.cell_drew3

/-- the error for a system and an assembly -/
noncomputable def growB (gs : List Gl) (ts : List Ti) (xs : List Pl) (t : Int) (ys : List Pl) : Bool := sysOkB gs ts xs t && validAsmB gs ts ys
theorem growB_true {gs : List Gl} {ts : List Ti} {xs : List Pl} {t : Int} {ys : List Pl} (h : growB gs ts xs t ys = true) : sysOkB gs ts xs t = true ∧ validAsmB gs ts ys = true := by
  simpa [growB] using h
theorem validSet_of {gs : List Gl} {ts : List Ti} {xs : List Pl} (h : validAsmB gs ts xs = true) : validSetB gs ts = true := by
  unfold validAsmB at h; simp only [Bool.and_eq_true] at h; exact h.1
theorem formB_of {gs : List Gl} {ts : List Ti} {ys : List Pl} (h : validSetB gs ts = true) : (hasFormB ys && allB ys.length (okTile ts.length ys)) = validAsmB gs ts ys := by
  unfold validAsmB; rw [h, Bool.true_and]
theorem growthCode_at {G T A C : Option Addr} {n cg m ct q ca k cc : Nat} {gs : List Gl} {ts : List Ti} {xs ys : List Pl} {t : Int} {w : World} (h : SA w G n T m A q gs ts xs) (h2 : SA w G n T m C k gs ts ys) {r : Bool} (hr : growB gs ts xs t ys = r) :
    Calls Tryz.prog 118 #[.agg #[.slice G n cg, .slice T m ct, .slice A q ca, .int .i64 t], .agg #[.slice C k cc]] w fun e w' => e = .returned (.int .i64 (codeB r)) ∧ Below w.heap.size w w' := by
  
  have hS := Lib.hid h
  have hA := Lib.hid h2
  have hrH := Lib.hid hr
  clear h h2 hr
  cases hs : sysOkB gs ts xs t
  · have hsH := Lib.hid hs
    have hr0 : r = false := by rw [← hrH.out]; simp [growB, hs]
    subst hr0
    clear hs
    go_enter Tryz.func118, Tryz.ntmps118
    go_wp2_with (go_at_call 164; refine (ValidSystem_any G T A n cg m ct q ca gs ts xs t _ (hS.out.below (by exact bel_))).mono ?_; rw [hsH.out]; rintro e w1 ⟨rfl, hb1⟩)
    go_ret
    exact ⟨rfl, by exact bel_⟩
  · have hsH := Lib.hid hs
    have hr0 : validAsmB gs ts ys = r := by rw [← hrH.out]; simp [growB, hs]
    have hr0H := Lib.hid hr0
    clear hs hr0
    cases r
    all_goals
      go_enter Tryz.func118, Tryz.ntmps118
      go_wp2_with (go_at_call 164; refine (ValidSystem_any G T A n cg m ct q ca gs ts xs t _ (hS.out.below (by exact bel_))).mono ?_; rw [hsH.out]; rintro e w1 ⟨rfl, hb1⟩; obtain ⟨chb1, fhb1, shb1, thb1⟩ := bcell hb1; (have b0 := shb1 w.heap.size (by go_simp)); (have b1 := shb1 (w.heap.size + 1) (by go_simp)))
      refine ((hA.out.below (by exact bel_)).valid hr0H.out).mono ?_
      rintro e w2 ⟨rfl, hb2⟩
      go_wp2
      go_ret
      exact ⟨rfl, by exact bel_⟩
theorem l08Asked_at {o p pa oa : Nat} {gs : List Gl} {ts : List Ti} {xs ys : List Pl} {t : Int} {w : World} (h : SysAt w p o gs ts xs t) (ha : AsmAt w pa oa ys) (hq : ys.length ≤ 1073741824) {r : Bool} (hr : growB gs ts xs t ys = r) :
    Calls Tryz.prog 114 #[.pointer (some ⟨p, o, none⟩), .pointer (some ⟨pa, oa, none⟩)] w fun e w' => e = .returned (.int .i64 (codeB r)) ∧ Below w.heap.size w w' := by
  
  have hS := Lib.hid h
  have hA := Lib.hid ha
  have hrH := Lib.hid hr
  have htm := h.sat.tm
  clear h ha hr
  cases hs : sysOkB gs ts xs t
  · have hsH := Lib.hid hs
    have hr0 : r = false := by rw [← hrH.out]; simp [growB, hs]
    subst hr0
    clear hs
    go_enter Tryz.func114, Tryz.ntmps114
    go_wp2_with (go_at_call 160; refine (l08Ok_any _ gs ts xs t _ hS.out).mono ?_; rw [hsH.out]; rintro e w1 ⟨rfl, hb1⟩)
    go_ret
    exact ⟨rfl, by exact bel_⟩
  · have hsH := Lib.hid hs
    have hfo := Lib.hid (show (hasFormB ys && allB ys.length (okTile ts.length ys)) = r by rw [formB_of (validSet_of (sysOkB_valid hs).1), ← hrH.out]; simp [growB, hs])
    clear hs
    cases r
    all_goals
      go_enter Tryz.func114, Tryz.ntmps114
      go_wp2_with (first
        | (go_at_call 160; refine (l08Ok_any _ gs ts xs t _ hS.out).mono ?_; rw [hsH.out]; rintro e w1 ⟨rfl, hb1⟩)
        | (go_at_call 128; refine (l03Ok_any _ _ gs ts ys _ (hS.out.sat.s.below (by exact bel_)) (hA.out.below (by exact bel_)) hq (by omega)).mono ?_; rw [hfo.out]; rintro e w2 ⟨rfl, hb2⟩))
      go_ret
      exact ⟨rfl, by exact bel_⟩
/-- a glue's number by its name, 0 if there is none -/
noncomputable def glueI (gs : List Gl) (s : ByteArray) : Nat := by
  classical
  exact match gs.findIdx? (fun g => decide (g.name = s)) with
    | some k => k + 1
    | none => 0
theorem glueI_at {gs : List Gl} {s : ByteArray} {k : Nat} {g : Gl} (hk : gs[k]? = some g) (h : g.name = s) (hb : ∀ j, j < k → ∀ e, gs[j]? = some e → e.name ≠ s) : glueI gs s = k + 1 := by
  classical
  obtain ⟨hkl, rfl⟩ := List.getElem?_eq_some_iff.1 hk
  have : gs.findIdx? (fun g => decide (g.name = s)) = some k := by
    rw [List.findIdx?_eq_some_iff_getElem]
    refine ⟨hkl, by simpa using h, fun j hj => ?_⟩
    have := hb j hj _ (List.getElem?_eq_getElem (by omega))
    simpa using this
  unfold glueI
  rw [this]
theorem glueI_none {gs : List Gl} {s : ByteArray} (hb : ∀ j, j < gs.length → ∀ e, gs[j]? = some e → e.name ≠ s) : glueI gs s = 0 := by
  classical
  have : gs.findIdx? (fun g => decide (g.name = s)) = none := by
    rw [List.findIdx?_eq_none_iff]
    intro e he
    obtain ⟨j, hj, rfl⟩ := List.mem_iff_getElem.1 he
    have := hb j hj _ (List.getElem?_eq_getElem hj)
    simpa using this
  unfold glueI
  rw [this]
set_option maxHeartbeats 1000000 in
theorem l02GlueN_any {op : Nat} (p : Nat) (gs : List Gl) (ts : List Ti) (s : ByteArray) (w : World) (h : SetAt w p op gs ts) (hm : gs.length ≤ 281474976710656) :
    Calls Tryz.prog 170 #[.pointer (some ⟨p, op, none⟩), .string s] w fun e w' => e = .returned (.int .i64 (glueI gs s : Int)) ∧ w = w' := by
  obtain ⟨hlt, ⟨A, n, c, h1, h2⟩, ⟨B, m, d, h3, h4⟩⟩ := h
  have hl := h2.len
  have h2H := Lib.hid h2
  clear h3 h4 h2
  go_enter Tryz.func170, Tryz.ntmps170
  go_wp2
  go_loopg [5] n (fun r x wr => ∃ k : Nat, k + r = n ∧ x = .int .i64 (k : Int) ∧ Hid (∀ j, j < k → ∀ e, gs[j]? = some e → e.name ≠ s) ∧ w = wr)
  case atStart => exact ⟨0, by omega, rfl, Lib.hid (fun j hj => by omega), rfl⟩
  case round =>
    obtain ⟨k, hk, rfl, hok, rfl⟩ := hrel
    by_cases hkn : k < n
    · obtain ⟨b, o, rfl, hbl, hc⟩ := h2H.out.ptr (by omega)
      obtain ⟨e, he⟩ := h2H.out.get hkn
      obtain ⟨c0, c1⟩ := hc k e he
      have heH := Lib.hid he
      clear hc he
      by_cases hn : e.name = s
      · have hn'' : (e.name.toList == s.toList) = true := (Lib.bytes_beq_iff _ _).2 hn
        have hr := Lib.hid (glueI_at heH.out hn hok.out)
        clear hn
        go_wp2
        go_ret
        exact ⟨ret_int (by rw [hr.out]; simp), rfl⟩
      · have hn'' : (e.name.toList == s.toList) = false := (Lib.bytes_beq_false_iff _ _).2 hn
        have hnH := Lib.hid hn
        clear hn
        go_wp2
        go_roundg (n - (k + 1))
        case measure => omega
        case rel => exact ⟨k + 1, by omega, by go_num, Lib.hid (fun j hj e' he' => by
            rcases Nat.lt_succ_iff_lt_or_eq.1 hj with hj | rfl
            · exact hok.out j hj e' he'
            · rw [← Option.some.inj (heH.out.symm.trans he')]
              exact hnH.out), rfl⟩
    · obtain rfl : k = n := by omega
      have hr := Lib.hid (glueI_none (gs := gs) (s := s) (fun j hj => hok.out j (by omega)))
      go_wp2
      go_ret
      exact ⟨ret_int (by rw [hr.out]; rfl), rfl⟩
/-- names of glues are all different -/
theorem names_ne {gs : List Gl} {ts : List Ti} (h : validSetB gs ts = true) {i j : Nat} {d e : Gl} (hi : gs[i]? = some d) (hj : gs[j]? = some e) (hn : d.name = e.name) : i = j := by
  have key : ∀ {i j : Nat} {d e : Gl}, gs[i]? = some d → gs[j]? = some e → d.name = e.name → ¬ i < j := fun {i j d e} hi hj hn hij => by
    unfold validSetB at h
    simp only [Bool.and_eq_true] at h
    have := allB_at h.2.1 (lt_of_get hj)
    unfold okGl at this
    rw [hj] at this
    simp only [Bool.and_eq_true] at this
    rw [freshG_false hj hij hi hn] at this
    cases this.2.2
  rcases Nat.lt_trichotomy i j with h1 | h1 | h1
  · exact (key hi hj hn h1).elim
  · exact h1
  · exact (key hj hi hn.symm h1).elim
theorem glueI_iff {gs : List Gl} {ts : List Ti} (h : validSetB gs ts = true) {k : Nat} {g : Gl} (hk : gs[k]? = some g) (s : ByteArray) : glueI gs s = k + 1 ↔ g.name = s := by
  constructor
  · intro he
    classical
    unfold glueI at he
    split at he
    · rename_i j hj
      obtain rfl : j = k := by omega
      rw [List.findIdx?_eq_some_iff_getElem] at hj
      obtain ⟨hl, h1, _⟩ := hj
      obtain ⟨_, rfl⟩ := List.getElem?_eq_some_iff.1 hk
      simpa using h1
    · omega
  · intro he
    exact glueI_at hk he (fun j hj e hej hn => by
      have := names_ne h hej hk (hn.trans he.symm)
      omega)
end Go.Proofs.YtmhgjgclclnmaaaGreat
/- Walks: the program's weakest cut. -/


namespace Go.Proofs.YtmhgjgclclnmaaaGreat
open Go.RowKit Go.Shelf
attribute [local go_sem] BelowBy.cell BelowBy.cell_drew stillUpon givesUpon BelowBy.cell_drew2 BelowBy.cell_drew3

set_option maxHeartbeats 1000000 in
/-- lists of a length, the first of which comes first -/
theorem CompareI_any (A B : Option Addr) (n c d : Nat) (l1 l2 : List Int) (w : World) (h1 : RdSl 1 RInt w A n l1) (h2 : RdSl 1 RInt w B n l2) (hn : n ≤ 1073741824) {r : Bool} (hr : lexB l1 l2 = r) :
    Calls Tryz.prog 82 #[.slice A n c, .slice B n d] w fun e w' => (∃ x : Int, e = .returned (.int .i64 x) ∧ decide (x < 0) = r) ∧ Below w.heap.size w w' := by
  
  have hl1 := h1.len
  have hl2 := h2.len
  have hrH := Lib.hid hr
  clear hr
  go_enter Tryz.func82, Tryz.ntmps82
  go_wp2
  go_loopg [11] n (fun g i wr => ∃ k : Nat, k + g = n ∧ i = .int .i64 (k : Int) ∧ Hid (∀ j, j < k → l1[j]? = l2[j]?) ∧ Below w.heap.size w wr)
  case atStart => exact ⟨0, by omega, rfl, Lib.hid (fun j hj => by omega), bl_refl _⟩
  case round =>
    obtain ⟨k, hk, rfl, hsame, hbw⟩ := hrel
    have r1 := h1.below RInt.stable hbw
    have r2 := h2.below RInt.stable hbw
    by_cases hlt : k < n
    · obtain ⟨bb, o, rfl, hb, hc⟩ := r1.ptr (by omega)
      obtain ⟨b2, o2, rfl, hb2, hc2⟩ := r2.ptr (by omega)
      obtain ⟨e, he⟩ := h1.get hlt
      obtain ⟨e2, he2⟩ := h2.get hlt
      have c1 := hc k e he
      have c2 := hc2 k e2 he2
      unfold RInt at c1 c2
      simp only [Nat.mul_one] at c1 c2
      have hge : ¬ (n : Int) ≤ (k : Int) := by omega
      by_cases hee : e = e2
      · subst hee
        have hs2 := Lib.hid (show ∀ j, j < k + 1 → l1[j]? = l2[j]? from fun j hj => by
          rcases Nat.lt_succ_iff_lt_or_eq.1 hj with hj | rfl
          · exact hsame.out j hj
          · rw [he, he2])
        have hcm : cmpI e e = 0 := by simp [cmpI]
        clear hc hc2 he he2 r1 r2
        go_wp2_with (go_at_call 133; refine (Compare_any e e _).mono ?_; rw [hcm]; rintro e' w' ⟨rfl, rfl⟩)
        go_roundg (n - (k + 1))
        case measure => omega
        case rel => exact ⟨k + 1, by omega, by go_num, hs2, (by exact bel_)⟩
      · have hq := lexB_at hsame.out he he2 hee
        have hrr := Lib.hid (show decide (e < e2) = r by rw [← hrH.out, hq])
        obtain ⟨x, hx⟩ : ∃ x, cmpI e e2 = x := ⟨_, rfl⟩
        have hx0 : ¬ (x = 0) := by
          rw [← hx]; unfold cmpI
          split
          · omega
          · split
            · omega
            · omega
        have hxd : (x == 0) = false := by simpa using hx0
        have hxl := Lib.hid (show decide (x < 0) = decide (e < e2) by
          rw [← hx]; unfold cmpI
          apply decide_eq_decide.2
          split
          · omega
          · split
            · omega
            · omega)
        clear hc hc2 he he2 r1 r2 hq
        go_wp2_with (go_at_call 133; refine (Compare_any e e2 _).mono ?_; rw [hx]; rintro e' w' ⟨rfl, rfl⟩)
        go_ret
        exact ⟨⟨x, rfl, by rw [hxl.out, hrr.out]⟩, by exact bel_⟩
    · obtain rfl : k = n := by omega
      have hll := lexB_end hl1 hl2 hsame.out
      have hrr := Lib.hid (show false = r by rw [← hrH.out, hll, lexB_refl])
      clear hll
      go_wp2
      go_ret
      exact ⟨⟨0, rfl, by rw [← hrr.out]; decide⟩, by exact bel_⟩
theorem flowing0_any (n y : Nat) (B : Option Addr) (m c : Nat) (bs : List Bd) (w : World) (hB : RdSl 3 RBd w B m bs) (hb : BondsOk n bs) (hy : y < n) (hy0 : 0 < y) (hn : n ≤ 100000) (hm : m ≤ 100000) :
    Calls Tryz.prog 46 #[.int .i64 (n : Int), .slice B m c, .int .i64 0, .int .i64 (y : Int)] w (FlowingRes w n bs 0 y) := by
  have hl := hB.len
  subst hl
  exact flowing_any n 0 y B c bs w hB hb (by omega) hy (by omega) hn hm
theorem mono_keep {fv bn : Nat} {sd p : List Int} (h : (bn : Int) < (fv : Int)) : beforeI (fv : Int) sd (bn : Int) p = false := by
  rw [beforeI_ne (by omega)]; simp; omega
set_option maxRecDepth 100000 in
set_option maxHeartbeats 4000000 in
theorem weakest_any (n : Nat) (B : Option Addr) (m c : Nat) (bs : List Bd) (w : World) (hB : RdSl 3 RBd w B m bs) (hb : BondsOk n bs) (hn1 : 1 ≤ n) (hn : n ≤ 100000) (hm : m ≤ 100000) :
    Calls Tryz.prog 76 #[.int .i64 (n : Int), .slice B m c] w (WeakRes w n bs) := by
  have hBH := Lib.hid hB
  have hbH := Lib.hid hb
  clear hB hb
  go_enter Tryz.func76, Tryz.ntmps76
  go_wp2
  go_loopg [8, 6, 7] (n - 1) (fun gk yv bv v wr => ∃ (y : Nat) (b : Int) (p : List Nat), y + gk = n ∧ 1 ≤ y ∧ yv = .int .i64 (y : Int) ∧ bv = .int .i64 b ∧ Hid (weakK n bs (y - 1) = (b, p)) ∧ Hid (wr.ownsRow w.heap.size 2 1 v (intsI p).length ((intsI p).map (Value.int .i64))) ∧ Hid (Below w.heap.size w wr))
  case atStart => exact ⟨1, -1, [], by omega, by omega, rfl, rfl, Lib.hid rfl, Lib.hid (World.ownsRow_nil _ _ _ _), Lib.hid (bl_refl _)⟩
  case round =>
    obtain ⟨y, b, p, hy, hy1, rfl, rfl, hW, hrow, hbw⟩ := hrel
    have hsz := hbw.out.size
    obtain ⟨A1, c1, rfl, hrd⟩ := rdI_of hrow.out
    have hrdH := Lib.hid hrd
    clear hrd
    by_cases hyn : y < n
    · obtain ⟨fv, hfv⟩ : ∃ fv, flowV n bs 0 y = fv := ⟨_, rfl⟩
      obtain ⟨sd, hsd⟩ : ∃ sd, sideL n bs y = sd := ⟨_, rfl⟩
      have hfvH := Lib.hid hfv
      have hsdH := Lib.hid hsd
      have hsl : sd.length ≤ n := by rw [← hsd]; exact leadL_len _ _ _ _
      have hB1 := Lib.hid (hBH.out.below RBd.stable hbw.out)
      have hfe := Lib.hid (freeE_eq hbH.out (iterF_inv hbH.out 0 y (flowV n bs 0 y)))
      clear hfv hsd
      obtain ⟨r, hrE⟩ : ∃ r, (decide (b < 0) || before fv sd b p) = r := ⟨_, rfl⟩
      have hrH := Lib.hid hrE
      clear hrE
      rcases weakY_cases n bs hy1 with ⟨rfl, h0⟩ | ⟨bn, p', h0, hpl⟩
      · rw [hW.out] at h0
        injection h0 with h1 h2
        subst h1; subst h2
        have hf0 : ¬ ((fv : Int) < -1) := by omega
        go_wp2_with (first
          | (go_at_call 46; refine (flowing0_any n 1 B m c bs _ hB1.out hbH.out hyn (by omega) hn hm).mono ?_; rintro e w1 ⟨q, vR, vF, uR, uF, rfl, hN, hb1⟩; rw [hfvH.out]; have hNH := Lib.hid hN; have hb1H := Lib.hid hb1; have hs1 := hb1.size; clear hN hb1)
          | (go_at_call 52; refine (leadingTo_any _ q n 1 _ _ vR vF uR uF _ hNH.out hyn hn).mono ?_; rw [hfe.out]; rintro e w2 ⟨v2, rfl, hrow2, hb2⟩; rw [show leadL n (edgeB bs (iterF n bs 0 1 (flowV n bs 0 1))) 1 n = sd from hsdH.out] at hrow2; have hrow2H := Lib.hid hrow2; have hb2H := Lib.hid hb2; clear hrow2 hb2))
        go_roundg (n - 2)
        case measure => omega
        case rel =>
          refine ⟨2, fv, sd, by omega, by omega, by go_num, rfl, Lib.hid (weakY_take (y := 1) (by omega) hW.out hfvH.out hsdH.out (by simp)), Lib.hid ?_, Lib.hid (hbw.out.trans ((hb1H.out.trans (hb2H.out.mono hs1)).mono hsz))⟩
          rw [show (intsI sd).length = sd.length by simp [intsI]]
          exact ownsRow_base hrow2H.out (by omega)
      · rw [hW.out] at h0
        injection h0 with h1 h2
        subst h1; subst h2
        have hbn : ¬ ((bn : Int) < 0) := by omega
        have hbn0 : (0 : Int) ≤ (bn : Int) := by omega
        have hbnd : decide ((bn : Int) < 0) = false := by simp
        have hbe : beforeI (fv : Int) (intsI sd) (bn : Int) (intsI p) = r := by
          have := hrH.out
          rw [hbnd, Bool.false_or] at this
          exact this
        have hbeH := Lib.hid hbe
        clear hbe
        obtain ⟨N, hN⟩ : ∃ N, (intsI p).length = N := ⟨_, rfl⟩
        have hNH := Lib.hid hN
        have hNl : N ≤ n := by rw [← hN]; simpa [intsI] using hpl
        rw [hN] at hrow hrdH ⊢
        clear hN
        obtain ⟨M, hM⟩ : ∃ M, (intsI sd).length = M := ⟨_, rfl⟩
        have hMH := Lib.hid hM
        have hMl : M ≤ n := by rw [← hM]; simpa [intsI] using hsl
        have hMs : sd.length = M := by rw [← hM]; simp [intsI]
        have hMsH := Lib.hid hMs
        clear hM hMs hsl hpl
        by_cases hgt : (bn : Int) < (fv : Int)
        · have hr0 := Lib.hid (show (decide ((bn : Int) < 0) || before fv sd (bn : Int) p) = false by rw [hbnd, Bool.false_or]; exact mono_keep hgt)
          go_wp2_with (go_at_call 46; refine (flowing0_any n y B m c bs _ hB1.out hbH.out hyn (by omega) hn hm).mono ?_; rintro e w1 ⟨q, vR, vF, uR, uF, rfl, hN, hb1⟩; rw [hfvH.out]; have hb1H := Lib.hid hb1; have hs1 := hb1.size; clear hN hb1)
          go_roundg (n - (y + 1))
          case measure => omega
          case rel =>
            refine ⟨y + 1, bn, p, by omega, by omega, by go_num, rfl, Lib.hid (weakY_keep (by omega) hW.out hfvH.out hsdH.out hr0.out), Lib.hid ?_, Lib.hid (hbw.out.trans (hb1H.out.mono hsz))⟩
            rw [hNH.out]
            exact ownsRow_below hrow.out hb1H.out
        · have hgt' : ¬ ((fv : Int) > (bn : Int)) := hgt
          have take : ∀ (w1 w2 : World) (v2 : Value), r = true → Below wr.heap.size wr w1 → w2.ownsRow w1.heap.size 2 1 v2 M ((intsI sd).map (Value.int .i64)) → Below w1.heap.size w1 w2 →
              Hid (weakK n bs (y + 1 - 1) = ((fv : Int), sd)) ∧ Hid (w2.ownsRow w.heap.size 2 1 v2 (intsI sd).length ((intsI sd).map (Value.int .i64))) ∧ Hid (Below w.heap.size w w2) := fun w1 w2 v2 hr1 hb1 hrow2 hb2 => by
            have hs1 := hb1.size
            refine ⟨Lib.hid (weakY_take (by omega) hW.out hfvH.out hsdH.out (by rw [hrH.out, hr1])), Lib.hid ?_, Lib.hid (hbw.out.trans ((hb1.trans (hb2.mono hs1)).mono hsz))⟩
            rw [hMH.out]
            exact ownsRow_base hrow2 (by omega)
          have keep : ∀ (w1 w2 : World), r = false → Below wr.heap.size wr w1 → Below w1.heap.size w1 w2 →
              Hid (weakK n bs (y + 1 - 1) = ((bn : Int), p)) ∧ Hid (w2.ownsRow w.heap.size 2 1 (.slice A1 N c1) (intsI p).length ((intsI p).map (Value.int .i64))) ∧ Hid (Below w.heap.size w w2) := fun w1 w2 hr1 hb1 hb2 => by
            have hs1 := hb1.size
            have hall := hb1.trans (hb2.mono hs1)
            refine ⟨Lib.hid (weakY_keep (by omega) hW.out hfvH.out hsdH.out (by rw [hrH.out, hr1])), Lib.hid ?_, Lib.hid (hbw.out.trans (hall.mono hsz))⟩
            rw [hNH.out]
            exact ownsRow_below hrow.out hall
          have takeH := Lib.hid take
          have keepH := Lib.hid keep
          clear take keep
          by_cases hlt : (fv : Int) < (bn : Int)
          · have hr1 := Lib.hid (show r = true by rw [← hbeH.out, beforeI_ne (by omega)]; simpa using hlt)
            go_wp2_with (first
              | (go_at_call 46; refine (flowing0_any n y B m c bs _ hB1.out hbH.out hyn (by omega) hn hm).mono ?_; rintro e w1 ⟨q, vR, vF, uR, uF, rfl, hN, hb1⟩; rw [hfvH.out]; have hNH := Lib.hid hN; have hb1H := Lib.hid hb1; have hs1 := hb1.size; clear hN hb1)
              | (go_at_call 52; refine (leadingTo_any _ q n y _ _ vR vF uR uF _ hNH.out hyn hn).mono ?_; rw [hfe.out]; rintro e w2 ⟨v2, rfl, hrow2, hb2⟩; rw [show leadL n (edgeB bs (iterF n bs 0 y (flowV n bs 0 y))) y n = sd from hsdH.out, hMsH.out] at hrow2; have hrow2H := Lib.hid hrow2; have hb2H := Lib.hid hb2; clear hrow2 hb2))
            go_roundg (n - (y + 1))
            case measure => omega
            case rel => exact ⟨y + 1, fv, sd, by omega, by omega, by go_num, rfl, takeH.out _ _ _ hr1.out hb1H.out hrow2H.out hb2H.out⟩
          · obtain rfl : fv = bn := by omega
            by_cases hl1 : (M : Int) < (N : Int)
            · have hr1 := Lib.hid (show r = true by rw [← hbeH.out, beforeI_len (by rw [hMH.out, hNH.out]; omega), hMH.out, hNH.out]; simp; omega)
              go_wp2_with (first
                | (go_at_call 46; refine (flowing0_any n y B m c bs _ hB1.out hbH.out hyn (by omega) hn hm).mono ?_; rintro e w1 ⟨q, vR, vF, uR, uF, rfl, hN, hb1⟩; rw [hfvH.out]; have hNH := Lib.hid hN; have hb1H := Lib.hid hb1; have hs1 := hb1.size; clear hN hb1)
                | (go_at_call 52; refine (leadingTo_any _ q n y _ _ vR vF uR uF _ hNH.out hyn hn).mono ?_; rw [hfe.out]; rintro e w2 ⟨v2, rfl, hrow2, hb2⟩; rw [show leadL n (edgeB bs (iterF n bs 0 y (flowV n bs 0 y))) y n = sd from hsdH.out, hMsH.out] at hrow2; have hrow2H := Lib.hid hrow2; have hb2H := Lib.hid hb2; obtain ⟨A2, c2, rfl⟩ := ownsRow_form hrow2; clear hrow2 hb2))
              go_roundg (n - (y + 1))
              case measure => omega
              case rel => exact ⟨y + 1, fv, sd, by omega, by omega, by go_num, rfl, takeH.out _ _ _ hr1.out hb1H.out hrow2H.out hb2H.out⟩
            · by_cases hl2 : M = N
              · subst hl2
                have hlex : lexB (intsI sd) (intsI p) = r := by rw [← hbeH.out, beforeI_lex (by rw [hMH.out, hNH.out])]
                have hlexH := Lib.hid hlex
                clear hlex
                go_wp2_with (first
                  | (go_at_call 46; refine (flowing0_any n y B m c bs _ hB1.out hbH.out hyn (by omega) hn hm).mono ?_; rintro e w1 ⟨q, vR, vF, uR, uF, rfl, hN, hb1⟩; rw [hfvH.out]; have hNH := Lib.hid hN; have hb1H := Lib.hid hb1; have hs1 := hb1.size; clear hN hb1)
                  | (go_at_call 52; refine (leadingTo_any _ q n y _ _ vR vF uR uF _ hNH.out hyn hn).mono ?_; rw [hfe.out]; rintro e w2 ⟨v2, rfl, hrow2, hb2⟩; rw [show leadL n (edgeB bs (iterF n bs 0 y (flowV n bs 0 y))) y n = sd from hsdH.out, hMsH.out] at hrow2; have hrow2H := Lib.hid hrow2; have hb2H := Lib.hid hb2; obtain ⟨A2, c2, rfl⟩ := ownsRow_form hrow2; have hrd2H := Lib.hid (rdI hrow2 hMH.out.symm); clear hrow2 hb2)
                  | (go_at_call 82; refine (CompareI_any A2 A1 M c2 c1 (intsI sd) (intsI p) _ hrd2H.out (hrdH.out.below RInt.stable (hb1H.out.trans (hb2H.out.mono hs1))) (by omega) hlexH.out).mono ?_; rintro e w3 ⟨⟨x, rfl, hx⟩, hb3⟩; have hb3H := Lib.hid hb3; have hs2 := hb2H.out.size; clear hb3))
                · have hr1 := Lib.hid ‹r = true›
                  go_roundg (n - (y + 1))
                  case measure => omega
                  case rel => exact ⟨y + 1, fv, sd, by omega, by omega, by go_num, rfl, takeH.out _ _ _ hr1.out hb1H.out (ownsRow_below hrow2H.out hb3H.out) (hb2H.out.trans (hb3H.out.mono hs2))⟩
                · have hr1 := Lib.hid ‹r = false›
                  go_roundg (n - (y + 1))
                  case measure => omega
                  case rel => exact ⟨y + 1, fv, p, by omega, by omega, by go_num, rfl, keepH.out _ _ hr1.out hb1H.out (hb2H.out.trans (hb3H.out.mono hs2))⟩
              · have hr1 := Lib.hid (show r = false by rw [← hbeH.out, beforeI_len (by rw [hMH.out, hNH.out]; exact hl2), hMH.out, hNH.out]; simp; omega)
                have hl2d : ((M : Int) == (N : Int)) = false := by simp; omega
                go_wp2_with (first
                  | (go_at_call 46; refine (flowing0_any n y B m c bs _ hB1.out hbH.out hyn (by omega) hn hm).mono ?_; rintro e w1 ⟨q, vR, vF, uR, uF, rfl, hN, hb1⟩; rw [hfvH.out]; have hNH := Lib.hid hN; have hb1H := Lib.hid hb1; have hs1 := hb1.size; clear hN hb1)
                  | (go_at_call 52; refine (leadingTo_any _ q n y _ _ vR vF uR uF _ hNH.out hyn hn).mono ?_; rw [hfe.out]; rintro e w2 ⟨v2, rfl, hrow2, hb2⟩; rw [show leadL n (edgeB bs (iterF n bs 0 y (flowV n bs 0 y))) y n = sd from hsdH.out, hMsH.out] at hrow2; have hrow2H := Lib.hid hrow2; have hb2H := Lib.hid hb2; obtain ⟨A2, c2, rfl⟩ := ownsRow_form hrow2; clear hrow2 hb2))
                go_roundg (n - (y + 1))
                case measure => omega
                case rel => exact ⟨y + 1, fv, p, by omega, by omega, by go_num, rfl, keepH.out _ _ hr1.out hb1H.out hb2H.out⟩
    · obtain rfl : y = n := by omega
      go_wp2
      go_ret2
      refine ⟨.slice A1 (intsI p).length c1, ?_, ?_, hbw.out⟩
      · unfold weakR; rw [hW.out]; rfl
      · unfold weakR; rw [hW.out]; exact hrow.out
end Go.Proofs.YtmhgjgclclnmaaaGreat
