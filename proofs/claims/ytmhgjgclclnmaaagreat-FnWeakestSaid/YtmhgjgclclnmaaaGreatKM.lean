import Derived.Test.YtmhgjgclclnmaaaGreatP9
import Derived.Test.YtmhgjgclclnmaaaGreatKX
import Derived.Test.YtmhgjgclclnmaaaGreatOrdApp
import Derived.Maps.AppendAt
import Derived.Test.YtmhgjgclclnmaaaGreatKV
import Derived.Test.YtmhgjgclclnmaaaGreatP8
import Derived.Test.YtmhgjgclclnmaaaGreatKE
set_option linter.unusedSimpArgs false
set_option linter.unusedVariables false
/- Plain facts: the greatest flow between two points is as strong as the weakest cut between them. -/

namespace Go.Proofs.YtmhgjgclclnmaaaGreat
/-- what leaves a point over one bond -/
def tmF (e : Bd) (c : Int) (t : Nat) : Int := (if t = e.a then c else 0) - (if t = e.b then c else 0)
theorem tmF_add (e : Bd) (c d : Int) (t : Nat) : tmF e (c + d) t = tmF e c t + tmF e d t := by
  unfold tmF
  split <;> split <;> omega
theorem tmF_sub (e : Bd) (c d : Int) (t : Nat) : tmF e (c - d) t = tmF e c t - tmF e d t := by
  unfold tmF
  split <;> split <;> omega
/-- what leaves a point over the first m bonds -/
def netF (bs : List Bd) (f : Nat → Int) (t : Nat) : Nat → Int
  | 0 => 0
  | m + 1 => netF bs f t m + match bs[m]? with
    | some e => tmF e (f m) t
    | none => 0
theorem netF_some {bs : List Bd} (f : Nat → Int) (t : Nat) {m : Nat} {e : Bd} (he : bs[m]? = some e) : netF bs f t (m + 1) = netF bs f t m + tmF e (f m) t := by simp only [netF, he]
theorem netF_none {bs : List Bd} (f : Nat → Int) (t : Nat) {m : Nat} (he : bs[m]? = none) : netF bs f t (m + 1) = netF bs f t m := by simp only [netF, he, Int.add_zero]
theorem netF_push {n : Nat} {bs : List Bd} (hb : BondsOk n bs) {f : Nat → Int} {u v : Nat} (h : edgeB bs f u v = true) (t : Nat) : netF bs (pushB bs f u v) t bs.length = netF bs f t bs.length + ((if t = u then 1 else 0) - (if t = v then 1 else 0)) := by
  unfold edgeB at h
  cases hf : firstB bs f u v with
  | none => rw [hf] at h; cases h
  | some i =>
    obtain ⟨h1, h2, _⟩ := firstB_some.1 hf
    have he := List.getElem?_eq_getElem h1
    obtain ⟨e, hee⟩ : ∃ e, bs[i] = e := ⟨_, rfl⟩
    rw [hee] at he
    rw [pushB_at hf he]
    rw [hitB_eq he] at h2
    simp only [Bool.and_eq_true, jo, decide_eq_true_eq] at h2
    have hne := hb.ne i e he
    have key : ∀ m, netF bs (fun j => if j = i then (if e.a = u then f i + 1 else f i - 1) else f j) t m = netF bs f t m + if i < m then ((if t = u then 1 else 0) - (if t = v then 1 else 0)) else 0 := by
      intro m
      induction m with
      | zero => simp [netF]
      | succ m ih =>
        by_cases hm : m = i
        · subst hm
          rw [netF_some _ t he, netF_some f t he, ih, if_pos rfl, if_neg (Nat.lt_irrefl _), if_pos (Nat.lt_succ_self _)]
          rcases h2.1 with ⟨p1, p2⟩ | ⟨p1, p2⟩
          · subst p1 p2
            rw [if_pos rfl, tmF_add]
            simp only [tmF]
            omega
          · subst p1 p2
            rw [if_neg hne, tmF_sub]
            simp only [tmF]
            omega
        · have hlt : (i < m + 1) ↔ (i < m) := by omega
          cases he' : bs[m]? with
          | none =>
            rw [netF_none _ t he', netF_none f t he', ih]
            simp only [hlt]
          | some e' =>
            rw [netF_some _ t he', netF_some f t he', ih, if_neg hm]
            simp only [hlt]
            omega
    rw [key, if_pos h1]
section
variable {n : Nat} {bs : List Bd} {f : Nat → Int} {x y D : Nat}
theorem netF_aug (hb : BondsOk n bs) (hx : x < n) (hD : distTo n (edgeB bs f) y x = some D) (t : Nat) : ∀ (k u : Nat), (wayL n (edgeB bs f) y D x)[k]? = some u →
    netF bs (augK bs f (wayL n (edgeB bs f) y D x) k) t bs.length = netF bs f t bs.length + ((if t = x then 1 else 0) - (if t = u then 1 else 0)) := by
  intro k
  induction k with
  | zero =>
    intro u hu
    rw [wayL_head] at hu
    obtain rfl := Option.some.inj hu
    simp only [augK]
    omega
  | succ k ih =>
    intro v hv
    have hlt := (List.getElem?_eq_some_iff.1 hv).1
    obtain ⟨u, hu⟩ : ∃ u, (wayL n (edgeB bs f) y D x)[k]? = some u := ⟨_, List.getElem?_eq_getElem (by omega)⟩
    rw [augK_succ hu hv, netF_push hb (augK_step hx hD hu hv).2 t, ih u hu]
    omega
end
theorem netF_zero (bs : List Bd) (t m : Nat) : netF bs (fun _ => 0) t m = 0 := by
  induction m with
  | zero => rfl
  | succ m ih =>
    cases he : bs[m]? with
    | none => rw [netF_none _ t he, ih]
    | some e => rw [netF_some _ t he, ih]; simp [tmF]
theorem netF_iter {n : Nat} {bs : List Bd} (hb : BondsOk n bs) {x y : Nat} (hx : x < n) (t : Nat) : ∀ k, (∀ j, j < k → ¬ stopF n bs x y j) →
    netF bs (iterF n bs x y k) t bs.length = (if t = x then (k : Int) else 0) - (if t = y then (k : Int) else 0) := by
  intro k
  induction k with
  | zero =>
    intro _
    simp only [iterF]
    rw [netF_zero]
    simp
  | succ k ih =>
    intro h
    have ih := ih (fun j hj => h j (by omega))
    have hs := h k (by omega)
    unfold stopF at hs
    cases hw : wayTo n (edgeB bs (iterF n bs x y k)) x y with
    | none => exact (hs hw).elim
    | some W =>
      obtain ⟨D, hD, hW, hl⟩ := wayTo_some hw
      simp only [iterF, hw]
      rw [hl, hW, netF_aug hb hx hD t (D + 1 - 1) y (wayL_last hx hD), ih]
      by_cases c1 : t = x
      · by_cases c2 : t = y
        · (simp only [if_pos c1, if_pos c2, Int.sub_zero, Int.zero_sub, Int.sub_self]) <;> omega
        · (simp only [if_pos c1, if_neg c2, Int.sub_zero, Int.zero_sub, Int.sub_self]) <;> omega
      · by_cases c2 : t = y
        · (simp only [if_neg c1, if_pos c2, Int.sub_zero, Int.zero_sub, Int.sub_self]) <;> omega
        · (simp only [if_neg c1, if_neg c2, Int.sub_zero, Int.zero_sub, Int.sub_self]) <;> omega
theorem flowV_stop {n : Nat} {bs : List Bd} (hb : BondsOk n bs) {x y : Nat} (hx : x < n) (hxy : x ≠ y) : stopF n bs x y (flowV n bs x y) ∧ ∀ j, j < flowV n bs x y → ¬ stopF n bs x y j := by
  obtain ⟨k, h1, h2⟩ := exists_least (exists_stop hb hx hxy)
  rw [flowV_eq h1 h2]
  exact ⟨h1, h2⟩
/-- the greatest flow -/
noncomputable def finF (n : Nat) (bs : List Bd) (x y : Nat) : Nat → Int := iterF n bs x y (flowV n bs x y)
theorem netF_fin {n : Nat} {bs : List Bd} (hb : BondsOk n bs) {x y : Nat} (hx : x < n) (hxy : x ≠ y) (t : Nat) :
    netF bs (finF n bs x y) t bs.length = (if t = x then (flowV n bs x y : Int) else 0) - (if t = y then (flowV n bs x y : Int) else 0) :=
  netF_iter hb hx t _ (flowV_stop hb hx hxy).2
/-- sums over the points of a part -/
def sumV (g : Nat → Int) (P : Nat → Bool) : Nat → Int
  | 0 => 0
  | n + 1 => sumV g P n + if P n = true then g n else 0
theorem sumV_add (g h : Nat → Int) (P : Nat → Bool) (n : Nat) : sumV (fun v => g v + h v) P n = sumV g P n + sumV h P n := by
  induction n with
  | zero => simp [sumV]
  | succ n ih =>
    simp only [sumV]
    rw [ih]
    split <;> omega
theorem sumV_sub (g h : Nat → Int) (P : Nat → Bool) (n : Nat) : sumV (fun v => g v - h v) P n = sumV g P n - sumV h P n := by
  induction n with
  | zero => simp [sumV]
  | succ n ih =>
    simp only [sumV]
    rw [ih]
    split <;> omega
theorem sumV_zero (P : Nat → Bool) (n : Nat) : sumV (fun _ => 0) P n = 0 := by
  induction n with
  | zero => rfl
  | succ n ih => simp only [sumV]; rw [ih]; split <;> rfl
theorem sumV_congr {g h : Nat → Int} {P : Nat → Bool} {n : Nat} (e : ∀ v, v < n → g v = h v) : sumV g P n = sumV h P n := by
  induction n with
  | zero => rfl
  | succ n ih => simp only [sumV]; rw [ih (fun v hv => e v (by omega)), e n (by omega)]
theorem sumV_at (a : Nat) (c : Int) (P : Nat → Bool) : ∀ n, sumV (fun v => if v = a then c else 0) P n = if a < n then (if P a = true then c else 0) else 0
  | 0 => by simp [sumV]
  | n + 1 => by
    simp only [sumV]
    rw [sumV_at a c P n]
    by_cases h : n = a
    · subst h
      rw [if_neg (Nat.lt_irrefl _), if_pos (Nat.lt_succ_self _), if_pos rfl]
      omega
    · rw [if_neg h]
      have : (a < n + 1) ↔ (a < n) := by omega
      simp only [this]
      split <;> split <;> omega
/-- what crosses from a part to the rest -/
def crossF (bs : List Bd) (f : Nat → Int) (P : Nat → Bool) : Nat → Int
  | 0 => 0
  | m + 1 => crossF bs f P m + match bs[m]? with
    | some e => (if P e.a = true then f m else 0) - (if P e.b = true then f m else 0)
    | none => 0
theorem crossF_some {bs : List Bd} (f : Nat → Int) (P : Nat → Bool) {m : Nat} {e : Bd} (he : bs[m]? = some e) : crossF bs f P (m + 1) = crossF bs f P m + ((if P e.a = true then f m else 0) - (if P e.b = true then f m else 0)) := by simp only [crossF, he]
theorem crossF_none {bs : List Bd} (f : Nat → Int) (P : Nat → Bool) {m : Nat} (he : bs[m]? = none) : crossF bs f P (m + 1) = crossF bs f P m := by simp only [crossF, he, Int.add_zero]
/-- the strength of the bonds between a part and the rest -/
def cutP (bs : List Bd) (P : Nat → Bool) : Nat → Int
  | 0 => 0
  | m + 1 => cutP bs P m + match bs[m]? with
    | some e => if P e.a = P e.b then 0 else e.s
    | none => 0
theorem cutP_some {bs : List Bd} (P : Nat → Bool) {m : Nat} {e : Bd} (he : bs[m]? = some e) : cutP bs P (m + 1) = cutP bs P m + (if P e.a = P e.b then 0 else e.s) := by simp only [cutP, he]
theorem cutP_none {bs : List Bd} (P : Nat → Bool) {m : Nat} (he : bs[m]? = none) : cutP bs P (m + 1) = cutP bs P m := by simp only [cutP, he, Int.add_zero]
theorem sumV_net {n : Nat} {bs : List Bd} (hb : BondsOk n bs) (f : Nat → Int) (P : Nat → Bool) : ∀ m, sumV (fun v => netF bs f v m) P n = crossF bs f P m
  | 0 => by simp only [netF, crossF]; exact sumV_zero P n
  | m + 1 => by
    cases he : bs[m]? with
    | none =>
      rw [crossF_none f P he, sumV_congr (fun v _ => netF_none f v he)]
      exact sumV_net hb f P m
    | some e =>
      rw [crossF_some f P he, sumV_congr (fun v _ => netF_some f v he), sumV_add, sumV_net hb f P m]
      unfold tmF
      rw [sumV_sub, sumV_at, sumV_at, if_pos (hb.a m e he), if_pos (hb.b m e he)]
theorem cross_fin {n : Nat} {bs : List Bd} (hb : BondsOk n bs) {x y : Nat} (hx : x < n) (hxy : x ≠ y) {P : Nat → Bool} (h1 : P x = true) (h2 : P y = false) : crossF bs (finF n bs x y) P bs.length = (flowV n bs x y : Int) := by
  rw [← sumV_net hb, sumV_congr (fun v _ => netF_fin hb hx hxy v), sumV_sub, sumV_at, sumV_at, if_pos hx, if_pos h1]
  rw [h2]
  split <;> simp
theorem cross_le {bs : List Bd} {f : Nat → Int} (h : InvF bs f) (P : Nat → Bool) : ∀ m, crossF bs f P m ≤ cutP bs P m
  | 0 => Int.le_refl _
  | m + 1 => by
    have ih := cross_le h P m
    cases he : bs[m]? with
    | none => rw [crossF_none f P he, cutP_none P he]; exact ih
    | some e =>
      have hi := h m e he
      rw [crossF_some f P he, cutP_some P he]
      cases ha : P e.a <;> cases hc : P e.b <;> simp <;> omega
theorem cross_eq {bs : List Bd} {f : Nat → Int} {P : Nat → Bool} (h : ∀ (i : Nat) (e : Bd), bs[i]? = some e → (P e.a = true → P e.b = false → f i = e.s) ∧ (P e.a = false → P e.b = true → f i = - e.s)) : ∀ m, crossF bs f P m = cutP bs P m
  | 0 => rfl
  | m + 1 => by
    have ih := cross_eq h m
    cases he : bs[m]? with
    | none => rw [crossF_none f P he, cutP_none P he]; exact ih
    | some e =>
      have hi := h m e he
      rw [crossF_some f P he, cutP_some P he, ih]
      cases ha : P e.a <;> cases hc : P e.b
      · simp
      · have := hi.2 ha hc; simp; omega
      · have := hi.1 ha hc; simp; omega
      · simp
theorem finF_inv {n : Nat} {bs : List Bd} (hb : BondsOk n bs) (x y : Nat) : InvF bs (finF n bs x y) := iterF_inv hb x y _
/-- no flow is greater than a cut -/
theorem flow_le_cut {n : Nat} {bs : List Bd} (hb : BondsOk n bs) {x y : Nat} (hx : x < n) {P : Nat → Bool} (h1 : P x = true) (h2 : P y = false) : (flowV n bs x y : Int) ≤ cutP bs P bs.length := by
  have hxy : x ≠ y := fun e => by rw [e, h2] at h1; cases h1
  rw [← cross_fin hb hx hxy h1 h2]
  exact cross_le (finF_inv hb x y) P _
/-- the points from which there is no way to y in the end -/
noncomputable def farP (n : Nat) (bs : List Bd) (x y : Nat) : Nat → Bool := fun v => !(distTo n (edgeB bs (finF n bs x y)) y v).isSome
theorem farP_x {n : Nat} {bs : List Bd} (hb : BondsOk n bs) {x y : Nat} (hx : x < n) (hxy : x ≠ y) : farP n bs x y x = true := by
  have h := (flowV_stop hb hx hxy).1
  unfold stopF wayTo at h
  unfold farP finF
  cases hd : distTo n (edgeB bs (iterF n bs x y (flowV n bs x y))) y x with
  | none => rfl
  | some d => rw [hd] at h; cases h
theorem farP_y (n : Nat) (bs : List Bd) (x y : Nat) : farP n bs x y y = false := by
  unfold farP
  rw [distTo_goal]
  rfl
theorem far_no_edge {n : Nat} {bs : List Bd} {x y u v : Nat} (hv : v < n) (hu : farP n bs x y u = true) (hw : farP n bs x y v = false) : edgeB bs (finF n bs x y) u v = false := by
  cases he : edgeB bs (finF n bs x y) u v
  · rfl
  · exfalso
    unfold farP at hu hw
    cases hd : distTo n (edgeB bs (finF n bs x y)) y v with
    | none => rw [hd] at hw; cases hw
    | some d =>
      obtain ⟨d', hd', _⟩ := distTo_edge hv he hd
      rw [hd'] at hu
      cases hu
theorem flow_eq_cut {n : Nat} {bs : List Bd} (hb : BondsOk n bs) {x y : Nat} (hx : x < n) (hxy : x ≠ y) : (flowV n bs x y : Int) = cutP bs (farP n bs x y) bs.length := by
  rw [← cross_fin hb hx hxy (farP_x hb hx hxy) (farP_y n bs x y)]
  refine cross_eq (fun i e he => ?_) _
  have hinv := finF_inv hb x y i e he
  have hne := hb.ne i e he
  constructor
  · intro ha hc
    have := far_no_edge (hb.b i e he) ha hc
    have hr : ¬ 0 < rs e (finF n bs x y i) e.a := fun hr => by
      have h2 : edgeB bs (finF n bs x y) e.a e.b = true := edgeB_true.2 ⟨i, e, he, by simp [jo], hr⟩
      rw [this] at h2
      cases h2
    unfold rs at hr
    rw [if_pos rfl] at hr
    omega
  · intro ha hc
    have := far_no_edge (hb.a i e he) hc ha
    have hr : ¬ 0 < rs e (finF n bs x y i) e.b := fun hr => by
      have h2 : edgeB bs (finF n bs x y) e.b e.a = true := edgeB_true.2 ⟨i, e, he, by simp [jo], hr⟩
      rw [this] at h2
      cases h2
    unfold rs at hr
    rw [if_neg hne] at hr
    omega
theorem cutP_not (bs : List Bd) (P : Nat → Bool) : ∀ m, cutP bs (fun v => !P v) m = cutP bs P m
  | 0 => rfl
  | m + 1 => by
    cases he : bs[m]? with
    | none => rw [cutP_none _ he, cutP_none P he, cutP_not bs P m]
    | some e =>
      rw [cutP_some _ he, cutP_some P he, cutP_not bs P m]
      cases P e.a <;> cases P e.b <;> simp
theorem cutP_congr {n : Nat} {bs : List Bd} (hb : BondsOk n bs) {P Q : Nat → Bool} (h : ∀ v, v < n → P v = Q v) : ∀ m, cutP bs P m = cutP bs Q m
  | 0 => rfl
  | m + 1 => by
    cases he : bs[m]? with
    | none => rw [cutP_none P he, cutP_none Q he, cutP_congr hb h m]
    | some e => rw [cutP_some P he, cutP_some Q he, cutP_congr hb h m, h _ (hb.a m e he), h _ (hb.b m e he)]
theorem cutP_nonneg {n : Nat} {bs : List Bd} (hb : BondsOk n bs) (P : Nat → Bool) : ∀ m, 0 ≤ cutP bs P m
  | 0 => Int.le_refl _
  | m + 1 => by
    have ih := cutP_nonneg hb P m
    cases he : bs[m]? with
    | none => rw [cutP_none P he]; exact ih
    | some e =>
      have := hb.s m e he
      rw [cutP_some P he]
      split <;> omega
/-- a bond between both parts is part of the cut -/
theorem cutP_ge {n : Nat} {bs : List Bd} (hb : BondsOk n bs) {P : Nat → Bool} {i : Nat} {e : Bd} (he : bs[i]? = some e) (h : P e.a ≠ P e.b) : ∀ m, i < m → e.s ≤ cutP bs P m
  | 0, hi => by omega
  | m + 1, hi => by
    have h0 := cutP_nonneg hb P m
    by_cases hm : i = m
    · subst hm
      rw [cutP_some P he, if_neg h]
      omega
    · have ih := cutP_ge hb he h m (by omega)
      cases he' : bs[m]? with
      | none => rw [cutP_none P he']; exact ih
      | some e' =>
        have := hb.s m e' he'
        rw [cutP_some P he']
        split <;> omega
end Go.Proofs.YtmhgjgclclnmaaaGreat
/- The reference's net in memory: room, push. -/

namespace Go.Proofs.YtmhgjgclclnmaaaGreat
open Go.RowKit Go.Shelf
attribute [local go_sem] BelowBy.cell BelowBy.cell_drew stillUpon givesUpon BelowBy.cell_drew2 BelowBy.cell_drew3

def incB (bs : List Bd) (u i : Nat) : Bool := match bs[i]? with
  | some e => decide (e.a = u ∨ e.b = u)
  | none => false
/-- the bonds at a point, of the first k -/
def incL (bs : List Bd) (k u : Nat) : List Nat := (List.range k).filter (incB bs u)
def incRows (bs : List Bd) (k n : Nat) : List (List Value) := (List.range n).map fun u => (intsI (incL bs k u)).map (Value.int .i64)
theorem incRows_len (bs : List Bd) (k n : Nat) : (incRows bs k n).length = n := by simp [incRows]
theorem incRows_get {bs : List Bd} {k n u : Nat} (h : u < n) : (incRows bs k n)[u]? = some ((intsI (incL bs k u)).map (Value.int .i64)) := by simp [incRows, h]
/-- the net; w0: the world in which the bonds came in -/
structure SNet (w0 w : World) (p n gF : Nat) (B : Option Addr) (m c k : Nat) (bs : List Bd) (f : Nat → Int) (vA : Value) (uA : List Value) : Prop where
  lt : p < w.heap.size
  ge : w0.heap.size ≤ p
  c0 : w.cell? ⟨p, 0, none⟩ = some (.int .i64 (n : Int))
  c1 : w.cell? ⟨p, 1, none⟩ = some (.slice B m c)
  c2 : w.cell? ⟨p, 2, none⟩ = some vA
  c3 : w.cell? ⟨p, 3, none⟩ = some (.slice (some ⟨gF, 0, none⟩) m m)
  bw : Below w0.heap.size w0 w
  A : Own2 w w0.heap.size 33 2 1 vA uA (incRows bs k n)
  fl : w.rowIs gF 2 m (fun i => .int .i64 (f i))
  gl : w0.heap.size ≤ gF
  off : ¬ InMat vA uA gF ∧ ¬ InMat vA uA p ∧ gF ≠ p
section
variable {w0 w w' : World} {p n gF : Nat} {B : Option Addr} {m c k : Nat} {bs : List Bd} {f : Nat → Int} {vA : Value} {uA : List Value}
theorem SNet.below (h : SNet w0 w p n gF B m c k bs f vA uA) (hb : Below w.heap.size w w') : SNet w0 w' p n gF B m c k bs f vA uA :=
  ⟨Nat.lt_of_lt_of_le h.lt hb.size, h.ge, (hb.cell (p := ⟨p, 0, none⟩) h.lt).trans h.c0, (hb.cell (p := ⟨p, 1, none⟩) h.lt).trans h.c1, (hb.cell (p := ⟨p, 2, none⟩) h.lt).trans h.c2, (hb.cell (p := ⟨p, 3, none⟩) h.lt).trans h.c3,
    h.bw.trans (hb.mono h.bw.size), h.A.below hb, h.fl.of_block (hb.block gF h.fl.lt), h.gl, h.off⟩
/-- one flow is stored -/
theorem SNet.store (h : SNet w0 w p n gF B m c k bs f vA uA) (i : Nat) (x : Int) : SNet w0 (w.setCell ⟨gF, i, none⟩ (.int .i64 x)) p n gF B m c k bs (fun j => if j = i then x else f j) vA uA := by
  have hb : (w.setCell ⟨gF, i, none⟩ (.int .i64 x)).heap[p]? = w.heap[p]? := Below.heap_setCell _ _ _ _ (fun e => h.off.2.2 e.symm)
  have hg : w.grownBy (w.setCell ⟨gF, i, none⟩ (.int .i64 x)) (some gF) := ⟨rfl, rfl, rfl, by simp, fun j hj hne => Below.heap_setCell _ _ _ _ (fun e => hne (by rw [e]))⟩
  exact ⟨by simpa using h.lt, h.ge, (World.cell?_of_block (w := w) (a := ⟨p, 0, none⟩) hb).trans h.c0, (World.cell?_of_block (w := w) (a := ⟨p, 1, none⟩) hb).trans h.c1, (World.cell?_of_block (w := w) (a := ⟨p, 2, none⟩) hb).trans h.c2, (World.cell?_of_block (w := w) (a := ⟨p, 3, none⟩) hb).trans h.c3,
    h.bw.setCell (p := ⟨gF, i, none⟩) h.gl _, own2_kept h.A hg (fun g e => by injection e with e; rw [← e]; exact h.off.1), (h.fl.set i _).congr (fun j _ => by split <;> rfl), h.gl, h.off⟩
/-- the bonds at a point -/
theorem SNet.inc (h : SNet w0 w p n gF B m c k bs f vA uA) {u : Nat} (hu : u < n) : ∃ g cap A' cap', vA = .slice (some ⟨g, 0, none⟩) n cap ∧ g < w.heap.size ∧ w.cell? ⟨g, u, none⟩ = some (.slice A' (incL bs k u).length cap') ∧
    ∀ (j i : Nat), (incL bs k u)[j]? = some i → ∃ g', A' = some ⟨g', 0, none⟩ ∧ g' < w.heap.size ∧ w.cell? ⟨g', j, none⟩ = some (.int .i64 (i : Int)) := by
  have hl : uA.length = n := by rw [h.A.len, incRows_len]
  obtain ⟨g, cap, hv⟩ := h.A.formPos hl (by omega)
  have hA := h.A
  rw [hv] at hA
  obtain ⟨x, hx⟩ : ∃ x, uA[u]? = some x := ⟨_, List.getElem?_eq_getElem (by omega)⟩
  obtain ⟨q, r, hr, hown⟩ := hA.get hx
  rw [incRows_get hu] at hr
  obtain rfl := Option.some.inj hr
  have hq := hown.1
  simp only [List.length_map, intsI, Nat.mul_one] at hq
  subst hq
  obtain ⟨A', cap', rfl⟩ := ownsRow_form hown
  have hc := hA.cellAt hl hx
  refine ⟨g, cap, A', cap', hv, hc.2.2, hc.1, fun j i hj => ?_⟩
  have hjl := (List.getElem?_eq_some_iff.1 hj).1
  rcases hown.2 with ⟨_, h0⟩ | ⟨g', cap2, cur, hv2, _, hh, _⟩
  · omega
  · injection hv2 with e1 e2 e3
    subst e1
    exact ⟨g', rfl, (Array.getElem?_eq_some_iff.1 hh).1, (hown.cellAt j (by omega)).trans (by simp [intsI, hj])⟩
end
set_option maxRecDepth 100000 in
set_option maxHeartbeats 1000000 in
theorem room_any {w0 : World} (p n gF : Nat) (B : Option Addr) (m c k u i : Nat) (bs : List Bd) (f : Nat → Int) (vA : Value) (uA : List Value) (e : Bd) (w : World) (h : SNet w0 w p n gF B m c k bs f vA uA) (hB : RdSl 3 RBd w0 B m bs) (he : bs[i]? = some e) (hs : 0 < e.s ∧ e.s ≤ 4) (hf : -e.s ≤ f i ∧ f i ≤ e.s) {r : Int} {v : Nat} (hr : rs e (f i) u = r) (hv : (if e.a = u then e.b else e.a) = v) :
    Calls Tryz.prog 145 #[.pointer (some ⟨p, 0, none⟩), .int .i64 (u : Int), .int .i64 (i : Int)] w fun x w' => x = .returned (.tuple #[.int .i64 r, .int .i64 (v : Int)]) ∧ Below w.heap.size w w' := by
  have him : i < m := by rw [← hB.len]; exact (List.getElem?_eq_some_iff.1 he).1
  obtain ⟨bb, ob, rfl, hbb, hbc⟩ := (hB.below RBd.stable h.bw).ptr (by omega)
  obtain ⟨e0, e1, e2⟩ := hbc i e he
  have c1 := h.c1
  have c3 := h.c3
  have l0 := h.lt
  have c4 := h.fl.cell him
  have l1 := h.fl.lt
  obtain ⟨fi, hfi⟩ : ∃ fi, f i = fi := ⟨_, rfl⟩
  rw [hfi] at c4 hf hr
  have hrH := Lib.hid hr
  have hvH := Lib.hid hv
  have hw1 : IntKind.i64.wrap (e.s - fi) = e.s - fi := IntWalk.i64_in _ ⟨by omega, by omega⟩
  have hw2 : IntKind.i64.wrap (e.s + fi) = e.s + fi := IntWalk.i64_in _ ⟨by omega, by omega⟩
  clear h hB he hbc hr hv hfi
  by_cases ha : e.a = u
  · have hres : e.s - fi = r ∧ e.b = v := by
      have h1 := hrH.out
      have h2 := hvH.out
      rw [rs, if_pos ha] at h1
      rw [if_pos ha] at h2
      exact ⟨h1, h2⟩
    have hresH := Lib.hid hres
    have haI : ((e.a : Int) == (u : Int)) = true := by simp; omega
    clear hres ha
    go_enter Tryz.func145, Tryz.ntmps145
    go_wp2
    refine wp_region_ord [(0, .q), (1, .q), (2, .q), (3, .q), (4, .q), (5, .q), (6, .q), (7, .q), (8, .q), (9, .q), (10, .q), (11, .q), (12, .q), (13, .q)] (by kernel_rfl) (by kernel_rfl) ?_
    simp only [pick, List.filterMap_cons, List.filterMap_nil, List.getElem?_toArray, List.getElem?_cons_zero, List.getElem?_cons_succ, Option.map_some]
    repeat (first | ((with_reducible refine wpD_p (fun K hK => ?_)); go_simp; refine hK _ ?_; clear hK K) | ((with_reducible refine wpD_q (fun K hK => ?_)); go_simp; (first | refine hK _ ?_ | (go_bits; refine hK _ ?_) | (go_bits; go_simp; refine hK _ ?_)); clear hK K))
    with_reducible refine wpD_nil ?_
    go_wp2
    go_ret2
    rw [← hresH.out.1, ← hresH.out.2]
    exact ⟨rfl, by exact bel_⟩
  · have hres : e.s + fi = r ∧ e.a = v := by
      have h1 := hrH.out
      have h2 := hvH.out
      rw [rs, if_neg ha] at h1
      rw [if_neg ha] at h2
      exact ⟨h1, h2⟩
    have hresH := Lib.hid hres
    have haI : ((e.a : Int) == (u : Int)) = false := by simp; omega
    clear hres ha
    go_enter Tryz.func145, Tryz.ntmps145
    go_wp2
    refine wp_region_ord [(0, .q), (1, .q), (2, .q), (3, .q), (4, .q), (5, .q), (6, .q), (7, .q), (8, .q), (9, .q), (10, .q), (11, .q), (12, .q), (13, .q)] (by kernel_rfl) (by kernel_rfl) ?_
    simp only [pick, List.filterMap_cons, List.filterMap_nil, List.getElem?_toArray, List.getElem?_cons_zero, List.getElem?_cons_succ, Option.map_some]
    repeat (first | ((with_reducible refine wpD_p (fun K hK => ?_)); go_simp; refine hK _ ?_; clear hK K) | ((with_reducible refine wpD_q (fun K hK => ?_)); go_simp; (first | refine hK _ ?_ | (go_bits; refine hK _ ?_) | (go_bits; go_simp; refine hK _ ?_)); clear hK K))
    with_reducible refine wpD_nil ?_
    go_wp2
    go_ret2
    rw [← hresH.out.1, ← hresH.out.2]
    exact ⟨rfl, by exact bel_⟩
def PushRes (w0 w : World) (p n gF : Nat) (B : Option Addr) (m c k : Nat) (bs : List Bd) (f : Nat → Int) (vA : Value) (uA : List Value) (x : Ending) (w' : World) : Prop := x = .returned (.tuple #[]) ∧ SNet w0 w' p n gF B m c k bs f vA uA ∧ w.grownBy w' (some gF)
set_option maxRecDepth 100000 in
set_option maxHeartbeats 1000000 in
theorem push_any {w0 : World} (p n gF : Nat) (B : Option Addr) (m c k u i : Nat) (bs : List Bd) (f : Nat → Int) (vA : Value) (uA : List Value) (e : Bd) (w : World) (h : SNet w0 w p n gF B m c k bs f vA uA) (hB : RdSl 3 RBd w0 B m bs) (he : bs[i]? = some e) (hs : 0 < e.s ∧ e.s ≤ 4) (hf : -e.s ≤ f i ∧ f i ≤ e.s) :
    Calls Tryz.prog 146 #[.pointer (some ⟨p, 0, none⟩), .int .i64 (u : Int), .int .i64 (i : Int)] w (PushRes w0 w p n gF B m c k bs (fun j => if j = i then (if e.a = u then f i + 1 else f i - 1) else f j) vA uA) := by
  have him : i < m := by rw [← hB.len]; exact (List.getElem?_eq_some_iff.1 he).1
  obtain ⟨bb, ob, rfl, hbb, hbc⟩ := (hB.below RBd.stable h.bw).ptr (by omega)
  obtain ⟨e0, e1, e2⟩ := hbc i e he
  have hH := Lib.hid h
  have c1 := h.c1
  have c3 := h.c3
  have l0 := h.lt
  have c4 := h.fl.cell him
  have f4 := h.fl.frozen i
  have l1 := h.fl.lt
  obtain ⟨fi, hfi⟩ : ∃ fi, f i = fi := ⟨_, rfl⟩
  rw [hfi] at c4 hf ⊢
  have hw1 : IntKind.i64.wrap (fi - 1) = fi - 1 := IntWalk.i64_in _ ⟨by omega, by omega⟩
  have hw2 : IntKind.i64.wrap (fi + 1) = fi + 1 := IntWalk.i64_in _ ⟨by omega, by omega⟩
  clear h hB he hbc hfi
  by_cases ha : e.a = u
  · rw [if_pos ha]
    have haI : ((e.a : Int) == (u : Int)) = true := by simp; omega
    clear ha
    go_enter Tryz.func146, Tryz.ntmps146
    go_wp2
    go_end0
    exact ⟨rfl, hH.out.store i (fi + 1), ⟨rfl, rfl, rfl, by simp, fun j hj hne => Below.heap_setCell _ _ _ _ (fun e => hne (by rw [e]))⟩⟩
  · rw [if_neg ha]
    have haI : ((e.a : Int) == (u : Int)) = false := by simp; omega
    clear ha
    go_enter Tryz.func146, Tryz.ntmps146
    go_wp2
    go_end0
    exact ⟨rfl, hH.out.store i (fi - 1), ⟨rfl, rfl, rfl, by simp, fun j hj hne => Below.heap_setCell _ _ _ _ (fun e => hne (by rw [e]))⟩⟩
end Go.Proofs.YtmhgjgclclnmaaaGreat
/- Plain facts: a search backward from the goal gives the steps to it. -/

namespace Go.Proofs.YtmhgjgclclnmaaaGreat
def oth (e : Bd) (u : Nat) : Nat := if e.a = u then e.b else e.a
theorem incL_mem {bs : List Bd} {u b : Nat} (h : b ∈ incL bs bs.length u) : ∃ e, bs[b]? = some e ∧ (e.a = u ∨ e.b = u) := by
  unfold incL at h
  simp only [List.mem_filter, List.mem_range] at h
  have he := List.getElem?_eq_getElem h.1
  have := h.2
  unfold incB at this
  rw [he] at this
  exact ⟨_, he, by simpa using this⟩
theorem mem_incL {bs : List Bd} {u b : Nat} {e : Bd} (he : bs[b]? = some e) (h : e.a = u ∨ e.b = u) : b ∈ incL bs bs.length u := by
  unfold incL
  simp only [List.mem_filter, List.mem_range]
  refine ⟨(List.getElem?_eq_some_iff.1 he).1, ?_⟩
  unfold incB
  rw [he]
  simpa using h
theorem jo_oth {e : Bd} {u : Nat} (h : e.a = u ∨ e.b = u) : jo e (oth e u) u = true ∧ jo e u (oth e u) = true := by
  unfold oth jo
  by_cases ha : e.a = u
  · simp [ha]
  · have hb := h.resolve_left ha
    simp [ha, hb]
theorem oth_of_jo {e : Bd} {u v : Nat} (hne : e.a ≠ e.b) (h : jo e u v = true) : oth e u = v ∧ oth e v = u := by
  simp only [jo, decide_eq_true_eq] at h
  unfold oth
  rcases h with ⟨h1, h2⟩ | ⟨h1, h2⟩
  · have : ¬ e.a = v := fun e' => hne (e'.trans h2.symm)
    rw [if_pos h1, if_neg this]; exact ⟨h2, h1⟩
  · have : ¬ e.a = u := fun e' => hne (e'.trans h2.symm)
    rw [if_neg this, if_pos h1]; exact ⟨h1, h2⟩
/-- i points are done, of the next one the first k bonds -/
structure Back (n : Nat) (bs : List Bd) (f : Nat → Int) (y : Nat) (L : List Nat) (l : Nat → Option Nat) (i k : Nat) : Prop where
  head : L[0]? = some y
  gy : l y = some 0
  lt : ∀ (j v : Nat), L[j]? = some v → v < n
  nodup : ∀ (j j' v : Nat), L[j]? = some v → L[j']? = some v → j = j'
  mem : ∀ (v : Nat), v < n → (v ∈ L ↔ ∃ d, l v = some d)
  mono : ∀ (j j' u v a b : Nat), j ≤ j' → L[j]? = some u → L[j']? = some v → l u = some a → l v = some b → a ≤ b
  top : ∀ (j v b u a : Nat), L[j]? = some v → l v = some b → L[i]? = some u → l u = some a → b ≤ a + 1
  next : ∀ (v d : Nat), v < n → l v = some d → (v = y ∧ d = 0) ∨ ∃ u d', u < n ∧ edgeB bs f v u = true ∧ l u = some d' ∧ d = d' + 1
  full : ∀ (p u v : Nat), L[p]? = some u → p < i → v < n → edgeB bs f v u = true → ∃ d d', l u = some d ∧ l v = some d' ∧ d' ≤ d + 1
  part : ∀ (u j b v : Nat) (e : Bd), L[i]? = some u → j < k → (incL bs bs.length u)[j]? = some b → bs[b]? = some e → jo e v u = true → 0 < rs e (f b) v → v ∈ L
  bd : ∀ (j v d : Nat), L[j]? = some v → l v = some d → d ≤ j
theorem Back.start {n : Nat} {bs : List Bd} {f : Nat → Int} {y : Nat} (hy : y < n) : Back n bs f y [y] (fun v => if v = y then some 0 else none) 0 0 := by
  have hget : ∀ {j v : Nat}, [y][j]? = some v → j = 0 ∧ v = y := fun {j v} h => by
    match j, h with
    | 0, h => simp at h; exact ⟨rfl, h.symm⟩
    | j + 1, h => simp at h
  refine ⟨rfl, by simp, fun j v h => by rw [(hget h).2]; exact hy, fun j j' v h h' => by rw [(hget h).1, (hget h').1], fun v hv => ?_, fun j j' u v a b _ hu hv ha hb => ?_, fun j v b u a hv hb hu ha => ?_, fun v d hv h => ?_, fun p u v h hp => by omega, fun u j b v e h hj => by omega, fun j v d hv hd => ?_⟩
  · by_cases h : v = y <;> simp [h]
  · rw [(hget hu).2] at ha
    rw [(hget hv).2] at hb
    simp at ha hb
    omega
  · rw [(hget hv).2] at hb
    simp at hb
    omega
  · by_cases h' : v = y
    · simp [h'] at h
      exact .inl ⟨h', h.symm⟩
    · simp [h'] at h
  · rw [(hget hv).2] at hd
    simp at hd
    omega
section
variable {n : Nat} {bs : List Bd} {f : Nat → Int} {y : Nat} {L : List Nat} {l : Nat → Option Nat} {i k u b : Nat} {e : Bd}
theorem Back.skip (h : Back n bs f y L l i k) (hb : BondsOk n bs) (hi : L[i]? = some u) (hk : (incL bs bs.length u)[k]? = some b) (he : bs[b]? = some e) (hs : 0 < rs e (f b) (oth e u) → oth e u ∈ L) : Back n bs f y L l i (k + 1) := by
  refine ⟨h.head, h.gy, h.lt, h.nodup, h.mem, h.mono, h.top, h.next, h.full, fun u' j b' v e' hu' hj hj' he' hjo hrs => ?_, h.bd⟩
  rcases Nat.lt_succ_iff_lt_or_eq.1 hj with hj | rfl
  · exact h.part u' j b' v e' hu' hj hj' he' hjo hrs
  · rw [hi] at hu'
    obtain rfl := Option.some.inj hu'
    rw [hk] at hj'
    obtain rfl := Option.some.inj hj'
    rw [he] at he'
    obtain rfl := Option.some.inj he'
    have := (oth_of_jo (hb.ne b e he) hjo).2
    rw [this] at hs
    exact hs hrs
theorem Back.found (h : Back n bs f y L l i k) (hb : BondsOk n bs) {a : Nat} (hi : L[i]? = some u) (ha : l u = some a) (hk : (incL bs bs.length u)[k]? = some b) (he : bs[b]? = some e) (hinc : e.a = u ∨ e.b = u) (hr : 0 < rs e (f b) (oth e u)) (hn : oth e u ∉ L) :
    Back n bs f y (L ++ [oth e u]) (fun v => if v = oth e u then some (a + 1) else l v) i (k + 1) := by
  obtain ⟨t, ht⟩ : ∃ t, oth e u = t := ⟨_, rfl⟩
  have hjo := (jo_oth hinc).1
  rw [ht] at hr hn hjo ⊢
  have hil := (List.getElem?_eq_some_iff.1 hi).1
  have htn : t < n := by
    rw [← ht]
    unfold oth
    split
    · exact hb.b b e he
    · exact hb.a b e he
  have hun := h.lt i u hi
  have hne : ∀ {j v : Nat}, L[j]? = some v → v ≠ t := fun hv e' => hn (e' ▸ List.mem_of_getElem? hv)
  have hyt : y ≠ t := hne h.head
  have hut : u ≠ t := hne hi
  have hold : ∀ {j v : Nat}, j < L.length → (L ++ [t])[j]? = some v → L[j]? = some v := fun hj h => by rwa [List.getElem?_append_left hj] at h
  refine ⟨by rw [List.getElem?_append_left (by omega)]; exact h.head, by rw [if_neg hyt]; exact h.gy, fun j v hv => ?_, fun j j' v hv hv' => ?_, fun v hv => ?_, fun j j' p q c d hjj hp hq hc hd => ?_, fun j v c p d hv hc hp hd => ?_, fun v d hv hd => ?_, fun p q v hq hp hv hE => ?_, fun q j b' v e' hq hj hj' he' hjo' hrs => ?_, fun j v d hv hd => ?_⟩
  · rcases get_snoc hv with ⟨_, hv⟩ | ⟨_, rfl⟩
    · exact h.lt j v hv
    · exact htn
  · rcases get_snoc hv with ⟨_, h1⟩ | ⟨rfl, rfl⟩
    · rcases get_snoc hv' with ⟨_, h2⟩ | ⟨rfl, rfl⟩
      · exact h.nodup j j' v h1 h2
      · exact (hne h1 rfl).elim
    · rcases get_snoc hv' with ⟨_, h2⟩ | ⟨rfl, _⟩
      · exact (hne h2 rfl).elim
      · rfl
  · by_cases e1 : v = t
    · simp [e1]
    · have := h.mem v hv
      simp only [List.mem_append, List.mem_singleton, e1, or_false, if_false]
      exact this
  · rcases get_snoc hp with ⟨hjl, h1⟩ | ⟨rfl, rfl⟩
    · rw [if_neg (hne h1)] at hc
      rcases get_snoc hq with ⟨_, h2⟩ | ⟨rfl, rfl⟩
      · rw [if_neg (hne h2)] at hd
        exact h.mono j j' p q c d hjj h1 h2 hc hd
      · rw [if_pos rfl] at hd
        injection hd with hd
        have := h.top j p c u a h1 hc hi ha
        omega
    · rcases get_snoc hq with ⟨hj'l, _⟩ | ⟨_, rfl⟩
      · omega
      · rw [hc] at hd
        injection hd with hd
        omega
  · have hp' := hold hil hp
    rw [hi] at hp'
    obtain rfl := Option.some.inj hp'
    rw [if_neg hut, ha] at hd
    injection hd with hd
    rcases get_snoc hv with ⟨_, h1⟩ | ⟨_, rfl⟩
    · rw [if_neg (hne h1)] at hc
      have := h.top j v c u a h1 hc hi ha
      omega
    · rw [if_pos rfl] at hc
      injection hc with hc
      omega
  · by_cases e1 : v = t
    · subst e1
      rw [if_pos rfl] at hd
      injection hd with hd
      refine .inr ⟨u, a, hun, edgeB_true.2 ⟨b, e, he, hjo, hr⟩, by rw [if_neg hut]; exact ha, hd.symm⟩
    · rw [if_neg e1] at hd
      rcases h.next v d hv hd with h1 | ⟨q, d', h1, h2, h3, h4⟩
      · exact .inl h1
      · have hqL := (h.mem q h1).2 ⟨d', h3⟩
        refine .inr ⟨q, d', h1, h2, ?_, h4⟩
        rw [if_neg (fun (e' : q = t) => hn (e' ▸ hqL))]
        exact h3
  · have hq' := hold (by omega) hq
    obtain ⟨d, d', h1, h2, h3⟩ := h.full p q v hq' hp hv hE
    have hvL := (h.mem v hv).2 ⟨d', h2⟩
    exact ⟨d, d', by rw [if_neg (hne hq')]; exact h1, by rw [if_neg (fun (e' : v = t) => hn (e' ▸ hvL))]; exact h2, h3⟩
  · have hq' := hold hil hq
    rcases Nat.lt_succ_iff_lt_or_eq.1 hj with hj | rfl
    · exact List.mem_append_left _ (h.part q j b' v e' hq' hj hj' he' hjo' hrs)
    · rw [hi] at hq'
      obtain rfl := Option.some.inj hq'
      rw [hk] at hj'
      obtain rfl := Option.some.inj hj'
      rw [he] at he'
      obtain rfl := Option.some.inj he'
      have := (oth_of_jo (hb.ne b e he) hjo').2
      rw [ht] at this
      rw [this]
      exact List.mem_append_right _ (List.mem_singleton.2 rfl)
  · rcases get_snoc hv with ⟨_, h1⟩ | ⟨rfl, rfl⟩
    · rw [if_neg (hne h1)] at hd
      exact h.bd j v d h1 hd
    · rw [if_pos rfl] at hd
      injection hd with hd
      have := h.bd i u a hi ha
      omega
theorem Back.done (h : Back n bs f y L l i (incL bs bs.length u).length) (hi : L[i]? = some u) : Back n bs f y L l (i + 1) 0 := by
  have hun := h.lt i u hi
  obtain ⟨a, ha⟩ := (h.mem u hun).1 (List.mem_of_getElem? hi)
  refine ⟨h.head, h.gy, h.lt, h.nodup, h.mem, h.mono, fun j v b p d hv hb hp hd => ?_, h.next, fun p q v hq hp hv hE => ?_, fun q j b' v e' _ hj => by omega, h.bd⟩
  · have h1 := h.top j v b u a hv hb hi ha
    have h2 := h.mono i (i + 1) u p a d (by omega) hi hp ha hd
    omega
  · rcases Nat.lt_succ_iff_lt_or_eq.1 hp with hp | rfl
    · exact h.full p q v hq hp hv hE
    · rw [hi] at hq
      obtain rfl := Option.some.inj hq
      obtain ⟨b, e, he, hjo, hr⟩ := edgeB_true.1 hE
      have hinc : b ∈ incL bs bs.length u := mem_incL he (by
        simp only [jo, decide_eq_true_eq] at hjo
        rcases hjo with h | h
        · exact .inr h.2
        · exact .inl h.1)
      obtain ⟨j, hj⟩ := List.mem_iff_getElem?.1 hinc
      have hvL := h.part u j b v e hi (List.getElem?_eq_some_iff.1 hj).1 hj he hjo hr
      obtain ⟨d', hd'⟩ := (h.mem v hv).1 hvL
      obtain ⟨jv, hjv⟩ := List.mem_iff_getElem?.1 hvL
      exact ⟨a, d', ha, hd', h.top jv v d' u a hjv hd' hi ha⟩
theorem Back.dist (h : Back n bs f y L l L.length 0) (hy : y < n) : ∀ v, v < n → l v = distTo n (edgeB bs f) y v := by
  refine IsDist.eq ⟨h.gy, fun u v d hu hv hE hd => ?_, fun v d hv hd => h.next v d hv hd⟩ hy
  have huL := (h.mem u hu).2 ⟨d, hd⟩
  obtain ⟨p, hp⟩ := List.mem_iff_getElem?.1 huL
  obtain ⟨d0, d', h1, h2, h3⟩ := h.full p u v hp (List.getElem?_eq_some_iff.1 hp).1 hv hE
  rw [hd] at h1
  injection h1 with h1
  exact ⟨d', h2, by omega⟩
theorem Back.size (h : Back n bs f y L l i k) : L.length ≤ n :=
  nodup_len n L (nodup_of_get h.nodup) (fun v hv => by
    obtain ⟨j, hj⟩ := List.mem_iff_getElem?.1 hv
    exact h.lt j v hj)
end
def leftI (l : Nat → Option Nat) (v : Nat) : Int := match l v with
  | some d => (d : Int)
  | none => -1
end Go.Proofs.YtmhgjgclclnmaaaGreat
/- Walks: the reference's steps to a goal. -/

namespace Go.Proofs.YtmhgjgclclnmaaaGreat
open Go.RowKit Go.Shelf
attribute [local go_sem] BelowBy.cell BelowBy.cell_drew stillUpon givesUpon BelowBy.cell_drew2 BelowBy.cell_drew3

def rowL (l : Nat → Option Nat) (n : Nat) : List Value := (List.range n).map fun v => Value.int .i64 (leftI l v)
theorem rowL_len (l : Nat → Option Nat) (n : Nat) : (rowL l n).length = n := by simp [rowL]
theorem rowL_get {l : Nat → Option Nat} {n v : Nat} (h : v < n) : (rowL l n)[v]? = some (.int .i64 (leftI l v)) := by simp [rowL, h]
theorem rowL_set {l : Nat → Option Nat} {n t d : Nat} : (rowL l n).set t (.int .i64 (d : Int)) = rowL (fun v => if v = t then some d else l v) n := by
  apply List.ext_getElem?
  intro j
  rw [List.getElem?_set, rowL_len]
  by_cases hj : j < n
  · rw [rowL_get hj, rowL_get hj]
    by_cases e : t = j
    · subst e; simp [hj, leftI]
    · rw [if_neg e]
      have : ¬ j = t := fun h => e h.symm
      simp [leftI, this]
  · rw [List.getElem?_eq_none (by rw [rowL_len]; omega), List.getElem?_eq_none (by rw [rowL_len]; omega)]
    split
    · rw [if_neg (by omega)]
    · rfl
theorem rowL_start (n y : Nat) : (List.replicate n (Value.int .i64 (-1))).set y (.int .i64 0) = rowL (fun v => if v = y then some 0 else none) n := by
  have : List.replicate n (Value.int .i64 (-1)) = rowL (fun _ => none) n := by
    apply List.ext_getElem?
    intro j
    by_cases hj : j < n
    · rw [rowL_get hj, List.getElem?_replicate, if_pos hj]; rfl
    · rw [List.getElem?_eq_none (by simp; omega), List.getElem?_eq_none (by rw [rowL_len]; omega)]
  rw [this]
  exact rowL_set (d := 0)
theorem rowL_congr {l l' : Nat → Option Nat} {n : Nat} (h : ∀ v, v < n → l v = l' v) : rowL l n = rowL l' n := by
  unfold rowL
  apply List.map_congr_left
  intro v hv
  unfold leftI
  rw [h v (by simpa using hv)]
def StepsRes (w : World) (n : Nat) (l : Nat → Option Nat) (e : Ending) (w' : World) : Prop := ∃ g c, e = .returned (.slice (some ⟨g, 0, none⟩) n c) ∧ w'.ownsRow w.heap.size 2 1 (.slice (some ⟨g, 0, none⟩) n c) n (rowL l n) ∧ Below w.heap.size w w'
set_option maxRecDepth 100000 in
set_option maxHeartbeats 4000000 in
theorem steps_any {w0 : World} (p n gF : Nat) (B : Option Addr) (m c y : Nat) (bs : List Bd) (f : Nat → Int) (vA : Value) (uA : List Value) (w : World) (h : SNet w0 w p n gF B m c bs.length bs f vA uA) (hB : RdSl 3 RBd w0 B m bs) (hbo : BondsOk n bs) (hinv : InvF bs f) (hy : y < n) (hn : n ≤ 100000) (hm : m ≤ 100000) :
    Calls Tryz.prog 144 #[.pointer (some ⟨p, 0, none⟩), .int .i64 (y : Int)] w (StepsRes w n (distTo n (edgeB bs f) y)) := by
  obtain ⟨i1, hi', hz0', hz1', hz2'⟩ := info_parts infoI
  have hN := Lib.hid h
  have hBH := Lib.hid hB
  have hboH := Lib.hid hbo
  have hinvH := Lib.hid hinv
  have k0 := h.c0
  have lp := h.lt
  have hml := Lib.hid hB.len
  clear h hB hbo hinv
  go_enter Tryz.func144, Tryz.ntmps144
  go_wp2
  go_loopg [6, 5] n (fun gk x v wr => ∃ k : Nat, k + gk = n ∧ x = .int .i64 (k : Int) ∧ Hid (wr.ownsRow w.heap.size 2 1 v k (List.replicate k (.int .i64 (-1)))) ∧ Hid (Below w.heap.size w wr))
  case atStart => exact ⟨0, by omega, rfl, Lib.hid (World.ownsRow_made _ _ _ (Nat.le_refl _) (by decide) rfl), Lib.hid (bl_al (bl_refl _) _)⟩
  case round =>
    obtain ⟨k, hk, rfl, hrow, hbw⟩ := hrel
    have hsz := hbw.out.size
    have k1 := (hbw.out.cell (p := ⟨p, 0, none⟩) lp).trans k0
    have lp1 : p < wr.heap.size := by omega
    obtain ⟨A0, c0, rfl⟩ := ownsRow_form hrow.out
    by_cases hkn : k < n
    · go_wp2_with (at_builtin; refine wpList_append_own _ rfl _ _ 33 rfl w.heap.size 2 i1 (.int .i64 0) 1 8 Tryz.underlying33 hi' hz0' hz1' hz2' rfl (by decide) _ k (List.replicate k (.int .i64 (-1))) rfl (hrow.out.alloc _) ⟨wr.heap.size, 0, none⟩ 1 1 [.int .i64 (-1)] rfl rfl (cell_one_new _ _ _) (fun x hx => by simp at hx; subst hx; rfl) (by unfold maxLen; omega) (by omega) (by simp; omega) ?_; intro u3 w3 hown3 hgrow3 _; have hown3H := Lib.hid hown3; have hgrow3H := Lib.hid hgrow3; clear hown3 hgrow3)
      go_roundg (n - (k + 1))
      case measure => omega
      case rel =>
        refine ⟨k + 1, by omega, by go_num, Lib.hid ?_, Lib.hid (hbw.out.trans (below_app hsz (fun g e => (hrow.out.lt g e).1) hgrow3H.out))⟩
        have h3 := hown3H.out
        rw [show [Value.int .i64 (-1)] = List.replicate 1 (Value.int .i64 (-1)) from rfl, List.replicate_append_replicate] at h3
        exact h3
    · obtain rfl : k = n := by omega
      obtain ⟨wa, rfl⟩ : ∃ wa : World, wa = wr := ⟨_, rfl⟩
      obtain ⟨g0, cap0, hv⟩ : ∃ g0 cap0, Value.slice A0 k c0 = .slice (some ⟨g0, 0, none⟩) k cap0 := by
        rcases hrow.out.2 with ⟨_, h0⟩ | ⟨g, cap, cur, hv, _⟩
        · omega
        · exact ⟨g, cap, hv⟩
      injection hv with hv1 hv2 hv3
      subst hv1 hv3
      clear hv2 k0
      have hg0 := (hrow.out.lt g0 rfl)
      obtain ⟨hg1, hg2⟩ := hg0
      have cy := (hrow.out.cellAt y (by omega)).trans (show _ = some (Value.int .i64 (-1)) by rw [List.getElem?_replicate, if_pos hy])
      have fy := hrow.out.frozenAt y
      have hrow1 := (hrow.out.stored y (.int .i64 0)).1
      rw [rowL_start] at hrow1
      have hrow1H := Lib.hid hrow1
      have hbw1 := Lib.hid (hbw.out.setCell (p := ⟨g0, y, none⟩) hg1 (.int .i64 0))
      clear hrow1
      go_wp2
      go_loopg [8, 7] k (fun gk x q wr => ∃ (i : Nat) (L : List Nat) (l : Nat → Option Nat), i + gk = k ∧ x = .int .i64 (i : Int) ∧ Hid (Back k bs f y L l i 0) ∧ i ≤ L.length ∧ Hid (wr.ownsRow w.heap.size 2 1 (.slice (some ⟨g0, 0, none⟩) k c0) k (rowL l k)) ∧ Hid (wr.ownsRow wa.heap.size 2 1 q L.length ((intsI L).map (Value.int .i64))) ∧ Hid (Below w.heap.size w wr) ∧ wa.heap.size ≤ wr.heap.size)
      case atStart =>
        refine ⟨0, [y], _, by omega, rfl, Lib.hid (Back.start hy), by simp, Lib.hid (hrow1H.out.alloc _), Lib.hid ?_, Lib.hid (hbw1.out.alloc (by simp; exact hbw.out.size) _), by simp⟩
        have := World.ownsRow_lit (base := wa.heap.size) (e := 2) (size := 1) (wa.setCell ⟨g0, y, none⟩ (.int .i64 0)) #[.int .i64 (y : Int)] 1 (by simp) (by decide) rfl
        simpa [intsI] using this
      case round =>
        clear hbw1 hrow1H cy fy hbw hrow k1 lp1
        obtain ⟨i, L, l, hi, rfl, hbk, hiL, hrow, hque, hbw, hsz1⟩ := hrel
        have hLn := hbk.out.size
        have lp1 : p < wr.heap.size := by omega
        obtain ⟨Aq, cq, rfl⟩ := ownsRow_form hque.out
        by_cases hil : i < L.length
        · obtain ⟨u, hu⟩ : ∃ u, L[i]? = some u := ⟨_, List.getElem?_eq_getElem hil⟩
          obtain ⟨gq, cq', hvq⟩ : ∃ gq cq', Value.slice Aq L.length cq = .slice (some ⟨gq, 0, none⟩) L.length cq' := by
            rcases hque.out.2 with ⟨_, h0⟩ | ⟨g, cap, cur, hv, _⟩
            · omega
            · exact ⟨g, cap, hv⟩
          injection hvq with hv1 hv2 hv3
          subst hv1 hv3
          have cu := (hque.out.cellAt i (by omega)).trans (show _ = some (Value.int .i64 (u : Int)) by simp [intsI, hu])
          have lq := (hque.out.lt gq rfl).2
          have hun : u < k := hbk.out.lt i u hu
          obtain ⟨N, hNE⟩ : ∃ N, L.length = N := ⟨_, rfl⟩
          rw [hNE] at hil hque hLn hiL ⊢
          have hNH := Lib.hid hNE
          have huH := Lib.hid hu
          obtain ⟨K, hKE⟩ : ∃ K, (incL bs bs.length u).length = K := ⟨_, rfl⟩
          have hKH := Lib.hid hKE
          have hKm : K ≤ m := by
            rw [← hKE, ← hml.out]
            have := List.length_filter_le (incB bs u) (List.range bs.length)
            simpa [incL] using this
          clear hv2 hu hNE hKE
          go_wp2
          go_loopg [10, 7] K (fun gk x q wr => ∃ (t : Nat) (L : List Nat) (l : Nat → Option Nat), t + gk = K ∧ x = .int .i64 (t : Int) ∧ Hid (Back k bs f y L l i t) ∧ Hid (L[i]? = some u) ∧ Hid (wr.ownsRow w.heap.size 2 1 (.slice (some ⟨g0, 0, none⟩) k c0) k (rowL l k)) ∧ Hid (wr.ownsRow wa.heap.size 2 1 q L.length ((intsI L).map (Value.int .i64))) ∧ Hid (Below w.heap.size w wr) ∧ wa.heap.size ≤ wr.heap.size)
          case atStart => exact ⟨0, L, l, by omega, rfl, hbk, huH, hrow, by rw [hNH.out]; exact hque, hbw, hsz1⟩
          case round =>
            clear hbk huH hrow hque hbw hsz1 hLn hiL hil lq cu lp1 hNH
            obtain ⟨t, L, l, ht, rfl, hbk, hu, hrow, hque, hbw, hsz1⟩ := hrel
            have lp1 : p < wr.heap.size := by omega
            have hNw := Lib.hid (hN.out.below hbw.out)
            have k2 := hNw.out.c2
            obtain ⟨gA, cA, A', cA', hvA, lA, cAu, hinc⟩ := hNw.out.inc hun
            rw [hvA] at k2
            rw [hKH.out] at cAu
            have hLn := hbk.out.size
            obtain ⟨Aq, cq, rfl⟩ := ownsRow_form hque.out
            by_cases htK : t < K
            · obtain ⟨b, hb⟩ : ∃ b, (incL bs bs.length u)[t]? = some b := ⟨_, List.getElem?_eq_getElem (by rw [hKH.out]; exact htK)⟩
              obtain ⟨gI, rfl, lI, cI⟩ := hinc t b hb
              obtain ⟨e, he, hinc2⟩ := incL_mem (List.mem_of_getElem? hb)
              have hbm : b < m := by rw [← hml.out]; exact (List.getElem?_eq_some_iff.1 he).1
              have k3 := hNw.out.c1
              obtain ⟨bb, ob, hBe, hbb, hbc⟩ := (hBH.out.below RBd.stable hNw.out.bw).ptr (by omega)
              rw [hBe] at k3
              obtain ⟨e0, e1, e2⟩ := hbc b e he
              have hea := hboH.out.a b e he
              have heb := hboH.out.b b e he
              have hs4 := hboH.out.s b e he
              have hfi := hinvH.out b e he
              obtain ⟨v, hvE⟩ : ∃ v, oth e u = v := ⟨_, rfl⟩
              obtain ⟨r, hrE⟩ : ∃ r, rs e (f b) v = r := ⟨_, rfl⟩
              have hov : oth e v = u := by rw [← hvE]; exact (oth_of_jo (hboH.out.ne b e he) (jo_oth hinc2).2).2
              have hsum : (e.a : Int) + (e.b : Int) - (u : Int) = (v : Int) := by
                rw [← hvE]
                unfold oth
                by_cases h1 : e.a = u
                · rw [if_pos h1]; omega
                · rw [if_neg h1]
                  have := hinc2.resolve_left h1
                  omega
              have hvn : v < k := by
                rw [← hvE]
                unfold oth
                split
                · exact heb
                · exact hea
              have hw1 : IntKind.i64.wrap ((e.a : Int) + (e.b : Int)) = (e.a : Int) + (e.b : Int) := IntWalk.i64_in _ ⟨by omega, by omega⟩
              have hw2 : IntKind.i64.wrap ((e.a : Int) + (e.b : Int) - (u : Int)) = (v : Int) := by rw [IntWalk.i64_in _ ⟨by omega, by omega⟩, hsum]
              have co := (hrow.out.cellAt v (by omega)).trans (rowL_get hvn)
              have fo := hrow.out.frozenAt v
              have lo := (hrow.out.lt g0 rfl).2
              have heH := Lib.hid he
              have hbH := Lib.hid hb
              have hincH := Lib.hid hinc2
              have hvEH := Lib.hid hvE
              have hrEH := Lib.hid hrE
              have hovH := Lib.hid hov
              clear hinc he hb hbc hBe hvA hvE hrE hinc2 hov hsum hea heb
              go_wp2
              refine wp_region_ord [(0, .q), (1, .q), (2, .q), (3, .q), (4, .q), (5, .q), (6, .q), (7, .q), (8, .q), (9, .q), (10, .q), (11, .q), (12, .q), (13, .q), (14, .q), (15, .q), (16, .q), (17, .q), (18, .q), (19, .q)] (by kernel_rfl) (by kernel_rfl) ?_
              simp only [pick, List.filterMap_cons, List.filterMap_nil, List.getElem?_toArray, List.getElem?_cons_zero, List.getElem?_cons_succ, Option.map_some]
              repeat (first | ((with_reducible refine wpD_p (fun K hK => ?_)); go_simp; refine hK _ ?_; clear hK K) | ((with_reducible refine wpD_q (fun K hK => ?_)); go_simp; (first | refine hK _ ?_ | (go_bits; refine hK _ ?_) | (go_bits; go_simp; refine hK _ ?_)); clear hK K))
              with_reducible refine wpD_nil ?_
              by_cases hvL : v ∈ L
              · obtain ⟨d, hd⟩ := (hbk.out.mem v hvn).1 hvL
                rw [show leftI l v = (d : Int) by unfold leftI; rw [hd]] at co
                have hnn : ¬ ((d : Int) < 0) := by omega
                have hnext := Lib.hid (hbk.out.skip hboH.out hu.out hbH.out heH.out (fun _ => by rw [hvEH.out]; exact hvL))
                clear hd
                go_wp2_with (go_at_call 145; refine (room_any p k gF _ m c bs.length v b bs f vA uA e _ (hNw.out.below (by exact bel_)) hBH.out heH.out hs4 hfi hrEH.out hovH.out).mono ?_; rintro x w4 ⟨rfl, hb4⟩; have hb4' := Lib.hid (show Below wr.heap.size wr w4 by exact bel_); have hrow4 := Lib.hid (ownsRow_below hrow.out hb4'.out); have hque4 := Lib.hid (ownsRow_below hque.out hb4'.out); have co4 := (hb4'.out.cell (p := ⟨g0, v, none⟩) lo).trans co; have lo4 := (hrow4.out.lt g0 rfl).2; have hs4' := hb4'.out.size; clear hb4)
                go_roundg (K - (t + 1))
                case measure => omega
                case rel => exact ⟨t + 1, L, l, by omega, by go_num, hnext, hu, hrow4, hque4, Lib.hid (hbw.out.trans (hb4'.out.mono hbw.out.size)), by omega⟩
              · have hln : l v = none := by
                  cases hl : l v with
                  | none => rfl
                  | some d => exact (hvL ((hbk.out.mem v hvn).2 ⟨d, hl⟩)).elim
                rw [show leftI l v = -1 by unfold leftI; rw [hln]] at co
                by_cases hr0 : 0 < r
                · obtain ⟨au, hau⟩ := (hbk.out.mem u hun).1 (List.mem_of_getElem? hu.out)
                  have hnext := Lib.hid (hbk.out.found hboH.out hu.out hau hbH.out heH.out hincH.out (by rw [hvEH.out, hrEH.out]; exact hr0) (by rw [hvEH.out]; exact hvL))
                  rw [hvEH.out] at hnext
                  have cu2 := (hrow.out.cellAt u (by omega)).trans (rowL_get hun)
                  rw [show leftI l u = (au : Int) by unfold leftI; rw [hau]] at cu2
                  have hau2 : au ≤ 100000 := by
                    have h1 := hbk.out.bd i u au hu.out hau
                    have h2 := (List.getElem?_eq_some_iff.1 hu.out).1
                    omega
                  have hauH := Lib.hid hau
                  have hu2 := Lib.hid (show (L ++ [v])[i]? = some u by rw [List.getElem?_append_left (List.getElem?_eq_some_iff.1 hu.out).1]; exact hu.out)
                  obtain ⟨N, hNE⟩ : ∃ N, L.length = N := ⟨_, rfl⟩
                  rw [hNE] at hque hLn ⊢
                  have hNH := Lib.hid hNE
                  clear hln hau hNE
                  go_wp2_with (first
                    | (go_at_call 145; refine (room_any p k gF _ m c bs.length v b bs f vA uA e _ (hNw.out.below (by exact bel_)) hBH.out heH.out hs4 hfi hrEH.out hovH.out).mono ?_; rintro x w4 ⟨rfl, hb4⟩; have hb4' := Lib.hid (show Below wr.heap.size wr w4 by exact bel_); have hrow4 := Lib.hid (ownsRow_below hrow.out hb4'.out); have hque4 := Lib.hid (ownsRow_below hque.out hb4'.out); have co4 := (hb4'.out.cell (p := ⟨g0, v, none⟩) lo).trans co; have cu4 := (hb4'.out.cell (p := ⟨g0, u, none⟩) lo).trans cu2; have fo4 := hrow4.out.frozenAt v; have lo4 := (hrow4.out.lt g0 rfl).2; have hs4' := hb4'.out.size; have hrow5 := Lib.hid ((hrow4.out.stored v (.int .i64 ((au : Int) + 1))).1); have hque5 := Lib.hid (ownsRow_setCell_below hque4.out (a := ⟨g0, v, none⟩) hg2 (.int .i64 ((au : Int) + 1))); have hnews := Lib.hid (show ∀ (j : Nat) (u : Value), [Value.int .i64 (v : Int)][j]? = some u → ((w4.setCell ⟨g0, v, none⟩ (.int .i64 ((au : Int) + 1))).alloc (Obj.cells #[.int .i64 (v : Int)] 2)).cell? ((⟨w4.heap.size, 0, none⟩ : Addr).add j) = some u by have := cell_one_new (w4.setCell ⟨g0, v, none⟩ (.int .i64 ((au : Int) + 1))) (.int .i64 (v : Int)) 2; simpa using this); clear hb4)
                    | (at_builtin; refine wpList_append_own _ rfl _ _ 33 rfl wa.heap.size 2 i1 (.int .i64 0) 1 8 Tryz.underlying33 hi' hz0' hz1' hz2' rfl (by decide) _ N ((intsI L).map (Value.int .i64)) rfl (hque5.out.alloc _) ⟨w4.heap.size, 0, none⟩ 1 1 [.int .i64 (v : Int)] rfl rfl hnews.out (fun x hx => by simp at hx; subst hx; rfl) (by unfold maxLen; omega) (by omega) (by simp; omega) ?_; intro u6 w6 hown6 hgrow6 _; have hown6H := Lib.hid hown6; have hgrow6H := Lib.hid hgrow6; clear hown6 hgrow6))
                  go_roundg (K - (t + 1))
                  case measure => omega
                  case rel =>
                    have hb6 := below_app (W := w4.setCell ⟨g0, v, none⟩ (.int .i64 ((au : Int) + 1))) (B0 := wa.heap.size) (by simp; omega) (fun g e => (hque5.out.lt g e).1) hgrow6H.out
                    have h6s := hb6.size
                    simp at h6s
                    refine ⟨t + 1, L ++ [v], _, by omega, by go_num, hnext, hu2, Lib.hid ?_, Lib.hid ?_, Lib.hid ?_, by omega⟩
                    · have h5 := ownsRow_grown hrow5.out (w' := w6) (fun b hb => by
                        have hb2 : some g0 = some b := hb
                        injection hb2 with hb3
                        rw [← hb3]
                        exact hb6.block _ hg2)
                      rw [show ((au : Int) + 1) = ((au + 1 : Nat) : Int) by omega, rowL_set] at h5
                      exact h5
                    · rw [List.length_append, hNH.out]
                      have h6 := hown6H.out
                      simpa [intsI] using h6
                    · exact ((hbw.out.trans (hb4'.out.mono hbw.out.size)).setCell (p := ⟨g0, v, none⟩) hg1 _).trans (hb6.mono (by omega))
                · have hnr : ¬ (0 < r) := hr0
                  have hnext := Lib.hid (hbk.out.skip hboH.out hu.out hbH.out heH.out (fun h => by rw [hvEH.out, hrEH.out] at h; exact (hr0 h).elim))
                  clear hln
                  go_wp2_with (go_at_call 145; refine (room_any p k gF _ m c bs.length v b bs f vA uA e _ (hNw.out.below (by exact bel_)) hBH.out heH.out hs4 hfi hrEH.out hovH.out).mono ?_; rintro x w4 ⟨rfl, hb4⟩; have hb4' := Lib.hid (show Below wr.heap.size wr w4 by exact bel_); have hrow4 := Lib.hid (ownsRow_below hrow.out hb4'.out); have hque4 := Lib.hid (ownsRow_below hque.out hb4'.out); have co4 := (hb4'.out.cell (p := ⟨g0, v, none⟩) lo).trans co; have lo4 := (hrow4.out.lt g0 rfl).2; have hs4' := hb4'.out.size; clear hb4)
                  go_roundg (K - (t + 1))
                  case measure => omega
                  case rel => exact ⟨t + 1, L, l, by omega, by go_num, hnext, hu, hrow4, hque4, Lib.hid (hbw.out.trans (hb4'.out.mono hbw.out.size)), by omega⟩
            · obtain rfl : t = K := by omega
              have hdone := Lib.hid (Back.done (u := u) (by rw [hKH.out]; exact hbk.out) hu.out)
              have hil := (List.getElem?_eq_some_iff.1 hu.out).1
              go_wp2
              go_roundg (k - (i + 1))
              case measure => omega
              case rel => exact ⟨i + 1, L, l, by omega, by go_num, hdone, by omega, hrow, hque, hbw, hsz1⟩
        · obtain rfl : i = L.length := by omega
          have hdist := Lib.hid (hbk.out.dist hy)
          go_wp2
          go_ret
          refine ⟨g0, c0, rfl, ?_, hbw.out⟩
          rw [← rowL_congr hdist.out]
          exact hrow.out
end Go.Proofs.YtmhgjgclclnmaaaGreat
/- Plain facts: the choice of the next bond on the way. -/

namespace Go.Proofs.YtmhgjgclclnmaaaGreat
/-- bond b leads with room from u to t, which is d steps off -/
def Qual (bs : List Bd) (f : Nat → Int) (dist : Nat → Option Nat) (u d b t : Nat) : Prop := ∃ e, bs[b]? = some e ∧ (e.a = u ∨ e.b = u) ∧ oth e u = t ∧ 0 < rs e (f b) u ∧ dist t = some d
/-- the least point so far, with the first bond to it -/
def Best (Q : Nat → Nat → Prop) (inc : List Nat) (k : Nat) : Option (Nat × Nat) → Prop
  | none => ∀ (j b t : Nat), j < k → inc[j]? = some b → ¬ Q b t
  | some (m, i) => Q i m ∧ ∀ (j b t : Nat), j < k → inc[j]? = some b → Q b t → m < t ∨ (m = t ∧ i ≤ b)
theorem Best.start (Q : Nat → Nat → Prop) (inc : List Nat) : Best Q inc 0 none := fun j b t h => by omega
theorem Best.skip {Q : Nat → Nat → Prop} {inc : List Nat} {k b : Nat} {c : Option (Nat × Nat)} (h : Best Q inc k c) (hb : inc[k]? = some b) (hq : ∀ t, ¬ Q b t) : Best Q inc (k + 1) c := by
  cases c with
  | none =>
    intro j b' t hj hb' hQ
    rcases Nat.lt_succ_iff_lt_or_eq.1 hj with hj | rfl
    · exact h j b' t hj hb' hQ
    · rw [hb] at hb'
      obtain rfl := Option.some.inj hb'
      exact hq t hQ
  | some c =>
    obtain ⟨m, i⟩ := c
    refine ⟨h.1, fun j b' t hj hb' hQ => ?_⟩
    rcases Nat.lt_succ_iff_lt_or_eq.1 hj with hj | rfl
    · exact h.2 j b' t hj hb' hQ
    · rw [hb] at hb'
      obtain rfl := Option.some.inj hb'
      exact (hq t hQ).elim
/-- not less than the least so far -/
theorem Best.keep {Q : Nat → Nat → Prop} {inc : List Nat} {k b t m i : Nat} (h : Best Q inc k (some (m, i))) (hb : inc[k]? = some b) (hq : Q b t) (hu : ∀ t', Q b t' → t' = t) (ht : ¬ t < m) (hi : i ≤ b) : Best Q inc (k + 1) (some (m, i)) := by
  refine ⟨h.1, fun j b' t' hj hb' hQ => ?_⟩
  rcases Nat.lt_succ_iff_lt_or_eq.1 hj with hj | rfl
  · exact h.2 j b' t' hj hb' hQ
  · rw [hb] at hb'
    obtain rfl := Option.some.inj hb'
    rw [hu t' hQ]
    omega
theorem Best.take {Q : Nat → Nat → Prop} {inc : List Nat} {k b t : Nat} {c : Option (Nat × Nat)} (h : Best Q inc k c) (hb : inc[k]? = some b) (hq : Q b t) (hu : ∀ t', Q b t' → t' = t) (hc : ∀ m i, c = some (m, i) → t < m) : Best Q inc (k + 1) (some (t, b)) := by
  refine ⟨hq, fun j b' t' hj hb' hQ => ?_⟩
  rcases Nat.lt_succ_iff_lt_or_eq.1 hj with hj | rfl
  · cases c with
    | none => exact (h j b' t' hj hb' hQ).elim
    | some c =>
      obtain ⟨m, i⟩ := c
      have := hc m i rfl
      rcases h.2 j b' t' hj hb' hQ with h1 | ⟨h1, _⟩
      · exact .inl (by omega)
      · exact .inl (by omega)
  · rw [hb] at hb'
    obtain rfl := Option.some.inj hb'
    rw [hu t' hQ]
    exact .inr ⟨rfl, Nat.le_refl _⟩
theorem Qual.uniq {bs : List Bd} {f : Nat → Int} {dist : Nat → Option Nat} {u d b t t' : Nat} (h : Qual bs f dist u d b t) (h' : Qual bs f dist u d b t') : t' = t := by
  obtain ⟨e, he, _, h1, _⟩ := h
  obtain ⟨e', he', _, h2, _⟩ := h'
  rw [he] at he'
  obtain rfl := Option.some.inj he'
  rw [← h1, ← h2]
theorem filter_range_sorted (p : Nat → Bool) : ∀ (n : Nat) (j k a b : Nat), j < k → ((List.range n).filter p)[j]? = some a → ((List.range n).filter p)[k]? = some b → a < b := by
  intro n
  induction n with
  | zero => intro j k a b _ h; simp at h
  | succ n ih =>
    intro j k a b hjk ha hb
    rw [List.range_succ, List.filter_append] at ha hb
    by_cases hp : p n = true
    · simp only [List.filter_cons, hp, if_true, List.filter_nil] at ha hb
      rcases get_snoc hb with ⟨_, hb⟩ | ⟨rfl, rfl⟩
      · rcases get_snoc ha with ⟨_, ha⟩ | ⟨rfl, _⟩
        · exact ih j k a b hjk ha hb
        · omega
      · rcases get_snoc ha with ⟨_, ha⟩ | ⟨rfl, _⟩
        · have := List.mem_of_getElem? ha
          simp at this
          omega
        · omega
    · have hp' : p n = false := by simpa using hp
      simp only [List.filter_cons, hp', List.filter_nil] at ha hb
      simp at ha hb
      exact ih j k a b hjk (by simpa using ha) (by simpa using hb)
theorem incL_sorted {bs : List Bd} {u j k a b : Nat} (h : j < k) (ha : (incL bs bs.length u)[j]? = some a) (hb : (incL bs bs.length u)[k]? = some b) : a < b := filter_range_sorted _ _ j k a b h ha hb
/-- the best so far is an earlier bond -/
theorem Best.le {bs : List Bd} {f : Nat → Int} {dist : Nat → Option Nat} {u d k b m i : Nat} (hi : i ∈ (incL bs bs.length u).take k) (hb : (incL bs bs.length u)[k]? = some b) : i ≤ b := by
  obtain ⟨j, hj⟩ := List.mem_iff_getElem?.1 hi
  rw [List.getElem?_take] at hj
  split at hj
  · rename_i hjk
    exact Nat.le_of_lt (incL_sorted hjk hj hb)
  · cases hj
/-- at the end: the next point of the way, and the bond that a unit is pushed over -/
theorem best_end {n : Nat} {bs : List Bd} (hb : BondsOk n bs) {f : Nat → Int} {x y D j u v : Nat} {W : List Nat} {c : Option (Nat × Nat)} (hx : x < n) (hD : distTo n (edgeB bs f) y x = some D) (hW : W = wayL n (edgeB bs f) y D x) (hu : W[j]? = some u) (hv : W[j + 1]? = some v)
    (h : Best (Qual bs (augK bs f W j) (distTo n (edgeB bs f) y) u (D - j - 1)) (incL bs bs.length u) (incL bs bs.length u).length c) : ∃ i, c = some (v, i) ∧ firstB bs (augK bs f W j) u v = some i := by
  subst hW
  obtain ⟨hun, _, hdu, hnx⟩ := wayL_spec D x hx hD j u hu
  obtain ⟨hE, hmin⟩ := hnx v hv
  obtain ⟨hvn, hj1, hdv, _⟩ := wayL_spec D x hx hD (j + 1) v hv
  have hdv' : distTo n (edgeB bs f) y v = some (D - j - 1) := by rw [hdv]; congr 1
  have hjD : j < D := by omega
  have hstep := (augK_step hx hD hu hv).2
  obtain ⟨b, e, he, hjo, hr⟩ := edgeB_true.1 hstep
  have hinc : e.a = u ∨ e.b = u := by
    simp only [jo, decide_eq_true_eq] at hjo
    rcases hjo with h | h
    · exact .inl h.1
    · exact .inr h.2
  have hq : Qual bs (augK bs f (wayL n (edgeB bs f) y D x) j) (distTo n (edgeB bs f) y) u (D - j - 1) b v := ⟨e, he, hinc, (oth_of_jo (hb.ne b e he) hjo).1, hr, hdv'⟩
  obtain ⟨k, hk⟩ := List.mem_iff_getElem?.1 (mem_incL he hinc)
  have hkl := (List.getElem?_eq_some_iff.1 hk).1
  cases c with
  | none => exact (h k b v hkl hk hq).elim
  | some c =>
    obtain ⟨m, i⟩ := c
    obtain ⟨⟨e', he', hinc', hot', hr', hd'⟩, hall⟩ := h
    have hjo' := (jo_oth hinc').2
    rw [hot'] at hjo'
    have hEm : edgeB bs f u m = true := by
      rw [← augK_edge hx hD hu hd' hjD]
      exact edgeB_true.2 ⟨i, e', he', hjo', hr'⟩
    have hmv : m = v := by
      have h1 : ¬ m < v := fun hlt => hmin m hlt hEm hd'
      rcases hall k b v hkl hk hq with h2 | ⟨h2, _⟩ <;> omega
    subst hmv
    refine ⟨i, rfl, firstB_some.2 ⟨(List.getElem?_eq_some_iff.1 he').1, ?_, fun b' hb' => ?_⟩⟩
    · rw [hitB_eq he']
      simp [hjo', hr']
    · cases hh : hitB bs (augK bs f (wayL n (edgeB bs f) y D x) j) u m b' with
      | false => rfl
      | true =>
        exfalso
        have hbl : b' < bs.length := by have := (List.getElem?_eq_some_iff.1 he').1; omega
        have he2 := List.getElem?_eq_getElem hbl
        rw [hitB_eq he2] at hh
        simp only [Bool.and_eq_true, decide_eq_true_eq] at hh
        have hinc2 : bs[b'].a = u ∨ bs[b'].b = u := by
          have h3 := hh.1
          simp only [jo, decide_eq_true_eq] at h3
          rcases h3 with h | h
          · exact .inl h.1
          · exact .inr h.2
        obtain ⟨k2, hk2⟩ := List.mem_iff_getElem?.1 (mem_incL he2 hinc2)
        have := hall k2 b' m (List.getElem?_eq_some_iff.1 hk2).1 hk2 ⟨_, he2, hinc2, (oth_of_jo (hb.ne b' _ he2) hh.1).1, hh.2, hd'⟩
        omega
end Go.Proofs.YtmhgjgclclnmaaaGreat
/- Walks: the reference sends one unit more. -/


namespace Go.Proofs.YtmhgjgclclnmaaaGreat
open Go.RowKit Go.Shelf
attribute [local go_sem] BelowBy.cell BelowBy.cell_drew stillUpon givesUpon BelowBy.cell_drew2 BelowBy.cell_drew3

def bestT : Option (Nat × Nat) → Int
  | none => -1
  | some (m, _) => (m : Int)
def bestB : Option (Nat × Nat) → Int
  | none => 0
  | some (_, i) => (i : Int)
@[local go_sem] theorem bestT_none : bestT none = -1 := rfl
@[local go_sem] theorem bestT_some (m i : Nat) : bestT (some (m, i)) = (m : Int) := rfl
theorem leftI_some {l : Nat → Option Nat} {v d : Nat} (h : leftI l v = (d : Int)) : l v = some d := by
  unfold leftI at h
  cases hl : l v with
  | none => rw [hl] at h; exfalso; have h' : (-1 : Int) = (d : Int) := h; omega
  | some x => rw [hl] at h; have h' : (x : Int) = (d : Int) := h; congr 1; omega
def GrowRes (w0 : World) (p n gF : Nat) (B : Option Addr) (m c : Nat) (bs : List Bd) (f : Nat → Int) (vA : Value) (uA : List Value) (x y : Nat) (e : Ending) (w' : World) : Prop := match wayTo n (edgeB bs f) x y with
  | none => e = .returned (.bool false) ∧ SNet w0 w' p n gF B m c bs.length bs f vA uA
  | some W => e = .returned (.bool true) ∧ SNet w0 w' p n gF B m c bs.length bs (augK bs f W (W.length - 1)) vA uA
set_option maxRecDepth 100000 in
set_option maxHeartbeats 4000000 in
theorem grow_any {w0 : World} (p n gF : Nat) (B : Option Addr) (m c x y : Nat) (bs : List Bd) (f : Nat → Int) (vA : Value) (uA : List Value) (w : World) (h : SNet w0 w p n gF B m c bs.length bs f vA uA) (hB : RdSl 3 RBd w0 B m bs) (hbo : BondsOk n bs) (hinv : InvF bs f) (hx : x < n) (hy : y < n) (hn : n ≤ 100000) (hm : m ≤ 100000) :
    Calls Tryz.prog 98 #[.pointer (some ⟨p, 0, none⟩), .int .i64 (x : Int), .int .i64 (y : Int)] w (GrowRes w0 p n gF B m c bs f vA uA x y) := by
  have hN := Lib.hid h
  have hBH := Lib.hid hB
  have hboH := Lib.hid hbo
  have hinvH := Lib.hid hinv
  have lp := h.lt
  have lg := h.fl.lt
  have hml := Lib.hid hB.len
  clear h hB hbo hinv
  cases hd : distTo n (edgeB bs f) y x with
  | none =>
    have hw : wayTo n (edgeB bs f) x y = none := by unfold wayTo; rw [hd]; rfl
    rw [show GrowRes w0 p n gF B m c bs f vA uA x y = fun e w' => e = .returned (.bool false) ∧ SNet w0 w' p n gF B m c bs.length bs f vA uA by funext e w'; unfold GrowRes; rw [hw]]
    have hdI := Lib.hid (show leftI (distTo n (edgeB bs f) y) x = -1 by unfold leftI; rw [hd])
    clear hd hw
    go_enter Tryz.func98, Tryz.ntmps98
    go_wp2_with (go_at_call 144; refine (steps_any p n gF B m c y bs f vA uA _ hN.out hBH.out hboH.out hinvH.out hy hn hm).mono ?_; rintro e w1 ⟨g, cg, rfl, hrow, hb1⟩; have hrowH := Lib.hid hrow; have hb1H := Lib.hid hb1; have cx := (hrow.cellAt x (by omega)).trans (rowL_get hx); rw [hdI.out] at cx; have lx := (hrow.lt g rfl).2; clear hrow hb1)
    go_ret
    exact ⟨rfl, hN.out.below hb1H.out⟩
  | some D =>
    have hw : wayTo n (edgeB bs f) x y = some (wayL n (edgeB bs f) y D x) := by unfold wayTo; rw [hd]; rfl
    obtain ⟨W, hW⟩ : ∃ W, W = wayL n (edgeB bs f) y D x := ⟨_, rfl⟩
    have hWl : W.length = D + 1 := by rw [hW, wayL_len]
    have hDn := wayL_short hx hd
    rw [show GrowRes w0 p n gF B m c bs f vA uA x y = fun e w' => e = .returned (.bool true) ∧ SNet w0 w' p n gF B m c bs.length bs (augK bs f W D) vA uA by funext e w'; unfold GrowRes; rw [hw, ← hW]; dsimp only; rw [hWl, Nat.add_sub_cancel]]
    have hdI := Lib.hid (show leftI (distTo n (edgeB bs f) y) x = (D : Int) by unfold leftI; rw [hd])
    have hWH := Lib.hid hW
    have hWlH := Lib.hid hWl
    have hdH := Lib.hid hd
    have hW0 := Lib.hid (show W[0]? = some x by rw [hW, wayL_head])
    clear hd hw hW hWl
    go_enter Tryz.func98, Tryz.ntmps98
    go_wp2_with (go_at_call 144; refine (steps_any p n gF B m c y bs f vA uA _ hN.out hBH.out hboH.out hinvH.out hy hn hm).mono ?_; rintro e w1 ⟨g, cg, rfl, hrow, hb1⟩; have hrowH := Lib.hid hrow; have hb1H := Lib.hid hb1; have cx := (hrow.cellAt x (by omega)).trans (rowL_get hx); rw [hdI.out] at cx; have lx := (hrow.lt g rfl); clear hrow hb1)
    obtain ⟨lx1, lx2⟩ := lx
    have hN1 := Lib.hid (hN.out.below hb1H.out)
    go_loopg [8] D (fun gk a wr => ∃ (j u : Nat), j + gk = D ∧ a = .int .i64 (u : Int) ∧ Hid (W[j]? = some u) ∧ Hid (SNet w0 wr p n gF B m c bs.length bs (augK bs f W j) vA uA) ∧ Hid (wr.ownsRow w.heap.size 2 1 (.slice (some ⟨g, 0, none⟩) n cg) n (rowL (distTo n (edgeB bs f) y) n)))
    case atStart => exact ⟨0, x, by omega, rfl, hW0, hN1, hrowH⟩
    case round =>
      clear cx hN1 hrowH lx2
      obtain ⟨j, u, hj, rfl, hu, hS, hrow⟩ := hrel
      have hu2 := hu.out
      rw [hWH.out] at hu2
      obtain ⟨hun, _, hdu, _⟩ := wayL_spec D x hx hdH.out j u hu2
      by_cases hjD : j < D
      · obtain ⟨v, hv⟩ : ∃ v, W[j + 1]? = some v := ⟨_, List.getElem?_eq_getElem (by have := hWlH.out; omega)⟩
        have hvH := Lib.hid hv
        have huy : ((u : Int) != (y : Int)) = true := by
          have : u ≠ y := fun e => by
            rw [e, distTo_goal] at hdu
            injection hdu with hdu
            omega
          simp; omega
        obtain ⟨K, hKE⟩ : ∃ K, (incL bs bs.length u).length = K := ⟨_, rfl⟩
        have hKH := Lib.hid hKE
        have hKm : K ≤ m := by
          rw [← hKE, ← hml.out]
          have := List.length_filter_le (incB bs u) (List.range bs.length)
          simpa [incL] using this
        have hduH := Lib.hid hdu
        have cinv := Lib.hid (augK_inv hinvH.out (W := W) j)
        have hend := Lib.hid (fun c hc => best_end hboH.out hx hdH.out hWH.out hu.out hv (c := c) hc)
        obtain ⟨cf, hcf⟩ : ∃ cf, augK bs f W j = cf := ⟨_, rfl⟩
        rw [hcf] at hS cinv hend
        have hcfH := Lib.hid hcf
        clear hv hKE hdu hu2 hcf
        go_wp2
        go_loopg [9, 10, 11] K (fun gk nx bx tx wr => ∃ (t : Nat) (bc : Option (Nat × Nat)), t + gk = K ∧ tx = .int .i64 (t : Int) ∧ nx = .int .i64 (bestT bc) ∧ bx = .int .i64 (bestB bc) ∧ Hid (Best (Qual bs cf (distTo n (edgeB bs f) y) u (D - j - 1)) (incL bs bs.length u) t bc) ∧ Hid (∀ m i, bc = some (m, i) → ∃ j', j' < t ∧ (incL bs bs.length u)[j']? = some i) ∧ Hid (SNet w0 wr p n gF B m c bs.length bs cf vA uA) ∧ Hid (wr.ownsRow w.heap.size 2 1 (.slice (some ⟨g, 0, none⟩) n cg) n (rowL (distTo n (edgeB bs f) y) n)))
        case atStart => exact ⟨0, none, by omega, rfl, rfl, rfl, Lib.hid (Best.start _ _), Lib.hid (fun m i e => by cases e), hS, hrow⟩
        case round =>
          clear hS hrow
          obtain ⟨t, bc, ht, rfl, rfl, rfl, hbest, hpast, hS, hrow⟩ := hrel
          have k2 := hS.out.c2
          have lp2 := hS.out.lt
          obtain ⟨gA, cA, A', cA', hvA, lA, cAu, hinc⟩ := hS.out.inc hun
          rw [hvA] at k2
          rw [hKH.out] at cAu
          by_cases htK : t < K
          · obtain ⟨b, hb⟩ : ∃ b, (incL bs bs.length u)[t]? = some b := ⟨_, List.getElem?_eq_getElem (by rw [hKH.out]; exact htK)⟩
            obtain ⟨gI, rfl, lI, cI⟩ := hinc t b hb
            obtain ⟨e, he, hinc2⟩ := incL_mem (List.mem_of_getElem? hb)
            have hs4 := hboH.out.s b e he
            have hfi := cinv.out b e he
            obtain ⟨v', hvE⟩ : ∃ v', oth e u = v' := ⟨_, rfl⟩
            obtain ⟨r, hrE⟩ : ∃ r, rs e (cf b) u = r := ⟨_, rfl⟩
            have hvn : v' < n := by
              rw [← hvE]
              unfold oth
              split
              · exact hboH.out.b b e he
              · exact hboH.out.a b e he
            have heH := Lib.hid he
            have hbH := Lib.hid hb
            have hincH := Lib.hid hinc2
            have hvEH := Lib.hid hvE
            have hrEH := Lib.hid hrE
            clear hinc he hb hvA hvE hrE hinc2
            go_upto_region 12 with (go_at_call 145; refine (room_any p n gF _ m c bs.length u b bs cf vA uA e _ (hS.out.below (by exact bel_)) hBH.out heH.out hs4 hfi hrEH.out hvEH.out).mono ?_; rintro x w4 ⟨rfl, hb4⟩; have hb4H := Lib.hid hb4; clear hb4)
            have hS4 := Lib.hid (hS.out.below hb4H.out)
            have hrow4 := Lib.hid (ownsRow_below hrow.out hb4H.out)
            have cv := (hrow4.out.cellAt v' (by omega)).trans (rowL_get hvn)
            have cu := (hrow4.out.cellAt u (by omega)).trans (rowL_get hun)
            rw [show leftI (distTo n (edgeB bs f) y) u = ((D - j : Nat) : Int) by unfold leftI; rw [hduH.out]] at cu
            have lr4 := (hrow4.out.lt g rfl).2
            have hs4' := hb4H.out.size
            have k4 := (hb4H.out.cell (p := ⟨p, 2, none⟩) lp2).trans k2
            have cA4 := (hb4H.out.cell (p := ⟨gA, u, none⟩) lA).trans cAu
            have cI4 := (hb4H.out.cell (p := ⟨gI, t, none⟩) lI).trans cI
            have lp4 : p < w4.heap.size := by omega
            have lA4 : gA < w4.heap.size := by omega
            have lI4 : gI < w4.heap.size := by omega
            have hw1 : IntKind.i64.wrap (((D - j : Nat) : Int) - 1) = ((D - j - 1 : Nat) : Int) := by rw [IntWalk.i64_in _ ⟨by omega, by omega⟩]; omega
            have hDj1 : D - j - 1 ≤ 100000 := by omega
            obtain ⟨X, hX⟩ : ∃ X, D - j = X := ⟨_, rfl⟩
            obtain ⟨Y, hY⟩ : ∃ Y, D - j - 1 = Y := ⟨_, rfl⟩
            rw [hX] at cu hw1
            rw [hX] at hY
            have hbl := Lib.hid (fun m i (hc : bc = some (m, i)) => by obtain ⟨j', hj', hb'⟩ := hpast.out m i hc; exact Nat.le_of_lt (incL_sorted hj' hb' hbH.out))
            have hYH := Lib.hid (show D - j - 1 = Y by omega)
            have hbest1 := hbest
            by_cases hr0 : 0 < r
            · by_cases hl : leftI (distTo n (edgeB bs f) y) v' = (Y : Int)
              · have hdv : distTo n (edgeB bs f) y v' = some (D - j - 1) := by rw [hYH.out]; exact leftI_some hl
                have hq : Qual bs cf (distTo n (edgeB bs f) y) u (D - j - 1) b v' := ⟨e, heH.out, hincH.out, hvEH.out, by rw [hrEH.out]; exact hr0, hdv⟩
                have hqH := Lib.hid hq
                rw [hl] at cv
                clear hdv hq hl
                cases bc with
                | none =>
                  have hnext := Lib.hid (hbest.out.take hbH.out hqH.out (fun t' h => hqH.out.uniq h) (fun m i hc => by cases hc))
                  clear hbl hpast hbest1
                  refine wp_region_ord [(0, .q), (1, .q), (2, .q), (3, .q), (4, .q), (5, .q), (6, .q), (7, .q), (8, .q), (9, .q), (10, .q), (11, .q), (12, .q), (13, .q), (14, .q), (15, .q), (16, .q), (17, .q), (18, .q), (19, .q), (20, .q), (21, .q), (22, .q)] (by kernel_rfl) (by kernel_rfl) ?_
                  simp only [pick, List.filterMap_cons, List.filterMap_nil, List.getElem?_toArray, List.getElem?_cons_zero, List.getElem?_cons_succ, Option.map_some]
                  repeat (first | ((with_reducible refine wpD_p (fun K hK => ?_)); go_simp; refine hK _ ?_; clear hK K) | ((with_reducible refine wpD_q (fun K hK => ?_)); go_simp; (first | refine hK _ ?_ | (go_bits; refine hK _ ?_) | (go_bits; go_simp; refine hK _ ?_)); clear hK K))
                  with_reducible refine wpD_nil ?_
                  go_wp2
                  go_roundg (K - (t + 1))
                  case measure => omega
                  case rel => exact ⟨t + 1, some (v', b), by omega, by go_num, rfl, rfl, hnext, Lib.hid (fun m i hc => by obtain ⟨rfl, rfl⟩ := Prod.mk.inj (Option.some.inj hc); exact ⟨t, by omega, hbH.out⟩), Lib.hid (hS4.out.below (by exact bel_)), Lib.hid (ownsRow_below hrow4.out (by exact bel_))⟩
                | some mi =>
                  obtain ⟨m', i⟩ := mi
                  have hm0 : ¬ ((m' : Int) < 0) := by omega
                  by_cases hlt0 : v' < m'
                  · have hlt : (v' : Int) < (m' : Int) := by omega
                    have hnext := Lib.hid (hbest.out.take hbH.out hqH.out (fun t' h => hqH.out.uniq h) (fun m i hc => by obtain ⟨rfl, rfl⟩ := Prod.mk.inj (Option.some.inj hc); exact hlt0))
                    clear hbl hpast hbest1
                    refine wp_region_ord [(0, .q), (1, .q), (2, .q), (3, .q), (4, .q), (5, .q), (6, .q), (7, .q), (8, .q), (9, .q), (10, .q), (11, .q), (12, .q), (13, .q), (14, .q), (15, .q), (16, .q), (17, .q), (18, .q), (19, .q), (20, .q), (21, .q), (22, .q)] (by kernel_rfl) (by kernel_rfl) ?_
                    simp only [pick, List.filterMap_cons, List.filterMap_nil, List.getElem?_toArray, List.getElem?_cons_zero, List.getElem?_cons_succ, Option.map_some]
                    repeat (first | ((with_reducible refine wpD_p (fun K hK => ?_)); go_simp; refine hK _ ?_; clear hK K) | ((with_reducible refine wpD_q (fun K hK => ?_)); go_simp; (first | refine hK _ ?_ | (go_bits; refine hK _ ?_) | (go_bits; go_simp; refine hK _ ?_)); clear hK K))
                    with_reducible refine wpD_nil ?_
                    go_wp2
                    go_roundg (K - (t + 1))
                    case measure => omega
                    case rel => exact ⟨t + 1, some (v', b), by omega, by go_num, rfl, rfl, hnext, Lib.hid (fun m i hc => by obtain ⟨rfl, rfl⟩ := Prod.mk.inj (Option.some.inj hc); exact ⟨t, by omega, hbH.out⟩), Lib.hid (hS4.out.below (by exact bel_)), Lib.hid (ownsRow_below hrow4.out (by exact bel_))⟩
                  · have hlt : ¬ ((v' : Int) < (m' : Int)) := by omega
                    have hnext := Lib.hid (hbest.out.keep hbH.out hqH.out (fun t' h => hqH.out.uniq h) hlt0 (hbl.out m' i rfl))
                    clear hbl hbest1
                    refine wp_region_ord [(0, .q), (1, .q), (2, .q), (3, .q), (4, .q), (5, .q), (6, .q), (7, .q), (8, .q), (9, .q), (10, .q), (11, .q), (12, .q), (13, .q), (14, .q), (15, .q), (16, .q), (17, .q), (18, .q), (19, .q), (20, .q), (21, .q), (22, .q)] (by kernel_rfl) (by kernel_rfl) ?_
                    simp only [pick, List.filterMap_cons, List.filterMap_nil, List.getElem?_toArray, List.getElem?_cons_zero, List.getElem?_cons_succ, Option.map_some]
                    repeat (first | ((with_reducible refine wpD_p (fun K hK => ?_)); go_simp; refine hK _ ?_; clear hK K) | ((with_reducible refine wpD_q (fun K hK => ?_)); go_simp; (first | refine hK _ ?_ | (go_bits; refine hK _ ?_) | (go_bits; go_simp; refine hK _ ?_)); clear hK K))
                    with_reducible refine wpD_nil ?_
                    go_wp2
                    go_roundg (K - (t + 1))
                    case measure => omega
                    case rel => exact ⟨t + 1, some (m', i), by omega, by go_num, rfl, rfl, hnext, Lib.hid (fun m i hc => by obtain ⟨j', hj', hb'⟩ := hpast.out m i hc; exact ⟨j', by omega, hb'⟩), Lib.hid (hS4.out.below (by exact bel_)), Lib.hid (ownsRow_below hrow4.out (by exact bel_))⟩
              · have hnext := Lib.hid (hbest.out.skip hbH.out (fun t' ⟨e', he', _, h3, _, h5⟩ => by rw [heH.out] at he'; obtain rfl := Option.some.inj he'; rw [hvEH.out] at h3; subst h3; rw [hYH.out] at h5; exact hl (by unfold leftI; rw [h5])))
                obtain ⟨lv, hlv⟩ : ∃ lv, leftI (distTo n (edgeB bs f) y) v' = lv := ⟨_, rfl⟩
                rw [hlv] at cv hl
                have hlb : (lv == (Y : Int)) = false := by simp; exact hl
                clear hlv
                refine wp_region_ord [(0, .q), (1, .q), (2, .q), (3, .q), (4, .q), (5, .q), (6, .q), (7, .q), (8, .q), (9, .q), (10, .q), (11, .q), (12, .q), (13, .q), (14, .q), (15, .q), (16, .q), (17, .q), (18, .q), (19, .q), (20, .q), (21, .q), (22, .q)] (by kernel_rfl) (by kernel_rfl) ?_
                simp only [pick, List.filterMap_cons, List.filterMap_nil, List.getElem?_toArray, List.getElem?_cons_zero, List.getElem?_cons_succ, Option.map_some]
                repeat (first | ((with_reducible refine wpD_p (fun K hK => ?_)); go_simp; refine hK _ ?_; clear hK K) | ((with_reducible refine wpD_q (fun K hK => ?_)); go_simp; (first | refine hK _ ?_ | (go_bits; refine hK _ ?_) | (go_bits; go_simp; refine hK _ ?_)); clear hK K))
                with_reducible refine wpD_nil ?_
                go_wp2
                go_roundg (K - (t + 1))
                case measure => omega
                case rel => exact ⟨t + 1, bc, by omega, by go_num, rfl, rfl, hnext, Lib.hid (fun m i hc => by obtain ⟨j', hj', hb'⟩ := hpast.out m i hc; exact ⟨j', by omega, hb'⟩), Lib.hid (hS4.out.below (by exact bel_)), Lib.hid (ownsRow_below hrow4.out (by exact bel_))⟩
            · have hnr : ¬ (0 < r) := hr0
              have hnext := Lib.hid (hbest.out.skip hbH.out (fun t' ⟨e', he', _, _, h4, _⟩ => by rw [heH.out] at he'; obtain rfl := Option.some.inj he'; rw [hrEH.out] at h4; exact hr0 h4))
              refine wp_region_ord [(0, .q), (1, .q), (2, .q), (3, .q), (4, .q), (5, .q), (6, .q), (7, .q), (8, .q), (9, .q), (10, .q), (11, .q), (12, .q), (13, .q), (14, .q), (15, .q), (16, .q), (17, .q), (18, .q), (19, .q), (20, .q), (21, .q), (22, .q)] (by kernel_rfl) (by kernel_rfl) ?_
              simp only [pick, List.filterMap_cons, List.filterMap_nil, List.getElem?_toArray, List.getElem?_cons_zero, List.getElem?_cons_succ, Option.map_some]
              repeat (first | ((with_reducible refine wpD_p (fun K hK => ?_)); go_simp; refine hK _ ?_; clear hK K) | ((with_reducible refine wpD_q (fun K hK => ?_)); go_simp; (first | refine hK _ ?_ | (go_bits; refine hK _ ?_) | (go_bits; go_simp; refine hK _ ?_)); clear hK K))
              with_reducible refine wpD_nil ?_
              go_wp2
              go_roundg (K - (t + 1))
              case measure => omega
              case rel => exact ⟨t + 1, bc, by omega, by go_num, rfl, rfl, hnext, Lib.hid (fun m i hc => by obtain ⟨j', hj', hb'⟩ := hpast.out m i hc; exact ⟨j', by omega, hb'⟩), Lib.hid (hS4.out.below (by exact bel_)), Lib.hid (ownsRow_below hrow4.out (by exact bel_))⟩
          · obtain rfl : t = K := by omega
            obtain ⟨i, rfl, hfst⟩ := hend.out bc (by rw [hKH.out]; exact hbest.out)
            have hib := (firstB_some.1 hfst).1
            obtain ⟨e, he⟩ : ∃ e, bs[i]? = some e := ⟨_, List.getElem?_eq_getElem hib⟩
            have hs4 := hboH.out.s i e he
            have hfi := cinv.out i e he
            have heH := Lib.hid he
            have hfstH := Lib.hid hfst
            have hg2 := (hrow.out.lt g rfl)
            obtain ⟨hg3, hg4⟩ := hg2
            clear he hfst hinc hbest hpast hend
            go_wp2_with (go_at_call 146; refine (push_any p n gF _ m c bs.length u i bs cf vA uA e _ hS.out hBH.out heH.out hs4 hfi).mono ?_; rintro x w5 ⟨rfl, hS5, hg5⟩; have hS5H := Lib.hid hS5; have hg5H := Lib.hid hg5; clear hS5 hg5)
            go_roundg (D - (j + 1))
            case measure => omega
            case rel =>
              refine ⟨j + 1, v, by omega, rfl, hvH, Lib.hid ?_, Lib.hid (ownsRow_grown hrow.out (fun b hb => ?_))⟩
              · rw [augK_succ hu.out hvH.out, hcfH.out, pushB_at hfstH.out heH.out]
                exact hS5H.out
              · have hb2 : some g = some b := hb
                injection hb2 with hb3
                rw [← hb3]
                exact hg5H.out.block g hg4 (fun e => by injection e with e; omega)
      · obtain rfl : j = D := by omega
        rw [Nat.sub_self] at hdu
        obtain rfl := distTo_zero hdu
        go_wp2
        go_ret
        exact ⟨rfl, hS.out⟩
end Go.Proofs.YtmhgjgclclnmaaaGreat
/- A rule for regions that draw their order, with one row of the call's own that an append grows: the other operations read only what an append leaves alone. -/


namespace Go.Proofs.YtmhgjgclclnmaaaGreat
open Go.RowKit
theorem gby_refl (w : World) (row : Option Nat) : w.grownBy w row := ⟨rfl, rfl, rfl, Nat.le_refl _, fun _ _ _ => rfl⟩
theorem gby_trans {w w1 w2 : World} {row : Option Nat} (h : w.grownBy w1 row) (h2 : w1.grownBy w2 row) : w.grownBy w2 row :=
  ⟨h2.os.trans h.os, h2.tape.trans h.tape, h2.output.trans h.output, Nat.le_trans h.size h2.size, fun k hk hne => (h2.block k (Nat.lt_of_lt_of_le hk h.size) hne).trans (h.block k hk hne)⟩
/-- A world that is w below w's heap, but for one block. -/
structure ByR (row : Option Nat) (w : World) where
  world : World
  h : w.grownBy world row
instance (row : Option Nat) (w : World) : Inhabited (ByR row w) := ⟨⟨w, gby_refl _ _⟩⟩
theorem ByR.cell {row : Option Nat} {W : World} (p : ByR row W) (b o : Nat) (h : b < W.heap.size) (hr : ¬ some b = row) : p.world.cell? ⟨b, o, none⟩ = W.cell? ⟨b, o, none⟩ := World.cell?_of_block (w := W) (a := ⟨b, o, none⟩) (p.h.block b h hr)
theorem ByR.cell_drew {row : Option Nat} {W : World} (p : ByR row W.drew) (b o : Nat) (h : b < W.heap.size) (hr : ¬ some b = row) : p.world.cell? ⟨b, o, none⟩ = W.cell? ⟨b, o, none⟩ := p.cell b o h hr
section
variable {P : Program} {ops : Array Oper} {row : Option Nat}

def wpR (P : Program) (ops : Array Oper) (row : Option Nat) (Q : Act → World → Prop) : List (Oper × Tag) → Act → World → Prop
  | [], a, w => Q a w
  | (o, .q) :: rest, a, w =>
    if Region.wanted o (yielded ops a.tmps) then ∃ v, (∀ p : ByR row w, stillUpon p.world v ((execOp a.eval o).run P p.world)) ∧ wpR P ops row Q rest (a.put o.dst v) w
    else wpR P ops row Q rest (a.put o.dst undef) w
  | (o, .g) :: rest, a, w =>
    if Region.wanted o (yielded ops a.tmps) then givesUpon P (fun v w' => w.grownBy w' row ∧ wpR P ops row Q rest (a.put o.dst v) w') ((execOp a.eval o).run P w)
    else wpR P ops row Q rest (a.put o.dst undef) w
  | (o, .b) :: rest, a, w =>
    if Region.wanted o (yielded ops a.tmps) then givesUpon P (fun v w' => wpR P ops row Q rest (a.put o.dst v) w') ((execOp a.eval o).run P w)
    else wpR P ops row Q rest (a.put o.dst undef) w
  | (o, .p) :: rest, a, w =>
    if Region.wanted o (yielded ops a.tmps) then ∃ v, (∀ W : World, stillUpon W v ((execOp a.eval o).run P W)) ∧ wpR P ops row Q rest (a.put o.dst v) w
    else wpR P ops row Q rest (a.put o.dst undef) w

/-- Behind a name that simp does not open. -/
def GrewR (row : Option Nat) (w w' : World) : Prop := w.grownBy w' row
theorem GrewR.of_alloc {row : Option Nat} {w : World} (o : Obj) : GrewR row w (w.alloc o) := World.grownBy_alloc w o row

/-- One operation at a time, what follows behind a variable. -/
theorem wpR_q {Q : Act → World → Prop} {o : Oper} {rest : List (Oper × Tag)} {a : Act} {w : World}
    (h : ∀ K : Act → Prop, (∀ a, wpR P ops row Q rest a w → K a) → if Region.wanted o (yielded ops a.tmps) then ∃ v, (∀ p : ByR row w, stillUpon p.world v ((execOp a.eval o).run P p.world)) ∧ K (a.put o.dst v) else K (a.put o.dst undef)) :
    wpR P ops row Q ((o, .q) :: rest) a w := h _ fun _ h => h
theorem wpR_g {Q : Act → World → Prop} {o : Oper} {rest : List (Oper × Tag)} {a : Act} {w : World}
    (h : ∀ K : Act → World → Prop, (∀ a w', wpR P ops row Q rest a w' → K a w') → if Region.wanted o (yielded ops a.tmps) then givesUpon P (fun v w' => GrewR row w w' ∧ K (a.put o.dst v) w') ((execOp a.eval o).run P w) else K (a.put o.dst undef) w) :
    wpR P ops row Q ((o, .g) :: rest) a w := h _ fun _ _ h => h
theorem wpR_b {Q : Act → World → Prop} {o : Oper} {rest : List (Oper × Tag)} {a : Act} {w : World}
    (h : ∀ K : Act → World → Prop, (∀ a w', wpR P ops row Q rest a w' → K a w') → if Region.wanted o (yielded ops a.tmps) then givesUpon P (fun v w' => K (a.put o.dst v) w') ((execOp a.eval o).run P w) else K (a.put o.dst undef) w) :
    wpR P ops row Q ((o, .b) :: rest) a w := h _ fun _ _ h => h
theorem wpR_p {Q : Act → World → Prop} {o : Oper} {rest : List (Oper × Tag)} {a : Act} {w : World}
    (h : ∀ K : Act → Prop, (∀ a, wpR P ops row Q rest a w → K a) → if Region.wanted o (yielded ops a.tmps) then ∃ v, (∀ W : World, stillUpon W v ((execOp a.eval o).run P W)) ∧ K (a.put o.dst v) else K (a.put o.dst undef)) :
    wpR P ops row Q ((o, .p) :: rest) a w := h _ fun _ h => h
theorem wpR_nil {Q : Act → World → Prop} {a : Act} {w : World} (h : Q a w) : wpR P ops row Q [] a w := h

theorem exchR {Q : Act → World → Prop} {oj : Oper} {tj : Tag} {post : List (Oper × Tag)} (hsj : ∀ cs b, oj.op ≠ .select cs b) : ∀ (pre : List (Oper × Tag)) (a : Act) (w : World),
    (∀ x ∈ pre, (x.2 = .q ∨ x.2 = .p) ∧ x.1.apart ops oj = true ∧ ∀ cs b, x.1.op ≠ .select cs b) → (tj = .b → ∀ x ∈ pre, x.2 = .p) → wpR P ops row Q (pre ++ (oj, tj) :: post) a w →
    opStep P ops oj (fun v w' => (tj ≠ .b → w.grownBy w' row) ∧ wpR P ops row Q (pre ++ post) (a.put oj.dst v) w') a w
  | [], a, w, _, _, h => by
    unfold opStep
    simp only [List.nil_append] at h ⊢
    cases tj <;> simp only [wpR] at h <;> split at h <;> rename_i hw <;> simp only [hw, if_true, if_false, Bool.false_eq_true]
    · obtain ⟨v, h1, h2⟩ := h
      exact givesUpon_of_still (h1 ⟨w, gby_refl _ _⟩) ⟨fun _ => gby_refl _ _, h2⟩
    · exact ⟨fun _ => gby_refl _ _, h⟩
    · exact givesUpon_mono h fun v w' hh => ⟨fun _ => hh.1, hh.2⟩
    · exact ⟨fun _ => gby_refl _ _, h⟩
    · exact givesUpon_mono h fun v w' hh => ⟨fun hn => absurd rfl hn, hh⟩
    · exact ⟨fun _ => gby_refl _ _, h⟩
    · obtain ⟨v, h1, h2⟩ := h
      exact givesUpon_of_still (h1 w) ⟨fun _ => gby_refl _ _, h2⟩
    · exact ⟨fun _ => gby_refl _ _, h⟩
  | (op, t) :: pre, a, w, hp, hb, h => by
    obtain ⟨ht, hap, hsp⟩ := hp (op, t) (by simp)
    simp only at ht hap hsp
    obtain ⟨h1, h2, h3⟩ := Oper.apart_spec hap
    have hp' : ∀ x ∈ pre, (x.2 = .q ∨ x.2 = .p) ∧ x.1.apart ops oj = true ∧ ∀ cs b, x.1.op ≠ .select cs b := fun x hx => hp x (by simp [hx])
    have hb' : tj = .b → ∀ x ∈ pre, x.2 = .p := fun e x hx => hb e x (by simp [hx])
    have key : ∀ v, (∀ w', (tj ≠ .b → w.grownBy w' row) → ∀ u, wpR P ops row Q (pre ++ post) ((a.put oj.dst u).put op.dst v) w' → wpR P ops row Q ((op, t) :: (pre ++ post)) (a.put oj.dst u) w') →
        wpR P ops row Q (pre ++ (oj, tj) :: post) (a.put op.dst v) w → opStep P ops oj (fun v w' => (tj ≠ .b → w.grownBy w' row) ∧ wpR P ops row Q ((op, t) :: pre ++ post) (a.put oj.dst v) w') a w := by
      intro v hk hh
      have ih := exchR hsj pre (a.put op.dst v) w hp' hb' hh
      unfold opStep at ih ⊢
      rw [wanted_put oj a op.dst v h1, execOp_put oj hsj a op.dst v h1] at ih
      split at ih <;> rename_i hw <;> simp only [hw, if_true, if_false, Bool.false_eq_true]
      · refine givesUpon_mono ih fun u w' hh' => ⟨hh'.1, hk w' hh'.1 u ?_⟩
        rw [← Act.put_comm a v u h2]; exact hh'.2
      · refine ⟨ih.1, hk w (fun _ => gby_refl _ _) undef ?_⟩
        rw [← Act.put_comm a v undef h2]; exact ih.2
    rcases ht with rfl | rfl
    · have hnb : tj ≠ .b := fun e => by have := hb e (op, .q) (by simp); cases this
      simp only [List.cons_append, wpR] at h
      split at h
      · rename_i hw
        obtain ⟨v, hv, hrest⟩ := h
        refine key v (fun w' hbw u hr => ?_) hrest
        have hbw := hbw hnb
        simp only [wpR]
        rw [wanted_put op a oj.dst u h3, if_pos hw, execOp_put op hsp a oj.dst u h3]
        exact ⟨v, fun p => hv ⟨p.world, gby_trans hbw p.h⟩, hr⟩
      · rename_i hw
        refine key undef (fun w' hbw u hr => ?_) h
        simp only [wpR]
        rw [wanted_put op a oj.dst u h3, if_neg hw]
        exact hr
    · simp only [List.cons_append, wpR] at h
      split at h
      · rename_i hw
        obtain ⟨v, hv, hrest⟩ := h
        refine key v (fun w' hbw u hr => ?_) hrest
        simp only [wpR]
        rw [wanted_put op a oj.dst u h3, if_pos hw, execOp_put op hsp a oj.dst u h3]
        exact ⟨v, hv, hr⟩
      · rename_i hw
        refine key undef (fun w' hbw u hr => ?_) h
        simp only [wpR]
        rw [wanted_put op a oj.dst u h3, if_neg hw]
        exact hr

theorem ord_soundR {Q : Exit → Act → World → Prop} (ord : List (Nat × Tag)) (hsel : Region.noSelect ops = true) (hcov : ∀ i, i < ops.size → ∃ x ∈ ord, x.1 = i)
    (hpw : ord.Pairwise (Rel2 ops)) (hsome : ∀ y ∈ ord, (ops[y.1]?).isSome = true) (htop : ∀ pre y post, ord = pre ++ y :: post → ∀ d ∈ depsOf ops y.1, ∃ x ∈ pre, x.1 = d) :
    ∀ (m : Nat) (listed : Array Bool) (a : Act) (w : World), (rem ord listed).length = m → Ideal ops listed → wpR P ops row (Q .normal) (pick ops (rem ord listed)) a w → wpAny P .any ops Q m listed a w := by
  have hlt : ∀ y ∈ ord, y.1 < ops.size := fun y hy => by
    have := hsome y hy
    rw [Option.isSome_iff_exists] at this
    obtain ⟨o, ho⟩ := this
    exact (Array.getElem?_eq_some_iff.1 ho).1
  intro m
  induction m with
  | zero =>
    intro listed a w hm hid h
    have hnil : rem ord listed = [] := List.eq_nil_of_length_eq_zero hm
    refine ⟨?_, by rw [hnil] at h; exact h⟩
    apply List.eq_nil_iff_forall_not_mem.2
    intro j hj
    obtain ⟨h1, h2, _⟩ := ready_deps hj
    obtain ⟨x, hx, rfl⟩ := hcov j h1
    have : x ∈ rem ord listed := List.mem_filter.2 ⟨hx, by simpa using h2⟩
    rw [hnil] at this
    cases this
  | succ m ih =>
    intro listed a w hm hid h
    refine ⟨fun h0 => ?_, fun j hj => ?_⟩
    · -- the first that has not come up is ready
      exfalso
      obtain ⟨y, rest, hrem⟩ : ∃ y rest, rem ord listed = y :: rest := by
        cases hr : rem ord listed with
        | nil => rw [hr] at hm; cases hm
        | cons y rest => exact ⟨y, rest, rfl⟩
      obtain ⟨pre, post, hord, hpre⟩ := List.filter_eq_cons_iff.1 hrem
      have hy : y ∈ ord := by rw [hord]; simp
      obtain ⟨o, ho⟩ := Option.isSome_iff_exists.1 (hsome y hy)
      have hun : listed.getD y.1 true = false := by
        have : y ∈ rem ord listed := by rw [hrem]; simp
        simpa using (List.mem_filter.1 this).2
      have : y.1 ∈ Region.ready .any ops listed := ready_of ho hun fun d hd => by
        obtain ⟨x, hx, rfl⟩ := htop pre y post hord d hd
        have h1 := hpre.1 x hx
        have hxl : x.1 < listed.size := by rw [hid.size]; exact hlt x (by rw [hord]; simp [hx])
        rw [← getD_tf hxl]
        simpa using h1
      rw [h0] at this
      cases this
    · obtain ⟨h1, h2, h3⟩ := ready_deps hj
      obtain ⟨x, hx, rfl⟩ := hcov j h1
      have hxr : x ∈ rem ord listed := List.mem_filter.2 ⟨hx, by simpa using h2⟩
      obtain ⟨pre, post, hsplit⟩ := List.append_of_mem hxr
      have hpwr : (rem ord listed).Pairwise (Rel2 ops) := hpw.filter _
      rw [hsplit, List.pairwise_append] at hpwr
      obtain ⟨_, hpc, hcross⟩ := hpwr
      obtain ⟨oj, hoj⟩ := Option.isSome_iff_exists.1 (hsome x hx)
      have hpre : ∀ y ∈ pre, Rel2 ops y x ∧ listed.getD y.1 false = false ∧ y ∈ ord := fun y hy => by
        have hyr : y ∈ rem ord listed := by rw [hsplit]; simp [hy]
        obtain ⟨hyo, hyu⟩ := List.mem_filter.1 hyr
        have hyl : y.1 < listed.size := by rw [hid.size]; exact hlt y hyo
        exact ⟨hcross y hy x (by simp), by rw [← getD_tf hyl]; simpa using hyu, hyo⟩
      have hno : ∀ y ∈ pre, ¬ Anc ops x.1 y.1 := fun y hy ha => by
        have := hid.anc ha h3
        rw [(hpre y hy).2.1] at this
        cases this
      have hstep := exchR (row := row) (P := P) (Q := Q .normal) (oj := oj) (tj := x.2) (post := pick ops post) (fun cs b => Region.noSelect_spec hsel x.1 oj cs b hoj) (pick ops pre) a w
        (by
          intro z hz
          obtain ⟨y, hy, hyz⟩ := List.mem_filterMap.1 hz
          obtain ⟨oy, hoy⟩ := Option.isSome_iff_exists.1 (hsome y (hpre y hy).2.2)
          rw [hoy] at hyz
          simp only [Option.map_some, Option.some.injEq] at hyz
          subst hyz
          refine ⟨?_, ?_, fun cs b => Region.noSelect_spec hsel y.1 oy cs b hoy⟩
          · cases hq : y.2 with
            | q => exact Or.inl rfl
            | p => exact Or.inr rfl
            | g => exact absurd ((hpre y hy).1.anc (by rw [hq]; rfl)) (hno y hy)
            | b => exact absurd ((hpre y hy).1.anc (by rw [hq]; rfl)) (hno y hy)
          · rcases (hpre y hy).1.apart with hd | hd
            · exact absurd (.one hd) (hno y hy)
            · unfold apartB at hd
              rw [hoy, hoj] at hd
              exact hd)
        (by
          intro hb z hz
          obtain ⟨y, hy, hyz⟩ := List.mem_filterMap.1 hz
          obtain ⟨oy, hoy⟩ := Option.isSome_iff_exists.1 (hsome y (hpre y hy).2.2)
          rw [hoy] at hyz
          simp only [Option.map_some, Option.some.injEq] at hyz
          subst hyz
          cases hq : y.2 with
          | p => rfl
          | q => exact absurd ((hpre y hy).1.anc (by rw [hq, hb]; rfl)) (hno y hy)
          | g => exact absurd ((hpre y hy).1.anc (by rw [hq]; rfl)) (hno y hy)
          | b => exact absurd ((hpre y hy).1.anc (by rw [hq]; rfl)) (hno y hy))
        (by
          have e : pick ops (rem ord listed) = pick ops pre ++ (oj, x.2) :: pick ops post := by
            rw [hsplit]; unfold pick; simp [List.filterMap_append, hoj]
          rw [← e]; exact h)
      have hrem' : rem ord (listed.setIfInBounds x.1 true) = pre ++ post := by
        have hx1 : x.1 < listed.size := by rw [hid.size]; exact h1
        have e1 : rem ord (listed.setIfInBounds x.1 true) = (rem ord listed).filter fun y => y.1 != x.1 := by
          unfold rem
          rw [List.filter_filter]
          apply List.filter_congr
          intro y hy
          by_cases hyx : x.1 = y.1
          · rw [← hyx]; simp [hx1]
          · have hne : (y.1 != x.1) = true := by simpa using fun h => hyx h.symm
            rw [getD_set_ne true hyx, hne]; simp
        rw [e1, hsplit, List.filter_append, List.filter_cons]
        have hp : pre.filter (fun y => y.1 != x.1) = pre := List.filter_eq_self.2 fun y hy => by simpa using (hpre y hy).1.ne
        have hq : post.filter (fun y => y.1 != x.1) = post := List.filter_eq_self.2 fun y hy => by
          have := (List.pairwise_cons.1 hpc).1 y hy
          simpa using fun e => this.ne e.symm
        rw [hp, hq]; simp
      refine wpOp_of_step hoj ?_
      have hlen : (pre ++ post).length = m := by
        have := hm
        rw [hsplit] at this
        simp at this ⊢
        omega
      have hid' : Ideal ops (listed.setIfInBounds x.1 true) := by
        refine ⟨by simp [hid.size], fun y hy d hd => ?_⟩
        by_cases hxy : x.1 = y
        · subst hxy; exact getD_set_true (h3 d hd)
        · rw [getD_set_ne false hxy] at hy
          exact getD_set_true (hid.closed y hy d hd)
      unfold opStep at hstep ⊢
      have e2 : ∀ v w', wpR P ops row (Q .normal) (pick ops pre ++ pick ops post) (a.put oj.dst v) w' → wpAny P .any ops Q m (listed.setIfInBounds x.1 true) (a.put oj.dst v) w' := fun v w' hh =>
        ih _ _ _ (by rw [hrem']; exact hlen) hid' (by rw [hrem']; unfold pick at hh ⊢; rw [List.filterMap_append]; exact hh)
      split at hstep <;> rename_i hw <;> simp only [hw, if_true, if_false, Bool.false_eq_true]
      · exact givesUpon_mono hstep fun v w' hh => e2 v w' hh.2
      · exact e2 _ _ hstep.2

/-- **The rule.** -/
theorem wp_region_row (row : Option Nat) {id : Nat} {Q : Exit → Act → World → Prop} {a : Act} {w : World} {l : List Oper} (ord : List (Nat × Tag)) (hm : P.follows .mixedOrders = true) (hB : ordB l.toArray ord = true)
    (h : wpR P l.toArray row (Q .normal) (pick l.toArray ord) a w.drew) : (Code.region id l.toArray true).wp P Q a w := by
  simp only [ordB, Bool.and_eq_true, beq_iff_eq] at hB
  obtain ⟨⟨⟨hsel, hlen⟩, hcov⟩, hfrom⟩ := hB
  obtain ⟨hpw, _, hsome, htop⟩ := ordFrom_spec ord [] hfrom (fun _ h => by cases h)
  refine wp_region_any hm ?_
  have hall : rem ord (Array.replicate l.toArray.size false) = ord := List.filter_eq_self.2 fun y hy => by
    obtain ⟨o, ho⟩ := Option.isSome_iff_exists.1 (hsome y hy)
    have := (Array.getElem?_eq_some_iff.1 ho).1
    simp at this
    simp [this]
  have hs := ord_soundR (row := row) (P := P) (Q := Q) ord hsel (fun i hi => by
    have := List.all_eq_true.1 hcov i (List.mem_range.2 hi)
    obtain ⟨x, hx, hxi⟩ := List.any_eq_true.1 this
    exact ⟨x, hx, by simpa using hxi⟩) hpw hsome (fun pre y post he d hd => by
      rcases htop pre y post he d hd with ⟨x, hx, _⟩ | hx
      · cases hx
      · exact hx) l.toArray.size (Array.replicate l.toArray.size false) a w.drew (by rw [hall, hlen])
      ⟨by simp, fun y hy => by
        rcases Nat.lt_or_ge y l.toArray.size with h | h
        · simp at h; simp [h] at hy
        · simp at h; simp [h] at hy⟩ (by rw [hall]; exact h)
  exact hs

theorem wpR_append_at {o : Oper} {rest : List (Oper × Tag)} {a : Act} {w : World} {row : Option Nat} {Q : Act → World → Prop} (hgd : o.guard = none) (s x : Operand) (t : TypeId)
    (ho : o.op = .call { callee := .builtin .append, args := #[s, x], argTypes := #[t, t] })
    (base : Nat) (e : TypeId) (i : TypeInfo) (z : Value) (size bytes : Nat) (ht : P.underlying t = some (.slice e)) (hi : P.info? e = some i) (hz : i.zero = some z)
    (hsize : i.size = size) (hby : i.bytes = bytes) (hzs : z.cells.size = size) (hsz : 0 < size)
    (v : Value) (n : Nat) (xs : List Value) (hs : a.eval s = v) (hown : w.ownsRow base e size v n xs) (hrow : v.ownBlock = row)
    (ad : Addr) (m c : Nat) (news : List Value) (hx : a.eval x = .slice (some ad) m c) (hl : news.length = m * size) (hnews : ∀ j u, news[j]? = some u → w.cell? (ad.add j) = some u) (h1 : ∀ u ∈ news, u.oneCell' = true)
    (h63 : n + m ≤ maxLen) (hbytes : (n + m) * bytes ≤ 140737488355328) (hbase : base ≤ w.heap.size)
    (h : ∀ v' w', w'.ownsRow base e size v' (n + m) (xs ++ news) → w.grownBy w' v.ownBlock → (v'.ownBlock = v.ownBlock ∨ v'.ownBlock = some w.heap.size) → wpR P ops row Q rest (a.put o.dst v') w') : wpR P ops row Q ((o, .g) :: rest) a w := by
  refine wpR_g fun K hK => ?_
  have hw : Region.wanted o (yielded ops a.tmps) = true := by simp [Region.wanted, hgd]
  rw [if_pos hw]
  obtain ⟨v', w', hrun, h2, h3, _, h4⟩ := run_append_own_at (P := P) w base t o.type e i z size bytes ht hi hz hsize hby hzs hsz v n xs hown ad m c news hl hnews h1 h63 hbytes hbase
  unfold execOp
  simp only [ho, resolve, invoke, builtin, Sem.run_bind, Sem.run_pure, Result.andThen_ok, List.map_toArray, List.map_cons, List.map_nil, hs, hx, hrun]
  exact ⟨hrow ▸ h3, hK _ _ (h v' w' h2 h3 h4)⟩
end
end Go.Proofs.YtmhgjgclclnmaaaGreat
/- Walks: the reference's net of some bonds is made. -/



namespace Go.Proofs.YtmhgjgclclnmaaaGreat
open Go.RowKit Go.Shelf
attribute [local go_sem] ByR.cell ByR.cell_drew BelowBy.cell BelowBy.cell_drew stillUpon givesUpon BelowBy.cell_drew2 BelowBy.cell_drew3

/-- the net while it is made: any rows -/
structure SNetG (w0 w : World) (p n gF : Nat) (B : Option Addr) (m c : Nat) (rows : List (List Value)) (f : Nat → Int) (vA : Value) (uA : List Value) : Prop where
  lt : p < w.heap.size
  ge : w0.heap.size ≤ p
  c0 : w.cell? ⟨p, 0, none⟩ = some (.int .i64 (n : Int))
  c1 : w.cell? ⟨p, 1, none⟩ = some (.slice B m c)
  c2 : w.cell? ⟨p, 2, none⟩ = some vA
  c3 : w.cell? ⟨p, 3, none⟩ = some (.slice (some ⟨gF, 0, none⟩) m m)
  bw : Below w0.heap.size w0 w
  A : Own2 w w0.heap.size 33 2 1 vA uA rows
  fl : w.rowIs gF 2 m (fun i => .int .i64 (f i))
  gl : w0.heap.size ≤ gF
  off : ¬ InMat vA uA gF ∧ ¬ InMat vA uA p ∧ gF ≠ p
  len : uA.length = n
theorem inMat_set {v : Value} {us : List Value} {u b : Nat} {x v' : Value} (hx : us[u]? = some x) {c : Nat} (hat : v'.ownBlock = x.ownBlock ∨ v'.ownBlock = some c) (h : InMat v (us.set u v') b) : InMat v us b ∨ b = c := by
  rcases h with h | ⟨k, y, hy, h⟩
  · exact .inl (.inl h)
  · by_cases e : k = u
    · subst e
      rw [List.getElem?_set_self (List.getElem?_eq_some_iff.1 hx).1] at hy
      obtain rfl := Option.some.inj hy
      rcases hat with hat | hat
      · exact .inl (.inr ⟨k, x, hx, hat ▸ h⟩)
      · rw [hat] at h
        injection h with h
        exact .inr h.symm
    · rw [List.getElem?_set_ne (fun e' => e e'.symm)] at hy
      exact .inl (.inr ⟨k, y, hy, h⟩)
section
variable {w0 w w' w1 w2 : World} {p n gF : Nat} {B : Option Addr} {m c k : Nat} {rows : List (List Value)} {bs : List Bd} {f : Nat → Int} {vA : Value} {uA : List Value}
theorem SNetG.below (h : SNetG w0 w p n gF B m c rows f vA uA) (hb : Below w.heap.size w w') : SNetG w0 w' p n gF B m c rows f vA uA :=
  ⟨Nat.lt_of_lt_of_le h.lt hb.size, h.ge, (hb.cell (p := ⟨p, 0, none⟩) h.lt).trans h.c0, (hb.cell (p := ⟨p, 1, none⟩) h.lt).trans h.c1, (hb.cell (p := ⟨p, 2, none⟩) h.lt).trans h.c2, (hb.cell (p := ⟨p, 3, none⟩) h.lt).trans h.c3,
    h.bw.trans (hb.mono h.bw.size), h.A.below hb, h.fl.of_block (hb.block gF h.fl.lt), h.gl, h.off, h.len⟩
theorem SNetG.grow {u g cap n' : Nat} {x v' : Value} {r' : List Value} (h : SNetG w0 w p n gF B m c rows f (.slice (some ⟨g, 0, none⟩) n cap) uA) (hb1 : Below w.heap.size w w1) (hx : uA[u]? = some x)
    (hown : w2.ownsRow w0.heap.size 2 1 v' n' r') (hg : w1.grownBy w2 x.ownBlock) (hat : v'.ownBlock = x.ownBlock ∨ v'.ownBlock = some w1.heap.size) :
    SNetG w0 (w2.setCell ⟨g, u, none⟩ v') p n gF B m c (rows.set u r') f (.slice (some ⟨g, 0, none⟩) n cap) (uA.set u v') := by
  have h1 := h.below hb1
  have hgl := h1.A.lt g rfl
  have hxp : some p ≠ x.ownBlock := fun e => h.off.2.1 (.inr ⟨u, x, hx, e.symm⟩)
  have hxF : some gF ≠ x.ownBlock := fun e => h.off.1 (.inr ⟨u, x, hx, e.symm⟩)
  have hgp : g ≠ p := fun e => h.off.2.1 (.inl (by rw [e]; rfl))
  have hgF : g ≠ gF := fun e => h.off.1 (.inl (by rw [e]; rfl))
  have hb : (w2.setCell ⟨g, u, none⟩ v').heap[p]? = w1.heap[p]? := (Below.heap_setCell _ _ _ _ hgp.symm).trans (hg.block p h1.lt hxp)
  have hbF : (w2.setCell ⟨g, u, none⟩ v').heap[gF]? = w1.heap[gF]? := (Below.heap_setCell _ _ _ _ hgF.symm).trans (hg.block gF h1.fl.lt hxF)
  have hs := hg.size
  have hl := h1.lt
  have hF := h1.fl.lt
  refine ⟨by simp; omega, h.ge, (World.cell?_of_block (w := w1) (a := ⟨p, 0, none⟩) hb).trans h1.c0, (World.cell?_of_block (w := w1) (a := ⟨p, 1, none⟩) hb).trans h1.c1, (World.cell?_of_block (w := w1) (a := ⟨p, 2, none⟩) hb).trans h1.c2, (World.cell?_of_block (w := w1) (a := ⟨p, 3, none⟩) hb).trans h1.c3,
    (h1.bw.grown hg h1.bw.size (fun b e => (h1.A.ltIn hx b e).1)).setCell (p := ⟨g, u, none⟩) hgl.1 _, h1.A.grow h.len hx hown hg hat, h1.fl.of_block hbF, h.gl, ⟨fun hi => ?_, fun hi => ?_, h.off.2.2⟩, by rw [List.length_set]; exact h.len⟩
  · rcases inMat_set hx hat hi with h2 | h2
    · exact h.off.1 h2
    · omega
  · rcases inMat_set hx hat hi with h2 | h2
    · exact h.off.2.1 h2
    · omega
theorem SNetG.net (h : SNetG w0 w p n gF B m c (incRows bs k n) f vA uA) : SNet w0 w p n gF B m c k bs f vA uA := ⟨h.lt, h.ge, h.c0, h.c1, h.c2, h.c3, h.bw, h.A, h.fl, h.gl, h.off⟩
end
/-- n rows that hold nothing yet -/
theorem own2_zero {w : World} {base g n cap : Nat} {T E : TypeId} (h : w.ownsRow base T 1 (.slice (some ⟨g, 0, none⟩) n cap) n (List.replicate n (.slice none 0 0))) : Own2 w base T E 1 (.slice (some ⟨g, 0, none⟩) n cap) (List.replicate n (.slice none 0 0)) (List.replicate n []) := by
  have hg : ∀ {k : Nat} {u : Value}, (List.replicate n (Value.slice none 0 0))[k]? = some u → u = .slice none 0 0 := fun {k u} hu => by
    rw [List.getElem?_replicate] at hu
    split at hu
    · exact (Option.some.inj hu).symm
    · cases hu
  refine ⟨by simpa using h, by simp, fun k u r hu hr => ⟨0, ?_⟩, fun j k u u' b hu hu' hb _ => ?_, fun k u b hu hb => ?_⟩
  · rw [hg hu]
    rw [List.getElem?_replicate] at hr
    split at hr
    · rw [← Option.some.inj hr]; exact World.ownsRow_nil _ _ _ _
    · cases hr
  · rw [hg hu] at hb; cases hb
  · rw [hg hu] at hb; cases hb
theorem made_nils (n : Nat) : (madeCells #[Value.slice none 0 0] n).toList = List.replicate n (Value.slice none 0 0) := by
  apply List.ext_getElem?
  intro j
  by_cases hj : j < n
  · rw [Array.getElem?_toList, List.getElem?_replicate, if_pos hj]
    simp [madeCells, hj, Nat.mod_one]
  · rw [List.getElem?_eq_none (by rw [Array.length_toList, size_madeCells]; omega), List.getElem?_eq_none (by simp; omega)]
theorem incRows_zero (bs : List Bd) (n : Nat) : incRows bs 0 n = List.replicate n [] := by
  apply List.ext_getElem?
  intro j
  by_cases hj : j < n
  · rw [incRows_get hj, List.getElem?_replicate, if_pos hj]; simp [incL, intsI]
  · rw [List.getElem?_eq_none (by rw [incRows_len]; omega), List.getElem?_eq_none (by simp; omega)]
theorem incL_succ (bs : List Bd) (k u : Nat) : incL bs (k + 1) u = if incB bs u k = true then incL bs k u ++ [k] else incL bs k u := by
  unfold incL
  rw [List.range_succ, List.filter_append]
  by_cases h : incB bs u k = true
  · rw [if_pos h]; simp [h]
  · rw [if_neg h]
    have : incB bs u k = false := by simpa using h
    simp [this]
theorem incRows_succ {bs : List Bd} {k n : Nat} {e : Bd} (he : bs[k]? = some e) (ha : e.a < n) (hb : e.b < n) : incRows bs (k + 1) n = ((incRows bs k n).set e.a ((intsI (incL bs k e.a ++ [k])).map (Value.int .i64))).set e.b ((intsI (incL bs k e.b ++ [k])).map (Value.int .i64)) := by
  apply List.ext_getElem?
  intro j
  have hinc : ∀ u, incB bs u k = decide (e.a = u ∨ e.b = u) := fun u => by unfold incB; rw [he]
  by_cases hj : j < n
  · rw [incRows_get hj, incL_succ, hinc]
    by_cases h2 : e.b = j
    · subst h2
      rw [List.getElem?_set_self (by rw [List.length_set, incRows_len]; exact hj)]
      simp
    · rw [List.getElem?_set_ne h2]
      by_cases h1 : e.a = j
      · subst h1
        rw [List.getElem?_set_self (by rw [incRows_len]; exact hj)]
        simp
      · rw [List.getElem?_set_ne h1, incRows_get hj]
        simp [h1, h2]
  · rw [List.getElem?_eq_none (by rw [incRows_len]; omega), List.getElem?_eq_none (by simp [incRows_len]; omega)]
def NewRes (w : World) (n : Nat) (B : Option Addr) (m c : Nat) (bs : List Bd) (e : Ending) (w' : World) : Prop := ∃ p gF vA uA, e = .returned (.pointer (some ⟨p, 0, none⟩)) ∧ SNet w w' p n gF B m c bs.length bs (fun _ => 0) vA uA
set_option maxRecDepth 100000 in
set_option maxHeartbeats 4000000 in
theorem l07New_any (n : Nat) (B : Option Addr) (m c : Nat) (bs : List Bd) (w : World) (hB : RdSl 3 RBd w B m bs) (hb : BondsOk n bs) (hn0 : 0 < n) (hn : n ≤ 100000) (hm : m ≤ 100000) :
    Calls Tryz.prog 97 #[.int .i64 (n : Int), .slice B m c] w (NewRes w n B m c bs) := by
  obtain ⟨i0, hi, hz0, hz1, hz2⟩ := info_parts infoIs
  obtain ⟨i1, hi', hz0', hz1', hz2'⟩ := info_parts infoI
  have hmk := fun W => run_makeN (P := Tryz.prog) 33 2 _ 1 8 Tryz.underlying33 infoI m (by omega) (by omega) W
  have hmk2 := fun W => run_makeN (P := Tryz.prog) 63 33 _ 1 24 Tryz.underlying63 infoIs n (by omega) (by omega) W
  have hBH := Lib.hid hB
  have hbH := Lib.hid hb
  have hml := Lib.hid hB.len
  clear hB hb
  go_enter Tryz.func97, Tryz.ntmps97
  go_wp2
  go_loopg [6] m (fun gk i wr => ∃ (k : Nat) (cap : Nat) (uA : List Value), k + gk = m ∧ i = .int .i64 (k : Int) ∧ Hid (SNetG w wr w.heap.size n (w.heap.size + 2) B m c (incRows bs k n) (fun _ => 0) (.slice (some ⟨w.heap.size + 1, 0, none⟩) n cap) uA))
  case atStart =>
    refine ⟨0, n, List.replicate n (.slice none 0 0), by omega, rfl, Lib.hid ⟨by simp; omega, Nat.le_refl _, by go_simp, by go_simp, by go_simp, by go_simp, bl_al (bl_al (bl_al (bl_refl _) _) _) _, ?_, ?_, by omega, ⟨fun h => ?_, fun h => ?_, by omega⟩, by simp⟩⟩
    · rw [incRows_zero]
      refine own2_zero ?_
      have h := (World.ownsRow_lit (base := w.heap.size) (e := 33) (size := 1) (w.alloc (Obj.cells #[.int .i64 (n : Int), .slice B m c, .slice (some ⟨w.heap.size + 1, 0, none⟩) n n, .slice (some ⟨w.heap.size + 1 + 1, 0, none⟩) m m] 106)) (madeCells #[Value.slice none 0 0] n) n (by simp) (by unfold maxLen; omega) (by rw [size_madeCells, Nat.mul_one])).alloc (Obj.cells (madeCells #[Value.int .i64 0] m) 2)
      rw [made_nils] at h
      simpa using h
    · have h := World.rowIs_made ((w.alloc (Obj.cells #[.int .i64 (n : Int), .slice B m c, .slice (some ⟨w.heap.size + 1, 0, none⟩) n n, .slice (some ⟨w.heap.size + 1 + 1, 0, none⟩) m m] 106)).alloc (Obj.cells (madeCells #[Value.slice none 0 0] n) 33)) (.int .i64 0) m 2
      simpa using h
    · rcases h with h | ⟨k, u, hu, h⟩
      · have h2 : some (w.heap.size + 1) = some (w.heap.size + 2) := h
        injection h2 with h2; omega
      · rw [(List.mem_replicate.1 (List.mem_of_getElem? hu)).2] at h; cases h
    · rcases h with h | ⟨k, u, hu, h⟩
      · have h2 : some (w.heap.size + 1) = some w.heap.size := h
        injection h2 with h2; omega
      · rw [(List.mem_replicate.1 (List.mem_of_getElem? hu)).2] at h; cases h
  case round =>
    clear hmk hmk2
    obtain ⟨k, cap, uA, hk, rfl, hS⟩ := hrel
    by_cases hkm : k < m
    · obtain ⟨bb, ob, rfl, hbb, hbc⟩ := hBH.out.ptr (by omega)
      obtain ⟨e, he⟩ := hBH.out.get hkm
      obtain ⟨e0, e1, e2⟩ := hbc k e he
      have hea := hbH.out.a k e he
      have heb := hbH.out.b k e he
      have hne := hbH.out.ne k e he
      have hsucc := Lib.hid (incRows_succ (bs := bs) he hea heb)
      have hneH := Lib.hid hne
      clear hbc he hne
      have lpa := hS.out.lt
      have c1a := hS.out.c1
      have c2a := hS.out.c2
      have hsza := hS.out.bw.size
      have e0a := (hS.out.bw.cell (p := ⟨bb, _, none⟩) hbb).trans e0
      have e1a := (hS.out.bw.cell (p := ⟨bb, _, none⟩) hbb).trans e1
      have hbba : bb < wr.heap.size := by omega
      obtain ⟨xa, hxa⟩ : ∃ x, uA[e.a]? = some x := ⟨_, List.getElem?_eq_getElem (by rw [hS.out.len]; exact hea)⟩
      obtain ⟨caa, faa, lga⟩ := hS.out.A.cellAt hS.out.len hxa
      obtain ⟨qa, ra, hra, howna⟩ := hS.out.A.get hxa
      rw [incRows_get hea] at hra
      obtain rfl := Option.some.inj hra
      have hqa := howna.1
      simp only [List.length_map, intsI, Nat.mul_one] at hqa
      have hlla : (incL bs k e.a).length ≤ k := by
        have := List.length_filter_le (incB bs e.a) (List.range k)
        simpa [incL] using this
      have hqka : qa ≤ k := by omega
      obtain ⟨Aa', capa', rfl⟩ := ownsRow_form howna
      have hownaH := Lib.hid howna
      have hxaH := Lib.hid hxa
      obtain ⟨rowa, hrowa⟩ : ∃ row, (Value.slice Aa' qa capa').ownBlock = row := ⟨_, rfl⟩
      have r1a : ¬ some w.heap.size = rowa := fun h => hS.out.off.2.1 (.inr ⟨e.a, _, hxaH.out, hrowa.trans h.symm⟩)
      have r2a : ¬ some (w.heap.size + 1) = rowa := fun h => hS.out.A.off e.a _ _ hxaH.out (hrowa.trans h.symm) rfl
      have r3a : ¬ some bb = rowa := fun h => by
        have := (hS.out.A.ltIn hxaH.out bb (hrowa.trans h.symm)).1
        omega
      clear hxa howna hra hlla hqa
      go_wp2
      refine wp_region_row (rowa) [(0, .q), (1, .q), (2, .q), (3, .q), (4, .q), (5, .q), (6, .q), (7, .q), (8, .q), (9, .q), (10, .q), (11, .q), (12, .q), (13, .q), (14, .q), (15, .q), (16, .q), (17, .q), (18, .q), (19, .q), (20, .q), (21, .g), (22, .g), (23, .q), (24, .b)] (by kernel_rfl) (by kernel_rfl) ?_
      simp only [pick, List.filterMap_cons, List.filterMap_nil, List.getElem?_toArray, List.getElem?_cons_zero, List.getElem?_cons_succ, Option.map_some]
      repeat (first | ((with_reducible refine wpR_p (fun K hK => ?_)); go_simp; refine hK _ ?_; clear hK K) | ((with_reducible refine wpR_q (fun K hK => ?_)); go_simp; (first | refine hK _ ?_ | (go_bits; refine hK _ ?_) | (go_bits; go_simp; refine hK _ ?_)); clear hK K))
      with_reducible refine wpR_g (fun K hK => ?_)
      go_simp
      refine ⟨GrewR.of_alloc _, hK _ _ ?_⟩
      clear hK K
      have hba : Below wr.heap.size wr (wr.alloc (Obj.cells #[.int .i64 (k : Int)] 2)).drew := by exact bel_
      have hbaH := Lib.hid hba
      clear hba
      refine wpR_append_at rfl _ _ 33 rfl w.heap.size 2 i1 (.int .i64 0) 1 8 Tryz.underlying33 hi' hz0' hz1' hz2' rfl (by decide) (.slice Aa' qa capa') qa ((intsI (incL bs k e.a)).map (Value.int .i64)) (by go_simp) (ownsRow_below hownaH.out hbaH.out) hrowa ⟨wr.heap.size, 0, none⟩ 1 1 [.int .i64 (k : Int)] (by go_simp) rfl ?hnewsa (fun x hx => by simp at hx; subst hx; rfl) (by unfold maxLen; omega) (by omega) (by simp; omega) ?_
      case hnewsa =>
        have := cell_one_new wr (.int .i64 (k : Int)) 2
        simpa using this
      intro va wa3 howna hgrowa hata
      obtain ⟨Aa2, capa2, rfl⟩ := ownsRow_form howna
      have hSa2 := Lib.hid (hS.out.grow hbaH.out hxaH.out howna hgrowa hata)
      obtain ⟨caa2, faa2, lga2, _⟩ := (hS.out.below hbaH.out).A.after hS.out.len hxaH.out hgrowa
      clear howna hata caa faa
      repeat (first | ((with_reducible refine wpR_p (fun K hK => ?_)); go_simp; refine hK _ ?_; clear hK K) | ((with_reducible refine wpR_q (fun K hK => ?_)); go_simp; (first | refine hK _ ?_ | (go_bits; refine hK _ ?_) | (go_bits; go_simp; refine hK _ ?_)); clear hK K))
      with_reducible refine wpR_b (fun K hK => ?_)
      go_simp
      refine hK _ _ ?_
      clear hK K
      with_reducible refine wpR_nil ?_
      obtain ⟨W2, hW2⟩ : ∃ W2, W2 = wa3.setCell ⟨w.heap.size + 1, e.a, none⟩ (.slice Aa2 (qa + 1) capa2) := ⟨_, rfl⟩
      rw [← hW2] at hSa2 ⊢
      clear hW2 caa2 faa2 lga2 hgrowa hbaH hownaH
      have lpb := hSa2.out.lt
      have c1b := hSa2.out.c1
      have c2b := hSa2.out.c2
      have hszb := hSa2.out.bw.size
      have e0b := (hSa2.out.bw.cell (p := ⟨bb, _, none⟩) hbb).trans e0
      have e1b := (hSa2.out.bw.cell (p := ⟨bb, _, none⟩) hbb).trans e1
      have hbbb : bb < W2.heap.size := by omega
      obtain ⟨xb, hxb⟩ : ∃ x, (uA.set e.a (Value.slice Aa2 (qa + 1) capa2))[e.b]? = some x := ⟨_, List.getElem?_eq_getElem (by rw [hSa2.out.len]; exact heb)⟩
      obtain ⟨cab, fab, lgb⟩ := hSa2.out.A.cellAt hSa2.out.len hxb
      obtain ⟨qb, rb, hrb, hownb⟩ := hSa2.out.A.get hxb
      rw [List.getElem?_set_ne hneH.out, incRows_get heb] at hrb
      obtain rfl := Option.some.inj hrb
      have hqb := hownb.1
      simp only [List.length_map, intsI, Nat.mul_one] at hqb
      have hllb : (incL bs k e.b).length ≤ k := by
        have := List.length_filter_le (incB bs e.b) (List.range k)
        simpa [incL] using this
      have hqkb : qb ≤ k := by omega
      obtain ⟨Ab', capb', rfl⟩ := ownsRow_form hownb
      have hownbH := Lib.hid hownb
      have hxbH := Lib.hid hxb
      obtain ⟨rowb, hrowb⟩ : ∃ row, (Value.slice Ab' qb capb').ownBlock = row := ⟨_, rfl⟩
      have r1b : ¬ some w.heap.size = rowb := fun h => hSa2.out.off.2.1 (.inr ⟨e.b, _, hxbH.out, hrowb.trans h.symm⟩)
      have r2b : ¬ some (w.heap.size + 1) = rowb := fun h => hSa2.out.A.off e.b _ _ hxbH.out (hrowb.trans h.symm) rfl
      have r3b : ¬ some bb = rowb := fun h => by
        have := (hSa2.out.A.ltIn hxbH.out bb (hrowb.trans h.symm)).1
        omega
      clear hxb hownb hrb hllb hqb
      go_wp2
      refine wp_region_row (rowb) [(0, .q), (1, .q), (2, .q), (3, .q), (4, .q), (5, .q), (6, .q), (7, .q), (8, .q), (9, .q), (10, .q), (11, .q), (12, .q), (13, .q), (14, .q), (15, .q), (16, .q), (17, .q), (18, .q), (19, .q), (20, .q), (21, .g), (22, .g), (23, .q), (24, .b)] (by kernel_rfl) (by kernel_rfl) ?_
      simp only [pick, List.filterMap_cons, List.filterMap_nil, List.getElem?_toArray, List.getElem?_cons_zero, List.getElem?_cons_succ, Option.map_some]
      repeat (first | ((with_reducible refine wpR_p (fun K hK => ?_)); go_simp; refine hK _ ?_; clear hK K) | ((with_reducible refine wpR_q (fun K hK => ?_)); go_simp; (first | refine hK _ ?_ | (go_bits; refine hK _ ?_) | (go_bits; go_simp; refine hK _ ?_)); clear hK K))
      with_reducible refine wpR_g (fun K hK => ?_)
      go_simp
      refine ⟨GrewR.of_alloc _, hK _ _ ?_⟩
      clear hK K
      have hbb : Below W2.heap.size W2 (W2.alloc (Obj.cells #[.int .i64 (k : Int)] 2)).drew := by exact bel_
      have hbbH := Lib.hid hbb
      clear hbb
      refine wpR_append_at rfl _ _ 33 rfl w.heap.size 2 i1 (.int .i64 0) 1 8 Tryz.underlying33 hi' hz0' hz1' hz2' rfl (by decide) (.slice Ab' qb capb') qb ((intsI (incL bs k e.b)).map (Value.int .i64)) (by go_simp) (ownsRow_below hownbH.out hbbH.out) hrowb ⟨W2.heap.size, 0, none⟩ 1 1 [.int .i64 (k : Int)] (by go_simp) rfl ?hnewsb (fun x hx => by simp at hx; subst hx; rfl) (by unfold maxLen; omega) (by omega) (by simp; omega) ?_
      case hnewsb =>
        have := cell_one_new W2 (.int .i64 (k : Int)) 2
        simpa using this
      intro vb wb3 hownb hgrowb hatb
      obtain ⟨Ab2, capb2, rfl⟩ := ownsRow_form hownb
      have hSb2 := Lib.hid (hSa2.out.grow hbbH.out hxbH.out hownb hgrowb hatb)
      obtain ⟨cab2, fab2, lgb2, _⟩ := (hSa2.out.below hbbH.out).A.after hSa2.out.len hxbH.out hgrowb
      clear hownb hatb cab fab
      repeat (first | ((with_reducible refine wpR_p (fun K hK => ?_)); go_simp; refine hK _ ?_; clear hK K) | ((with_reducible refine wpR_q (fun K hK => ?_)); go_simp; (first | refine hK _ ?_ | (go_bits; refine hK _ ?_) | (go_bits; go_simp; refine hK _ ?_)); clear hK K))
      with_reducible refine wpR_b (fun K hK => ?_)
      go_simp
      refine hK _ _ ?_
      clear hK K
      with_reducible refine wpR_nil ?_
      go_wp2
      go_roundg (m - (k + 1))
      case measure => omega
      case rel =>
        have h := hSb2.out
        have hsn : ∀ l : List Nat, (intsI l).map (Value.int .i64) ++ [.int .i64 (k : Int)] = (intsI (l ++ [k])).map (Value.int .i64) := fun l => by simp [intsI]
        rw [hsn, hsn, ← hsucc.out] at h
        exact ⟨k + 1, _, _, by omega, by go_num, Lib.hid h⟩
    · obtain rfl : k = m := by omega
      go_wp2
      go_ret
      exact ⟨_, _, _, _, rfl, by rw [hml.out]; exact hS.out.net⟩
end Go.Proofs.YtmhgjgclclnmaaaGreat
/- Walks: the reference's greatest flow. -/


namespace Go.Proofs.YtmhgjgclclnmaaaGreat
open Go.RowKit Go.Shelf
attribute [local go_sem] BelowBy.cell BelowBy.cell_drew stillUpon givesUpon BelowBy.cell_drew2 BelowBy.cell_drew3

def FlowRes (w : World) (n : Nat) (B : Option Addr) (m c : Nat) (bs : List Bd) (x y : Nat) (e : Ending) (w' : World) : Prop := ∃ p gF vA uA, e = .returned (.tuple #[.pointer (some ⟨p, 0, none⟩), .int .i64 (flowV n bs x y : Int)]) ∧
  SNet w w' p n gF B m c bs.length bs (iterF n bs x y (flowV n bs x y)) vA uA
set_option maxRecDepth 100000 in
set_option maxHeartbeats 2000000 in
theorem l07Flow_any (n x y : Nat) (B : Option Addr) (m c : Nat) (bs : List Bd) (w : World) (hB : RdSl 3 RBd w B m bs) (hb : BondsOk n bs) (hx : x < n) (hy : y < n) (hxy : x ≠ y) (hn : n ≤ 100000) (hm : m ≤ 100000) :
    Calls Tryz.prog 48 #[.int .i64 (n : Int), .slice B m c, .int .i64 (x : Int), .int .i64 (y : Int)] w (FlowRes w n B m c bs x y) := by
  have hBH := Lib.hid hB
  have hbH := Lib.hid hb
  have hml := Lib.hid hB.len
  clear hB hb
  go_enter Tryz.func48, Tryz.ntmps48
  go_wp2_with (go_at_call 97; refine (l07New_any n B m c bs _ hBH.out hbH.out (by omega) hn hm).mono ?_; rintro e w1 ⟨p, gF, vA, uA, rfl, hS0⟩; have hS0H := Lib.hid hS0; clear hS0)
  go_loopg [11] (8 * m + 1) (fun gk v wr => ∃ (k : Nat) (vA : Value) (uA : List Value), k + gk = 8 * m + 1 ∧ v = .int .i64 (k : Int) ∧ Hid (∀ j, j < k → ¬ stopF n bs x y j) ∧ Hid (SNet w wr p n gF B m c bs.length bs (iterF n bs x y k) vA uA))
  case atStart => exact ⟨0, vA, uA, by omega, rfl, Lib.hid (fun j hj => by omega), hS0H⟩
  case round =>
    clear hS0H
    obtain ⟨k, vA, uA, hk, rfl, hns, hS⟩ := hrel
    have hinv := Lib.hid (iterF_inv hbH.out x y k)
    cases hw : wayTo n (edgeB bs (iterF n bs x y k)) x y with
    | none =>
      have hstop := Lib.hid (show stopF n bs x y k from hw)
      have hv := Lib.hid (flowV_eq hstop.out hns.out)
      have hwH := Lib.hid hw
      clear hw
      go_wp2_with (go_at_call 98; refine (grow_any p n gF B m c x y bs _ vA uA _ hS.out hBH.out hbH.out hinv.out hx hy hn hm).mono ?_; rintro e w2 hg; unfold GrowRes at hg; rw [hwH.out] at hg; obtain ⟨rfl, hS2⟩ := hg; have hS2H := Lib.hid hS2; clear hS2)
      go_ret2
      unfold FlowRes
      rw [hv.out]
      exact ⟨p, gF, vA, uA, rfl, hS2H.out⟩
    | some W =>
      have hnstop := Lib.hid (show ¬ stopF n bs x y k from fun h => by rw [stopF, hw] at h; cases h)
      have hwH := Lib.hid hw
      clear hw
      have hns2 := Lib.hid (show ∀ j, j < k + 1 → ¬ stopF n bs x y j from fun j hj => by
        rcases Nat.lt_succ_iff_lt_or_eq.1 hj with hj | rfl
        · exact hns.out j hj
        · exact hnstop.out)
      have hleft := iterF_left hbH.out hx hxy (k := k + 1) hns2.out
      have hk8 : k + 1 ≤ 8 * m := by have := hml.out; omega
      go_wp2_with (go_at_call 98; refine (grow_any p n gF B m c x y bs _ vA uA _ hS.out hBH.out hbH.out hinv.out hx hy hn hm).mono ?_; rintro e w2 hg; unfold GrowRes at hg; rw [hwH.out] at hg; obtain ⟨rfl, hS2⟩ := hg; have hS2H := Lib.hid hS2; clear hS2)
      go_roundg (8 * m + 1 - (k + 1))
      case measure => omega
      case rel =>
        refine ⟨k + 1, vA, uA, by omega, by go_num, hns2, Lib.hid ?_⟩
        have h := hS2H.out
        simp only [iterF, hwH.out]
        exact h
theorem ownsRow_rebase {w : World} {base base' : Nat} {e : TypeId} {s n : Nat} {x : Value} {xs : List Value} (h : w.ownsRow base e s x n xs) (hb : base' ≤ base) : w.ownsRow base' e s x n xs :=
  ⟨h.1, h.2.imp id (fun ⟨g, cap, cur, h1, h2, h3⟩ => ⟨g, cap, cur, h1, Nat.le_trans hb h2, h3⟩)⟩
theorem leftI_nonneg {l : Nat → Option Nat} {v : Nat} (h : (l v).isSome = true) : ∃ d : Nat, leftI l v = (d : Int) := by
  unfold leftI
  cases hl : l v with
  | none => rw [hl] at h; cases h
  | some d => exact ⟨d, rfl⟩
theorem leftI_neg {l : Nat → Option Nat} {v : Nat} (h : (l v).isSome = false) : leftI l v = -1 := by
  unfold leftI
  cases hl : l v with
  | none => rfl
  | some d => rw [hl] at h; cases h
set_option maxRecDepth 100000 in
set_option maxHeartbeats 2000000 in
theorem side_any {w0 : World} (p n gF : Nat) (B : Option Addr) (m c y : Nat) (bs : List Bd) (f : Nat → Int) (vA : Value) (uA : List Value) (w : World) (h : SNet w0 w p n gF B m c bs.length bs f vA uA) (hB : RdSl 3 RBd w0 B m bs) (hbo : BondsOk n bs) (hinv : InvF bs f) (hy : y < n) (hn : n ≤ 100000) (hm : m ≤ 100000) :
    Calls Tryz.prog 125 #[.pointer (some ⟨p, 0, none⟩), .int .i64 (y : Int)] w (OwnI w (leadL n (edgeB bs f) y n)) := by
  obtain ⟨i1, hi', hz0', hz1', hz2'⟩ := info_parts infoI
  have hN := Lib.hid h
  have hBH := Lib.hid hB
  have hboH := Lib.hid hbo
  have hinvH := Lib.hid hinv
  have lp := h.lt
  have k0 := h.c0
  clear h hB hbo hinv
  go_enter Tryz.func125, Tryz.ntmps125
  go_wp2_with (go_at_call 144; refine (steps_any p n gF B m c y bs f vA uA _ hN.out hBH.out hboH.out hinvH.out hy hn hm).mono ?_; rintro e w1 ⟨g, cg, rfl, hrow, hb1⟩; have hrowH := Lib.hid hrow; have hb1H := Lib.hid hb1; have lx := (hrow.lt g rfl); have hs1 := hb1.size; clear hrow hb1)
  obtain ⟨lx1, lx2⟩ := lx
  obtain ⟨wa, rfl⟩ : ∃ wa : World, wa = w1 := ⟨_, rfl⟩
  go_loopg [6, 7] n (fun gk q v wr => ∃ k : Nat, k + gk = n ∧ v = .int .i64 (k : Int) ∧ Hid (wr.ownsRow wa.heap.size 2 1 q (leadL n (edgeB bs f) y k).length ((intsI (leadL n (edgeB bs f) y k)).map (Value.int .i64))) ∧ Hid (Below wa.heap.size wa wr))
  case atStart => exact ⟨0, by omega, rfl, Lib.hid (by have := World.ownsRow_lit (base := wa.heap.size) (e := 2) (size := 1) wa #[] 0 (Nat.le_refl _) (by decide) rfl; simpa [leadL, intsI] using this), Lib.hid (bl_al (bl_refl _) _)⟩
  case round =>
    obtain ⟨k, hk, rfl, hrow, hbw⟩ := hrel
    have hsz := hbw.out.size
    obtain ⟨A1, c1, rfl⟩ := ownsRow_form hrow.out
    have k1 := ((hbw.out.cell (p := ⟨p, 0, none⟩) (by show p < _; omega)).trans (hb1H.out.cell (p := ⟨p, 0, none⟩) lp)).trans k0
    have lp1 : p < wr.heap.size := by omega
    by_cases hkn : k < n
    · have cx := ((hbw.out.cell (p := ⟨g, k, none⟩) lx2).trans (hrowH.out.cellAt k (by omega))).trans (rowL_get hkn)
      have lg2 : g < wr.heap.size := by omega
      by_cases hd : (distTo n (edgeB bs f) y k).isSome = true
      · obtain ⟨d, hdE⟩ := leftI_nonneg hd
        rw [hdE] at cx
        have hdH := Lib.hid hd
        have hll := leadL_len n (edgeB bs f) y k
        obtain ⟨N, hNE⟩ : ∃ N, (leadL n (edgeB bs f) y k).length = N := ⟨_, rfl⟩
        rw [hNE] at hrow hll ⊢
        have hNH := Lib.hid hNE
        clear hd hdE hNE
        go_wp2_with (at_builtin; refine wpList_append_own _ rfl _ _ 33 rfl wa.heap.size 2 i1 (.int .i64 0) 1 8 Tryz.underlying33 hi' hz0' hz1' hz2' rfl (by decide) _ N ((intsI (leadL n (edgeB bs f) y k)).map (Value.int .i64)) rfl (hrow.out.alloc _) ⟨wr.heap.size, 0, none⟩ 1 1 [.int .i64 (k : Int)] rfl rfl (cell_one_new _ _ _) (fun x hx => by simp at hx; subst hx; rfl) (by unfold maxLen; omega) (by omega) (by simp; omega) ?_; intro u3 w3 hown3 hgrow3 _; have hown3H := Lib.hid hown3; have hgrow3H := Lib.hid hgrow3; clear hown3 hgrow3)
        go_roundg (n - (k + 1))
        case measure => omega
        case rel =>
          refine ⟨k + 1, by omega, by go_num, Lib.hid ?_, Lib.hid (hbw.out.trans (below_app hsz (fun b e => (hrow.out.lt b e).1) hgrow3H.out))⟩
          rw [leadL_yes hdH.out, List.length_append, hNH.out]
          have h3 := hown3H.out
          simpa [intsI] using h3
      · have hd' : (distTo n (edgeB bs f) y k).isSome = false := by simpa using hd
        rw [leftI_neg hd'] at cx
        have hdH := Lib.hid hd'
        clear hd hd'
        go_wp2
        go_roundg (n - (k + 1))
        case measure => omega
        case rel => exact ⟨k + 1, by omega, by go_num, Lib.hid (by rw [leadL_no hdH.out]; exact hrow.out), hbw⟩
    · obtain rfl : k = n := by omega
      go_wp2
      go_ret
      exact ⟨_, rfl, ownsRow_rebase hrow.out hs1, hb1H.out.trans (hbw.out.mono hs1)⟩
end Go.Proofs.YtmhgjgclclnmaaaGreat
/- Plain: bonds' indices are in range; what a code 0 says. -/


namespace Go.Proofs.YtmhgjgclclnmaaaGreat
open Go.RowKit Go.Shelf
attribute [local go_sem] BelowBy.cell BelowBy.cell_drew stillUpon givesUpon BelowBy.cell_drew2 BelowBy.cell_drew3

theorem bondsOk {gs : List Gl} {ts : List Ti} {xs : List Pl} (hV : Valid gs ts xs) : BondsOk xs.length (bondsL gs ts xs) :=
  ⟨fun i e h => (bondsL_at hV h).1, fun i e h => (bondsL_at hV h).2.1, fun i e h => bondsL_ne h, fun i e h => (bondsL_at hV h).2.2⟩
end Go.Proofs.YtmhgjgclclnmaaaGreat
/- Walks: the reference's Connectivity, SeparatingPart. -/



namespace Go.Proofs.YtmhgjgclclnmaaaGreat
open Go.RowKit Go.Shelf
attribute [local go_sem] BelowBy.cell BelowBy.cell_drew stillUpon givesUpon BelowBy.cell_drew2 BelowBy.cell_drew3

end Go.Proofs.YtmhgjgclclnmaaaGreat
/- Walk: the reference's SeparatingPart. -/

namespace Go.Proofs.YtmhgjgclclnmaaaGreat
open Go.RowKit Go.Shelf
attribute [local go_sem] BelowBy.cell BelowBy.cell_drew stillUpon givesUpon BelowBy.cell_drew2 BelowBy.cell_drew3

noncomputable def connR (gs : List Gl) (ts : List Ti) (xs : List Pl) (x y : Int) : Int × Int := if fullCode (validAsmB gs ts xs) xs.length x y = 0 then ((flowV xs.length (bondsL gs ts xs) x.toNat y.toNat : Int), 0) else (0, fullCode (validAsmB gs ts xs) xs.length x y)
noncomputable def lastF (gs : List Gl) (ts : List Ti) (xs : List Pl) (x y : Nat) : Nat → Int := iterF xs.length (bondsL gs ts xs) x y (flowV xs.length (bondsL gs ts xs) x y)
noncomputable def sepR (gs : List Gl) (ts : List Ti) (xs : List Pl) (x y : Int) : List Int × Int := if fullCode (validAsmB gs ts xs) xs.length x y = 0 then (intsI (leadL xs.length (edgeB (bondsL gs ts xs) (lastF gs ts xs x.toNat y.toNat)) y.toNat xs.length), 0) else ([], fullCode (validAsmB gs ts xs) xs.length x y)
end Go.Proofs.YtmhgjgclclnmaaaGreat
/- Plain facts: at most one bond joins two points, so the flow between two points is the bond's. -/

namespace Go.Proofs.YtmhgjgclclnmaaaGreat
def sameB (a b c d : Nat) : Prop := (a = c ∧ b = d) ∨ (a = d ∧ b = c)
theorem sameB.symm {a b c d : Nat} (h : sameB a b c d) : sameB c d a b := by
  rcases h with ⟨h1, h2⟩ | ⟨h1, h2⟩
  · exact .inl ⟨h1.symm, h2.symm⟩
  · exact .inr ⟨h2.symm, h1.symm⟩
end Go.Proofs.YtmhgjgclclnmaaaGreat
/- Walk: the reference's FlowBetween. -/


namespace Go.Proofs.YtmhgjgclclnmaaaGreat
open Go.RowKit Go.Shelf
attribute [local go_sem] BelowBy.cell BelowBy.cell_drew stillUpon givesUpon BelowBy.cell_drew2 BelowBy.cell_drew3

/-- the first k flows -/
noncomputable def flowL (gs : List Gl) (ts : List Ti) (xs : List Pl) (x y k : Nat) : List Int := (List.range k).map (lastF gs ts xs x y)
noncomputable def fluxR (gs : List Gl) (ts : List Ti) (xs : List Pl) (x y : Int) : Int × List Int × Int := if fullCode (validAsmB gs ts xs) xs.length x y = 0 then ((flowV xs.length (bondsL gs ts xs) x.toNat y.toNat : Int), flowL gs ts xs x.toNat y.toNat (bondsL gs ts xs).length, 0) else (0, [], fullCode (validAsmB gs ts xs) xs.length x y)
end Go.Proofs.YtmhgjgclclnmaaaGreat
/- Plain facts: the greatest flow is accepted, it has the strength of the part that separates, and a flow that is too great is not accepted. -/



namespace Go.Proofs.YtmhgjgclclnmaaaGreat
section
variable {gs : List Gl} {ts : List Ti} {xs : List Pl} {x y : Nat}
end
theorem lead_idx (n : Nat) (E : Nat → Nat → Bool) (y : Nat) : ∀ m, intsI (leadL n E y m) = idxL (fun v => (distTo n E y v).isSome) m
  | 0 => rfl
  | m + 1 => by
    have ih := lead_idx n E y m
    cases h : (distTo n E y m).isSome
    · rw [leadL_no h, idxL_no h, ih]
    · rw [leadL_yes h, idxL_yes h, ← ih]
      unfold intsI
      rw [List.map_append]
      rfl
theorem sum_cut {n : Nat} {bs : List Bd} (hb : BondsOk n bs) (c : Nat → Bool) : ∀ k, k ≤ bs.length → sumB (keepLC (idxL c n) bs k) = cutP bs c k := by
  intro k
  induction k with
  | zero => intro _; rfl
  | succ k ih =>
    intro hk
    have ih := ih (by omega)
    have he := List.getElem?_eq_getElem (show k < bs.length by omega)
    obtain ⟨e, hee⟩ : ∃ e, bs[k] = e := ⟨_, rfl⟩
    rw [hee] at he
    have hd : cutDel (idxL c n) e = decide (c e.a = c e.b) := by
      unfold cutDel
      rw [hasB_idx (hb.a k e he), hasB_idx (hb.b k e he)]
      cases c e.a <;> cases c e.b <;> rfl
    rw [cutP_some c he]
    by_cases h : c e.a = c e.b
    · rw [keepL_succ_noC he (by rw [hd]; exact decide_eq_true h), ih, if_pos h]
      omega
    · rw [keepL_succ_yesC he (by rw [hd]; exact decide_eq_false h), sumB_app, ih, if_neg h]
      simp [sumB]
/-- the class of the tiles from which there is a way to y in the end -/
noncomputable def nearC (gs : List Gl) (ts : List Ti) (xs : List Pl) (x y : Nat) : Nat → Bool := fun v => (distTo xs.length (edgeB (bondsL gs ts xs) (lastF gs ts xs x y)) y v).isSome
end Go.Proofs.YtmhgjgclclnmaaaGreat
