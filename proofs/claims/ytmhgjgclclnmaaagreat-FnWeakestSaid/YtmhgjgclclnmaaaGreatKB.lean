import Derived.Test.YtmhgjgclclnmaaaGreatKX
import Derived.Test.YtmhgjgclclnmaaaGreatP2
import Derived.Test.YtmhgjgclclnmaaaGreatKM
set_option linter.unusedSimpArgs false
set_option linter.unusedVariables false
/- Plain facts: the weakest cut: the order of cuts, the best one so far. -/

namespace Go.Proofs.YtmhgjgclclnmaaaGreat
/-- which of two lists of a length comes first -/
def lexB : List Int → List Int → Bool
  | a :: s, b :: p => if a = b then lexB s p else decide (a < b)
  | _, _ => false
theorem lexB_at : ∀ {l1 l2 : List Int} {k : Nat} {a b : Int}, (∀ j, j < k → l1[j]? = l2[j]?) → l1[k]? = some a → l2[k]? = some b → a ≠ b → lexB l1 l2 = decide (a < b)
  | [], _, _, _, _, _, ha, _, _ => by simp at ha
  | _ :: _, [], _, _, _, _, _, hb, _ => by simp at hb
  | x :: s, y :: p, 0, a, b, _, ha, hb, hne => by
    simp at ha hb
    subst ha; subst hb
    simp [lexB, hne]
  | x :: s, y :: p, k + 1, a, b, h, ha, hb, hne => by
    have h0 := h 0 (by omega)
    simp at h0
    subst h0
    simp only [lexB, if_true]
    refine lexB_at (k := k) (fun j hj => ?_) (by simpa using ha) (by simpa using hb) hne
    have := h (j + 1) (by omega)
    simpa using this
theorem lexB_refl : ∀ l : List Int, lexB l l = false
  | [] => rfl
  | a :: s => by simp [lexB, lexB_refl s]
theorem lexB_end {l1 l2 : List Int} {n : Nat} (h1 : l1.length = n) (h2 : l2.length = n) (h : ∀ j, j < n → l1[j]? = l2[j]?) : l1 = l2 := by
  apply List.ext_getElem?
  intro j
  by_cases hj : j < n
  · exact h j hj
  · rw [List.getElem?_eq_none (by omega), List.getElem?_eq_none (by omega)]
/-- a cut comes before another one -/
def beforeI (v : Int) (s : List Int) (b : Int) (p : List Int) : Bool := decide (v < b) || (decide (v = b) && (decide (s.length < p.length) || (decide (s.length = p.length) && lexB s p)))
theorem beforeI_ne {v b : Int} {s p : List Int} (h : v ≠ b) : beforeI v s b p = decide (v < b) := by simp [beforeI, h]
theorem beforeI_len {v : Int} {s p : List Int} (h : s.length ≠ p.length) : beforeI v s v p = decide (s.length < p.length) := by simp [beforeI, h]
theorem beforeI_lex {v : Int} {s p : List Int} (h : s.length = p.length) : beforeI v s v p = lexB s p := by simp [beforeI, h]
def before (v : Nat) (s : List Nat) (b : Int) (p : List Nat) : Bool := beforeI (v : Int) (intsI s) b (intsI p)
theorem before_lt {v : Nat} {s p : List Nat} {b : Int} (h : before v s b p = true) : (v : Int) ≤ b := by
  simp only [before, beforeI, Bool.or_eq_true, decide_eq_true_eq, Bool.and_eq_true] at h
  omega
theorem before_ge {v : Nat} {s p : List Nat} {b : Int} (h : before v s b p = false) : b ≤ (v : Int) := by
  simp [before, beforeI] at h
  omega
noncomputable def sideL (n : Nat) (bs : List Bd) (y : Nat) : List Nat := leadL n (edgeB bs (iterF n bs 0 y (flowV n bs 0 y))) y n
/-- the best of the cuts between 0 and the first k others -/
noncomputable def weakK (n : Nat) (bs : List Bd) : Nat → Int × List Nat
  | 0 => (-1, [])
  | k + 1 => if (decide ((weakK n bs k).1 < 0) || before (flowV n bs 0 (k + 1)) (sideL n bs (k + 1)) (weakK n bs k).1 (weakK n bs k).2) = true then ((flowV n bs 0 (k + 1) : Int), sideL n bs (k + 1)) else weakK n bs k
theorem weakK_take {n : Nat} {bs : List Bd} {k : Nat} {b : Int} {p : List Nat} (h : weakK n bs k = (b, p)) (hb : (decide (b < 0) || before (flowV n bs 0 (k + 1)) (sideL n bs (k + 1)) b p) = true) : weakK n bs (k + 1) = ((flowV n bs 0 (k + 1) : Int), sideL n bs (k + 1)) := by
  simp only [weakK, h]
  exact if_pos hb
theorem weakK_keep {n : Nat} {bs : List Bd} {k : Nat} {b : Int} {p : List Nat} (h : weakK n bs k = (b, p)) (hb : (decide (b < 0) || before (flowV n bs 0 (k + 1)) (sideL n bs (k + 1)) b p) = false) : weakK n bs (k + 1) = (b, p) := by
  simp only [weakK, h]
  exact if_neg (by rw [hb]; decide)
theorem weakY_take {n : Nat} {bs : List Bd} {y fv : Nat} {b : Int} {sd p : List Nat} (hy : 1 ≤ y) (h : weakK n bs (y - 1) = (b, p)) (hf : flowV n bs 0 y = fv) (hs : sideL n bs y = sd) (hb : (decide (b < 0) || before fv sd b p) = true) : weakK n bs (y + 1 - 1) = ((fv : Int), sd) := by
  obtain ⟨k, rfl⟩ : ∃ k, y = k + 1 := ⟨y - 1, by omega⟩
  subst hf; subst hs
  exact weakK_take h hb
theorem weakY_keep {n : Nat} {bs : List Bd} {y fv : Nat} {b : Int} {sd p : List Nat} (hy : 1 ≤ y) (h : weakK n bs (y - 1) = (b, p)) (hf : flowV n bs 0 y = fv) (hs : sideL n bs y = sd) (hb : (decide (b < 0) || before fv sd b p) = false) : weakK n bs (y + 1 - 1) = (b, p) := by
  obtain ⟨k, rfl⟩ : ∃ k, y = k + 1 := ⟨y - 1, by omega⟩
  subst hf; subst hs
  exact weakK_keep h hb
theorem weakK_one (n : Nat) (bs : List Bd) : weakK n bs 1 = ((flowV n bs 0 1 : Int), sideL n bs 1) := weakK_take (k := 0) rfl (by simp)
theorem weakK_nat (n : Nat) (bs : List Bd) : ∀ k, ∃ (b : Nat) (p : List Nat), weakK n bs (k + 1) = ((b : Int), p) ∧ p.length ≤ n
  | 0 => ⟨_, _, weakK_one n bs, leadL_len _ _ _ _⟩
  | k + 1 => by
    obtain ⟨b, p, h, hp⟩ := weakK_nat n bs k
    cases hb : (decide ((b : Int) < 0) || before (flowV n bs 0 (k + 1 + 1)) (sideL n bs (k + 1 + 1)) (b : Int) p)
    · exact ⟨b, p, weakK_keep h hb, hp⟩
    · exact ⟨_, _, weakK_take h hb, leadL_len _ _ _ _⟩
theorem weakK_len (n : Nat) (bs : List Bd) (k : Nat) : (weakK n bs k).2.length ≤ n := by
  cases k with
  | zero => simp [weakK]
  | succ k => obtain ⟨b, p, h, hp⟩ := weakK_nat n bs k; rw [h]; exact hp
/-- the best one is as weak as the weakest -/
theorem weakK_least (n : Nat) (bs : List Bd) (t : Nat) : ∀ k, ((t : Int) ≤ (weakK n bs (k + 1)).1 ↔ ∀ y, y < k + 1 → t ≤ flowV n bs 0 (y + 1))
  | 0 => by
    rw [weakK_one]
    constructor
    · intro h y hy
      obtain rfl : y = 0 := by omega
      exact Int.ofNat_le.1 h
    · intro h
      exact Int.ofNat_le.2 (h 0 (by omega))
  | k + 1 => by
    have ih := weakK_least n bs t k
    obtain ⟨b, p, h, hp⟩ := weakK_nat n bs k
    rw [h] at ih
    have hs : (∀ y, y < k + 1 + 1 → t ≤ flowV n bs 0 (y + 1)) ↔ (∀ y, y < k + 1 → t ≤ flowV n bs 0 (y + 1)) ∧ t ≤ flowV n bs 0 (k + 1 + 1) := by
      constructor
      · intro h; exact ⟨fun y hy => h y (by omega), h (k + 1) (by omega)⟩
      · intro h y hy
        rcases Nat.lt_succ_iff_lt_or_eq.1 hy with h1 | rfl
        · exact h.1 y h1
        · exact h.2
    rw [hs, ← ih]
    have ht : (t : Int) ≤ (b : Int) ↔ t ≤ b := Int.ofNat_le
    cases hb : (decide ((b : Int) < 0) || before (flowV n bs 0 (k + 1 + 1)) (sideL n bs (k + 1 + 1)) (b : Int) p)
    · rw [weakK_keep h hb]
      simp only [Bool.or_eq_false_iff] at hb
      have := before_ge hb.2
      dsimp only
      omega
    · rw [weakK_take h hb]
      dsimp only
      simp only [Bool.or_eq_true, decide_eq_true_eq] at hb
      have : (flowV n bs 0 (k + 1 + 1) : Int) ≤ b := by
        rcases hb with hb | hb
        · omega
        · exact before_lt hb
      omega
/-- the state before round y -/
theorem weakY_cases (n : Nat) (bs : List Bd) {y : Nat} (hy : 1 ≤ y) : (y = 1 ∧ weakK n bs (y - 1) = (-1, [])) ∨ ∃ (b : Nat) (p : List Nat), weakK n bs (y - 1) = ((b : Int), p) ∧ p.length ≤ n := by
  by_cases h1 : y = 1
  · subst h1; exact .inl ⟨rfl, rfl⟩
  · obtain ⟨b, p, h, hp⟩ := weakK_nat n bs (y - 2)
    rw [show y - 2 + 1 = y - 1 by omega] at h
    exact .inr ⟨b, p, h, hp⟩
/-- the weakest cut of a graph -/
noncomputable def weakR (n : Nat) (bs : List Bd) : Int × List Nat := weakK n bs (n - 1)
end Go.Proofs.YtmhgjgclclnmaaaGreat
/- Plain facts: the groups that bonds connect, by labels. -/

namespace Go.Proofs.YtmhgjgclclnmaaaGreat
/-- one bond: both groups get the lesser label -/
def relab (f : Nat → Nat) (a b : Nat) : Nat → Nat := fun k => if f k = max (f a) (f b) then min (f a) (f b) else f k
def labOf (bs : List Bd) : Nat → Nat → Nat
  | 0 => fun k => k
  | m + 1 => match bs[m]? with
    | some e => relab (labOf bs m) e.a e.b
    | none => labOf bs m
theorem labOf_succ {bs : List Bd} {m : Nat} {e : Bd} (h : bs[m]? = some e) : labOf bs (m + 1) = relab (labOf bs m) e.a e.b := by simp only [labOf, h]
/-- labels: no greater than the number; a label's own label is itself -/
structure Lab (f : Nat → Nat) : Prop where
  le : ∀ k, f k ≤ k
  idem : ∀ k, f (f k) = f k
theorem Lab.id : Lab fun k => k := ⟨fun _ => Nat.le_refl _, fun _ => rfl⟩
theorem Lab.relab {f : Nat → Nat} (h : Lab f) (a b : Nat) : Lab (relab f a b) := by
  constructor
  · intro k
    unfold Proofs.YtmhgjgclclnmaaaGreat.relab
    have := h.le k
    split <;> omega
  · intro k
    have hk := h.idem k
    have ha := h.idem a
    have hb := h.idem b
    unfold Proofs.YtmhgjgclclnmaaaGreat.relab
    by_cases h1 : f k = max (f a) (f b)
    · rw [if_pos h1]
      rcases Nat.le_total (f a) (f b) with h2 | h2
      · rw [Nat.min_eq_left h2, Nat.max_eq_right h2, ha]
        split <;> omega
      · rw [Nat.min_eq_right h2, Nat.max_eq_left h2, hb]
        split <;> omega
    · rw [if_neg h1, hk, if_neg h1]
theorem Lab.of (bs : List Bd) (m : Nat) : Lab (labOf bs m) := by
  induction m with
  | zero => exact Lab.id
  | succ m ih =>
    simp only [labOf]
    split
    · exact ih.relab _ _
    · exact ih
/-- the groups of the numbers below m, in the order of their least numbers -/
def rootsL (f : Nat → Nat) (m : Nat) : List Nat := (List.range m).filter fun i => f i == i
def partL (f : Nat → Nat) (m r : Nat) : List Nat := (List.range m).filter fun k => f k == r
def groupsL (f : Nat → Nat) (m : Nat) : List (List Nat) := (rootsL f m).map (partL f m)
theorem rootsL_succ_yes {f : Nat → Nat} {m : Nat} (h : f m = m) : rootsL f (m + 1) = rootsL f m ++ [m] := by
  unfold rootsL; rw [List.range_succ, List.filter_append]; simp [h]
theorem rootsL_succ_no {f : Nat → Nat} {m : Nat} (h : f m ≠ m) : rootsL f (m + 1) = rootsL f m := by
  unfold rootsL; rw [List.range_succ, List.filter_append]; simp [h]
theorem partL_succ_yes {f : Nat → Nat} {m r : Nat} (h : f m = r) : partL f (m + 1) r = partL f m r ++ [m] := by
  unfold partL; rw [List.range_succ, List.filter_append]; simp [h]
theorem partL_succ_no {f : Nat → Nat} {m r : Nat} (h : f m ≠ r) : partL f (m + 1) r = partL f m r := by
  unfold partL; rw [List.range_succ, List.filter_append]; simp [h]
theorem mem_rootsL {f : Nat → Nat} {m r : Nat} : r ∈ rootsL f m ↔ r < m ∧ f r = r := by
  unfold rootsL; simp
end Go.Proofs.YtmhgjgclclnmaaaGreat
/- Plain facts: the groups grow by one number. -/

namespace Go.Proofs.YtmhgjgclclnmaaaGreat
theorem rootsL_get {f : Nat → Nat} : ∀ (m k r : Nat), (rootsL f m)[k]? = some r → r < m ∧ f r = r ∧ k = (rootsL f r).length := by
  intro m
  induction m with
  | zero => intro k r h; simp [rootsL] at h
  | succ m ih =>
    intro k r h
    by_cases hm : f m = m
    · rw [rootsL_succ_yes hm] at h
      rcases Nat.lt_or_ge k (rootsL f m).length with hlt | hge
      · rw [List.getElem?_append_left hlt] at h
        have := ih k r h
        exact ⟨by omega, this.2⟩
      · have hl := (List.getElem?_eq_some_iff.1 h).1
        simp at hl
        obtain rfl : k = (rootsL f m).length := by omega
        simp at h
        subst h
        exact ⟨by omega, hm, rfl⟩
    · rw [rootsL_succ_no hm] at h
      have := ih k r h
      exact ⟨by omega, this.2⟩
theorem rootsL_at {f : Nat → Nat} {m r : Nat} (h : r < m) (hr : f r = r) : (rootsL f m)[(rootsL f r).length]? = some r := by
  have hmem : r ∈ rootsL f m := mem_rootsL.2 ⟨h, hr⟩
  obtain ⟨k, hk⟩ := List.mem_iff_getElem?.1 hmem
  obtain ⟨_, _, rfl⟩ := rootsL_get m k r hk
  exact hk
theorem rootsL_lt {f : Nat → Nat} {m r : Nat} (h : r < m) (hr : f r = r) : (rootsL f r).length < (rootsL f m).length :=
  (List.getElem?_eq_some_iff.1 (rootsL_at h hr)).1
theorem rootsL_len (f : Nat → Nat) (m : Nat) : (rootsL f m).length ≤ m := by
  unfold rootsL
  have := List.length_filter_le (fun i => f i == i) (List.range m)
  simpa using this
theorem partL_new {f : Nat → Nat} (hf : ∀ k, f k ≤ k) {m r : Nat} (h : m ≤ r) : partL f m r = [] := by
  unfold partL
  rw [List.filter_eq_nil_iff]
  intro k hk
  have := hf k
  simp at hk ⊢
  omega
theorem groupsL_get {f : Nat → Nat} {m k : Nat} : (groupsL f m)[k]? = ((rootsL f m)[k]?).map (partL f m) := by
  unfold groupsL; rw [List.getElem?_map]
/-- number m joins the group of its label -/
theorem groupsL_old {f : Nat → Nat} {m : Nat} (h : f m ≠ m) (hlt : f m < m) (hr : f (f m) = f m) :
    groupsL f (m + 1) = (groupsL f m).set (rootsL f (f m)).length (partL f m (f m) ++ [m]) := by
  apply List.ext_getElem?
  intro j
  have hk := rootsL_lt hlt hr
  rw [List.getElem?_set, groupsL_get, groupsL_get, rootsL_succ_no h]
  have hgl : (groupsL f m).length = (rootsL f m).length := by simp [groupsL]
  by_cases e : (rootsL f (f m)).length = j
  · subst e
    rw [if_pos rfl, if_pos (by rw [hgl]; exact hk), rootsL_at hlt hr]
    simp [partL_succ_yes]
  · rw [if_neg e]
    cases hg : (rootsL f m)[j]? with
    | none => rfl
    | some r =>
      obtain ⟨h1, h2, h3⟩ := rootsL_get m j r hg
      have : f m ≠ r := by
        rintro rfl
        exact e h3.symm
      simp [partL_succ_no this]
/-- number m opens a group -/
theorem groupsL_new {f : Nat → Nat} (hf : ∀ k, f k ≤ k) {m : Nat} (h : f m = m) : groupsL f (m + 1) = groupsL f m ++ [[m]] := by
  unfold groupsL
  rw [rootsL_succ_yes h, List.map_append]
  congr 1
  · apply List.map_congr_left
    intro r hr
    have := (mem_rootsL.1 hr).1
    exact partL_succ_no (by omega)
  · simp [partL_succ_yes h, partL_new hf (Nat.le_refl m)]
/-- where a label's group lies -/
def placeM (f : Nat → Nat) (i : Nat) (r : Nat) : Option Nat := if r < i ∧ f r = r then some (rootsL f r).length else none
theorem placeM_zero (f : Nat → Nat) : placeM f 0 = fun _ => none := by
  funext r; unfold placeM; simp
theorem placeM_old {f : Nat → Nat} {m : Nat} (h : f m ≠ m) : placeM f (m + 1) = placeM f m := by
  funext r
  unfold placeM
  by_cases hr : r < m
  · simp [hr, Nat.lt_succ_of_lt hr]
  · by_cases e : r = m
    · subst e; simp [h]
    · have : ¬ r < m + 1 := by omega
      simp [hr, this]
theorem placeM_new {f : Nat → Nat} {m : Nat} (h : f m = m) : placeM f (m + 1) = fun j => if j = m then some (rootsL f m).length else placeM f m j := by
  funext r
  unfold placeM
  by_cases e : r = m
  · subst e; simp [h]
  · rw [if_neg e]
    by_cases hr : r < m
    · simp [hr, Nat.lt_succ_of_lt hr]
    · have : ¬ r < m + 1 := by omega
      simp [hr, this]
theorem placeM_yes {f : Nat → Nat} {m r : Nat} (h : r < m) (hr : f r = r) : placeM f m r = some (rootsL f r).length := by
  unfold placeM; rw [if_pos ⟨h, hr⟩]
theorem placeM_no {f : Nat → Nat} {m : Nat} : placeM f m m = none := by
  unfold placeM; simp
end Go.Proofs.YtmhgjgclclnmaaaGreat
/- Plain facts: bonds turned around carry the same flows; bonds between groups. -/


namespace Go.Proofs.YtmhgjgclclnmaaaGreat
def swB (e : Bd) : Bd := ⟨e.b, e.a, e.s⟩
/-- some of the bonds are turned around -/
structure TurnedB (bs cs : List Bd) (σ : Nat → Bool) : Prop where
  len : cs.length = bs.length
  get : ∀ (i : Nat) (e : Bd), bs[i]? = some e → cs[i]? = some (if σ i = true then swB e else e)
section
variable {n : Nat} {bs cs : List Bd} {σ : Nat → Bool}
end
/-- the bonds of at least a strength -/
def strongL (t : Int) (bs : List Bd) (k : Nat) : List Bd := (bs.take k).filter fun b => decide (t ≤ b.s)
theorem strongL_len (t : Int) (bs : List Bd) (k : Nat) : (strongL t bs k).length ≤ k := Nat.le_trans (List.length_filter_le _ _) (List.length_take_le _ _)
theorem strongL_mem {t : Int} {bs : List Bd} {k j : Nat} {e : Bd} (h : (strongL t bs k)[j]? = some e) : ∃ q : Nat, bs[q]? = some e := by
  have hm := List.mem_of_getElem? h
  unfold strongL at hm
  obtain ⟨h1, _⟩ := List.mem_filter.1 hm
  obtain ⟨q, hq, rfl⟩ := List.mem_iff_getElem.1 (List.mem_of_mem_take h1)
  exact ⟨q, List.getElem?_eq_getElem hq⟩
/-- the numbers of a list get a name -/
def asg (f : Nat → Nat) (g : Nat) (l : List Nat) (j : Nat) : Nat → Nat := fun x => if x ∈ l.take j then g else f x
theorem asg_zero (f : Nat → Nat) (g : Nat) (l : List Nat) : asg f g l 0 = f := by funext x; simp [asg]
theorem asg_succ {f : Nat → Nat} {g : Nat} {l : List Nat} {j k : Nat} (h : l[j]? = some k) : asg f g l (j + 1) = fun x => if x = k then g else asg f g l j x := by
  obtain ⟨hj, rfl⟩ := List.getElem?_eq_some_iff.1 h
  funext x
  unfold asg
  rw [List.take_succ_eq_append_getElem hj]
  by_cases hx : x = l[j]
  · rw [if_pos hx, if_pos (List.mem_append.2 (.inr (List.mem_singleton.2 hx)))]
  · rw [if_neg hx]
    by_cases hm : x ∈ l.take j
    · rw [if_pos hm, if_pos (List.mem_append.2 (.inl hm))]
    · rw [if_neg hm, if_neg (fun h => (List.mem_append.1 h).elim hm fun h => hx (List.mem_singleton.1 h))]
/-- the names of the first g groups' numbers -/
def ofG (gss : List (List Nat)) : Nat → Nat → Nat
  | 0 => fun _ => 0
  | g + 1 => match gss[g]? with
    | some l => asg (ofG gss g) g l l.length
    | none => ofG gss g
theorem ofG_succ {gss : List (List Nat)} {g : Nat} {l : List Nat} (h : gss[g]? = some l) : ofG gss (g + 1) = asg (ofG gss g) g l l.length := by simp only [ofG, h]
theorem ofG_lt (gss : List (List Nat)) : ∀ g x, ofG gss g x < g ∨ ofG gss g x = 0
  | 0, x => .inr rfl
  | g + 1, x => by
    have ih := ofG_lt gss g x
    cases hg : gss[g]? with
    | some l =>
      rw [ofG_succ hg]
      unfold asg
      split
      · exact .inl (Nat.lt_succ_self _)
      · rcases ih with h | h
        · exact .inl (by omega)
        · exact .inr h
    | none =>
      have : ofG gss (g + 1) = ofG gss g := by simp only [ofG, hg]
      rw [this]
      rcases ih with h | h
      · exact .inl (by omega)
      · exact .inr h
/-- the bonds between the groups -/
def ctrI (f : Nat → Nat) (bs : List Bd) (k : Nat) : List Bd := (bs.take k).filterMap fun e => if f e.a = f e.b then none else some ⟨f e.a, f e.b, e.s⟩
theorem ctrI_yes {f : Nat → Nat} {bs : List Bd} {k : Nat} {e : Bd} (he : bs[k]? = some e) (h : f e.a ≠ f e.b) : ctrI f bs (k + 1) = ctrI f bs k ++ [⟨f e.a, f e.b, e.s⟩] := by
  obtain ⟨hk, rfl⟩ := List.getElem?_eq_some_iff.1 he
  unfold ctrI; rw [List.take_succ_eq_append_getElem hk, List.filterMap_append]; simp [h]
theorem ctrI_no {f : Nat → Nat} {bs : List Bd} {k : Nat} {e : Bd} (he : bs[k]? = some e) (h : f e.a = f e.b) : ctrI f bs (k + 1) = ctrI f bs k := by
  obtain ⟨hk, rfl⟩ := List.getElem?_eq_some_iff.1 he
  unfold ctrI; rw [List.take_succ_eq_append_getElem hk, List.filterMap_append]; simp [h]
theorem ctrI_len (f : Nat → Nat) (bs : List Bd) (k : Nat) : (ctrI f bs k).length ≤ k := Nat.le_trans (List.length_filterMap_le _ _) (List.length_take_le _ _)
theorem ctrI_ok {f : Nat → Nat} {n c : Nat} {bs : List Bd} (hb : BondsOk n bs) (hf : ∀ x, f x < c) (k : Nat) : BondsOk c (ctrI f bs k) := by
  have hm : ∀ (i : Nat) (e : Bd), (ctrI f bs k)[i]? = some e → ∃ (q : Nat) (e' : Bd), bs[q]? = some e' ∧ f e'.a ≠ f e'.b ∧ e = ⟨f e'.a, f e'.b, e'.s⟩ := fun i e h => by
    have hm := List.mem_of_getElem? h
    unfold ctrI at hm
    obtain ⟨e', h1, h2⟩ := List.mem_filterMap.1 hm
    obtain ⟨q, hq, rfl⟩ := List.mem_iff_getElem.1 (List.mem_of_mem_take h1)
    split at h2
    · cases h2
    · rename_i hne
      injection h2 with h2
      exact ⟨q, _, List.getElem?_eq_getElem hq, hne, h2.symm⟩
  refine ⟨fun i e h => ?_, fun i e h => ?_, fun i e h => ?_, fun i e h => ?_⟩
  all_goals obtain ⟨q, e', h1, h2, rfl⟩ := hm i e h
  · exact hf _
  · exact hf _
  · exact h2
  · exact hb.s q e' h1
/-- the groups of points that strong bonds make -/
def grpT (n : Nat) (bs : List Bd) (t : Int) : List (List Nat) := groupsL (labOf (strongL t bs bs.length) (strongL t bs bs.length).length) n
theorem grpT_lt {n g k x : Nat} {bs : List Bd} {t : Int} {l : List Nat} (hg : (grpT n bs t)[g]? = some l) (hk : l[k]? = some x) : x < n := by
  unfold grpT at hg
  rw [groupsL_get] at hg
  obtain ⟨r, _, rfl⟩ := Option.map_eq_some_iff.1 hg
  have hm := List.mem_of_getElem? hk
  unfold partL at hm
  exact List.mem_range.1 (List.mem_filter.1 hm).1
theorem grpT_len (n : Nat) (bs : List Bd) (t : Int) : (grpT n bs t).length ≤ n := by
  unfold grpT groupsL
  rw [List.length_map]
  exact rootsL_len _ _
theorem grpT_len2 {n g : Nat} {bs : List Bd} {t : Int} {l : List Nat} (hg : (grpT n bs t)[g]? = some l) : l.length ≤ n := by
  unfold grpT at hg
  rw [groupsL_get] at hg
  obtain ⟨r, _, rfl⟩ := Option.map_eq_some_iff.1 hg
  unfold partL
  have := List.length_filter_le (fun k => labOf (strongL t bs bs.length) (strongL t bs bs.length).length k == r) (List.range n)
  simpa using this
/-- the group of each point -/
def nameT (n : Nat) (bs : List Bd) (t : Int) : Nat → Nat := ofG (grpT n bs t) (grpT n bs t).length
theorem nameT_lt {n : Nat} {bs : List Bd} {t : Int} (h : 0 < (grpT n bs t).length) (x : Nat) : nameT n bs t x < (grpT n bs t).length := by
  rcases ofG_lt (grpT n bs t) (grpT n bs t).length x with h1 | h1
  · exact h1
  · unfold nameT; omega
theorem nameT_le (n : Nat) (bs : List Bd) (t : Int) (x : Nat) : nameT n bs t x ≤ n := by
  have := grpT_len n bs t
  rcases ofG_lt (grpT n bs t) (grpT n bs t).length x with h1 | h1
  · unfold nameT; omega
  · unfold nameT; omega
/-- the bonds between the groups, as the program lists them -/
def shrI (n : Nat) (bs : List Bd) (t : Int) : List Bd := ctrI (nameT n bs t) bs bs.length
/-- no cut is weaker -/
noncomputable def holdsB (n : Nat) (bs : List Bd) (t : Nat) : Bool := decide (∀ y, y < n - 1 → t ≤ flowV n bs 0 (y + 1))
theorem holdsB_few {n : Nat} (h : n < 2) (bs : List Bd) (t : Nat) : holdsB n bs t = true := by
  unfold holdsB
  exact decide_eq_true fun y hy => by omega
theorem holdsB_weak {n : Nat} (h : ¬ n < 2) (bs : List Bd) (t : Nat) : holdsB n bs t = decide ((t : Int) ≤ (weakR n bs).1) := by
  unfold holdsB weakR
  obtain ⟨k, hk⟩ : ∃ k, n - 1 = k + 1 := ⟨n - 2, by omega⟩
  rw [hk]
  exact decide_eq_decide.2 (weakK_least n bs t k).symm
/-- whether they are stable, and the code -/
noncomputable def stabR (n : Nat) (bs : List Bd) (t : Nat) : Bool × Int := if 64 < (grpT n bs t).length then (false, 4) else (holdsB (grpT n bs t).length (shrI n bs t) t, 0)
end Go.Proofs.YtmhgjgclclnmaaaGreat
/- Plain facts: contraction along strong bonds keeps whether all cuts are strong. -/


namespace Go.Proofs.YtmhgjgclclnmaaaGreat
/-- points of one label lie on one side of a part that splits no bond -/
theorem lab_same {bs : List Bd} {P : Nat → Bool} (h : ∀ (i : Nat) (e : Bd), bs[i]? = some e → P e.a = P e.b) : ∀ (m u v : Nat), labOf bs m u = labOf bs m v → P u = P v := by
  intro m
  induction m with
  | zero =>
    intro u v huv
    obtain rfl : u = v := huv
    rfl
  | succ m ih =>
    intro u v huv
    cases he : bs[m]? with
    | none =>
      simp only [labOf, he] at huv
      exact ih u v huv
    | some e =>
      rw [labOf_succ he] at huv
      have hab := h m e he
      have key : ∀ z, labOf bs m z = max (labOf bs m e.a) (labOf bs m e.b) ∨ labOf bs m z = min (labOf bs m e.a) (labOf bs m e.b) → P z = P e.a := fun z hz => by
        have : labOf bs m z = labOf bs m e.a ∨ labOf bs m z = labOf bs m e.b := by omega
        rcases this with h1 | h1
        · exact ih z e.a h1
        · exact (ih z e.b h1).trans hab.symm
      unfold relab at huv
      by_cases h1 : labOf bs m u = max (labOf bs m e.a) (labOf bs m e.b)
      · rw [if_pos h1] at huv
        by_cases h2 : labOf bs m v = max (labOf bs m e.a) (labOf bs m e.b)
        · rw [key u (.inl h1), key v (.inl h2)]
        · rw [if_neg h2] at huv
          rw [key u (.inl h1), key v (.inr huv.symm)]
      · rw [if_neg h1] at huv
        by_cases h2 : labOf bs m v = max (labOf bs m e.a) (labOf bs m e.b)
        · rw [if_pos h2] at huv
          rw [key u (.inr huv), key v (.inl h2)]
        · rw [if_neg h2] at huv
          exact ih u v huv
/-- the name of a point is the place of its label -/
theorem ofG_groups {f : Nat → Nat} {n j x : Nat} (hx : x < n) (hj : (rootsL f n)[j]? = some (f x)) : ∀ k, k ≤ (rootsL f n).length → ofG (groupsL f n) k x = if j < k then j else 0 := by
  intro k
  induction k with
  | zero => intro _; rfl
  | succ k ih =>
    intro hk
    have ih := ih (by omega)
    obtain ⟨r, hr⟩ : ∃ r, (rootsL f n)[k]? = some r := ⟨_, List.getElem?_eq_getElem (by omega)⟩
    have hg : (groupsL f n)[k]? = some (partL f n r) := by rw [groupsL_get, hr]; rfl
    rw [ofG_succ hg]
    unfold asg
    rw [List.take_length]
    by_cases hjk : j = k
    · subst hjk
      rw [hr] at hj
      have hrf : r = f x := Option.some.inj hj
      have hm : x ∈ partL f n r := by
        unfold partL
        rw [List.mem_filter]
        exact ⟨List.mem_range.2 hx, by simp [hrf]⟩
      rw [if_pos hm, if_pos (Nat.lt_succ_self _)]
    · have hm : ¬ x ∈ partL f n r := fun hm => by
        unfold partL at hm
        rw [List.mem_filter] at hm
        have hfr : f x = r := by simpa using hm.2
        obtain ⟨_, _, e1⟩ := rootsL_get n k r hr
        obtain ⟨_, _, e2⟩ := rootsL_get n j (f x) hj
        rw [hfr] at e2
        omega
      rw [if_neg hm, ih]
      by_cases h1 : j < k
      · rw [if_pos h1, if_pos (by omega)]
      · rw [if_neg h1, if_neg (by omega)]
section
variable {n : Nat} {bs : List Bd} {t : Int}
/-- the label of a point among the strong bonds -/
def labT (bs : List Bd) (t : Int) : Nat → Nat := labOf (strongL t bs bs.length) (strongL t bs bs.length).length
theorem nameT_root {x : Nat} (hx : x < n) : ∃ j, (rootsL (labT bs t) n)[j]? = some (labT bs t x) ∧ nameT n bs t x = j ∧ j < (grpT n bs t).length := by
  have hL := Lab.of (strongL t bs bs.length) (strongL t bs bs.length).length
  have hle := hL.le x
  have hj := rootsL_at (f := labT bs t) (m := n) (r := labT bs t x) (by show labOf _ _ x < n; omega) (hL.idem x)
  have hjl := (List.getElem?_eq_some_iff.1 hj).1
  have hgl : (grpT n bs t).length = (rootsL (labT bs t) n).length := by unfold grpT groupsL labT; rw [List.length_map]
  refine ⟨_, hj, ?_, by rw [hgl]; exact hjl⟩
  have := ofG_groups hx hj (rootsL (labT bs t) n).length (Nat.le_refl _)
  rw [if_pos hjl] at this
  unfold nameT
  rw [hgl]
  exact this
theorem nameT_lab {x y : Nat} (hx : x < n) (hy : y < n) (h : nameT n bs t x = nameT n bs t y) : labT bs t x = labT bs t y := by
  obtain ⟨i, h1, h2, _⟩ := nameT_root (bs := bs) (t := t) hx
  obtain ⟨j, h3, h4, _⟩ := nameT_root (bs := bs) (t := t) hy
  obtain rfl : i = j := by omega
  rw [h1] at h3
  exact Option.some.inj h3
theorem nameT_zero (h0 : 0 < n) : nameT n bs t 0 = 0 := by
  obtain ⟨j, h1, h2, _⟩ := nameT_root (bs := bs) (t := t) h0
  obtain ⟨_, _, e⟩ := rootsL_get n j _ h1
  have hL := (Lab.of (strongL t bs bs.length) (strongL t bs bs.length).length).le 0
  have : labT bs t 0 = 0 := by show labOf _ _ 0 = 0; omega
  rw [this] at e
  rw [h2, e]
  rfl
theorem nameT_onto {g : Nat} (h : g < (grpT n bs t).length) : ∃ x, x < n ∧ nameT n bs t x = g := by
  have hgl : (grpT n bs t).length = (rootsL (labT bs t) n).length := by unfold grpT groupsL labT; rw [List.length_map]
  rw [hgl] at h
  obtain ⟨r, hr⟩ : ∃ r, (rootsL (labT bs t) n)[g]? = some r := ⟨_, List.getElem?_eq_getElem h⟩
  obtain ⟨hrn, hrr, he⟩ := rootsL_get n g r hr
  refine ⟨r, hrn, ?_⟩
  obtain ⟨j, h1, h2, _⟩ := nameT_root (bs := bs) (t := t) hrn
  obtain ⟨_, _, e2⟩ := rootsL_get n j _ h1
  rw [hrr] at e2
  omega
theorem grpT_pos (h : 0 < n) : 0 < (grpT n bs t).length := by
  obtain ⟨j, _, _, hj⟩ := nameT_root (bs := bs) (t := t) h
  omega
theorem strong_get {k : Nat} {e : Bd} (h : (strongL t bs bs.length)[k]? = some e) : t ≤ e.s ∧ ∃ q : Nat, bs[q]? = some e := by
  refine ⟨?_, strongL_mem h⟩
  have hm := List.mem_of_getElem? h
  unfold strongL at hm
  have := (List.mem_filter.1 hm).2
  simpa using this
end
/-- a cut of the groups, seen at the points -/
theorem cutP_ctr (f : Nat → Nat) (bs : List Bd) (P : Nat → Bool) : ∀ m, m ≤ bs.length → cutP (ctrI f bs m) P (ctrI f bs m).length = cutP bs (fun v => P (f v)) m := by
  intro m
  induction m with
  | zero => intro _; rfl
  | succ m ih =>
    intro hm
    have ih := ih (by omega)
    have he := List.getElem?_eq_getElem (show m < bs.length by omega)
    obtain ⟨e, hee⟩ : ∃ e, bs[m] = e := ⟨_, rfl⟩
    rw [hee] at he
    rw [cutP_some _ he]
    by_cases h : f e.a = f e.b
    · have hP : P (f e.a) = P (f e.b) := by rw [h]
      rw [ctrI_no he h, ih]
      simp [hP]
    · rw [ctrI_yes he h, List.length_append]
      have hold : ∀ k, k ≤ (ctrI f bs m).length → cutP (ctrI f bs m ++ [⟨f e.a, f e.b, e.s⟩]) P k = cutP (ctrI f bs m) P k := by
        intro k
        induction k with
        | zero => intro _; rfl
        | succ k ihk =>
          intro hk
          have hg := List.getElem?_eq_getElem (show k < (ctrI f bs m).length by omega)
          rw [cutP_some P hg, cutP_some P ((List.getElem?_append_left (by omega)).trans hg), ihk (by omega)]
      have hl : (ctrI f bs m ++ [(⟨f e.a, f e.b, e.s⟩ : Bd)])[(ctrI f bs m).length]? = some ⟨f e.a, f e.b, e.s⟩ := by simp
      simp only [List.length_cons, List.length_nil, Nat.zero_add]
      rw [cutP_some P hl, hold _ (Nat.le_refl _), ih]
theorem holds_groups {n : Nat} {bs : List Bd} (hb : BondsOk n bs) (h0 : 0 < n) (t : Nat) : holdsB (grpT n bs t).length (shrI n bs t) t = holdsB n bs t := by
  have hg0 := grpT_pos (bs := bs) (t := (t : Int)) h0
  have hbg : BondsOk (grpT n bs t).length (shrI n bs t) := ctrI_ok hb (nameT_lt hg0) _
  have hz := nameT_zero (bs := bs) (t := (t : Int)) h0
  unfold holdsB
  apply decide_eq_decide.2
  constructor
  · intro h y hy
    have hyn : y + 1 < n := by omega
    have hne : (0 : Nat) ≠ y + 1 := by omega
    have hc := flow_eq_cut hb h0 hne
    obtain ⟨P, hP⟩ : ∃ P, farP n bs 0 (y + 1) = P := ⟨_, rfl⟩
    have hP0 := farP_x hb h0 hne
    have hPy := farP_y n bs 0 (y + 1)
    rw [hP] at hc hP0 hPy
    by_cases hs : ∃ (i : Nat) (e : Bd), bs[i]? = some e ∧ (t : Int) ≤ e.s ∧ P e.a ≠ P e.b
    · obtain ⟨i, e, he, h1, h2⟩ := hs
      have := cutP_ge hb he h2 bs.length (List.getElem?_eq_some_iff.1 he).1
      omega
    · have hl : ∀ {u v : Nat}, u < n → v < n → nameT n bs t u = nameT n bs t v → P u = P v := fun {u v} hu hv huv => by
        refine lab_same (bs := strongL t bs bs.length) (fun i e he => ?_) _ u v (nameT_lab hu hv huv)
        obtain ⟨h1, q, hq⟩ := strong_get he
        cases hpa : P e.a <;> cases hpb : P e.b
        · rfl
        · exact (hs ⟨q, e, hq, h1, by rw [hpa, hpb]; decide⟩).elim
        · exact (hs ⟨q, e, hq, h1, by rw [hpa, hpb]; decide⟩).elim
        · rfl
      have hQ : ∀ g, ∃ c : Bool, ∀ u, u < n → nameT n bs t u = g → P u = c := fun g => by
        by_cases hx : ∃ u, u < n ∧ nameT n bs t u = g
        · obtain ⟨u, hu, hug⟩ := hx
          exact ⟨P u, fun v hv hvg => hl hv hu (hvg.trans hug.symm)⟩
        · exact ⟨true, fun u hu hug => (hx ⟨u, hu, hug⟩).elim⟩
      obtain ⟨Q, hQ⟩ : ∃ Q : Nat → Bool, ∀ g u, u < n → nameT n bs t u = g → P u = Q g := ⟨fun g => Classical.choose (hQ g), fun g u hu hug => Classical.choose_spec (hQ g) u hu hug⟩
      have hcc := cutP_ctr (nameT n bs t) bs Q bs.length (Nat.le_refl _)
      rw [cutP_congr hb (Q := P) (fun v hv => (hQ _ v hv rfl).symm)] at hcc
      obtain ⟨g, hg⟩ : ∃ g, nameT n bs t (y + 1) = g := ⟨_, rfl⟩
      have hgl : g < (grpT n bs t).length := by rw [← hg]; exact nameT_lt hg0 _
      have hQ0 := hQ 0 0 h0 hz
      have hQg := hQ g (y + 1) hyn hg
      rw [hP0] at hQ0
      rw [hPy] at hQg
      have hgz : g ≠ 0 := fun e => by
        subst e
        rw [← hQ0] at hQg
        cases hQg
      obtain ⟨g', rfl⟩ : ∃ g', g = g' + 1 := ⟨g - 1, by omega⟩
      have h1 := h g' (by omega)
      have h2 := flow_le_cut hbg (x := 0) (y := g' + 1) hg0 (P := Q) hQ0.symm hQg.symm
      have h3 : cutP (shrI n bs t) Q (shrI n bs t).length = cutP bs P bs.length := hcc
      omega
  · intro h g hg
    obtain ⟨y, hy, hyg⟩ := nameT_onto (bs := bs) (t := (t : Int)) (n := n) (g := g + 1) (by omega)
    have hy0 : y ≠ 0 := fun e => by
      subst e
      omega
    obtain ⟨y', rfl⟩ : ∃ y', y = y' + 1 := ⟨y - 1, by omega⟩
    have h1 := h y' (by omega)
    have hne : (0 : Nat) ≠ g + 1 := by omega
    have hc := flow_eq_cut hbg hg0 hne
    have hP0 := farP_x hbg hg0 hne
    have hPy := farP_y (grpT n bs t).length (shrI n bs t) 0 (g + 1)
    obtain ⟨P, hP⟩ : ∃ P, farP (grpT n bs t).length (shrI n bs t) 0 (g + 1) = P := ⟨_, rfl⟩
    rw [hP] at hc hP0 hPy
    have hcc : cutP (shrI n bs t) P (shrI n bs t).length = cutP bs (fun v => P (nameT n bs t v)) bs.length := cutP_ctr (nameT n bs t) bs P bs.length (Nat.le_refl _)
    have h2 := flow_le_cut hb (x := 0) (y := y' + 1) h0 (P := fun v => P (nameT n bs t v)) (by rw [hz]; exact hP0) (by rw [hyg]; exact hPy)
    omega
/-- up to 64 points: stable is that no cut is weak -/
theorem stabR_small {n : Nat} {bs : List Bd} (hb : BondsOk n bs) (h : n ≤ 64) (t : Nat) : stabR n bs t = (holdsB n bs t, 0) := by
  have hl := grpT_len n bs t
  unfold stabR
  rw [if_neg (by omega)]
  by_cases h0 : 0 < n
  · rw [holds_groups hb h0]
  · obtain rfl : n = 0 := by omega
    rw [holdsB_few (by omega), holdsB_few (by omega)]
end Go.Proofs.YtmhgjgclclnmaaaGreat
/- Plain facts: the weakest cut: its strength, and that no cut is weaker. -/

namespace Go.Proofs.YtmhgjgclclnmaaaGreat
theorem weakK_at (n : Nat) (bs : List Bd) : ∀ k, ∃ y, y ≤ k ∧ weakK n bs (k + 1) = ((flowV n bs 0 (y + 1) : Int), sideL n bs (y + 1))
  | 0 => ⟨0, Nat.le_refl _, weakK_one n bs⟩
  | k + 1 => by
    obtain ⟨y, hy, h⟩ := weakK_at n bs k
    cases hb : (decide ((flowV n bs 0 (y + 1) : Int) < 0) || before (flowV n bs 0 (k + 1 + 1)) (sideL n bs (k + 1 + 1)) (flowV n bs 0 (y + 1) : Int) (sideL n bs (y + 1)))
    · exact ⟨y, by omega, weakK_keep h hb⟩
    · exact ⟨k + 1, Nat.le_refl _, weakK_take h hb⟩
/-- the part of the weakest cut, as a class -/
noncomputable def weakC (n : Nat) (bs : List Bd) (y : Nat) : Nat → Bool := fun v => (distTo n (edgeB bs (finF n bs 0 y)) y v).isSome
theorem weakC_far (n : Nat) (bs : List Bd) (y : Nat) : weakC n bs y = fun v => !farP n bs 0 y v := by
  funext v
  unfold weakC farP
  simp
/-- the weakest cut is that between 0 and some other point -/
theorem weakR_at {n : Nat} {bs : List Bd} (hb : BondsOk n bs) (h2 : 2 ≤ n) : ∃ y, 0 < y ∧ y < n ∧ (weakR n bs).1 = (flowV n bs 0 y : Int) ∧ (weakR n bs).2 = leadL n (edgeB bs (finF n bs 0 y)) y n ∧
    cutP bs (weakC n bs y) bs.length = (weakR n bs).1 ∧ weakC n bs y 0 = false ∧ weakC n bs y y = true := by
  obtain ⟨y, hy, h⟩ := weakK_at n bs (n - 2)
  rw [show n - 2 + 1 = n - 1 by omega] at h
  refine ⟨y + 1, by omega, by omega, by unfold weakR; rw [h], by unfold weakR; rw [h]; rfl, ?_, ?_, ?_⟩
  · unfold weakR
    rw [h, weakC_far, cutP_not]
    exact (flow_eq_cut hb (by omega) (by omega)).symm
  · rw [weakC_far]
    have := farP_x hb (x := 0) (y := y + 1) (by omega) (by omega)
    simp [this]
  · rw [weakC_far]
    simp [farP_y]
theorem weakR_le {n : Nat} {bs : List Bd} (h2 : 2 ≤ n) {y : Nat} (hy0 : 0 < y) (hy : y < n) : (weakR n bs).1 ≤ (flowV n bs 0 y : Int) := by
  obtain ⟨b, p, h, _⟩ := weakK_nat n bs (n - 2)
  have hl := weakK_least n bs b (n - 2)
  rw [h] at hl
  have := hl.1 (Int.le_refl _) (y - 1) (by omega)
  rw [show y - 1 + 1 = y by omega] at this
  rw [show n - 2 + 1 = n - 1 by omega] at h
  unfold weakR
  rw [h]
  exact Int.ofNat_le.2 this
/-- no cut is weaker than the weakest one -/
theorem weak_least {n : Nat} {bs : List Bd} (hb : BondsOk n bs) (h2 : 2 ≤ n) {P : Nat → Bool} (hp : ∃ u, u < n ∧ P u = true) (hq : ∃ v, v < n ∧ P v = false) : (weakR n bs).1 ≤ cutP bs P bs.length := by
  cases h0 : P 0
  · obtain ⟨u, hu, hpu⟩ := hp
    have hu0 : 0 < u := by
      rcases Nat.eq_zero_or_pos u with e | e
      · subst e; rw [h0] at hpu; cases hpu
      · exact e
    rw [← cutP_not]
    exact Int.le_trans (weakR_le h2 hu0 hu) (flow_le_cut hb (by omega) (P := fun v => !P v) (by simp [h0]) (by simp [hpu]))
  · obtain ⟨v, hv, hpv⟩ := hq
    have hv0 : 0 < v := by
      rcases Nat.eq_zero_or_pos v with e | e
      · subst e; rw [h0] at hpv; cases hpv
      · exact e
    exact Int.le_trans (weakR_le h2 hv0 hv) (flow_le_cut hb (by omega) h0 hpv)
end Go.Proofs.YtmhgjgclclnmaaaGreat
/- Plain facts: an assembly broken apart by weakest cuts, by classes of its places. -/


namespace Go.Proofs.YtmhgjgclclnmaaaGreat
theorem idxL_get {c : Nat → Bool} : ∀ {k j : Nat} {v : Int}, (idxL c k)[j]? = some v → ∃ x : Nat, v = (x : Int) ∧ x < k ∧ c x = true ∧ (idxL c x).length = j
  | 0, j, v, h => by simp [idxL] at h
  | k + 1, j, v, h => by
    cases hc : c k
    · rw [idxL_no hc] at h
      obtain ⟨x, h1, h2, h3⟩ := idxL_get h
      exact ⟨x, h1, by omega, h3⟩
    · rw [idxL_yes hc] at h
      rcases Nat.lt_or_ge j (idxL c k).length with hlt | hge
      · rw [List.getElem?_append_left hlt] at h
        obtain ⟨x, h1, h2, h3⟩ := idxL_get h
        exact ⟨x, h1, by omega, h3⟩
      · have hl := (List.getElem?_eq_some_iff.1 h).1
        simp only [List.length_append, List.length_cons, List.length_nil] at hl
        obtain rfl : j = (idxL c k).length := by omega
        simp at h
        exact ⟨k, h.symm, Nat.lt_succ_self k, hc, rfl⟩
theorem idxL_pos {c : Nat → Bool} {k x : Nat} (hx : x < k) (h : c x = true) : 0 < (idxL c k).length := List.length_pos_of_mem (idxL_has hx h)
theorem filter_idx (c p : Nat → Bool) : ∀ k, (idxL c k).filter (fun v => p v.toNat) = idxL (fun i => c i && p i) k
  | 0 => rfl
  | k + 1 => by
    have ih := filter_idx c p k
    cases hc : c k
    · rw [idxL_no hc, ih, idxL_no (by simp [hc])]
    · rw [idxL_yes hc, List.filter_append, ih]
      cases hp : p k
      · rw [idxL_no (by simp [hp])]
        simp [hp]
      · rw [idxL_yes (by simp [hc, hp])]
        simp [hp]
theorem idxL_split {c c1 c2 : Nat → Bool} : ∀ {k : Nat}, (∀ i, i < k → c i = (c1 i || c2 i)) → (∀ i, i < k → ¬ (c1 i = true ∧ c2 i = true)) → (idxL c k).length = (idxL c1 k).length + (idxL c2 k).length
  | 0, _, _ => rfl
  | k + 1, h1, h2 => by
    have ih := idxL_split (c := c) (c1 := c1) (c2 := c2) (k := k) (fun i hi => h1 i (by omega)) (fun i hi => h2 i (by omega))
    have a := h1 k (Nat.lt_succ_self k)
    have b := h2 k (Nat.lt_succ_self k)
    cases e1 : c1 k <;> cases e2 : c2 k
    · rw [idxL_no (by rw [a, e1, e2]; rfl), idxL_no e1, idxL_no e2, ih]
    · rw [idxL_yes (by rw [a, e1, e2]; rfl), idxL_no e1, idxL_yes e2, List.length_append, List.length_append, ih]; omega
    · rw [idxL_yes (by rw [a, e1, e2]; rfl), idxL_yes e1, idxL_no e2, List.length_append, List.length_append, ih]
      simp only [List.length_cons, List.length_nil]; omega
    · exact (b ⟨e1, e2⟩).elim
theorem selL_len (c : Nat → Bool) (xs : List Pl) : (selL c xs).length = (idxL c xs.length).length := by unfold selL; rw [List.length_map]
/-- the part of a class is stable -/
def St (gs : List Gl) (ts : List Ti) (xs : List Pl) (t : Nat) (c : Nat → Bool) : Prop := holdsB (selL c xs).length (bondsL gs ts (selL c xs)) t = true
/-- broken apart -/
inductive Brk (gs : List Gl) (ts : List Ti) (xs : List Pl) (t : Nat) : (Nat → Bool) → List (Nat → Bool) → Prop
  | leaf (c : Nat → Bool) (h : St gs ts xs t c) : Brk gs ts xs t c [c]
  | node (c c1 c2 : Nat → Bool) (L1 L2 : List (Nat → Bool)) (hu : ∀ i, i < xs.length → c i = (c1 i || c2 i)) (hd : ∀ i, i < xs.length → ¬ (c1 i = true ∧ c2 i = true)) (hn : ¬ St gs ts xs t c) (h1 : Brk gs ts xs t c1 L1) (h2 : Brk gs ts xs t c2 L2) : Brk gs ts xs t c (L1 ++ L2)
section
variable {gs : List Gl} {ts : List Ti} {xs : List Pl} {t : Nat} {c : Nat → Bool} {L : List (Nat → Bool)}
theorem Brk.all (h : Brk gs ts xs t c L) : ∀ d ∈ L, St gs ts xs t d := by
  induction h with
  | leaf c h => intro d hd; simp at hd; subst hd; exact h
  | node c c1 c2 L1 L2 _ _ _ _ _ ih1 ih2 =>
    intro d hd
    rcases List.mem_append.1 hd with hd | hd
    · exact ih1 d hd
    · exact ih2 d hd
theorem Brk.pos (h : Brk gs ts xs t c L) : 0 < L.length := by
  induction h with
  | leaf c h => simp
  | node c c1 c2 L1 L2 _ _ _ _ _ ih1 ih2 => rw [List.length_append]; omega
theorem Brk.one (h : Brk gs ts xs t c L) : L.length = 1 ↔ St gs ts xs t c := by
  cases h with
  | leaf c h => exact ⟨fun _ => h, fun _ => rfl⟩
  | node c c1 c2 L1 L2 _ _ hn h1 h2 =>
    have p1 := h1.pos
    have p2 := h2.pos
    refine ⟨fun e => ?_, fun e => (hn e).elim⟩
    rw [List.length_append] at e
    omega
def cntB (q : Nat) (L : List (Nat → Bool)) : Nat := (L.map fun d => (idxL d q).length).sum
theorem cntB_app (q : Nat) (L M : List (Nat → Bool)) : cntB q (L ++ M) = cntB q L + cntB q M := by unfold cntB; rw [List.map_append, List.sum_append_nat]
theorem Brk.count (h : Brk gs ts xs t c L) : cntB xs.length L = (idxL c xs.length).length := by
  induction h with
  | leaf c h => simp [cntB]
  | node c c1 c2 L1 L2 hu hd _ _ _ ih1 ih2 => rw [cntB_app, ih1, ih2, idxL_split hu hd]
end
/-- all places -/
def allC : Nat → Bool := fun _ => true
theorem idxL_all (n : Nat) : (idxL allC n).length = n := by
  induction n with
  | zero => rfl
  | succ n ih => rw [idxL_yes rfl, List.length_append, ih]; rfl
theorem selL_all (xs : List Pl) : selL allC xs = xs := by
  apply List.ext_getElem?
  intro j
  unfold selL
  rw [List.getElem?_map]
  by_cases hj : j < xs.length
  · have hl : j < (idxL allC xs.length).length := by rw [idxL_all]; exact hj
    obtain ⟨v, hv⟩ : ∃ v, (idxL allC xs.length)[j]? = some v := ⟨_, List.getElem?_eq_getElem hl⟩
    obtain ⟨x, rfl, hx, _, hp⟩ := idxL_get hv
    rw [idxL_all] at hp
    subst hp
    rw [hv]
    simp [plK, List.getElem?_eq_getElem hj]
  · rw [List.getElem?_eq_none (by rw [idxL_all]; omega), List.getElem?_eq_none (by omega)]
    rfl
/-- the two parts of a class: by the places of its tiles in it -/
def oneC (c d : Nat → Bool) : Nat → Bool := fun i => c i && !d (idxL c i).length
def twoC (c d : Nat → Bool) : Nat → Bool := fun i => c i && d (idxL c i).length
theorem parts_u (c d : Nat → Bool) (i : Nat) : c i = (oneC c d i || twoC c d i) := by unfold oneC twoC; cases c i <;> cases d (idxL c i).length <;> rfl
theorem parts_d (c d : Nat → Bool) (i : Nat) : ¬ (oneC c d i = true ∧ twoC c d i = true) := by unfold oneC twoC; cases c i <;> cases d (idxL c i).length <;> decide
/-- the first j places of a class that lie in the cut, or do not -/
def preL (c : Nat → Bool) (q j : Nat) (p : Nat → Bool) : List Int := ((idxL c q).take j).filter fun v => p v.toNat
theorem preL_yes {c p : Nat → Bool} {q j x : Nat} (h : (idxL c q)[j]? = some (x : Int)) (hp : p x = true) : preL c q (j + 1) p = preL c q j p ++ [(x : Int)] := by
  obtain ⟨hj, he⟩ := List.getElem?_eq_some_iff.1 h
  unfold preL
  rw [List.take_succ_eq_append_getElem hj, List.filter_append, he]
  simp [hp]
theorem preL_no {c p : Nat → Bool} {q j x : Nat} (h : (idxL c q)[j]? = some (x : Int)) (hp : p x = false) : preL c q (j + 1) p = preL c q j p := by
  obtain ⟨hj, he⟩ := List.getElem?_eq_some_iff.1 h
  unfold preL
  rw [List.take_succ_eq_append_getElem hj, List.filter_append, he]
  simp [hp]
theorem preL_end {c p : Nat → Bool} {q j : Nat} (h : (idxL c q).length ≤ j) : preL c q j p = idxL (fun i => c i && p i) q := by
  unfold preL
  rw [List.take_of_length_le h, filter_idx]
/-- a part that is not stable is split by its weakest cut -/
theorem split_weak {gs : List Gl} {ts : List Ti} {xs : List Pl} (hV : Valid gs ts xs) {c : Nat → Bool} {m : Nat} (hm : (idxL c xs.length).length = m) (h2 : 2 ≤ m) :
    ∃ d : Nat → Bool, (weakR m (bondsL gs ts (selL c xs))).2.map (fun x => ((x : Nat) : Int)) = idxL d m ∧
      (idxL (oneC c d) xs.length).length < m ∧ (idxL (twoC c d) xs.length).length < m := by
  have hVs := sel_valid hV c
  have hml : (selL c xs).length = m := by rw [selL_len, hm]
  have hb : BondsOk m (bondsL gs ts (selL c xs)) := by rw [← hml]; exact bondsOk hVs
  obtain ⟨y, hy0, hy, _, hw, _, h0, h1⟩ := weakR_at hb h2
  refine ⟨weakC m (bondsL gs ts (selL c xs)) y, ?_, ?_⟩
  · rw [hw]
    exact lead_idx m _ y m
  · have hs := idxL_split (k := xs.length) (fun i _ => parts_u c (weakC m (bondsL gs ts (selL c xs)) y) i) (fun i _ => parts_d c (weakC m (bondsL gs ts (selL c xs)) y) i)
    have hp : ∀ j, j < m → ∃ x : Nat, x < xs.length ∧ c x = true ∧ (idxL c x).length = j := fun j hj => by
      obtain ⟨v, hv⟩ : ∃ v, (idxL c xs.length)[j]? = some v := ⟨_, List.getElem?_eq_getElem (by omega)⟩
      obtain ⟨x, _, h1, h2, h3⟩ := idxL_get hv
      exact ⟨x, h1, h2, h3⟩
    obtain ⟨x0, a1, a2, a3⟩ := hp 0 (by omega)
    obtain ⟨x1, b1, b2, b3⟩ := hp y hy
    have p1 : 0 < (idxL (oneC c (weakC m (bondsL gs ts (selL c xs)) y)) xs.length).length := idxL_pos a1 (by unfold oneC; rw [a2, a3, h0]; rfl)
    have p2 : 0 < (idxL (twoC c (weakC m (bondsL gs ts (selL c xs)) y)) xs.length).length := idxL_pos b1 (by unfold twoC; rw [b2, b3, h1]; rfl)
    omega
end Go.Proofs.YtmhgjgclclnmaaaGreat
