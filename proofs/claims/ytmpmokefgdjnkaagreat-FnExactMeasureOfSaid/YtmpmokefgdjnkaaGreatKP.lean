import Derived.Test.YtmpmokefgdjnkaaGreatKF
import Derived.Test.YtmpmokefgdjnkaaGreatKR
set_option linter.unusedSimpArgs false
set_option linter.unusedVariables false
/- Plain facts: the weakest cut: the order of cuts, the best one so far. -/

namespace Go.Proofs.YtmpmokefgdjnkaaGreat
/-- which of two lists of a length comes first -/
def lexB : List Int → List Int → Bool
  | a :: s, b :: p => if a = b then lexB s p else decide (a < b)
  | _, _ => false
theorem lexB_at : ∀ {l1 l2 : List Int} {k : Nat} {a b : Int}, (∀ j, j < k → l1[j]? = l2[j]?) → l1[k]? = some a → l2[k]? = some b → a ≠ b → lexB l1 l2 = decide (a < b)
  | [], _, _, _, _, _, ha, _, _ => by simp at ha
  | _ :: _, [], _, _, _, _, _, hb, _ => by simp at hb
  | x :: s, y :: p, 0, a, b, _, ha, hb, hne => by
    simp at ha hb
    subst ha; subst hb
    simp [lexB, hne]
  | x :: s, y :: p, k + 1, a, b, h, ha, hb, hne => by
    have h0 := h 0 (by omega)
    simp at h0
    subst h0
    simp only [lexB, if_true]
    refine lexB_at (k := k) (fun j hj => ?_) (by simpa using ha) (by simpa using hb) hne
    have := h (j + 1) (by omega)
    simpa using this
theorem lexB_refl : ∀ l : List Int, lexB l l = false
  | [] => rfl
  | a :: s => by simp [lexB, lexB_refl s]
theorem lexB_end {l1 l2 : List Int} {n : Nat} (h1 : l1.length = n) (h2 : l2.length = n) (h : ∀ j, j < n → l1[j]? = l2[j]?) : l1 = l2 := by
  apply List.ext_getElem?
  intro j
  by_cases hj : j < n
  · exact h j hj
  · rw [List.getElem?_eq_none (by omega), List.getElem?_eq_none (by omega)]
/-- a cut comes before another one -/
def beforeI (v : Int) (s : List Int) (b : Int) (p : List Int) : Bool := decide (v < b) || (decide (v = b) && (decide (s.length < p.length) || (decide (s.length = p.length) && lexB s p)))
theorem beforeI_ne {v b : Int} {s p : List Int} (h : v ≠ b) : beforeI v s b p = decide (v < b) := by simp [beforeI, h]
theorem beforeI_len {v : Int} {s p : List Int} (h : s.length ≠ p.length) : beforeI v s v p = decide (s.length < p.length) := by simp [beforeI, h]
theorem beforeI_lex {v : Int} {s p : List Int} (h : s.length = p.length) : beforeI v s v p = lexB s p := by simp [beforeI, h]
def before (v : Nat) (s : List Nat) (b : Int) (p : List Nat) : Bool := beforeI (v : Int) (intsI s) b (intsI p)
theorem before_lt {v : Nat} {s p : List Nat} {b : Int} (h : before v s b p = true) : (v : Int) ≤ b := by
  simp only [before, beforeI, Bool.or_eq_true, decide_eq_true_eq, Bool.and_eq_true] at h
  omega
theorem before_ge {v : Nat} {s p : List Nat} {b : Int} (h : before v s b p = false) : b ≤ (v : Int) := by
  simp [before, beforeI] at h
  omega
noncomputable def sideL (n : Nat) (bs : List Bd) (y : Nat) : List Nat := leadL n (edgeB bs (iterF n bs 0 y (flowV n bs 0 y))) y n
/-- the best of the cuts between 0 and the first k others -/
noncomputable def weakK (n : Nat) (bs : List Bd) : Nat → Int × List Nat
  | 0 => (-1, [])
  | k + 1 => if (decide ((weakK n bs k).1 < 0) || before (flowV n bs 0 (k + 1)) (sideL n bs (k + 1)) (weakK n bs k).1 (weakK n bs k).2) = true then ((flowV n bs 0 (k + 1) : Int), sideL n bs (k + 1)) else weakK n bs k
theorem weakK_take {n : Nat} {bs : List Bd} {k : Nat} {b : Int} {p : List Nat} (h : weakK n bs k = (b, p)) (hb : (decide (b < 0) || before (flowV n bs 0 (k + 1)) (sideL n bs (k + 1)) b p) = true) : weakK n bs (k + 1) = ((flowV n bs 0 (k + 1) : Int), sideL n bs (k + 1)) := by
  simp only [weakK, h]
  exact if_pos hb
theorem weakK_keep {n : Nat} {bs : List Bd} {k : Nat} {b : Int} {p : List Nat} (h : weakK n bs k = (b, p)) (hb : (decide (b < 0) || before (flowV n bs 0 (k + 1)) (sideL n bs (k + 1)) b p) = false) : weakK n bs (k + 1) = (b, p) := by
  simp only [weakK, h]
  exact if_neg (by rw [hb]; decide)
theorem weakY_take {n : Nat} {bs : List Bd} {y fv : Nat} {b : Int} {sd p : List Nat} (hy : 1 ≤ y) (h : weakK n bs (y - 1) = (b, p)) (hf : flowV n bs 0 y = fv) (hs : sideL n bs y = sd) (hb : (decide (b < 0) || before fv sd b p) = true) : weakK n bs (y + 1 - 1) = ((fv : Int), sd) := by
  obtain ⟨k, rfl⟩ : ∃ k, y = k + 1 := ⟨y - 1, by omega⟩
  subst hf; subst hs
  exact weakK_take h hb
theorem weakY_keep {n : Nat} {bs : List Bd} {y fv : Nat} {b : Int} {sd p : List Nat} (hy : 1 ≤ y) (h : weakK n bs (y - 1) = (b, p)) (hf : flowV n bs 0 y = fv) (hs : sideL n bs y = sd) (hb : (decide (b < 0) || before fv sd b p) = false) : weakK n bs (y + 1 - 1) = (b, p) := by
  obtain ⟨k, rfl⟩ : ∃ k, y = k + 1 := ⟨y - 1, by omega⟩
  subst hf; subst hs
  exact weakK_keep h hb
theorem weakK_one (n : Nat) (bs : List Bd) : weakK n bs 1 = ((flowV n bs 0 1 : Int), sideL n bs 1) := weakK_take (k := 0) rfl (by simp)
theorem weakK_nat (n : Nat) (bs : List Bd) : ∀ k, ∃ (b : Nat) (p : List Nat), weakK n bs (k + 1) = ((b : Int), p) ∧ p.length ≤ n
  | 0 => ⟨_, _, weakK_one n bs, leadL_len _ _ _ _⟩
  | k + 1 => by
    obtain ⟨b, p, h, hp⟩ := weakK_nat n bs k
    cases hb : (decide ((b : Int) < 0) || before (flowV n bs 0 (k + 1 + 1)) (sideL n bs (k + 1 + 1)) (b : Int) p)
    · exact ⟨b, p, weakK_keep h hb, hp⟩
    · exact ⟨_, _, weakK_take h hb, leadL_len _ _ _ _⟩
theorem weakK_len (n : Nat) (bs : List Bd) (k : Nat) : (weakK n bs k).2.length ≤ n := by
  cases k with
  | zero => simp [weakK]
  | succ k => obtain ⟨b, p, h, hp⟩ := weakK_nat n bs k; rw [h]; exact hp
/-- the best one is as weak as the weakest -/
theorem weakK_least (n : Nat) (bs : List Bd) (t : Nat) : ∀ k, ((t : Int) ≤ (weakK n bs (k + 1)).1 ↔ ∀ y, y < k + 1 → t ≤ flowV n bs 0 (y + 1))
  | 0 => by
    rw [weakK_one]
    constructor
    · intro h y hy
      obtain rfl : y = 0 := by omega
      exact Int.ofNat_le.1 h
    · intro h
      exact Int.ofNat_le.2 (h 0 (by omega))
  | k + 1 => by
    have ih := weakK_least n bs t k
    obtain ⟨b, p, h, hp⟩ := weakK_nat n bs k
    rw [h] at ih
    have hs : (∀ y, y < k + 1 + 1 → t ≤ flowV n bs 0 (y + 1)) ↔ (∀ y, y < k + 1 → t ≤ flowV n bs 0 (y + 1)) ∧ t ≤ flowV n bs 0 (k + 1 + 1) := by
      constructor
      · intro h; exact ⟨fun y hy => h y (by omega), h (k + 1) (by omega)⟩
      · intro h y hy
        rcases Nat.lt_succ_iff_lt_or_eq.1 hy with h1 | rfl
        · exact h.1 y h1
        · exact h.2
    rw [hs, ← ih]
    have ht : (t : Int) ≤ (b : Int) ↔ t ≤ b := Int.ofNat_le
    cases hb : (decide ((b : Int) < 0) || before (flowV n bs 0 (k + 1 + 1)) (sideL n bs (k + 1 + 1)) (b : Int) p)
    · rw [weakK_keep h hb]
      simp only [Bool.or_eq_false_iff] at hb
      have := before_ge hb.2
      dsimp only
      omega
    · rw [weakK_take h hb]
      dsimp only
      simp only [Bool.or_eq_true, decide_eq_true_eq] at hb
      have : (flowV n bs 0 (k + 1 + 1) : Int) ≤ b := by
        rcases hb with hb | hb
        · omega
        · exact before_lt hb
      omega
/-- the state before round y -/
theorem weakY_cases (n : Nat) (bs : List Bd) {y : Nat} (hy : 1 ≤ y) : (y = 1 ∧ weakK n bs (y - 1) = (-1, [])) ∨ ∃ (b : Nat) (p : List Nat), weakK n bs (y - 1) = ((b : Int), p) ∧ p.length ≤ n := by
  by_cases h1 : y = 1
  · subst h1; exact .inl ⟨rfl, rfl⟩
  · obtain ⟨b, p, h, hp⟩ := weakK_nat n bs (y - 2)
    rw [show y - 2 + 1 = y - 1 by omega] at h
    exact .inr ⟨b, p, h, hp⟩
/-- the weakest cut of a graph -/
noncomputable def weakR (n : Nat) (bs : List Bd) : Int × List Nat := weakK n bs (n - 1)
end Go.Proofs.YtmpmokefgdjnkaaGreat
/- Plain facts: the groups that bonds connect, by labels. -/

namespace Go.Proofs.YtmpmokefgdjnkaaGreat
/-- one bond: both groups get the lesser label -/
def relab (f : Nat → Nat) (a b : Nat) : Nat → Nat := fun k => if f k = max (f a) (f b) then min (f a) (f b) else f k
def labOf (bs : List Bd) : Nat → Nat → Nat
  | 0 => fun k => k
  | m + 1 => match bs[m]? with
    | some e => relab (labOf bs m) e.a e.b
    | none => labOf bs m
theorem labOf_succ {bs : List Bd} {m : Nat} {e : Bd} (h : bs[m]? = some e) : labOf bs (m + 1) = relab (labOf bs m) e.a e.b := by simp only [labOf, h]
/-- labels: no greater than the number; a label's own label is itself -/
structure Lab (f : Nat → Nat) : Prop where
  le : ∀ k, f k ≤ k
  idem : ∀ k, f (f k) = f k
theorem Lab.id : Lab fun k => k := ⟨fun _ => Nat.le_refl _, fun _ => rfl⟩
theorem Lab.relab {f : Nat → Nat} (h : Lab f) (a b : Nat) : Lab (relab f a b) := by
  constructor
  · intro k
    unfold Proofs.YtmpmokefgdjnkaaGreat.relab
    have := h.le k
    split <;> omega
  · intro k
    have hk := h.idem k
    have ha := h.idem a
    have hb := h.idem b
    unfold Proofs.YtmpmokefgdjnkaaGreat.relab
    by_cases h1 : f k = max (f a) (f b)
    · rw [if_pos h1]
      rcases Nat.le_total (f a) (f b) with h2 | h2
      · rw [Nat.min_eq_left h2, Nat.max_eq_right h2, ha]
        split <;> omega
      · rw [Nat.min_eq_right h2, Nat.max_eq_left h2, hb]
        split <;> omega
    · rw [if_neg h1, hk, if_neg h1]
theorem Lab.of (bs : List Bd) (m : Nat) : Lab (labOf bs m) := by
  induction m with
  | zero => exact Lab.id
  | succ m ih =>
    simp only [labOf]
    split
    · exact ih.relab _ _
    · exact ih
/-- the groups of the numbers below m, in the order of their least numbers -/
def rootsL (f : Nat → Nat) (m : Nat) : List Nat := (List.range m).filter fun i => f i == i
def partL (f : Nat → Nat) (m r : Nat) : List Nat := (List.range m).filter fun k => f k == r
def groupsL (f : Nat → Nat) (m : Nat) : List (List Nat) := (rootsL f m).map (partL f m)
theorem rootsL_succ_yes {f : Nat → Nat} {m : Nat} (h : f m = m) : rootsL f (m + 1) = rootsL f m ++ [m] := by
  unfold rootsL; rw [List.range_succ, List.filter_append]; simp [h]
theorem rootsL_succ_no {f : Nat → Nat} {m : Nat} (h : f m ≠ m) : rootsL f (m + 1) = rootsL f m := by
  unfold rootsL; rw [List.range_succ, List.filter_append]; simp [h]
theorem partL_succ_yes {f : Nat → Nat} {m r : Nat} (h : f m = r) : partL f (m + 1) r = partL f m r ++ [m] := by
  unfold partL; rw [List.range_succ, List.filter_append]; simp [h]
theorem partL_succ_no {f : Nat → Nat} {m r : Nat} (h : f m ≠ r) : partL f (m + 1) r = partL f m r := by
  unfold partL; rw [List.range_succ, List.filter_append]; simp [h]
theorem mem_rootsL {f : Nat → Nat} {m r : Nat} : r ∈ rootsL f m ↔ r < m ∧ f r = r := by
  unfold rootsL; simp
end Go.Proofs.YtmpmokefgdjnkaaGreat
/- Plain facts: the groups grow by one number. -/

namespace Go.Proofs.YtmpmokefgdjnkaaGreat
theorem rootsL_get {f : Nat → Nat} : ∀ (m k r : Nat), (rootsL f m)[k]? = some r → r < m ∧ f r = r ∧ k = (rootsL f r).length := by
  intro m
  induction m with
  | zero => intro k r h; simp [rootsL] at h
  | succ m ih =>
    intro k r h
    by_cases hm : f m = m
    · rw [rootsL_succ_yes hm] at h
      rcases Nat.lt_or_ge k (rootsL f m).length with hlt | hge
      · rw [List.getElem?_append_left hlt] at h
        have := ih k r h
        exact ⟨by omega, this.2⟩
      · have hl := (List.getElem?_eq_some_iff.1 h).1
        simp at hl
        obtain rfl : k = (rootsL f m).length := by omega
        simp at h
        subst h
        exact ⟨by omega, hm, rfl⟩
    · rw [rootsL_succ_no hm] at h
      have := ih k r h
      exact ⟨by omega, this.2⟩
theorem rootsL_at {f : Nat → Nat} {m r : Nat} (h : r < m) (hr : f r = r) : (rootsL f m)[(rootsL f r).length]? = some r := by
  have hmem : r ∈ rootsL f m := mem_rootsL.2 ⟨h, hr⟩
  obtain ⟨k, hk⟩ := List.mem_iff_getElem?.1 hmem
  obtain ⟨_, _, rfl⟩ := rootsL_get m k r hk
  exact hk
theorem rootsL_lt {f : Nat → Nat} {m r : Nat} (h : r < m) (hr : f r = r) : (rootsL f r).length < (rootsL f m).length :=
  (List.getElem?_eq_some_iff.1 (rootsL_at h hr)).1
theorem rootsL_len (f : Nat → Nat) (m : Nat) : (rootsL f m).length ≤ m := by
  unfold rootsL
  have := List.length_filter_le (fun i => f i == i) (List.range m)
  simpa using this
theorem partL_new {f : Nat → Nat} (hf : ∀ k, f k ≤ k) {m r : Nat} (h : m ≤ r) : partL f m r = [] := by
  unfold partL
  rw [List.filter_eq_nil_iff]
  intro k hk
  have := hf k
  simp at hk ⊢
  omega
theorem groupsL_get {f : Nat → Nat} {m k : Nat} : (groupsL f m)[k]? = ((rootsL f m)[k]?).map (partL f m) := by
  unfold groupsL; rw [List.getElem?_map]
/-- number m joins the group of its label -/
theorem groupsL_old {f : Nat → Nat} {m : Nat} (h : f m ≠ m) (hlt : f m < m) (hr : f (f m) = f m) :
    groupsL f (m + 1) = (groupsL f m).set (rootsL f (f m)).length (partL f m (f m) ++ [m]) := by
  apply List.ext_getElem?
  intro j
  have hk := rootsL_lt hlt hr
  rw [List.getElem?_set, groupsL_get, groupsL_get, rootsL_succ_no h]
  have hgl : (groupsL f m).length = (rootsL f m).length := by simp [groupsL]
  by_cases e : (rootsL f (f m)).length = j
  · subst e
    rw [if_pos rfl, if_pos (by rw [hgl]; exact hk), rootsL_at hlt hr]
    simp [partL_succ_yes]
  · rw [if_neg e]
    cases hg : (rootsL f m)[j]? with
    | none => rfl
    | some r =>
      obtain ⟨h1, h2, h3⟩ := rootsL_get m j r hg
      have : f m ≠ r := by
        rintro rfl
        exact e h3.symm
      simp [partL_succ_no this]
/-- number m opens a group -/
theorem groupsL_new {f : Nat → Nat} (hf : ∀ k, f k ≤ k) {m : Nat} (h : f m = m) : groupsL f (m + 1) = groupsL f m ++ [[m]] := by
  unfold groupsL
  rw [rootsL_succ_yes h, List.map_append]
  congr 1
  · apply List.map_congr_left
    intro r hr
    have := (mem_rootsL.1 hr).1
    exact partL_succ_no (by omega)
  · simp [partL_succ_yes h, partL_new hf (Nat.le_refl m)]
/-- where a label's group lies -/
def placeM (f : Nat → Nat) (i : Nat) (r : Nat) : Option Nat := if r < i ∧ f r = r then some (rootsL f r).length else none
theorem placeM_zero (f : Nat → Nat) : placeM f 0 = fun _ => none := by
  funext r; unfold placeM; simp
theorem placeM_old {f : Nat → Nat} {m : Nat} (h : f m ≠ m) : placeM f (m + 1) = placeM f m := by
  funext r
  unfold placeM
  by_cases hr : r < m
  · simp [hr, Nat.lt_succ_of_lt hr]
  · by_cases e : r = m
    · subst e; simp [h]
    · have : ¬ r < m + 1 := by omega
      simp [hr, this]
theorem placeM_new {f : Nat → Nat} {m : Nat} (h : f m = m) : placeM f (m + 1) = fun j => if j = m then some (rootsL f m).length else placeM f m j := by
  funext r
  unfold placeM
  by_cases e : r = m
  · subst e; simp [h]
  · rw [if_neg e]
    by_cases hr : r < m
    · simp [hr, Nat.lt_succ_of_lt hr]
    · have : ¬ r < m + 1 := by omega
      simp [hr, this]
theorem placeM_yes {f : Nat → Nat} {m r : Nat} (h : r < m) (hr : f r = r) : placeM f m r = some (rootsL f r).length := by
  unfold placeM; rw [if_pos ⟨h, hr⟩]
theorem placeM_no {f : Nat → Nat} {m : Nat} : placeM f m m = none := by
  unfold placeM; simp
/-- each label of the round is replaced, one number after the other -/
theorem labOf_lt {bs : List Bd} (m k : Nat) : labOf bs m k ≤ k := (Lab.of bs m).le k
end Go.Proofs.YtmpmokefgdjnkaaGreat
/- Plain facts: bonds turned around carry the same flows; bonds between groups. -/


namespace Go.Proofs.YtmpmokefgdjnkaaGreat
def swB (e : Bd) : Bd := ⟨e.b, e.a, e.s⟩
/-- some of the bonds are turned around -/
structure TurnedB (bs cs : List Bd) (σ : Nat → Bool) : Prop where
  len : cs.length = bs.length
  get : ∀ (i : Nat) (e : Bd), bs[i]? = some e → cs[i]? = some (if σ i = true then swB e else e)
def flipF (σ : Nat → Bool) (f : Nat → Int) : Nat → Int := fun i => if σ i = true then -f i else f i
section
variable {n : Nat} {bs cs : List Bd} {σ : Nat → Bool}
theorem jo_sw (e : Bd) (u v : Nat) : jo (swB e) u v = jo e u v := by
  unfold jo swB
  apply decide_eq_decide.2
  constructor
  · rintro (⟨h1, h2⟩ | ⟨h1, h2⟩)
    · exact .inr ⟨h2, h1⟩
    · exact .inl ⟨h2, h1⟩
  · rintro (⟨h1, h2⟩ | ⟨h1, h2⟩)
    · exact .inr ⟨h2, h1⟩
    · exact .inl ⟨h2, h1⟩
theorem rs_sw {e : Bd} {x : Int} {u v : Nat} (hne : e.a ≠ e.b) (h : jo e u v = true) : rs (swB e) (-x) u = rs e x u := by
  simp only [jo, decide_eq_true_eq] at h
  unfold rs swB
  dsimp only
  rcases h with ⟨h1, h2⟩ | ⟨h1, h2⟩
  · subst h1
    rw [if_neg (fun h => hne h.symm), if_pos rfl]; omega
  · subst h2
    rw [if_pos rfl, if_neg hne]; omega
theorem hit_turn (h : TurnedB bs cs σ) (hb : BondsOk n bs) (f : Nat → Int) (u v i : Nat) : hitB cs (flipF σ f) u v i = hitB bs f u v i := by
  cases he : bs[i]? with
  | none =>
    have : cs[i]? = none := by rw [List.getElem?_eq_none_iff, h.len]; exact List.getElem?_eq_none_iff.1 he
    unfold hitB; rw [he, this]
  | some e =>
    rw [hitB_eq he, hitB_eq (h.get i e he)]
    unfold flipF
    by_cases hs : σ i = true
    · rw [if_pos hs, if_pos hs, jo_sw]
      by_cases hj : jo e u v = true
      · rw [rs_sw (hb.ne i e he) hj]
      · have hj : jo e u v = false := by simpa using hj
        simp [hj]
    · rw [if_neg hs, if_neg hs]
theorem first_turn (h : TurnedB bs cs σ) (hb : BondsOk n bs) (f : Nat → Int) (u v : Nat) : firstB cs (flipF σ f) u v = firstB bs f u v := by
  unfold firstB
  rw [h.len]
  have : hitB cs (flipF σ f) u v = hitB bs f u v := funext fun i => hit_turn h hb f u v i
  rw [this]
theorem edge_turn (h : TurnedB bs cs σ) (hb : BondsOk n bs) (f : Nat → Int) : edgeB cs (flipF σ f) = edgeB bs f := by
  funext u v
  unfold edgeB
  rw [first_turn h hb]
theorem push_turn (h : TurnedB bs cs σ) (hb : BondsOk n bs) (f : Nat → Int) (u v : Nat) : pushB cs (flipF σ f) u v = flipF σ (pushB bs f u v) := by
  cases hf : firstB bs f u v with
  | none =>
    have h1 := first_turn h hb f u v
    rw [hf] at h1
    unfold pushB
    rw [hf, h1]
  | some i =>
    have h1 := first_turn h hb f u v
    rw [hf] at h1
    obtain ⟨hi, hh, _⟩ := firstB_some.1 hf
    have he := List.getElem?_eq_getElem hi
    rw [hitB_eq he] at hh
    have hj : jo bs[i] u v = true := by revert hh; cases jo bs[i] u v <;> simp
    have hne := hb.ne i _ he
    rw [pushB_at hf he, pushB_at h1 (h.get i _ he)]
    generalize bs[i] = e at *
    simp only [jo, decide_eq_true_eq] at hj
    funext j
    unfold flipF
    by_cases hji : j = i
    · subst hji
      dsimp only
      rw [if_pos rfl, if_pos rfl]
      by_cases hs : σ j = true
      · rw [if_pos hs, if_pos hs, if_pos hs]
        unfold swB
        dsimp only
        rcases hj with ⟨h2, h3⟩ | ⟨h2, h3⟩
        · subst h2
          rw [if_neg (fun h => hne h.symm), if_pos rfl]; omega
        · subst h3
          rw [if_pos rfl, if_neg hne]; omega
      · rw [if_neg hs, if_neg hs, if_neg hs]
    · dsimp only
      rw [if_neg hji, if_neg hji]
theorem aug_turn (h : TurnedB bs cs σ) (hb : BondsOk n bs) (f : Nat → Int) (W : List Nat) : ∀ k, augK cs (flipF σ f) W k = flipF σ (augK bs f W k)
  | 0 => rfl
  | k + 1 => by
    simp only [augK]
    rw [aug_turn h hb f W k]
    split
    · exact push_turn h hb _ _ _
    · rfl
theorem iter_turn (h : TurnedB bs cs σ) (hb : BondsOk n bs) (x y : Nat) : ∀ k, iterF n cs x y k = flipF σ (iterF n bs x y k)
  | 0 => by
    funext i
    simp [iterF, flipF]
  | k + 1 => by
    simp only [iterF]
    rw [iter_turn h hb x y k, edge_turn h hb]
    split
    · exact aug_turn h hb _ _ _
    · rfl
theorem stop_turn (h : TurnedB bs cs σ) (hb : BondsOk n bs) (x y k : Nat) : stopF n cs x y k ↔ stopF n bs x y k := by
  unfold stopF
  rw [iter_turn h hb, edge_turn h hb]
theorem flowV_turn (h : TurnedB bs cs σ) (hb : BondsOk n bs) (x y : Nat) : flowV n cs x y = flowV n bs x y := by
  by_cases hE : ∃ k, stopF n bs x y k
  · obtain ⟨K, h1, h2⟩ := exists_least hE
    rw [flowV_eq h1 h2]
    exact flowV_eq ((stop_turn h hb x y K).2 h1) (fun j hj hs => h2 j hj ((stop_turn h hb x y j).1 hs))
  · unfold flowV
    rw [dif_neg hE, dif_neg (fun ⟨k, hk⟩ => hE ⟨k, (stop_turn h hb x y k).1 hk⟩)]
end
/-- the bonds of at least a strength -/
def strongL (t : Int) (bs : List Bd) (k : Nat) : List Bd := (bs.take k).filter fun b => decide (t ≤ b.s)
theorem strongL_yes {t : Int} {bs : List Bd} {k : Nat} {e : Bd} (he : bs[k]? = some e) (h : t ≤ e.s) : strongL t bs (k + 1) = strongL t bs k ++ [e] := by
  obtain ⟨hk, rfl⟩ := List.getElem?_eq_some_iff.1 he
  unfold strongL; rw [List.take_succ_eq_append_getElem hk, List.filter_append]; simp [h]
theorem strongL_no {t : Int} {bs : List Bd} {k : Nat} {e : Bd} (he : bs[k]? = some e) (h : ¬ t ≤ e.s) : strongL t bs (k + 1) = strongL t bs k := by
  obtain ⟨hk, rfl⟩ := List.getElem?_eq_some_iff.1 he
  unfold strongL; rw [List.take_succ_eq_append_getElem hk, List.filter_append]; simp [h]
theorem strongL_len (t : Int) (bs : List Bd) (k : Nat) : (strongL t bs k).length ≤ k := Nat.le_trans (List.length_filter_le _ _) (List.length_take_le _ _)
theorem strongL_mem {t : Int} {bs : List Bd} {k j : Nat} {e : Bd} (h : (strongL t bs k)[j]? = some e) : ∃ q : Nat, bs[q]? = some e := by
  have hm := List.mem_of_getElem? h
  unfold strongL at hm
  obtain ⟨h1, _⟩ := List.mem_filter.1 hm
  obtain ⟨q, hq, rfl⟩ := List.mem_iff_getElem.1 (List.mem_of_mem_take h1)
  exact ⟨q, List.getElem?_eq_getElem hq⟩
/-- the numbers of a list get a name -/
def asg (f : Nat → Nat) (g : Nat) (l : List Nat) (j : Nat) : Nat → Nat := fun x => if x ∈ l.take j then g else f x
theorem asg_zero (f : Nat → Nat) (g : Nat) (l : List Nat) : asg f g l 0 = f := by funext x; simp [asg]
theorem asg_succ {f : Nat → Nat} {g : Nat} {l : List Nat} {j k : Nat} (h : l[j]? = some k) : asg f g l (j + 1) = fun x => if x = k then g else asg f g l j x := by
  obtain ⟨hj, rfl⟩ := List.getElem?_eq_some_iff.1 h
  funext x
  unfold asg
  rw [List.take_succ_eq_append_getElem hj]
  by_cases hx : x = l[j]
  · rw [if_pos hx, if_pos (List.mem_append.2 (.inr (List.mem_singleton.2 hx)))]
  · rw [if_neg hx]
    by_cases hm : x ∈ l.take j
    · rw [if_pos hm, if_pos (List.mem_append.2 (.inl hm))]
    · rw [if_neg hm, if_neg (fun h => (List.mem_append.1 h).elim hm fun h => hx (List.mem_singleton.1 h))]
/-- the names of the first g groups' numbers -/
def ofG (gss : List (List Nat)) : Nat → Nat → Nat
  | 0 => fun _ => 0
  | g + 1 => match gss[g]? with
    | some l => asg (ofG gss g) g l l.length
    | none => ofG gss g
theorem ofG_succ {gss : List (List Nat)} {g : Nat} {l : List Nat} (h : gss[g]? = some l) : ofG gss (g + 1) = asg (ofG gss g) g l l.length := by simp only [ofG, h]
theorem ofG_lt (gss : List (List Nat)) : ∀ g x, ofG gss g x < g ∨ ofG gss g x = 0
  | 0, x => .inr rfl
  | g + 1, x => by
    have ih := ofG_lt gss g x
    cases hg : gss[g]? with
    | some l =>
      rw [ofG_succ hg]
      unfold asg
      split
      · exact .inl (Nat.lt_succ_self _)
      · rcases ih with h | h
        · exact .inl (by omega)
        · exact .inr h
    | none =>
      have : ofG gss (g + 1) = ofG gss g := by simp only [ofG, hg]
      rw [this]
      rcases ih with h | h
      · exact .inl (by omega)
      · exact .inr h
/-- the bonds between the groups -/
def ctrI (f : Nat → Nat) (bs : List Bd) (k : Nat) : List Bd := (bs.take k).filterMap fun e => if f e.a = f e.b then none else some ⟨f e.a, f e.b, e.s⟩
def ctrS (f : Nat → Nat) (bs : List Bd) (k : Nat) : List Bd := (bs.take k).filterMap fun e => if f e.a = f e.b then none else some ⟨min (f e.a) (f e.b), max (f e.a) (f e.b), e.s⟩
theorem ctrI_yes {f : Nat → Nat} {bs : List Bd} {k : Nat} {e : Bd} (he : bs[k]? = some e) (h : f e.a ≠ f e.b) : ctrI f bs (k + 1) = ctrI f bs k ++ [⟨f e.a, f e.b, e.s⟩] := by
  obtain ⟨hk, rfl⟩ := List.getElem?_eq_some_iff.1 he
  unfold ctrI; rw [List.take_succ_eq_append_getElem hk, List.filterMap_append]; simp [h]
theorem ctrI_no {f : Nat → Nat} {bs : List Bd} {k : Nat} {e : Bd} (he : bs[k]? = some e) (h : f e.a = f e.b) : ctrI f bs (k + 1) = ctrI f bs k := by
  obtain ⟨hk, rfl⟩ := List.getElem?_eq_some_iff.1 he
  unfold ctrI; rw [List.take_succ_eq_append_getElem hk, List.filterMap_append]; simp [h]
theorem ctrS_yes {f : Nat → Nat} {bs : List Bd} {k : Nat} {e : Bd} (he : bs[k]? = some e) (h : f e.a ≠ f e.b) : ctrS f bs (k + 1) = ctrS f bs k ++ [⟨min (f e.a) (f e.b), max (f e.a) (f e.b), e.s⟩] := by
  obtain ⟨hk, rfl⟩ := List.getElem?_eq_some_iff.1 he
  unfold ctrS; rw [List.take_succ_eq_append_getElem hk, List.filterMap_append]; simp [h]
theorem ctrS_no {f : Nat → Nat} {bs : List Bd} {k : Nat} {e : Bd} (he : bs[k]? = some e) (h : f e.a = f e.b) : ctrS f bs (k + 1) = ctrS f bs k := by
  obtain ⟨hk, rfl⟩ := List.getElem?_eq_some_iff.1 he
  unfold ctrS; rw [List.take_succ_eq_append_getElem hk, List.filterMap_append]; simp [h]
theorem ctrI_len (f : Nat → Nat) (bs : List Bd) (k : Nat) : (ctrI f bs k).length ≤ k := Nat.le_trans (List.length_filterMap_le _ _) (List.length_take_le _ _)
theorem ctrS_len (f : Nat → Nat) (bs : List Bd) (k : Nat) : (ctrS f bs k).length ≤ k := Nat.le_trans (List.length_filterMap_le _ _) (List.length_take_le _ _)
theorem ctrS_map (f : Nat → Nat) (bs : List Bd) (k : Nat) : ctrS f bs k = (ctrI f bs k).map fun e => if e.b < e.a then swB e else e := by
  unfold ctrS ctrI
  rw [List.map_filterMap]
  congr 1
  funext e
  by_cases h : f e.a = f e.b
  · simp [h]
  · rw [if_neg h, if_neg h]
    simp only [Option.map_some, swB]
    congr 1
    by_cases hl : f e.b < f e.a
    · rw [if_pos hl, Nat.min_eq_right (by omega), Nat.max_eq_left (by omega)]
    · rw [if_neg hl, Nat.min_eq_left (by omega), Nat.max_eq_right (by omega)]
theorem ctr_turned (f : Nat → Nat) (bs : List Bd) (k : Nat) : TurnedB (ctrI f bs k) (ctrS f bs k) (fun i => match (ctrI f bs k)[i]? with | some e => decide (e.b < e.a) | none => false) := by
  refine ⟨by rw [ctrS_map]; simp, fun i e he => ?_⟩
  rw [ctrS_map, List.getElem?_map, he]
  simp
theorem ctrI_ok {f : Nat → Nat} {n c : Nat} {bs : List Bd} (hb : BondsOk n bs) (hf : ∀ x, f x < c) (k : Nat) : BondsOk c (ctrI f bs k) := by
  have hm : ∀ (i : Nat) (e : Bd), (ctrI f bs k)[i]? = some e → ∃ (q : Nat) (e' : Bd), bs[q]? = some e' ∧ f e'.a ≠ f e'.b ∧ e = ⟨f e'.a, f e'.b, e'.s⟩ := fun i e h => by
    have hm := List.mem_of_getElem? h
    unfold ctrI at hm
    obtain ⟨e', h1, h2⟩ := List.mem_filterMap.1 hm
    obtain ⟨q, hq, rfl⟩ := List.mem_iff_getElem.1 (List.mem_of_mem_take h1)
    split at h2
    · cases h2
    · rename_i hne
      injection h2 with h2
      exact ⟨q, _, List.getElem?_eq_getElem hq, hne, h2.symm⟩
  refine ⟨fun i e h => ?_, fun i e h => ?_, fun i e h => ?_, fun i e h => ?_⟩
  all_goals obtain ⟨q, e', h1, h2, rfl⟩ := hm i e h
  · exact hf _
  · exact hf _
  · exact h2
  · exact hb.s q e' h1
theorem ctrS_ok {f : Nat → Nat} {n c : Nat} {bs : List Bd} (hb : BondsOk n bs) (hf : ∀ x, f x < c) (k : Nat) : BondsOk c (ctrS f bs k) := by
  have h0 := ctrI_ok hb hf k
  have hm : ∀ (i : Nat) (e : Bd), (ctrS f bs k)[i]? = some e → ∃ e', (ctrI f bs k)[i]? = some e' ∧ e = if e'.b < e'.a then swB e' else e' := fun i e h => by
    rw [ctrS_map, List.getElem?_map] at h
    cases hi : (ctrI f bs k)[i]? with
    | none => rw [hi] at h; cases h
    | some e' =>
      rw [hi] at h
      injection h with h
      exact ⟨e', rfl, h.symm⟩
  refine ⟨fun i e h => ?_, fun i e h => ?_, fun i e h => ?_, fun i e h => ?_⟩
  all_goals (obtain ⟨e', h1, rfl⟩ := hm i e h; have ha := h0.a i e' h1; have hb' := h0.b i e' h1; have hn := h0.ne i e' h1; have hs := h0.s i e' h1; by_cases hc : e'.b < e'.a)
  all_goals (first | rw [if_pos hc] | rw [if_neg hc])
  · exact hb'
  · exact ha
  · exact ha
  · exact hb'
  · exact fun h => hn h.symm
  · exact hn
  · exact hs
  · exact hs
/-- the groups of points that strong bonds make -/
def grpT (n : Nat) (bs : List Bd) (t : Int) : List (List Nat) := groupsL (labOf (strongL t bs bs.length) (strongL t bs bs.length).length) n
theorem grpT_lt {n g k x : Nat} {bs : List Bd} {t : Int} {l : List Nat} (hg : (grpT n bs t)[g]? = some l) (hk : l[k]? = some x) : x < n := by
  unfold grpT at hg
  rw [groupsL_get] at hg
  obtain ⟨r, _, rfl⟩ := Option.map_eq_some_iff.1 hg
  have hm := List.mem_of_getElem? hk
  unfold partL at hm
  exact List.mem_range.1 (List.mem_filter.1 hm).1
theorem grpT_len (n : Nat) (bs : List Bd) (t : Int) : (grpT n bs t).length ≤ n := by
  unfold grpT groupsL
  rw [List.length_map]
  exact rootsL_len _ _
theorem grpT_len2 {n g : Nat} {bs : List Bd} {t : Int} {l : List Nat} (hg : (grpT n bs t)[g]? = some l) : l.length ≤ n := by
  unfold grpT at hg
  rw [groupsL_get] at hg
  obtain ⟨r, _, rfl⟩ := Option.map_eq_some_iff.1 hg
  unfold partL
  have := List.length_filter_le (fun k => labOf (strongL t bs bs.length) (strongL t bs bs.length).length k == r) (List.range n)
  simpa using this
/-- the group of each point -/
def nameT (n : Nat) (bs : List Bd) (t : Int) : Nat → Nat := ofG (grpT n bs t) (grpT n bs t).length
theorem nameT_lt {n : Nat} {bs : List Bd} {t : Int} (h : 0 < (grpT n bs t).length) (x : Nat) : nameT n bs t x < (grpT n bs t).length := by
  rcases ofG_lt (grpT n bs t) (grpT n bs t).length x with h1 | h1
  · exact h1
  · unfold nameT; omega
theorem nameT_le (n : Nat) (bs : List Bd) (t : Int) (x : Nat) : nameT n bs t x ≤ n := by
  have := grpT_len n bs t
  rcases ofG_lt (grpT n bs t) (grpT n bs t).length x with h1 | h1
  · unfold nameT; omega
  · unfold nameT; omega
/-- the bonds between the groups, as the program lists them -/
def shrI (n : Nat) (bs : List Bd) (t : Int) : List Bd := ctrI (nameT n bs t) bs bs.length
def shrS (n : Nat) (bs : List Bd) (t : Int) : List Bd := ctrS (nameT n bs t) bs bs.length
theorem shr_flow {n : Nat} {bs : List Bd} {t : Int} (hb : BondsOk n bs) (h : 0 < (grpT n bs t).length) (x y : Nat) : flowV (grpT n bs t).length (shrS n bs t) x y = flowV (grpT n bs t).length (shrI n bs t) x y :=
  flowV_turn (ctr_turned _ _ _) (ctrI_ok hb (nameT_lt h) _) x y
/-- no cut is weaker -/
noncomputable def holdsB (n : Nat) (bs : List Bd) (t : Nat) : Bool := decide (∀ y, y < n - 1 → t ≤ flowV n bs 0 (y + 1))
theorem holdsB_few {n : Nat} (h : n < 2) (bs : List Bd) (t : Nat) : holdsB n bs t = true := by
  unfold holdsB
  exact decide_eq_true fun y hy => by omega
theorem holdsB_weak {n : Nat} (h : ¬ n < 2) (bs : List Bd) (t : Nat) : holdsB n bs t = decide ((t : Int) ≤ (weakR n bs).1) := by
  unfold holdsB weakR
  obtain ⟨k, hk⟩ : ∃ k, n - 1 = k + 1 := ⟨n - 2, by omega⟩
  rw [hk]
  exact decide_eq_decide.2 (weakK_least n bs t k).symm
theorem holdsB_eq {n : Nat} {bs cs : List Bd} (t : Nat) (h : ∀ y, flowV n cs 0 y = flowV n bs 0 y) : holdsB n cs t = holdsB n bs t := by
  unfold holdsB
  exact decide_eq_decide.2 ⟨fun h1 y hy => by rw [← h]; exact h1 y hy, fun h1 y hy => by rw [h]; exact h1 y hy⟩
/-- whether they are stable, and the code -/
noncomputable def stabR (n : Nat) (bs : List Bd) (t : Nat) : Bool × Int := if 64 < (grpT n bs t).length then (false, 4) else (holdsB (grpT n bs t).length (shrI n bs t) t, 0)
end Go.Proofs.YtmpmokefgdjnkaaGreat
