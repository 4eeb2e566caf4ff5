/- Plain facts: what a valid assembly bears; places of points; strengths of bonds. -/
import Derived.Test.YtpnahobgmemdjaaW10
import Derived.Test.YtpnahobgmemdjaaOrdIn
namespace Go.Proofs.Ytpnahobgmemdjaa
open Go.RowKit
set_option linter.unusedSimpArgs false
set_option linter.unusedVariables false
theorem allB_at {n k : Nat} {p : Nat → Bool} (h : allB n p = true) (hk : k < n) : p k = true := by
  simp only [allB, List.all_eq_true, List.mem_range] at h
  exact h k hk
theorem lt_of_get {α : Type} {xs : List α} {k : Nat} {e : α} (h : xs[k]? = some e) : k < xs.length := (List.getElem?_eq_some_iff.1 h).1
theorem lessPt_iff (ax ay bx b_y : Int) : lessPt ax ay bx b_y = true ↔ ay < b_y ∨ (ay = b_y ∧ ax < bx) := by
  rw [lessPt_eq]; simp
structure Valid (gs : List Gl) (ts : List Ti) (xs : List Pl) : Prop where
  len : xs.length ≤ 500
  gl : gs.length ≤ 200
  tl : ts.length ≤ 160
  pt : ∀ (k : Nat) (e : Pl), xs[k]? = some e → (-60 ≤ e.x ∧ e.x ≤ 60) ∧ (-60 ≤ e.y ∧ e.y ≤ 60)
  ti : ∀ (k : Nat) (e : Pl), xs[k]? = some e → ∃ t : Nat, e.t = t ∧ t < ts.length
  sorted : ∀ (i j : Nat) (d e : Pl), i < j → xs[i]? = some d → xs[j]? = some e → lessPt d.x d.y e.x e.y = true
  four : ∀ (j : Nat) (t : Ti), ts[j]? = some t → t.sides.length = 4
  side : ∀ (j : Nat) (t : Ti) (d : Nat) (v : Int), ts[j]? = some t → t.sides[d]? = some v → ∃ g : Nat, v = g ∧ g ≤ gs.length
  str : ∀ (j : Nat) (g : Gl), gs[j]? = some g → 1 ≤ g.s ∧ g.s ≤ 4
theorem valid_of {gs : List Gl} {ts : List Ti} {xs : List Pl} (h : validAsmB gs ts xs = true) : Valid gs ts xs := by
  unfold validAsmB validSetB hasFormB at h
  simp only [Bool.and_eq_true, decide_eq_true_eq] at h
  obtain ⟨⟨⟨h1, h2, h3⟩, hg, ht⟩, ⟨hf, h4⟩, htl⟩ := h
  have hpl : ∀ (k : Nat) (e : Pl), xs[k]? = some e → validPt e.x e.y = true ∧ inB e.t 0 159 = true := fun k e he => by
    have := allB_at hf (lt_of_get he)
    unfold okPl at this
    rw [he] at this
    simp only [Bool.and_eq_true] at this
    exact this.1
  have hstep : ∀ (k : Nat) (d e : Pl), xs[k]? = some d → xs[k + 1]? = some e → lessPt d.x d.y e.x e.y = true := fun k d e hd he => by
    have := allB_at hf (lt_of_get he)
    rw [okPl_eqS he hd] at this
    simp only [Bool.and_eq_true] at this
    exact this.2
  refine ⟨h4, h1, h3, fun k e he => ?_, fun k e he => ?_, ?_, fun j t hj => ?_, fun j t d v hj hd => ?_, fun j g hj => ?_⟩
  · have := (hpl k e he).1
    simp only [validPt, Bool.and_eq_true, inB_true] at this
    exact this
  · have := allB_at htl (lt_of_get he)
    unfold okTile at this
    rw [he] at this
    have := inB_true.1 this
    exact ⟨e.t.toNat, by omega, by omega⟩
  · intro i j d e hij hd he
    induction j generalizing e with
    | zero => omega
    | succ j ih =>
      have hj : j < xs.length := by have := lt_of_get he; omega
      obtain ⟨c, hc⟩ : ∃ c, xs[j]? = some c := ⟨_, List.getElem?_eq_getElem hj⟩
      have h2 := hstep j c e hc he
      rcases Nat.lt_or_ge i j with h | h
      · have h1 := ih c h hc
        rw [lessPt_iff] at h1 h2 ⊢
        omega
      · obtain rfl : i = j := by omega
        rw [hd] at hc
        obtain rfl := Option.some.inj hc
        exact h2
  · have := allB_at ht (lt_of_get hj)
    rw [okTi_eq hj] at this
    simp only [Bool.and_eq_true, decide_eq_true_eq] at this
    exact this.2.1
  · have := allB_at ht (lt_of_get hj)
    rw [okTi_eq hj] at this
    simp only [Bool.and_eq_true, decide_eq_true_eq] at this
    have := allB_at this.2.2.2 (lt_of_get hd)
    unfold okSide at this
    rw [hd] at this
    have := inB_true.1 this
    exact ⟨v.toNat, by omega, by omega⟩
  · have := allB_at hg (lt_of_get hj)
    rw [okGl_eq hj] at this
    simp only [Bool.and_eq_true] at this
    exact inB_true.1 this.2.1
/-- r is the place of the point, or -1 -/
def IsPlace (xs : List Pl) (x y r : Int) : Prop :=
  (r = -1 ∧ ∀ (k : Nat) (e : Pl), xs[k]? = some e → ¬ (e.x = x ∧ e.y = y)) ∨ ∃ (k : Nat) (e : Pl), r = k ∧ xs[k]? = some e ∧ e.x = x ∧ e.y = y
noncomputable def placeI (xs : List Pl) (x y : Int) : Int := Classical.epsilon (IsPlace xs x y)
theorem IsPlace.eq {gs : List Gl} {ts : List Ti} {xs : List Pl} (hV : Valid gs ts xs) {x y r : Int} (h : IsPlace xs x y r) : r = placeI xs x y := by
  have h' : IsPlace xs x y (placeI xs x y) := Classical.epsilon_spec ⟨r, h⟩
  rcases h with ⟨rfl, h⟩ | ⟨k, e, rfl, he, hx, hy⟩
  · rcases h' with ⟨h', _⟩ | ⟨k, e, _, he, hxy⟩
    · exact h'.symm
    · exact absurd hxy (h k e he)
  · rcases h' with ⟨_, h'⟩ | ⟨k', e', h', he', hx', hy'⟩
    · exact absurd ⟨hx, hy⟩ (h' k e he)
    · rw [h']
      rcases Nat.lt_trichotomy k k' with hk | hk | hk
      · have := (lessPt_iff _ _ _ _).1 (hV.sorted k k' e e' hk he he'); omega
      · rw [hk]
      · have := (lessPt_iff _ _ _ _).1 (hV.sorted k' k e' e hk he' he); omega
/-- what a binary search leaves -/
theorem place_found {xs : List Pl} {x y : Int} {k : Nat} {e : Pl} (he : xs[k]? = some e) (hx : e.x = x) (hy : e.y = y) : IsPlace xs x y k := Or.inr ⟨k, e, rfl, he, hx, hy⟩
theorem place_none {gs : List Gl} {ts : List Ti} {xs : List Pl} (hV : Valid gs ts xs) {x y : Int} {lo : Nat} (h1 : ∀ (j : Nat) (d : Pl), j < lo → xs[j]? = some d → lessPt d.x d.y x y = true) (h2 : ∀ (j : Nat) (d : Pl), lo ≤ j → xs[j]? = some d → lessPt d.x d.y x y = false)
    (h3 : ∀ (d : Pl), xs[lo]? = some d → ¬ (d.x = x ∧ d.y = y)) : IsPlace xs x y (-1) := by
  refine Or.inl ⟨rfl, fun k e he hxy => ?_⟩
  rcases Nat.lt_trichotomy k lo with hk | hk | hk
  · have := (lessPt_iff _ _ _ _).1 (h1 k e hk he); omega
  · subst hk; exact h3 e he hxy
  · obtain ⟨d, hd⟩ : ∃ d, xs[lo]? = some d := ⟨_, List.getElem?_eq_getElem (by have := lt_of_get he; omega)⟩
    have h4 := h2 lo d (Nat.le_refl _) hd
    have h5 := (lessPt_iff _ _ _ _).1 (hV.sorted lo k d e hk hd he)
    have h6 : ¬ (d.y < y ∨ (d.y = y ∧ d.x < x)) := by rw [← lessPt_iff, h4]; simp
    omega
theorem lessPt_trans {a b c d e f : Int} (h1 : lessPt a b c d = true) (h2 : lessPt c d e f = true) : lessPt a b e f = true := by
  rw [lessPt_iff] at *; omega
theorem lessPt_cmp (ax ay bx b_y : Int) : decide (cmpPt ax ay bx b_y < 0) = lessPt ax ay bx b_y := rfl
theorem cmpPt_zero (ax ay bx b_y : Int) : (cmpPt ax ay bx b_y == 0) = decide (ax = bx ∧ ay = b_y) := by
  rw [Bool.eq_iff_iff, beq_iff_eq, decide_eq_true_eq]
  unfold cmpPt orI cmpI
  constructor
  · intro h
    by_cases h1 : ay < b_y
    · rw [if_pos h1, if_pos (by decide)] at h; omega
    · rw [if_neg h1] at h
      by_cases h2 : b_y < ay
      · rw [if_pos h2, if_pos (by decide)] at h; omega
      · rw [if_neg h2, if_neg (by decide)] at h
        by_cases h3 : ax < bx
        · rw [if_pos h3] at h; omega
        · rw [if_neg h3] at h
          by_cases h4 : bx < ax
          · rw [if_pos h4] at h; omega
          · omega
  · rintro ⟨rfl, rfl⟩
    simp
/-- sides and strengths -/
def sideI (ts : List Ti) (t d : Nat) : Int := match ts[t]? with
  | none => 0
  | some ti => match ti.sides[d]? with
    | none => 0
    | some v => v
def strI (gs : List Gl) (v : Int) : Int := if v = 0 then 0 else match gs[(v - 1).toNat]? with
  | none => 0
  | some g => g.s
def oppN (d : Nat) : Nat := if d < 2 then d + 2 else d - 2
def bondI (gs : List Gl) (ts : List Ti) (a d b : Nat) : Int := if sideI ts a d = sideI ts b (oppN d) then strI gs (sideI ts a d) else 0
theorem sideI_eq {ts : List Ti} {t d : Nat} {ti : Ti} {v : Int} (h : ts[t]? = some ti) (hv : ti.sides[d]? = some v) : sideI ts t d = v := by
  unfold sideI; simp only [h, hv]
theorem strI_eq {gs : List Gl} {v : Nat} {g : Gl} (h : gs[v]? = some g) : strI gs ((v : Int) + 1) = g.s := by
  unfold strI; rw [if_neg (by omega)]
  have : ((v : Int) + 1 - 1).toNat = v := by omega
  simp only [this, h]
theorem strI_zero (gs : List Gl) : strI gs 0 = 0 := by simp [strI]
theorem oppI_nat {d : Nat} : oppI d = (oppN d : Int) := by
  unfold oppI oppN; split <;> split <;> omega
end Go.Proofs.Ytpnahobgmemdjaa
