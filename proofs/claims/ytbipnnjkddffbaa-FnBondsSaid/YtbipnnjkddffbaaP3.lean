/- Plain facts: the bonds of all tiles together are twice the bonds. -/
import Derived.Test.YtbipnnjkddffbaaW25
namespace Go.Proofs.Ytbipnnjkddffbaa
open Go.RowKit
set_option linter.unusedSimpArgs false
set_option linter.unusedVariables false
def sumB : List Bd → Int
  | [] => 0
  | b :: l => b.s + sumB l
theorem sumB_app (l m : List Bd) : sumB (l ++ m) = sumB l + sumB m := by
  induction l with
  | nil => simp [sumB]
  | cons b l ih => simp only [List.cons_append, sumB, ih]; omega
theorem sumB_take {bs : List Bd} {k : Nat} {b : Bd} (h : bs[k]? = some b) : sumB (bs.take (k + 1)) = sumB (bs.take k) + b.s := by
  obtain ⟨hk, rfl⟩ := List.getElem?_eq_some_iff.1 h
  rw [List.take_succ_eq_append_getElem hk, sumB_app]; simp [sumB]
theorem sumB_bound {bs : List Bd} (h : ∀ (k : Nat) (b : Bd), bs[k]? = some b → 0 ≤ b.s ∧ b.s ≤ 4) : 0 ≤ sumB bs ∧ sumB bs ≤ 4 * (bs.length : Int) := by
  induction bs with
  | nil => simp [sumB]
  | cons b l ih =>
    have h0 := h 0 b rfl
    have ih := ih (fun k b hb => h (k + 1) b (by simpa using hb))
    simp only [sumB, List.length_cons]
    omega
def sumI : List Int → Int
  | [] => 0
  | b :: l => b + sumI l
theorem sumI_app (l m : List Int) : sumI (l ++ m) = sumI l + sumI m := by
  induction l with
  | nil => simp [sumI]
  | cons b l ih => simp only [List.cons_append, sumI, ih]; omega
theorem sumI_take {bs : List Int} {k : Nat} {b : Int} (h : bs[k]? = some b) : sumI (bs.take (k + 1)) = sumI (bs.take k) + b := by
  obtain ⟨hk, rfl⟩ := List.getElem?_eq_some_iff.1 h
  rw [List.take_succ_eq_append_getElem hk, sumI_app]; simp [sumI]
/-- sums over the numbers below n -/
def sumN (n : Nat) (f : Nat → Int) : Int := match n with
  | 0 => 0
  | n + 1 => sumN n f + f n
theorem sumN_add (n : Nat) (f g : Nat → Int) : sumN n (fun i => f i + g i) = sumN n f + sumN n g := by
  induction n with
  | zero => simp [sumN]
  | succ n ih => simp only [sumN, ih]; omega
theorem sumN_zero (n : Nat) : sumN n (fun _ => 0) = 0 := by
  induction n with
  | zero => rfl
  | succ n ih => simp only [sumN, ih]; omega
theorem sumN_congr {n : Nat} {f g : Nat → Int} (h : ∀ i, i < n → f i = g i) : sumN n f = sumN n g := by
  induction n with
  | zero => rfl
  | succ n ih => simp only [sumN]; rw [ih (fun i hi => h i (by omega)), h n (by omega)]
theorem sumN_swap (n m : Nat) (f : Nat → Nat → Int) : sumN n (fun i => sumN m (fun k => f i k)) = sumN m (fun k => sumN n (fun i => f i k)) := by
  induction n with
  | zero => simp only [sumN]; rw [sumN_zero]
  | succ n ih => simp only [sumN]; rw [ih, sumN_add]
theorem sumN_one {n j : Nat} {f : Nat → Int} (hj : j < n) (h : ∀ i, i < n → i ≠ j → f i = 0) : sumN n f = f j := by
  induction n with
  | zero => omega
  | succ n ih =>
    simp only [sumN]
    by_cases e : j = n
    · subst e
      rw [sumN_congr (g := fun _ => 0) (fun i hi => h i (by omega) (by omega)), sumN_zero]; omega
    · rw [ih (by omega) (fun i hi hne => h i (by omega) hne), h n (by omega) (fun e' => e e'.symm)]; omega
theorem sumN_none {n : Nat} {f : Nat → Int} (h : ∀ i, i < n → f i = 0) : sumN n f = 0 := by
  rw [sumN_congr (g := fun _ => 0) h, sumN_zero]
/-- the bond of place i in a direction -/
noncomputable def dirB (gs : List Gl) (ts : List Ti) (xs : List Pl) (i d : Nat) : Int := match xs[i]? with
  | none => 0
  | some e => if 0 ≤ atI xs (stepX e.x d) (stepY e.y d) then bondI gs ts e.t.toNat d (atI xs (stepX e.x d) (stepY e.y d)).toNat else 0
/-- the bond of two places in a direction -/
def pairB (gs : List Gl) (ts : List Ti) (xs : List Pl) (i k d : Nat) : Int := match xs[i]?, xs[k]? with
  | some e, some o => if o.x = stepX e.x d ∧ o.y = stepY e.y d then bondI gs ts e.t.toNat d o.t.toNat else 0
  | _, _ => 0
theorem oppN_oppN {d : Nat} (h : d < 4) : oppN (oppN d) = d := by unfold oppN; split <;> split <;> omega
theorem bondI_symm (gs : List Gl) (ts : List Ti) (a b d : Nat) (h : d < 4) : bondI gs ts a d b = bondI gs ts b (oppN d) a := by
  unfold bondI
  rw [oppN_oppN h]
  by_cases e : sideI ts a d = sideI ts b (oppN d)
  · rw [if_pos e, if_pos e.symm, e]
  · rw [if_neg e, if_neg (fun e' => e e'.symm)]
theorem pairB_symm (gs : List Gl) (ts : List Ti) (xs : List Pl) (i k d : Nat) (h : d < 4) : pairB gs ts xs i k d = pairB gs ts xs k i (oppN d) := by
  unfold pairB
  cases hi : xs[i]? with
  | none => cases hk : xs[k]? <;> rfl
  | some e =>
    cases hk : xs[k]? with
    | none => rfl
    | some o =>
      simp only
      have hiff : (o.x = stepX e.x d ∧ o.y = stepY e.y d) ↔ (e.x = stepX o.x (oppN d : Nat) ∧ e.y = stepY o.y (oppN d : Nat)) := by
        have : d = 0 ∨ d = 1 ∨ d = 2 ∨ d = 3 := by omega
        rcases this with rfl | rfl | rfl | rfl <;> simp [stepX, stepY, oppN] <;> omega
      by_cases hc : o.x = stepX e.x d ∧ o.y = stepY e.y d
      · rw [if_pos hc, if_pos (hiff.1 hc), bondI_symm gs ts _ _ _ h]
      · rw [if_neg hc, if_neg (fun h' => hc (hiff.2 h'))]
theorem pairB_sum {gs : List Gl} {ts : List Ti} {xs : List Pl} (hV : Valid gs ts xs) (i d : Nat) : sumN xs.length (fun k => pairB gs ts xs i k d) = dirB gs ts xs i d := by
  unfold dirB
  cases hi : xs[i]? with
  | none => exact sumN_none fun k _ => by unfold pairB; rw [hi]
  | some e =>
    simp only
    rcases placeI_is xs (stepX e.x d) (stepY e.y d) with ⟨hp, hno⟩ | ⟨k, o, hp, ho, hox, hoy⟩
    · rw [atI_none hp, if_neg (by decide)]
      refine sumN_none fun k _ => ?_
      unfold pairB
      rw [hi]
      cases hk : xs[k]? with
      | none => rfl
      | some o => simp only; rw [if_neg (hno k o hk)]
    · obtain ⟨t, ht, htl⟩ := hV.ti k o ho
      rw [atI_some hp ho, ht, if_pos (by omega)]
      rw [sumN_one (lt_of_get ho) (fun j hj hne => ?_)]
      · unfold pairB
        rw [hi, ho]
        simp only
        rw [if_pos ⟨hox, hoy⟩, ht]
      · unfold pairB
        rw [hi]
        cases hj' : xs[j]? with
        | none => rfl
        | some o' =>
          simp only
          rw [if_neg]
          rintro ⟨h1, h2⟩
          rcases Nat.lt_trichotomy j k with h | h | h
          · have := (lessPt_iff _ _ _ _).1 (hV.sorted j k o' o h hj' ho); omega
          · exact hne h
          · have := (lessPt_iff _ _ _ _).1 (hV.sorted k j o o' h ho hj'); omega
theorem dirB_opp {gs : List Gl} {ts : List Ti} {xs : List Pl} (hV : Valid gs ts xs) {d : Nat} (h : d < 4) : sumN xs.length (fun i => dirB gs ts xs i d) = sumN xs.length (fun i => dirB gs ts xs i (oppN d)) := by
  have h1 : sumN xs.length (fun i => dirB gs ts xs i d) = sumN xs.length (fun i => sumN xs.length (fun k => pairB gs ts xs i k d)) := sumN_congr fun i _ => (pairB_sum hV i d).symm
  have h2 : sumN xs.length (fun i => dirB gs ts xs i (oppN d)) = sumN xs.length (fun k => sumN xs.length (fun i => pairB gs ts xs k i (oppN d))) := sumN_congr fun i _ => (pairB_sum hV i _).symm
  rw [h1, h2, sumN_swap]
  exact sumN_congr fun k _ => sumN_congr fun i _ => pairB_symm gs ts xs i k d h
theorem bindOf_dirs {gs : List Gl} {ts : List Ti} {xs : List Pl} {i : Nat} {e : Pl} (he : xs[i]? = some e) : bindOf gs ts xs e = dirB gs ts xs i 0 + dirB gs ts xs i 1 + dirB gs ts xs i 2 + dirB gs ts xs i 3 := by
  unfold bindOf dirB
  rw [he]
  simp only [bindN]
  omega
theorem bdS_nonneg {gs : List Gl} {ts : List Ti} {xs : List Pl} (hV : Valid gs ts xs) (x : NbT xs) : 0 ≤ bdS gs ts x := bondI_nonneg hV _ _ _
theorem sumB_nb {gs : List Gl} {ts : List Ti} {xs : List Pl} (hV : Valid gs ts xs) (i d : Nat) (hd : d < 4) : sumB (bdL gs ts (nb xs i d)) = dirB gs ts xs i d := by
  unfold dirB
  cases hi : xs[i]? with
  | none =>
    have : nb xs i d = [] := by unfold nb; simp only [hi]
    rw [this]; rfl
  | some e =>
    simp only
    rcases atI_cases hV (stepX e.x d) (stepY e.y d) with ⟨h, hat⟩ | ⟨k, t, o, h, ho, ht, htl, hat⟩
    · rw [nb_none hi h, hat, if_neg (by decide)]; rfl
    · rw [nb_some hi hd h (lt_of_get ho), hat, if_pos (by omega)]
      have hS : bdS gs ts (xs := xs) ⟨(i, k, d), lt_of_get hi, lt_of_get ho, hd⟩ = bondI gs ts e.t.toNat d t := by
        unfold bdS tileN
        simp only [hi, ho, ht, Int.toNat_natCast]
      have h0 := bondI_nonneg hV e.t.toNat d t
      have ht' : ((t : Nat) : Int).toNat = t := by omega
      rw [ht']
      unfold bdL
      by_cases hp : 0 < bondI gs ts e.t.toNat d t
      · simp [hS, hp, sumB]
      · simp [hS, hp, sumB]; omega
theorem sumB_bonds {gs : List Gl} {ts : List Ti} {xs : List Pl} (hV : Valid gs ts xs) (n : Nat) : sumB (bdL gs ts (nbAll xs n)) = sumN n (fun i => dirB gs ts xs i 1 + dirB gs ts xs i 0) := by
  induction n with
  | zero => rfl
  | succ n ih =>
    have happ : ∀ (l m : List (NbT xs)), bdL gs ts (l ++ m) = bdL gs ts l ++ bdL gs ts m := fun l m => by unfold bdL; exact List.filterMap_append
    simp only [nbAll, sumN, happ, sumB_app, ih, sumB_nb hV n 1 (by decide), sumB_nb hV n 0 (by decide)]
theorem sumI_binds (gs : List Gl) (ts : List Ti) (xs : List Pl) (k : Nat) (hk : k ≤ xs.length) : sumI (bindsL gs ts xs k) = sumN k (fun i => dirB gs ts xs i 0 + dirB gs ts xs i 1 + dirB gs ts xs i 2 + dirB gs ts xs i 3) := by
  induction k with
  | zero => rfl
  | succ k ih =>
    have he := List.getElem?_eq_getElem (show k < xs.length by omega)
    rw [bindsL_succ he, sumI_app, ih (by omega)]
    simp only [sumN, sumI]
    rw [bindOf_dirs he]
    omega
/-- each bond is counted at both of its tiles -/
theorem twice {gs : List Gl} {ts : List Ti} {xs : List Pl} (hV : Valid gs ts xs) : sumI (bindsL gs ts xs xs.length) = 2 * sumB (bondsL gs ts xs) := by
  unfold bondsL
  rw [sumI_binds _ _ _ _ (Nat.le_refl _), sumB_bonds hV]
  have h0 := dirB_opp hV (d := 0) (by decide)
  have h1 := dirB_opp hV (d := 1) (by decide)
  simp only [sumN_add]
  have e0 : oppN 0 = 2 := rfl
  have e1 : oppN 1 = 3 := rfl
  rw [e0] at h0
  rw [e1] at h1
  omega
end Go.Proofs.Ytbipnnjkddffbaa
