import Derived.Test.YtmpmokefgdjnkaaGreatKT
import Derived.Test.YtmpmokefgdjnkaaGreatKC
import Derived.Test.YtmpmokefgdjnkaaGreatKS
import Derived.Test.YtmpmokefgdjnkaaGreatKR
import Derived.Test.YtmpmokefgdjnkaaGreatHTo
set_option linter.unusedSimpArgs false
set_option linter.unusedVariables false
/- Walks: BindingsOf, the program's and the reference's. -/



namespace Go.Proofs.YtmpmokefgdjnkaaGreat
open Go.RowKit Go.Shelf
attribute [local go_sem] BelowBy.cell BelowBy.cell_drew stillUpon givesUpon BelowBy.cell_drew2 BelowBy.cell_drew3

theorem cell_one_new (w : World) (a : Value) (t : TypeId) : ∀ j u, [a][j]? = some u → (w.alloc (.cells #[a] t)).cell? ((⟨w.heap.size, 0, none⟩ : Addr).add j) = some u := by
  intro j u hj
  match j, hj with
  | 0, hj => simp at hj; subst hj; simp [Addr.add]
  | j + 1, hj => simp at hj
noncomputable def bindOf (gs : List Gl) (ts : List Ti) (xs : List Pl) (e : Pl) : Int := bindN gs ts xs e.x e.y e.t.toNat 4
noncomputable def bindsL (gs : List Gl) (ts : List Ti) (xs : List Pl) (k : Nat) : List Int := (xs.take k).map (bindOf gs ts xs)
theorem bindsL_succ {gs : List Gl} {ts : List Ti} {xs : List Pl} {k : Nat} {e : Pl} (he : xs[k]? = some e) : bindsL gs ts xs (k + 1) = bindsL gs ts xs k ++ [bindOf gs ts xs e] := by
  have hk := lt_of_get he
  have h2 : xs[k] = e := (List.getElem?_eq_some_iff.1 he).2
  unfold bindsL
  rw [List.take_succ_eq_append_getElem hk, List.map_append, h2]; rfl
theorem bindsL_len {gs : List Gl} {ts : List Ti} {xs : List Pl} {k : Nat} (hk : k ≤ xs.length) : (bindsL gs ts xs k).length = k := by
  unfold bindsL; simp; omega
noncomputable def bindsR (gs : List Gl) (ts : List Ti) (xs : List Pl) : List Int × Int := if validAsmB gs ts xs = true then (bindsL gs ts xs xs.length, 0) else ([], 1)
theorem bindsR_no {gs : List Gl} {ts : List Ti} {xs : List Pl} (h : validAsmB gs ts xs = false) : (([], 1) : List Int × Int) = bindsR gs ts xs := by unfold bindsR; rw [h, if_neg (by decide)]
theorem bindsR_yes {gs : List Gl} {ts : List Ti} {xs : List Pl} (h : validAsmB gs ts xs = true) : ((bindsL gs ts xs xs.length, 0) : List Int × Int) = bindsR gs ts xs := by unfold bindsR; rw [h, if_pos rfl]
theorem bindsR_len (gs : List Gl) (ts : List Ti) (xs : List Pl) : (bindsR gs ts xs).1.length ≤ 1073741824 := by
  unfold bindsR
  split
  · rename_i h
    have h3 := (valid_of h).len
    show (bindsL gs ts xs xs.length).length ≤ _
    rw [bindsL_len (Nat.le_refl _)]
    omega
  · simp
/-- the row of the first k -/
theorem row_snoc {w' : World} {B : Nat} {v' : Value} {k : Nat} {gs : List Gl} {ts : List Ti} {xs : List Pl} {e : Pl} {r : Int} (he : xs[k]? = some e) (hr : bindOf gs ts xs e = r) (h : w'.ownsRow B 2 1 v' (k + 1) ((bindsL gs ts xs k).map (Value.int .i64) ++ [.int .i64 r])) : w'.ownsRow B 2 1 v' (k + 1) ((bindsL gs ts xs (k + 1)).map (Value.int .i64)) := by
  rw [bindsL_succ he, List.map_append, hr]; exact h
end Go.Proofs.YtmpmokefgdjnkaaGreat
/- Plain facts: the bonds of all tiles together are twice the bonds. -/

namespace Go.Proofs.YtmpmokefgdjnkaaGreat
open Go.RowKit
def sumB : List Bd → Int
  | [] => 0
  | b :: l => b.s + sumB l
theorem sumB_app (l m : List Bd) : sumB (l ++ m) = sumB l + sumB m := by
  induction l with
  | nil => simp [sumB]
  | cons b l ih => simp only [List.cons_append, sumB, ih]; omega
theorem sumB_take {bs : List Bd} {k : Nat} {b : Bd} (h : bs[k]? = some b) : sumB (bs.take (k + 1)) = sumB (bs.take k) + b.s := by
  obtain ⟨hk, rfl⟩ := List.getElem?_eq_some_iff.1 h
  rw [List.take_succ_eq_append_getElem hk, sumB_app]; simp [sumB]
theorem sumB_bound {bs : List Bd} (h : ∀ (k : Nat) (b : Bd), bs[k]? = some b → 0 ≤ b.s ∧ b.s ≤ 4) : 0 ≤ sumB bs ∧ sumB bs ≤ 4 * (bs.length : Int) := by
  induction bs with
  | nil => simp [sumB]
  | cons b l ih =>
    have h0 := h 0 b rfl
    have ih := ih (fun k b hb => h (k + 1) b (by simpa using hb))
    simp only [sumB, List.length_cons]
    omega
def sumI : List Int → Int
  | [] => 0
  | b :: l => b + sumI l
theorem sumI_app (l m : List Int) : sumI (l ++ m) = sumI l + sumI m := by
  induction l with
  | nil => simp [sumI]
  | cons b l ih => simp only [List.cons_append, sumI, ih]; omega
theorem sumI_take {bs : List Int} {k : Nat} {b : Int} (h : bs[k]? = some b) : sumI (bs.take (k + 1)) = sumI (bs.take k) + b := by
  obtain ⟨hk, rfl⟩ := List.getElem?_eq_some_iff.1 h
  rw [List.take_succ_eq_append_getElem hk, sumI_app]; simp [sumI]
/-- sums over the numbers below n -/
def sumN (n : Nat) (f : Nat → Int) : Int := match n with
  | 0 => 0
  | n + 1 => sumN n f + f n
theorem sumN_add (n : Nat) (f g : Nat → Int) : sumN n (fun i => f i + g i) = sumN n f + sumN n g := by
  induction n with
  | zero => simp [sumN]
  | succ n ih => simp only [sumN, ih]; omega
theorem sumN_zero (n : Nat) : sumN n (fun _ => 0) = 0 := by
  induction n with
  | zero => rfl
  | succ n ih => simp only [sumN, ih]; omega
theorem sumN_congr {n : Nat} {f g : Nat → Int} (h : ∀ i, i < n → f i = g i) : sumN n f = sumN n g := by
  induction n with
  | zero => rfl
  | succ n ih => simp only [sumN]; rw [ih (fun i hi => h i (by omega)), h n (by omega)]
theorem sumN_swap (n m : Nat) (f : Nat → Nat → Int) : sumN n (fun i => sumN m (fun k => f i k)) = sumN m (fun k => sumN n (fun i => f i k)) := by
  induction n with
  | zero => simp only [sumN]; rw [sumN_zero]
  | succ n ih => simp only [sumN]; rw [ih, sumN_add]
theorem sumN_one {n j : Nat} {f : Nat → Int} (hj : j < n) (h : ∀ i, i < n → i ≠ j → f i = 0) : sumN n f = f j := by
  induction n with
  | zero => omega
  | succ n ih =>
    simp only [sumN]
    by_cases e : j = n
    · subst e
      rw [sumN_congr (g := fun _ => 0) (fun i hi => h i (by omega) (by omega)), sumN_zero]; omega
    · rw [ih (by omega) (fun i hi hne => h i (by omega) hne), h n (by omega) (fun e' => e e'.symm)]; omega
theorem sumN_none {n : Nat} {f : Nat → Int} (h : ∀ i, i < n → f i = 0) : sumN n f = 0 := by
  rw [sumN_congr (g := fun _ => 0) h, sumN_zero]
/-- the bond of place i in a direction -/
noncomputable def dirB (gs : List Gl) (ts : List Ti) (xs : List Pl) (i d : Nat) : Int := match xs[i]? with
  | none => 0
  | some e => if 0 ≤ atI xs (stepX e.x d) (stepY e.y d) then bondI gs ts e.t.toNat d (atI xs (stepX e.x d) (stepY e.y d)).toNat else 0
/-- the bond of two places in a direction -/
def pairB (gs : List Gl) (ts : List Ti) (xs : List Pl) (i k d : Nat) : Int := match xs[i]?, xs[k]? with
  | some e, some o => if o.x = stepX e.x d ∧ o.y = stepY e.y d then bondI gs ts e.t.toNat d o.t.toNat else 0
  | _, _ => 0
theorem oppN_oppN {d : Nat} (h : d < 4) : oppN (oppN d) = d := by unfold oppN; split <;> split <;> omega
theorem bondI_symm (gs : List Gl) (ts : List Ti) (a b d : Nat) (h : d < 4) : bondI gs ts a d b = bondI gs ts b (oppN d) a := by
  unfold bondI
  rw [oppN_oppN h]
  by_cases e : sideI ts a d = sideI ts b (oppN d)
  · rw [if_pos e, if_pos e.symm, e]
  · rw [if_neg e, if_neg (fun e' => e e'.symm)]
theorem pairB_symm (gs : List Gl) (ts : List Ti) (xs : List Pl) (i k d : Nat) (h : d < 4) : pairB gs ts xs i k d = pairB gs ts xs k i (oppN d) := by
  unfold pairB
  cases hi : xs[i]? with
  | none => cases hk : xs[k]? <;> rfl
  | some e =>
    cases hk : xs[k]? with
    | none => rfl
    | some o =>
      simp only
      have hiff : (o.x = stepX e.x d ∧ o.y = stepY e.y d) ↔ (e.x = stepX o.x (oppN d : Nat) ∧ e.y = stepY o.y (oppN d : Nat)) := by
        have : d = 0 ∨ d = 1 ∨ d = 2 ∨ d = 3 := by omega
        rcases this with rfl | rfl | rfl | rfl <;> simp [stepX, stepY, oppN] <;> omega
      by_cases hc : o.x = stepX e.x d ∧ o.y = stepY e.y d
      · rw [if_pos hc, if_pos (hiff.1 hc), bondI_symm gs ts _ _ _ h]
      · rw [if_neg hc, if_neg (fun h' => hc (hiff.2 h'))]
theorem pairB_sum {gs : List Gl} {ts : List Ti} {xs : List Pl} (hV : Valid gs ts xs) (i d : Nat) : sumN xs.length (fun k => pairB gs ts xs i k d) = dirB gs ts xs i d := by
  unfold dirB
  cases hi : xs[i]? with
  | none => exact sumN_none fun k _ => by unfold pairB; rw [hi]
  | some e =>
    simp only
    rcases placeI_is xs (stepX e.x d) (stepY e.y d) with ⟨hp, hno⟩ | ⟨k, o, hp, ho, hox, hoy⟩
    · rw [atI_none hp, if_neg (by decide)]
      refine sumN_none fun k _ => ?_
      unfold pairB
      rw [hi]
      cases hk : xs[k]? with
      | none => rfl
      | some o => simp only; rw [if_neg (hno k o hk)]
    · obtain ⟨t, ht, htl⟩ := hV.ti k o ho
      rw [atI_some hp ho, ht, if_pos (by omega)]
      rw [sumN_one (lt_of_get ho) (fun j hj hne => ?_)]
      · unfold pairB
        rw [hi, ho]
        simp only
        rw [if_pos ⟨hox, hoy⟩, ht]
      · unfold pairB
        rw [hi]
        cases hj' : xs[j]? with
        | none => rfl
        | some o' =>
          simp only
          rw [if_neg]
          rintro ⟨h1, h2⟩
          rcases Nat.lt_trichotomy j k with h | h | h
          · have := (lessPt_iff _ _ _ _).1 (hV.sorted j k o' o h hj' ho); omega
          · exact hne h
          · have := (lessPt_iff _ _ _ _).1 (hV.sorted k j o o' h ho hj'); omega
theorem dirB_opp {gs : List Gl} {ts : List Ti} {xs : List Pl} (hV : Valid gs ts xs) {d : Nat} (h : d < 4) : sumN xs.length (fun i => dirB gs ts xs i d) = sumN xs.length (fun i => dirB gs ts xs i (oppN d)) := by
  have h1 : sumN xs.length (fun i => dirB gs ts xs i d) = sumN xs.length (fun i => sumN xs.length (fun k => pairB gs ts xs i k d)) := sumN_congr fun i _ => (pairB_sum hV i d).symm
  have h2 : sumN xs.length (fun i => dirB gs ts xs i (oppN d)) = sumN xs.length (fun k => sumN xs.length (fun i => pairB gs ts xs k i (oppN d))) := sumN_congr fun i _ => (pairB_sum hV i _).symm
  rw [h1, h2, sumN_swap]
  exact sumN_congr fun k _ => sumN_congr fun i _ => pairB_symm gs ts xs i k d h
theorem bindOf_dirs {gs : List Gl} {ts : List Ti} {xs : List Pl} {i : Nat} {e : Pl} (he : xs[i]? = some e) : bindOf gs ts xs e = dirB gs ts xs i 0 + dirB gs ts xs i 1 + dirB gs ts xs i 2 + dirB gs ts xs i 3 := by
  unfold bindOf dirB
  rw [he]
  simp only [bindN]
  omega
theorem bdS_nonneg {gs : List Gl} {ts : List Ti} {xs : List Pl} (hV : Valid gs ts xs) (x : NbT xs) : 0 ≤ bdS gs ts x := bondI_nonneg hV _ _ _
theorem sumB_nb {gs : List Gl} {ts : List Ti} {xs : List Pl} (hV : Valid gs ts xs) (i d : Nat) (hd : d < 4) : sumB (bdL gs ts (nb xs i d)) = dirB gs ts xs i d := by
  unfold dirB
  cases hi : xs[i]? with
  | none =>
    have : nb xs i d = [] := by unfold nb; simp only [hi]
    rw [this]; rfl
  | some e =>
    simp only
    rcases atI_cases hV (stepX e.x d) (stepY e.y d) with ⟨h, hat⟩ | ⟨k, t, o, h, ho, ht, htl, hat⟩
    · rw [nb_none hi h, hat, if_neg (by decide)]; rfl
    · rw [nb_some hi hd h (lt_of_get ho), hat, if_pos (by omega)]
      have hS : bdS gs ts (xs := xs) ⟨(i, k, d), lt_of_get hi, lt_of_get ho, hd⟩ = bondI gs ts e.t.toNat d t := by
        unfold bdS tileN
        simp only [hi, ho, ht, Int.toNat_natCast]
      have h0 := bondI_nonneg hV e.t.toNat d t
      have ht' : ((t : Nat) : Int).toNat = t := by omega
      rw [ht']
      unfold bdL
      by_cases hp : 0 < bondI gs ts e.t.toNat d t
      · simp [hS, hp, sumB]
      · simp [hS, hp, sumB]; omega
theorem sumB_bonds {gs : List Gl} {ts : List Ti} {xs : List Pl} (hV : Valid gs ts xs) (n : Nat) : sumB (bdL gs ts (nbAll xs n)) = sumN n (fun i => dirB gs ts xs i 1 + dirB gs ts xs i 0) := by
  induction n with
  | zero => rfl
  | succ n ih =>
    have happ : ∀ (l m : List (NbT xs)), bdL gs ts (l ++ m) = bdL gs ts l ++ bdL gs ts m := fun l m => by unfold bdL; exact List.filterMap_append
    simp only [nbAll, sumN, happ, sumB_app, ih, sumB_nb hV n 1 (by decide), sumB_nb hV n 0 (by decide)]
theorem sumI_binds (gs : List Gl) (ts : List Ti) (xs : List Pl) (k : Nat) (hk : k ≤ xs.length) : sumI (bindsL gs ts xs k) = sumN k (fun i => dirB gs ts xs i 0 + dirB gs ts xs i 1 + dirB gs ts xs i 2 + dirB gs ts xs i 3) := by
  induction k with
  | zero => rfl
  | succ k ih =>
    have he := List.getElem?_eq_getElem (show k < xs.length by omega)
    rw [bindsL_succ he, sumI_app, ih (by omega)]
    simp only [sumN, sumI]
    rw [bindOf_dirs he]
    omega
/-- each bond is counted at both of its tiles -/
theorem twice {gs : List Gl} {ts : List Ti} {xs : List Pl} (hV : Valid gs ts xs) : sumI (bindsL gs ts xs xs.length) = 2 * sumB (bondsL gs ts xs) := by
  unfold bondsL
  rw [sumI_binds _ _ _ _ (Nat.le_refl _), sumB_bonds hV]
  have h0 := dirB_opp hV (d := 0) (by decide)
  have h1 := dirB_opp hV (d := 1) (by decide)
  simp only [sumN_add]
  have e0 : oppN 0 = 2 := rfl
  have e1 : oppN 1 = 3 := rfl
  rw [e0] at h0
  rw [e1] at h1
  omega
end Go.Proofs.YtmpmokefgdjnkaaGreat
/- Walks: fractions of two numbers that are not negative. -/



namespace Go.Proofs.YtmpmokefgdjnkaaGreat
open Go.RowKit Go.Shelf
attribute [local go_sem] BelowBy.cell BelowBy.cell_drew stillUpon givesUpon BelowBy.cell_drew2 BelowBy.cell_drew3

theorem gcd_step {a b g : Nat} (h : Nat.gcd a b = g) : Nat.gcd b (a % b) = g := by
  rw [← h, Nat.gcd_comm a b, Nat.gcd_rec b a, Nat.gcd_comm]
/-- the fraction of two numbers -/
def fracN (a b : Nat) : Nat := a / Nat.gcd a b
def fracD (a b : Nat) : Nat := b / Nat.gcd a b
theorem fracN_le (a b : Nat) : fracN a b ≤ a := Nat.div_le_self _ _
theorem fracD_le (a b : Nat) : fracD a b ≤ b := Nat.div_le_self _ _
theorem fracD_pos {a b : Nat} (h : 0 < b) : 0 < fracD a b := Nat.div_pos (Nat.gcd_le_right _ h) (Nat.gcd_pos_of_pos_right _ h)
theorem frac_gcd {a b : Nat} (h : 0 < b) : Nat.gcd (fracN a b) (fracD a b) = 1 := Nat.gcd_div_gcd_div_gcd_of_pos_right h
/-- a fraction and OK -/
def FrRes (w : World) (a b : Nat) (e : Ending) (w' : World) : Prop := e = .returned (.tuple #[.agg #[.int .i64 (fracN a b : Nat), .int .i64 (fracD a b : Nat)], .int .i64 0]) ∧ Below w.heap.size w w'
theorem quo_nat {a b : Nat} : ((a : Int) / (b : Int)) = ((a / b : Nat) : Int) := by omega
end Go.Proofs.YtmpmokefgdjnkaaGreat
/- Walks: MeanBinding, the program's and the reference's. -/


namespace Go.Proofs.YtmpmokefgdjnkaaGreat
open Go.RowKit Go.Shelf
attribute [local go_sem] BelowBy.cell BelowBy.cell_drew stillUpon givesUpon BelowBy.cell_drew2 BelowBy.cell_drew3

set_option maxRecDepth 100000 in
set_option maxHeartbeats 1000000 in
theorem strengthOf_any (A : Option Addr) (n c : Nat) (bs : List Bd) (w : World) (h : RdSl 3 RBd w A n bs) (hn : n ≤ 100000) (hs : ∀ (k : Nat) (b : Bd), bs[k]? = some b → 0 ≤ b.s ∧ b.s ≤ 4) :
    Calls Tryz.prog 27 #[.slice A n c] w fun e w' => e = .returned (.int .i64 (sumB bs)) ∧ Below w.heap.size w w' := by
  have hl := h.len
  go_enter Tryz.func27, Tryz.ntmps27
  go_wp2
  go_loopg [8, 3] n (fun r x y wr => ∃ k : Nat, k + r = n ∧ x = .int .i64 (k : Int) ∧ y = .int .i64 (sumB (bs.take k)) ∧ Below w.heap.size w wr)
  case atStart => exact ⟨0, by omega, rfl, rfl, bl_refl _⟩
  case round =>
    obtain ⟨k, hk, rfl, rfl, hbw⟩ := hrel
    have hb := sumB_bound (bs := bs.take k) (fun j b hj => hs j b (by rw [List.getElem?_take] at hj; split at hj; exact hj; cases hj))
    have htl : (bs.take k).length ≤ k := List.length_take_le _ _
    have r1 := h.below RBd.stable hbw
    by_cases hlt : k < n
    · obtain ⟨b, o, rfl, hb1, hc⟩ := r1.ptr (by omega)
      obtain ⟨e, he⟩ := h.get hlt
      obtain ⟨c0, c1, c2⟩ := hc k e he
      obtain ⟨S, hS⟩ : ∃ S, sumB (bs.take k) = S := ⟨_, rfl⟩
      obtain ⟨e0, e4⟩ := hs k e he
      have hnx := Lib.hid (sumB_take he)
      rw [hS] at hb hnx
      rw [hS]
      obtain ⟨S0, S4⟩ := hb
      have S5 : S ≤ 400000 := by omega
      clear hc he hs h r1 hS S4 htl
      go_wp2
      go_roundg (n - (k + 1))
      case measure => omega
      case rel => exact ⟨k + 1, by omega, by go_num, by rw [hnx.out], by exact bel_⟩
    · obtain rfl : k = n := by omega
      clear r1
      go_wp2
      go_ret
      exact ⟨ret_int (by rw [List.take_of_length_le (by omega)]), hbw⟩
def meanCode (v : Bool) (n : Nat) : Int := if v then (if n = 0 then 3 else 0) else 1
noncomputable def meanR (gs : List Gl) (ts : List Ti) (xs : List Pl) : Nat × Nat × Int :=
  if meanCode (validAsmB gs ts xs) xs.length ≠ 0 then (0, 0, meanCode (validAsmB gs ts xs) xs.length)
  else (fracN (2 * sumB (bondsL gs ts xs)).toNat xs.length, fracD (2 * sumB (bondsL gs ts xs)).toNat xs.length, 0)
def FracRes (w : World) (r : Nat × Nat × Int) (e : Ending) (w' : World) : Prop := e = .returned (.tuple #[.agg #[.int .i64 (r.1 : Int), .int .i64 (r.2.1 : Int)], .int .i64 r.2.2]) ∧ Below w.heap.size w w'
theorem FracRes.of {w : World} {r : Nat × Nat × Int} {a b : Nat} {c : Int} {w' : World} (h : (a, b, c) = r) (hb : Below w.heap.size w w') : FracRes w r (.returned (.tuple #[.agg #[.int .i64 (a : Int), .int .i64 (b : Int)], .int .i64 c])) w' := by
  subst h; exact ⟨rfl, hb⟩
theorem bonds_s {gs : List Gl} {ts : List Ti} {xs : List Pl} (hV : Valid gs ts xs) : ∀ (k : Nat) (b : Bd), (bondsL gs ts xs)[k]? = some b → 0 ≤ b.s ∧ b.s ≤ 4 := fun k b h => by
  have := bondsL_at hV h; omega
end Go.Proofs.YtmpmokefgdjnkaaGreat
