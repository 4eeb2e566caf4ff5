import Derived.Test.YthieodccakphiaaGreatV1
import Derived.Test.YthieodccakphiaaGreatP3
import Derived.Test.YthieodccakphiaaGreatP8
import Derived.Test.YthieodccakphiaaGreatW20a
import Derived.Lib.LazyBuf
import Derived.Lib.SliceRun
import Derived.Test.YthieodccakphiaaGreatW15
import Derived.Deep.RegionLaw
import Derived.Shelf.RegionOpenPlain
import Derived.Test.YthieodccakphiaaGreatW17a
set_option linter.unusedSimpArgs false
set_option linter.unusedVariables false
/- Plain facts: groups of tiles put together in pairs, by strengths between groups and by the groups themselves. -/



namespace Go.Proofs.YthieodccakphiaaGreat
open Go.RowKit
/-- the first pair of groups that bind strongly enough -/
def IsFirst (n : Nat) (M : Nat → Nat → Int) (T : Int) (i k : Nat) : Prop :=
  i < k ∧ k < n ∧ T ≤ M i k ∧ (∀ k', i < k' → k' < k → M i k' < T) ∧ ∀ i', i' < i → ∀ k', i' < k' → k' < n → M i' k' < T
def NoPair (n : Nat) (M : Nat → Nat → Int) (T : Int) : Prop := ∀ i k, i < k → k < n → M i k < T
theorem IsFirst.uniq {n i k i' k' : Nat} {M : Nat → Nat → Int} {T : Int} (h : IsFirst n M T i k) (h' : IsFirst n M T i' k') : i = i' ∧ k = k' := by
  obtain ⟨h1, h2, h3, h4, h5⟩ := h
  obtain ⟨g1, g2, g3, g4, g5⟩ := h'
  rcases Nat.lt_trichotomy i i' with h | rfl | h
  · have := g5 i h k h1 h2; omega
  · rcases Nat.lt_trichotomy k k' with h | rfl | h
    · have := g4 k h1 h; omega
    · exact ⟨rfl, rfl⟩
    · have := h4 k' g1 h; omega
  · have := h5 i' h k' g1 g2; omega
theorem IsFirst.congr {n i k : Nat} {M M' : Nat → Nat → Int} {T : Int} (he : ∀ a b, a < n → b < n → a ≠ b → M a b = M' a b) (h : IsFirst n M T i k) : IsFirst n M' T i k := by
  obtain ⟨h1, h2, h3, h4, h5⟩ := h
  refine ⟨h1, h2, ?_, fun k' a b => ?_, fun i' a k' b c => ?_⟩
  · rw [← he i k (by omega) h2 (by omega)]; exact h3
  · rw [← he i k' (by omega) (by omega) (by omega)]; exact h4 k' a b
  · rw [← he i' k' (by omega) c (by omega)]; exact h5 i' a k' b c
/-- the number j counted without k -/
def skipN (k j : Nat) : Nat := if j < k then j else j + 1
def wrapZ (v : Int) : Int := IntKind.i64.wrap v
/-- the strengths when groups i and k are put together -/
def putM (i k : Nat) (M : Nat → Nat → Int) (a b : Nat) : Int :=
  if skipN k a = i then (if skipN k b = i then 0 else wrapZ (M i (skipN k b) + M k (skipN k b)))
  else if skipN k b = i then wrapZ (M i (skipN k a) + M k (skipN k a)) else M (skipN k a) (skipN k b)
open Classical in
/-- how many groups are left -/
noncomputable def leftM (T : Int) : Nat → (Nat → Nat → Int) → Nat
  | 0, _ => 0
  | n + 1, M => if h : ∃ ik : Nat × Nat, IsFirst (n + 1) M T ik.1 ik.2 then leftM T n (putM h.choose.1 h.choose.2 M) else n + 1
theorem leftM_none {T : Int} {n : Nat} {M : Nat → Nat → Int} (h : NoPair n M T) : leftM T n M = n := by
  cases n with
  | zero => rfl
  | succ n =>
    unfold leftM
    rw [dif_neg]
    rintro ⟨⟨i, k⟩, h1, h2, h3, _⟩
    have := h i k h1 h2
    dsimp only at h3
    omega
theorem leftM_some {T : Int} {n i k : Nat} {M : Nat → Nat → Int} (h : IsFirst n M T i k) : leftM T n M = leftM T (n - 1) (putM i k M) := by
  cases n with
  | zero => exact absurd h.2.1 (by omega)
  | succ n =>
    have he : ∃ ik : Nat × Nat, IsFirst (n + 1) M T ik.1 ik.2 := ⟨(i, k), h⟩
    rw [leftM, dif_pos he]
    obtain ⟨h1, h2⟩ := h.uniq he.choose_spec
    rw [← h1, ← h2]
    rfl
theorem skipN_inj {k a b : Nat} (h : skipN k a = skipN k b) : a = b := by
  unfold skipN at h; split at h <;> split at h <;> omega
theorem skipN_lt {k a n : Nat} (hk : k < n) (h : a < n - 1) : skipN k a < n := by
  unfold skipN; split <;> omega
theorem skipN_ne (k a : Nat) : skipN k a ≠ k := by unfold skipN; split <;> omega
theorem leftM_congr {T : Int} {n : Nat} : ∀ {M M' : Nat → Nat → Int}, (∀ a b, a < n → b < n → a ≠ b → M a b = M' a b) → leftM T n M = leftM T n M' := by
  induction n with
  | zero => intro M M' _; rfl
  | succ n ih =>
    intro M M' he
    by_cases h : ∃ ik : Nat × Nat, IsFirst (n + 1) M T ik.1 ik.2
    · obtain ⟨⟨i, k⟩, h⟩ := h
      dsimp only at h
      rw [leftM_some h, leftM_some (h.congr he)]
      obtain ⟨h1, h2, _⟩ := h
      refine ih fun a b ha hb hab => ?_
      have ha' := skipN_lt h2 (show a < n + 1 - 1 by omega)
      have hb' := skipN_lt h2 (show b < n + 1 - 1 by omega)
      have hka := skipN_ne k a
      have hkb := skipN_ne k b
      have hne : skipN k a ≠ skipN k b := fun e => hab (skipN_inj e)
      unfold putM
      by_cases e1 : skipN k a = i
      · rw [if_pos e1, if_pos e1]
        rw [e1] at hne
        rw [if_neg (fun e => hne e.symm), if_neg (fun e => hne e.symm), he i _ (by omega) hb' hne, he k _ h2 hb' (fun e => hkb e.symm)]
      · rw [if_neg e1, if_neg e1]
        by_cases e2 : skipN k b = i
        · rw [if_pos e2, if_pos e2, he i _ (by omega) ha' (fun e => e1 e.symm), he k _ h2 ha' (fun e => hka e.symm)]
        · rw [if_neg e2, if_neg e2, he _ _ ha' hb' hne]
    · rw [leftM, dif_neg h, leftM, dif_neg]
      rintro ⟨ik, h'⟩
      exact h ⟨ik, h'.congr fun a b ha hb hab => (he a b ha hb hab).symm⟩
/-- sums over rows -/
theorem sumI_add {α : Type} (f g : α → Int) (A : List α) : sumI (A.map fun a => f a + g a) = sumI (A.map f) + sumI (A.map g) := by
  induction A with
  | nil => rfl
  | cons a l ih => simp only [List.map_cons, sumI, ih]; omega
theorem sumI_zero {α : Type} {f : α → Int} {A : List α} (h : ∀ a ∈ A, f a = 0) : sumI (A.map f) = 0 := by
  induction A with
  | nil => rfl
  | cons a l ih =>
    simp only [List.map_cons, sumI, ih (fun b hb => h b (List.mem_cons_of_mem _ hb)), h a (List.mem_cons_self ..)]
    rfl
theorem sumI_congr {α : Type} {f g : α → Int} {A : List α} (h : ∀ a ∈ A, f a = g a) : sumI (A.map f) = sumI (A.map g) := by
  rw [List.map_congr_left h]
theorem sumI_one {α : Type} {f : α → Int} {A : List α} {k : Nat} {o : α} (hk : A[k]? = some o) (h : ∀ (j : Nat) (a : α), A[j]? = some a → j ≠ k → f a = 0) : sumI (A.map f) = f o := by
  induction A generalizing k with
  | nil => simp at hk
  | cons a l ih =>
    simp only [List.map_cons, sumI]
    cases k with
    | zero =>
      simp at hk
      subst hk
      rw [sumI_zero]
      · omega
      · intro b hb
        obtain ⟨j, hj⟩ := List.getElem?_of_mem hb
        exact h (j + 1) b (by simpa using hj) (by omega)
    | succ k =>
      rw [ih (k := k) (by simpa using hk) (fun j b hj hne => h (j + 1) b (by simpa using hj) (by omega)), h 0 a rfl (by omega)]
      omega
theorem sumI_perm {l m : List Int} (h : l.Perm m) : sumI l = sumI m := by
  induction h with
  | nil => rfl
  | cons x _ ih => simp only [sumI, ih]
  | swap x y l => simp only [sumI]; omega
  | trans _ _ h1 h2 => exact h1.trans h2
theorem sumI_swap {α β : Type} (f : β → α → Int) (A : List α) (B : List β) : sumI (B.map fun b => sumI (A.map (f b))) = sumI (A.map fun a => sumI (B.map fun b => f b a)) := by
  induction B with
  | nil =>
    symm
    exact sumI_zero fun _ _ => rfl
  | cons b l ih =>
    simp only [List.map_cons, sumI, ih]
    rw [← sumI_add]
/-- the bonds of two tiles -/
def prD (gs : List Gl) (ts : List Ti) (e o : Pl) (d : Nat) : Int := if o.x = stepX e.x d ∧ o.y = stepY e.y d then bondI gs ts e.t.toNat d o.t.toNat else 0
def pr (gs : List Gl) (ts : List Ti) (e o : Pl) : Int := prD gs ts e o 0 + prD gs ts e o 1 + prD gs ts e o 2 + prD gs ts e o 3
theorem prD_symm (gs : List Gl) (ts : List Ti) (e o : Pl) (d : Nat) (h : d < 4) : prD gs ts e o d = prD gs ts o e (oppN d) := by
  unfold prD
  have hiff : (o.x = stepX e.x d ∧ o.y = stepY e.y d) ↔ (e.x = stepX o.x (oppN d : Nat) ∧ e.y = stepY o.y (oppN d : Nat)) := by
    have : d = 0 ∨ d = 1 ∨ d = 2 ∨ d = 3 := by omega
    rcases this with rfl | rfl | rfl | rfl <;> simp [stepX, stepY, oppN] <;> omega
  by_cases hc : o.x = stepX e.x d ∧ o.y = stepY e.y d
  · rw [if_pos hc, if_pos (hiff.1 hc), bondI_symm gs ts _ _ _ h]
  · rw [if_neg hc, if_neg (fun h' => hc (hiff.2 h'))]
theorem pr_symm (gs : List Gl) (ts : List Ti) (e o : Pl) : pr gs ts e o = pr gs ts o e := by
  unfold pr
  rw [prD_symm gs ts e o 0 (by decide), prD_symm gs ts e o 1 (by decide), prD_symm gs ts e o 2 (by decide), prD_symm gs ts e o 3 (by decide)]
  show prD gs ts o e 2 + prD gs ts o e 3 + prD gs ts o e 0 + prD gs ts o e 1 = _
  omega
theorem pairB_prD (gs : List Gl) (ts : List Ti) {xs : List Pl} {i k : Nat} {e o : Pl} (d : Nat) (hi : xs[i]? = some e) (hk : xs[k]? = some o) : pairB gs ts xs i k d = prD gs ts e o d := by
  unfold pairB prD; rw [hi, hk]
/-- the strength of the bonds between two groups -/
def strL (gs : List Gl) (ts : List Ti) (A B : List Pl) : Int := sumI (B.map fun b => sumI (A.map (pr gs ts b)))
theorem strL_symm (gs : List Gl) (ts : List Ti) (A B : List Pl) : strL gs ts A B = strL gs ts B A := by
  unfold strL
  rw [sumI_swap]
  refine sumI_congr fun a _ => sumI_congr fun b _ => pr_symm gs ts b a
theorem strL_put (gs : List Gl) (ts : List Ti) {A A' S : List Pl} (B : List Pl) (h : S.Perm (A ++ A')) : strL gs ts S B = strL gs ts A B + strL gs ts A' B := by
  unfold strL
  rw [← sumI_add]
  refine sumI_congr fun b _ => ?_
  rw [sumI_perm (h.map (pr gs ts b)), List.map_append, sumI_app]
theorem dir_sum {gs : List Gl} {ts : List Ti} {A : List Pl} (hV : Valid gs ts A) (e : Pl) (d : Nat) : sumI (A.map fun a => prD gs ts e a d) = if 0 ≤ atI A (stepX e.x d) (stepY e.y d) then bondI gs ts e.t.toNat d (atI A (stepX e.x d) (stepY e.y d)).toNat else 0 := by
  rcases placeI_is A (stepX e.x d) (stepY e.y d) with ⟨hp, hno⟩ | ⟨k, o, hp, ho, hox, hoy⟩
  · rw [atI_none hp, if_neg (by decide)]
    refine sumI_zero fun a ha => ?_
    obtain ⟨j, hj⟩ := List.getElem?_of_mem ha
    unfold prD
    rw [if_neg (hno j a hj)]
  · obtain ⟨t, ht, htl⟩ := hV.ti k o ho
    rw [atI_some hp ho, ht, if_pos (by omega), sumI_one (k := k) ho]
    · unfold prD
      rw [if_pos ⟨hox, hoy⟩, ht]
    · intro j a ha hne
      unfold prD
      rw [if_neg]
      rintro ⟨h1, h2⟩
      rcases Nat.lt_or_gt_of_ne hne with h | h
      · have := (lessPt_iff _ _ _ _).1 (hV.sorted j k a o h ha ho); omega
      · have := (lessPt_iff _ _ _ _).1 (hV.sorted k j o a h ho ha); omega
theorem bindN_pr {gs : List Gl} {ts : List Ti} {A : List Pl} (hV : Valid gs ts A) (e : Pl) : bindN gs ts A e.x e.y e.t.toNat 4 = sumI (A.map (pr gs ts e)) := by
  have h : sumI (A.map (pr gs ts e)) = sumI (A.map fun a => prD gs ts e a 0) + sumI (A.map fun a => prD gs ts e a 1) + sumI (A.map fun a => prD gs ts e a 2) + sumI (A.map fun a => prD gs ts e a 3) := by
    rw [← sumI_add, ← sumI_add, ← sumI_add]; rfl
  rw [h, dir_sum hV, dir_sum hV, dir_sum hV, dir_sum hV]
  simp only [bindN]
  omega
theorem sumJ_sum (gs : List Gl) (ts : List Ti) (A B : List Pl) (k : Nat) (hk : k ≤ B.length) : sumJ gs ts A B k = sumI ((B.take k).map fun e => bindN gs ts A e.x e.y e.t.toNat 4) := by
  induction k with
  | zero => rfl
  | succ k ih =>
    have he := List.getElem?_eq_getElem (show k < B.length by omega)
    rw [List.take_succ_eq_append_getElem (by omega), List.map_append, sumI_app, ← ih (by omega)]
    simp only [sumJ, he, List.map_cons, List.map_nil, sumI]
    omega
theorem sumJ_str {gs : List Gl} {ts : List Ti} {A : List Pl} (hV : Valid gs ts A) (B : List Pl) : sumJ gs ts A B B.length = strL gs ts A B := by
  rw [sumJ_sum gs ts A B _ (Nat.le_refl _), List.take_length]
  exact sumI_congr fun e _ => bindN_pr hV e
theorem strL_bound {gs : List Gl} {ts : List Ti} {A B : List Pl} (hV : Valid gs ts A) (hB : B.length ≤ 500) : 0 ≤ strL gs ts A B ∧ strL gs ts A B ≤ 8000 := by
  have := sumJ_bound hV B B.length
  rw [sumJ_str hV] at this
  omega
/-- the groups of an assembly -/
structure Gps (gs : List Gl) (ts : List Ti) (xs : List Pl) (Gs : List (List Pl)) : Prop where
  all : Gs.flatten.Perm xs
  srt : ∀ (k : Nat) (l : List Pl), Gs[k]? = some l → SortPl l ∧ l ≠ []
theorem Gps.start {gs : List Gl} {ts : List Ti} {xs : List Pl} : Gps gs ts xs (xs.map fun e => [e]) := by
  refine ⟨?_, fun k l hl => ?_⟩
  · have : (xs.map fun e => [e]).flatten = xs := by
      induction xs with
      | nil => rfl
      | cons a l ih => simp only [List.map_cons, List.flatten_cons, ih]; rfl
    rw [this]
  · rw [List.getElem?_map] at hl
    cases he : xs[k]? with
    | none => rw [he] at hl; cases hl
    | some e =>
      rw [he] at hl
      obtain rfl := Option.some.inj hl
      exact ⟨List.pairwise_singleton _ _, by simp⟩
theorem flat_sub {α : Type} {Gs : List (List α)} {k : Nat} {l : List α} (h : Gs[k]? = some l) : l.Sublist Gs.flatten := by
  induction Gs generalizing k with
  | nil => simp at h
  | cons g m ih =>
    rw [List.flatten_cons]
    cases k with
    | zero => simp at h; subst h; exact List.sublist_append_left _ _
    | succ k => exact (ih (k := k) (by simpa using h)).trans (List.sublist_append_right _ _)
theorem Gps.valid {gs : List Gl} {ts : List Ti} {xs : List Pl} {Gs : List (List Pl)} (h : Gps gs ts xs Gs) (hV : Valid gs ts xs) {k : Nat} {l : List Pl} (hl : Gs[k]? = some l) : Valid gs ts l := by
  have hs := (h.srt k l hl).1
  have hsub := flat_sub hl
  have hmem : ∀ e ∈ l, ∃ j, xs[j]? = some e := fun e he => List.getElem?_of_mem (h.all.mem_iff.1 (hsub.subset he))
  refine { len := ?_, gl := hV.gl, tl := hV.tl, pt := ?_, ti := ?_, sorted := ?_, four := hV.four, side := hV.side, str := hV.str }
  · have h1 := hsub.length_le
    have h2 := h.all.length_eq
    have := hV.len
    omega
  · intro j e he
    obtain ⟨i, hi⟩ := hmem e (List.mem_of_getElem? he)
    exact hV.pt i e hi
  · intro j e he
    obtain ⟨i, hi⟩ := hmem e (List.mem_of_getElem? he)
    exact hV.ti i e hi
  · intro i j d e hij hd he
    obtain ⟨hi, rfl⟩ := List.getElem?_eq_some_iff.1 hd
    obtain ⟨hj, rfl⟩ := List.getElem?_eq_some_iff.1 he
    exact List.pairwise_iff_getElem.1 hs i j hi hj hij
theorem flat_two {α : Type} {Gs : List (List α)} {i k : Nat} {A B : List α} (hik : i < k) (hA : Gs[i]? = some A) (hB : Gs[k]? = some B) : (A ++ B).Sublist Gs.flatten := by
  induction Gs generalizing i k with
  | nil => simp at hA
  | cons g m ih =>
    rw [List.flatten_cons]
    obtain ⟨k, rfl⟩ : ∃ k', k = k' + 1 := ⟨k - 1, by omega⟩
    cases i with
    | zero =>
      simp at hA
      subst hA
      exact (List.Sublist.refl _).append (flat_sub (k := k) (by simpa using hB))
    | succ i => exact (ih (i := i) (k := k) (by omega) (by simpa using hA) (by simpa using hB)).trans (List.sublist_append_right _ _)
theorem Gps.two {gs : List Gl} {ts : List Ti} {xs : List Pl} {Gs : List (List Pl)} (h : Gps gs ts xs Gs) (hV : Valid gs ts xs) {i k : Nat} {A B : List Pl} (hik : i < k) (hA : Gs[i]? = some A) (hB : Gs[k]? = some B) : Two gs ts A B ∧ A.length + B.length ≤ 500 := by
  have hsub := flat_two hik hA hB
  have hap : (A ++ B).Pairwise apart := List.Pairwise.sublist hsub (h.all.symm.pairwise (sortPl_valid hV).apart apart_symm)
  have hVB := h.valid hV hB
  have hVA := h.valid hV hA
  refine ⟨⟨hVA, (h.srt k B hB).1, fun j e he => ⟨(hVB.pt j e he).1, (hVB.pt j e he).2, hVB.ti j e he⟩, fun j hj => ?_⟩, ?_⟩
  · have he := List.getElem?_eq_getElem hj
    rw [freeAt_eq he, decide_eq_true_eq]
    rcases placeI_is A B[j].x B[j].y with ⟨hp, _⟩ | ⟨k', e, hp, he', hx, hy⟩
    · omega
    · exact absurd ⟨hx, hy⟩ ((List.pairwise_append.1 hap).2.2 e (List.mem_of_getElem? he') _ (List.getElem_mem hj))
  · have h1 := hsub.length_le
    have h2 := h.all.length_eq
    have := hV.len
    rw [List.length_append] at h1
    omega
/-- the strengths between groups -/
def strM (gs : List Gl) (ts : List Ti) (Gs : List (List Pl)) (a b : Nat) : Int := strL gs ts (Gs.getD a []) (Gs.getD b [])
/-- groups i and k put together -/
noncomputable def putG (i k : Nat) (Gs : List (List Pl)) : List (List Pl) := (Gs.set i (sortPl (Gs.getD i [] ++ Gs.getD k []))).eraseIdx k
theorem flat_erase {α : Type} {Gs : List (List α)} {k : Nat} {B : List α} (hB : Gs[k]? = some B) : (B ++ (Gs.eraseIdx k).flatten).Perm Gs.flatten := by
  induction Gs generalizing k with
  | nil => simp at hB
  | cons g m ih =>
    cases k with
    | zero => simp at hB; subst hB; simp
    | succ k =>
      have := ih (k := k) (by simpa using hB)
      simp only [List.eraseIdx_cons_succ, List.flatten_cons]
      refine List.Perm.trans ?_ (this.append_left g)
      rw [← List.append_assoc, ← List.append_assoc]
      exact List.perm_append_comm.append_right _
theorem flat_put {α : Type} {Gs : List (List α)} {i k : Nat} {A B S : List α} (hik : i < k) (hA : Gs[i]? = some A) (hB : Gs[k]? = some B) (hS : S.Perm (A ++ B)) : ((Gs.set i S).eraseIdx k).flatten.Perm Gs.flatten := by
  induction Gs generalizing i k with
  | nil => simp at hA
  | cons g m ih =>
    obtain ⟨k, rfl⟩ : ∃ k', k = k' + 1 := ⟨k - 1, by omega⟩
    cases i with
    | zero =>
      simp at hA
      subst hA
      simp only [List.set_cons_zero, List.eraseIdx_cons_succ, List.flatten_cons]
      refine (hS.append_right _).trans ?_
      rw [List.append_assoc]
      exact (flat_erase (by simpa using hB)).append_left g
    | succ i =>
      simp only [List.set_cons_succ, List.eraseIdx_cons_succ, List.flatten_cons]
      exact (ih (i := i) (k := k) (by omega) (by simpa using hA) (by simpa using hB)).append_left g
theorem putG_get {i k : Nat} {Gs : List (List Pl)} (a : Nat) (hk : k < Gs.length) (hik : i < k) : (putG i k Gs)[a]? = if skipN k a = i then some (sortPl (Gs.getD i [] ++ Gs.getD k [])) else Gs[skipN k a]? := by
  unfold putG skipN
  rw [List.getElem?_eraseIdx]
  split
  · rw [List.getElem?_set]
    by_cases e : i = a
    · subst e; rw [if_pos rfl, if_pos (by omega), if_pos rfl]
    · rw [if_neg e, if_neg (fun e' => e e'.symm)]
  · rw [List.getElem?_set]
    by_cases e : i = a + 1
    · subst e; rw [if_pos rfl, if_pos (by omega), if_pos rfl]
    · rw [if_neg e, if_neg (fun e' => e e'.symm)]
theorem putG_len {i k : Nat} {Gs : List (List Pl)} (hk : k < Gs.length) : (putG i k Gs).length = Gs.length - 1 := by
  unfold putG
  rw [List.length_eraseIdx_of_lt (by simpa using hk), List.length_set]
theorem getD_get {Gs : List (List Pl)} {i : Nat} (h : i < Gs.length) : Gs[i]? = some (Gs.getD i []) := by
  rw [List.getD_eq_getElem?_getD, List.getElem?_eq_getElem h]; rfl
theorem Gps.put {gs : List Gl} {ts : List Ti} {xs : List Pl} {Gs : List (List Pl)} (h : Gps gs ts xs Gs) (hV : Valid gs ts xs) {i k : Nat} (hik : i < k) (hk : k < Gs.length) : Gps gs ts xs (putG i k Gs) := by
  have hA := getD_get (show i < Gs.length by omega)
  have hB := getD_get hk
  refine ⟨(flat_put hik hA hB (List.mergeSort_perm _ _)).trans h.all, fun j l hl => ?_⟩
  rw [putG_get j hk hik] at hl
  split at hl
  · obtain rfl := Option.some.inj hl
    refine ⟨(h.two hV hik hA hB).1.sorted, fun e => ?_⟩
    have h1 := sortPl_len (Gs.getD i [] ++ Gs.getD k [])
    rw [e] at h1
    have h0 : (Gs.getD i [] ++ Gs.getD k []).length = 0 := h1.symm
    rw [List.length_append] at h0
    exact (h.srt i _ hA).2 (List.eq_nil_of_length_eq_zero (by omega))
  · exact h.srt _ l hl
theorem strM_put {gs : List Gl} {ts : List Ti} {xs : List Pl} {Gs : List (List Pl)} (h : Gps gs ts xs Gs) (hV : Valid gs ts xs) {i k : Nat} (hik : i < k) (hk : k < Gs.length) (a b : Nat) (ha : a < Gs.length - 1) (hb : b < Gs.length - 1) (hab : a ≠ b) :
    putM i k (strM gs ts Gs) a b = strM gs ts (putG i k Gs) a b := by
  have hA := getD_get (show i < Gs.length by omega)
  have hB := getD_get hk
  have hGa : ∀ c, c < Gs.length - 1 → (putG i k Gs).getD c [] = if skipN k c = i then sortPl (Gs.getD i [] ++ Gs.getD k []) else Gs.getD (skipN k c) [] := fun c hc => by
    rw [List.getD_eq_getElem?_getD, putG_get c hk hik]
    split
    · rfl
    · rw [List.getD_eq_getElem?_getD]
  have hne : skipN k a ≠ skipN k b := fun e => hab (skipN_inj e)
  have hwr : ∀ c, c < Gs.length → wrapZ (strM gs ts Gs i c + strM gs ts Gs k c) = strM gs ts Gs i c + strM gs ts Gs k c := fun c hc => by
    have hC := getD_get hc
    have h5 : (Gs.getD c []).length ≤ 500 := (h.valid hV hC).len
    have h1 := strL_bound (h.valid hV hA) h5
    have h2 := strL_bound (h.valid hV hB) h5
    unfold wrapZ strM
    exact IntWalk.i64_in _ ⟨by omega, by omega⟩
  have hS : (sortPl (Gs.getD i [] ++ Gs.getD k [])).Perm (Gs.getD i [] ++ Gs.getD k []) := List.mergeSort_perm _ _
  unfold putM
  by_cases e1 : skipN k a = i
  · rw [if_pos e1, if_neg (fun e2 => hne (e1.trans e2.symm)), hwr _ (skipN_lt hk hb)]
    unfold strM
    rw [hGa a ha, if_pos e1, hGa b hb, if_neg (fun e2 => hne (e1.trans e2.symm)), strL_put gs ts _ hS]
  · rw [if_neg e1]
    by_cases e2 : skipN k b = i
    · rw [if_pos e2, hwr _ (skipN_lt hk ha)]
      unfold strM
      rw [hGa a ha, if_neg e1, hGa b hb, if_pos e2, strL_symm gs ts _ (sortPl _), strL_put gs ts _ hS]
    · rw [if_neg e2]
      unfold strM
      rw [hGa a ha, if_neg e1, hGa b hb, if_neg e2]
/-- a step of the reference -/
theorem left_put {gs : List Gl} {ts : List Ti} {xs : List Pl} {Gs : List (List Pl)} {T : Int} (h : Gps gs ts xs Gs) (hV : Valid gs ts xs) {i k : Nat} (hf : IsFirst Gs.length (strM gs ts Gs) T i k) :
    leftM T Gs.length (strM gs ts Gs) = leftM T (putG i k Gs).length (strM gs ts (putG i k Gs)) := by
  rw [leftM_some hf, putG_len hf.2.1]
  exact leftM_congr fun a b ha hb hab => strM_put h hV hf.1 hf.2.1 a b ha hb hab
/-- the strengths of the single tiles -/
def joS (u v : Nat) (e : Bd) : Int := if jo e u v = true then e.s else 0
theorem roomM_sum (bs : List Bd) (u v : Nat) (m : Nat) (hm : m ≤ bs.length) : roomM bs m u v = sumI ((bs.take m).map (joS u v)) := by
  induction m with
  | zero => rfl
  | succ m ih =>
    have he := List.getElem?_eq_getElem (show m < bs.length by omega)
    rw [List.take_succ_eq_append_getElem (by omega), List.map_append, sumI_app, ← ih (by omega)]
    simp only [roomM, he, List.map_cons, List.map_nil, sumI, joS]
    omega
theorem nb_room {gs : List Gl} {ts : List Ti} {xs : List Pl} (hV : Valid gs ts xs) (i d : Nat) (hd : d < 4) {u v : Nat} (huv : u ≠ v) :
    sumI ((bdL gs ts (nb xs i d)).map (joS u v)) = (if i = u then pairB gs ts xs u v d else 0) + (if i = v then pairB gs ts xs v u d else 0) := by
  cases hi : xs[i]? with
  | none =>
    have h0 : nb xs i d = [] := by unfold nb; simp only [hi]
    rw [h0]
    have h1 : ∀ k, pairB gs ts xs i k d = 0 := fun k => by unfold pairB; rw [hi]
    by_cases e1 : i = u
    · subst e1; rw [if_pos rfl, if_neg huv, h1]; rfl
    · by_cases e2 : i = v
      · subst e2; rw [if_neg e1, if_pos rfl, h1]; rfl
      · rw [if_neg e1, if_neg e2]; rfl
  | some e =>
    rcases atI_cases hV (stepX e.x d) (stepY e.y d) with ⟨h, hat⟩ | ⟨k, t, o, h, ho, ht, htl, hat⟩
    · rw [nb_none hi h]
      have h1 : ∀ k, pairB gs ts xs i k d = 0 := fun k => by
        unfold pairB; rw [hi]
        cases hk : xs[k]? with
        | none => rfl
        | some o =>
          simp only
          rcases placeI_is xs (stepX e.x d) (stepY e.y d) with ⟨_, hno⟩ | ⟨k', o', hp', _⟩
          · rw [if_neg (hno k o hk)]
          · omega
      by_cases e1 : i = u
      · subst e1; rw [if_pos rfl, if_neg huv, h1]; rfl
      · by_cases e2 : i = v
        · subst e2; rw [if_neg e1, if_pos rfl, h1]; rfl
        · rw [if_neg e1, if_neg e2]; rfl
    · have hkl := lt_of_get ho
      rw [nb_some hi hd h hkl]
      have hS : bdS gs ts (xs := xs) ⟨(i, k, d), lt_of_get hi, hkl, hd⟩ = bondI gs ts e.t.toNat d t := by
        unfold bdS tileN
        simp only [hi, ho, ht, Int.toNat_natCast]
      have h0 := bondI_nonneg hV e.t.toNat d t
      have hxy : o.x = stepX e.x d ∧ o.y = stepY e.y d := by
        rcases placeI_is xs (stepX e.x d) (stepY e.y d) with ⟨h', _⟩ | ⟨k', o', hp', ho', hx', hy'⟩
        · omega
        · obtain rfl : k = k' := by omega
          rw [ho] at ho'
          obtain rfl := Option.some.inj ho'
          exact ⟨hx', hy'⟩
      have hP : ∀ k', pairB gs ts xs i k' d = if k' = k then bondI gs ts e.t.toNat d t else 0 := fun k' => by
        unfold pairB; rw [hi]
        by_cases ek : k' = k
        · subst ek; rw [ho]; simp only [hxy, and_self, if_true, ht, Int.toNat_natCast]
        · rw [if_neg ek]
          cases hk' : xs[k']? with
          | none => rfl
          | some o' =>
            simp only
            rw [if_neg]
            rintro ⟨h1, h2⟩
            rcases Nat.lt_or_gt_of_ne ek with hlt | hlt
            · have := (lessPt_iff _ _ _ _).1 (hV.sorted k' k o' o hlt hk' ho); omega
            · have := (lessPt_iff _ _ _ _).1 (hV.sorted k k' o o' hlt ho hk'); omega
      have hL : sumI ((bdL gs ts [(⟨(i, k, d), lt_of_get hi, hkl, hd⟩ : NbT xs)]).map (joS u v)) = if i = u ∧ k = v ∨ i = v ∧ k = u then bondI gs ts e.t.toNat d t else 0 := by
        unfold bdL
        by_cases hp : 0 < bondI gs ts e.t.toNat d t
        · simp only [List.filterMap_cons, hS, hp, if_true, List.filterMap_nil, List.map_cons, List.map_nil, sumI, joS, jo, decide_eq_true_eq]
          omega
        · simp only [List.filterMap_cons, hS, hp, if_false, List.filterMap_nil, List.map_nil, sumI]
          split <;> omega
      rw [hL]
      by_cases e1 : i = u
      · subst e1
        rw [if_pos rfl, if_neg huv, hP]
        by_cases e3 : k = v
        · subst e3; rw [if_pos (.inl ⟨rfl, rfl⟩), if_pos rfl]; omega
        · rw [if_neg (fun h => h.elim (fun h => e3 h.2) (fun h => huv h.1)), if_neg (fun h => e3 h.symm)]; rfl
      · by_cases e2 : i = v
        · subst e2
          rw [if_neg e1, if_pos rfl, hP]
          by_cases e3 : k = u
          · subst e3; rw [if_pos (.inr ⟨rfl, rfl⟩), if_pos rfl]; omega
          · rw [if_neg (fun h => h.elim (fun h => e1 h.1) (fun h => e3 h.2)), if_neg (fun h => e3 h.symm)]; rfl
        · rw [if_neg e1, if_neg e2, if_neg (fun h => h.elim (fun h => e1 h.1) (fun h => e2 h.1))]; rfl
theorem nbAll_room {gs : List Gl} {ts : List Ti} {xs : List Pl} (hV : Valid gs ts xs) {u v : Nat} (huv : u ≠ v) (n : Nat) :
    sumI ((bdL gs ts (nbAll xs n)).map (joS u v)) = sumN n fun i => (if i = u then pairB gs ts xs u v 1 + pairB gs ts xs u v 0 else 0) + (if i = v then pairB gs ts xs v u 1 + pairB gs ts xs v u 0 else 0) := by
  induction n with
  | zero => rfl
  | succ n ih =>
    have happ : ∀ (l m : List (NbT xs)), bdL gs ts (l ++ m) = bdL gs ts l ++ bdL gs ts m := fun l m => by unfold bdL; exact List.filterMap_append
    simp only [nbAll, sumN, happ, List.map_append, sumI_app, ih, nb_room hV n 1 (by decide) huv, nb_room hV n 0 (by decide) huv]
    by_cases e1 : n = u <;> by_cases e2 : n = v <;> simp only [e1, e2, if_true, if_false] <;> omega
theorem room_pr {gs : List Gl} {ts : List Ti} {xs : List Pl} (hV : Valid gs ts xs) {u v : Nat} {e o : Pl} (huv : u ≠ v) (hu : xs[u]? = some e) (hv : xs[v]? = some o) :
    roomM (bondsL gs ts xs) (bondsL gs ts xs).length u v = pr gs ts e o := by
  rw [roomM_sum _ _ _ _ (Nat.le_refl _), List.take_length]
  unfold bondsL
  rw [nbAll_room hV huv, sumN_add, sumN_one (lt_of_get hu) (fun i _ hne => if_neg hne), sumN_one (lt_of_get hv) (fun i _ hne => if_neg hne), if_pos rfl, if_pos rfl,
    pairB_prD gs ts 1 hu hv, pairB_prD gs ts 0 hu hv, pairB_prD gs ts 1 hv hu, pairB_prD gs ts 0 hv hu, prD_symm gs ts o e 1 (by decide), prD_symm gs ts o e 0 (by decide)]
  show prD gs ts e o 1 + prD gs ts e o 0 + (prD gs ts e o 3 + prD gs ts e o 2) = _
  unfold pr
  omega
/-- both begin with the same strengths -/
theorem left_start {gs : List Gl} {ts : List Ti} {xs : List Pl} (hV : Valid gs ts xs) (T : Int) :
    leftM T xs.length (roomM (bondsL gs ts xs) (bondsL gs ts xs).length) = leftM T (xs.map fun e => [e]).length (strM gs ts (xs.map fun e => [e])) := by
  rw [List.length_map]
  refine leftM_congr fun a b ha hb hab => ?_
  have hA := List.getElem?_eq_getElem ha
  have hB := List.getElem?_eq_getElem hb
  rw [room_pr hV hab hA hB]
  unfold strM strL
  rw [List.getD_eq_getElem?_getD, List.getD_eq_getElem?_getD, List.getElem?_map, List.getElem?_map, hA, hB]
  simp only [Option.map_some, Option.getD_some, List.map_cons, List.map_nil, sumI]
  rw [pr_symm]
  omega
/-- what the answer is -/
noncomputable def leftE (gs : List Gl) (ts : List Ti) (xs : List Pl) (T : Int) : Nat := leftM T xs.length (roomM (bondsL gs ts xs) (bondsL gs ts xs).length)
noncomputable def prodR (gs : List Gl) (ts : List Ti) (xs : List Pl) (T : Int) : Bool × Int :=
  if validAsmB gs ts xs = false then (false, 1) else if inB T 1 16 = false then (false, 2) else if xs.length = 0 then (false, 3) else (decide (leftE gs ts xs T = 1), 0)
end Go.Proofs.YthieodccakphiaaGreat
/- Walks: a list of bonds copied; its weak bonds struck out. -/



namespace Go.Proofs.YthieodccakphiaaGreat
open Go.RowKit Go.Shelf
attribute [local go_sem] BelowBy.cell BelowBy.cell_drew stillUpon givesUpon BelowBy.cell_drew2 BelowBy.cell_drew3

theorem bdCells_one (bs : List Bd) : ∀ u ∈ bdCells bs, u.oneCell' = true := by
  induction bs with
  | nil => simp [bdCells]
  | cons b l ih =>
    intro u hu
    simp only [bdCells, List.mem_cons] at hu
    rcases hu with rfl | rfl | rfl | hu
    · rfl
    · rfl
    · rfl
    · exact ih u hu
def OwnRes (w : World) (bs : List Bd) (e : Ending) (w' : World) : Prop := ∃ v, e = .returned v ∧ w'.ownsRow w.heap.size 182 3 v bs.length (bdCells bs) ∧ Below w.heap.size w w'
set_option maxRecDepth 100000 in
set_option maxHeartbeats 1000000 in
theorem CloneB_any (base : Nat) (v : Value) (bs : List Bd) (w : World) (h : w.ownsRow base 182 3 v bs.length (bdCells bs)) (hn : bs.length ≤ 100000) :
    Calls Tryz.prog 159 #[v] w (OwnRes w bs) := by
  obtain ⟨i0, hi, hz0, hz1, hz2⟩ := info_parts infoBond
  rcases h.2 with ⟨rfl, h0⟩ | ⟨g, cap, cur, rfl, hb, hh, hnc, hm, hs, ht⟩
  · have hb : bs = [] := List.eq_nil_of_length_eq_zero h0
    subst hb
    have hq := fun W => Lib.run_eql_slice_nil (P := Tryz.prog) W 179 182 none 0 0 0 0 Tryz.underlying179
    clear h
    go_enter Tryz.func159, Tryz.ntmps159
    go_wp2
    go_ret
    exact ⟨_, rfl, World.ownsRow_nil _ _ _ _, bl_refl _⟩
  · have hq := fun W => Lib.run_eql_slice_nil (P := Tryz.prog) W 179 182 (some ⟨g, 0, none⟩) bs.length cap 0 0 Tryz.underlying179
    have hcell := h.cells (g := g) rfl
    have hcellH := Lib.hid hcell
    have hlt := (Array.getElem?_eq_some_iff.1 hh).1
    have hlen := h.1
    have hlenH := Lib.hid hlen
    clear h hcell hh hs ht hlen
    obtain ⟨L, hL⟩ : ∃ L, bs.length = L := ⟨_, rfl⟩
    rw [hL] at hn hnc hlenH hq
    rw [hL]
    have hLH := Lib.hid hL
    clear hL
    go_enter Tryz.func159, Tryz.ntmps159
    go_wp2_with (at_builtin; go_loud (refine wpList_append_own _ rfl _ _ 179 rfl w.heap.size 182 i0 (.agg #[.int .i64 0, .int .i64 0, .int .i64 0]) 3 24 Tryz.underlying179 hi hz0 hz1 hz2 rfl (by decide) _ 0 [] rfl (World.ownsRow_made _ _ _ (Nat.le_refl _) (by decide) rfl) ⟨g, 0, none⟩ L cap (bdCells bs) rfl hlenH.out (fun j u hj => (World.cell?_alloc_lt _ _ _ (by rw [Addr.add_lit]; exact hlt)).trans (hcellH.out j u hj)) (bdCells_one bs) (by unfold maxLen; omega) (by omega) (by simp) ?_); intro v' w3 hown' hgrow _)
    go_ret
    refine ⟨_, rfl, ?_, ((Below.refl w.heap.size w).alloc (Nat.le_refl _) _).grown hgrow (by simp) (fun b' hb' => ?_)⟩
    · rw [hLH.out]
      simpa using hown'
    · have hb2 : some w.heap.size = some b' := hb'
      injection hb2 with hb3
      exact Nat.le_of_eq hb3
/-- what is struck out -/
def weakB (t : Int) (b : Bd) : Bool := decide (b.s < t)
set_option maxHeartbeats 1000000 in
theorem contr1_any (p : Nat) (t : Int) (e : Bd) (w : World) (hp : w.cell? ⟨p, 0, none⟩ = some (.int .i64 t)) (hlt : p < w.heap.size) :
    Calls Tryz.prog 160 #[.agg #[.int .i64 (e.a : Int), .int .i64 (e.b : Int), .int .i64 e.s], .pointer (some ⟨p, 0, none⟩)] w fun e' w' => e' = .returned (.bool (weakB t e)) ∧ Below w.heap.size w w' := by
  have hpl := Nat.le_of_lt hlt
  go_enter Tryz.func160, Tryz.ntmps160
  go_wp2
  go_ret
  exact ⟨ret_bool rfl, by exact bel_⟩
def FirstK (w : World) (n : Nat) (del : Nat → Bool) (e : Ending) (w' : World) : Prop :=
  ((e = .returned (.int .i64 (-1)) ∧ ∀ j, j < n → del j = false) ∨ ∃ k : Nat, k < n ∧ e = .returned (.int .i64 (k : Int)) ∧ del k = true ∧ ∀ j, j < k → del j = false) ∧ Below w.heap.size w w'
def delAt (t : Int) (bs : List Bd) (j : Nat) : Bool := match bs[j]? with
  | none => false
  | some b => weakB t b
theorem delAt_eq {t : Int} {bs : List Bd} {j : Nat} {b : Bd} (h : bs[j]? = some b) : delAt t bs j = weakB t b := by unfold delAt; rw [h]
set_option maxHeartbeats 1000000 in
theorem IndexFuncB_any (p : Nat) (A : Option Addr) (n c : Nat) (t : Int) (bs : List Bd) (w : World) (hp : w.cell? ⟨p, 0, none⟩ = some (.int .i64 t)) (hlt : p < w.heap.size) (hB : RdSl 3 RBd w A n bs) (hn : n ≤ 100000) :
    Calls Tryz.prog 166 #[.slice A n c, .func (.func 160) #[] #[.pointer (some ⟨p, 0, none⟩)]] w (FirstK w n (delAt t bs)) := by
  go_enter Tryz.func166, Tryz.ntmps166
  go_wp2
  go_loopg [8] n (fun r x wr => ∃ k : Nat, k + r = n ∧ x = .int .i64 (k : Int) ∧ Hid (∀ j, j < k → delAt t bs j = false) ∧ Below w.heap.size w wr)
  case atStart => exact ⟨0, by omega, rfl, Lib.hid (fun j hj => by omega), bl_refl _⟩
  case round =>
    obtain ⟨k, hk, rfl, hno, hbw⟩ := hrel
    have g1 := (hbw.cell (p := ⟨p, 0, none⟩) hlt).trans hp
    have gp := Nat.lt_of_lt_of_le hlt hbw.size
    have hB' := hB.below RBd.stable hbw
    by_cases hkn : k < n
    · obtain ⟨b, o, rfl, hb, hc⟩ := hB'.ptr (by omega)
      obtain ⟨e, he⟩ := hB.get hkn
      obtain ⟨c0, c1, c2⟩ := hc k e he
      have hd := delAt_eq (t := t) he
      cases hv : weakB t e
      · have hdH := Lib.hid (hd.trans hv)
        have hvH := Lib.hid hv
        clear hc he hB hB' hd hv
        go_wp2_with fail
        refine (contr1_any p t e _ g1 gp).mono ?_
        rw [hvH.out]
        rintro e' w1 ⟨rfl, hb1⟩
        go_wp2
        go_roundg (n - (k + 1))
        case measure => omega
        case rel => exact ⟨k + 1, by omega, by go_num, Lib.hid (fun j hj => by
          rcases Nat.lt_succ_iff_lt_or_eq.1 hj with hj | rfl
          · exact hno.out j hj
          · exact hdH.out), bl_tr hbw hb1⟩
      · have hdH := Lib.hid (hd.trans hv)
        have hvH := Lib.hid hv
        clear hc he hB hB' hd hv
        go_wp2_with fail
        refine (contr1_any p t e _ g1 gp).mono ?_
        rw [hvH.out]
        rintro e' w1 ⟨rfl, hb1⟩
        go_wp2
        go_ret
        exact ⟨Or.inr ⟨k, hkn, rfl, hdH.out, hno.out⟩, bl_tr hbw hb1⟩
    · obtain rfl : k = n := by omega
      clear hB'
      go_wp2
      go_ret
      exact ⟨Or.inl ⟨rfl, hno.out⟩, hbw⟩
theorem run_clear_rows {P : Program} (w : World) (t e ty : TypeId) (z : Value) (ht : P.underlying t = some (.slice e)) (hv : ∀ w, (zeroValue e).run P w = .ok z w) (b o n c : Nat) (hn : 0 < n)
    (hc : ∀ j, j < n * z.cells.size → (w.cell? ⟨b, o + j, none⟩).isSome = true) (hf : ∀ j, j < n * z.cells.size → w.frozen? ⟨b, o + j, none⟩ = false) (h1 : ∀ u ∈ (Builtin.zeroCells z.cells n).toList, u.oneCell' = true) :
    (Builtin.clear_ #[t] ty #[.slice (some ⟨b, o, none⟩) n c]).run P w = .ok (.tuple #[]) (w.setCells b o (Builtin.zeroCells z.cells n).toList) := by
  have hlen : (Builtin.zeroCells z.cells n).toList.length = n * z.cells.size := by simp [size_zeroCells]
  have hst := run_storeCells_cells (P := P) b o (Builtin.zeroCells z.cells n).toList 0 w (by rw [hlen]; simpa using hc) (by rw [hlen]; simpa using hf) h1
  simp only [Nat.add_zero] at hst
  obtain ⟨m, rfl⟩ : ∃ m, n = m + 1 := ⟨n - 1, by omega⟩
  simp [Builtin.clear_, run_underlying ht, hv, hst]
theorem zero3 (n : Nat) : ∀ u ∈ (Builtin.zeroCells #[Value.int .i64 0, .int .i64 0, .int .i64 0] n).toList, u.oneCell' = true := by
  intro u hu
  simp only [Builtin.zeroCells, Array.toList_map, List.mem_map] at hu
  obtain ⟨i, _, rfl⟩ := hu
  have : i % 3 = 0 ∨ i % 3 = 1 ∨ i % 3 = 2 := by omega
  rcases this with h | h | h <;> simp [h] <;> rfl
def keepL (t : Int) (bs : List Bd) (k : Nat) : List Bd := (bs.take k).filter fun b => !weakB t b
theorem keepL_succ_yes {t : Int} {bs : List Bd} {k : Nat} {e : Bd} (he : bs[k]? = some e) (h : weakB t e = false) : keepL t bs (k + 1) = keepL t bs k ++ [e] := by
  obtain ⟨hk, rfl⟩ := List.getElem?_eq_some_iff.1 he
  unfold keepL; rw [List.take_succ_eq_append_getElem hk, List.filter_append]; simp [h]
theorem keepL_succ_no {t : Int} {bs : List Bd} {k : Nat} {e : Bd} (he : bs[k]? = some e) (h : weakB t e = true) : keepL t bs (k + 1) = keepL t bs k := by
  obtain ⟨hk, rfl⟩ := List.getElem?_eq_some_iff.1 he
  unfold keepL; rw [List.take_succ_eq_append_getElem hk, List.filter_append]; simp [h]
theorem keepL_len (t : Int) (bs : List Bd) (k : Nat) : (keepL t bs k).length ≤ k := Nat.le_trans (List.length_filter_le _ _) (List.length_take_le _ _)
theorem keepL_all {t : Int} {bs : List Bd} {k : Nat} (h : ∀ j, j < k → delAt t bs j = false) : keepL t bs k = bs.take k := by
  unfold keepL
  rw [List.filter_eq_self]
  intro b hb
  obtain ⟨j, hj, rfl⟩ := List.mem_iff_getElem.1 hb
  have hj' : j < k ∧ j < bs.length := by simp at hj; omega
  have := h j hj'.1
  rw [delAt_eq (List.getElem?_eq_getElem hj'.2)] at this
  simpa using this
/-- what is left of a row of bonds -/
def DelRes (base : Nat) (w : World) (l : List Bd) (e : Ending) (w' : World) : Prop := ∃ A c, e = .returned (.slice A l.length c) ∧ RdSl 3 RBd w' A l.length l ∧ Below base w w'
theorem DelRes.of {base n : Nat} {w w' : World} {l : List Bd} {A : Option Addr} {c : Nat} (hn : n = l.length) (h : RdSl 3 RBd w' A l.length l) (hb : Below base w w') : DelRes base w l (.returned (.slice A n c)) w' := by
  subst hn; exact ⟨A, c, rfl, h, hb⟩
set_option maxRecDepth 100000 in
set_option maxHeartbeats 4000000 in
theorem DeleteFuncB_any (base p : Nat) (t : Int) (v : Value) (bs : List Bd) (w : World) (hrow : w.ownsRow base 182 3 v bs.length (bdCells bs)) (hn : bs.length ≤ 100000)
    (hp : w.cell? ⟨p, 0, none⟩ = some (.int .i64 t)) (hpb : p < base) (hbz : base ≤ w.heap.size) :
    Calls Tryz.prog 158 #[v, .func (.func 160) #[] #[.pointer (some ⟨p, 0, none⟩)]] w (DelRes base w (keepL t bs bs.length)) := by
  obtain ⟨A, cap, rfl, rdb⟩ := rd_of_row hrow
  obtain ⟨n, hnn⟩ : ∃ n, bs.length = n := ⟨_, rfl⟩
  rw [hnn] at hn rdb hrow
  rw [hnn]
  have hnnH := Lib.hid hnn
  have hpl : p < w.heap.size := by omega
  have hpO := Lib.hid hp
  clear hnn
  go_enter Tryz.func158, Tryz.ntmps158
  go_wp2_with fail
  refine (IndexFuncB_any p A n cap t bs _ hp hpl rdb hn).mono ?_
  rintro e w1 ⟨(⟨rfl, hall⟩ | ⟨k, hkn, rfl, hdk, hall⟩), hb1⟩
  · have hallH := Lib.hid hall
    have rdH := Lib.hid (rdb.below RBd.stable hb1)
    have hK := keepL_all (t := t) (bs := bs) (k := n) hall
    rw [List.take_of_length_le (by rw [hnnH.out]; exact Nat.le_refl _)] at hK
    have hKH := Lib.hid hK
    clear hall rdb hrow hK
    go_wp2
    go_ret
    rw [hKH.out]
    exact DelRes.of hnnH.out.symm (by rw [hnnH.out]; exact rdH.out) (hb1.mono hbz)
  · have hk1 : ¬ ((k : Int) = -1) := by omega
    have hk1' : ((k : Int) == -1) = false := by simp
    rcases hrow.2 with ⟨h0, h0'⟩ | ⟨g, cap', cur, hv, hb, hh, hnc, hm, hs, ht⟩
    · omega
    obtain ⟨rfl, -, rfl⟩ : A = some ⟨g, 0, none⟩ ∧ n = n ∧ cap = cap' := by injection hv with a1 a2 a3; exact ⟨a1, a2, a3⟩
    have hgl : g < w.heap.size := (Array.getElem?_eq_some_iff.1 hh).1
    have hh1 := (hb1.block g hgl).trans hh
    have hrow1 : w1.rowIs g 182 (cap * 3) (fun i => cur.getD i undef) := by
      refine ⟨cur, hh1, hs, fun i hi => ?_⟩
      have : i < cur.size := by omega
      simp [this]
    have hget : ∀ q b, bs[q]? = some b → q < n → cur.getD (q * 3) undef = .int .i64 (b.a : Int) ∧ cur.getD (q * 3 + 1) undef = .int .i64 (b.b : Int) ∧ cur.getD (q * 3 + 2) undef = .int .i64 b.s := by
      intro q b hq hqn
      obtain ⟨x0, x1, x2⟩ := bdCells_get bs q b hq
      rw [← ht, List.getElem?_take_of_lt (by omega)] at x0 x1 x2
      simp only [Array.getElem?_toList] at x0 x1 x2
      simp [Array.getD_eq_getD_getElem?, x0, x1, x2]
    have hkeep0 := keepL_all (t := t) (bs := bs) (k := k) hall
    obtain ⟨ek, hek⟩ : ∃ e, bs[k]? = some e := ⟨_, List.getElem?_eq_getElem (by rw [hnnH.out]; exact hkn)⟩
    have hkeep1 := keepL_succ_no (t := t) hek (by rw [← delAt_eq (t := t) hek]; exact hdk)
    have hkl : k = (keepL t bs (k + 1)).length := by rw [hkeep1, hkeep0]; simp; rw [hnnH.out]; omega
    obtain ⟨F0, hF0⟩ : ∃ F : Nat → Bd, ∀ q b, bs[q]? = some b → F q = b := ⟨fun q => match bs[q]? with | some b => b | none => ⟨0, 0, 0⟩, fun q b h => by simp only [h]⟩
    have hst : Hid (k = (keepL t bs (k + 1)).length ∧ (∀ q b, (keepL t bs (k + 1))[q]? = some b → F0 q = b) ∧ (∀ q b, k + 1 ≤ q → bs[q]? = some b → F0 q = b)) := by
      refine Lib.hid ⟨hkl, fun q b hq => ?_, fun q b _ hq => hF0 q b hq⟩
      rw [hkeep1, hkeep0, List.getElem?_take] at hq
      split at hq
      · exact hF0 q b hq
      · cases hq
    have hf0 : Hid (∀ q, q < n → (fun i => cur.getD i undef) (q * 3) = .int .i64 ((F0 q).a : Int) ∧ (fun i => cur.getD i undef) (q * 3 + 1) = .int .i64 ((F0 q).b : Int) ∧ (fun i => cur.getD i undef) (q * 3 + 2) = .int .i64 (F0 q).s) := Lib.hid fun q hq => by
      obtain ⟨b, hqb⟩ : ∃ b, bs[q]? = some b := ⟨_, List.getElem?_eq_getElem (by rw [hnnH.out]; exact hq)⟩
      rw [hF0 q b hqb]
      exact hget q b hqb hq
    have hB1 := Lib.hid (hb1.mono hbz)
    have hbg := hb
    clear hkl hF0 hget hkeep0 hkeep1 hek hall rdb hrow hh hh1 hs ht hv hb1 hp hdk
    go_wp2
    go_loopg [5, 6] (n - (k + 1)) (fun r x y wr => ∃ (i j : Nat) (F : Nat → Bd) (f : Nat → Value), j + r = n ∧ i < j ∧ x = .int .i64 (i : Int) ∧ y = .int .i64 (j : Int) ∧ Hid (i = (keepL t bs j).length ∧ (∀ q b, (keepL t bs j)[q]? = some b → F q = b) ∧ (∀ q b, j ≤ q → bs[q]? = some b → F q = b)) ∧ wr.rowIs g 182 (cap * 3) f ∧ Hid (∀ q, q < n → f (q * 3) = .int .i64 ((F q).a : Int) ∧ f (q * 3 + 1) = .int .i64 ((F q).b : Int) ∧ f (q * 3 + 2) = .int .i64 (F q).s) ∧ Below base w wr)
    case atStart => exact ⟨k, k + 1, F0, _, by omega, by omega, rfl, by go_num, hst, hrow1, hf0, hB1.out⟩
    case round =>
      obtain ⟨i, j, F, f, hj, hij, rfl, rfl, hst', hrw, hf, hbw⟩ := hrel
      clear hst hf0 hrow1
      have hgw : g < wr.heap.size := hrw.lt
      have g1 := (hbw.cell (p := ⟨p, 0, none⟩) hpb).trans hpO.out
      have gp := Nat.lt_of_lt_of_le hpl hbw.size
      by_cases hlt : j < n
      · obtain ⟨e, he⟩ : ∃ e, bs[j]? = some e := ⟨_, List.getElem?_eq_getElem (by rw [hnnH.out]; exact hlt)⟩
        have hFj := hst'.out.2.2 j e (Nat.le_refl _) he
        obtain ⟨v0, v1, v2⟩ := hf.out j hlt
        rw [hFj] at v0 v1 v2
        have c0 := hrw.cell (i := j * 3) (by omega)
        have c1 := hrw.cell (i := j * 3 + 1) (by omega)
        have c2 := hrw.cell (i := j * 3 + 2) (by omega)
        rw [v0] at c0
        rw [v1] at c1
        rw [v2] at c2
        have heH := Lib.hid he
        have hrwH := Lib.hid hrw
        clear v0 v1 v2 hFj he hrw
        cases hcd : weakB t e
        · have hnx := Lib.hid (keepL_succ_yes heH.out hcd)
          have hcdH := Lib.hid hcd
          clear hcd
          go_wp2_with fail
          refine (contr1_any p t e _ (by go_simp) (by simp; omega)).mono ?_
          rw [hcdH.out]
          rintro e' w2 ⟨rfl, hb2⟩
          have hrw2 := hrwH.out.of_block ((hb2.block g (by simp; omega)).trans (Below.heap_alloc _ _ _ hgw))
          have d0 := hrw2.cell (i := i * 3) (by omega)
          have d1 := hrw2.cell (i := i * 3 + 1) (by omega)
          have d2 := hrw2.cell (i := i * 3 + 2) (by omega)
          have k0 := hrw2.frozen (i * 3)
          have k1 := hrw2.frozen (i * 3 + 1)
          have k2 := hrw2.frozen (i * 3 + 2)
          have x0 : w2.cell? ⟨wr.heap.size, 0, none⟩ = some (.int .i64 (e.a : Int)) := (hb2.cell (p := ⟨wr.heap.size, 0, none⟩) (by simp)).trans (by go_simp)
          have x1 : w2.cell? ⟨wr.heap.size, 1, none⟩ = some (.int .i64 (e.b : Int)) := (hb2.cell (p := ⟨wr.heap.size, 1, none⟩) (by simp)).trans (by go_simp)
          have x2 : w2.cell? ⟨wr.heap.size, 2, none⟩ = some (.int .i64 e.s) := (hb2.cell (p := ⟨wr.heap.size, 2, none⟩) (by simp)).trans (by go_simp)
          have hB2 : Below base w w2 := hbw.trans (Below.mono (bl_tr (bl_al (bl_refl _) _) hb2) (Nat.le_trans hbz hbw.size))
          have hB2H := Lib.hid hB2
          have hrw2H := Lib.hid hrw2
          have hin : i < n := by omega
          clear c0 c1 c2 hb2 hB2 hrw2 g1
          go_wp2
          go_roundg (n - (j + 1))
          case measure => omega
          case rel => exact ⟨i + 1, j + 1, fun q => if q = i then e else F q, _, by omega, by omega, by go_num, by go_num, Lib.hid ⟨by
              rw [hnx.out, List.length_append, ← hst'.out.1]; rfl, fun q b hq => by
              rw [hnx.out] at hq
              have hil := hst'.out.1
              rcases Nat.lt_or_ge q i with hqi | hqi
              · rw [List.getElem?_append_left (by omega)] at hq
                show (if q = i then e else F q) = b
                rw [if_neg (by omega)]; exact hst'.out.2.1 q b hq
              · rw [List.getElem?_append_right (by omega)] at hq
                have : q - (keepL t bs j).length = 0 := by
                  rcases Nat.eq_zero_or_pos (q - (keepL t bs j).length) with h0 | h0
                  · exact h0
                  · rw [List.getElem?_eq_none (by simp; omega)] at hq; cases hq
                rw [this] at hq
                show (if q = i then e else F q) = b
                rw [if_pos (by omega)]; simpa using hq, fun q b hq hb => by
              show (if q = i then e else F q) = b
              rw [if_neg (by omega)]; exact hst'.out.2.2 q b (by omega) hb⟩, ((hrw2H.out.set (i * 3) _).set (i * 3 + 1) _).set (i * 3 + 2) _, Lib.hid (fun q hq => by
              obtain ⟨u0, u1, u2⟩ := hf.out q hq
              by_cases hqi : q = i
              · subst hqi
                simp
              · rw [if_neg (by omega), if_neg (by omega), if_neg (by omega), if_neg (by omega), if_neg (by omega), if_neg (by omega), if_neg (by omega), if_neg (by omega), if_neg (by omega)]
                show f (q * 3) = Value.int .i64 ((if q = i then e else F q).a : Int) ∧ f (q * 3 + 1) = Value.int .i64 ((if q = i then e else F q).b : Int) ∧ f (q * 3 + 2) = Value.int .i64 (if q = i then e else F q).s
                rw [if_neg hqi]
                exact ⟨u0, u1, u2⟩), ((hB2H.out.setCell (p := ⟨g, i * 3, none⟩) hbg _).setCell (p := ⟨g, i * 3 + 1, none⟩) hbg _).setCell (p := ⟨g, i * 3 + 2, none⟩) hbg _⟩
        · have hnx := Lib.hid (keepL_succ_no heH.out hcd)
          have hcdH := Lib.hid hcd
          clear hcd
          go_wp2_with fail
          refine (contr1_any p t e _ (by go_simp) (by simp; omega)).mono ?_
          rw [hcdH.out]
          rintro e' w2 ⟨rfl, hb2⟩
          have hrw2 := hrwH.out.of_block ((hb2.block g (by simp; omega)).trans (Below.heap_alloc _ _ _ hgw))
          have hB2 : Below base w w2 := hbw.trans (Below.mono (bl_tr (bl_al (bl_refl _) _) hb2) (Nat.le_trans hbz hbw.size))
          have hB2H := Lib.hid hB2
          have hrw2H := Lib.hid hrw2
          clear c0 c1 c2 hb2 hB2 hrw2 g1
          go_wp2
          go_roundg (n - (j + 1))
          case measure => omega
          case rel => exact ⟨i, j + 1, F, _, by omega, by omega, rfl, by go_num, Lib.hid ⟨by rw [hnx.out]; exact hst'.out.1, fun q b hq => by rw [hnx.out] at hq; exact hst'.out.2.1 q b hq, fun q b hq hb => hst'.out.2.2 q b (by omega) hb⟩, hrw2H.out, hf, hB2H.out⟩
      · obtain rfl : j = n := by omega
        have hcl := fun (ty : TypeId) => run_clear_rows (P := Tryz.prog) wr 179 182 ty _ Tryz.underlying179 Tryz.zeroValue182 g (i * 3) (j - i) (cap - i) (by omega) (fun q hq => by rw [hrw.cell (i := i * 3 + q) (by simp [Value.cells] at hq; omega)]; rfl) (fun q hq => hrw.frozen _) (zero3 _)
        have hci : ¬ cap = i := by omega
        go_wp2
        go_ret
        obtain ⟨zs, hzs⟩ : ∃ zs, (Builtin.zeroCells #[Value.int .i64 0, Value.int .i64 0, Value.int .i64 0] (j - i)).toList = zs := ⟨_, rfl⟩
        rw [hzs]
        have hrw3 := Go.rowIs_setCells zs (i * 3) wr f hrw
        have hil := hst'.out.1
        have hfin := hst'.out.2.1
        have hrd : RdSl 3 RBd (wr.setCells g (i * 3) zs) (some ⟨g, 0, none⟩) (keepL t bs j).length (keepL t bs j) := by
          refine ⟨rfl, fun _ => ⟨g, 0, rfl, hrw3.lt, fun q hq => ?_⟩⟩
          have hFq := hfin q _ (List.getElem?_eq_getElem hq)
          obtain ⟨u0, u1, u2⟩ := hf.out q (by omega)
          rw [hFq] at u0 u1 u2
          refine ⟨?_, ?_, ?_⟩
          · rw [Nat.zero_add, hrw3.cell (i := q * 3) (by omega), if_neg (by omega), u0]
          · rw [Nat.zero_add, hrw3.cell (i := q * 3 + 1) (by omega), if_neg (by omega), u1]
          · rw [Nat.zero_add, hrw3.cell (i := q * 3 + 2) (by omega), if_neg (by omega), u2]
        exact DelRes.of hil hrd (Go.below_setCells hbg zs (i * 3) wr hbw)
end Go.Proofs.YthieodccakphiaaGreat
/- Rows of rows that a call has made: no two of them lie in one block. -/

namespace Go.Proofs.YthieodccakphiaaGreat
open Go.RowKit
/-- v owns a row of the slices us; each of these owns a row of cells; no two lie in one block -/
structure Own2 (w : World) (base : Nat) (T E : TypeId) (size : Nat) (v : Value) (us : List Value) (rows : List (List Value)) : Prop where
  outer : w.ownsRow base T 1 v us.length us
  len : us.length = rows.length
  inner : ∀ (k : Nat) (u : Value) (r : List Value), us[k]? = some u → rows[k]? = some r → ∃ n, w.ownsRow base E size u n r
  apart : ∀ (j k : Nat) (u u' : Value) (g : Nat), us[j]? = some u → us[k]? = some u' → u.ownBlock = some g → u'.ownBlock = some g → j = k
  off : ∀ (k : Nat) (u : Value) (g : Nat), us[k]? = some u → u.ownBlock = some g → v.ownBlock ≠ some g
section
variable {w w' : World} {base : Nat} {T E : TypeId} {size : Nat} {v : Value} {us : List Value} {rows : List (List Value)}
theorem Own2.nil (w : World) (base : Nat) (T E : TypeId) (size : Nat) : Own2 w base T E size (.slice none 0 0) [] [] :=
  ⟨World.ownsRow_nil _ _ _ _, rfl, fun k u r h => by simp at h, fun j k u u' g h => by simp at h, fun k u g h => by simp at h⟩
/-- an empty row that was made -/
theorem Own2.made {n : Nat} {cs : Array Value} (hb : base ≤ w.heap.size) (hs : cs.size = 0) (h : (w.alloc (.cells cs T)).ownsRow base T 1 v 0 []) : Own2 (w.alloc (.cells cs T)) base T E size v [] [] :=
  ⟨h, rfl, fun k u r h => by simp at h, fun j k u u' g h => by simp at h, fun k u g h => by simp at h⟩
theorem Own2.of_empty (h : w.ownsRow base T 1 v 0 []) : Own2 w base T E size v [] [] :=
  ⟨h, rfl, fun k u r h => by simp at h, fun j k u u' g h => by simp at h, fun k u g h => by simp at h⟩
theorem Own2.get (h : Own2 w base T E size v us rows) {k : Nat} {u : Value} (hu : us[k]? = some u) : ∃ n r, rows[k]? = some r ∧ w.ownsRow base E size u n r := by
  have hk := (List.getElem?_eq_some_iff.1 hu).1
  have hr := List.getElem?_eq_getElem (l := rows) (i := k) (by rw [← h.len]; exact hk)
  obtain ⟨n, hn⟩ := h.inner k u _ hu hr
  exact ⟨n, _, hr, hn⟩
theorem Own2.outerN {N : Nat} (h : Own2 w base T E size v us rows) (hN : us.length = N) : w.ownsRow base T 1 v N us := hN ▸ h.outer
theorem Own2.lt (h : Own2 w base T E size v us rows) : ∀ g, v.ownBlock = some g → base ≤ g ∧ g < w.heap.size := h.outer.lt
theorem Own2.ltIn (h : Own2 w base T E size v us rows) {k : Nat} {u : Value} (hu : us[k]? = some u) : ∀ g, u.ownBlock = some g → base ≤ g ∧ g < w.heap.size := by
  obtain ⟨n, r, _, hr⟩ := h.get hu
  exact hr.lt
/-- whatever turns another block -/
theorem Own2.kept {row : Option Nat} (h : Own2 w base T E size v us rows) (hg : w.grownBy w' row) (h1 : ∀ g, row = some g → v.ownBlock ≠ some g ∧ ∀ (k : Nat) (u : Value), us[k]? = some u → u.ownBlock ≠ some g) : Own2 w' base T E size v us rows := by
  have ho : ∀ x : Value, (∀ g, row = some g → x.ownBlock ≠ some g) → x.ownBlock = none ∨ x.ownBlock ≠ row := fun x hx => by
    cases hb : x.ownBlock with
    | none => exact .inl rfl
    | some g => exact .inr fun e => hx g e.symm hb
  refine ⟨h.outer.kept hg (ho v fun g e => (h1 g e).1), h.len, fun k u r hu hr => ?_, h.apart, h.off⟩
  obtain ⟨n, hn⟩ := h.inner k u r hu hr
  exact ⟨n, hn.kept hg (ho u fun g e => (h1 g e).2 k u hu)⟩
theorem Own2.below (h : Own2 w base T E size v us rows) (hb : Below w.heap.size w w') : Own2 w' base T E size v us rows :=
  h.kept (grown_below hb none) (fun g e => by cases e)
theorem Own2.alloc (h : Own2 w base T E size v us rows) (o : Obj) : Own2 (w.alloc o) base T E size v us rows :=
  h.kept (World.grownBy_alloc w o none) (fun g e => by cases e)
theorem Own2.rebase (h : Own2 w base T E size v us rows) {base' : Nat} (hb : base' ≤ base) : Own2 w base' T E size v us rows := by
  have hd : ∀ {e s x n xs}, w.ownsRow base e s x n xs → w.ownsRow base' e s x n xs := fun h => ⟨h.1, h.2.imp id (fun ⟨g, cap, cur, h1, h2, h3⟩ => ⟨g, cap, cur, h1, Nat.le_trans hb h2, h3⟩)⟩
  exact ⟨hd h.outer, h.len, fun k u r hu hr => (h.inner k u r hu hr).imp fun n hn => hd hn, h.apart, h.off⟩
/-- a store below its base -/
theorem Own2.setBelow (h : Own2 w base T E size v us rows) {p : Addr} (hp : p.block < base) (x : Value) : Own2 (w.setCell p x) base T E size v us rows := by
  refine h.kept (row := some p.block) ⟨rfl, rfl, rfl, by simp, fun k hk hne => Below.heap_setCell _ _ _ _ (fun e => hne (by rw [e]))⟩ (fun g e => ?_)
  injection e with e
  subst e
  refine ⟨fun e => ?_, fun k u hu e => ?_⟩
  · have := (h.lt _ e).1; omega
  · have := (h.ltIn hu _ e).1; omega
/-- one more row: the slice x, which owns the row r -/
theorem Own2.push {w1 : World} {v' x : Value} {N n : Nat} {r : List Value} (h : Own2 w1 base T E size v us rows) (hN : us.length = N) (hx : w1.ownsRow base E size x n r)
    (hd : ∀ g, x.ownBlock = some g → v.ownBlock ≠ some g ∧ ∀ (k : Nat) (u : Value), us[k]? = some u → u.ownBlock ≠ some g)
    (hown : w'.ownsRow base T 1 v' (N + 1) (us ++ [x])) (hg : w1.grownBy w' v.ownBlock) (hat : v'.ownBlock = v.ownBlock ∨ v'.ownBlock = some w1.heap.size) : Own2 w' base T E size v' (us ++ [x]) (rows ++ [r]) := by
  subst hN
  have hk : ∀ {u : Value} {n : Nat} {r : List Value}, w1.ownsRow base E size u n r → (∀ g, u.ownBlock = some g → v.ownBlock ≠ some g) → w'.ownsRow base E size u n r := fun {u n r} hu hne => by
    refine hu.kept hg ?_
    cases hb : u.ownBlock with
    | none => exact .inl rfl
    | some g => exact .inr fun e => hne g hb e.symm
  have hcase : ∀ {k : Nat} {u : Value}, (us ++ [x])[k]? = some u → (k < us.length ∧ us[k]? = some u) ∨ (k = us.length ∧ u = x) := fun {k u} hu => by
    rcases Nat.lt_or_ge k us.length with hlt | hge
    · rw [List.getElem?_append_left hlt] at hu
      exact .inl ⟨hlt, hu⟩
    · have hlt := (List.getElem?_eq_some_iff.1 hu).1
      simp at hlt
      obtain rfl : k = us.length := by omega
      simp at hu
      exact .inr ⟨rfl, hu.symm⟩
  refine ⟨by simpa using hown, by simp [h.len], fun k u q hu hq => ?_, fun j k u u' g hu0 hu' hb hb' => ?_, fun k u g hu hb e => ?_⟩
  · rcases hcase hu with ⟨hlt, hu⟩ | ⟨rfl, rfl⟩
    · rw [List.getElem?_append_left (by rw [← h.len]; exact hlt)] at hq
      obtain ⟨m, hm⟩ := h.inner k u q hu hq
      exact ⟨m, hk hm fun g hg => h.off k u g hu hg⟩
    · rw [h.len] at hq
      simp at hq
      subst hq
      exact ⟨n, hk hx fun g hg => (hd g hg).1⟩
  · rcases hcase hu0 with ⟨hlt, hu⟩ | ⟨rfl, rfl⟩
    · clear hu0
      rcases hcase hu' with ⟨hlt', hu'⟩ | ⟨rfl, rfl⟩
      · exact h.apart j k u u' g hu hu' hb hb'
      · exact ((hd g hb').2 j u hu hb).elim
    · rcases hcase hu' with ⟨hlt', hu'⟩ | ⟨rfl, rfl⟩
      · exact ((hd g hb).2 k u' hu' hb').elim
      · rfl
  · rcases hcase hu with ⟨hlt, hu⟩ | ⟨rfl, rfl⟩
    · rcases hat with hat | hat
      · exact h.off k u g hu hb (hat ▸ e)
      · have := (h.ltIn hu g hb).2
        rw [hat] at e
        injection e with e
        omega
    · rcases hat with hat | hat
      · exact (hd g hb).1 (hat ▸ e)
      · have := (hx.lt g hb).2
        rw [hat] at e
        injection e with e
        omega
/-- row k grows: the slice u was appended to (in w1) and is stored back (into block g) -/
theorem Own2.grow {w1 : World} {N k g cap n' : Nat} {u u' : Value} {r' : List Value} (h : Own2 w1 base T E size (.slice (some ⟨g, 0, none⟩) N cap) us rows) (hN : us.length = N) (hu : us[k]? = some u)
    (hown : w'.ownsRow base E size u' n' r') (hg : w1.grownBy w' u.ownBlock) (hat : u'.ownBlock = u.ownBlock ∨ u'.ownBlock = some w1.heap.size) :
    Own2 (w'.setCell ⟨g, k, none⟩ u') base T E size (.slice (some ⟨g, 0, none⟩) N cap) (us.set k u') (rows.set k r') := by
  subst hN
  have hgl := (h.lt g rfl)
  have hug : u.ownBlock ≠ some g := fun e => h.off k u g hu e rfl
  have hu'g : u'.ownBlock ≠ some g := fun e => by
    rcases hat with hat | hat
    · exact hug (hat ▸ e)
    · rw [hat] at e
      injection e with e
      omega
  have hgn : (w').grownBy (w'.setCell ⟨g, k, none⟩ u') (some g) := ⟨rfl, rfl, rfl, by simp, fun i hi hne => Below.heap_setCell _ _ _ _ (fun e => hne (by rw [e]))⟩
  have ho1 : w'.ownsRow base T 1 (.slice (some ⟨g, 0, none⟩) us.length cap) us.length us := h.outer.kept hg (.inr fun e => hug e.symm)
  have ho2 := (ho1.stored k u').1
  have hne2 : ∀ {x : Value}, x.ownBlock ≠ some g → x.ownBlock = none ∨ x.ownBlock ≠ some g := fun h => .inr h
  have hcase : ∀ {j : Nat} {x : Value}, (us.set k u')[j]? = some x → (j ≠ k ∧ us[j]? = some x) ∨ (j = k ∧ x = u') := fun {j x} hx => by
    by_cases e : j = k
    · subst e
      rw [List.getElem?_set_self (List.getElem?_eq_some_iff.1 hu).1] at hx
      exact .inr ⟨rfl, (Option.some.inj hx).symm⟩
    · rw [List.getElem?_set_ne (fun e' => e e'.symm)] at hx
      exact .inl ⟨e, hx⟩
  have hnb : ∀ {j : Nat} {x : Value} {b : Nat}, us[j]? = some x → j ≠ k → x.ownBlock = some b → u'.ownBlock ≠ some b := fun {j x b} hx hj hb e => by
    rcases hat with hat | hat
    · exact hj (h.apart j k x u b hx hu hb (hat ▸ e))
    · have := (h.ltIn hx b hb).2
      rw [hat] at e
      injection e with e
      omega
  refine ⟨by simpa using ho2, by simp [h.len], fun j x q hx hq => ?_, fun i j x y b hx0 hy0 hb hb' => ?_, fun j x b hx hb e => ?_⟩
  · rcases hcase hx with ⟨hj, hx⟩ | ⟨rfl, rfl⟩
    · rw [List.getElem?_set_ne (fun e' => hj e'.symm)] at hq
      obtain ⟨p, hp⟩ := h.inner j x q hx hq
      refine ⟨p, (hp.kept hg ?_).kept hgn (hne2 fun e => h.off j x g hx e rfl)⟩
      cases hb : x.ownBlock with
      | none => exact .inl rfl
      | some b => exact .inr fun e => hj (h.apart j k x u b hx hu hb e.symm)
    · rw [List.getElem?_set_self (by rw [← h.len]; exact (List.getElem?_eq_some_iff.1 hu).1)] at hq
      obtain rfl := Option.some.inj hq
      exact ⟨n', hown.kept hgn (hne2 hu'g)⟩
  · rcases hcase hx0 with ⟨hi, hx⟩ | ⟨rfl, rfl⟩
    · clear hx0
      rcases hcase hy0 with ⟨hj, hy⟩ | ⟨rfl, rfl⟩
      · exact h.apart i j x y b hx hy hb hb'
      · exact (hnb hx hi hb hb').elim
    · clear hx0
      rcases hcase hy0 with ⟨hj, hy⟩ | ⟨rfl, rfl⟩
      · exact (hnb hy hj hb' hb).elim
      · rfl
  · rcases hcase hx with ⟨hj, hx⟩ | ⟨rfl, rfl⟩
    · exact h.off j x b hx hb e
    · injection e with e
      subst e
      exact hu'g hb
theorem Own2.form {N : Nat} (h : Own2 w base T E size v us rows) (hN : us.length = N) : ∃ A cap, v = .slice A N cap := by
  subst hN
  rcases h.outer.2 with ⟨rfl, h0⟩ | ⟨g, cap, cur, rfl, _⟩
  · exact ⟨none, 0, by rw [h0]⟩
  · exact ⟨_, cap, rfl⟩
theorem Own2.formPos {N : Nat} (h : Own2 w base T E size v us rows) (hN : us.length = N) (hp : 0 < N) : ∃ g cap, v = .slice (some ⟨g, 0, none⟩) N cap := by
  subst hN
  rcases h.outer.2 with ⟨rfl, h0⟩ | ⟨g, cap, cur, rfl, _⟩
  · omega
  · exact ⟨_, cap, rfl⟩
theorem Own2.keptBelow {row : Option Nat} (h : Own2 w base T E size v us rows) (hg : w.grownBy w' row) (hr : ∀ g, row = some g → g < base) : Own2 w' base T E size v us rows :=
  h.kept hg fun g e => ⟨fun e' => by have := (h.lt g e').1; have := hr g e; omega, fun k u hu e' => by have := (h.ltIn hu g e').1; have := hr g e; omega⟩
/-- the outer row behind an append to row k -/
theorem Own2.after {N g cap k : Nat} {u : Value} (h : Own2 w base T E size (.slice (some ⟨g, 0, none⟩) N cap) us rows) (hN : us.length = N) (hu : us[k]? = some u) (hg : w.grownBy w' u.ownBlock) : w'.cell? ⟨g, k, none⟩ = some u ∧ w'.frozen? ⟨g, k, none⟩ = false ∧ g < w'.heap.size ∧ base ≤ g := by
  subst hN
  have hne : u.ownBlock ≠ some g := fun e => h.off k u g hu e rfl
  have ho : w'.ownsRow base T 1 (.slice (some ⟨g, 0, none⟩) us.length cap) us.length us := h.outer.kept hg (.inr fun e => hne e.symm)
  have hl := ho.lt g rfl
  exact ⟨(ho.cellAt k (by have := (List.getElem?_eq_some_iff.1 hu).1; omega)).trans hu, ho.frozenAt k, hl.2, hl.1⟩
theorem Own2.cellAt {N g cap k : Nat} {u : Value} (h : Own2 w base T E size (.slice (some ⟨g, 0, none⟩) N cap) us rows) (hN : us.length = N) (hu : us[k]? = some u) : w.cell? ⟨g, k, none⟩ = some u ∧ w.frozen? ⟨g, k, none⟩ = false ∧ g < w.heap.size := by
  subst hN
  exact ⟨(h.outer.cellAt k (by have := (List.getElem?_eq_some_iff.1 hu).1; omega)).trans hu, h.outer.frozenAt k, (h.outer.lt g rfl).2⟩
theorem ownsRow_form {w : World} {base : Nat} {e : TypeId} {size : Nat} {v : Value} {n : Nat} {xs : List Value} (h : w.ownsRow base e size v n xs) : ∃ A cap, v = .slice A n cap := by
  rcases h.2 with ⟨rfl, rfl⟩ | ⟨g, cap, cur, rfl, _⟩
  · exact ⟨none, 0, rfl⟩
  · exact ⟨_, cap, rfl⟩
theorem below_app {B0 : Nat} {W w2 : World} {o : Obj} {row : Option Nat} (hB : B0 ≤ W.heap.size) (hu : ∀ g, row = some g → B0 ≤ g) (hg : (W.alloc o).grownBy w2 row) : Below B0 W w2 :=
  ((Below.refl B0 W).alloc hB o).grown hg (by simp; omega) hu
end
end Go.Proofs.YthieodccakphiaaGreat
/- Walks: one element struck out of a row by slices.Delete. -/






namespace Go.Proofs.YthieodccakphiaaGreat
open Go.RowKit Go.Shelf
attribute [local go_sem] BelowBy.cell BelowBy.cell_drew stillUpon givesUpon BelowBy.cell_drew2 BelowBy.cell_drew3

theorem setCells_grown (g : Nat) : ∀ (vs : List Value) (o : Nat) (w : World), w.grownBy (w.setCells g o vs) (some g)
  | [], _, _ => ⟨rfl, rfl, rfl, Nat.le_refl _, fun _ _ _ => rfl⟩
  | v :: r, o, w => by
    have ih := setCells_grown g r (o + 1) (w.setCell ⟨g, o, none⟩ v)
    refine ⟨ih.os, ih.tape, ih.output, Nat.le_trans (by simp) ih.size, fun k hk hne => (ih.block k (by simpa using hk) hne).trans (Below.heap_setCell _ _ _ _ (fun e => hne (by rw [e])))⟩
theorem grown_two {w w1 w2 : World} {r : Option Nat} (h : w.grownBy w1 r) (k : w1.grownBy w2 r) : w.grownBy w2 r :=
  ⟨k.os.trans h.os, k.tape.trans h.tape, k.output.trans h.output, Nat.le_trans h.size k.size, fun i hi hne => (k.block i (Nat.lt_of_lt_of_le hi h.size) hne).trans (h.block i hi hne)⟩
theorem grown_drew (w : World) (r : Option Nat) : w.grownBy w.drew r := grown_below (Below.drew (Below.refl _ _)) r
theorem rowIs_of_owns {w : World} {base g n cap size : Nat} {e : TypeId} {xs : List Value} (h : w.ownsRow base e size (.slice (some ⟨g, 0, none⟩) n cap) n xs) :
    ∃ f, w.rowIs g e (cap * size) f ∧ (∀ j u, xs[j]? = some u → f j = u) ∧ base ≤ g ∧ n ≤ cap ∧ cap ≤ maxLen ∧ xs.length = n * size := by
  rcases h.2 with ⟨h0, _⟩ | ⟨g', cap', cur, hv, hb, hh, hnc, hm, hs, ht⟩
  · cases h0
  · injection hv with a1 a2 a3
    injection a1 with a1
    injection a1 with a1 _ _
    subst a1 a3
    refine ⟨fun j => cur.getD j undef, ⟨cur, hh, hs, fun i hi => ?_⟩, fun j u hj => ?_, hb, hnc, hm, h.1⟩
    · have : i < cur.size := by omega
      simp [this]
    · have hjl := (List.getElem?_eq_some_iff.1 hj).1
      rw [h.1] at hjl
      rw [← ht, List.getElem?_take_of_lt hjl, Array.getElem?_toList] at hj
      simp [Array.getD_eq_getD_getElem?, hj]
theorem owns_of_rowIs {w : World} {base g m cap size : Nat} {e : TypeId} {f : Nat → Value} (h : w.rowIs g e (cap * size) f) (hb : base ≤ g) (hm : m ≤ cap) (hc : cap ≤ maxLen) :
    w.ownsRow base e size (.slice (some ⟨g, 0, none⟩) m cap) m ((List.range (m * size)).map f) := by
  obtain ⟨c, hh, hs, hf⟩ := h
  refine ⟨by simp, .inr ⟨g, cap, c, rfl, hb, hh, hm, hc, hs, ?_⟩⟩
  have hle : m * size ≤ cap * size := Nat.mul_le_mul_right _ hm
  apply List.ext_getElem?
  intro j
  by_cases hj : j < m * size
  · rw [List.getElem?_take_of_lt hj, Array.getElem?_toList, hf j (by omega)]
    simp [hj]
  · rw [List.getElem?_eq_none (by simp; omega), List.getElem?_eq_none (by simp; omega)]
/-- the cells behind: a tail moved to the left, then zeros -/
theorem erased_cells {f : Nat → Value} {xs zs : List Value} {a S N : Nat} (hx : ∀ j u, xs[j]? = some u → f j = u) (hl : xs.length = N) (ha : a + S ≤ N) :
    (List.range (N - S)).map (fun j => if N - S ≤ j ∧ j < N - S + zs.length then zs[j - (N - S)]?.getD default else if a ≤ j ∧ j < a + (xs.drop (a + S)).length then (xs.drop (a + S))[j - a]?.getD default else f j) = xs.take a ++ xs.drop (a + S) := by
  apply List.ext_getElem?
  intro j
  have h1 : (xs.take a).length = a := by simp; omega
  by_cases hj : j < N - S
  · rw [List.getElem?_map, List.getElem?_range hj]
    simp only [Option.map_some]
    rw [if_neg (by omega)]
    by_cases hja : j < a
    · rw [if_neg (by omega), List.getElem?_append_left (by omega), List.getElem?_take_of_lt hja]
      have := List.getElem?_eq_getElem (l := xs) (i := j) (by omega)
      rw [this, hx j _ this]
    · rw [if_pos (by simp; omega), List.getElem?_append_right (by omega), h1]
      have := List.getElem?_eq_getElem (l := xs.drop (a + S)) (i := j - a) (by simp; omega)
      rw [this]; rfl
  · rw [List.getElem?_eq_none (by simp; omega), List.getElem?_eq_none (by simp; omega)]
/-- what is left when element k is struck out -/
def DelAt (base g n cap k S : Nat) (T : TypeId) (xs : List Value) (w : World) (e : Ending) (w' : World) : Prop :=
  e = .returned (.slice (some ⟨g, 0, none⟩) (n - 1) cap) ∧ w'.ownsRow base T S (.slice (some ⟨g, 0, none⟩) (n - 1) cap) (n - 1) (xs.take (k * S) ++ xs.drop ((k + 1) * S)) ∧ w.grownBy w' (some g)
theorem delAt_of {base g n cap k S : Nat} {T : TypeId} {xs zs : List Value} {w : World} (h : w.ownsRow base T S (.slice (some ⟨g, 0, none⟩) n cap) n xs) (hk : k < n) (hz : zs.length = S) :
    ((w.drew.setCells g (k * S) (xs.drop ((k + 1) * S))).setCells g ((n - 1) * S) zs).ownsRow base T S (.slice (some ⟨g, 0, none⟩) (n - 1) cap) (n - 1) (xs.take (k * S) ++ xs.drop ((k + 1) * S)) ∧
      w.grownBy ((w.drew.setCells g (k * S) (xs.drop ((k + 1) * S))).setCells g ((n - 1) * S) zs) (some g) := by
  have hd : w.drew.ownsRow base T S (.slice (some ⟨g, 0, none⟩) n cap) n xs := h.kept (grown_drew w none) (Classical.em _)
  obtain ⟨f, hr, hx, hb, hnc, hm, hl⟩ := rowIs_of_owns hd
  have h1 := rowIs_setCells (xs.drop ((k + 1) * S)) (k * S) _ _ hr
  have h2 := rowIs_setCells zs ((n - 1) * S) _ _ h1
  have h3 := owns_of_rowIs (m := n - 1) h2 hb (by omega) hm
  have hmul : (k + 1) * S = k * S + S := Nat.succ_mul k S
  have hN : (n - 1) * S = n * S - S := by rw [Nat.sub_mul, Nat.one_mul]
  have hle : k * S + S ≤ n * S := by rw [← hmul]; exact Nat.mul_le_mul_right _ hk
  have hc := erased_cells (zs := zs) hx hl hle
  rw [hN, hmul] at h3
  rw [hc] at h3
  rw [hmul, hN]
  exact ⟨h3, grown_two (grown_drew w _) (grown_two (setCells_grown g _ _ _) (setCells_grown g _ _ _))⟩
theorem infoClump : (Tryz.prog.info? 137).map (fun i => (i.zero, i.size, i.bytes)) = some (some (.agg #[.int .i64 0, .int .i64 0, .int .i64 0]), 3, 24) := by kernel_rfl
theorem infoI64 : (Tryz.prog.info? 2).map (fun i => (i.zero, i.size, i.bytes)) = some (some (.int .i64 0), 1, 8) := by kernel_rfl
theorem infoI64S : (Tryz.prog.info? 103).map (fun i => (i.zero, i.size, i.bytes)) = some (some (.slice none 0 0), 1, 24) := by kernel_rfl
theorem zeros_len (z : Value) (n : Nat) : (Builtin.zeroCells z.cells n).toList.length = n * z.cells.size := by simp [size_zeroCells]
theorem zeros_one1 (z : Value) (hz : z.cells = #[z]) (h1 : z.oneCell' = true) (n : Nat) : ∀ u ∈ (Builtin.zeroCells z.cells n).toList, u.oneCell' = true := by
  intro u hu
  rw [hz] at hu
  simp only [Builtin.zeroCells, Array.toList_map, List.mem_map] at hu
  obtain ⟨i, _, rfl⟩ := hu
  have : i % 1 = 0 := by omega
  simp [Nat.mod_one, h1]
-- WALKS
set_option maxHeartbeats 4000000 in
set_option maxRecDepth 1000000 in
theorem DelC_any (base g n cap k : Nat) (xs : List Value) (w : World) (h : w.ownsRow base 137 3 (.slice (some ⟨g, 0, none⟩) n cap) n xs) (h1c : ∀ u ∈ xs, u.oneCell' = true) (hk : k < n) (j : Nat) (hj : j = k + 1) :
    Calls Tryz.prog 106 #[.slice (some ⟨g, 0, none⟩) n cap, .int .i64 (k : Int), .int .i64 (j : Int)] w (DelAt base g n cap k 3 137 xs w) := by
  obtain ⟨i0, hi, hz0, hz1, hz2⟩ := info_parts infoClump
  have hcm : n ≤ cap ∧ cap ≤ maxLen := by
    obtain ⟨f, _, _, _, h3, h4, _⟩ := rowIs_of_owns h
    exact ⟨h3, h4⟩
  have hn63 : cap ≤ 9223372036854775807 := by have := hcm.2; unfold maxLen at this; omega
  have hd : w.drew.ownsRow base 137 3 (.slice (some ⟨g, 0, none⟩) n cap) n xs := h.kept (grown_drew w none) (Classical.em _)
  have hcell := fun j (hj : j < n * 3) => hd.cellAt j hj
  have hfr := hd.frozenAt
  have hl : xs.length = n * 3 := h.1
  obtain ⟨news, hnews⟩ : ∃ news, news = xs.drop (j * 3) := ⟨_, rfl⟩
  have hlen : news.length = (n - j) * 3 := by rw [hnews]; simp; omega
  obtain ⟨A, hA, hsrc⟩ : ∃ A : Addr, (if cap = j then some (⟨g, 0, none⟩ : Addr) else some ⟨g, j * 3, none⟩) = some A ∧ Hid (∀ t u, news[t]? = some u → w.drew.cell? (A.add t) = some u) := by
    by_cases hc : cap = j
    · refine ⟨⟨g, 0, none⟩, by simp [hc], Lib.hid fun t u hu => ?_⟩
      have h0 : news.length = 0 := by rw [hlen]; have := hcm.1; omega
      rw [List.length_eq_zero_iff.1 h0] at hu
      simp at hu
    · refine ⟨⟨g, j * 3, none⟩, by simp [hc], Lib.hid fun t u hu => ?_⟩
      have ht := (List.getElem?_eq_some_iff.1 hu).1
      rw [hlen] at ht
      rw [Addr.add_lit, hcell _ (by omega)]
      rw [hnews, List.getElem?_drop] at hu
      (first | exact hu | simpa using hu)
  have s1 : Hid (news.length = (n - j) * 3) := Lib.hid hlen
  have s2 : Hid (∀ u ∈ news, u.oneCell' = true) := Lib.hid fun u hu => h1c u (List.mem_of_mem_drop (hnews ▸ hu))
  have s3 : Hid (∀ t, t < news.length → (w.drew.cell? ⟨g, 0 + k * 3 + t, none⟩).isSome = true ∧ w.drew.frozen? ⟨g, 0 + k * 3 + t, none⟩ = false) := Lib.hid fun t ht => by
    rw [hlen] at ht
    refine ⟨?_, hfr _⟩
    rw [hcell _ (by omega), List.getElem?_eq_getElem (by omega)]
    rfl
  obtain ⟨W1, hW1⟩ : ∃ W1, W1 = w.drew.setCells g (0 + k * 3) news := ⟨_, rfl⟩
  have hH1 : ∀ j, j < n * 3 → (W1.cell? ⟨g, j, none⟩).isSome = true ∧ W1.frozen? ⟨g, j, none⟩ = false := fun j hj => by
    obtain ⟨f, hr, _, _, hnc, _, _⟩ := rowIs_of_owns hd
    have hr1 := rowIs_setCells news (0 + k * 3) _ _ hr
    rw [← hW1] at hr1
    have hjc : j < cap * 3 := Nat.lt_of_lt_of_le hj (Nat.mul_le_mul_right _ hnc)
    rw [hr1.cell hjc]
    exact ⟨rfl, hr1.frozen _⟩
  obtain ⟨zs, hzs⟩ : ∃ zs, zs = (Builtin.zeroCells (Value.agg #[.int .i64 0, .int .i64 0, .int .i64 0]).cells 1).toList := ⟨_, rfl⟩
  have hzl : zs.length = 3 := by rw [hzs, zeros_len]; rfl
  have hcl : ∀ ty, (Builtin.clear_ #[132] ty #[.slice (some ⟨g, (n - 1) * 3, none⟩) (n - (n - 1)) (cap - (n - 1))]).run Tryz.prog W1 = .ok (.tuple #[]) (W1.setCells g ((n - 1) * 3) zs) := fun ty => by
    rw [hzs, show n - (n - 1) = 1 by omega]
    have := run_clear_rows W1 _ _ ty (Value.agg #[.int .i64 0, .int .i64 0, .int .i64 0]) (P := Tryz.prog) Tryz.underlying132 (fun w => rfl) g ((n - 1) * 3) 1 (cap - (n - 1)) (by decide) (fun j hj => (hH1 _ (by have : j < 1 * 3 := hj; omega)).1) (fun j hj => (hH1 _ (by have : j < 1 * 3 := hj; omega)).2) (zero3 1)
    simpa using this
  have hW : Hid (W1 = w.drew.setCells g (0 + k * 3) news) := Lib.hid hW1
  have hres := Lib.hid (delAt_of (zs := zs) h hk hzl)
  rw [← hj] at hres
  have hnewsH := Lib.hid hnews
  have hic : k ≤ cap := by have := hcm.1; omega
  have hjc : j ≤ cap := by have := hcm.1; omega
  have hjn : j ≤ n := by omega
  have hnc := hcm.1
  have hn1 : 1 ≤ n := by omega
  have hkj : ¬ (k : Int) = (j : Int) := by omega
  have hkj2 : k ≤ j := by omega
  have hkj3 : k + (n - j) = n - 1 := by omega
  have hjH := Lib.hid hj
  have mixed : Tryz.prog.follows Departure.mixedOrders = true := by kernel_rfl
  clear hW1 hH1 h hd hcell hfr hl hnews hlen hcm h1c hzs hj
  go_enter Tryz.func106, Tryz.ntmps106
  go_wp2_with fail
  go_region_law_o (refine step_append_room rfl (.tmp 22) (.tmp 25) 132 rfl 137 i0 3 Tryz.underlying132 hi hz1 g 0 k cap (by simp [Act.eval, Act.put]) A (n - j) (cap - j) news (by simp [Act.eval, Act.put]) s1.out hsrc.out s2.out (by omega) s3.out ?_; rw [← hW.out])
  go_wp2
  go_ret
  refine ⟨rfl, ?_⟩
  have := hres.out
  rw [← hnewsH.out] at this
  rw [← hjH.out, ← hnewsH.out, hW.out]
  simpa using this
theorem DelC_at {base g n cap k : Nat} {kI jI : Int} {xs : List Value} {w : World} (h : w.ownsRow base 137 3 (.slice (some ⟨g, 0, none⟩) n cap) n xs) (h1c : ∀ u ∈ xs, u.oneCell' = true) (hk : k < n) (h1 : kI = k) (h2 : jI = k + 1) :
    Calls Tryz.prog 106 #[.slice (some ⟨g, 0, none⟩) n cap, .int .i64 kI, .int .i64 jI] w (DelAt base g n cap k 3 137 xs w) := by
  have := DelC_any base g n cap k xs w h h1c hk (k + 1) rfl
  rw [h1, h2]
  simpa using this
set_option maxHeartbeats 4000000 in
set_option maxRecDepth 1000000 in
theorem DelR_any (base g n cap k : Nat) (xs : List Value) (w : World) (h : w.ownsRow base 103 1 (.slice (some ⟨g, 0, none⟩) n cap) n xs) (h1c : ∀ u ∈ xs, u.oneCell' = true) (hk : k < n) (j : Nat) (hj : j = k + 1) :
    Calls Tryz.prog 107 #[.slice (some ⟨g, 0, none⟩) n cap, .int .i64 (k : Int), .int .i64 (j : Int)] w (DelAt base g n cap k 1 103 xs w) := by
  obtain ⟨i0, hi, hz0, hz1, hz2⟩ := info_parts infoI64S
  have hcm : n ≤ cap ∧ cap ≤ maxLen := by
    obtain ⟨f, _, _, _, h3, h4, _⟩ := rowIs_of_owns h
    exact ⟨h3, h4⟩
  have hn63 : cap ≤ 9223372036854775807 := by have := hcm.2; unfold maxLen at this; omega
  have hd : w.drew.ownsRow base 103 1 (.slice (some ⟨g, 0, none⟩) n cap) n xs := h.kept (grown_drew w none) (Classical.em _)
  have hcell := fun j (hj : j < n * 1) => hd.cellAt j hj
  have hfr := hd.frozenAt
  have hl : xs.length = n * 1 := h.1
  obtain ⟨news, hnews⟩ : ∃ news, news = xs.drop (j * 1) := ⟨_, rfl⟩
  have hlen : news.length = (n - j) * 1 := by rw [hnews]; simp; omega
  obtain ⟨A, hA, hsrc⟩ : ∃ A : Addr, (if cap = j then some (⟨g, 0, none⟩ : Addr) else some ⟨g, j, none⟩) = some A ∧ Hid (∀ t u, news[t]? = some u → w.drew.cell? (A.add t) = some u) := by
    by_cases hc : cap = j
    · refine ⟨⟨g, 0, none⟩, by simp [hc], Lib.hid fun t u hu => ?_⟩
      have h0 : news.length = 0 := by rw [hlen]; have := hcm.1; omega
      rw [List.length_eq_zero_iff.1 h0] at hu
      simp at hu
    · refine ⟨⟨g, j, none⟩, by simp [hc], Lib.hid fun t u hu => ?_⟩
      have ht := (List.getElem?_eq_some_iff.1 hu).1
      rw [hlen] at ht
      rw [Addr.add_lit, hcell _ (by omega)]
      rw [hnews, List.getElem?_drop] at hu
      (first | exact hu | simpa using hu)
  have s1 : Hid (news.length = (n - j) * 1) := Lib.hid hlen
  have s2 : Hid (∀ u ∈ news, u.oneCell' = true) := Lib.hid fun u hu => h1c u (List.mem_of_mem_drop (hnews ▸ hu))
  have s3 : Hid (∀ t, t < news.length → (w.drew.cell? ⟨g, 0 + k * 1 + t, none⟩).isSome = true ∧ w.drew.frozen? ⟨g, 0 + k * 1 + t, none⟩ = false) := Lib.hid fun t ht => by
    rw [hlen] at ht
    refine ⟨?_, hfr _⟩
    rw [hcell _ (by omega), List.getElem?_eq_getElem (by omega)]
    rfl
  obtain ⟨W1, hW1⟩ : ∃ W1, W1 = w.drew.setCells g (0 + k * 1) news := ⟨_, rfl⟩
  have hH1 : ∀ j, j < n * 1 → (W1.cell? ⟨g, j, none⟩).isSome = true ∧ W1.frozen? ⟨g, j, none⟩ = false := fun j hj => by
    obtain ⟨f, hr, _, _, hnc, _, _⟩ := rowIs_of_owns hd
    have hr1 := rowIs_setCells news (0 + k * 1) _ _ hr
    rw [← hW1] at hr1
    have hjc : j < cap * 1 := Nat.lt_of_lt_of_le hj (Nat.mul_le_mul_right _ hnc)
    rw [hr1.cell hjc]
    exact ⟨rfl, hr1.frozen _⟩
  obtain ⟨zs, hzs⟩ : ∃ zs, zs = (Builtin.zeroCells (Value.slice none 0 0).cells 1).toList := ⟨_, rfl⟩
  have hzl : zs.length = 1 := by rw [hzs, zeros_len]; rfl
  have hcl : ∀ ty, (Builtin.clear_ #[133] ty #[.slice (some ⟨g, (n - 1), none⟩) (n - (n - 1)) (cap - (n - 1))]).run Tryz.prog W1 = .ok (.tuple #[]) (W1.setCells g ((n - 1) * 1) zs) := fun ty => by
    rw [hzs, show n - (n - 1) = 1 by omega]
    have := run_clear_rows W1 _ _ ty (Value.slice none 0 0) (P := Tryz.prog) Tryz.underlying133 (fun w => rfl) g ((n - 1) * 1) 1 (cap - (n - 1)) (by decide) (fun j hj => (hH1 _ (by have : j < 1 * 1 := hj; omega)).1) (fun j hj => (hH1 _ (by have : j < 1 * 1 := hj; omega)).2) (zeros_one1 _ rfl rfl 1)
    simpa using this
  have hW : Hid (W1 = w.drew.setCells g (0 + k * 1) news) := Lib.hid hW1
  have hres := Lib.hid (delAt_of (zs := zs) h hk hzl)
  rw [← hj] at hres
  have hnewsH := Lib.hid hnews
  have hic : k ≤ cap := by have := hcm.1; omega
  have hjc : j ≤ cap := by have := hcm.1; omega
  have hjn : j ≤ n := by omega
  have hnc := hcm.1
  have hn1 : 1 ≤ n := by omega
  have hkj : ¬ (k : Int) = (j : Int) := by omega
  have hkj2 : k ≤ j := by omega
  have hkj3 : k + (n - j) = n - 1 := by omega
  have hjH := Lib.hid hj
  have mixed : Tryz.prog.follows Departure.mixedOrders = true := by kernel_rfl
  clear hW1 hH1 h hd hcell hfr hl hnews hlen hcm h1c hzs hj
  go_enter Tryz.func107, Tryz.ntmps107
  go_wp2_with fail
  go_region_law_o (refine step_append_room rfl (.tmp 22) (.tmp 25) 133 rfl 103 i0 1 Tryz.underlying133 hi hz1 g 0 k cap (by simp [Act.eval, Act.put]) A (n - j) (cap - j) news (by simp [Act.eval, Act.put]) s1.out hsrc.out s2.out (by omega) s3.out ?_; rw [← hW.out])
  go_wp2
  go_ret
  refine ⟨rfl, ?_⟩
  have := hres.out
  rw [← hnewsH.out] at this
  rw [← hjH.out, ← hnewsH.out, hW.out]
  simpa using this
theorem DelR_at {base g n cap k : Nat} {kI jI : Int} {xs : List Value} {w : World} (h : w.ownsRow base 103 1 (.slice (some ⟨g, 0, none⟩) n cap) n xs) (h1c : ∀ u ∈ xs, u.oneCell' = true) (hk : k < n) (h1 : kI = k) (h2 : jI = k + 1) :
    Calls Tryz.prog 107 #[.slice (some ⟨g, 0, none⟩) n cap, .int .i64 kI, .int .i64 jI] w (DelAt base g n cap k 1 103 xs w) := by
  have := DelR_any base g n cap k xs w h h1c hk (k + 1) rfl
  rw [h1, h2]
  simpa using this
set_option maxHeartbeats 4000000 in
set_option maxRecDepth 1000000 in
theorem DelN_any (base g n cap k : Nat) (xs : List Value) (w : World) (h : w.ownsRow base 2 1 (.slice (some ⟨g, 0, none⟩) n cap) n xs) (h1c : ∀ u ∈ xs, u.oneCell' = true) (hk : k < n) (j : Nat) (hj : j = k + 1) :
    Calls Tryz.prog 108 #[.slice (some ⟨g, 0, none⟩) n cap, .int .i64 (k : Int), .int .i64 (j : Int)] w (DelAt base g n cap k 1 2 xs w) := by
  obtain ⟨i0, hi, hz0, hz1, hz2⟩ := info_parts infoI64
  have hcm : n ≤ cap ∧ cap ≤ maxLen := by
    obtain ⟨f, _, _, _, h3, h4, _⟩ := rowIs_of_owns h
    exact ⟨h3, h4⟩
  have hn63 : cap ≤ 9223372036854775807 := by have := hcm.2; unfold maxLen at this; omega
  have hd : w.drew.ownsRow base 2 1 (.slice (some ⟨g, 0, none⟩) n cap) n xs := h.kept (grown_drew w none) (Classical.em _)
  have hcell := fun j (hj : j < n * 1) => hd.cellAt j hj
  have hfr := hd.frozenAt
  have hl : xs.length = n * 1 := h.1
  obtain ⟨news, hnews⟩ : ∃ news, news = xs.drop (j * 1) := ⟨_, rfl⟩
  have hlen : news.length = (n - j) * 1 := by rw [hnews]; simp; omega
  obtain ⟨A, hA, hsrc⟩ : ∃ A : Addr, (if cap = j then some (⟨g, 0, none⟩ : Addr) else some ⟨g, j, none⟩) = some A ∧ Hid (∀ t u, news[t]? = some u → w.drew.cell? (A.add t) = some u) := by
    by_cases hc : cap = j
    · refine ⟨⟨g, 0, none⟩, by simp [hc], Lib.hid fun t u hu => ?_⟩
      have h0 : news.length = 0 := by rw [hlen]; have := hcm.1; omega
      rw [List.length_eq_zero_iff.1 h0] at hu
      simp at hu
    · refine ⟨⟨g, j, none⟩, by simp [hc], Lib.hid fun t u hu => ?_⟩
      have ht := (List.getElem?_eq_some_iff.1 hu).1
      rw [hlen] at ht
      rw [Addr.add_lit, hcell _ (by omega)]
      rw [hnews, List.getElem?_drop] at hu
      (first | exact hu | simpa using hu)
  have s1 : Hid (news.length = (n - j) * 1) := Lib.hid hlen
  have s2 : Hid (∀ u ∈ news, u.oneCell' = true) := Lib.hid fun u hu => h1c u (List.mem_of_mem_drop (hnews ▸ hu))
  have s3 : Hid (∀ t, t < news.length → (w.drew.cell? ⟨g, 0 + k * 1 + t, none⟩).isSome = true ∧ w.drew.frozen? ⟨g, 0 + k * 1 + t, none⟩ = false) := Lib.hid fun t ht => by
    rw [hlen] at ht
    refine ⟨?_, hfr _⟩
    rw [hcell _ (by omega), List.getElem?_eq_getElem (by omega)]
    rfl
  obtain ⟨W1, hW1⟩ : ∃ W1, W1 = w.drew.setCells g (0 + k * 1) news := ⟨_, rfl⟩
  have hH1 : ∀ j, j < n * 1 → (W1.cell? ⟨g, j, none⟩).isSome = true ∧ W1.frozen? ⟨g, j, none⟩ = false := fun j hj => by
    obtain ⟨f, hr, _, _, hnc, _, _⟩ := rowIs_of_owns hd
    have hr1 := rowIs_setCells news (0 + k * 1) _ _ hr
    rw [← hW1] at hr1
    have hjc : j < cap * 1 := Nat.lt_of_lt_of_le hj (Nat.mul_le_mul_right _ hnc)
    rw [hr1.cell hjc]
    exact ⟨rfl, hr1.frozen _⟩
  obtain ⟨zs, hzs⟩ : ∃ zs, zs = (Builtin.zeroCells (Value.int .i64 0).cells 1).toList := ⟨_, rfl⟩
  have hzl : zs.length = 1 := by rw [hzs, zeros_len]; rfl
  have hcl : ∀ ty, (Builtin.clear_ #[103] ty #[.slice (some ⟨g, (n - 1), none⟩) (n - (n - 1)) (cap - (n - 1))]).run Tryz.prog W1 = .ok (.tuple #[]) (W1.setCells g ((n - 1) * 1) zs) := fun ty => by
    rw [hzs, show n - (n - 1) = 1 by omega]
    have := run_clear_rows W1 _ _ ty (Value.int .i64 0) (P := Tryz.prog) Tryz.underlying103 (fun w => rfl) g ((n - 1) * 1) 1 (cap - (n - 1)) (by decide) (fun j hj => (hH1 _ (by have : j < 1 * 1 := hj; omega)).1) (fun j hj => (hH1 _ (by have : j < 1 * 1 := hj; omega)).2) (zeros_one1 _ rfl rfl 1)
    simpa using this
  have hW : Hid (W1 = w.drew.setCells g (0 + k * 1) news) := Lib.hid hW1
  have hres := Lib.hid (delAt_of (zs := zs) h hk hzl)
  rw [← hj] at hres
  have hnewsH := Lib.hid hnews
  have hic : k ≤ cap := by have := hcm.1; omega
  have hjc : j ≤ cap := by have := hcm.1; omega
  have hjn : j ≤ n := by omega
  have hnc := hcm.1
  have hn1 : 1 ≤ n := by omega
  have hkj : ¬ (k : Int) = (j : Int) := by omega
  have hkj2 : k ≤ j := by omega
  have hkj3 : k + (n - j) = n - 1 := by omega
  have hjH := Lib.hid hj
  have mixed : Tryz.prog.follows Departure.mixedOrders = true := by kernel_rfl
  clear hW1 hH1 h hd hcell hfr hl hnews hlen hcm h1c hzs hj
  go_enter Tryz.func108, Tryz.ntmps108
  go_wp2_with fail
  go_region_law_o (refine step_append_room rfl (.tmp 22) (.tmp 25) 103 rfl 2 i0 1 Tryz.underlying103 hi hz1 g 0 k cap (by simp [Act.eval, Act.put]) A (n - j) (cap - j) news (by simp [Act.eval, Act.put]) s1.out hsrc.out s2.out (by omega) s3.out ?_; rw [← hW.out])
  go_wp2
  go_ret
  refine ⟨rfl, ?_⟩
  have := hres.out
  rw [← hnewsH.out] at this
  rw [← hjH.out, ← hnewsH.out, hW.out]
  simpa using this
theorem DelN_at {base g n cap k : Nat} {kI jI : Int} {xs : List Value} {w : World} (h : w.ownsRow base 2 1 (.slice (some ⟨g, 0, none⟩) n cap) n xs) (h1c : ∀ u ∈ xs, u.oneCell' = true) (hk : k < n) (h1 : kI = k) (h2 : jI = k + 1) :
    Calls Tryz.prog 108 #[.slice (some ⟨g, 0, none⟩) n cap, .int .i64 kI, .int .i64 jI] w (DelAt base g n cap k 1 2 xs w) := by
  have := DelN_any base g n cap k xs w h h1c hk (k + 1) rfl
  rw [h1, h2]
  simpa using this
end Go.Proofs.YthieodccakphiaaGreat
/- The network of capacities and flows in memory; whether there is room. -/


namespace Go.Proofs.YthieodccakphiaaGreat
open Go.RowKit Go.Shelf
attribute [local go_sem] BelowBy.cell BelowBy.cell_drew stillUpon givesUpon BelowBy.cell_drew2 BelowBy.cell_drew3

def rowZ (M : Nat → Nat → Int) (n u : Nat) : List Value := (List.range n).map fun v => Value.int .i64 (M u v)
theorem rowZ_len (M : Nat → Nat → Int) (n u : Nat) : (rowZ M n u).length = n := by simp [rowZ]
theorem rowZ_get {M : Nat → Nat → Int} {n u v : Nat} (h : v < n) : (rowZ M n u)[v]? = some (.int .i64 (M u v)) := by simp [rowZ, h]
def rowsZ (M : Nat → Nat → Int) (n m : Nat) : List (List Value) := (List.range m).map (rowZ M n)
theorem rowsZ_len (M : Nat → Nat → Int) (n m : Nat) : (rowsZ M n m).length = m := by simp [rowsZ]
theorem rowsZ_get {M : Nat → Nat → Int} {n m u : Nat} (h : u < m) : (rowsZ M n m)[u]? = some (rowZ M n u) := by simp [rowsZ, h]
/-- a square of numbers: v owns n rows of n numbers -/
def Mat (w : World) (base : Nat) (v : Value) (us : List Value) (n : Nat) (M : Nat → Nat → Int) : Prop := Own2 w base 103 2 1 v us (rowsZ M n n)
theorem Mat.len {w : World} {base n : Nat} {v : Value} {us : List Value} {M : Nat → Nat → Int} (h : Mat w base v us n M) : us.length = n := (Own2.len h).trans (rowsZ_len _ _ _)
theorem Mat.at {w : World} {base n u : Nat} {v : Value} {us : List Value} {M : Nat → Nat → Int} (h : Mat w base v us n M) (hu : u < n) :
    ∃ g cap g' cap', v = .slice (some ⟨g, 0, none⟩) n cap ∧ w.cell? ⟨g, u, none⟩ = some (.slice (some ⟨g', 0, none⟩) n cap') ∧ g < w.heap.size ∧ g' < w.heap.size ∧ base ≤ g ∧ base ≤ g' ∧ us[u]? = some (.slice (some ⟨g', 0, none⟩) n cap') ∧
      w.ownsRow base 2 1 (.slice (some ⟨g', 0, none⟩) n cap') n (rowZ M n u) ∧ ∀ j, j < n → w.cell? ⟨g', j, none⟩ = some (.int .i64 (M u j)) := by
  have hl := h.len
  obtain ⟨g, cap, rfl⟩ := Own2.formPos h hl (by omega)
  obtain ⟨x, hx⟩ : ∃ x, us[u]? = some x := ⟨_, List.getElem?_eq_getElem (by omega)⟩
  obtain ⟨m, r, hr, hown⟩ := Own2.get h hx
  rw [rowsZ_get hu] at hr
  obtain rfl := Option.some.inj hr
  have hm := hown.1
  rw [rowZ_len, Nat.mul_one] at hm
  subst hm
  rcases hown.2 with ⟨_, h0⟩ | ⟨g', cap', cur, rfl, hb, hh, _⟩
  · omega
  · have hc := Own2.cellAt h hl hx
    exact ⟨g, cap, g', cap', rfl, hc.1, hc.2.2, (Array.getElem?_eq_some_iff.1 hh).1, (Own2.lt h g rfl).1, hb, hx, hown, fun j hj => (hown.cellAt j (by omega)).trans (rowZ_get hj)⟩
/-- the blocks of a square -/
def InMat (v : Value) (us : List Value) (g : Nat) : Prop := v.ownBlock = some g ∨ ∃ (k : Nat) (u : Value), us[k]? = some u ∧ u.ownBlock = some g
theorem Mat.lt {w : World} {base n g : Nat} {v : Value} {us : List Value} {M : Nat → Nat → Int} (h : Mat w base v us n M) (hg : InMat v us g) : base ≤ g ∧ g < w.heap.size := by
  rcases hg with hg | ⟨k, u, hu, hg⟩
  · exact Own2.lt h g hg
  · exact Own2.ltIn h hu g hg
theorem Mat.kept {w w' : World} {base n : Nat} {v : Value} {us : List Value} {M : Nat → Nat → Int} {row : Option Nat} (h : Mat w base v us n M) (hg : w.grownBy w' row) (h1 : ∀ g, row = some g → ¬ InMat v us g) : Mat w' base v us n M :=
  Own2.kept h hg fun g e => ⟨fun e' => h1 g e (.inl e'), fun k u hu e' => h1 g e (.inr ⟨k, u, hu, e'⟩)⟩
/-- one number of it is stored -/
theorem Mat.store {w : World} {base n u j g' cap' : Nat} {v : Value} {us : List Value} {M : Nat → Nat → Int} (h : Mat w base v us n M) (hu : u < n) (hx : us[u]? = some (.slice (some ⟨g', 0, none⟩) n cap')) (x : Int) :
    Mat (w.setCell ⟨g', j, none⟩ (.int .i64 x)) base v us n (fun a b => if a = u ∧ b = j then x else M a b) := by
  have hgn : w.grownBy (w.setCell ⟨g', j, none⟩ (.int .i64 x)) (some g') := ⟨rfl, rfl, rfl, by simp, fun i hi hne => Below.heap_setCell _ _ _ _ (fun e => hne (by rw [e]))⟩
  refine ⟨Own2.outer h |>.kept hgn (.inr fun e => Own2.off h u _ g' hx rfl e), by rw [Own2.len h, rowsZ_len, rowsZ_len], fun k y r hy hr => ?_, Own2.apart h, Own2.off h⟩
  have hkn : k < n := by have := (List.getElem?_eq_some_iff.1 hy).1; rw [h.len] at this; exact this
  rw [rowsZ_get hkn] at hr
  obtain rfl := Option.some.inj hr
  obtain ⟨m, hown⟩ := Own2.inner h k y _ hy (rowsZ_get hkn)
  by_cases e : k = u
  · subst e
    rw [hx] at hy
    obtain rfl := Option.some.inj hy
    have hm := hown.1
    rw [rowZ_len, Nat.mul_one] at hm
    subst hm
    refine ⟨n, ?_⟩
    have hs := (hown.stored j (.int .i64 x)).1
    have : (rowZ M n k).set j (.int .i64 x) = rowZ (fun a b => if a = k ∧ b = j then x else M a b) n k := by
      apply List.ext_getElem?
      intro t
      rw [List.getElem?_set, rowZ_len]
      by_cases htn : t < n
      · rw [rowZ_get htn, rowZ_get htn]
        by_cases et : j = t
        · subst et; simp [htn]
        · rw [if_neg et, if_neg (fun c => et c.2.symm)]
      · rw [List.getElem?_eq_none (by rw [rowZ_len]; omega), List.getElem?_eq_none (by rw [rowZ_len]; omega)]
        split
        · rw [if_neg (by omega)]
        · rfl
    rw [this] at hs
    exact hs
  · refine ⟨m, ?_⟩
    have : rowZ (fun a b => if a = u ∧ b = j then x else M a b) n k = rowZ M n k := by
      unfold rowZ
      apply List.map_congr_left
      intro b _
      simp only [e, false_and, if_false]
    rw [this]
    refine hown.kept hgn ?_
    cases hb : y.ownBlock with
    | none => exact .inl rfl
    | some b => exact .inr fun e' => e (Own2.apart h k u y _ b hy hx hb (by rw [e']; rfl))
/-- the network: capacities R and flows F between n points -/
structure Net (w : World) (base p n : Nat) (R F : Nat → Nat → Int) (vR vF : Value) (uR uF : List Value) : Prop where
  lt : p < w.heap.size
  ge : base ≤ p
  room : w.cell? ⟨p, 0, none⟩ = some vR
  flow : w.cell? ⟨p, 1, none⟩ = some vF
  fr : w.frozen? ⟨p, 0, none⟩ = false ∧ w.frozen? ⟨p, 1, none⟩ = false
  R : Mat w base vR uR n R
  F : Mat w base vF uF n F
  off : ∀ g, InMat vR uR g → ¬ InMat vF uF g
  offp : ¬ InMat vR uR p ∧ ¬ InMat vF uF p
theorem Net.kept {w w' : World} {base p n : Nat} {R F : Nat → Nat → Int} {vR vF : Value} {uR uF : List Value} {row : Option Nat} (h : Net w base p n R F vR vF uR uF) (hg : w.grownBy w' row) (h1 : ∀ g, row = some g → g ≠ p ∧ ¬ InMat vR uR g ∧ ¬ InMat vF uF g) : Net w' base p n R F vR vF uR uF := by
  have hb := hg.block p h.lt (fun e => (h1 p e.symm).1 rfl)
  exact ⟨Nat.lt_of_lt_of_le h.lt hg.size, h.ge, (World.cell?_of_block (w := w) (a := ⟨p, 0, none⟩) hb).trans h.room, (World.cell?_of_block (w := w) (a := ⟨p, 1, none⟩) hb).trans h.flow,
    ⟨(World.frozen?_of_block (w := w) (a := ⟨p, 0, none⟩) hb).trans h.fr.1, (World.frozen?_of_block (w := w) (a := ⟨p, 1, none⟩) hb).trans h.fr.2⟩,
    h.R.kept hg (fun g e => (h1 g e).2.1), h.F.kept hg (fun g e => (h1 g e).2.2), h.off, h.offp⟩
theorem Net.below {w w' : World} {base p n : Nat} {R F : Nat → Nat → Int} {vR vF : Value} {uR uF : List Value} (h : Net w base p n R F vR vF uR uF) (hb : Below w.heap.size w w') : Net w' base p n R F vR vF uR uF :=
  h.kept (grown_below hb none) (fun g e => by cases e)
def freeE (R F : Nat → Nat → Int) (u v : Nat) : Bool := decide (F u v < R u v)
set_option maxRecDepth 100000 in
set_option maxHeartbeats 1000000 in
theorem free_any (base p n u v : Nat) (R F : Nat → Nat → Int) (vR vF : Value) (uR uF : List Value) (w : World) (h : Net w base p n R F vR vF uR uF) (hu : u < n) (hv : v < n) :
    Calls Tryz.prog 169 #[.pointer (some ⟨p, 0, none⟩), .int .i64 (u : Int), .int .i64 (v : Int)] w fun e w' => e = .returned (.bool (freeE R F u v)) ∧ Below w.heap.size w w' := by
  obtain ⟨g, cap, g', cap', rfl, c1, l1, l2, _, _, _, _, cRa⟩ := h.R.at hu
  obtain ⟨k, kap, k', kap', rfl, d1, m1, m2, _, _, _, _, cFa⟩ := h.F.at hu
  have cR := cRa v hv
  have cF := cFa v hv
  have hr := h.room
  have hf := h.flow
  have hl := h.lt
  obtain ⟨r, hrE⟩ : ∃ r, R u v = r := ⟨_, rfl⟩
  obtain ⟨f, hfE⟩ : ∃ f, F u v = f := ⟨_, rfl⟩
  have hE : freeE R F u v = decide (f < r) := by unfold freeE; rw [hrE, hfE]
  rw [hE]
  rw [hrE] at cR
  rw [hfE] at cF
  clear h hE hrE hfE cRa cFa
  go_enter Tryz.func169, Tryz.ntmps169
  go_wp2
  refine wp_region_ord [(0, .q), (1, .q), (2, .q), (3, .q), (4, .q), (5, .q), (6, .q), (7, .q), (8, .q), (9, .q), (10, .q), (11, .q), (12, .q), (13, .q), (14, .q), (15, .q), (16, .q), (17, .q), (18, .q), (19, .q), (20, .q), (21, .q)] (by kernel_rfl) (by kernel_rfl) ?_
  simp only [pick, List.filterMap_cons, List.filterMap_nil, List.getElem?_toArray, List.getElem?_cons_zero, List.getElem?_cons_succ, Option.map_some]
  repeat (first | ((with_reducible refine wpD_p (fun K hK => ?_)); go_simp; refine hK _ ?_; clear hK K) | ((with_reducible refine wpD_q (fun K hK => ?_)); go_simp; (first | refine hK _ ?_ | (go_bits; refine hK _ ?_) | (go_bits; go_simp; refine hK _ ?_)); clear hK K))
  with_reducible refine wpD_nil ?_
  go_wp2
  go_ret
  exact ⟨rfl, by exact bel_⟩
end Go.Proofs.YthieodccakphiaaGreat
/- Groups with the strengths between them in memory; the first pair; two groups put together. -/



namespace Go.Proofs.YthieodccakphiaaGreat
open Go.RowKit Go.Shelf
attribute [local go_sem] BelowBy.cell BelowBy.cell_drew stillUpon givesUpon BelowBy.cell_drew2 BelowBy.cell_drew3

/-- the types of the blocks that groups lie in -/
def InT (T : TypeId) : Prop := T = 135 ∨ T = 137 ∨ T = 103 ∨ T = 2
/-- Blocks of other types lie as they lay. -/
def KeepG (W W' : World) : Prop := ∀ (b : Nat) (cs : Array Value) (T : TypeId), W.heap[b]? = some (Obj.cells cs T) → ¬ InT T → W'.heap[b]? = some (Obj.cells cs T)
theorem KeepG.refl (W : World) : KeepG W W := fun _ _ _ h _ => h
theorem KeepG.trans {A B C : World} (h : KeepG A B) (k : KeepG B C) : KeepG A C := fun b cs T hb hT => k b cs T (h b cs T hb hT) hT
theorem KeepG.of_below {W W' : World} (h : Below W.heap.size W W') : KeepG W W' := fun b cs T hb _ => (h.block b (Array.getElem?_eq_some_iff.1 hb).1).trans hb
theorem KeepG.of_grown {W W' : World} {g : Nat} {c0 : Array Value} {T0 : TypeId} (h : W.grownBy W' (some g)) (hb : W.heap[g]? = some (Obj.cells c0 T0)) (h0 : InT T0) : KeepG W W' := fun b cs T hb' hT => by
  refine (h.block b (Array.getElem?_eq_some_iff.1 hb').1 (fun e => ?_)).trans hb'
  injection e with e
  subst e
  rw [hb] at hb'
  injection hb' with hb'
  injection hb' with _ h3
  exact hT (h3 ▸ h0)
/-- all cells are numbers -/
def AllI (xs : List Value) : Prop := ∀ u ∈ xs, ∃ v : Int, u = .int .i64 v
theorem AllI.set {xs : List Value} (h : AllI xs) (j : Nat) (v : Int) : AllI (xs.set j (.int .i64 v)) := fun u hu => by
  rcases List.mem_or_eq_of_mem_set hu with hu | rfl
  · exact h u hu
  · exact ⟨v, rfl⟩
theorem AllI.one {xs : List Value} (h : AllI xs) : ∀ u ∈ xs, u.oneCell' = true := fun u hu => by
  obtain ⟨v, rfl⟩ := h u hu; rfl
theorem AllI.del {xs : List Value} (h : AllI xs) (a b : Nat) : AllI (xs.take a ++ xs.drop b) := fun u hu => by
  rcases List.mem_append.1 hu with hu | hu
  · exact h u (List.mem_of_mem_take hu)
  · exact h u (List.mem_of_mem_drop hu)
/-- a block of some type -/
def TyAt (w : World) (g : Nat) (T : TypeId) : Prop := ∃ cs, w.heap[g]? = some (Obj.cells cs T)
theorem TyAt.ne {w : World} {g g' : Nat} {T T' : TypeId} (h : TyAt w g T) (h' : TyAt w g' T') (hne : T ≠ T') : g ≠ g' := fun e => by
  subst e
  obtain ⟨c, h⟩ := h
  obtain ⟨c', h'⟩ := h'
  rw [h] at h'
  injection h' with h'
  injection h' with _ h3
  exact hne h3
theorem TyAt.of_row {w : World} {base size n g : Nat} {e : TypeId} {v : Value} {xs : List Value} (h : w.ownsRow base e size v n xs) (hg : v.ownBlock = some g) : TyAt w g e := by
  rcases h.2 with ⟨rfl, _⟩ | ⟨g', cap, cur, rfl, _, hh, _⟩
  · cases hg
  · have : g' = g := by injection hg
    subst this
    exact ⟨cur, hh⟩
/-- the groups: a box of two rows -/
structure Gr (w : World) (base p n : Nat) (vG vB : Value) (xs us : List Value) (rows : List (List Value)) : Prop where
  box : w.heap[p]? = some (Obj.cells #[vG, vB] 135)
  ge : base ≤ p
  G : w.ownsRow base 137 3 vG n xs
  gi : AllI xs
  B : Own2 w base 103 2 1 vB us rows
section
variable {w w' : World} {base p n : Nat} {vG vB : Value} {xs us : List Value} {rows : List (List Value)}
theorem Gr.lt (h : Gr w base p n vG vB xs us rows) : p < w.heap.size := (Array.getElem?_eq_some_iff.1 h.box).1
theorem Gr.c0 (h : Gr w base p n vG vB xs us rows) : w.cell? ⟨p, 0, none⟩ = some vG := by simp [World.cell?, h.box]
theorem Gr.c1 (h : Gr w base p n vG vB xs us rows) : w.cell? ⟨p, 1, none⟩ = some vB := by simp [World.cell?, h.box]
theorem Gr.f0 (h : Gr w base p n vG vB xs us rows) (j : Nat) : w.frozen? ⟨p, j, none⟩ = false := by simp [World.frozen?, h.box]
theorem Gr.tyP (h : Gr w base p n vG vB xs us rows) : TyAt w p 135 := ⟨_, h.box⟩
theorem Gr.kept {row : Option Nat} (h : Gr w base p n vG vB xs us rows) (hg : w.grownBy w' row) (h1 : ∀ g, row = some g → g ≠ p ∧ vG.ownBlock ≠ some g ∧ ¬ InMat vB us g) : Gr w' base p n vG vB xs us rows := by
  refine ⟨(hg.block p h.lt (fun e => (h1 p e.symm).1 rfl)).trans h.box, h.ge, h.G.kept hg ?_, h.gi, Own2.kept h.B hg fun g e => ⟨fun e' => (h1 g e).2.2 (.inl e'), fun k u hu e' => (h1 g e).2.2 (.inr ⟨k, u, hu, e'⟩)⟩⟩
  cases hb : vG.ownBlock with
  | none => exact .inl rfl
  | some b => exact .inr fun e => (h1 b e.symm).2.1 hb
theorem Gr.below (h : Gr w base p n vG vB xs us rows) (hb : Below w.heap.size w w') : Gr w' base p n vG vB xs us rows := h.kept (grown_below hb none) (fun g e => by cases e)
theorem Gr.tyIn (h : Gr w base p n vG vB xs us rows) {g : Nat} (hg : InMat vB us g) : TyAt w g 103 ∨ TyAt w g 2 := by
  rcases hg with hg | ⟨k, u, hu, hg⟩
  · exact .inl (TyAt.of_row h.B.outer hg)
  · obtain ⟨m, r, _, ho⟩ := h.B.get hu
    exact .inr (TyAt.of_row ho hg)
/-- what happens to a block of another type -/
theorem Gr.other (h : Gr w base p n vG vB xs us rows) {g : Nat} {T : TypeId} (hT : TyAt w g T) (h0 : ¬ InT T) (hg : w.grownBy w' (some g)) : Gr w' base p n vG vB xs us rows := by
  refine h.kept hg fun g' e => ?_
  injection e with e
  subst e
  refine ⟨hT.ne h.tyP fun e => h0 (.inl e), fun e => ?_, fun e => ?_⟩
  · exact (TyAt.of_row h.G e).ne hT (fun e => h0 (.inr (.inl e.symm))) rfl
  · rcases h.tyIn e with h2 | h2
    · exact h2.ne hT (fun e => h0 (.inr (.inr (.inl e.symm)))) rfl
    · exact h2.ne hT (fun e => h0 (.inr (.inr (.inr e.symm)))) rfl
/-- the row of groups is turned -/
theorem Gr.turnG (h : Gr w base p n vG vB xs us rows) {g n' : Nat} {vG' : Value} {xs' : List Value} (hv : vG.ownBlock = some g) (hg : w.grownBy w' (some g)) (ho : w'.ownsRow base 137 3 vG' n' xs') (hi : AllI xs') (hp : w'.cell? ⟨p, 0, none⟩ = some vG') : Gr w' base p n' vG' vB xs' us rows := by
  have hT := TyAt.of_row h.G hv
  have hpb : w'.heap[p]? = some (Obj.cells #[vG, vB] 135) := (hg.block p h.lt (fun e => by injection e with e; exact h.tyP.ne hT (by decide) e)).trans h.box
  have : vG = vG' := by
    simp [World.cell?, hpb] at hp
    exact hp
  subst this
  refine ⟨hpb, h.ge, ho, hi, Own2.kept h.B hg fun g' e => ?_⟩
  injection e with e
  subst e
  refine ⟨fun e => (TyAt.of_row h.B.outer e).ne hT (by decide) rfl, fun k u hu e => ?_⟩
  obtain ⟨m, r, _, hr⟩ := h.B.get hu
  exact (TyAt.of_row hr e).ne hT (by decide) rfl
/-- the row of groups is turned and its slice stored -/
theorem Gr.storeG (h : Gr w base p n vG vB xs us rows) {g n' : Nat} {vG' : Value} {xs' : List Value} (hv : vG.ownBlock = some g) (hg : w.grownBy w' (some g)) (ho : w'.ownsRow base 137 3 vG' n' xs') (hi : AllI xs') :
    Gr (w'.setCell ⟨p, 0, none⟩ vG') base p n' vG' vB xs' us rows := by
  have hT := TyAt.of_row h.G hv
  have hpb : w'.heap[p]? = some (Obj.cells #[vG, vB] 135) := (hg.block p h.lt (fun e => by injection e with e; exact h.tyP.ne hT (by decide) e)).trans h.box
  have hgs : w'.grownBy (w'.setCell ⟨p, 0, none⟩ vG') (some p) := ⟨rfl, rfl, rfl, by simp, fun i hi hne => Below.heap_setCell _ _ _ _ (fun e => hne (by rw [e]))⟩
  have hB : Own2 w' base 103 2 1 vB us rows := Own2.kept h.B hg fun g' e => by
    injection e with e
    subst e
    refine ⟨fun e => (TyAt.of_row h.B.outer e).ne hT (by decide) rfl, fun k u hu e => ?_⟩
    obtain ⟨m, r, _, hr⟩ := h.B.get hu
    exact (TyAt.of_row hr e).ne hT (by decide) rfl
  have hTP : TyAt w' p 135 := ⟨_, hpb⟩
  refine ⟨?_, h.ge, ho.kept hgs ?_, hi, Own2.kept hB hgs fun g' e => ?_⟩
  · simp [World.setCell, hpb, Array.getElem?_modify, Array.setIfInBounds]
  · cases hb : vG'.ownBlock with
    | none => exact .inl rfl
    | some b => exact .inr fun e => (TyAt.of_row ho hb).ne hTP (by decide) (by injection e)
  · injection e with e
    subst e
    refine ⟨fun e => (TyAt.of_row hB.outer e).ne hTP (by decide) rfl, fun k u hu e => ?_⟩
    obtain ⟨m, r, _, hr⟩ := hB.get hu
    exact (TyAt.of_row hr e).ne hTP (by decide) rfl
/-- the rows are turned in place -/
theorem Gr.turnB (h : Gr w base p n vG vB xs us rows) {g : Nat} {us' : List Value} {rows' : List (List Value)} (hv : InMat vB us g) (hg : w.grownBy w' (some g)) (ho : Own2 w' base 103 2 1 vB us' rows') : Gr w' base p n vG vB xs us' rows' := by
  have hT := h.tyIn hv
  have hne : ∀ {T : TypeId} {b : Nat}, TyAt w b T → T ≠ 103 → T ≠ 2 → b ≠ g := fun hb h1 h2 => by
    rcases hT with hT | hT
    · exact hb.ne hT h1
    · exact hb.ne hT h2
  refine ⟨(hg.block p h.lt (fun e => by injection e with e; exact hne h.tyP (by decide) (by decide) e)).trans h.box, h.ge, h.G.kept hg ?_, h.gi, ho⟩
  cases hb : vG.ownBlock with
  | none => exact .inl rfl
  | some b => exact .inr fun e => hne (TyAt.of_row h.G hb) (by decide) (by decide) (by injection e)
/-- the rows are turned, and their slice stored -/
theorem Gr.storeB (h : Gr w base p n vG vB xs us rows) {g : Nat} {vB' : Value} {us' : List Value} {rows' : List (List Value)} (hv : InMat vB us g) (hg : w.grownBy w' (some g)) (ho : Own2 w' base 103 2 1 vB' us' rows') :
    Gr (w'.setCell ⟨p, 1, none⟩ vB') base p n vG vB' xs us' rows' := by
  have hT := h.tyIn hv
  have hne : ∀ {T : TypeId} {b : Nat}, TyAt w b T → T ≠ 103 → T ≠ 2 → b ≠ g := fun hb h1 h2 => by
    rcases hT with hT | hT
    · exact hb.ne hT h1
    · exact hb.ne hT h2
  have hpb : w'.heap[p]? = some (Obj.cells #[vG, vB] 135) := (hg.block p h.lt (fun e => by injection e with e; exact hne h.tyP (by decide) (by decide) e)).trans h.box
  have hG : w'.ownsRow base 137 3 vG n xs := h.G.kept hg (by
    cases hb : vG.ownBlock with
    | none => exact .inl rfl
    | some b => exact .inr fun e => hne (TyAt.of_row h.G hb) (by decide) (by decide) (by injection e))
  have hgs : w'.grownBy (w'.setCell ⟨p, 1, none⟩ vB') (some p) := ⟨rfl, rfl, rfl, by simp, fun i hi hne => Below.heap_setCell _ _ _ _ (fun e => hne (by rw [e]))⟩
  have hTP : TyAt w' p 135 := ⟨_, hpb⟩
  refine ⟨?_, h.ge, hG.kept hgs ?_, h.gi, Own2.kept ho hgs fun g' e => ?_⟩
  · simp [World.setCell, hpb, Array.getElem?_modify, Array.setIfInBounds]
  · cases hb : vG.ownBlock with
    | none => exact .inl rfl
    | some b => exact .inr fun e => (TyAt.of_row hG hb).ne hTP (by decide) (by injection e)
  · injection e with e
    subst e
    refine ⟨fun e => (TyAt.of_row ho.outer e).ne hTP (by decide) rfl, fun k u hu e => ?_⟩
    obtain ⟨m, r, _, hr⟩ := ho.get hu
    exact (TyAt.of_row hr e).ne hTP (by decide) rfl
end
/-- an element of the outer row is struck out -/
theorem Own2.drop {w w' : World} {base g n cap k : Nat} {T E : TypeId} {size : Nat} {us : List Value} {rows : List (List Value)} (h : Own2 w base T E size (.slice (some ⟨g, 0, none⟩) n cap) us rows) (hg : w.grownBy w' (some g))
    (ho : w'.ownsRow base T 1 (.slice (some ⟨g, 0, none⟩) (n - 1) cap) (n - 1) (us.eraseIdx k)) (hk : k < us.length) (hn : us.length = n) : Own2 w' base T E size (.slice (some ⟨g, 0, none⟩) (n - 1) cap) (us.eraseIdx k) (rows.eraseIdx k) := by
  have hle : (us.eraseIdx k).length = n - 1 := by rw [List.length_eraseIdx_of_lt hk, hn]
  have hat : ∀ {j : Nat} {u : Value}, (us.eraseIdx k)[j]? = some u → us[skipN k j]? = some u := fun {j u} hj => by
    rw [List.getElem?_eraseIdx] at hj
    unfold skipN
    split at hj <;> rename_i hc
    · rw [if_pos hc]; exact hj
    · rw [if_neg hc]; exact hj
  refine ⟨by rw [hle]; exact ho, by rw [hle, List.length_eraseIdx_of_lt (by rw [← h.len]; exact hk), ← h.len, hn], fun j u r hu hr => ?_, fun i j u u' b hi hj hb hb' => ?_, fun j u b hu hb e => ?_⟩
  · have hr2 : rows[skipN k j]? = some r := by
      rw [List.getElem?_eraseIdx] at hr
      unfold skipN
      split at hr <;> rename_i hc
      · rw [if_pos hc]; exact hr
      · rw [if_neg hc]; exact hr
    obtain ⟨m, hm⟩ := h.inner _ u r (hat hu) hr2
    refine ⟨m, hm.kept hg ?_⟩
    cases hb : u.ownBlock with
    | none => exact .inl rfl
    | some b => exact .inr fun e => h.off _ u b (hat hu) hb (by injection e with e; rw [e]; rfl)
  · exact skipN_inj (h.apart _ _ u u' b (hat hi) (hat hj) hb hb')
  · exact h.off _ u b (hat hu) hb e
/-- the world behind: below base all is as it was, blocks of other types too -/
structure FrG (base : Nat) (w w' : World) : Prop where
  b : Below base w w'
  k : KeepG w w'
theorem FrG.trans {base : Nat} {a b c : World} (h : FrG base a b) (k : FrG base b c) : FrG base a c := ⟨h.b.trans k.b, h.k.trans k.k⟩
theorem FrG.of_below {base : Nat} {w w' : World} (h : Below w.heap.size w w') (hb : base ≤ w.heap.size) : FrG base w w' := ⟨h.mono hb, KeepG.of_below h⟩
theorem FrG.of_set {base g o : Nat} {w : World} {T : TypeId} (hb : base ≤ g) (hT : TyAt w g T) (h0 : InT T) (v : Value) : FrG base w (w.setCell ⟨g, o, none⟩ v) := by
  obtain ⟨cs, hT⟩ := hT
  refine ⟨(Below.refl base w).setCell (p := ⟨g, o, none⟩) hb _, KeepG.of_grown (g := g) ⟨rfl, rfl, rfl, by simp, fun i hi hne => Below.heap_setCell _ _ _ _ (fun e => hne (by rw [e]))⟩ hT h0⟩
theorem FrG.of_grown {base g : Nat} {w w' : World} {T : TypeId} (h : w.grownBy w' (some g)) (hb : base ≤ g) (hT : TyAt w g T) (h0 : InT T) : FrG base w w' := by
  obtain ⟨cs, hT⟩ := hT
  have hgl := (Array.getElem?_eq_some_iff.1 hT).1
  exact ⟨(Below.refl base w).grown h (by omega) (fun g' e => by injection e with e; omega), KeepG.of_grown h hT h0⟩
end Go.Proofs.YthieodccakphiaaGreat
