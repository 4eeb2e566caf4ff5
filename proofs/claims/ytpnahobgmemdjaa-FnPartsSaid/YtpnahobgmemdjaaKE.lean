import Derived.Test.YtpnahobgmemdjaaPts
import Derived.Test.YtpnahobgmemdjaaW12
set_option linter.unusedSimpArgs false
set_option linter.unusedVariables false
/- Plain facts: rows of points in order; a point put to its place keeps the order; such rows are told by their members. -/

namespace Go.Proofs.Ytpnahobgmemdjaa
open Go.RowKit
def ltP (a b : Pt) : Prop := lessPt a.x a.y b.x b.y = true
theorem ltP_iff (a b : Pt) : ltP a b ↔ a.y < b.y ∨ (a.y = b.y ∧ a.x < b.x) := lessPt_iff _ _ _ _
theorem ltP_irrefl (a : Pt) : ¬ ltP a a := by rw [ltP_iff]; omega
theorem ltP_trans {a b c : Pt} (h : ltP a b) (k : ltP b c) : ltP a c := by rw [ltP_iff] at *; omega
theorem ltP_asymm {a b : Pt} (h : ltP a b) (k : ltP b a) : False := ltP_irrefl _ (ltP_trans h k)
theorem ltP_tri (a b : Pt) (h : ¬ ltP a b) (k : ¬ ltP b a) : a = b := by
  rw [ltP_iff] at h k
  have hx : a.x = b.x := by omega
  have hy : a.y = b.y := by omega
  cases a; cases b; simp_all
/-- in order, each once -/
def SortS (L : List Pt) : Prop := L.Pairwise ltP
theorem pw_ext {α : Type} {lt : α → α → Prop} (irr : ∀ a, ¬ lt a a) (tr : ∀ a b c, lt a b → lt b c → lt a c) : ∀ {L M : List α}, L.Pairwise lt → M.Pairwise lt → (∀ p, p ∈ L ↔ p ∈ M) → L = M
  | [], [], _, _, _ => rfl
  | [], b :: m, _, _, h => by have := (h b).2 (by simp); simp at this
  | a :: l, [], _, _, h => by have := (h a).1 (by simp); simp at this
  | a :: l, b :: m, hL, hM, h => by
    obtain ⟨h1, h2⟩ := List.pairwise_cons.1 hL
    obtain ⟨k1, k2⟩ := List.pairwise_cons.1 hM
    have hab : a = b := by
      rcases List.mem_cons.1 ((h a).1 (by simp)) with e | e
      · exact e
      · rcases List.mem_cons.1 ((h b).2 (by simp)) with e' | e'
        · exact e'.symm
        · exact (irr _ (tr _ _ _ (h1 b e') (k1 a e))).elim
    subst hab
    rw [pw_ext irr tr h2 k2 (fun p => by
      constructor
      · intro hp
        rcases List.mem_cons.1 ((h p).1 (by simp [hp])) with e | e
        · subst e; exact (irr _ (h1 _ hp)).elim
        · exact e
      · intro hp
        rcases List.mem_cons.1 ((h p).2 (by simp [hp])) with e | e
        · subst e; exact (irr _ (k1 _ hp)).elim
        · exact e)]
theorem SortS.ext {L M : List Pt} (hL : SortS L) (hM : SortS M) (h : ∀ p, p ∈ L ↔ p ∈ M) : L = M := pw_ext ltP_irrefl (fun _ _ _ h k => ltP_trans h k) hL hM h
theorem SortS.get {L : List Pt} (h : SortS L) {i j : Nat} {a b : Pt} (hij : i < j) (ha : L[i]? = some a) (hb : L[j]? = some b) : ltP a b := by
  obtain ⟨hi, rfl⟩ := List.getElem?_eq_some_iff.1 ha
  obtain ⟨hj, rfl⟩ := List.getElem?_eq_some_iff.1 hb
  exact List.pairwise_iff_getElem.1 h i j hi hj hij
theorem putAt_before {L : List Pt} (h : SortS L) {x y : Int} : ∀ a, a ≤ L.length → ∀ j e, j < putAt L x y a → L[j]? = some e → ltP e ⟨x, y⟩
  | 0, _, j, e, hj, _ => by simp [putAt] at hj
  | a + 1, ha, j, e, hj, he => by
    obtain ⟨d, hd⟩ : ∃ d, L[a]? = some d := ⟨_, List.getElem?_eq_getElem (by omega)⟩
    cases hl : lessPt d.x d.y x y
    · rw [putAt_go hd hl] at hj
      exact putAt_before h a (by omega) j e hj he
    · rw [putAt_stop hd hl] at hj
      rcases Nat.lt_succ_iff_lt_or_eq.1 hj with hj | rfl
      · exact ltP_trans (h.get hj he hd) hl
      · rw [hd] at he; obtain rfl := Option.some.inj he; exact hl
theorem putAt_after {L : List Pt} {x y : Int} : ∀ a, a ≤ L.length → ∀ j e, putAt L x y a ≤ j → j < a → L[j]? = some e → ¬ ltP e ⟨x, y⟩
  | 0, _, j, e, _, hj, _ => by omega
  | a + 1, ha, j, e, h1, h2, he => by
    obtain ⟨d, hd⟩ : ∃ d, L[a]? = some d := ⟨_, List.getElem?_eq_getElem (by omega)⟩
    cases hl : lessPt d.x d.y x y
    · rw [putAt_go hd hl] at h1
      rcases Nat.lt_succ_iff_lt_or_eq.1 h2 with h2 | rfl
      · exact putAt_after a (by omega) j e h1 h2 he
      · rw [hd] at he; obtain rfl := Option.some.inj he
        unfold ltP; rw [hl]; decide
    · rw [putAt_stop hd hl] at h1; omega
theorem putP_sorted {L : List Pt} (h : SortS L) (x y : Int) : SortS (putP L x y) := by
  unfold putP
  simp only []
  split
  · exact h
  · rename_i hne
    have hle := putAt_le L x y L.length
    have hb := putAt_before h (x := x) (y := y) L.length (Nat.le_refl _)
    have ha := putAt_after (L := L) (x := x) (y := y) L.length (Nat.le_refl _)
    obtain ⟨a, hae⟩ : ∃ a, putAt L x y L.length = a := ⟨_, rfl⟩
    rw [hae] at hle hb ha hne ⊢
    have hgt : ∀ j e, a ≤ j → L[j]? = some e → ltP ⟨x, y⟩ e := fun j e hj he => by
      have hjl := lt_of_get he
      have h1 := ha j e hj hjl he
      apply Classical.byContradiction
      intro h2
      have hE := ltP_tri _ _ h1 h2
      subst hE
      rcases Nat.lt_or_ge a j with h3 | h3
      · obtain ⟨d, hd⟩ : ∃ d, L[a]? = some d := ⟨_, List.getElem?_eq_getElem (by omega)⟩
        exact ha a d (Nat.le_refl _) (by omega) hd (h.get h3 hd he)
      · obtain rfl : j = a := by omega
        exact hne he
    show (L.take a ++ ⟨x, y⟩ :: L.drop a).Pairwise ltP
    rw [List.pairwise_append]
    refine ⟨List.Pairwise.sublist (List.take_sublist _ _) h, List.pairwise_cons.2 ⟨fun e he => ?_, List.Pairwise.sublist (List.drop_sublist _ _) h⟩, fun d hd e he => ?_⟩
    · obtain ⟨i, hi, rfl⟩ := List.mem_iff_getElem.1 he
      rw [List.length_drop] at hi
      exact hgt (a + i) _ (by omega) (by rw [List.getElem_drop]; exact List.getElem?_eq_getElem (by omega))
    · obtain ⟨i, hi, rfl⟩ := List.mem_iff_getElem.1 hd
      rw [List.length_take] at hi
      have h1 : ltP (L.take a)[i] ⟨x, y⟩ := hb i _ (by omega) (by rw [List.getElem_take]; exact List.getElem?_eq_getElem (by omega))
      rcases List.mem_cons.1 he with rfl | he
      · exact h1
      · obtain ⟨k, hk, rfl⟩ := List.mem_iff_getElem.1 he
        rw [List.length_drop] at hk
        exact ltP_trans h1 (hgt (a + k) _ (by omega) (by rw [List.getElem_drop]; exact List.getElem?_eq_getElem (by omega)))
/-- points put to a list, one after the other -/
def putAll (L : List Pt) : List Pt → List Pt
  | [] => L
  | p :: ps => putAll (putP L p.x p.y) ps
theorem putAll_mem {q : Pt} : ∀ (ps : List Pt) (L : List Pt), q ∈ putAll L ps ↔ q ∈ L ∨ q ∈ ps
  | [], L => by simp [putAll]
  | p :: ps, L => by
    simp only [putAll]
    rw [putAll_mem ps, putP_mem, List.mem_cons]
    constructor
    · rintro ((h | h) | h)
      · exact Or.inl h
      · exact Or.inr (Or.inl h)
      · exact Or.inr (Or.inr h)
    · rintro (h | h | h)
      · exact Or.inl (Or.inl h)
      · exact Or.inl (Or.inr h)
      · exact Or.inr h
theorem putAll_sorted : ∀ (ps : List Pt) (L : List Pt), SortS L → SortS (putAll L ps)
  | [], L, h => h
  | p :: ps, L, h => putAll_sorted ps _ (putP_sorted h p.x p.y)
theorem putAll_snoc : ∀ (ps : List Pt) (L : List Pt) (p : Pt), putAll L (ps ++ [p]) = putP (putAll L ps) p.x p.y
  | [], L, p => rfl
  | q :: ps, L, p => by simp only [List.cons_append, putAll]; exact putAll_snoc ps _ p
theorem putP_id {L : List Pt} (h : SortS L) {p : Pt} (hp : p ∈ L) : putP L p.x p.y = L :=
  SortS.ext (putP_sorted h _ _) h fun q => by
    rw [putP_mem]
    constructor
    · rintro (h1 | rfl)
      · exact h1
      · exact hp
    · exact Or.inl
/-- what is left of a row where of equals that follow one another one stays -/
def compactP : List Pt → List Pt
  | [] => []
  | [a] => [a]
  | a :: b :: l => if a = b then compactP (b :: l) else a :: compactP (b :: l)
theorem compactP_mem {p : Pt} : ∀ L : List Pt, p ∈ compactP L ↔ p ∈ L
  | [] => by simp [compactP]
  | [a] => by simp [compactP]
  | a :: b :: l => by
    simp only [compactP]
    split
    · rename_i h; subst h; rw [compactP_mem (a :: l)]; simp
    · rw [List.mem_cons, compactP_mem (b :: l), List.mem_cons (l := b :: l)]
theorem compactP_sorted : ∀ L : List Pt, L.Pairwise (fun a b => ¬ ltP b a) → SortS (compactP L)
  | [], _ => List.Pairwise.nil
  | [a], _ => List.pairwise_singleton _ _
  | a :: b :: l, h => by
    obtain ⟨h1, h2⟩ := List.pairwise_cons.1 h
    simp only [compactP]
    split
    · exact compactP_sorted _ h2
    · rename_i hne
      refine List.pairwise_cons.2 ⟨fun e he => ?_, compactP_sorted _ h2⟩
      rw [compactP_mem] at he
      have hab : ltP a b := by
        apply Classical.byContradiction
        intro hc
        exact hne (ltP_tri _ _ hc (h1 b (by simp)))
      rcases List.mem_cons.1 he with rfl | he
      · exact hab
      · have hbe := (List.pairwise_cons.1 h2).1 e he
        apply Classical.byContradiction
        intro hc
        have := ltP_tri _ _ hc (h1 e (by simp [he]))
        subst this
        exact hbe hab
/-- sorted and made single -/
theorem compact_put {L M : List Pt} (hm : ∀ p, p ∈ M ↔ p ∈ L) (hs : M.Pairwise (fun a b => ¬ ltP b a)) : compactP M = putAll [] L :=
  SortS.ext (compactP_sorted M hs) (putAll_sorted L [] List.Pairwise.nil) fun p => by rw [compactP_mem, hm, putAll_mem]; simp
end Go.Proofs.Ytpnahobgmemdjaa
/- Walks: a point looked for in a row of points in order. -/


namespace Go.Proofs.Ytpnahobgmemdjaa
open Go.RowKit
attribute [local go_sem] BelowBy.cell BelowBy.cell_drew stillUpon givesUpon

/-- where a binary search stops -/
structure Stop (L : List Pt) (x y : Int) (r : Nat) (b : Bool) : Prop where
  le : r ≤ L.length
  lt : ∀ (k : Nat) (d : Pt), k < r → L[k]? = some d → lessPt d.x d.y x y = true
  ge : ∀ (k : Nat) (d : Pt), r ≤ k → L[k]? = some d → lessPt d.x d.y x y = false
  yes : b = true → L[r]? = some ⟨x, y⟩
  no : b = false → ¬ (⟨x, y⟩ : Pt) ∈ L
theorem Stop.mem {L : List Pt} {x y : Int} {r : Nat} {b : Bool} (h : Stop L x y r b) : b = decide ((⟨x, y⟩ : Pt) ∈ L) := by
  cases b
  · exact (decide_eq_false (h.no rfl)).symm
  · exact (decide_eq_true (List.mem_of_getElem? (h.yes rfl))).symm
def SearchP (w : World) (L : List Pt) (x y : Int) (e : Ending) (w' : World) : Prop :=
  ∃ (r : Nat) (b : Bool), e = .returned (.tuple #[.int .i64 (r : Int), .bool b]) ∧ Stop L x y r b ∧ Below w.heap.size w w'
theorem comparePointsP_at {e : Pt} {x y : Int} {w : World} :
    Calls Try.prog 71 #[.agg #[.int .i64 e.x, .int .i64 e.y], .agg #[.int .i64 x, .int .i64 y]] w fun e' w' => e' = .returned (.int .i64 (cmpPt e.x e.y x y)) ∧ Below w.heap.size w w' := comparePoints_any _ _ _ _ _
theorem stop_no {L : List Pt} (hS : SortS L) {x y : Int} {i : Nat} (h1 : ∀ (k : Nat) (d : Pt), k < i → L[k]? = some d → lessPt d.x d.y x y = true) (h2 : ∀ (k : Nat) (d : Pt), i ≤ k → L[k]? = some d → lessPt d.x d.y x y = false) (h3 : ∀ d, L[i]? = some d → ¬ (d.x = x ∧ d.y = y)) : ¬ (⟨x, y⟩ : Pt) ∈ L := by
  intro hm
  obtain ⟨k, hk, hke⟩ := List.mem_iff_getElem.1 hm
  have hke' : L[k]? = some ⟨x, y⟩ := List.getElem?_eq_some_iff.2 ⟨hk, hke⟩
  rcases Nat.lt_trichotomy k i with h | rfl | h
  · exact ltP_irrefl ⟨x, y⟩ (h1 k _ h hke')
  · exact h3 _ hke' ⟨rfl, rfl⟩
  · obtain ⟨d, hd⟩ : ∃ d, L[i]? = some d := ⟨_, List.getElem?_eq_getElem (by omega)⟩
    have := hS.get h hd hke'
    have h4 := h2 i d (Nat.le_refl _) hd
    unfold ltP at this
    simp only at this
    rw [h4] at this; cases this
end Go.Proofs.Ytpnahobgmemdjaa
