import Derived.Test.YtkppijcjmhkkkaaGAH
import Derived.Test.YtkppijcjmhkkkaaGAF
import Derived.Test.YtkppijcjmhkkkaaGAJ
import Derived.Test.YtkppijcjmhkkkaaGAE
set_option linter.unusedSimpArgs false
set_option linter.unusedVariables false
/- Plain facts: rows of points in order; a point put to its place keeps the order; such rows are told by their members. -/

namespace Go.Proofs.Ytkppijcjmhkkkaa
open Go.RowKit
def ltP (a b : Pt) : Prop := lessPt a.x a.y b.x b.y = true
theorem ltP_iff (a b : Pt) : ltP a b ↔ a.y < b.y ∨ (a.y = b.y ∧ a.x < b.x) := lessPt_iff _ _ _ _
theorem ltP_irrefl (a : Pt) : ¬ ltP a a := by rw [ltP_iff]; omega
theorem ltP_trans {a b c : Pt} (h : ltP a b) (k : ltP b c) : ltP a c := by rw [ltP_iff] at *; omega
theorem ltP_asymm {a b : Pt} (h : ltP a b) (k : ltP b a) : False := ltP_irrefl _ (ltP_trans h k)
theorem ltP_tri (a b : Pt) (h : ¬ ltP a b) (k : ¬ ltP b a) : a = b := by
  rw [ltP_iff] at h k
  have hx : a.x = b.x := by omega
  have hy : a.y = b.y := by omega
  cases a; cases b; simp_all
/-- in order, each once -/
def SortS (L : List Pt) : Prop := L.Pairwise ltP
theorem pw_ext {α : Type} {lt : α → α → Prop} (irr : ∀ a, ¬ lt a a) (tr : ∀ a b c, lt a b → lt b c → lt a c) : ∀ {L M : List α}, L.Pairwise lt → M.Pairwise lt → (∀ p, p ∈ L ↔ p ∈ M) → L = M
  | [], [], _, _, _ => rfl
  | [], b :: m, _, _, h => by have := (h b).2 (by simp); simp at this
  | a :: l, [], _, _, h => by have := (h a).1 (by simp); simp at this
  | a :: l, b :: m, hL, hM, h => by
    obtain ⟨h1, h2⟩ := List.pairwise_cons.1 hL
    obtain ⟨k1, k2⟩ := List.pairwise_cons.1 hM
    have hab : a = b := by
      rcases List.mem_cons.1 ((h a).1 (by simp)) with e | e
      · exact e
      · rcases List.mem_cons.1 ((h b).2 (by simp)) with e' | e'
        · exact e'.symm
        · exact (irr _ (tr _ _ _ (h1 b e') (k1 a e))).elim
    subst hab
    rw [pw_ext irr tr h2 k2 (fun p => by
      constructor
      · intro hp
        rcases List.mem_cons.1 ((h p).1 (by simp [hp])) with e | e
        · subst e; exact (irr _ (h1 _ hp)).elim
        · exact e
      · intro hp
        rcases List.mem_cons.1 ((h p).2 (by simp [hp])) with e | e
        · subst e; exact (irr _ (k1 _ hp)).elim
        · exact e)]
theorem SortS.ext {L M : List Pt} (hL : SortS L) (hM : SortS M) (h : ∀ p, p ∈ L ↔ p ∈ M) : L = M := pw_ext ltP_irrefl (fun _ _ _ h k => ltP_trans h k) hL hM h
theorem SortS.get {L : List Pt} (h : SortS L) {i j : Nat} {a b : Pt} (hij : i < j) (ha : L[i]? = some a) (hb : L[j]? = some b) : ltP a b := by
  obtain ⟨hi, rfl⟩ := List.getElem?_eq_some_iff.1 ha
  obtain ⟨hj, rfl⟩ := List.getElem?_eq_some_iff.1 hb
  exact List.pairwise_iff_getElem.1 h i j hi hj hij
theorem putAt_before {L : List Pt} (h : SortS L) {x y : Int} : ∀ a, a ≤ L.length → ∀ j e, j < putAt L x y a → L[j]? = some e → ltP e ⟨x, y⟩
  | 0, _, j, e, hj, _ => by simp [putAt] at hj
  | a + 1, ha, j, e, hj, he => by
    obtain ⟨d, hd⟩ : ∃ d, L[a]? = some d := ⟨_, List.getElem?_eq_getElem (by omega)⟩
    cases hl : lessPt d.x d.y x y
    · rw [putAt_go hd hl] at hj
      exact putAt_before h a (by omega) j e hj he
    · rw [putAt_stop hd hl] at hj
      rcases Nat.lt_succ_iff_lt_or_eq.1 hj with hj | rfl
      · exact ltP_trans (h.get hj he hd) hl
      · rw [hd] at he; obtain rfl := Option.some.inj he; exact hl
theorem putAt_after {L : List Pt} {x y : Int} : ∀ a, a ≤ L.length → ∀ j e, putAt L x y a ≤ j → j < a → L[j]? = some e → ¬ ltP e ⟨x, y⟩
  | 0, _, j, e, _, hj, _ => by omega
  | a + 1, ha, j, e, h1, h2, he => by
    obtain ⟨d, hd⟩ : ∃ d, L[a]? = some d := ⟨_, List.getElem?_eq_getElem (by omega)⟩
    cases hl : lessPt d.x d.y x y
    · rw [putAt_go hd hl] at h1
      rcases Nat.lt_succ_iff_lt_or_eq.1 h2 with h2 | rfl
      · exact putAt_after a (by omega) j e h1 h2 he
      · rw [hd] at he; obtain rfl := Option.some.inj he
        unfold ltP; rw [hl]; decide
    · rw [putAt_stop hd hl] at h1; omega
theorem putP_sorted {L : List Pt} (h : SortS L) (x y : Int) : SortS (putP L x y) := by
  unfold putP
  simp only []
  split
  · exact h
  · rename_i hne
    have hle := putAt_le L x y L.length
    have hb := putAt_before h (x := x) (y := y) L.length (Nat.le_refl _)
    have ha := putAt_after (L := L) (x := x) (y := y) L.length (Nat.le_refl _)
    obtain ⟨a, hae⟩ : ∃ a, putAt L x y L.length = a := ⟨_, rfl⟩
    rw [hae] at hle hb ha hne ⊢
    have hgt : ∀ j e, a ≤ j → L[j]? = some e → ltP ⟨x, y⟩ e := fun j e hj he => by
      have hjl := lt_of_get he
      have h1 := ha j e hj hjl he
      apply Classical.byContradiction
      intro h2
      have hE := ltP_tri _ _ h1 h2
      subst hE
      rcases Nat.lt_or_ge a j with h3 | h3
      · obtain ⟨d, hd⟩ : ∃ d, L[a]? = some d := ⟨_, List.getElem?_eq_getElem (by omega)⟩
        exact ha a d (Nat.le_refl _) (by omega) hd (h.get h3 hd he)
      · obtain rfl : j = a := by omega
        exact hne he
    show (L.take a ++ ⟨x, y⟩ :: L.drop a).Pairwise ltP
    rw [List.pairwise_append]
    refine ⟨List.Pairwise.sublist (List.take_sublist _ _) h, List.pairwise_cons.2 ⟨fun e he => ?_, List.Pairwise.sublist (List.drop_sublist _ _) h⟩, fun d hd e he => ?_⟩
    · obtain ⟨i, hi, rfl⟩ := List.mem_iff_getElem.1 he
      rw [List.length_drop] at hi
      exact hgt (a + i) _ (by omega) (by rw [List.getElem_drop]; exact List.getElem?_eq_getElem (by omega))
    · obtain ⟨i, hi, rfl⟩ := List.mem_iff_getElem.1 hd
      rw [List.length_take] at hi
      have h1 : ltP (L.take a)[i] ⟨x, y⟩ := hb i _ (by omega) (by rw [List.getElem_take]; exact List.getElem?_eq_getElem (by omega))
      rcases List.mem_cons.1 he with rfl | he
      · exact h1
      · obtain ⟨k, hk, rfl⟩ := List.mem_iff_getElem.1 he
        rw [List.length_drop] at hk
        exact ltP_trans h1 (hgt (a + k) _ (by omega) (by rw [List.getElem_drop]; exact List.getElem?_eq_getElem (by omega)))
/-- points put to a list, one after the other -/
def putAll (L : List Pt) : List Pt → List Pt
  | [] => L
  | p :: ps => putAll (putP L p.x p.y) ps
theorem putAll_mem {q : Pt} : ∀ (ps : List Pt) (L : List Pt), q ∈ putAll L ps ↔ q ∈ L ∨ q ∈ ps
  | [], L => by simp [putAll]
  | p :: ps, L => by
    simp only [putAll]
    rw [putAll_mem ps, putP_mem, List.mem_cons]
    constructor
    · rintro ((h | h) | h)
      · exact Or.inl h
      · exact Or.inr (Or.inl h)
      · exact Or.inr (Or.inr h)
    · rintro (h | h | h)
      · exact Or.inl (Or.inl h)
      · exact Or.inl (Or.inr h)
      · exact Or.inr h
theorem putAll_sorted : ∀ (ps : List Pt) (L : List Pt), SortS L → SortS (putAll L ps)
  | [], L, h => h
  | p :: ps, L, h => putAll_sorted ps _ (putP_sorted h p.x p.y)
theorem putAll_snoc : ∀ (ps : List Pt) (L : List Pt) (p : Pt), putAll L (ps ++ [p]) = putP (putAll L ps) p.x p.y
  | [], L, p => rfl
  | q :: ps, L, p => by simp only [List.cons_append, putAll]; exact putAll_snoc ps _ p
theorem putP_id {L : List Pt} (h : SortS L) {p : Pt} (hp : p ∈ L) : putP L p.x p.y = L :=
  SortS.ext (putP_sorted h _ _) h fun q => by
    rw [putP_mem]
    constructor
    · rintro (h1 | rfl)
      · exact h1
      · exact hp
    · exact Or.inl
/-- what is left of a row where of equals that follow one another one stays -/
def compactP : List Pt → List Pt
  | [] => []
  | [a] => [a]
  | a :: b :: l => if a = b then compactP (b :: l) else a :: compactP (b :: l)
theorem compactP_mem {p : Pt} : ∀ L : List Pt, p ∈ compactP L ↔ p ∈ L
  | [] => by simp [compactP]
  | [a] => by simp [compactP]
  | a :: b :: l => by
    simp only [compactP]
    split
    · rename_i h; subst h; rw [compactP_mem (a :: l)]; simp
    · rw [List.mem_cons, compactP_mem (b :: l), List.mem_cons (l := b :: l)]
theorem compactP_sorted : ∀ L : List Pt, L.Pairwise (fun a b => ¬ ltP b a) → SortS (compactP L)
  | [], _ => List.Pairwise.nil
  | [a], _ => List.pairwise_singleton _ _
  | a :: b :: l, h => by
    obtain ⟨h1, h2⟩ := List.pairwise_cons.1 h
    simp only [compactP]
    split
    · exact compactP_sorted _ h2
    · rename_i hne
      refine List.pairwise_cons.2 ⟨fun e he => ?_, compactP_sorted _ h2⟩
      rw [compactP_mem] at he
      have hab : ltP a b := by
        apply Classical.byContradiction
        intro hc
        exact hne (ltP_tri _ _ hc (h1 b (by simp)))
      rcases List.mem_cons.1 he with rfl | he
      · exact hab
      · have hbe := (List.pairwise_cons.1 h2).1 e he
        apply Classical.byContradiction
        intro hc
        have := ltP_tri _ _ hc (h1 e (by simp [he]))
        subst this
        exact hbe hab
/-- sorted and made single -/
theorem compact_put {L M : List Pt} (hm : ∀ p, p ∈ M ↔ p ∈ L) (hs : M.Pairwise (fun a b => ¬ ltP b a)) : compactP M = putAll [] L :=
  SortS.ext (compactP_sorted M hs) (putAll_sorted L [] List.Pairwise.nil) fun p => by rw [compactP_mem, hm, putAll_mem]; simp
end Go.Proofs.Ytkppijcjmhkkkaa
/- Walks: a point looked for in a row of points in order. -/


namespace Go.Proofs.Ytkppijcjmhkkkaa
open Go.RowKit
attribute [local go_sem] BelowBy.cell BelowBy.cell_drew stillUpon givesUpon

/-- where a binary search stops -/
structure Stop (L : List Pt) (x y : Int) (r : Nat) (b : Bool) : Prop where
  le : r ≤ L.length
  lt : ∀ (k : Nat) (d : Pt), k < r → L[k]? = some d → lessPt d.x d.y x y = true
  ge : ∀ (k : Nat) (d : Pt), r ≤ k → L[k]? = some d → lessPt d.x d.y x y = false
  yes : b = true → L[r]? = some ⟨x, y⟩
  no : b = false → ¬ (⟨x, y⟩ : Pt) ∈ L
theorem Stop.mem {L : List Pt} {x y : Int} {r : Nat} {b : Bool} (h : Stop L x y r b) : b = decide ((⟨x, y⟩ : Pt) ∈ L) := by
  cases b
  · exact (decide_eq_false (h.no rfl)).symm
  · exact (decide_eq_true (List.mem_of_getElem? (h.yes rfl))).symm
def SearchP (w : World) (L : List Pt) (x y : Int) (e : Ending) (w' : World) : Prop :=
  ∃ (r : Nat) (b : Bool), e = .returned (.tuple #[.int .i64 (r : Int), .bool b]) ∧ Stop L x y r b ∧ Below w.heap.size w w'
theorem comparePointsP_at {e : Pt} {x y : Int} {w : World} :
    Calls Try.prog 49 #[.agg #[.int .i64 e.x, .int .i64 e.y], .agg #[.int .i64 x, .int .i64 y]] w fun e' w' => e' = .returned (.int .i64 (cmpPt e.x e.y x y)) ∧ Below w.heap.size w w' := comparePoints_any _ _ _ _ _
theorem stop_no {L : List Pt} (hS : SortS L) {x y : Int} {i : Nat} (h1 : ∀ (k : Nat) (d : Pt), k < i → L[k]? = some d → lessPt d.x d.y x y = true) (h2 : ∀ (k : Nat) (d : Pt), i ≤ k → L[k]? = some d → lessPt d.x d.y x y = false) (h3 : ∀ d, L[i]? = some d → ¬ (d.x = x ∧ d.y = y)) : ¬ (⟨x, y⟩ : Pt) ∈ L := by
  intro hm
  obtain ⟨k, hk, hke⟩ := List.mem_iff_getElem.1 hm
  have hke' : L[k]? = some ⟨x, y⟩ := List.getElem?_eq_some_iff.2 ⟨hk, hke⟩
  rcases Nat.lt_trichotomy k i with h | rfl | h
  · exact ltP_irrefl ⟨x, y⟩ (h1 k _ h hke')
  · exact h3 _ hke' ⟨rfl, rfl⟩
  · obtain ⟨d, hd⟩ : ∃ d, L[i]? = some d := ⟨_, List.getElem?_eq_getElem (by omega)⟩
    have := hS.get h hd hke'
    have h4 := h2 i d (Nat.le_refl _) hd
    unfold ltP at this
    simp only at this
    rw [h4] at this; cases this
set_option maxHeartbeats 2000000 in
theorem BinarySearchP_any (A : Option Addr) (n c : Nat) (L : List Pt) (x y : Int) (w : World) (h2 : RdSl 2 RPt w A n L) (hS : SortS L) (h5 : n ≤ 100000) :
    Calls Try.prog 51 #[.slice A n c, .agg #[.int .i64 x, .int .i64 y], .func (.func 49) #[] #[]] w (SearchP w L x y) := by
  have hl := h2.len
  
  go_enter Try.func51, Try.ntmps51
  go_wp2
  go_loopg [9, 10] n (fun g lo hi wr => ∃ i j : Nat, j - i ≤ g ∧ i ≤ j ∧ j ≤ n ∧ lo = .int .i64 i ∧ hi = .int .i64 j ∧ (∀ (k : Nat) (d : Pt), k < i → L[k]? = some d → lessPt d.x d.y x y = true) ∧ (∀ (k : Nat) (d : Pt), j ≤ k → L[k]? = some d → lessPt d.x d.y x y = false) ∧
    Below w.heap.size w wr ∧ wr.cell? ⟨w.heap.size, 0, none⟩ = some (.int .i64 x) ∧ wr.cell? ⟨w.heap.size, 1, none⟩ = some (.int .i64 y) ∧ w.heap.size < wr.heap.size)
  case atStart => exact ⟨0, n, by omega, by omega, by omega, rfl, rfl, fun k d hk => by omega, fun k d hk hd => by have := lt_of_get hd; omega, by exact bel_, by go_simp, by go_simp, by simp⟩
  case round =>
    obtain ⟨i, j, hg, hij, hjn, rfl, rfl, hloX, hhiX, hbw, hx0, hx1, hsz⟩ := hrel
    have hlo := Lib.hid hloX
    have hhi := Lib.hid hhiX
    clear hloX hhiX
    have g2 := h2.below RPt.stable hbw
    by_cases hlt2 : i < j
    · obtain ⟨b, o, rfl, hb, hc⟩ := g2.ptr (by omega)
      obtain ⟨m, hm⟩ : ∃ m : Nat, m = (i + j) / 2 := ⟨_, rfl⟩
      have hm1 : i ≤ m := by omega
      have hm2 : m < j := by omega
      have hmi : ((i : Int) + (j : Int)) / 2 = (m : Int) := by omega
      have hmn : m < n := by omega
      clear hm
      obtain ⟨e, he⟩ := g2.get (k := m) (by omega)
      obtain ⟨c0, c1⟩ := hc m e he
      have he := Lib.hid he
      clear hc g2
      cases hl4 : lessPt e.x e.y x y
      · have hcz : decide (cmpPt e.x e.y x y < 0) = false := hl4
        go_wp2
        refine wp_region_ord [(0, .q), (1, .q), (2, .q), (3, .q), (4, .q), (5, .q), (6, .g), (7, .q)] (by kernel_rfl) (by kernel_rfl) ?_
        simp only [pick, List.filterMap_cons, List.filterMap_nil, List.getElem?_toArray, List.getElem?_cons_zero, List.getElem?_cons_succ, Option.map_some]
        repeat (first
          | ((with_reducible refine wpD_p (fun K hK => ?_)); go_simp; refine hK _ ?_; clear hK K)
          | ((with_reducible refine wpD_q (fun K hK => ?_)); go_simp; (first | refine hK _ ?_ | (go_bits; refine hK _ ?_) | (go_bits; go_simp; refine hK _ ?_)); clear hK K)
          | ((with_reducible refine wpD_g (fun K hK => ?_)); go_simp; refine hK _ _ ?_; clear hK K)
          | ((with_reducible refine wpD_g (fun K hK => ?_)); go_simp; refine ⟨Grew.of_alloc _, hK _ _ ?_⟩; clear hK K)
          | ((with_reducible refine wpD_g (fun K hK => ?_)); go_simp; go_at_call 49; refine (comparePointsP_at (e := e)).mono ?_; rintro e w1 ⟨rfl, hb1⟩; refine ⟨_, rfl, hb1, hK _ _ ?_⟩; clear hK K; obtain ⟨chb1, fhb1, shb1, thb1⟩ := bcell hb1))
        with_reducible refine wpD_nil ?_
        go_wp2
        go_roundg (m - i)
        case measure => omega
        case rel => exact ⟨i, m, by omega, hm1, by omega, rfl, rfl, hlo.out, fun k d hk hd => (by
            rcases Nat.lt_or_ge m k with hmk | hmk
            · cases hh : lessPt d.x d.y x y with
              | false => rfl
              | true => rw [← hl4]; exact (ltP_trans (hS.get hmk he.out hd) (show ltP d ⟨x, y⟩ from hh)).symm
            · obtain rfl : m = k := by omega
              rw [he.out] at hd
              obtain rfl := Option.some.inj hd
              exact hl4), by exact bel_, (hb1.cell (p := ⟨w.heap.size, 0, none⟩) hsz).trans hx0, (hb1.cell (p := ⟨w.heap.size, 1, none⟩) hsz).trans hx1, Nat.lt_of_lt_of_le hsz hb1.size⟩
      · have hcz : decide (cmpPt e.x e.y x y < 0) = true := hl4
        go_wp2
        refine wp_region_ord [(0, .q), (1, .q), (2, .q), (3, .q), (4, .q), (5, .q), (6, .g), (7, .q)] (by kernel_rfl) (by kernel_rfl) ?_
        simp only [pick, List.filterMap_cons, List.filterMap_nil, List.getElem?_toArray, List.getElem?_cons_zero, List.getElem?_cons_succ, Option.map_some]
        repeat (first
          | ((with_reducible refine wpD_p (fun K hK => ?_)); go_simp; refine hK _ ?_; clear hK K)
          | ((with_reducible refine wpD_q (fun K hK => ?_)); go_simp; (first | refine hK _ ?_ | (go_bits; refine hK _ ?_) | (go_bits; go_simp; refine hK _ ?_)); clear hK K)
          | ((with_reducible refine wpD_g (fun K hK => ?_)); go_simp; refine hK _ _ ?_; clear hK K)
          | ((with_reducible refine wpD_g (fun K hK => ?_)); go_simp; refine ⟨Grew.of_alloc _, hK _ _ ?_⟩; clear hK K)
          | ((with_reducible refine wpD_g (fun K hK => ?_)); go_simp; go_at_call 49; refine (comparePointsP_at (e := e)).mono ?_; rintro e w1 ⟨rfl, hb1⟩; refine ⟨_, rfl, hb1, hK _ _ ?_⟩; clear hK K; obtain ⟨chb1, fhb1, shb1, thb1⟩ := bcell hb1))
        with_reducible refine wpD_nil ?_
        go_wp2
        go_roundg (j - (m + 1))
        case measure => omega
        case rel => exact ⟨m + 1, j, by omega, hm2, by omega, by go_num, rfl, fun k d hk hd => (by
            rcases Nat.lt_or_ge k m with hmk | hmk
            · exact ltP_trans (hS.get hmk hd he.out) (show ltP e ⟨x, y⟩ from hl4)
            · obtain rfl : m = k := by omega
              rw [he.out] at hd
              obtain rfl := Option.some.inj hd
              exact hl4), hhi.out, by exact bel_, (hb1.cell (p := ⟨w.heap.size, 0, none⟩) hsz).trans hx0, (hb1.cell (p := ⟨w.heap.size, 1, none⟩) hsz).trans hx1, Nat.lt_of_lt_of_le hsz hb1.size⟩
    · obtain rfl : i = j := by omega
      by_cases hin : i < n
      · obtain ⟨b, o, rfl, hb, hc⟩ := g2.ptr (by omega)
        obtain ⟨e, he⟩ := g2.get (k := i) (by omega)
        obtain ⟨c0, c1⟩ := hc i e he
        have he := Lib.hid he
        clear hc g2
        by_cases hxy : e.x = x ∧ e.y = y
        · have hcz : (cmpPt e.x e.y x y == 0) = true := by rw [cmpPt_zero]; exact decide_eq_true hxy
          have hP := Lib.hid (show Stop L x y i true from ⟨by omega, hlo.out, hhi.out, fun _ => by rw [he.out]; obtain ⟨rfl, rfl⟩ := hxy; rfl, fun hh => by cases hh⟩)
          clear hxy
          go_wp2
          refine wp_region_ord [(0, .q), (1, .q), (2, .q), (3, .q), (4, .q), (5, .q), (6, .q), (7, .q), (8, .q), (9, .q), (10, .q), (11, .g), (12, .q), (13, .q), (14, .q), (15, .q)] (by kernel_rfl) (by kernel_rfl) ?_
          simp only [pick, List.filterMap_cons, List.filterMap_nil, List.getElem?_toArray, List.getElem?_cons_zero, List.getElem?_cons_succ, Option.map_some]
          repeat (first
            | ((with_reducible refine wpD_p (fun K hK => ?_)); go_simp; refine hK _ ?_; clear hK K)
            | ((with_reducible refine wpD_q (fun K hK => ?_)); go_simp; (first | refine hK _ ?_ | (go_bits; refine hK _ ?_) | (go_bits; go_simp; refine hK _ ?_)); clear hK K)
            | ((with_reducible refine wpD_g (fun K hK => ?_)); go_simp; refine hK _ _ ?_; clear hK K)
            | ((with_reducible refine wpD_g (fun K hK => ?_)); go_simp; refine ⟨Grew.of_alloc _, hK _ _ ?_⟩; clear hK K)
            | ((with_reducible refine wpD_g (fun K hK => ?_)); go_simp; go_at_call 49; refine (comparePointsP_at (e := e)).mono ?_; rintro e w1 ⟨rfl, hb1⟩; refine ⟨_, rfl, hb1, hK _ _ ?_⟩; clear hK K; obtain ⟨chb1, fhb1, shb1, thb1⟩ := bcell hb1))
          with_reducible refine wpD_nil ?_
          go_wp2
          go_ret2
          exact ⟨_, _, rfl, hP.out, by exact bel_⟩
        · have hcz : (cmpPt e.x e.y x y == 0) = false := by rw [cmpPt_zero]; exact decide_eq_false hxy
          have hP := Lib.hid (show Stop L x y i false from ⟨by omega, hlo.out, hhi.out, fun hh => (by cases hh), fun _ => stop_no hS hlo.out hhi.out (fun d hd => by rw [he.out] at hd; obtain rfl := Option.some.inj hd; exact hxy)⟩)
          clear hxy
          go_wp2
          refine wp_region_ord [(0, .q), (1, .q), (2, .q), (3, .q), (4, .q), (5, .q), (6, .q), (7, .q), (8, .q), (9, .q), (10, .q), (11, .g), (12, .q), (13, .q), (14, .q), (15, .q)] (by kernel_rfl) (by kernel_rfl) ?_
          simp only [pick, List.filterMap_cons, List.filterMap_nil, List.getElem?_toArray, List.getElem?_cons_zero, List.getElem?_cons_succ, Option.map_some]
          repeat (first
            | ((with_reducible refine wpD_p (fun K hK => ?_)); go_simp; refine hK _ ?_; clear hK K)
            | ((with_reducible refine wpD_q (fun K hK => ?_)); go_simp; (first | refine hK _ ?_ | (go_bits; refine hK _ ?_) | (go_bits; go_simp; refine hK _ ?_)); clear hK K)
            | ((with_reducible refine wpD_g (fun K hK => ?_)); go_simp; refine hK _ _ ?_; clear hK K)
            | ((with_reducible refine wpD_g (fun K hK => ?_)); go_simp; refine ⟨Grew.of_alloc _, hK _ _ ?_⟩; clear hK K)
            | ((with_reducible refine wpD_g (fun K hK => ?_)); go_simp; go_at_call 49; refine (comparePointsP_at (e := e)).mono ?_; rintro e w1 ⟨rfl, hb1⟩; refine ⟨_, rfl, hb1, hK _ _ ?_⟩; clear hK K; obtain ⟨chb1, fhb1, shb1, thb1⟩ := bcell hb1))
          with_reducible refine wpD_nil ?_
          go_wp2
          go_ret2
          exact ⟨_, _, rfl, hP.out, by exact bel_⟩
      · have hP := Lib.hid (show Stop L x y i false from ⟨by omega, hlo.out, hhi.out, fun hh => (by cases hh), fun _ => stop_no hS hlo.out hhi.out (fun d hd => by have := lt_of_get hd; omega)⟩)
        clear g2
        go_wp2
        refine wp_region_ord [(0, .q), (1, .q), (2, .q), (3, .q), (4, .q), (5, .q), (6, .q), (7, .q), (8, .q), (9, .q), (10, .q), (11, .g), (12, .q), (13, .q), (14, .q), (15, .q)] (by kernel_rfl) (by kernel_rfl) ?_
        simp only [pick, List.filterMap_cons, List.filterMap_nil, List.getElem?_toArray, List.getElem?_cons_zero, List.getElem?_cons_succ, Option.map_some]
        repeat (first
          | ((with_reducible refine wpD_p (fun K hK => ?_)); go_simp; refine hK _ ?_; clear hK K)
          | ((with_reducible refine wpD_q (fun K hK => ?_)); go_simp; (first | refine hK _ ?_ | (go_bits; refine hK _ ?_) | (go_bits; go_simp; refine hK _ ?_)); clear hK K)
          | ((with_reducible refine wpD_g (fun K hK => ?_)); go_simp; refine hK _ _ ?_; clear hK K)
          | ((with_reducible refine wpD_g (fun K hK => ?_)); go_simp; refine ⟨Grew.of_alloc _, hK _ _ ?_⟩; clear hK K)
          | ((with_reducible refine wpD_g (fun K hK => ?_)); go_simp; go_at_call 49; refine (comparePoints_any _ _ _ _ _).mono ?_; rintro e w1 ⟨rfl, hb1⟩; refine ⟨_, rfl, hb1, hK _ _ ?_⟩; clear hK K; obtain ⟨chb1, fhb1, shb1, thb1⟩ := bcell hb1))
        with_reducible refine wpD_nil ?_
        go_wp2
        go_ret2
        exact ⟨_, _, rfl, hP.out, by exact bel_⟩
theorem isIn_at {A : Option Addr} {n c : Nat} {L : List Pt} {x y : Int} {w : World} (h2 : RdSl 2 RPt w A n L) (hS : SortS L) (h5 : n ≤ 100000) {r : Bool} (hr : decide ((⟨x, y⟩ : Pt) ∈ L) = r) :
    Calls Try.prog 33 #[.slice A n c, .agg #[.int .i64 x, .int .i64 y]] w fun e w' => e = .returned (.bool r) ∧ Below w.heap.size w w' := by
  
  have h2H := Lib.hid h2
  clear h2
  go_enter Try.func33, Try.ntmps33
  go_wp2_with fail
  refine (BinarySearchP_any _ _ _ L _ _ _ (h2H.out.below RPt.stable (by exact bel_)) hS h5).mono ?_
  rintro e w1 ⟨i, b, rfl, hst, hb1⟩
  have hb := Lib.hid (hst.mem.trans hr)
  clear hst hr
  go_wp2
  go_ret
  exact ⟨ret_bool hb.out, by exact bel_⟩
end Go.Proofs.Ytkppijcjmhkkkaa
/- Walks: shapes that are valid, of both. -/



namespace Go.Proofs.Ytkppijcjmhkkkaa
open Go.RowKit Go.Shelf
attribute [local go_sem] BelowBy.cell BelowBy.cell_drew stillUpon givesUpon

/-- a shape's test of place j -/
def okPt (ps : List Pt) (j : Nat) : Bool := match ps[j]? with
  | none => true
  | some e => validPt e.x e.y && (match j with
    | 0 => true
    | i + 1 => match ps[i]? with
      | none => true
      | some d => lessPt d.x d.y e.x e.y)
def shapeB (ps : List Pt) : Bool := allB ps.length (okPt ps) && decide (1 ≤ ps.length ∧ ps.length ≤ 500)
theorem okPt_eq0 {ps : List Pt} {e : Pt} (h : ps[0]? = some e) : okPt ps 0 = validPt e.x e.y := by
  unfold okPt; rw [h]; simp
theorem okPt_eqS {ps : List Pt} {k : Nat} {e d : Pt} (h : ps[k + 1]? = some e) (hd : ps[k]? = some d) : okPt ps (k + 1) = (validPt e.x e.y && lessPt d.x d.y e.x e.y) := by
  unfold okPt; rw [h]; simp only [hd]
theorem shapeB_bad {ps : List Pt} {k : Nat} (hk : k < ps.length) (h : okPt ps k = false) : shapeB ps = false := by
  unfold shapeB; rw [allB_false hk h]; rfl
theorem shapeB_ok {ps : List Pt} (h : ∀ j, j < ps.length → okPt ps j = true) : shapeB ps = decide (1 ≤ ps.length ∧ ps.length ≤ 500) := by
  unfold shapeB; rw [allB_true h]; rfl
theorem shapeB_len {ps : List Pt} (h1 : ¬ (1 ≤ ps.length ∧ ps.length ≤ 500)) : shapeB ps = false := by
  unfold shapeB; rw [decide_eq_false h1]; simp
theorem shp_of {ps : List Pt} (h : shapeB ps = true) : Shp ps ∧ 1 ≤ ps.length ∧ ps.length ≤ 500 := by
  unfold shapeB at h
  simp only [Bool.and_eq_true, decide_eq_true_eq] at h
  obtain ⟨hf, h4⟩ := h
  have hpl : ∀ (k : Nat) (e : Pt), ps[k]? = some e → validPt e.x e.y = true := fun k e he => by
    have := allB_at hf (lt_of_get he)
    unfold okPt at this
    rw [he] at this
    simp only [Bool.and_eq_true] at this
    exact this.1
  have hstep : ∀ (k : Nat) (d e : Pt), ps[k]? = some d → ps[k + 1]? = some e → lessPt d.x d.y e.x e.y = true := fun k d e hd he => by
    have := allB_at hf (lt_of_get he)
    rw [okPt_eqS he hd] at this
    simp only [Bool.and_eq_true] at this
    exact this.2
  refine ⟨⟨fun k e he => ?_, ?_⟩, h4⟩
  · have := hpl k e he
    simp only [validPt, Bool.and_eq_true, inB_true] at this
    exact this
  · intro i j d e hij hd he
    induction j generalizing e with
    | zero => omega
    | succ j ih =>
      have hj : j < ps.length := by have := lt_of_get he; omega
      obtain ⟨c, hc⟩ : ∃ c, ps[j]? = some c := ⟨_, List.getElem?_eq_getElem hj⟩
      have h2 := hstep j c e hc he
      rcases Nat.lt_or_ge i j with h | h
      · have h1 := ih c h hc
        rw [lessPt_iff] at h1 h2 ⊢
        omega
      · obtain rfl : i = j := by omega
        rw [hd] at hc
        obtain rfl := Option.some.inj hc
        exact h2
theorem Shp.sortS {ps : List Pt} (h : Shp ps) : SortS ps := by
  unfold SortS
  rw [List.pairwise_iff_getElem]
  intro i j hi hj hij
  exact h.sorted i j _ _ hij (List.getElem?_eq_getElem hi) (List.getElem?_eq_getElem hj)
set_option maxHeartbeats 2000000 in
theorem ValidShape_any (A : Option Addr) (n c : Nat) (ps : List Pt) (w : World) (h : RdSl 2 RPt w A n ps) (hn : n ≤ 1073741824) :
    Calls Try.prog 36 #[.slice A n c] w fun e w' => e = .returned (.bool (shapeB ps)) ∧ Below w.heap.size w w' := by
  
  have hla := h.len
  go_enter Try.func36, Try.ntmps36
  go_wp2
  go_loopg [7] n (fun g i wr => ∃ k : Nat, k + g = n ∧ i = .int .i64 k ∧ Hid (∀ j, j < k → okPt ps j = true) ∧ Below w.heap.size w wr)
  case atStart => exact ⟨0, by omega, rfl, Lib.hid fun j hj => by omega, Below.refl _ _⟩
  case round =>
    obtain ⟨k, hk, rfl, hok, hbw⟩ := hrel
    have h' := h.below RPt.stable hbw
    have hszw := hbw.size
    by_cases hlt : k < n
    · obtain ⟨b, o, rfl, hb, hc⟩ := h'.ptr (by omega)
      obtain ⟨e, he⟩ := h.get hlt
      obtain ⟨c0, c1⟩ := hc k e he
      have hkz : k = 0 ∨ ∃ k', k = k' + 1 := by
        cases k with
        | zero => exact Or.inl rfl
        | succ k' => exact Or.inr ⟨k', rfl⟩
      rcases hkz with rfl | ⟨i, rfl⟩
      · have HK := Lib.hid (okPt_eq0 he)
        clear he hc h'
        simp only [Nat.zero_mul, Nat.add_zero] at c0 c1
        cases hv1 : validPt e.x e.y
        · go_wp2
          refine wp_region_ord [(0, .q), (1, .g), (2, .q), (3, .q), (4, .q), (5, .q), (6, .q), (7, .q), (8, .q), (9, .q), (10, .q), (11, .q), (12, .q), (13, .g), (14, .q), (15, .q), (16, .q)] (by kernel_rfl) (by kernel_rfl) ?_
          simp only [pick, List.filterMap_cons, List.filterMap_nil, List.getElem?_toArray, List.getElem?_cons_zero, List.getElem?_cons_succ, Option.map_some]
          repeat (first
            | ((with_reducible refine wpD_p (fun K hK => ?_)); go_simp; refine hK _ ?_; clear hK K)
            | ((with_reducible refine wpD_q (fun K hK => ?_)); go_simp; (first | refine hK _ ?_ | (go_bits; refine hK _ ?_) | (go_bits; go_simp; refine hK _ ?_)); clear hK K)
            | ((with_reducible refine wpD_g (fun K hK => ?_)); go_simp; refine hK _ _ ?_; clear hK K)
            | ((with_reducible refine wpD_g (fun K hK => ?_)); go_simp; refine ⟨Grew.of_alloc _, hK _ _ ?_⟩; clear hK K)
            | ((with_reducible refine wpD_g (fun K hK => ?_)); go_simp; go_at_call 62; refine (ValidPoint_any _ _ _).mono ?_; rintro e w1 ⟨rfl, hb1⟩; refine ⟨_, rfl, hb1, hK _ _ ?_⟩; clear hK K; obtain ⟨chb1, fhb1, shb1, thb1⟩ := bcell hb1; (try have bhb10 := shb1 (wr.heap.size) (by go_simp)); (try have bhb11 := shb1 (b) (by go_simp)))
            | ((with_reducible refine wpD_g (fun K hK => ?_)); go_simp; go_at_call 63; refine (LessPoint_any _ _ _ _ _).mono ?_; rintro e w2 ⟨rfl, hb2⟩; refine ⟨_, rfl, hb2, hK _ _ ?_⟩; clear hK K; obtain ⟨chb2, fhb2, shb2, thb2⟩ := bcell hb2; (try have bhb20 := shb2 (wr.heap.size) (by go_simp)); (try have bhb21 := shb2 (b) (by go_simp))))
          with_reducible refine wpD_nil ?_
          go_wp2
          go_ret
          exact ⟨ret_bool (shapeB_bad (k := 0) (by omega) (by rw [HK.out, hv1])).symm, by exact bel_⟩
        · go_wp2
          refine wp_region_ord [(0, .q), (1, .g), (2, .q), (3, .q), (4, .q), (5, .q), (6, .q), (7, .q), (8, .q), (9, .q), (10, .q), (11, .q), (12, .q), (13, .g), (14, .q), (15, .q), (16, .q)] (by kernel_rfl) (by kernel_rfl) ?_
          simp only [pick, List.filterMap_cons, List.filterMap_nil, List.getElem?_toArray, List.getElem?_cons_zero, List.getElem?_cons_succ, Option.map_some]
          repeat (first
            | ((with_reducible refine wpD_p (fun K hK => ?_)); go_simp; refine hK _ ?_; clear hK K)
            | ((with_reducible refine wpD_q (fun K hK => ?_)); go_simp; (first | refine hK _ ?_ | (go_bits; refine hK _ ?_) | (go_bits; go_simp; refine hK _ ?_)); clear hK K)
            | ((with_reducible refine wpD_g (fun K hK => ?_)); go_simp; refine hK _ _ ?_; clear hK K)
            | ((with_reducible refine wpD_g (fun K hK => ?_)); go_simp; refine ⟨Grew.of_alloc _, hK _ _ ?_⟩; clear hK K)
            | ((with_reducible refine wpD_g (fun K hK => ?_)); go_simp; go_at_call 62; refine (ValidPoint_any _ _ _).mono ?_; rintro e w1 ⟨rfl, hb1⟩; refine ⟨_, rfl, hb1, hK _ _ ?_⟩; clear hK K; obtain ⟨chb1, fhb1, shb1, thb1⟩ := bcell hb1; (try have bhb10 := shb1 (wr.heap.size) (by go_simp)); (try have bhb11 := shb1 (b) (by go_simp)))
            | ((with_reducible refine wpD_g (fun K hK => ?_)); go_simp; go_at_call 63; refine (LessPoint_any _ _ _ _ _).mono ?_; rintro e w2 ⟨rfl, hb2⟩; refine ⟨_, rfl, hb2, hK _ _ ?_⟩; clear hK K; obtain ⟨chb2, fhb2, shb2, thb2⟩ := bcell hb2; (try have bhb20 := shb2 (wr.heap.size) (by go_simp)); (try have bhb21 := shb2 (b) (by go_simp))))
          with_reducible refine wpD_nil ?_
          go_wp2
          go_roundg (n - (0 + 1))
          case measure => omega
          case rel => exact ⟨0 + 1, by omega, by go_num, Lib.hid fun j hj => (by obtain rfl : j = 0 := by omega
                                                                                 rw [HK.out, hv1]), by exact bel_⟩
      · obtain ⟨d, hd⟩ := h.get (k := i) (by omega)
        obtain ⟨d0, d1⟩ := hc i d hd
        have HK := Lib.hid (okPt_eqS he hd)
        have hi : i < n := by omega
        have hpos : (0 : Int) < (i : Int) + 1 := by omega
        clear he hc h' hd
        cases hv1 : validPt e.x e.y
        · go_wp2
          refine wp_region_ord [(0, .q), (1, .g), (2, .q), (3, .q), (4, .q), (5, .q), (6, .q), (7, .q), (8, .q), (9, .q), (10, .q), (11, .q), (12, .q), (13, .g), (14, .q), (15, .q), (16, .q)] (by kernel_rfl) (by kernel_rfl) ?_
          simp only [pick, List.filterMap_cons, List.filterMap_nil, List.getElem?_toArray, List.getElem?_cons_zero, List.getElem?_cons_succ, Option.map_some]
          repeat (first
            | ((with_reducible refine wpD_p (fun K hK => ?_)); go_simp; refine hK _ ?_; clear hK K)
            | ((with_reducible refine wpD_q (fun K hK => ?_)); go_simp; (first | refine hK _ ?_ | (go_bits; refine hK _ ?_) | (go_bits; go_simp; refine hK _ ?_)); clear hK K)
            | ((with_reducible refine wpD_g (fun K hK => ?_)); go_simp; refine hK _ _ ?_; clear hK K)
            | ((with_reducible refine wpD_g (fun K hK => ?_)); go_simp; refine ⟨Grew.of_alloc _, hK _ _ ?_⟩; clear hK K)
            | ((with_reducible refine wpD_g (fun K hK => ?_)); go_simp; go_at_call 62; refine (ValidPoint_any _ _ _).mono ?_; rintro e w1 ⟨rfl, hb1⟩; refine ⟨_, rfl, hb1, hK _ _ ?_⟩; clear hK K; obtain ⟨chb1, fhb1, shb1, thb1⟩ := bcell hb1; (try have bhb10 := shb1 (wr.heap.size) (by go_simp)); (try have bhb11 := shb1 (b) (by go_simp)))
            | ((with_reducible refine wpD_g (fun K hK => ?_)); go_simp; go_at_call 63; refine (LessPoint_any _ _ _ _ _).mono ?_; rintro e w2 ⟨rfl, hb2⟩; refine ⟨_, rfl, hb2, hK _ _ ?_⟩; clear hK K; obtain ⟨chb2, fhb2, shb2, thb2⟩ := bcell hb2; (try have bhb20 := shb2 (wr.heap.size) (by go_simp)); (try have bhb21 := shb2 (b) (by go_simp))))
          with_reducible refine wpD_nil ?_
          go_wp2
          go_ret
          exact ⟨ret_bool (shapeB_bad (k := i + 1) (by omega) (by rw [HK.out, hv1]; rfl)).symm, by exact bel_⟩
        · cases hv3 : lessPt d.x d.y e.x e.y
          · go_wp2
            refine wp_region_ord [(0, .q), (1, .g), (2, .q), (3, .q), (4, .q), (5, .q), (6, .q), (7, .q), (8, .q), (9, .q), (10, .q), (11, .q), (12, .q), (13, .g), (14, .q), (15, .q), (16, .q)] (by kernel_rfl) (by kernel_rfl) ?_
            simp only [pick, List.filterMap_cons, List.filterMap_nil, List.getElem?_toArray, List.getElem?_cons_zero, List.getElem?_cons_succ, Option.map_some]
            repeat (first
              | ((with_reducible refine wpD_p (fun K hK => ?_)); go_simp; refine hK _ ?_; clear hK K)
              | ((with_reducible refine wpD_q (fun K hK => ?_)); go_simp; (first | refine hK _ ?_ | (go_bits; refine hK _ ?_) | (go_bits; go_simp; refine hK _ ?_)); clear hK K)
              | ((with_reducible refine wpD_g (fun K hK => ?_)); go_simp; refine hK _ _ ?_; clear hK K)
              | ((with_reducible refine wpD_g (fun K hK => ?_)); go_simp; refine ⟨Grew.of_alloc _, hK _ _ ?_⟩; clear hK K)
              | ((with_reducible refine wpD_g (fun K hK => ?_)); go_simp; go_at_call 62; refine (ValidPoint_any _ _ _).mono ?_; rintro e w1 ⟨rfl, hb1⟩; refine ⟨_, rfl, hb1, hK _ _ ?_⟩; clear hK K; obtain ⟨chb1, fhb1, shb1, thb1⟩ := bcell hb1; (try have bhb10 := shb1 (wr.heap.size) (by go_simp)); (try have bhb11 := shb1 (b) (by go_simp)))
              | ((with_reducible refine wpD_g (fun K hK => ?_)); go_simp; go_at_call 63; refine (LessPoint_any _ _ _ _ _).mono ?_; rintro e w2 ⟨rfl, hb2⟩; refine ⟨_, rfl, hb2, hK _ _ ?_⟩; clear hK K; obtain ⟨chb2, fhb2, shb2, thb2⟩ := bcell hb2; (try have bhb20 := shb2 (wr.heap.size) (by go_simp)); (try have bhb21 := shb2 (b) (by go_simp))))
            with_reducible refine wpD_nil ?_
            go_wp2
            go_ret
            exact ⟨ret_bool (shapeB_bad (k := i + 1) (by omega) (by rw [HK.out, hv1, hv3]; rfl)).symm, by exact bel_⟩
          · go_wp2
            refine wp_region_ord [(0, .q), (1, .g), (2, .q), (3, .q), (4, .q), (5, .q), (6, .q), (7, .q), (8, .q), (9, .q), (10, .q), (11, .q), (12, .q), (13, .g), (14, .q), (15, .q), (16, .q)] (by kernel_rfl) (by kernel_rfl) ?_
            simp only [pick, List.filterMap_cons, List.filterMap_nil, List.getElem?_toArray, List.getElem?_cons_zero, List.getElem?_cons_succ, Option.map_some]
            repeat (first
              | ((with_reducible refine wpD_p (fun K hK => ?_)); go_simp; refine hK _ ?_; clear hK K)
              | ((with_reducible refine wpD_q (fun K hK => ?_)); go_simp; (first | refine hK _ ?_ | (go_bits; refine hK _ ?_) | (go_bits; go_simp; refine hK _ ?_)); clear hK K)
              | ((with_reducible refine wpD_g (fun K hK => ?_)); go_simp; refine hK _ _ ?_; clear hK K)
              | ((with_reducible refine wpD_g (fun K hK => ?_)); go_simp; refine ⟨Grew.of_alloc _, hK _ _ ?_⟩; clear hK K)
              | ((with_reducible refine wpD_g (fun K hK => ?_)); go_simp; go_at_call 62; refine (ValidPoint_any _ _ _).mono ?_; rintro e w1 ⟨rfl, hb1⟩; refine ⟨_, rfl, hb1, hK _ _ ?_⟩; clear hK K; obtain ⟨chb1, fhb1, shb1, thb1⟩ := bcell hb1; (try have bhb10 := shb1 (wr.heap.size) (by go_simp)); (try have bhb11 := shb1 (b) (by go_simp)))
              | ((with_reducible refine wpD_g (fun K hK => ?_)); go_simp; go_at_call 63; refine (LessPoint_any _ _ _ _ _).mono ?_; rintro e w2 ⟨rfl, hb2⟩; refine ⟨_, rfl, hb2, hK _ _ ?_⟩; clear hK K; obtain ⟨chb2, fhb2, shb2, thb2⟩ := bcell hb2; (try have bhb20 := shb2 (wr.heap.size) (by go_simp)); (try have bhb21 := shb2 (b) (by go_simp))))
            with_reducible refine wpD_nil ?_
            go_wp2
            go_roundg (n - ((i + 1) + 1))
            case measure => omega
            case rel => exact ⟨(i + 1) + 1, by omega, by go_num, Lib.hid fun j hj => (by
              rcases Nat.lt_succ_iff_lt_or_eq.1 hj with hj | rfl
              · exact hok.out j hj
              · rw [HK.out, hv1, hv3]; rfl), by exact bel_⟩
    · obtain rfl : k = n := by omega
      have hd := Lib.hid (shapeB_ok (ps := ps) (by rw [hla]; exact hok.out))
      go_wp2_with (go_at_call 23; refine (within_any _ _ _ _).mono ?_; rintro e _ ⟨rfl, rfl⟩)
      go_ret
      refine ⟨ret_bool ?_, by exact bel_⟩
      rw [hd.out, hla, Bool.eq_iff_iff, inB_true, decide_eq_true_eq]
      omega
set_option maxHeartbeats 4000000 in
theorem l04Ok_any (A : Option Addr) (n c : Nat) (ps : List Pt) (w : World) (h : RdSl 2 RPt w A n ps) (hn : n ≤ 1073741824) :
    Calls Try.prog 26 #[.slice A n c] w fun e w' => e = .returned (.bool (shapeB ps)) ∧ Below w.heap.size w w' := by
  
  have hla := h.len
  by_cases hz0 : n < 1
  · go_enter Try.func26, Try.ntmps26
    go_wp2
    go_ret
    exact ⟨ret_bool (shapeB_len (by omega)).symm, by exact bel_⟩
  by_cases hz1 : 500 < n
  · go_enter Try.func26, Try.ntmps26
    go_wp2
    go_ret
    exact ⟨ret_bool (shapeB_len (by omega)).symm, by exact bel_⟩
  go_enter Try.func26, Try.ntmps26
  go_wp2
  go_loopg [3] n (fun r x wr => ∃ k : Nat, k + r = n ∧ x = .int .i64 k ∧ Hid (∀ j, j < k → okPt ps j = true) ∧ Below w.heap.size w wr)
  case atStart => exact ⟨0, by omega, rfl, Lib.hid fun j hj => by omega, by exact bel_⟩
  case round =>
    obtain ⟨k, hk, rfl, hok, hbw⟩ := hrel
    have h' := h.below RPt.stable hbw
    have hszw := hbw.size
    by_cases hlt : k < n
    · obtain ⟨b, o, rfl, hb, hc⟩ := h'.ptr (by omega)
      obtain ⟨e, he⟩ := h.get hlt
      obtain ⟨c0, c1⟩ := hc k e he
      have hkz : k = 0 ∨ ∃ k', k = k' + 1 := by
        cases k with
        | zero => exact Or.inl rfl
        | succ k' => exact Or.inr ⟨k', rfl⟩
      rcases hkz with rfl | ⟨i, rfl⟩
      · have HK := Lib.hid (okPt_eq0 he)
        clear he hc h'
        simp only [Nat.zero_mul, Nat.add_zero] at c0 c1
        cases hv1 : validPt e.x e.y
        · go_wp2
          refine wp_region_ord [(0, .q), (1, .q), (2, .q), (3, .q), (4, .g), (5, .q), (6, .q), (7, .q), (8, .q), (9, .q), (10, .q), (11, .q), (12, .q), (13, .q), (14, .q), (15, .q), (16, .q), (17, .q), (18, .q), (19, .g), (20, .q), (21, .q), (22, .q)] (by kernel_rfl) (by kernel_rfl) ?_
          simp only [pick, List.filterMap_cons, List.filterMap_nil, List.getElem?_toArray, List.getElem?_cons_zero, List.getElem?_cons_succ, Option.map_some]
          repeat (first
            | ((with_reducible refine wpD_p (fun K hK => ?_)); go_simp; refine hK _ ?_; clear hK K)
            | ((with_reducible refine wpD_q (fun K hK => ?_)); go_simp; (first | refine hK _ ?_ | (go_bits; refine hK _ ?_) | (go_bits; go_simp; refine hK _ ?_)); clear hK K)
            | ((with_reducible refine wpD_g (fun K hK => ?_)); go_simp; refine hK _ _ ?_; clear hK K)
            | ((with_reducible refine wpD_g (fun K hK => ?_)); go_simp; refine ⟨Grew.of_alloc _, hK _ _ ?_⟩; clear hK K)
            | ((with_reducible refine wpD_g (fun K hK => ?_)); go_simp; go_at_call 45; refine (l01Point_any _ _ _).mono ?_; rintro e w1 ⟨rfl, hb1⟩; refine ⟨_, rfl, hb1, hK _ _ ?_⟩; clear hK K; obtain ⟨chb1, fhb1, shb1, thb1⟩ := bcell hb1; (try have bhb10 := shb1 (b) (by go_simp)))
            | ((with_reducible refine wpD_g (fun K hK => ?_)); go_simp; go_at_call 46; refine (sLessPoint_any _ _ _ _ _).mono ?_; rintro e w2 ⟨rfl, hb2⟩; refine ⟨_, rfl, hb2, hK _ _ ?_⟩; clear hK K; obtain ⟨chb2, fhb2, shb2, thb2⟩ := bcell hb2; (try have bhb20 := shb2 (b) (by go_simp))))
          with_reducible refine wpD_nil ?_
          go_wp2
          go_ret
          exact ⟨ret_bool (shapeB_bad (k := 0) (by omega) (by rw [HK.out, hv1])).symm, by exact bel_⟩
        · go_wp2
          refine wp_region_ord [(0, .q), (1, .q), (2, .q), (3, .q), (4, .g), (5, .q), (6, .q), (7, .q), (8, .q), (9, .q), (10, .q), (11, .q), (12, .q), (13, .q), (14, .q), (15, .q), (16, .q), (17, .q), (18, .q), (19, .g), (20, .q), (21, .q), (22, .q)] (by kernel_rfl) (by kernel_rfl) ?_
          simp only [pick, List.filterMap_cons, List.filterMap_nil, List.getElem?_toArray, List.getElem?_cons_zero, List.getElem?_cons_succ, Option.map_some]
          repeat (first
            | ((with_reducible refine wpD_p (fun K hK => ?_)); go_simp; refine hK _ ?_; clear hK K)
            | ((with_reducible refine wpD_q (fun K hK => ?_)); go_simp; (first | refine hK _ ?_ | (go_bits; refine hK _ ?_) | (go_bits; go_simp; refine hK _ ?_)); clear hK K)
            | ((with_reducible refine wpD_g (fun K hK => ?_)); go_simp; refine hK _ _ ?_; clear hK K)
            | ((with_reducible refine wpD_g (fun K hK => ?_)); go_simp; refine ⟨Grew.of_alloc _, hK _ _ ?_⟩; clear hK K)
            | ((with_reducible refine wpD_g (fun K hK => ?_)); go_simp; go_at_call 45; refine (l01Point_any _ _ _).mono ?_; rintro e w1 ⟨rfl, hb1⟩; refine ⟨_, rfl, hb1, hK _ _ ?_⟩; clear hK K; obtain ⟨chb1, fhb1, shb1, thb1⟩ := bcell hb1; (try have bhb10 := shb1 (b) (by go_simp)))
            | ((with_reducible refine wpD_g (fun K hK => ?_)); go_simp; go_at_call 46; refine (sLessPoint_any _ _ _ _ _).mono ?_; rintro e w2 ⟨rfl, hb2⟩; refine ⟨_, rfl, hb2, hK _ _ ?_⟩; clear hK K; obtain ⟨chb2, fhb2, shb2, thb2⟩ := bcell hb2; (try have bhb20 := shb2 (b) (by go_simp))))
          with_reducible refine wpD_nil ?_
          go_wp2
          go_roundg (n - (0 + 1))
          case measure => omega
          case rel => exact ⟨0 + 1, by omega, by go_num, Lib.hid fun j hj => (by obtain rfl : j = 0 := by omega
                                                                                 rw [HK.out, hv1]), by exact bel_⟩
      · obtain ⟨d, hd⟩ := h.get (k := i) (by omega)
        obtain ⟨d0, d1⟩ := hc i d hd
        have HK := Lib.hid (okPt_eqS he hd)
        have hi : i < n := by omega
        have hpos : (0 : Int) < (i : Int) + 1 := by omega
        have hltI : ((i : Int) + 1) < (n : Int) := by omega
        have h0I : 0 ≤ ((i : Int) + 1) := by omega
        clear he hc h' hd
        cases hv1 : validPt e.x e.y
        · go_wp2
          refine wp_region_ord [(0, .q), (1, .q), (2, .q), (3, .q), (4, .g), (5, .q), (6, .q), (7, .q), (8, .q), (9, .q), (10, .q), (11, .q), (12, .q), (13, .q), (14, .q), (15, .q), (16, .q), (17, .q), (18, .q), (19, .g), (20, .q), (21, .q), (22, .q)] (by kernel_rfl) (by kernel_rfl) ?_
          simp only [pick, List.filterMap_cons, List.filterMap_nil, List.getElem?_toArray, List.getElem?_cons_zero, List.getElem?_cons_succ, Option.map_some]
          repeat (first
            | ((with_reducible refine wpD_p (fun K hK => ?_)); go_simp; refine hK _ ?_; clear hK K)
            | ((with_reducible refine wpD_q (fun K hK => ?_)); go_simp; (first | refine hK _ ?_ | (go_bits; refine hK _ ?_) | (go_bits; go_simp; refine hK _ ?_)); clear hK K)
            | ((with_reducible refine wpD_g (fun K hK => ?_)); go_simp; refine hK _ _ ?_; clear hK K)
            | ((with_reducible refine wpD_g (fun K hK => ?_)); go_simp; refine ⟨Grew.of_alloc _, hK _ _ ?_⟩; clear hK K)
            | ((with_reducible refine wpD_g (fun K hK => ?_)); go_simp; go_at_call 45; refine (l01Point_any _ _ _).mono ?_; rintro e w1 ⟨rfl, hb1⟩; refine ⟨_, rfl, hb1, hK _ _ ?_⟩; clear hK K; obtain ⟨chb1, fhb1, shb1, thb1⟩ := bcell hb1; (try have bhb10 := shb1 (b) (by go_simp)))
            | ((with_reducible refine wpD_g (fun K hK => ?_)); go_simp; go_at_call 46; refine (sLessPoint_any _ _ _ _ _).mono ?_; rintro e w2 ⟨rfl, hb2⟩; refine ⟨_, rfl, hb2, hK _ _ ?_⟩; clear hK K; obtain ⟨chb2, fhb2, shb2, thb2⟩ := bcell hb2; (try have bhb20 := shb2 (b) (by go_simp))))
          with_reducible refine wpD_nil ?_
          go_wp2
          go_ret
          exact ⟨ret_bool (shapeB_bad (k := i + 1) (by omega) (by rw [HK.out, hv1]; rfl)).symm, by exact bel_⟩
        · cases hv3 : lessPt d.x d.y e.x e.y
          · go_wp2
            refine wp_region_ord [(0, .q), (1, .q), (2, .q), (3, .q), (4, .g), (5, .q), (6, .q), (7, .q), (8, .q), (9, .q), (10, .q), (11, .q), (12, .q), (13, .q), (14, .q), (15, .q), (16, .q), (17, .q), (18, .q), (19, .g), (20, .q), (21, .q), (22, .q)] (by kernel_rfl) (by kernel_rfl) ?_
            simp only [pick, List.filterMap_cons, List.filterMap_nil, List.getElem?_toArray, List.getElem?_cons_zero, List.getElem?_cons_succ, Option.map_some]
            repeat (first
              | ((with_reducible refine wpD_p (fun K hK => ?_)); go_simp; refine hK _ ?_; clear hK K)
              | ((with_reducible refine wpD_q (fun K hK => ?_)); go_simp; (first | refine hK _ ?_ | (go_bits; refine hK _ ?_) | (go_bits; go_simp; refine hK _ ?_)); clear hK K)
              | ((with_reducible refine wpD_g (fun K hK => ?_)); go_simp; refine hK _ _ ?_; clear hK K)
              | ((with_reducible refine wpD_g (fun K hK => ?_)); go_simp; refine ⟨Grew.of_alloc _, hK _ _ ?_⟩; clear hK K)
              | ((with_reducible refine wpD_g (fun K hK => ?_)); go_simp; go_at_call 45; refine (l01Point_any _ _ _).mono ?_; rintro e w1 ⟨rfl, hb1⟩; refine ⟨_, rfl, hb1, hK _ _ ?_⟩; clear hK K; obtain ⟨chb1, fhb1, shb1, thb1⟩ := bcell hb1; (try have bhb10 := shb1 (b) (by go_simp)); have q0 := (hb1.cell (p := ⟨b, o + i * 2, none⟩) hb).trans d0; have q1 := (hb1.cell (p := ⟨b, o + i * 2 + 1, none⟩) hb).trans d1; have q2 := (hb1.cell (p := ⟨b, o + (i + 1) * 2, none⟩) hb).trans c0; have q3 := (hb1.cell (p := ⟨b, o + (i + 1) * 2 + 1, none⟩) hb).trans c1)
              | ((with_reducible refine wpD_g (fun K hK => ?_)); go_simp; go_at_call 46; refine (sLessPoint_any _ _ _ _ _).mono ?_; rintro e w2 ⟨rfl, hb2⟩; refine ⟨_, rfl, hb2, hK _ _ ?_⟩; clear hK K; obtain ⟨chb2, fhb2, shb2, thb2⟩ := bcell hb2; (try have bhb20 := shb2 (b) (by go_simp))))
            with_reducible refine wpD_nil ?_
            go_wp2
            go_ret
            exact ⟨ret_bool (shapeB_bad (k := i + 1) (by omega) (by rw [HK.out, hv1, hv3]; rfl)).symm, by exact bel_⟩
          · go_wp2
            refine wp_region_ord [(0, .q), (1, .q), (2, .q), (3, .q), (4, .g), (5, .q), (6, .q), (7, .q), (8, .q), (9, .q), (10, .q), (11, .q), (12, .q), (13, .q), (14, .q), (15, .q), (16, .q), (17, .q), (18, .q), (19, .g), (20, .q), (21, .q), (22, .q)] (by kernel_rfl) (by kernel_rfl) ?_
            simp only [pick, List.filterMap_cons, List.filterMap_nil, List.getElem?_toArray, List.getElem?_cons_zero, List.getElem?_cons_succ, Option.map_some]
            repeat (first
              | ((with_reducible refine wpD_p (fun K hK => ?_)); go_simp; refine hK _ ?_; clear hK K)
              | ((with_reducible refine wpD_q (fun K hK => ?_)); go_simp; (first | refine hK _ ?_ | (go_bits; refine hK _ ?_) | (go_bits; go_simp; refine hK _ ?_)); clear hK K)
              | ((with_reducible refine wpD_g (fun K hK => ?_)); go_simp; refine hK _ _ ?_; clear hK K)
              | ((with_reducible refine wpD_g (fun K hK => ?_)); go_simp; refine ⟨Grew.of_alloc _, hK _ _ ?_⟩; clear hK K)
              | ((with_reducible refine wpD_g (fun K hK => ?_)); go_simp; go_at_call 45; refine (l01Point_any _ _ _).mono ?_; rintro e w1 ⟨rfl, hb1⟩; refine ⟨_, rfl, hb1, hK _ _ ?_⟩; clear hK K; obtain ⟨chb1, fhb1, shb1, thb1⟩ := bcell hb1; (try have bhb10 := shb1 (b) (by go_simp)); have q0 := (hb1.cell (p := ⟨b, o + i * 2, none⟩) hb).trans d0; have q1 := (hb1.cell (p := ⟨b, o + i * 2 + 1, none⟩) hb).trans d1; have q2 := (hb1.cell (p := ⟨b, o + (i + 1) * 2, none⟩) hb).trans c0; have q3 := (hb1.cell (p := ⟨b, o + (i + 1) * 2 + 1, none⟩) hb).trans c1)
              | ((with_reducible refine wpD_g (fun K hK => ?_)); go_simp; go_at_call 46; refine (sLessPoint_any _ _ _ _ _).mono ?_; rintro e w2 ⟨rfl, hb2⟩; refine ⟨_, rfl, hb2, hK _ _ ?_⟩; clear hK K; obtain ⟨chb2, fhb2, shb2, thb2⟩ := bcell hb2; (try have bhb20 := shb2 (b) (by go_simp))))
            with_reducible refine wpD_nil ?_
            go_wp2
            go_roundg (n - ((i + 1) + 1))
            case measure => omega
            case rel => exact ⟨(i + 1) + 1, by omega, by go_num, Lib.hid fun j hj => (by
              rcases Nat.lt_succ_iff_lt_or_eq.1 hj with hj | rfl
              · exact hok.out j hj
              · rw [HK.out, hv1, hv3]; rfl), by exact bel_⟩
    · obtain rfl : k = n := by omega
      have hd := Lib.hid (shapeB_ok (ps := ps) (by rw [hla]; exact hok.out))
      go_wp2
      go_ret
      refine ⟨ret_bool ?_, by exact bel_⟩
      rw [hd.out, hla]
      exact (decide_eq_true (by omega)).symm
/-- one connected part -/
def oneB (ps : List Pt) : Bool := decide ((allP (nbP ps) ps.length ps.length).2.length = 1)
theorem oneGroup_any (A : Option Addr) (n c : Nat) (ps : List Pt) (w : World) (h : RdSl 2 RPt w A n ps) (hS : Shp ps) (hn : n ≤ 100000) :
    Calls Try.prog 37 #[.slice A n c] w fun e w' => e = .returned (.bool (oneB ps)) ∧ Below w.heap.size w w' := by
  
  have hla := Lib.hid h.len
  go_enter Try.func37, Try.ntmps37
  go_wp2_with fail
  refine (connected_any A n c ps _ h hS hn).mono ?_
  rintro e w1 ⟨v, us, rfl, hO, hb1⟩
  have hul := hO.len
  rw [show (partsV ps (allP (nbP ps) n n).2).length = (allP (nbP ps) n n).2.length by simp [partsV]] at hul
  obtain ⟨A1, c1, rfl⟩ := hO.form hul
  obtain ⟨m, hm⟩ : ∃ m, (allP (nbP ps) n n).2.length = m := ⟨_, rfl⟩
  have hml : m ≤ n := by rw [← hm]; exact allP_count _ _ _
  rw [hm]
  have hd : oneB ps = decide (m = 1) := by unfold oneB; rw [hla.out, hm]
  have hdH := Lib.hid hd
  clear hO hul hm hd
  go_wp2
  go_ret
  refine ⟨ret_bool ?_, by exact bel_⟩
  rw [hdH.out, Bool.eq_iff_iff]
  simp
  try omega
theorem IsConnected_any (A : Option Addr) (n c : Nat) (ps : List Pt) (w : World) (h : RdSl 2 RPt w A n ps) (hn : n ≤ 1073741824) :
    Calls Try.prog 14 #[.slice A n c] w fun e w' => e = .returned (.bool (shapeB ps && oneB ps)) ∧ Below w.heap.size w w' := by
  
  have hH := Lib.hid h
  have hl := h.len
  clear h
  cases hs : shapeB ps
  · have hsH := Lib.hid hs
    clear hs
    go_enter Try.func14, Try.ntmps14
    go_wp2_with (first
      | (go_at_call 36; refine (ValidShape_any A n c ps _ hH.out hn).mono ?_; rw [hsH.out]; rintro e w1 ⟨rfl, hb1⟩; obtain ⟨c1, f1, s1, t1⟩ := bcell hb1))
    go_ret
    exact ⟨rfl, by exact bel_⟩
  · obtain ⟨hS, h1, h5⟩ := shp_of hs
    have hsH := Lib.hid hs
    clear hs
    go_enter Try.func14, Try.ntmps14
    go_wp2_with (first
      | (go_at_call 36; refine (ValidShape_any A n c ps _ hH.out hn).mono ?_; rw [hsH.out]; rintro e w1 ⟨rfl, hb1⟩; obtain ⟨c1, f1, s1, t1⟩ := bcell hb1)
      | (go_at_call 37; refine (oneGroup_any A n c ps _ (hH.out.below RPt.stable (by exact bel_)) hS (by omega)).mono ?_; rintro e w2 ⟨rfl, hb2⟩; obtain ⟨chb2, fhb2, shb2, thb2⟩ := bcell hb2))
    go_ret
    exact ⟨rfl, by exact bel_⟩
end Go.Proofs.Ytkppijcjmhkkkaa
