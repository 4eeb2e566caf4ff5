import Derived.Test.YtglcpphfmmnmkaaGreatPts
import Derived.Test.YtglcpphfmmnmkaaGreatKH
import Derived.Test.YtglcpphfmmnmkaaGreatW20a
import Derived.Test.YtglcpphfmmnmkaaGreatKS
import Derived.Test.YtglcpphfmmnmkaaGreatKT
import Derived.Test.YtglcpphfmmnmkaaGreatN1
import Derived.Test.YtglcpphfmmnmkaaGreatW12
import Derived.OneCell
import Derived.Test.YtglcpphfmmnmkaaGreatOrdR
import Derived.Laws.AppendOwnNone
set_option linter.unusedSimpArgs false
set_option linter.unusedVariables false
/- Plain facts: rows of points in order; a point put to its place keeps the order; such rows are told by their members. -/

namespace Go.Proofs.YtglcpphfmmnmkaaGreat
open Go.RowKit
def ltP (a b : Pt) : Prop := lessPt a.x a.y b.x b.y = true
theorem ltP_iff (a b : Pt) : ltP a b ↔ a.y < b.y ∨ (a.y = b.y ∧ a.x < b.x) := lessPt_iff _ _ _ _
theorem ltP_irrefl (a : Pt) : ¬ ltP a a := by rw [ltP_iff]; omega
theorem ltP_trans {a b c : Pt} (h : ltP a b) (k : ltP b c) : ltP a c := by rw [ltP_iff] at *; omega
theorem ltP_asymm {a b : Pt} (h : ltP a b) (k : ltP b a) : False := ltP_irrefl _ (ltP_trans h k)
theorem ltP_tri (a b : Pt) (h : ¬ ltP a b) (k : ¬ ltP b a) : a = b := by
  rw [ltP_iff] at h k
  have hx : a.x = b.x := by omega
  have hy : a.y = b.y := by omega
  cases a; cases b; simp_all
/-- in order, each once -/
def SortS (L : List Pt) : Prop := L.Pairwise ltP
theorem pw_ext {α : Type} {lt : α → α → Prop} (irr : ∀ a, ¬ lt a a) (tr : ∀ a b c, lt a b → lt b c → lt a c) : ∀ {L M : List α}, L.Pairwise lt → M.Pairwise lt → (∀ p, p ∈ L ↔ p ∈ M) → L = M
  | [], [], _, _, _ => rfl
  | [], b :: m, _, _, h => by have := (h b).2 (by simp); simp at this
  | a :: l, [], _, _, h => by have := (h a).1 (by simp); simp at this
  | a :: l, b :: m, hL, hM, h => by
    obtain ⟨h1, h2⟩ := List.pairwise_cons.1 hL
    obtain ⟨k1, k2⟩ := List.pairwise_cons.1 hM
    have hab : a = b := by
      rcases List.mem_cons.1 ((h a).1 (by simp)) with e | e
      · exact e
      · rcases List.mem_cons.1 ((h b).2 (by simp)) with e' | e'
        · exact e'.symm
        · exact (irr _ (tr _ _ _ (h1 b e') (k1 a e))).elim
    subst hab
    rw [pw_ext irr tr h2 k2 (fun p => by
      constructor
      · intro hp
        rcases List.mem_cons.1 ((h p).1 (by simp [hp])) with e | e
        · subst e; exact (irr _ (h1 _ hp)).elim
        · exact e
      · intro hp
        rcases List.mem_cons.1 ((h p).2 (by simp [hp])) with e | e
        · subst e; exact (irr _ (k1 _ hp)).elim
        · exact e)]
theorem SortS.ext {L M : List Pt} (hL : SortS L) (hM : SortS M) (h : ∀ p, p ∈ L ↔ p ∈ M) : L = M := pw_ext ltP_irrefl (fun _ _ _ h k => ltP_trans h k) hL hM h
theorem SortS.get {L : List Pt} (h : SortS L) {i j : Nat} {a b : Pt} (hij : i < j) (ha : L[i]? = some a) (hb : L[j]? = some b) : ltP a b := by
  obtain ⟨hi, rfl⟩ := List.getElem?_eq_some_iff.1 ha
  obtain ⟨hj, rfl⟩ := List.getElem?_eq_some_iff.1 hb
  exact List.pairwise_iff_getElem.1 h i j hi hj hij
theorem putAt_before {L : List Pt} (h : SortS L) {x y : Int} : ∀ a, a ≤ L.length → ∀ j e, j < putAt L x y a → L[j]? = some e → ltP e ⟨x, y⟩
  | 0, _, j, e, hj, _ => by simp [putAt] at hj
  | a + 1, ha, j, e, hj, he => by
    obtain ⟨d, hd⟩ : ∃ d, L[a]? = some d := ⟨_, List.getElem?_eq_getElem (by omega)⟩
    cases hl : lessPt d.x d.y x y
    · rw [putAt_go hd hl] at hj
      exact putAt_before h a (by omega) j e hj he
    · rw [putAt_stop hd hl] at hj
      rcases Nat.lt_succ_iff_lt_or_eq.1 hj with hj | rfl
      · exact ltP_trans (h.get hj he hd) hl
      · rw [hd] at he; obtain rfl := Option.some.inj he; exact hl
theorem putAt_after {L : List Pt} {x y : Int} : ∀ a, a ≤ L.length → ∀ j e, putAt L x y a ≤ j → j < a → L[j]? = some e → ¬ ltP e ⟨x, y⟩
  | 0, _, j, e, _, hj, _ => by omega
  | a + 1, ha, j, e, h1, h2, he => by
    obtain ⟨d, hd⟩ : ∃ d, L[a]? = some d := ⟨_, List.getElem?_eq_getElem (by omega)⟩
    cases hl : lessPt d.x d.y x y
    · rw [putAt_go hd hl] at h1
      rcases Nat.lt_succ_iff_lt_or_eq.1 h2 with h2 | rfl
      · exact putAt_after a (by omega) j e h1 h2 he
      · rw [hd] at he; obtain rfl := Option.some.inj he
        unfold ltP; rw [hl]; decide
    · rw [putAt_stop hd hl] at h1; omega
theorem putP_sorted {L : List Pt} (h : SortS L) (x y : Int) : SortS (putP L x y) := by
  unfold putP
  simp only []
  split
  · exact h
  · rename_i hne
    have hle := putAt_le L x y L.length
    have hb := putAt_before h (x := x) (y := y) L.length (Nat.le_refl _)
    have ha := putAt_after (L := L) (x := x) (y := y) L.length (Nat.le_refl _)
    obtain ⟨a, hae⟩ : ∃ a, putAt L x y L.length = a := ⟨_, rfl⟩
    rw [hae] at hle hb ha hne ⊢
    have hgt : ∀ j e, a ≤ j → L[j]? = some e → ltP ⟨x, y⟩ e := fun j e hj he => by
      have hjl := lt_of_get he
      have h1 := ha j e hj hjl he
      apply Classical.byContradiction
      intro h2
      have hE := ltP_tri _ _ h1 h2
      subst hE
      rcases Nat.lt_or_ge a j with h3 | h3
      · obtain ⟨d, hd⟩ : ∃ d, L[a]? = some d := ⟨_, List.getElem?_eq_getElem (by omega)⟩
        exact ha a d (Nat.le_refl _) (by omega) hd (h.get h3 hd he)
      · obtain rfl : j = a := by omega
        exact hne he
    show (L.take a ++ ⟨x, y⟩ :: L.drop a).Pairwise ltP
    rw [List.pairwise_append]
    refine ⟨List.Pairwise.sublist (List.take_sublist _ _) h, List.pairwise_cons.2 ⟨fun e he => ?_, List.Pairwise.sublist (List.drop_sublist _ _) h⟩, fun d hd e he => ?_⟩
    · obtain ⟨i, hi, rfl⟩ := List.mem_iff_getElem.1 he
      rw [List.length_drop] at hi
      exact hgt (a + i) _ (by omega) (by rw [List.getElem_drop]; exact List.getElem?_eq_getElem (by omega))
    · obtain ⟨i, hi, rfl⟩ := List.mem_iff_getElem.1 hd
      rw [List.length_take] at hi
      have h1 : ltP (L.take a)[i] ⟨x, y⟩ := hb i _ (by omega) (by rw [List.getElem_take]; exact List.getElem?_eq_getElem (by omega))
      rcases List.mem_cons.1 he with rfl | he
      · exact h1
      · obtain ⟨k, hk, rfl⟩ := List.mem_iff_getElem.1 he
        rw [List.length_drop] at hk
        exact ltP_trans h1 (hgt (a + k) _ (by omega) (by rw [List.getElem_drop]; exact List.getElem?_eq_getElem (by omega)))
/-- points put to a list, one after the other -/
def putAll (L : List Pt) : List Pt → List Pt
  | [] => L
  | p :: ps => putAll (putP L p.x p.y) ps
theorem putAll_mem {q : Pt} : ∀ (ps : List Pt) (L : List Pt), q ∈ putAll L ps ↔ q ∈ L ∨ q ∈ ps
  | [], L => by simp [putAll]
  | p :: ps, L => by
    simp only [putAll]
    rw [putAll_mem ps, putP_mem, List.mem_cons]
    constructor
    · rintro ((h | h) | h)
      · exact Or.inl h
      · exact Or.inr (Or.inl h)
      · exact Or.inr (Or.inr h)
    · rintro (h | h | h)
      · exact Or.inl (Or.inl h)
      · exact Or.inl (Or.inr h)
      · exact Or.inr h
theorem putAll_sorted : ∀ (ps : List Pt) (L : List Pt), SortS L → SortS (putAll L ps)
  | [], L, h => h
  | p :: ps, L, h => putAll_sorted ps _ (putP_sorted h p.x p.y)
theorem putAll_snoc : ∀ (ps : List Pt) (L : List Pt) (p : Pt), putAll L (ps ++ [p]) = putP (putAll L ps) p.x p.y
  | [], L, p => rfl
  | q :: ps, L, p => by simp only [List.cons_append, putAll]; exact putAll_snoc ps _ p
theorem putP_id {L : List Pt} (h : SortS L) {p : Pt} (hp : p ∈ L) : putP L p.x p.y = L :=
  SortS.ext (putP_sorted h _ _) h fun q => by
    rw [putP_mem]
    constructor
    · rintro (h1 | rfl)
      · exact h1
      · exact hp
    · exact Or.inl
/-- what is left of a row where of equals that follow one another one stays -/
def compactP : List Pt → List Pt
  | [] => []
  | [a] => [a]
  | a :: b :: l => if a = b then compactP (b :: l) else a :: compactP (b :: l)
theorem compactP_mem {p : Pt} : ∀ L : List Pt, p ∈ compactP L ↔ p ∈ L
  | [] => by simp [compactP]
  | [a] => by simp [compactP]
  | a :: b :: l => by
    simp only [compactP]
    split
    · rename_i h; subst h; rw [compactP_mem (a :: l)]; simp
    · rw [List.mem_cons, compactP_mem (b :: l), List.mem_cons (l := b :: l)]
theorem compactP_sorted : ∀ L : List Pt, L.Pairwise (fun a b => ¬ ltP b a) → SortS (compactP L)
  | [], _ => List.Pairwise.nil
  | [a], _ => List.pairwise_singleton _ _
  | a :: b :: l, h => by
    obtain ⟨h1, h2⟩ := List.pairwise_cons.1 h
    simp only [compactP]
    split
    · exact compactP_sorted _ h2
    · rename_i hne
      refine List.pairwise_cons.2 ⟨fun e he => ?_, compactP_sorted _ h2⟩
      rw [compactP_mem] at he
      have hab : ltP a b := by
        apply Classical.byContradiction
        intro hc
        exact hne (ltP_tri _ _ hc (h1 b (by simp)))
      rcases List.mem_cons.1 he with rfl | he
      · exact hab
      · have hbe := (List.pairwise_cons.1 h2).1 e he
        apply Classical.byContradiction
        intro hc
        have := ltP_tri _ _ hc (h1 e (by simp [he]))
        subst this
        exact hbe hab
/-- sorted and made single -/
theorem compact_put {L M : List Pt} (hm : ∀ p, p ∈ M ↔ p ∈ L) (hs : M.Pairwise (fun a b => ¬ ltP b a)) : compactP M = putAll [] L :=
  SortS.ext (compactP_sorted M hs) (putAll_sorted L [] List.Pairwise.nil) fun p => by rw [compactP_mem, hm, putAll_mem]; simp
end Go.Proofs.YtglcpphfmmnmkaaGreat
/- Walks: the tiles at some points struck out of a row of placed tiles. -/




namespace Go.Proofs.YtglcpphfmmnmkaaGreat
open Go.RowKit Go.Shelf
attribute [local go_sem] BelowBy.cell BelowBy.cell_drew stillUpon givesUpon BelowBy.cell_drew2 BelowBy.cell_drew3

def IdxResP (w : World) (b : Bool) (e : Ending) (w' : World) : Prop := ∃ r : Int, e = .returned (.int .i64 r) ∧ decide (0 ≤ r) = b ∧ Below w.heap.size w w'
set_option maxHeartbeats 1000000 in
theorem IndexP_any (A : Option Addr) (n c : Nat) (ps : List Pt) (x y : Int) (w : World) (h : RdSl 2 RPt w A n ps) (hn : n ≤ 1073741824) :
    Calls Tryz.prog 135 #[.slice A n c, .agg #[.int .i64 x, .int .i64 y]] w (IdxResP w (decide ((⟨x, y⟩ : Pt) ∈ ps))) := by
  have hl := h.len
  go_enter Tryz.func135, Tryz.ntmps135
  go_wp2
  go_loopg [8] n (fun r i wr => ∃ k : Nat, k + r = n ∧ i = .int .i64 (k : Int) ∧ Hid (∀ (j : Nat) (e : Pt), j < k → ps[j]? = some e → e ≠ ⟨x, y⟩) ∧ Below w.heap.size w wr ∧ wr.cell? ⟨w.heap.size, 0, none⟩ = some (.int .i64 x) ∧ wr.cell? ⟨w.heap.size, 1, none⟩ = some (.int .i64 y) ∧ w.heap.size < wr.heap.size)
  case atStart => exact ⟨0, by omega, rfl, Lib.hid (fun j e hj => by omega), by repeat (first | with_reducible (first | exact bl_refl _ | assumption | refine bl_al ?_ _ | refine bl_dr ?_ | refine bl_tr ?_ (by assumption) | refine bl_set ?_ ?_ _ | exact Nat.le_refl _) | omega | (simp only [World.size_alloc, World.size_setCell, World.size_drew] at *; omega) | (dsimp only; omega) | (simp; done) | (simp; omega)), by go_simp, by go_simp, by simp⟩
  case round =>
    obtain ⟨k, hk, rfl, hno, hbw, x0, x1, hsz⟩ := hrel
    have h' := h.below RPt.stable hbw
    by_cases hlt : k < n
    · obtain ⟨b, o, rfl, hb1, hc⟩ := h'.ptr (by omega)
      obtain ⟨e, he⟩ := h'.get hlt
      obtain ⟨c0, c1⟩ := hc k e he
      have heH := Lib.hid he
      clear hc he h h' hl
      by_cases hev : x = e.x ∧ y = e.y
      · obtain ⟨hx, hy⟩ := hev
        have hr := Lib.hid (show decide ((⟨x, y⟩ : Pt) ∈ ps) = true from decide_eq_true (by rw [hx, hy]; exact List.mem_of_getElem? heH.out))
        subst hx hy
        go_wp2
        refine wp_region_ord [(0, .q), (1, .q), (2, .q), (3, .q), (4, .q), (5, .q)] (by kernel_rfl) (by kernel_rfl) ?_
        simp only [pick, List.filterMap_cons, List.filterMap_nil, List.getElem?_toArray, List.getElem?_cons_zero, List.getElem?_cons_succ, Option.map_some]
        repeat (first
          | ((with_reducible refine wpD_p (fun K hK => ?_)); go_simp; refine hK _ ?_; clear hK K)
          | ((with_reducible refine wpD_q (fun K hK => ?_)); go_simp; (first | refine hK _ ?_ | (go_bits; refine hK _ ?_) | (go_bits; go_simp; refine hK _ ?_)); clear hK K)
          | ((with_reducible refine wpD_g (fun K hK => ?_)); go_simp; refine hK _ _ ?_; clear hK K)
          | ((with_reducible refine wpD_g (fun K hK => ?_)); go_simp; refine ⟨Grew.of_alloc _, hK _ _ ?_⟩; clear hK K))
        with_reducible refine wpD_nil ?_
        go_wp2
        go_ret
        exact ⟨_, rfl, by rw [hr.out]; simp, by repeat (first | with_reducible (first | exact bl_refl _ | assumption | refine bl_al ?_ _ | refine bl_dr ?_ | refine bl_tr ?_ (by assumption) | refine bl_set ?_ ?_ _ | exact Nat.le_refl _) | omega | (simp only [World.size_alloc, World.size_setCell, World.size_drew] at *; omega) | (dsimp only; omega) | (simp; done) | (simp; omega))⟩
      · have hne := Lib.hid (show e ≠ (⟨x, y⟩ : Pt) from fun hh => hev (by rw [hh]; exact ⟨rfl, rfl⟩))
        have hv : ((x == e.x) = false) ∨ ((x == e.x) = true ∧ (y == e.y) = false) := by
          cases hx : (x == e.x)
          · exact Or.inl rfl
          · cases hy : (y == e.y)
            · exact Or.inr ⟨rfl, rfl⟩
            · exact (hev ⟨by simpa using hx, by simpa using hy⟩).elim
        clear hev
        rcases hv with hv | ⟨hv, hv2⟩
        all_goals
          go_wp2
          refine wp_region_ord [(0, .q), (1, .q), (2, .q), (3, .q), (4, .q), (5, .q)] (by kernel_rfl) (by kernel_rfl) ?_
          simp only [pick, List.filterMap_cons, List.filterMap_nil, List.getElem?_toArray, List.getElem?_cons_zero, List.getElem?_cons_succ, Option.map_some]
          repeat (first
            | ((with_reducible refine wpD_p (fun K hK => ?_)); go_simp; refine hK _ ?_; clear hK K)
            | ((with_reducible refine wpD_q (fun K hK => ?_)); go_simp; (first | refine hK _ ?_ | (go_bits; refine hK _ ?_) | (go_bits; go_simp; refine hK _ ?_)); clear hK K)
            | ((with_reducible refine wpD_g (fun K hK => ?_)); go_simp; refine hK _ _ ?_; clear hK K)
            | ((with_reducible refine wpD_g (fun K hK => ?_)); go_simp; refine ⟨Grew.of_alloc _, hK _ _ ?_⟩; clear hK K))
          with_reducible refine wpD_nil ?_
          go_wp2
          go_roundg (n - (k + 1))
          case measure => omega
          case rel => exact ⟨k + 1, by omega, by go_num, Lib.hid (fun j e' hj he' => by
            rcases Nat.lt_succ_iff_lt_or_eq.1 hj with hj | rfl
            · exact hno.out j e' hj he'
            · rw [heH.out] at he'; obtain rfl := Option.some.inj he'; exact hne.out), by repeat (first | with_reducible (first | exact bl_refl _ | assumption | refine bl_al ?_ _ | refine bl_dr ?_ | refine bl_tr ?_ (by assumption) | refine bl_set ?_ ?_ _ | exact Nat.le_refl _) | omega | (simp only [World.size_alloc, World.size_setCell, World.size_drew] at *; omega) | (dsimp only; omega) | (simp; done) | (simp; omega)), by go_simp, by go_simp, by go_simp⟩
    · obtain rfl : k = n := by omega
      have hr := Lib.hid (show decide ((⟨x, y⟩ : Pt) ∈ ps) = false from decide_eq_false (fun hm => by
        obtain ⟨j, hj, hje⟩ := List.mem_iff_getElem.1 hm
        exact hno.out j _ (by rw [← hl]; exact hj) (List.getElem?_eq_getElem hj) hje))
      clear h h'
      go_wp2
      go_ret
      exact ⟨_, rfl, by rw [hr.out]; simp, hbw⟩
theorem ContainsP_any (A : Option Addr) (n c : Nat) (ps : List Pt) (x y : Int) (w : World) (h : RdSl 2 RPt w A n ps) (hn : n ≤ 1073741824) :
    Calls Tryz.prog 94 #[.slice A n c, .agg #[.int .i64 x, .int .i64 y]] w fun e w' => e = .returned (.bool (decide ((⟨x, y⟩ : Pt) ∈ ps))) ∧ Below w.heap.size w w' := by
  have hH := Lib.hid h
  clear h
  go_enter Tryz.func94, Tryz.ntmps94
  go_wp2_with fail
  refine (IndexP_any _ _ _ ps _ _ _ (hH.out.below RPt.stable (by repeat (first | with_reducible (first | exact bl_refl _ | assumption | refine bl_al ?_ _ | refine bl_dr ?_ | refine bl_tr ?_ (by assumption) | refine bl_set ?_ ?_ _ | exact Nat.le_refl _) | omega | (simp only [World.size_alloc, World.size_setCell, World.size_drew] at *; omega) | (dsimp only; omega) | (simp; done) | (simp; omega)))) hn).mono ?_
  rintro e w1 ⟨r, rfl, hr, hb1⟩
  have hrH := Lib.hid hr
  clear hr
  go_wp2
  go_ret
  exact ⟨ret_bool hrH.out, by repeat (first | with_reducible (first | exact bl_refl _ | assumption | refine bl_al ?_ _ | refine bl_dr ?_ | refine bl_tr ?_ (by assumption) | refine bl_set ?_ ?_ _ | exact Nat.le_refl _) | omega | (simp only [World.size_alloc, World.size_setCell, World.size_drew] at *; omega) | (dsimp only; omega) | (simp; done) | (simp; omega))⟩
/-- what is struck out -/
def delP (ps : List Pt) (b : Pl) : Bool := decide ((⟨b.x, b.y⟩ : Pt) ∈ ps)
set_option maxHeartbeats 1000000 in
theorem without1_any (p : Nat) (A : Option Addr) (n c : Nat) (ps : List Pt) (e : Pl) (w : World) (hp : w.cell? ⟨p, 0, none⟩ = some (.slice A n c)) (hlt : p < w.heap.size) (h : RdSl 2 RPt w A n ps) (hn : n ≤ 1073741824) :
    Calls Tryz.prog 93 #[.agg #[.int .i64 e.x, .int .i64 e.y, .int .i64 e.t], .pointer (some ⟨p, 0, none⟩)] w fun e' w' => e' = .returned (.bool (delP ps e)) ∧ Below w.heap.size w w' := by
  have hH := Lib.hid h
  have hpl := Nat.le_of_lt hlt
  clear h
  go_enter Tryz.func93, Tryz.ntmps93
  go_wp2_with fail
  refine (ContainsP_any _ _ _ ps _ _ _ (hH.out.below RPt.stable (by repeat (first | with_reducible (first | exact bl_refl _ | assumption | refine bl_al ?_ _ | refine bl_dr ?_ | refine bl_tr ?_ (by assumption) | refine bl_set ?_ ?_ _ | exact Nat.le_refl _) | omega | (simp only [World.size_alloc, World.size_setCell, World.size_drew] at *; omega) | (dsimp only; omega) | (simp; done) | (simp; omega)))) hn).mono ?_
  rintro e' w1 ⟨rfl, hb1⟩
  go_wp2
  go_ret
  exact ⟨ret_bool rfl, by repeat (first | with_reducible (first | exact bl_refl _ | assumption | refine bl_al ?_ _ | refine bl_dr ?_ | refine bl_tr ?_ (by assumption) | refine bl_set ?_ ?_ _ | exact Nat.le_refl _) | omega | (simp only [World.size_alloc, World.size_setCell, World.size_drew] at *; omega) | (dsimp only; omega) | (simp; done) | (simp; omega))⟩
def FirstP (w : World) (n : Nat) (del : Nat → Bool) (e : Ending) (w' : World) : Prop :=
  ((e = .returned (.int .i64 (-1)) ∧ ∀ j, j < n → del j = false) ∨ ∃ k : Nat, k < n ∧ e = .returned (.int .i64 (k : Int)) ∧ del k = true ∧ ∀ j, j < k → del j = false) ∧ Below w.heap.size w w'
def delAtP (ps : List Pt) (bs : List Pl) (j : Nat) : Bool := match bs[j]? with
  | none => false
  | some b => delP ps b
theorem delAtP_eq {ps : List Pt} {bs : List Pl} {j : Nat} {b : Pl} (h : bs[j]? = some b) : delAtP ps bs j = delP ps b := by unfold delAtP; rw [h]
set_option maxHeartbeats 1000000 in
theorem IndexFuncQ_any (p : Nat) (A P_ : Option Addr) (n c np cp : Nat) (ps : List Pt) (bs : List Pl) (w : World) (hp : w.cell? ⟨p, 0, none⟩ = some (.slice P_ np cp)) (hlt : p < w.heap.size) (h : RdSl 2 RPt w P_ np ps) (hnp : np ≤ 1073741824) (hB : RdSl 3 RPl w A n bs) (hn : n ≤ 100000) :
    Calls Tryz.prog 134 #[.slice A n c, .func (.func 93) #[] #[.pointer (some ⟨p, 0, none⟩)]] w (FirstP w n (delAtP ps bs)) := by
  have hH := Lib.hid h
  clear h
  go_enter Tryz.func134, Tryz.ntmps134
  go_wp2
  go_loopg [8] n (fun r x wr => ∃ k : Nat, k + r = n ∧ x = .int .i64 (k : Int) ∧ Hid (∀ j, j < k → delAtP ps bs j = false) ∧ Below w.heap.size w wr)
  case atStart => exact ⟨0, by omega, rfl, Lib.hid (fun j hj => by omega), bl_refl _⟩
  case round =>
    obtain ⟨k, hk, rfl, hno, hbw⟩ := hrel
    have g1 := (hbw.cell (p := ⟨p, 0, none⟩) hlt).trans hp
    have gp := Nat.lt_of_lt_of_le hlt hbw.size
    have hB' := hB.below RPl.stable hbw
    by_cases hkn : k < n
    · obtain ⟨b, o, rfl, hb, hc⟩ := hB'.ptr (by omega)
      obtain ⟨e, he⟩ := hB.get hkn
      obtain ⟨c0, c1, c2⟩ := hc k e he
      have hd := delAtP_eq (ps := ps) he
      cases hv : delP ps e
      · have hdH := Lib.hid (hd.trans hv)
        have hvH := Lib.hid hv
        clear hc he hB hB' hd hv
        go_wp2_with fail
        refine (without1_any p P_ np cp ps e _ g1 gp (hH.out.below RPt.stable hbw) hnp).mono ?_
        rw [hvH.out]
        rintro e' w1 ⟨rfl, hb1⟩
        go_wp2
        go_roundg (n - (k + 1))
        case measure => omega
        case rel => exact ⟨k + 1, by omega, by go_num, Lib.hid (fun j hj => by
          rcases Nat.lt_succ_iff_lt_or_eq.1 hj with hj | rfl
          · exact hno.out j hj
          · exact hdH.out), bl_tr hbw hb1⟩
      · have hdH := Lib.hid (hd.trans hv)
        have hvH := Lib.hid hv
        clear hc he hB hB' hd hv
        go_wp2_with fail
        refine (without1_any p P_ np cp ps e _ g1 gp (hH.out.below RPt.stable hbw) hnp).mono ?_
        rw [hvH.out]
        rintro e' w1 ⟨rfl, hb1⟩
        go_wp2
        go_ret
        exact ⟨Or.inr ⟨k, hkn, rfl, hdH.out, hno.out⟩, bl_tr hbw hb1⟩
    · obtain rfl : k = n := by omega
      clear hB'
      go_wp2
      go_ret
      exact ⟨Or.inl ⟨rfl, hno.out⟩, hbw⟩
theorem run_clear_rowsP {P : Program} (w : World) (t e ty : TypeId) (z : Value) (ht : P.underlying t = some (.slice e)) (hv : ∀ w, (zeroValue e).run P w = .ok z w) (b o n c : Nat) (hn : 0 < n)
    (hc : ∀ j, j < n * z.cells.size → (w.cell? ⟨b, o + j, none⟩).isSome = true) (hf : ∀ j, j < n * z.cells.size → w.frozen? ⟨b, o + j, none⟩ = false) (h1 : ∀ u ∈ (Builtin.zeroCells z.cells n).toList, u.oneCell' = true) :
    (Builtin.clear_ #[t] ty #[.slice (some ⟨b, o, none⟩) n c]).run P w = .ok (.tuple #[]) (w.setCells b o (Builtin.zeroCells z.cells n).toList) := by
  have hlen : (Builtin.zeroCells z.cells n).toList.length = n * z.cells.size := by simp [size_zeroCells]
  have hst := run_storeCells_cells (P := P) b o (Builtin.zeroCells z.cells n).toList 0 w (by rw [hlen]; simpa using hc) (by rw [hlen]; simpa using hf) h1
  simp only [Nat.add_zero] at hst
  obtain ⟨m, rfl⟩ : ∃ m, n = m + 1 := ⟨n - 1, by omega⟩
  simp [Builtin.clear_, run_underlying ht, hv, hst]
theorem zero3P (n : Nat) : ∀ u ∈ (Builtin.zeroCells #[Value.int .i64 0, .int .i64 0, .int .i64 0] n).toList, u.oneCell' = true := by
  intro u hu
  simp only [Builtin.zeroCells, Array.toList_map, List.mem_map] at hu
  obtain ⟨i, _, rfl⟩ := hu
  have : i % 3 = 0 ∨ i % 3 = 1 ∨ i % 3 = 2 := by omega
  rcases this with h | h | h <;> simp [h] <;> rfl
theorem RdSl.belowP {B : Nat} {w w' : World} {A : Option Addr} {n : Nat} {ps : List Pt} (h : RdSl 2 RPt w A n ps) (hA : 0 < n → ∀ b o, A = some ⟨b, o, none⟩ → b < B) (hb : Below B w w') : RdSl 2 RPt w' A n ps :=
  ⟨h.len, fun hn => by
    obtain ⟨b, o, e, hlt, hc⟩ := h.cells hn
    exact ⟨b, o, e, Nat.lt_of_lt_of_le hlt hb.size, fun k hk => ⟨(hb.cell (p := ⟨b, o + k * 2, none⟩) (hA hn b o e)).trans (hc k hk).1, (hb.cell (p := ⟨b, o + k * 2 + 1, none⟩) (hA hn b o e)).trans (hc k hk).2⟩⟩⟩
def keepP (ps : List Pt) (bs : List Pl) (k : Nat) : List Pl := (bs.take k).filter fun b => !delP ps b
theorem keepP_succ_yes {ps : List Pt} {bs : List Pl} {k : Nat} {e : Pl} (he : bs[k]? = some e) (h : delP ps e = false) : keepP ps bs (k + 1) = keepP ps bs k ++ [e] := by
  obtain ⟨hk, rfl⟩ := List.getElem?_eq_some_iff.1 he
  unfold keepP; rw [List.take_succ_eq_append_getElem hk, List.filter_append]; simp [h]
theorem keepP_succ_no {ps : List Pt} {bs : List Pl} {k : Nat} {e : Pl} (he : bs[k]? = some e) (h : delP ps e = true) : keepP ps bs (k + 1) = keepP ps bs k := by
  obtain ⟨hk, rfl⟩ := List.getElem?_eq_some_iff.1 he
  unfold keepP; rw [List.take_succ_eq_append_getElem hk, List.filter_append]; simp [h]
theorem keepP_len (ps : List Pt) (bs : List Pl) (k : Nat) : (keepP ps bs k).length ≤ k := Nat.le_trans (List.length_filter_le _ _) (List.length_take_le _ _)
theorem keepP_all {ps : List Pt} {bs : List Pl} {k : Nat} (h : ∀ j, j < k → delAtP ps bs j = false) : keepP ps bs k = bs.take k := by
  unfold keepP
  rw [List.filter_eq_self]
  intro b hb
  obtain ⟨j, hj, rfl⟩ := List.mem_iff_getElem.1 hb
  have hj' : j < k ∧ j < bs.length := by simp at hj; omega
  have := h j hj'.1
  rw [delAtP_eq (List.getElem?_eq_getElem hj'.2)] at this
  simpa using this
/-- what is left of a row of bonds -/
def DelResP (base : Nat) (w : World) (l : List Pl) (e : Ending) (w' : World) : Prop := ∃ A c, e = .returned (.slice A l.length c) ∧ w'.ownsRow base 100 3 (.slice A l.length c) l.length (plCells l) ∧ Below base w w'
theorem DelResP.of {base n : Nat} {w w' : World} {l : List Pl} {A : Option Addr} {c : Nat} (hn : n = l.length) (h : w'.ownsRow base 100 3 (.slice A n c) n (plCells l)) (hb : Below base w w') : DelResP base w l (.returned (.slice A n c)) w' := by
  subst hn; exact ⟨A, c, rfl, h, hb⟩
theorem owns_of_rowIs {w : World} {g T N base cap size n : Nat} {f : Nat → Value} {xs : List Value} (h : w.rowIs g T N f) (hN : N = cap * size) (hb : base ≤ g) (hn : n ≤ cap) (hm : cap ≤ maxLen) (hl : xs.length = n * size) (hx : ∀ j u, xs[j]? = some u → w.cell? ⟨g, j, none⟩ = some u) : w.ownsRow base T size (.slice (some ⟨g, 0, none⟩) n cap) n xs := by
  obtain ⟨cur, hh, hs, hi⟩ := h
  refine ⟨hl, .inr ⟨g, cap, cur, rfl, hb, hh, hn, hm, hs.trans hN, ?_⟩⟩
  apply List.ext_getElem?
  intro j
  by_cases hj : j < n * size
  · obtain ⟨u, hu⟩ : ∃ u, xs[j]? = some u := ⟨_, List.getElem?_eq_getElem (by omega)⟩
    have := hx j u hu
    simp only [World.cell?, hh] at this
    rw [List.getElem?_take_of_lt hj, Array.getElem?_toList, hu]
    simpa using this
  · rw [List.getElem?_take_eq_none (by omega), List.getElem?_eq_none (by omega)]
set_option maxRecDepth 100000 in
set_option maxHeartbeats 4000000 in
theorem DeleteFuncP_any (base p : Nat) (P_ : Option Addr) (np cp : Nat) (ps : List Pt) (v : Value) (bs : List Pl) (w : World) (hrow : w.ownsRow base 100 3 v bs.length (plCells bs)) (hn : bs.length ≤ 100000)
    (hp : w.cell? ⟨p, 0, none⟩ = some (.slice P_ np cp)) (hpb : p < base) (hbz : base ≤ w.heap.size) (h : RdSl 2 RPt w P_ np ps) (hnp : np ≤ 1073741824) (hPb : 0 < np → ∀ b o, P_ = some ⟨b, o, none⟩ → b < base) :
    Calls Tryz.prog 91 #[v, .func (.func 93) #[] #[.pointer (some ⟨p, 0, none⟩)]] w (DelResP base w (keepP ps bs bs.length)) := by
  obtain ⟨A, cap, rfl, rdb⟩ := rdP_of_row hrow
  obtain ⟨n, hnn⟩ : ∃ n, bs.length = n := ⟨_, rfl⟩
  rw [hnn] at hn rdb hrow
  rw [hnn]
  have hnnH := Lib.hid hnn
  have hH := Lib.hid h
  have hpl : p < w.heap.size := by omega
  have hpO := Lib.hid hp
  have hPbH := Lib.hid hPb
  clear h hnn hPb
  go_enter Tryz.func91, Tryz.ntmps91
  go_wp2_with fail
  refine (IndexFuncQ_any p A P_ n cap np cp ps bs _ hp hpl hH.out hnp rdb hn).mono ?_
  rintro e w1 ⟨(⟨rfl, hall⟩ | ⟨k, hkn, rfl, hdk, hall⟩), hb1⟩
  · have hallH := Lib.hid hall
    have rdH := Lib.hid (ownsRow_below hrow hb1)
    have hK := keepP_all (ps := ps) (bs := bs) (k := n) hall
    rw [List.take_of_length_le (by rw [hnnH.out]; exact Nat.le_refl _)] at hK
    have hKH := Lib.hid hK
    clear hall rdb hrow hK
    go_wp2
    go_ret
    rw [hKH.out]
    exact DelResP.of hnnH.out.symm rdH.out (hb1.mono hbz)
  · have hk1 : ¬ ((k : Int) = -1) := by omega
    have hk1' : ((k : Int) == -1) = false := by simp
    rcases hrow.2 with ⟨h0, h0'⟩ | ⟨g, cap', cur, hv, hb, hh, hnc, hm, hs, ht⟩
    · omega
    obtain ⟨rfl, -, rfl⟩ : A = some ⟨g, 0, none⟩ ∧ n = n ∧ cap = cap' := by injection hv with a1 a2 a3; exact ⟨a1, a2, a3⟩
    have hgl : g < w.heap.size := (Array.getElem?_eq_some_iff.1 hh).1
    have hh1 := (hb1.block g hgl).trans hh
    have hrow1 : w1.rowIs g 100 (cap * 3) (fun i => cur.getD i undef) := by
      refine ⟨cur, hh1, hs, fun i hi => ?_⟩
      have : i < cur.size := by omega
      simp [this]
    have hget : ∀ q b, bs[q]? = some b → q < n → cur.getD (q * 3) undef = .int .i64 b.x ∧ cur.getD (q * 3 + 1) undef = .int .i64 b.y ∧ cur.getD (q * 3 + 2) undef = .int .i64 b.t := by
      intro q b hq hqn
      obtain ⟨x0, x1, x2⟩ := plCells_get bs q b hq
      rw [← ht, List.getElem?_take_of_lt (by omega)] at x0 x1 x2
      simp only [Array.getElem?_toList] at x0 x1 x2
      simp [Array.getD_eq_getD_getElem?, x0, x1, x2]
    have hkeep0 := keepP_all (ps := ps) (bs := bs) (k := k) hall
    obtain ⟨ek, hek⟩ : ∃ e, bs[k]? = some e := ⟨_, List.getElem?_eq_getElem (by rw [hnnH.out]; exact hkn)⟩
    have hkeep1 := keepP_succ_no (ps := ps) hek (by rw [← delAtP_eq (ps := ps) hek]; exact hdk)
    have hkl : k = (keepP ps bs (k + 1)).length := by rw [hkeep1, hkeep0]; simp; rw [hnnH.out]; omega
    obtain ⟨F0, hF0⟩ : ∃ F : Nat → Pl, ∀ q b, bs[q]? = some b → F q = b := ⟨fun q => match bs[q]? with | some b => b | none => ⟨0, 0, 0⟩, fun q b h => by simp only [h]⟩
    have hst : Hid (k = (keepP ps bs (k + 1)).length ∧ (∀ q b, (keepP ps bs (k + 1))[q]? = some b → F0 q = b) ∧ (∀ q b, k + 1 ≤ q → bs[q]? = some b → F0 q = b)) := by
      refine Lib.hid ⟨hkl, fun q b hq => ?_, fun q b _ hq => hF0 q b hq⟩
      rw [hkeep1, hkeep0, List.getElem?_take] at hq
      split at hq
      · exact hF0 q b hq
      · cases hq
    have hf0 : Hid (∀ q, q < n → (fun i => cur.getD i undef) (q * 3) = .int .i64 (F0 q).x ∧ (fun i => cur.getD i undef) (q * 3 + 1) = .int .i64 (F0 q).y ∧ (fun i => cur.getD i undef) (q * 3 + 2) = .int .i64 (F0 q).t) := Lib.hid fun q hq => by
      obtain ⟨b, hqb⟩ : ∃ b, bs[q]? = some b := ⟨_, List.getElem?_eq_getElem (by rw [hnnH.out]; exact hq)⟩
      rw [hF0 q b hqb]
      exact hget q b hqb hq
    have hB1 := Lib.hid (hb1.mono hbz)
    have hbg := hb
    have hmO := Lib.hid hm
    clear hkl hF0 hget hkeep0 hkeep1 hek hall rdb hrow hh hh1 hs ht hv hb1 hp hdk
    go_wp2
    go_loopg [5, 6] (n - (k + 1)) (fun r x y wr => ∃ (i j : Nat) (F : Nat → Pl) (f : Nat → Value), j + r = n ∧ i < j ∧ x = .int .i64 (i : Int) ∧ y = .int .i64 (j : Int) ∧ Hid (i = (keepP ps bs j).length ∧ (∀ q b, (keepP ps bs j)[q]? = some b → F q = b) ∧ (∀ q b, j ≤ q → bs[q]? = some b → F q = b)) ∧ wr.rowIs g 100 (cap * 3) f ∧ Hid (∀ q, q < n → f (q * 3) = .int .i64 (F q).x ∧ f (q * 3 + 1) = .int .i64 (F q).y ∧ f (q * 3 + 2) = .int .i64 (F q).t) ∧ Below base w wr)
    case atStart => exact ⟨k, k + 1, F0, _, by omega, by omega, rfl, by go_num, hst, hrow1, hf0, hB1.out⟩
    case round =>
      obtain ⟨i, j, F, f, hj, hij, rfl, rfl, hst', hrw, hf, hbw⟩ := hrel
      clear hst hf0 hrow1
      have hgw : g < wr.heap.size := hrw.lt
      have g1 := (hbw.cell (p := ⟨p, 0, none⟩) hpb).trans hpO.out
      have gp := Nat.lt_of_lt_of_le hpl hbw.size
      by_cases hlt : j < n
      · obtain ⟨e, he⟩ : ∃ e, bs[j]? = some e := ⟨_, List.getElem?_eq_getElem (by rw [hnnH.out]; exact hlt)⟩
        have hFj := hst'.out.2.2 j e (Nat.le_refl _) he
        obtain ⟨v0, v1, v2⟩ := hf.out j hlt
        rw [hFj] at v0 v1 v2
        have c0 := hrw.cell (i := j * 3) (by omega)
        have c1 := hrw.cell (i := j * 3 + 1) (by omega)
        have c2 := hrw.cell (i := j * 3 + 2) (by omega)
        rw [v0] at c0
        rw [v1] at c1
        rw [v2] at c2
        have heH := Lib.hid he
        have hrwH := Lib.hid hrw
        clear v0 v1 v2 hFj he hrw
        cases hcd : delP ps e
        · have hnx := Lib.hid (keepP_succ_yes heH.out hcd)
          have hcdH := Lib.hid hcd
          clear hcd
          go_wp2_with fail
          refine (without1_any p P_ np cp ps e _ (by go_simp) (by simp; omega) ((hH.out.belowP hPbH.out hbw).below RPt.stable (by repeat (first | with_reducible (first | exact bl_refl _ | assumption | refine bl_al ?_ _ | refine bl_dr ?_ | refine bl_tr ?_ (by assumption) | refine bl_set ?_ ?_ _ | exact Nat.le_refl _) | omega | (simp only [World.size_alloc, World.size_setCell, World.size_drew] at *; omega) | (dsimp only; omega) | (simp; done) | (simp; omega)))) hnp).mono ?_
          rw [hcdH.out]
          rintro e' w2 ⟨rfl, hb2⟩
          have hrw2 := hrwH.out.of_block ((hb2.block g (by simp; omega)).trans (Below.heap_alloc _ _ _ hgw))
          have d0 := hrw2.cell (i := i * 3) (by omega)
          have d1 := hrw2.cell (i := i * 3 + 1) (by omega)
          have d2 := hrw2.cell (i := i * 3 + 2) (by omega)
          have k0 := hrw2.frozen (i * 3)
          have k1 := hrw2.frozen (i * 3 + 1)
          have k2 := hrw2.frozen (i * 3 + 2)
          have x0 : w2.cell? ⟨wr.heap.size, 0, none⟩ = some (.int .i64 e.x) := (hb2.cell (p := ⟨wr.heap.size, 0, none⟩) (by simp)).trans (by go_simp)
          have x1 : w2.cell? ⟨wr.heap.size, 1, none⟩ = some (.int .i64 e.y) := (hb2.cell (p := ⟨wr.heap.size, 1, none⟩) (by simp)).trans (by go_simp)
          have x2 : w2.cell? ⟨wr.heap.size, 2, none⟩ = some (.int .i64 e.t) := (hb2.cell (p := ⟨wr.heap.size, 2, none⟩) (by simp)).trans (by go_simp)
          have hB2 : Below base w w2 := hbw.trans (Below.mono (bl_tr (bl_al (bl_refl _) _) hb2) (Nat.le_trans hbz hbw.size))
          have hB2H := Lib.hid hB2
          have hrw2H := Lib.hid hrw2
          have hin : i < n := by omega
          clear c0 c1 c2 hb2 hB2 hrw2 g1
          go_wp2
          go_roundg (n - (j + 1))
          case measure => omega
          case rel => exact ⟨i + 1, j + 1, fun q => if q = i then e else F q, _, by omega, by omega, by go_num, by go_num, Lib.hid ⟨by
              rw [hnx.out, List.length_append, ← hst'.out.1]; rfl, fun q b hq => by
              rw [hnx.out] at hq
              have hil := hst'.out.1
              rcases Nat.lt_or_ge q i with hqi | hqi
              · rw [List.getElem?_append_left (by omega)] at hq
                show (if q = i then e else F q) = b
                rw [if_neg (by omega)]; exact hst'.out.2.1 q b hq
              · rw [List.getElem?_append_right (by omega)] at hq
                have : q - (keepP ps bs j).length = 0 := by
                  rcases Nat.eq_zero_or_pos (q - (keepP ps bs j).length) with h0 | h0
                  · exact h0
                  · rw [List.getElem?_eq_none (by simp; omega)] at hq; cases hq
                rw [this] at hq
                show (if q = i then e else F q) = b
                rw [if_pos (by omega)]; simpa using hq, fun q b hq hb => by
              show (if q = i then e else F q) = b
              rw [if_neg (by omega)]; exact hst'.out.2.2 q b (by omega) hb⟩, ((hrw2H.out.set (i * 3) _).set (i * 3 + 1) _).set (i * 3 + 2) _, Lib.hid (fun q hq => by
              obtain ⟨u0, u1, u2⟩ := hf.out q hq
              by_cases hqi : q = i
              · subst hqi
                simp
              · rw [if_neg (by omega), if_neg (by omega), if_neg (by omega), if_neg (by omega), if_neg (by omega), if_neg (by omega), if_neg (by omega), if_neg (by omega), if_neg (by omega)]
                show f (q * 3) = Value.int .i64 (if q = i then e else F q).x ∧ f (q * 3 + 1) = Value.int .i64 (if q = i then e else F q).y ∧ f (q * 3 + 2) = Value.int .i64 (if q = i then e else F q).t
                rw [if_neg hqi]
                exact ⟨u0, u1, u2⟩), ((hB2H.out.setCell (p := ⟨g, i * 3, none⟩) hbg _).setCell (p := ⟨g, i * 3 + 1, none⟩) hbg _).setCell (p := ⟨g, i * 3 + 2, none⟩) hbg _⟩
        · have hnx := Lib.hid (keepP_succ_no heH.out hcd)
          have hcdH := Lib.hid hcd
          clear hcd
          go_wp2_with fail
          refine (without1_any p P_ np cp ps e _ (by go_simp) (by simp; omega) ((hH.out.belowP hPbH.out hbw).below RPt.stable (by repeat (first | with_reducible (first | exact bl_refl _ | assumption | refine bl_al ?_ _ | refine bl_dr ?_ | refine bl_tr ?_ (by assumption) | refine bl_set ?_ ?_ _ | exact Nat.le_refl _) | omega | (simp only [World.size_alloc, World.size_setCell, World.size_drew] at *; omega) | (dsimp only; omega) | (simp; done) | (simp; omega)))) hnp).mono ?_
          rw [hcdH.out]
          rintro e' w2 ⟨rfl, hb2⟩
          have hrw2 := hrwH.out.of_block ((hb2.block g (by simp; omega)).trans (Below.heap_alloc _ _ _ hgw))
          have hB2 : Below base w w2 := hbw.trans (Below.mono (bl_tr (bl_al (bl_refl _) _) hb2) (Nat.le_trans hbz hbw.size))
          have hB2H := Lib.hid hB2
          have hrw2H := Lib.hid hrw2
          clear c0 c1 c2 hb2 hB2 hrw2 g1
          go_wp2
          go_roundg (n - (j + 1))
          case measure => omega
          case rel => exact ⟨i, j + 1, F, _, by omega, by omega, rfl, by go_num, Lib.hid ⟨by rw [hnx.out]; exact hst'.out.1, fun q b hq => by rw [hnx.out] at hq; exact hst'.out.2.1 q b hq, fun q b hq hb => hst'.out.2.2 q b (by omega) hb⟩, hrw2H.out, hf, hB2H.out⟩
      · obtain rfl : j = n := by omega
        have hcl := fun (ty : TypeId) => run_clear_rowsP (P := Tryz.prog) wr 35 100 ty _ Tryz.underlying35 Tryz.zeroValue100 g (i * 3) (j - i) (cap - i) (by omega) (fun q hq => by rw [hrw.cell (i := i * 3 + q) (by simp [Value.cells] at hq; omega)]; rfl) (fun q hq => hrw.frozen _) (zero3P _)
        have hci : ¬ cap = i := by omega
        go_wp2
        go_ret
        obtain ⟨zs, hzs⟩ : ∃ zs, (Builtin.zeroCells #[Value.int .i64 0, Value.int .i64 0, Value.int .i64 0] (j - i)).toList = zs := ⟨_, rfl⟩
        rw [hzs]
        have hrw3 := Go.rowIs_setCells zs (i * 3) wr f hrw
        have hil := hst'.out.1
        have hfin := hst'.out.2.1
        have hgets : ∀ q e, (keepP ps bs j)[q]? = some e → RPl (wr.setCells g (i * 3) zs) g (0 + q * 3) e := fun q e hq => by
          have hql := lt_of_get hq
          have hFq := hfin q e hq
          obtain ⟨u0, u1, u2⟩ := hf.out q (by omega)
          rw [hFq] at u0 u1 u2
          refine ⟨?_, ?_, ?_⟩
          · rw [Nat.zero_add, hrw3.cell (i := q * 3) (by omega), if_neg (by omega), u0]
          · rw [Nat.zero_add, hrw3.cell (i := q * 3 + 1) (by omega), if_neg (by omega), u1]
          · rw [Nat.zero_add, hrw3.cell (i := q * 3 + 2) (by omega), if_neg (by omega), u2]
        refine DelResP.of hil (owns_of_rowIs hrw3 rfl hbg (by omega) hmO.out (by rw [plCells_len, hil]) (fun q u hq => ?_)) (Go.below_setCells hbg zs (i * 3) wr hbw)
        have := plCells_of_rd hgets q u hq
        simpa [Addr.add_lit] using this
end Go.Proofs.YtglcpphfmmnmkaaGreat
/- Walk: the points of the tiles that are no seed tiles. -/



namespace Go.Proofs.YtglcpphfmmnmkaaGreat
open Go.RowKit Go.Shelf
attribute [local go_sem] BelowBy.cell BelowBy.cell_drew stillUpon givesUpon BelowBy.cell_drew2 BelowBy.cell_drew3

theorem infoPtS : (Tryz.prog.info? 86).map (fun i => (i.zero, i.size, i.bytes)) = some (some (.agg #[.int .i64 0, .int .i64 0]), 2, 16) := by kernel_rfl
theorem cell_ptS_new (w : World) (a b : Value) (t : TypeId) : ∀ j u, [a, b][j]? = some u → (w.alloc (.cells #[a, b] t)).cell? ((⟨w.heap.size, 0, none⟩ : Addr).add j) = some u := by
  intro j u hj
  match j, hj with
  | 0, hj => simp at hj; subst hj; simp [Addr.add]
  | 1, hj => simp at hj; subst hj; simp [Addr.add]
noncomputable def softL (xs ys : List Pl) : Nat → List Pt
  | 0 => []
  | j + 1 => match ys[j]? with
    | some e => if seedB xs e = true then softL xs ys j else softL xs ys j ++ [⟨e.x, e.y⟩]
    | none => softL xs ys j
theorem softL_seed {xs ys : List Pl} {k : Nat} {e : Pl} (he : ys[k]? = some e) (h : seedB xs e = true) : softL xs ys (k + 1) = softL xs ys k := by simp only [softL, he]; rw [if_pos h]
theorem softL_soft {xs ys : List Pl} {k : Nat} {e : Pl} (he : ys[k]? = some e) (h : seedB xs e = false) : softL xs ys (k + 1) = softL xs ys k ++ [⟨e.x, e.y⟩] := by simp only [softL, he]; rw [if_neg (by rw [h]; decide)]
theorem softL_len (xs ys : List Pl) : ∀ k, (softL xs ys k).length ≤ k
  | 0 => Nat.le_refl _
  | k + 1 => by
    have := softL_len xs ys k
    simp only [softL]
    split
    · split
      · omega
      · simp; omega
    · omega
theorem softL_mem {xs ys : List Pl} {p : Pt} : ∀ k, p ∈ softL xs ys k ↔ ∃ (j : Nat) (e : Pl), j < k ∧ ys[j]? = some e ∧ seedB xs e = false ∧ p = ⟨e.x, e.y⟩
  | 0 => by simp [softL]
  | k + 1 => by
    cases hk : ys[k]? with
    | none =>
      simp only [softL, hk]
      rw [softL_mem k]
      constructor
      · rintro ⟨j, e, h1, h2⟩; exact ⟨j, e, by omega, h2⟩
      · rintro ⟨j, e, h1, h2, h3⟩
        rcases Nat.lt_succ_iff_lt_or_eq.1 h1 with h1 | rfl
        · exact ⟨j, e, h1, h2, h3⟩
        · rw [hk] at h2; cases h2
    | some d =>
      cases hs : seedB xs d
      · rw [softL_soft hk hs, List.mem_append, softL_mem k]
        constructor
        · rintro (⟨j, e, h1, h2⟩ | h)
          · exact ⟨j, e, by omega, h2⟩
          · exact ⟨k, d, by omega, hk, hs, by simpa using h⟩
        · rintro ⟨j, e, h1, h2, h3, h4⟩
          rcases Nat.lt_succ_iff_lt_or_eq.1 h1 with h1 | rfl
          · exact Or.inl ⟨j, e, h1, h2, h3, h4⟩
          · rw [hk] at h2; obtain rfl := Option.some.inj h2; exact Or.inr (by simp [h4])
      · rw [softL_seed hk hs, softL_mem k]
        constructor
        · rintro ⟨j, e, h1, h2⟩; exact ⟨j, e, by omega, h2⟩
        · rintro ⟨j, e, h1, h2, h3, h4⟩
          rcases Nat.lt_succ_iff_lt_or_eq.1 h1 with h1 | rfl
          · exact ⟨j, e, h1, h2, h3, h4⟩
          · rw [hk] at h2; obtain rfl := Option.some.inj h2; rw [hs] at h3; cases h3
theorem softL_sorted {gs : List Gl} {ts : List Ti} {ys : List Pl} (hV : Valid gs ts ys) (xs : List Pl) : ∀ k, SortS (softL xs ys k)
  | 0 => List.Pairwise.nil
  | k + 1 => by
    have ih := softL_sorted hV xs k
    cases hk : ys[k]? with
    | none => simp only [softL, hk]; exact ih
    | some d =>
      cases hs : seedB xs d
      · rw [softL_soft hk hs]
        unfold SortS
        rw [List.pairwise_append]
        refine ⟨ih, List.pairwise_singleton _ _, fun a ha b hb => ?_⟩
        obtain ⟨j, e, h1, h2, _, rfl⟩ := (softL_mem k).1 ha
        obtain rfl : b = ⟨d.x, d.y⟩ := by simpa using hb
        exact hV.sorted j k e d h1 h2 hk
      · rw [softL_seed hk hs]; exact ih
def PtsRes (w : World) (L : List Pt) (e : Ending) (w' : World) : Prop := ∃ v, e = .returned v ∧ w'.ownsRow w.heap.size 86 2 v L.length (ptCells L) ∧ Below w.heap.size w w'
set_option maxRecDepth 100000 in
set_option maxHeartbeats 2000000 in
theorem softL_any {G T A C : Option Addr} {n cg m ct q ca k cc : Nat} {gs : List Gl} {ts : List Ti} {xs ys : List Pl} {t : Int} {w : World} (h : SA w G n T m A q gs ts xs) (hV : Valid gs ts xs) (h2 : RdSl 3 RPl w C k ys) (hk : k ≤ 100000) :
    Calls Tryz.prog 131 #[.agg #[.slice G n cg, .slice T m ct, .slice A q ca, .int .i64 t], .agg #[.slice C k cc]] w (PtsRes w (softL xs ys k)) := by
  obtain ⟨i0, hi, hz0, hz1, hz2⟩ := info_parts infoPtS
  have hS := Lib.hid h
  have hC := Lib.hid h2
  clear h h2
  go_enter Tryz.func131, Tryz.ntmps131
  go_wp2
  go_loopg [11, 5] k (fun gk i v wr => ∃ (j : Nat), j + gk = k ∧ i = .int .i64 (j : Int) ∧ Hid (wr.ownsRow (w.heap.size + 2) 86 2 v (softL xs ys j).length (ptCells (softL xs ys j))) ∧ Hid (Below w.heap.size w wr) ∧ wr.cell? ⟨w.heap.size, 0, none⟩ = some (.slice G n cg) ∧ wr.cell? ⟨w.heap.size, 1, none⟩ = some (.slice T m ct) ∧ wr.cell? ⟨w.heap.size, 2, none⟩ = some (.slice A q ca) ∧ wr.cell? ⟨w.heap.size, 3, none⟩ = some (.int .i64 t) ∧ w.heap.size + 2 ≤ wr.heap.size)
  case atStart => exact ⟨0, by omega, rfl, Lib.hid (World.ownsRow_nil _ _ _ _), Lib.hid (by repeat (first | with_reducible (first | exact bl_refl _ | assumption | refine bl_al ?_ _ | refine bl_dr ?_ | refine bl_tr ?_ (by assumption) | refine bl_set ?_ ?_ _ | exact Nat.le_refl _) | omega | (simp only [World.size_alloc, World.size_setCell, World.size_drew] at *; omega) | (dsimp only; omega) | (simp; done) | (simp; omega))), by go_simp, by go_simp, by go_simp, by go_simp, by simp⟩
  case round =>
    obtain ⟨j, hj, rfl, hrow, hbw, x0, x1, x2, x3, hsz⟩ := hrel
    obtain ⟨A1, c1, rfl⟩ := ownsRow_form hrow.out
    have l0 : w.heap.size < wr.heap.size := by omega
    by_cases hjk : j < k
    · have hCw := hC.out.below RPl.stable hbw.out
      obtain ⟨e, he⟩ := hCw.get hjk
      obtain ⟨b, ob, hCe, hb, hc⟩ := hCw.ptr (by omega)
      subst hCe
      obtain ⟨d0, d1, d2⟩ := hc j e he
      have heH := Lib.hid he
      have hle := softL_len xs ys j
      obtain ⟨L, hL⟩ : ∃ L, softL xs ys j = L := ⟨_, rfl⟩
      rw [hL] at hrow hle ⊢
      have hLH := Lib.hid hL
      obtain ⟨N, hN⟩ : ∃ N, L.length = N := ⟨_, rfl⟩
      have hNH := Lib.hid hN
      rw [hN] at hrow hle ⊢
      have hSw := Lib.hid (hS.out.A.below RPl.stable hbw.out)
      clear hc he hCw hN hL
      cases hsd : seedB xs e
      all_goals
        have hsdH := Lib.hid hsd
        go_wp2_with fail
        refine (isSeedTile_at (hSw.out.below RPl.stable (by repeat (first | with_reducible (first | exact bl_refl _ | assumption | refine bl_al ?_ _ | refine bl_dr ?_ | refine bl_tr ?_ (by assumption) | refine bl_set ?_ ?_ _ | exact Nat.le_refl _) | omega | (simp only [World.size_alloc, World.size_setCell, World.size_drew] at *; omega) | (dsimp only; omega) | (simp; done) | (simp; omega)))) hV hsdH.out).mono ?_
        rintro e' w2 ⟨rfl, hb2⟩
        have hb2' : Below wr.heap.size wr w2 := by repeat (first | with_reducible (first | exact bl_refl _ | assumption | refine bl_al ?_ _ | refine bl_dr ?_ | refine bl_tr ?_ (by assumption) | refine bl_set ?_ ?_ _ | exact Nat.le_refl _) | omega | (simp only [World.size_alloc, World.size_setCell, World.size_drew] at *; omega) | (dsimp only; omega) | (simp; done) | (simp; omega))
        have hB2 := Lib.hid (hbw.out.trans (hb2'.mono hbw.out.size))
        have hrow' := Lib.hid (ownsRow_below hrow.out hb2')
        have z0 := (hb2'.cell (p := ⟨w.heap.size, 0, none⟩) l0).trans x0
        have z1 := (hb2'.cell (p := ⟨w.heap.size, 1, none⟩) l0).trans x1
        have z2 := (hb2'.cell (p := ⟨w.heap.size, 2, none⟩) l0).trans x2
        have z3 := (hb2'.cell (p := ⟨w.heap.size, 3, none⟩) l0).trans x3
        have s2 := hb2'.size
        have t0 := (hb2.cell (p := ⟨wr.heap.size, 0, none⟩) (by simp)).trans (show _ = some (Value.int .i64 e.x) by go_simp)
        have t1 := (hb2.cell (p := ⟨wr.heap.size, 1, none⟩) (by simp)).trans (show _ = some (Value.int .i64 e.y) by go_simp)
        have t3 : wr.heap.size < w2.heap.size := by have := hb2.size; simp at this; omega
        clear hb2' x0 x1 x2 x3
      · have hs := Lib.hid (softL_soft heH.out hsd)
        clear hsd
        go_wp2_with (at_builtin; refine wpList_append_own _ rfl _ _ 48 rfl (w.heap.size + 2) 86 i0 (.agg #[.int .i64 0, .int .i64 0]) 2 16 Tryz.underlying48 hi hz0 hz1 hz2 rfl (by decide) _ N _ rfl (hrow'.out.alloc _) ⟨w2.heap.size, 0, none⟩ 1 1 [.int .i64 e.x, .int .i64 e.y] rfl rfl (cell_ptS_new _ _ _ _) (fun x hx => by simp at hx; rcases hx with rfl | rfl <;> rfl) (by unfold maxLen; omega) (by omega) (by simp; omega) ?_; intro v' w3 hown' hgrow _)
        have hfar : Below (w.heap.size + 2) w2 w3 := ((Below.refl (w.heap.size + 2) w2).alloc (by omega) _).grown hgrow (by simp; omega) (fun b' hb' => (hrow'.out.lt b' hb').1)
        have hB3 := Lib.hid (hB2.out.trans (hfar.mono (by omega)))
        have u0 := (hfar.cell (p := ⟨w.heap.size, 0, none⟩) (by simp)).trans z0
        have u1 := (hfar.cell (p := ⟨w.heap.size, 1, none⟩) (by simp)).trans z1
        have u2 := (hfar.cell (p := ⟨w.heap.size, 2, none⟩) (by simp)).trans z2
        have u3 := (hfar.cell (p := ⟨w.heap.size, 3, none⟩) (by simp)).trans z3
        have s3 := hfar.size
        have hownH := Lib.hid hown'
        clear hfar z0 z1 z2 z3 hown' hgrow
        go_wp2
        go_roundg (k - (j + 1))
        case measure => omega
        case rel => exact ⟨j + 1, by omega, by go_num, Lib.hid (by rw [hs.out, hLH.out, List.length_append, ptCells_snoc, hNH.out]; exact hownH.out), hB3, u0, u1, u2, u3, by omega⟩
      · have hs := Lib.hid (softL_seed heH.out hsd)
        clear hsd
        go_wp2
        go_roundg (k - (j + 1))
        case measure => omega
        case rel => exact ⟨j + 1, by omega, by go_num, Lib.hid (by rw [hs.out, hLH.out, hNH.out]; exact hrow'.out), hB2, z0, z1, z2, z3, by omega⟩
    · obtain rfl : j = k := by omega
      go_wp2
      go_ret
      exact ⟨_, rfl, ownsRow_base hrow.out (by omega), hbw.out⟩
end Go.Proofs.YtglcpphfmmnmkaaGreat
/- Walks: a point looked for in a row of points in order. -/


namespace Go.Proofs.YtglcpphfmmnmkaaGreat
open Go.RowKit
attribute [local go_sem] BelowBy.cell BelowBy.cell_drew stillUpon givesUpon

/-- where a binary search stops -/
structure Stop (L : List Pt) (x y : Int) (r : Nat) (b : Bool) : Prop where
  le : r ≤ L.length
  lt : ∀ (k : Nat) (d : Pt), k < r → L[k]? = some d → lessPt d.x d.y x y = true
  ge : ∀ (k : Nat) (d : Pt), r ≤ k → L[k]? = some d → lessPt d.x d.y x y = false
  yes : b = true → L[r]? = some ⟨x, y⟩
  no : b = false → ¬ (⟨x, y⟩ : Pt) ∈ L
theorem Stop.mem {L : List Pt} {x y : Int} {r : Nat} {b : Bool} (h : Stop L x y r b) : b = decide ((⟨x, y⟩ : Pt) ∈ L) := by
  cases b
  · exact (decide_eq_false (h.no rfl)).symm
  · exact (decide_eq_true (List.mem_of_getElem? (h.yes rfl))).symm
def SearchP (w : World) (L : List Pt) (x y : Int) (e : Ending) (w' : World) : Prop :=
  ∃ (r : Nat) (b : Bool), e = .returned (.tuple #[.int .i64 (r : Int), .bool b]) ∧ Stop L x y r b ∧ Below w.heap.size w w'
theorem comparePointsP_at {e : Pt} {x y : Int} {w : World} :
    Calls Tryz.prog 150 #[.agg #[.int .i64 e.x, .int .i64 e.y], .agg #[.int .i64 x, .int .i64 y]] w fun e' w' => e' = .returned (.int .i64 (cmpPt e.x e.y x y)) ∧ Below w.heap.size w w' := comparePoints_any _ _ _ _ _
theorem stop_no {L : List Pt} (hS : SortS L) {x y : Int} {i : Nat} (h1 : ∀ (k : Nat) (d : Pt), k < i → L[k]? = some d → lessPt d.x d.y x y = true) (h2 : ∀ (k : Nat) (d : Pt), i ≤ k → L[k]? = some d → lessPt d.x d.y x y = false) (h3 : ∀ d, L[i]? = some d → ¬ (d.x = x ∧ d.y = y)) : ¬ (⟨x, y⟩ : Pt) ∈ L := by
  intro hm
  obtain ⟨k, hk, hke⟩ := List.mem_iff_getElem.1 hm
  have hke' : L[k]? = some ⟨x, y⟩ := List.getElem?_eq_some_iff.2 ⟨hk, hke⟩
  rcases Nat.lt_trichotomy k i with h | rfl | h
  · exact ltP_irrefl ⟨x, y⟩ (h1 k _ h hke')
  · exact h3 _ hke' ⟨rfl, rfl⟩
  · obtain ⟨d, hd⟩ : ∃ d, L[i]? = some d := ⟨_, List.getElem?_eq_getElem (by omega)⟩
    have := hS.get h hd hke'
    have h4 := h2 i d (Nat.le_refl _) hd
    unfold ltP at this
    simp only at this
    rw [h4] at this; cases this
set_option maxHeartbeats 2000000 in
theorem BinarySearchP_any (A : Option Addr) (n c : Nat) (L : List Pt) (x y : Int) (w : World) (h2 : RdSl 2 RPt w A n L) (hS : SortS L) (h5 : n ≤ 100000) :
    Calls Tryz.prog 165 #[.slice A n c, .agg #[.int .i64 x, .int .i64 y], .func (.func 150) #[] #[]] w (SearchP w L x y) := by
  have hl := h2.len
  
  go_enter Tryz.func165, Tryz.ntmps165
  go_wp2
  go_loopg [9, 10] n (fun g lo hi wr => ∃ i j : Nat, j - i ≤ g ∧ i ≤ j ∧ j ≤ n ∧ lo = .int .i64 i ∧ hi = .int .i64 j ∧ (∀ (k : Nat) (d : Pt), k < i → L[k]? = some d → lessPt d.x d.y x y = true) ∧ (∀ (k : Nat) (d : Pt), j ≤ k → L[k]? = some d → lessPt d.x d.y x y = false) ∧
    Below w.heap.size w wr ∧ wr.cell? ⟨w.heap.size, 0, none⟩ = some (.int .i64 x) ∧ wr.cell? ⟨w.heap.size, 1, none⟩ = some (.int .i64 y) ∧ w.heap.size < wr.heap.size)
  case atStart => exact ⟨0, n, by omega, by omega, by omega, rfl, rfl, fun k d hk => by omega, fun k d hk hd => by have := lt_of_get hd; omega, by repeat (first | with_reducible (first | exact bl_refl _ | assumption | refine bl_al ?_ _ | refine bl_dr ?_ | refine bl_tr ?_ (by assumption) | refine bl_set ?_ ?_ _ | exact Nat.le_refl _) | omega | (simp only [World.size_alloc, World.size_setCell, World.size_drew] at *; omega) | (dsimp only; omega) | (simp; done) | (simp; omega)), by go_simp, by go_simp, by simp⟩
  case round =>
    obtain ⟨i, j, hg, hij, hjn, rfl, rfl, hloX, hhiX, hbw, hx0, hx1, hsz⟩ := hrel
    have hlo := Lib.hid hloX
    have hhi := Lib.hid hhiX
    clear hloX hhiX
    have g2 := h2.below RPt.stable hbw
    by_cases hlt2 : i < j
    · obtain ⟨b, o, rfl, hb, hc⟩ := g2.ptr (by omega)
      obtain ⟨m, hm⟩ : ∃ m : Nat, m = (i + j) / 2 := ⟨_, rfl⟩
      have hm1 : i ≤ m := by omega
      have hm2 : m < j := by omega
      have hmi : ((i : Int) + (j : Int)) / 2 = (m : Int) := by omega
      have hmn : m < n := by omega
      clear hm
      obtain ⟨e, he⟩ := g2.get (k := m) (by omega)
      obtain ⟨c0, c1⟩ := hc m e he
      have he := Lib.hid he
      clear hc g2
      cases hl4 : lessPt e.x e.y x y
      · have hcz : decide (cmpPt e.x e.y x y < 0) = false := hl4
        go_wp2
        refine wp_region_ord [(0, .q), (1, .q), (2, .q), (3, .q), (4, .q), (5, .q), (6, .g), (7, .q)] (by kernel_rfl) (by kernel_rfl) ?_
        simp only [pick, List.filterMap_cons, List.filterMap_nil, List.getElem?_toArray, List.getElem?_cons_zero, List.getElem?_cons_succ, Option.map_some]
        repeat (first
          | ((with_reducible refine wpD_p (fun K hK => ?_)); go_simp; refine hK _ ?_; clear hK K)
          | ((with_reducible refine wpD_q (fun K hK => ?_)); go_simp; (first | refine hK _ ?_ | (go_bits; refine hK _ ?_) | (go_bits; go_simp; refine hK _ ?_)); clear hK K)
          | ((with_reducible refine wpD_g (fun K hK => ?_)); go_simp; refine hK _ _ ?_; clear hK K)
          | ((with_reducible refine wpD_g (fun K hK => ?_)); go_simp; refine ⟨Grew.of_alloc _, hK _ _ ?_⟩; clear hK K)
          | ((with_reducible refine wpD_g (fun K hK => ?_)); go_simp; go_at_call 150; refine (comparePointsP_at (e := e)).mono ?_; rintro e w1 ⟨rfl, hb1⟩; refine ⟨_, rfl, hb1, hK _ _ ?_⟩; clear hK K; obtain ⟨chb1, fhb1, shb1, thb1⟩ := bcell hb1))
        with_reducible refine wpD_nil ?_
        go_wp2
        go_roundg (m - i)
        case measure => omega
        case rel => exact ⟨i, m, by omega, hm1, by omega, rfl, rfl, hlo.out, fun k d hk hd => (by
            rcases Nat.lt_or_ge m k with hmk | hmk
            · cases hh : lessPt d.x d.y x y with
              | false => rfl
              | true => rw [← hl4]; exact (ltP_trans (hS.get hmk he.out hd) (show ltP d ⟨x, y⟩ from hh)).symm
            · obtain rfl : m = k := by omega
              rw [he.out] at hd
              obtain rfl := Option.some.inj hd
              exact hl4), by repeat (first | with_reducible (first | exact bl_refl _ | assumption | refine bl_al ?_ _ | refine bl_dr ?_ | refine bl_tr ?_ (by assumption) | refine bl_set ?_ ?_ _ | exact Nat.le_refl _) | omega | (simp only [World.size_alloc, World.size_setCell, World.size_drew] at *; omega) | (dsimp only; omega) | (simp; done) | (simp; omega)), (hb1.cell (p := ⟨w.heap.size, 0, none⟩) hsz).trans hx0, (hb1.cell (p := ⟨w.heap.size, 1, none⟩) hsz).trans hx1, Nat.lt_of_lt_of_le hsz hb1.size⟩
      · have hcz : decide (cmpPt e.x e.y x y < 0) = true := hl4
        go_wp2
        refine wp_region_ord [(0, .q), (1, .q), (2, .q), (3, .q), (4, .q), (5, .q), (6, .g), (7, .q)] (by kernel_rfl) (by kernel_rfl) ?_
        simp only [pick, List.filterMap_cons, List.filterMap_nil, List.getElem?_toArray, List.getElem?_cons_zero, List.getElem?_cons_succ, Option.map_some]
        repeat (first
          | ((with_reducible refine wpD_p (fun K hK => ?_)); go_simp; refine hK _ ?_; clear hK K)
          | ((with_reducible refine wpD_q (fun K hK => ?_)); go_simp; (first | refine hK _ ?_ | (go_bits; refine hK _ ?_) | (go_bits; go_simp; refine hK _ ?_)); clear hK K)
          | ((with_reducible refine wpD_g (fun K hK => ?_)); go_simp; refine hK _ _ ?_; clear hK K)
          | ((with_reducible refine wpD_g (fun K hK => ?_)); go_simp; refine ⟨Grew.of_alloc _, hK _ _ ?_⟩; clear hK K)
          | ((with_reducible refine wpD_g (fun K hK => ?_)); go_simp; go_at_call 150; refine (comparePointsP_at (e := e)).mono ?_; rintro e w1 ⟨rfl, hb1⟩; refine ⟨_, rfl, hb1, hK _ _ ?_⟩; clear hK K; obtain ⟨chb1, fhb1, shb1, thb1⟩ := bcell hb1))
        with_reducible refine wpD_nil ?_
        go_wp2
        go_roundg (j - (m + 1))
        case measure => omega
        case rel => exact ⟨m + 1, j, by omega, hm2, by omega, by go_num, rfl, fun k d hk hd => (by
            rcases Nat.lt_or_ge k m with hmk | hmk
            · exact ltP_trans (hS.get hmk hd he.out) (show ltP e ⟨x, y⟩ from hl4)
            · obtain rfl : m = k := by omega
              rw [he.out] at hd
              obtain rfl := Option.some.inj hd
              exact hl4), hhi.out, by repeat (first | with_reducible (first | exact bl_refl _ | assumption | refine bl_al ?_ _ | refine bl_dr ?_ | refine bl_tr ?_ (by assumption) | refine bl_set ?_ ?_ _ | exact Nat.le_refl _) | omega | (simp only [World.size_alloc, World.size_setCell, World.size_drew] at *; omega) | (dsimp only; omega) | (simp; done) | (simp; omega)), (hb1.cell (p := ⟨w.heap.size, 0, none⟩) hsz).trans hx0, (hb1.cell (p := ⟨w.heap.size, 1, none⟩) hsz).trans hx1, Nat.lt_of_lt_of_le hsz hb1.size⟩
    · obtain rfl : i = j := by omega
      by_cases hin : i < n
      · obtain ⟨b, o, rfl, hb, hc⟩ := g2.ptr (by omega)
        obtain ⟨e, he⟩ := g2.get (k := i) (by omega)
        obtain ⟨c0, c1⟩ := hc i e he
        have he := Lib.hid he
        clear hc g2
        by_cases hxy : e.x = x ∧ e.y = y
        · have hcz : (cmpPt e.x e.y x y == 0) = true := by rw [cmpPt_zero]; exact decide_eq_true hxy
          have hP := Lib.hid (show Stop L x y i true from ⟨by omega, hlo.out, hhi.out, fun _ => by rw [he.out]; obtain ⟨rfl, rfl⟩ := hxy; rfl, fun hh => by cases hh⟩)
          clear hxy
          go_wp2
          refine wp_region_ord [(0, .q), (1, .q), (2, .q), (3, .q), (4, .q), (5, .q), (6, .q), (7, .q), (8, .q), (9, .q), (10, .q), (11, .g), (12, .q), (13, .q), (14, .q), (15, .q)] (by kernel_rfl) (by kernel_rfl) ?_
          simp only [pick, List.filterMap_cons, List.filterMap_nil, List.getElem?_toArray, List.getElem?_cons_zero, List.getElem?_cons_succ, Option.map_some]
          repeat (first
            | ((with_reducible refine wpD_p (fun K hK => ?_)); go_simp; refine hK _ ?_; clear hK K)
            | ((with_reducible refine wpD_q (fun K hK => ?_)); go_simp; (first | refine hK _ ?_ | (go_bits; refine hK _ ?_) | (go_bits; go_simp; refine hK _ ?_)); clear hK K)
            | ((with_reducible refine wpD_g (fun K hK => ?_)); go_simp; refine hK _ _ ?_; clear hK K)
            | ((with_reducible refine wpD_g (fun K hK => ?_)); go_simp; refine ⟨Grew.of_alloc _, hK _ _ ?_⟩; clear hK K)
            | ((with_reducible refine wpD_g (fun K hK => ?_)); go_simp; go_at_call 150; refine (comparePointsP_at (e := e)).mono ?_; rintro e w1 ⟨rfl, hb1⟩; refine ⟨_, rfl, hb1, hK _ _ ?_⟩; clear hK K; obtain ⟨chb1, fhb1, shb1, thb1⟩ := bcell hb1))
          with_reducible refine wpD_nil ?_
          go_wp2
          go_ret2
          exact ⟨_, _, rfl, hP.out, by repeat (first | with_reducible (first | exact bl_refl _ | assumption | refine bl_al ?_ _ | refine bl_dr ?_ | refine bl_tr ?_ (by assumption) | refine bl_set ?_ ?_ _ | exact Nat.le_refl _) | omega | (simp only [World.size_alloc, World.size_setCell, World.size_drew] at *; omega) | (dsimp only; omega) | (simp; done) | (simp; omega))⟩
        · have hcz : (cmpPt e.x e.y x y == 0) = false := by rw [cmpPt_zero]; exact decide_eq_false hxy
          have hP := Lib.hid (show Stop L x y i false from ⟨by omega, hlo.out, hhi.out, fun hh => (by cases hh), fun _ => stop_no hS hlo.out hhi.out (fun d hd => by rw [he.out] at hd; obtain rfl := Option.some.inj hd; exact hxy)⟩)
          clear hxy
          go_wp2
          refine wp_region_ord [(0, .q), (1, .q), (2, .q), (3, .q), (4, .q), (5, .q), (6, .q), (7, .q), (8, .q), (9, .q), (10, .q), (11, .g), (12, .q), (13, .q), (14, .q), (15, .q)] (by kernel_rfl) (by kernel_rfl) ?_
          simp only [pick, List.filterMap_cons, List.filterMap_nil, List.getElem?_toArray, List.getElem?_cons_zero, List.getElem?_cons_succ, Option.map_some]
          repeat (first
            | ((with_reducible refine wpD_p (fun K hK => ?_)); go_simp; refine hK _ ?_; clear hK K)
            | ((with_reducible refine wpD_q (fun K hK => ?_)); go_simp; (first | refine hK _ ?_ | (go_bits; refine hK _ ?_) | (go_bits; go_simp; refine hK _ ?_)); clear hK K)
            | ((with_reducible refine wpD_g (fun K hK => ?_)); go_simp; refine hK _ _ ?_; clear hK K)
            | ((with_reducible refine wpD_g (fun K hK => ?_)); go_simp; refine ⟨Grew.of_alloc _, hK _ _ ?_⟩; clear hK K)
            | ((with_reducible refine wpD_g (fun K hK => ?_)); go_simp; go_at_call 150; refine (comparePointsP_at (e := e)).mono ?_; rintro e w1 ⟨rfl, hb1⟩; refine ⟨_, rfl, hb1, hK _ _ ?_⟩; clear hK K; obtain ⟨chb1, fhb1, shb1, thb1⟩ := bcell hb1))
          with_reducible refine wpD_nil ?_
          go_wp2
          go_ret2
          exact ⟨_, _, rfl, hP.out, by repeat (first | with_reducible (first | exact bl_refl _ | assumption | refine bl_al ?_ _ | refine bl_dr ?_ | refine bl_tr ?_ (by assumption) | refine bl_set ?_ ?_ _ | exact Nat.le_refl _) | omega | (simp only [World.size_alloc, World.size_setCell, World.size_drew] at *; omega) | (dsimp only; omega) | (simp; done) | (simp; omega))⟩
      · have hP := Lib.hid (show Stop L x y i false from ⟨by omega, hlo.out, hhi.out, fun hh => (by cases hh), fun _ => stop_no hS hlo.out hhi.out (fun d hd => by have := lt_of_get hd; omega)⟩)
        clear g2
        go_wp2
        refine wp_region_ord [(0, .q), (1, .q), (2, .q), (3, .q), (4, .q), (5, .q), (6, .q), (7, .q), (8, .q), (9, .q), (10, .q), (11, .g), (12, .q), (13, .q), (14, .q), (15, .q)] (by kernel_rfl) (by kernel_rfl) ?_
        simp only [pick, List.filterMap_cons, List.filterMap_nil, List.getElem?_toArray, List.getElem?_cons_zero, List.getElem?_cons_succ, Option.map_some]
        repeat (first
          | ((with_reducible refine wpD_p (fun K hK => ?_)); go_simp; refine hK _ ?_; clear hK K)
          | ((with_reducible refine wpD_q (fun K hK => ?_)); go_simp; (first | refine hK _ ?_ | (go_bits; refine hK _ ?_) | (go_bits; go_simp; refine hK _ ?_)); clear hK K)
          | ((with_reducible refine wpD_g (fun K hK => ?_)); go_simp; refine hK _ _ ?_; clear hK K)
          | ((with_reducible refine wpD_g (fun K hK => ?_)); go_simp; refine ⟨Grew.of_alloc _, hK _ _ ?_⟩; clear hK K)
          | ((with_reducible refine wpD_g (fun K hK => ?_)); go_simp; go_at_call 150; refine (comparePoints_any _ _ _ _ _).mono ?_; rintro e w1 ⟨rfl, hb1⟩; refine ⟨_, rfl, hb1, hK _ _ ?_⟩; clear hK K; obtain ⟨chb1, fhb1, shb1, thb1⟩ := bcell hb1))
        with_reducible refine wpD_nil ?_
        go_wp2
        go_ret2
        exact ⟨_, _, rfl, hP.out, by repeat (first | with_reducible (first | exact bl_refl _ | assumption | refine bl_al ?_ _ | refine bl_dr ?_ | refine bl_tr ?_ (by assumption) | refine bl_set ?_ ?_ _ | exact Nat.le_refl _) | omega | (simp only [World.size_alloc, World.size_setCell, World.size_drew] at *; omega) | (dsimp only; omega) | (simp; done) | (simp; omega))⟩
theorem isIn_at {A : Option Addr} {n c : Nat} {L : List Pt} {x y : Int} {w : World} (h2 : RdSl 2 RPt w A n L) (hS : SortS L) (h5 : n ≤ 100000) {r : Bool} (hr : decide ((⟨x, y⟩ : Pt) ∈ L) = r) :
    Calls Tryz.prog 132 #[.slice A n c, .agg #[.int .i64 x, .int .i64 y]] w fun e w' => e = .returned (.bool r) ∧ Below w.heap.size w w' := by
  
  have h2H := Lib.hid h2
  clear h2
  go_enter Tryz.func132, Tryz.ntmps132
  go_wp2_with fail
  refine (BinarySearchP_any _ _ _ L _ _ _ (h2H.out.below RPt.stable (by repeat (first | with_reducible (first | exact bl_refl _ | assumption | refine bl_al ?_ _ | refine bl_dr ?_ | refine bl_tr ?_ (by assumption) | refine bl_set ?_ ?_ _ | exact Nat.le_refl _) | omega | (simp only [World.size_alloc, World.size_setCell, World.size_drew] at *; omega) | (dsimp only; omega) | (simp; done) | (simp; omega)))) hS h5).mono ?_
  rintro e w1 ⟨i, b, rfl, hst, hb1⟩
  have hb := Lib.hid (hst.mem.trans hr)
  clear hst hr
  go_wp2
  go_ret
  exact ⟨ret_bool hb.out, by repeat (first | with_reducible (first | exact bl_refl _ | assumption | refine bl_al ?_ _ | refine bl_dr ?_ | refine bl_tr ?_ (by assumption) | refine bl_set ?_ ?_ _ | exact Nat.le_refl _) | omega | (simp only [World.size_alloc, World.size_setCell, World.size_drew] at *; omega) | (dsimp only; omega) | (simp; done) | (simp; omega))⟩
end Go.Proofs.YtglcpphfmmnmkaaGreat
/- Walks: whether a list of points is a wound. -/



namespace Go.Proofs.YtglcpphfmmnmkaaGreat
open Go.RowKit Go.Shelf
attribute [local go_sem] BelowBy.cell BelowBy.cell_drew stillUpon givesUpon BelowBy.cell_drew2 BelowBy.cell_drew3

def woundAt (L ps : List Pt) (i : Nat) : Bool := match ps[i]? with
  | none => true
  | some p => decide (p ∈ L) && (match i with
    | 0 => true
    | k + 1 => match ps[k]? with
      | none => true
      | some d => lessPt d.x d.y p.x p.y)
def woundB (L ps : List Pt) : Bool := allB ps.length (woundAt L ps)
theorem woundAt_out {L ps : List Pt} {i : Nat} {p : Pt} (hp : ps[i]? = some p) (h : decide (p ∈ L) = false) : woundAt L ps i = false := by
  unfold woundAt; rw [hp]; simp only [h, Bool.false_and]
theorem woundAt_zero {L ps : List Pt} {p : Pt} (hp : ps[0]? = some p) (h : decide (p ∈ L) = true) : woundAt L ps 0 = true := by
  unfold woundAt; rw [hp]; simp only [h, Bool.true_and]
theorem woundAt_succ {L ps : List Pt} {k : Nat} {p d : Pt} (hp : ps[k + 1]? = some p) (hd : ps[k]? = some d) (h : decide (p ∈ L) = true) : woundAt L ps (k + 1) = lessPt d.x d.y p.x p.y := by
  unfold woundAt; rw [hp]; simp only [h, hd, Bool.true_and]
theorem woundB_mem {L ps : List Pt} (h : woundB L ps = true) : ∀ p ∈ ps, p ∈ L := by
  intro p hp
  obtain ⟨i, hi, rfl⟩ := List.mem_iff_getElem.1 hp
  have := allB_at h hi
  unfold woundAt at this
  rw [List.getElem?_eq_getElem hi] at this
  simp only [Bool.and_eq_true, decide_eq_true_eq] at this
  exact this.1
theorem woundB_sorted {L ps : List Pt} (h : woundB L ps = true) : SortS ps := by
  have step : ∀ k, k + 1 < ps.length → ∀ d p, ps[k]? = some d → ps[k + 1]? = some p → ltP d p := fun k hk d p hd hp => by
    have := allB_at h hk
    unfold woundAt at this
    rw [hp] at this
    simp only [hd, Bool.and_eq_true] at this
    exact this.2
  have key : ∀ j i, i < j → j < ps.length → ∀ d p, ps[i]? = some d → ps[j]? = some p → ltP d p := by
    intro j
    induction j with
    | zero => intro i hi; omega
    | succ j ih =>
      intro i hi hj d p hd hp
      obtain ⟨c, hc⟩ : ∃ c, ps[j]? = some c := ⟨_, List.getElem?_eq_getElem (by omega)⟩
      have h2 := step j hj c p hc hp
      rcases Nat.lt_succ_iff_lt_or_eq.1 hi with hi | rfl
      · exact ltP_trans (ih i hi (by omega) d c hd hc) h2
      · rw [hd] at hc; obtain rfl := Option.some.inj hc; exact h2
  exact List.pairwise_iff_getElem.2 fun i j hi hj hij => key j i hij hj _ _ (List.getElem?_eq_getElem hi) (List.getElem?_eq_getElem hj)
theorem sub_len : ∀ {L M : List Pt}, SortS L → SortS M → (∀ p ∈ M, p ∈ L) → M.length ≤ L.length
  | [], [], _, _, _ => Nat.le_refl _
  | [], b :: m, _, _, h => by have := h b (by simp); simp at this
  | a :: l, [], _, _, _ => by simp
  | a :: l, b :: m, hL, hM, h => by
    obtain ⟨h1, h2⟩ := List.pairwise_cons.1 hL
    obtain ⟨k1, k2⟩ := List.pairwise_cons.1 hM
    by_cases hab : a = b
    · subst hab
      have := sub_len h2 k2 (fun p hp => by
        rcases List.mem_cons.1 (h p (by simp [hp])) with e | e
        · subst e; exact (ltP_irrefl _ (k1 _ hp)).elim
        · exact e)
      simp; omega
    · have hb : b ∈ l := by
        rcases List.mem_cons.1 (h b (by simp)) with e | e
        · exact (hab e.symm).elim
        · exact e
      have := sub_len h2 hM (fun p hp => by
        rcases List.mem_cons.1 (h p hp) with e | e
        · subst e
          rcases List.mem_cons.1 hp with e' | e'
          · exact (hab e').elim
          · exact (ltP_asymm (h1 b hb) (k1 _ e')).elim
        · exact e)
      simp at this ⊢; omega
theorem soft_iff {gs : List Gl} {ts : List Ti} {xs ys : List Pl} (hV : Valid gs ts ys) (p : Pt) : p ∈ softL xs ys ys.length ↔ ∃ (k : Nat) (e : Pl), placeI ys p.x p.y = (k : Int) ∧ ys[k]? = some e ∧ seedB xs e = false := by
  rw [softL_mem]
  constructor
  · rintro ⟨j, e, hj, he, hs, rfl⟩
    exact ⟨j, e, (IsPlace.eq hV (place_found he rfl rfl)).symm, he, hs⟩
  · rintro ⟨k, e, hk, he, hs⟩
    refine ⟨k, e, lt_of_get he, he, hs, ?_⟩
    have h' : IsPlace ys p.x p.y (placeI ys p.x p.y) := by
      unfold placeI
      apply Classical.epsilon_spec
      by_cases hx : ∃ (k : Nat) (e : Pl), ys[k]? = some e ∧ e.x = p.x ∧ e.y = p.y
      · obtain ⟨k, e, h1, h2, h3⟩ := hx; exact ⟨_, Or.inr ⟨k, e, rfl, h1, h2, h3⟩⟩
      · exact ⟨-1, Or.inl ⟨rfl, fun k e h1 h2 => hx ⟨k, e, h1, h2⟩⟩⟩
    rcases h' with ⟨h1, _⟩ | ⟨k', e', h1, h2, h3, h4⟩
    · omega
    · obtain rfl : k = k' := by omega
      rw [he] at h2; obtain rfl := Option.some.inj h2
      rw [h3, h4]
theorem LessPointP_at {ax ay bx b_y : Int} {v : Bool} {w : World} (h : lessPt ax ay bx b_y = v) :
    Calls Tryz.prog 133 #[.agg #[.int .i64 ax, .int .i64 ay], .agg #[.int .i64 bx, .int .i64 b_y]] w fun e w' => e = .returned (.bool v) ∧ Below w.heap.size w w' := h ▸ LessPoint_any ax ay bx b_y w
set_option maxRecDepth 100000 in
set_option maxHeartbeats 4000000 in
theorem isWound_at {G T A C F : Option Addr} {n cg m ct q ca k cc np cp : Nat} {gs : List Gl} {ts : List Ti} {xs ys : List Pl} {t : Int} {ps : List Pt} {w : World} (h : SA w G n T m A q gs ts xs) (hV : Valid gs ts xs) (h2 : RdSl 3 RPl w C k ys) (hVy : Valid gs ts ys) (h3 : RdSl 2 RPt w F np ps) (hnp : np ≤ 1073741824) {r : Bool} (hr : woundB (softL xs ys ys.length) ps = r) :
    Calls Tryz.prog 90 #[.agg #[.slice G n cg, .slice T m ct, .slice A q ca, .int .i64 t], .agg #[.slice C k cc], .slice F np cp] w fun e w' => e = .returned (.bool r) ∧ Below w.heap.size w w' := by
  
  have hS := Lib.hid h
  have hC := Lib.hid h2
  have hF := Lib.hid h3
  have hkl := h2.len
  have hpl := h3.len
  have hk5 : k ≤ 500 := by rw [← hkl]; exact hVy.len
  have hsL := Lib.hid (softL_sorted hVy xs k)
  have hLl := softL_len xs ys k
  rw [hkl] at hr
  obtain ⟨L, hL⟩ : ∃ L, softL xs ys k = L := ⟨_, rfl⟩
  rw [hL] at hr hsL hLl
  have hrH := Lib.hid hr
  have hLH := Lib.hid hL
  clear h h2 h3 hr hL
  go_enter Tryz.func90, Tryz.ntmps90
  go_wp2_with fail
  refine (softL_any (hS.out.below (by repeat (first | with_reducible (first | exact bl_refl _ | assumption | refine bl_al ?_ _ | refine bl_dr ?_ | refine bl_tr ?_ (by assumption) | refine bl_set ?_ ?_ _ | exact Nat.le_refl _) | omega | (simp only [World.size_alloc, World.size_setCell, World.size_drew] at *; omega) | (dsimp only; omega) | (simp; done) | (simp; omega)))) hV (hC.out.below RPl.stable (by repeat (first | with_reducible (first | exact bl_refl _ | assumption | refine bl_al ?_ _ | refine bl_dr ?_ | refine bl_tr ?_ (by assumption) | refine bl_set ?_ ?_ _ | exact Nat.le_refl _) | omega | (simp only [World.size_alloc, World.size_setCell, World.size_drew] at *; omega) | (dsimp only; omega) | (simp; done) | (simp; omega)))) (by omega)).mono ?_
  rw [hLH.out]
  rintro e w1 ⟨v, rfl, hrow, hb1⟩
  obtain ⟨As, cs, rfl, hrd⟩ := rdPt_of_row hrow
  have hrdH := Lib.hid hrd
  have hB1 := Lib.hid (show Below w.heap.size w w1 by repeat (first | with_reducible (first | exact bl_refl _ | assumption | refine bl_al ?_ _ | refine bl_dr ?_ | refine bl_tr ?_ (by assumption) | refine bl_set ?_ ?_ _ | exact Nat.le_refl _) | omega | (simp only [World.size_alloc, World.size_setCell, World.size_drew] at *; omega) | (dsimp only; omega) | (simp; done) | (simp; omega)))
  have s1 := hB1.out.size
  clear hrow hrd hb1
  go_wp2
  go_loopg [15] np (fun g i wr => ∃ j : Nat, j + g = np ∧ i = .int .i64 (j : Int) ∧ Hid (∀ i, i < j → woundAt L ps i = true) ∧ Hid (Below w1.heap.size w1 wr))
  case atStart => exact ⟨0, by omega, rfl, Lib.hid (fun i hi => by omega), Lib.hid (bl_refl _)⟩
  case round =>
    obtain ⟨j, hj, rfl, hok, hbw⟩ := hrel
    have sw := hbw.out.size
    by_cases hjn : j < np
    · have hFw := hF.out.below RPt.stable (hB1.out.trans (hbw.out.mono s1))
      obtain ⟨p, hp⟩ := hFw.get hjn
      obtain ⟨b, o, hFe, hb, hc⟩ := hFw.ptr (by omega)
      subst hFe
      obtain ⟨c0, c1⟩ := hc j p hp
      have hpH := Lib.hid hp
      have hrw := Lib.hid (hrdH.out.below RPt.stable hbw.out)
      have hb' : b ≤ wr.heap.size := by omega
      cases hm : decide (p ∈ L)
      · have hmH := Lib.hid hm
        have hres := Lib.hid (show false = r by rw [← hrH.out]; unfold woundB; rw [allB_false (by rw [hpl]; exact hjn) (woundAt_out hp hm)])
        clear hc hp hFw hm
        go_wp2
        refine wp_region_ord [(0, .q), (1, .q), (2, .g), (3, .q), (4, .q), (5, .q), (6, .q), (7, .q), (8, .q), (9, .q), (10, .q), (11, .q), (12, .q), (13, .q), (14, .g), (15, .q), (16, .q), (17, .q)] (by kernel_rfl) (by kernel_rfl) ?_
        simp only [pick, List.filterMap_cons, List.filterMap_nil, List.getElem?_toArray, List.getElem?_cons_zero, List.getElem?_cons_succ, Option.map_some]
        repeat (first
          | ((with_reducible refine wpD_p (fun K hK => ?_)); go_simp; refine hK _ ?_; clear hK K)
          | ((with_reducible refine wpD_q (fun K hK => ?_)); go_simp; (first | refine hK _ ?_ | (go_bits; refine hK _ ?_) | (go_bits; go_simp; refine hK _ ?_)); clear hK K)
          | ((with_reducible refine wpD_g (fun K hK => ?_)); go_simp; refine hK _ _ ?_; clear hK K)
          | ((with_reducible refine wpD_g (fun K hK => ?_)); go_simp; refine ⟨Grew.of_alloc _, hK _ _ ?_⟩; clear hK K)
          | ((with_reducible refine wpD_g (fun K hK => ?_)); go_simp; go_at_call 132; refine (isIn_at (L := L) (x := p.x) (y := p.y) (hrw.out.below RPt.stable (by repeat (first | with_reducible (first | exact bl_refl _ | assumption | refine bl_al ?_ _ | refine bl_dr ?_ | refine bl_tr ?_ (by assumption) | refine bl_set ?_ ?_ _ | exact Nat.le_refl _) | omega | (simp only [World.size_alloc, World.size_setCell, World.size_drew] at *; omega) | (dsimp only; omega) | (simp; done) | (simp; omega)))) hsL.out (by omega) hmH.out).mono ?_; rintro e w2 ⟨rfl, hb2⟩; refine ⟨_, rfl, hb2, hK _ _ ?_⟩; clear hK K; obtain ⟨chb2, fhb2, shb2, thb2⟩ := bcell hb2))
        with_reducible refine wpD_nil ?_
        go_wp2
        go_ret
        exact ⟨ret_bool hres.out, hB1.out.trans (Below.mono (bl_tr hbw.out (show Below wr.heap.size wr w2 by repeat (first | with_reducible (first | exact bl_refl _ | assumption | refine bl_al ?_ _ | refine bl_dr ?_ | refine bl_tr ?_ (by assumption) | refine bl_set ?_ ?_ _ | exact Nat.le_refl _) | omega | (simp only [World.size_alloc, World.size_setCell, World.size_drew] at *; omega) | (dsimp only; omega) | (simp; done) | (simp; omega)))) s1)⟩
      · have hmH := Lib.hid hm
        cases j with
        | zero =>
          have hz := Lib.hid (woundAt_zero hp hm)
          simp only [Nat.zero_mul, Nat.add_zero] at c0 c1
          clear hc hp hFw hm
          go_wp2
          refine wp_region_ord [(0, .q), (1, .q), (2, .g), (3, .q), (4, .q), (5, .q), (6, .q), (7, .q), (8, .q), (9, .q), (10, .q), (11, .q), (12, .q), (13, .q), (14, .g), (15, .q), (16, .q), (17, .q)] (by kernel_rfl) (by kernel_rfl) ?_
          simp only [pick, List.filterMap_cons, List.filterMap_nil, List.getElem?_toArray, List.getElem?_cons_zero, List.getElem?_cons_succ, Option.map_some]
          repeat (first
            | ((with_reducible refine wpD_p (fun K hK => ?_)); go_simp; refine hK _ ?_; clear hK K)
            | ((with_reducible refine wpD_q (fun K hK => ?_)); go_simp; (first | refine hK _ ?_ | (go_bits; refine hK _ ?_) | (go_bits; go_simp; refine hK _ ?_)); clear hK K)
            | ((with_reducible refine wpD_g (fun K hK => ?_)); go_simp; refine hK _ _ ?_; clear hK K)
            | ((with_reducible refine wpD_g (fun K hK => ?_)); go_simp; refine ⟨Grew.of_alloc _, hK _ _ ?_⟩; clear hK K)
            | ((with_reducible refine wpD_g (fun K hK => ?_)); go_simp; go_at_call 132; refine (isIn_at (L := L) (x := p.x) (y := p.y) (hrw.out.below RPt.stable (by repeat (first | with_reducible (first | exact bl_refl _ | assumption | refine bl_al ?_ _ | refine bl_dr ?_ | refine bl_tr ?_ (by assumption) | refine bl_set ?_ ?_ _ | exact Nat.le_refl _) | omega | (simp only [World.size_alloc, World.size_setCell, World.size_drew] at *; omega) | (dsimp only; omega) | (simp; done) | (simp; omega)))) hsL.out (by omega) hmH.out).mono ?_; rintro e w2 ⟨rfl, hb2⟩; refine ⟨_, rfl, hb2, hK _ _ ?_⟩; clear hK K; obtain ⟨chb2, fhb2, shb2, thb2⟩ := bcell hb2))
          with_reducible refine wpD_nil ?_
          go_wp2
          go_roundg (np - (0 + 1))
          case measure => omega
          case rel => exact ⟨0 + 1, by omega, by go_num, Lib.hid (fun i hi => by obtain rfl : i = 0 := (by omega); exact hz.out), Lib.hid (bl_tr hbw.out (show Below wr.heap.size wr w2 by repeat (first | with_reducible (first | exact bl_refl _ | assumption | refine bl_al ?_ _ | refine bl_dr ?_ | refine bl_tr ?_ (by assumption) | refine bl_set ?_ ?_ _ | exact Nat.le_refl _) | omega | (simp only [World.size_alloc, World.size_setCell, World.size_drew] at *; omega) | (dsimp only; omega) | (simp; done) | (simp; omega))))⟩
        | succ j =>
          obtain ⟨d, hd⟩ := hFw.get (k := j) (by omega)
          obtain ⟨d0, d1⟩ := hc j d hd
          have hjl : j < np := by omega
          have hpos : (0 : Int) < (j : Int) + 1 := by omega
          cases hl : lessPt d.x d.y p.x p.y
          · have hres := Lib.hid (show false = r by rw [← hrH.out]; unfold woundB; rw [allB_false (by rw [hpl]; exact hjn) ((woundAt_succ hp hd hm).trans hl)])
            have hlH := Lib.hid hl
            clear hc hp hd hFw hm hl
            
            go_wp2
            refine wp_region_ord [(0, .q), (1, .q), (2, .g), (3, .q), (4, .q), (5, .q), (6, .q), (7, .q), (8, .q), (9, .q), (10, .q), (11, .q), (12, .q), (13, .q), (14, .g), (15, .q), (16, .q), (17, .q)] (by kernel_rfl) (by kernel_rfl) ?_
            simp only [pick, List.filterMap_cons, List.filterMap_nil, List.getElem?_toArray, List.getElem?_cons_zero, List.getElem?_cons_succ, Option.map_some]
            repeat (first
              | ((with_reducible refine wpD_p (fun K hK => ?_)); go_simp; refine hK _ ?_; clear hK K)
              | ((with_reducible refine wpD_q (fun K hK => ?_)); go_simp; (first | refine hK _ ?_ | (go_bits; refine hK _ ?_) | (go_bits; go_simp; refine hK _ ?_)); clear hK K)
              | ((with_reducible refine wpD_g (fun K hK => ?_)); go_simp; refine hK _ _ ?_; clear hK K)
              | ((with_reducible refine wpD_g (fun K hK => ?_)); go_simp; refine ⟨Grew.of_alloc _, hK _ _ ?_⟩; clear hK K)
              | ((with_reducible refine wpD_g (fun K hK => ?_)); go_simp; go_at_call 132; refine (isIn_at (L := L) (x := p.x) (y := p.y) (hrw.out.below RPt.stable (by repeat (first | with_reducible (first | exact bl_refl _ | assumption | refine bl_al ?_ _ | refine bl_dr ?_ | refine bl_tr ?_ (by assumption) | refine bl_set ?_ ?_ _ | exact Nat.le_refl _) | omega | (simp only [World.size_alloc, World.size_setCell, World.size_drew] at *; omega) | (dsimp only; omega) | (simp; done) | (simp; omega)))) hsL.out (by omega) hmH.out).mono ?_; rintro e w2 ⟨rfl, hb2⟩; refine ⟨_, rfl, hb2, hK _ _ ?_⟩; clear hK K; obtain ⟨chb2, fhb2, shb2, thb2⟩ := bcell hb2; (try have bhb20 := shb2 (b) (by go_simp)))
              | ((with_reducible refine wpD_g (fun K hK => ?_)); go_simp; go_at_call 133; refine (LessPointP_at hlH.out).mono ?_; rintro e w3 ⟨rfl, hb3⟩; refine ⟨_, rfl, hb3, hK _ _ ?_⟩; clear hK K; obtain ⟨chb3, fhb3, shb3, thb3⟩ := bcell hb3; (try have bhb30 := shb3 (b) (by go_simp))))
            with_reducible refine wpD_nil ?_
            
            go_wp2
            go_ret
            exact ⟨ret_bool hres.out, hB1.out.trans (Below.mono (bl_tr hbw.out (show Below wr.heap.size wr w3 by repeat (first | with_reducible (first | exact bl_refl _ | assumption | refine bl_al ?_ _ | refine bl_dr ?_ | refine bl_tr ?_ (by assumption) | refine bl_set ?_ ?_ _ | exact Nat.le_refl _) | omega | (simp only [World.size_alloc, World.size_setCell, World.size_drew] at *; omega) | (dsimp only; omega) | (simp; done) | (simp; omega)))) s1)⟩
          · have hz := Lib.hid ((woundAt_succ hp hd hm).trans hl)
            have hlH := Lib.hid hl
            clear hc hp hd hFw hm hl
            
            go_wp2
            refine wp_region_ord [(0, .q), (1, .q), (2, .g), (3, .q), (4, .q), (5, .q), (6, .q), (7, .q), (8, .q), (9, .q), (10, .q), (11, .q), (12, .q), (13, .q), (14, .g), (15, .q), (16, .q), (17, .q)] (by kernel_rfl) (by kernel_rfl) ?_
            simp only [pick, List.filterMap_cons, List.filterMap_nil, List.getElem?_toArray, List.getElem?_cons_zero, List.getElem?_cons_succ, Option.map_some]
            repeat (first
              | ((with_reducible refine wpD_p (fun K hK => ?_)); go_simp; refine hK _ ?_; clear hK K)
              | ((with_reducible refine wpD_q (fun K hK => ?_)); go_simp; (first | refine hK _ ?_ | (go_bits; refine hK _ ?_) | (go_bits; go_simp; refine hK _ ?_)); clear hK K)
              | ((with_reducible refine wpD_g (fun K hK => ?_)); go_simp; refine hK _ _ ?_; clear hK K)
              | ((with_reducible refine wpD_g (fun K hK => ?_)); go_simp; refine ⟨Grew.of_alloc _, hK _ _ ?_⟩; clear hK K)
              | ((with_reducible refine wpD_g (fun K hK => ?_)); go_simp; go_at_call 132; refine (isIn_at (L := L) (x := p.x) (y := p.y) (hrw.out.below RPt.stable (by repeat (first | with_reducible (first | exact bl_refl _ | assumption | refine bl_al ?_ _ | refine bl_dr ?_ | refine bl_tr ?_ (by assumption) | refine bl_set ?_ ?_ _ | exact Nat.le_refl _) | omega | (simp only [World.size_alloc, World.size_setCell, World.size_drew] at *; omega) | (dsimp only; omega) | (simp; done) | (simp; omega)))) hsL.out (by omega) hmH.out).mono ?_; rintro e w2 ⟨rfl, hb2⟩; refine ⟨_, rfl, hb2, hK _ _ ?_⟩; clear hK K; obtain ⟨chb2, fhb2, shb2, thb2⟩ := bcell hb2; (try have bhb20 := shb2 (b) (by go_simp)))
              | ((with_reducible refine wpD_g (fun K hK => ?_)); go_simp; go_at_call 133; refine (LessPointP_at hlH.out).mono ?_; rintro e w3 ⟨rfl, hb3⟩; refine ⟨_, rfl, hb3, hK _ _ ?_⟩; clear hK K; obtain ⟨chb3, fhb3, shb3, thb3⟩ := bcell hb3; (try have bhb30 := shb3 (b) (by go_simp))))
            with_reducible refine wpD_nil ?_
            
            go_wp2
            go_roundg (np - ((j + 1) + 1))
            case measure => omega
            case rel => exact ⟨(j + 1) + 1, by omega, by go_num, Lib.hid (fun i hi => by rcases Nat.lt_succ_iff_lt_or_eq.1 hi with hi | rfl; exact hok.out i hi; exact hz.out), Lib.hid (bl_tr hbw.out (show Below wr.heap.size wr w3 by repeat (first | with_reducible (first | exact bl_refl _ | assumption | refine bl_al ?_ _ | refine bl_dr ?_ | refine bl_tr ?_ (by assumption) | refine bl_set ?_ ?_ _ | exact Nat.le_refl _) | omega | (simp only [World.size_alloc, World.size_setCell, World.size_drew] at *; omega) | (dsimp only; omega) | (simp; done) | (simp; omega))))⟩
    · obtain rfl : j = np := by omega
      have hres := Lib.hid (show true = r by rw [← hrH.out]; unfold woundB; rw [hpl]; exact (allB_true hok.out).symm)
      go_wp2
      go_ret
      exact ⟨ret_bool hres.out, hB1.out.trans (hbw.out.mono s1)⟩
end Go.Proofs.YtglcpphfmmnmkaaGreat
/- Plain: what is left when points are removed one by one. -/


namespace Go.Proofs.YtglcpphfmmnmkaaGreat
open Go.RowKit
def restP (ps : List Pt) (ys : List Pl) (j : Nat) : List Pl := ys.filter fun b => !delP (ps.take j) b
theorem restP_zero (ps : List Pt) (ys : List Pl) : restP ps ys 0 = ys := by
  unfold restP
  rw [List.filter_eq_self]
  intro b _
  simp [delP]
theorem restP_all (ps : List Pt) (ys : List Pl) : restP ps ys ps.length = ys.filter fun b => !delP ps b := by simp [restP]
theorem keepP_whole (ps : List Pt) (ys : List Pl) : keepP ps ys ys.length = ys.filter fun b => !delP ps b := by simp [keepP]
theorem Valid.filter {gs : List Gl} {ts : List Ti} {ys : List Pl} (hV : Valid gs ts ys) (f : Pl → Bool) : Valid gs ts (ys.filter f) := by
  have hin : ∀ (k : Nat) (e : Pl), (ys.filter f)[k]? = some e → ∃ k' : Nat, ys[k']? = some e := fun k e h => List.getElem?_of_mem (List.mem_filter.1 (List.mem_of_getElem? h)).1
  refine ⟨Nat.le_trans (List.length_filter_le _ _) hV.len, hV.gl, hV.tl, fun k e h => ?_, fun k e h => ?_, ?_, hV.four, hV.side, hV.str⟩
  · obtain ⟨k', h'⟩ := hin k e h; exact hV.pt k' e h'
  · obtain ⟨k', h'⟩ := hin k e h; exact hV.ti k' e h'
  · have hp : List.Pairwise (fun d e : Pl => lessPt d.x d.y e.x e.y = true) ys := List.pairwise_iff_getElem.2 fun i j hi hj hij => hV.sorted i j _ _ hij (List.getElem?_eq_getElem hi) (List.getElem?_eq_getElem hj)
    have hq := List.pairwise_iff_getElem.1 (hp.filter f)
    intro i j d e hij hd he
    obtain ⟨hi, rfl⟩ := List.getElem?_eq_some_iff.1 hd
    obtain ⟨hj, rfl⟩ := List.getElem?_eq_some_iff.1 he
    exact hq i j hi hj hij
theorem erase_place {gs : List Gl} {ts : List Ti} {zs : List Pl} (hZ : Valid gs ts zs) {kk : Nat} {e : Pl} (hk : zs[kk]? = some e) : zs.take kk ++ zs.drop (kk + 1) = zs.filter fun b => !decide (b.x = e.x ∧ b.y = e.y) := by
  have hlt := lt_of_get hk
  have hd : zs.drop kk = e :: zs.drop (kk + 1) := by
    rw [List.drop_eq_getElem_cons hlt]
    rw [List.getElem?_eq_getElem hlt] at hk
    rw [Option.some.inj hk]
  have hne : ∀ (k : Nat) (d : Pl), k ≠ kk → zs[k]? = some d → (!decide (d.x = e.x ∧ d.y = e.y)) = true := fun k d hkk hd => by
    have : ¬ (d.x = e.x ∧ d.y = e.y) := fun ⟨h1, h2⟩ => by
      rcases Nat.lt_or_gt_of_ne hkk with h | h
      · have := hZ.sorted k kk d e h hd hk
        rw [h1, h2] at this
        exact ltP_irrefl ⟨e.x, e.y⟩ this
      · have := hZ.sorted kk k e d h hk hd
        rw [h1, h2] at this
        exact ltP_irrefl ⟨e.x, e.y⟩ this
    rw [decide_eq_false this]; rfl
  conv => rhs; rw [← List.take_append_drop kk zs, List.filter_append, hd]
  rw [List.filter_cons_of_neg (by simp), List.filter_eq_self.2 (fun b hb => by
      obtain ⟨k, h⟩ := List.getElem?_of_mem hb
      rw [List.getElem?_take] at h
      split at h
      · exact hne k b (by omega) h
      · cases h), List.filter_eq_self.2 (fun b hb => by
      obtain ⟨k, h⟩ := List.getElem?_of_mem hb
      rw [List.getElem?_drop] at h
      exact hne _ b (by omega) h)]
theorem restP_step {gs : List Gl} {ts : List Ti} {ys : List Pl} (hV : Valid gs ts ys) {ps : List Pt} (hS : SortS ps) {j : Nat} {p : Pt} (hp : ps[j]? = some p) (hm : ∃ e ∈ ys, e.x = p.x ∧ e.y = p.y) :
    ∃ kk : Nat, placeI (restP ps ys j) p.x p.y = (kk : Int) ∧ kk < (restP ps ys j).length ∧ (restP ps ys j).take kk ++ (restP ps ys j).drop (kk + 1) = restP ps ys (j + 1) := by
  obtain ⟨e, hye, hx, hy⟩ := hm
  have hpe : (⟨e.x, e.y⟩ : Pt) = p := by rw [hx, hy]
  have hin : e ∈ restP ps ys j := by
    unfold restP
    rw [List.mem_filter]
    refine ⟨hye, ?_⟩
    have : ¬ (⟨e.x, e.y⟩ : Pt) ∈ ps.take j := fun h => by
      rw [hpe] at h
      obtain ⟨i, hi⟩ := List.getElem?_of_mem h
      rw [List.getElem?_take] at hi
      split at hi
      · exact ltP_irrefl p (hS.get (by omega) hi hp)
      · cases hi
    unfold delP
    simpa using this
  obtain ⟨kk, hk⟩ := List.getElem?_of_mem hin
  have hZ : Valid gs ts (restP ps ys j) := hV.filter _
  refine ⟨kk, (IsPlace.eq hZ (place_found hk hx hy)).symm, lt_of_get hk, ?_⟩
  rw [erase_place hZ hk]
  unfold restP
  rw [List.filter_filter]
  congr 1
  funext b
  unfold delP
  rw [List.take_add_one, hp]
  have : (⟨b.x, b.y⟩ : Pt) = p ↔ b.x = e.x ∧ b.y = e.y := by rw [← hpe]; simp
  have e1 : ((⟨b.x, b.y⟩ : Pt) ∈ ps.take j ++ (some p).toList) ↔ ((⟨b.x, b.y⟩ : Pt) ∈ ps.take j ∨ (b.x = e.x ∧ b.y = e.y)) := by rw [List.mem_append, ← this]; simp
  have e2 : decide ((⟨b.x, b.y⟩ : Pt) ∈ ps.take j ++ (some p).toList) = (decide ((⟨b.x, b.y⟩ : Pt) ∈ ps.take j) || decide (b.x = e.x ∧ b.y = e.y)) := by rw [decide_eq_decide.2 e1, Bool.decide_or]
  rw [e2]
  cases decide ((⟨b.x, b.y⟩ : Pt) ∈ ps.take j) <;> cases decide (b.x = e.x ∧ b.y = e.y) <;> rfl
open Classical in
noncomputable def remR (gs : List Gl) (ts : List Ti) (xs : List Pl) (t : Int) (ys : List Pl) (ps : List Pt) : List Pl × Int :=
  if overI gs ts xs t ys = 0 then (if woundB (softL xs ys ys.length) ps = true then (ys.filter fun b => !delP ps b, 0) else ([], 2)) else ([], overI gs ts xs t ys)
theorem remR_no {gs : List Gl} {ts : List Ti} {xs : List Pl} {t r : Int} {ys : List Pl} (ps : List Pt) (h : overI gs ts xs t ys = r) (hr : r ≠ 0) : ([], r) = remR gs ts xs t ys ps := by
  unfold remR; rw [h, if_neg hr]
theorem remR_un {gs : List Gl} {ts : List Ti} {xs : List Pl} {t : Int} {ys : List Pl} {ps : List Pt} (h : overI gs ts xs t ys = 0) (hw : woundB (softL xs ys ys.length) ps = false) : ([], 2) = remR gs ts xs t ys ps := by
  unfold remR; rw [h, hw, if_pos rfl, if_neg (by decide)]
theorem remR_yes {gs : List Gl} {ts : List Ti} {xs : List Pl} {t : Int} {ys : List Pl} {ps : List Pt} (h : overI gs ts xs t ys = 0) (hw : woundB (softL xs ys ys.length) ps = true) : (ys.filter fun b => !delP ps b, 0) = remR gs ts xs t ys ps := by
  unfold remR; rw [h, hw, if_pos rfl, if_pos rfl]
theorem remR_len (gs : List Gl) (ts : List Ti) (xs : List Pl) (t : Int) (ys : List Pl) (ps : List Pt) : (remR gs ts xs t ys ps).1.length ≤ 1073741824 := by
  by_cases h : overI gs ts xs t ys = 0
  · cases hw : woundB (softL xs ys ys.length) ps
    · rw [← remR_un h hw]; simp
    · rw [← remR_yes h hw]
      have := (valid_of (growB_true (overI_zero h).1).2).len
      have := List.length_filter_le (fun b => !delP ps b) ys
      simp only
      omega
  · rw [← remR_no ps rfl h]; simp
end Go.Proofs.YtglcpphfmmnmkaaGreat
/- Walk: RemovePoints, the program. -/


namespace Go.Proofs.YtglcpphfmmnmkaaGreat
open Go.RowKit Go.Shelf
attribute [local go_sem] BelowBy.cell BelowBy.cell_drew stillUpon givesUpon BelowBy.cell_drew2 BelowBy.cell_drew3

def AsmOnly (w : World) (l : List Pl) (e : Ending) (w' : World) : Prop :=
  ∃ A c, e = .returned (.agg #[.slice A l.length c]) ∧ w'.ownsRow w.heap.size 100 3 (.slice A l.length c) l.length (plCells l) ∧ Below w.heap.size w w'
theorem AsmOnly.of {w w' : World} {l bs : List Pl} {n : Nat} {A : Option Addr} {cap : Nat} (h : bs = l) (hn : n = bs.length) (hr : w'.ownsRow w.heap.size 100 3 (.slice A n cap) n (plCells bs)) (hb : Below w.heap.size w w') : AsmOnly w l (.returned (.agg #[.slice A n cap])) w' := by
  subst h hn
  exact ⟨A, cap, rfl, hr, hb⟩
set_option maxRecDepth 100000 in
set_option maxHeartbeats 2000000 in
theorem without_any {C F : Option Addr} {k cc np cp : Nat} {ys : List Pl} {ps : List Pt} {w : World} (h2 : RdSl 3 RPl w C k ys) (hk : k ≤ 100000) (h3 : RdSl 2 RPt w F np ps) (hnp : np ≤ 1073741824) :
    Calls Tryz.prog 44 #[.agg #[.slice C k cc], .slice F np cp] w (AsmOnly w (ys.filter fun b => !delP ps b)) := by
  
  have hkl := h2.len
  have hC := Lib.hid h2
  have hF := Lib.hid h3
  have hPb : 0 < np → ∀ b o, F = some ⟨b, o, none⟩ → b < w.heap.size := fun h0 b o he => by
    obtain ⟨b', o', e, hb, _⟩ := h3.ptr h0
    rw [he] at e
    injection e with e
    injection e with e1 e2 e3
    omega
  have hPbH := Lib.hid hPb
  have hyk : ys.length ≤ 100000 := by omega
  clear h2 h3 hPb
  go_enter Tryz.func44, Tryz.ntmps44
  go_wp2_with fail
  refine (CloneP_any C k cc ys _ (hC.out.below RPl.stable (by repeat (first | with_reducible (first | exact bl_refl _ | assumption | refine bl_al ?_ _ | refine bl_dr ?_ | refine bl_tr ?_ (by assumption) | refine bl_set ?_ ?_ _ | exact Nat.le_refl _) | omega | (simp only [World.size_alloc, World.size_setCell, World.size_drew] at *; omega) | (dsimp only; omega) | (simp; done) | (simp; omega)))) hk).mono ?_
  rintro e w1 ⟨v, rfl, hrow, hb1⟩
  have hrowH := Lib.hid hrow
  have s1 := hb1.size
  simp only [World.size_alloc] at s1
  have hc1 := (hb1.cell (p := ⟨w.heap.size + 1, 0, none⟩) (by simp)).trans (show _ = some (Value.slice F np cp) by go_simp)
  have hB1 := Lib.hid (show Below w.heap.size w w1 by repeat (first | with_reducible (first | exact bl_refl _ | assumption | refine bl_al ?_ _ | refine bl_dr ?_ | refine bl_tr ?_ (by assumption) | refine bl_set ?_ ?_ _ | exact Nat.le_refl _) | omega | (simp only [World.size_alloc, World.size_setCell, World.size_drew] at *; omega) | (dsimp only; omega) | (simp; done) | (simp; omega)))
  have z0 := (hb1.cell (p := ⟨w.heap.size, 0, none⟩) (by simp; omega)).trans (show _ = some (Value.slice C k cc) by go_simp)
  have q0 := (hb1.cell (p := ⟨w.heap.size + 2, 0, none⟩) (by simp)).trans (show _ = some (Value.slice none 0 0) by go_simp)
  have q1 := (hb1.frozen (p := ⟨w.heap.size + 2, 0, none⟩) (by simp)).trans (show _ = false by go_simp)
  have b0 : w.heap.size < w1.heap.size := by omega
  have b1 : w.heap.size + 1 < w1.heap.size := by omega
  have b2 : w.heap.size + 2 < w1.heap.size := by omega
  clear hrow
  go_wp2_with fail
  refine (DeleteFuncP_any (w.heap.size + 3) (w.heap.size + 1) F np cp ps v ys _ (ownsRow_base hrowH.out (by simp)) hyk hc1 (by omega) (by omega) (hF.out.below RPt.stable hB1.out) hnp (fun h0 b o he => by have := hPbH.out h0 b o he; omega)).mono ?_
  rintro e w2 ⟨A, c, rfl, hrow2, hb2⟩
  have hrow2H := Lib.hid hrow2
  have hb2H := Lib.hid hb2
  have s2 := hb2.size
  have z2 := (hb2.cell (p := ⟨w.heap.size + 2, 0, none⟩) (Nat.lt_succ_self (w.heap.size + 2))).trans q0
  have z3 := (hb2.frozen (p := ⟨w.heap.size + 2, 0, none⟩) (Nat.lt_succ_self (w.heap.size + 2))).trans q1
  have b3 : w.heap.size + 2 < w2.heap.size := by omega
  have hB2 := hB1.out.trans (hb2.mono (by omega))
  clear hrow2 hb2 q0 q1
  go_wp2
  refine bodyPost_ret (v := .agg #[.slice A (keepP ps ys ys.length).length c]) (by simp only [results, Tryz.results44]; go_simp) rfl ?_
  exact AsmOnly.of (keepP_whole ps ys) rfl (ownsRow_base (ownsRow_setCell_below hrow2H.out (by simp) _) (by omega)) (by repeat (first | with_reducible (first | exact bl_refl _ | assumption | refine bl_al ?_ _ | refine bl_dr ?_ | refine bl_tr ?_ (by assumption) | refine bl_set ?_ ?_ _ | exact Nat.le_refl _) | omega | (simp only [World.size_alloc, World.size_setCell, World.size_drew] at *; omega) | (dsimp only; omega) | (simp; done) | (simp; omega)))
set_option maxRecDepth 100000 in
set_option maxHeartbeats 2000000 in
theorem woundCode_at {G T A C F : Option Addr} {n cg m ct q ca k cc np cp : Nat} {gs : List Gl} {ts : List Ti} {xs ys : List Pl} {t : Int} {ps : List Pt} {w : World} (h : SA w G n T m A q gs ts xs) (h2 : SA w G n T m C k gs ts ys) (h3 : RdSl 2 RPt w F np ps) (hnp : np ≤ 1073741824) {r : Int} (hr : (remR gs ts xs t ys ps).2 = r) :
    Calls Tryz.prog 43 #[.agg #[.slice G n cg, .slice T m ct, .slice A q ca, .int .i64 t], .agg #[.slice C k cc], .slice F np cp] w fun e w' => e = .returned (.int .i64 r) ∧ Below w.heap.size w w' := by
  
  have hS := Lib.hid h
  have hA := Lib.hid h2
  have hF := Lib.hid h3
  clear h h2 h3
  obtain ⟨v, hv⟩ : ∃ v, overI gs ts xs t ys = v := ⟨_, rfl⟩
  have hvH := Lib.hid hv
  by_cases hv0 : v = 0
  · subst hv0
    have hg := overI_zero hv
    have hVx := valid_of (sysOkB_valid (growB_true hg.1).1).1
    have hVy := valid_of (growB_true hg.1).2
    clear hv hg
    obtain ⟨u, hu⟩ : ∃ u, woundB (softL xs ys ys.length) ps = u := ⟨_, rfl⟩
    have huH := Lib.hid hu
    cases u
    · have hR : (2 : Int) = r := by rw [← hr, ← remR_un hvH.out hu]
      have hRH := Lib.hid hR
      clear hr hu hR
      go_enter Tryz.func43, Tryz.ntmps43
      go_wp2_with (first
        | (go_at_call 69; refine (insideCode_at (hS.out.below (by repeat (first | with_reducible (first | exact bl_refl _ | assumption | refine bl_al ?_ _ | refine bl_dr ?_ | refine bl_tr ?_ (by assumption) | refine bl_set ?_ ?_ _ | exact Nat.le_refl _) | omega | (simp only [World.size_alloc, World.size_setCell, World.size_drew] at *; omega) | (dsimp only; omega) | (simp; done) | (simp; omega)))) (hA.out.below (by repeat (first | with_reducible (first | exact bl_refl _ | assumption | refine bl_al ?_ _ | refine bl_dr ?_ | refine bl_tr ?_ (by assumption) | refine bl_set ?_ ?_ _ | exact Nat.le_refl _) | omega | (simp only [World.size_alloc, World.size_setCell, World.size_drew] at *; omega) | (dsimp only; omega) | (simp; done) | (simp; omega)))) hvH.out).mono ?_; rintro e w1 ⟨rfl, hb1⟩; obtain ⟨chb1, fhb1, shb1, thb1⟩ := bcell hb1; (have b0 := shb1 w.heap.size (by go_simp)); (have b1 := shb1 (w.heap.size + 1) (by go_simp)))
        | (go_at_call 90; refine (isWound_at (hS.out.below (by repeat (first | with_reducible (first | exact bl_refl _ | assumption | refine bl_al ?_ _ | refine bl_dr ?_ | refine bl_tr ?_ (by assumption) | refine bl_set ?_ ?_ _ | exact Nat.le_refl _) | omega | (simp only [World.size_alloc, World.size_setCell, World.size_drew] at *; omega) | (dsimp only; omega) | (simp; done) | (simp; omega)))) hVx (hA.out.below (by repeat (first | with_reducible (first | exact bl_refl _ | assumption | refine bl_al ?_ _ | refine bl_dr ?_ | refine bl_tr ?_ (by assumption) | refine bl_set ?_ ?_ _ | exact Nat.le_refl _) | omega | (simp only [World.size_alloc, World.size_setCell, World.size_drew] at *; omega) | (dsimp only; omega) | (simp; done) | (simp; omega)))).A hVy (hF.out.below RPt.stable (by repeat (first | with_reducible (first | exact bl_refl _ | assumption | refine bl_al ?_ _ | refine bl_dr ?_ | refine bl_tr ?_ (by assumption) | refine bl_set ?_ ?_ _ | exact Nat.le_refl _) | omega | (simp only [World.size_alloc, World.size_setCell, World.size_drew] at *; omega) | (dsimp only; omega) | (simp; done) | (simp; omega)))) hnp huH.out).mono ?_; rintro e w2 ⟨rfl, hb2⟩))
      go_ret
      exact ⟨ret_int hRH.out, by repeat (first | with_reducible (first | exact bl_refl _ | assumption | refine bl_al ?_ _ | refine bl_dr ?_ | refine bl_tr ?_ (by assumption) | refine bl_set ?_ ?_ _ | exact Nat.le_refl _) | omega | (simp only [World.size_alloc, World.size_setCell, World.size_drew] at *; omega) | (dsimp only; omega) | (simp; done) | (simp; omega))⟩
    · have hR : (0 : Int) = r := by rw [← hr, ← remR_yes hvH.out hu]
      have hRH := Lib.hid hR
      clear hr hu hR
      go_enter Tryz.func43, Tryz.ntmps43
      go_wp2_with (first
        | (go_at_call 69; refine (insideCode_at (hS.out.below (by repeat (first | with_reducible (first | exact bl_refl _ | assumption | refine bl_al ?_ _ | refine bl_dr ?_ | refine bl_tr ?_ (by assumption) | refine bl_set ?_ ?_ _ | exact Nat.le_refl _) | omega | (simp only [World.size_alloc, World.size_setCell, World.size_drew] at *; omega) | (dsimp only; omega) | (simp; done) | (simp; omega)))) (hA.out.below (by repeat (first | with_reducible (first | exact bl_refl _ | assumption | refine bl_al ?_ _ | refine bl_dr ?_ | refine bl_tr ?_ (by assumption) | refine bl_set ?_ ?_ _ | exact Nat.le_refl _) | omega | (simp only [World.size_alloc, World.size_setCell, World.size_drew] at *; omega) | (dsimp only; omega) | (simp; done) | (simp; omega)))) hvH.out).mono ?_; rintro e w1 ⟨rfl, hb1⟩; obtain ⟨chb1, fhb1, shb1, thb1⟩ := bcell hb1; (have b0 := shb1 w.heap.size (by go_simp)); (have b1 := shb1 (w.heap.size + 1) (by go_simp)))
        | (go_at_call 90; refine (isWound_at (hS.out.below (by repeat (first | with_reducible (first | exact bl_refl _ | assumption | refine bl_al ?_ _ | refine bl_dr ?_ | refine bl_tr ?_ (by assumption) | refine bl_set ?_ ?_ _ | exact Nat.le_refl _) | omega | (simp only [World.size_alloc, World.size_setCell, World.size_drew] at *; omega) | (dsimp only; omega) | (simp; done) | (simp; omega)))) hVx (hA.out.below (by repeat (first | with_reducible (first | exact bl_refl _ | assumption | refine bl_al ?_ _ | refine bl_dr ?_ | refine bl_tr ?_ (by assumption) | refine bl_set ?_ ?_ _ | exact Nat.le_refl _) | omega | (simp only [World.size_alloc, World.size_setCell, World.size_drew] at *; omega) | (dsimp only; omega) | (simp; done) | (simp; omega)))).A hVy (hF.out.below RPt.stable (by repeat (first | with_reducible (first | exact bl_refl _ | assumption | refine bl_al ?_ _ | refine bl_dr ?_ | refine bl_tr ?_ (by assumption) | refine bl_set ?_ ?_ _ | exact Nat.le_refl _) | omega | (simp only [World.size_alloc, World.size_setCell, World.size_drew] at *; omega) | (dsimp only; omega) | (simp; done) | (simp; omega)))) hnp huH.out).mono ?_; rintro e w2 ⟨rfl, hb2⟩))
      go_ret
      exact ⟨ret_int hRH.out, by repeat (first | with_reducible (first | exact bl_refl _ | assumption | refine bl_al ?_ _ | refine bl_dr ?_ | refine bl_tr ?_ (by assumption) | refine bl_set ?_ ?_ _ | exact Nat.le_refl _) | omega | (simp only [World.size_alloc, World.size_setCell, World.size_drew] at *; omega) | (dsimp only; omega) | (simp; done) | (simp; omega))⟩
  · have hv1 : (v != 0) = true := by simpa using hv0
    have hR : v = r := by rw [← hr, ← remR_no ps hv hv0]
    have hRH := Lib.hid hR
    clear hr hv hR
    go_enter Tryz.func43, Tryz.ntmps43
    go_wp2_with (go_at_call 69; refine (insideCode_at (hS.out.below (by repeat (first | with_reducible (first | exact bl_refl _ | assumption | refine bl_al ?_ _ | refine bl_dr ?_ | refine bl_tr ?_ (by assumption) | refine bl_set ?_ ?_ _ | exact Nat.le_refl _) | omega | (simp only [World.size_alloc, World.size_setCell, World.size_drew] at *; omega) | (dsimp only; omega) | (simp; done) | (simp; omega)))) (hA.out.below (by repeat (first | with_reducible (first | exact bl_refl _ | assumption | refine bl_al ?_ _ | refine bl_dr ?_ | refine bl_tr ?_ (by assumption) | refine bl_set ?_ ?_ _ | exact Nat.le_refl _) | omega | (simp only [World.size_alloc, World.size_setCell, World.size_drew] at *; omega) | (dsimp only; omega) | (simp; done) | (simp; omega)))) hvH.out).mono ?_; rintro e w1 ⟨rfl, hb1⟩)
    go_ret
    exact ⟨ret_int hRH.out, by repeat (first | with_reducible (first | exact bl_refl _ | assumption | refine bl_al ?_ _ | refine bl_dr ?_ | refine bl_tr ?_ (by assumption) | refine bl_set ?_ ?_ _ | exact Nat.le_refl _) | omega | (simp only [World.size_alloc, World.size_setCell, World.size_drew] at *; omega) | (dsimp only; omega) | (simp; done) | (simp; omega))⟩
set_option maxRecDepth 100000 in
set_option maxHeartbeats 2000000 in
theorem RemovePoints_any (G T A C F : Option Addr) (n cg m ct q ca k cc np cp : Nat) (gs : List Gl) (ts : List Ti) (xs ys : List Pl) (ps : List Pt) (t : Int) (w : World) (h : SA w G n T m A q gs ts xs) (h2 : SA w G n T m C k gs ts ys) (h3 : RdSl 2 RPt w F np ps) (hnp : np ≤ 1073741824) :
    Calls Tryz.prog 14 #[.agg #[.slice G n cg, .slice T m ct, .slice A q ca, .int .i64 t], .agg #[.slice C k cc], .slice F np cp] w (AsmRes w (remR gs ts xs t ys ps)) := by
  
  have hS := Lib.hid h
  have hA := Lib.hid h2
  have hF := Lib.hid h3
  have hkl := Lib.hid h2.A.len
  clear h h2 h3
  obtain ⟨v, hv⟩ : ∃ v, (remR gs ts xs t ys ps).2 = v := ⟨_, rfl⟩
  have hvH := Lib.hid hv
  by_cases hv0 : v = 0
  · subst hv0
    obtain ⟨hR, hky⟩ : ((ys.filter fun b => !delP ps b, 0) = remR gs ts xs t ys ps) ∧ ys.length ≤ 500 := by
      by_cases h0 : overI gs ts xs t ys = 0
      · cases hw : woundB (softL xs ys ys.length) ps
        · rw [← remR_un h0 hw] at hv; simp at hv
        · exact ⟨remR_yes h0 hw, (valid_of (growB_true (overI_zero h0).1).2).len⟩
      · rw [← remR_no ps rfl h0] at hv; exact (h0 hv).elim
    rw [hkl.out] at hky
    have hRH := Lib.hid hR
    clear hv hR
    go_enter Tryz.func14, Tryz.ntmps14
    go_wp2_with fail
    refine (woundCode_at (hS.out.below (by repeat (first | with_reducible (first | exact bl_refl _ | assumption | refine bl_al ?_ _ | refine bl_dr ?_ | refine bl_tr ?_ (by assumption) | refine bl_set ?_ ?_ _ | exact Nat.le_refl _) | omega | (simp only [World.size_alloc, World.size_setCell, World.size_drew] at *; omega) | (dsimp only; omega) | (simp; done) | (simp; omega)))) (hA.out.below (by repeat (first | with_reducible (first | exact bl_refl _ | assumption | refine bl_al ?_ _ | refine bl_dr ?_ | refine bl_tr ?_ (by assumption) | refine bl_set ?_ ?_ _ | exact Nat.le_refl _) | omega | (simp only [World.size_alloc, World.size_setCell, World.size_drew] at *; omega) | (dsimp only; omega) | (simp; done) | (simp; omega)))) (hF.out.below RPt.stable (by repeat (first | with_reducible (first | exact bl_refl _ | assumption | refine bl_al ?_ _ | refine bl_dr ?_ | refine bl_tr ?_ (by assumption) | refine bl_set ?_ ?_ _ | exact Nat.le_refl _) | omega | (simp only [World.size_alloc, World.size_setCell, World.size_drew] at *; omega) | (dsimp only; omega) | (simp; done) | (simp; omega)))) hnp hvH.out).mono ?_
    rintro e w1 ⟨rfl, hb1⟩
    have s1 := hb1.size
    simp only [World.size_alloc] at s1
    have hB1 := Lib.hid (show Below w.heap.size w w1 by repeat (first | with_reducible (first | exact bl_refl _ | assumption | refine bl_al ?_ _ | refine bl_dr ?_ | refine bl_tr ?_ (by assumption) | refine bl_set ?_ ?_ _ | exact Nat.le_refl _) | omega | (simp only [World.size_alloc, World.size_setCell, World.size_drew] at *; omega) | (dsimp only; omega) | (simp; done) | (simp; omega)))
    have q0 := (hb1.cell (p := ⟨w.heap.size + 2, 0, none⟩) (by simp)).trans (show _ = some (Value.slice none 0 0) by go_simp)
    have q1 := (hb1.frozen (p := ⟨w.heap.size + 2, 0, none⟩) (by simp)).trans (show _ = false by go_simp)
    have q2 := (hb1.cell (p := ⟨w.heap.size + 1, 0, none⟩) (by simp)).trans (show _ = some (Value.slice C k cc) by go_simp)
    have b1 : w.heap.size + 1 < w1.heap.size := by omega
    have b2 : w.heap.size + 2 < w1.heap.size := by omega
    clear hb1
    go_wp2_with fail
    refine (without_any (hA.out.A.below RPl.stable hB1.out) (by omega) (hF.out.below RPt.stable hB1.out) hnp).mono ?_
    rintro e w2 ⟨A2, c2, rfl, hrow, hb2⟩
    have hrowH := Lib.hid hrow
    have s2 := hb2.size
    have hB2 := Lib.hid (hB1.out.trans (hb2.mono (by omega)))
    have z0 := (hb2.cell (p := ⟨w.heap.size + 2, 0, none⟩) b2).trans q0
    have z1 := (hb2.frozen (p := ⟨w.heap.size + 2, 0, none⟩) b2).trans q1
    have b3 : w.heap.size + 2 < w2.heap.size := by omega
    clear hb2 hrow q0 q1
    go_wp2
    refine bodyPost_ret (v := .tuple #[.agg #[.slice A2 (ys.filter fun b => !delP ps b).length c2], .int .i64 0]) (by simp only [results, Tryz.results14]; go_simp) rfl ?_
    exact AsmRes.of hRH.out rfl (ownsRow_base (ownsRow_setCell_below hrowH.out (by simp; omega) _) (by omega)) (by have h9 := hB2.out; repeat (first | with_reducible (first | exact bl_refl _ | assumption | refine bl_al ?_ _ | refine bl_dr ?_ | refine bl_tr ?_ (by assumption) | refine bl_set ?_ ?_ _ | exact Nat.le_refl _) | omega | (simp only [World.size_alloc, World.size_setCell, World.size_drew] at *; omega) | (dsimp only; omega) | (simp; done) | (simp; omega)))
  · have hv1 : (v != 0) = true := by simpa using hv0
    have hR : ([], v) = remR gs ts xs t ys ps := by
      by_cases h0 : overI gs ts xs t ys = 0
      · cases hw : woundB (softL xs ys ys.length) ps
        · rw [← remR_un h0 hw] at hv ⊢; rw [← hv]
        · rw [← remR_yes h0 hw] at hv; exact (hv0 hv.symm).elim
      · rw [← remR_no ps rfl h0] at hv ⊢; rw [← hv]
    have hRH := Lib.hid hR
    clear hv hR
    go_enter Tryz.func14, Tryz.ntmps14
    go_wp2_with fail
    refine (woundCode_at (hS.out.below (by repeat (first | with_reducible (first | exact bl_refl _ | assumption | refine bl_al ?_ _ | refine bl_dr ?_ | refine bl_tr ?_ (by assumption) | refine bl_set ?_ ?_ _ | exact Nat.le_refl _) | omega | (simp only [World.size_alloc, World.size_setCell, World.size_drew] at *; omega) | (dsimp only; omega) | (simp; done) | (simp; omega)))) (hA.out.below (by repeat (first | with_reducible (first | exact bl_refl _ | assumption | refine bl_al ?_ _ | refine bl_dr ?_ | refine bl_tr ?_ (by assumption) | refine bl_set ?_ ?_ _ | exact Nat.le_refl _) | omega | (simp only [World.size_alloc, World.size_setCell, World.size_drew] at *; omega) | (dsimp only; omega) | (simp; done) | (simp; omega)))) (hF.out.below RPt.stable (by repeat (first | with_reducible (first | exact bl_refl _ | assumption | refine bl_al ?_ _ | refine bl_dr ?_ | refine bl_tr ?_ (by assumption) | refine bl_set ?_ ?_ _ | exact Nat.le_refl _) | omega | (simp only [World.size_alloc, World.size_setCell, World.size_drew] at *; omega) | (dsimp only; omega) | (simp; done) | (simp; omega)))) hnp hvH.out).mono ?_
    rintro e w1 ⟨rfl, hb1⟩
    have s1 := hb1.size
    simp only [World.size_alloc] at s1
    have hB1 := Lib.hid (show Below w.heap.size w w1 by repeat (first | with_reducible (first | exact bl_refl _ | assumption | refine bl_al ?_ _ | refine bl_dr ?_ | refine bl_tr ?_ (by assumption) | refine bl_set ?_ ?_ _ | exact Nat.le_refl _) | omega | (simp only [World.size_alloc, World.size_setCell, World.size_drew] at *; omega) | (dsimp only; omega) | (simp; done) | (simp; omega)))
    have q0 := (hb1.cell (p := ⟨w.heap.size + 2, 0, none⟩) (by simp)).trans (show _ = some (Value.slice none 0 0) by go_simp)
    have q1 := (hb1.frozen (p := ⟨w.heap.size + 2, 0, none⟩) (by simp)).trans (show _ = false by go_simp)
    have b2 : w.heap.size + 2 < w1.heap.size := by omega
    clear hb1
    go_wp2
    refine bodyPost_ret (v := .tuple #[.agg #[.slice none 0 0], .int .i64 v]) (by simp only [results, Tryz.results14]; go_simp) rfl ?_
    exact AsmRes.of hRH.out rfl (World.ownsRow_nil _ _ _ _) (by have h9 := hB1.out; repeat (first | with_reducible (first | exact bl_refl _ | assumption | refine bl_al ?_ _ | refine bl_dr ?_ | refine bl_tr ?_ (by assumption) | refine bl_set ?_ ?_ _ | exact Nat.le_refl _) | omega | (simp only [World.size_alloc, World.size_setCell, World.size_drew] at *; omega) | (dsimp only; omega) | (simp; done) | (simp; omega)))
end Go.Proofs.YtglcpphfmmnmkaaGreat
/- Walk: whether a list of points is a wound, by the reference. -/

namespace Go.Proofs.YtglcpphfmmnmkaaGreat
open Go.RowKit Go.Shelf
attribute [local go_sem] BelowBy.cell BelowBy.cell_drew stillUpon givesUpon BelowBy.cell_drew2 BelowBy.cell_drew3

set_option maxRecDepth 100000 in
set_option maxHeartbeats 4000000 in
theorem l27Wound_at {p pa : Nat} {F : Option Addr} {np cp : Nat} {gs : List Gl} {ts : List Ti} {xs ys : List Pl} {t : Int} {ps : List Pt} {w : World} (h : SysAt w p 0 gs ts xs t) (hV : Valid gs ts xs) (h2 : AsmAt w pa 0 ys) (hVy : Valid gs ts ys) (h3 : RdSl 2 RPt w F np ps) (hnp : np ≤ 1073741824) {r : Bool} (hr : woundB (softL xs ys ys.length) ps = r) :
    Calls Tryz.prog 38 #[.pointer (some ⟨p, 0, none⟩), .pointer (some ⟨pa, 0, none⟩), .slice F np cp] w fun e w' => e = .returned (.bool r) ∧ Below w.heap.size w w' := by
  
  have hS := Lib.hid h
  have hA := Lib.hid h2
  have hF := Lib.hid h3
  have la := h2.lt
  obtain ⟨_, C, k, cc, cq, hR⟩ := id h2
  have hkl := hR.len
  have hpl := h3.len
  have hC := Lib.hid hR
  have hk5 : k ≤ 500 := by rw [← hkl]; exact hVy.len
  have hsf := Lib.hid (fun p => soft_iff (xs := xs) hVy p)
  obtain ⟨L, hL⟩ : ∃ L, softL xs ys ys.length = L := ⟨_, rfl⟩
  have hLl := softL_len xs ys ys.length
  have hsL := softL_sorted hVy xs ys.length
  rw [hL] at hr hsf hsL hLl
  have hrH := Lib.hid hr
  by_cases hlen : k < np
  · have hres := Lib.hid (show false = r by
      rw [← hr]
      cases hw : woundB L ps
      · rfl
      · have := sub_len hsL (woundB_sorted hw) (woundB_mem hw)
        omega)
    clear h h2 h3 hr hL hR hsL
    go_enter Tryz.func38, Tryz.ntmps38
    go_wp2
    go_ret
    exact ⟨ret_bool hres.out, bl_refl _⟩
  · clear h h2 h3 hr hL hR hsL
    go_enter Tryz.func38, Tryz.ntmps38
    go_wp2
    go_loopg [7] np (fun g i wr => ∃ j : Nat, j + g = np ∧ i = .int .i64 (j : Int) ∧ Hid (∀ i, i < j → woundAt L ps i = true) ∧ Hid (Below w.heap.size w wr))
    case atStart => exact ⟨0, by omega, rfl, Lib.hid (fun i hi => by omega), Lib.hid (bl_refl _)⟩
    case round =>
      obtain ⟨j, hj, rfl, hok, hbw⟩ := hrel
      have sw := hbw.out.size
      have lw : pa < wr.heap.size := by omega
      have cw := (hbw.out.cell (p := ⟨pa, 0, none⟩) la).trans cq
      by_cases hjn : j < np
      · have hFw := hF.out.below RPt.stable hbw.out
        obtain ⟨p', hp⟩ := hFw.get hjn
        obtain ⟨b, o, hFe, hb, hc⟩ := hFw.ptr (by omega)
        subst hFe
        obtain ⟨c0, c1⟩ := hc j p' hp
        have hpH := Lib.hid hp
        have hSw := Lib.hid (hS.out.below hbw.out)
        have hAw := Lib.hid (hA.out.below hbw.out)
        rcases placeI_cases ys p'.x p'.y with hpl1 | ⟨kk, hpl1, hkk⟩
        · have hplH := Lib.hid hpl1
          have hm : decide (p' ∈ L) = false := decide_eq_false (fun hh => by obtain ⟨k', _, h1, _⟩ := (hsf.out p').1 hh; omega)
          have hres := Lib.hid (show false = r by rw [← hrH.out]; unfold woundB; rw [allB_false (by rw [hpl]; exact hjn) (woundAt_out hp hm)])
          clear hc hp hFw hm hpl1
          go_wp2_with (go_at_call 53; refine (l03Index_at hAw.out hVy hplH.out).mono ?_; rintro e' w2 ⟨rfl, hb2⟩)
          refine wp_region_ord [(0, .q), (1, .q), (2, .q), (3, .q), (4, .q), (5, .q), (6, .q), (7, .q), (8, .q), (9, .q), (10, .q), (11, .g), (12, .q), (13, .q), (14, .q), (15, .q), (16, .q), (17, .q), (18, .q), (19, .q), (20, .q), (21, .q), (22, .q), (23, .q), (24, .q), (25, .q), (26, .g), (27, .q), (28, .q), (29, .q)] (by kernel_rfl) (by kernel_rfl) ?_
          simp only [pick, List.filterMap_cons, List.filterMap_nil, List.getElem?_toArray, List.getElem?_cons_zero, List.getElem?_cons_succ, Option.map_some]
          repeat (first
            | ((with_reducible refine wpD_p (fun K hK => ?_)); go_simp; refine hK _ ?_; clear hK K)
            | ((with_reducible refine wpD_q (fun K hK => ?_)); go_simp; (first | refine hK _ ?_ | (go_bits; refine hK _ ?_) | (go_bits; go_simp; refine hK _ ?_)); clear hK K)
            | ((with_reducible refine wpD_g (fun K hK => ?_)); go_simp; refine hK _ _ ?_; clear hK K)
            | ((with_reducible refine wpD_g (fun K hK => ?_)); go_simp; refine ⟨Grew.of_alloc _, hK _ _ ?_⟩; clear hK K))
          with_reducible refine wpD_nil ?_
          go_wp2
          go_ret
          exact ⟨ret_bool hres.out, hbw.out.trans (Below.mono (bl_dr hb2) sw)⟩
        · have hplH := Lib.hid hpl1
          obtain ⟨e, he⟩ : ∃ e, ys[kk]? = some e := ⟨_, List.getElem?_eq_getElem hkk⟩
          have hCw := hC.out.below RPl.stable hbw.out
          obtain ⟨b2, o2, hCe, hb2', hc2⟩ := hCw.ptr (by omega)
          subst hCe
          obtain ⟨f0, f1, f2⟩ := hc2 kk e he
          have hkkk : kk < k := by omega
          have hkk0 : (0 : Int) ≤ (kk : Int) := by omega
          cases hsd : seedB xs e
          · have hsdH := Lib.hid hsd
            have hm : decide (p' ∈ L) = true := decide_eq_true ((hsf.out p').2 ⟨kk, e, hpl1, he, hsd⟩)
            cases j with
            | zero =>
              have hz := Lib.hid (woundAt_zero hp hm)
              simp only [Nat.zero_mul, Nat.add_zero] at c0 c1
              clear hc hp hFw hm hpl1 hc2 hCw he hsd
              go_wp2_with (go_at_call 53; refine (l03Index_at hAw.out hVy hplH.out).mono ?_; rintro e' w2 ⟨rfl, hb2⟩)
              have hb2H := Lib.hid hb2
              have s2 := hb2.size
              have lw2 : pa < w2.heap.size := by omega
              have cw2 := (hb2.cell (p := ⟨pa, 0, none⟩) lw).trans cw
              have g0 := (hb2.cell (p := ⟨b2, o2 + kk * 3, none⟩) hb2').trans f0
              have g1 := (hb2.cell (p := ⟨b2, o2 + kk * 3 + 1, none⟩) hb2').trans f1
              have g2 := (hb2.cell (p := ⟨b2, o2 + kk * 3 + 2, none⟩) hb2').trans f2
              have lb2 : b2 < w2.heap.size := by omega
              clear hb2
              refine wp_region_ord [(0, .q), (1, .q), (2, .q), (3, .q), (4, .q), (5, .q), (6, .q), (7, .q), (8, .q), (9, .q), (10, .q), (11, .g), (12, .q), (13, .q), (14, .q), (15, .q), (16, .q), (17, .q), (18, .q), (19, .q), (20, .q), (21, .q), (22, .q), (23, .q), (24, .q), (25, .q), (26, .g), (27, .q), (28, .q), (29, .q)] (by kernel_rfl) (by kernel_rfl) ?_
              simp only [pick, List.filterMap_cons, List.filterMap_nil, List.getElem?_toArray, List.getElem?_cons_zero, List.getElem?_cons_succ, Option.map_some]
              repeat (first
                | ((with_reducible refine wpD_p (fun K hK => ?_)); go_simp; refine hK _ ?_; clear hK K)
                | ((with_reducible refine wpD_q (fun K hK => ?_)); go_simp; (first | refine hK _ ?_ | (go_bits; refine hK _ ?_) | (go_bits; go_simp; refine hK _ ?_)); clear hK K)
                | ((with_reducible refine wpD_g (fun K hK => ?_)); go_simp; refine hK _ _ ?_; clear hK K)
                | ((with_reducible refine wpD_g (fun K hK => ?_)); go_simp; refine ⟨Grew.of_alloc _, hK _ _ ?_⟩; clear hK K)
                | ((with_reducible refine wpD_g (fun K hK => ?_)); go_simp; go_at_call 83; refine (l25Seed_at (e := e) ((hSw.out.below hb2H.out).below (by repeat (first | with_reducible (first | exact bl_refl _ | assumption | refine bl_al ?_ _ | refine bl_dr ?_ | refine bl_tr ?_ (by assumption) | refine bl_set ?_ ?_ _ | exact Nat.le_refl _) | omega | (simp only [World.size_alloc, World.size_setCell, World.size_drew] at *; omega) | (dsimp only; omega) | (simp; done) | (simp; omega)))) hV hsdH.out).mono ?_; rintro e w3 ⟨rfl, hb3⟩; refine ⟨_, rfl, hb3, hK _ _ ?_⟩; clear hK K; obtain ⟨chb3, fhb3, shb3, thb3⟩ := bcell hb3))
              with_reducible refine wpD_nil ?_
              go_wp2
              go_roundg (np - (0 + 1))
              case measure => omega
              case rel => exact ⟨0 + 1, by omega, by go_num, Lib.hid (fun i hi => by obtain rfl : i = 0 := (by omega); exact hz.out), Lib.hid (bl_tr (bl_tr hbw.out hb2H.out) (show Below w2.heap.size w2 w3 by repeat (first | with_reducible (first | exact bl_refl _ | assumption | refine bl_al ?_ _ | refine bl_dr ?_ | refine bl_tr ?_ (by assumption) | refine bl_set ?_ ?_ _ | exact Nat.le_refl _) | omega | (simp only [World.size_alloc, World.size_setCell, World.size_drew] at *; omega) | (dsimp only; omega) | (simp; done) | (simp; omega))))⟩
            | succ j =>
              obtain ⟨d, hd⟩ := hFw.get (k := j) (by omega)
              obtain ⟨d0, d1⟩ := hc j d hd
              have hjl : j < np := by omega
              have hpos : (0 : Int) < (j : Int) + 1 := by omega
              have hpos0 : (0 : Int) ≤ (j : Int) + 1 := by omega
              cases hl : lessPt d.x d.y p'.x p'.y
              · have hres := Lib.hid (show false = r by rw [← hrH.out]; unfold woundB; rw [allB_false (by rw [hpl]; exact hjn) ((woundAt_succ hp hd hm).trans hl)])
                have hlH := Lib.hid hl
                clear hc hp hd hFw hm hpl1 hc2 hCw he hsd hl
                go_wp2_with (go_at_call 53; refine (l03Index_at hAw.out hVy hplH.out).mono ?_; rintro e' w2 ⟨rfl, hb2⟩)
                have hb2H := Lib.hid hb2
                have s2 := hb2.size
                have lw2 : pa < w2.heap.size := by omega
                have cw2 := (hb2.cell (p := ⟨pa, 0, none⟩) lw).trans cw
                have g0 := (hb2.cell (p := ⟨b2, o2 + kk * 3, none⟩) hb2').trans f0
                have g1 := (hb2.cell (p := ⟨b2, o2 + kk * 3 + 1, none⟩) hb2').trans f1
                have g2 := (hb2.cell (p := ⟨b2, o2 + kk * 3 + 2, none⟩) hb2').trans f2
                have lb2 : b2 < w2.heap.size := by omega
                have k0 := (hb2.cell (p := ⟨b, o + (j + 1) * 2, none⟩) hb).trans c0
                have k1 := (hb2.cell (p := ⟨b, o + (j + 1) * 2 + 1, none⟩) hb).trans c1
                have k2 := (hb2.cell (p := ⟨b, o + j * 2, none⟩) hb).trans d0
                have k3 := (hb2.cell (p := ⟨b, o + j * 2 + 1, none⟩) hb).trans d1
                have lb1 : b < w2.heap.size := by omega
                clear hb2
                
                refine wp_region_ord [(0, .q), (1, .q), (2, .q), (3, .q), (4, .q), (5, .q), (6, .q), (7, .q), (8, .q), (9, .q), (10, .q), (11, .g), (12, .q), (13, .q), (14, .q), (15, .q), (16, .q), (17, .q), (18, .q), (19, .q), (20, .q), (21, .q), (22, .q), (23, .q), (24, .q), (25, .q), (26, .g), (27, .q), (28, .q), (29, .q)] (by kernel_rfl) (by kernel_rfl) ?_
                simp only [pick, List.filterMap_cons, List.filterMap_nil, List.getElem?_toArray, List.getElem?_cons_zero, List.getElem?_cons_succ, Option.map_some]
                repeat (first
                  | ((with_reducible refine wpD_p (fun K hK => ?_)); go_simp; refine hK _ ?_; clear hK K)
                  | ((with_reducible refine wpD_q (fun K hK => ?_)); go_simp; (first | refine hK _ ?_ | (go_bits; refine hK _ ?_) | (go_bits; go_simp; refine hK _ ?_)); clear hK K)
                  | ((with_reducible refine wpD_g (fun K hK => ?_)); go_simp; refine hK _ _ ?_; clear hK K)
                  | ((with_reducible refine wpD_g (fun K hK => ?_)); go_simp; refine ⟨Grew.of_alloc _, hK _ _ ?_⟩; clear hK K)
                  | ((with_reducible refine wpD_g (fun K hK => ?_)); go_simp; go_at_call 83; refine (l25Seed_at (e := e) ((hSw.out.below hb2H.out).below (by repeat (first | with_reducible (first | exact bl_refl _ | assumption | refine bl_al ?_ _ | refine bl_dr ?_ | refine bl_tr ?_ (by assumption) | refine bl_set ?_ ?_ _ | exact Nat.le_refl _) | omega | (simp only [World.size_alloc, World.size_setCell, World.size_drew] at *; omega) | (dsimp only; omega) | (simp; done) | (simp; omega)))) hV hsdH.out).mono ?_; rintro e w3 ⟨rfl, hb3⟩; refine ⟨_, rfl, hb3, hK _ _ ?_⟩; clear hK K; obtain ⟨chb3, fhb3, shb3, thb3⟩ := bcell hb3; (try have bhb30 := shb3 (b) (by go_simp)); have z2 := (hb3.cell (p := ⟨b, o + j * 2, none⟩) lb1).trans k2; have z3 := (hb3.cell (p := ⟨b, o + j * 2 + 1, none⟩) lb1).trans k3; have z4 := (hb3.cell (p := ⟨b, o + (j + 1) * 2, none⟩) lb1).trans k0; have z5 := (hb3.cell (p := ⟨b, o + (j + 1) * 2 + 1, none⟩) lb1).trans k1)
                  | ((with_reducible refine wpD_g (fun K hK => ?_)); go_simp; go_at_call 84; refine (sLessPoint_at hlH.out).mono ?_; rintro e w4 ⟨rfl, hb4⟩; refine ⟨_, rfl, hb4, hK _ _ ?_⟩; clear hK K; obtain ⟨chb4, fhb4, shb4, thb4⟩ := bcell hb4; (try have bhb40 := shb4 (b) (by go_simp))))
                with_reducible refine wpD_nil ?_
                
                go_wp2
                go_ret
                exact ⟨ret_bool hres.out, hbw.out.trans (Below.mono (bl_tr hb2H.out (show Below w2.heap.size w2 w4 by repeat (first | with_reducible (first | exact bl_refl _ | assumption | refine bl_al ?_ _ | refine bl_dr ?_ | refine bl_tr ?_ (by assumption) | refine bl_set ?_ ?_ _ | exact Nat.le_refl _) | omega | (simp only [World.size_alloc, World.size_setCell, World.size_drew] at *; omega) | (dsimp only; omega) | (simp; done) | (simp; omega)))) sw)⟩
              · have hz := Lib.hid ((woundAt_succ hp hd hm).trans hl)
                have hlH := Lib.hid hl
                clear hc hp hd hFw hm hpl1 hc2 hCw he hsd hl
                go_wp2_with (go_at_call 53; refine (l03Index_at hAw.out hVy hplH.out).mono ?_; rintro e' w2 ⟨rfl, hb2⟩)
                have hb2H := Lib.hid hb2
                have s2 := hb2.size
                have lw2 : pa < w2.heap.size := by omega
                have cw2 := (hb2.cell (p := ⟨pa, 0, none⟩) lw).trans cw
                have g0 := (hb2.cell (p := ⟨b2, o2 + kk * 3, none⟩) hb2').trans f0
                have g1 := (hb2.cell (p := ⟨b2, o2 + kk * 3 + 1, none⟩) hb2').trans f1
                have g2 := (hb2.cell (p := ⟨b2, o2 + kk * 3 + 2, none⟩) hb2').trans f2
                have lb2 : b2 < w2.heap.size := by omega
                have k0 := (hb2.cell (p := ⟨b, o + (j + 1) * 2, none⟩) hb).trans c0
                have k1 := (hb2.cell (p := ⟨b, o + (j + 1) * 2 + 1, none⟩) hb).trans c1
                have k2 := (hb2.cell (p := ⟨b, o + j * 2, none⟩) hb).trans d0
                have k3 := (hb2.cell (p := ⟨b, o + j * 2 + 1, none⟩) hb).trans d1
                have lb1 : b < w2.heap.size := by omega
                clear hb2
                
                refine wp_region_ord [(0, .q), (1, .q), (2, .q), (3, .q), (4, .q), (5, .q), (6, .q), (7, .q), (8, .q), (9, .q), (10, .q), (11, .g), (12, .q), (13, .q), (14, .q), (15, .q), (16, .q), (17, .q), (18, .q), (19, .q), (20, .q), (21, .q), (22, .q), (23, .q), (24, .q), (25, .q), (26, .g), (27, .q), (28, .q), (29, .q)] (by kernel_rfl) (by kernel_rfl) ?_
                simp only [pick, List.filterMap_cons, List.filterMap_nil, List.getElem?_toArray, List.getElem?_cons_zero, List.getElem?_cons_succ, Option.map_some]
                repeat (first
                  | ((with_reducible refine wpD_p (fun K hK => ?_)); go_simp; refine hK _ ?_; clear hK K)
                  | ((with_reducible refine wpD_q (fun K hK => ?_)); go_simp; (first | refine hK _ ?_ | (go_bits; refine hK _ ?_) | (go_bits; go_simp; refine hK _ ?_)); clear hK K)
                  | ((with_reducible refine wpD_g (fun K hK => ?_)); go_simp; refine hK _ _ ?_; clear hK K)
                  | ((with_reducible refine wpD_g (fun K hK => ?_)); go_simp; refine ⟨Grew.of_alloc _, hK _ _ ?_⟩; clear hK K)
                  | ((with_reducible refine wpD_g (fun K hK => ?_)); go_simp; go_at_call 83; refine (l25Seed_at (e := e) ((hSw.out.below hb2H.out).below (by repeat (first | with_reducible (first | exact bl_refl _ | assumption | refine bl_al ?_ _ | refine bl_dr ?_ | refine bl_tr ?_ (by assumption) | refine bl_set ?_ ?_ _ | exact Nat.le_refl _) | omega | (simp only [World.size_alloc, World.size_setCell, World.size_drew] at *; omega) | (dsimp only; omega) | (simp; done) | (simp; omega)))) hV hsdH.out).mono ?_; rintro e w3 ⟨rfl, hb3⟩; refine ⟨_, rfl, hb3, hK _ _ ?_⟩; clear hK K; obtain ⟨chb3, fhb3, shb3, thb3⟩ := bcell hb3; (try have bhb30 := shb3 (b) (by go_simp)); have z2 := (hb3.cell (p := ⟨b, o + j * 2, none⟩) lb1).trans k2; have z3 := (hb3.cell (p := ⟨b, o + j * 2 + 1, none⟩) lb1).trans k3; have z4 := (hb3.cell (p := ⟨b, o + (j + 1) * 2, none⟩) lb1).trans k0; have z5 := (hb3.cell (p := ⟨b, o + (j + 1) * 2 + 1, none⟩) lb1).trans k1)
                  | ((with_reducible refine wpD_g (fun K hK => ?_)); go_simp; go_at_call 84; refine (sLessPoint_at hlH.out).mono ?_; rintro e w4 ⟨rfl, hb4⟩; refine ⟨_, rfl, hb4, hK _ _ ?_⟩; clear hK K; obtain ⟨chb4, fhb4, shb4, thb4⟩ := bcell hb4; (try have bhb40 := shb4 (b) (by go_simp))))
                with_reducible refine wpD_nil ?_
                
                go_wp2
                go_roundg (np - ((j + 1) + 1))
                case measure => omega
                case rel => exact ⟨(j + 1) + 1, by omega, by go_num, Lib.hid (fun i hi => by rcases Nat.lt_succ_iff_lt_or_eq.1 hi with hi | rfl; exact hok.out i hi; exact hz.out), Lib.hid (bl_tr (bl_tr hbw.out hb2H.out) (show Below w2.heap.size w2 w4 by repeat (first | with_reducible (first | exact bl_refl _ | assumption | refine bl_al ?_ _ | refine bl_dr ?_ | refine bl_tr ?_ (by assumption) | refine bl_set ?_ ?_ _ | exact Nat.le_refl _) | omega | (simp only [World.size_alloc, World.size_setCell, World.size_drew] at *; omega) | (dsimp only; omega) | (simp; done) | (simp; omega))))⟩
          · have hsdH := Lib.hid hsd
            have hm : decide (p' ∈ L) = false := decide_eq_false (fun hh => by
              obtain ⟨k', e', h1, h2, h3⟩ := (hsf.out p').1 hh
              obtain rfl : k' = kk := by omega
              rw [he] at h2; obtain rfl := Option.some.inj h2; rw [hsd] at h3; cases h3)
            have hres := Lib.hid (show false = r by rw [← hrH.out]; unfold woundB; rw [allB_false (by rw [hpl]; exact hjn) (woundAt_out hp hm)])
            clear hc hp hFw hm hpl1 hc2 hCw he hsd
            go_wp2_with (go_at_call 53; refine (l03Index_at hAw.out hVy hplH.out).mono ?_; rintro e' w2 ⟨rfl, hb2⟩)
            have hb2H := Lib.hid hb2
            have s2 := hb2.size
            have lw2 : pa < w2.heap.size := by omega
            have cw2 := (hb2.cell (p := ⟨pa, 0, none⟩) lw).trans cw
            have g0 := (hb2.cell (p := ⟨b2, o2 + kk * 3, none⟩) hb2').trans f0
            have g1 := (hb2.cell (p := ⟨b2, o2 + kk * 3 + 1, none⟩) hb2').trans f1
            have g2 := (hb2.cell (p := ⟨b2, o2 + kk * 3 + 2, none⟩) hb2').trans f2
            have lb2 : b2 < w2.heap.size := by omega
            clear hb2
            refine wp_region_ord [(0, .q), (1, .q), (2, .q), (3, .q), (4, .q), (5, .q), (6, .q), (7, .q), (8, .q), (9, .q), (10, .q), (11, .g), (12, .q), (13, .q), (14, .q), (15, .q), (16, .q), (17, .q), (18, .q), (19, .q), (20, .q), (21, .q), (22, .q), (23, .q), (24, .q), (25, .q), (26, .g), (27, .q), (28, .q), (29, .q)] (by kernel_rfl) (by kernel_rfl) ?_
            simp only [pick, List.filterMap_cons, List.filterMap_nil, List.getElem?_toArray, List.getElem?_cons_zero, List.getElem?_cons_succ, Option.map_some]
            repeat (first
              | ((with_reducible refine wpD_p (fun K hK => ?_)); go_simp; refine hK _ ?_; clear hK K)
              | ((with_reducible refine wpD_q (fun K hK => ?_)); go_simp; (first | refine hK _ ?_ | (go_bits; refine hK _ ?_) | (go_bits; go_simp; refine hK _ ?_)); clear hK K)
              | ((with_reducible refine wpD_g (fun K hK => ?_)); go_simp; refine hK _ _ ?_; clear hK K)
              | ((with_reducible refine wpD_g (fun K hK => ?_)); go_simp; refine ⟨Grew.of_alloc _, hK _ _ ?_⟩; clear hK K)
              | ((with_reducible refine wpD_g (fun K hK => ?_)); go_simp; go_at_call 83; refine (l25Seed_at (e := e) ((hSw.out.below hb2H.out).below (by repeat (first | with_reducible (first | exact bl_refl _ | assumption | refine bl_al ?_ _ | refine bl_dr ?_ | refine bl_tr ?_ (by assumption) | refine bl_set ?_ ?_ _ | exact Nat.le_refl _) | omega | (simp only [World.size_alloc, World.size_setCell, World.size_drew] at *; omega) | (dsimp only; omega) | (simp; done) | (simp; omega)))) hV hsdH.out).mono ?_; rintro e w3 ⟨rfl, hb3⟩; refine ⟨_, rfl, hb3, hK _ _ ?_⟩; clear hK K; obtain ⟨chb3, fhb3, shb3, thb3⟩ := bcell hb3))
            with_reducible refine wpD_nil ?_
            go_wp2
            go_ret
            exact ⟨ret_bool hres.out, hbw.out.trans (Below.mono (bl_tr hb2H.out (show Below w2.heap.size w2 w3 by repeat (first | with_reducible (first | exact bl_refl _ | assumption | refine bl_al ?_ _ | refine bl_dr ?_ | refine bl_tr ?_ (by assumption) | refine bl_set ?_ ?_ _ | exact Nat.le_refl _) | omega | (simp only [World.size_alloc, World.size_setCell, World.size_drew] at *; omega) | (dsimp only; omega) | (simp; done) | (simp; omega)))) sw)⟩
      · obtain rfl : j = np := by omega
        have hres := Lib.hid (show true = r by rw [← hrH.out]; unfold woundB; rw [hpl]; exact (allB_true hok.out).symm)
        go_wp2
        go_ret
        exact ⟨ret_bool hres.out, hbw.out⟩
end Go.Proofs.YtglcpphfmmnmkaaGreat
/- Walk: RemovePoints, the reference. -/





namespace Go.Proofs.YtglcpphfmmnmkaaGreat
open Go.RowKit Go.Shelf
attribute [local go_sem] BelowBy.cell BelowBy.cell_drew stillUpon givesUpon BelowBy.cell_drew2 BelowBy.cell_drew3 ByR.cell ByR.cell_drew

section
variable {P : Program} {w : World}
theorem run_append_none_c (base : Nat) (t ty e : TypeId) (i : TypeInfo) (size : Nat) (ht : P.underlying t = some (.slice e)) (hi : P.info? e = some i) (v : Value) (n : Nat) (xs : List Value) (hown : w.ownsRow base e size v n xs) (c : Nat) :
    (Builtin.append_ #[t, t] ty #[v, .slice none 0 c]).run P w = .ok v w := by
  rcases hown.2 with ⟨rfl, rfl⟩ | ⟨g, cap, cur, rfl, _, _, hnc, _⟩
  · simp [Builtin.append_, run_underlying ht, sizeOf, typeInfo, hi, Builtin.lenOf, Builtin.firstCells]
  · simp [Builtin.append_, run_underlying ht, sizeOf, typeInfo, hi, Builtin.lenOf, Builtin.firstCells, hnc, storeCells]
theorem wpList_append_none_c {ops : Array Oper} {rest : List Oper} {o : Oper} {a : Act} {Q : Exit → Act → World → Prop} (hgd : o.guard = none) (s x : Operand) (t : TypeId)
    (ho : o.op = .call { callee := .builtin .append, args := #[s, x], argTypes := #[t, t] })
    (base : Nat) (e : TypeId) (i : TypeInfo) (size : Nat) (ht : P.underlying t = some (.slice e)) (hi : P.info? e = some i)
    (v : Value) (n : Nat) (xs : List Value) (hs : a.eval s = v) (hown : w.ownsRow base e size v n xs) (c : Nat) (hx : a.eval x = .slice none 0 c)
    (h : wpList P ops Q rest (a.put o.dst v) w) : wpList P ops Q (o :: rest) a w := by
  refine wpList_plain hgd fun K hK => ?_
  have hrun := run_append_none_c (P := P) (w := w) base t o.type e i size ht hi v n xs hown c
  unfold Oper.wp
  simp [execOp, ho, resolve, invoke, builtin, hs, hx, hrun, Result.andThen]
  exact hK _ _ h
theorem wpR_append_b {ops : Array Oper} {row : Option Nat} {o : Oper} {rest : List (Oper × Tag)} {a : Act} {Q : Act → World → Prop} (hgd : o.guard = none) (s x : Operand) (t : TypeId)
    (ho : o.op = .call { callee := .builtin .append, args := #[s, x], argTypes := #[t, t] })
    (base : Nat) (e : TypeId) (i : TypeInfo) (z : Value) (size bytes : Nat) (ht : P.underlying t = some (.slice e)) (hi : P.info? e = some i) (hz : i.zero = some z)
    (hsize : i.size = size) (hby : i.bytes = bytes) (hzs : z.cells.size = size) (hsz : 0 < size)
    (v : Value) (n : Nat) (xs : List Value) (hs : a.eval s = v) (hown : w.ownsRow base e size v n xs)
    (ad : Addr) (m c : Nat) (news : List Value) (hx : a.eval x = .slice (some ad) m c) (hl : news.length = m * size) (hnews : ∀ j u, news[j]? = some u → w.cell? (ad.add j) = some u) (h1 : ∀ u ∈ news, u.oneCell' = true)
    (h63 : n + m ≤ maxLen) (hbytes : (n + m) * bytes ≤ 140737488355328) (hbase : base ≤ w.heap.size)
    (h : ∀ v' w', w'.ownsRow base e size v' (n + m) (xs ++ news) → w.grownBy w' v.ownBlock → wpR P ops row Q rest (a.put o.dst v') w') : wpR P ops row Q ((o, .b) :: rest) a w := by
  refine wpR_b fun K hK => ?_
  have hw : Region.wanted o (yielded ops a.tmps) = true := by simp [Region.wanted, hgd]
  rw [if_pos hw]
  obtain ⟨v', w', hrun, h2, h3, _⟩ := run_append_own (P := P) w base t o.type e i z size bytes ht hi hz hsize hby hzs hsz v n xs hown ad m c news hl hnews h1 h63 hbytes hbase
  unfold execOp
  simp only [ho, resolve, invoke, builtin, Sem.run_bind, Sem.run_pure, Result.andThen_ok, List.map_toArray, List.map_cons, List.map_nil, hs, hx, hrun]
  exact hK _ _ (h v' w' h2 h3)
end
theorem plCells_app : ∀ (a b : List Pl), plCells (a ++ b) = plCells a ++ plCells b
  | [], _ => rfl
  | x :: a, b => by simp [plCells, plCells_app a b]
theorem rdPl_none {w : World} {n : Nat} {ys : List Pl} (h : RdSl 3 RPl w none n ys) : n = 0 ∧ ys = [] := by
  have hl := h.len
  rcases Nat.eq_zero_or_pos n with h0 | h0
  · subst h0; exact ⟨rfl, List.eq_nil_of_length_eq_zero hl⟩
  · obtain ⟨b, o, e, _⟩ := h.cells h0; cases e
set_option maxRecDepth 100000 in
set_option maxHeartbeats 2000000 in
theorem l03Own_any {pa : Nat} {ys : List Pl} {w : World} (h : AsmAt w pa 0 ys) (hl : ys.length ≤ 100000) :
    Calls Tryz.prog 85 #[.pointer (some ⟨pa, 0, none⟩)] w (AsmOnly w ys) := by
  obtain ⟨i0, hi, hz0, hz1, hz2⟩ := info_parts infoPl
  
  obtain ⟨la, C, k, cc, cq, hR⟩ := id h
  have hkl := hR.len
  cases C with
  | none =>
    obtain ⟨rfl, rfl⟩ := rdPl_none hR
    clear h hR
    go_enter Tryz.func85, Tryz.ntmps85
    go_wp2_with (at_builtin; go_loud (refine wpList_append_none_c rfl _ _ 35 rfl (w.heap.size + 1) 100 i0 3 Tryz.underlying35 hi _ 0 [] rfl (World.ownsRow_lit _ #[] 0 (by simp) (by decide) rfl) cc rfl ?_))
    refine bodyPost_ret (v := .agg #[.slice (some ⟨w.heap.size + 1, 0, none⟩) 0 0]) (by simp only [results, Tryz.results85]; go_simp) rfl ?_
    exact AsmOnly.of rfl rfl (by have := World.ownsRow_lit (base := w.heap.size) (e := 100) (size := 3) (w.alloc (Obj.cells #[.slice (some ⟨w.heap.size + 1, 0, none⟩) 0 0] 37)) #[] 0 (by simp) (by decide) rfl; simpa [plCells] using this) (by repeat (first | with_reducible (first | exact bl_refl _ | assumption | refine bl_al ?_ _ | refine bl_dr ?_ | refine bl_tr ?_ (by assumption) | refine bl_set ?_ ?_ _ | exact Nat.le_refl _) | omega | (simp only [World.size_alloc, World.size_setCell, World.size_drew] at *; omega) | (dsimp only; omega) | (simp; done) | (simp; omega)))
  | some ad =>
    have hcl : (∀ (W : World) j u, Below w.heap.size w W → (plCells ys)[j]? = some u → W.cell? (ad.add j) = some u) := fun W j u hW hj => by
      have hlt := (List.getElem?_eq_some_iff.1 hj).1
      rw [plCells_len] at hlt
      obtain ⟨b, o, e, hb, hc⟩ := hR.ptr (by omega)
      injection e with e
      subst e
      have := plCells_of_rd hc j u hj
      rw [Addr.add_lit] at this ⊢
      exact (hW.cell hb).trans this
    have hclH := Lib.hid hcl
    have hlen := plCells_len ys
    rw [hkl] at hlen
    have hlenH := Lib.hid hlen
    have hklH := Lib.hid hkl
    rw [hkl] at hl
    clear h hR hkl hcl hlen
    go_enter Tryz.func85, Tryz.ntmps85
    go_wp2_with (
      at_builtin
      refine wpList_append_own _ rfl _ _ 35 rfl (w.heap.size + 1) 100 i0 (.agg #[.int .i64 0, .int .i64 0, .int .i64 0]) 3 24 Tryz.underlying35 hi hz0 hz1 hz2 rfl (by decide) (.slice (some ⟨w.heap.size + 1, 0, none⟩) 0 0) 0 [] rfl (by have := World.ownsRow_lit (base := w.heap.size + 1) (e := 100) (size := 3) (w.alloc (Obj.cells #[.slice none 0 0] 37)) #[] 0 (by simp) (by decide) rfl; simpa using this) ad k cc (plCells ys) rfl hlenH.out (fun j u hj => hclH.out _ j u (by repeat (first | with_reducible (first | exact bl_refl _ | assumption | refine bl_al ?_ _ | refine bl_dr ?_ | refine bl_tr ?_ (by assumption) | refine bl_set ?_ ?_ _ | exact Nat.le_refl _) | omega | (simp only [World.size_alloc, World.size_setCell, World.size_drew] at *; omega) | (dsimp only; omega) | (simp; done) | (simp; omega))) hj) (plCells_one ys) (by unfold maxLen; omega) (by omega) (by simp) ?_
      intro v' w3 hown' hgrow _
      have hfar : Below (w.heap.size + 1) (w.alloc (Obj.cells #[.slice none 0 0] 37)) w3 := ((Below.refl (w.heap.size + 1) (w.alloc (Obj.cells #[.slice none 0 0] 37))).alloc (by simp) _).grown hgrow (by simp) (fun b' hb' => by
        have hb2 : some (w.heap.size + 1) = some b' := hb'
        injection hb2 with hb3
        exact Nat.le_of_eq hb3)
      have hB := Lib.hid (show Below w.heap.size w w3 from ((Below.refl w.heap.size w).alloc (Nat.le_refl _) _).trans (hfar.mono (Nat.le_succ _)))
      have f0 := (hfar.cell (p := ⟨w.heap.size, 0, none⟩) (Nat.lt_succ_self _)).trans (show _ = some (Value.slice none 0 0) by go_simp)
      have f1 := (hfar.frozen (p := ⟨w.heap.size, 0, none⟩) (Nat.lt_succ_self _)).trans (show _ = false by go_simp)
      have f2 : w.heap.size < w3.heap.size := by have := hfar.size; simp at this; omega
      rw [Nat.zero_add, List.nil_append] at hown'
      obtain ⟨A5, c5, rfl⟩ := ownsRow_form hown'
      have hownH := Lib.hid hown'
      clear hown' hgrow hfar)
    refine bodyPost_ret (v := .agg #[.slice A5 k c5]) (by simp only [results, Tryz.results85]; go_simp) rfl ?_
    exact AsmOnly.of rfl hklH.out.symm (ownsRow_base (ownsRow_setCell_below hownH.out (Nat.lt_succ_self _) _) (Nat.le_succ _)) (by have h9 := hB.out; repeat (first | with_reducible (first | exact bl_refl _ | assumption | refine bl_al ?_ _ | refine bl_dr ?_ | refine bl_tr ?_ (by assumption) | refine bl_set ?_ ?_ _ | exact Nat.le_refl _) | omega | (simp only [World.size_alloc, World.size_setCell, World.size_drew] at *; omega) | (dsimp only; omega) | (simp; done) | (simp; omega)))
set_option maxRecDepth 100000 in
set_option maxHeartbeats 2000000 in
theorem l25Without_any {pa base : Nat} {A : Option Addr} {n c kk : Nat} {zs : List Pl} {w : World} (hc : w.cell? ⟨pa, 0, none⟩ = some (.slice A n c)) (hlt : pa < w.heap.size) (hrow : w.ownsRow base 100 3 (.slice A n c) n (plCells zs)) (hn : n = zs.length) (hkk : kk < n) (hn5 : n ≤ 100000) :
    Calls Tryz.prog 86 #[.pointer (some ⟨pa, 0, none⟩), .int .i64 (kk : Int)] w (AsmOnly w (zs.take kk ++ zs.drop (kk + 1))) := by
  subst hn
  obtain ⟨i0, hi, hz0, hz1, hz2⟩ := info_parts infoPl
  
  obtain ⟨A', cap', e', hrd⟩ := rdP_of_row hrow
  injection e' with e1 e2 e3
  subst e1 e3
  have hkc : zs.length ≤ c := by
    rcases hrow.2 with ⟨e, h0⟩ | ⟨g, cap, cur, e, hb, hh, hn, hm, hs, ht⟩
    · omega
    · injection e with e1 e2 e3
      omega
  obtain ⟨g, o, rfl, hg, hget⟩ := hrd.ptr (by omega)
  have hcl1 : (∀ (W : World) j u, Below w.heap.size w W → (plCells (zs.take kk))[j]? = some u → W.cell? ((⟨g, o, none⟩ : Addr).add j) = some u) := fun W j u hW hj => by
    have := plCells_of_rd (w := w) (b := g) (o := o) (xs := zs.take kk) (fun k e he => hget k e (by
      rw [List.getElem?_take] at he
      split at he
      · exact he
      · cases he)) j u hj
    rw [Addr.add_lit] at this ⊢
    exact (hW.cell hg).trans this
  have hcl2 : (∀ (W : World) j u, Below w.heap.size w W → (plCells (zs.drop (kk + 1)))[j]? = some u → W.cell? ((⟨g, o + (kk + 1) * 3, none⟩ : Addr).add j) = some u) := fun W j u hW hj => by
    have := plCells_of_rd (w := w) (b := g) (o := o + (kk + 1) * 3) (xs := zs.drop (kk + 1)) (fun k e he => by
      rw [List.getElem?_drop] at he
      have := hget _ e he
      rw [show o + (kk + 1 + k) * 3 = o + (kk + 1) * 3 + k * 3 by omega] at this
      exact this) j u hj
    rw [Addr.add_lit] at this ⊢
    exact (hW.cell hg).trans this
  have hc1H := Lib.hid hcl1
  obtain ⟨n, hn⟩ : ∃ n, zs.length = n := ⟨_, rfl⟩
  have hl1 : (plCells (zs.take kk)).length = kk * 3 := by rw [plCells_len, List.length_take]; omega
  have hl2 : (plCells (zs.drop (kk + 1))).length = (n - (kk + 1)) * 3 := by rw [plCells_len, List.length_drop]; omega
  have hl1H := Lib.hid hl1
  have hl2H := Lib.hid hl2
  have hnH := Lib.hid hn
  rw [hn] at hc hkk hn5 hkc
  have hadH := Lib.hid (show ∃ ad2 : Addr, (if c = kk + 1 then some (⟨g, o, none⟩ : Addr) else some ⟨g, o + (kk + 1) * 3, none⟩) = some ad2 ∧ ∀ (W : World) j u, Below w.heap.size w W → (plCells (zs.drop (kk + 1)))[j]? = some u → W.cell? (ad2.add j) = some u by
    by_cases hck : c = kk + 1
    · refine ⟨⟨g, o, none⟩, if_pos hck, fun W j u _ hj => ?_⟩
      have hlt := (List.getElem?_eq_some_iff.1 hj).1
      rw [hl2] at hlt
      omega
    · exact ⟨⟨g, o + (kk + 1) * 3, none⟩, if_neg hck, hcl2⟩)
  clear hrow hrd hget hcl1 hcl2 hl1 hl2 hn
  have hk0 : (0 : Int) ≤ (kk : Int) := by omega
  have hpn : ¬ pa = w.heap.size + 1 := by omega
  have i1 : (kk : Int) ≤ (c : Int) := by omega
  have i2 : (kk : Int) + 1 ≤ (n : Int) := by omega
  have i3 : (n : Int) ≤ (c : Int) := by omega
  have i4 : (0 : Int) ≤ (kk : Int) + 1 := by omega
  have i5 : kk ≤ c := by omega
  have i6 : kk + 1 ≤ n := by omega
  have i7 : (kk : Int) < 1125899906842624 := by omega
  go_enter Tryz.func86, Tryz.ntmps86
  go_wp2_with fail
  refine wp_region_row (some (w.heap.size + 1)) [(1, .q), (2, .q), (3, .q), (4, .q), (5, .q), (6, .q), (8, .q), (9, .q), (10, .q), (11, .q), (12, .q), (13, .q), (14, .q), (0, .g), (7, .g), (15, .b), (16, .q), (17, .b)] (by kernel_rfl) (by kernel_rfl) ?_
  simp only [pick, List.filterMap_cons, List.filterMap_nil, List.getElem?_toArray, List.getElem?_cons_zero, List.getElem?_cons_succ, Option.map_some]
  repeat (first | ((with_reducible refine wpR_p (fun K hK => ?_)); go_simp; refine hK _ ?_; clear hK K) | ((with_reducible refine wpR_q (fun K hK => ?_)); go_simp; (first | refine hK _ ?_ | (go_bits; refine hK _ ?_) | (go_bits; go_simp; refine hK _ ?_)); clear hK K))
  with_reducible refine wpR_g (fun K hK => ?_)
  go_simp
  refine ⟨GrewR.of_alloc _, hK _ _ ?_⟩
  clear hK K
  obtain ⟨ad2, had2, hcl⟩ := hadH.out
  rw [had2]
  clear had2 hadH
  have hrow0 : ((w.alloc (Obj.cells #[.slice none 0 0] 37)).alloc (Obj.cells #[] 100)).drew.ownsRow (w.heap.size + 1) 100 3 (.slice (some ⟨w.heap.size + 1, 0, none⟩) 0 0) 0 [] := by
    have := World.ownsRow_lit (base := w.heap.size + 1) (e := 100) (size := 3) (w.alloc (Obj.cells #[.slice none 0 0] 37)) #[] 0 (by simp) (by decide) rfl
    have h9 : ((w.alloc (Obj.cells #[.slice none 0 0] 37)).alloc (Obj.cells #[] 100)).ownsRow (w.heap.size + 1) 100 3 (.slice (some ⟨w.heap.size + 1, 0, none⟩) 0 0) 0 [] := by simpa using this
    exact h9.drew
  refine wpR_append_at rfl _ _ 35 rfl (w.heap.size + 1) 100 i0 (.agg #[.int .i64 0, .int .i64 0, .int .i64 0]) 3 24 Tryz.underlying35 hi hz0 hz1 hz2 rfl (by decide) (.slice (some ⟨w.heap.size + 1, 0, none⟩) 0 0) 0 [] (by go_simp) hrow0 rfl ⟨g, o, none⟩ kk c (plCells (zs.take kk)) (by go_simp) hl1H.out (fun j u hj => hc1H.out _ j u (by repeat (first | with_reducible (first | exact bl_refl _ | assumption | refine bl_al ?_ _ | refine bl_dr ?_ | refine bl_tr ?_ (by assumption) | refine bl_set ?_ ?_ _ | exact Nat.le_refl _) | omega | (simp only [World.size_alloc, World.size_setCell, World.size_drew] at *; omega) | (dsimp only; omega) | (simp; done) | (simp; omega))) hj) (plCells_one _) (by unfold maxLen; omega) (by omega) (by simp) ?_
  intro v1 w1 hown1 hgrow1 hat1
  rw [Nat.zero_add, List.nil_append] at hown1
  have hfar1 : Below (w.heap.size + 1) (w.alloc (Obj.cells #[.slice none 0 0] 37)) w1 := (((Below.refl (w.heap.size + 1) (w.alloc (Obj.cells #[.slice none 0 0] 37))).alloc (by simp) (Obj.cells #[] 100)).drew).grown hgrow1 (by simp) (fun b' hb' => by
    have hb2 : some (w.heap.size + 1) = some b' := hb'
    injection hb2 with hb3
    exact Nat.le_of_eq hb3)
  have hB1 : Below w.heap.size w w1 := ((Below.refl w.heap.size w).alloc (Nat.le_refl _) _).trans (hfar1.mono (Nat.le_succ _))
  have s1 : w.heap.size + 1 ≤ w1.heap.size := by have := hfar1.size; simp at this; omega
  refine wpR_append_b rfl _ _ 35 rfl (w.heap.size + 1) 100 i0 (.agg #[.int .i64 0, .int .i64 0, .int .i64 0]) 3 24 Tryz.underlying35 hi hz0 hz1 hz2 rfl (by decide) v1 kk (plCells (zs.take kk)) (by go_simp) hown1 ad2 (n - (kk + 1)) (c - (kk + 1)) (plCells (zs.drop (kk + 1))) (by go_simp) hl2H.out (fun j u hj => hcl w1 j u hB1 hj) (plCells_one _) (by unfold maxLen; omega) (by omega) s1 ?_
  intro v2 w2 hown2 hgrow2
  obtain ⟨A5, c5, rfl⟩ := ownsRow_form hown2
  have hfar2 : Below (w.heap.size + 1) w1 w2 := (Below.refl (w.heap.size + 1) w1).grown hgrow2 s1 (fun b hb => (hown1.lt b hb).1)
  have f0 := (hfar2.cell (p := ⟨w.heap.size, 0, none⟩) (Nat.lt_succ_self _)).trans ((hfar1.cell (p := ⟨w.heap.size, 0, none⟩) (Nat.lt_succ_self _)).trans (show _ = some (Value.slice none 0 0) by go_simp))
  have f1 := (hfar2.frozen (p := ⟨w.heap.size, 0, none⟩) (Nat.lt_succ_self _)).trans ((hfar1.frozen (p := ⟨w.heap.size, 0, none⟩) (Nat.lt_succ_self _)).trans (show _ = false by go_simp))
  have f2 : w.heap.size < w2.heap.size := by have := hfar2.size; omega
  have hB2 := Lib.hid (hB1.trans (hfar2.mono (Nat.le_succ _)))
  have hownH := Lib.hid hown2
  clear hown1 hown2 hgrow1 hgrow2 hat1 hfar1 hfar2 hrow0
  repeat (first | ((with_reducible refine wpR_p (fun K hK => ?_)); go_simp; refine hK _ ?_; clear hK K) | ((with_reducible refine wpR_q (fun K hK => ?_)); go_simp; (first | refine hK _ ?_ | (go_bits; refine hK _ ?_) | (go_bits; go_simp; refine hK _ ?_)); clear hK K))
  with_reducible refine wpR_b (fun K hK => ?_)
  go_simp
  refine hK _ _ ?_
  clear hK K
  with_reducible refine wpR_nil ?_
  go_wp2
  refine bodyPost_ret (v := .agg #[.slice A5 (kk + (n - (kk + 1))) c5]) (by simp only [results, Tryz.results86]; go_simp) rfl ?_
  exact AsmOnly.of (bs := zs.take kk ++ zs.drop (kk + 1)) rfl (by rw [List.length_append, List.length_take, List.length_drop, hnH.out]; omega) (by rw [plCells_app]; exact ownsRow_base (ownsRow_setCell_below hownH.out (Nat.lt_succ_self _) _) (Nat.le_succ _)) (by have h9 := hB2.out; repeat (first | with_reducible (first | exact bl_refl _ | assumption | refine bl_al ?_ _ | refine bl_dr ?_ | refine bl_tr ?_ (by assumption) | refine bl_set ?_ ?_ _ | exact Nat.le_refl _) | omega | (simp only [World.size_alloc, World.size_setCell, World.size_drew] at *; omega) | (dsimp only; omega) | (simp; done) | (simp; omega)))
theorem AsmAt.of_row {w : World} {p base : Nat} {A : Option Addr} {n c : Nat} {zs : List Pl} (hl : p < w.heap.size) (hc : w.cell? ⟨p, 0, none⟩ = some (.slice A n c)) (hr : w.ownsRow base 100 3 (.slice A n c) n (plCells zs)) (hn : n = zs.length) : AsmAt w p 0 zs :=
  ⟨hl, A, n, c, hc, rdPl hr hn⟩
set_option maxRecDepth 100000 in
set_option maxHeartbeats 2000000 in
theorem l27Remove_any {pa : Nat} {F : Option Addr} {np cp : Nat} {gs : List Gl} {ts : List Ti} {ys : List Pl} {ps : List Pt} {w : World} (h2 : AsmAt w pa 0 ys) (hVy : Valid gs ts ys) (h3 : RdSl 2 RPt w F np ps) (hnp : np ≤ 1073741824) (hS : SortS ps) (hm : ∀ p ∈ ps, ∃ e ∈ ys, e.x = p.x ∧ e.y = p.y) :
    Calls Tryz.prog 39 #[.pointer (some ⟨pa, 0, none⟩), .slice F np cp] w (AsmOnly w (ys.filter fun b => !delP ps b)) := by
  
  have la := h2.lt
  have hA := Lib.hid h2
  have hF := Lib.hid h3
  have hpl := h3.len
  have hm' := Lib.hid hm
  have hSH := Lib.hid hS
  clear h2 h3 hm hS
  go_enter Tryz.func39, Tryz.ntmps39
  go_wp2_with fail
  refine (l03Own_any (hA.out.below (by repeat (first | with_reducible (first | exact bl_refl _ | assumption | refine bl_al ?_ _ | refine bl_dr ?_ | refine bl_tr ?_ (by assumption) | refine bl_set ?_ ?_ _ | exact Nat.le_refl _) | omega | (simp only [World.size_alloc, World.size_setCell, World.size_drew] at *; omega) | (dsimp only; omega) | (simp; done) | (simp; omega)))) (by have := hVy.len; omega)).mono ?_
  rintro e w1 ⟨A1, c1, rfl, hrow, hb1⟩
  have hrowH := Lib.hid hrow
  have s1 := hb1.size
  simp only [World.size_alloc] at s1
  have hB1 := Lib.hid (show Below w.heap.size w w1 by repeat (first | with_reducible (first | exact bl_refl _ | assumption | refine bl_al ?_ _ | refine bl_dr ?_ | refine bl_tr ?_ (by assumption) | refine bl_set ?_ ?_ _ | exact Nat.le_refl _) | omega | (simp only [World.size_alloc, World.size_setCell, World.size_drew] at *; omega) | (dsimp only; omega) | (simp; done) | (simp; omega)))
  have q0 := (hb1.cell (p := ⟨w.heap.size, 0, none⟩) (by simp)).trans (show _ = some (Value.slice none 0 0) by go_simp)
  have q1 := (hb1.frozen (p := ⟨w.heap.size, 0, none⟩) (by simp)).trans (show _ = false by go_simp)
  have b0 : w.heap.size < w1.heap.size := by omega
  clear hrow hb1
  go_wp2
  go_loopg [6] np (fun g i wr => ∃ (j : Nat) (A : Option Addr) (c : Nat), j + g = np ∧ i = .int .i64 (j : Int) ∧ Hid (wr.cell? ⟨w1.heap.size, 0, none⟩ = some (.slice A (restP ps ys j).length c)) ∧ Hid (wr.frozen? ⟨w1.heap.size, 0, none⟩ = false) ∧ Hid (wr.ownsRow (w.heap.size + 1) 100 3 (.slice A (restP ps ys j).length c) (restP ps ys j).length (plCells (restP ps ys j))) ∧ Hid (Below w1.heap.size w1 wr) ∧ w1.heap.size < wr.heap.size)
  case atStart => exact ⟨0, A1, c1, by omega, rfl, Lib.hid (by rw [restP_zero]; go_simp), Lib.hid (by go_simp), Lib.hid (by rw [restP_zero]; exact (ownsRow_base hrowH.out (by simp)).alloc _), Lib.hid (bl_al (bl_refl _) _), by simp⟩
  case round =>
    obtain ⟨j, A, c, hj, rfl, hcell, hfz, hrw, hbw, hlt⟩ := hrel
    have sw := hbw.out.size
    by_cases hjn : j < np
    · have hFw := hF.out.below RPt.stable (hB1.out.trans (hbw.out.mono (by omega)))
      obtain ⟨p, hp⟩ := hFw.get hjn
      obtain ⟨b, o, hFe, hb, hc⟩ := hFw.ptr (by omega)
      subst hFe
      obtain ⟨d0, d1⟩ := hc j p hp
      obtain ⟨kk, hpk, hkl, hst⟩ := restP_step hVy hSH.out hp (hm'.out p (List.mem_of_getElem? hp))
      have hpkH := Lib.hid hpk
      have hstH := Lib.hid hst
      have hVr := (hVy.filter (fun b => !delP (ps.take j) b) : Valid gs ts (restP ps ys j))
      have hr5 : (restP ps ys j).length ≤ 500 := hVr.len
      have hAw := Lib.hid (AsmAt.of_row hlt hcell.out hrw.out rfl)
      clear hc hp hFw hpk hst
      go_wp2_with fail
      refine (l03Index_at hAw.out hVr hpkH.out).mono ?_
      rintro e w2 ⟨rfl, hb2⟩
      have hb2H := Lib.hid hb2
      have s2 := hb2.size
      have c2 := (hb2.cell (p := ⟨w1.heap.size, 0, none⟩) hlt).trans hcell.out
      have f2 := (hb2.frozen (p := ⟨w1.heap.size, 0, none⟩) hlt).trans hfz.out
      have l2 : w1.heap.size < w2.heap.size := by omega
      have hrw2 := Lib.hid (ownsRow_below hrw.out hb2)
      have c2H := Lib.hid c2
      have f2H := Lib.hid f2
      clear hb2 c2 f2
      go_wp2_with fail
      refine (l25Without_any c2H.out l2 hrw2.out rfl hkl (by omega)).mono ?_
      rintro e w3 ⟨A3, c3, rfl, hrow3, hb3⟩
      have c3' := (hb3.cell (p := ⟨w1.heap.size, 0, none⟩) l2).trans c2H.out
      have f3' := (hb3.frozen (p := ⟨w1.heap.size, 0, none⟩) l2).trans f2H.out
      have s3 := hb3.size
      have l3 : w1.heap.size < w3.heap.size := by omega
      have hrow3H := Lib.hid hrow3
      have hB3 := Lib.hid (hbw.out.trans ((hb2H.out.trans (hb3.mono s2)).mono sw))
      clear hrow3 hb3
      go_wp2
      go_roundg (np - (j + 1))
      case measure => omega
      case rel => exact ⟨j + 1, A3, c3, by omega, by go_num, Lib.hid (by rw [← hstH.out]; go_simp), Lib.hid (by go_simp), Lib.hid (by rw [← hstH.out]; exact ownsRow_base (ownsRow_setCell_below hrow3H.out l2 _) (by omega)), Lib.hid (hB3.out.setCell (p := ⟨w1.heap.size, 0, none⟩) (Nat.le_refl _) _), by simp; omega⟩
    · obtain rfl : j = np := by omega
      have z0 := (hbw.out.cell (p := ⟨w.heap.size, 0, none⟩) b0).trans q0
      have z1 := (hbw.out.frozen (p := ⟨w.heap.size, 0, none⟩) b0).trans q1
      have z2 : w.heap.size < wr.heap.size := by omega
      have z3 := hcell.out
      have hB3 := hB1.out.trans (hbw.out.mono (by omega))
      have hfin := Lib.hid (show restP ps ys j = ys.filter fun b => !delP ps b by rw [← hpl]; exact restP_all ps ys)
      go_wp2
      refine bodyPost_ret (v := .agg #[.slice A (restP ps ys j).length c]) (by simp only [results, Tryz.results39]; go_simp) rfl ?_
      exact AsmOnly.of hfin.out rfl (ownsRow_base (ownsRow_setCell_below hrw.out (Nat.lt_succ_self _) _) (Nat.le_succ _)) (by repeat (first | with_reducible (first | exact bl_refl _ | assumption | refine bl_al ?_ _ | refine bl_dr ?_ | refine bl_tr ?_ (by assumption) | refine bl_set ?_ ?_ _ | exact Nat.le_refl _) | omega | (simp only [World.size_alloc, World.size_setCell, World.size_drew] at *; omega) | (dsimp only; omega) | (simp; done) | (simp; omega)))
set_option maxRecDepth 100000 in
set_option maxHeartbeats 2000000 in
theorem sRemovePoints_any (G T A C F : Option Addr) (n cg m ct q ca k cc np cp : Nat) (gs : List Gl) (ts : List Ti) (xs ys : List Pl) (ps : List Pt) (t : Int) (w : World) (h : SA w G n T m A q gs ts xs) (h2 : SA w G n T m C k gs ts ys) (h3 : RdSl 2 RPt w F np ps) (hnp : np ≤ 1073741824) :
    Calls Tryz.prog 10 #[.agg #[.slice G n cg, .slice T m ct, .slice A q ca, .int .i64 t], .agg #[.slice C k cc], .slice F np cp] w (AsmRes w (remR gs ts xs t ys ps)) := by
  
  have hS := Lib.hid (show SysAt (((w.alloc (Obj.cells #[.slice G n cg, .slice T m ct, .slice A q ca, .int .i64 t] 45)).alloc (Obj.cells #[.slice C k cc] 37)).alloc (Obj.cells #[.slice none 0 0] 37)) w.heap.size 0 gs ts xs t from (h.sysbox cg ct ca t).below (bl_al (bl_al (bl_refl _) _) _))
  have hA := Lib.hid (show AsmAt (((w.alloc (Obj.cells #[.slice G n cg, .slice T m ct, .slice A q ca, .int .i64 t] 45)).alloc (Obj.cells #[.slice C k cc] 37)).alloc (Obj.cells #[.slice none 0 0] 37)) (w.heap.size + 1) 0 ys from ⟨by simp, C, k, cc, by go_simp, h2.A.below RPl.stable (by repeat (first | with_reducible (first | exact bl_refl _ | assumption | refine bl_al ?_ _ | refine bl_dr ?_ | refine bl_tr ?_ (by assumption) | refine bl_set ?_ ?_ _ | exact Nat.le_refl _) | omega | (simp only [World.size_alloc, World.size_setCell, World.size_drew] at *; omega) | (dsimp only; omega) | (simp; done) | (simp; omega)))⟩)
  have hF := Lib.hid h3
  have hk : ys.length ≤ 1073741824 := by rw [h2.A.len]; exact h2.q
  clear h h2 h3
  obtain ⟨v, hv⟩ : ∃ v, overI gs ts xs t ys = v := ⟨_, rfl⟩
  have hvH := Lib.hid hv
  by_cases hv0 : v = 0
  · subst hv0
    have hg := overI_zero hv
    have hVx := valid_of (sysOkB_valid (growB_true hg.1).1).1
    have hVy := valid_of (growB_true hg.1).2
    clear hv hg
    obtain ⟨u, hu⟩ : ∃ u, woundB (softL xs ys ys.length) ps = u := ⟨_, rfl⟩
    have huH := Lib.hid hu
    go_enter Tryz.func10, Tryz.ntmps10
    go_wp2_with fail
    refine (l08Over_at hS.out hA.out hk hvH.out).mono ?_
    rintro e w1 ⟨rfl, hb1⟩
    have hS1 := Lib.hid (hS.out.below hb1)
    have hA1 := Lib.hid (hA.out.below hb1)
    have s1 := hb1.size
    simp only [World.size_alloc] at s1
    have hB1 := Lib.hid (show Below w.heap.size w w1 by repeat (first | with_reducible (first | exact bl_refl _ | assumption | refine bl_al ?_ _ | refine bl_dr ?_ | refine bl_tr ?_ (by assumption) | refine bl_set ?_ ?_ _ | exact Nat.le_refl _) | omega | (simp only [World.size_alloc, World.size_setCell, World.size_drew] at *; omega) | (dsimp only; omega) | (simp; done) | (simp; omega)))
    have q0 := (hb1.cell (p := ⟨w.heap.size + 2, 0, none⟩) (by simp)).trans (show _ = some (Value.slice none 0 0) by go_simp)
    have q1 := (hb1.frozen (p := ⟨w.heap.size + 2, 0, none⟩) (by simp)).trans (show _ = false by go_simp)
    have b2 : w.heap.size + 2 < w1.heap.size := by omega
    clear hb1
    go_wp2_with fail
    refine (l27Wound_at hS1.out hVx hA1.out hVy (hF.out.below RPt.stable hB1.out) hnp huH.out).mono ?_
    rintro e w2 ⟨rfl, hb2⟩
    have hA2 := Lib.hid (hA1.out.below hb2)
    have s2 := hb2.size
    have hB2 := Lib.hid (hB1.out.trans (hb2.mono (by omega)))
    have r0 := (hb2.cell (p := ⟨w.heap.size + 2, 0, none⟩) b2).trans q0
    have r1 := (hb2.frozen (p := ⟨w.heap.size + 2, 0, none⟩) b2).trans q1
    have b3 : w.heap.size + 2 < w2.heap.size := by omega
    clear hb2 q0 q1
    cases u
    · have hR := Lib.hid (remR_un hvH.out hu)
      clear hu
      go_wp2
      refine bodyPost_ret (v := .tuple #[.agg #[.slice none 0 0], .int .i64 2]) (by simp only [results, Tryz.results10]; go_simp) rfl ?_
      exact AsmRes.of hR.out rfl (World.ownsRow_nil _ _ _ _) (by have h9 := hB2.out; repeat (first | with_reducible (first | exact bl_refl _ | assumption | refine bl_al ?_ _ | refine bl_dr ?_ | refine bl_tr ?_ (by assumption) | refine bl_set ?_ ?_ _ | exact Nat.le_refl _) | omega | (simp only [World.size_alloc, World.size_setCell, World.size_drew] at *; omega) | (dsimp only; omega) | (simp; done) | (simp; omega)))
    · have hR := Lib.hid (remR_yes hvH.out hu)
      have hm : ∀ p ∈ ps, ∃ e ∈ ys, e.x = p.x ∧ e.y = p.y := fun p hp => by
        have h1 := woundB_mem hu p hp
        obtain ⟨j, e, _, he, _, rfl⟩ := (softL_mem _).1 h1
        exact ⟨e, List.mem_of_getElem? he, rfl, rfl⟩
      have hSS := woundB_sorted hu
      clear hu
      go_wp2_with fail
      refine (l27Remove_any hA2.out hVy (hF.out.below RPt.stable hB2.out) hnp hSS hm).mono ?_
      rintro e w3 ⟨A3, c3, rfl, hrow, hb3⟩
      have hrowH := Lib.hid hrow
      have s3 := hb3.size
      have hB3 := Lib.hid (hB2.out.trans (hb3.mono (by omega)))
      have z0 := (hb3.cell (p := ⟨w.heap.size + 2, 0, none⟩) b3).trans r0
      have z1 := (hb3.frozen (p := ⟨w.heap.size + 2, 0, none⟩) b3).trans r1
      have b4 : w.heap.size + 2 < w3.heap.size := by omega
      clear hb3 hrow r0 r1
      go_wp2
      refine bodyPost_ret (v := .tuple #[.agg #[.slice A3 (ys.filter fun b => !delP ps b).length c3], .int .i64 0]) (by simp only [results, Tryz.results10]; go_simp) rfl ?_
      exact AsmRes.of hR.out rfl (ownsRow_base (ownsRow_setCell_below hrowH.out (by simp; omega) _) (by omega)) (by have h9 := hB3.out; repeat (first | with_reducible (first | exact bl_refl _ | assumption | refine bl_al ?_ _ | refine bl_dr ?_ | refine bl_tr ?_ (by assumption) | refine bl_set ?_ ?_ _ | exact Nat.le_refl _) | omega | (simp only [World.size_alloc, World.size_setCell, World.size_drew] at *; omega) | (dsimp only; omega) | (simp; done) | (simp; omega)))
  · have hv1 : (v != 0) = true := by simpa using hv0
    have hR := Lib.hid (remR_no ps hv hv0)
    clear hv
    go_enter Tryz.func10, Tryz.ntmps10
    go_wp2_with fail
    refine (l08Over_at hS.out hA.out hk hvH.out).mono ?_
    rintro e w1 ⟨rfl, hb1⟩
    have s1 := hb1.size
    simp only [World.size_alloc] at s1
    have hB1 := Lib.hid (show Below w.heap.size w w1 by repeat (first | with_reducible (first | exact bl_refl _ | assumption | refine bl_al ?_ _ | refine bl_dr ?_ | refine bl_tr ?_ (by assumption) | refine bl_set ?_ ?_ _ | exact Nat.le_refl _) | omega | (simp only [World.size_alloc, World.size_setCell, World.size_drew] at *; omega) | (dsimp only; omega) | (simp; done) | (simp; omega)))
    have q0 := (hb1.cell (p := ⟨w.heap.size + 2, 0, none⟩) (by simp)).trans (show _ = some (Value.slice none 0 0) by go_simp)
    have q1 := (hb1.frozen (p := ⟨w.heap.size + 2, 0, none⟩) (by simp)).trans (show _ = false by go_simp)
    have b2 : w.heap.size + 2 < w1.heap.size := by omega
    clear hb1
    go_wp2
    refine bodyPost_ret (v := .tuple #[.agg #[.slice none 0 0], .int .i64 v]) (by simp only [results, Tryz.results10]; go_simp) rfl ?_
    exact AsmRes.of hR.out rfl (World.ownsRow_nil _ _ _ _) (by have h9 := hB1.out; repeat (first | with_reducible (first | exact bl_refl _ | assumption | refine bl_al ?_ _ | refine bl_dr ?_ | refine bl_tr ?_ (by assumption) | refine bl_set ?_ ?_ _ | exact Nat.le_refl _) | omega | (simp only [World.size_alloc, World.size_setCell, World.size_drew] at *; omega) | (dsimp only; omega) | (simp; done) | (simp; omega)))
end Go.Proofs.YtglcpphfmmnmkaaGreat
