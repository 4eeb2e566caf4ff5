/- Words on rows of points; a point put to its place in a list. -/
import Derived.Test.YtpnahobgmemdjaaBase2
import Derived.Test.YtpnahobgmemdjaaP1
namespace Go.Proofs.Ytpnahobgmemdjaa
open Go.RowKit
set_option linter.unusedSimpArgs false
set_option linter.unusedVariables false
structure Pt where
  x : Int
  y : Int
  deriving DecidableEq, Inhabited
def RPt (w : World) (b o : Nat) (e : Pt) : Prop := w.cell? ⟨b, o, none⟩ = some (.int .i64 e.x) ∧ w.cell? ⟨b, o + 1, none⟩ = some (.int .i64 e.y)
theorem RPt.stable : Stable RPt := fun _ _ _ _ _ h hb hw => ⟨(hw.cell (by exact hb)).trans h.1, (hw.cell (by exact hb)).trans h.2⟩
theorem RPt.stableAt (lo : Nat) : StableAt lo RPt := fun w _ b o _ h hlo hb hk =>
  ⟨(World.cell?_of_block (w := w) (a := ⟨b, o, none⟩) (hk b hlo hb)).trans h.1, (World.cell?_of_block (w := w) (a := ⟨b, o + 1, none⟩) (hk b hlo hb)).trans h.2⟩
def ptCells : List Pt → List Value
  | [] => []
  | b :: l => .int .i64 b.x :: .int .i64 b.y :: ptCells l
theorem ptCells_len (l : List Pt) : (ptCells l).length = l.length * 2 := by
  induction l with
  | nil => rfl
  | cons b l ih => simp only [ptCells, List.length_cons, ih]; omega
theorem ptCells_snoc (l : List Pt) (b : Pt) : ptCells (l ++ [b]) = ptCells l ++ [.int .i64 b.x, .int .i64 b.y] := by
  induction l with
  | nil => rfl
  | cons a l ih => simp [ptCells, ih]
theorem ptCells_one (bs : List Pt) : ∀ u ∈ ptCells bs, u.oneCell' = true := by
  induction bs with
  | nil => simp [ptCells]
  | cons b l ih =>
    intro u hu
    simp only [ptCells, List.mem_cons] at hu
    rcases hu with rfl | rfl | hu
    · rfl
    · rfl
    · exact ih u hu
theorem ptCells_get : ∀ (bs : List Pt) (k : Nat) (e : Pt), bs[k]? = some e → (ptCells bs)[k * 2]? = some (.int .i64 e.x) ∧ (ptCells bs)[k * 2 + 1]? = some (.int .i64 e.y)
  | [], k, e, h => by simp at h
  | b :: bs, 0, e, h => by
    simp at h
    subst h
    simp [ptCells]
  | b :: bs, k + 1, e, h => by
    have := ptCells_get bs k e (by simpa using h)
    have h3 : (k + 1) * 2 = k * 2 + 1 + 1 := by omega
    rw [h3]
    simpa [ptCells, Nat.add_assoc] using this
theorem ptCells_set : ∀ (bs : List Pt) (k : Nat) (x y : Int), k < bs.length → ((ptCells bs).set (k * 2) (.int .i64 x)).set (k * 2 + 1) (.int .i64 y) = ptCells (bs.set k ⟨x, y⟩)
  | [], k, x, y, h => by simp at h
  | b :: bs, 0, x, y, h => by simp [ptCells]
  | b :: bs, k + 1, x, y, h => by
    have := ptCells_set bs k x y (by simpa using h)
    have h3 : (k + 1) * 2 = k * 2 + 1 + 1 := by omega
    rw [h3]
    simpa [ptCells, Nat.add_assoc] using this
theorem rdPt_of_row {W : World} {base : Nat} {T : TypeId} {v : Value} {bs : List Pt} (h : W.ownsRow base T 2 v bs.length (ptCells bs)) : ∃ A cap, v = .slice A bs.length cap ∧ RdSl 2 RPt W A bs.length bs := by
  rcases h.2 with ⟨rfl, h0⟩ | ⟨g, cap, cur, rfl, hb, hh, hn, hm, hs, ht⟩
  · exact ⟨none, 0, by rw [h0], rfl, fun hp => by omega⟩
  · refine ⟨_, cap, rfl, rfl, fun hp => ⟨g, 0, rfl, (Array.getElem?_eq_some_iff.1 hh).1, fun k hk => ?_⟩⟩
    have hg := ptCells_get bs k _ (List.getElem?_eq_getElem hk)
    rw [← ht] at hg
    have hcell : ∀ j u, (cur.toList.take (bs.length * 2))[j]? = some u → W.cell? ⟨g, j, none⟩ = some u := fun j u hj => by
      rw [List.getElem?_take] at hj
      split at hj
      · simp only [World.cell?, hh]
        simpa using hj
      · cases hj
    rw [Nat.zero_add]
    exact ⟨hcell _ _ hg.1, hcell _ _ hg.2⟩
/-- the place of a point in a list in order, seen from place a on downwards -/
def putAt (L : List Pt) (x y : Int) : Nat → Nat
  | 0 => 0
  | a + 1 => match L[a]? with
    | none => a + 1
    | some e => if lessPt e.x e.y x y = true then a + 1 else putAt L x y a
/-- a point put to its place in a list in order, once -/
def putP (L : List Pt) (x y : Int) : List Pt :=
  let a := putAt L x y L.length
  if L[a]? = some ⟨x, y⟩ then L else L.take a ++ ⟨x, y⟩ :: L.drop a
theorem putAt_le (L : List Pt) (x y : Int) : ∀ a, putAt L x y a ≤ a
  | 0 => Nat.le_refl _
  | a + 1 => by
    unfold putAt
    split
    · exact Nat.le_refl _
    · split
      · exact Nat.le_refl _
      · exact Nat.le_trans (putAt_le L x y a) (Nat.le_succ _)
theorem putAt_stop {L : List Pt} {x y : Int} {a : Nat} {e : Pt} (h : L[a]? = some e) (hl : lessPt e.x e.y x y = true) : putAt L x y (a + 1) = a + 1 := by
  simp only [putAt, h]; rw [if_pos hl]
theorem putAt_go {L : List Pt} {x y : Int} {a : Nat} {e : Pt} (h : L[a]? = some e) (hl : lessPt e.x e.y x y = false) : putAt L x y (a + 1) = putAt L x y a := by
  simp only [putAt, h]; rw [if_neg (by rw [hl]; decide)]
theorem putP_there {L : List Pt} {x y : Int} {a : Nat} (h : putAt L x y L.length = a) (he : L[a]? = some ⟨x, y⟩) : putP L x y = L := by
  unfold putP; simp only [h]; rw [if_pos he]
theorem putP_new {L : List Pt} {x y : Int} {a : Nat} (h : putAt L x y L.length = a) (he : ¬ L[a]? = some ⟨x, y⟩) : putP L x y = L.take a ++ ⟨x, y⟩ :: L.drop a := by
  unfold putP; simp only [h]; rw [if_neg he]
theorem putP_mem {L : List Pt} {x y : Int} {e : Pt} : e ∈ putP L x y ↔ e ∈ L ∨ e = ⟨x, y⟩ := by
  unfold putP
  simp only []
  split
  · rename_i h
    constructor
    · exact Or.inl
    · rintro (h1 | rfl)
      · exact h1
      · exact List.mem_of_getElem? h
  · have := List.take_append_drop (putAt L x y L.length) L
    constructor
    · intro h
      simp only [List.mem_append, List.mem_cons] at h
      rcases h with h | h | h
      · exact Or.inl (List.mem_of_mem_take h)
      · exact Or.inr h
      · exact Or.inl (List.mem_of_mem_drop h)
    · intro h
      simp only [List.mem_append, List.mem_cons]
      rcases h with h | h
      · rw [← this, List.mem_append] at h
        rcases h with h | h
        · exact Or.inl h
        · exact Or.inr (Or.inr h)
      · exact Or.inr (Or.inl h)
theorem putP_len (L : List Pt) (x y : Int) : (putP L x y).length ≤ L.length + 1 := by
  unfold putP
  simp only []
  split
  · omega
  · simp only [List.length_append, List.length_cons, List.length_take, List.length_drop]; omega
/-- how the list stands when the elements from place i on were shifted -/
theorem putP_shift {L ys : List Pt} {x y : Int} {a : Nat} (ha : a ≤ L.length) (hl : ys.length = L.length + 1) (h1 : ∀ j, j < a → ys[j]? = L[j]?) (h2 : ∀ j, a < j → j ≤ L.length → ys[j]? = L[j - 1]?) : ys.set a ⟨x, y⟩ = L.take a ++ ⟨x, y⟩ :: L.drop a := by
  apply List.ext_getElem?
  intro j
  have hta : (L.take a).length = a := by rw [List.length_take]; omega
  rcases Nat.lt_trichotomy j a with h | rfl | h
  · rw [List.getElem?_set_ne (by omega), List.getElem?_append_left (by omega), List.getElem?_take, if_pos h, h1 j h]
  · rw [List.getElem?_set_self (by omega), List.getElem?_append_right (by omega), hta, Nat.sub_self]; rfl
  · rw [List.getElem?_set_ne (by omega), List.getElem?_append_right (by omega), hta]
    obtain ⟨d, rfl⟩ : ∃ d, j = a + 1 + d := ⟨j - a - 1, by omega⟩
    have : a + 1 + d - a = d + 1 := by omega
    rw [this, List.getElem?_cons_succ, List.getElem?_drop]
    rcases Nat.lt_or_ge L.length (a + 1 + d) with hh | hh
    · rw [List.getElem?_eq_none (by omega), List.getElem?_eq_none (by omega)]
    · rw [h2 _ h hh]; congr 1; omega
theorem cell_pt2 (w : World) (a b : Value) (t : TypeId) : ∀ j u, [a, b][j]? = some u → (w.alloc (.cells #[a, b] t)).cell? ((⟨w.heap.size, 0, none⟩ : Addr).add j) = some u := by
  intro j u hj
  match j, hj with
  | 0, hj => simp at hj; subst hj; simp [Addr.add]
  | 1, hj => simp at hj; subst hj; simp [Addr.add]
end Go.Proofs.Ytpnahobgmemdjaa
