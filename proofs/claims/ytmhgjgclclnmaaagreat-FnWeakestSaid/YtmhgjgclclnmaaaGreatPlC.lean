/- Words on rows of placed tiles; such a row copied. -/
import Derived.Test.YtmhgjgclclnmaaaGreatW17a
import Derived.Test.YtmhgjgclclnmaaaGreatHTo
import Derived.Lib.LazyBuf
import Derived.Lib.SliceRun
namespace Go.Proofs.YtmhgjgclclnmaaaGreat
open Go.RowKit Go.Shelf
set_option linter.unusedSimpArgs false
set_option linter.unusedVariables false
attribute [local go_sem] BelowBy.cell BelowBy.cell_drew stillUpon givesUpon BelowBy.cell_drew2 BelowBy.cell_drew3

def plCells : List Pl → List Value
  | [] => []
  | b :: l => .int .i64 b.x :: .int .i64 b.y :: .int .i64 b.t :: plCells l
theorem plCells_len (l : List Pl) : (plCells l).length = l.length * 3 := by
  induction l with
  | nil => rfl
  | cons b l ih => simp only [plCells, List.length_cons, ih]; omega
theorem plCells_snoc (l : List Pl) (b : Pl) : plCells (l ++ [b]) = plCells l ++ [.int .i64 b.x, .int .i64 b.y, .int .i64 b.t] := by
  induction l with
  | nil => rfl
  | cons a l ih => simp [plCells, ih]
theorem plCells_one (bs : List Pl) : ∀ u ∈ plCells bs, u.oneCell' = true := by
  induction bs with
  | nil => simp [plCells]
  | cons b l ih =>
    intro u hu
    simp only [plCells, List.mem_cons] at hu
    rcases hu with rfl | rfl | rfl | hu
    · rfl
    · rfl
    · rfl
    · exact ih u hu
theorem plCells_get : ∀ (bs : List Pl) (k : Nat) (e : Pl), bs[k]? = some e → (plCells bs)[k * 3]? = some (.int .i64 e.x) ∧ (plCells bs)[k * 3 + 1]? = some (.int .i64 e.y) ∧ (plCells bs)[k * 3 + 2]? = some (.int .i64 e.t)
  | [], k, e, h => by simp at h
  | b :: bs, 0, e, h => by
    simp at h
    subst h
    simp [plCells]
  | b :: bs, k + 1, e, h => by
    have := plCells_get bs k e (by simpa using h)
    have h3 : (k + 1) * 3 = k * 3 + 1 + 1 + 1 := by omega
    rw [h3]
    simpa [plCells, Nat.add_assoc] using this
theorem plCells_set : ∀ (bs : List Pl) (k : Nat) (e : Pl) (x y : Int), bs[k]? = some e → ((plCells bs).set (k * 3) (.int .i64 x)).set (k * 3 + 1) (.int .i64 y) = plCells (bs.set k ⟨x, y, e.t⟩)
  | [], k, e, x, y, h => by simp at h
  | b :: bs, 0, e, x, y, h => by
    simp at h
    subst h
    simp [plCells]
  | b :: bs, k + 1, e, x, y, h => by
    have := plCells_set bs k e x y (by simpa using h)
    have h3 : (k + 1) * 3 = k * 3 + 1 + 1 + 1 := by omega
    rw [h3]
    simpa [plCells, Nat.add_assoc] using this
theorem plCells_of_rd {w : World} {b o : Nat} {xs : List Pl} (h : ∀ k e, xs[k]? = some e → RPl w b (o + k * 3) e) : ∀ j u, (plCells xs)[j]? = some u → w.cell? ((⟨b, o, none⟩ : Addr).add j) = some u := by
  intro j u hj
  have hlt := (List.getElem?_eq_some_iff.1 hj).1
  rw [plCells_len] at hlt
  obtain ⟨k, hk⟩ : ∃ k, j / 3 = k := ⟨_, rfl⟩
  obtain ⟨e, he⟩ : ∃ e, xs[k]? = some e := ⟨_, List.getElem?_eq_getElem (by omega)⟩
  obtain ⟨g0, g1, g2⟩ := plCells_get xs _ e he
  obtain ⟨c0, c1, c2⟩ := h _ e he
  rw [Addr.add_lit]
  have : j = k * 3 ∨ j = k * 3 + 1 ∨ j = k * 3 + 2 := by omega
  rcases this with rfl | rfl | rfl
  · rw [← Option.some.inj (g0.symm.trans hj)]; exact c0
  · rw [← Option.some.inj (g1.symm.trans hj), ← Nat.add_assoc]; exact c1
  · rw [← Option.some.inj (g2.symm.trans hj), ← Nat.add_assoc]; exact c2
theorem rdP_of_row {W : World} {base : Nat} {T : TypeId} {v : Value} {bs : List Pl} (h : W.ownsRow base T 3 v bs.length (plCells bs)) : ∃ A cap, v = .slice A bs.length cap ∧ RdSl 3 RPl W A bs.length bs := by
  rcases h.2 with ⟨rfl, h0⟩ | ⟨g, cap, cur, rfl, hb, hh, hn, hm, hs, ht⟩
  · exact ⟨none, 0, by rw [h0], rfl, fun hp => by omega⟩
  · refine ⟨_, cap, rfl, rfl, fun hp => ⟨g, 0, rfl, (Array.getElem?_eq_some_iff.1 hh).1, fun k hk => ?_⟩⟩
    have hg := plCells_get bs k _ (List.getElem?_eq_getElem hk)
    rw [← ht] at hg
    have hcell : ∀ j u, (cur.toList.take (bs.length * 3))[j]? = some u → W.cell? ⟨g, j, none⟩ = some u := fun j u hj => by
      rw [List.getElem?_take] at hj
      split at hj
      · simp only [World.cell?, hh]
        simpa using hj
      · cases hj
    rw [Nat.zero_add]
    exact ⟨hcell _ _ hg.1, hcell _ _ hg.2.1, hcell _ _ hg.2.2⟩
def OwnPl (w : World) (bs : List Pl) (e : Ending) (w' : World) : Prop := ∃ v, e = .returned v ∧ w'.ownsRow w.heap.size 149 3 v bs.length (plCells bs) ∧ Below w.heap.size w w'
end Go.Proofs.YtmhgjgclclnmaaaGreat
