/- Walks: the program's parts of an assembly. -/
import Derived.Test.YtkfjojpohcieeaaQ20
import Derived.Test.YtkfjojpohcieeaaW23
import Derived.Test.YtkfjojpohcieeaaKH
namespace Go.Proofs.Ytkfjojpohcieeaa
open Go.RowKit Go.Shelf
set_option linter.unusedSimpArgs false
set_option linter.unusedVariables false
attribute [local go_sem] BelowBy.cell BelowBy.cell_drew stillUpon givesUpon

/-- an assembly in form is valid with tiles that have no glues -/
def noTiles : List Ti := List.replicate 160 ⟨⟨#[]⟩, [0, 0, 0, 0]⟩
theorem form_valid {xs : List Pl} (h : hasFormB xs = true) : Valid [] noTiles xs := by
  unfold hasFormB at h
  simp only [Bool.and_eq_true, decide_eq_true_eq] at h
  obtain ⟨hf, h4⟩ := h
  have hpl : ∀ (k : Nat) (e : Pl), xs[k]? = some e → validPt e.x e.y = true ∧ inB e.t 0 159 = true := fun k e he => by
    have := allB_at hf (lt_of_get he)
    unfold okPl at this
    rw [he] at this
    simp only [Bool.and_eq_true] at this
    exact this.1
  have hstep : ∀ (k : Nat) (d e : Pl), xs[k]? = some d → xs[k + 1]? = some e → lessPt d.x d.y e.x e.y = true := fun k d e hd he => by
    have := allB_at hf (lt_of_get he)
    rw [okPl_eqS he hd] at this
    simp only [Bool.and_eq_true] at this
    exact this.2
  have hn : noTiles.length = 160 := by unfold noTiles; exact List.length_replicate
  have ht : ∀ (j : Nat) (t : Ti), noTiles[j]? = some t → t.sides = [0, 0, 0, 0] := fun j t hj => by
    have := List.mem_of_getElem? hj
    unfold noTiles at this
    rw [(List.mem_replicate.1 this).2]
  refine ⟨h4, by simp, by omega, fun k e he => ?_, fun k e he => ?_, ?_, fun j t hj => by rw [ht j t hj]; rfl, fun j t d v hj hd => ?_, fun j g hj => by simp at hj⟩
  · have := (hpl k e he).1
    simp only [validPt, Bool.and_eq_true, inB_true] at this
    exact this
  · have := inB_true.1 (hpl k e he).2
    exact ⟨e.t.toNat, by omega, by omega⟩
  · intro i j d e hij hd he
    induction j generalizing e with
    | zero => omega
    | succ j ih =>
      have hj : j < xs.length := by have := lt_of_get he; omega
      obtain ⟨c, hc⟩ : ∃ c, xs[j]? = some c := ⟨_, List.getElem?_eq_getElem hj⟩
      have h2 := hstep j c e hc he
      rcases Nat.lt_or_ge i j with h | h
      · have h1 := ih c h hc
        rw [lessPt_iff] at h1 h2 ⊢
        omega
      · obtain rfl : i = j := by omega
        rw [hd] at hc
        injection hc with hc
        subst hc
        exact h2
  · rw [ht j t hj] at hd
    have := List.mem_of_getElem? hd
    simp at this
    exact ⟨0, by omega, by omega⟩
theorem form_shp {xs : List Pl} (h : hasFormB xs = true) : Shp (xs.map plPt) := by
  have hV := form_valid h
  refine ⟨fun k e he => ?_, fun i j d e hij hd he => ?_⟩
  · rw [List.getElem?_map, Option.map_eq_some_iff] at he
    obtain ⟨a, ha, rfl⟩ := he
    exact hV.pt k a ha
  · rw [List.getElem?_map, Option.map_eq_some_iff] at hd he
    obtain ⟨a, ha, rfl⟩ := hd
    obtain ⟨b, hb, rfl⟩ := he
    exact hV.sorted i j a b hij ha hb
theorem form_len {xs : List Pl} (h : hasFormB xs = true) : xs.length ≤ 500 := by
  unfold hasFormB at h
  simp only [Bool.and_eq_true, decide_eq_true_eq] at h
  exact h.2
def plAt (xs : List Pl) (v : Nat) : Pl := (xs[v]?).getD ⟨0, 0, 0⟩
theorem plAt_of {xs : List Pl} {v : Nat} {e : Pl} (h : xs[v]? = some e) : plAt xs v = e := by unfold plAt; rw [h]; rfl
/-- the parts of an assembly -/
def partsQ (xs : List Pl) : List (List Pl) := (partsN (xs.map plPt)).map fun l => l.map (plAt xs)
noncomputable def tileOf (xs : List Pl) (p : Pt) : Pl := ⟨p.x, p.y, atI xs p.x p.y⟩
theorem tileOf_at {xs : List Pl} (h : hasFormB xs = true) {v : Nat} (hv : v < xs.length) : tileOf xs (ptAt (xs.map plPt) v) = plAt xs v := by
  obtain ⟨e, he⟩ : ∃ e, xs[v]? = some e := ⟨_, List.getElem?_eq_getElem hv⟩
  rw [plAt_of he, ptAt_of (show (xs.map plPt)[v]? = some (plPt e) by rw [List.getElem?_map, he]; rfl)]
  have hp := IsPlace.eq (form_valid h) (place_found he rfl rfl)
  unfold tileOf plPt
  simp only
  rw [atI_some hp.symm he]
theorem partsQ_tile {xs : List Pl} (h : hasFormB xs = true) : partsQ xs = (partsP (xs.map plPt)).map fun l => l.map (tileOf xs) := by
  unfold partsQ partsP
  rw [List.map_map]
  apply List.map_congr_left
  intro l hl
  obtain ⟨i, hi⟩ := List.mem_iff_getElem?.1 hl
  have hlt := partsN_lt hi
  unfold ptsAt
  show l.map (plAt xs) = (l.map (ptAt (xs.map plPt))).map (tileOf xs)
  rw [List.map_map]
  apply List.map_congr_left
  intro v hv
  have := hlt v hv
  rw [List.length_map] at this
  exact (tileOf_at h this).symm
/-- how the parts lie -/
def plRows (P : List (List Pl)) : List (List Value) := P.map plCells
def PtsQ (w : World) (n : Nat) (l : List Pt) (e : Ending) (w' : World) : Prop :=
  ∃ A c, e = .returned (.slice A n c) ∧ w'.ownsRow w.heap.size 52 2 (.slice A n c) n (ptCells l) ∧ Below w.heap.size w w'
def PartR (w : World) (m : Nat) (l : List Pl) (e : Ending) (w' : World) : Prop :=
  ∃ A c, e = .returned (.agg #[.slice A m c]) ∧ w'.ownsRow w.heap.size 81 3 (.slice A m c) m (plCells l) ∧ Below w.heap.size w w'
end Go.Proofs.Ytkfjojpohcieeaa
