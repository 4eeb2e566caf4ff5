/- Walks: the program reaches the points of a shape from one of them. -/
import Derived.Test.YtpnahobgmemdjaaGBH
import Derived.Test.YtpnahobgmemdjaaGAK
namespace Go.Proofs.Ytpnahobgmemdjaa
open Go.RowKit Go.Shelf
set_option linter.unusedSimpArgs false
set_option linter.unusedVariables false
attribute [local go_sem] BelowBy.cell BelowBy.cell_drew stillUpon givesUpon

theorem Shp.sortedS {ps : List Pt} (h : Shp ps) : SortS ps := by
  unfold SortS
  rw [List.pairwise_iff_getElem]
  exact fun i j hi hj hij => h.sorted i j _ _ hij (List.getElem?_eq_getElem hi) (List.getElem?_eq_getElem hj)
theorem idxP_mem {ps : List Pt} {x y : Int} {v : Nat} (h : idxP ps x y = some v) : decide ((⟨x, y⟩ : Pt) ∈ ps) = true :=
  decide_eq_true (List.mem_of_getElem? (idxP_some h))
theorem idxP_off {ps : List Pt} {x y : Int} (h : idxP ps x y = none) : decide ((⟨x, y⟩ : Pt) ∈ ps) = false :=
  decide_eq_false fun hm => by
    obtain ⟨k, hk⟩ := List.mem_iff_getElem?.1 hm
    exact idxP_none h k hk
abbrev WaySt := List Nat × List Int × List Int
section
variable {w w' : World} {B : Nat} {ps : List Pt} {st : WaySt} {T : Nat → Option Nat}
end
/-- what the map of the trips says -/
def tripM (ps : List Pt) (T : Nat → Option Nat) (x y : Int) : Option Nat := (idxP ps x y).bind T
theorem tripM_none {ps : List Pt} {T : Nat → Option Nat} {x y : Int} (h : idxP ps x y = none) : tripM ps T x y = none := by unfold tripM; rw [h]; rfl
theorem tripM_at {ps : List Pt} {T : Nat → Option Nat} {x y : Int} {v : Nat} (h : idxP ps x y = some v) : tripM ps T x y = T v := by unfold tripM; rw [h]; rfl
theorem tripM_put {ps : List Pt} (hS : Shp ps) {T : Nat → Option Nat} {v g : Nat} {e : Pt} (he : ps[v]? = some e) (x y : Int) : (if x = e.x ∧ y = e.y then some g else tripM ps T x y) = tripM ps (fun u => if u = v then some g else T u) x y := by
  unfold tripM
  by_cases hxy : x = e.x ∧ y = e.y
  · obtain ⟨rfl, rfl⟩ := hxy
    rw [hS.idx he]
    simp
  · rw [if_neg hxy]
    cases hi : idxP ps x y with
    | none => rfl
    | some k =>
      have hk : k ≠ v := fun e' => by
        subst e'
        have := idxP_some hi
        rw [he] at this
        injection this with this
        subst this
        exact hxy ⟨rfl, rfl⟩
      simp [hk]
theorem way1_none {ps : List Pt} {k d u : Nat} {st : WaySt} {e : Pt} (hu : st.1[k]? = some u) (he : ps[u]? = some e) (hl : idxP ps (stepX e.x d) (stepY e.y d) = none) : way1 (nbP ps) k d st = st := by
  unfold way1 nbP
  rw [hu]
  simp only [he, hl]
theorem way1_old {ps : List Pt} {k d u v : Nat} {st : WaySt} {e : Pt} {s : Int} (hu : st.1[k]? = some u) (he : ps[u]? = some e) (hl : idxP ps (stepX e.x d) (stepY e.y d) = some v) (hv : st.2.2[v]? = some s) (hs : s ≠ -1) : way1 (nbP ps) k d st = st := by
  unfold way1 nbP
  rw [hu]
  simp only [he, hl, hv]
  rw [if_neg (fun e => hs (by injection e))]
theorem way1_new {ps : List Pt} {k d u v : Nat} {st : WaySt} {e : Pt} {s : Int} (hu : st.1[k]? = some u) (he : ps[u]? = some e) (hl : idxP ps (stepX e.x d) (stepY e.y d) = some v) (hv : st.2.2[v]? = some (-1)) (hs : st.2.2[u]? = some s) : way1 (nbP ps) k d st = (st.1 ++ [v], st.2.1.set v (backI d), st.2.2.set v (s + 1)) := by
  unfold way1 nbP
  rw [hu]
  simp only [he, hl, hv, hs]
  rfl
theorem nbP_back {ps : List Pt} (h : Shp ps) {u d v : Nat} {e : Pt} (hu : ps[u]? = some e) (hd : d < 4) (hv : idxP ps (stepX e.x d) (stepY e.y d) = some v) : nbP ps v ((d + 2) % 4) = some u := by
  have hk := idxP_some hv
  unfold nbP
  rw [hk]
  simp only
  have hb : stepX (stepX e.x d) (((d + 2) % 4 : Nat) : Int) = e.x ∧ stepY (stepY e.y d) (((d + 2) % 4 : Nat) : Int) = e.y := by
    have : d = 0 ∨ d = 1 ∨ d = 2 ∨ d = 3 := by omega
    rcases this with rfl | rfl | rfl | rfl <;> simp [stepX, stepY]
  rw [hb.1, hb.2]
  exact h.idx hu
theorem oppN_back (d : Nat) (hd : d < 4) : (oppN d : Int) = backI d := by
  have : d = 0 ∨ d = 1 ∨ d = 2 ∨ d = 3 := by omega
  rcases this with rfl | rfl | rfl | rfl <;> rfl
end Go.Proofs.Ytpnahobgmemdjaa
