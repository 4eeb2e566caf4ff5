/- slices.SortFunc at rows of points that a call has made. -/
import Derived.Test.YtpdpkanlmhigfaaGreatShelf
import Derived.Test.YtpdpkanlmhigfaaGreatQ3
import Derived.Sort.OwnSortedInts
namespace Go.Proofs.YtpdpkanlmhigfaaGreat
open Go.RowKit Go.Shelf Go.Lib Go.Sort
set_option linter.unusedSimpArgs false
set_option linter.unusedVariables false
attribute [local go_sem] BelowBy.cell BelowBy.cell_drew stillUpon givesUpon

set_option maxRecDepth 100000
def encPt (p : Pt) : List Value := [.int .i64 p.x, .int .i64 p.y]
def cmpP (x y : Pt) : Int := cmpPt x.x x.y y.x y.y
theorem comparePoints_exact (x y : Pt) (w : World) :
    Calls Tryz.prog 108 #[.agg #[.int .i64 x.x, .int .i64 x.y], .agg #[.int .i64 y.x, .int .i64 y.y]] w fun e w' => e = .returned (.int .i64 (cmpP x y)) ∧ ∃ q os, w' = grow (w.drewN q) os := by
  go_enter Tryz.func108, Tryz.ntmps108
  go_wp2
  refine wp_region_ord [(0, .q), (1, .q), (2, .q), (3, .q), (5, .q), (6, .q), (7, .q), (8, .q), (4, .g), (9, .g), (10, .g), (11, .g), (12, .q)] (by kernel_rfl) (by kernel_rfl) ?_
  simp only [pick, List.filterMap_cons, List.filterMap_nil, List.getElem?_toArray, List.getElem?_cons_zero, List.getElem?_cons_succ, Option.map_some]
  repeat (first | ((with_reducible refine wpD_p (fun K hK => ?_)); go_simp; refine hK _ ?_; clear hK K) | ((with_reducible refine wpD_q (fun K hK => ?_)); go_simp; (first | refine hK _ ?_ | (go_bits; refine hK _ ?_) | (go_bits; go_simp; refine hK _ ?_)); clear hK K))
  with_reducible refine wpD_g (fun K hK => ?_)
  go_simp
  refine (Compare_any _ _ _).mono ?_
  rintro e _ ⟨rfl, rfl⟩
  refine ⟨_, rfl, Below.refl _ _, hK _ _ ?_⟩
  clear hK K
  with_reducible refine wpD_g (fun K hK => ?_)
  go_simp
  refine (Compare_any _ _ _).mono ?_
  rintro e _ ⟨rfl, rfl⟩
  refine ⟨_, rfl, Below.refl _ _, hK _ _ ?_⟩
  clear hK K
  with_reducible refine wpD_g (fun K hK => ?_)
  go_simp
  refine ⟨Grew.of_alloc _, hK _ _ ?_⟩
  clear hK K
  with_reducible refine wpD_g (fun K hK => ?_)
  go_simp
  refine (Or_any (cmpI x.y y.y) (cmpI x.x y.x) _ _ _ _ (by go_simp) (by go_simp)).mono ?_
  rintro e _ ⟨rfl, rfl⟩
  refine ⟨_, rfl, Below.refl _ _, hK _ _ ?_⟩
  clear hK K
  repeat (first | ((with_reducible refine wpD_p (fun K hK => ?_)); go_simp; refine hK _ ?_; clear hK K) | ((with_reducible refine wpD_q (fun K hK => ?_)); go_simp; (first | refine hK _ ?_ | (go_bits; refine hK _ ?_) | (go_bits; go_simp; refine hK _ ?_)); clear hK K))
  with_reducible refine wpD_nil ?_
  go_wp2
  go_ret
  refine ⟨rfl, ?_⟩
  simp only [alloc_eq_grow, drew_grow, grow_grow, World.drew_is_drewN, World.drewN_drewN]
  exact ⟨_, _, rfl⟩
theorem ltOf_cmpP (x y : Pt) : ltOf cmpP x y = lessPt x.x x.y y.x y.y := rfl
theorem lessPt_said (a b c d : Int) : lessPt a b c d = decide (b < d ∨ (b = d ∧ a < c)) := by
  unfold lessPt cmpPt orI cmpI
  by_cases h1 : b < d
  · simp [h1]
  · by_cases h2 : d < b
    · have : ¬ b = d := by omega
      simp [h1, h2, this]
    · obtain rfl : b = d := by omega
      by_cases h3 : a < c
      · simp [h3]
      · by_cases h4 : c < a
        · simp [h3, h4]
        · simp [h3, h4]
theorem swo_cmpP : SWO (ltOf cmpP) where
  irrefl x := by rw [ltOf_cmpP]; exact lessPt_irrefl _ _
  trans x y z h1 h2 := by
    rw [ltOf_cmpP, lessPt_said, decide_eq_true_eq] at *
    omega
  ntrans x y z h1 h2 := by
    rw [ltOf_cmpP, lessPt_said, decide_eq_false_iff_not] at *
    omega
theorem part_cmpP (x y : Pt) (h1 : ltOf cmpP x y = false) (h2 : ltOf cmpP y x = false) : x = y := by
  rw [ltOf_cmpP, lessPt_said, decide_eq_false_iff_not] at *
  cases x
  cases y
  simp only [Pt.mk.injEq]
  simp only at h1 h2
  omega
/-- points in order -/
def sortP (L : List Pt) : List Pt := L.mergeSort fun x y => !(ltOf cmpP) y x
theorem sortP_len (L : List Pt) : (sortP L).length = L.length := List.length_mergeSort _
theorem flat_pt (L : List Pt) : (flatK encPt 2 L.toArray).toList = ptCells L := by
  apply List.ext_getElem?
  intro t
  rw [Array.getElem?_toList]
  by_cases ht : t < L.length * 2
  · have hs : t < (flatK encPt 2 L.toArray).size := by rw [size_flatK]; simpa using ht
    have h1 : (flatK encPt 2 L.toArray)[t]? = some (flatK encPt 2 L.toArray)[t]! := by rw [getElem!_pos _ t hs, Array.getElem?_eq_getElem hs]
    rw [h1, get_flatK _ _ _ _ (by simpa using ht)]
    have hq : t / 2 < L.length := by omega
    have hg := ptCells_get L (t / 2) _ (List.getElem?_eq_getElem hq)
    have he : L.toArray[t / 2]! = L[t / 2] := by rw [getElem!_pos _ _ (by simpa using hq)]; simp
    rw [he]
    rcases (show t % 2 = 0 ∨ t % 2 = 1 by omega) with hm | hm
    · rw [hm]
      have : t / 2 * 2 = t := by omega
      rw [this] at hg
      rw [hg.1]; rfl
    · rw [hm]
      have : t / 2 * 2 + 1 = t := by omega
      rw [this] at hg
      rw [hg.2]; rfl
  · rw [Array.getElem?_eq_none (by rw [size_flatK]; simpa using ht), List.getElem?_eq_none (by rw [ptCells_len]; omega)]
theorem holds_row {w : World} {g : Nat} {cur : Array Value} {e : TypeId} {L : List Pt} (hb : w.heap[g]? = some (.cells cur e (0, 0))) (ht : cur.toList.take (L.length * 2) = ptCells L) : HoldsK encPt 2 w g 0 L.toArray := by
  intro j hj
  rw [size_flatK] at hj
  have hj' : j < L.length * 2 := by simpa using hj
  refine ⟨?_, by simp [World.frozen?, hb]⟩
  have h1 : (cur.toList.take (L.length * 2))[j]? = (ptCells L)[j]? := by rw [ht]
  rw [List.getElem?_take_of_lt hj', ← flat_pt, Array.getElem?_toList, Array.getElem?_toList] at h1
  have hs : j < (flatK encPt 2 L.toArray).size := by rw [size_flatK]; simpa using hj'
  simp only [World.cell?, hb, Nat.zero_add]
  simp only [Option.isSome_none, Bool.false_eq_true, if_false, id]
  rw [h1, getElem!_pos _ j hs, Array.getElem?_eq_getElem hs]
theorem heap_sortedK {w : World} {g n : Nat} {os : Array Obj} {cur : Array Value} {e : TypeId} {fr : Nat × Nat} (d : Array Pt) (hb : w.heap[g]? = some (.cells cur e fr)) :
    (sortWorldK encPt 2 w g 0 n d os).heap[g]? = some (.cells (putCells id 0 (flatK encPt 2 d) cur) e fr) := by
  have hg : g < w.heap.size := (Array.getElem?_eq_some_iff.1 hb).1
  unfold sortWorldK putRowK
  rw [heap_grow_old _ _ (by simpa using hg)]
  simp [putRow, mapBlock, Sort.ahead, Array.getElem?_modify, hb, onCells]
theorem grownBy_sortedK {w : World} {g n : Nat} {os : Array Obj} (d : Array Pt) : w.grownBy (sortWorldK encPt 2 w g 0 n d os) (some g) := by
  refine ⟨rfl, rfl, rfl, by simp [sortWorldK, putRowK], fun k hk hne => ?_⟩
  unfold sortWorldK putRowK
  rw [heap_grow_old _ _ (by simpa using hk)]
  have : g ≠ k := fun e => hne (by rw [e])
  simp [putRow, mapBlock, Sort.ahead, Array.getElem?_modify, this]
theorem take_putK (cur : Array Value) (L : List Pt) (h : L.length * 2 ≤ cur.size) : (putCells id 0 (flatK encPt 2 L.toArray) cur).toList.take (L.length * 2) = ptCells L := by
  rw [← flat_pt]
  apply List.ext_getElem?
  intro j
  by_cases hj : j < L.length * 2
  · have hs : j < (flatK encPt 2 L.toArray).size := by rw [size_flatK]; simpa using hj
    rw [List.getElem?_take_of_lt hj, Array.getElem?_toList, Array.getElem?_toList]
    simp only [putCells, Array.getElem?_mapIdx, Nat.zero_le, Nat.zero_add, true_and, Nat.sub_zero]
    rw [Array.getElem?_eq_getElem (show j < cur.size by omega)]
    simp only [Option.map_some, id]
    rw [if_pos hs, getElem!_pos _ j hs, Array.getElem?_eq_getElem hs]
  · rw [List.getElem?_take_eq_none (by omega), Array.getElem?_toList, Array.getElem?_eq_none (by rw [size_flatK]; simpa using hj)]
end Go.Proofs.YtpdpkanlmhigfaaGreat
