import Derived.Test.YtkppijcjmhkkkaaShelf
import Derived.Test.YtkppijcjmhkkkaaGAI
import Derived.Sort.OwnSortedInts
import Derived.Test.YtkppijcjmhkkkaaGAG
set_option linter.unusedSimpArgs false
set_option linter.unusedVariables false
/- slices.SortFunc at rows of points that a call has made. -/



namespace Go.Proofs.Ytkppijcjmhkkkaa
open Go.RowKit Go.Shelf Go.Lib Go.Sort
attribute [local go_sem] BelowBy.cell BelowBy.cell_drew stillUpon givesUpon

set_option maxRecDepth 100000
def encPt (p : Pt) : List Value := [.int .i64 p.x, .int .i64 p.y]
def cmpP (x y : Pt) : Int := cmpPt x.x x.y y.x y.y
theorem comparePoints_exact (x y : Pt) (w : World) :
    Calls Try.prog 49 #[.agg #[.int .i64 x.x, .int .i64 x.y], .agg #[.int .i64 y.x, .int .i64 y.y]] w fun e w' => e = .returned (.int .i64 (cmpP x y)) ∧ ∃ q os, w' = grow (w.drewN q) os := by
  go_enter Try.func49, Try.ntmps49
  go_wp2
  refine wp_region_ord [(0, .q), (1, .q), (2, .q), (3, .q), (5, .q), (6, .q), (7, .q), (8, .q), (4, .g), (9, .g), (10, .g), (11, .g), (12, .q)] (by kernel_rfl) (by kernel_rfl) ?_
  simp only [pick, List.filterMap_cons, List.filterMap_nil, List.getElem?_toArray, List.getElem?_cons_zero, List.getElem?_cons_succ, Option.map_some]
  repeat (first | ((with_reducible refine wpD_p (fun K hK => ?_)); go_simp; refine hK _ ?_; clear hK K) | ((with_reducible refine wpD_q (fun K hK => ?_)); go_simp; (first | refine hK _ ?_ | (go_bits; refine hK _ ?_) | (go_bits; go_simp; refine hK _ ?_)); clear hK K))
  with_reducible refine wpD_g (fun K hK => ?_)
  go_simp
  refine (Compare_any _ _ _).mono ?_
  rintro e _ ⟨rfl, rfl⟩
  refine ⟨_, rfl, Below.refl _ _, hK _ _ ?_⟩
  clear hK K
  with_reducible refine wpD_g (fun K hK => ?_)
  go_simp
  refine (Compare_any _ _ _).mono ?_
  rintro e _ ⟨rfl, rfl⟩
  refine ⟨_, rfl, Below.refl _ _, hK _ _ ?_⟩
  clear hK K
  with_reducible refine wpD_g (fun K hK => ?_)
  go_simp
  refine ⟨Grew.of_alloc _, hK _ _ ?_⟩
  clear hK K
  with_reducible refine wpD_g (fun K hK => ?_)
  go_simp
  refine (Or_any (cmpI x.y y.y) (cmpI x.x y.x) _ _ _ _ (by go_simp) (by go_simp)).mono ?_
  rintro e _ ⟨rfl, rfl⟩
  refine ⟨_, rfl, Below.refl _ _, hK _ _ ?_⟩
  clear hK K
  repeat (first | ((with_reducible refine wpD_p (fun K hK => ?_)); go_simp; refine hK _ ?_; clear hK K) | ((with_reducible refine wpD_q (fun K hK => ?_)); go_simp; (first | refine hK _ ?_ | (go_bits; refine hK _ ?_) | (go_bits; go_simp; refine hK _ ?_)); clear hK K))
  with_reducible refine wpD_nil ?_
  go_wp2
  go_ret
  refine ⟨rfl, ?_⟩
  simp only [alloc_eq_grow, drew_grow, grow_grow, World.drew_is_drewN, World.drewN_drewN]
  exact ⟨_, _, rfl⟩
theorem ltOf_cmpP (x y : Pt) : ltOf cmpP x y = lessPt x.x x.y y.x y.y := rfl
theorem lessPt_said (a b c d : Int) : lessPt a b c d = decide (b < d ∨ (b = d ∧ a < c)) := by
  unfold lessPt cmpPt orI cmpI
  by_cases h1 : b < d
  · simp [h1]
  · by_cases h2 : d < b
    · have : ¬ b = d := by omega
      simp [h1, h2, this]
    · obtain rfl : b = d := by omega
      by_cases h3 : a < c
      · simp [h3]
      · by_cases h4 : c < a
        · simp [h3, h4]
        · simp [h3, h4]
theorem swo_cmpP : SWO (ltOf cmpP) where
  irrefl x := by rw [ltOf_cmpP]; exact lessPt_irrefl _ _
  trans x y z h1 h2 := by
    rw [ltOf_cmpP, lessPt_said, decide_eq_true_eq] at *
    omega
  ntrans x y z h1 h2 := by
    rw [ltOf_cmpP, lessPt_said, decide_eq_false_iff_not] at *
    omega
theorem part_cmpP (x y : Pt) (h1 : ltOf cmpP x y = false) (h2 : ltOf cmpP y x = false) : x = y := by
  rw [ltOf_cmpP, lessPt_said, decide_eq_false_iff_not] at *
  cases x
  cases y
  simp only [Pt.mk.injEq]
  simp only at h1 h2
  omega
/-- points in order -/
def sortP (L : List Pt) : List Pt := L.mergeSort fun x y => !(ltOf cmpP) y x
theorem sortP_len (L : List Pt) : (sortP L).length = L.length := List.length_mergeSort _
theorem flat_pt (L : List Pt) : (flatK encPt 2 L.toArray).toList = ptCells L := by
  apply List.ext_getElem?
  intro t
  rw [Array.getElem?_toList]
  by_cases ht : t < L.length * 2
  · have hs : t < (flatK encPt 2 L.toArray).size := by rw [size_flatK]; simpa using ht
    have h1 : (flatK encPt 2 L.toArray)[t]? = some (flatK encPt 2 L.toArray)[t]! := by rw [getElem!_pos _ t hs, Array.getElem?_eq_getElem hs]
    rw [h1, get_flatK _ _ _ _ (by simpa using ht)]
    have hq : t / 2 < L.length := by omega
    have hg := ptCells_get L (t / 2) _ (List.getElem?_eq_getElem hq)
    have he : L.toArray[t / 2]! = L[t / 2] := by rw [getElem!_pos _ _ (by simpa using hq)]; simp
    rw [he]
    rcases (show t % 2 = 0 ∨ t % 2 = 1 by omega) with hm | hm
    · rw [hm]
      have : t / 2 * 2 = t := by omega
      rw [this] at hg
      rw [hg.1]; rfl
    · rw [hm]
      have : t / 2 * 2 + 1 = t := by omega
      rw [this] at hg
      rw [hg.2]; rfl
  · rw [Array.getElem?_eq_none (by rw [size_flatK]; simpa using ht), List.getElem?_eq_none (by rw [ptCells_len]; omega)]
theorem holds_row {w : World} {g : Nat} {cur : Array Value} {e : TypeId} {L : List Pt} (hb : w.heap[g]? = some (.cells cur e (0, 0))) (ht : cur.toList.take (L.length * 2) = ptCells L) : HoldsK encPt 2 w g 0 L.toArray := by
  intro j hj
  rw [size_flatK] at hj
  have hj' : j < L.length * 2 := by simpa using hj
  refine ⟨?_, by simp [World.frozen?, hb]⟩
  have h1 : (cur.toList.take (L.length * 2))[j]? = (ptCells L)[j]? := by rw [ht]
  rw [List.getElem?_take_of_lt hj', ← flat_pt, Array.getElem?_toList, Array.getElem?_toList] at h1
  have hs : j < (flatK encPt 2 L.toArray).size := by rw [size_flatK]; simpa using hj'
  simp only [World.cell?, hb, Nat.zero_add]
  simp only [Option.isSome_none, Bool.false_eq_true, if_false, id]
  rw [h1, getElem!_pos _ j hs, Array.getElem?_eq_getElem hs]
theorem heap_sortedK {w : World} {g n : Nat} {os : Array Obj} {cur : Array Value} {e : TypeId} {fr : Nat × Nat} (d : Array Pt) (hb : w.heap[g]? = some (.cells cur e fr)) :
    (sortWorldK encPt 2 w g 0 n d os).heap[g]? = some (.cells (putCells id 0 (flatK encPt 2 d) cur) e fr) := by
  have hg : g < w.heap.size := (Array.getElem?_eq_some_iff.1 hb).1
  unfold sortWorldK putRowK
  rw [heap_grow_old _ _ (by simpa using hg)]
  simp [putRow, mapBlock, Sort.ahead, Array.getElem?_modify, hb, onCells]
theorem grownBy_sortedK {w : World} {g n : Nat} {os : Array Obj} (d : Array Pt) : w.grownBy (sortWorldK encPt 2 w g 0 n d os) (some g) := by
  refine ⟨rfl, rfl, rfl, by simp [sortWorldK, putRowK], fun k hk hne => ?_⟩
  unfold sortWorldK putRowK
  rw [heap_grow_old _ _ (by simpa using hk)]
  have : g ≠ k := fun e => hne (by rw [e])
  simp [putRow, mapBlock, Sort.ahead, Array.getElem?_modify, this]
theorem take_putK (cur : Array Value) (L : List Pt) (h : L.length * 2 ≤ cur.size) : (putCells id 0 (flatK encPt 2 L.toArray) cur).toList.take (L.length * 2) = ptCells L := by
  rw [← flat_pt]
  apply List.ext_getElem?
  intro j
  by_cases hj : j < L.length * 2
  · have hs : j < (flatK encPt 2 L.toArray).size := by rw [size_flatK]; simpa using hj
    rw [List.getElem?_take_of_lt hj, Array.getElem?_toList, Array.getElem?_toList]
    simp only [putCells, Array.getElem?_mapIdx, Nat.zero_le, Nat.zero_add, true_and, Nat.sub_zero]
    rw [Array.getElem?_eq_getElem (show j < cur.size by omega)]
    simp only [Option.map_some, id]
    rw [if_pos hs, getElem!_pos _ j hs, Array.getElem?_eq_getElem hs]
  · rw [List.getElem?_take_eq_none (by omega), Array.getElem?_toList, Array.getElem?_eq_none (by rw [size_flatK]; simpa using hj)]
set_option maxHeartbeats 1000000 in
theorem SortFuncPt_any (L : List Pt) (B g cap : Nat) (w : World) (hrow : w.ownsRow B 49 2 (.slice (some ⟨g, 0, none⟩) L.length cap) L.length (ptCells L)) (hl : L.length ≤ 1000000) :
    Calls Try.prog 48 #[.slice (some ⟨g, 0, none⟩) L.length cap, .func (.func 49) #[] #[]] w fun e w' => e = .returned (.tuple #[]) ∧
      w'.ownsRow B 49 2 (.slice (some ⟨g, 0, none⟩) L.length cap) L.length (ptCells (sortP L)) ∧ w.grownBy w' (some g) := by
  rcases hrow with ⟨hcl, h0 | ⟨g', cap', cur, hv, hB, hb, h1, h2, h3, h4⟩⟩
  · cases h0.1
  cases hv
  have eg : ∀ args w, (callFunc 49 args).run Try.prog w = .ok (.enter 49 args) w := enters_of Try.func49 (by kernel_rfl) rfl
  have hH := holds_row hb h4
  have hgl := (Array.getElem?_eq_some_iff.1 hb).1
  have hcon := AnyQ.slices_SortFunc_total Try.sortPt 2 Try.isAgg49 Try.sizeOf49 encPt (fun _ => rfl) (fun x v hv => by simp [encPt] at hv; rcases hv with rfl | rfl <;> rfl) cmpP swo_cmpP 49 #[] g 0 cap L.toArray w eg
    (fun _ _ _ _ x y => comparePoints_exact x y _) hH hgl (by simp; omega) part_cmpP
  refine hcon.mono ?_
  rintro e w' ⟨he, n, os, rfl⟩
  refine ⟨he, ?_, grownBy_sortedK _⟩
  have hsl := sortP_len L
  refine ⟨by rw [ptCells_len, hsl], .inr ⟨g, cap, _, rfl, hB, heap_sortedK _ hb, h1, h2, by simp [putCells, h3], ?_⟩⟩
  have := take_putK cur (sortP L) (by rw [hsl, h3]; exact Nat.mul_le_mul_right 2 h1)
  rw [hsl] at this
  exact this
end Go.Proofs.Ytkppijcjmhkkkaa
/- Rows of rows that a call has made: no two of them lie in one block. -/

namespace Go.Proofs.Ytkppijcjmhkkkaa
open Go.RowKit
/-- v owns a row of the slices us; each of these owns a row of cells; no two lie in one block -/
structure Own2 (w : World) (base : Nat) (T E : TypeId) (size : Nat) (v : Value) (us : List Value) (rows : List (List Value)) : Prop where
  outer : w.ownsRow base T 1 v us.length us
  len : us.length = rows.length
  inner : ∀ (k : Nat) (u : Value) (r : List Value), us[k]? = some u → rows[k]? = some r → ∃ n, w.ownsRow base E size u n r
  apart : ∀ (j k : Nat) (u u' : Value) (g : Nat), us[j]? = some u → us[k]? = some u' → u.ownBlock = some g → u'.ownBlock = some g → j = k
  off : ∀ (k : Nat) (u : Value) (g : Nat), us[k]? = some u → u.ownBlock = some g → v.ownBlock ≠ some g
section
variable {w w' : World} {base : Nat} {T E : TypeId} {size : Nat} {v : Value} {us : List Value} {rows : List (List Value)}
theorem Own2.nil (w : World) (base : Nat) (T E : TypeId) (size : Nat) : Own2 w base T E size (.slice none 0 0) [] [] :=
  ⟨World.ownsRow_nil _ _ _ _, rfl, fun k u r h => by simp at h, fun j k u u' g h => by simp at h, fun k u g h => by simp at h⟩
/-- an empty row that was made -/
theorem Own2.made {n : Nat} {cs : Array Value} (hb : base ≤ w.heap.size) (hs : cs.size = 0) (h : (w.alloc (.cells cs T)).ownsRow base T 1 v 0 []) : Own2 (w.alloc (.cells cs T)) base T E size v [] [] :=
  ⟨h, rfl, fun k u r h => by simp at h, fun j k u u' g h => by simp at h, fun k u g h => by simp at h⟩
theorem Own2.of_empty (h : w.ownsRow base T 1 v 0 []) : Own2 w base T E size v [] [] :=
  ⟨h, rfl, fun k u r h => by simp at h, fun j k u u' g h => by simp at h, fun k u g h => by simp at h⟩
theorem Own2.get (h : Own2 w base T E size v us rows) {k : Nat} {u : Value} (hu : us[k]? = some u) : ∃ n r, rows[k]? = some r ∧ w.ownsRow base E size u n r := by
  have hk := (List.getElem?_eq_some_iff.1 hu).1
  have hr := List.getElem?_eq_getElem (l := rows) (i := k) (by rw [← h.len]; exact hk)
  obtain ⟨n, hn⟩ := h.inner k u _ hu hr
  exact ⟨n, _, hr, hn⟩
theorem Own2.outerN {N : Nat} (h : Own2 w base T E size v us rows) (hN : us.length = N) : w.ownsRow base T 1 v N us := hN ▸ h.outer
theorem Own2.lt (h : Own2 w base T E size v us rows) : ∀ g, v.ownBlock = some g → base ≤ g ∧ g < w.heap.size := h.outer.lt
theorem Own2.ltIn (h : Own2 w base T E size v us rows) {k : Nat} {u : Value} (hu : us[k]? = some u) : ∀ g, u.ownBlock = some g → base ≤ g ∧ g < w.heap.size := by
  obtain ⟨n, r, _, hr⟩ := h.get hu
  exact hr.lt
/-- whatever turns another block -/
theorem Own2.kept {row : Option Nat} (h : Own2 w base T E size v us rows) (hg : w.grownBy w' row) (h1 : ∀ g, row = some g → v.ownBlock ≠ some g ∧ ∀ (k : Nat) (u : Value), us[k]? = some u → u.ownBlock ≠ some g) : Own2 w' base T E size v us rows := by
  have ho : ∀ x : Value, (∀ g, row = some g → x.ownBlock ≠ some g) → x.ownBlock = none ∨ x.ownBlock ≠ row := fun x hx => by
    cases hb : x.ownBlock with
    | none => exact .inl rfl
    | some g => exact .inr fun e => hx g e.symm hb
  refine ⟨h.outer.kept hg (ho v fun g e => (h1 g e).1), h.len, fun k u r hu hr => ?_, h.apart, h.off⟩
  obtain ⟨n, hn⟩ := h.inner k u r hu hr
  exact ⟨n, hn.kept hg (ho u fun g e => (h1 g e).2 k u hu)⟩
theorem Own2.below (h : Own2 w base T E size v us rows) (hb : Below w.heap.size w w') : Own2 w' base T E size v us rows :=
  h.kept (grown_below hb none) (fun g e => by cases e)
theorem Own2.alloc (h : Own2 w base T E size v us rows) (o : Obj) : Own2 (w.alloc o) base T E size v us rows :=
  h.kept (World.grownBy_alloc w o none) (fun g e => by cases e)
theorem Own2.rebase (h : Own2 w base T E size v us rows) {base' : Nat} (hb : base' ≤ base) : Own2 w base' T E size v us rows := by
  have hd : ∀ {e s x n xs}, w.ownsRow base e s x n xs → w.ownsRow base' e s x n xs := fun h => ⟨h.1, h.2.imp id (fun ⟨g, cap, cur, h1, h2, h3⟩ => ⟨g, cap, cur, h1, Nat.le_trans hb h2, h3⟩)⟩
  exact ⟨hd h.outer, h.len, fun k u r hu hr => (h.inner k u r hu hr).imp fun n hn => hd hn, h.apart, h.off⟩
/-- a store below its base -/
theorem Own2.setBelow (h : Own2 w base T E size v us rows) {p : Addr} (hp : p.block < base) (x : Value) : Own2 (w.setCell p x) base T E size v us rows := by
  refine h.kept (row := some p.block) ⟨rfl, rfl, rfl, by simp, fun k hk hne => Below.heap_setCell _ _ _ _ (fun e => hne (by rw [e]))⟩ (fun g e => ?_)
  injection e with e
  subst e
  refine ⟨fun e => ?_, fun k u hu e => ?_⟩
  · have := (h.lt _ e).1; omega
  · have := (h.ltIn hu _ e).1; omega
/-- one more row: the slice x, which owns the row r -/
theorem Own2.push {w1 : World} {v' x : Value} {N n : Nat} {r : List Value} (h : Own2 w1 base T E size v us rows) (hN : us.length = N) (hx : w1.ownsRow base E size x n r)
    (hd : ∀ g, x.ownBlock = some g → v.ownBlock ≠ some g ∧ ∀ (k : Nat) (u : Value), us[k]? = some u → u.ownBlock ≠ some g)
    (hown : w'.ownsRow base T 1 v' (N + 1) (us ++ [x])) (hg : w1.grownBy w' v.ownBlock) (hat : v'.ownBlock = v.ownBlock ∨ v'.ownBlock = some w1.heap.size) : Own2 w' base T E size v' (us ++ [x]) (rows ++ [r]) := by
  subst hN
  have hk : ∀ {u : Value} {n : Nat} {r : List Value}, w1.ownsRow base E size u n r → (∀ g, u.ownBlock = some g → v.ownBlock ≠ some g) → w'.ownsRow base E size u n r := fun {u n r} hu hne => by
    refine hu.kept hg ?_
    cases hb : u.ownBlock with
    | none => exact .inl rfl
    | some g => exact .inr fun e => hne g hb e.symm
  have hcase : ∀ {k : Nat} {u : Value}, (us ++ [x])[k]? = some u → (k < us.length ∧ us[k]? = some u) ∨ (k = us.length ∧ u = x) := fun {k u} hu => by
    rcases Nat.lt_or_ge k us.length with hlt | hge
    · rw [List.getElem?_append_left hlt] at hu
      exact .inl ⟨hlt, hu⟩
    · have hlt := (List.getElem?_eq_some_iff.1 hu).1
      simp at hlt
      obtain rfl : k = us.length := by omega
      simp at hu
      exact .inr ⟨rfl, hu.symm⟩
  refine ⟨by simpa using hown, by simp [h.len], fun k u q hu hq => ?_, fun j k u u' g hu0 hu' hb hb' => ?_, fun k u g hu hb e => ?_⟩
  · rcases hcase hu with ⟨hlt, hu⟩ | ⟨rfl, rfl⟩
    · rw [List.getElem?_append_left (by rw [← h.len]; exact hlt)] at hq
      obtain ⟨m, hm⟩ := h.inner k u q hu hq
      exact ⟨m, hk hm fun g hg => h.off k u g hu hg⟩
    · rw [h.len] at hq
      simp at hq
      subst hq
      exact ⟨n, hk hx fun g hg => (hd g hg).1⟩
  · rcases hcase hu0 with ⟨hlt, hu⟩ | ⟨rfl, rfl⟩
    · clear hu0
      rcases hcase hu' with ⟨hlt', hu'⟩ | ⟨rfl, rfl⟩
      · exact h.apart j k u u' g hu hu' hb hb'
      · exact ((hd g hb').2 j u hu hb).elim
    · rcases hcase hu' with ⟨hlt', hu'⟩ | ⟨rfl, rfl⟩
      · exact ((hd g hb).2 k u' hu' hb').elim
      · rfl
  · rcases hcase hu with ⟨hlt, hu⟩ | ⟨rfl, rfl⟩
    · rcases hat with hat | hat
      · exact h.off k u g hu hb (hat ▸ e)
      · have := (h.ltIn hu g hb).2
        rw [hat] at e
        injection e with e
        omega
    · rcases hat with hat | hat
      · exact (hd g hb).1 (hat ▸ e)
      · have := (hx.lt g hb).2
        rw [hat] at e
        injection e with e
        omega
/-- row k grows: the slice u was appended to (in w1) and is stored back (into block g) -/
theorem Own2.grow {w1 : World} {N k g cap n' : Nat} {u u' : Value} {r' : List Value} (h : Own2 w1 base T E size (.slice (some ⟨g, 0, none⟩) N cap) us rows) (hN : us.length = N) (hu : us[k]? = some u)
    (hown : w'.ownsRow base E size u' n' r') (hg : w1.grownBy w' u.ownBlock) (hat : u'.ownBlock = u.ownBlock ∨ u'.ownBlock = some w1.heap.size) :
    Own2 (w'.setCell ⟨g, k, none⟩ u') base T E size (.slice (some ⟨g, 0, none⟩) N cap) (us.set k u') (rows.set k r') := by
  subst hN
  have hgl := (h.lt g rfl)
  have hug : u.ownBlock ≠ some g := fun e => h.off k u g hu e rfl
  have hu'g : u'.ownBlock ≠ some g := fun e => by
    rcases hat with hat | hat
    · exact hug (hat ▸ e)
    · rw [hat] at e
      injection e with e
      omega
  have hgn : (w').grownBy (w'.setCell ⟨g, k, none⟩ u') (some g) := ⟨rfl, rfl, rfl, by simp, fun i hi hne => Below.heap_setCell _ _ _ _ (fun e => hne (by rw [e]))⟩
  have ho1 : w'.ownsRow base T 1 (.slice (some ⟨g, 0, none⟩) us.length cap) us.length us := h.outer.kept hg (.inr fun e => hug e.symm)
  have ho2 := (ho1.stored k u').1
  have hne2 : ∀ {x : Value}, x.ownBlock ≠ some g → x.ownBlock = none ∨ x.ownBlock ≠ some g := fun h => .inr h
  have hcase : ∀ {j : Nat} {x : Value}, (us.set k u')[j]? = some x → (j ≠ k ∧ us[j]? = some x) ∨ (j = k ∧ x = u') := fun {j x} hx => by
    by_cases e : j = k
    · subst e
      rw [List.getElem?_set_self (List.getElem?_eq_some_iff.1 hu).1] at hx
      exact .inr ⟨rfl, (Option.some.inj hx).symm⟩
    · rw [List.getElem?_set_ne (fun e' => e e'.symm)] at hx
      exact .inl ⟨e, hx⟩
  have hnb : ∀ {j : Nat} {x : Value} {b : Nat}, us[j]? = some x → j ≠ k → x.ownBlock = some b → u'.ownBlock ≠ some b := fun {j x b} hx hj hb e => by
    rcases hat with hat | hat
    · exact hj (h.apart j k x u b hx hu hb (hat ▸ e))
    · have := (h.ltIn hx b hb).2
      rw [hat] at e
      injection e with e
      omega
  refine ⟨by simpa using ho2, by simp [h.len], fun j x q hx hq => ?_, fun i j x y b hx0 hy0 hb hb' => ?_, fun j x b hx hb e => ?_⟩
  · rcases hcase hx with ⟨hj, hx⟩ | ⟨rfl, rfl⟩
    · rw [List.getElem?_set_ne (fun e' => hj e'.symm)] at hq
      obtain ⟨p, hp⟩ := h.inner j x q hx hq
      refine ⟨p, (hp.kept hg ?_).kept hgn (hne2 fun e => h.off j x g hx e rfl)⟩
      cases hb : x.ownBlock with
      | none => exact .inl rfl
      | some b => exact .inr fun e => hj (h.apart j k x u b hx hu hb e.symm)
    · rw [List.getElem?_set_self (by rw [← h.len]; exact (List.getElem?_eq_some_iff.1 hu).1)] at hq
      obtain rfl := Option.some.inj hq
      exact ⟨n', hown.kept hgn (hne2 hu'g)⟩
  · rcases hcase hx0 with ⟨hi, hx⟩ | ⟨rfl, rfl⟩
    · clear hx0
      rcases hcase hy0 with ⟨hj, hy⟩ | ⟨rfl, rfl⟩
      · exact h.apart i j x y b hx hy hb hb'
      · exact (hnb hx hi hb hb').elim
    · clear hx0
      rcases hcase hy0 with ⟨hj, hy⟩ | ⟨rfl, rfl⟩
      · exact (hnb hy hj hb' hb).elim
      · rfl
  · rcases hcase hx with ⟨hj, hx⟩ | ⟨rfl, rfl⟩
    · exact h.off j x b hx hb e
    · injection e with e
      subst e
      exact hu'g hb
theorem Own2.form {N : Nat} (h : Own2 w base T E size v us rows) (hN : us.length = N) : ∃ A cap, v = .slice A N cap := by
  subst hN
  rcases h.outer.2 with ⟨rfl, h0⟩ | ⟨g, cap, cur, rfl, _⟩
  · exact ⟨none, 0, by rw [h0]⟩
  · exact ⟨_, cap, rfl⟩
theorem Own2.formPos {N : Nat} (h : Own2 w base T E size v us rows) (hN : us.length = N) (hp : 0 < N) : ∃ g cap, v = .slice (some ⟨g, 0, none⟩) N cap := by
  subst hN
  rcases h.outer.2 with ⟨rfl, h0⟩ | ⟨g, cap, cur, rfl, _⟩
  · omega
  · exact ⟨_, cap, rfl⟩
theorem Own2.keptBelow {row : Option Nat} (h : Own2 w base T E size v us rows) (hg : w.grownBy w' row) (hr : ∀ g, row = some g → g < base) : Own2 w' base T E size v us rows :=
  h.kept hg fun g e => ⟨fun e' => by have := (h.lt g e').1; have := hr g e; omega, fun k u hu e' => by have := (h.ltIn hu g e').1; have := hr g e; omega⟩
/-- the outer row behind an append to row k -/
theorem Own2.after {N g cap k : Nat} {u : Value} (h : Own2 w base T E size (.slice (some ⟨g, 0, none⟩) N cap) us rows) (hN : us.length = N) (hu : us[k]? = some u) (hg : w.grownBy w' u.ownBlock) : w'.cell? ⟨g, k, none⟩ = some u ∧ w'.frozen? ⟨g, k, none⟩ = false ∧ g < w'.heap.size ∧ base ≤ g := by
  subst hN
  have hne : u.ownBlock ≠ some g := fun e => h.off k u g hu e rfl
  have ho : w'.ownsRow base T 1 (.slice (some ⟨g, 0, none⟩) us.length cap) us.length us := h.outer.kept hg (.inr fun e => hne e.symm)
  have hl := ho.lt g rfl
  exact ⟨(ho.cellAt k (by have := (List.getElem?_eq_some_iff.1 hu).1; omega)).trans hu, ho.frozenAt k, hl.2, hl.1⟩
theorem Own2.cellAt {N g cap k : Nat} {u : Value} (h : Own2 w base T E size (.slice (some ⟨g, 0, none⟩) N cap) us rows) (hN : us.length = N) (hu : us[k]? = some u) : w.cell? ⟨g, k, none⟩ = some u ∧ w.frozen? ⟨g, k, none⟩ = false ∧ g < w.heap.size := by
  subst hN
  exact ⟨(h.outer.cellAt k (by have := (List.getElem?_eq_some_iff.1 hu).1; omega)).trans hu, h.outer.frozenAt k, (h.outer.lt g rfl).2⟩
theorem ownsRow_form {w : World} {base : Nat} {e : TypeId} {size : Nat} {v : Value} {n : Nat} {xs : List Value} (h : w.ownsRow base e size v n xs) : ∃ A cap, v = .slice A n cap := by
  rcases h.2 with ⟨rfl, rfl⟩ | ⟨g, cap, cur, rfl, _⟩
  · exact ⟨none, 0, rfl⟩
  · exact ⟨_, cap, rfl⟩
theorem below_app {B0 : Nat} {W w2 : World} {o : Obj} {row : Option Nat} (hB : B0 ≤ W.heap.size) (hu : ∀ g, row = some g → B0 ≤ g) (hg : (W.alloc o).grownBy w2 row) : Below B0 W w2 :=
  ((Below.refl B0 W).alloc hB o).grown hg (by simp; omega) hu
end
end Go.Proofs.Ytkppijcjmhkkkaa
/- Walks: the program's connected parts of points. -/



namespace Go.Proofs.Ytkppijcjmhkkkaa
open Go.RowKit Go.Shelf
attribute [local go_sem] BelowBy.cell BelowBy.cell_drew stillUpon givesUpon

/-- the first k points -/
def firstB (ps : List Pt) (k : Nat) (x y : Int) : Bool := match idxP ps x y with
  | some v => decide (v < k)
  | none => false
theorem firstB_zero (ps : List Pt) (x y : Int) : firstB ps 0 x y = false := by
  unfold firstB; split <;> simp
theorem firstB_succ {ps : List Pt} (h : Shp ps) {k : Nat} {e : Pt} (he : ps[k]? = some e) (x y : Int) : firstB ps (k + 1) x y = (firstB ps k x y || decide (x = e.x ∧ y = e.y)) := by
  unfold firstB
  cases hi : idxP ps x y with
  | none =>
    have : ¬ (x = e.x ∧ y = e.y) := fun hh => by
      obtain ⟨rfl, rfl⟩ := hh
      rw [h.idx he] at hi
      cases hi
    simp [this]
  | some v =>
    simp only []
    have hv := idxP_some hi
    by_cases hvk : v = k
    · subst hvk
      rw [he] at hv
      injection hv with hv
      subst hv
      simp
    · have hne : ¬ (x = e.x ∧ y = e.y) := fun hh => by
        obtain ⟨rfl, rfl⟩ := hh
        rw [h.idx he] at hi
        injection hi with hi
        exact hvk hi.symm
      have : (v < k + 1) ↔ v < k := by omega
      simp [hne, this]
theorem firstB_all (ps : List Pt) (x y : Int) : firstB ps ps.length x y = leftB ps (List.replicate ps.length 0) x y := by
  unfold firstB leftB
  cases hi : idxP ps x y with
  | none => rfl
  | some v =>
    have hv := (List.getElem?_eq_some_iff.1 (idxP_some hi)).1
    simp [hv]
def ptAt (ps : List Pt) (v : Nat) : Pt := (ps[v]?).getD ⟨0, 0⟩
def ptsAt (ps : List Pt) (l : List Nat) : List Pt := l.map (ptAt ps)
theorem ptAt_of {ps : List Pt} {v : Nat} {e : Pt} (h : ps[v]? = some e) : ptAt ps v = e := by unfold ptAt; rw [h]; rfl
theorem ptsAt_len (ps : List Pt) (l : List Nat) : (ptsAt ps l).length = l.length := by simp [ptsAt]
theorem leftB_at {ps : List Pt} (h : Shp ps) {nm : List Nat} {k : Nat} {e : Pt} (he : ps[k]? = some e) : leftB ps nm e.x e.y = decide (nm[k]? = some 0) := by
  unfold leftB; rw [h.idx he]
theorem vis1_hit {ps : List Pt} {c k d u : Nat} {st : List Nat × List Nat} {e : Pt} (hu : st.1[k]? = some u) (he : ps[u]? = some e) (hl : leftB ps st.2 (stepX e.x d) (stepY e.y d) = true) :
    ∃ v, v < ps.length ∧ ps[v]? = some ⟨stepX e.x d, stepY e.y d⟩ ∧ st.2[v]? = some 0 ∧ vis1 (nbP ps) c k d st = (st.1 ++ [v], st.2.set v c) := by
  unfold leftB at hl
  cases hi : idxP ps (stepX e.x d) (stepY e.y d) with
  | none => rw [hi] at hl; cases hl
  | some v =>
    rw [hi] at hl
    simp only [decide_eq_true_eq] at hl
    have hv := idxP_some hi
    refine ⟨v, (List.getElem?_eq_some_iff.1 hv).1, hv, hl, ?_⟩
    unfold vis1 nbP
    rw [hu]
    simp only [he, hi, hl, if_true]
theorem vis1_miss {ps : List Pt} {c k d u : Nat} {st : List Nat × List Nat} {e : Pt} (hu : st.1[k]? = some u) (he : ps[u]? = some e) (hl : leftB ps st.2 (stepX e.x d) (stepY e.y d) = false) : vis1 (nbP ps) c k d st = st := by
  unfold leftB at hl
  unfold vis1 nbP
  rw [hu]
  simp only [he]
  cases hi : idxP ps (stepX e.x d) (stepY e.y d) with
  | none => rfl
  | some v =>
    rw [hi] at hl
    simp only [decide_eq_false_iff_not] at hl
    simp only [if_neg hl]
theorem visS_pos {nb : Nat → Nat → Option Nat} {c : Nat} {st : List Nat × List Nat} (h : 0 < st.1.length) : ∀ k, 0 < (visS nb c st k).1.length
  | 0 => h
  | k + 1 => by
    have ih := visS_pos (nb := nb) (c := c) h k
    obtain ⟨l, hl⟩ := vis4_grow (nb := nb) (c := c) (st := visS nb c st k) k 4
    simp only [visS]
    rw [hl, List.length_append]
    omega
/-- the parts as rows of points -/
def partsV (ps : List Pt) (P : List (List Nat)) : List (List Value) := P.map fun l => ptCells (sortP (ptsAt ps l))
theorem allP_yes {nb : Nat → Nat → Option Nat} {n i : Nat} {nm : List Nat} {P : List (List Nat)} {st : List Nat × List Nat} (h1 : (allP nb n i).1 = nm) (h2 : (allP nb n i).2 = P) (h0 : nm[i]? = some 0) (hst : visS nb (P.length + 1) ([i], nm.set i (P.length + 1)) n = st) :
    (allP nb n (i + 1)).1 = st.2 ∧ (allP nb n (i + 1)).2 = P ++ [st.1] := by
  subst h1 h2 hst
  simp only [allP, if_pos h0]
  exact ⟨trivial, trivial⟩
theorem allP_no {nb : Nat → Nat → Option Nat} {n i : Nat} (h0 : (allP nb n i).1[i]? ≠ some 0) : allP nb n (i + 1) = allP nb n i := by
  simp only [allP, if_neg h0]
theorem infoPtQ : (Try.prog.info? 49).map (fun i => (i.zero, i.size, i.bytes)) = some (some (.agg #[.int .i64 0, .int .i64 0]), 2, 16) := by kernel_rfl
theorem infoPtsQ : (Try.prog.info? 24).map (fun i => (i.zero, i.size, i.bytes)) = some (some (.slice none 0 0), 1, 24) := by kernel_rfl
theorem ownsRow_baseQ {w : World} {base base' : Nat} {e : TypeId} {size : Nat} {v : Value} {n : Nat} {xs : List Value} (h : w.ownsRow base e size v n xs) (hb : base' ≤ base) : w.ownsRow base' e size v n xs :=
  ⟨h.1, h.2.imp id (fun ⟨g, cap, cur, h1, h2, h3⟩ => ⟨g, cap, cur, h1, Nat.le_trans hb h2, h3⟩)⟩
def OwnPs (w : World) (rows : List (List Value)) (e : Ending) (w' : World) : Prop := ∃ v us, e = .returned v ∧ Own2 w' w.heap.size 24 49 2 v us rows ∧ Below w.heap.size w w'
set_option maxRecDepth 100000 in
set_option maxHeartbeats 4000000 in
theorem connected_any (A : Option Addr) (n c : Nat) (ps : List Pt) (w : World) (hA : RdSl 2 RPt w A n ps) (hS : Shp ps) (hn : n ≤ 100000) :
    Calls Try.prog 58 #[.slice A n c] w (OwnPs w (partsV ps (allP (nbP ps) n n).2)) := by
  obtain ⟨i0, hi, hz0, hz1, hz2⟩ := info_parts infoPtQ
  obtain ⟨i1, hi', hz0', hz1', hz2'⟩ := info_parts infoPtsQ
  have hmm := @run_makeMap Try.prog
  have hl := hA.len
  have hlH := Lib.hid hl
  have hAH := Lib.hid hA
  have hSH := Lib.hid hS
  clear hA hl hS
  go_enter Try.func58, Try.ntmps58
  go_wp2
  go_loopg [16] n (fun g i wr => ∃ (k : Nat), k + g = n ∧ i = .int .i64 (k : Int) ∧ Hid (LMap wr w.heap.size k (firstB ps k)) ∧ Hid (Below w.heap.size w wr))
  case atStart => exact ⟨0, by omega, rfl, Lib.hid ((LMap.made w).say fun x y => (firstB_zero ps x y).symm), Lib.hid (bl_al (bl_refl _) _)⟩
  case round =>
    obtain ⟨k, hk, rfl, hM, hbw⟩ := hrel
    have hszl := hbw.out.size
    have hMl := hM.out.lt
    by_cases hkn : k < n
    · have hAw := hAH.out.below RPt.stable hbw.out
      obtain ⟨bb, ob, rfl, hbb, hbc⟩ := hAw.ptr (by omega)
      obtain ⟨e, he⟩ := hAw.get hkn
      obtain ⟨e0, e1⟩ := hbc k e he
      have hpt := hSH.out.pt k e he
      have heH := Lib.hid he
      clear hbc he hAw
      go_wp2_with (at_mapUpdate; refine wpList_put_lmap _ rfl _ _ _ rfl w.heap.size k _ rfl ((hM.out).below (by exact bel_)) e.x e.y (W64.of (by omega)) (W64.of (by omega)) (by unfold maxLen; omega) rfl rfl ?_; intro w4 hM4 hg4; have hM4H := Lib.hid hM4; have hb4 := Lib.hid ((hbw.out.alloc hszl _).grown hg4 (by simp; try omega) (by intro q e; injection e with e; omega)); clear hM4 hg4)
      go_roundg (n - (k + 1))
      case measure => omega
      case rel => exact ⟨k + 1, by omega, by go_num, Lib.hid (hM4H.out.say fun x y => (firstB_succ hSH.out heH.out x y).symm), hb4⟩
    · obtain rfl : k = n := by omega
      have hM0 := Lib.hid (hM.out.say (S' := leftB ps (List.replicate k 0)) fun x y => by have := firstB_all ps x y; rw [hlH.out] at this; exact this)
      obtain ⟨wa, rfl⟩ : ∃ wa : World, wa = wr := ⟨_, rfl⟩
      clear hM
      go_wp2
      go_loopg [25, 6] k (fun g i v wr => ∃ (j : Nat) (us : List Value), j + g = k ∧ i = .int .i64 (j : Int) ∧ Hid (Own2 wr (w.heap.size + 1) 24 49 2 v us (partsV ps (allP (nbP ps) k j).2)) ∧ Hid (us.length = (allP (nbP ps) k j).2.length) ∧ Hid (LMap wr w.heap.size k (leftB ps (allP (nbP ps) k j).1)) ∧ Hid (Below w.heap.size w wr) ∧ w.heap.size < wr.heap.size)
      case atStart => exact ⟨0, [], by omega, rfl, Lib.hid (Own2.nil _ _ _ _ _), Lib.hid rfl, Lib.hid (hM0.out.say fun x y => rfl), hbw, hMl⟩
      case round =>
        clear hbw hszl hMl hM0
        obtain ⟨j, us, hj, rfl, hO, hul, hM, hbw, hMl⟩ := hrel
        have hszl := hbw.out.size
        have hcnt := allP_count (nbP ps) k j
        obtain ⟨A0, c0, rfl⟩ := hO.out.form hul.out
        by_cases hjn : j < k
        · have hAw := hAH.out.below RPt.stable hbw.out
          obtain ⟨bb, ob, rfl, hbb, hbc⟩ := hAw.ptr (by omega)
          obtain ⟨e, he⟩ := hAw.get hjn
          obtain ⟨e0, e1⟩ := hbc j e he
          have hpt := hSH.out.pt j e he
          have heH := Lib.hid he
          have hnl := Lib.hid (allP_len (nbP ps) k j)
          obtain ⟨nm, hnm⟩ : ∃ nm, (allP (nbP ps) k j).1 = nm := ⟨_, rfl⟩
          obtain ⟨P, hP⟩ : ∃ P, (allP (nbP ps) k j).2 = P := ⟨_, rfl⟩
          have hlb := leftB_at (nm := nm) hSH.out he
          rw [hnm] at hM hnl
          rw [hP] at hO hul hcnt ⊢
          have hnmH := Lib.hid hnm
          have hPH := Lib.hid hP
          clear hbc he hAw hnm hP
          cases hb0 : leftB ps nm e.x e.y
          · rw [hb0] at hlb
            have h0 : (allP (nbP ps) k j).1[j]? ≠ some 0 := by
              rw [hnmH.out]
              exact of_decide_eq_false hlb.symm
            have hno := Lib.hid (allP_no h0)
            clear hlb h0
            have hlk := Lib.hid hb0
            clear hb0
            go_wp2_with (at_lookup; refine wpList_look_lmap _ rfl _ _ rfl w.heap.size k _ rfl (hM.out.below (by exact bel_)) e.x e.y (W64.of (by omega)) (W64.of (by omega)) rfl ?_; rw [hlk.out])
            go_roundg (k - (j + 1))
            case measure => omega
            case rel =>
              refine ⟨j + 1, us, by omega, by go_num, Lib.hid ?_, Lib.hid ?_, Lib.hid ?_, Lib.hid (hbw.out.alloc hszl _), by simp; omega⟩
              · rw [hno.out, hPH.out]; exact hO.out.alloc _
              · rw [hno.out, hPH.out]; exact hul.out
              · rw [hno.out, hnmH.out]; exact hM.out.below (by exact bel_)
          · rw [hb0] at hlb
            have h0 := of_decide_eq_true hlb.symm
            have h0H := Lib.hid h0
            clear hlb h0
            have hlk := Lib.hid hb0
            clear hb0
            have hjl : j < nm.length := by rw [hnl.out]; exact hjn
            have hjlH := Lib.hid hjl
            have hfar : Hid (∀ g, Value.ownBlock (.slice A0 P.length c0) = some g → g < wr.heap.size) := Lib.hid fun g hg => (hO.out.lt g hg).2
            have hfin : Hid (∀ (q : Nat) (u : Value) (g : Nat), us[q]? = some u → u.ownBlock = some g → g < wr.heap.size) := Lib.hid fun q u g hu hg => (hO.out.ltIn hu g hg).2
            obtain ⟨wj, hwj⟩ : ∃ wj : World, wj = wr := ⟨_, rfl⟩
            have hs0 : wj.heap.size = wr.heap.size := by rw [hwj]
            rw [← hwj] at hfar hfin
            clear hwj
            go_wp2_with (first
              | (at_lookup; refine wpList_look_lmap _ rfl _ _ rfl w.heap.size k _ rfl (hM.out.below (by exact bel_)) e.x e.y (W64.of (by omega)) (W64.of (by omega)) rfl ?_; rw [hlk.out])
              | (at_delete; refine wpList_del_lmap _ rfl _ _ rfl w.heap.size k _ rfl (hM.out.below (by exact bel_)) e.x e.y (W64.of (by omega)) (W64.of (by omega)) rfl ?_; intro w4 hM4 hg4; have hM4H := Lib.hid hM4; have hg4H := Lib.hid hg4; clear hM4 hg4))
            have hO4 := Lib.hid (((hO.out.alloc (Obj.cells #[.int .i64 e.x, .int .i64 e.y] 49)).alloc (Obj.cells #[.int .i64 e.x, .int .i64 e.y] 49)).keptBelow hg4H.out (by intro g e; injection e with e; omega))
            have hR4 := Lib.hid ((World.ownsRow_lit (base := wj.heap.size) (e := 49) (size := 2) (wr.alloc (Obj.cells #[.int .i64 e.x, .int .i64 e.y] 49)) #[.int .i64 e.x, .int .i64 e.y] 1 (by rw [hs0]; simp) (by decide) rfl).kept hg4H.out (.inr (by simp [Value.ownBlock]; omega)))
            have hb4 := Lib.hid (((hbw.out.alloc hszl (Obj.cells #[.int .i64 e.x, .int .i64 e.y] 49)).alloc (by simp; omega) (Obj.cells #[.int .i64 e.x, .int .i64 e.y] 49)).grown hg4H.out (by simp; omega) (by intro q e; injection e with e; omega))
            have hs4 : wr.heap.size + 2 ≤ w4.heap.size := by have := hg4H.out.size; simpa using this
            have hM5 := Lib.hid (hM4H.out.say (S' := leftB ps (nm.set j (P.length + 1))) fun x y => (leftB_set hSH.out heH.out hjlH.out (Nat.succ_ne_zero _) x y).symm)
            have hV0 := Lib.hid (VisInv.start (n := k) (c := P.length + 1) (N0 := nm) (i := j) (Nat.succ_ne_zero _) hnl.out h0H.out)
            obtain ⟨st0, hst0⟩ : ∃ st0, (([j], nm.set j (P.length + 1)) : List Nat × List Nat) = st0 := ⟨_, rfl⟩
            have hR5 : Hid (w4.ownsRow wj.heap.size 49 2 (.slice (some ⟨wr.heap.size + 1, 0, none⟩) 1 1) st0.1.length (ptCells (ptsAt ps st0.1))) := Lib.hid (by
              rw [← hst0]
              simpa [ptsAt, ptAt_of heH.out, ptCells] using hR4.out)
            have hM6 : Hid (LMap w4 w.heap.size k (leftB ps st0.2)) := Lib.hid (by rw [← hst0]; exact hM5.out)
            have hst0H := Lib.hid hst0
            rw [hst0] at hV0
            clear hst0 hM4H hM5 hR4 hM hO hg4H hlk
            have hbw' : Below w.heap.size w wr := hbw.out
            obtain ⟨cc, hcc⟩ : ∃ cc, P.length + 1 = cc := ⟨_, rfl⟩
            rw [hcc] at hV0
            have hccH := Lib.hid hcc
            obtain ⟨wk, hwk⟩ : ∃ wk : World, wk = w4 := ⟨_, rfl⟩
            have hs5 : wk.heap.size = w4.heap.size := by rw [hwk]
            clear hwk
            go_loopg [10, 9] k (fun g i v wx => ∃ (q : Nat), q + g = k ∧ i = .int .i64 (q : Int) ∧ Hid (wx.ownsRow wj.heap.size 49 2 v (visS (nbP ps) cc st0 q).1.length (ptCells (ptsAt ps (visS (nbP ps) cc st0 q).1))) ∧ Hid (LMap wx w.heap.size k (leftB ps (visS (nbP ps) cc st0 q).2)) ∧ Hid (Own2 wx (w.heap.size + 1) 24 49 2 (.slice A0 P.length c0) us (partsV ps P)) ∧ Hid (Below w.heap.size w wx) ∧ wk.heap.size ≤ wx.heap.size)
            case atStart => exact ⟨0, by omega, rfl, hR5, hM6, hO4, hb4, by omega⟩
            case round =>
              clear hR5 hM6 hO4 hb4
              obtain ⟨q, hq, rfl, hR, hM, hO, hbx, hsx⟩ := hrel
              have hszx := hbx.out.size
              have hAx := hAH.out.below RPt.stable hbx.out
              have hVq := Lib.hid (hV0.out.all (nb := nbP ps) q)
              have hlen := VisInv.length hVq.out
              obtain ⟨st, hst⟩ : ∃ st, visS (nbP ps) cc st0 q = st := ⟨_, rfl⟩
              rw [hst] at hR hM hVq hlen
              have hstH := Lib.hid hst
              clear hst
              obtain ⟨A9, c9, rfl⟩ := ownsRow_form hR.out
              by_cases hqn : q < st.1.length
              · obtain ⟨g9, cap9, hv9⟩ : ∃ g9 cap9, Value.slice A9 st.1.length c9 = .slice (some ⟨g9, 0, none⟩) st.1.length cap9 := by
                  rcases hR.out.2 with ⟨_, h0⟩ | ⟨g, cap, cur, hv, _⟩
                  · omega
                  · exact ⟨g, cap, hv⟩
                injection hv9 with hv1 hv2 hv3
                subst hv1 hv3
                clear hv2
                obtain ⟨u, hu⟩ : ∃ u, st.1[q]? = some u := ⟨_, List.getElem?_eq_getElem hqn⟩
                have hun : u < k := hVq.out.lt u (List.mem_of_getElem? hu)
                obtain ⟨eu, heu⟩ : ∃ eu, ps[u]? = some eu := ⟨_, List.getElem?_eq_getElem (by rw [hlH.out]; exact hun)⟩
                have hptu := hSH.out.pt u eu heu
                have huH := Lib.hid hu
                have heuH := Lib.hid heu
                clear hu heu hAx
                have hgl := (hR.out.lt g9 rfl)
                go_wp2
                go_loopg [43, 9] 4 (fun g i v wy => ∃ (d : Nat), d + g = 4 ∧ i = .int .i64 (d : Int) ∧ Hid (wy.ownsRow wj.heap.size 49 2 v (vis4 (nbP ps) cc q st d).1.length (ptCells (ptsAt ps (vis4 (nbP ps) cc q st d).1))) ∧ Hid (LMap wy w.heap.size k (leftB ps (vis4 (nbP ps) cc q st d).2)) ∧ Hid (Own2 wy (w.heap.size + 1) 24 49 2 (.slice A0 P.length c0) us (partsV ps P)) ∧ Hid (Below w.heap.size w wy) ∧ wk.heap.size ≤ wy.heap.size)
                case atStart => exact ⟨0, by omega, rfl, hR, hM, hO, hbx, hsx⟩
                case round =>
                  clear hR hM hO hbx hsx hszx hgl
                  obtain ⟨d, hd, rfl, hR, hM, hO, hby, hsy⟩ := hrel
                  have hszy := hby.out.size
                  have hVd := Lib.hid (hVq.out.four (nb := nbP ps) q d)
                  have hlend := VisInv.length hVd.out
                  have hud := vis4_at (nb := nbP ps) (c := cc) huH.out d
                  have h4 : vis4 (nbP ps) cc q st (d + 1) = vis1 (nbP ps) cc q d (vis4 (nbP ps) cc q st d) := rfl
                  have h4' : d = 4 → vis4 (nbP ps) cc q st d = visS (nbP ps) cc st0 (q + 1) := fun e => by subst e; rw [← hstH.out]; rfl
                  obtain ⟨sd, hsd⟩ : ∃ sd, vis4 (nbP ps) cc q st d = sd := ⟨_, rfl⟩
                  rw [hsd] at hR hM hVd hlend hud h4 h4'
                  have h4H := Lib.hid h4
                  have h4'H := Lib.hid h4'
                  clear hsd h4 h4'
                  have hqd : q < sd.1.length := (List.getElem?_eq_some_iff.1 hud).1
                  obtain ⟨A9, c9, rfl⟩ := ownsRow_form hR.out
                  by_cases hd4 : d < 4
                  · have hdI : (d : Int) < 4 := by omega
                    obtain ⟨g9, cap9, hv9⟩ : ∃ g9 cap9, Value.slice A9 sd.1.length c9 = .slice (some ⟨g9, 0, none⟩) sd.1.length cap9 := by
                      rcases hR.out.2 with ⟨_, h0⟩ | ⟨g, cap, cur, hv, _⟩
                      · omega
                      · exact ⟨g, cap, hv⟩
                    injection hv9 with hv1 hv2 hv3
                    subst hv1 hv3
                    clear hv2
                    have hgl := (hR.out.lt g9 rfl)
                    have hgt := ptCells_get (ptsAt ps sd.1) q eu (by unfold ptsAt; rw [List.getElem?_map, hud]; simp [ptAt_of heuH.out])
                    have r0 := (hR.out.cellAt (q * 2) (by omega)).trans hgt.1
                    have r1 := (hR.out.cellAt (q * 2 + 1) (by omega)).trans hgt.2
                    obtain ⟨sx, hsxe⟩ : ∃ sx, stepX eu.x (d : Nat) = sx := ⟨_, rfl⟩
                    obtain ⟨sy, hsye⟩ : ∃ sy, stepY eu.y (d : Nat) = sy := ⟨_, rfl⟩
                    have hsr : (-62 ≤ sx ∧ sx ≤ 62) ∧ (-62 ≤ sy ∧ sy ≤ 62) := by
                      rw [← hsxe, ← hsye]
                      have : d = 0 ∨ d = 1 ∨ d = 2 ∨ d = 3 := by omega
                      rcases this with rfl | rfl | rfl | rfl <;> simp [stepX, stepY] <;> omega
                    have hsxH := Lib.hid hsxe
                    have hsyH := Lib.hid hsye
                    have hudH := Lib.hid hud
                    clear hgt hsxe hsye hud
                    cases hlb : leftB ps sd.2 sx sy
                    · have hms := Lib.hid (vis1_miss (c := cc) (d := d) hudH.out heuH.out (by rw [hsxH.out, hsyH.out]; exact hlb))
                      have hlk := Lib.hid hlb
                      clear hlb
                      go_wp2_with (first
                        | (go_at_call 34; refine (step_any _ _ _ _ hd4 ⟨by omega, by omega⟩ ⟨by omega, by omega⟩).mono ?_; rw [hsxH.out, hsyH.out]; rintro e' w1 ⟨rfl, hb1⟩; obtain ⟨c1, f1, s1, t1⟩ := bcell hb1; have hb1H := Lib.hid hb1; clear hb1)
                        | (at_lookup; refine wpList_look_lmap _ rfl _ _ rfl w.heap.size k _ rfl ((hM.out.below hb1H.out).below (by exact bel_)) sx sy (W64.of (by omega)) (W64.of (by omega)) rfl ?_; rw [hlk.out]))
                      have hs1 := hb1H.out.size
                      go_roundg (4 - (d + 1))
                      case measure => omega
                      case rel =>
                        refine ⟨d + 1, by omega, by go_num, Lib.hid ?_, Lib.hid ?_, Lib.hid ((hO.out.below hb1H.out).alloc _), Lib.hid ((hby.out.trans (hb1H.out.mono hszy)).alloc (by omega) _), by simp; omega⟩
                        · rw [h4H.out, hms.out]; exact (ownsRow_below hR.out hb1H.out).alloc _
                        · rw [h4H.out, hms.out]; exact (hM.out.below hb1H.out).below (by exact bel_)
                    · obtain ⟨vv, hvn, hvp, hv0, hvis⟩ := vis1_hit (c := cc) (d := d) hudH.out heuH.out (by rw [hsxH.out, hsyH.out]; exact hlb)
                      rw [hsxH.out, hsyH.out] at hvp
                      have hlk := Lib.hid hlb
                      have hvpH := Lib.hid hvp
                      have hvisH := Lib.hid hvis
                      have hv0H := Lib.hid hv0
                      have hccn := hVd.out.pos
                      have hset := Lib.hid (leftB_set hSH.out (nm := sd.2) hvp (by rw [hVd.out.len, ← hlH.out]; exact hvn) hccn)
                      clear hlb hvp hvis hv0
                      go_wp2_with (first
                        | (go_at_call 34; refine (step_any _ _ _ _ hd4 ⟨by omega, by omega⟩ ⟨by omega, by omega⟩).mono ?_; rw [hsxH.out, hsyH.out]; rintro e' w1 ⟨rfl, hb1⟩; obtain ⟨c1, f1, s1, t1⟩ := bcell hb1; have hs1 := hb1.size; have hb1H := Lib.hid hb1; clear hb1)
                        | (at_lookup; refine wpList_look_lmap _ rfl _ _ rfl w.heap.size k _ rfl ((hM.out.below hb1H.out).below (by exact bel_)) sx sy (W64.of (by omega)) (W64.of (by omega)) rfl ?_; rw [hlk.out])
                        | (at_delete; refine wpList_del_lmap _ rfl _ _ rfl w.heap.size k _ rfl ((hM.out.below hb1H.out).below (by exact bel_)) sx sy (W64.of (by omega)) (W64.of (by omega)) rfl ?_; intro w4 hM4 hg4; have hs4 : w1.heap.size + 1 ≤ w4.heap.size := (by have := hg4.size; simpa using this); (have x0 := (World.cell?_of_block (w := w1.alloc (Obj.cells #[.int .i64 sx, .int .i64 sy] 49)) (w' := w4) (a := ⟨w1.heap.size, 0, none⟩) (hg4.block w1.heap.size (by simp) (by intro h; injection h with h; omega))).trans (show _ = some (Value.int .i64 sx) by go_simp); have x1 := (World.cell?_of_block (w := w1.alloc (Obj.cells #[.int .i64 sx, .int .i64 sy] 49)) (w' := w4) (a := ⟨w1.heap.size, 1, none⟩) (hg4.block w1.heap.size (by simp) (by intro h; injection h with h; omega))).trans (show _ = some (Value.int .i64 sy) by go_simp)); have hM4H := Lib.hid hM4; (have hR4 := Lib.hid (((ownsRow_below hR.out hb1H.out).alloc (Obj.cells #[.int .i64 sx, .int .i64 sy] 49)).kept hg4 (.inr (by simp [Value.ownBlock]; omega))); have hO4 := Lib.hid (((hO.out.below hb1H.out).alloc (Obj.cells #[.int .i64 sx, .int .i64 sy] 49)).keptBelow hg4 (by intro g e; injection e with e; omega)); have hb4 := Lib.hid (((hby.out.trans (hb1H.out.mono hszy)).alloc (by omega) (Obj.cells #[.int .i64 sx, .int .i64 sy] 49)).grown hg4 (by simp; omega) (by intro q e; injection e with e; omega)); clear hM4 hg4))
                        | (at_builtin; (refine wpList_append_own_at _ rfl _ _ 24 rfl wj.heap.size 49 i0 (.agg #[.int .i64 0, .int .i64 0]) 2 16 Try.underlying24 hi hz0 hz1 hz2 rfl (by decide) _ sd.1.length (ptCells (ptsAt ps sd.1)) rfl (hR4.out.alloc _) ⟨w4.heap.size, 0, none⟩ 1 1 [.int .i64 sx, .int .i64 sy] rfl rfl (cell_pt2 _ _ _ _) (fun x hx => by simp at hx; rcases hx with rfl | rfl <;> rfl) (by unfold maxLen; omega) (by omega) (by simp; omega) ?_); intro v5 w5 hown5 hgrow5 _ hat5; have hown5H := Lib.hid hown5; have hgrow5H := Lib.hid hgrow5; clear hown5 hgrow5 hat5))
                      have hs5' : w4.heap.size + 1 ≤ w5.heap.size := by have := hgrow5H.out.size; simpa using this
                      have hbb5 := Lib.hid (below_app (B0 := w.heap.size + 1) (W := w4) (by omega) (fun g e => by have e1 : some g9 = some g := e; injection e1 with e1; omega) hgrow5H.out)
                      go_roundg (4 - (d + 1))
                      case measure => omega
                      case rel =>
                        refine ⟨d + 1, by omega, by go_num, Lib.hid ?_, Lib.hid ?_, Lib.hid ?_, Lib.hid (hb4.out.trans (hbb5.out.mono (by omega))), by omega⟩
                        · rw [h4H.out, hvisH.out]
                          have := hown5H.out
                          rw [← ptCells_snoc _ ⟨sx, sy⟩] at this
                          simpa [ptsAt, ptAt_of hvpH.out] using this
                        · rw [h4H.out, hvisH.out]
                          exact (hM4H.out.block (hbb5.out.block _ (by omega))).say fun x y => (hset.out x y).symm
                        · refine (hO4.out.alloc _).kept hgrow5H.out fun g e => ?_
                          have e1 : some g9 = some g := e
                          injection e1 with e1
                          subst e1
                          exact ⟨fun e' => by have := hfar.out _ e'; omega, fun i u hu e' => by have := hfin.out i u _ hu e'; omega⟩
                  · obtain rfl : d = 4 := by omega
                    go_wp2
                    go_roundg (k - (q + 1))
                    case measure => omega
                    case rel =>
                      refine ⟨q + 1, by omega, by go_num, Lib.hid ?_, Lib.hid ?_, hO, hby, hsy⟩
                      · rw [← h4'H.out (by simp)]; exact hR.out
                      · rw [← h4'H.out (by simp)]; exact hM.out
              · have hend := Lib.hid (visS_end hV0.out (nb := nbP ps) (k := q) (by rw [hstH.out]; omega))
                have h1 : 0 < st.1.length := by
                  have := visS_pos (nb := nbP ps) (c := cc) (st := st0) (by rw [← hst0H.out]; simp) q
                  rw [hstH.out] at this
                  exact this
                obtain ⟨g9, cap9, hv9⟩ : ∃ g9 cap9, Value.slice A9 st.1.length c9 = .slice (some ⟨g9, 0, none⟩) st.1.length cap9 := by
                  rcases hR.out.2 with ⟨_, h0⟩ | ⟨g, cap, cur, hv, _⟩
                  · omega
                  · exact ⟨g, cap, hv⟩
                injection hv9 with hv1 hv2 hv3
                subst hv1 hv3
                clear hv2 hAx
                have hgl := (hR.out.lt g9 rfl)
                have hyes := Lib.hid (allP_yes (nb := nbP ps) (n := k) (i := j) hnmH.out hPH.out h0H.out (st := st) (by rw [hst0H.out, hccH.out, ← hend.out, hstH.out]))
                have hR1 := Lib.hid (show wr.ownsRow wj.heap.size 49 2 (.slice (some ⟨g9, 0, none⟩) (ptsAt ps st.1).length c9) (ptsAt ps st.1).length (ptCells (ptsAt ps st.1)) by rw [ptsAt_len]; exact hR.out)
                have hpl := ptsAt_len ps st.1
                have hsl := sortP_len (ptsAt ps st.1)
                obtain ⟨L, hL⟩ : ∃ L, ptsAt ps st.1 = L := ⟨_, rfl⟩
                rw [hL] at hR1 hpl hsl
                have hLH := Lib.hid hL
                clear hL
                have hll : L.length = st.1.length := hpl
                have hvL : Value.slice (some ⟨g9, 0, none⟩) st.1.length c9 = .slice (some ⟨g9, 0, none⟩) L.length c9 := by rw [hll]
                go_wp2_with (first
                  | (go_at_call 48; rw [hvL]; refine (SortFuncPt_any L wj.heap.size g9 c9 wr hR1.out (by omega)).mono ?_; rintro e' w1 ⟨rfl, hrow1, hg1⟩; have hrow1H := Lib.hid hrow1; have hg1H := Lib.hid hg1; have hs1 := hg1.size; have hO1 := Lib.hid (hO.out.kept hg1 fun g e => by (injection e with e; subst e; exact ⟨fun e' => by (have := hfar.out _ e'; omega), fun i u hu e' => by (have := hfin.out i u _ hu e'; omega)⟩)); clear hrow1 hg1)
                  | (at_builtin; (refine wpList_append_own_at _ rfl _ _ 32 rfl (w.heap.size + 1) 24 i1 (.slice none 0 0) 1 24 Try.underlying32 hi' hz0' hz1' hz2' rfl (by decide) _ P.length us rfl ((hO1.out.outerN hul.out).alloc _) ⟨w1.heap.size, 0, none⟩ 1 1 [.slice (some ⟨g9, 0, none⟩) L.length c9] rfl rfl (cell_one_new _ _ _) (fun x hx => by simp at hx; subst hx; rfl) (by unfold maxLen; omega) (by omega) (by simp; omega) ?_); intro v5 w5 hown5 hgrow5 _ hat5; have hown5H := Lib.hid hown5; have hgrow5H := Lib.hid hgrow5; have hat5H := Lib.hid hat5; clear hown5 hgrow5 hat5))
                have hs5' : w1.heap.size + 1 ≤ w5.heap.size := by have := hgrow5H.out.size; simpa using this
                have hbA := Lib.hid (below_app (B0 := w.heap.size + 1) (W := w1) (by omega) (fun g e => (hO1.out.lt g e).1) hgrow5H.out)
                have hb1 := Lib.hid ((Below.refl (w.heap.size + 1) wr).grown hg1H.out (by omega) (fun g e => by injection e with e; omega))
                go_roundg (k - (j + 1))
                case measure => omega
                case rel =>
                  refine ⟨j + 1, us ++ [.slice (some ⟨g9, 0, none⟩) L.length c9], by omega, by go_num, Lib.hid ?_, Lib.hid ?_, Lib.hid ?_, Lib.hid (hbx.out.trans ((hb1.out.trans (hbA.out.mono (by omega))).mono (by omega))), by omega⟩
                  · rw [hyes.out.2]
                    have hx : (w1.alloc (Obj.cells #[.slice (some ⟨g9, 0, none⟩) L.length c9] 24)).ownsRow (w.heap.size + 1) 49 2 (.slice (some ⟨g9, 0, none⟩) L.length c9) L.length (ptCells (sortP L)) := by
                      exact ((ownsRow_baseQ hrow1H.out (by omega)).alloc _)
                    have := (hO1.out.alloc (Obj.cells #[.slice (some ⟨g9, 0, none⟩) L.length c9] 24)).push hul.out hx (fun g e => by (have e1 : some g9 = some g := e); injection e1 with e1; subst e1; exact ⟨fun e' => by (have := hfar.out _ e'; omega), fun i u hu e' => by (have := hfin.out i u _ hu e'; omega)⟩) hown5H.out hgrow5H.out hat5H.out
                    simpa [partsV, hLH.out] using this
                  · rw [hyes.out.2]; simp [hul.out]
                  · rw [hyes.out.1]
                    exact hM.out.block (((hb1.out.trans (hbA.out.mono (by omega)))).block _ (by omega))
        · obtain rfl : j = k := by omega
          go_wp2
          go_ret
          exact ⟨_, us, rfl, hO.out.rebase (by omega), hbw.out⟩
end Go.Proofs.Ytkppijcjmhkkkaa
