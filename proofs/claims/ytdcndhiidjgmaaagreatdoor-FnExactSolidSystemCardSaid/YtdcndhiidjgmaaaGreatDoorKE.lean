import Derived.Test.YtdcndhiidjgmaaaGreatDoorShelf
import Derived.Test.YtdcndhiidjgmaaaGreatDoorKD
import Derived.Sort.OwnSortedInts
import Derived.Test.YtdcndhiidjgmaaaGreatDoorKB
import Derived.Test.YtdcndhiidjgmaaaGreatDoorKC
import Derived.Test.YtdcndhiidjgmaaaGreatDoorW10
import Derived.Test.YtdcndhiidjgmaaaGreatDoorW11
set_option linter.unusedSimpArgs false
set_option linter.unusedVariables false
/- slices.SortFunc at rows of points that a call has made. -/



namespace Go.Proofs.YtdcndhiidjgmaaaGreatDoor
open Go.RowKit Go.Shelf Go.Lib Go.Sort
attribute [local go_sem] BelowBy.cell BelowBy.cell_drew stillUpon givesUpon

set_option maxRecDepth 100000
def encPt (p : Pt) : List Value := [.int .i64 p.x, .int .i64 p.y]
def cmpP (x y : Pt) : Int := cmpPt x.x x.y y.x y.y
theorem comparePoints_exact (x y : Pt) (w : World) :
    Calls Tryz.prog 33 #[.agg #[.int .i64 x.x, .int .i64 x.y], .agg #[.int .i64 y.x, .int .i64 y.y]] w fun e w' => e = .returned (.int .i64 (cmpP x y)) ∧ ∃ q os, w' = grow (w.drewN q) os := by
  go_enter Tryz.func33, Tryz.ntmps33
  go_wp2
  refine wp_region_ord [(0, .q), (1, .q), (2, .q), (3, .q), (5, .q), (6, .q), (7, .q), (8, .q), (4, .g), (9, .g), (10, .g), (11, .g), (12, .q)] (by kernel_rfl) (by kernel_rfl) ?_
  simp only [pick, List.filterMap_cons, List.filterMap_nil, List.getElem?_toArray, List.getElem?_cons_zero, List.getElem?_cons_succ, Option.map_some]
  repeat (first | ((with_reducible refine wpD_p (fun K hK => ?_)); go_simp; refine hK _ ?_; clear hK K) | ((with_reducible refine wpD_q (fun K hK => ?_)); go_simp; (first | refine hK _ ?_ | (go_bits; refine hK _ ?_) | (go_bits; go_simp; refine hK _ ?_)); clear hK K))
  with_reducible refine wpD_g (fun K hK => ?_)
  go_simp
  refine (Compare_any _ _ _).mono ?_
  rintro e _ ⟨rfl, rfl⟩
  refine ⟨_, rfl, Below.refl _ _, hK _ _ ?_⟩
  clear hK K
  with_reducible refine wpD_g (fun K hK => ?_)
  go_simp
  refine (Compare_any _ _ _).mono ?_
  rintro e _ ⟨rfl, rfl⟩
  refine ⟨_, rfl, Below.refl _ _, hK _ _ ?_⟩
  clear hK K
  with_reducible refine wpD_g (fun K hK => ?_)
  go_simp
  refine ⟨Grew.of_alloc _, hK _ _ ?_⟩
  clear hK K
  with_reducible refine wpD_g (fun K hK => ?_)
  go_simp
  refine (Or_any (cmpI x.y y.y) (cmpI x.x y.x) _ _ _ _ (by go_simp) (by go_simp)).mono ?_
  rintro e _ ⟨rfl, rfl⟩
  refine ⟨_, rfl, Below.refl _ _, hK _ _ ?_⟩
  clear hK K
  repeat (first | ((with_reducible refine wpD_p (fun K hK => ?_)); go_simp; refine hK _ ?_; clear hK K) | ((with_reducible refine wpD_q (fun K hK => ?_)); go_simp; (first | refine hK _ ?_ | (go_bits; refine hK _ ?_) | (go_bits; go_simp; refine hK _ ?_)); clear hK K))
  with_reducible refine wpD_nil ?_
  go_wp2
  go_ret
  refine ⟨rfl, ?_⟩
  simp only [alloc_eq_grow, drew_grow, grow_grow, World.drew_is_drewN, World.drewN_drewN]
  exact ⟨_, _, rfl⟩
theorem ltOf_cmpP (x y : Pt) : ltOf cmpP x y = lessPt x.x x.y y.x y.y := rfl
theorem lessPt_said (a b c d : Int) : lessPt a b c d = decide (b < d ∨ (b = d ∧ a < c)) := by
  unfold lessPt cmpPt orI cmpI
  by_cases h1 : b < d
  · simp [h1]
  · by_cases h2 : d < b
    · have : ¬ b = d := by omega
      simp [h1, h2, this]
    · obtain rfl : b = d := by omega
      by_cases h3 : a < c
      · simp [h3]
      · by_cases h4 : c < a
        · simp [h3, h4]
        · simp [h3, h4]
theorem swo_cmpP : SWO (ltOf cmpP) where
  irrefl x := by rw [ltOf_cmpP]; exact lessPt_irrefl _ _
  trans x y z h1 h2 := by
    rw [ltOf_cmpP, lessPt_said, decide_eq_true_eq] at *
    omega
  ntrans x y z h1 h2 := by
    rw [ltOf_cmpP, lessPt_said, decide_eq_false_iff_not] at *
    omega
theorem part_cmpP (x y : Pt) (h1 : ltOf cmpP x y = false) (h2 : ltOf cmpP y x = false) : x = y := by
  rw [ltOf_cmpP, lessPt_said, decide_eq_false_iff_not] at *
  cases x
  cases y
  simp only [Pt.mk.injEq]
  simp only at h1 h2
  omega
/-- points in order -/
def sortP (L : List Pt) : List Pt := L.mergeSort fun x y => !(ltOf cmpP) y x
theorem sortP_len (L : List Pt) : (sortP L).length = L.length := List.length_mergeSort _
theorem flat_pt (L : List Pt) : (flatK encPt 2 L.toArray).toList = ptCells L := by
  apply List.ext_getElem?
  intro t
  rw [Array.getElem?_toList]
  by_cases ht : t < L.length * 2
  · have hs : t < (flatK encPt 2 L.toArray).size := by rw [size_flatK]; simpa using ht
    have h1 : (flatK encPt 2 L.toArray)[t]? = some (flatK encPt 2 L.toArray)[t]! := by rw [getElem!_pos _ t hs, Array.getElem?_eq_getElem hs]
    rw [h1, get_flatK _ _ _ _ (by simpa using ht)]
    have hq : t / 2 < L.length := by omega
    have hg := ptCells_get L (t / 2) _ (List.getElem?_eq_getElem hq)
    have he : L.toArray[t / 2]! = L[t / 2] := by rw [getElem!_pos _ _ (by simpa using hq)]; simp
    rw [he]
    rcases (show t % 2 = 0 ∨ t % 2 = 1 by omega) with hm | hm
    · rw [hm]
      have : t / 2 * 2 = t := by omega
      rw [this] at hg
      rw [hg.1]; rfl
    · rw [hm]
      have : t / 2 * 2 + 1 = t := by omega
      rw [this] at hg
      rw [hg.2]; rfl
  · rw [Array.getElem?_eq_none (by rw [size_flatK]; simpa using ht), List.getElem?_eq_none (by rw [ptCells_len]; omega)]
theorem holds_row {w : World} {g : Nat} {cur : Array Value} {e : TypeId} {L : List Pt} (hb : w.heap[g]? = some (.cells cur e (0, 0))) (ht : cur.toList.take (L.length * 2) = ptCells L) : HoldsK encPt 2 w g 0 L.toArray := by
  intro j hj
  rw [size_flatK] at hj
  have hj' : j < L.length * 2 := by simpa using hj
  refine ⟨?_, by simp [World.frozen?, hb]⟩
  have h1 : (cur.toList.take (L.length * 2))[j]? = (ptCells L)[j]? := by rw [ht]
  rw [List.getElem?_take_of_lt hj', ← flat_pt, Array.getElem?_toList, Array.getElem?_toList] at h1
  have hs : j < (flatK encPt 2 L.toArray).size := by rw [size_flatK]; simpa using hj'
  simp only [World.cell?, hb, Nat.zero_add]
  simp only [Option.isSome_none, Bool.false_eq_true, if_false, id]
  rw [h1, getElem!_pos _ j hs, Array.getElem?_eq_getElem hs]
theorem heap_sortedK {w : World} {g n : Nat} {os : Array Obj} {cur : Array Value} {e : TypeId} {fr : Nat × Nat} (d : Array Pt) (hb : w.heap[g]? = some (.cells cur e fr)) :
    (sortWorldK encPt 2 w g 0 n d os).heap[g]? = some (.cells (putCells id 0 (flatK encPt 2 d) cur) e fr) := by
  have hg : g < w.heap.size := (Array.getElem?_eq_some_iff.1 hb).1
  unfold sortWorldK putRowK
  rw [heap_grow_old _ _ (by simpa using hg)]
  simp [putRow, mapBlock, Sort.ahead, Array.getElem?_modify, hb, onCells]
theorem grownBy_sortedK {w : World} {g n : Nat} {os : Array Obj} (d : Array Pt) : w.grownBy (sortWorldK encPt 2 w g 0 n d os) (some g) := by
  refine ⟨rfl, rfl, rfl, by simp [sortWorldK, putRowK], fun k hk hne => ?_⟩
  unfold sortWorldK putRowK
  rw [heap_grow_old _ _ (by simpa using hk)]
  have : g ≠ k := fun e => hne (by rw [e])
  simp [putRow, mapBlock, Sort.ahead, Array.getElem?_modify, this]
theorem take_putK (cur : Array Value) (L : List Pt) (h : L.length * 2 ≤ cur.size) : (putCells id 0 (flatK encPt 2 L.toArray) cur).toList.take (L.length * 2) = ptCells L := by
  rw [← flat_pt]
  apply List.ext_getElem?
  intro j
  by_cases hj : j < L.length * 2
  · have hs : j < (flatK encPt 2 L.toArray).size := by rw [size_flatK]; simpa using hj
    rw [List.getElem?_take_of_lt hj, Array.getElem?_toList, Array.getElem?_toList]
    simp only [putCells, Array.getElem?_mapIdx, Nat.zero_le, Nat.zero_add, true_and, Nat.sub_zero]
    rw [Array.getElem?_eq_getElem (show j < cur.size by omega)]
    simp only [Option.map_some, id]
    rw [if_pos hs, getElem!_pos _ j hs, Array.getElem?_eq_getElem hs]
  · rw [List.getElem?_take_eq_none (by omega), Array.getElem?_toList, Array.getElem?_eq_none (by rw [size_flatK]; simpa using hj)]
set_option maxHeartbeats 1000000 in
theorem SortFuncPt_any (L : List Pt) (B g cap : Nat) (w : World) (hrow : w.ownsRow B 44 2 (.slice (some ⟨g, 0, none⟩) L.length cap) L.length (ptCells L)) (hl : L.length ≤ 1000000) :
    Calls Tryz.prog 81 #[.slice (some ⟨g, 0, none⟩) L.length cap, .func (.func 33) #[] #[]] w fun e w' => e = .returned (.tuple #[]) ∧
      w'.ownsRow B 44 2 (.slice (some ⟨g, 0, none⟩) L.length cap) L.length (ptCells (sortP L)) ∧ w.grownBy w' (some g) := by
  rcases hrow with ⟨hcl, h0 | ⟨g', cap', cur, hv, hB, hb, h1, h2, h3, h4⟩⟩
  · cases h0.1
  cases hv
  have eg : ∀ args w, (callFunc 33 args).run Tryz.prog w = .ok (.enter 33 args) w := enters_of Tryz.func33 (by kernel_rfl) rfl
  have hH := holds_row hb h4
  have hgl := (Array.getElem?_eq_some_iff.1 hb).1
  have hcon := AnyQ.slices_SortFunc_total Tryz.sortPt 2 Tryz.isAgg44 Tryz.sizeOf44 encPt (fun _ => rfl) (fun x v hv => by simp [encPt] at hv; rcases hv with rfl | rfl <;> rfl) cmpP swo_cmpP 33 #[] g 0 cap L.toArray w eg
    (fun _ _ _ _ x y => comparePoints_exact x y _) hH hgl (by simp; omega) part_cmpP
  refine hcon.mono ?_
  rintro e w' ⟨he, n, os, rfl⟩
  refine ⟨he, ?_, grownBy_sortedK _⟩
  have hsl := sortP_len L
  refine ⟨by rw [ptCells_len, hsl], .inr ⟨g, cap, _, rfl, hB, heap_sortedK _ hb, h1, h2, by simp [putCells, h3], ?_⟩⟩
  have := take_putK cur (sortP L) (by rw [hsl, h3]; exact Nat.mul_le_mul_right 2 h1)
  rw [hsl] at this
  exact this
end Go.Proofs.YtdcndhiidjgmaaaGreatDoor
/- Walks: the program's connected parts of points. -/



namespace Go.Proofs.YtdcndhiidjgmaaaGreatDoor
open Go.RowKit Go.Shelf
attribute [local go_sem] BelowBy.cell BelowBy.cell_drew stillUpon givesUpon

/-- the first k points -/
def firstB (ps : List Pt) (k : Nat) (x y : Int) : Bool := match idxP ps x y with
  | some v => decide (v < k)
  | none => false
theorem firstB_zero (ps : List Pt) (x y : Int) : firstB ps 0 x y = false := by
  unfold firstB; split <;> simp
theorem firstB_succ {ps : List Pt} (h : Shp ps) {k : Nat} {e : Pt} (he : ps[k]? = some e) (x y : Int) : firstB ps (k + 1) x y = (firstB ps k x y || decide (x = e.x ∧ y = e.y)) := by
  unfold firstB
  cases hi : idxP ps x y with
  | none =>
    have : ¬ (x = e.x ∧ y = e.y) := fun hh => by
      obtain ⟨rfl, rfl⟩ := hh
      rw [h.idx he] at hi
      cases hi
    simp [this]
  | some v =>
    simp only []
    have hv := idxP_some hi
    by_cases hvk : v = k
    · subst hvk
      rw [he] at hv
      injection hv with hv
      subst hv
      simp
    · have hne : ¬ (x = e.x ∧ y = e.y) := fun hh => by
        obtain ⟨rfl, rfl⟩ := hh
        rw [h.idx he] at hi
        injection hi with hi
        exact hvk hi.symm
      have : (v < k + 1) ↔ v < k := by omega
      simp [hne, this]
theorem firstB_all (ps : List Pt) (x y : Int) : firstB ps ps.length x y = leftB ps (List.replicate ps.length 0) x y := by
  unfold firstB leftB
  cases hi : idxP ps x y with
  | none => rfl
  | some v =>
    have hv := (List.getElem?_eq_some_iff.1 (idxP_some hi)).1
    simp [hv]
def ptAt (ps : List Pt) (v : Nat) : Pt := (ps[v]?).getD ⟨0, 0⟩
def ptsAt (ps : List Pt) (l : List Nat) : List Pt := l.map (ptAt ps)
theorem ptAt_of {ps : List Pt} {v : Nat} {e : Pt} (h : ps[v]? = some e) : ptAt ps v = e := by unfold ptAt; rw [h]; rfl
theorem ptsAt_len (ps : List Pt) (l : List Nat) : (ptsAt ps l).length = l.length := by simp [ptsAt]
theorem leftB_at {ps : List Pt} (h : Shp ps) {nm : List Nat} {k : Nat} {e : Pt} (he : ps[k]? = some e) : leftB ps nm e.x e.y = decide (nm[k]? = some 0) := by
  unfold leftB; rw [h.idx he]
theorem vis1_hit {ps : List Pt} {c k d u : Nat} {st : List Nat × List Nat} {e : Pt} (hu : st.1[k]? = some u) (he : ps[u]? = some e) (hl : leftB ps st.2 (stepX e.x d) (stepY e.y d) = true) :
    ∃ v, v < ps.length ∧ ps[v]? = some ⟨stepX e.x d, stepY e.y d⟩ ∧ st.2[v]? = some 0 ∧ vis1 (nbP ps) c k d st = (st.1 ++ [v], st.2.set v c) := by
  unfold leftB at hl
  cases hi : idxP ps (stepX e.x d) (stepY e.y d) with
  | none => rw [hi] at hl; cases hl
  | some v =>
    rw [hi] at hl
    simp only [decide_eq_true_eq] at hl
    have hv := idxP_some hi
    refine ⟨v, (List.getElem?_eq_some_iff.1 hv).1, hv, hl, ?_⟩
    unfold vis1 nbP
    rw [hu]
    simp only [he, hi, hl, if_true]
theorem vis1_miss {ps : List Pt} {c k d u : Nat} {st : List Nat × List Nat} {e : Pt} (hu : st.1[k]? = some u) (he : ps[u]? = some e) (hl : leftB ps st.2 (stepX e.x d) (stepY e.y d) = false) : vis1 (nbP ps) c k d st = st := by
  unfold leftB at hl
  unfold vis1 nbP
  rw [hu]
  simp only [he]
  cases hi : idxP ps (stepX e.x d) (stepY e.y d) with
  | none => rfl
  | some v =>
    rw [hi] at hl
    simp only [decide_eq_false_iff_not] at hl
    simp only [if_neg hl]
theorem visS_pos {nb : Nat → Nat → Option Nat} {c : Nat} {st : List Nat × List Nat} (h : 0 < st.1.length) : ∀ k, 0 < (visS nb c st k).1.length
  | 0 => h
  | k + 1 => by
    have ih := visS_pos (nb := nb) (c := c) h k
    obtain ⟨l, hl⟩ := vis4_grow (nb := nb) (c := c) (st := visS nb c st k) k 4
    simp only [visS]
    rw [hl, List.length_append]
    omega
/-- the parts as rows of points -/
def partsV (ps : List Pt) (P : List (List Nat)) : List (List Value) := P.map fun l => ptCells (sortP (ptsAt ps l))
theorem allP_yes {nb : Nat → Nat → Option Nat} {n i : Nat} {nm : List Nat} {P : List (List Nat)} {st : List Nat × List Nat} (h1 : (allP nb n i).1 = nm) (h2 : (allP nb n i).2 = P) (h0 : nm[i]? = some 0) (hst : visS nb (P.length + 1) ([i], nm.set i (P.length + 1)) n = st) :
    (allP nb n (i + 1)).1 = st.2 ∧ (allP nb n (i + 1)).2 = P ++ [st.1] := by
  subst h1 h2 hst
  simp only [allP, if_pos h0]
  exact ⟨trivial, trivial⟩
theorem allP_no {nb : Nat → Nat → Option Nat} {n i : Nat} (h0 : (allP nb n i).1[i]? ≠ some 0) : allP nb n (i + 1) = allP nb n i := by
  simp only [allP, if_neg h0]
theorem infoPtQ : (Tryz.prog.info? 44).map (fun i => (i.zero, i.size, i.bytes)) = some (some (.agg #[.int .i64 0, .int .i64 0]), 2, 16) := by kernel_rfl
theorem infoPtsQ : (Tryz.prog.info? 35).map (fun i => (i.zero, i.size, i.bytes)) = some (some (.slice none 0 0), 1, 24) := by kernel_rfl
theorem ownsRow_baseQ {w : World} {base base' : Nat} {e : TypeId} {size : Nat} {v : Value} {n : Nat} {xs : List Value} (h : w.ownsRow base e size v n xs) (hb : base' ≤ base) : w.ownsRow base' e size v n xs :=
  ⟨h.1, h.2.imp id (fun ⟨g, cap, cur, h1, h2, h3⟩ => ⟨g, cap, cur, h1, Nat.le_trans hb h2, h3⟩)⟩
def OwnPs (w : World) (rows : List (List Value)) (e : Ending) (w' : World) : Prop := ∃ v us, e = .returned v ∧ Own2 w' w.heap.size 35 44 2 v us rows ∧ Below w.heap.size w w'
set_option maxRecDepth 100000 in
set_option maxHeartbeats 4000000 in
theorem connected_any (A : Option Addr) (n c : Nat) (ps : List Pt) (w : World) (hA : RdSl 2 RPt w A n ps) (hS : Shp ps) (hn : n ≤ 100000) :
    Calls Tryz.prog 79 #[.slice A n c] w (OwnPs w (partsV ps (allP (nbP ps) n n).2)) := by
  obtain ⟨i0, hi, hz0, hz1, hz2⟩ := info_parts infoPtQ
  obtain ⟨i1, hi', hz0', hz1', hz2'⟩ := info_parts infoPtsQ
  have hmm := @run_makeMap Tryz.prog
  have hl := hA.len
  have hlH := Lib.hid hl
  have hAH := Lib.hid hA
  have hSH := Lib.hid hS
  clear hA hl hS
  go_enter Tryz.func79, Tryz.ntmps79
  go_wp2
  go_loopg [16] n (fun g i wr => ∃ (k : Nat), k + g = n ∧ i = .int .i64 (k : Int) ∧ Hid (LMap wr w.heap.size k (firstB ps k)) ∧ Hid (Below w.heap.size w wr))
  case atStart => exact ⟨0, by omega, rfl, Lib.hid ((LMap.made w).say fun x y => (firstB_zero ps x y).symm), Lib.hid (bl_al (bl_refl _) _)⟩
  case round =>
    obtain ⟨k, hk, rfl, hM, hbw⟩ := hrel
    have hszl := hbw.out.size
    have hMl := hM.out.lt
    by_cases hkn : k < n
    · have hAw := hAH.out.below RPt.stable hbw.out
      obtain ⟨bb, ob, rfl, hbb, hbc⟩ := hAw.ptr (by omega)
      obtain ⟨e, he⟩ := hAw.get hkn
      obtain ⟨e0, e1⟩ := hbc k e he
      have hpt := hSH.out.pt k e he
      have heH := Lib.hid he
      clear hbc he hAw
      go_wp2_with (at_mapUpdate; refine wpList_put_lmap _ rfl _ _ _ rfl w.heap.size k _ rfl ((hM.out).below (by exact bel_)) e.x e.y (W64.of (by omega)) (W64.of (by omega)) (by unfold maxLen; omega) rfl rfl ?_; intro w4 hM4 hg4; have hM4H := Lib.hid hM4; have hb4 := Lib.hid ((hbw.out.alloc hszl _).grown hg4 (by simp; try omega) (by intro q e; injection e with e; omega)); clear hM4 hg4)
      go_roundg (n - (k + 1))
      case measure => omega
      case rel => exact ⟨k + 1, by omega, by go_num, Lib.hid (hM4H.out.say fun x y => (firstB_succ hSH.out heH.out x y).symm), hb4⟩
    · obtain rfl : k = n := by omega
      have hM0 := Lib.hid (hM.out.say (S' := leftB ps (List.replicate k 0)) fun x y => by have := firstB_all ps x y; rw [hlH.out] at this; exact this)
      obtain ⟨wa, rfl⟩ : ∃ wa : World, wa = wr := ⟨_, rfl⟩
      clear hM
      go_wp2
      go_loopg [25, 6] k (fun g i v wr => ∃ (j : Nat) (us : List Value), j + g = k ∧ i = .int .i64 (j : Int) ∧ Hid (Own2 wr (w.heap.size + 1) 35 44 2 v us (partsV ps (allP (nbP ps) k j).2)) ∧ Hid (us.length = (allP (nbP ps) k j).2.length) ∧ Hid (LMap wr w.heap.size k (leftB ps (allP (nbP ps) k j).1)) ∧ Hid (Below w.heap.size w wr) ∧ w.heap.size < wr.heap.size)
      case atStart => exact ⟨0, [], by omega, rfl, Lib.hid (Own2.nil _ _ _ _ _), Lib.hid rfl, Lib.hid (hM0.out.say fun x y => rfl), hbw, hMl⟩
      case round =>
        clear hbw hszl hMl hM0
        obtain ⟨j, us, hj, rfl, hO, hul, hM, hbw, hMl⟩ := hrel
        have hszl := hbw.out.size
        have hcnt := allP_count (nbP ps) k j
        obtain ⟨A0, c0, rfl⟩ := hO.out.form hul.out
        by_cases hjn : j < k
        · have hAw := hAH.out.below RPt.stable hbw.out
          obtain ⟨bb, ob, rfl, hbb, hbc⟩ := hAw.ptr (by omega)
          obtain ⟨e, he⟩ := hAw.get hjn
          obtain ⟨e0, e1⟩ := hbc j e he
          have hpt := hSH.out.pt j e he
          have heH := Lib.hid he
          have hnl := Lib.hid (allP_len (nbP ps) k j)
          obtain ⟨nm, hnm⟩ : ∃ nm, (allP (nbP ps) k j).1 = nm := ⟨_, rfl⟩
          obtain ⟨P, hP⟩ : ∃ P, (allP (nbP ps) k j).2 = P := ⟨_, rfl⟩
          have hlb := leftB_at (nm := nm) hSH.out he
          rw [hnm] at hM hnl
          rw [hP] at hO hul hcnt ⊢
          have hnmH := Lib.hid hnm
          have hPH := Lib.hid hP
          clear hbc he hAw hnm hP
          cases hb0 : leftB ps nm e.x e.y
          · rw [hb0] at hlb
            have h0 : (allP (nbP ps) k j).1[j]? ≠ some 0 := by
              rw [hnmH.out]
              exact of_decide_eq_false hlb.symm
            have hno := Lib.hid (allP_no h0)
            clear hlb h0
            have hlk := Lib.hid hb0
            clear hb0
            go_wp2_with (at_lookup; refine wpList_look_lmap _ rfl _ _ rfl w.heap.size k _ rfl (hM.out.below (by exact bel_)) e.x e.y (W64.of (by omega)) (W64.of (by omega)) rfl ?_; rw [hlk.out])
            go_roundg (k - (j + 1))
            case measure => omega
            case rel =>
              refine ⟨j + 1, us, by omega, by go_num, Lib.hid ?_, Lib.hid ?_, Lib.hid ?_, Lib.hid (hbw.out.alloc hszl _), by simp; omega⟩
              · rw [hno.out, hPH.out]; exact hO.out.alloc _
              · rw [hno.out, hPH.out]; exact hul.out
              · rw [hno.out, hnmH.out]; exact hM.out.below (by exact bel_)
          · rw [hb0] at hlb
            have h0 := of_decide_eq_true hlb.symm
            have h0H := Lib.hid h0
            clear hlb h0
            have hlk := Lib.hid hb0
            clear hb0
            have hjl : j < nm.length := by rw [hnl.out]; exact hjn
            have hjlH := Lib.hid hjl
            have hfar : Hid (∀ g, Value.ownBlock (.slice A0 P.length c0) = some g → g < wr.heap.size) := Lib.hid fun g hg => (hO.out.lt g hg).2
            have hfin : Hid (∀ (q : Nat) (u : Value) (g : Nat), us[q]? = some u → u.ownBlock = some g → g < wr.heap.size) := Lib.hid fun q u g hu hg => (hO.out.ltIn hu g hg).2
            obtain ⟨wj, hwj⟩ : ∃ wj : World, wj = wr := ⟨_, rfl⟩
            have hs0 : wj.heap.size = wr.heap.size := by rw [hwj]
            rw [← hwj] at hfar hfin
            clear hwj
            go_wp2_with (first
              | (at_lookup; refine wpList_look_lmap _ rfl _ _ rfl w.heap.size k _ rfl (hM.out.below (by exact bel_)) e.x e.y (W64.of (by omega)) (W64.of (by omega)) rfl ?_; rw [hlk.out])
              | (at_delete; refine wpList_del_lmap _ rfl _ _ rfl w.heap.size k _ rfl (hM.out.below (by exact bel_)) e.x e.y (W64.of (by omega)) (W64.of (by omega)) rfl ?_; intro w4 hM4 hg4; have hM4H := Lib.hid hM4; have hg4H := Lib.hid hg4; clear hM4 hg4))
            have hO4 := Lib.hid (((hO.out.alloc (Obj.cells #[.int .i64 e.x, .int .i64 e.y] 44)).alloc (Obj.cells #[.int .i64 e.x, .int .i64 e.y] 44)).keptBelow hg4H.out (by intro g e; injection e with e; omega))
            have hR4 := Lib.hid ((World.ownsRow_lit (base := wj.heap.size) (e := 44) (size := 2) (wr.alloc (Obj.cells #[.int .i64 e.x, .int .i64 e.y] 44)) #[.int .i64 e.x, .int .i64 e.y] 1 (by rw [hs0]; simp) (by decide) rfl).kept hg4H.out (.inr (by simp [Value.ownBlock]; omega)))
            have hb4 := Lib.hid (((hbw.out.alloc hszl (Obj.cells #[.int .i64 e.x, .int .i64 e.y] 44)).alloc (by simp; omega) (Obj.cells #[.int .i64 e.x, .int .i64 e.y] 44)).grown hg4H.out (by simp; omega) (by intro q e; injection e with e; omega))
            have hs4 : wr.heap.size + 2 ≤ w4.heap.size := by have := hg4H.out.size; simpa using this
            have hM5 := Lib.hid (hM4H.out.say (S' := leftB ps (nm.set j (P.length + 1))) fun x y => (leftB_set hSH.out heH.out hjlH.out (Nat.succ_ne_zero _) x y).symm)
            have hV0 := Lib.hid (VisInv.start (n := k) (c := P.length + 1) (N0 := nm) (i := j) (Nat.succ_ne_zero _) hnl.out h0H.out)
            obtain ⟨st0, hst0⟩ : ∃ st0, (([j], nm.set j (P.length + 1)) : List Nat × List Nat) = st0 := ⟨_, rfl⟩
            have hR5 : Hid (w4.ownsRow wj.heap.size 44 2 (.slice (some ⟨wr.heap.size + 1, 0, none⟩) 1 1) st0.1.length (ptCells (ptsAt ps st0.1))) := Lib.hid (by
              rw [← hst0]
              simpa [ptsAt, ptAt_of heH.out, ptCells] using hR4.out)
            have hM6 : Hid (LMap w4 w.heap.size k (leftB ps st0.2)) := Lib.hid (by rw [← hst0]; exact hM5.out)
            have hst0H := Lib.hid hst0
            rw [hst0] at hV0
            clear hst0 hM4H hM5 hR4 hM hO hg4H hlk
            have hbw' : Below w.heap.size w wr := hbw.out
            obtain ⟨cc, hcc⟩ : ∃ cc, P.length + 1 = cc := ⟨_, rfl⟩
            rw [hcc] at hV0
            have hccH := Lib.hid hcc
            obtain ⟨wk, hwk⟩ : ∃ wk : World, wk = w4 := ⟨_, rfl⟩
            have hs5 : wk.heap.size = w4.heap.size := by rw [hwk]
            clear hwk
            go_loopg [10, 9] k (fun g i v wx => ∃ (q : Nat), q + g = k ∧ i = .int .i64 (q : Int) ∧ Hid (wx.ownsRow wj.heap.size 44 2 v (visS (nbP ps) cc st0 q).1.length (ptCells (ptsAt ps (visS (nbP ps) cc st0 q).1))) ∧ Hid (LMap wx w.heap.size k (leftB ps (visS (nbP ps) cc st0 q).2)) ∧ Hid (Own2 wx (w.heap.size + 1) 35 44 2 (.slice A0 P.length c0) us (partsV ps P)) ∧ Hid (Below w.heap.size w wx) ∧ wk.heap.size ≤ wx.heap.size)
            case atStart => exact ⟨0, by omega, rfl, hR5, hM6, hO4, hb4, by omega⟩
            case round =>
              clear hR5 hM6 hO4 hb4
              obtain ⟨q, hq, rfl, hR, hM, hO, hbx, hsx⟩ := hrel
              have hszx := hbx.out.size
              have hAx := hAH.out.below RPt.stable hbx.out
              have hVq := Lib.hid (hV0.out.all (nb := nbP ps) q)
              have hlen := VisInv.length hVq.out
              obtain ⟨st, hst⟩ : ∃ st, visS (nbP ps) cc st0 q = st := ⟨_, rfl⟩
              rw [hst] at hR hM hVq hlen
              have hstH := Lib.hid hst
              clear hst
              obtain ⟨A9, c9, rfl⟩ := ownsRow_form hR.out
              by_cases hqn : q < st.1.length
              · obtain ⟨g9, cap9, hv9⟩ : ∃ g9 cap9, Value.slice A9 st.1.length c9 = .slice (some ⟨g9, 0, none⟩) st.1.length cap9 := by
                  rcases hR.out.2 with ⟨_, h0⟩ | ⟨g, cap, cur, hv, _⟩
                  · omega
                  · exact ⟨g, cap, hv⟩
                injection hv9 with hv1 hv2 hv3
                subst hv1 hv3
                clear hv2
                obtain ⟨u, hu⟩ : ∃ u, st.1[q]? = some u := ⟨_, List.getElem?_eq_getElem hqn⟩
                have hun : u < k := hVq.out.lt u (List.mem_of_getElem? hu)
                obtain ⟨eu, heu⟩ : ∃ eu, ps[u]? = some eu := ⟨_, List.getElem?_eq_getElem (by rw [hlH.out]; exact hun)⟩
                have hptu := hSH.out.pt u eu heu
                have huH := Lib.hid hu
                have heuH := Lib.hid heu
                clear hu heu hAx
                have hgl := (hR.out.lt g9 rfl)
                go_wp2
                go_loopg [43, 9] 4 (fun g i v wy => ∃ (d : Nat), d + g = 4 ∧ i = .int .i64 (d : Int) ∧ Hid (wy.ownsRow wj.heap.size 44 2 v (vis4 (nbP ps) cc q st d).1.length (ptCells (ptsAt ps (vis4 (nbP ps) cc q st d).1))) ∧ Hid (LMap wy w.heap.size k (leftB ps (vis4 (nbP ps) cc q st d).2)) ∧ Hid (Own2 wy (w.heap.size + 1) 35 44 2 (.slice A0 P.length c0) us (partsV ps P)) ∧ Hid (Below w.heap.size w wy) ∧ wk.heap.size ≤ wy.heap.size)
                case atStart => exact ⟨0, by omega, rfl, hR, hM, hO, hbx, hsx⟩
                case round =>
                  clear hR hM hO hbx hsx hszx hgl
                  obtain ⟨d, hd, rfl, hR, hM, hO, hby, hsy⟩ := hrel
                  have hszy := hby.out.size
                  have hVd := Lib.hid (hVq.out.four (nb := nbP ps) q d)
                  have hlend := VisInv.length hVd.out
                  have hud := vis4_at (nb := nbP ps) (c := cc) huH.out d
                  have h4 : vis4 (nbP ps) cc q st (d + 1) = vis1 (nbP ps) cc q d (vis4 (nbP ps) cc q st d) := rfl
                  have h4' : d = 4 → vis4 (nbP ps) cc q st d = visS (nbP ps) cc st0 (q + 1) := fun e => by subst e; rw [← hstH.out]; rfl
                  obtain ⟨sd, hsd⟩ : ∃ sd, vis4 (nbP ps) cc q st d = sd := ⟨_, rfl⟩
                  rw [hsd] at hR hM hVd hlend hud h4 h4'
                  have h4H := Lib.hid h4
                  have h4'H := Lib.hid h4'
                  clear hsd h4 h4'
                  have hqd : q < sd.1.length := (List.getElem?_eq_some_iff.1 hud).1
                  obtain ⟨A9, c9, rfl⟩ := ownsRow_form hR.out
                  by_cases hd4 : d < 4
                  · have hdI : (d : Int) < 4 := by omega
                    obtain ⟨g9, cap9, hv9⟩ : ∃ g9 cap9, Value.slice A9 sd.1.length c9 = .slice (some ⟨g9, 0, none⟩) sd.1.length cap9 := by
                      rcases hR.out.2 with ⟨_, h0⟩ | ⟨g, cap, cur, hv, _⟩
                      · omega
                      · exact ⟨g, cap, hv⟩
                    injection hv9 with hv1 hv2 hv3
                    subst hv1 hv3
                    clear hv2
                    have hgl := (hR.out.lt g9 rfl)
                    have hgt := ptCells_get (ptsAt ps sd.1) q eu (by unfold ptsAt; rw [List.getElem?_map, hud]; simp [ptAt_of heuH.out])
                    have r0 := (hR.out.cellAt (q * 2) (by omega)).trans hgt.1
                    have r1 := (hR.out.cellAt (q * 2 + 1) (by omega)).trans hgt.2
                    obtain ⟨sx, hsxe⟩ : ∃ sx, stepX eu.x (d : Nat) = sx := ⟨_, rfl⟩
                    obtain ⟨sy, hsye⟩ : ∃ sy, stepY eu.y (d : Nat) = sy := ⟨_, rfl⟩
                    have hsr : (-62 ≤ sx ∧ sx ≤ 62) ∧ (-62 ≤ sy ∧ sy ≤ 62) := by
                      rw [← hsxe, ← hsye]
                      have : d = 0 ∨ d = 1 ∨ d = 2 ∨ d = 3 := by omega
                      rcases this with rfl | rfl | rfl | rfl <;> simp [stepX, stepY] <;> omega
                    have hsxH := Lib.hid hsxe
                    have hsyH := Lib.hid hsye
                    have hudH := Lib.hid hud
                    clear hgt hsxe hsye hud
                    cases hlb : leftB ps sd.2 sx sy
                    · have hms := Lib.hid (vis1_miss (c := cc) (d := d) hudH.out heuH.out (by rw [hsxH.out, hsyH.out]; exact hlb))
                      have hlk := Lib.hid hlb
                      clear hlb
                      go_wp2_with (first
                        | (go_at_call 31; refine (step_any _ _ _ _ hd4 ⟨by omega, by omega⟩ ⟨by omega, by omega⟩).mono ?_; rw [hsxH.out, hsyH.out]; rintro e' w1 ⟨rfl, hb1⟩; obtain ⟨c1, f1, s1, t1⟩ := bcell hb1; have hb1H := Lib.hid hb1; clear hb1)
                        | (at_lookup; refine wpList_look_lmap _ rfl _ _ rfl w.heap.size k _ rfl ((hM.out.below hb1H.out).below (by exact bel_)) sx sy (W64.of (by omega)) (W64.of (by omega)) rfl ?_; rw [hlk.out]))
                      have hs1 := hb1H.out.size
                      go_roundg (4 - (d + 1))
                      case measure => omega
                      case rel =>
                        refine ⟨d + 1, by omega, by go_num, Lib.hid ?_, Lib.hid ?_, Lib.hid ((hO.out.below hb1H.out).alloc _), Lib.hid ((hby.out.trans (hb1H.out.mono hszy)).alloc (by omega) _), by simp; omega⟩
                        · rw [h4H.out, hms.out]; exact (ownsRow_below hR.out hb1H.out).alloc _
                        · rw [h4H.out, hms.out]; exact (hM.out.below hb1H.out).below (by exact bel_)
                    · obtain ⟨vv, hvn, hvp, hv0, hvis⟩ := vis1_hit (c := cc) (d := d) hudH.out heuH.out (by rw [hsxH.out, hsyH.out]; exact hlb)
                      rw [hsxH.out, hsyH.out] at hvp
                      have hlk := Lib.hid hlb
                      have hvpH := Lib.hid hvp
                      have hvisH := Lib.hid hvis
                      have hv0H := Lib.hid hv0
                      have hccn := hVd.out.pos
                      have hset := Lib.hid (leftB_set hSH.out (nm := sd.2) hvp (by rw [hVd.out.len, ← hlH.out]; exact hvn) hccn)
                      clear hlb hvp hvis hv0
                      go_wp2_with (first
                        | (go_at_call 31; refine (step_any _ _ _ _ hd4 ⟨by omega, by omega⟩ ⟨by omega, by omega⟩).mono ?_; rw [hsxH.out, hsyH.out]; rintro e' w1 ⟨rfl, hb1⟩; obtain ⟨c1, f1, s1, t1⟩ := bcell hb1; have hs1 := hb1.size; have hb1H := Lib.hid hb1; clear hb1)
                        | (at_lookup; refine wpList_look_lmap _ rfl _ _ rfl w.heap.size k _ rfl ((hM.out.below hb1H.out).below (by exact bel_)) sx sy (W64.of (by omega)) (W64.of (by omega)) rfl ?_; rw [hlk.out])
                        | (at_delete; refine wpList_del_lmap _ rfl _ _ rfl w.heap.size k _ rfl ((hM.out.below hb1H.out).below (by exact bel_)) sx sy (W64.of (by omega)) (W64.of (by omega)) rfl ?_; intro w4 hM4 hg4; have hs4 : w1.heap.size + 1 ≤ w4.heap.size := (by have := hg4.size; simpa using this); (have x0 := (World.cell?_of_block (w := w1.alloc (Obj.cells #[.int .i64 sx, .int .i64 sy] 44)) (w' := w4) (a := ⟨w1.heap.size, 0, none⟩) (hg4.block w1.heap.size (by simp) (by intro h; injection h with h; omega))).trans (show _ = some (Value.int .i64 sx) by go_simp); have x1 := (World.cell?_of_block (w := w1.alloc (Obj.cells #[.int .i64 sx, .int .i64 sy] 44)) (w' := w4) (a := ⟨w1.heap.size, 1, none⟩) (hg4.block w1.heap.size (by simp) (by intro h; injection h with h; omega))).trans (show _ = some (Value.int .i64 sy) by go_simp)); have hM4H := Lib.hid hM4; (have hR4 := Lib.hid (((ownsRow_below hR.out hb1H.out).alloc (Obj.cells #[.int .i64 sx, .int .i64 sy] 44)).kept hg4 (.inr (by simp [Value.ownBlock]; omega))); have hO4 := Lib.hid (((hO.out.below hb1H.out).alloc (Obj.cells #[.int .i64 sx, .int .i64 sy] 44)).keptBelow hg4 (by intro g e; injection e with e; omega)); have hb4 := Lib.hid (((hby.out.trans (hb1H.out.mono hszy)).alloc (by omega) (Obj.cells #[.int .i64 sx, .int .i64 sy] 44)).grown hg4 (by simp; omega) (by intro q e; injection e with e; omega)); clear hM4 hg4))
                        | (at_builtin; (refine wpList_append_own_at _ rfl _ _ 35 rfl wj.heap.size 44 i0 (.agg #[.int .i64 0, .int .i64 0]) 2 16 Tryz.underlying35 hi hz0 hz1 hz2 rfl (by decide) _ sd.1.length (ptCells (ptsAt ps sd.1)) rfl (hR4.out.alloc _) ⟨w4.heap.size, 0, none⟩ 1 1 [.int .i64 sx, .int .i64 sy] rfl rfl (cell_pt2 _ _ _ _) (fun x hx => by simp at hx; rcases hx with rfl | rfl <;> rfl) (by unfold maxLen; omega) (by omega) (by simp; omega) ?_); intro v5 w5 hown5 hgrow5 _ hat5; have hown5H := Lib.hid hown5; have hgrow5H := Lib.hid hgrow5; clear hown5 hgrow5 hat5))
                      have hs5' : w4.heap.size + 1 ≤ w5.heap.size := by have := hgrow5H.out.size; simpa using this
                      have hbb5 := Lib.hid (below_app (B0 := w.heap.size + 1) (W := w4) (by omega) (fun g e => by have e1 : some g9 = some g := e; injection e1 with e1; omega) hgrow5H.out)
                      go_roundg (4 - (d + 1))
                      case measure => omega
                      case rel =>
                        refine ⟨d + 1, by omega, by go_num, Lib.hid ?_, Lib.hid ?_, Lib.hid ?_, Lib.hid (hb4.out.trans (hbb5.out.mono (by omega))), by omega⟩
                        · rw [h4H.out, hvisH.out]
                          have := hown5H.out
                          rw [← ptCells_snoc _ ⟨sx, sy⟩] at this
                          simpa [ptsAt, ptAt_of hvpH.out] using this
                        · rw [h4H.out, hvisH.out]
                          exact (hM4H.out.block (hbb5.out.block _ (by omega))).say fun x y => (hset.out x y).symm
                        · refine (hO4.out.alloc _).kept hgrow5H.out fun g e => ?_
                          have e1 : some g9 = some g := e
                          injection e1 with e1
                          subst e1
                          exact ⟨fun e' => by have := hfar.out _ e'; omega, fun i u hu e' => by have := hfin.out i u _ hu e'; omega⟩
                  · obtain rfl : d = 4 := by omega
                    go_wp2
                    go_roundg (k - (q + 1))
                    case measure => omega
                    case rel =>
                      refine ⟨q + 1, by omega, by go_num, Lib.hid ?_, Lib.hid ?_, hO, hby, hsy⟩
                      · rw [← h4'H.out (by simp)]; exact hR.out
                      · rw [← h4'H.out (by simp)]; exact hM.out
              · have hend := Lib.hid (visS_end hV0.out (nb := nbP ps) (k := q) (by rw [hstH.out]; omega))
                have h1 : 0 < st.1.length := by
                  have := visS_pos (nb := nbP ps) (c := cc) (st := st0) (by rw [← hst0H.out]; simp) q
                  rw [hstH.out] at this
                  exact this
                obtain ⟨g9, cap9, hv9⟩ : ∃ g9 cap9, Value.slice A9 st.1.length c9 = .slice (some ⟨g9, 0, none⟩) st.1.length cap9 := by
                  rcases hR.out.2 with ⟨_, h0⟩ | ⟨g, cap, cur, hv, _⟩
                  · omega
                  · exact ⟨g, cap, hv⟩
                injection hv9 with hv1 hv2 hv3
                subst hv1 hv3
                clear hv2 hAx
                have hgl := (hR.out.lt g9 rfl)
                have hyes := Lib.hid (allP_yes (nb := nbP ps) (n := k) (i := j) hnmH.out hPH.out h0H.out (st := st) (by rw [hst0H.out, hccH.out, ← hend.out, hstH.out]))
                have hR1 := Lib.hid (show wr.ownsRow wj.heap.size 44 2 (.slice (some ⟨g9, 0, none⟩) (ptsAt ps st.1).length c9) (ptsAt ps st.1).length (ptCells (ptsAt ps st.1)) by rw [ptsAt_len]; exact hR.out)
                have hpl := ptsAt_len ps st.1
                have hsl := sortP_len (ptsAt ps st.1)
                obtain ⟨L, hL⟩ : ∃ L, ptsAt ps st.1 = L := ⟨_, rfl⟩
                rw [hL] at hR1 hpl hsl
                have hLH := Lib.hid hL
                clear hL
                have hll : L.length = st.1.length := hpl
                have hvL : Value.slice (some ⟨g9, 0, none⟩) st.1.length c9 = .slice (some ⟨g9, 0, none⟩) L.length c9 := by rw [hll]
                go_wp2_with (first
                  | (go_at_call 81; rw [hvL]; refine (SortFuncPt_any L wj.heap.size g9 c9 wr hR1.out (by omega)).mono ?_; rintro e' w1 ⟨rfl, hrow1, hg1⟩; have hrow1H := Lib.hid hrow1; have hg1H := Lib.hid hg1; have hs1 := hg1.size; have hO1 := Lib.hid (hO.out.kept hg1 fun g e => by (injection e with e; subst e; exact ⟨fun e' => by (have := hfar.out _ e'; omega), fun i u hu e' => by (have := hfin.out i u _ hu e'; omega)⟩)); clear hrow1 hg1)
                  | (at_builtin; (refine wpList_append_own_at _ rfl _ _ 80 rfl (w.heap.size + 1) 35 i1 (.slice none 0 0) 1 24 Tryz.underlying80 hi' hz0' hz1' hz2' rfl (by decide) _ P.length us rfl ((hO1.out.outerN hul.out).alloc _) ⟨w1.heap.size, 0, none⟩ 1 1 [.slice (some ⟨g9, 0, none⟩) L.length c9] rfl rfl (cell_one_new _ _ _) (fun x hx => by simp at hx; subst hx; rfl) (by unfold maxLen; omega) (by omega) (by simp; omega) ?_); intro v5 w5 hown5 hgrow5 _ hat5; have hown5H := Lib.hid hown5; have hgrow5H := Lib.hid hgrow5; have hat5H := Lib.hid hat5; clear hown5 hgrow5 hat5))
                have hs5' : w1.heap.size + 1 ≤ w5.heap.size := by have := hgrow5H.out.size; simpa using this
                have hbA := Lib.hid (below_app (B0 := w.heap.size + 1) (W := w1) (by omega) (fun g e => (hO1.out.lt g e).1) hgrow5H.out)
                have hb1 := Lib.hid ((Below.refl (w.heap.size + 1) wr).grown hg1H.out (by omega) (fun g e => by injection e with e; omega))
                go_roundg (k - (j + 1))
                case measure => omega
                case rel =>
                  refine ⟨j + 1, us ++ [.slice (some ⟨g9, 0, none⟩) L.length c9], by omega, by go_num, Lib.hid ?_, Lib.hid ?_, Lib.hid ?_, Lib.hid (hbx.out.trans ((hb1.out.trans (hbA.out.mono (by omega))).mono (by omega))), by omega⟩
                  · rw [hyes.out.2]
                    have hx : (w1.alloc (Obj.cells #[.slice (some ⟨g9, 0, none⟩) L.length c9] 35)).ownsRow (w.heap.size + 1) 44 2 (.slice (some ⟨g9, 0, none⟩) L.length c9) L.length (ptCells (sortP L)) := by
                      exact ((ownsRow_baseQ hrow1H.out (by omega)).alloc _)
                    have := (hO1.out.alloc (Obj.cells #[.slice (some ⟨g9, 0, none⟩) L.length c9] 35)).push hul.out hx (fun g e => by (have e1 : some g9 = some g := e); injection e1 with e1; subst e1; exact ⟨fun e' => by (have := hfar.out _ e'; omega), fun i u hu e' => by (have := hfin.out i u _ hu e'; omega)⟩) hown5H.out hgrow5H.out hat5H.out
                    simpa [partsV, hLH.out] using this
                  · rw [hyes.out.2]; simp [hul.out]
                  · rw [hyes.out.1]
                    exact hM.out.block (((hb1.out.trans (hbA.out.mono (by omega)))).block _ (by omega))
        · obtain rfl : j = k := by omega
          go_wp2
          go_ret
          exact ⟨_, us, rfl, hO.out.rebase (by omega), hbw.out⟩
end Go.Proofs.YtdcndhiidjgmaaaGreatDoor
/- Walks: shapes that are valid, of both. -/



namespace Go.Proofs.YtdcndhiidjgmaaaGreatDoor
open Go.RowKit Go.Shelf
attribute [local go_sem] BelowBy.cell BelowBy.cell_drew stillUpon givesUpon

/-- a shape's test of place j -/
def okPt (ps : List Pt) (j : Nat) : Bool := match ps[j]? with
  | none => true
  | some e => validPt e.x e.y && (match j with
    | 0 => true
    | i + 1 => match ps[i]? with
      | none => true
      | some d => lessPt d.x d.y e.x e.y)
def shapeB (ps : List Pt) : Bool := allB ps.length (okPt ps) && decide (1 ≤ ps.length ∧ ps.length ≤ 500)
theorem okPt_eq0 {ps : List Pt} {e : Pt} (h : ps[0]? = some e) : okPt ps 0 = validPt e.x e.y := by
  unfold okPt; rw [h]; simp
theorem okPt_eqS {ps : List Pt} {k : Nat} {e d : Pt} (h : ps[k + 1]? = some e) (hd : ps[k]? = some d) : okPt ps (k + 1) = (validPt e.x e.y && lessPt d.x d.y e.x e.y) := by
  unfold okPt; rw [h]; simp only [hd]
theorem shapeB_bad {ps : List Pt} {k : Nat} (hk : k < ps.length) (h : okPt ps k = false) : shapeB ps = false := by
  unfold shapeB; rw [allB_false hk h]; rfl
theorem shapeB_ok {ps : List Pt} (h : ∀ j, j < ps.length → okPt ps j = true) : shapeB ps = decide (1 ≤ ps.length ∧ ps.length ≤ 500) := by
  unfold shapeB; rw [allB_true h]; rfl
theorem shapeB_len {ps : List Pt} (h1 : ¬ (1 ≤ ps.length ∧ ps.length ≤ 500)) : shapeB ps = false := by
  unfold shapeB; rw [decide_eq_false h1]; simp
theorem shp_of {ps : List Pt} (h : shapeB ps = true) : Shp ps ∧ 1 ≤ ps.length ∧ ps.length ≤ 500 := by
  unfold shapeB at h
  simp only [Bool.and_eq_true, decide_eq_true_eq] at h
  obtain ⟨hf, h4⟩ := h
  have hpl : ∀ (k : Nat) (e : Pt), ps[k]? = some e → validPt e.x e.y = true := fun k e he => by
    have := allB_at hf (lt_of_get he)
    unfold okPt at this
    rw [he] at this
    simp only [Bool.and_eq_true] at this
    exact this.1
  have hstep : ∀ (k : Nat) (d e : Pt), ps[k]? = some d → ps[k + 1]? = some e → lessPt d.x d.y e.x e.y = true := fun k d e hd he => by
    have := allB_at hf (lt_of_get he)
    rw [okPt_eqS he hd] at this
    simp only [Bool.and_eq_true] at this
    exact this.2
  refine ⟨⟨fun k e he => ?_, ?_⟩, h4⟩
  · have := hpl k e he
    simp only [validPt, Bool.and_eq_true, inB_true] at this
    exact this
  · intro i j d e hij hd he
    induction j generalizing e with
    | zero => omega
    | succ j ih =>
      have hj : j < ps.length := by have := lt_of_get he; omega
      obtain ⟨c, hc⟩ : ∃ c, ps[j]? = some c := ⟨_, List.getElem?_eq_getElem hj⟩
      have h2 := hstep j c e hc he
      rcases Nat.lt_or_ge i j with h | h
      · have h1 := ih c h hc
        rw [lessPt_iff] at h1 h2 ⊢
        omega
      · obtain rfl : i = j := by omega
        rw [hd] at hc
        obtain rfl := Option.some.inj hc
        exact h2
theorem Shp.sortS {ps : List Pt} (h : Shp ps) : SortS ps := by
  unfold SortS
  rw [List.pairwise_iff_getElem]
  intro i j hi hj hij
  exact h.sorted i j _ _ hij (List.getElem?_eq_getElem hi) (List.getElem?_eq_getElem hj)
set_option maxHeartbeats 2000000 in
theorem ValidShape_any (A : Option Addr) (n c : Nat) (ps : List Pt) (w : World) (h : RdSl 2 RPt w A n ps) (hn : n ≤ 1073741824) :
    Calls Tryz.prog 70 #[.slice A n c] w fun e w' => e = .returned (.bool (shapeB ps)) ∧ Below w.heap.size w w' := by
  
  have hla := h.len
  go_enter Tryz.func70, Tryz.ntmps70
  go_wp2
  go_loopg [7] n (fun g i wr => ∃ k : Nat, k + g = n ∧ i = .int .i64 k ∧ Hid (∀ j, j < k → okPt ps j = true) ∧ Below w.heap.size w wr)
  case atStart => exact ⟨0, by omega, rfl, Lib.hid fun j hj => by omega, Below.refl _ _⟩
  case round =>
    obtain ⟨k, hk, rfl, hok, hbw⟩ := hrel
    have h' := h.below RPt.stable hbw
    have hszw := hbw.size
    by_cases hlt : k < n
    · obtain ⟨b, o, rfl, hb, hc⟩ := h'.ptr (by omega)
      obtain ⟨e, he⟩ := h.get hlt
      obtain ⟨c0, c1⟩ := hc k e he
      have hkz : k = 0 ∨ ∃ k', k = k' + 1 := by
        cases k with
        | zero => exact Or.inl rfl
        | succ k' => exact Or.inr ⟨k', rfl⟩
      rcases hkz with rfl | ⟨i, rfl⟩
      · have HK := Lib.hid (okPt_eq0 he)
        clear he hc h'
        simp only [Nat.zero_mul, Nat.add_zero] at c0 c1
        cases hv1 : validPt e.x e.y
        · go_wp2
          refine wp_region_ord [(0, .q), (1, .g), (2, .q), (3, .q), (4, .q), (5, .q), (6, .q), (7, .q), (8, .q), (9, .q), (10, .q), (11, .q), (12, .q), (13, .g), (14, .q), (15, .q), (16, .q)] (by kernel_rfl) (by kernel_rfl) ?_
          simp only [pick, List.filterMap_cons, List.filterMap_nil, List.getElem?_toArray, List.getElem?_cons_zero, List.getElem?_cons_succ, Option.map_some]
          repeat (first
            | ((with_reducible refine wpD_p (fun K hK => ?_)); go_simp; refine hK _ ?_; clear hK K)
            | ((with_reducible refine wpD_q (fun K hK => ?_)); go_simp; (first | refine hK _ ?_ | (go_bits; refine hK _ ?_) | (go_bits; go_simp; refine hK _ ?_)); clear hK K)
            | ((with_reducible refine wpD_g (fun K hK => ?_)); go_simp; refine hK _ _ ?_; clear hK K)
            | ((with_reducible refine wpD_g (fun K hK => ?_)); go_simp; refine ⟨Grew.of_alloc _, hK _ _ ?_⟩; clear hK K)
            | ((with_reducible refine wpD_g (fun K hK => ?_)); go_simp; go_at_call 77; refine (ValidPoint_any _ _ _).mono ?_; rintro e w1 ⟨rfl, hb1⟩; refine ⟨_, rfl, hb1, hK _ _ ?_⟩; clear hK K; obtain ⟨chb1, fhb1, shb1, thb1⟩ := bcell hb1; (try have bhb10 := shb1 (wr.heap.size) (by go_simp)); (try have bhb11 := shb1 (b) (by go_simp)))
            | ((with_reducible refine wpD_g (fun K hK => ?_)); go_simp; go_at_call 78; refine (LessPoint_any _ _ _ _ _).mono ?_; rintro e w2 ⟨rfl, hb2⟩; refine ⟨_, rfl, hb2, hK _ _ ?_⟩; clear hK K; obtain ⟨chb2, fhb2, shb2, thb2⟩ := bcell hb2; (try have bhb20 := shb2 (wr.heap.size) (by go_simp)); (try have bhb21 := shb2 (b) (by go_simp))))
          with_reducible refine wpD_nil ?_
          go_wp2
          go_ret
          exact ⟨ret_bool (shapeB_bad (k := 0) (by omega) (by rw [HK.out, hv1])).symm, by exact bel_⟩
        · go_wp2
          refine wp_region_ord [(0, .q), (1, .g), (2, .q), (3, .q), (4, .q), (5, .q), (6, .q), (7, .q), (8, .q), (9, .q), (10, .q), (11, .q), (12, .q), (13, .g), (14, .q), (15, .q), (16, .q)] (by kernel_rfl) (by kernel_rfl) ?_
          simp only [pick, List.filterMap_cons, List.filterMap_nil, List.getElem?_toArray, List.getElem?_cons_zero, List.getElem?_cons_succ, Option.map_some]
          repeat (first
            | ((with_reducible refine wpD_p (fun K hK => ?_)); go_simp; refine hK _ ?_; clear hK K)
            | ((with_reducible refine wpD_q (fun K hK => ?_)); go_simp; (first | refine hK _ ?_ | (go_bits; refine hK _ ?_) | (go_bits; go_simp; refine hK _ ?_)); clear hK K)
            | ((with_reducible refine wpD_g (fun K hK => ?_)); go_simp; refine hK _ _ ?_; clear hK K)
            | ((with_reducible refine wpD_g (fun K hK => ?_)); go_simp; refine ⟨Grew.of_alloc _, hK _ _ ?_⟩; clear hK K)
            | ((with_reducible refine wpD_g (fun K hK => ?_)); go_simp; go_at_call 77; refine (ValidPoint_any _ _ _).mono ?_; rintro e w1 ⟨rfl, hb1⟩; refine ⟨_, rfl, hb1, hK _ _ ?_⟩; clear hK K; obtain ⟨chb1, fhb1, shb1, thb1⟩ := bcell hb1; (try have bhb10 := shb1 (wr.heap.size) (by go_simp)); (try have bhb11 := shb1 (b) (by go_simp)))
            | ((with_reducible refine wpD_g (fun K hK => ?_)); go_simp; go_at_call 78; refine (LessPoint_any _ _ _ _ _).mono ?_; rintro e w2 ⟨rfl, hb2⟩; refine ⟨_, rfl, hb2, hK _ _ ?_⟩; clear hK K; obtain ⟨chb2, fhb2, shb2, thb2⟩ := bcell hb2; (try have bhb20 := shb2 (wr.heap.size) (by go_simp)); (try have bhb21 := shb2 (b) (by go_simp))))
          with_reducible refine wpD_nil ?_
          go_wp2
          go_roundg (n - (0 + 1))
          case measure => omega
          case rel => exact ⟨0 + 1, by omega, by go_num, Lib.hid fun j hj => (by obtain rfl : j = 0 := by omega
                                                                                 rw [HK.out, hv1]), by exact bel_⟩
      · obtain ⟨d, hd⟩ := h.get (k := i) (by omega)
        obtain ⟨d0, d1⟩ := hc i d hd
        have HK := Lib.hid (okPt_eqS he hd)
        have hi : i < n := by omega
        have hpos : (0 : Int) < (i : Int) + 1 := by omega
        clear he hc h' hd
        cases hv1 : validPt e.x e.y
        · go_wp2
          refine wp_region_ord [(0, .q), (1, .g), (2, .q), (3, .q), (4, .q), (5, .q), (6, .q), (7, .q), (8, .q), (9, .q), (10, .q), (11, .q), (12, .q), (13, .g), (14, .q), (15, .q), (16, .q)] (by kernel_rfl) (by kernel_rfl) ?_
          simp only [pick, List.filterMap_cons, List.filterMap_nil, List.getElem?_toArray, List.getElem?_cons_zero, List.getElem?_cons_succ, Option.map_some]
          repeat (first
            | ((with_reducible refine wpD_p (fun K hK => ?_)); go_simp; refine hK _ ?_; clear hK K)
            | ((with_reducible refine wpD_q (fun K hK => ?_)); go_simp; (first | refine hK _ ?_ | (go_bits; refine hK _ ?_) | (go_bits; go_simp; refine hK _ ?_)); clear hK K)
            | ((with_reducible refine wpD_g (fun K hK => ?_)); go_simp; refine hK _ _ ?_; clear hK K)
            | ((with_reducible refine wpD_g (fun K hK => ?_)); go_simp; refine ⟨Grew.of_alloc _, hK _ _ ?_⟩; clear hK K)
            | ((with_reducible refine wpD_g (fun K hK => ?_)); go_simp; go_at_call 77; refine (ValidPoint_any _ _ _).mono ?_; rintro e w1 ⟨rfl, hb1⟩; refine ⟨_, rfl, hb1, hK _ _ ?_⟩; clear hK K; obtain ⟨chb1, fhb1, shb1, thb1⟩ := bcell hb1; (try have bhb10 := shb1 (wr.heap.size) (by go_simp)); (try have bhb11 := shb1 (b) (by go_simp)))
            | ((with_reducible refine wpD_g (fun K hK => ?_)); go_simp; go_at_call 78; refine (LessPoint_any _ _ _ _ _).mono ?_; rintro e w2 ⟨rfl, hb2⟩; refine ⟨_, rfl, hb2, hK _ _ ?_⟩; clear hK K; obtain ⟨chb2, fhb2, shb2, thb2⟩ := bcell hb2; (try have bhb20 := shb2 (wr.heap.size) (by go_simp)); (try have bhb21 := shb2 (b) (by go_simp))))
          with_reducible refine wpD_nil ?_
          go_wp2
          go_ret
          exact ⟨ret_bool (shapeB_bad (k := i + 1) (by omega) (by rw [HK.out, hv1]; rfl)).symm, by exact bel_⟩
        · cases hv3 : lessPt d.x d.y e.x e.y
          · go_wp2
            refine wp_region_ord [(0, .q), (1, .g), (2, .q), (3, .q), (4, .q), (5, .q), (6, .q), (7, .q), (8, .q), (9, .q), (10, .q), (11, .q), (12, .q), (13, .g), (14, .q), (15, .q), (16, .q)] (by kernel_rfl) (by kernel_rfl) ?_
            simp only [pick, List.filterMap_cons, List.filterMap_nil, List.getElem?_toArray, List.getElem?_cons_zero, List.getElem?_cons_succ, Option.map_some]
            repeat (first
              | ((with_reducible refine wpD_p (fun K hK => ?_)); go_simp; refine hK _ ?_; clear hK K)
              | ((with_reducible refine wpD_q (fun K hK => ?_)); go_simp; (first | refine hK _ ?_ | (go_bits; refine hK _ ?_) | (go_bits; go_simp; refine hK _ ?_)); clear hK K)
              | ((with_reducible refine wpD_g (fun K hK => ?_)); go_simp; refine hK _ _ ?_; clear hK K)
              | ((with_reducible refine wpD_g (fun K hK => ?_)); go_simp; refine ⟨Grew.of_alloc _, hK _ _ ?_⟩; clear hK K)
              | ((with_reducible refine wpD_g (fun K hK => ?_)); go_simp; go_at_call 77; refine (ValidPoint_any _ _ _).mono ?_; rintro e w1 ⟨rfl, hb1⟩; refine ⟨_, rfl, hb1, hK _ _ ?_⟩; clear hK K; obtain ⟨chb1, fhb1, shb1, thb1⟩ := bcell hb1; (try have bhb10 := shb1 (wr.heap.size) (by go_simp)); (try have bhb11 := shb1 (b) (by go_simp)))
              | ((with_reducible refine wpD_g (fun K hK => ?_)); go_simp; go_at_call 78; refine (LessPoint_any _ _ _ _ _).mono ?_; rintro e w2 ⟨rfl, hb2⟩; refine ⟨_, rfl, hb2, hK _ _ ?_⟩; clear hK K; obtain ⟨chb2, fhb2, shb2, thb2⟩ := bcell hb2; (try have bhb20 := shb2 (wr.heap.size) (by go_simp)); (try have bhb21 := shb2 (b) (by go_simp))))
            with_reducible refine wpD_nil ?_
            go_wp2
            go_ret
            exact ⟨ret_bool (shapeB_bad (k := i + 1) (by omega) (by rw [HK.out, hv1, hv3]; rfl)).symm, by exact bel_⟩
          · go_wp2
            refine wp_region_ord [(0, .q), (1, .g), (2, .q), (3, .q), (4, .q), (5, .q), (6, .q), (7, .q), (8, .q), (9, .q), (10, .q), (11, .q), (12, .q), (13, .g), (14, .q), (15, .q), (16, .q)] (by kernel_rfl) (by kernel_rfl) ?_
            simp only [pick, List.filterMap_cons, List.filterMap_nil, List.getElem?_toArray, List.getElem?_cons_zero, List.getElem?_cons_succ, Option.map_some]
            repeat (first
              | ((with_reducible refine wpD_p (fun K hK => ?_)); go_simp; refine hK _ ?_; clear hK K)
              | ((with_reducible refine wpD_q (fun K hK => ?_)); go_simp; (first | refine hK _ ?_ | (go_bits; refine hK _ ?_) | (go_bits; go_simp; refine hK _ ?_)); clear hK K)
              | ((with_reducible refine wpD_g (fun K hK => ?_)); go_simp; refine hK _ _ ?_; clear hK K)
              | ((with_reducible refine wpD_g (fun K hK => ?_)); go_simp; refine ⟨Grew.of_alloc _, hK _ _ ?_⟩; clear hK K)
              | ((with_reducible refine wpD_g (fun K hK => ?_)); go_simp; go_at_call 77; refine (ValidPoint_any _ _ _).mono ?_; rintro e w1 ⟨rfl, hb1⟩; refine ⟨_, rfl, hb1, hK _ _ ?_⟩; clear hK K; obtain ⟨chb1, fhb1, shb1, thb1⟩ := bcell hb1; (try have bhb10 := shb1 (wr.heap.size) (by go_simp)); (try have bhb11 := shb1 (b) (by go_simp)))
              | ((with_reducible refine wpD_g (fun K hK => ?_)); go_simp; go_at_call 78; refine (LessPoint_any _ _ _ _ _).mono ?_; rintro e w2 ⟨rfl, hb2⟩; refine ⟨_, rfl, hb2, hK _ _ ?_⟩; clear hK K; obtain ⟨chb2, fhb2, shb2, thb2⟩ := bcell hb2; (try have bhb20 := shb2 (wr.heap.size) (by go_simp)); (try have bhb21 := shb2 (b) (by go_simp))))
            with_reducible refine wpD_nil ?_
            go_wp2
            go_roundg (n - ((i + 1) + 1))
            case measure => omega
            case rel => exact ⟨(i + 1) + 1, by omega, by go_num, Lib.hid fun j hj => (by
              rcases Nat.lt_succ_iff_lt_or_eq.1 hj with hj | rfl
              · exact hok.out j hj
              · rw [HK.out, hv1, hv3]; rfl), by exact bel_⟩
    · obtain rfl : k = n := by omega
      have hd := Lib.hid (shapeB_ok (ps := ps) (by rw [hla]; exact hok.out))
      go_wp2_with (go_at_call 72; refine (within_any _ _ _ _).mono ?_; rintro e _ ⟨rfl, rfl⟩)
      go_ret
      refine ⟨ret_bool ?_, by exact bel_⟩
      rw [hd.out, hla, Bool.eq_iff_iff, inB_true, decide_eq_true_eq]
      omega
set_option maxHeartbeats 4000000 in
theorem l04Ok_any (A : Option Addr) (n c : Nat) (ps : List Pt) (w : World) (h : RdSl 2 RPt w A n ps) (hn : n ≤ 1073741824) :
    Calls Tryz.prog 45 #[.slice A n c] w fun e w' => e = .returned (.bool (shapeB ps)) ∧ Below w.heap.size w w' := by
  
  have hla := h.len
  by_cases hz0 : n < 1
  · go_enter Tryz.func45, Tryz.ntmps45
    go_wp2
    go_ret
    exact ⟨ret_bool (shapeB_len (by omega)).symm, by exact bel_⟩
  by_cases hz1 : 500 < n
  · go_enter Tryz.func45, Tryz.ntmps45
    go_wp2
    go_ret
    exact ⟨ret_bool (shapeB_len (by omega)).symm, by exact bel_⟩
  go_enter Tryz.func45, Tryz.ntmps45
  go_wp2
  go_loopg [3] n (fun r x wr => ∃ k : Nat, k + r = n ∧ x = .int .i64 k ∧ Hid (∀ j, j < k → okPt ps j = true) ∧ Below w.heap.size w wr)
  case atStart => exact ⟨0, by omega, rfl, Lib.hid fun j hj => by omega, by exact bel_⟩
  case round =>
    obtain ⟨k, hk, rfl, hok, hbw⟩ := hrel
    have h' := h.below RPt.stable hbw
    have hszw := hbw.size
    by_cases hlt : k < n
    · obtain ⟨b, o, rfl, hb, hc⟩ := h'.ptr (by omega)
      obtain ⟨e, he⟩ := h.get hlt
      obtain ⟨c0, c1⟩ := hc k e he
      have hkz : k = 0 ∨ ∃ k', k = k' + 1 := by
        cases k with
        | zero => exact Or.inl rfl
        | succ k' => exact Or.inr ⟨k', rfl⟩
      rcases hkz with rfl | ⟨i, rfl⟩
      · have HK := Lib.hid (okPt_eq0 he)
        clear he hc h'
        simp only [Nat.zero_mul, Nat.add_zero] at c0 c1
        cases hv1 : validPt e.x e.y
        · go_wp2
          refine wp_region_ord [(0, .q), (1, .q), (2, .q), (3, .q), (4, .g), (5, .q), (6, .q), (7, .q), (8, .q), (9, .q), (10, .q), (11, .q), (12, .q), (13, .q), (14, .q), (15, .q), (16, .q), (17, .q), (18, .q), (19, .g), (20, .q), (21, .q), (22, .q)] (by kernel_rfl) (by kernel_rfl) ?_
          simp only [pick, List.filterMap_cons, List.filterMap_nil, List.getElem?_toArray, List.getElem?_cons_zero, List.getElem?_cons_succ, Option.map_some]
          repeat (first
            | ((with_reducible refine wpD_p (fun K hK => ?_)); go_simp; refine hK _ ?_; clear hK K)
            | ((with_reducible refine wpD_q (fun K hK => ?_)); go_simp; (first | refine hK _ ?_ | (go_bits; refine hK _ ?_) | (go_bits; go_simp; refine hK _ ?_)); clear hK K)
            | ((with_reducible refine wpD_g (fun K hK => ?_)); go_simp; refine hK _ _ ?_; clear hK K)
            | ((with_reducible refine wpD_g (fun K hK => ?_)); go_simp; refine ⟨Grew.of_alloc _, hK _ _ ?_⟩; clear hK K)
            | ((with_reducible refine wpD_g (fun K hK => ?_)); go_simp; go_at_call 66; refine (l01Point_any _ _ _).mono ?_; rintro e w1 ⟨rfl, hb1⟩; refine ⟨_, rfl, hb1, hK _ _ ?_⟩; clear hK K; obtain ⟨chb1, fhb1, shb1, thb1⟩ := bcell hb1; (try have bhb10 := shb1 (b) (by go_simp)))
            | ((with_reducible refine wpD_g (fun K hK => ?_)); go_simp; go_at_call 67; refine (sLessPoint_any _ _ _ _ _).mono ?_; rintro e w2 ⟨rfl, hb2⟩; refine ⟨_, rfl, hb2, hK _ _ ?_⟩; clear hK K; obtain ⟨chb2, fhb2, shb2, thb2⟩ := bcell hb2; (try have bhb20 := shb2 (b) (by go_simp))))
          with_reducible refine wpD_nil ?_
          go_wp2
          go_ret
          exact ⟨ret_bool (shapeB_bad (k := 0) (by omega) (by rw [HK.out, hv1])).symm, by exact bel_⟩
        · go_wp2
          refine wp_region_ord [(0, .q), (1, .q), (2, .q), (3, .q), (4, .g), (5, .q), (6, .q), (7, .q), (8, .q), (9, .q), (10, .q), (11, .q), (12, .q), (13, .q), (14, .q), (15, .q), (16, .q), (17, .q), (18, .q), (19, .g), (20, .q), (21, .q), (22, .q)] (by kernel_rfl) (by kernel_rfl) ?_
          simp only [pick, List.filterMap_cons, List.filterMap_nil, List.getElem?_toArray, List.getElem?_cons_zero, List.getElem?_cons_succ, Option.map_some]
          repeat (first
            | ((with_reducible refine wpD_p (fun K hK => ?_)); go_simp; refine hK _ ?_; clear hK K)
            | ((with_reducible refine wpD_q (fun K hK => ?_)); go_simp; (first | refine hK _ ?_ | (go_bits; refine hK _ ?_) | (go_bits; go_simp; refine hK _ ?_)); clear hK K)
            | ((with_reducible refine wpD_g (fun K hK => ?_)); go_simp; refine hK _ _ ?_; clear hK K)
            | ((with_reducible refine wpD_g (fun K hK => ?_)); go_simp; refine ⟨Grew.of_alloc _, hK _ _ ?_⟩; clear hK K)
            | ((with_reducible refine wpD_g (fun K hK => ?_)); go_simp; go_at_call 66; refine (l01Point_any _ _ _).mono ?_; rintro e w1 ⟨rfl, hb1⟩; refine ⟨_, rfl, hb1, hK _ _ ?_⟩; clear hK K; obtain ⟨chb1, fhb1, shb1, thb1⟩ := bcell hb1; (try have bhb10 := shb1 (b) (by go_simp)))
            | ((with_reducible refine wpD_g (fun K hK => ?_)); go_simp; go_at_call 67; refine (sLessPoint_any _ _ _ _ _).mono ?_; rintro e w2 ⟨rfl, hb2⟩; refine ⟨_, rfl, hb2, hK _ _ ?_⟩; clear hK K; obtain ⟨chb2, fhb2, shb2, thb2⟩ := bcell hb2; (try have bhb20 := shb2 (b) (by go_simp))))
          with_reducible refine wpD_nil ?_
          go_wp2
          go_roundg (n - (0 + 1))
          case measure => omega
          case rel => exact ⟨0 + 1, by omega, by go_num, Lib.hid fun j hj => (by obtain rfl : j = 0 := by omega
                                                                                 rw [HK.out, hv1]), by exact bel_⟩
      · obtain ⟨d, hd⟩ := h.get (k := i) (by omega)
        obtain ⟨d0, d1⟩ := hc i d hd
        have HK := Lib.hid (okPt_eqS he hd)
        have hi : i < n := by omega
        have hpos : (0 : Int) < (i : Int) + 1 := by omega
        have hltI : ((i : Int) + 1) < (n : Int) := by omega
        have h0I : 0 ≤ ((i : Int) + 1) := by omega
        clear he hc h' hd
        cases hv1 : validPt e.x e.y
        · go_wp2
          refine wp_region_ord [(0, .q), (1, .q), (2, .q), (3, .q), (4, .g), (5, .q), (6, .q), (7, .q), (8, .q), (9, .q), (10, .q), (11, .q), (12, .q), (13, .q), (14, .q), (15, .q), (16, .q), (17, .q), (18, .q), (19, .g), (20, .q), (21, .q), (22, .q)] (by kernel_rfl) (by kernel_rfl) ?_
          simp only [pick, List.filterMap_cons, List.filterMap_nil, List.getElem?_toArray, List.getElem?_cons_zero, List.getElem?_cons_succ, Option.map_some]
          repeat (first
            | ((with_reducible refine wpD_p (fun K hK => ?_)); go_simp; refine hK _ ?_; clear hK K)
            | ((with_reducible refine wpD_q (fun K hK => ?_)); go_simp; (first | refine hK _ ?_ | (go_bits; refine hK _ ?_) | (go_bits; go_simp; refine hK _ ?_)); clear hK K)
            | ((with_reducible refine wpD_g (fun K hK => ?_)); go_simp; refine hK _ _ ?_; clear hK K)
            | ((with_reducible refine wpD_g (fun K hK => ?_)); go_simp; refine ⟨Grew.of_alloc _, hK _ _ ?_⟩; clear hK K)
            | ((with_reducible refine wpD_g (fun K hK => ?_)); go_simp; go_at_call 66; refine (l01Point_any _ _ _).mono ?_; rintro e w1 ⟨rfl, hb1⟩; refine ⟨_, rfl, hb1, hK _ _ ?_⟩; clear hK K; obtain ⟨chb1, fhb1, shb1, thb1⟩ := bcell hb1; (try have bhb10 := shb1 (b) (by go_simp)))
            | ((with_reducible refine wpD_g (fun K hK => ?_)); go_simp; go_at_call 67; refine (sLessPoint_any _ _ _ _ _).mono ?_; rintro e w2 ⟨rfl, hb2⟩; refine ⟨_, rfl, hb2, hK _ _ ?_⟩; clear hK K; obtain ⟨chb2, fhb2, shb2, thb2⟩ := bcell hb2; (try have bhb20 := shb2 (b) (by go_simp))))
          with_reducible refine wpD_nil ?_
          go_wp2
          go_ret
          exact ⟨ret_bool (shapeB_bad (k := i + 1) (by omega) (by rw [HK.out, hv1]; rfl)).symm, by exact bel_⟩
        · cases hv3 : lessPt d.x d.y e.x e.y
          · go_wp2
            refine wp_region_ord [(0, .q), (1, .q), (2, .q), (3, .q), (4, .g), (5, .q), (6, .q), (7, .q), (8, .q), (9, .q), (10, .q), (11, .q), (12, .q), (13, .q), (14, .q), (15, .q), (16, .q), (17, .q), (18, .q), (19, .g), (20, .q), (21, .q), (22, .q)] (by kernel_rfl) (by kernel_rfl) ?_
            simp only [pick, List.filterMap_cons, List.filterMap_nil, List.getElem?_toArray, List.getElem?_cons_zero, List.getElem?_cons_succ, Option.map_some]
            repeat (first
              | ((with_reducible refine wpD_p (fun K hK => ?_)); go_simp; refine hK _ ?_; clear hK K)
              | ((with_reducible refine wpD_q (fun K hK => ?_)); go_simp; (first | refine hK _ ?_ | (go_bits; refine hK _ ?_) | (go_bits; go_simp; refine hK _ ?_)); clear hK K)
              | ((with_reducible refine wpD_g (fun K hK => ?_)); go_simp; refine hK _ _ ?_; clear hK K)
              | ((with_reducible refine wpD_g (fun K hK => ?_)); go_simp; refine ⟨Grew.of_alloc _, hK _ _ ?_⟩; clear hK K)
              | ((with_reducible refine wpD_g (fun K hK => ?_)); go_simp; go_at_call 66; refine (l01Point_any _ _ _).mono ?_; rintro e w1 ⟨rfl, hb1⟩; refine ⟨_, rfl, hb1, hK _ _ ?_⟩; clear hK K; obtain ⟨chb1, fhb1, shb1, thb1⟩ := bcell hb1; (try have bhb10 := shb1 (b) (by go_simp)); have q0 := (hb1.cell (p := ⟨b, o + i * 2, none⟩) hb).trans d0; have q1 := (hb1.cell (p := ⟨b, o + i * 2 + 1, none⟩) hb).trans d1; have q2 := (hb1.cell (p := ⟨b, o + (i + 1) * 2, none⟩) hb).trans c0; have q3 := (hb1.cell (p := ⟨b, o + (i + 1) * 2 + 1, none⟩) hb).trans c1)
              | ((with_reducible refine wpD_g (fun K hK => ?_)); go_simp; go_at_call 67; refine (sLessPoint_any _ _ _ _ _).mono ?_; rintro e w2 ⟨rfl, hb2⟩; refine ⟨_, rfl, hb2, hK _ _ ?_⟩; clear hK K; obtain ⟨chb2, fhb2, shb2, thb2⟩ := bcell hb2; (try have bhb20 := shb2 (b) (by go_simp))))
            with_reducible refine wpD_nil ?_
            go_wp2
            go_ret
            exact ⟨ret_bool (shapeB_bad (k := i + 1) (by omega) (by rw [HK.out, hv1, hv3]; rfl)).symm, by exact bel_⟩
          · go_wp2
            refine wp_region_ord [(0, .q), (1, .q), (2, .q), (3, .q), (4, .g), (5, .q), (6, .q), (7, .q), (8, .q), (9, .q), (10, .q), (11, .q), (12, .q), (13, .q), (14, .q), (15, .q), (16, .q), (17, .q), (18, .q), (19, .g), (20, .q), (21, .q), (22, .q)] (by kernel_rfl) (by kernel_rfl) ?_
            simp only [pick, List.filterMap_cons, List.filterMap_nil, List.getElem?_toArray, List.getElem?_cons_zero, List.getElem?_cons_succ, Option.map_some]
            repeat (first
              | ((with_reducible refine wpD_p (fun K hK => ?_)); go_simp; refine hK _ ?_; clear hK K)
              | ((with_reducible refine wpD_q (fun K hK => ?_)); go_simp; (first | refine hK _ ?_ | (go_bits; refine hK _ ?_) | (go_bits; go_simp; refine hK _ ?_)); clear hK K)
              | ((with_reducible refine wpD_g (fun K hK => ?_)); go_simp; refine hK _ _ ?_; clear hK K)
              | ((with_reducible refine wpD_g (fun K hK => ?_)); go_simp; refine ⟨Grew.of_alloc _, hK _ _ ?_⟩; clear hK K)
              | ((with_reducible refine wpD_g (fun K hK => ?_)); go_simp; go_at_call 66; refine (l01Point_any _ _ _).mono ?_; rintro e w1 ⟨rfl, hb1⟩; refine ⟨_, rfl, hb1, hK _ _ ?_⟩; clear hK K; obtain ⟨chb1, fhb1, shb1, thb1⟩ := bcell hb1; (try have bhb10 := shb1 (b) (by go_simp)); have q0 := (hb1.cell (p := ⟨b, o + i * 2, none⟩) hb).trans d0; have q1 := (hb1.cell (p := ⟨b, o + i * 2 + 1, none⟩) hb).trans d1; have q2 := (hb1.cell (p := ⟨b, o + (i + 1) * 2, none⟩) hb).trans c0; have q3 := (hb1.cell (p := ⟨b, o + (i + 1) * 2 + 1, none⟩) hb).trans c1)
              | ((with_reducible refine wpD_g (fun K hK => ?_)); go_simp; go_at_call 67; refine (sLessPoint_any _ _ _ _ _).mono ?_; rintro e w2 ⟨rfl, hb2⟩; refine ⟨_, rfl, hb2, hK _ _ ?_⟩; clear hK K; obtain ⟨chb2, fhb2, shb2, thb2⟩ := bcell hb2; (try have bhb20 := shb2 (b) (by go_simp))))
            with_reducible refine wpD_nil ?_
            go_wp2
            go_roundg (n - ((i + 1) + 1))
            case measure => omega
            case rel => exact ⟨(i + 1) + 1, by omega, by go_num, Lib.hid fun j hj => (by
              rcases Nat.lt_succ_iff_lt_or_eq.1 hj with hj | rfl
              · exact hok.out j hj
              · rw [HK.out, hv1, hv3]; rfl), by exact bel_⟩
    · obtain rfl : k = n := by omega
      have hd := Lib.hid (shapeB_ok (ps := ps) (by rw [hla]; exact hok.out))
      go_wp2
      go_ret
      refine ⟨ret_bool ?_, by exact bel_⟩
      rw [hd.out, hla]
      exact (decide_eq_true (by omega)).symm
/-- one connected part -/
def oneB (ps : List Pt) : Bool := decide ((allP (nbP ps) ps.length ps.length).2.length = 1)
theorem oneGroup_any (A : Option Addr) (n c : Nat) (ps : List Pt) (w : World) (h : RdSl 2 RPt w A n ps) (hS : Shp ps) (hn : n ≤ 100000) :
    Calls Tryz.prog 71 #[.slice A n c] w fun e w' => e = .returned (.bool (oneB ps)) ∧ Below w.heap.size w w' := by
  
  have hla := Lib.hid h.len
  go_enter Tryz.func71, Tryz.ntmps71
  go_wp2_with fail
  refine (connected_any A n c ps _ h hS hn).mono ?_
  rintro e w1 ⟨v, us, rfl, hO, hb1⟩
  have hul := hO.len
  rw [show (partsV ps (allP (nbP ps) n n).2).length = (allP (nbP ps) n n).2.length by simp [partsV]] at hul
  obtain ⟨A1, c1, rfl⟩ := hO.form hul
  obtain ⟨m, hm⟩ : ∃ m, (allP (nbP ps) n n).2.length = m := ⟨_, rfl⟩
  have hml : m ≤ n := by rw [← hm]; exact allP_count _ _ _
  rw [hm]
  have hd : oneB ps = decide (m = 1) := by unfold oneB; rw [hla.out, hm]
  have hdH := Lib.hid hd
  clear hO hul hm hd
  go_wp2
  go_ret
  refine ⟨ret_bool ?_, by exact bel_⟩
  rw [hdH.out, Bool.eq_iff_iff]
  simp
  try omega
theorem IsConnected_any (A : Option Addr) (n c : Nat) (ps : List Pt) (w : World) (h : RdSl 2 RPt w A n ps) (hn : n ≤ 1073741824) :
    Calls Tryz.prog 53 #[.slice A n c] w fun e w' => e = .returned (.bool (shapeB ps && oneB ps)) ∧ Below w.heap.size w w' := by
  
  have hH := Lib.hid h
  have hl := h.len
  clear h
  cases hs : shapeB ps
  · have hsH := Lib.hid hs
    clear hs
    go_enter Tryz.func53, Tryz.ntmps53
    go_wp2_with (first
      | (go_at_call 70; refine (ValidShape_any A n c ps _ hH.out hn).mono ?_; rw [hsH.out]; rintro e w1 ⟨rfl, hb1⟩; obtain ⟨c1, f1, s1, t1⟩ := bcell hb1))
    go_ret
    exact ⟨rfl, by exact bel_⟩
  · obtain ⟨hS, h1, h5⟩ := shp_of hs
    have hsH := Lib.hid hs
    clear hs
    go_enter Tryz.func53, Tryz.ntmps53
    go_wp2_with (first
      | (go_at_call 70; refine (ValidShape_any A n c ps _ hH.out hn).mono ?_; rw [hsH.out]; rintro e w1 ⟨rfl, hb1⟩; obtain ⟨c1, f1, s1, t1⟩ := bcell hb1)
      | (go_at_call 71; refine (oneGroup_any A n c ps _ (hH.out.below RPt.stable (by exact bel_)) hS (by omega)).mono ?_; rintro e w2 ⟨rfl, hb2⟩; obtain ⟨chb2, fhb2, shb2, thb2⟩ := bcell hb2))
    go_ret
    exact ⟨rfl, by exact bel_⟩
end Go.Proofs.YtdcndhiidjgmaaaGreatDoor
/- Walks: the reference looks for a point in an assembly and in a shape, by places. -/


namespace Go.Proofs.YtdcndhiidjgmaaaGreatDoor
open Go.RowKit Go.Shelf
attribute [local go_sem] BelowBy.cell BelowBy.cell_drew stillUpon givesUpon

def plPt (e : Pl) : Pt := ⟨e.x, e.y⟩
/-- the place of a point, or -1 -/
def idxI (ps : List Pt) (x y : Int) : Int := match idxP ps x y with
  | some v => (v : Int)
  | none => -1
theorem idxI_yes {ps : List Pt} (hS : Shp ps) {i : Nat} {e : Pt} (he : ps[i]? = some e) : (i : Int) = idxI ps e.x e.y := by
  unfold idxI; rw [hS.idx he]
theorem idxI_no {ps : List Pt} {x y : Int} {i : Nat} (h1 : ∀ (k : Nat) (d : Pt), k < i → ps[k]? = some d → lessPt d.x d.y x y = true) (h2 : ∀ (k : Nat) (d : Pt), i ≤ k → ps[k]? = some d → lessPt d.x d.y x y = false) (hS : Shp ps)
    (h3 : ∀ (d : Pt), ps[i]? = some d → ¬ (d.x = x ∧ d.y = y)) : (-1 : Int) = idxI ps x y := by
  unfold idxI
  cases hi : idxP ps x y with
  | none => rfl
  | some v =>
    exfalso
    have hv := idxP_some hi
    rcases Nat.lt_trichotomy v i with h | h | h
    · have := h1 v _ h hv
      rw [lessPt_irrefl] at this
      cases this
    · subst h
      exact h3 _ hv ⟨rfl, rfl⟩
    · obtain ⟨d, hd⟩ : ∃ d, ps[i]? = some d := ⟨_, List.getElem?_eq_getElem (by have := lt_of_get hv; omega)⟩
      have h4 := hS.sorted i v d _ h hd hv
      have h5 := h2 i d (Nat.le_refl _) hd
      simp only at h4
      rw [h5] at h4
      cases h4
theorem Shp.less_of_less {ps : List Pt} (hS : Shp ps) {x y : Int} {m k : Nat} {d e : Pt} (he : ps[m]? = some e) (hd : ps[k]? = some d) (h : lessPt e.x e.y x y = true) (hk : k ≤ m) : lessPt d.x d.y x y = true := by
  rcases Nat.lt_or_ge k m with hmk | hmk
  · exact lessPt_trans (hS.sorted k m d e hmk hd he) h
  · obtain rfl : k = m := by omega
    rw [he] at hd
    obtain rfl := Option.some.inj hd
    exact h
theorem Shp.not_less {ps : List Pt} (hS : Shp ps) {x y : Int} {m k : Nat} {d e : Pt} (he : ps[m]? = some e) (hd : ps[k]? = some d) (h : lessPt e.x e.y x y = false) (hk : m ≤ k) : lessPt d.x d.y x y = false := by
  rcases Nat.lt_or_ge m k with hmk | hmk
  · cases hh : lessPt d.x d.y x y with
    | false => rfl
    | true => rw [← h]; exact (lessPt_trans (hS.sorted m k e d hmk he hd) hh).symm
  · obtain rfl : m = k := by omega
    rw [he] at hd
    obtain rfl := Option.some.inj hd
    exact h
set_option maxHeartbeats 2000000 in
theorem l22Place_any (A : Option Addr) (n c : Nat) (ps : List Pt) (x y : Int) (w : World) (h2 : RdSl 2 RPt w A n ps) (hS : Shp ps) (h5 : n ≤ 100000) :
    Calls Tryz.prog 50 #[.slice A n c, .agg #[.int .i64 x, .int .i64 y]] w fun e w' => e = .returned (.int .i64 (idxI ps x y)) ∧ Below w.heap.size w w' := by
  have hl := h2.len
  
  go_enter Tryz.func50, Tryz.ntmps50
  go_wp2
  go_loopg [5, 6] n (fun g lo hi wr => ∃ i j : Nat, j - i ≤ g ∧ i ≤ j ∧ j ≤ n ∧ lo = .int .i64 i ∧ hi = .int .i64 j ∧ Hid (∀ (k : Nat) (d : Pt), k < i → ps[k]? = some d → lessPt d.x d.y x y = true) ∧ Hid (∀ (k : Nat) (d : Pt), j ≤ k → ps[k]? = some d → lessPt d.x d.y x y = false) ∧
    Below w.heap.size w wr ∧ wr.cell? ⟨w.heap.size, 0, none⟩ = some (.int .i64 x) ∧ wr.cell? ⟨w.heap.size, 1, none⟩ = some (.int .i64 y) ∧ w.heap.size < wr.heap.size)
  case atStart => exact ⟨0, n, by omega, by omega, by omega, rfl, rfl, Lib.hid fun k d hk => by omega, Lib.hid fun k d hk hd => by have := lt_of_get hd; omega, by exact bel_, by go_simp, by go_simp, by simp⟩
  case round =>
    obtain ⟨i, j, hg, hij, hjn, rfl, rfl, hlo, hhi, hbw, hx0, hx1, hsz⟩ := hrel
    have g2 := h2.below RPt.stable hbw
    by_cases hlt2 : i < j
    · obtain ⟨b, o, rfl, hb, hc⟩ := g2.ptr (by omega)
      obtain ⟨m, hm⟩ : ∃ m : Nat, m = (i + j) / 2 := ⟨_, rfl⟩
      have hm1 : i ≤ m := by omega
      have hm2 : m < j := by omega
      have hmi : ((i : Int) + (j : Int)) / 2 = (m : Int) := by omega
      have hmn : m < n := by omega
      clear hm
      obtain ⟨e, he⟩ := g2.get (k := m) (by omega)
      obtain ⟨c0, c1⟩ := hc m e he
      have he := Lib.hid he
      clear hc g2
      cases hl4 : lessPt e.x e.y x y
      · go_wp2
        refine wp_region_ord [(0, .q), (1, .q), (2, .q), (3, .q), (4, .q), (5, .g)] (by kernel_rfl) (by kernel_rfl) ?_
        simp only [pick, List.filterMap_cons, List.filterMap_nil, List.getElem?_toArray, List.getElem?_cons_zero, List.getElem?_cons_succ, Option.map_some]
        repeat (first
          | ((with_reducible refine wpD_p (fun K hK => ?_)); go_simp; refine hK _ ?_; clear hK K)
          | ((with_reducible refine wpD_q (fun K hK => ?_)); go_simp; (first | refine hK _ ?_ | (go_bits; refine hK _ ?_) | (go_bits; go_simp; refine hK _ ?_)); clear hK K)
          | ((with_reducible refine wpD_g (fun K hK => ?_)); go_simp; refine hK _ _ ?_; clear hK K)
          | ((with_reducible refine wpD_g (fun K hK => ?_)); go_simp; refine ⟨Grew.of_alloc _, hK _ _ ?_⟩; clear hK K)
          | ((with_reducible refine wpD_g (fun K hK => ?_)); go_simp; go_at_call 67; refine (sLessPoint_at hl4).mono ?_; rintro e w1 ⟨rfl, hb1⟩; refine ⟨_, rfl, hb1, hK _ _ ?_⟩; clear hK K; obtain ⟨chb1, fhb1, shb1, thb1⟩ := bcell hb1))
        with_reducible refine wpD_nil ?_
        go_wp2
        go_roundg (m - i)
        case measure => omega
        case rel => exact ⟨i, m, by omega, hm1, by omega, rfl, rfl, hlo, Lib.hid fun k d hk hd => hS.not_less he.out hd hl4 hk, by exact bel_, (hb1.cell (p := ⟨w.heap.size, 0, none⟩) hsz).trans hx0, (hb1.cell (p := ⟨w.heap.size, 1, none⟩) hsz).trans hx1, Nat.lt_of_lt_of_le hsz hb1.size⟩
      · go_wp2
        refine wp_region_ord [(0, .q), (1, .q), (2, .q), (3, .q), (4, .q), (5, .g)] (by kernel_rfl) (by kernel_rfl) ?_
        simp only [pick, List.filterMap_cons, List.filterMap_nil, List.getElem?_toArray, List.getElem?_cons_zero, List.getElem?_cons_succ, Option.map_some]
        repeat (first
          | ((with_reducible refine wpD_p (fun K hK => ?_)); go_simp; refine hK _ ?_; clear hK K)
          | ((with_reducible refine wpD_q (fun K hK => ?_)); go_simp; (first | refine hK _ ?_ | (go_bits; refine hK _ ?_) | (go_bits; go_simp; refine hK _ ?_)); clear hK K)
          | ((with_reducible refine wpD_g (fun K hK => ?_)); go_simp; refine hK _ _ ?_; clear hK K)
          | ((with_reducible refine wpD_g (fun K hK => ?_)); go_simp; refine ⟨Grew.of_alloc _, hK _ _ ?_⟩; clear hK K)
          | ((with_reducible refine wpD_g (fun K hK => ?_)); go_simp; go_at_call 67; refine (sLessPoint_at hl4).mono ?_; rintro e w1 ⟨rfl, hb1⟩; refine ⟨_, rfl, hb1, hK _ _ ?_⟩; clear hK K; obtain ⟨chb1, fhb1, shb1, thb1⟩ := bcell hb1))
        with_reducible refine wpD_nil ?_
        go_wp2
        go_roundg (j - (m + 1))
        case measure => omega
        case rel => exact ⟨m + 1, j, by omega, hm2, by omega, by go_num, rfl, Lib.hid fun k d hk hd => hS.less_of_less he.out hd hl4 (by omega), hhi, by exact bel_, (hb1.cell (p := ⟨w.heap.size, 0, none⟩) hsz).trans hx0, (hb1.cell (p := ⟨w.heap.size, 1, none⟩) hsz).trans hx1, Nat.lt_of_lt_of_le hsz hb1.size⟩
    · obtain rfl : i = j := by omega
      by_cases hin : i < n
      · obtain ⟨b, o, rfl, hb, hc⟩ := g2.ptr (by omega)
        obtain ⟨e, he⟩ := g2.get (k := i) (by omega)
        obtain ⟨c0, c1⟩ := hc i e he
        have he := Lib.hid he
        clear hc g2
        by_cases hxy : e.x = x ∧ e.y = y
        · obtain ⟨hx, hy⟩ := hxy
          subst hx hy
          have hP := Lib.hid (idxI_yes hS he.out)
          go_wp2
          refine wp_region_ord [(0, .q), (1, .q), (2, .q), (3, .q), (4, .q), (5, .q), (6, .q), (7, .q), (8, .q), (9, .q), (10, .q), (11, .q)] (by kernel_rfl) (by kernel_rfl) ?_
          simp only [pick, List.filterMap_cons, List.filterMap_nil, List.getElem?_toArray, List.getElem?_cons_zero, List.getElem?_cons_succ, Option.map_some]
          repeat (first
            | ((with_reducible refine wpD_p (fun K hK => ?_)); go_simp; refine hK _ ?_; clear hK K)
            | ((with_reducible refine wpD_q (fun K hK => ?_)); go_simp; (first | refine hK _ ?_ | (go_bits; refine hK _ ?_) | (go_bits; go_simp; refine hK _ ?_)); clear hK K)
            | ((with_reducible refine wpD_g (fun K hK => ?_)); go_simp; refine hK _ _ ?_; clear hK K)
            | ((with_reducible refine wpD_g (fun K hK => ?_)); go_simp; refine ⟨Grew.of_alloc _, hK _ _ ?_⟩; clear hK K))
          with_reducible refine wpD_nil ?_
          go_wp2
          go_ret
          exact ⟨ret_int hP.out, by exact bel_⟩
        · have hP := Lib.hid (idxI_no hlo.out hhi.out hS (fun d hd => by rw [he.out] at hd; obtain rfl := Option.some.inj hd; exact hxy))
          by_cases hx : e.x = x
          · have hy : ¬ e.y = y := fun h => hxy ⟨hx, h⟩
            subst hx
            have hy' : (e.y == y) = false := by simpa using hy
            go_wp2
            refine wp_region_ord [(0, .q), (1, .q), (2, .q), (3, .q), (4, .q), (5, .q), (6, .q), (7, .q), (8, .q), (9, .q), (10, .q), (11, .q)] (by kernel_rfl) (by kernel_rfl) ?_
            simp only [pick, List.filterMap_cons, List.filterMap_nil, List.getElem?_toArray, List.getElem?_cons_zero, List.getElem?_cons_succ, Option.map_some]
            repeat (first
              | ((with_reducible refine wpD_p (fun K hK => ?_)); go_simp; refine hK _ ?_; clear hK K)
              | ((with_reducible refine wpD_q (fun K hK => ?_)); go_simp; (first | refine hK _ ?_ | (go_bits; refine hK _ ?_) | (go_bits; go_simp; refine hK _ ?_)); clear hK K)
              | ((with_reducible refine wpD_g (fun K hK => ?_)); go_simp; refine hK _ _ ?_; clear hK K)
              | ((with_reducible refine wpD_g (fun K hK => ?_)); go_simp; refine ⟨Grew.of_alloc _, hK _ _ ?_⟩; clear hK K))
            with_reducible refine wpD_nil ?_
            go_wp2
            go_ret
            exact ⟨ret_int hP.out, by exact bel_⟩
          · have hx' : (e.x == x) = false := by simpa using hx
            go_wp2
            refine wp_region_ord [(0, .q), (1, .q), (2, .q), (3, .q), (4, .q), (5, .q), (6, .q), (7, .q), (8, .q), (9, .q), (10, .q), (11, .q)] (by kernel_rfl) (by kernel_rfl) ?_
            simp only [pick, List.filterMap_cons, List.filterMap_nil, List.getElem?_toArray, List.getElem?_cons_zero, List.getElem?_cons_succ, Option.map_some]
            repeat (first
              | ((with_reducible refine wpD_p (fun K hK => ?_)); go_simp; refine hK _ ?_; clear hK K)
              | ((with_reducible refine wpD_q (fun K hK => ?_)); go_simp; (first | refine hK _ ?_ | (go_bits; refine hK _ ?_) | (go_bits; go_simp; refine hK _ ?_)); clear hK K)
              | ((with_reducible refine wpD_g (fun K hK => ?_)); go_simp; refine hK _ _ ?_; clear hK K)
              | ((with_reducible refine wpD_g (fun K hK => ?_)); go_simp; refine ⟨Grew.of_alloc _, hK _ _ ?_⟩; clear hK K))
            with_reducible refine wpD_nil ?_
            go_wp2
            go_ret
            exact ⟨ret_int hP.out, by exact bel_⟩
      · have hP := Lib.hid (idxI_no hlo.out hhi.out hS (fun d hd => by have := lt_of_get hd; omega))
        clear g2
        go_wp2
        refine wp_region_ord [(0, .q), (1, .q), (2, .q), (3, .q), (4, .q), (5, .q), (6, .q), (7, .q), (8, .q), (9, .q), (10, .q), (11, .q)] (by kernel_rfl) (by kernel_rfl) ?_
        simp only [pick, List.filterMap_cons, List.filterMap_nil, List.getElem?_toArray, List.getElem?_cons_zero, List.getElem?_cons_succ, Option.map_some]
        repeat (first
          | ((with_reducible refine wpD_p (fun K hK => ?_)); go_simp; refine hK _ ?_; clear hK K)
          | ((with_reducible refine wpD_q (fun K hK => ?_)); go_simp; (first | refine hK _ ?_ | (go_bits; refine hK _ ?_) | (go_bits; go_simp; refine hK _ ?_)); clear hK K)
          | ((with_reducible refine wpD_g (fun K hK => ?_)); go_simp; refine hK _ _ ?_; clear hK K)
          | ((with_reducible refine wpD_g (fun K hK => ?_)); go_simp; refine ⟨Grew.of_alloc _, hK _ _ ?_⟩; clear hK K))
        with_reducible refine wpD_nil ?_
        go_wp2
        go_ret
        exact ⟨ret_int hP.out, by exact bel_⟩
theorem plPt_get {xs : List Pl} {k : Nat} {e : Pl} (h : xs[k]? = some e) : (xs.map plPt)[k]? = some ⟨e.x, e.y⟩ := by
  rw [List.getElem?_map, h]; rfl
set_option maxHeartbeats 2000000 in
theorem l03IndexS_any {op : Nat} (p : Nat) (xs : List Pl) (x y : Int) (w : World) (ha : AsmAt w p op xs) (hS : Shp (xs.map plPt)) (h5 : xs.length ≤ 100000) :
    Calls Tryz.prog 76 #[.pointer (some ⟨p, op, none⟩), .agg #[.int .i64 x, .int .i64 y]] w fun e w' => e = .returned (.int .i64 (idxI (xs.map plPt) x y)) ∧ Below w.heap.size w w' := by
  obtain ⟨hlt, ⟨A, n, c, h1, h2⟩⟩ := id ha
  have hl := h2.len
  obtain ⟨ps, hps⟩ : ∃ ps, xs.map plPt = ps := ⟨_, rfl⟩
  have hget := Lib.hid (fun (k : Nat) (e : Pl) (h : xs[k]? = some e) => (hps ▸ plPt_get h : ps[k]? = some ⟨e.x, e.y⟩))
  have hlp : ps.length = n := by rw [← hps]; simpa using hl
  rw [hps] at hS ⊢
  clear hps
  
  go_enter Tryz.func76, Tryz.ntmps76
  go_wp2
  go_loopg [5, 6] n (fun g lo hi wr => ∃ i j : Nat, j - i ≤ g ∧ i ≤ j ∧ j ≤ n ∧ lo = .int .i64 i ∧ hi = .int .i64 j ∧ Hid (∀ (k : Nat) (d : Pt), k < i → ps[k]? = some d → lessPt d.x d.y x y = true) ∧ Hid (∀ (k : Nat) (d : Pt), j ≤ k → ps[k]? = some d → lessPt d.x d.y x y = false) ∧
    Below w.heap.size w wr ∧ wr.cell? ⟨w.heap.size, 0, none⟩ = some (.int .i64 x) ∧ wr.cell? ⟨w.heap.size, 1, none⟩ = some (.int .i64 y) ∧ w.heap.size < wr.heap.size)
  case atStart => exact ⟨0, n, by omega, by omega, by omega, rfl, rfl, Lib.hid fun k d hk => by omega, Lib.hid fun k d hk hd => by have := lt_of_get hd; omega, by exact bel_, by go_simp, by go_simp, by simp⟩
  case round =>
    obtain ⟨i, j, hg, hij, hjn, rfl, rfl, hlo, hhi, hbw, hx0, hx1, hsz⟩ := hrel
    obtain ⟨plt, ⟨A', n', c', g1, g2⟩⟩ := ha.below hbw
    obtain rfl : n' = n := by rw [← g2.len]; exact hl
    by_cases hlt2 : i < j
    · obtain ⟨b, o, rfl, hb, hc⟩ := g2.ptr (by omega)
      obtain ⟨m, hm⟩ : ∃ m : Nat, m = (i + j) / 2 := ⟨_, rfl⟩
      have hm1 : i ≤ m := by omega
      have hm2 : m < j := by omega
      have hmi : ((i : Int) + (j : Int)) / 2 = (m : Int) := by omega
      have hmn : m < n' := by omega
      clear hm
      obtain ⟨e, he0⟩ := g2.get (k := m) (by omega)
      obtain ⟨c0, c1, c2⟩ := hc m e he0
      have he := Lib.hid (hget.out m e he0)
      clear hc g2 he0
      cases hl4 : lessPt e.x e.y x y
      · go_wp2
        refine wp_region_ord [(0, .q), (1, .q), (2, .q), (3, .q), (4, .q), (5, .q), (6, .q), (7, .q), (8, .q), (9, .g)] (by kernel_rfl) (by kernel_rfl) ?_
        simp only [pick, List.filterMap_cons, List.filterMap_nil, List.getElem?_toArray, List.getElem?_cons_zero, List.getElem?_cons_succ, Option.map_some]
        repeat (first
          | ((with_reducible refine wpD_p (fun K hK => ?_)); go_simp; refine hK _ ?_; clear hK K)
          | ((with_reducible refine wpD_q (fun K hK => ?_)); go_simp; (first | refine hK _ ?_ | (go_bits; refine hK _ ?_) | (go_bits; go_simp; refine hK _ ?_)); clear hK K)
          | ((with_reducible refine wpD_g (fun K hK => ?_)); go_simp; refine hK _ _ ?_; clear hK K)
          | ((with_reducible refine wpD_g (fun K hK => ?_)); go_simp; refine ⟨Grew.of_alloc _, hK _ _ ?_⟩; clear hK K)
          | ((with_reducible refine wpD_g (fun K hK => ?_)); go_simp; go_at_call 67; refine (sLessPoint_at hl4).mono ?_; rintro e w1 ⟨rfl, hb1⟩; refine ⟨_, rfl, hb1, hK _ _ ?_⟩; clear hK K; obtain ⟨chb1, fhb1, shb1, thb1⟩ := bcell hb1))
        with_reducible refine wpD_nil ?_
        go_wp2
        go_roundg (m - i)
        case measure => omega
        case rel => exact ⟨i, m, by omega, hm1, by omega, rfl, rfl, hlo, Lib.hid fun k d hk hd => hS.not_less he.out hd hl4 hk, by exact bel_, (hb1.cell (p := ⟨w.heap.size, 0, none⟩) hsz).trans hx0, (hb1.cell (p := ⟨w.heap.size, 1, none⟩) hsz).trans hx1, Nat.lt_of_lt_of_le hsz hb1.size⟩
      · go_wp2
        refine wp_region_ord [(0, .q), (1, .q), (2, .q), (3, .q), (4, .q), (5, .q), (6, .q), (7, .q), (8, .q), (9, .g)] (by kernel_rfl) (by kernel_rfl) ?_
        simp only [pick, List.filterMap_cons, List.filterMap_nil, List.getElem?_toArray, List.getElem?_cons_zero, List.getElem?_cons_succ, Option.map_some]
        repeat (first
          | ((with_reducible refine wpD_p (fun K hK => ?_)); go_simp; refine hK _ ?_; clear hK K)
          | ((with_reducible refine wpD_q (fun K hK => ?_)); go_simp; (first | refine hK _ ?_ | (go_bits; refine hK _ ?_) | (go_bits; go_simp; refine hK _ ?_)); clear hK K)
          | ((with_reducible refine wpD_g (fun K hK => ?_)); go_simp; refine hK _ _ ?_; clear hK K)
          | ((with_reducible refine wpD_g (fun K hK => ?_)); go_simp; refine ⟨Grew.of_alloc _, hK _ _ ?_⟩; clear hK K)
          | ((with_reducible refine wpD_g (fun K hK => ?_)); go_simp; go_at_call 67; refine (sLessPoint_at hl4).mono ?_; rintro e w1 ⟨rfl, hb1⟩; refine ⟨_, rfl, hb1, hK _ _ ?_⟩; clear hK K; obtain ⟨chb1, fhb1, shb1, thb1⟩ := bcell hb1))
        with_reducible refine wpD_nil ?_
        go_wp2
        go_roundg (j - (m + 1))
        case measure => omega
        case rel => exact ⟨m + 1, j, by omega, hm2, by omega, by go_num, rfl, Lib.hid fun k d hk hd => hS.less_of_less he.out hd hl4 (by omega), hhi, by exact bel_, (hb1.cell (p := ⟨w.heap.size, 0, none⟩) hsz).trans hx0, (hb1.cell (p := ⟨w.heap.size, 1, none⟩) hsz).trans hx1, Nat.lt_of_lt_of_le hsz hb1.size⟩
    · obtain rfl : i = j := by omega
      by_cases hin : i < n'
      · obtain ⟨b, o, rfl, hb, hc⟩ := g2.ptr (by omega)
        obtain ⟨e, he0⟩ := g2.get (k := i) (by omega)
        obtain ⟨c0, c1, c2⟩ := hc i e he0
        have he := Lib.hid (hget.out i e he0)
        clear hc g2 he0
        by_cases hxy : e.x = x ∧ e.y = y
        · obtain ⟨hx, hy⟩ := hxy
          subst hx hy
          have hP := Lib.hid (idxI_yes hS he.out)
          go_wp2
          refine wp_region_ord [(0, .q), (1, .q), (2, .q), (3, .q), (4, .q), (5, .q), (6, .q), (7, .q), (8, .q), (9, .q), (10, .q), (11, .q), (12, .q), (13, .q), (14, .q), (15, .q), (16, .q), (17, .q), (18, .q)] (by kernel_rfl) (by kernel_rfl) ?_
          simp only [pick, List.filterMap_cons, List.filterMap_nil, List.getElem?_toArray, List.getElem?_cons_zero, List.getElem?_cons_succ, Option.map_some]
          repeat (first
            | ((with_reducible refine wpD_p (fun K hK => ?_)); go_simp; refine hK _ ?_; clear hK K)
            | ((with_reducible refine wpD_q (fun K hK => ?_)); go_simp; (first | refine hK _ ?_ | (go_bits; refine hK _ ?_) | (go_bits; go_simp; refine hK _ ?_)); clear hK K)
            | ((with_reducible refine wpD_g (fun K hK => ?_)); go_simp; refine hK _ _ ?_; clear hK K)
            | ((with_reducible refine wpD_g (fun K hK => ?_)); go_simp; refine ⟨Grew.of_alloc _, hK _ _ ?_⟩; clear hK K))
          with_reducible refine wpD_nil ?_
          go_wp2
          go_ret
          exact ⟨ret_int hP.out, by exact bel_⟩
        · have hP := Lib.hid (idxI_no hlo.out hhi.out hS (fun d hd => by rw [he.out] at hd; obtain rfl := Option.some.inj hd; exact hxy))
          by_cases hx : e.x = x
          · have hy : ¬ e.y = y := fun h => hxy ⟨hx, h⟩
            subst hx
            have hy' : (e.y == y) = false := by simpa using hy
            go_wp2
            refine wp_region_ord [(0, .q), (1, .q), (2, .q), (3, .q), (4, .q), (5, .q), (6, .q), (7, .q), (8, .q), (9, .q), (10, .q), (11, .q), (12, .q), (13, .q), (14, .q), (15, .q), (16, .q), (17, .q), (18, .q)] (by kernel_rfl) (by kernel_rfl) ?_
            simp only [pick, List.filterMap_cons, List.filterMap_nil, List.getElem?_toArray, List.getElem?_cons_zero, List.getElem?_cons_succ, Option.map_some]
            repeat (first
              | ((with_reducible refine wpD_p (fun K hK => ?_)); go_simp; refine hK _ ?_; clear hK K)
              | ((with_reducible refine wpD_q (fun K hK => ?_)); go_simp; (first | refine hK _ ?_ | (go_bits; refine hK _ ?_) | (go_bits; go_simp; refine hK _ ?_)); clear hK K)
              | ((with_reducible refine wpD_g (fun K hK => ?_)); go_simp; refine hK _ _ ?_; clear hK K)
              | ((with_reducible refine wpD_g (fun K hK => ?_)); go_simp; refine ⟨Grew.of_alloc _, hK _ _ ?_⟩; clear hK K))
            with_reducible refine wpD_nil ?_
            go_wp2
            go_ret
            exact ⟨ret_int hP.out, by exact bel_⟩
          · have hx' : (e.x == x) = false := by simpa using hx
            go_wp2
            refine wp_region_ord [(0, .q), (1, .q), (2, .q), (3, .q), (4, .q), (5, .q), (6, .q), (7, .q), (8, .q), (9, .q), (10, .q), (11, .q), (12, .q), (13, .q), (14, .q), (15, .q), (16, .q), (17, .q), (18, .q)] (by kernel_rfl) (by kernel_rfl) ?_
            simp only [pick, List.filterMap_cons, List.filterMap_nil, List.getElem?_toArray, List.getElem?_cons_zero, List.getElem?_cons_succ, Option.map_some]
            repeat (first
              | ((with_reducible refine wpD_p (fun K hK => ?_)); go_simp; refine hK _ ?_; clear hK K)
              | ((with_reducible refine wpD_q (fun K hK => ?_)); go_simp; (first | refine hK _ ?_ | (go_bits; refine hK _ ?_) | (go_bits; go_simp; refine hK _ ?_)); clear hK K)
              | ((with_reducible refine wpD_g (fun K hK => ?_)); go_simp; refine hK _ _ ?_; clear hK K)
              | ((with_reducible refine wpD_g (fun K hK => ?_)); go_simp; refine ⟨Grew.of_alloc _, hK _ _ ?_⟩; clear hK K))
            with_reducible refine wpD_nil ?_
            go_wp2
            go_ret
            exact ⟨ret_int hP.out, by exact bel_⟩
      · have hP := Lib.hid (idxI_no hlo.out hhi.out hS (fun d hd => by have := lt_of_get hd; omega))
        clear g2
        go_wp2
        refine wp_region_ord [(0, .q), (1, .q), (2, .q), (3, .q), (4, .q), (5, .q), (6, .q), (7, .q), (8, .q), (9, .q), (10, .q), (11, .q), (12, .q), (13, .q), (14, .q), (15, .q), (16, .q), (17, .q), (18, .q)] (by kernel_rfl) (by kernel_rfl) ?_
        simp only [pick, List.filterMap_cons, List.filterMap_nil, List.getElem?_toArray, List.getElem?_cons_zero, List.getElem?_cons_succ, Option.map_some]
        repeat (first
          | ((with_reducible refine wpD_p (fun K hK => ?_)); go_simp; refine hK _ ?_; clear hK K)
          | ((with_reducible refine wpD_q (fun K hK => ?_)); go_simp; (first | refine hK _ ?_ | (go_bits; refine hK _ ?_) | (go_bits; go_simp; refine hK _ ?_)); clear hK K)
          | ((with_reducible refine wpD_g (fun K hK => ?_)); go_simp; refine hK _ _ ?_; clear hK K)
          | ((with_reducible refine wpD_g (fun K hK => ?_)); go_simp; refine ⟨Grew.of_alloc _, hK _ _ ?_⟩; clear hK K))
        with_reducible refine wpD_nil ?_
        go_wp2
        go_ret
        exact ⟨ret_int hP.out, by exact bel_⟩
end Go.Proofs.YtdcndhiidjgmaaaGreatDoor
