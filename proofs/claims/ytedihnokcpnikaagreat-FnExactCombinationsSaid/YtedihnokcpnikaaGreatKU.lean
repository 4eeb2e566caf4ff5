import Derived.Test.YtedihnokcpnikaaGreatQ4
import Derived.Test.YtedihnokcpnikaaGreatN1
import Derived.Test.YtedihnokcpnikaaGreatKQ
import Derived.Test.YtedihnokcpnikaaGreatW12
import Derived.Test.YtedihnokcpnikaaGreatPSort
import Derived.Test.YtedihnokcpnikaaGreatW10
import Derived.Test.YtedihnokcpnikaaGreatW11
import Derived.Test.YtedihnokcpnikaaGreatHTo
import Derived.Test.YtedihnokcpnikaaGreatW15
import Derived.Test.YtedihnokcpnikaaGreatOrdR
import Derived.Test.YtedihnokcpnikaaGreatQ3
import Derived.Test.YtedihnokcpnikaaGreatPlC
import Derived.Test.YtedihnokcpnikaaGreatPts
import Derived.Lib.SliceRun
set_option linter.unusedSimpArgs false
set_option linter.unusedVariables false
/- Walks: the program's connected parts of points. -/



namespace Go.Proofs.YtedihnokcpnikaaGreat
open Go.RowKit Go.Shelf
attribute [local go_sem] BelowBy.cell BelowBy.cell_drew stillUpon givesUpon

/-- the first k points -/
def firstB (ps : List Pt) (k : Nat) (x y : Int) : Bool := match idxP ps x y with
  | some v => decide (v < k)
  | none => false
theorem firstB_zero (ps : List Pt) (x y : Int) : firstB ps 0 x y = false := by
  unfold firstB; split <;> simp
theorem firstB_succ {ps : List Pt} (h : Shp ps) {k : Nat} {e : Pt} (he : ps[k]? = some e) (x y : Int) : firstB ps (k + 1) x y = (firstB ps k x y || decide (x = e.x ∧ y = e.y)) := by
  unfold firstB
  cases hi : idxP ps x y with
  | none =>
    have : ¬ (x = e.x ∧ y = e.y) := fun hh => by
      obtain ⟨rfl, rfl⟩ := hh
      rw [h.idx he] at hi
      cases hi
    simp [this]
  | some v =>
    simp only []
    have hv := idxP_some hi
    by_cases hvk : v = k
    · subst hvk
      rw [he] at hv
      injection hv with hv
      subst hv
      simp
    · have hne : ¬ (x = e.x ∧ y = e.y) := fun hh => by
        obtain ⟨rfl, rfl⟩ := hh
        rw [h.idx he] at hi
        injection hi with hi
        exact hvk hi.symm
      have : (v < k + 1) ↔ v < k := by omega
      simp [hne, this]
theorem firstB_all (ps : List Pt) (x y : Int) : firstB ps ps.length x y = leftB ps (List.replicate ps.length 0) x y := by
  unfold firstB leftB
  cases hi : idxP ps x y with
  | none => rfl
  | some v =>
    have hv := (List.getElem?_eq_some_iff.1 (idxP_some hi)).1
    simp [hv]
def ptAt (ps : List Pt) (v : Nat) : Pt := (ps[v]?).getD ⟨0, 0⟩
def ptsAt (ps : List Pt) (l : List Nat) : List Pt := l.map (ptAt ps)
theorem ptAt_of {ps : List Pt} {v : Nat} {e : Pt} (h : ps[v]? = some e) : ptAt ps v = e := by unfold ptAt; rw [h]; rfl
theorem ptsAt_len (ps : List Pt) (l : List Nat) : (ptsAt ps l).length = l.length := by simp [ptsAt]
theorem leftB_at {ps : List Pt} (h : Shp ps) {nm : List Nat} {k : Nat} {e : Pt} (he : ps[k]? = some e) : leftB ps nm e.x e.y = decide (nm[k]? = some 0) := by
  unfold leftB; rw [h.idx he]
theorem vis1_hit {ps : List Pt} {c k d u : Nat} {st : List Nat × List Nat} {e : Pt} (hu : st.1[k]? = some u) (he : ps[u]? = some e) (hl : leftB ps st.2 (stepX e.x d) (stepY e.y d) = true) :
    ∃ v, v < ps.length ∧ ps[v]? = some ⟨stepX e.x d, stepY e.y d⟩ ∧ st.2[v]? = some 0 ∧ vis1 (nbP ps) c k d st = (st.1 ++ [v], st.2.set v c) := by
  unfold leftB at hl
  cases hi : idxP ps (stepX e.x d) (stepY e.y d) with
  | none => rw [hi] at hl; cases hl
  | some v =>
    rw [hi] at hl
    simp only [decide_eq_true_eq] at hl
    have hv := idxP_some hi
    refine ⟨v, (List.getElem?_eq_some_iff.1 hv).1, hv, hl, ?_⟩
    unfold vis1 nbP
    rw [hu]
    simp only [he, hi, hl, if_true]
theorem vis1_miss {ps : List Pt} {c k d u : Nat} {st : List Nat × List Nat} {e : Pt} (hu : st.1[k]? = some u) (he : ps[u]? = some e) (hl : leftB ps st.2 (stepX e.x d) (stepY e.y d) = false) : vis1 (nbP ps) c k d st = st := by
  unfold leftB at hl
  unfold vis1 nbP
  rw [hu]
  simp only [he]
  cases hi : idxP ps (stepX e.x d) (stepY e.y d) with
  | none => rfl
  | some v =>
    rw [hi] at hl
    simp only [decide_eq_false_iff_not] at hl
    simp only [if_neg hl]
theorem visS_pos {nb : Nat → Nat → Option Nat} {c : Nat} {st : List Nat × List Nat} (h : 0 < st.1.length) : ∀ k, 0 < (visS nb c st k).1.length
  | 0 => h
  | k + 1 => by
    have ih := visS_pos (nb := nb) (c := c) h k
    obtain ⟨l, hl⟩ := vis4_grow (nb := nb) (c := c) (st := visS nb c st k) k 4
    simp only [visS]
    rw [hl, List.length_append]
    omega
/-- the parts as rows of points -/
def partsV (ps : List Pt) (P : List (List Nat)) : List (List Value) := P.map fun l => ptCells (sortP (ptsAt ps l))
theorem allP_yes {nb : Nat → Nat → Option Nat} {n i : Nat} {nm : List Nat} {P : List (List Nat)} {st : List Nat × List Nat} (h1 : (allP nb n i).1 = nm) (h2 : (allP nb n i).2 = P) (h0 : nm[i]? = some 0) (hst : visS nb (P.length + 1) ([i], nm.set i (P.length + 1)) n = st) :
    (allP nb n (i + 1)).1 = st.2 ∧ (allP nb n (i + 1)).2 = P ++ [st.1] := by
  subst h1 h2 hst
  simp only [allP, if_pos h0]
  exact ⟨trivial, trivial⟩
theorem allP_no {nb : Nat → Nat → Option Nat} {n i : Nat} (h0 : (allP nb n i).1[i]? ≠ some 0) : allP nb n (i + 1) = allP nb n i := by
  simp only [allP, if_neg h0]
theorem infoPtQ : (Tryz.prog.info? 44).map (fun i => (i.zero, i.size, i.bytes)) = some (some (.agg #[.int .i64 0, .int .i64 0]), 2, 16) := by kernel_rfl
theorem infoPtsQ : (Tryz.prog.info? 51).map (fun i => (i.zero, i.size, i.bytes)) = some (some (.slice none 0 0), 1, 24) := by kernel_rfl
theorem ownsRow_baseQ {w : World} {base base' : Nat} {e : TypeId} {size : Nat} {v : Value} {n : Nat} {xs : List Value} (h : w.ownsRow base e size v n xs) (hb : base' ≤ base) : w.ownsRow base' e size v n xs :=
  ⟨h.1, h.2.imp id (fun ⟨g, cap, cur, h1, h2, h3⟩ => ⟨g, cap, cur, h1, Nat.le_trans hb h2, h3⟩)⟩
def OwnPs (w : World) (rows : List (List Value)) (e : Ending) (w' : World) : Prop := ∃ v us, e = .returned v ∧ Own2 w' w.heap.size 51 44 2 v us rows ∧ Below w.heap.size w w'
end Go.Proofs.YtedihnokcpnikaaGreat
/- Walks: a point looked for in a row of points in order. -/


namespace Go.Proofs.YtedihnokcpnikaaGreat
open Go.RowKit
attribute [local go_sem] BelowBy.cell BelowBy.cell_drew stillUpon givesUpon

/-- where a binary search stops -/
structure Stop (L : List Pt) (x y : Int) (r : Nat) (b : Bool) : Prop where
  le : r ≤ L.length
  lt : ∀ (k : Nat) (d : Pt), k < r → L[k]? = some d → lessPt d.x d.y x y = true
  ge : ∀ (k : Nat) (d : Pt), r ≤ k → L[k]? = some d → lessPt d.x d.y x y = false
  yes : b = true → L[r]? = some ⟨x, y⟩
  no : b = false → ¬ (⟨x, y⟩ : Pt) ∈ L
theorem Stop.mem {L : List Pt} {x y : Int} {r : Nat} {b : Bool} (h : Stop L x y r b) : b = decide ((⟨x, y⟩ : Pt) ∈ L) := by
  cases b
  · exact (decide_eq_false (h.no rfl)).symm
  · exact (decide_eq_true (List.mem_of_getElem? (h.yes rfl))).symm
def SearchP (w : World) (L : List Pt) (x y : Int) (e : Ending) (w' : World) : Prop :=
  ∃ (r : Nat) (b : Bool), e = .returned (.tuple #[.int .i64 (r : Int), .bool b]) ∧ Stop L x y r b ∧ Below w.heap.size w w'
theorem comparePointsP_at {e : Pt} {x y : Int} {w : World} :
    Calls Tryz.prog 136 #[.agg #[.int .i64 e.x, .int .i64 e.y], .agg #[.int .i64 x, .int .i64 y]] w fun e' w' => e' = .returned (.int .i64 (cmpPt e.x e.y x y)) ∧ Below w.heap.size w w' := comparePoints_any _ _ _ _ _
theorem stop_no {L : List Pt} (hS : SortS L) {x y : Int} {i : Nat} (h1 : ∀ (k : Nat) (d : Pt), k < i → L[k]? = some d → lessPt d.x d.y x y = true) (h2 : ∀ (k : Nat) (d : Pt), i ≤ k → L[k]? = some d → lessPt d.x d.y x y = false) (h3 : ∀ d, L[i]? = some d → ¬ (d.x = x ∧ d.y = y)) : ¬ (⟨x, y⟩ : Pt) ∈ L := by
  intro hm
  obtain ⟨k, hk, hke⟩ := List.mem_iff_getElem.1 hm
  have hke' : L[k]? = some ⟨x, y⟩ := List.getElem?_eq_some_iff.2 ⟨hk, hke⟩
  rcases Nat.lt_trichotomy k i with h | rfl | h
  · exact ltP_irrefl ⟨x, y⟩ (h1 k _ h hke')
  · exact h3 _ hke' ⟨rfl, rfl⟩
  · obtain ⟨d, hd⟩ : ∃ d, L[i]? = some d := ⟨_, List.getElem?_eq_getElem (by omega)⟩
    have := hS.get h hd hke'
    have h4 := h2 i d (Nat.le_refl _) hd
    unfold ltP at this
    simp only at this
    rw [h4] at this; cases this
end Go.Proofs.YtedihnokcpnikaaGreat
/- Walks: shapes that are valid, of both. -/



namespace Go.Proofs.YtedihnokcpnikaaGreat
open Go.RowKit Go.Shelf
attribute [local go_sem] BelowBy.cell BelowBy.cell_drew stillUpon givesUpon

/-- a shape's test of place j -/
def okPt (ps : List Pt) (j : Nat) : Bool := match ps[j]? with
  | none => true
  | some e => validPt e.x e.y && (match j with
    | 0 => true
    | i + 1 => match ps[i]? with
      | none => true
      | some d => lessPt d.x d.y e.x e.y)
def shapeB (ps : List Pt) : Bool := allB ps.length (okPt ps) && decide (1 ≤ ps.length ∧ ps.length ≤ 500)
theorem okPt_eq0 {ps : List Pt} {e : Pt} (h : ps[0]? = some e) : okPt ps 0 = validPt e.x e.y := by
  unfold okPt; rw [h]; simp
theorem okPt_eqS {ps : List Pt} {k : Nat} {e d : Pt} (h : ps[k + 1]? = some e) (hd : ps[k]? = some d) : okPt ps (k + 1) = (validPt e.x e.y && lessPt d.x d.y e.x e.y) := by
  unfold okPt; rw [h]; simp only [hd]
theorem shapeB_bad {ps : List Pt} {k : Nat} (hk : k < ps.length) (h : okPt ps k = false) : shapeB ps = false := by
  unfold shapeB; rw [allB_false hk h]; rfl
theorem shapeB_ok {ps : List Pt} (h : ∀ j, j < ps.length → okPt ps j = true) : shapeB ps = decide (1 ≤ ps.length ∧ ps.length ≤ 500) := by
  unfold shapeB; rw [allB_true h]; rfl
theorem shapeB_len {ps : List Pt} (h1 : ¬ (1 ≤ ps.length ∧ ps.length ≤ 500)) : shapeB ps = false := by
  unfold shapeB; rw [decide_eq_false h1]; simp
theorem shp_of {ps : List Pt} (h : shapeB ps = true) : Shp ps ∧ 1 ≤ ps.length ∧ ps.length ≤ 500 := by
  unfold shapeB at h
  simp only [Bool.and_eq_true, decide_eq_true_eq] at h
  obtain ⟨hf, h4⟩ := h
  have hpl : ∀ (k : Nat) (e : Pt), ps[k]? = some e → validPt e.x e.y = true := fun k e he => by
    have := allB_at hf (lt_of_get he)
    unfold okPt at this
    rw [he] at this
    simp only [Bool.and_eq_true] at this
    exact this.1
  have hstep : ∀ (k : Nat) (d e : Pt), ps[k]? = some d → ps[k + 1]? = some e → lessPt d.x d.y e.x e.y = true := fun k d e hd he => by
    have := allB_at hf (lt_of_get he)
    rw [okPt_eqS he hd] at this
    simp only [Bool.and_eq_true] at this
    exact this.2
  refine ⟨⟨fun k e he => ?_, ?_⟩, h4⟩
  · have := hpl k e he
    simp only [validPt, Bool.and_eq_true, inB_true] at this
    exact this
  · intro i j d e hij hd he
    induction j generalizing e with
    | zero => omega
    | succ j ih =>
      have hj : j < ps.length := by have := lt_of_get he; omega
      obtain ⟨c, hc⟩ : ∃ c, ps[j]? = some c := ⟨_, List.getElem?_eq_getElem hj⟩
      have h2 := hstep j c e hc he
      rcases Nat.lt_or_ge i j with h | h
      · have h1 := ih c h hc
        rw [lessPt_iff] at h1 h2 ⊢
        omega
      · obtain rfl : i = j := by omega
        rw [hd] at hc
        obtain rfl := Option.some.inj hc
        exact h2
theorem Shp.sortS {ps : List Pt} (h : Shp ps) : SortS ps := by
  unfold SortS
  rw [List.pairwise_iff_getElem]
  intro i j hi hj hij
  exact h.sorted i j _ _ hij (List.getElem?_eq_getElem hi) (List.getElem?_eq_getElem hj)
/-- one connected part -/
def oneB (ps : List Pt) : Bool := decide ((allP (nbP ps) ps.length ps.length).2.length = 1)
end Go.Proofs.YtedihnokcpnikaaGreat
/- Walks: the reference looks for a point in an assembly and in a shape, by places. -/


namespace Go.Proofs.YtedihnokcpnikaaGreat
open Go.RowKit Go.Shelf
attribute [local go_sem] BelowBy.cell BelowBy.cell_drew stillUpon givesUpon

def plPt (e : Pl) : Pt := ⟨e.x, e.y⟩
/-- the place of a point, or -1 -/
def idxI (ps : List Pt) (x y : Int) : Int := match idxP ps x y with
  | some v => (v : Int)
  | none => -1
theorem idxI_yes {ps : List Pt} (hS : Shp ps) {i : Nat} {e : Pt} (he : ps[i]? = some e) : (i : Int) = idxI ps e.x e.y := by
  unfold idxI; rw [hS.idx he]
theorem idxI_no {ps : List Pt} {x y : Int} {i : Nat} (h1 : ∀ (k : Nat) (d : Pt), k < i → ps[k]? = some d → lessPt d.x d.y x y = true) (h2 : ∀ (k : Nat) (d : Pt), i ≤ k → ps[k]? = some d → lessPt d.x d.y x y = false) (hS : Shp ps)
    (h3 : ∀ (d : Pt), ps[i]? = some d → ¬ (d.x = x ∧ d.y = y)) : (-1 : Int) = idxI ps x y := by
  unfold idxI
  cases hi : idxP ps x y with
  | none => rfl
  | some v =>
    exfalso
    have hv := idxP_some hi
    rcases Nat.lt_trichotomy v i with h | h | h
    · have := h1 v _ h hv
      rw [lessPt_irrefl] at this
      cases this
    · subst h
      exact h3 _ hv ⟨rfl, rfl⟩
    · obtain ⟨d, hd⟩ : ∃ d, ps[i]? = some d := ⟨_, List.getElem?_eq_getElem (by have := lt_of_get hv; omega)⟩
      have h4 := hS.sorted i v d _ h hd hv
      have h5 := h2 i d (Nat.le_refl _) hd
      simp only at h4
      rw [h5] at h4
      cases h4
theorem Shp.less_of_less {ps : List Pt} (hS : Shp ps) {x y : Int} {m k : Nat} {d e : Pt} (he : ps[m]? = some e) (hd : ps[k]? = some d) (h : lessPt e.x e.y x y = true) (hk : k ≤ m) : lessPt d.x d.y x y = true := by
  rcases Nat.lt_or_ge k m with hmk | hmk
  · exact lessPt_trans (hS.sorted k m d e hmk hd he) h
  · obtain rfl : k = m := by omega
    rw [he] at hd
    obtain rfl := Option.some.inj hd
    exact h
theorem Shp.not_less {ps : List Pt} (hS : Shp ps) {x y : Int} {m k : Nat} {d e : Pt} (he : ps[m]? = some e) (hd : ps[k]? = some d) (h : lessPt e.x e.y x y = false) (hk : m ≤ k) : lessPt d.x d.y x y = false := by
  rcases Nat.lt_or_ge m k with hmk | hmk
  · cases hh : lessPt d.x d.y x y with
    | false => rfl
    | true => rw [← h]; exact (lessPt_trans (hS.sorted m k e d hmk he hd) hh).symm
  · obtain rfl : m = k := by omega
    rw [he] at hd
    obtain rfl := Option.some.inj hd
    exact h
theorem plPt_get {xs : List Pl} {k : Nat} {e : Pl} (h : xs[k]? = some e) : (xs.map plPt)[k]? = some ⟨e.x, e.y⟩ := by
  rw [List.getElem?_map, h]; rfl
set_option maxHeartbeats 2000000 in
theorem l03IndexS_any {op : Nat} (p : Nat) (xs : List Pl) (x y : Int) (w : World) (ha : AsmAt w p op xs) (hS : Shp (xs.map plPt)) (h5 : xs.length ≤ 100000) :
    Calls Tryz.prog 92 #[.pointer (some ⟨p, op, none⟩), .agg #[.int .i64 x, .int .i64 y]] w fun e w' => e = .returned (.int .i64 (idxI (xs.map plPt) x y)) ∧ Below w.heap.size w w' := by
  obtain ⟨hlt, ⟨A, n, c, h1, h2⟩⟩ := id ha
  have hl := h2.len
  obtain ⟨ps, hps⟩ : ∃ ps, xs.map plPt = ps := ⟨_, rfl⟩
  have hget := Lib.hid (fun (k : Nat) (e : Pl) (h : xs[k]? = some e) => (hps ▸ plPt_get h : ps[k]? = some ⟨e.x, e.y⟩))
  have hlp : ps.length = n := by rw [← hps]; simpa using hl
  rw [hps] at hS ⊢
  clear hps
  
  go_enter Tryz.func92, Tryz.ntmps92
  go_wp2
  go_loopg [5, 6] n (fun g lo hi wr => ∃ i j : Nat, j - i ≤ g ∧ i ≤ j ∧ j ≤ n ∧ lo = .int .i64 i ∧ hi = .int .i64 j ∧ Hid (∀ (k : Nat) (d : Pt), k < i → ps[k]? = some d → lessPt d.x d.y x y = true) ∧ Hid (∀ (k : Nat) (d : Pt), j ≤ k → ps[k]? = some d → lessPt d.x d.y x y = false) ∧
    Below w.heap.size w wr ∧ wr.cell? ⟨w.heap.size, 0, none⟩ = some (.int .i64 x) ∧ wr.cell? ⟨w.heap.size, 1, none⟩ = some (.int .i64 y) ∧ w.heap.size < wr.heap.size)
  case atStart => exact ⟨0, n, by omega, by omega, by omega, rfl, rfl, Lib.hid fun k d hk => by omega, Lib.hid fun k d hk hd => by have := lt_of_get hd; omega, by exact bel_, by go_simp, by go_simp, by simp⟩
  case round =>
    obtain ⟨i, j, hg, hij, hjn, rfl, rfl, hlo, hhi, hbw, hx0, hx1, hsz⟩ := hrel
    obtain ⟨plt, ⟨A', n', c', g1, g2⟩⟩ := ha.below hbw
    obtain rfl : n' = n := by rw [← g2.len]; exact hl
    by_cases hlt2 : i < j
    · obtain ⟨b, o, rfl, hb, hc⟩ := g2.ptr (by omega)
      obtain ⟨m, hm⟩ : ∃ m : Nat, m = (i + j) / 2 := ⟨_, rfl⟩
      have hm1 : i ≤ m := by omega
      have hm2 : m < j := by omega
      have hmi : ((i : Int) + (j : Int)) / 2 = (m : Int) := by omega
      have hmn : m < n' := by omega
      clear hm
      obtain ⟨e, he0⟩ := g2.get (k := m) (by omega)
      obtain ⟨c0, c1, c2⟩ := hc m e he0
      have he := Lib.hid (hget.out m e he0)
      clear hc g2 he0
      cases hl4 : lessPt e.x e.y x y
      · go_wp2
        refine wp_region_ord [(0, .q), (1, .q), (2, .q), (3, .q), (4, .q), (5, .q), (6, .q), (7, .q), (8, .q), (9, .g)] (by kernel_rfl) (by kernel_rfl) ?_
        simp only [pick, List.filterMap_cons, List.filterMap_nil, List.getElem?_toArray, List.getElem?_cons_zero, List.getElem?_cons_succ, Option.map_some]
        repeat (first
          | ((with_reducible refine wpD_p (fun K hK => ?_)); go_simp; refine hK _ ?_; clear hK K)
          | ((with_reducible refine wpD_q (fun K hK => ?_)); go_simp; (first | refine hK _ ?_ | (go_bits; refine hK _ ?_) | (go_bits; go_simp; refine hK _ ?_)); clear hK K)
          | ((with_reducible refine wpD_g (fun K hK => ?_)); go_simp; refine hK _ _ ?_; clear hK K)
          | ((with_reducible refine wpD_g (fun K hK => ?_)); go_simp; refine ⟨Grew.of_alloc _, hK _ _ ?_⟩; clear hK K)
          | ((with_reducible refine wpD_g (fun K hK => ?_)); go_simp; go_at_call 111; refine (sLessPoint_at hl4).mono ?_; rintro e w1 ⟨rfl, hb1⟩; refine ⟨_, rfl, hb1, hK _ _ ?_⟩; clear hK K; obtain ⟨chb1, fhb1, shb1, thb1⟩ := bcell hb1))
        with_reducible refine wpD_nil ?_
        go_wp2
        go_roundg (m - i)
        case measure => omega
        case rel => exact ⟨i, m, by omega, hm1, by omega, rfl, rfl, hlo, Lib.hid fun k d hk hd => hS.not_less he.out hd hl4 hk, by exact bel_, (hb1.cell (p := ⟨w.heap.size, 0, none⟩) hsz).trans hx0, (hb1.cell (p := ⟨w.heap.size, 1, none⟩) hsz).trans hx1, Nat.lt_of_lt_of_le hsz hb1.size⟩
      · go_wp2
        refine wp_region_ord [(0, .q), (1, .q), (2, .q), (3, .q), (4, .q), (5, .q), (6, .q), (7, .q), (8, .q), (9, .g)] (by kernel_rfl) (by kernel_rfl) ?_
        simp only [pick, List.filterMap_cons, List.filterMap_nil, List.getElem?_toArray, List.getElem?_cons_zero, List.getElem?_cons_succ, Option.map_some]
        repeat (first
          | ((with_reducible refine wpD_p (fun K hK => ?_)); go_simp; refine hK _ ?_; clear hK K)
          | ((with_reducible refine wpD_q (fun K hK => ?_)); go_simp; (first | refine hK _ ?_ | (go_bits; refine hK _ ?_) | (go_bits; go_simp; refine hK _ ?_)); clear hK K)
          | ((with_reducible refine wpD_g (fun K hK => ?_)); go_simp; refine hK _ _ ?_; clear hK K)
          | ((with_reducible refine wpD_g (fun K hK => ?_)); go_simp; refine ⟨Grew.of_alloc _, hK _ _ ?_⟩; clear hK K)
          | ((with_reducible refine wpD_g (fun K hK => ?_)); go_simp; go_at_call 111; refine (sLessPoint_at hl4).mono ?_; rintro e w1 ⟨rfl, hb1⟩; refine ⟨_, rfl, hb1, hK _ _ ?_⟩; clear hK K; obtain ⟨chb1, fhb1, shb1, thb1⟩ := bcell hb1))
        with_reducible refine wpD_nil ?_
        go_wp2
        go_roundg (j - (m + 1))
        case measure => omega
        case rel => exact ⟨m + 1, j, by omega, hm2, by omega, by go_num, rfl, Lib.hid fun k d hk hd => hS.less_of_less he.out hd hl4 (by omega), hhi, by exact bel_, (hb1.cell (p := ⟨w.heap.size, 0, none⟩) hsz).trans hx0, (hb1.cell (p := ⟨w.heap.size, 1, none⟩) hsz).trans hx1, Nat.lt_of_lt_of_le hsz hb1.size⟩
    · obtain rfl : i = j := by omega
      by_cases hin : i < n'
      · obtain ⟨b, o, rfl, hb, hc⟩ := g2.ptr (by omega)
        obtain ⟨e, he0⟩ := g2.get (k := i) (by omega)
        obtain ⟨c0, c1, c2⟩ := hc i e he0
        have he := Lib.hid (hget.out i e he0)
        clear hc g2 he0
        by_cases hxy : e.x = x ∧ e.y = y
        · obtain ⟨hx, hy⟩ := hxy
          subst hx hy
          have hP := Lib.hid (idxI_yes hS he.out)
          go_wp2
          refine wp_region_ord [(0, .q), (1, .q), (2, .q), (3, .q), (4, .q), (5, .q), (6, .q), (7, .q), (8, .q), (9, .q), (10, .q), (11, .q), (12, .q), (13, .q), (14, .q), (15, .q), (16, .q), (17, .q), (18, .q)] (by kernel_rfl) (by kernel_rfl) ?_
          simp only [pick, List.filterMap_cons, List.filterMap_nil, List.getElem?_toArray, List.getElem?_cons_zero, List.getElem?_cons_succ, Option.map_some]
          repeat (first
            | ((with_reducible refine wpD_p (fun K hK => ?_)); go_simp; refine hK _ ?_; clear hK K)
            | ((with_reducible refine wpD_q (fun K hK => ?_)); go_simp; (first | refine hK _ ?_ | (go_bits; refine hK _ ?_) | (go_bits; go_simp; refine hK _ ?_)); clear hK K)
            | ((with_reducible refine wpD_g (fun K hK => ?_)); go_simp; refine hK _ _ ?_; clear hK K)
            | ((with_reducible refine wpD_g (fun K hK => ?_)); go_simp; refine ⟨Grew.of_alloc _, hK _ _ ?_⟩; clear hK K))
          with_reducible refine wpD_nil ?_
          go_wp2
          go_ret
          exact ⟨ret_int hP.out, by exact bel_⟩
        · have hP := Lib.hid (idxI_no hlo.out hhi.out hS (fun d hd => by rw [he.out] at hd; obtain rfl := Option.some.inj hd; exact hxy))
          by_cases hx : e.x = x
          · have hy : ¬ e.y = y := fun h => hxy ⟨hx, h⟩
            subst hx
            have hy' : (e.y == y) = false := by simpa using hy
            go_wp2
            refine wp_region_ord [(0, .q), (1, .q), (2, .q), (3, .q), (4, .q), (5, .q), (6, .q), (7, .q), (8, .q), (9, .q), (10, .q), (11, .q), (12, .q), (13, .q), (14, .q), (15, .q), (16, .q), (17, .q), (18, .q)] (by kernel_rfl) (by kernel_rfl) ?_
            simp only [pick, List.filterMap_cons, List.filterMap_nil, List.getElem?_toArray, List.getElem?_cons_zero, List.getElem?_cons_succ, Option.map_some]
            repeat (first
              | ((with_reducible refine wpD_p (fun K hK => ?_)); go_simp; refine hK _ ?_; clear hK K)
              | ((with_reducible refine wpD_q (fun K hK => ?_)); go_simp; (first | refine hK _ ?_ | (go_bits; refine hK _ ?_) | (go_bits; go_simp; refine hK _ ?_)); clear hK K)
              | ((with_reducible refine wpD_g (fun K hK => ?_)); go_simp; refine hK _ _ ?_; clear hK K)
              | ((with_reducible refine wpD_g (fun K hK => ?_)); go_simp; refine ⟨Grew.of_alloc _, hK _ _ ?_⟩; clear hK K))
            with_reducible refine wpD_nil ?_
            go_wp2
            go_ret
            exact ⟨ret_int hP.out, by exact bel_⟩
          · have hx' : (e.x == x) = false := by simpa using hx
            go_wp2
            refine wp_region_ord [(0, .q), (1, .q), (2, .q), (3, .q), (4, .q), (5, .q), (6, .q), (7, .q), (8, .q), (9, .q), (10, .q), (11, .q), (12, .q), (13, .q), (14, .q), (15, .q), (16, .q), (17, .q), (18, .q)] (by kernel_rfl) (by kernel_rfl) ?_
            simp only [pick, List.filterMap_cons, List.filterMap_nil, List.getElem?_toArray, List.getElem?_cons_zero, List.getElem?_cons_succ, Option.map_some]
            repeat (first
              | ((with_reducible refine wpD_p (fun K hK => ?_)); go_simp; refine hK _ ?_; clear hK K)
              | ((with_reducible refine wpD_q (fun K hK => ?_)); go_simp; (first | refine hK _ ?_ | (go_bits; refine hK _ ?_) | (go_bits; go_simp; refine hK _ ?_)); clear hK K)
              | ((with_reducible refine wpD_g (fun K hK => ?_)); go_simp; refine hK _ _ ?_; clear hK K)
              | ((with_reducible refine wpD_g (fun K hK => ?_)); go_simp; refine ⟨Grew.of_alloc _, hK _ _ ?_⟩; clear hK K))
            with_reducible refine wpD_nil ?_
            go_wp2
            go_ret
            exact ⟨ret_int hP.out, by exact bel_⟩
      · have hP := Lib.hid (idxI_no hlo.out hhi.out hS (fun d hd => by have := lt_of_get hd; omega))
        clear g2
        go_wp2
        refine wp_region_ord [(0, .q), (1, .q), (2, .q), (3, .q), (4, .q), (5, .q), (6, .q), (7, .q), (8, .q), (9, .q), (10, .q), (11, .q), (12, .q), (13, .q), (14, .q), (15, .q), (16, .q), (17, .q), (18, .q)] (by kernel_rfl) (by kernel_rfl) ?_
        simp only [pick, List.filterMap_cons, List.filterMap_nil, List.getElem?_toArray, List.getElem?_cons_zero, List.getElem?_cons_succ, Option.map_some]
        repeat (first
          | ((with_reducible refine wpD_p (fun K hK => ?_)); go_simp; refine hK _ ?_; clear hK K)
          | ((with_reducible refine wpD_q (fun K hK => ?_)); go_simp; (first | refine hK _ ?_ | (go_bits; refine hK _ ?_) | (go_bits; go_simp; refine hK _ ?_)); clear hK K)
          | ((with_reducible refine wpD_g (fun K hK => ?_)); go_simp; refine hK _ _ ?_; clear hK K)
          | ((with_reducible refine wpD_g (fun K hK => ?_)); go_simp; refine ⟨Grew.of_alloc _, hK _ _ ?_⟩; clear hK K))
        with_reducible refine wpD_nil ?_
        go_wp2
        go_ret
        exact ⟨ret_int hP.out, by exact bel_⟩
end Go.Proofs.YtedihnokcpnikaaGreat
/- Walks: the reference's connected parts, by places. -/




namespace Go.Proofs.YtedihnokcpnikaaGreat
open Go.RowKit Go.Shelf
attribute [local go_sem] BelowBy.cell BelowBy.cell_drew stillUpon givesUpon ByR.cell ByR.cell_drew

section
variable {nb : Nat → Nat → Option Nat} {n : Nat}
theorem visS_more {c : Nat} {st : List Nat × List Nat} : ∀ k, ∃ l, (visS nb c st k).1 = st.1 ++ l
  | 0 => ⟨[], by simp [visS]⟩
  | k + 1 => by
    obtain ⟨l, hl⟩ := visS_more (c := c) (st := st) k
    obtain ⟨m, hm⟩ := vis4_grow (nb := nb) (c := c) (st := visS nb c st k) k 4
    exact ⟨l ++ m, by simp only [visS]; rw [hm, hl, List.append_assoc]⟩
theorem allP_rng : ∀ (i v q : Nat), (allP nb n i).1[v]? = some q → q ≤ (allP nb n i).2.length
  | 0, v, q, h => by
    simp only [allP] at h ⊢
    have := List.mem_of_getElem? h
    rw [List.mem_replicate] at this
    omega
  | i + 1, v, q, h => by
    have ih := allP_rng i v
    by_cases h0 : (allP nb n i).1[i]? = some 0
    · obtain ⟨h1, h2⟩ := allP_yes (nb := nb) (n := n) (i := i) rfl rfl h0 rfl
      rw [h1] at h
      rw [h2, List.length_append]
      have hV := (VisInv.start (n := n) (Nat.succ_ne_zero (allP nb n i).2.length) (allP_len nb n i) h0).all (nb := nb) n
      by_cases hm : v ∈ (visS nb ((allP nb n i).2.length + 1) ([i], (allP nb n i).1.set i ((allP nb n i).2.length + 1)) n).1
      · have := hV.is v hm
        rw [h] at this
        injection this with this
        simp; omega
      · rw [hV.other v hm] at h
        have := ih q h
        simp; omega
    · rw [allP_no h0] at h ⊢
      exact ih q h
theorem allP_done : ∀ (i v : Nat), v < i → (allP nb n i).1[v]? ≠ some 0
  | 0, v, h => by omega
  | i + 1, v, h => by
    have ih := allP_done i v
    by_cases h0 : (allP nb n i).1[i]? = some 0
    · obtain ⟨h1, h2⟩ := allP_yes (nb := nb) (n := n) (i := i) rfl rfl h0 rfl
      rw [h1]
      have hV := (VisInv.start (n := n) (Nat.succ_ne_zero (allP nb n i).2.length) (allP_len nb n i) h0).all (nb := nb) n
      by_cases hm : v ∈ (visS nb ((allP nb n i).2.length + 1) ([i], (allP nb n i).1.set i ((allP nb n i).2.length + 1)) n).1
      · rw [hV.is v hm]
        intro hh
        injection hh with hh
        omega
      · rw [hV.other v hm]
        rcases Nat.lt_or_ge v i with hlt | hge
        · exact ih hlt
        · exfalso
          obtain rfl : v = i := by omega
          obtain ⟨l, hl⟩ := visS_more (nb := nb) (c := (allP nb n v).2.length + 1) (st := ([v], (allP nb n v).1.set v ((allP nb n v).2.length + 1))) n
          rw [hl] at hm
          simp at hm
    · rw [allP_no h0]
      rcases Nat.lt_or_ge v i with hlt | hge
      · exact ih hlt
      · obtain rfl : v = i := by omega
        exact h0
theorem allP_named {v : Nat} (hv : v < n) : ∃ q, (allP nb n n).1[v]? = some (q + 1) ∧ q < (allP nb n n).2.length := by
  obtain ⟨q, hq⟩ : ∃ q, (allP nb n n).1[v]? = some q := ⟨_, List.getElem?_eq_getElem (by rw [allP_len]; exact hv)⟩
  have h1 := allP_rng n v q hq
  have h2 := allP_done (nb := nb) (n := n) n v hv
  cases q with
  | zero => exact absurd hq h2
  | succ q => exact ⟨q, hq, by omega⟩
end
theorem vis1_none {ps : List Pt} {c k d u : Nat} {st : List Nat × List Nat} {e : Pt} (hu : st.1[k]? = some u) (he : ps[u]? = some e) (hl : idxP ps (stepX e.x d) (stepY e.y d) = none) : vis1 (nbP ps) c k d st = st := by
  unfold vis1 nbP
  rw [hu]
  simp only [he, hl]
theorem vis1_old {ps : List Pt} {c k d u v q : Nat} {st : List Nat × List Nat} {e : Pt} (hu : st.1[k]? = some u) (he : ps[u]? = some e) (hl : idxP ps (stepX e.x d) (stepY e.y d) = some v) (hv : st.2[v]? = some q) (hq : q ≠ 0) : vis1 (nbP ps) c k d st = st := by
  unfold vis1 nbP
  rw [hu]
  simp only [he, hl, hv, Option.some.injEq, if_neg hq]
theorem vis1_new {ps : List Pt} {c k d u v : Nat} {st : List Nat × List Nat} {e : Pt} (hu : st.1[k]? = some u) (he : ps[u]? = some e) (hl : idxP ps (stepX e.x d) (stepY e.y d) = some v) (hv : st.2[v]? = some 0) : vis1 (nbP ps) c k d st = (st.1 ++ [v], st.2.set v c) := by
  unfold vis1 nbP
  rw [hu]
  simp only [he, hl, hv, if_true]
theorem idxI_some {ps : List Pt} {x y : Int} {v : Nat} (h : idxP ps x y = some v) : idxI ps x y = (v : Int) := by
  unfold idxI; rw [h]
theorem idxI_none {ps : List Pt} {x y : Int} (h : idxP ps x y = none) : idxI ps x y = -1 := by
  unfold idxI; rw [h]
theorem l03IndexS_at {op p : Nat} {xs : List Pl} {ps : List Pt} {x y r : Int} {w : World} (ha : AsmAt w p op xs) (hS : Shp (xs.map plPt)) (h5 : xs.length ≤ 100000) (hps : xs.map plPt = ps) (hr : idxI ps x y = r) :
    Calls Tryz.prog 92 #[.pointer (some ⟨p, op, none⟩), .agg #[.int .i64 x, .int .i64 y]] w fun e w' => e = .returned (.int .i64 r) ∧ Below w.heap.size w w' := by
  rw [← hr, ← hps]; exact l03IndexS_any p xs x y w ha hS h5
def numsV (l : List Nat) : List Value := l.map fun x => Value.int .i64 ((x : Nat) : Int)
theorem numsV_len (l : List Nat) : (numsV l).length = l.length := by simp [numsV]
theorem numsV_snoc (l : List Nat) (x : Nat) : numsV l ++ [Value.int .i64 (x : Int)] = numsV (l ++ [x]) := by simp [numsV]
theorem numsV_get {l : List Nat} {k x : Nat} (h : l[k]? = some x) : (numsV l)[k]? = some (.int .i64 (x : Int)) := by simp [numsV, h]
theorem numsV_set (l : List Nat) (k x : Nat) : (numsV l).set k (.int .i64 (x : Int)) = numsV (l.set k x) := by simp [numsV, List.map_set]
theorem infoRowQ : (Tryz.prog.info? 111).map (fun i => (i.zero, i.size, i.bytes)) = some (some (.slice none 0 0), 1, 24) := by kernel_rfl
def OwnNs (w : World) (gss : List (List Nat)) (e : Ending) (w' : World) : Prop := ∃ v us, e = .returned v ∧ Own2 w' w.heap.size 111 2 1 v us (gss.map numsV) ∧ Below w.heap.size w w'
/-- the places below t with name q + 1 -/
def nameL (nm : List Nat) (q t : Nat) : List Nat := (List.range t).filter fun i => decide (nm[i]? = some (q + 1))
theorem nameL_zero (nm : List Nat) (q : Nat) : nameL nm q 0 = [] := rfl
theorem nameL_yes {nm : List Nat} {q t : Nat} (h : nm[t]? = some (q + 1)) : nameL nm q (t + 1) = nameL nm q t ++ [t] := by
  unfold nameL; rw [List.range_succ, List.filter_append]; simp [h]
theorem nameL_no {nm : List Nat} {q t : Nat} (h : nm[t]? ≠ some (q + 1)) : nameL nm q (t + 1) = nameL nm q t := by
  unfold nameL; rw [List.range_succ, List.filter_append]; simp [h]
theorem nameL_len (nm : List Nat) (q t : Nat) : (nameL nm q t).length ≤ t := by
  have := List.length_filter_le (fun i => decide (nm[i]? = some (q + 1))) (List.range t)
  simpa [nameL] using this
def namesL (nm : List Nat) (c t : Nat) : List (List Nat) := (List.range c).map fun q => nameL nm q t
theorem namesL_get {nm : List Nat} {c t q : Nat} (h : q < c) : (namesL nm c t)[q]? = some (nameL nm q t) := by simp [namesL, h]
theorem namesL_zero (nm : List Nat) (c : Nat) : (namesL nm c 0).map numsV = List.replicate c [] := by
  apply List.ext_getElem?
  intro j
  by_cases hj : j < c
  · rw [List.getElem?_map, namesL_get hj, List.getElem?_replicate, if_pos hj]; simp [nameL, numsV]
  · rw [List.getElem?_eq_none (by simp [namesL]; omega), List.getElem?_eq_none (by simp; omega)]
theorem namesL_succ {nm : List Nat} {c t q : Nat} (h : nm[t]? = some (q + 1)) (hq : q < c) : namesL nm c (t + 1) = (namesL nm c t).set q (nameL nm q t ++ [t]) := by
  apply List.ext_getElem?
  intro j
  rw [List.getElem?_set]
  by_cases hj : j < c
  · rw [namesL_get hj, namesL_get hj]
    by_cases e : q = j
    · subst e
      rw [if_pos rfl, if_pos (by simp [namesL]; omega), nameL_yes h]
    · rw [if_neg e, nameL_no (by rw [h]; intro hh; injection hh with hh; omega)]
  · rw [List.getElem?_eq_none (by simp [namesL]; omega)]
    by_cases e : q = j
    · omega
    · rw [if_neg e, List.getElem?_eq_none (by simp [namesL]; omega)]
/-- the parts as the reference tells them -/
def partsN (ps : List Pt) : List (List Nat) := namesL (allP (nbP ps) ps.length ps.length).1 (allP (nbP ps) ps.length ps.length).2.length ps.length
theorem gby_setCell (w : World) (b o : Nat) (u : Value) : w.grownBy (w.setCell ⟨b, o, none⟩ u) (some b) :=
  ⟨rfl, rfl, rfl, by simp, fun i hi hne => Below.heap_setCell _ _ _ _ (fun e => hne (by rw [e]))⟩
theorem made_zero (n : Nat) : (madeCells #[Value.int .i64 0] n).toList = numsV (List.replicate n 0) := by
  apply List.ext_getElem?
  intro j
  by_cases hj : j < n
  · simp [madeCells, hj, numsV, Nat.mod_one]
  · rw [List.getElem?_eq_none (by rw [Array.length_toList, size_madeCells]; omega), List.getElem?_eq_none (by simp [numsV]; omega)]
theorem Own2.offs {w : World} {base : Nat} {T E : TypeId} {size : Nat} {v : Value} {us : List Value} {rows : List (List Value)} (h : Own2 w base T E size v us rows) {p : Nat} (hp : ∀ g, v.ownBlock = some g → g ≠ p) (hu : ∀ (k : Nat) (u : Value) (g : Nat), us[k]? = some u → u.ownBlock = some g → g ≠ p) (o : Nat) (x : Value) : Own2 (w.setCell ⟨p, o, none⟩ x) base T E size v us rows :=
  h.kept (gby_setCell w p o x) fun g e => by
    injection e with e
    subst e
    exact ⟨fun e' => hp _ e' rfl, fun k u hk e' => hu k u _ hk e' rfl⟩
theorem l01Step_to {x y X Y : Int} {d : Nat} (w : World) (hd : d < 4) (hx : -100 ≤ x ∧ x ≤ 100) (hy : -100 ≤ y ∧ y ≤ 100) (hX : stepX x (d : Nat) = X) (hY : stepY y (d : Nat) = Y) :
    Calls Tryz.prog 85 #[.agg #[.int .i64 x, .int .i64 y], .int .i64 (d : Int)] w fun e w' => e = .returned (.agg #[.int .i64 X, .int .i64 Y]) ∧ Below w.heap.size w w' := by
  rw [← hX, ← hY]
  exact l01Step_any _ _ _ _ ⟨by omega, by omega⟩ ⟨by omega, by omega⟩ ⟨by omega, by omega⟩
end Go.Proofs.YtedihnokcpnikaaGreat
/- Walks: a row of points from which those are struck out that a closure names. -/



namespace Go.Proofs.YtedihnokcpnikaaGreat
open Go.RowKit Go.Shelf
attribute [local go_sem] BelowBy.cell BelowBy.cell_drew stillUpon givesUpon BelowBy.cell_drew2 BelowBy.cell_drew3

/-- nothing that was there has turned, but block g -/
def Gb (g : Nat) (w w' : World) : Prop := w.grownBy w' (some g)
section
variable {g : Nat} {w w' w'' : World}
theorem Gb.refl (g : Nat) (w : World) : Gb g w w := ⟨rfl, rfl, rfl, Nat.le_refl _, fun _ _ _ => rfl⟩
theorem Gb.size (h : Gb g w w') : w.heap.size ≤ w'.heap.size := World.grownBy.size h
theorem Gb.below (h : Gb g w w') (hb : Below w'.heap.size w' w'') : Gb g w w'' := by
  have h2 := grown_below hb none
  exact ⟨h2.os.trans h.os, h2.tape.trans h.tape, h2.output.trans h.output, Nat.le_trans (World.grownBy.size h) h2.size, fun k hk hne => (hb.block k (Nat.lt_of_lt_of_le hk (World.grownBy.size h))).trans (h.block k hk hne)⟩
theorem Gb.of_below (hb : Below w.heap.size w w') : Gb g w w' := (Gb.refl g w).below hb
theorem Gb.trans (h : Gb g w w') (h2 : Gb g w' w'') : Gb g w w'' :=
  ⟨h2.os.trans h.os, h2.tape.trans h.tape, h2.output.trans h.output, Nat.le_trans (World.grownBy.size h) (World.grownBy.size h2), fun k hk hne => (h2.block k (Nat.lt_of_lt_of_le hk (World.grownBy.size h)) hne).trans (h.block k hk hne)⟩
theorem Gb.set (h : Gb g w w') (o : Nat) (u : Value) : Gb g w (w'.setCell ⟨g, o, none⟩ u) := h.trans (gby_setCell w' g o u)
theorem Gb.cell (h : Gb g w w') {b o : Nat} (hb : b < w.heap.size) (hne : b ≠ g) : w'.cell? ⟨b, o, none⟩ = w.cell? ⟨b, o, none⟩ := World.cell?_of_block (a := ⟨b, o, none⟩) (h.block b hb (fun e => hne (by injection e)))
theorem Gb.toBelow {base : Nat} (h : Gb g w w') (hb : base ≤ w.heap.size) (hg : base ≤ g) : Below base w w' := (Below.refl base w).grown h hb (fun q e => by injection e with e; omega)
theorem Gb.sets (h : Gb g w w') (o : Nat) : ∀ (vs : List Value), Gb g w (w'.setCells g o vs)
  | vs => by
    have : ∀ (vs : List Value) (o : Nat) (W : World), Gb g w W → Gb g w (W.setCells g o vs) := by
      intro vs
      induction vs with
      | nil => intro o W h; exact h
      | cons v r ih => intro o W h; exact ih (o + 1) _ (h.set o v)
    exact this vs o w' h
end
/-- a closure that tells of each of these points whether it is named -/
def TellsP (g : Nat) (w : World) (f : FuncId) (caps : Array Value) (del : Pt → Bool) (bs : List Pt) : Prop :=
  ∀ W e, Gb g w W → e ∈ bs → Calls Tryz.prog f (#[.agg #[.int .i64 e.x, .int .i64 e.y]] ++ caps) W fun e' w' => e' = .returned (.bool (del e)) ∧ Below W.heap.size W w'
def FirstN (w : World) (n : Nat) (del : Nat → Bool) (e : Ending) (w' : World) : Prop :=
  ((e = .returned (.int .i64 (-1)) ∧ ∀ j, j < n → del j = false) ∨ ∃ k : Nat, k < n ∧ e = .returned (.int .i64 (k : Int)) ∧ del k = true ∧ ∀ j, j < k → del j = false) ∧ Below w.heap.size w w'
def delAtG {α : Type} (del : α → Bool) (bs : List α) (j : Nat) : Bool := match bs[j]? with
  | none => false
  | some b => del b
theorem delAtG_eq {α : Type} {del : α → Bool} {bs : List α} {j : Nat} {b : α} (h : bs[j]? = some b) : delAtG del bs j = del b := by unfold delAtG; rw [h]
theorem run_clear_rowsQ {P : Program} (w : World) (t e ty : TypeId) (z : Value) (ht : P.underlying t = some (.slice e)) (hv : ∀ w, (zeroValue e).run P w = .ok z w) (b o n c : Nat) (hn : 0 < n)
    (hc : ∀ j, j < n * z.cells.size → (w.cell? ⟨b, o + j, none⟩).isSome = true) (hf : ∀ j, j < n * z.cells.size → w.frozen? ⟨b, o + j, none⟩ = false) (h1 : ∀ u ∈ (Builtin.zeroCells z.cells n).toList, u.oneCell' = true) :
    (Builtin.clear_ #[t] ty #[.slice (some ⟨b, o, none⟩) n c]).run P w = .ok (.tuple #[]) (w.setCells b o (Builtin.zeroCells z.cells n).toList) := by
  have hlen : (Builtin.zeroCells z.cells n).toList.length = n * z.cells.size := by simp [size_zeroCells]
  have hst := run_storeCells_cells (P := P) b o (Builtin.zeroCells z.cells n).toList 0 w (by rw [hlen]; simpa using hc) (by rw [hlen]; simpa using hf) h1
  simp only [Nat.add_zero] at hst
  obtain ⟨m, rfl⟩ : ∃ m, n = m + 1 := ⟨n - 1, by omega⟩
  simp [Builtin.clear_, run_underlying ht, hv, hst]
theorem zero2Q (n : Nat) : ∀ u ∈ (Builtin.zeroCells #[Value.int .i64 0, .int .i64 0] n).toList, u.oneCell' = true := by
  intro u hu
  simp only [Builtin.zeroCells, Array.toList_map, List.mem_map] at hu
  obtain ⟨i, _, rfl⟩ := hu
  have : i % 2 = 0 ∨ i % 2 = 1 := by omega
  rcases this with h | h <;> simp [h] <;> rfl
def keepG {α : Type} (del : α → Bool) (bs : List α) (k : Nat) : List α := (bs.take k).filter fun b => !del b
section
variable {α : Type} {del : α → Bool} {bs : List α} {k : Nat}
theorem keepG_succ_yes {e : α} (he : bs[k]? = some e) (h : del e = false) : keepG del bs (k + 1) = keepG del bs k ++ [e] := by
  obtain ⟨hk, rfl⟩ := List.getElem?_eq_some_iff.1 he
  unfold keepG; rw [List.take_succ_eq_append_getElem hk, List.filter_append]; simp [h]
theorem keepG_succ_no {e : α} (he : bs[k]? = some e) (h : del e = true) : keepG del bs (k + 1) = keepG del bs k := by
  obtain ⟨hk, rfl⟩ := List.getElem?_eq_some_iff.1 he
  unfold keepG; rw [List.take_succ_eq_append_getElem hk, List.filter_append]; simp [h]
theorem keepG_len (del : α → Bool) (bs : List α) (k : Nat) : (keepG del bs k).length ≤ k := Nat.le_trans (List.length_filter_le _ _) (List.length_take_le _ _)
theorem keepG_all (h : ∀ j, j < k → delAtG del bs j = false) : keepG del bs k = bs.take k := by
  unfold keepG
  rw [List.filter_eq_self]
  intro b hb
  obtain ⟨j, hj, rfl⟩ := List.mem_iff_getElem.1 hb
  have hj' : j < k ∧ j < bs.length := by simp at hj; omega
  have := h j hj'.1
  rw [delAtG_eq (List.getElem?_eq_getElem hj'.2)] at this
  simpa using this
end
/-- what is left of a row of points -/
def DelPt (base g : Nat) (w : World) (l : List Pt) (e : Ending) (w' : World) : Prop := ∃ c, e = .returned (.slice (some ⟨g, 0, none⟩) l.length c) ∧ w'.ownsRow base 44 2 (.slice (some ⟨g, 0, none⟩) l.length c) l.length (ptCells l) ∧ Gb g w w'
theorem DelPt.of {base g n : Nat} {w w' : World} {l : List Pt} {c : Nat} (hn : n = l.length) (h : w'.ownsRow base 44 2 (.slice (some ⟨g, 0, none⟩) n c) n (ptCells l)) (hb : Gb g w w') : DelPt base g w l (.returned (.slice (some ⟨g, 0, none⟩) n c)) w' := by
  subst hn; exact ⟨c, rfl, h, hb⟩
theorem owns_of_rowQ {w : World} {g T N base cap size n : Nat} {f : Nat → Value} {xs : List Value} (h : w.rowIs g T N f) (hN : N = cap * size) (hb : base ≤ g) (hn : n ≤ cap) (hm : cap ≤ maxLen) (hl : xs.length = n * size) (hx : ∀ j u, xs[j]? = some u → w.cell? ⟨g, j, none⟩ = some u) : w.ownsRow base T size (.slice (some ⟨g, 0, none⟩) n cap) n xs := by
  obtain ⟨cur, hh, hs, hi⟩ := h
  refine ⟨hl, .inr ⟨g, cap, cur, rfl, hb, hh, hn, hm, hs.trans hN, ?_⟩⟩
  apply List.ext_getElem?
  intro j
  by_cases hj : j < n * size
  · obtain ⟨u, hu⟩ : ∃ u, xs[j]? = some u := ⟨_, List.getElem?_eq_getElem (by omega)⟩
    have := hx j u hu
    simp only [World.cell?, hh] at this
    rw [List.getElem?_take_of_lt hj, Array.getElem?_toList, hu]
    simpa using this
  · rw [List.getElem?_take_eq_none (by omega), List.getElem?_eq_none (by omega)]
end Go.Proofs.YtedihnokcpnikaaGreat
/- Plain: the least rectangle of points. -/

namespace Go.Proofs.YtedihnokcpnikaaGreat
open Go.RowKit
def mn (x y : Int) : Int := if y < x then y else x
def mx (x y : Int) : Int := if x < y then y else x
theorem mn_self (x : Int) : mn x x = x := by unfold mn; split <;> rfl
theorem mx_self (x : Int) : mx x x = x := by unfold mx; split <;> rfl
structure Bx where
  lx : Int
  ly : Int
  hx : Int
  hy : Int
def ptA (ps : List Pt) (k : Nat) : Pt := (ps[k]?).getD ⟨0, 0⟩
/-- the least rectangle of the first point and of the first k points -/
def bxN (ps : List Pt) : Nat → Bx
  | 0 => ⟨(ptA ps 0).x, (ptA ps 0).y, (ptA ps 0).x, (ptA ps 0).y⟩
  | k + 1 => ⟨mn (bxN ps k).lx (ptA ps k).x, mn (bxN ps k).ly (ptA ps k).y, mx (bxN ps k).hx (ptA ps k).x, mx (bxN ps k).hy (ptA ps k).y⟩
theorem bxN_one (ps : List Pt) : bxN ps 1 = bxN ps 0 := by
  simp only [bxN, mn_self, mx_self]
theorem mn_rng {x y : Int} (hx : -60 ≤ x ∧ x ≤ 60) (hy : -60 ≤ y ∧ y ≤ 60) : -60 ≤ mn x y ∧ mn x y ≤ 60 := by unfold mn; split <;> assumption
theorem mx_rng {x y : Int} (hx : -60 ≤ x ∧ x ≤ 60) (hy : -60 ≤ y ∧ y ≤ 60) : -60 ≤ mx x y ∧ mx x y ≤ 60 := by unfold mx; split <;> assumption
theorem bxN_rng {ps : List Pt} (h : ∀ k, (-60 ≤ (ptA ps k).x ∧ (ptA ps k).x ≤ 60) ∧ (-60 ≤ (ptA ps k).y ∧ (ptA ps k).y ≤ 60)) : ∀ k, (-60 ≤ (bxN ps k).lx ∧ (bxN ps k).lx ≤ 60) ∧ (-60 ≤ (bxN ps k).ly ∧ (bxN ps k).ly ≤ 60) ∧ (-60 ≤ (bxN ps k).hx ∧ (bxN ps k).hx ≤ 60) ∧ (-60 ≤ (bxN ps k).hy ∧ (bxN ps k).hy ≤ 60)
  | 0 => ⟨(h 0).1, (h 0).2, (h 0).1, (h 0).2⟩
  | k + 1 => by
    obtain ⟨a, b, c, d⟩ := bxN_rng h k
    exact ⟨mn_rng a (h k).1, mn_rng b (h k).2, mx_rng c (h k).1, mx_rng d (h k).2⟩
def areaI (b : Bx) : Int := (b.hx - b.lx + 1) * (b.hy - b.ly + 1)
theorem areaI_rng {b : Bx} (h1 : -60 ≤ b.lx ∧ b.lx ≤ 60) (h2 : -60 ≤ b.ly ∧ b.ly ≤ 60) (h3 : -60 ≤ b.hx ∧ b.hx ≤ 60) (h4 : -60 ≤ b.hy ∧ b.hy ≤ 60) : -20000 ≤ areaI b ∧ areaI b ≤ 20000 := by
  unfold areaI
  obtain ⟨u, hu⟩ : ∃ u, b.hx - b.lx + 1 = u := ⟨_, rfl⟩
  obtain ⟨v, hv⟩ : ∃ v, b.hy - b.ly + 1 = v := ⟨_, rfl⟩
  rw [hu, hv]
  have u1 : -119 ≤ u := by omega
  have u2 : u ≤ 121 := by omega
  have v1 : -119 ≤ v := by omega
  have v2 : v ≤ 121 := by omega
  have a1 : 0 ≤ (u + 121) * (v + 121) := Int.mul_nonneg (by omega) (by omega)
  have a2 : 0 ≤ (121 - u) * (121 - v) := Int.mul_nonneg (by omega) (by omega)
  have a3 : 0 ≤ (u + 121) * (121 - v) := Int.mul_nonneg (by omega) (by omega)
  have a4 : 0 ≤ (121 - u) * (v + 121) := Int.mul_nonneg (by omega) (by omega)
  have e1 : (u + 121) * (v + 121) = u * v + 121 * u + 121 * v + 14641 := by rw [Int.add_mul, Int.mul_add, Int.mul_add]; omega
  have e2 : (121 - u) * (121 - v) = u * v - 121 * u - 121 * v + 14641 := by rw [Int.sub_mul, Int.mul_sub, Int.mul_sub]; omega
  have e3 : (u + 121) * (121 - v) = -(u * v) + 121 * u - 121 * v + 14641 := by rw [Int.add_mul, Int.mul_sub, Int.mul_sub]; omega
  have e4 : (121 - u) * (v + 121) = -(u * v) - 121 * u + 121 * v + 14641 := by rw [Int.sub_mul, Int.mul_add, Int.mul_add]; omega
  omega
end Go.Proofs.YtedihnokcpnikaaGreat
/- Walk: slices.Compact at a row of points that a call has made. -/



namespace Go.Proofs.YtedihnokcpnikaaGreat
open Go.RowKit Go.Shelf
attribute [local go_sem] BelowBy.cell BelowBy.cell_drew stillUpon givesUpon BelowBy.cell_drew2 BelowBy.cell_drew3

/-- the first of each run of equal points; q went before -/
def dedP : Option Pt → List Pt → List Pt
  | _, [] => []
  | q, a :: l => if q = some a then dedP (some a) l else a :: dedP (some a) l
theorem compact_ded (l : List Pt) : ∀ a : Pt, compactP (a :: l) = a :: dedP (some a) l := by
  induction l with
  | nil => intro a; rfl
  | cons b m ih =>
    intro a
    unfold compactP dedP
    by_cases h : a = b
    · subst h
      rw [if_pos rfl, if_pos rfl, ih]
    · have h2 : ¬ (some a = some b) := fun e => h (Option.some.inj e)
      rw [if_neg h, if_neg h2, ih]
theorem ded_compact (l : List Pt) : dedP none l = compactP l := by
  cases l with
  | nil => rfl
  | cons a l =>
    rw [compact_ded]
    show (if (none : Option Pt) = some a then dedP (some a) l else a :: dedP (some a) l) = _
    rw [if_neg (by simp)]
def lastQ (q : Option Pt) (L : List Pt) : Option Pt := match L.getLast? with
  | some a => some a
  | none => q
theorem ded_snoc (e : Pt) (L : List Pt) : ∀ q, dedP q (L ++ [e]) = dedP q L ++ (if lastQ q L = some e then [] else [e]) := by
  induction L with
  | nil =>
    intro q
    show dedP q [e] = [] ++ (if q = some e then [] else [e])
    unfold dedP
    split <;> simp [dedP]
  | cons a l ih =>
    intro q
    have hl : lastQ q (a :: l) = lastQ (some a) l := by
      unfold lastQ
      cases l with
      | nil => rfl
      | cons b m => rw [List.getLast?_cons_cons]; cases h : (b :: m).getLast? <;> simp_all
    rw [hl, List.cons_append]
    unfold dedP
    split
    · rw [ih]
    · rw [ih]; rfl
/-- of the first k -/
def keepD (bs : List Pt) (k : Nat) : List Pt := dedP none (bs.take k)
section
variable {bs : List Pt} {k : Nat} {d e : Pt}
theorem keepD_snoc (hk : bs[k]? = some e) : keepD bs (k + 1) = keepD bs k ++ (if lastQ none (bs.take k) = some e then [] else [e]) := by
  obtain ⟨hk', rfl⟩ := List.getElem?_eq_some_iff.1 hk
  unfold keepD; rw [List.take_succ_eq_append_getElem hk', ded_snoc]
theorem lastQ_take (hd : bs[k]? = some d) : lastQ none (bs.take (k + 1)) = some d := by
  obtain ⟨hk', rfl⟩ := List.getElem?_eq_some_iff.1 hd
  unfold lastQ; rw [List.take_succ_eq_append_getElem hk', List.getLast?_append]; simp
theorem keepD_one (h0 : bs[0]? = some e) : keepD bs 1 = [e] := by
  rw [keepD_snoc h0]; unfold keepD lastQ; simp [dedP]
theorem keepD_yes (hd : bs[k]? = some d) (he : bs[k + 1]? = some e) (h : e ≠ d) : keepD bs (k + 2) = keepD bs (k + 1) ++ [e] := by
  rw [keepD_snoc he, lastQ_take hd, if_neg (fun x => h (Option.some.inj x).symm)]
theorem keepD_no (hd : bs[k]? = some d) (he : bs[k + 1]? = some e) (h : e = d) : keepD bs (k + 2) = keepD bs (k + 1) := by
  rw [keepD_snoc he, lastQ_take hd, if_pos (by rw [h]), List.append_nil]
theorem keepD_len (bs : List Pt) : ∀ k, (keepD bs k).length ≤ k := by
  have : ∀ (l : List Pt) q, (dedP q l).length ≤ l.length := by
    intro l
    induction l with
    | nil => intro q; exact Nat.le_refl _
    | cons a l ih =>
      intro q; unfold dedP
      split
      · exact Nat.le_trans (ih _) (by simp)
      · simp only [List.length_cons]; have := ih (some a); omega
  exact fun k => Nat.le_trans (this _ _) (List.length_take_le _ _)
theorem keepD_all (bs : List Pt) : keepD bs bs.length = compactP bs := by unfold keepD; rw [List.take_length, ded_compact]
end
theorem pt_cases (e d : Pt) : e = d ∨ (e.x = d.x ∧ (e.y == d.y) = false) ∨ (e.x == d.x) = false := by
  by_cases hx : e.x = d.x
  · by_cases hy : e.y = d.y
    · left; cases e; cases d; simp only at hx hy; subst hx; subst hy; rfl
    · right; left; exact ⟨hx, by simpa using hy⟩
  · right; right; simpa using hx
set_option maxHeartbeats 1000000 in
theorem CompactNil_any (c : Nat) (w : World) :
    Calls Tryz.prog 151 #[.slice none 0 c] w fun e w' => e = .returned (.slice none 0 c) ∧ Below w.heap.size w w' := by
  go_enter Tryz.func151, Tryz.ntmps151
  go_wp2
  go_ret
  exact ⟨rfl, bl_refl _⟩
set_option maxRecDepth 100000 in
set_option maxHeartbeats 4000000 in
theorem CompactPt_any (base g cap : Nat) (bs : List Pt) (w : World) (hrow : w.ownsRow base 44 2 (.slice (some ⟨g, 0, none⟩) bs.length cap) bs.length (ptCells bs)) (hn0 : 0 < bs.length) (hn : bs.length ≤ 1000000) :
    Calls Tryz.prog 151 #[.slice (some ⟨g, 0, none⟩) bs.length cap] w (DelPt base g w (compactP bs)) := by
  rw [← keepD_all bs]
  have rdb : RdSl 2 RPt w (some ⟨g, 0, none⟩) bs.length bs := by
    obtain ⟨A, c, e, hr⟩ := rdPt_of_row hrow
    injection e with e1
    subst e1
    exact hr
  obtain ⟨n, hnn⟩ : ∃ n, bs.length = n := ⟨_, rfl⟩
  rw [hnn] at hn0 hn rdb hrow
  rw [hnn]
  have hnnH := Lib.hid hnn
  have rowH := Lib.hid hrow
  have rdH := Lib.hid rdb
  obtain ⟨b0, hb0⟩ : ∃ e, bs[0]? = some e := ⟨_, List.getElem?_eq_getElem (by rw [hnn]; exact hn0)⟩
  have hk1 := Lib.hid (show keepD bs 1 = bs.take 1 by rw [keepD_one hb0]; cases bs with
    | nil => cases hb0
    | cons a l => simp at hb0; subst hb0; rfl)
  rcases hrow.2 with ⟨h0, h0'⟩ | ⟨g', cap', cur, hv, hb, hh, hnc, hm, hs, ht⟩
  · omega
  obtain ⟨rfl, rfl⟩ : g = g' ∧ cap = cap' := by injection hv with a1 a2 a3; injection a1 with a1; injection a1 with a1; exact ⟨a1, a3⟩
  have hgl : g < w.heap.size := (Array.getElem?_eq_some_iff.1 hh).1
  have hrow1 : w.rowIs g 44 (cap * 2) (fun i => cur.getD i undef) := by
    refine ⟨cur, hh, hs, fun i hi => ?_⟩
    have : i < cur.size := by omega
    simp [this]
  have hget : ∀ q b, bs[q]? = some b → q < n → cur.getD (q * 2) undef = .int .i64 b.x ∧ cur.getD (q * 2 + 1) undef = .int .i64 b.y := by
    intro q b hq hqn
    obtain ⟨x0, x1⟩ := ptCells_get bs q b hq
    rw [← ht, List.getElem?_take_of_lt (by omega)] at x0 x1
    simp only [Array.getElem?_toList] at x0 x1
    simp [Array.getD_eq_getD_getElem?, x0, x1]
  obtain ⟨F0, hF0⟩ : ∃ F : Nat → Pt, ∀ q b, bs[q]? = some b → F q = b := ⟨fun q => match bs[q]? with | some b => b | none => ⟨0, 0⟩, fun q b h => by simp only [h]⟩
  have hf0 : Hid (∀ q, q < n → (fun i => cur.getD i undef) (q * 2) = .int .i64 (F0 q).x ∧ (fun i => cur.getD i undef) (q * 2 + 1) = .int .i64 (F0 q).y) := Lib.hid fun q hq => by
    obtain ⟨b, hqb⟩ : ∃ b, bs[q]? = some b := ⟨_, List.getElem?_eq_getElem (by rw [hnnH.out]; exact hq)⟩
    rw [hF0 q b hqb]
    exact hget q b hqb hq
  have hF0H := Lib.hid hF0
  have hrow1H := Lib.hid hrow1
  have hmO := Lib.hid hm
  have hbg := Lib.hid hb
  have hptn : ∀ q, q < n → ∃ e, bs[q]? = some e := fun q hq => ⟨_, List.getElem?_eq_getElem (by rw [hnnH.out]; exact hq)⟩
  have hptH := Lib.hid hptn
  clear rdb hrow hnn hb0 hb hh hm hs ht hget hF0 hrow1 hv hptn
  by_cases hn2 : n < 2
  · obtain rfl : n = 1 := by omega
    go_enter Tryz.func151, Tryz.ntmps151
    go_wp2
    go_ret
    refine DelPt.of ?_ ?_ (Gb.refl g w)
    · rw [hk1.out, List.length_take, hnnH.out]; rfl
    · rw [hk1.out, List.take_of_length_le (by rw [hnnH.out]; exact Nat.le_refl _)]; exact rowH.out
  · go_enter Tryz.func151, Tryz.ntmps151
    go_wp2
    go_loopg [3] (n - 1) (fun r x wr => ∃ k : Nat, k + r = n ∧ 1 ≤ k ∧ x = .int .i64 (k : Int) ∧ Hid (keepD bs k = bs.take k) ∧ Hid (Below w.heap.size w wr))
    case atStart => exact ⟨1, by omega, by omega, by go_num, hk1, Lib.hid (bl_refl _)⟩
    case round =>
      obtain ⟨k, hk, hk0, rfl, hkeep, hbw⟩ := hrel
      obtain ⟨j, hkj⟩ : ∃ j, k = j + 1 := ⟨k - 1, by omega⟩
      have hrw := hrow1H.out.of_block (hbw.out.block g hgl)
      have hgw : g < wr.heap.size := hrw.lt
      by_cases hlt : k < n
      · obtain ⟨e, he⟩ := hptH.out k hlt
        obtain ⟨d, hd⟩ := hptH.out j (by omega)
        obtain ⟨v0, v1⟩ := hf0.out k hlt
        obtain ⟨u0, u1⟩ := hf0.out j (by omega)
        rw [hF0H.out _ _ he] at v0 v1
        rw [hF0H.out _ _ hd] at u0 u1
        have c0 := hrw.cell (i := k * 2) (by omega)
        have c1 := hrw.cell (i := k * 2 + 1) (by omega)
        have d0 := hrw.cell (i := j * 2) (by omega)
        have d1 := hrw.cell (i := j * 2 + 1) (by omega)
        rw [v0] at c0
        rw [v1] at c1
        rw [u0] at d0
        rw [u1] at d1
        have hgm : (k : Int) - 1 = (j : Int) := by omega
        have hwr : IntKind.i64.wrap (j : Int) = (j : Int) := wrap_in (by omega) (by omega)
        have hjn : j < n := by omega
        have hjn2 : (j : Int) < (n : Int) := by omega
        have hkn2 : (k : Int) < (n : Int) := by omega
        have hkjH := Lib.hid hkj
        have heH := Lib.hid (show bs[j + 1]? = some e by rw [← hkj]; exact he)
        have hdH := Lib.hid hd
        have hrwH := Lib.hid hrw
        have hkeepH := Lib.hid (show keepD bs (j + 1) = bs.take (j + 1) by rw [← hkj]; exact hkeep.out)
        have htk := Lib.hid (show bs.take (k + 1) = bs.take (j + 1) ++ [e] by rw [List.take_add_one, he, hkj]; rfl)
        clear v0 v1 u0 u1 he hd hrw hkj hkeep
        rcases pt_cases e d with rfl | ⟨hx, hy⟩ | hx
        · have hnx := Lib.hid (keepD_no hdH.out heH.out rfl)
          have hil := Lib.hid (show k = (keepD bs (k + 1)).length by rw [hkjH.out, hnx.out, hkeepH.out, List.length_take, hnnH.out]; have := hkjH.out; omega)
          have hst : Hid (k = (keepD bs (k + 1)).length ∧ (∀ q b, (keepD bs (k + 1))[q]? = some b → F0 q = b) ∧ (∀ q b, k ≤ q → bs[q]? = some b → F0 q = b)) := by
            refine Lib.hid ⟨hil.out, fun q b hq => ?_, fun q b _ hq => hF0H.out q b hq⟩
            rw [hkjH.out, hnx.out, hkeepH.out, List.getElem?_take] at hq
            split at hq
            · exact hF0H.out q b hq
            · cases hq
          have hbwO := hbw.out
          have hrwO := hrwH.out
          obtain ⟨wo, hwo⟩ : ∃ wo : World, wo = wr := ⟨_, rfl⟩
          subst hwo
          go_wp2
          refine wp_region_ord [(0, .q), (1, .q), (2, .q), (3, .q), (4, .q), (5, .q), (6, .q), (7, .q), (8, .q), (9, .q)] (by kernel_rfl) (by kernel_rfl) ?_
          simp only [pick, List.filterMap_cons, List.filterMap_nil, List.getElem?_toArray, List.getElem?_cons_zero, List.getElem?_cons_succ, Option.map_some]
          repeat (first
            | ((with_reducible refine wpD_p (fun K hK => ?_)); go_simp; refine hK _ ?_; clear hK K)
            | ((with_reducible refine wpD_q (fun K hK => ?_)); go_simp; (first | refine hK _ ?_ | (go_bits; refine hK _ ?_) | (go_bits; go_simp; refine hK _ ?_)); clear hK K)
            | ((with_reducible refine wpD_g (fun K hK => ?_)); go_simp; refine hK _ _ ?_; clear hK K)
            | ((with_reducible refine wpD_g (fun K hK => ?_)); go_simp; refine ⟨Grew.of_alloc _, hK _ _ ?_⟩; clear hK K))
          with_reducible refine wpD_nil ?_
          go_wp2
          clear c0 c1 d0 d1
          go_loopg [3, 5] (n - (k + 1)) (fun r x y wz => ∃ (i j m : Nat) (F : Nat → Pt) (f' : Nat → Value), j + r = n ∧ i < j ∧ k + m = j ∧ 1 ≤ m ∧ x = .int .i64 (i : Int) ∧ y = .int .i64 (m : Int) ∧ Hid (i = (keepD bs j).length ∧ (∀ q b, (keepD bs j)[q]? = some b → F q = b) ∧ (∀ q b, j - 1 ≤ q → bs[q]? = some b → F q = b)) ∧ wz.rowIs g 44 (cap * 2) f' ∧ Hid (∀ q, q < n → f' (q * 2) = .int .i64 (F q).x ∧ f' (q * 2 + 1) = .int .i64 (F q).y) ∧ Hid (Gb g w wz))
          case atStart => exact ⟨k, k + 1, 1, F0, _, by omega, by omega, by omega, by omega, rfl, by go_num, hst, hrwO, hf0, Lib.hid (Gb.of_below (by exact bel_))⟩
          case round =>
            clear hrwO hbwO hst
            obtain ⟨i, t, m, F, f', hj, hij, hm, hm1, rfl, rfl, hst', hrz, hf, hbz⟩ := hrel
            obtain ⟨mp, hmp⟩ : ∃ mp, m = mp + 1 := ⟨m - 1, by omega⟩
            have hgz : g < wr.heap.size := hrz.lt
            by_cases hlt2 : t < n
            · obtain ⟨e1, he1⟩ := hptH.out t hlt2
              obtain ⟨d1, hd1⟩ := hptH.out (k + mp) (by omega)
              obtain ⟨v0, v1⟩ := hf.out t hlt2
              obtain ⟨u0, u1⟩ := hf.out (k + mp) (by omega)
              rw [hst'.out.2.2 _ _ (by omega) he1] at v0 v1
              rw [hst'.out.2.2 _ _ (by omega) hd1] at u0 u1
              have c0 := hrz.cell (i := k * 2 + m * 2) (by omega)
              have c1 := hrz.cell (i := k * 2 + m * 2 + 1) (by omega)
              have d0 := hrz.cell (i := k * 2 + mp * 2) (by omega)
              have d2 := hrz.cell (i := k * 2 + mp * 2 + 1) (by omega)
              rw [show k * 2 + m * 2 = t * 2 by omega, v0, ← show k * 2 + m * 2 = t * 2 by omega] at c0
              rw [show k * 2 + m * 2 + 1 = t * 2 + 1 by omega, v1, ← show k * 2 + m * 2 + 1 = t * 2 + 1 by omega] at c1
              rw [show k * 2 + mp * 2 = (k + mp) * 2 by omega, u0, ← show k * 2 + mp * 2 = (k + mp) * 2 by omega] at d0
              rw [show k * 2 + mp * 2 + 1 = (k + mp) * 2 + 1 by omega, u1, ← show k * 2 + mp * 2 + 1 = (k + mp) * 2 + 1 by omega] at d2
              have hgm : (m : Int) - 1 = (mp : Int) := by omega
              have hwr : IntKind.i64.wrap (mp : Int) = (mp : Int) := wrap_in (by omega) (by omega)
              have hmn : m < n - k := by omega
              have hmn2 : mp < n - k := by omega
              have hein := Lib.hid he1
              have hdin := Lib.hid hd1
              have hmpH := Lib.hid hmp
              have w0 := hrz.cell (i := i * 2) (by omega)
              have w1 := hrz.cell (i := i * 2 + 1) (by omega)
              have k0 := hrz.frozen (i * 2)
              have k1 := hrz.frozen (i * 2 + 1)
              have hin : i < n := by omega
              have hrzH := Lib.hid hrz
              have hbzO := hbz.out
              have hts := Lib.hid (show bs[(k + mp) + 1]? = some e1 by rw [show (k + mp) + 1 = t by omega]; exact he1)
              have htt := Lib.hid (show (k + mp) + 1 = t by omega)
              clear v0 v1 u0 u1 he1 hd1 hmp hrz
              rcases pt_cases e1 d1 with rfl | ⟨hx, hy⟩ | hx
              · go_wp2
                refine wp_region_ord [(0, .q), (1, .q), (2, .q), (3, .q), (4, .q), (5, .q), (6, .q), (7, .q), (8, .q), (9, .q)] (by kernel_rfl) (by kernel_rfl) ?_
                simp only [pick, List.filterMap_cons, List.filterMap_nil, List.getElem?_toArray, List.getElem?_cons_zero, List.getElem?_cons_succ, Option.map_some]
                repeat (first
                  | ((with_reducible refine wpD_p (fun K hK => ?_)); go_simp; refine hK _ ?_; clear hK K)
                  | ((with_reducible refine wpD_q (fun K hK => ?_)); go_simp; (first | refine hK _ ?_ | (go_bits; refine hK _ ?_) | (go_bits; go_simp; refine hK _ ?_)); clear hK K)
                  | ((with_reducible refine wpD_g (fun K hK => ?_)); go_simp; refine hK _ _ ?_; clear hK K)
                  | ((with_reducible refine wpD_g (fun K hK => ?_)); go_simp; refine ⟨Grew.of_alloc _, hK _ _ ?_⟩; clear hK K))
                with_reducible refine wpD_nil ?_
                go_wp2
                go_roundg (n - (t + 1))
                case measure => omega
                case rel =>
                  have hnx := keepD_no hdin.out hts.out rfl
                  have e2 : k + mp + 2 = t + 1 := by have := htt.out; omega
                  rw [e2, htt.out] at hnx
                  exact ⟨i, t + 1, m + 1, F, f', by omega, by omega, by omega, by omega, rfl, by go_num, Lib.hid ⟨by rw [hnx]; exact hst'.out.1, fun q b hq => by rw [hnx] at hq; exact hst'.out.2.1 q b hq, fun q b hq hb => hst'.out.2.2 q b (by omega) hb⟩, hrzH.out, hf, Lib.hid (Gb.below hbzO (by exact bel_))⟩
              · go_wp2
                refine wp_region_ord [(0, .q), (1, .q), (2, .q), (3, .q), (4, .q), (5, .q), (6, .q), (7, .q), (8, .q), (9, .q)] (by kernel_rfl) (by kernel_rfl) ?_
                simp only [pick, List.filterMap_cons, List.filterMap_nil, List.getElem?_toArray, List.getElem?_cons_zero, List.getElem?_cons_succ, Option.map_some]
                repeat (first
                  | ((with_reducible refine wpD_p (fun K hK => ?_)); go_simp; refine hK _ ?_; clear hK K)
                  | ((with_reducible refine wpD_q (fun K hK => ?_)); go_simp; (first | refine hK _ ?_ | (go_bits; refine hK _ ?_) | (go_bits; go_simp; refine hK _ ?_)); clear hK K)
                  | ((with_reducible refine wpD_g (fun K hK => ?_)); go_simp; refine hK _ _ ?_; clear hK K)
                  | ((with_reducible refine wpD_g (fun K hK => ?_)); go_simp; refine ⟨Grew.of_alloc _, hK _ _ ?_⟩; clear hK K))
                with_reducible refine wpD_nil ?_
                go_wp2
                go_roundg (n - (t + 1))
                case measure => omega
                case rel =>
                  have hnx := keepD_yes hdin.out hts.out (fun h => by subst h; simp at hy)
                  have e2 : k + mp + 2 = t + 1 := by have := htt.out; omega
                  rw [e2, htt.out] at hnx
                  have hnxH := Lib.hid hnx
                  exact ⟨i + 1, t + 1, m + 1, fun q => if q = i then e1 else F q, _, by omega, by omega, by omega, by omega, by go_num, by go_num, Lib.hid ⟨by
                    rw [hnxH.out, List.length_append, ← hst'.out.1]; rfl, fun q b hq => by
                    rw [hnxH.out] at hq
                    have hil := hst'.out.1
                    rcases Nat.lt_or_ge q i with hqi | hqi
                    · rw [List.getElem?_append_left (by omega)] at hq
                      show (if q = i then e1 else F q) = b
                      rw [if_neg (by omega)]; exact hst'.out.2.1 q b hq
                    · rw [List.getElem?_append_right (by omega)] at hq
                      have : q - (keepD bs t).length = 0 := by
                        rcases Nat.eq_zero_or_pos (q - (keepD bs t).length) with h0 | h0
                        · exact h0
                        · rw [List.getElem?_eq_none (by simp; omega)] at hq; cases hq
                      rw [this] at hq
                      show (if q = i then e1 else F q) = b
                      rw [if_pos (by omega)]; simpa using hq, fun q b hq hb => by
                    show (if q = i then e1 else F q) = b
                    rw [if_neg (by omega)]; exact hst'.out.2.2 q b (by omega) hb⟩, (hrzH.out.set (i * 2) _).set (i * 2 + 1) _, Lib.hid (fun q hq => by
                    obtain ⟨u0, u1⟩ := hf.out q hq
                    by_cases hqi : q = i
                    · subst hqi
                      simp
                      exact hx.symm
                    · rw [if_neg (by omega), if_neg (by omega), if_neg (by omega), if_neg (by omega)]
                      show f' (q * 2) = Value.int .i64 (if q = i then e1 else F q).x ∧ f' (q * 2 + 1) = Value.int .i64 (if q = i then e1 else F q).y
                      rw [if_neg hqi]
                      exact ⟨u0, u1⟩), Lib.hid (Gb.below ((hbzO.set (i * 2) _).set (i * 2 + 1) _) (by exact bel_))⟩
              · go_wp2
                refine wp_region_ord [(0, .q), (1, .q), (2, .q), (3, .q), (4, .q), (5, .q), (6, .q), (7, .q), (8, .q), (9, .q)] (by kernel_rfl) (by kernel_rfl) ?_
                simp only [pick, List.filterMap_cons, List.filterMap_nil, List.getElem?_toArray, List.getElem?_cons_zero, List.getElem?_cons_succ, Option.map_some]
                repeat (first
                  | ((with_reducible refine wpD_p (fun K hK => ?_)); go_simp; refine hK _ ?_; clear hK K)
                  | ((with_reducible refine wpD_q (fun K hK => ?_)); go_simp; (first | refine hK _ ?_ | (go_bits; refine hK _ ?_) | (go_bits; go_simp; refine hK _ ?_)); clear hK K)
                  | ((with_reducible refine wpD_g (fun K hK => ?_)); go_simp; refine hK _ _ ?_; clear hK K)
                  | ((with_reducible refine wpD_g (fun K hK => ?_)); go_simp; refine ⟨Grew.of_alloc _, hK _ _ ?_⟩; clear hK K))
                with_reducible refine wpD_nil ?_
                go_wp2
                go_roundg (n - (t + 1))
                case measure => omega
                case rel =>
                  have hnx := keepD_yes hdin.out hts.out (fun h => by subst h; simp at hx)
                  have e2 : k + mp + 2 = t + 1 := by have := htt.out; omega
                  rw [e2, htt.out] at hnx
                  have hnxH := Lib.hid hnx
                  exact ⟨i + 1, t + 1, m + 1, fun q => if q = i then e1 else F q, _, by omega, by omega, by omega, by omega, by go_num, by go_num, Lib.hid ⟨by
                    rw [hnxH.out, List.length_append, ← hst'.out.1]; rfl, fun q b hq => by
                    rw [hnxH.out] at hq
                    have hil := hst'.out.1
                    rcases Nat.lt_or_ge q i with hqi | hqi
                    · rw [List.getElem?_append_left (by omega)] at hq
                      show (if q = i then e1 else F q) = b
                      rw [if_neg (by omega)]; exact hst'.out.2.1 q b hq
                    · rw [List.getElem?_append_right (by omega)] at hq
                      have : q - (keepD bs t).length = 0 := by
                        rcases Nat.eq_zero_or_pos (q - (keepD bs t).length) with h0 | h0
                        · exact h0
                        · rw [List.getElem?_eq_none (by simp; omega)] at hq; cases hq
                      rw [this] at hq
                      show (if q = i then e1 else F q) = b
                      rw [if_pos (by omega)]; simpa using hq, fun q b hq hb => by
                    show (if q = i then e1 else F q) = b
                    rw [if_neg (by omega)]; exact hst'.out.2.2 q b (by omega) hb⟩, (hrzH.out.set (i * 2) _).set (i * 2 + 1) _, Lib.hid (fun q hq => by
                    obtain ⟨u0, u1⟩ := hf.out q hq
                    by_cases hqi : q = i
                    · subst hqi
                      simp
                    · rw [if_neg (by omega), if_neg (by omega), if_neg (by omega), if_neg (by omega)]
                      show f' (q * 2) = Value.int .i64 (if q = i then e1 else F q).x ∧ f' (q * 2 + 1) = Value.int .i64 (if q = i then e1 else F q).y
                      rw [if_neg hqi]
                      exact ⟨u0, u1⟩), Lib.hid (Gb.below ((hbzO.set (i * 2) _).set (i * 2 + 1) _) (by exact bel_))⟩
            · obtain rfl : t = n := by omega
              have hcl := fun (ty : TypeId) => run_clear_rowsQ (P := Tryz.prog) wr 51 44 ty _ Tryz.underlying51 Tryz.zeroValue44 g (i * 2) (t - i) (cap - i) (by omega) (fun q hq => by rw [hrz.cell (i := i * 2 + q) (by simp [Value.cells] at hq; omega)]; rfl) (fun q hq => hrz.frozen _) (zero2Q _)
              have hci : ¬ cap = i := by omega
              have hmge : t - k ≤ m := by omega
              have hin : i ≤ t := by omega
              have hrzH := Lib.hid hrz
              clear hrz hmp hm
              go_wp2
              go_ret
              obtain ⟨zs, hzs⟩ : ∃ zs, (Builtin.zeroCells #[Value.int .i64 0, Value.int .i64 0] (t - i)).toList = zs := ⟨_, rfl⟩
              rw [hzs]
              have hrw3 := Go.rowIs_setCells zs (i * 2) wr f' hrzH.out
              have hil := hst'.out.1
              have hfin := hst'.out.2.1
              refine DelPt.of hil (owns_of_rowQ hrw3 rfl hbg.out (by omega) hmO.out (by rw [ptCells_len, hil]) (fun q u hq => ?_)) (hbz.out.sets (i * 2) zs)
              have hqlt := lt_of_get hq
              rw [ptCells_len] at hqlt
              obtain ⟨e, he⟩ : ∃ e, (keepD bs t)[q / 2]? = some e := ⟨_, List.getElem?_eq_getElem (by omega)⟩
              have hFq := hfin (q / 2) e he
              obtain ⟨u0, u1⟩ := hf.out (q / 2) (by omega)
              obtain ⟨y0, y1⟩ := ptCells_get _ (q / 2) e he
              rw [hFq] at u0 u1
              rw [hrw3.cell (i := q) (by omega), if_neg (by omega)]
              rcases (show q % 2 = 0 ∨ q % 2 = 1 by omega) with h2 | h2
              · have e1 : q / 2 * 2 = q := by omega
                rw [e1] at u0 y0
                rw [u0, ← y0, hq]
              · have e1 : q / 2 * 2 + 1 = q := by omega
                rw [e1] at u1 y1
                rw [u1, ← y1, hq]
        · have hnx := Lib.hid (keepD_yes hdH.out heH.out (fun h => by subst h; simp at hy))
          go_wp2
          refine wp_region_ord [(0, .q), (1, .q), (2, .q), (3, .q), (4, .q), (5, .q), (6, .q), (7, .q), (8, .q), (9, .q)] (by kernel_rfl) (by kernel_rfl) ?_
          simp only [pick, List.filterMap_cons, List.filterMap_nil, List.getElem?_toArray, List.getElem?_cons_zero, List.getElem?_cons_succ, Option.map_some]
          repeat (first
            | ((with_reducible refine wpD_p (fun K hK => ?_)); go_simp; refine hK _ ?_; clear hK K)
            | ((with_reducible refine wpD_q (fun K hK => ?_)); go_simp; (first | refine hK _ ?_ | (go_bits; refine hK _ ?_) | (go_bits; go_simp; refine hK _ ?_)); clear hK K)
            | ((with_reducible refine wpD_g (fun K hK => ?_)); go_simp; refine hK _ _ ?_; clear hK K)
            | ((with_reducible refine wpD_g (fun K hK => ?_)); go_simp; refine ⟨Grew.of_alloc _, hK _ _ ?_⟩; clear hK K))
          with_reducible refine wpD_nil ?_
          go_wp2
          go_roundg (n - (k + 1))
          case measure => omega
          case rel => exact ⟨k + 1, by omega, by omega, by go_num, Lib.hid (by rw [htk.out, hkjH.out, hnx.out, hkeepH.out]), Lib.hid (by have hbwO := hbw.out; exact bel_)⟩
        · have hnx := Lib.hid (keepD_yes hdH.out heH.out (fun h => by subst h; simp at hx))
          go_wp2
          refine wp_region_ord [(0, .q), (1, .q), (2, .q), (3, .q), (4, .q), (5, .q), (6, .q), (7, .q), (8, .q), (9, .q)] (by kernel_rfl) (by kernel_rfl) ?_
          simp only [pick, List.filterMap_cons, List.filterMap_nil, List.getElem?_toArray, List.getElem?_cons_zero, List.getElem?_cons_succ, Option.map_some]
          repeat (first
            | ((with_reducible refine wpD_p (fun K hK => ?_)); go_simp; refine hK _ ?_; clear hK K)
            | ((with_reducible refine wpD_q (fun K hK => ?_)); go_simp; (first | refine hK _ ?_ | (go_bits; refine hK _ ?_) | (go_bits; go_simp; refine hK _ ?_)); clear hK K)
            | ((with_reducible refine wpD_g (fun K hK => ?_)); go_simp; refine hK _ _ ?_; clear hK K)
            | ((with_reducible refine wpD_g (fun K hK => ?_)); go_simp; refine ⟨Grew.of_alloc _, hK _ _ ?_⟩; clear hK K))
          with_reducible refine wpD_nil ?_
          go_wp2
          go_roundg (n - (k + 1))
          case measure => omega
          case rel => exact ⟨k + 1, by omega, by omega, by go_num, Lib.hid (by rw [htk.out, hkjH.out, hnx.out, hkeepH.out]), Lib.hid (by have hbwO := hbw.out; exact bel_)⟩
      · obtain rfl : k = n := by omega
        go_wp2
        go_ret
        refine DelPt.of ?_ ?_ (Gb.of_below hbw.out)
        · rw [hkeep.out, List.length_take, hnnH.out]; omega
        · rw [hkeep.out, List.take_of_length_le (by rw [hnnH.out]; exact Nat.le_refl _)]; exact ownsRow_below rowH.out hbw.out
end Go.Proofs.YtedihnokcpnikaaGreat
/- Walks: a row of points in order and without equals. -/



namespace Go.Proofs.YtedihnokcpnikaaGreat
open Go.RowKit Go.Shelf
attribute [local go_sem] BelowBy.cell BelowBy.cell_drew stillUpon givesUpon

theorem ptCells_of_rd {w : World} {b o : Nat} {xs : List Pt} (h : ∀ k e, xs[k]? = some e → RPt w b (o + k * 2) e) : ∀ j u, (ptCells xs)[j]? = some u → w.cell? ((⟨b, o, none⟩ : Addr).add j) = some u := by
  intro j u hj
  have hlt := (List.getElem?_eq_some_iff.1 hj).1
  rw [ptCells_len] at hlt
  obtain ⟨k, hk⟩ : ∃ k, j / 2 = k := ⟨_, rfl⟩
  obtain ⟨e, he⟩ : ∃ e, xs[k]? = some e := ⟨_, List.getElem?_eq_getElem (by omega)⟩
  obtain ⟨g0, g1⟩ := ptCells_get xs _ e he
  obtain ⟨c0, c1⟩ := h _ e he
  rw [Addr.add_lit]
  have : j = k * 2 ∨ j = k * 2 + 1 := by omega
  rcases this with rfl | rfl
  · rw [← Option.some.inj (g0.symm.trans hj)]; exact c0
  · rw [← Option.some.inj (g1.symm.trans hj), ← Nat.add_assoc]; exact c1
def OwnPts (w : World) (bs : List Pt) (e : Ending) (w' : World) : Prop := ∃ v, e = .returned v ∧ w'.ownsRow w.heap.size 44 2 v bs.length (ptCells bs) ∧ Below w.heap.size w w'
set_option maxRecDepth 100000 in
set_option maxHeartbeats 1000000 in
theorem CloneNil_any (w : World) :
    Calls Tryz.prog 149 #[.slice none 0 0] w fun e w' => e = .returned (.slice none 0 0) ∧ Below w.heap.size w w' := by
  obtain ⟨i0, hi, hz0, hz1, hz2⟩ := info_parts infoPtQ
  have hq := fun W => Lib.run_eql_slice_nil (P := Tryz.prog) W 51 44 none 0 0 0 0 Tryz.underlying51
  go_enter Tryz.func149, Tryz.ntmps149
  go_wp2
  go_ret
  exact ⟨rfl, bl_refl _⟩
set_option maxRecDepth 100000 in
set_option maxHeartbeats 1000000 in
theorem ClonePt_any (ad : Addr) (n c : Nat) (bs : List Pt) (w : World) (h : RdSl 2 RPt w (some ad) n bs) (hn : n ≤ 1000000) :
    Calls Tryz.prog 149 #[.slice (some ad) n c] w (OwnPts w bs) := by
  obtain ⟨i0, hi, hz0, hz1, hz2⟩ := info_parts infoPtQ
  have hl := h.len
  have hq := fun W => Lib.run_eql_slice_nil (P := Tryz.prog) W 51 44 (some ad) n c 0 0 Tryz.underlying51
  have hcl : (∀ (ob : Obj) j u, (ptCells bs)[j]? = some u → (w.alloc ob).cell? (ad.add j) = some u) := fun ob j u hj => by
    have hlt := (List.getElem?_eq_some_iff.1 hj).1
    rw [ptCells_len] at hlt
    obtain ⟨b, o, e, hb, hc⟩ := h.ptr (by omega)
    injection e with e
    subst e
    refine Eq.trans (World.cell?_alloc_lt _ _ _ ?_) (ptCells_of_rd hc j u hj)
    rw [Addr.add_lit]; exact hb
  have hclH := Lib.hid hcl
  have hlH := Lib.hid hl
  have hlen := ptCells_len bs
  rw [hl] at hlen
  have hlenH := Lib.hid hlen
  clear h hl hcl hlen
  go_enter Tryz.func149, Tryz.ntmps149
  go_wp2_with (at_builtin; go_loud (refine wpList_append_own _ rfl _ _ 51 rfl w.heap.size 44 i0 (.agg #[.int .i64 0, .int .i64 0]) 2 16 Tryz.underlying51 hi hz0 hz1 hz2 rfl (by decide) _ 0 [] rfl (World.ownsRow_made _ _ _ (Nat.le_refl _) (by decide) rfl) ad n c (ptCells bs) rfl hlenH.out (fun j u hj => hclH.out _ j u hj) (ptCells_one bs) (by unfold maxLen; omega) (by omega) (by simp) ?_); intro v' w3 hown' hgrow _)
  go_ret
  refine ⟨_, rfl, ?_, ((Below.refl w.heap.size w).alloc (Nat.le_refl _) _).grown hgrow (by simp) (fun b' hb' => ?_)⟩
  · rw [hlH.out]
    simpa using hown'
  · have hb2 : some w.heap.size = some b' := hb'
    injection hb2 with hb3
    exact Nat.le_of_eq hb3
set_option maxRecDepth 100000 in
theorem insNil_any (c : Nat) (fv : Value) (w : World) :
    Calls Tryz.prog 184 #[.slice none 0 c, .int .i64 0, .int .i64 0, fv] w fun e w' => e = .returned (.tuple #[]) ∧ Below w.heap.size w w' := by
  go_enter Tryz.func184, Tryz.ntmps184
  go_wp2
  go_loopg [8] 1 (fun g x wr => g = 1 ∧ x = .int .i64 1 ∧ Below w.heap.size w wr)
  case atStart => exact ⟨rfl, by go_num, bl_refl _⟩
  case round =>
    obtain ⟨hg, rfl, hb⟩ := hrel
    go_wp2
    go_end0
    exact ⟨rfl, hb⟩
set_option maxRecDepth 100000 in
theorem pdqNil_any (c : Nat) (l : Int) (fv : Value) (w : World) :
    Calls Tryz.prog 161 #[.slice none 0 c, .int .i64 0, .int .i64 0, .int .i64 l, fv] w fun e w' => e = .returned (.tuple #[]) ∧ Below w.heap.size w w' := by
  go_enter Tryz.func161, Tryz.ntmps161
  go_wp2
  go_loopg [1, 2] 1 (fun g x y wr => g = 1 ∧ x = .int .i64 0 ∧ y = .int .i64 0 ∧ Below w.heap.size w wr)
  case atStart => exact ⟨rfl, rfl, rfl, bl_refl _⟩
  case round =>
    obtain ⟨hg, rfl, rfl, hb⟩ := hrel
    go_wp2_with (go_at_call 184; refine (insNil_any _ _ _).mono ?_; rintro e w1 ⟨rfl, hb1⟩; have hb1H := Lib.hid hb1; clear hb1)
    (try simp only [Exit.inBlock, Exit.then])
    refine bodyPost_ret (results_none rfl _ _ _) rfl ?_
    exact ⟨rfl, hb.trans (hb1H.out.mono hb.size)⟩
set_option maxRecDepth 100000 in
theorem bitsLen_zero (w : World) :
    Calls Tryz.prog 160 #[.int .u64 0] w fun e w' => (∃ l, e = .returned (.int .i64 l)) ∧ Below w.heap.size w w' := by
  go_enter Tryz.func160, Tryz.ntmps160
  go_wp2
  go_ret
  exact ⟨⟨_, rfl⟩, bl_refl _⟩
set_option maxRecDepth 100000 in
theorem SortNil_any (c : Nat) (fv : Value) (w : World) :
    Calls Tryz.prog 150 #[.slice none 0 c, fv] w fun e w' => e = .returned (.tuple #[]) ∧ Below w.heap.size w w' := by
  go_enter Tryz.func150, Tryz.ntmps150
  go_wp2_with (first
    | (go_at_call 160; refine (bitsLen_zero _).mono ?_; rintro e w1 ⟨⟨l, rfl⟩, hb1⟩; have hb1H := Lib.hid hb1; clear hb1)
    | (go_at_call 161; refine (pdqNil_any _ _ _ _).mono ?_; rintro e w2 ⟨rfl, hb2⟩; have hb2H := Lib.hid hb2; clear hb2))
  go_end0
  exact ⟨rfl, hb1H.out.trans (hb2H.out.mono hb1H.out.size)⟩
set_option maxRecDepth 100000 in
set_option maxHeartbeats 1000000 in
theorem shapeNil_any (w : World) :
    Calls Tryz.prog 132 #[.slice none 0 0] w (OwnPts w []) := by
  go_enter Tryz.func132, Tryz.ntmps132
  go_wp2_with (first
    | (go_at_call 149; refine (CloneNil_any _).mono ?_; rintro e w1 ⟨rfl, hb1⟩; have hb1H := Lib.hid hb1; clear hb1)
    | (go_at_call 150; refine (SortNil_any _ _ _).mono ?_; rintro e w2 ⟨rfl, hb2⟩; have hb2H := Lib.hid hb2; clear hb2)
    | (go_at_call 151; refine (CompactNil_any _ _).mono ?_; rintro e w3 ⟨rfl, hb3⟩; have hb3H := Lib.hid hb3; clear hb3))
  go_ret
  exact ⟨_, rfl, World.ownsRow_nil _ _ _ _, hb1H.out.trans ((hb2H.out.trans (hb3H.out.mono hb2H.out.size)).mono hb1H.out.size)⟩
theorem sortP_mem {L : List Pt} {p : Pt} : p ∈ sortP L ↔ p ∈ L := List.mem_mergeSort
theorem sortP_weak (L : List Pt) : (sortP L).Pairwise (fun a b => ¬ ltP b a) := by
  have h : (sortP L).Pairwise (fun a b => (!(ltOf cmpP) b a) = true) := by
    refine List.pairwise_mergeSort ?_ ?_ L
    · intro a b c h1 h2
      have := swo_cmpP.ntrans (x := c) (y := b) (z := a) (by simpa using h2) (by simpa using h1)
      simp [this]
    · intro a b
      cases h1 : ltOf cmpP a b
      · simp
      · have := (swo_cmpP.asymm h1)
        simp [this]
  refine h.imp ?_
  intro a b h
  rw [ltOf_cmpP] at h
  intro h2
  rw [ltP_iff] at h2
  rw [lessPt_said] at h
  simp at h
  omega
set_option maxRecDepth 100000 in
set_option maxHeartbeats 1000000 in
theorem sortedShape_any (base : Nat) (v : Value) (L : List Pt) (w : World) (hrow : w.ownsRow base 44 2 v L.length (ptCells L)) (hn : L.length ≤ 1000000) (hz : L.length = 0 → v = .slice none 0 0) :
    Calls Tryz.prog 132 #[v] w (OwnPts w (putAll [] L)) := by
  have hP := compact_put (L := L) (M := sortP L) (fun p => sortP_mem) (sortP_weak L)
  rw [← hP]
  rcases Nat.eq_zero_or_pos L.length with h0 | h0
  · have h1 : L = [] := List.eq_nil_of_length_eq_zero h0
    subst h1
    have hc : compactP (sortP []) = [] := by unfold sortP; rw [List.mergeSort_nil]; rfl
    rw [hc]
    rw [hz rfl]
    exact shapeNil_any w
  · obtain ⟨A, c, rfl, hrd⟩ := rdPt_of_row hrow
    obtain ⟨b, o, rfl, hb, hc⟩ := hrd.ptr h0
    obtain ⟨n, hnn⟩ : ∃ n, L.length = n := ⟨_, rfl⟩
    rw [hnn] at hrd hn h0 ⊢
    have hnH := Lib.hid hnn
    have hrdH := Lib.hid hrd
    have hPH := Lib.hid hP
    clear hrow hc hrd hP hnn hz
    go_enter Tryz.func132, Tryz.ntmps132
    go_wp2_with fail
    refine (ClonePt_any _ _ _ L _ hrdH.out hn).mono ?_
    rintro e w1 ⟨v1, rfl, hown, hb1⟩
    rcases hown.2 with ⟨_, h00⟩ | ⟨g, cap, cur, rfl, hbg, hh, _⟩
    · have := hnH.out; omega
    have hgw : g < w1.heap.size := (Array.getElem?_eq_some_iff.1 hh).1
    have hownH := Lib.hid hown
    have hb1H := Lib.hid hb1
    have hbgH := Lib.hid hbg
    have hs1H := Lib.hid hb1.size
    clear hown hb1 hbg hh
    rw [hnH.out] at hownH ⊢
    go_wp2_with fail
    have hsrt := SortFuncPt_any L w.heap.size g cap w1 (by rw [hnH.out]; exact hownH.out) (by rw [hnH.out]; omega)
    rw [hnH.out] at hsrt
    refine hsrt.mono ?_
    rintro e w2 ⟨rfl, hown2, hg2⟩
    have hown2H := Lib.hid hown2
    have hg2H := Lib.hid hg2
    clear hown2 hg2 hsrt
    go_wp2_with fail
    have hsl : (sortP L).length = n := by rw [sortP_len]; exact hnH.out
    have hcp := CompactPt_any w.heap.size g cap (sortP L) w2 (by rw [hsl]; exact hown2H.out) (by rw [hsl]; exact h0) (by rw [hsl]; exact hn)
    rw [hsl] at hcp
    refine hcp.mono ?_
    rintro e w3 ⟨c3, rfl, hown3, hg3⟩
    have hown3H := Lib.hid hown3
    have hg3H := Lib.hid hg3
    clear hown3 hg3 hcp hsl
    go_wp2
    go_ret
    exact ⟨_, rfl, hown3H.out, hb1H.out.trans ((Gb.trans hg2H.out hg3H.out).toBelow hs1H.out hbgH.out |>.mono (Nat.le_refl _))⟩
end Go.Proofs.YtedihnokcpnikaaGreat
