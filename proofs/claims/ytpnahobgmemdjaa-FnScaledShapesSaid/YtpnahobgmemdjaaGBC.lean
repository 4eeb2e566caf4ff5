import Derived.Test.YtpnahobgmemdjaaGBA
import Derived.Test.YtpnahobgmemdjaaGBB
import Derived.Test.YtpnahobgmemdjaaGAJ
import Derived.Test.YtpnahobgmemdjaaGAZ
set_option linter.unusedSimpArgs false
set_option linter.unusedVariables false
/- Plain: the parts of an assembly are apart, no two touch, each is one part, and together they are the assembly. -/


namespace Go.Proofs.Ytpnahobgmemdjaa
open Go.RowKit
/-- some tiles of an assembly, by their places -/
def subX (xs : List Pl) (f : Nat → Bool) : List Pl := ((List.range xs.length).filter f).map (plAt xs)
def nmX (xs : List Pl) : List Nat := (allP (nbP (xs.map plPt)) (xs.map plPt).length (xs.map plPt).length).1
def cntX (xs : List Pl) : Nat := (allP (nbP (xs.map plPt)) (xs.map plPt).length (xs.map plPt).length).2.length
/-- the tiles of part q, and of the parts before it -/
def isQ (xs : List Pl) (q v : Nat) : Bool := decide ((nmX xs)[v]? = some (q + 1))
def uptoQ (xs : List Pl) (q v : Nat) : Bool := decide (∃ c, (nmX xs)[v]? = some c ∧ 1 ≤ c ∧ c ≤ q)
theorem partsQ_get {xs : List Pl} {q : Nat} (h : q < cntX xs) : (partsQ xs)[q]? = some (subX xs (isQ xs q)) := by
  unfold partsQ partsN
  rw [List.getElem?_map, namesL_get (show q < (allP (nbP (xs.map plPt)) (xs.map plPt).length (xs.map plPt).length).2.length from h)]
  show some ((nameL _ q (xs.map plPt).length).map (plAt xs)) = _
  rw [List.length_map]
  unfold nameL subX isQ nmX
  rw [List.length_map]
theorem partsQ_cnt (xs : List Pl) : (partsQ xs).length = cntX xs := by
  unfold partsQ partsN namesL cntX; rw [List.length_map, List.length_map, List.length_range]
theorem subX_get {xs : List Pl} {f : Nat → Bool} {j v : Nat} (h : ((List.range xs.length).filter f)[j]? = some v) : ∃ e, xs[v]? = some e ∧ (subX xs f)[j]? = some e ∧ v < xs.length ∧ f v = true := by
  have hm := List.mem_of_getElem? h
  rw [List.mem_filter, List.mem_range] at hm
  obtain ⟨e, he⟩ : ∃ e, xs[v]? = some e := ⟨_, List.getElem?_eq_getElem hm.1⟩
  exact ⟨e, he, by unfold subX; rw [List.getElem?_map, h, Option.map_some, plAt_of he], hm.1, hm.2⟩
theorem subX_at {xs : List Pl} {f : Nat → Bool} {j : Nat} {e : Pl} (h : (subX xs f)[j]? = some e) : ∃ v, ((List.range xs.length).filter f)[j]? = some v ∧ xs[v]? = some e ∧ f v = true := by
  unfold subX at h
  rw [List.getElem?_map, Option.map_eq_some_iff] at h
  obtain ⟨v, hv, rfl⟩ := h
  obtain ⟨e, he, _, _, hf⟩ := subX_get hv
  exact ⟨v, hv, by rw [he, plAt_of he], hf⟩
theorem subX_mem {xs : List Pl} {f : Nat → Bool} {e : Pl} : e ∈ subX xs f ↔ ∃ v, xs[v]? = some e ∧ f v = true := by
  constructor
  · intro h
    obtain ⟨j, hj⟩ := List.getElem?_of_mem h
    obtain ⟨v, _, h1, h2⟩ := subX_at hj
    exact ⟨v, h1, h2⟩
  · rintro ⟨v, h1, h2⟩
    unfold subX
    rw [List.mem_map]
    exact ⟨v, by rw [List.mem_filter, List.mem_range]; exact ⟨(List.getElem?_eq_some_iff.1 h1).1, h2⟩, plAt_of h1⟩
theorem subX_len (xs : List Pl) (f : Nat → Bool) : (subX xs f).length ≤ xs.length := by
  unfold subX
  rw [List.length_map]
  have := List.length_filter_le f (List.range xs.length)
  simpa using this
theorem filt_lt {n : Nat} {f : Nat → Bool} {i j u v : Nat} (hij : i < j) (hu : ((List.range n).filter f)[i]? = some u) (hv : ((List.range n).filter f)[j]? = some v) : u < v := by
  have hp : ((List.range n).filter f).Pairwise (· < ·) := List.Pairwise.sublist List.filter_sublist List.pairwise_lt_range
  obtain ⟨hi, rfl⟩ := List.getElem?_eq_some_iff.1 hu
  obtain ⟨hj, rfl⟩ := List.getElem?_eq_some_iff.1 hv
  exact List.pairwise_iff_getElem.1 hp i j hi hj hij
theorem subX_form {xs : List Pl} (h : hasFormB xs = true) (f : Nat → Bool) : hasFormB (subX xs f) = true := by
  have hV := form_valid h
  have hf := h
  unfold hasFormB at hf
  simp only [Bool.and_eq_true, decide_eq_true_eq] at hf
  have hpl : ∀ (k : Nat) (e : Pl), xs[k]? = some e → validPt e.x e.y = true ∧ inB e.t 0 159 = true := fun k e he => by
    have := allB_at hf.1 (lt_of_get he)
    unfold okPl at this
    rw [he] at this
    simp only [Bool.and_eq_true] at this
    exact this.1
  refine hasFormB_ok (Nat.le_trans (subX_len xs f) hf.2) fun j hj => ?_
  obtain ⟨e, he⟩ : ∃ e, (subX xs f)[j]? = some e := ⟨_, List.getElem?_eq_getElem hj⟩
  obtain ⟨v, hv, hxv, _⟩ := subX_at he
  have hp := hpl v e hxv
  cases j with
  | zero =>
    unfold okPl
    rw [he]
    simp only [hp.1, hp.2, Bool.and_self]
  | succ j =>
    obtain ⟨d, hd⟩ : ∃ d, (subX xs f)[j]? = some d := ⟨_, List.getElem?_eq_getElem (by omega)⟩
    obtain ⟨u, hu, hxu, _⟩ := subX_at hd
    rw [okPl_eqS he hd, hp.1, hp.2, hV.sorted u v d e (filt_lt (Nat.lt_succ_self j) hu hv) hxu hxv]
    rfl
theorem subX_sorted {xs : List Pl} (h : hasFormB xs = true) (f : Nat → Bool) : SortPl (subX xs f) := sortPl_valid (form_valid (subX_form h f))
theorem subX_all {xs : List Pl} {f : Nat → Bool} (h : ∀ v, v < xs.length → f v = true) : subX xs f = xs := by
  unfold subX
  rw [List.filter_eq_self.2 (fun v hv => h v (List.mem_range.1 hv))]
  apply List.ext_getElem?
  intro j
  rw [List.getElem?_map]
  by_cases hj : j < xs.length
  · rw [List.getElem?_range hj, Option.map_some, plAt_of (List.getElem?_eq_getElem hj), List.getElem?_eq_getElem hj]
  · rw [List.getElem?_eq_none (by simp; omega), List.getElem?_eq_none (by omega)]
    rfl
theorem filt_perm {f g : Nat → Bool} : ∀ (l : List Nat), (∀ v ∈ l, f v = true → g v = false) → (l.filter f ++ l.filter g).Perm (l.filter fun v => f v || g v)
  | [], _ => List.Perm.refl _
  | a :: l, h => by
    have ih := filt_perm l (fun v hv => h v (List.mem_cons_of_mem _ hv))
    have ha := h a (List.mem_cons_self ..)
    cases hf : f a with
    | true =>
      have hg := ha hf
      simp only [List.filter_cons, hf, hg, Bool.or_false, if_true, if_false, Bool.false_eq_true, List.cons_append]
      exact ih.cons a
    | false =>
      cases hg : g a with
      | true =>
        simp only [List.filter_cons, hf, hg, Bool.false_or, if_true, if_false, Bool.false_eq_true]
        exact List.perm_middle.trans (ih.cons a)
      | false =>
        simp only [List.filter_cons, hf, hg, Bool.false_or, if_false, Bool.false_eq_true]
        exact ih
theorem subX_perm {xs : List Pl} {f g : Nat → Bool} (h : ∀ v, v < xs.length → f v = true → g v = false) : (subX xs f ++ subX xs g).Perm (subX xs fun v => f v || g v) := by
  unfold subX
  rw [← List.map_append]
  exact (filt_perm _ (fun v hv => h v (List.mem_range.1 hv))).map _
theorem subX_two {xs : List Pl} (hf : hasFormB xs = true) {f g : Nat → Bool} (h : ∀ v, v < xs.length → f v = true → g v = false) : Two [] noTiles (subX xs f) (subX xs g) := by
  have hV := form_valid (subX_form hf g)
  refine ⟨form_valid (subX_form hf f), subX_sorted hf g, fun k e he => ⟨(hV.pt k e he).1, (hV.pt k e he).2, hV.ti k e he⟩, fun j hj => ?_⟩
  obtain ⟨e, he⟩ : ∃ e, (subX xs g)[j]? = some e := ⟨_, List.getElem?_eq_getElem hj⟩
  rw [freeAt_eq he]
  apply decide_eq_true
  apply Classical.byContradiction
  intro hn
  obtain ⟨v, _, hv, hgv⟩ := subX_at he
  rcases placeI_cases (subX xs f) e.x e.y with h1 | ⟨k, h1, hk⟩
  · omega
  · obtain ⟨d, hd⟩ : ∃ d, (subX xs f)[k]? = some d := ⟨_, List.getElem?_eq_getElem hk⟩
    have hxy : d.x = e.x ∧ d.y = e.y := by
      rcases placeI_is (subX xs f) e.x e.y with ⟨h2, _⟩ | ⟨k2, d2, h2, h3, h4⟩
      · omega
      · obtain rfl : k2 = k := by omega
        rw [hd] at h3
        injection h3 with h3
        subst h3
        exact h4
    obtain ⟨u, _, hu, hfu⟩ := subX_at hd
    have huv : u = v := by
      have hS := form_shp hf
      have e1 : (xs.map plPt)[u]? = some (plPt e) := by rw [List.getElem?_map, hu]; show some (plPt d) = _; unfold plPt; rw [hxy.1, hxy.2]
      have e2 : (xs.map plPt)[v]? = some (plPt e) := by rw [List.getElem?_map, hv]; rfl
      exact hS.inj e1 e2
    subst huv
    rw [h u (List.getElem?_eq_some_iff.1 hu).1 hfu] at hgv
    cases hgv
/-- two sets of tiles that are apart join to both -/
theorem subX_join {xs : List Pl} (hf : hasFormB xs = true) {f g : Nat → Bool} (h : ∀ v, v < xs.length → f v = true → g v = false) : sortPl (subX xs f ++ subX xs g) = subX xs fun v => f v || g v := by
  have h2 := subX_two hf h
  refine List.Perm.eq_of_pairwise (le := fun a b => ltPl a b = true) ?_ (sortPl_strict h2.apart) (subX_sorted hf _) ((List.mergeSort_perm _ lePl).trans (subX_perm h))
  intro a b _ _ h1 h2
  rw [ltPl_iff] at h1 h2
  omega
theorem upto_is {xs : List Pl} (q v : Nat) (h1 : uptoQ xs q v = true) : isQ xs q v = false := by
  unfold uptoQ at h1
  unfold isQ
  obtain ⟨c, hc, h2, h3⟩ := of_decide_eq_true h1
  apply decide_eq_false
  intro h
  rw [hc] at h
  injection h with h
  omega
theorem upto_succ (xs : List Pl) (q : Nat) : (fun v => uptoQ xs q v || isQ xs q v) = uptoQ xs (q + 1) := by
  funext v
  unfold uptoQ isQ
  rw [Bool.eq_iff_iff]
  simp only [Bool.or_eq_true, decide_eq_true_eq]
  constructor
  · rintro (⟨c, h1, h2, h3⟩ | h)
    · exact ⟨c, h1, h2, by omega⟩
    · exact ⟨q + 1, h, by omega, by omega⟩
  · rintro ⟨c, h1, h2, h3⟩
    rcases Nat.lt_or_ge q c with h | h
    · exact .inr (by rw [h1]; congr 1; omega)
    · exact .inl ⟨c, h1, h2, h⟩
theorem upto_zero (xs : List Pl) : subX xs (uptoQ xs 0) = [] := by
  unfold subX
  rw [List.filter_eq_nil_iff.2, List.map_nil]
  intro v _ h
  obtain ⟨c, _, h2, h3⟩ := of_decide_eq_true h
  omega
theorem upto_all (xs : List Pl) : subX xs (uptoQ xs (cntX xs)) = xs := subX_all fun v hv => by
  have hv' : v < (xs.map plPt).length := by rw [List.length_map]; exact hv
  obtain ⟨q, h1, h2⟩ := allP_named (nb := nbP (xs.map plPt)) hv'
  exact decide_eq_true ⟨q + 1, h1, by omega, h2⟩
/-- the parts so far and the next one are the parts so far -/
theorem join_next {xs : List Pl} (hf : hasFormB xs = true) (q : Nat) : sortPl (subX xs (uptoQ xs q) ++ subX xs (isQ xs q)) = subX xs (uptoQ xs (q + 1)) := by
  rw [subX_join hf (fun v _ => upto_is q v), upto_succ]
theorem join_len {xs : List Pl} (hf : hasFormB xs = true) (q : Nat) : (subX xs (uptoQ xs (q + 1))).length = (subX xs (uptoQ xs q)).length + (subX xs (isQ xs q)).length := by
  rw [← join_next hf, sortPl_len, List.length_append]
theorem at_iff {xs : List Pl} (hf : hasFormB xs = true) (x y : Int) : 0 ≤ atI xs x y ↔ ∃ e ∈ xs, e.x = x ∧ e.y = y := by
  have hV := form_valid hf
  rcases atI_cases hV x y with ⟨h1, h2⟩ | ⟨k, t, e, h1, he, ht, hlt, h2⟩
  · rw [h2]
    constructor
    · intro h; omega
    · rintro ⟨e, he, hxy⟩
      exact absurd hxy (place_neg (by omega) e he)
  · rw [h2]
    refine ⟨fun _ => ?_, fun _ => by omega⟩
    rcases placeI_is xs x y with ⟨h3, _⟩ | ⟨k2, d, h3, hd, hxy⟩
    · omega
    · exact ⟨d, List.mem_of_getElem? hd, hxy⟩
/-- no tile outside a part touches it -/
theorem part_near {xs : List Pl} (hf : hasFormB xs = true) {q d : Nat} (hd : d < 4) {e : Pl} (he : e ∈ subX xs (isQ xs q)) : decide (0 ≤ atI (subX xs (isQ xs q)) (stepX e.x d) (stepY e.y d)) = decide (0 ≤ atI xs (stepX e.x d) (stepY e.y d)) := by
  rw [Bool.eq_iff_iff, decide_eq_true_eq, decide_eq_true_eq, at_iff (subX_form hf _), at_iff hf]
  constructor
  · rintro ⟨e2, h1, h2⟩
    obtain ⟨v, hv, _⟩ := subX_mem.1 h1
    exact ⟨e2, List.mem_of_getElem? hv, h2⟩
  · rintro ⟨e2, h1, h2⟩
    refine ⟨e2, ?_, h2⟩
    obtain ⟨u, hu⟩ := List.getElem?_of_mem h1
    obtain ⟨v, hv, hqv⟩ := subX_mem.1 he
    rw [subX_mem]
    refine ⟨u, hu, ?_⟩
    have hS := form_shp hf
    have hpv : (xs.map plPt)[v]? = some (plPt e) := by rw [List.getElem?_map, hv]; rfl
    have hpu : (xs.map plPt)[u]? = some ⟨stepX e.x d, stepY e.y d⟩ := by
      rw [List.getElem?_map, hu]
      show some (plPt e2) = _
      unfold plPt
      rw [h2.1, h2.2]
    have hnb : nbP (xs.map plPt) v d = some u := by
      unfold nbP
      rw [hpv]
      exact hS.idx hpu
    have := allP_near (nb := nbP (xs.map plPt)) (n := (xs.map plPt).length) (nbP_sym hS) _ v d u (q + 1) (Nat.succ_ne_zero _) (of_decide_eq_true hqv) hd hnb
    exact decide_eq_true this
/-- a part is one part -/
theorem part_one {xs : List Pl} (hf : hasFormB xs = true) {q : Nat} (hq : q < cntX xs) : (partsR (subX xs (isQ xs q))).length = 1 ∧ 0 < (subX xs (isQ xs q)).length := by
  have hS := form_shp hf
  have hfy := subX_form hf (isQ xs q)
  obtain ⟨ys, hys⟩ : ∃ ys, subX xs (isQ xs q) = ys := ⟨_, rfl⟩
  obtain ⟨L, hL⟩ : ∃ L, (List.range xs.length).filter (isQ xs q) = L := ⟨_, rfl⟩
  have hLm : ∀ v, v ∈ L ↔ (nmX xs)[v]? = some (q + 1) := fun v => by
    rw [← hL, List.mem_filter, List.mem_range]
    unfold isQ
    rw [decide_eq_true_eq]
    refine ⟨fun h => h.2, fun h => ⟨?_, h⟩⟩
    have := (List.getElem?_eq_some_iff.1 h).1
    unfold nmX at this
    rw [allP_len, List.length_map] at this
    exact this
  obtain ⟨l, hl⟩ : ∃ l, (allP (nbP (xs.map plPt)) (xs.map plPt).length (xs.map plPt).length).2[q]? = some l := ⟨_, List.getElem?_eq_getElem hq⟩
  obtain ⟨_, _, hlm⟩ := allP_mem _ q l hl
  obtain ⟨r, hr, hmin, hreach⟩ := allP_root _ q l hl
  have hml : ∀ v, v ∈ l ↔ v ∈ L := fun v => (hlm v).trans (hLm v).symm
  have hLget : ∀ {j v : Nat}, L[j]? = some v → ∃ e, xs[v]? = some e ∧ ys[j]? = some e := fun {j v} h => by
    rw [← hL] at h
    obtain ⟨e, h1, h2, _⟩ := subX_get h
    rw [hys] at h2
    exact ⟨e, h1, h2⟩
  have hLlen : L.length = ys.length := by rw [← hys, ← hL]; unfold subX; rw [List.length_map]
  have hLlt : ∀ {i j u v : Nat}, i < j → L[i]? = some u → L[j]? = some v → u < v := fun {i j u v} hij hu hv => by
    rw [← hL] at hu hv
    exact filt_lt hij hu hv
  obtain ⟨j0, hj0⟩ := List.getElem?_of_mem ((hml r).1 hr)
  have hpos : 0 < L.length := by have := (List.getElem?_eq_some_iff.1 hj0).1; omega
  have h00 : L[0]? = some r := by
    obtain ⟨x, hx⟩ : ∃ x, L[0]? = some x := ⟨_, List.getElem?_eq_getElem hpos⟩
    have h1 := hmin x ((hml x).2 (List.mem_of_getElem? hx))
    rcases Nat.eq_zero_or_pos j0 with h | h
    · subst h; exact hj0
    · have := hLlt h hx hj0
      omega
  rw [hys] at hfy ⊢
  refine ⟨?_, by omega⟩
  have hSy := form_shp hfy
  have hny : (ys.map plPt).length = L.length := by rw [List.length_map, hLlen]
  have hnb : ∀ {i j u v d : Nat}, L[i]? = some u → L[j]? = some v → nbP (xs.map plPt) u d = some v → nbP (ys.map plPt) i d = some j := fun {i j u v d} hu hv h => by
    obtain ⟨e, h1, h2⟩ := hLget hu
    obtain ⟨e2, h3, h4⟩ := hLget hv
    unfold nbP at h ⊢
    rw [List.getElem?_map, h1] at h
    rw [List.getElem?_map, h2]
    simp only [Option.map_some] at h ⊢
    have h5 := idxP_some h
    rw [List.getElem?_map, h3] at h5
    have h6 : (ys.map plPt)[j]? = some ⟨stepX (plPt e).x d, stepY (plPt e).y d⟩ := by rw [List.getElem?_map, h4]; exact h5
    exact hSy.idx h6
  have hone : (allP (nbP (ys.map plPt)) (ys.map plPt).length (ys.map plPt).length).2.length = 1 := by
    rw [hny]
    have hI := VisInv.start (n := L.length) (c := 1) (N0 := List.replicate L.length 0) (i := 0) (by decide) (List.length_replicate ..) (by rw [List.getElem?_replicate, if_pos hpos])
    refine allP_whole hpos fun k hk => ?_
    obtain ⟨v, hv⟩ : ∃ v, L[k]? = some v := ⟨_, List.getElem?_eq_getElem hk⟩
    obtain ⟨j, hj, hjm⟩ := hreach (fun u => ∃ j, L[j]? = some u ∧ j ∈ (visS (nbP (ys.map plPt)) 1 ([0], (List.replicate L.length 0).set 0 1) L.length).1) (fun u d w hu hd hw => by
      obtain ⟨j, hj, hjm⟩ := hu
      have hum := (hLm u).1 (List.mem_of_getElem? hj)
      have hwm := allP_near (nb := nbP (xs.map plPt)) (n := (xs.map plPt).length) (nbP_sym hS) _ u d w (q + 1) (Nat.succ_ne_zero _) hum hd hw
      obtain ⟨j2, hj2⟩ := List.getElem?_of_mem ((hLm w).2 hwm)
      exact ⟨j2, hj2, visS_closedP hI hjm hd (hnb hj hj2 hw) (by rw [List.getElem?_replicate, if_pos (List.getElem?_eq_some_iff.1 hj2).1])⟩) ⟨0, h00, visS_first _⟩ v ((hml v).2 (List.mem_of_getElem? hv))
    have hjk : j = k := by
      rcases Nat.lt_trichotomy j k with h | h | h
      · have := hLlt h hj hv; omega
      · exact h
      · have := hLlt h hv hj; omega
    rw [← hjk]
    exact hjm
  unfold partsR
  rw [if_pos hfy, partsQ_cnt]
  exact hone
end Go.Proofs.Ytpnahobgmemdjaa
/- slices.SortFunc at rows of placed tiles that a call has made. -/


namespace Go.Proofs.Ytpnahobgmemdjaa
open Go.RowKit Go.Shelf Go.Lib Go.Sort
attribute [local go_sem] BelowBy.cell BelowBy.cell_drew stillUpon givesUpon

set_option maxRecDepth 100000
def mkPl (f : Pt → Int) (p : Pt) : Pl := ⟨p.x, p.y, f p⟩
def encPl (f : Pt → Int) (p : Pt) : List Value := [.int .i64 p.x, .int .i64 p.y, .int .i64 (f p)]
def tileOfV (L : List Pl) (p : Pt) : Int := match L.find? (fun e => decide (e.x = p.x ∧ e.y = p.y)) with
  | some e => e.t
  | none => 0
def ptOf (e : Pl) : Pt := ⟨e.x, e.y⟩
theorem tileOf_mem {L : List Pl} (h : L.Pairwise apart) : ∀ e ∈ L, tileOfV L (ptOf e) = e.t := by
  induction L with
  | nil => intro e he; simp at he
  | cons d l ih =>
    obtain ⟨h1, h2⟩ := List.pairwise_cons.1 h
    intro e he
    unfold tileOfV
    rw [List.find?_cons]
    rcases List.mem_cons.1 he with rfl | he
    · simp [ptOf]
    · have h3 : ¬ (d.x = e.x ∧ d.y = e.y) := h1 e he
      have h4 : decide (d.x = (ptOf e).x ∧ d.y = (ptOf e).y) = false := decide_eq_false h3
      rw [h4]
      exact ih h2 e he
theorem mk_ptOf {L : List Pl} (h : L.Pairwise apart) : (L.map ptOf).map (mkPl (tileOfV L)) = L := by
  rw [List.map_map]
  have : ∀ e ∈ L, (mkPl (tileOfV L) ∘ ptOf) e = e := fun e he => by
    have := tileOf_mem h e he
    simp only [Function.comp, mkPl, this]
    cases e; rfl
  rw [List.map_congr_left this, List.map_id'']
  intro x; rfl
theorem sort_ptOf {L : List Pl} (h : L.Pairwise apart) : (sortP (L.map ptOf)).map (mkPl (tileOfV L)) = sortPl L := by
  have hp : ((sortP (L.map ptOf)).map (mkPl (tileOfV L))).Perm L := by
    have h1 : ((sortP (L.map ptOf)).map (mkPl (tileOfV L))).Perm ((L.map ptOf).map (mkPl (tileOfV L))) := (List.mergeSort_perm _ _).map _
    rw [mk_ptOf h] at h1
    exact h1
  refine List.Perm.eq_of_pairwise (le := fun a b => ltPl a b = true) ?_ ?_ (sortPl_strict h) (hp.trans (List.mergeSort_perm _ _).symm)
  · intro a b _ _ h1 h2
    rw [ltPl_iff] at h1 h2; omega
  · have h1 : ((sortP (L.map ptOf)).map (mkPl (tileOfV L))).Pairwise apart := hp.symm.pairwise h apart_symm
    have h2 : ((sortP (L.map ptOf)).map (mkPl (tileOfV L))).Pairwise (fun a b => lePl a b = true) := by
      rw [List.pairwise_map]
      have hs : (sortP (L.map ptOf)).Pairwise (fun a b => (!(ltOf cmpP) b a) = true) := by
        refine List.pairwise_mergeSort ?_ ?_ _
        · intro a b c h1 h2
          have := swo_cmpP.ntrans (x := c) (y := b) (z := a) (by simpa using h2) (by simpa using h1)
          simp [this]
        · intro a b
          cases h1 : ltOf cmpP a b
          · simp
          · have := (swo_cmpP.asymm h1)
            simp [this]
      refine hs.imp ?_
      intro a b h
      rw [ltOf_cmpP] at h
      exact h
    refine (List.Pairwise.and h1 h2).imp ?_
    intro a b hab
    have h3 := (lePl_iff a b).1 hab.2
    have h4 : ¬ (a.x = b.x ∧ a.y = b.y) := hab.1
    rw [ltPl_iff]; omega
theorem flat_pl (f : Pt → Int) (L : List Pt) : (flatK (encPl f) 3 L.toArray).toList = plCells (L.map (mkPl f)) := by
  apply List.ext_getElem?
  intro t
  rw [Array.getElem?_toList]
  by_cases ht : t < L.length * 3
  · have hs : t < (flatK (encPl f) 3 L.toArray).size := by rw [size_flatK]; simpa using ht
    have h1 : (flatK (encPl f) 3 L.toArray)[t]? = some (flatK (encPl f) 3 L.toArray)[t]! := by rw [getElem!_pos _ t hs, Array.getElem?_eq_getElem hs]
    rw [h1, get_flatK _ _ _ _ (by simpa using ht)]
    have hq : t / 3 < L.length := by omega
    have hg := plCells_get (L.map (mkPl f)) (t / 3) (mkPl f L[t / 3]) (by rw [List.getElem?_map, List.getElem?_eq_getElem hq]; rfl)
    have he : L.toArray[t / 3]! = L[t / 3] := by rw [getElem!_pos _ _ (by simpa using hq)]; simp
    rw [he]
    rcases (show t % 3 = 0 ∨ t % 3 = 1 ∨ t % 3 = 2 by omega) with hm | hm | hm
    · rw [hm]
      have : t / 3 * 3 = t := by omega
      rw [this] at hg
      rw [hg.1]; rfl
    · rw [hm]
      have : t / 3 * 3 + 1 = t := by omega
      rw [this] at hg
      rw [hg.2.1]; rfl
    · rw [hm]
      have : t / 3 * 3 + 2 = t := by omega
      rw [this] at hg
      rw [hg.2.2]; rfl
  · rw [Array.getElem?_eq_none (by rw [size_flatK]; simpa using ht), List.getElem?_eq_none (by rw [plCells_len, List.length_map]; omega)]
theorem holds_rowPl {f : Pt → Int} {w : World} {g : Nat} {cur : Array Value} {e : TypeId} {L : List Pt} (hb : w.heap[g]? = some (.cells cur e (0, 0))) (ht : cur.toList.take (L.length * 3) = plCells (L.map (mkPl f))) : HoldsK (encPl f) 3 w g 0 L.toArray := by
  intro j hj
  rw [size_flatK] at hj
  have hj' : j < L.length * 3 := by simpa using hj
  refine ⟨?_, by simp [World.frozen?, hb]⟩
  have h1 : (cur.toList.take (L.length * 3))[j]? = (plCells (L.map (mkPl f)))[j]? := by rw [ht]
  rw [List.getElem?_take_of_lt hj', ← flat_pl, Array.getElem?_toList, Array.getElem?_toList] at h1
  have hs : j < (flatK (encPl f) 3 L.toArray).size := by rw [size_flatK]; simpa using hj'
  simp only [World.cell?, hb, Nat.zero_add]
  simp only [Option.isSome_none, Bool.false_eq_true, if_false, id]
  rw [h1, getElem!_pos _ j hs, Array.getElem?_eq_getElem hs]
theorem heap_sortedPl {f : Pt → Int} {w : World} {g n : Nat} {os : Array Obj} {cur : Array Value} {e : TypeId} {fr : Nat × Nat} (d : Array Pt) (hb : w.heap[g]? = some (.cells cur e fr)) :
    (sortWorldK (encPl f) 3 w g 0 n d os).heap[g]? = some (.cells (putCells id 0 (flatK (encPl f) 3 d) cur) e fr) := by
  have hg : g < w.heap.size := (Array.getElem?_eq_some_iff.1 hb).1
  unfold sortWorldK putRowK
  rw [heap_grow_old _ _ (by simpa using hg)]
  simp [putRow, mapBlock, Sort.ahead, Array.getElem?_modify, hb, onCells]
theorem grownBy_sortedPl {f : Pt → Int} {w : World} {g n : Nat} {os : Array Obj} (d : Array Pt) : w.grownBy (sortWorldK (encPl f) 3 w g 0 n d os) (some g) := by
  refine ⟨rfl, rfl, rfl, by simp [sortWorldK, putRowK], fun k hk hne => ?_⟩
  unfold sortWorldK putRowK
  rw [heap_grow_old _ _ (by simpa using hk)]
  have : g ≠ k := fun e => hne (by rw [e])
  simp [putRow, mapBlock, Sort.ahead, Array.getElem?_modify, this]
theorem take_putPl (f : Pt → Int) (cur : Array Value) (L : List Pt) (h : L.length * 3 ≤ cur.size) : (putCells id 0 (flatK (encPl f) 3 L.toArray) cur).toList.take (L.length * 3) = plCells (L.map (mkPl f)) := by
  rw [← flat_pl]
  apply List.ext_getElem?
  intro j
  by_cases hj : j < L.length * 3
  · have hs : j < (flatK (encPl f) 3 L.toArray).size := by rw [size_flatK]; simpa using hj
    rw [List.getElem?_take_of_lt hj, Array.getElem?_toList, Array.getElem?_toList]
    simp only [putCells, Array.getElem?_mapIdx, Nat.zero_le, Nat.zero_add, true_and, Nat.sub_zero]
    rw [Array.getElem?_eq_getElem (show j < cur.size by omega)]
    simp only [Option.map_some, id]
    rw [if_pos hs, getElem!_pos _ j hs, Array.getElem?_eq_getElem hs]
  · rw [List.getElem?_take_eq_none (by omega), Array.getElem?_toList, Array.getElem?_eq_none (by rw [size_flatK]; simpa using hj)]
theorem assemblyLess_exact (f : Pt → Int) (x y : Pt) (w : World) :
    Calls Try.prog 77 #[.agg #[.int .i64 x.x, .int .i64 x.y, .int .i64 (f x)], .agg #[.int .i64 y.x, .int .i64 y.y, .int .i64 (f y)]] w fun e w' => e = .returned (.int .i64 (cmpP x y)) ∧ ∃ q os, w' = grow (w.drewN q) os := by
  go_enter Try.func77, Try.ntmps77
  go_wp2_with fail
  refine (comparePoints_exact x y _).mono ?_
  rintro e w1 ⟨rfl, q, os, rfl⟩
  go_wp2
  go_ret
  refine ⟨rfl, ?_⟩
  have hdg : ∀ (w : World) (os : Array Obj), (grow w os).drewN q = grow (w.drewN q) os := fun w os => rfl
  simp only [alloc_eq_grow, drew_grow, grow_grow, hdg, World.drew_is_drewN, World.drewN_drewN]
  exact ⟨_, _, rfl⟩
set_option maxHeartbeats 1000000 in
theorem SortFuncPl_any (L : List Pl) (hap : L.Pairwise apart) (B g cap : Nat) (w : World) (hrow : w.ownsRow B 38 3 (.slice (some ⟨g, 0, none⟩) L.length cap) L.length (plCells L)) (hl : L.length ≤ 1000000) :
    Calls Try.prog 76 #[.slice (some ⟨g, 0, none⟩) L.length cap, .func (.func 77) #[] #[]] w fun e w' => e = .returned (.tuple #[]) ∧
      w'.ownsRow B 38 3 (.slice (some ⟨g, 0, none⟩) L.length cap) L.length (plCells (sortPl L)) ∧ w.grownBy w' (some g) := by
  rcases hrow with ⟨hcl, h0 | ⟨g', cap', cur, hv, hB, hb, h1, h2, h3, h4⟩⟩
  · cases h0.1
  cases hv
  have hmk := mk_ptOf hap
  have hso := sort_ptOf hap
  obtain ⟨P, hP⟩ : ∃ P, L.map ptOf = P := ⟨_, rfl⟩
  obtain ⟨f, hf⟩ : ∃ f, tileOfV L = f := ⟨_, rfl⟩
  rw [hP, hf] at hmk hso
  have hPl : P.length = L.length := by rw [← hP, List.length_map]
  have eg : ∀ args w, (callFunc 77 args).run Try.prog w = .ok (.enter 77 args) w := enters_of Try.func77 (by kernel_rfl) rfl
  rw [← hmk, List.length_map] at h4
  have hH := holds_rowPl (f := f) hb h4
  have hgl := (Array.getElem?_eq_some_iff.1 hb).1
  have hcon := AnyQ.slices_SortFunc_total Try.sortPl 3 Try.isAgg38 Try.sizeOf38 (encPl f) (fun _ => rfl) (fun x v hv => by simp [encPl] at hv; rcases hv with rfl | rfl | rfl <;> rfl) cmpP swo_cmpP 77 #[] g 0 cap P.toArray w eg
    (fun _ _ _ _ x y => assemblyLess_exact f x y _) hH hgl (by simp; omega) part_cmpP
  have hPs : P.toArray.size = L.length := by simpa using hPl
  rw [hPs] at hcon
  refine hcon.mono ?_
  rintro e w' ⟨he, n, os, rfl⟩
  refine ⟨he, ?_, grownBy_sortedPl _⟩
  have hsl := sortPl_len L
  refine ⟨by rw [plCells_len, hsl], .inr ⟨g, cap, _, rfl, hB, heap_sortedPl _ hb, h1, h2, by simp [putCells, h3], ?_⟩⟩
  have := take_putPl f cur (sortP P) (by rw [sortP_len, hPl, h3]; exact Nat.mul_le_mul_right 3 h1)
  rw [sortP_len, hPl, hso] at this
  exact this
end Go.Proofs.Ytpnahobgmemdjaa
/- Walks: what a pair of hands asks of a set, a temperature and assemblies. -/

namespace Go.Proofs.Ytpnahobgmemdjaa
open Go.RowKit Go.Shelf
attribute [local go_sem] BelowBy.cell BelowBy.cell_drew stillUpon givesUpon BelowBy.cell_drew2 BelowBy.cell_drew3

/-- a set is read -/
structure TS (w : World) (G : Option Addr) (n : Nat) (T : Option Addr) (m : Nat) (gs : List Gl) (ts : List Ti) : Prop where
  G : RdSl 2 RGl w G n gs
  T : RdSl 2 RTi w T m ts
  gm : n ≤ 1073741824
  tm : m ≤ 1073741824
  gn : ∀ (k : Nat) (e : Gl), gs[k]? = some e → e.name.size ≤ 9223372036854775807
  tn : ∀ (k : Nat) (e : Ti), ts[k]? = some e → e.name.size ≤ 9223372036854775807 ∧ e.sides.length ≤ 9223372036854775807
section
variable {w w' : World} {G T A : Option Addr} {n cg m ct q ca : Nat} {gs : List Gl} {ts : List Ti} {xs : List Pl}
theorem TS.below (h : TS w G n T m gs ts) (hb : Below w.heap.size w w') : TS w' G n T m gs ts :=
  ⟨h.G.below RGl.stable hb, h.T.below RTi.stable hb, h.gm, h.tm, h.gn, h.tn⟩
theorem TS.sa (h : TS w G n T m gs ts) (hA : RdSl 3 RPl w A q xs) (hq : q ≤ 1073741824) : SA w G n T m A q gs ts xs := ⟨h.G, h.T, hA, h.gm, h.tm, hq, h.gn, h.tn⟩
theorem SA.toTS (h : SA w G n T m A q gs ts xs) : TS w G n T m gs ts := ⟨h.G, h.T, h.gm, h.tm, h.gn, h.tn⟩
end
/-- a block of assemblies -/
def LRow (w : World) (g : Nat) (Ls : List (List Pl)) : Prop := g < w.heap.size ∧ ∀ (k : Nat) (l : List Pl), Ls[k]? = some l → ∃ A q c, w.cell? ⟨g, k, none⟩ = some (.slice A q c) ∧ RdSl 3 RPl w A q l ∧ q ≤ 1073741824
theorem LRow.below {w w' : World} {g : Nat} {Ls : List (List Pl)} (h : LRow w g Ls) (hb : Below w.heap.size w w') : LRow w' g Ls := by
  refine ⟨Nat.lt_of_lt_of_le h.1 hb.size, fun k l hk => ?_⟩
  obtain ⟨A, q, c, h1, h2, h3⟩ := h.2 k l hk
  exact ⟨A, q, c, (hb.cell (p := ⟨g, k, none⟩) h.1).trans h1, h2.below RPl.stable hb, h3⟩
/-- the box of a pair of hands -/
structure HBox (w : World) (p : Nat) (G : Option Addr) (n : Nat) (T : Option Addr) (m : Nat) (gs : List Gl) (ts : List Ti) : Prop where
  lt : p < w.heap.size
  c0 : ∃ cg, w.cell? ⟨p, 0, none⟩ = some (.slice G n cg)
  c1 : ∃ ct, w.cell? ⟨p, 1, none⟩ = some (.slice T m ct)
  ts : TS w G n T m gs ts
theorem HBox.below {w w' : World} {p : Nat} {G T : Option Addr} {n m : Nat} {gs : List Gl} {ts : List Ti} (h : HBox w p G n T m gs ts) (hb : Below w.heap.size w w') : HBox w' p G n T m gs ts := by
  obtain ⟨cg, h0⟩ := h.c0
  obtain ⟨ct, h1⟩ := h.c1
  exact ⟨Nat.lt_of_lt_of_le h.lt hb.size, ⟨cg, (hb.cell (p := ⟨p, 0, none⟩) h.lt).trans h0⟩, ⟨ct, (hb.cell (p := ⟨p, 1, none⟩) h.lt).trans h1⟩, h.ts.below hb⟩
def okL (gs : List Gl) (ts : List Ti) (Ls : List (List Pl)) (k : Nat) : Bool := match Ls[k]? with
  | some l => validAsmB gs ts l
  | none => true
theorem okL_eq {gs : List Gl} {ts : List Ti} {Ls : List (List Pl)} {k : Nat} {l : List Pl} (h : Ls[k]? = some l) : okL gs ts Ls k = validAsmB gs ts l := by unfold okL; rw [h]
def codeH (gs : List Gl) (ts : List Ti) (Ls : List (List Pl)) (t : Int) : Int :=
  if (validSetB gs ts && allB Ls.length (okL gs ts Ls)) = false then 1 else if inB t 1 16 = false then 2 else 0
end Go.Proofs.Ytpnahobgmemdjaa
