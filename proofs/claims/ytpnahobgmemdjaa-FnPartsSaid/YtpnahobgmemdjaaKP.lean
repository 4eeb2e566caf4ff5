import Derived.Test.YtpnahobgmemdjaaKT
import Derived.Test.YtpnahobgmemdjaaKV
import Derived.Test.YtpnahobgmemdjaaKD
set_option linter.unusedSimpArgs false
set_option linter.unusedVariables false
/- Plain: the parts found by breadth first search are closed, and each has a root. -/



namespace Go.Proofs.Ytpnahobgmemdjaa
open Go.RowKit
section
variable {nb : Nat → Nat → Option Nat} {n c : Nat} {N0 : List Nat} {st : List Nat × List Nat}
theorem visS_growP : ∀ k j, ∃ l, (visS nb c st (k + j)).1 = (visS nb c st k).1 ++ l
  | k, 0 => ⟨[], by simp⟩
  | k, j + 1 => by
    obtain ⟨l, hl⟩ := visS_growP k j
    obtain ⟨m, hm⟩ := vis4_grow (nb := nb) (c := c) (st := visS nb c st (k + j)) (k + j) 4
    exact ⟨l ++ m, by show (vis4 nb c (k + j) (visS nb c st (k + j)) 4).1 = _; rw [hm, hl, List.append_assoc]⟩
theorem vis1_hitP {k d u v : Nat} (h : VisInv n c N0 st) (hu : st.1[k]? = some u) (hv : nb u d = some v) (hz : N0[v]? = some 0) : v ∈ (vis1 nb c k d st).1 := by
  unfold vis1
  rw [hu]
  simp only [hv]
  split
  · exact List.mem_append.2 (Or.inr (by simp))
  · rename_i hne
    rcases Classical.em (v ∈ st.1) with hm | hm
    · exact hm
    · exact absurd ((h.other v hm).trans hz) hne
theorem vis4_hitP {k u v : Nat} (h : VisInv n c N0 st) (hu : st.1[k]? = some u) : ∀ (e d : Nat), d < e → nb u d = some v → N0[v]? = some 0 → v ∈ (vis4 nb c k st e).1
  | 0, d, hd, _, _ => absurd hd (Nat.not_lt_zero _)
  | e + 1, d, hd, hv, hz => by
    simp only [vis4]
    by_cases hde : d = e
    · subst hde
      exact vis1_hitP (h.four k d) (vis4_at hu d) hv hz
    · obtain ⟨l, hl⟩ := vis1_grow (nb := nb) (c := c) (st := vis4 nb c k st e) k e
      rw [hl]
      exact List.mem_append.2 (Or.inl (vis4_hitP h hu e d (by omega) hv hz))
/-- the found are closed under steps to what had no name -/
theorem visS_closedP (h0 : VisInv n c N0 st) {u v d : Nat} (hu : u ∈ (visS nb c st n).1) (hd : d < 4) (hv : nb u d = some v) (hz : N0[v]? = some 0) : v ∈ (visS nb c st n).1 := by
  have hI := h0.all (nb := nb) n
  obtain ⟨k, hk⟩ := List.mem_iff_getElem?.1 hu
  have hkl : k < (visS nb c st n).1.length := (List.getElem?_eq_some_iff.1 hk).1
  have hkn : k < n := Nat.lt_of_lt_of_le hkl hI.length
  have hthere : (visS nb c st k).1[k]? = some u := by
    obtain ⟨l, hl⟩ := visS_growP (nb := nb) (c := c) (st := st) k (n - k)
    rw [show k + (n - k) = n by omega] at hl
    rcases Nat.lt_or_ge k (visS nb c st k).1.length with h1 | h1
    · rw [hl, List.getElem?_append_left h1] at hk; exact hk
    · have := visS_stop h1 (n - k)
      rw [show k + (n - k) = n by omega] at this
      rw [this] at hkl
      omega
  have hnext : v ∈ (visS nb c st (k + 1)).1 := vis4_hitP (h0.all k) hthere 4 d hd hv hz
  obtain ⟨l, hl⟩ := visS_growP (nb := nb) (c := c) (st := st) (k + 1) (n - (k + 1))
  rw [show k + 1 + (n - (k + 1)) = n by omega] at hl
  rw [hl]
  exact List.mem_append.2 (Or.inl hnext)
end
section
variable {nb : Nat → Nat → Option Nat} {n : Nat}
/-- neighbors have one name -/
theorem allP_near (hsym : ∀ u d v, u < n → d < 4 → nb u d = some v → v < n ∧ ∃ e, e < 4 ∧ nb v e = some u) : ∀ (i u d v c : Nat), c ≠ 0 → (allP nb n i).1[u]? = some c → d < 4 → nb u d = some v → (allP nb n i).1[v]? = some c
  | 0, u, d, v, c, hc, hu, hd, hv => by
    have := List.mem_of_getElem? hu
    simp only [allP] at this
    rw [List.mem_replicate] at this
    exact absurd this.2 hc
  | i + 1, u, d, v, c, hc, hu, hd, hv => by
    have ih := allP_near hsym i
    have hlen := allP_len nb n i
    have hlen1 := allP_len nb n (i + 1)
    have hun : u < n := by rw [← hlen1]; exact (List.getElem?_eq_some_iff.1 hu).1
    obtain ⟨hvn, e, he, hback⟩ := hsym u d v hun hd hv
    by_cases h0 : (allP nb n i).1[i]? = some 0
    · obtain ⟨nm, hnm⟩ : ∃ nm, (allP nb n i).1 = nm := ⟨_, rfl⟩
      obtain ⟨P, hP⟩ : ∃ P, (allP nb n i).2 = P := ⟨_, rfl⟩
      obtain ⟨e1, e2⟩ := allP_yes (nb := nb) (n := n) (i := i) hnm hP (hnm ▸ h0) rfl
      rw [hnm] at ih hlen h0
      have hS := VisInv.start (n := n) (c := P.length + 1) (N0 := nm) (i := i) (Nat.succ_ne_zero _) hlen h0
      have hV := hS.all (nb := nb) n
      rw [e1] at hu ⊢
      obtain ⟨x, hx⟩ : ∃ x, nm[v]? = some x := ⟨_, List.getElem?_eq_getElem (by rw [hlen]; exact hvn)⟩
      rcases Classical.em (u ∈ (visS nb (P.length + 1) ([i], nm.set i (P.length + 1)) n).1) with hm | hm
      · have hc2 := hV.is u hm
        rw [hu] at hc2
        rcases Nat.eq_zero_or_pos x with h | h
        · subst h
          rw [hV.is v (visS_closedP hS hm hd hv hx)]
          exact hc2.symm
        · have := ih v e u x (by omega) hx he hback
          rw [hV.was u hm] at this
          injection this with this
          omega
      · rw [hV.other u hm] at hu
        have hvc := ih u d v c hc hu hd hv
        have hmv : v ∉ (visS nb (P.length + 1) ([i], nm.set i (P.length + 1)) n).1 := fun h => by
          rw [hV.was v h] at hvc
          injection hvc with hvc
          exact hc hvc.symm
        rw [hV.other v hmv]
        exact hvc
    · rw [allP_no h0] at hu ⊢
      exact ih u d v c hc hu hd hv
theorem visS_first {c i : Nat} {nm : List Nat} (k : Nat) : i ∈ (visS nb c ([i], nm) k).1 := by
  obtain ⟨l, hl⟩ := visS_growP (nb := nb) (c := c) (st := ([i], nm)) 0 k
  rw [Nat.zero_add] at hl
  rw [hl]
  exact List.mem_append.2 (Or.inl (by simp [visS]))
/-- each part has a root: its least, from which all of it is reached -/
theorem allP_root : ∀ (i q : Nat) (l : List Nat), (allP nb n i).2[q]? = some l → ∃ r, r ∈ l ∧ (∀ v ∈ l, r ≤ v) ∧ ∀ S : Nat → Prop, (∀ u d v, S u → d < 4 → nb u d = some v → S v) → S r → ∀ v ∈ l, S v
  | 0, q, l, h => by simp [allP] at h
  | i + 1, q, l, h => by
    have ih := allP_root i
    have hlen := allP_len nb n i
    have hdone := allP_done (nb := nb) (n := n) i
    by_cases h0 : (allP nb n i).1[i]? = some 0
    · obtain ⟨nm, hnm⟩ : ∃ nm, (allP nb n i).1 = nm := ⟨_, rfl⟩
      obtain ⟨P, hP⟩ : ∃ P, (allP nb n i).2 = P := ⟨_, rfl⟩
      obtain ⟨e1, e2⟩ := allP_yes (nb := nb) (n := n) (i := i) hnm hP (hnm ▸ h0) rfl
      rw [hP] at ih
      rw [hnm] at hlen h0 hdone
      have hS := VisInv.start (n := n) (c := P.length + 1) (N0 := nm) (i := i) (Nat.succ_ne_zero _) hlen h0
      have hV := hS.all (nb := nb) n
      rw [e2] at h
      rcases Nat.lt_or_ge q P.length with hq | hq
      · rw [List.getElem?_append_left hq] at h
        exact ih q l h
      · rw [List.getElem?_append_right hq] at h
        have hq0 : q - P.length = 0 := by
          have := (List.getElem?_eq_some_iff.1 h).1
          simp at this
          omega
        rw [hq0] at h
        simp at h
        subst h
        refine ⟨i, visS_first n, fun v hv => ?_, fun S hS2 hr v hv => ?_⟩
        · rcases Nat.lt_or_ge v i with h | h
          · exact absurd (hV.was v hv) (hdone v h)
          · exact h
        · exact vis_within (nb := nb) hS2 (st := ([i], nm.set i (P.length + 1))) (fun u hu => by simp at hu; subst hu; exact hr) n v hv
    · rw [allP_no h0] at h
      exact ih q l h
/-- one part where all is reached from 0 -/
theorem allP_whole (hn : 0 < n) (h : ∀ v, v < n → v ∈ (visS nb 1 ([0], (List.replicate n 0).set 0 1) n).1) : (allP nb n n).2.length = 1 := by
  have h1 := allP_one (nb := nb) hn
  have hI := (VisInv.start (n := n) (c := 1) (N0 := List.replicate n 0) (i := 0) (by decide) (List.length_replicate ..) (by rw [List.getElem?_replicate, if_pos hn])).all (nb := nb) n
  have hne : ∀ v, (allP nb n 1).1[v]? ≠ some 0 := fun v hv => by
    have hvn : v < n := by have := (List.getElem?_eq_some_iff.1 hv).1; rw [allP_len] at this; exact this
    rw [h1, hI.is v (h v hvn)] at hv
    injection hv with hv
    omega
  have hall : ∀ i, allP nb n (i + 1) = allP nb n 1 := by
    intro i
    induction i with
    | zero => rfl
    | succ i ih =>
      rw [allP_no (by rw [ih]; exact hne (i + 1)), ih]
  obtain ⟨m, rfl⟩ : ∃ m, n = m + 1 := ⟨n - 1, by omega⟩
  rw [hall m, h1]
  rfl
end
end Go.Proofs.Ytpnahobgmemdjaa
/- Plain: the parts of an assembly are apart, no two touch, each is one part, and together they are the assembly. -/


namespace Go.Proofs.Ytpnahobgmemdjaa
open Go.RowKit
/-- some tiles of an assembly, by their places -/
def subX (xs : List Pl) (f : Nat → Bool) : List Pl := ((List.range xs.length).filter f).map (plAt xs)
def nmX (xs : List Pl) : List Nat := (allP (nbP (xs.map plPt)) (xs.map plPt).length (xs.map plPt).length).1
def cntX (xs : List Pl) : Nat := (allP (nbP (xs.map plPt)) (xs.map plPt).length (xs.map plPt).length).2.length
/-- the tiles of part q, and of the parts before it -/
def isQ (xs : List Pl) (q v : Nat) : Bool := decide ((nmX xs)[v]? = some (q + 1))
def uptoQ (xs : List Pl) (q v : Nat) : Bool := decide (∃ c, (nmX xs)[v]? = some c ∧ 1 ≤ c ∧ c ≤ q)
theorem partsQ_get {xs : List Pl} {q : Nat} (h : q < cntX xs) : (partsQ xs)[q]? = some (subX xs (isQ xs q)) := by
  unfold partsQ partsN
  rw [List.getElem?_map, namesL_get (show q < (allP (nbP (xs.map plPt)) (xs.map plPt).length (xs.map plPt).length).2.length from h)]
  show some ((nameL _ q (xs.map plPt).length).map (plAt xs)) = _
  rw [List.length_map]
  unfold nameL subX isQ nmX
  rw [List.length_map]
theorem partsQ_cnt (xs : List Pl) : (partsQ xs).length = cntX xs := by
  unfold partsQ partsN namesL cntX; rw [List.length_map, List.length_map, List.length_range]
theorem subX_get {xs : List Pl} {f : Nat → Bool} {j v : Nat} (h : ((List.range xs.length).filter f)[j]? = some v) : ∃ e, xs[v]? = some e ∧ (subX xs f)[j]? = some e ∧ v < xs.length ∧ f v = true := by
  have hm := List.mem_of_getElem? h
  rw [List.mem_filter, List.mem_range] at hm
  obtain ⟨e, he⟩ : ∃ e, xs[v]? = some e := ⟨_, List.getElem?_eq_getElem hm.1⟩
  exact ⟨e, he, by unfold subX; rw [List.getElem?_map, h, Option.map_some, plAt_of he], hm.1, hm.2⟩
theorem subX_at {xs : List Pl} {f : Nat → Bool} {j : Nat} {e : Pl} (h : (subX xs f)[j]? = some e) : ∃ v, ((List.range xs.length).filter f)[j]? = some v ∧ xs[v]? = some e ∧ f v = true := by
  unfold subX at h
  rw [List.getElem?_map, Option.map_eq_some_iff] at h
  obtain ⟨v, hv, rfl⟩ := h
  obtain ⟨e, he, _, _, hf⟩ := subX_get hv
  exact ⟨v, hv, by rw [he, plAt_of he], hf⟩
theorem subX_mem {xs : List Pl} {f : Nat → Bool} {e : Pl} : e ∈ subX xs f ↔ ∃ v, xs[v]? = some e ∧ f v = true := by
  constructor
  · intro h
    obtain ⟨j, hj⟩ := List.getElem?_of_mem h
    obtain ⟨v, _, h1, h2⟩ := subX_at hj
    exact ⟨v, h1, h2⟩
  · rintro ⟨v, h1, h2⟩
    unfold subX
    rw [List.mem_map]
    exact ⟨v, by rw [List.mem_filter, List.mem_range]; exact ⟨(List.getElem?_eq_some_iff.1 h1).1, h2⟩, plAt_of h1⟩
theorem subX_len (xs : List Pl) (f : Nat → Bool) : (subX xs f).length ≤ xs.length := by
  unfold subX
  rw [List.length_map]
  have := List.length_filter_le f (List.range xs.length)
  simpa using this
theorem filt_lt {n : Nat} {f : Nat → Bool} {i j u v : Nat} (hij : i < j) (hu : ((List.range n).filter f)[i]? = some u) (hv : ((List.range n).filter f)[j]? = some v) : u < v := by
  have hp : ((List.range n).filter f).Pairwise (· < ·) := List.Pairwise.sublist List.filter_sublist List.pairwise_lt_range
  obtain ⟨hi, rfl⟩ := List.getElem?_eq_some_iff.1 hu
  obtain ⟨hj, rfl⟩ := List.getElem?_eq_some_iff.1 hv
  exact List.pairwise_iff_getElem.1 hp i j hi hj hij
theorem subX_form {xs : List Pl} (h : hasFormB xs = true) (f : Nat → Bool) : hasFormB (subX xs f) = true := by
  have hV := form_valid h
  have hf := h
  unfold hasFormB at hf
  simp only [Bool.and_eq_true, decide_eq_true_eq] at hf
  have hpl : ∀ (k : Nat) (e : Pl), xs[k]? = some e → validPt e.x e.y = true ∧ inB e.t 0 159 = true := fun k e he => by
    have := allB_at hf.1 (lt_of_get he)
    unfold okPl at this
    rw [he] at this
    simp only [Bool.and_eq_true] at this
    exact this.1
  refine hasFormB_ok (Nat.le_trans (subX_len xs f) hf.2) fun j hj => ?_
  obtain ⟨e, he⟩ : ∃ e, (subX xs f)[j]? = some e := ⟨_, List.getElem?_eq_getElem hj⟩
  obtain ⟨v, hv, hxv, _⟩ := subX_at he
  have hp := hpl v e hxv
  cases j with
  | zero =>
    unfold okPl
    rw [he]
    simp only [hp.1, hp.2, Bool.and_self]
  | succ j =>
    obtain ⟨d, hd⟩ : ∃ d, (subX xs f)[j]? = some d := ⟨_, List.getElem?_eq_getElem (by omega)⟩
    obtain ⟨u, hu, hxu, _⟩ := subX_at hd
    rw [okPl_eqS he hd, hp.1, hp.2, hV.sorted u v d e (filt_lt (Nat.lt_succ_self j) hu hv) hxu hxv]
    rfl
theorem subX_sorted {xs : List Pl} (h : hasFormB xs = true) (f : Nat → Bool) : SortPl (subX xs f) := sortPl_valid (form_valid (subX_form h f))
theorem subX_all {xs : List Pl} {f : Nat → Bool} (h : ∀ v, v < xs.length → f v = true) : subX xs f = xs := by
  unfold subX
  rw [List.filter_eq_self.2 (fun v hv => h v (List.mem_range.1 hv))]
  apply List.ext_getElem?
  intro j
  rw [List.getElem?_map]
  by_cases hj : j < xs.length
  · rw [List.getElem?_range hj, Option.map_some, plAt_of (List.getElem?_eq_getElem hj), List.getElem?_eq_getElem hj]
  · rw [List.getElem?_eq_none (by simp; omega), List.getElem?_eq_none (by omega)]
    rfl
theorem filt_perm {f g : Nat → Bool} : ∀ (l : List Nat), (∀ v ∈ l, f v = true → g v = false) → (l.filter f ++ l.filter g).Perm (l.filter fun v => f v || g v)
  | [], _ => List.Perm.refl _
  | a :: l, h => by
    have ih := filt_perm l (fun v hv => h v (List.mem_cons_of_mem _ hv))
    have ha := h a (List.mem_cons_self ..)
    cases hf : f a with
    | true =>
      have hg := ha hf
      simp only [List.filter_cons, hf, hg, Bool.or_false, if_true, if_false, Bool.false_eq_true, List.cons_append]
      exact ih.cons a
    | false =>
      cases hg : g a with
      | true =>
        simp only [List.filter_cons, hf, hg, Bool.false_or, if_true, if_false, Bool.false_eq_true]
        exact List.perm_middle.trans (ih.cons a)
      | false =>
        simp only [List.filter_cons, hf, hg, Bool.false_or, if_false, Bool.false_eq_true]
        exact ih
theorem subX_perm {xs : List Pl} {f g : Nat → Bool} (h : ∀ v, v < xs.length → f v = true → g v = false) : (subX xs f ++ subX xs g).Perm (subX xs fun v => f v || g v) := by
  unfold subX
  rw [← List.map_append]
  exact (filt_perm _ (fun v hv => h v (List.mem_range.1 hv))).map _
theorem subX_two {xs : List Pl} (hf : hasFormB xs = true) {f g : Nat → Bool} (h : ∀ v, v < xs.length → f v = true → g v = false) : Two [] noTiles (subX xs f) (subX xs g) := by
  have hV := form_valid (subX_form hf g)
  refine ⟨form_valid (subX_form hf f), subX_sorted hf g, fun k e he => ⟨(hV.pt k e he).1, (hV.pt k e he).2, hV.ti k e he⟩, fun j hj => ?_⟩
  obtain ⟨e, he⟩ : ∃ e, (subX xs g)[j]? = some e := ⟨_, List.getElem?_eq_getElem hj⟩
  rw [freeAt_eq he]
  apply decide_eq_true
  apply Classical.byContradiction
  intro hn
  obtain ⟨v, _, hv, hgv⟩ := subX_at he
  rcases placeI_cases (subX xs f) e.x e.y with h1 | ⟨k, h1, hk⟩
  · omega
  · obtain ⟨d, hd⟩ : ∃ d, (subX xs f)[k]? = some d := ⟨_, List.getElem?_eq_getElem hk⟩
    have hxy : d.x = e.x ∧ d.y = e.y := by
      rcases placeI_is (subX xs f) e.x e.y with ⟨h2, _⟩ | ⟨k2, d2, h2, h3, h4⟩
      · omega
      · obtain rfl : k2 = k := by omega
        rw [hd] at h3
        injection h3 with h3
        subst h3
        exact h4
    obtain ⟨u, _, hu, hfu⟩ := subX_at hd
    have huv : u = v := by
      have hS := form_shp hf
      have e1 : (xs.map plPt)[u]? = some (plPt e) := by rw [List.getElem?_map, hu]; show some (plPt d) = _; unfold plPt; rw [hxy.1, hxy.2]
      have e2 : (xs.map plPt)[v]? = some (plPt e) := by rw [List.getElem?_map, hv]; rfl
      exact hS.inj e1 e2
    subst huv
    rw [h u (List.getElem?_eq_some_iff.1 hu).1 hfu] at hgv
    cases hgv
/-- two sets of tiles that are apart join to both -/
theorem subX_join {xs : List Pl} (hf : hasFormB xs = true) {f g : Nat → Bool} (h : ∀ v, v < xs.length → f v = true → g v = false) : sortPl (subX xs f ++ subX xs g) = subX xs fun v => f v || g v := by
  have h2 := subX_two hf h
  refine List.Perm.eq_of_pairwise (le := fun a b => ltPl a b = true) ?_ (sortPl_strict h2.apart) (subX_sorted hf _) ((List.mergeSort_perm _ lePl).trans (subX_perm h))
  intro a b _ _ h1 h2
  rw [ltPl_iff] at h1 h2
  omega
theorem upto_is {xs : List Pl} (q v : Nat) (h1 : uptoQ xs q v = true) : isQ xs q v = false := by
  unfold uptoQ at h1
  unfold isQ
  obtain ⟨c, hc, h2, h3⟩ := of_decide_eq_true h1
  apply decide_eq_false
  intro h
  rw [hc] at h
  injection h with h
  omega
theorem upto_succ (xs : List Pl) (q : Nat) : (fun v => uptoQ xs q v || isQ xs q v) = uptoQ xs (q + 1) := by
  funext v
  unfold uptoQ isQ
  rw [Bool.eq_iff_iff]
  simp only [Bool.or_eq_true, decide_eq_true_eq]
  constructor
  · rintro (⟨c, h1, h2, h3⟩ | h)
    · exact ⟨c, h1, h2, by omega⟩
    · exact ⟨q + 1, h, by omega, by omega⟩
  · rintro ⟨c, h1, h2, h3⟩
    rcases Nat.lt_or_ge q c with h | h
    · exact .inr (by rw [h1]; congr 1; omega)
    · exact .inl ⟨c, h1, h2, h⟩
theorem upto_zero (xs : List Pl) : subX xs (uptoQ xs 0) = [] := by
  unfold subX
  rw [List.filter_eq_nil_iff.2, List.map_nil]
  intro v _ h
  obtain ⟨c, _, h2, h3⟩ := of_decide_eq_true h
  omega
theorem upto_all (xs : List Pl) : subX xs (uptoQ xs (cntX xs)) = xs := subX_all fun v hv => by
  have hv' : v < (xs.map plPt).length := by rw [List.length_map]; exact hv
  obtain ⟨q, h1, h2⟩ := allP_named (nb := nbP (xs.map plPt)) hv'
  exact decide_eq_true ⟨q + 1, h1, by omega, h2⟩
/-- the parts so far and the next one are the parts so far -/
theorem join_next {xs : List Pl} (hf : hasFormB xs = true) (q : Nat) : sortPl (subX xs (uptoQ xs q) ++ subX xs (isQ xs q)) = subX xs (uptoQ xs (q + 1)) := by
  rw [subX_join hf (fun v _ => upto_is q v), upto_succ]
theorem join_len {xs : List Pl} (hf : hasFormB xs = true) (q : Nat) : (subX xs (uptoQ xs (q + 1))).length = (subX xs (uptoQ xs q)).length + (subX xs (isQ xs q)).length := by
  rw [← join_next hf, sortPl_len, List.length_append]
theorem at_iff {xs : List Pl} (hf : hasFormB xs = true) (x y : Int) : 0 ≤ atI xs x y ↔ ∃ e ∈ xs, e.x = x ∧ e.y = y := by
  have hV := form_valid hf
  rcases atI_cases hV x y with ⟨h1, h2⟩ | ⟨k, t, e, h1, he, ht, hlt, h2⟩
  · rw [h2]
    constructor
    · intro h; omega
    · rintro ⟨e, he, hxy⟩
      exact absurd hxy (place_neg (by omega) e he)
  · rw [h2]
    refine ⟨fun _ => ?_, fun _ => by omega⟩
    rcases placeI_is xs x y with ⟨h3, _⟩ | ⟨k2, d, h3, hd, hxy⟩
    · omega
    · exact ⟨d, List.mem_of_getElem? hd, hxy⟩
/-- no tile outside a part touches it -/
theorem part_near {xs : List Pl} (hf : hasFormB xs = true) {q d : Nat} (hd : d < 4) {e : Pl} (he : e ∈ subX xs (isQ xs q)) : decide (0 ≤ atI (subX xs (isQ xs q)) (stepX e.x d) (stepY e.y d)) = decide (0 ≤ atI xs (stepX e.x d) (stepY e.y d)) := by
  rw [Bool.eq_iff_iff, decide_eq_true_eq, decide_eq_true_eq, at_iff (subX_form hf _), at_iff hf]
  constructor
  · rintro ⟨e2, h1, h2⟩
    obtain ⟨v, hv, _⟩ := subX_mem.1 h1
    exact ⟨e2, List.mem_of_getElem? hv, h2⟩
  · rintro ⟨e2, h1, h2⟩
    refine ⟨e2, ?_, h2⟩
    obtain ⟨u, hu⟩ := List.getElem?_of_mem h1
    obtain ⟨v, hv, hqv⟩ := subX_mem.1 he
    rw [subX_mem]
    refine ⟨u, hu, ?_⟩
    have hS := form_shp hf
    have hpv : (xs.map plPt)[v]? = some (plPt e) := by rw [List.getElem?_map, hv]; rfl
    have hpu : (xs.map plPt)[u]? = some ⟨stepX e.x d, stepY e.y d⟩ := by
      rw [List.getElem?_map, hu]
      show some (plPt e2) = _
      unfold plPt
      rw [h2.1, h2.2]
    have hnb : nbP (xs.map plPt) v d = some u := by
      unfold nbP
      rw [hpv]
      exact hS.idx hpu
    have := allP_near (nb := nbP (xs.map plPt)) (n := (xs.map plPt).length) (nbP_sym hS) _ v d u (q + 1) (Nat.succ_ne_zero _) (of_decide_eq_true hqv) hd hnb
    exact decide_eq_true this
/-- a part is one part -/
theorem part_one {xs : List Pl} (hf : hasFormB xs = true) {q : Nat} (hq : q < cntX xs) : (partsR (subX xs (isQ xs q))).length = 1 ∧ 0 < (subX xs (isQ xs q)).length := by
  have hS := form_shp hf
  have hfy := subX_form hf (isQ xs q)
  obtain ⟨ys, hys⟩ : ∃ ys, subX xs (isQ xs q) = ys := ⟨_, rfl⟩
  obtain ⟨L, hL⟩ : ∃ L, (List.range xs.length).filter (isQ xs q) = L := ⟨_, rfl⟩
  have hLm : ∀ v, v ∈ L ↔ (nmX xs)[v]? = some (q + 1) := fun v => by
    rw [← hL, List.mem_filter, List.mem_range]
    unfold isQ
    rw [decide_eq_true_eq]
    refine ⟨fun h => h.2, fun h => ⟨?_, h⟩⟩
    have := (List.getElem?_eq_some_iff.1 h).1
    unfold nmX at this
    rw [allP_len, List.length_map] at this
    exact this
  obtain ⟨l, hl⟩ : ∃ l, (allP (nbP (xs.map plPt)) (xs.map plPt).length (xs.map plPt).length).2[q]? = some l := ⟨_, List.getElem?_eq_getElem hq⟩
  obtain ⟨_, _, hlm⟩ := allP_mem _ q l hl
  obtain ⟨r, hr, hmin, hreach⟩ := allP_root _ q l hl
  have hml : ∀ v, v ∈ l ↔ v ∈ L := fun v => (hlm v).trans (hLm v).symm
  have hLget : ∀ {j v : Nat}, L[j]? = some v → ∃ e, xs[v]? = some e ∧ ys[j]? = some e := fun {j v} h => by
    rw [← hL] at h
    obtain ⟨e, h1, h2, _⟩ := subX_get h
    rw [hys] at h2
    exact ⟨e, h1, h2⟩
  have hLlen : L.length = ys.length := by rw [← hys, ← hL]; unfold subX; rw [List.length_map]
  have hLlt : ∀ {i j u v : Nat}, i < j → L[i]? = some u → L[j]? = some v → u < v := fun {i j u v} hij hu hv => by
    rw [← hL] at hu hv
    exact filt_lt hij hu hv
  obtain ⟨j0, hj0⟩ := List.getElem?_of_mem ((hml r).1 hr)
  have hpos : 0 < L.length := by have := (List.getElem?_eq_some_iff.1 hj0).1; omega
  have h00 : L[0]? = some r := by
    obtain ⟨x, hx⟩ : ∃ x, L[0]? = some x := ⟨_, List.getElem?_eq_getElem hpos⟩
    have h1 := hmin x ((hml x).2 (List.mem_of_getElem? hx))
    rcases Nat.eq_zero_or_pos j0 with h | h
    · subst h; exact hj0
    · have := hLlt h hx hj0
      omega
  rw [hys] at hfy ⊢
  refine ⟨?_, by omega⟩
  have hSy := form_shp hfy
  have hny : (ys.map plPt).length = L.length := by rw [List.length_map, hLlen]
  have hnb : ∀ {i j u v d : Nat}, L[i]? = some u → L[j]? = some v → nbP (xs.map plPt) u d = some v → nbP (ys.map plPt) i d = some j := fun {i j u v d} hu hv h => by
    obtain ⟨e, h1, h2⟩ := hLget hu
    obtain ⟨e2, h3, h4⟩ := hLget hv
    unfold nbP at h ⊢
    rw [List.getElem?_map, h1] at h
    rw [List.getElem?_map, h2]
    simp only [Option.map_some] at h ⊢
    have h5 := idxP_some h
    rw [List.getElem?_map, h3] at h5
    have h6 : (ys.map plPt)[j]? = some ⟨stepX (plPt e).x d, stepY (plPt e).y d⟩ := by rw [List.getElem?_map, h4]; exact h5
    exact hSy.idx h6
  have hone : (allP (nbP (ys.map plPt)) (ys.map plPt).length (ys.map plPt).length).2.length = 1 := by
    rw [hny]
    have hI := VisInv.start (n := L.length) (c := 1) (N0 := List.replicate L.length 0) (i := 0) (by decide) (List.length_replicate ..) (by rw [List.getElem?_replicate, if_pos hpos])
    refine allP_whole hpos fun k hk => ?_
    obtain ⟨v, hv⟩ : ∃ v, L[k]? = some v := ⟨_, List.getElem?_eq_getElem hk⟩
    obtain ⟨j, hj, hjm⟩ := hreach (fun u => ∃ j, L[j]? = some u ∧ j ∈ (visS (nbP (ys.map plPt)) 1 ([0], (List.replicate L.length 0).set 0 1) L.length).1) (fun u d w hu hd hw => by
      obtain ⟨j, hj, hjm⟩ := hu
      have hum := (hLm u).1 (List.mem_of_getElem? hj)
      have hwm := allP_near (nb := nbP (xs.map plPt)) (n := (xs.map plPt).length) (nbP_sym hS) _ u d w (q + 1) (Nat.succ_ne_zero _) hum hd hw
      obtain ⟨j2, hj2⟩ := List.getElem?_of_mem ((hLm w).2 hwm)
      exact ⟨j2, hj2, visS_closedP hI hjm hd (hnb hj hj2 hw) (by rw [List.getElem?_replicate, if_pos (List.getElem?_eq_some_iff.1 hj2).1])⟩) ⟨0, h00, visS_first _⟩ v ((hml v).2 (List.mem_of_getElem? hv))
    have hjk : j = k := by
      rcases Nat.lt_trichotomy j k with h | h | h
      · have := hLlt h hj hv; omega
      · exact h
      · have := hLlt h hv hj; omega
    rw [← hjk]
    exact hjm
  unfold partsR
  rw [if_pos hfy, partsQ_cnt]
  exact hone
end Go.Proofs.Ytpnahobgmemdjaa
