import Derived.Test.YtpnahobgmemdjaaGAP
import Derived.Test.YtpnahobgmemdjaaGAZ
import Derived.Test.YtpnahobgmemdjaaGAQ
import Derived.Lib.LazyBuf
import Derived.Lib.SliceRun
import Derived.Test.YtpnahobgmemdjaaGAJ
import Derived.Deep.RegionLaw
import Derived.Shelf.RegionOpenPlain
set_option linter.unusedSimpArgs false
set_option linter.unusedVariables false
/- Plain: the parts found by breadth first search are closed, and each has a root. -/



namespace Go.Proofs.Ytpnahobgmemdjaa
open Go.RowKit
section
variable {nb : Nat → Nat → Option Nat} {n c : Nat} {N0 : List Nat} {st : List Nat × List Nat}
theorem visS_growP : ∀ k j, ∃ l, (visS nb c st (k + j)).1 = (visS nb c st k).1 ++ l
  | k, 0 => ⟨[], by simp⟩
  | k, j + 1 => by
    obtain ⟨l, hl⟩ := visS_growP k j
    obtain ⟨m, hm⟩ := vis4_grow (nb := nb) (c := c) (st := visS nb c st (k + j)) (k + j) 4
    exact ⟨l ++ m, by show (vis4 nb c (k + j) (visS nb c st (k + j)) 4).1 = _; rw [hm, hl, List.append_assoc]⟩
theorem vis1_hitP {k d u v : Nat} (h : VisInv n c N0 st) (hu : st.1[k]? = some u) (hv : nb u d = some v) (hz : N0[v]? = some 0) : v ∈ (vis1 nb c k d st).1 := by
  unfold vis1
  rw [hu]
  simp only [hv]
  split
  · exact List.mem_append.2 (Or.inr (by simp))
  · rename_i hne
    rcases Classical.em (v ∈ st.1) with hm | hm
    · exact hm
    · exact absurd ((h.other v hm).trans hz) hne
theorem vis4_hitP {k u v : Nat} (h : VisInv n c N0 st) (hu : st.1[k]? = some u) : ∀ (e d : Nat), d < e → nb u d = some v → N0[v]? = some 0 → v ∈ (vis4 nb c k st e).1
  | 0, d, hd, _, _ => absurd hd (Nat.not_lt_zero _)
  | e + 1, d, hd, hv, hz => by
    simp only [vis4]
    by_cases hde : d = e
    · subst hde
      exact vis1_hitP (h.four k d) (vis4_at hu d) hv hz
    · obtain ⟨l, hl⟩ := vis1_grow (nb := nb) (c := c) (st := vis4 nb c k st e) k e
      rw [hl]
      exact List.mem_append.2 (Or.inl (vis4_hitP h hu e d (by omega) hv hz))
/-- the found are closed under steps to what had no name -/
theorem visS_closedP (h0 : VisInv n c N0 st) {u v d : Nat} (hu : u ∈ (visS nb c st n).1) (hd : d < 4) (hv : nb u d = some v) (hz : N0[v]? = some 0) : v ∈ (visS nb c st n).1 := by
  have hI := h0.all (nb := nb) n
  obtain ⟨k, hk⟩ := List.mem_iff_getElem?.1 hu
  have hkl : k < (visS nb c st n).1.length := (List.getElem?_eq_some_iff.1 hk).1
  have hkn : k < n := Nat.lt_of_lt_of_le hkl hI.length
  have hthere : (visS nb c st k).1[k]? = some u := by
    obtain ⟨l, hl⟩ := visS_growP (nb := nb) (c := c) (st := st) k (n - k)
    rw [show k + (n - k) = n by omega] at hl
    rcases Nat.lt_or_ge k (visS nb c st k).1.length with h1 | h1
    · rw [hl, List.getElem?_append_left h1] at hk; exact hk
    · have := visS_stop h1 (n - k)
      rw [show k + (n - k) = n by omega] at this
      rw [this] at hkl
      omega
  have hnext : v ∈ (visS nb c st (k + 1)).1 := vis4_hitP (h0.all k) hthere 4 d hd hv hz
  obtain ⟨l, hl⟩ := visS_growP (nb := nb) (c := c) (st := st) (k + 1) (n - (k + 1))
  rw [show k + 1 + (n - (k + 1)) = n by omega] at hl
  rw [hl]
  exact List.mem_append.2 (Or.inl hnext)
end
section
variable {nb : Nat → Nat → Option Nat} {n : Nat}
/-- neighbors have one name -/
theorem allP_near (hsym : ∀ u d v, u < n → d < 4 → nb u d = some v → v < n ∧ ∃ e, e < 4 ∧ nb v e = some u) : ∀ (i u d v c : Nat), c ≠ 0 → (allP nb n i).1[u]? = some c → d < 4 → nb u d = some v → (allP nb n i).1[v]? = some c
  | 0, u, d, v, c, hc, hu, hd, hv => by
    have := List.mem_of_getElem? hu
    simp only [allP] at this
    rw [List.mem_replicate] at this
    exact absurd this.2 hc
  | i + 1, u, d, v, c, hc, hu, hd, hv => by
    have ih := allP_near hsym i
    have hlen := allP_len nb n i
    have hlen1 := allP_len nb n (i + 1)
    have hun : u < n := by rw [← hlen1]; exact (List.getElem?_eq_some_iff.1 hu).1
    obtain ⟨hvn, e, he, hback⟩ := hsym u d v hun hd hv
    by_cases h0 : (allP nb n i).1[i]? = some 0
    · obtain ⟨nm, hnm⟩ : ∃ nm, (allP nb n i).1 = nm := ⟨_, rfl⟩
      obtain ⟨P, hP⟩ : ∃ P, (allP nb n i).2 = P := ⟨_, rfl⟩
      obtain ⟨e1, e2⟩ := allP_yes (nb := nb) (n := n) (i := i) hnm hP (hnm ▸ h0) rfl
      rw [hnm] at ih hlen h0
      have hS := VisInv.start (n := n) (c := P.length + 1) (N0 := nm) (i := i) (Nat.succ_ne_zero _) hlen h0
      have hV := hS.all (nb := nb) n
      rw [e1] at hu ⊢
      obtain ⟨x, hx⟩ : ∃ x, nm[v]? = some x := ⟨_, List.getElem?_eq_getElem (by rw [hlen]; exact hvn)⟩
      rcases Classical.em (u ∈ (visS nb (P.length + 1) ([i], nm.set i (P.length + 1)) n).1) with hm | hm
      · have hc2 := hV.is u hm
        rw [hu] at hc2
        rcases Nat.eq_zero_or_pos x with h | h
        · subst h
          rw [hV.is v (visS_closedP hS hm hd hv hx)]
          exact hc2.symm
        · have := ih v e u x (by omega) hx he hback
          rw [hV.was u hm] at this
          injection this with this
          omega
      · rw [hV.other u hm] at hu
        have hvc := ih u d v c hc hu hd hv
        have hmv : v ∉ (visS nb (P.length + 1) ([i], nm.set i (P.length + 1)) n).1 := fun h => by
          rw [hV.was v h] at hvc
          injection hvc with hvc
          exact hc hvc.symm
        rw [hV.other v hmv]
        exact hvc
    · rw [allP_no h0] at hu ⊢
      exact ih u d v c hc hu hd hv
theorem visS_first {c i : Nat} {nm : List Nat} (k : Nat) : i ∈ (visS nb c ([i], nm) k).1 := by
  obtain ⟨l, hl⟩ := visS_growP (nb := nb) (c := c) (st := ([i], nm)) 0 k
  rw [Nat.zero_add] at hl
  rw [hl]
  exact List.mem_append.2 (Or.inl (by simp [visS]))
/-- each part has a root: its least, from which all of it is reached -/
theorem allP_root : ∀ (i q : Nat) (l : List Nat), (allP nb n i).2[q]? = some l → ∃ r, r ∈ l ∧ (∀ v ∈ l, r ≤ v) ∧ ∀ S : Nat → Prop, (∀ u d v, S u → d < 4 → nb u d = some v → S v) → S r → ∀ v ∈ l, S v
  | 0, q, l, h => by simp [allP] at h
  | i + 1, q, l, h => by
    have ih := allP_root i
    have hlen := allP_len nb n i
    have hdone := allP_done (nb := nb) (n := n) i
    by_cases h0 : (allP nb n i).1[i]? = some 0
    · obtain ⟨nm, hnm⟩ : ∃ nm, (allP nb n i).1 = nm := ⟨_, rfl⟩
      obtain ⟨P, hP⟩ : ∃ P, (allP nb n i).2 = P := ⟨_, rfl⟩
      obtain ⟨e1, e2⟩ := allP_yes (nb := nb) (n := n) (i := i) hnm hP (hnm ▸ h0) rfl
      rw [hP] at ih
      rw [hnm] at hlen h0 hdone
      have hS := VisInv.start (n := n) (c := P.length + 1) (N0 := nm) (i := i) (Nat.succ_ne_zero _) hlen h0
      have hV := hS.all (nb := nb) n
      rw [e2] at h
      rcases Nat.lt_or_ge q P.length with hq | hq
      · rw [List.getElem?_append_left hq] at h
        exact ih q l h
      · rw [List.getElem?_append_right hq] at h
        have hq0 : q - P.length = 0 := by
          have := (List.getElem?_eq_some_iff.1 h).1
          simp at this
          omega
        rw [hq0] at h
        simp at h
        subst h
        refine ⟨i, visS_first n, fun v hv => ?_, fun S hS2 hr v hv => ?_⟩
        · rcases Nat.lt_or_ge v i with h | h
          · exact absurd (hV.was v hv) (hdone v h)
          · exact h
        · exact vis_within (nb := nb) hS2 (st := ([i], nm.set i (P.length + 1))) (fun u hu => by simp at hu; subst hu; exact hr) n v hv
    · rw [allP_no h0] at h
      exact ih q l h
/-- one part where all is reached from 0 -/
theorem allP_whole (hn : 0 < n) (h : ∀ v, v < n → v ∈ (visS nb 1 ([0], (List.replicate n 0).set 0 1) n).1) : (allP nb n n).2.length = 1 := by
  have h1 := allP_one (nb := nb) hn
  have hI := (VisInv.start (n := n) (c := 1) (N0 := List.replicate n 0) (i := 0) (by decide) (List.length_replicate ..) (by rw [List.getElem?_replicate, if_pos hn])).all (nb := nb) n
  have hne : ∀ v, (allP nb n 1).1[v]? ≠ some 0 := fun v hv => by
    have hvn : v < n := by have := (List.getElem?_eq_some_iff.1 hv).1; rw [allP_len] at this; exact this
    rw [h1, hI.is v (h v hvn)] at hv
    injection hv with hv
    omega
  have hall : ∀ i, allP nb n (i + 1) = allP nb n 1 := by
    intro i
    induction i with
    | zero => rfl
    | succ i ih =>
      rw [allP_no (by rw [ih]; exact hne (i + 1)), ih]
  obtain ⟨m, rfl⟩ : ∃ m, n = m + 1 := ⟨n - 1, by omega⟩
  rw [hall m, h1]
  rfl
end
end Go.Proofs.Ytpnahobgmemdjaa
/- Walks: a list of bonds copied; its weak bonds struck out. -/



namespace Go.Proofs.Ytpnahobgmemdjaa
open Go.RowKit Go.Shelf
attribute [local go_sem] BelowBy.cell BelowBy.cell_drew stillUpon givesUpon BelowBy.cell_drew2 BelowBy.cell_drew3

theorem bdCells_one (bs : List Bd) : ∀ u ∈ bdCells bs, u.oneCell' = true := by
  induction bs with
  | nil => simp [bdCells]
  | cons b l ih =>
    intro u hu
    simp only [bdCells, List.mem_cons] at hu
    rcases hu with rfl | rfl | rfl | hu
    · rfl
    · rfl
    · rfl
    · exact ih u hu
/-- what is struck out -/
def weakB (t : Int) (b : Bd) : Bool := decide (b.s < t)
def FirstK (w : World) (n : Nat) (del : Nat → Bool) (e : Ending) (w' : World) : Prop :=
  ((e = .returned (.int .i64 (-1)) ∧ ∀ j, j < n → del j = false) ∨ ∃ k : Nat, k < n ∧ e = .returned (.int .i64 (k : Int)) ∧ del k = true ∧ ∀ j, j < k → del j = false) ∧ Below w.heap.size w w'
def delAt (t : Int) (bs : List Bd) (j : Nat) : Bool := match bs[j]? with
  | none => false
  | some b => weakB t b
theorem delAt_eq {t : Int} {bs : List Bd} {j : Nat} {b : Bd} (h : bs[j]? = some b) : delAt t bs j = weakB t b := by unfold delAt; rw [h]
theorem run_clear_rows {P : Program} (w : World) (t e ty : TypeId) (z : Value) (ht : P.underlying t = some (.slice e)) (hv : ∀ w, (zeroValue e).run P w = .ok z w) (b o n c : Nat) (hn : 0 < n)
    (hc : ∀ j, j < n * z.cells.size → (w.cell? ⟨b, o + j, none⟩).isSome = true) (hf : ∀ j, j < n * z.cells.size → w.frozen? ⟨b, o + j, none⟩ = false) (h1 : ∀ u ∈ (Builtin.zeroCells z.cells n).toList, u.oneCell' = true) :
    (Builtin.clear_ #[t] ty #[.slice (some ⟨b, o, none⟩) n c]).run P w = .ok (.tuple #[]) (w.setCells b o (Builtin.zeroCells z.cells n).toList) := by
  have hlen : (Builtin.zeroCells z.cells n).toList.length = n * z.cells.size := by simp [size_zeroCells]
  have hst := run_storeCells_cells (P := P) b o (Builtin.zeroCells z.cells n).toList 0 w (by rw [hlen]; simpa using hc) (by rw [hlen]; simpa using hf) h1
  simp only [Nat.add_zero] at hst
  obtain ⟨m, rfl⟩ : ∃ m, n = m + 1 := ⟨n - 1, by omega⟩
  simp [Builtin.clear_, run_underlying ht, hv, hst]
theorem zero3 (n : Nat) : ∀ u ∈ (Builtin.zeroCells #[Value.int .i64 0, .int .i64 0, .int .i64 0] n).toList, u.oneCell' = true := by
  intro u hu
  simp only [Builtin.zeroCells, Array.toList_map, List.mem_map] at hu
  obtain ⟨i, _, rfl⟩ := hu
  have : i % 3 = 0 ∨ i % 3 = 1 ∨ i % 3 = 2 := by omega
  rcases this with h | h | h <;> simp [h] <;> rfl
def keepL (t : Int) (bs : List Bd) (k : Nat) : List Bd := (bs.take k).filter fun b => !weakB t b
theorem keepL_succ_yes {t : Int} {bs : List Bd} {k : Nat} {e : Bd} (he : bs[k]? = some e) (h : weakB t e = false) : keepL t bs (k + 1) = keepL t bs k ++ [e] := by
  obtain ⟨hk, rfl⟩ := List.getElem?_eq_some_iff.1 he
  unfold keepL; rw [List.take_succ_eq_append_getElem hk, List.filter_append]; simp [h]
theorem keepL_succ_no {t : Int} {bs : List Bd} {k : Nat} {e : Bd} (he : bs[k]? = some e) (h : weakB t e = true) : keepL t bs (k + 1) = keepL t bs k := by
  obtain ⟨hk, rfl⟩ := List.getElem?_eq_some_iff.1 he
  unfold keepL; rw [List.take_succ_eq_append_getElem hk, List.filter_append]; simp [h]
theorem keepL_len (t : Int) (bs : List Bd) (k : Nat) : (keepL t bs k).length ≤ k := Nat.le_trans (List.length_filter_le _ _) (List.length_take_le _ _)
theorem keepL_all {t : Int} {bs : List Bd} {k : Nat} (h : ∀ j, j < k → delAt t bs j = false) : keepL t bs k = bs.take k := by
  unfold keepL
  rw [List.filter_eq_self]
  intro b hb
  obtain ⟨j, hj, rfl⟩ := List.mem_iff_getElem.1 hb
  have hj' : j < k ∧ j < bs.length := by simp at hj; omega
  have := h j hj'.1
  rw [delAt_eq (List.getElem?_eq_getElem hj'.2)] at this
  simpa using this
/-- what is left of a row of bonds -/
def DelRes (base : Nat) (w : World) (l : List Bd) (e : Ending) (w' : World) : Prop := ∃ A c, e = .returned (.slice A l.length c) ∧ RdSl 3 RBd w' A l.length l ∧ Below base w w'
theorem DelRes.of {base n : Nat} {w w' : World} {l : List Bd} {A : Option Addr} {c : Nat} (hn : n = l.length) (h : RdSl 3 RBd w' A l.length l) (hb : Below base w w') : DelRes base w l (.returned (.slice A n c)) w' := by
  subst hn; exact ⟨A, c, rfl, h, hb⟩
end Go.Proofs.Ytpnahobgmemdjaa
/- Walks: one element struck out of a row by slices.Delete. -/






namespace Go.Proofs.Ytpnahobgmemdjaa
open Go.RowKit Go.Shelf
attribute [local go_sem] BelowBy.cell BelowBy.cell_drew stillUpon givesUpon BelowBy.cell_drew2 BelowBy.cell_drew3

theorem setCells_grown (g : Nat) : ∀ (vs : List Value) (o : Nat) (w : World), w.grownBy (w.setCells g o vs) (some g)
  | [], _, _ => ⟨rfl, rfl, rfl, Nat.le_refl _, fun _ _ _ => rfl⟩
  | v :: r, o, w => by
    have ih := setCells_grown g r (o + 1) (w.setCell ⟨g, o, none⟩ v)
    refine ⟨ih.os, ih.tape, ih.output, Nat.le_trans (by simp) ih.size, fun k hk hne => (ih.block k (by simpa using hk) hne).trans (Below.heap_setCell _ _ _ _ (fun e => hne (by rw [e])))⟩
theorem grown_two {w w1 w2 : World} {r : Option Nat} (h : w.grownBy w1 r) (k : w1.grownBy w2 r) : w.grownBy w2 r :=
  ⟨k.os.trans h.os, k.tape.trans h.tape, k.output.trans h.output, Nat.le_trans h.size k.size, fun i hi hne => (k.block i (Nat.lt_of_lt_of_le hi h.size) hne).trans (h.block i hi hne)⟩
theorem grown_drew (w : World) (r : Option Nat) : w.grownBy w.drew r := grown_below (Below.drew (Below.refl _ _)) r
theorem rowIs_of_owns {w : World} {base g n cap size : Nat} {e : TypeId} {xs : List Value} (h : w.ownsRow base e size (.slice (some ⟨g, 0, none⟩) n cap) n xs) :
    ∃ f, w.rowIs g e (cap * size) f ∧ (∀ j u, xs[j]? = some u → f j = u) ∧ base ≤ g ∧ n ≤ cap ∧ cap ≤ maxLen ∧ xs.length = n * size := by
  rcases h.2 with ⟨h0, _⟩ | ⟨g', cap', cur, hv, hb, hh, hnc, hm, hs, ht⟩
  · cases h0
  · injection hv with a1 a2 a3
    injection a1 with a1
    injection a1 with a1 _ _
    subst a1 a3
    refine ⟨fun j => cur.getD j undef, ⟨cur, hh, hs, fun i hi => ?_⟩, fun j u hj => ?_, hb, hnc, hm, h.1⟩
    · have : i < cur.size := by omega
      simp [this]
    · have hjl := (List.getElem?_eq_some_iff.1 hj).1
      rw [h.1] at hjl
      rw [← ht, List.getElem?_take_of_lt hjl, Array.getElem?_toList] at hj
      simp [Array.getD_eq_getD_getElem?, hj]
theorem owns_of_rowIs {w : World} {base g m cap size : Nat} {e : TypeId} {f : Nat → Value} (h : w.rowIs g e (cap * size) f) (hb : base ≤ g) (hm : m ≤ cap) (hc : cap ≤ maxLen) :
    w.ownsRow base e size (.slice (some ⟨g, 0, none⟩) m cap) m ((List.range (m * size)).map f) := by
  obtain ⟨c, hh, hs, hf⟩ := h
  refine ⟨by simp, .inr ⟨g, cap, c, rfl, hb, hh, hm, hc, hs, ?_⟩⟩
  have hle : m * size ≤ cap * size := Nat.mul_le_mul_right _ hm
  apply List.ext_getElem?
  intro j
  by_cases hj : j < m * size
  · rw [List.getElem?_take_of_lt hj, Array.getElem?_toList, hf j (by omega)]
    simp [hj]
  · rw [List.getElem?_eq_none (by simp; omega), List.getElem?_eq_none (by simp; omega)]
/-- the cells behind: a tail moved to the left, then zeros -/
theorem erased_cells {f : Nat → Value} {xs zs : List Value} {a S N : Nat} (hx : ∀ j u, xs[j]? = some u → f j = u) (hl : xs.length = N) (ha : a + S ≤ N) :
    (List.range (N - S)).map (fun j => if N - S ≤ j ∧ j < N - S + zs.length then zs[j - (N - S)]?.getD default else if a ≤ j ∧ j < a + (xs.drop (a + S)).length then (xs.drop (a + S))[j - a]?.getD default else f j) = xs.take a ++ xs.drop (a + S) := by
  apply List.ext_getElem?
  intro j
  have h1 : (xs.take a).length = a := by simp; omega
  by_cases hj : j < N - S
  · rw [List.getElem?_map, List.getElem?_range hj]
    simp only [Option.map_some]
    rw [if_neg (by omega)]
    by_cases hja : j < a
    · rw [if_neg (by omega), List.getElem?_append_left (by omega), List.getElem?_take_of_lt hja]
      have := List.getElem?_eq_getElem (l := xs) (i := j) (by omega)
      rw [this, hx j _ this]
    · rw [if_pos (by simp; omega), List.getElem?_append_right (by omega), h1]
      have := List.getElem?_eq_getElem (l := xs.drop (a + S)) (i := j - a) (by simp; omega)
      rw [this]; rfl
  · rw [List.getElem?_eq_none (by simp; omega), List.getElem?_eq_none (by simp; omega)]
/-- what is left when element k is struck out -/
def DelAt (base g n cap k S : Nat) (T : TypeId) (xs : List Value) (w : World) (e : Ending) (w' : World) : Prop :=
  e = .returned (.slice (some ⟨g, 0, none⟩) (n - 1) cap) ∧ w'.ownsRow base T S (.slice (some ⟨g, 0, none⟩) (n - 1) cap) (n - 1) (xs.take (k * S) ++ xs.drop ((k + 1) * S)) ∧ w.grownBy w' (some g)
theorem delAt_of {base g n cap k S : Nat} {T : TypeId} {xs zs : List Value} {w : World} (h : w.ownsRow base T S (.slice (some ⟨g, 0, none⟩) n cap) n xs) (hk : k < n) (hz : zs.length = S) :
    ((w.drew.setCells g (k * S) (xs.drop ((k + 1) * S))).setCells g ((n - 1) * S) zs).ownsRow base T S (.slice (some ⟨g, 0, none⟩) (n - 1) cap) (n - 1) (xs.take (k * S) ++ xs.drop ((k + 1) * S)) ∧
      w.grownBy ((w.drew.setCells g (k * S) (xs.drop ((k + 1) * S))).setCells g ((n - 1) * S) zs) (some g) := by
  have hd : w.drew.ownsRow base T S (.slice (some ⟨g, 0, none⟩) n cap) n xs := h.kept (grown_drew w none) (Classical.em _)
  obtain ⟨f, hr, hx, hb, hnc, hm, hl⟩ := rowIs_of_owns hd
  have h1 := rowIs_setCells (xs.drop ((k + 1) * S)) (k * S) _ _ hr
  have h2 := rowIs_setCells zs ((n - 1) * S) _ _ h1
  have h3 := owns_of_rowIs (m := n - 1) h2 hb (by omega) hm
  have hmul : (k + 1) * S = k * S + S := Nat.succ_mul k S
  have hN : (n - 1) * S = n * S - S := by rw [Nat.sub_mul, Nat.one_mul]
  have hle : k * S + S ≤ n * S := by rw [← hmul]; exact Nat.mul_le_mul_right _ hk
  have hc := erased_cells (zs := zs) hx hl hle
  rw [hN, hmul] at h3
  rw [hc] at h3
  rw [hmul, hN]
  exact ⟨h3, grown_two (grown_drew w _) (grown_two (setCells_grown g _ _ _) (setCells_grown g _ _ _))⟩
theorem infoI64 : (Try.prog.info? 2).map (fun i => (i.zero, i.size, i.bytes)) = some (some (.int .i64 0), 1, 8) := by kernel_rfl
theorem infoI64S : (Try.prog.info? 67).map (fun i => (i.zero, i.size, i.bytes)) = some (some (.slice none 0 0), 1, 24) := by kernel_rfl
theorem zeros_len (z : Value) (n : Nat) : (Builtin.zeroCells z.cells n).toList.length = n * z.cells.size := by simp [size_zeroCells]
theorem zeros_one1 (z : Value) (hz : z.cells = #[z]) (h1 : z.oneCell' = true) (n : Nat) : ∀ u ∈ (Builtin.zeroCells z.cells n).toList, u.oneCell' = true := by
  intro u hu
  rw [hz] at hu
  simp only [Builtin.zeroCells, Array.toList_map, List.mem_map] at hu
  obtain ⟨i, _, rfl⟩ := hu
  have : i % 1 = 0 := by omega
  simp [Nat.mod_one, h1]
-- WALKS
end Go.Proofs.Ytpnahobgmemdjaa
