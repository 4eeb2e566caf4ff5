import Derived.Test.YtkppijcjmhkkkaaGAM
import Derived.Test.YtkppijcjmhkkkaaGAN
import Derived.Test.YtkppijcjmhkkkaaGAL
set_option linter.unusedSimpArgs false
set_option linter.unusedVariables false
/- Walks: the reference's connected parts of points. -/



namespace Go.Proofs.Ytkppijcjmhkkkaa
open Go.RowKit Go.Shelf
attribute [local go_sem] BelowBy.cell BelowBy.cell_drew stillUpon givesUpon

def pl0 (e : Pt) : Pl := ⟨e.x, e.y, 0⟩
theorem pl0_pt (ps : List Pt) : (ps.map pl0).map plPt = ps := by
  rw [List.map_map]
  have : (plPt ∘ pl0) = id := by funext e; rfl
  rw [this, List.map_id]
theorem nameL_lt {nm : List Nat} {q t v : Nat} (h : v ∈ nameL nm q t) : v < t := by
  unfold nameL at h
  have := (List.mem_filter.1 h).1
  simpa using this
theorem partsN_len (ps : List Pt) : (partsN ps).length = (allP (nbP ps) ps.length ps.length).2.length := by simp [partsN, namesL]
theorem partsN_le (ps : List Pt) : (partsN ps).length ≤ ps.length := by rw [partsN_len]; exact allP_count _ _ _
theorem partsN_lt {ps : List Pt} {i : Nat} {l : List Nat} (h : (partsN ps)[i]? = some l) : ∀ v ∈ l, v < ps.length := by
  intro v hv
  have := List.mem_of_getElem? h
  unfold partsN namesL at this
  rw [List.mem_map] at this
  obtain ⟨q, _, rfl⟩ := this
  exact nameL_lt hv
theorem partsN_each {ps : List Pt} {i : Nat} {l : List Nat} (h : (partsN ps)[i]? = some l) : l.length ≤ ps.length := by
  have := List.mem_of_getElem? h
  unfold partsN namesL at this
  rw [List.mem_map] at this
  obtain ⟨q, _, rfl⟩ := this
  exact nameL_len _ _ _
def rowsQ (ps : List Pt) (P : List (List Nat)) : List (List Value) := P.map fun l => ptCells (ptsAt ps l)
end Go.Proofs.Ytkppijcjmhkkkaa
/- Plain: the parts of a shape, of both, are the same points. -/

namespace Go.Proofs.Ytkppijcjmhkkkaa
open Go.RowKit Go.Lib Go.Sort
section
variable {nb : Nat → Nat → Option Nat} {n : Nat}
/-- what the names say of the parts -/
theorem allP_mem : ∀ (i q : Nat) (l : List Nat), (allP nb n i).2[q]? = some l → l.Nodup ∧ (∀ v ∈ l, v < n) ∧ ∀ v, v ∈ l ↔ (allP nb n i).1[v]? = some (q + 1)
  | 0, q, l, h => by simp [allP] at h
  | i + 1, q, l, h => by
    have ih := allP_mem i
    have hrng := allP_rng (nb := nb) (n := n) i
    have hlen := allP_len nb n i
    by_cases h0 : (allP nb n i).1[i]? = some 0
    · obtain ⟨nm, hnm⟩ : ∃ nm, (allP nb n i).1 = nm := ⟨_, rfl⟩
      obtain ⟨P, hP⟩ : ∃ P, (allP nb n i).2 = P := ⟨_, rfl⟩
      obtain ⟨e1, e2⟩ := allP_yes (nb := nb) (n := n) (i := i) hnm hP (hnm ▸ h0) rfl
      rw [hnm, hP] at ih hrng
      rw [hnm] at hlen h0
      have hV := (VisInv.start (n := n) (c := P.length + 1) (N0 := nm) (i := i) (Nat.succ_ne_zero _) hlen h0).all (nb := nb) n
      obtain ⟨st, hst⟩ : ∃ st, visS nb (P.length + 1) ([i], nm.set i (P.length + 1)) n = st := ⟨_, rfl⟩
      rw [hst] at e1 e2 hV
      rw [e2] at h
      rw [e1]
      rcases Nat.lt_or_ge q P.length with hq | hq
      · rw [List.getElem?_append_left hq] at h
        obtain ⟨h1, h2, h3⟩ := ih q l h
        refine ⟨h1, h2, fun v => ?_⟩
        rcases Classical.em (v ∈ st.1) with hm | hm
        · have hw := hV.was v hm
          have hi := hV.is v hm
          constructor
          · intro hv
            have := (h3 v).1 hv
            rw [hw] at this
            injection this with this
            omega
          · intro hv
            rw [hi] at hv
            injection hv with hv
            omega
        · rw [hV.other v hm]
          exact h3 v
      · rw [List.getElem?_append_right hq] at h
        have hq0 : q - P.length = 0 := by
          have := (List.getElem?_eq_some_iff.1 h).1
          simp at this
          omega
        rw [hq0] at h
        simp at h
        subst h
        have hqe : q = P.length := by omega
        subst hqe
        refine ⟨hV.nd, hV.lt, fun v => ⟨fun hv => hV.is v hv, fun hv => ?_⟩⟩
        apply Classical.byContradiction
        intro hm
        rw [hV.other v hm] at hv
        have := hrng v _ hv
        omega
    · have he := allP_no (nb := nb) (n := n) (i := i) h0
      rw [he] at h ⊢
      exact ih q l h
end
theorem sortP_perm (L : List Pt) : (sortP L).Perm L := List.mergeSort_perm _ _
theorem ltP_of (x y : Pt) : ltOf cmpP x y = true ↔ ltP x y := Iff.rfl
theorem sortP_sorted {L : List Pt} (h : L.Nodup) : SortS (sortP L) := by
  have h1 : (sortP L).Pairwise fun x y => (!(ltOf cmpP) y x) = true := by
    refine List.pairwise_mergeSort ?_ ?_ L
    · intro a b c h1 h2
      simp only [Bool.not_eq_true'] at *
      exact swo_cmpP.ntrans c b a h2 h1
    · intro a b
      cases h2 : ltOf cmpP b a
      · rfl
      · cases h3 : ltOf cmpP a b
        · rfl
        · exact absurd (swo_cmpP.trans _ _ _ h2 h3) (by rw [swo_cmpP.irrefl]; decide)
  have h2 : (sortP L).Nodup := (sortP_perm L).nodup_iff.2 h
  unfold SortS
  refine List.Pairwise.imp₂ ?_ h1 h2
  intro a b hab hne
  apply Classical.byContradiction
  intro hlt
  simp only [Bool.not_eq_true'] at hab
  refine hne (part_cmpP a b ?_ hab)
  cases hh : ltOf cmpP a b
  · rfl
  · exact absurd hh hlt
theorem ptsAt_inj {ps : List Pt} (hS : Shp ps) {l : List Nat} (hl : ∀ v ∈ l, v < ps.length) (hn : l.Nodup) : (ptsAt ps l).Nodup := by
  unfold ptsAt
  rw [List.nodup_iff_pairwise_ne, List.pairwise_map]
  refine List.Pairwise.imp_of_mem ?_ hn
  intro a b ha hb hne he
  obtain ⟨e, hea⟩ : ∃ e, ps[a]? = some e := ⟨_, List.getElem?_eq_getElem (hl a ha)⟩
  obtain ⟨f, hfb⟩ : ∃ f, ps[b]? = some f := ⟨_, List.getElem?_eq_getElem (hl b hb)⟩
  rw [ptAt_of hea, ptAt_of hfb] at he
  subst he
  exact hne (hS.inj hea hfb)
theorem nameL_mem {nm : List Nat} {q t v : Nat} : v ∈ nameL nm q t ↔ v < t ∧ nm[v]? = some (q + 1) := by
  unfold nameL
  rw [List.mem_filter]
  simp
theorem nameL_pw (nm : List Nat) (q t : Nat) : (nameL nm q t).Pairwise (· < ·) := List.Pairwise.sublist List.filter_sublist List.pairwise_lt_range
theorem ptsAt_sorted {ps : List Pt} (hS : Shp ps) {l : List Nat} (hl : ∀ v ∈ l, v < ps.length) (hp : l.Pairwise (· < ·)) : SortS (ptsAt ps l) := by
  unfold SortS ptsAt
  rw [List.pairwise_map]
  refine List.Pairwise.imp_of_mem ?_ hp
  intro a b ha hb hlt
  obtain ⟨e, hea⟩ : ∃ e, ps[a]? = some e := ⟨_, List.getElem?_eq_getElem (hl a ha)⟩
  obtain ⟨f, hfb⟩ : ∃ f, ps[b]? = some f := ⟨_, List.getElem?_eq_getElem (hl b hb)⟩
  rw [ptAt_of hea, ptAt_of hfb]
  exact hS.sorted a b e f hlt hea hfb
/-- the parts of a shape's points, each in order -/
def partsP (ps : List Pt) : List (List Pt) := (partsN ps).map (ptsAt ps)
theorem rowsQ_parts (ps : List Pt) : rowsQ ps (partsN ps) = (partsP ps).map ptCells := by unfold rowsQ partsP; rw [List.map_map]; rfl
theorem parts_same {ps : List Pt} (hS : Shp ps) : (allP (nbP ps) ps.length ps.length).2.map (fun l => sortP (ptsAt ps l)) = partsP ps := by
  apply List.ext_getElem?
  intro q
  unfold partsP partsN namesL
  rw [List.map_map, List.getElem?_map, List.getElem?_map]
  cases h : (allP (nbP ps) ps.length ps.length).2[q]? with
  | none =>
    have hq := List.getElem?_eq_none_iff.1 h
    rw [List.getElem?_eq_none (by simpa using hq)]
    rfl
  | some l =>
    have hq := (List.getElem?_eq_some_iff.1 h).1
    rw [List.getElem?_range hq]
    obtain ⟨h1, h2, h3⟩ := allP_mem _ q l h
    show some (sortP (ptsAt ps l)) = some (ptsAt ps (nameL (allP (nbP ps) ps.length ps.length).1 q ps.length))
    congr 1
    have hl2 : ∀ v ∈ nameL (allP (nbP ps) ps.length ps.length).1 q ps.length, v < ps.length := fun v hv => (nameL_mem.1 hv).1
    refine SortS.ext (sortP_sorted (ptsAt_inj hS h2 h1)) (ptsAt_sorted hS hl2 (nameL_pw _ _ _)) (fun p => ?_)
    rw [(sortP_perm _).mem_iff]
    unfold ptsAt
    rw [List.mem_map, List.mem_map]
    constructor
    · rintro ⟨v, hv, rfl⟩
      exact ⟨v, nameL_mem.2 ⟨h2 v hv, (h3 v).1 hv⟩, rfl⟩
    · rintro ⟨v, hv, rfl⟩
      exact ⟨v, (h3 v).2 (nameL_mem.1 hv).2, rfl⟩
theorem partsV_parts {ps : List Pt} (hS : Shp ps) : partsV ps (allP (nbP ps) ps.length ps.length).2 = (partsP ps).map ptCells := by
  rw [← parts_same hS]; unfold partsV; rw [List.map_map]; rfl
theorem partsP_len (ps : List Pt) : (partsP ps).length ≤ ps.length := by unfold partsP; rw [List.length_map]; exact partsN_le ps
end Go.Proofs.Ytkppijcjmhkkkaa
/- Plain: the points of a rectangle in order; the points that a shape surrounds. -/

namespace Go.Proofs.Ytkppijcjmhkkkaa
open Go.RowKit Go.Lib Go.Sort
/-- the first i points of a row -/
def rowP (lx y : Int) (i : Nat) : List Pt := (List.range i).map fun (k : Nat) => ⟨lx + (k : Int), y⟩
/-- the first j rows of a rectangle -/
def rectP (lx ly : Int) (W : Nat) : Nat → List Pt
  | 0 => []
  | j + 1 => rectP lx ly W j ++ rowP lx (ly + (j : Int)) W
theorem rowP_succ (lx y : Int) (i : Nat) : rowP lx y (i + 1) = rowP lx y i ++ [⟨lx + (i : Int), y⟩] := by
  unfold rowP; rw [List.range_succ, List.map_append]; rfl
theorem rowP_len (lx y : Int) (i : Nat) : (rowP lx y i).length = i := by simp [rowP]
theorem rowP_zero (lx y : Int) : rowP lx y 0 = [] := rfl
theorem rectP_len (lx ly : Int) (W : Nat) : ∀ j, (rectP lx ly W j).length = j * W
  | 0 => by simp [rectP]
  | j + 1 => by simp only [rectP]; rw [List.length_append, rectP_len lx ly W j, rowP_len, Nat.add_mul]; omega
theorem rowP_mem {lx y : Int} {i : Nat} {p : Pt} : p ∈ rowP lx y i ↔ p.y = y ∧ lx ≤ p.x ∧ p.x < lx + (i : Int) := by
  unfold rowP
  rw [List.mem_map]
  constructor
  · rintro ⟨k, hk, rfl⟩
    have := List.mem_range.1 hk
    exact ⟨rfl, by show lx ≤ lx + (k : Int); omega, by show lx + (k : Int) < _; omega⟩
  · rintro ⟨rfl, h1, h2⟩
    refine ⟨(p.x - lx).toNat, List.mem_range.2 (by omega), ?_⟩
    have : lx + ((p.x - lx).toNat : Int) = p.x := by omega
    cases p
    simp_all
theorem rectP_mem {lx ly : Int} {W : Nat} {p : Pt} : ∀ {j : Nat}, p ∈ rectP lx ly W j ↔ (ly ≤ p.y ∧ p.y < ly + (j : Int)) ∧ lx ≤ p.x ∧ p.x < lx + (W : Int)
  | 0 => by simp [rectP]; omega
  | j + 1 => by
    simp only [rectP]
    rw [List.mem_append, rectP_mem, rowP_mem]
    constructor
    · rintro (h | h)
      · exact ⟨⟨h.1.1, by omega⟩, h.2⟩
      · exact ⟨⟨by omega, by omega⟩, h.2⟩
    · rintro ⟨⟨h1, h2⟩, h3⟩
      by_cases h : p.y = ly + (j : Int)
      · exact .inr ⟨h, h3⟩
      · exact .inl ⟨⟨h1, by omega⟩, h3⟩
theorem rowP_sorted (lx y : Int) (i : Nat) : SortS (rowP lx y i) := by
  unfold SortS rowP
  rw [List.pairwise_map]
  refine List.Pairwise.imp ?_ (List.pairwise_lt_range (n := i))
  intro a b hab
  rw [ltP_iff]
  exact .inr ⟨rfl, by show lx + (a : Int) < lx + (b : Int); omega⟩
theorem rectP_sorted (lx ly : Int) (W : Nat) : ∀ j, SortS (rectP lx ly W j)
  | 0 => List.Pairwise.nil
  | j + 1 => by
    simp only [rectP]
    unfold SortS
    rw [List.pairwise_append]
    refine ⟨rectP_sorted lx ly W j, rowP_sorted _ _ _, fun a ha b hb => ?_⟩
    rw [rectP_mem] at ha
    rw [rowP_mem] at hb
    rw [ltP_iff]
    exact .inl (by omega)
theorem Shp.of_sorted {L : List Pt} (h : SortS L) (hp : ∀ p ∈ L, (-60 ≤ p.x ∧ p.x ≤ 60) ∧ (-60 ≤ p.y ∧ p.y ≤ 60)) : Shp L :=
  ⟨fun k e he => hp e (List.mem_of_getElem? he), fun i j d e hij hd he => h.get hij hd he⟩
theorem SortS.filter {L : List Pt} (h : SortS L) (f : Pt → Bool) : SortS (L.filter f) := List.Pairwise.sublist List.filter_sublist h
/-- no part is empty -/
theorem partsP_pos {ps : List Pt} {l : List Pt} (h : l ∈ partsP ps) : 0 < l.length := by
  obtain ⟨i, hi⟩ := List.mem_iff_getElem?.1 h
  unfold partsP partsN namesL at hi
  rw [List.map_map, List.getElem?_map] at hi
  have hil : i < (allP (nbP ps) ps.length ps.length).2.length := by
    apply Classical.byContradiction
    intro hh
    rw [List.getElem?_eq_none (by simpa using hh)] at hi
    cases hi
  rw [List.getElem?_range hil] at hi
  simp only [Option.map_some, Option.some.injEq] at hi
  subst hi
  obtain ⟨q, hq⟩ : ∃ q, (allP (nbP ps) ps.length ps.length).2[i]? = some q := ⟨_, List.getElem?_eq_getElem hil⟩
  obtain ⟨h1, h2, h3⟩ := allP_mem _ i q hq
  have hne : ∀ k, ∀ l ∈ (allP (nbP ps) ps.length k).2, l ≠ [] := by
    intro k
    induction k with
    | zero => intro l hl; simp [allP] at hl
    | succ k ih =>
      intro l hl
      simp only [allP] at hl
      split at hl
      · rcases List.mem_append.1 hl with hl | hl
        · exact ih l hl
        · simp at hl
          subst hl
          obtain ⟨m, hm⟩ := visS_more (nb := nbP ps) (c := (allP (nbP ps) ps.length k).2.length + 1) (st := ([k], (allP (nbP ps) ps.length k).1.set k ((allP (nbP ps) ps.length k).2.length + 1))) ps.length
          rw [hm]
          simp
      · exact ih l hl
  cases hq' : q with
  | nil => exact absurd hq' (hne _ q (List.mem_of_getElem? hq))
  | cons v q2 =>
    have hv : v ∈ q := by rw [hq']; simp
    have hm := nameL_mem.2 ⟨h2 v hv, (h3 v).1 hv⟩
    show 0 < (ptsAt ps (nameL _ i ps.length)).length
    rw [ptsAt_len]
    exact List.length_pos_of_mem hm
theorem partsP_mem {ps : List Pt} {l : List Pt} (h : l ∈ partsP ps) : (∀ p ∈ l, p ∈ ps) ∧ l.length ≤ ps.length := by
  obtain ⟨i, hi⟩ := List.mem_iff_getElem?.1 h
  unfold partsP at hi
  rw [List.getElem?_map, Option.map_eq_some_iff] at hi
  obtain ⟨q, hq, rfl⟩ := hi
  have hlt := partsN_lt hq
  refine ⟨fun p hp => ?_, by rw [ptsAt_len]; exact partsN_each hq⟩
  unfold ptsAt at hp
  obtain ⟨v, hv, rfl⟩ := List.mem_map.1 hp
  obtain ⟨e, he⟩ : ∃ e, ps[v]? = some e := ⟨_, List.getElem?_eq_getElem (hlt v hv)⟩
  rw [ptAt_of he]
  exact List.mem_of_getElem? he
end Go.Proofs.Ytkppijcjmhkkkaa
