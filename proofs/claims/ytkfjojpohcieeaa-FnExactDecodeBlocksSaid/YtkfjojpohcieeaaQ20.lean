/- Plain: the parts of a shape, of both, are the same points. -/
import Derived.Test.YtkfjojpohcieeaaKQ
namespace Go.Proofs.Ytkfjojpohcieeaa
open Go.RowKit Go.Lib Go.Sort
set_option linter.unusedSimpArgs false
set_option linter.unusedVariables false
section
variable {nb : Nat → Nat → Option Nat} {n : Nat}
/-- what the names say of the parts -/
theorem allP_mem : ∀ (i q : Nat) (l : List Nat), (allP nb n i).2[q]? = some l → l.Nodup ∧ (∀ v ∈ l, v < n) ∧ ∀ v, v ∈ l ↔ (allP nb n i).1[v]? = some (q + 1)
  | 0, q, l, h => by simp [allP] at h
  | i + 1, q, l, h => by
    have ih := allP_mem i
    have hrng := allP_rng (nb := nb) (n := n) i
    have hlen := allP_len nb n i
    by_cases h0 : (allP nb n i).1[i]? = some 0
    · obtain ⟨nm, hnm⟩ : ∃ nm, (allP nb n i).1 = nm := ⟨_, rfl⟩
      obtain ⟨P, hP⟩ : ∃ P, (allP nb n i).2 = P := ⟨_, rfl⟩
      obtain ⟨e1, e2⟩ := allP_yes (nb := nb) (n := n) (i := i) hnm hP (hnm ▸ h0) rfl
      rw [hnm, hP] at ih hrng
      rw [hnm] at hlen h0
      have hV := (VisInv.start (n := n) (c := P.length + 1) (N0 := nm) (i := i) (Nat.succ_ne_zero _) hlen h0).all (nb := nb) n
      obtain ⟨st, hst⟩ : ∃ st, visS nb (P.length + 1) ([i], nm.set i (P.length + 1)) n = st := ⟨_, rfl⟩
      rw [hst] at e1 e2 hV
      rw [e2] at h
      rw [e1]
      rcases Nat.lt_or_ge q P.length with hq | hq
      · rw [List.getElem?_append_left hq] at h
        obtain ⟨h1, h2, h3⟩ := ih q l h
        refine ⟨h1, h2, fun v => ?_⟩
        rcases Classical.em (v ∈ st.1) with hm | hm
        · have hw := hV.was v hm
          have hi := hV.is v hm
          constructor
          · intro hv
            have := (h3 v).1 hv
            rw [hw] at this
            injection this with this
            omega
          · intro hv
            rw [hi] at hv
            injection hv with hv
            omega
        · rw [hV.other v hm]
          exact h3 v
      · rw [List.getElem?_append_right hq] at h
        have hq0 : q - P.length = 0 := by
          have := (List.getElem?_eq_some_iff.1 h).1
          simp at this
          omega
        rw [hq0] at h
        simp at h
        subst h
        have hqe : q = P.length := by omega
        subst hqe
        refine ⟨hV.nd, hV.lt, fun v => ⟨fun hv => hV.is v hv, fun hv => ?_⟩⟩
        apply Classical.byContradiction
        intro hm
        rw [hV.other v hm] at hv
        have := hrng v _ hv
        omega
    · have he := allP_no (nb := nb) (n := n) (i := i) h0
      rw [he] at h ⊢
      exact ih q l h
end
theorem sortP_perm (L : List Pt) : (sortP L).Perm L := List.mergeSort_perm _ _
theorem ltP_of (x y : Pt) : ltOf cmpP x y = true ↔ ltP x y := Iff.rfl
theorem sortP_sorted {L : List Pt} (h : L.Nodup) : SortS (sortP L) := by
  have h1 : (sortP L).Pairwise fun x y => (!(ltOf cmpP) y x) = true := by
    refine List.pairwise_mergeSort ?_ ?_ L
    · intro a b c h1 h2
      simp only [Bool.not_eq_true'] at *
      exact swo_cmpP.ntrans c b a h2 h1
    · intro a b
      cases h2 : ltOf cmpP b a
      · rfl
      · cases h3 : ltOf cmpP a b
        · rfl
        · exact absurd (swo_cmpP.trans _ _ _ h2 h3) (by rw [swo_cmpP.irrefl]; decide)
  have h2 : (sortP L).Nodup := (sortP_perm L).nodup_iff.2 h
  unfold SortS
  refine List.Pairwise.imp₂ ?_ h1 h2
  intro a b hab hne
  apply Classical.byContradiction
  intro hlt
  simp only [Bool.not_eq_true'] at hab
  refine hne (part_cmpP a b ?_ hab)
  cases hh : ltOf cmpP a b
  · rfl
  · exact absurd hh hlt
theorem ptsAt_inj {ps : List Pt} (hS : Shp ps) {l : List Nat} (hl : ∀ v ∈ l, v < ps.length) (hn : l.Nodup) : (ptsAt ps l).Nodup := by
  unfold ptsAt
  rw [List.nodup_iff_pairwise_ne, List.pairwise_map]
  refine List.Pairwise.imp_of_mem ?_ hn
  intro a b ha hb hne he
  obtain ⟨e, hea⟩ : ∃ e, ps[a]? = some e := ⟨_, List.getElem?_eq_getElem (hl a ha)⟩
  obtain ⟨f, hfb⟩ : ∃ f, ps[b]? = some f := ⟨_, List.getElem?_eq_getElem (hl b hb)⟩
  rw [ptAt_of hea, ptAt_of hfb] at he
  subst he
  exact hne (hS.inj hea hfb)
theorem nameL_mem {nm : List Nat} {q t v : Nat} : v ∈ nameL nm q t ↔ v < t ∧ nm[v]? = some (q + 1) := by
  unfold nameL
  rw [List.mem_filter]
  simp
theorem nameL_pw (nm : List Nat) (q t : Nat) : (nameL nm q t).Pairwise (· < ·) := List.Pairwise.sublist List.filter_sublist List.pairwise_lt_range
theorem ptsAt_sorted {ps : List Pt} (hS : Shp ps) {l : List Nat} (hl : ∀ v ∈ l, v < ps.length) (hp : l.Pairwise (· < ·)) : SortS (ptsAt ps l) := by
  unfold SortS ptsAt
  rw [List.pairwise_map]
  refine List.Pairwise.imp_of_mem ?_ hp
  intro a b ha hb hlt
  obtain ⟨e, hea⟩ : ∃ e, ps[a]? = some e := ⟨_, List.getElem?_eq_getElem (hl a ha)⟩
  obtain ⟨f, hfb⟩ : ∃ f, ps[b]? = some f := ⟨_, List.getElem?_eq_getElem (hl b hb)⟩
  rw [ptAt_of hea, ptAt_of hfb]
  exact hS.sorted a b e f hlt hea hfb
/-- the parts of a shape's points, each in order -/
def partsP (ps : List Pt) : List (List Pt) := (partsN ps).map (ptsAt ps)
theorem rowsQ_parts (ps : List Pt) : rowsQ ps (partsN ps) = (partsP ps).map ptCells := by unfold rowsQ partsP; rw [List.map_map]; rfl
theorem parts_same {ps : List Pt} (hS : Shp ps) : (allP (nbP ps) ps.length ps.length).2.map (fun l => sortP (ptsAt ps l)) = partsP ps := by
  apply List.ext_getElem?
  intro q
  unfold partsP partsN namesL
  rw [List.map_map, List.getElem?_map, List.getElem?_map]
  cases h : (allP (nbP ps) ps.length ps.length).2[q]? with
  | none =>
    have hq := List.getElem?_eq_none_iff.1 h
    rw [List.getElem?_eq_none (by simpa using hq)]
    rfl
  | some l =>
    have hq := (List.getElem?_eq_some_iff.1 h).1
    rw [List.getElem?_range hq]
    obtain ⟨h1, h2, h3⟩ := allP_mem _ q l h
    show some (sortP (ptsAt ps l)) = some (ptsAt ps (nameL (allP (nbP ps) ps.length ps.length).1 q ps.length))
    congr 1
    have hl2 : ∀ v ∈ nameL (allP (nbP ps) ps.length ps.length).1 q ps.length, v < ps.length := fun v hv => (nameL_mem.1 hv).1
    refine SortS.ext (sortP_sorted (ptsAt_inj hS h2 h1)) (ptsAt_sorted hS hl2 (nameL_pw _ _ _)) (fun p => ?_)
    rw [(sortP_perm _).mem_iff]
    unfold ptsAt
    rw [List.mem_map, List.mem_map]
    constructor
    · rintro ⟨v, hv, rfl⟩
      exact ⟨v, nameL_mem.2 ⟨h2 v hv, (h3 v).1 hv⟩, rfl⟩
    · rintro ⟨v, hv, rfl⟩
      exact ⟨v, (h3 v).2 (nameL_mem.1 hv).2, rfl⟩
theorem partsV_parts {ps : List Pt} (hS : Shp ps) : partsV ps (allP (nbP ps) ps.length ps.length).2 = (partsP ps).map ptCells := by
  rw [← parts_same hS]; unfold partsV; rw [List.map_map]; rfl
theorem partsP_len (ps : List Pt) : (partsP ps).length ≤ ps.length := by unfold partsP; rw [List.length_map]; exact partsN_le ps
end Go.Proofs.Ytkfjojpohcieeaa
