import Derived.Test.YtpnahobgmemdjaaKS
import Derived.Test.YtpnahobgmemdjaaKX
import Derived.Test.YtpnahobgmemdjaaHPtM
set_option linter.unusedSimpArgs false
set_option linter.unusedVariables false
/- Plain: the parts of a shape, of both, are the same points. -/

namespace Go.Proofs.Ytpnahobgmemdjaa
open Go.RowKit Go.Lib Go.Sort
section
variable {nb : Nat → Nat → Option Nat} {n : Nat}
/-- what the names say of the parts -/
theorem allP_mem : ∀ (i q : Nat) (l : List Nat), (allP nb n i).2[q]? = some l → l.Nodup ∧ (∀ v ∈ l, v < n) ∧ ∀ v, v ∈ l ↔ (allP nb n i).1[v]? = some (q + 1)
  | 0, q, l, h => by simp [allP] at h
  | i + 1, q, l, h => by
    have ih := allP_mem i
    have hrng := allP_rng (nb := nb) (n := n) i
    have hlen := allP_len nb n i
    by_cases h0 : (allP nb n i).1[i]? = some 0
    · obtain ⟨nm, hnm⟩ : ∃ nm, (allP nb n i).1 = nm := ⟨_, rfl⟩
      obtain ⟨P, hP⟩ : ∃ P, (allP nb n i).2 = P := ⟨_, rfl⟩
      obtain ⟨e1, e2⟩ := allP_yes (nb := nb) (n := n) (i := i) hnm hP (hnm ▸ h0) rfl
      rw [hnm, hP] at ih hrng
      rw [hnm] at hlen h0
      have hV := (VisInv.start (n := n) (c := P.length + 1) (N0 := nm) (i := i) (Nat.succ_ne_zero _) hlen h0).all (nb := nb) n
      obtain ⟨st, hst⟩ : ∃ st, visS nb (P.length + 1) ([i], nm.set i (P.length + 1)) n = st := ⟨_, rfl⟩
      rw [hst] at e1 e2 hV
      rw [e2] at h
      rw [e1]
      rcases Nat.lt_or_ge q P.length with hq | hq
      · rw [List.getElem?_append_left hq] at h
        obtain ⟨h1, h2, h3⟩ := ih q l h
        refine ⟨h1, h2, fun v => ?_⟩
        rcases Classical.em (v ∈ st.1) with hm | hm
        · have hw := hV.was v hm
          have hi := hV.is v hm
          constructor
          · intro hv
            have := (h3 v).1 hv
            rw [hw] at this
            injection this with this
            omega
          · intro hv
            rw [hi] at hv
            injection hv with hv
            omega
        · rw [hV.other v hm]
          exact h3 v
      · rw [List.getElem?_append_right hq] at h
        have hq0 : q - P.length = 0 := by
          have := (List.getElem?_eq_some_iff.1 h).1
          simp at this
          omega
        rw [hq0] at h
        simp at h
        subst h
        have hqe : q = P.length := by omega
        subst hqe
        refine ⟨hV.nd, hV.lt, fun v => ⟨fun hv => hV.is v hv, fun hv => ?_⟩⟩
        apply Classical.byContradiction
        intro hm
        rw [hV.other v hm] at hv
        have := hrng v _ hv
        omega
    · have he := allP_no (nb := nb) (n := n) (i := i) h0
      rw [he] at h ⊢
      exact ih q l h
end
theorem sortP_perm (L : List Pt) : (sortP L).Perm L := List.mergeSort_perm _ _
theorem ltP_of (x y : Pt) : ltOf cmpP x y = true ↔ ltP x y := Iff.rfl
theorem sortP_sorted {L : List Pt} (h : L.Nodup) : SortS (sortP L) := by
  have h1 : (sortP L).Pairwise fun x y => (!(ltOf cmpP) y x) = true := by
    refine List.pairwise_mergeSort ?_ ?_ L
    · intro a b c h1 h2
      simp only [Bool.not_eq_true'] at *
      exact swo_cmpP.ntrans c b a h2 h1
    · intro a b
      cases h2 : ltOf cmpP b a
      · rfl
      · cases h3 : ltOf cmpP a b
        · rfl
        · exact absurd (swo_cmpP.trans _ _ _ h2 h3) (by rw [swo_cmpP.irrefl]; decide)
  have h2 : (sortP L).Nodup := (sortP_perm L).nodup_iff.2 h
  unfold SortS
  refine List.Pairwise.imp₂ ?_ h1 h2
  intro a b hab hne
  apply Classical.byContradiction
  intro hlt
  simp only [Bool.not_eq_true'] at hab
  refine hne (part_cmpP a b ?_ hab)
  cases hh : ltOf cmpP a b
  · rfl
  · exact absurd hh hlt
theorem ptsAt_inj {ps : List Pt} (hS : Shp ps) {l : List Nat} (hl : ∀ v ∈ l, v < ps.length) (hn : l.Nodup) : (ptsAt ps l).Nodup := by
  unfold ptsAt
  rw [List.nodup_iff_pairwise_ne, List.pairwise_map]
  refine List.Pairwise.imp_of_mem ?_ hn
  intro a b ha hb hne he
  obtain ⟨e, hea⟩ : ∃ e, ps[a]? = some e := ⟨_, List.getElem?_eq_getElem (hl a ha)⟩
  obtain ⟨f, hfb⟩ : ∃ f, ps[b]? = some f := ⟨_, List.getElem?_eq_getElem (hl b hb)⟩
  rw [ptAt_of hea, ptAt_of hfb] at he
  subst he
  exact hne (hS.inj hea hfb)
theorem nameL_mem {nm : List Nat} {q t v : Nat} : v ∈ nameL nm q t ↔ v < t ∧ nm[v]? = some (q + 1) := by
  unfold nameL
  rw [List.mem_filter]
  simp
theorem nameL_pw (nm : List Nat) (q t : Nat) : (nameL nm q t).Pairwise (· < ·) := List.Pairwise.sublist List.filter_sublist List.pairwise_lt_range
theorem ptsAt_sorted {ps : List Pt} (hS : Shp ps) {l : List Nat} (hl : ∀ v ∈ l, v < ps.length) (hp : l.Pairwise (· < ·)) : SortS (ptsAt ps l) := by
  unfold SortS ptsAt
  rw [List.pairwise_map]
  refine List.Pairwise.imp_of_mem ?_ hp
  intro a b ha hb hlt
  obtain ⟨e, hea⟩ : ∃ e, ps[a]? = some e := ⟨_, List.getElem?_eq_getElem (hl a ha)⟩
  obtain ⟨f, hfb⟩ : ∃ f, ps[b]? = some f := ⟨_, List.getElem?_eq_getElem (hl b hb)⟩
  rw [ptAt_of hea, ptAt_of hfb]
  exact hS.sorted a b e f hlt hea hfb
/-- the parts of a shape's points, each in order -/
def partsP (ps : List Pt) : List (List Pt) := (partsN ps).map (ptsAt ps)
theorem rowsQ_parts (ps : List Pt) : rowsQ ps (partsN ps) = (partsP ps).map ptCells := by unfold rowsQ partsP; rw [List.map_map]; rfl
theorem parts_same {ps : List Pt} (hS : Shp ps) : (allP (nbP ps) ps.length ps.length).2.map (fun l => sortP (ptsAt ps l)) = partsP ps := by
  apply List.ext_getElem?
  intro q
  unfold partsP partsN namesL
  rw [List.map_map, List.getElem?_map, List.getElem?_map]
  cases h : (allP (nbP ps) ps.length ps.length).2[q]? with
  | none =>
    have hq := List.getElem?_eq_none_iff.1 h
    rw [List.getElem?_eq_none (by simpa using hq)]
    rfl
  | some l =>
    have hq := (List.getElem?_eq_some_iff.1 h).1
    rw [List.getElem?_range hq]
    obtain ⟨h1, h2, h3⟩ := allP_mem _ q l h
    show some (sortP (ptsAt ps l)) = some (ptsAt ps (nameL (allP (nbP ps) ps.length ps.length).1 q ps.length))
    congr 1
    have hl2 : ∀ v ∈ nameL (allP (nbP ps) ps.length ps.length).1 q ps.length, v < ps.length := fun v hv => (nameL_mem.1 hv).1
    refine SortS.ext (sortP_sorted (ptsAt_inj hS h2 h1)) (ptsAt_sorted hS hl2 (nameL_pw _ _ _)) (fun p => ?_)
    rw [(sortP_perm _).mem_iff]
    unfold ptsAt
    rw [List.mem_map, List.mem_map]
    constructor
    · rintro ⟨v, hv, rfl⟩
      exact ⟨v, nameL_mem.2 ⟨h2 v hv, (h3 v).1 hv⟩, rfl⟩
    · rintro ⟨v, hv, rfl⟩
      exact ⟨v, (h3 v).2 (nameL_mem.1 hv).2, rfl⟩
theorem partsV_parts {ps : List Pt} (hS : Shp ps) : partsV ps (allP (nbP ps) ps.length ps.length).2 = (partsP ps).map ptCells := by
  rw [← parts_same hS]; unfold partsV; rw [List.map_map]; rfl
theorem partsP_len (ps : List Pt) : (partsP ps).length ≤ ps.length := by unfold partsP; rw [List.length_map]; exact partsN_le ps
end Go.Proofs.Ytpnahobgmemdjaa
/- Walks: the program's parts of an assembly. -/



namespace Go.Proofs.Ytpnahobgmemdjaa
open Go.RowKit Go.Shelf
attribute [local go_sem] BelowBy.cell BelowBy.cell_drew stillUpon givesUpon

/-- an assembly in form is valid with tiles that have no glues -/
def noTiles : List Ti := List.replicate 160 ⟨⟨#[]⟩, [0, 0, 0, 0]⟩
theorem form_valid {xs : List Pl} (h : hasFormB xs = true) : Valid [] noTiles xs := by
  unfold hasFormB at h
  simp only [Bool.and_eq_true, decide_eq_true_eq] at h
  obtain ⟨hf, h4⟩ := h
  have hpl : ∀ (k : Nat) (e : Pl), xs[k]? = some e → validPt e.x e.y = true ∧ inB e.t 0 159 = true := fun k e he => by
    have := allB_at hf (lt_of_get he)
    unfold okPl at this
    rw [he] at this
    simp only [Bool.and_eq_true] at this
    exact this.1
  have hstep : ∀ (k : Nat) (d e : Pl), xs[k]? = some d → xs[k + 1]? = some e → lessPt d.x d.y e.x e.y = true := fun k d e hd he => by
    have := allB_at hf (lt_of_get he)
    rw [okPl_eqS he hd] at this
    simp only [Bool.and_eq_true] at this
    exact this.2
  have hn : noTiles.length = 160 := by unfold noTiles; exact List.length_replicate
  have ht : ∀ (j : Nat) (t : Ti), noTiles[j]? = some t → t.sides = [0, 0, 0, 0] := fun j t hj => by
    have := List.mem_of_getElem? hj
    unfold noTiles at this
    rw [(List.mem_replicate.1 this).2]
  refine ⟨h4, by simp, by omega, fun k e he => ?_, fun k e he => ?_, ?_, fun j t hj => by rw [ht j t hj]; rfl, fun j t d v hj hd => ?_, fun j g hj => by simp at hj⟩
  · have := (hpl k e he).1
    simp only [validPt, Bool.and_eq_true, inB_true] at this
    exact this
  · have := inB_true.1 (hpl k e he).2
    exact ⟨e.t.toNat, by omega, by omega⟩
  · intro i j d e hij hd he
    induction j generalizing e with
    | zero => omega
    | succ j ih =>
      have hj : j < xs.length := by have := lt_of_get he; omega
      obtain ⟨c, hc⟩ : ∃ c, xs[j]? = some c := ⟨_, List.getElem?_eq_getElem hj⟩
      have h2 := hstep j c e hc he
      rcases Nat.lt_or_ge i j with h | h
      · have h1 := ih c h hc
        rw [lessPt_iff] at h1 h2 ⊢
        omega
      · obtain rfl : i = j := by omega
        rw [hd] at hc
        injection hc with hc
        subst hc
        exact h2
  · rw [ht j t hj] at hd
    have := List.mem_of_getElem? hd
    simp at this
    exact ⟨0, by omega, by omega⟩
theorem form_shp {xs : List Pl} (h : hasFormB xs = true) : Shp (xs.map plPt) := by
  have hV := form_valid h
  refine ⟨fun k e he => ?_, fun i j d e hij hd he => ?_⟩
  · rw [List.getElem?_map, Option.map_eq_some_iff] at he
    obtain ⟨a, ha, rfl⟩ := he
    exact hV.pt k a ha
  · rw [List.getElem?_map, Option.map_eq_some_iff] at hd he
    obtain ⟨a, ha, rfl⟩ := hd
    obtain ⟨b, hb, rfl⟩ := he
    exact hV.sorted i j a b hij ha hb
theorem form_len {xs : List Pl} (h : hasFormB xs = true) : xs.length ≤ 500 := by
  unfold hasFormB at h
  simp only [Bool.and_eq_true, decide_eq_true_eq] at h
  exact h.2
def plAt (xs : List Pl) (v : Nat) : Pl := (xs[v]?).getD ⟨0, 0, 0⟩
theorem plAt_of {xs : List Pl} {v : Nat} {e : Pl} (h : xs[v]? = some e) : plAt xs v = e := by unfold plAt; rw [h]; rfl
/-- the parts of an assembly -/
def partsQ (xs : List Pl) : List (List Pl) := (partsN (xs.map plPt)).map fun l => l.map (plAt xs)
noncomputable def tileOf (xs : List Pl) (p : Pt) : Pl := ⟨p.x, p.y, atI xs p.x p.y⟩
theorem tileOf_at {xs : List Pl} (h : hasFormB xs = true) {v : Nat} (hv : v < xs.length) : tileOf xs (ptAt (xs.map plPt) v) = plAt xs v := by
  obtain ⟨e, he⟩ : ∃ e, xs[v]? = some e := ⟨_, List.getElem?_eq_getElem hv⟩
  rw [plAt_of he, ptAt_of (show (xs.map plPt)[v]? = some (plPt e) by rw [List.getElem?_map, he]; rfl)]
  have hp := IsPlace.eq (form_valid h) (place_found he rfl rfl)
  unfold tileOf plPt
  simp only
  rw [atI_some hp.symm he]
theorem partsQ_tile {xs : List Pl} (h : hasFormB xs = true) : partsQ xs = (partsP (xs.map plPt)).map fun l => l.map (tileOf xs) := by
  unfold partsQ partsP
  rw [List.map_map]
  apply List.map_congr_left
  intro l hl
  obtain ⟨i, hi⟩ := List.mem_iff_getElem?.1 hl
  have hlt := partsN_lt hi
  unfold ptsAt
  show l.map (plAt xs) = (l.map (ptAt (xs.map plPt))).map (tileOf xs)
  rw [List.map_map]
  apply List.map_congr_left
  intro v hv
  have := hlt v hv
  rw [List.length_map] at this
  exact (tileOf_at h this).symm
/-- how the parts lie -/
def plRows (P : List (List Pl)) : List (List Value) := P.map plCells
def PtsQ (w : World) (n : Nat) (l : List Pt) (e : Ending) (w' : World) : Prop :=
  ∃ A c, e = .returned (.slice A n c) ∧ w'.ownsRow w.heap.size 34 2 (.slice A n c) n (ptCells l) ∧ Below w.heap.size w w'
set_option maxRecDepth 100000 in
set_option maxHeartbeats 2000000 in
theorem pointsQ_any {A : Option Addr} {n c : Nat} {xs : List Pl} {w : World} (h : RdSl 3 RPl w A n xs) (hn : n ≤ 100000) :
    Calls Try.prog 32 #[.agg #[.slice A n c]] w (PtsQ w n (xs.map plPt)) := by
  obtain ⟨i0, hi, hz0, hz1, hz2⟩ := info_parts infoPtQ
  have hH := Lib.hid h
  have hl := Lib.hid h.len
  clear h
  go_enter Try.func32, Try.ntmps32
  go_wp2
  go_loopg [9, 3] n (fun g i v wr => ∃ (k : Nat), k + g = n ∧ i = .int .i64 (k : Int) ∧ Hid (wr.ownsRow (w.heap.size + 1) 34 2 v k (ptCells ((xs.map plPt).take k))) ∧ Hid (Below w.heap.size w wr) ∧ w.heap.size + 1 ≤ wr.heap.size)
  case atStart => exact ⟨0, by omega, rfl, Lib.hid (World.ownsRow_nil _ _ _ _), Lib.hid (bl_al (bl_refl _) _), by simp⟩
  case round =>
    obtain ⟨k, hk, rfl, hO, hbw, hsz⟩ := hrel
    have hszl := hbw.out.size
    obtain ⟨A1, c1, rfl⟩ := ownsRow_form hO.out
    by_cases hkn : k < n
    · have hAw := hH.out.below RPl.stable hbw.out
      obtain ⟨bb, ob, rfl, hbb, hbc⟩ := hAw.ptr (by omega)
      obtain ⟨e, he⟩ := hAw.get hkn
      obtain ⟨e0, e1, e2⟩ := hbc k e he
      have htk := Lib.hid (show (xs.map plPt).take (k + 1) = (xs.map plPt).take k ++ [⟨e.x, e.y⟩] by rw [List.take_add_one, List.getElem?_map, he]; rfl)
      clear hbc he hAw
      go_wp2_with (at_builtin; refine wpList_append_own_at _ rfl _ _ 42 rfl (w.heap.size + 1) 34 i0 (.agg #[.int .i64 0, .int .i64 0]) 2 16 Try.underlying42 hi hz0 hz1 hz2 rfl (by decide) (.slice A1 k c1) k (ptCells ((xs.map plPt).take k)) rfl ((hO.out.alloc _).alloc _) ⟨wr.heap.size + 1, 0, none⟩ 1 1 [.int .i64 e.x, .int .i64 e.y] rfl rfl (by have := cell_pt2 (wr.alloc (Obj.cells #[.int .i64 e.x, .int .i64 e.y, .int .i64 e.t] 38)) (.int .i64 e.x) (.int .i64 e.y) 34; simpa using this) (fun x hx => by simp at hx; rcases hx with rfl | rfl <;> rfl) (by unfold maxLen; omega) (by omega) (by simp; omega) ?_; intro v5 w5 hown5 hgrow5 _ hat5; have hown5H := Lib.hid hown5; have hgrow5H := Lib.hid hgrow5; have hs5 : wr.heap.size + 2 ≤ w5.heap.size := (by have := hgrow5.size; simpa using this); clear hown5 hgrow5 hat5)
      go_roundg (n - (k + 1))
      case measure => omega
      case rel =>
        refine ⟨k + 1, by omega, by go_num, Lib.hid ?_, Lib.hid ?_, by omega⟩
        · rw [htk.out, ptCells_snoc]; exact hown5H.out
        · exact ((hbw.out.alloc hszl _).alloc (by simp; omega) _).grown hgrow5H.out (by simp; omega) (fun g e => by have := (hO.out.lt g e).1; omega)
    · obtain rfl : k = n := by omega
      have ht := Lib.hid (show (xs.map plPt).take k = xs.map plPt from List.take_of_length_le (by rw [List.length_map, hl.out]; exact Nat.le_refl _))
      go_wp2
      go_ret
      refine ⟨A1, c1, rfl, ?_, hbw.out⟩
      have := ownsRow_baseQ hO.out (show w.heap.size ≤ w.heap.size + 1 by omega)
      rw [ht.out] at this
      exact this
def PartR (w : World) (m : Nat) (l : List Pl) (e : Ending) (w' : World) : Prop :=
  ∃ A c, e = .returned (.agg #[.slice A m c]) ∧ w'.ownsRow w.heap.size 38 3 (.slice A m c) m (plCells l) ∧ Below w.heap.size w w'
set_option maxRecDepth 100000 in
set_option maxHeartbeats 4000000 in
theorem part_any {A B : Option Addr} {n c m d : Nat} {xs : List Pl} {L : List Pt} {w : World} (h : RdSl 3 RPl w A n xs) (hf : hasFormB xs = true) (hB : RdSl 2 RPt w B m L) (hm : m ≤ 100000) :
    Calls Try.prog 33 #[.agg #[.slice A n c], .slice B m d] w (PartR w m (L.map (tileOf xs))) := by
  obtain ⟨i2, hi2, hz02, hz12, hz22⟩ := info_parts infoPlQ
  have hH := Lib.hid h
  have hBH := Lib.hid hB
  have hl := Lib.hid hB.len
  have hfH := Lib.hid hf
  clear h hB hf
  
  go_enter Try.func33, Try.ntmps33
  go_wp2
  go_loopg [10] m (fun g i wr => ∃ (k : Nat) (A2 : Option Addr) (c2 : Nat), k + g = m ∧ i = .int .i64 (k : Int) ∧ Hid (wr.ownsRow (w.heap.size + 3) 38 3 (.slice A2 k c2) k (plCells ((L.take k).map (tileOf xs)))) ∧ wr.cell? ⟨w.heap.size, 0, none⟩ = some (.slice A n c) ∧ wr.cell? ⟨w.heap.size + 1 + 1, 0, none⟩ = some (.slice A2 k c2) ∧ wr.frozen? ⟨w.heap.size + 1 + 1, 0, none⟩ = false ∧ wr.frozen? ⟨w.heap.size + 1, 0, none⟩ = false ∧ wr.cell? ⟨w.heap.size + 1, 0, none⟩ = some (.slice none 0 0) ∧ w.heap.size + 2 < wr.heap.size ∧ Hid (Below w.heap.size w wr))
  case atStart => exact ⟨0, none, 0, by omega, rfl, Lib.hid (World.ownsRow_nil _ _ _ _), by go_simp, by go_simp, by go_simp, by go_simp, by go_simp, by simp, Lib.hid (by exact bel_)⟩
  case round =>
    obtain ⟨k, A2, c2, hk, rfl, hrow, ha0, hcell, hfro, hfr1, hc1, hsz, hbw⟩ := hrel
    have hszl := hbw.out.size
    by_cases hkn : k < m
    · have hBw := hBH.out.below RPt.stable hbw.out
      obtain ⟨bb, ob, rfl, hbb, hbc⟩ := hBw.ptr (by omega)
      obtain ⟨e, he⟩ := hBw.get hkn
      obtain ⟨e0, e1⟩ := hbc k e he
      have htk := Lib.hid (show (L.take (k + 1)).map (tileOf xs) = (L.take k).map (tileOf xs) ++ [tileOf xs e] by rw [List.take_add_one, he]; simp)
      have hAw := Lib.hid (hH.out.below RPl.stable hbw.out)
      obtain ⟨t, ht⟩ : ∃ t, atI xs e.x e.y = t := ⟨_, rfl⟩
      have hte := Lib.hid (show tileOf xs e = ⟨e.x, e.y, t⟩ by unfold tileOf; rw [ht])
      have htH := Lib.hid ht
      clear hbc he hBw ht
      have hsA : w.heap.size < wr.heap.size := by omega
      have hsB : w.heap.size + 1 < wr.heap.size := by omega
      have hsC : w.heap.size + 1 + 1 < wr.heap.size := by omega
      go_wp2
      refine wp_region_ord [(0, .q), (1, .q), (2, .q), (3, .q), (4, .q), (5, .g), (6, .q), (7, .g), (8, .b), (9, .q), (10, .b)] (by kernel_rfl) (by kernel_rfl) ?_
      simp only [pick, List.filterMap_cons, List.filterMap_nil, List.getElem?_toArray, List.getElem?_cons_zero, List.getElem?_cons_succ, Option.map_some]
      repeat (first
        | ((with_reducible refine wpD_p (fun K hK => ?_)); go_simp; refine hK _ ?_; clear hK K)
        | ((with_reducible refine wpD_q (fun K hK => ?_)); go_simp; (first | refine hK _ ?_ | (go_bits; refine hK _ ?_) | (go_bits; go_simp; refine hK _ ?_)); clear hK K)
        | ((with_reducible refine wpD_g (fun K hK => ?_)); go_simp; refine hK _ _ ?_; clear hK K)
        | ((with_reducible refine wpD_g (fun K hK => ?_)); go_simp; refine ⟨Grew.of_alloc _, hK _ _ ?_⟩; clear hK K)
        | ((with_reducible refine wpD_g (fun K hK => ?_)); go_simp; go_at_call 72; refine (at_at (gs := []) (ts := noTiles) (hAw.out.below RPl.stable (by exact bel_)) (form_valid hfH.out) htH.out).mono ?_; rintro e w1 ⟨rfl, hb1⟩; refine ⟨_, rfl, hb1, hK _ _ ?_⟩; clear hK K; obtain ⟨chb1, fhb1, shb1, thb1⟩ := bcell hb1; (try have bhb10 := shb1 (w.heap.size) (by go_simp)); (try have bhb11 := shb1 (w.heap.size + 1) (by go_simp)); (try have bhb12 := shb1 (w.heap.size + 1 + 1) (by go_simp))))
      have hb1' : Below wr.heap.size wr w1 := by exact bel_
      have hs1 := hb1'.size
      have hb1H := Lib.hid hb1'
      clear hb1'
      refine wpD_append rfl _ _ 24 rfl (w.heap.size + 3) 38 i2 (.agg #[.int .i64 0, .int .i64 0, .int .i64 0]) 3 24 Try.underlying24 hi2 hz02 hz12 hz22 rfl (by decide) (.slice A2 k c2) k (plCells ((L.take k).map (tileOf xs))) (by go_simp) (ownsRow_below (ownsRow_below hrow.out hb1H.out) (by exact bel_)) ⟨w1.heap.size, 0, none⟩ 1 1 [.int .i64 e.x, .int .i64 e.y, .int .i64 t] (by go_simp) rfl ?hnews (fun x hx => by simp at hx; rcases hx with rfl | rfl | rfl <;> rfl) (by unfold maxLen; omega) (by omega) (by simp; omega) ?_
      case hnews =>
        have := cell_three_new w1 (.int .i64 e.x) (.int .i64 e.y) (.int .i64 t) 38
        simpa using this
      intro v5 w5 hown hgrow
      obtain ⟨A5, c5, rfl⟩ := ownsRow_form hown
      have hownH := Lib.hid hown
      have hb6 : Below (w.heap.size + 3) wr w5 := (show Below (w.heap.size + 3) wr (w1.alloc (Obj.cells #[.int .i64 e.x, .int .i64 e.y, .int .i64 t] 38)) from (hb1H.out.mono (by omega)).alloc (by omega) _).grown hgrow (by simp; omega) (fun g e => (hrow.out.lt g e).1)
      have m0 := (hb6.cell (p := ⟨w.heap.size, 0, none⟩) (by simp)).trans ha0
      have m1 := (hb6.cell (p := ⟨w.heap.size + 1, 0, none⟩) (by simp)).trans hc1
      have m1f := (hb6.frozen (p := ⟨w.heap.size + 1, 0, none⟩) (by simp)).trans hfr1
      have m2 := (hb6.cell (p := ⟨w.heap.size + 1 + 1, 0, none⟩) (by simp)).trans hcell
      have mf := (hb6.frozen (p := ⟨w.heap.size + 1 + 1, 0, none⟩) (by simp)).trans hfro
      have m9 : w.heap.size + 1 + 1 < w5.heap.size := by have := hb6.size; omega
      have hB6 := Lib.hid (hbw.out.trans (hb6.mono (by omega)))
      clear hown hgrow hb6
      repeat (first | ((with_reducible refine wpD_p (fun K hK => ?_)); go_simp; refine hK _ ?_; clear hK K) | ((with_reducible refine wpD_q (fun K hK => ?_)); go_simp; (first | refine hK _ ?_ | (go_bits; refine hK _ ?_) | (go_bits; go_simp; refine hK _ ?_)); clear hK K))
      with_reducible refine wpD_b (fun K hK => ?_)
      go_simp
      refine hK _ _ ?_
      clear hK K
      with_reducible refine wpD_nil ?_
      go_wp2
      go_roundg (m - (k + 1))
      case measure => omega
      case rel =>
        refine ⟨k + 1, A5, c5, by omega, by go_num, Lib.hid ?_, by go_simp, by go_simp, by go_simp, by go_simp, by go_simp, by simpa using m9, Lib.hid (hB6.out.setCell (p := ⟨w.heap.size + 1 + 1, 0, none⟩) (by simp; omega) _)⟩
        rw [htk.out, hte.out, plCells_snoc]
        exact ownsRow_setCell_below hownH.out (by show w.heap.size + 1 + 1 < w.heap.size + 3; omega) _
    · obtain rfl : k = m := by omega
      have htk := Lib.hid (show L.take k = L by rw [← hl.out, List.take_length])
      have hsA : w.heap.size < wr.heap.size := by omega
      have hsB : w.heap.size + 1 < wr.heap.size := by omega
      have hsC : w.heap.size + 1 + 1 < wr.heap.size := by omega
      go_wp2
      refine bodyPost_ret (v := .agg #[.slice A2 k c2]) (by simp only [results, Try.results33]; go_simp) rfl ?_
      refine ⟨A2, c2, rfl, ?_, hbw.out.setCell (p := ⟨w.heap.size + 1, 0, none⟩) (by simp) _⟩
      have := ownsRow_setCell_below hrow.out (show (⟨w.heap.size + 1, 0, none⟩ : Addr).block < w.heap.size + 3 from by show w.heap.size + 1 < w.heap.size + 3; omega) (.slice A2 k c2)
      rw [htk.out] at this
      exact ownsRow_baseQ this (by omega)
end Go.Proofs.Ytpnahobgmemdjaa
/- Walks: the parts of an assembly, of both. -/

namespace Go.Proofs.Ytpnahobgmemdjaa
open Go.RowKit Go.Shelf
attribute [local go_sem] BelowBy.cell BelowBy.cell_drew stillUpon givesUpon

def partsR (xs : List Pl) : List (List Pl) := if hasFormB xs then partsQ xs else []
theorem partsQ_len (xs : List Pl) : (partsQ xs).length = (partsP (xs.map plPt)).length := by unfold partsQ partsP; rw [List.length_map, List.length_map]
/-- a row of assemblies that the call has made -/
def AsmsR (w : World) (P : List (List Pl)) (e : Ending) (w' : World) : Prop :=
  ∃ A c us, e = .returned (.slice A P.length c) ∧ Own2 w' w.heap.size 26 38 3 (.slice A P.length c) us (plRows P) ∧ Below w.heap.size w w'
theorem infoAsmQ : (Try.prog.info? 26).map (fun i => (i.zero, i.size, i.bytes)) = some (some (.agg #[.slice none 0 0]), 1, 24) := by kernel_rfl
theorem partsR_small (xs : List Pl) : (partsR xs).length ≤ 500 ∧ ∀ l ∈ partsR xs, l.length ≤ 500 := by
  unfold partsR
  split
  · rename_i h
    have hl := form_len h
    refine ⟨?_, fun l hm => ?_⟩
    · rw [partsQ_len]
      have := partsP_len (xs.map plPt)
      rw [List.length_map] at this
      omega
    · unfold partsQ at hm
      rw [List.mem_map] at hm
      obtain ⟨q, hq, rfl⟩ := hm
      obtain ⟨i, hi⟩ := List.mem_iff_getElem?.1 hq
      have := partsN_each hi
      rw [List.length_map] at this ⊢
      omega
  · exact ⟨by simp, fun l hm => by simp at hm⟩
set_option maxRecDepth 100000 in
set_option maxHeartbeats 4000000 in
theorem PartsOf_any (A : Option Addr) (n c : Nat) (xs : List Pl) (w : World) (h : RdSl 3 RPl w A n xs) (hn : n ≤ 1073741824) :
    Calls Try.prog 7 #[.agg #[.slice A n c]] w (AsmsR w (partsR xs)) := by
  obtain ⟨i1, hi', hz0', hz1', hz2'⟩ := info_parts infoAsmQ
  have hl := Lib.hid h.len
  have hH := Lib.hid h
  clear h
  cases hf : hasFormB xs
  · have hR := Lib.hid (show partsR xs = [] by unfold partsR; rw [hf]; rfl)
    have hfH := Lib.hid hf
    clear hf
    go_enter Try.func7, Try.ntmps7
    go_wp2_with (go_at_call 30; refine (hasForm_any _ _ _ xs _ (hH.out.below RPl.stable (by exact bel_)) hn).mono ?_; rw [hfH.out]; rintro e w1 ⟨rfl, hb1⟩; have hb1H := Lib.hid hb1; clear hb1)
    go_ret
    rw [hR.out]
    exact ⟨none, 0, [], rfl, Own2.nil _ _ _ _ _, (bl_al (bl_refl w) _).trans (hb1H.out.mono (by simp))⟩
  · have hR := Lib.hid (show partsR xs = partsQ xs by unfold partsR; rw [hf]; rfl)
    have hS := form_shp hf
    have hn5 := form_len hf
    rw [hl.out] at hn5
    have hfH := Lib.hid hf
    have hSH := Lib.hid hS
    have hpl : Hid ((xs.map plPt).length = n) := Lib.hid (by rw [List.length_map]; exact hl.out)
    have hPV := Lib.hid (partsV_parts hS)
    have hQT := Lib.hid (partsQ_tile hf)
    have hlen := partsP_len (xs.map plPt)
    rw [hpl.out] at hlen hPV
    have hplen := partsQ_len xs
    obtain ⟨PS, hPS⟩ : ∃ PS, partsP (xs.map plPt) = PS := ⟨_, rfl⟩
    rw [hPS] at hPV hQT hlen hplen
    obtain ⟨cN, hcN⟩ : ∃ cN, PS.length = cN := ⟨_, rfl⟩
    rw [hcN] at hlen hplen
    have hplenH := Lib.hid hplen
    have hcNH := Lib.hid hcN
    have hPSH := Lib.hid hPS
    clear hf hS hPS hcN hplen
    go_enter Try.func7, Try.ntmps7
    go_wp2_with (first
      | (go_at_call 30; refine (hasForm_any _ _ _ xs _ (hH.out.below RPl.stable (by exact bel_)) hn).mono ?_; rw [hfH.out]; rintro e w1 ⟨rfl, hb1⟩; have a0 := (hb1.cell (p := ⟨w.heap.size, 0, none⟩) (by simp)).trans (show _ = some (Value.slice A n c) by go_simp); have hb1H := Lib.hid ((bl_al (bl_refl w) (Obj.cells #[.slice A n c] 26)).trans (hb1.mono (by simp))); have hs1 := hb1.size; simp at hs1; clear hb1)
      | (go_at_call 32; refine (pointsQ_any (hH.out.below RPl.stable hb1H.out) (by omega)).mono ?_; rintro e w2 ⟨A2, c2, rfl, hO2, hb2⟩; have a1 := (hb2.cell (p := ⟨w.heap.size, 0, none⟩) (by simp; omega)).trans a0; have hs2 := hb2.size; have hO2H := Lib.hid (rdPts hO2 hpl.out.symm); have hb2H := Lib.hid (hb1H.out.trans (hb2.mono hb1H.out.size)); clear hO2 hb2)
      | (go_at_call 31; refine (connected_any _ n _ (xs.map plPt) _ hO2H.out hSH.out (by omega)).mono ?_; rintro e w3 ⟨v3, us3, rfl, hO3, hb3⟩; rw [hPV.out] at hO3; have hu3 : us3.length = cN := (by rw [hO3.len, List.length_map, hcNH.out]); have hu3H := Lib.hid hu3; obtain ⟨A3, c3, rfl⟩ := hO3.form hu3; have a2 := (hb3.cell (p := ⟨w.heap.size, 0, none⟩) (by simp; omega)).trans a1; have hs3 := hb3.size; have hO3H := Lib.hid hO3; have hb3H := Lib.hid (hb2H.out.trans (hb3.mono hb2H.out.size)); clear hO3 hb3 hu3))
    have hq := hb3H.out.size
    clear a0 a1
    go_loopg [13, 3] cN (fun g i v wy => ∃ (t : Nat) (us : List Value), t + g = cN ∧ i = .int .i64 (t : Int) ∧ Hid (Own2 wy w3.heap.size 26 38 3 v us (plRows ((partsQ xs).take t))) ∧ Hid (Below w3.heap.size w3 wy))
    case atStart => exact ⟨0, [], by omega, rfl, Lib.hid (Own2.nil _ _ _ _ _), Lib.hid (bl_refl _)⟩
    case round =>
      obtain ⟨t, us, ht, rfl, hO, hby⟩ := hrel
      have hszy := hby.out.size
      have hul : us.length = t := by
        rw [hO.out.len]
        simp only [plRows, List.length_map, List.length_take]
        rw [hplenH.out]
        omega
      have hulH := Lib.hid hul
      obtain ⟨A4, c4, rfl⟩ := hO.out.form hul
      clear hul
      have a3 := (hby.out.cell (p := ⟨w.heap.size, 0, none⟩) (by simp; omega)).trans a2
      have hwl : w.heap.size < wr.heap.size := by omega
      by_cases htc : t < cN
      · obtain ⟨l, hl'⟩ : ∃ l, PS[t]? = some l := ⟨_, List.getElem?_eq_getElem (by rw [hcNH.out]; exact htc)⟩
        have hsn := Lib.hid (show plRows ((partsQ xs).take (t + 1)) = plRows ((partsQ xs).take t) ++ [plCells (l.map (tileOf xs))] by
          unfold plRows
          rw [hQT.out, List.take_add_one, List.getElem?_map, hl']
          simp)
        have hll : l.length ≤ 500 := by
          have hm := (partsR_small xs).2 (l.map (tileOf xs)) (by rw [hR.out, hQT.out]; exact List.mem_map_of_mem (List.mem_of_getElem? hl'))
          rw [List.length_map] at hm
          exact hm
        obtain ⟨g1, cap1, hv⟩ := hO3H.out.formPos hu3H.out (by omega)
        injection hv with hv1 hv2 hv3
        subst hv1 hv3
        clear hv2
        obtain ⟨u1, hu1⟩ : ∃ u, us3[t]? = some u := ⟨_, List.getElem?_eq_getElem (by rw [hu3H.out]; exact htc)⟩
        obtain ⟨m, r', hr', hown0⟩ := hO3H.out.get hu1
        rw [List.getElem?_map, hl'] at hr'
        simp only [Option.map_some, Option.some.injEq] at hr'
        subst hr'
        obtain ⟨Au, capu, rfl⟩ := ownsRow_form hown0
        have hm := hown0.1
        rw [ptCells_len] at hm
        obtain rfl : l.length = m := by omega
        have k1 := hO3H.out.cellAt hu3H.out hu1
        have hg1 := k1.2.2
        have k2 := (hby.out.cell (p := ⟨g1, t, none⟩) hg1).trans k1.1
        have hg2 : g1 < wr.heap.size := by omega
        have hrd := Lib.hid ((rdPts hown0 rfl).below RPt.stable hby.out)
        have hAr := Lib.hid ((hH.out.below RPl.stable hb3H.out).below RPl.stable hby.out)
        have hof3 := Lib.hid (fun (g : Nat) (h : Value.ownBlock (.slice A4 t c4) = some g) => (hO.out.lt g h).2)
        have hou3 := Lib.hid (fun (k : Nat) (u : Value) (g : Nat) (hk : us[k]? = some u) (h : u.ownBlock = some g) => (hO.out.ltIn hk g h).2)
        clear hl' hu1 hown0 k1 hm
        go_wp2_with (first
          | (go_at_call 33; refine (part_any (hAr.out) hfH.out hrd.out (by omega)).mono ?_; rintro e w5 ⟨A5, c5, rfl, hO5, hb5⟩; have hs5 := hb5.size; have hO5H := Lib.hid hO5; have hb5H := Lib.hid hb5; have hO6 := Lib.hid (hO.out.below hb5); clear hO5 hb5)
          | (at_builtin; refine wpList_append_own_at _ rfl _ _ 28 rfl w3.heap.size 26 i1 (.agg #[.slice none 0 0]) 1 24 Try.underlying28 hi' hz0' hz1' hz2' rfl (by decide) (.slice A4 t c4) t us rfl ((hO6.out.outerN hulH.out).alloc _) ⟨w5.heap.size, 0, none⟩ 1 1 [.slice A5 l.length c5] rfl rfl (cell_one_new _ _ _) (fun x hx => by simp at hx; subst hx; rfl) (by unfold maxLen; omega) (by omega) (by simp; omega) ?_; intro v7 w7 hown7 hgrow7 _ hat7; have hown7H := Lib.hid hown7; have hgrow7H := Lib.hid hgrow7; have hat7H := Lib.hid hat7; clear hown7 hgrow7 hat7))
        go_roundg (cN - (t + 1))
        case measure => omega
        case rel =>
          refine ⟨t + 1, us ++ [.slice A5 l.length c5], by omega, by go_num, Lib.hid ?_, Lib.hid ?_⟩
          · rw [hsn.out]
            exact (hO6.out.alloc (Obj.cells #[.slice A5 l.length c5] 26)).push hulH.out ((ownsRow_baseQ hO5H.out (by omega)).alloc _) (fun g e => ⟨fun e' => by have := hof3.out _ e'; have := (hO5H.out.lt g e).1; omega, fun i u hu e' => by have := hou3.out i u _ hu e'; have := (hO5H.out.lt g e).1; omega⟩) hown7H.out hgrow7H.out hat7H.out
          · exact (hby.out.trans (hb5H.out.mono hszy)).trans (below_app (by omega) (fun g e => (hO.out.lt g e).1) hgrow7H.out)
      · obtain rfl : t = cN := by omega
        go_wp2
        go_ret
        rw [hR.out]
        refine ⟨A4, c4, us, by rw [hplenH.out]; rfl, ?_, hb3H.out.trans (hby.out.mono hq)⟩
        have h1 := hO.out
        rw [← hplenH.out, List.take_length] at h1
        exact h1.rebase hq
end Go.Proofs.Ytpnahobgmemdjaa
/- Walks: the parts of an assembly, of the reference. -/

namespace Go.Proofs.Ytpnahobgmemdjaa
open Go.RowKit Go.Shelf
attribute [local go_sem] BelowBy.cell BelowBy.cell_drew stillUpon givesUpon

set_option maxRecDepth 100000 in
set_option maxHeartbeats 4000000 in
theorem sPartsOf_any (A : Option Addr) (n c : Nat) (xs : List Pl) (w : World) (h : RdSl 3 RPl w A n xs) (hn : n ≤ 1073741824) :
    Calls Try.prog 8 #[.agg #[.slice A n c]] w (AsmsR w (partsR xs)) := by
  obtain ⟨i1, hi', hz0', hz1', hz2'⟩ := info_parts infoAsmQ
  obtain ⟨i2, hi2, hz02, hz12, hz22⟩ := info_parts infoPlQ
  have hl := Lib.hid h.len
  have hH := Lib.hid h
  clear h
  have hAsm : Hid (AsmAt ((w.alloc (Obj.cells #[.slice A n c] 26)).alloc (Obj.cells #[] 26)) w.heap.size 0 xs) := Lib.hid ⟨by simp; omega, ⟨A, n, c, by go_simp, (hH.out.below RPl.stable (bl_al (bl_al (bl_refl w) _) _))⟩⟩
  cases hf : hasFormB xs
  · have hR := Lib.hid (show partsR xs = [] by unfold partsR; rw [hf]; rfl)
    have hfH := Lib.hid hf
    clear hf
    go_enter Try.func8, Try.ntmps8
    go_wp2_with (go_at_call 34; refine (l03Form_any _ xs _ hAsm.out (by rw [hl.out]; exact hn)).mono ?_; rw [hfH.out]; rintro e w1 ⟨rfl, hb1⟩; have hb1H := Lib.hid hb1; clear hb1)
    go_ret
    rw [hR.out]
    refine ⟨_, _, [], rfl, Own2.of_empty (ownsRow_below ?_ hb1H.out), (bl_al (bl_al (bl_refl w) _) _).trans (hb1H.out.mono (by simp; omega))⟩
    have := World.ownsRow_made (base := w.heap.size) (e := 26) (size := 1) (w.alloc (Obj.cells #[.slice A n c] 26)) #[] 0 (by simp) (by decide) rfl
    simpa using this
  · have hR := Lib.hid (show partsR xs = partsQ xs by unfold partsR; rw [hf]; rfl)
    have hS := form_shp hf
    have hn5 := form_len hf
    rw [hl.out] at hn5
    have hfH := Lib.hid hf
    have hSH := Lib.hid hS
    have hlp : (xs.map plPt).length = n := by rw [List.length_map]; exact hl.out
    have hple := partsN_le (xs.map plPt)
    rw [hlp] at hple
    have hpeach := Lib.hid (fun (i : Nat) (l : List Nat) (h : (partsN (xs.map plPt))[i]? = some l) => by have := partsN_each h; rw [hlp] at this; exact this)
    have hplt := Lib.hid (fun (i : Nat) (l : List Nat) (h : (partsN (xs.map plPt))[i]? = some l) => by have := partsN_lt h; rw [hlp] at this; exact this)
    have hQe : partsQ xs = (partsN (xs.map plPt)).map fun l => l.map (plAt xs) := rfl
    obtain ⟨PN, hPN⟩ : ∃ PN, partsN (xs.map plPt) = PN := ⟨_, rfl⟩
    rw [hPN] at hple hpeach hplt hQe
    obtain ⟨cN, hcN⟩ : ∃ cN, PN.length = cN := ⟨_, rfl⟩
    have hplenH := Lib.hid (show (partsQ xs).length = cN by rw [hQe, List.length_map]; exact hcN)
    rw [hcN] at hple
    have hcNH := Lib.hid hcN
    have hPNH := Lib.hid hPN
    have hQeH := Lib.hid hQe
    clear hf hS hPN hcN hQe hlp
    go_enter Try.func8, Try.ntmps8
    go_wp2_with (first
      | (go_at_call 34; refine (l03Form_any _ xs _ hAsm.out (by rw [hl.out]; exact hn)).mono ?_; rw [hfH.out]; rintro e w1 ⟨rfl, hb1⟩; have a0 := (hb1.cell (p := ⟨w.heap.size, 0, none⟩) (by simp; omega)).trans (show _ = some (Value.slice A n c) by go_simp); have hs1 := hb1.size; simp at hs1; have hA1 := Lib.hid (hAsm.out.below hb1); have hR1 := Lib.hid (ownsRow_below (show ((w.alloc (Obj.cells #[.slice A n c] 26)).alloc (Obj.cells #[] 26)).ownsRow (w.heap.size + 1) 26 1 (.slice (some ⟨w.heap.size + 1, 0, none⟩) 0 0) 0 [] from by (have := World.ownsRow_made (base := w.heap.size + 1) (e := 26) (size := 1) (w.alloc (Obj.cells #[.slice A n c] 26)) #[] 0 (by simp) (by decide) rfl; simpa using this)) hb1); have hb1H := Lib.hid ((bl_al (bl_al (bl_refl w) (Obj.cells #[.slice A n c] 26)) (Obj.cells #[] 26)).trans (hb1.mono (by simp; omega))); clear hb1)
      | (go_at_call 35; refine (l03Parts_any xs _ hA1.out hSH.out (by rw [hl.out]; omega)).mono ?_; rintro e w2 ⟨v2, us2, rfl, hO2, hb2⟩; rw [hPNH.out] at hO2; have hu2 : us2.length = cN := (by rw [hO2.len, List.length_map, hcNH.out]); have hu2H := Lib.hid hu2; obtain ⟨A2, c2, rfl⟩ := hO2.form hu2; have a1 := (hb2.cell (p := ⟨w.heap.size, 0, none⟩) (by simp; omega)).trans a0; have hs2 := hb2.size; have hO2H := Lib.hid hO2; have hR2 := Lib.hid (ownsRow_below hR1.out hb2); have hb2H := Lib.hid (hb1H.out.trans (hb2.mono hb1H.out.size)); clear hO2 hb2 hu2))
    have hq := hb2H.out.size
    clear a0
    go_loopg [5, 3] cN (fun g i v wy => ∃ (t : Nat) (us : List Value), t + g = cN ∧ i = .int .i64 (t : Int) ∧ Hid (Own2 wy (w.heap.size + 1) 26 38 3 v us (plRows ((partsQ xs).take t))) ∧ Hid (Own2 wy w1.heap.size 67 2 1 (.slice A2 cN c2) us2 (PN.map numsV)) ∧ Hid (∀ g, v.ownBlock = some g → g < w1.heap.size ∨ w2.heap.size ≤ g) ∧ wy.cell? ⟨w.heap.size, 0, none⟩ = some (.slice A n c) ∧ Hid (Below w.heap.size w wy) ∧ w2.heap.size ≤ wy.heap.size)
    case atStart => exact ⟨0, [], by omega, rfl, Lib.hid (Own2.of_empty hR2.out), hO2H, Lib.hid (fun g e => by (have e1 : some (w.heap.size + 1) = some g := e); injection e1 with e1; omega), a1, hb2H, Nat.le_refl _⟩
    case round =>
      have hin2 := Lib.hid (show (∀ g, Value.ownBlock (.slice A2 cN c2) = some g → w1.heap.size ≤ g ∧ g < w2.heap.size) ∧ ∀ (k : Nat) (u : Value) (g : Nat), us2[k]? = some u → u.ownBlock = some g → w1.heap.size ≤ g ∧ g < w2.heap.size from ⟨fun g e => hO2H.out.lt g e, fun k u g hk hu => hO2H.out.ltIn hk g hu⟩)
      clear hO2H hR2 a1 hb2H hb1H hA1 hR1
      obtain ⟨t, us, ht, rfl, hO, hN, hD, a1, hby, hsy⟩ := hrel
      have hszy := hby.out.size
      have hul : us.length = t := by
        rw [hO.out.len]
        simp only [plRows, List.length_map, List.length_take]
        rw [hplenH.out]
        omega
      have hulH := Lib.hid hul
      obtain ⟨A4, c4, rfl⟩ := hO.out.form hul
      clear hul
      have hwl : w.heap.size < wr.heap.size := by omega
      by_cases htc : t < cN
      · obtain ⟨l, hl'⟩ : ∃ l, PN[t]? = some l := ⟨_, List.getElem?_eq_getElem (by rw [hcNH.out]; exact htc)⟩
        have hsn := Lib.hid (show plRows ((partsQ xs).take (t + 1)) = plRows ((partsQ xs).take t) ++ [plCells (l.map (plAt xs))] by
          unfold plRows
          rw [hQeH.out, List.take_add_one, List.getElem?_map, hl']
          simp)
        have hll := hpeach.out t l hl'
        have hlv := Lib.hid (hplt.out t l hl')
        obtain ⟨g1, cap1, hv⟩ := hN.out.formPos hu2H.out (by omega)
        injection hv with hv1 hv2 hv3
        subst hv1 hv3
        clear hv2
        obtain ⟨u1, hu1⟩ : ∃ u, us2[t]? = some u := ⟨_, List.getElem?_eq_getElem (by rw [hu2H.out]; exact htc)⟩
        obtain ⟨m, r', hr', hown0⟩ := hN.out.get hu1
        rw [List.getElem?_map, hl'] at hr'
        simp only [Option.map_some, Option.some.injEq] at hr'
        subst hr'
        obtain ⟨Au, capu, rfl⟩ := ownsRow_form hown0
        have hm := hown0.1
        rw [numsV_len, Nat.mul_one] at hm
        subst hm
        have k1 := hN.out.cellAt hu2H.out hu1
        have hg1 := k1.2.2
        have k1c := k1.1
        have hownH := Lib.hid hown0
        clear hl' hu1 hown0 k1
        obtain ⟨wo, hwo⟩ : ∃ wo : World, wo = wr := ⟨_, rfl⟩
        subst hwo
        have hocH := Lib.hid k1c
        have hoaH := Lib.hid a1
        go_wp2
        go_loopg [7] l.length (fun g i wz => ∃ (q : Nat) (A8 : Option Addr) (c8 : Nat), q + g = l.length ∧ i = .int .i64 (q : Int) ∧ Hid (wz.ownsRow (wo.heap.size + 1) 38 3 (.slice A8 q c8) q (plCells ((l.take q).map (plAt xs)))) ∧ wz.cell? ⟨wo.heap.size, 0, none⟩ = some (.slice A8 q c8) ∧ wz.frozen? ⟨wo.heap.size, 0, none⟩ = false ∧ wo.heap.size < wz.heap.size ∧ Hid (Below wo.heap.size wo wz))
        case atStart => exact ⟨0, none, 0, by omega, rfl, Lib.hid (World.ownsRow_nil _ _ _ _), by go_simp, by go_simp, by simp, Lib.hid (bl_al (bl_refl _) _)⟩
        case round =>
          clear k1c a1
          obtain ⟨q, A8, c8, hq', rfl, hR8, hx, hxf, hxl, hbz⟩ := hrel
          have hszz := hbz.out.size
          have k1c := (hbz.out.cell (p := ⟨g1, t, none⟩) hg1).trans hocH.out
          have a2 := (hbz.out.cell (p := ⟨w.heap.size, 0, none⟩) (by simp; omega)).trans hoaH.out
          have hg1' : g1 < wr.heap.size := by omega
          have hwl' : w.heap.size < wr.heap.size := by omega
          by_cases hql : q < l.length
          · obtain ⟨v, hv⟩ : ∃ v, l[q]? = some v := ⟨_, List.getElem?_eq_getElem hql⟩
            have hvn : v < n := hlv.out v (List.mem_of_getElem? hv)
            obtain ⟨gu, capu', hv9⟩ : ∃ g cap, Value.slice Au l.length capu = .slice (some ⟨g, 0, none⟩) l.length cap := by
              rcases hownH.out.2 with ⟨_, h0⟩ | ⟨g, cap, cur, hv, _⟩
              · omega
              · exact ⟨g, cap, hv⟩
            injection hv9 with hv1 hv2 hv3
            subst hv1 hv3
            clear hv2
            have k3 := (hbz.out.cell (p := ⟨gu, q, none⟩) (hownH.out.lt gu rfl).2).trans ((hownH.out.cellAt q (by omega)).trans (numsV_get hv))
            have hgu : gu < wr.heap.size := Nat.lt_of_lt_of_le (hownH.out.lt gu rfl).2 hszz
            have hAw := (hH.out.below RPl.stable hby.out).below RPl.stable hbz.out
            obtain ⟨bb, ob, rfl, hbb, hbc⟩ := hAw.ptr (by omega)
            obtain ⟨e, he⟩ := hAw.get hvn
            obtain ⟨e0, e1, e2⟩ := hbc v e he
            have htk := Lib.hid (show (l.take (q + 1)).map (plAt xs) = (l.take q).map (plAt xs) ++ [e] by rw [List.take_add_one, hv]; simp [plAt_of he])
            have hv0 : (0 : Int) ≤ (v : Int) := by omega
            have hvI : (v : Int) < (n : Int) := by omega
            have htI : (0 : Int) ≤ (t : Int) := by omega
            have hqI : (0 : Int) ≤ (q : Int) := by omega
            clear hbc hAw hv he
            go_wp2
            refine wp_region_ord [(0, .q), (1, .q), (2, .q), (3, .q), (4, .q), (5, .q), (6, .q), (7, .q), (8, .q), (9, .q), (10, .q), (11, .q), (12, .q), (13, .g), (14, .b), (15, .q), (16, .b)] (by kernel_rfl) (by kernel_rfl) ?_
            simp only [pick, List.filterMap_cons, List.filterMap_nil, List.getElem?_toArray, List.getElem?_cons_zero, List.getElem?_cons_succ, Option.map_some]
            repeat (first
              | ((with_reducible refine wpD_p (fun K hK => ?_)); go_simp; refine hK _ ?_; clear hK K)
              | ((with_reducible refine wpD_q (fun K hK => ?_)); go_simp; (first | refine hK _ ?_ | (go_bits; refine hK _ ?_) | (go_bits; go_simp; refine hK _ ?_)); clear hK K)
              | ((with_reducible refine wpD_g (fun K hK => ?_)); go_simp; refine hK _ _ ?_; clear hK K)
              | ((with_reducible refine wpD_g (fun K hK => ?_)); go_simp; refine ⟨Grew.of_alloc _, hK _ _ ?_⟩; clear hK K))
            refine wpD_append rfl _ _ 24 rfl (wo.heap.size + 1) 38 i2 (.agg #[.int .i64 0, .int .i64 0, .int .i64 0]) 3 24 Try.underlying24 hi2 hz02 hz12 hz22 rfl (by decide) (.slice A8 q c8) q (plCells ((l.take q).map (plAt xs))) (by go_simp) (ownsRow_below hR8.out (by exact bel_)) ⟨wr.heap.size, 0, none⟩ 1 1 [.int .i64 e.x, .int .i64 e.y, .int .i64 e.t] (by go_simp) rfl ?hnews (fun x hx => by simp at hx; rcases hx with rfl | rfl | rfl <;> rfl) (by unfold maxLen; omega) (by omega) (by simp; omega) ?_
            case hnews =>
              have := cell_three_new wr (.int .i64 e.x) (.int .i64 e.y) (.int .i64 e.t) 38
              simpa using this
            intro v5 w5 hown hgrow
            obtain ⟨A5, c5, rfl⟩ := ownsRow_form hown
            have hownH5 := Lib.hid hown
            have hb6 : Below (wo.heap.size + 1) wr w5 := ((Below.refl (wo.heap.size + 1) wr).alloc (by omega) _).drew.grown hgrow (by simp; omega) (fun g e => (hR8.out.lt g e).1)
            have m2 := (hb6.cell (p := ⟨wo.heap.size, 0, none⟩) (by simp)).trans hx
            have mf := (hb6.frozen (p := ⟨wo.heap.size, 0, none⟩) (by simp)).trans hxf
            have m9 : wo.heap.size < w5.heap.size := by have := hb6.size; omega
            have hB6 := Lib.hid (hbz.out.trans (hb6.mono (by omega)))
            clear hown hgrow hb6
            repeat (first | ((with_reducible refine wpD_p (fun K hK => ?_)); go_simp; refine hK _ ?_; clear hK K) | ((with_reducible refine wpD_q (fun K hK => ?_)); go_simp; (first | refine hK _ ?_ | (go_bits; refine hK _ ?_) | (go_bits; go_simp; refine hK _ ?_)); clear hK K))
            with_reducible refine wpD_b (fun K hK => ?_)
            go_simp
            refine hK _ _ ?_
            clear hK K
            with_reducible refine wpD_nil ?_
            go_wp2
            go_roundg (l.length - (q + 1))
            case measure => omega
            case rel =>
              refine ⟨q + 1, A5, c5, by omega, by go_num, Lib.hid ?_, by go_simp, by go_simp, by simpa using m9, Lib.hid (hB6.out.setCell (p := ⟨wo.heap.size, 0, none⟩) (Nat.le_refl _) _)⟩
              rw [htk.out, plCells_snoc]
              exact ownsRow_setCell_below hownH5.out (by show wo.heap.size < wo.heap.size + 1; omega) _
          · obtain rfl : q = l.length := by omega
            have hR9 := Lib.hid (show wr.ownsRow (wo.heap.size + 1) 38 3 (.slice A8 l.length c8) l.length (plCells (l.map (plAt xs))) by have := hR8.out; rw [List.take_length] at this; exact this)
            have hO6 := Lib.hid (hO.out.below hbz.out)
            have hN6 := Lib.hid (hN.out.below hbz.out)
            have hof3 := Lib.hid (fun (g : Nat) (h : Value.ownBlock (.slice A4 t c4) = some g) => (hO.out.lt g h).2)
            have hou3 := Lib.hid (fun (k : Nat) (u : Value) (g : Nat) (hk : us[k]? = some u) (h : u.ownBlock = some g) => (hO.out.ltIn hk g h).2)
            go_wp2_with (at_builtin; refine wpList_append_own_at _ rfl _ _ 28 rfl (w.heap.size + 1) 26 i1 (.agg #[.slice none 0 0]) 1 24 Try.underlying28 hi' hz0' hz1' hz2' rfl (by decide) (.slice A4 t c4) t us rfl ((hO6.out.outerN hulH.out).alloc _) ⟨wr.heap.size, 0, none⟩ 1 1 [.slice A8 l.length c8] rfl rfl (cell_one_new _ _ _) (fun x hx => by simp at hx; subst hx; rfl) (by unfold maxLen; omega) (by omega) (by simp; omega) ?_; intro v7 w7 hown7 hgrow7 _ hat7; have hown7H := Lib.hid hown7; have hgrow7H := Lib.hid hgrow7; have hat7H := Lib.hid hat7; clear hown7 hgrow7 hat7)
            have hs7 : wr.heap.size + 1 ≤ w7.heap.size := by have := hgrow7H.out.size; simpa using this
            go_roundg (cN - (t + 1))
            case measure => omega
            case rel =>
              refine ⟨t + 1, us ++ [.slice A8 l.length c8], by omega, by go_num, Lib.hid ?_, Lib.hid ?_, Lib.hid ?_, ?_, Lib.hid ?_, by omega⟩
              · rw [hsn.out]
                exact (hO6.out.alloc (Obj.cells #[.slice A8 l.length c8] 26)).push hulH.out ((ownsRow_baseQ hR9.out (by omega)).alloc _) (fun g e => ⟨fun e' => by have := hof3.out _ e'; have := (hR9.out.lt g e).1; omega, fun i u hu e' => by have := hou3.out i u _ hu e'; have := (hR9.out.lt g e).1; omega⟩) hown7H.out hgrow7H.out hat7H.out
              · refine (hN6.out.alloc _).kept hgrow7H.out fun g e => ?_
                have h1 := hD.out g e
                exact ⟨fun e' => by have := hin2.out.1 g e'; omega, fun k u hk e' => by have := hin2.out.2 k u g hk e'; omega⟩
              · intro g e
                rcases hat7H.out with h | h
                · exact hD.out g (h ▸ e)
                · rw [h] at e
                  injection e with e
                  simp at e
                  omega
              · refine (World.cell?_of_block (w := wr.alloc (Obj.cells #[.slice A8 l.length c8] 26)) (a := ⟨w.heap.size, 0, none⟩) (hgrow7H.out.block w.heap.size (by simp; omega) (fun e => by have := (hO.out.lt w.heap.size e.symm).1; omega))).trans ?_
                go_simp
              · exact ((hby.out.trans (hbz.out.mono hszy)).alloc (by omega) _).grown hgrow7H.out (by simp; omega) (fun g e => by have := (hO.out.lt g e).1; omega)
      · obtain rfl : t = cN := by omega
        go_wp2
        go_ret
        rw [hR.out]
        refine ⟨A4, c4, us, by rw [hplenH.out]; rfl, ?_, hby.out⟩
        have h1 := hO.out
        rw [← hplenH.out, List.take_length] at h1
        exact h1.rebase (by omega)
end Go.Proofs.Ytpnahobgmemdjaa
