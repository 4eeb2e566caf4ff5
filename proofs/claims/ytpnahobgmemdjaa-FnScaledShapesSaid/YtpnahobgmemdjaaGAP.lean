import Derived.Test.YtpnahobgmemdjaaGAO
import Derived.Test.YtpnahobgmemdjaaGAK
import Derived.Lib.SliceRun
import Derived.Test.YtpnahobgmemdjaaGAM
import Derived.Test.YtpnahobgmemdjaaGAN
set_option linter.unusedSimpArgs false
set_option linter.unusedVariables false
/- Walks: a row of points in order and without equals. -/



namespace Go.Proofs.Ytpnahobgmemdjaa
open Go.RowKit Go.Shelf
attribute [local go_sem] BelowBy.cell BelowBy.cell_drew stillUpon givesUpon

theorem ptCells_of_rd {w : World} {b o : Nat} {xs : List Pt} (h : ∀ k e, xs[k]? = some e → RPt w b (o + k * 2) e) : ∀ j u, (ptCells xs)[j]? = some u → w.cell? ((⟨b, o, none⟩ : Addr).add j) = some u := by
  intro j u hj
  have hlt := (List.getElem?_eq_some_iff.1 hj).1
  rw [ptCells_len] at hlt
  obtain ⟨k, hk⟩ : ∃ k, j / 2 = k := ⟨_, rfl⟩
  obtain ⟨e, he⟩ : ∃ e, xs[k]? = some e := ⟨_, List.getElem?_eq_getElem (by omega)⟩
  obtain ⟨g0, g1⟩ := ptCells_get xs _ e he
  obtain ⟨c0, c1⟩ := h _ e he
  rw [Addr.add_lit]
  have : j = k * 2 ∨ j = k * 2 + 1 := by omega
  rcases this with rfl | rfl
  · rw [← Option.some.inj (g0.symm.trans hj)]; exact c0
  · rw [← Option.some.inj (g1.symm.trans hj), ← Nat.add_assoc]; exact c1
def OwnPts (w : World) (bs : List Pt) (e : Ending) (w' : World) : Prop := ∃ v, e = .returned v ∧ w'.ownsRow w.heap.size 34 2 v bs.length (ptCells bs) ∧ Below w.heap.size w w'
set_option maxRecDepth 100000 in
set_option maxHeartbeats 1000000 in
theorem CloneNil_any (w : World) :
    Calls Try.prog 83 #[.slice none 0 0] w fun e w' => e = .returned (.slice none 0 0) ∧ Below w.heap.size w w' := by
  obtain ⟨i0, hi, hz0, hz1, hz2⟩ := info_parts infoPtQ
  have hq := fun W => Lib.run_eql_slice_nil (P := Try.prog) W 42 34 none 0 0 0 0 Try.underlying42
  go_enter Try.func83, Try.ntmps83
  go_wp2
  go_ret
  exact ⟨rfl, bl_refl _⟩
set_option maxRecDepth 100000 in
set_option maxHeartbeats 1000000 in
theorem ClonePt_any (ad : Addr) (n c : Nat) (bs : List Pt) (w : World) (h : RdSl 2 RPt w (some ad) n bs) (hn : n ≤ 1000000) :
    Calls Try.prog 83 #[.slice (some ad) n c] w (OwnPts w bs) := by
  obtain ⟨i0, hi, hz0, hz1, hz2⟩ := info_parts infoPtQ
  have hl := h.len
  have hq := fun W => Lib.run_eql_slice_nil (P := Try.prog) W 42 34 (some ad) n c 0 0 Try.underlying42
  have hcl : (∀ (ob : Obj) j u, (ptCells bs)[j]? = some u → (w.alloc ob).cell? (ad.add j) = some u) := fun ob j u hj => by
    have hlt := (List.getElem?_eq_some_iff.1 hj).1
    rw [ptCells_len] at hlt
    obtain ⟨b, o, e, hb, hc⟩ := h.ptr (by omega)
    injection e with e
    subst e
    refine Eq.trans (World.cell?_alloc_lt _ _ _ ?_) (ptCells_of_rd hc j u hj)
    rw [Addr.add_lit]; exact hb
  have hclH := Lib.hid hcl
  have hlH := Lib.hid hl
  have hlen := ptCells_len bs
  rw [hl] at hlen
  have hlenH := Lib.hid hlen
  clear h hl hcl hlen
  go_enter Try.func83, Try.ntmps83
  go_wp2_with (at_builtin; go_loud (refine wpList_append_own _ rfl _ _ 42 rfl w.heap.size 34 i0 (.agg #[.int .i64 0, .int .i64 0]) 2 16 Try.underlying42 hi hz0 hz1 hz2 rfl (by decide) _ 0 [] rfl (World.ownsRow_made _ _ _ (Nat.le_refl _) (by decide) rfl) ad n c (ptCells bs) rfl hlenH.out (fun j u hj => hclH.out _ j u hj) (ptCells_one bs) (by unfold maxLen; omega) (by omega) (by simp) ?_); intro v' w3 hown' hgrow _)
  go_ret
  refine ⟨_, rfl, ?_, ((Below.refl w.heap.size w).alloc (Nat.le_refl _) _).grown hgrow (by simp) (fun b' hb' => ?_)⟩
  · rw [hlH.out]
    simpa using hown'
  · have hb2 : some w.heap.size = some b' := hb'
    injection hb2 with hb3
    exact Nat.le_of_eq hb3
set_option maxRecDepth 100000 in
theorem insNil_any (c : Nat) (fv : Value) (w : World) :
    Calls Try.prog 96 #[.slice none 0 c, .int .i64 0, .int .i64 0, fv] w fun e w' => e = .returned (.tuple #[]) ∧ Below w.heap.size w w' := by
  go_enter Try.func96, Try.ntmps96
  go_wp2
  go_loopg [8] 1 (fun g x wr => g = 1 ∧ x = .int .i64 1 ∧ Below w.heap.size w wr)
  case atStart => exact ⟨rfl, by go_num, bl_refl _⟩
  case round =>
    obtain ⟨hg, rfl, hb⟩ := hrel
    go_wp2
    go_end0
    exact ⟨rfl, hb⟩
set_option maxRecDepth 100000 in
theorem pdqNil_any (c : Nat) (l : Int) (fv : Value) (w : World) :
    Calls Try.prog 88 #[.slice none 0 c, .int .i64 0, .int .i64 0, .int .i64 l, fv] w fun e w' => e = .returned (.tuple #[]) ∧ Below w.heap.size w w' := by
  go_enter Try.func88, Try.ntmps88
  go_wp2
  go_loopg [1, 2] 1 (fun g x y wr => g = 1 ∧ x = .int .i64 0 ∧ y = .int .i64 0 ∧ Below w.heap.size w wr)
  case atStart => exact ⟨rfl, rfl, rfl, bl_refl _⟩
  case round =>
    obtain ⟨hg, rfl, rfl, hb⟩ := hrel
    go_wp2_with (go_at_call 96; refine (insNil_any _ _ _).mono ?_; rintro e w1 ⟨rfl, hb1⟩; have hb1H := Lib.hid hb1; clear hb1)
    (try simp only [Exit.inBlock, Exit.then])
    refine bodyPost_ret (results_none rfl _ _ _) rfl ?_
    exact ⟨rfl, hb.trans (hb1H.out.mono hb.size)⟩
set_option maxRecDepth 100000 in
theorem bitsLen_zero (w : World) :
    Calls Try.prog 89 #[.int .u64 0] w fun e w' => (∃ l, e = .returned (.int .i64 l)) ∧ Below w.heap.size w w' := by
  go_enter Try.func89, Try.ntmps89
  go_wp2
  go_ret
  exact ⟨⟨_, rfl⟩, bl_refl _⟩
set_option maxRecDepth 100000 in
theorem SortNil_any (c : Nat) (fv : Value) (w : World) :
    Calls Try.prog 70 #[.slice none 0 c, fv] w fun e w' => e = .returned (.tuple #[]) ∧ Below w.heap.size w w' := by
  go_enter Try.func70, Try.ntmps70
  go_wp2_with (first
    | (go_at_call 89; refine (bitsLen_zero _).mono ?_; rintro e w1 ⟨⟨l, rfl⟩, hb1⟩; have hb1H := Lib.hid hb1; clear hb1)
    | (go_at_call 88; refine (pdqNil_any _ _ _ _).mono ?_; rintro e w2 ⟨rfl, hb2⟩; have hb2H := Lib.hid hb2; clear hb2))
  go_end0
  exact ⟨rfl, hb1H.out.trans (hb2H.out.mono hb1H.out.size)⟩
set_option maxRecDepth 100000 in
set_option maxHeartbeats 1000000 in
theorem shapeNil_any (w : World) :
    Calls Try.prog 58 #[.slice none 0 0] w (OwnPts w []) := by
  go_enter Try.func58, Try.ntmps58
  go_wp2_with (first
    | (go_at_call 83; refine (CloneNil_any _).mono ?_; rintro e w1 ⟨rfl, hb1⟩; have hb1H := Lib.hid hb1; clear hb1)
    | (go_at_call 70; refine (SortNil_any _ _ _).mono ?_; rintro e w2 ⟨rfl, hb2⟩; have hb2H := Lib.hid hb2; clear hb2)
    | (go_at_call 84; refine (CompactNil_any _ _).mono ?_; rintro e w3 ⟨rfl, hb3⟩; have hb3H := Lib.hid hb3; clear hb3))
  go_ret
  exact ⟨_, rfl, World.ownsRow_nil _ _ _ _, hb1H.out.trans ((hb2H.out.trans (hb3H.out.mono hb2H.out.size)).mono hb1H.out.size)⟩
theorem sortP_mem {L : List Pt} {p : Pt} : p ∈ sortP L ↔ p ∈ L := List.mem_mergeSort
theorem sortP_weak (L : List Pt) : (sortP L).Pairwise (fun a b => ¬ ltP b a) := by
  have h : (sortP L).Pairwise (fun a b => (!(ltOf cmpP) b a) = true) := by
    refine List.pairwise_mergeSort ?_ ?_ L
    · intro a b c h1 h2
      have := swo_cmpP.ntrans (x := c) (y := b) (z := a) (by simpa using h2) (by simpa using h1)
      simp [this]
    · intro a b
      cases h1 : ltOf cmpP a b
      · simp
      · have := (swo_cmpP.asymm h1)
        simp [this]
  refine h.imp ?_
  intro a b h
  rw [ltOf_cmpP] at h
  intro h2
  rw [ltP_iff] at h2
  rw [lessPt_said] at h
  simp at h
  omega
set_option maxRecDepth 100000 in
set_option maxHeartbeats 1000000 in
theorem sortedShape_any (base : Nat) (v : Value) (L : List Pt) (w : World) (hrow : w.ownsRow base 34 2 v L.length (ptCells L)) (hn : L.length ≤ 1000000) (hz : L.length = 0 → v = .slice none 0 0) :
    Calls Try.prog 58 #[v] w (OwnPts w (putAll [] L)) := by
  have hP := compact_put (L := L) (M := sortP L) (fun p => sortP_mem) (sortP_weak L)
  rw [← hP]
  rcases Nat.eq_zero_or_pos L.length with h0 | h0
  · have h1 : L = [] := List.eq_nil_of_length_eq_zero h0
    subst h1
    have hc : compactP (sortP []) = [] := by unfold sortP; rw [List.mergeSort_nil]; rfl
    rw [hc]
    rw [hz rfl]
    exact shapeNil_any w
  · obtain ⟨A, c, rfl, hrd⟩ := rdPt_of_row hrow
    obtain ⟨b, o, rfl, hb, hc⟩ := hrd.ptr h0
    obtain ⟨n, hnn⟩ : ∃ n, L.length = n := ⟨_, rfl⟩
    rw [hnn] at hrd hn h0 ⊢
    have hnH := Lib.hid hnn
    have hrdH := Lib.hid hrd
    have hPH := Lib.hid hP
    clear hrow hc hrd hP hnn hz
    go_enter Try.func58, Try.ntmps58
    go_wp2_with fail
    refine (ClonePt_any _ _ _ L _ hrdH.out hn).mono ?_
    rintro e w1 ⟨v1, rfl, hown, hb1⟩
    rcases hown.2 with ⟨_, h00⟩ | ⟨g, cap, cur, rfl, hbg, hh, _⟩
    · have := hnH.out; omega
    have hgw : g < w1.heap.size := (Array.getElem?_eq_some_iff.1 hh).1
    have hownH := Lib.hid hown
    have hb1H := Lib.hid hb1
    have hbgH := Lib.hid hbg
    have hs1H := Lib.hid hb1.size
    clear hown hb1 hbg hh
    rw [hnH.out] at hownH ⊢
    go_wp2_with fail
    have hsrt := SortFuncPt_any L w.heap.size g cap w1 (by rw [hnH.out]; exact hownH.out) (by rw [hnH.out]; omega)
    rw [hnH.out] at hsrt
    refine hsrt.mono ?_
    rintro e w2 ⟨rfl, hown2, hg2⟩
    have hown2H := Lib.hid hown2
    have hg2H := Lib.hid hg2
    clear hown2 hg2 hsrt
    go_wp2_with fail
    have hsl : (sortP L).length = n := by rw [sortP_len]; exact hnH.out
    have hcp := CompactPt_any w.heap.size g cap (sortP L) w2 (by rw [hsl]; exact hown2H.out) (by rw [hsl]; exact h0) (by rw [hsl]; exact hn)
    rw [hsl] at hcp
    refine hcp.mono ?_
    rintro e w3 ⟨c3, rfl, hown3, hg3⟩
    have hown3H := Lib.hid hown3
    have hg3H := Lib.hid hg3
    clear hown3 hg3 hcp hsl
    go_wp2
    go_ret
    exact ⟨_, rfl, hown3H.out, hb1H.out.trans ((Gb.trans hg2H.out hg3H.out).toBelow hs1H.out hbgH.out |>.mono (Nat.le_refl _))⟩
end Go.Proofs.Ytpnahobgmemdjaa
/- Walks: the reference's connected parts of points. -/



namespace Go.Proofs.Ytpnahobgmemdjaa
open Go.RowKit Go.Shelf
attribute [local go_sem] BelowBy.cell BelowBy.cell_drew stillUpon givesUpon

def pl0 (e : Pt) : Pl := ⟨e.x, e.y, 0⟩
theorem pl0_pt (ps : List Pt) : (ps.map pl0).map plPt = ps := by
  rw [List.map_map]
  have : (plPt ∘ pl0) = id := by funext e; rfl
  rw [this, List.map_id]
theorem infoPlQ : (Try.prog.info? 38).map (fun i => (i.zero, i.size, i.bytes)) = some (some (.agg #[.int .i64 0, .int .i64 0, .int .i64 0]), 3, 24) := by kernel_rfl
theorem nameL_lt {nm : List Nat} {q t v : Nat} (h : v ∈ nameL nm q t) : v < t := by
  unfold nameL at h
  have := (List.mem_filter.1 h).1
  simpa using this
theorem partsN_len (ps : List Pt) : (partsN ps).length = (allP (nbP ps) ps.length ps.length).2.length := by simp [partsN, namesL]
theorem partsN_le (ps : List Pt) : (partsN ps).length ≤ ps.length := by rw [partsN_len]; exact allP_count _ _ _
theorem partsN_lt {ps : List Pt} {i : Nat} {l : List Nat} (h : (partsN ps)[i]? = some l) : ∀ v ∈ l, v < ps.length := by
  intro v hv
  have := List.mem_of_getElem? h
  unfold partsN namesL at this
  rw [List.mem_map] at this
  obtain ⟨q, _, rfl⟩ := this
  exact nameL_lt hv
theorem partsN_each {ps : List Pt} {i : Nat} {l : List Nat} (h : (partsN ps)[i]? = some l) : l.length ≤ ps.length := by
  have := List.mem_of_getElem? h
  unfold partsN namesL at this
  rw [List.mem_map] at this
  obtain ⟨q, _, rfl⟩ := this
  exact nameL_len _ _ _
def rowsQ (ps : List Pt) (P : List (List Nat)) : List (List Value) := P.map fun l => ptCells (ptsAt ps l)
end Go.Proofs.Ytpnahobgmemdjaa
/- Plain: the parts of a shape, of both, are the same points. -/

namespace Go.Proofs.Ytpnahobgmemdjaa
open Go.RowKit Go.Lib Go.Sort
section
variable {nb : Nat → Nat → Option Nat} {n : Nat}
/-- what the names say of the parts -/
theorem allP_mem : ∀ (i q : Nat) (l : List Nat), (allP nb n i).2[q]? = some l → l.Nodup ∧ (∀ v ∈ l, v < n) ∧ ∀ v, v ∈ l ↔ (allP nb n i).1[v]? = some (q + 1)
  | 0, q, l, h => by simp [allP] at h
  | i + 1, q, l, h => by
    have ih := allP_mem i
    have hrng := allP_rng (nb := nb) (n := n) i
    have hlen := allP_len nb n i
    by_cases h0 : (allP nb n i).1[i]? = some 0
    · obtain ⟨nm, hnm⟩ : ∃ nm, (allP nb n i).1 = nm := ⟨_, rfl⟩
      obtain ⟨P, hP⟩ : ∃ P, (allP nb n i).2 = P := ⟨_, rfl⟩
      obtain ⟨e1, e2⟩ := allP_yes (nb := nb) (n := n) (i := i) hnm hP (hnm ▸ h0) rfl
      rw [hnm, hP] at ih hrng
      rw [hnm] at hlen h0
      have hV := (VisInv.start (n := n) (c := P.length + 1) (N0 := nm) (i := i) (Nat.succ_ne_zero _) hlen h0).all (nb := nb) n
      obtain ⟨st, hst⟩ : ∃ st, visS nb (P.length + 1) ([i], nm.set i (P.length + 1)) n = st := ⟨_, rfl⟩
      rw [hst] at e1 e2 hV
      rw [e2] at h
      rw [e1]
      rcases Nat.lt_or_ge q P.length with hq | hq
      · rw [List.getElem?_append_left hq] at h
        obtain ⟨h1, h2, h3⟩ := ih q l h
        refine ⟨h1, h2, fun v => ?_⟩
        rcases Classical.em (v ∈ st.1) with hm | hm
        · have hw := hV.was v hm
          have hi := hV.is v hm
          constructor
          · intro hv
            have := (h3 v).1 hv
            rw [hw] at this
            injection this with this
            omega
          · intro hv
            rw [hi] at hv
            injection hv with hv
            omega
        · rw [hV.other v hm]
          exact h3 v
      · rw [List.getElem?_append_right hq] at h
        have hq0 : q - P.length = 0 := by
          have := (List.getElem?_eq_some_iff.1 h).1
          simp at this
          omega
        rw [hq0] at h
        simp at h
        subst h
        have hqe : q = P.length := by omega
        subst hqe
        refine ⟨hV.nd, hV.lt, fun v => ⟨fun hv => hV.is v hv, fun hv => ?_⟩⟩
        apply Classical.byContradiction
        intro hm
        rw [hV.other v hm] at hv
        have := hrng v _ hv
        omega
    · have he := allP_no (nb := nb) (n := n) (i := i) h0
      rw [he] at h ⊢
      exact ih q l h
end
theorem sortP_perm (L : List Pt) : (sortP L).Perm L := List.mergeSort_perm _ _
theorem ltP_of (x y : Pt) : ltOf cmpP x y = true ↔ ltP x y := Iff.rfl
theorem sortP_sorted {L : List Pt} (h : L.Nodup) : SortS (sortP L) := by
  have h1 : (sortP L).Pairwise fun x y => (!(ltOf cmpP) y x) = true := by
    refine List.pairwise_mergeSort ?_ ?_ L
    · intro a b c h1 h2
      simp only [Bool.not_eq_true'] at *
      exact swo_cmpP.ntrans c b a h2 h1
    · intro a b
      cases h2 : ltOf cmpP b a
      · rfl
      · cases h3 : ltOf cmpP a b
        · rfl
        · exact absurd (swo_cmpP.trans _ _ _ h2 h3) (by rw [swo_cmpP.irrefl]; decide)
  have h2 : (sortP L).Nodup := (sortP_perm L).nodup_iff.2 h
  unfold SortS
  refine List.Pairwise.imp₂ ?_ h1 h2
  intro a b hab hne
  apply Classical.byContradiction
  intro hlt
  simp only [Bool.not_eq_true'] at hab
  refine hne (part_cmpP a b ?_ hab)
  cases hh : ltOf cmpP a b
  · rfl
  · exact absurd hh hlt
theorem ptsAt_inj {ps : List Pt} (hS : Shp ps) {l : List Nat} (hl : ∀ v ∈ l, v < ps.length) (hn : l.Nodup) : (ptsAt ps l).Nodup := by
  unfold ptsAt
  rw [List.nodup_iff_pairwise_ne, List.pairwise_map]
  refine List.Pairwise.imp_of_mem ?_ hn
  intro a b ha hb hne he
  obtain ⟨e, hea⟩ : ∃ e, ps[a]? = some e := ⟨_, List.getElem?_eq_getElem (hl a ha)⟩
  obtain ⟨f, hfb⟩ : ∃ f, ps[b]? = some f := ⟨_, List.getElem?_eq_getElem (hl b hb)⟩
  rw [ptAt_of hea, ptAt_of hfb] at he
  subst he
  exact hne (hS.inj hea hfb)
theorem nameL_mem {nm : List Nat} {q t v : Nat} : v ∈ nameL nm q t ↔ v < t ∧ nm[v]? = some (q + 1) := by
  unfold nameL
  rw [List.mem_filter]
  simp
theorem nameL_pw (nm : List Nat) (q t : Nat) : (nameL nm q t).Pairwise (· < ·) := List.Pairwise.sublist List.filter_sublist List.pairwise_lt_range
theorem ptsAt_sorted {ps : List Pt} (hS : Shp ps) {l : List Nat} (hl : ∀ v ∈ l, v < ps.length) (hp : l.Pairwise (· < ·)) : SortS (ptsAt ps l) := by
  unfold SortS ptsAt
  rw [List.pairwise_map]
  refine List.Pairwise.imp_of_mem ?_ hp
  intro a b ha hb hlt
  obtain ⟨e, hea⟩ : ∃ e, ps[a]? = some e := ⟨_, List.getElem?_eq_getElem (hl a ha)⟩
  obtain ⟨f, hfb⟩ : ∃ f, ps[b]? = some f := ⟨_, List.getElem?_eq_getElem (hl b hb)⟩
  rw [ptAt_of hea, ptAt_of hfb]
  exact hS.sorted a b e f hlt hea hfb
/-- the parts of a shape's points, each in order -/
def partsP (ps : List Pt) : List (List Pt) := (partsN ps).map (ptsAt ps)
theorem rowsQ_parts (ps : List Pt) : rowsQ ps (partsN ps) = (partsP ps).map ptCells := by unfold rowsQ partsP; rw [List.map_map]; rfl
theorem parts_same {ps : List Pt} (hS : Shp ps) : (allP (nbP ps) ps.length ps.length).2.map (fun l => sortP (ptsAt ps l)) = partsP ps := by
  apply List.ext_getElem?
  intro q
  unfold partsP partsN namesL
  rw [List.map_map, List.getElem?_map, List.getElem?_map]
  cases h : (allP (nbP ps) ps.length ps.length).2[q]? with
  | none =>
    have hq := List.getElem?_eq_none_iff.1 h
    rw [List.getElem?_eq_none (by simpa using hq)]
    rfl
  | some l =>
    have hq := (List.getElem?_eq_some_iff.1 h).1
    rw [List.getElem?_range hq]
    obtain ⟨h1, h2, h3⟩ := allP_mem _ q l h
    show some (sortP (ptsAt ps l)) = some (ptsAt ps (nameL (allP (nbP ps) ps.length ps.length).1 q ps.length))
    congr 1
    have hl2 : ∀ v ∈ nameL (allP (nbP ps) ps.length ps.length).1 q ps.length, v < ps.length := fun v hv => (nameL_mem.1 hv).1
    refine SortS.ext (sortP_sorted (ptsAt_inj hS h2 h1)) (ptsAt_sorted hS hl2 (nameL_pw _ _ _)) (fun p => ?_)
    rw [(sortP_perm _).mem_iff]
    unfold ptsAt
    rw [List.mem_map, List.mem_map]
    constructor
    · rintro ⟨v, hv, rfl⟩
      exact ⟨v, nameL_mem.2 ⟨h2 v hv, (h3 v).1 hv⟩, rfl⟩
    · rintro ⟨v, hv, rfl⟩
      exact ⟨v, (h3 v).2 (nameL_mem.1 hv).2, rfl⟩
theorem partsV_parts {ps : List Pt} (hS : Shp ps) : partsV ps (allP (nbP ps) ps.length ps.length).2 = (partsP ps).map ptCells := by
  rw [← parts_same hS]; unfold partsV; rw [List.map_map]; rfl
theorem partsP_len (ps : List Pt) : (partsP ps).length ≤ ps.length := by unfold partsP; rw [List.length_map]; exact partsN_le ps
end Go.Proofs.Ytpnahobgmemdjaa
