import Derived.Test.YtpnahobgmemdjaaGAT
import Derived.Test.YtpnahobgmemdjaaGAH
import Derived.Test.YtpnahobgmemdjaaGAP
import Derived.Test.YtpnahobgmemdjaaGAR
import Derived.Test.YtpnahobgmemdjaaGAS
set_option linter.unusedSimpArgs false
set_option linter.unusedVariables false
/- Walks: the harness' marks on rows of points, what they leave, and what 'held' says of it. -/



namespace Go.Proofs.Ytpnahobgmemdjaa
open Go.RowKit
attribute [local go_sem] BelowBy.cell BelowBy.cell_drew stillUpon givesUpon

theorem rdPts {W : World} {base : Nat} {A : Option Addr} {n c : Nat} {bs : List Pt} (h : W.ownsRow base 34 2 (.slice A n c) n (ptCells bs)) (hn : n = bs.length := by rfl) : RdSl 2 RPt W A n bs := by
  subst hn
  obtain ⟨A', cap, e, h'⟩ := rdPt_of_row h
  injection e with e1 e2 e3
  subst e1
  exact h'
end Go.Proofs.Ytpnahobgmemdjaa
/- Walks: the program's parts of an assembly. -/



namespace Go.Proofs.Ytpnahobgmemdjaa
open Go.RowKit Go.Shelf
attribute [local go_sem] BelowBy.cell BelowBy.cell_drew stillUpon givesUpon

/-- an assembly in form is valid with tiles that have no glues -/
def noTiles : List Ti := List.replicate 160 ⟨⟨#[]⟩, [0, 0, 0, 0]⟩
theorem form_valid {xs : List Pl} (h : hasFormB xs = true) : Valid [] noTiles xs := by
  unfold hasFormB at h
  simp only [Bool.and_eq_true, decide_eq_true_eq] at h
  obtain ⟨hf, h4⟩ := h
  have hpl : ∀ (k : Nat) (e : Pl), xs[k]? = some e → validPt e.x e.y = true ∧ inB e.t 0 159 = true := fun k e he => by
    have := allB_at hf (lt_of_get he)
    unfold okPl at this
    rw [he] at this
    simp only [Bool.and_eq_true] at this
    exact this.1
  have hstep : ∀ (k : Nat) (d e : Pl), xs[k]? = some d → xs[k + 1]? = some e → lessPt d.x d.y e.x e.y = true := fun k d e hd he => by
    have := allB_at hf (lt_of_get he)
    rw [okPl_eqS he hd] at this
    simp only [Bool.and_eq_true] at this
    exact this.2
  have hn : noTiles.length = 160 := by unfold noTiles; exact List.length_replicate
  have ht : ∀ (j : Nat) (t : Ti), noTiles[j]? = some t → t.sides = [0, 0, 0, 0] := fun j t hj => by
    have := List.mem_of_getElem? hj
    unfold noTiles at this
    rw [(List.mem_replicate.1 this).2]
  refine ⟨h4, by simp, by omega, fun k e he => ?_, fun k e he => ?_, ?_, fun j t hj => by rw [ht j t hj]; rfl, fun j t d v hj hd => ?_, fun j g hj => by simp at hj⟩
  · have := (hpl k e he).1
    simp only [validPt, Bool.and_eq_true, inB_true] at this
    exact this
  · have := inB_true.1 (hpl k e he).2
    exact ⟨e.t.toNat, by omega, by omega⟩
  · intro i j d e hij hd he
    induction j generalizing e with
    | zero => omega
    | succ j ih =>
      have hj : j < xs.length := by have := lt_of_get he; omega
      obtain ⟨c, hc⟩ : ∃ c, xs[j]? = some c := ⟨_, List.getElem?_eq_getElem hj⟩
      have h2 := hstep j c e hc he
      rcases Nat.lt_or_ge i j with h | h
      · have h1 := ih c h hc
        rw [lessPt_iff] at h1 h2 ⊢
        omega
      · obtain rfl : i = j := by omega
        rw [hd] at hc
        injection hc with hc
        subst hc
        exact h2
  · rw [ht j t hj] at hd
    have := List.mem_of_getElem? hd
    simp at this
    exact ⟨0, by omega, by omega⟩
theorem form_shp {xs : List Pl} (h : hasFormB xs = true) : Shp (xs.map plPt) := by
  have hV := form_valid h
  refine ⟨fun k e he => ?_, fun i j d e hij hd he => ?_⟩
  · rw [List.getElem?_map, Option.map_eq_some_iff] at he
    obtain ⟨a, ha, rfl⟩ := he
    exact hV.pt k a ha
  · rw [List.getElem?_map, Option.map_eq_some_iff] at hd he
    obtain ⟨a, ha, rfl⟩ := hd
    obtain ⟨b, hb, rfl⟩ := he
    exact hV.sorted i j a b hij ha hb
theorem form_len {xs : List Pl} (h : hasFormB xs = true) : xs.length ≤ 500 := by
  unfold hasFormB at h
  simp only [Bool.and_eq_true, decide_eq_true_eq] at h
  exact h.2
def plAt (xs : List Pl) (v : Nat) : Pl := (xs[v]?).getD ⟨0, 0, 0⟩
theorem plAt_of {xs : List Pl} {v : Nat} {e : Pl} (h : xs[v]? = some e) : plAt xs v = e := by unfold plAt; rw [h]; rfl
/-- the parts of an assembly -/
def partsQ (xs : List Pl) : List (List Pl) := (partsN (xs.map plPt)).map fun l => l.map (plAt xs)
noncomputable def tileOf (xs : List Pl) (p : Pt) : Pl := ⟨p.x, p.y, atI xs p.x p.y⟩
theorem tileOf_at {xs : List Pl} (h : hasFormB xs = true) {v : Nat} (hv : v < xs.length) : tileOf xs (ptAt (xs.map plPt) v) = plAt xs v := by
  obtain ⟨e, he⟩ : ∃ e, xs[v]? = some e := ⟨_, List.getElem?_eq_getElem hv⟩
  rw [plAt_of he, ptAt_of (show (xs.map plPt)[v]? = some (plPt e) by rw [List.getElem?_map, he]; rfl)]
  have hp := IsPlace.eq (form_valid h) (place_found he rfl rfl)
  unfold tileOf plPt
  simp only
  rw [atI_some hp.symm he]
theorem partsQ_tile {xs : List Pl} (h : hasFormB xs = true) : partsQ xs = (partsP (xs.map plPt)).map fun l => l.map (tileOf xs) := by
  unfold partsQ partsP
  rw [List.map_map]
  apply List.map_congr_left
  intro l hl
  obtain ⟨i, hi⟩ := List.mem_iff_getElem?.1 hl
  have hlt := partsN_lt hi
  unfold ptsAt
  show l.map (plAt xs) = (l.map (ptAt (xs.map plPt))).map (tileOf xs)
  rw [List.map_map]
  apply List.map_congr_left
  intro v hv
  have := hlt v hv
  rw [List.length_map] at this
  exact (tileOf_at h this).symm
/-- how the parts lie -/
def plRows (P : List (List Pl)) : List (List Value) := P.map plCells
def PtsQ (w : World) (n : Nat) (l : List Pt) (e : Ending) (w' : World) : Prop :=
  ∃ A c, e = .returned (.slice A n c) ∧ w'.ownsRow w.heap.size 34 2 (.slice A n c) n (ptCells l) ∧ Below w.heap.size w w'
set_option maxRecDepth 100000 in
set_option maxHeartbeats 2000000 in
theorem pointsQ_any {A : Option Addr} {n c : Nat} {xs : List Pl} {w : World} (h : RdSl 3 RPl w A n xs) (hn : n ≤ 100000) :
    Calls Try.prog 32 #[.agg #[.slice A n c]] w (PtsQ w n (xs.map plPt)) := by
  obtain ⟨i0, hi, hz0, hz1, hz2⟩ := info_parts infoPtQ
  have hH := Lib.hid h
  have hl := Lib.hid h.len
  clear h
  go_enter Try.func32, Try.ntmps32
  go_wp2
  go_loopg [9, 3] n (fun g i v wr => ∃ (k : Nat), k + g = n ∧ i = .int .i64 (k : Int) ∧ Hid (wr.ownsRow (w.heap.size + 1) 34 2 v k (ptCells ((xs.map plPt).take k))) ∧ Hid (Below w.heap.size w wr) ∧ w.heap.size + 1 ≤ wr.heap.size)
  case atStart => exact ⟨0, by omega, rfl, Lib.hid (World.ownsRow_nil _ _ _ _), Lib.hid (bl_al (bl_refl _) _), by simp⟩
  case round =>
    obtain ⟨k, hk, rfl, hO, hbw, hsz⟩ := hrel
    have hszl := hbw.out.size
    obtain ⟨A1, c1, rfl⟩ := ownsRow_form hO.out
    by_cases hkn : k < n
    · have hAw := hH.out.below RPl.stable hbw.out
      obtain ⟨bb, ob, rfl, hbb, hbc⟩ := hAw.ptr (by omega)
      obtain ⟨e, he⟩ := hAw.get hkn
      obtain ⟨e0, e1, e2⟩ := hbc k e he
      have htk := Lib.hid (show (xs.map plPt).take (k + 1) = (xs.map plPt).take k ++ [⟨e.x, e.y⟩] by rw [List.take_add_one, List.getElem?_map, he]; rfl)
      clear hbc he hAw
      go_wp2_with (at_builtin; refine wpList_append_own_at _ rfl _ _ 42 rfl (w.heap.size + 1) 34 i0 (.agg #[.int .i64 0, .int .i64 0]) 2 16 Try.underlying42 hi hz0 hz1 hz2 rfl (by decide) (.slice A1 k c1) k (ptCells ((xs.map plPt).take k)) rfl ((hO.out.alloc _).alloc _) ⟨wr.heap.size + 1, 0, none⟩ 1 1 [.int .i64 e.x, .int .i64 e.y] rfl rfl (by have := cell_pt2 (wr.alloc (Obj.cells #[.int .i64 e.x, .int .i64 e.y, .int .i64 e.t] 38)) (.int .i64 e.x) (.int .i64 e.y) 34; simpa using this) (fun x hx => by simp at hx; rcases hx with rfl | rfl <;> rfl) (by unfold maxLen; omega) (by omega) (by simp; omega) ?_; intro v5 w5 hown5 hgrow5 _ hat5; have hown5H := Lib.hid hown5; have hgrow5H := Lib.hid hgrow5; have hs5 : wr.heap.size + 2 ≤ w5.heap.size := (by have := hgrow5.size; simpa using this); clear hown5 hgrow5 hat5)
      go_roundg (n - (k + 1))
      case measure => omega
      case rel =>
        refine ⟨k + 1, by omega, by go_num, Lib.hid ?_, Lib.hid ?_, by omega⟩
        · rw [htk.out, ptCells_snoc]; exact hown5H.out
        · exact ((hbw.out.alloc hszl _).alloc (by simp; omega) _).grown hgrow5H.out (by simp; omega) (fun g e => by have := (hO.out.lt g e).1; omega)
    · obtain rfl : k = n := by omega
      have ht := Lib.hid (show (xs.map plPt).take k = xs.map plPt from List.take_of_length_le (by rw [List.length_map, hl.out]; exact Nat.le_refl _))
      go_wp2
      go_ret
      refine ⟨A1, c1, rfl, ?_, hbw.out⟩
      have := ownsRow_baseQ hO.out (show w.heap.size ≤ w.heap.size + 1 by omega)
      rw [ht.out] at this
      exact this
def PartR (w : World) (m : Nat) (l : List Pl) (e : Ending) (w' : World) : Prop :=
  ∃ A c, e = .returned (.agg #[.slice A m c]) ∧ w'.ownsRow w.heap.size 38 3 (.slice A m c) m (plCells l) ∧ Below w.heap.size w w'
set_option maxRecDepth 100000 in
set_option maxHeartbeats 4000000 in
theorem part_any {A B : Option Addr} {n c m d : Nat} {xs : List Pl} {L : List Pt} {w : World} (h : RdSl 3 RPl w A n xs) (hf : hasFormB xs = true) (hB : RdSl 2 RPt w B m L) (hm : m ≤ 100000) :
    Calls Try.prog 33 #[.agg #[.slice A n c], .slice B m d] w (PartR w m (L.map (tileOf xs))) := by
  obtain ⟨i2, hi2, hz02, hz12, hz22⟩ := info_parts infoPlQ
  have hH := Lib.hid h
  have hBH := Lib.hid hB
  have hl := Lib.hid hB.len
  have hfH := Lib.hid hf
  clear h hB hf
  
  go_enter Try.func33, Try.ntmps33
  go_wp2
  go_loopg [10] m (fun g i wr => ∃ (k : Nat) (A2 : Option Addr) (c2 : Nat), k + g = m ∧ i = .int .i64 (k : Int) ∧ Hid (wr.ownsRow (w.heap.size + 3) 38 3 (.slice A2 k c2) k (plCells ((L.take k).map (tileOf xs)))) ∧ wr.cell? ⟨w.heap.size, 0, none⟩ = some (.slice A n c) ∧ wr.cell? ⟨w.heap.size + 1 + 1, 0, none⟩ = some (.slice A2 k c2) ∧ wr.frozen? ⟨w.heap.size + 1 + 1, 0, none⟩ = false ∧ wr.frozen? ⟨w.heap.size + 1, 0, none⟩ = false ∧ wr.cell? ⟨w.heap.size + 1, 0, none⟩ = some (.slice none 0 0) ∧ w.heap.size + 2 < wr.heap.size ∧ Hid (Below w.heap.size w wr))
  case atStart => exact ⟨0, none, 0, by omega, rfl, Lib.hid (World.ownsRow_nil _ _ _ _), by go_simp, by go_simp, by go_simp, by go_simp, by go_simp, by simp, Lib.hid (by exact bel_)⟩
  case round =>
    obtain ⟨k, A2, c2, hk, rfl, hrow, ha0, hcell, hfro, hfr1, hc1, hsz, hbw⟩ := hrel
    have hszl := hbw.out.size
    by_cases hkn : k < m
    · have hBw := hBH.out.below RPt.stable hbw.out
      obtain ⟨bb, ob, rfl, hbb, hbc⟩ := hBw.ptr (by omega)
      obtain ⟨e, he⟩ := hBw.get hkn
      obtain ⟨e0, e1⟩ := hbc k e he
      have htk := Lib.hid (show (L.take (k + 1)).map (tileOf xs) = (L.take k).map (tileOf xs) ++ [tileOf xs e] by rw [List.take_add_one, he]; simp)
      have hAw := Lib.hid (hH.out.below RPl.stable hbw.out)
      obtain ⟨t, ht⟩ : ∃ t, atI xs e.x e.y = t := ⟨_, rfl⟩
      have hte := Lib.hid (show tileOf xs e = ⟨e.x, e.y, t⟩ by unfold tileOf; rw [ht])
      have htH := Lib.hid ht
      clear hbc he hBw ht
      have hsA : w.heap.size < wr.heap.size := by omega
      have hsB : w.heap.size + 1 < wr.heap.size := by omega
      have hsC : w.heap.size + 1 + 1 < wr.heap.size := by omega
      go_wp2
      refine wp_region_ord [(0, .q), (1, .q), (2, .q), (3, .q), (4, .q), (5, .g), (6, .q), (7, .g), (8, .b), (9, .q), (10, .b)] (by kernel_rfl) (by kernel_rfl) ?_
      simp only [pick, List.filterMap_cons, List.filterMap_nil, List.getElem?_toArray, List.getElem?_cons_zero, List.getElem?_cons_succ, Option.map_some]
      repeat (first
        | ((with_reducible refine wpD_p (fun K hK => ?_)); go_simp; refine hK _ ?_; clear hK K)
        | ((with_reducible refine wpD_q (fun K hK => ?_)); go_simp; (first | refine hK _ ?_ | (go_bits; refine hK _ ?_) | (go_bits; go_simp; refine hK _ ?_)); clear hK K)
        | ((with_reducible refine wpD_g (fun K hK => ?_)); go_simp; refine hK _ _ ?_; clear hK K)
        | ((with_reducible refine wpD_g (fun K hK => ?_)); go_simp; refine ⟨Grew.of_alloc _, hK _ _ ?_⟩; clear hK K)
        | ((with_reducible refine wpD_g (fun K hK => ?_)); go_simp; go_at_call 72; refine (at_at (gs := []) (ts := noTiles) (hAw.out.below RPl.stable (by exact bel_)) (form_valid hfH.out) htH.out).mono ?_; rintro e w1 ⟨rfl, hb1⟩; refine ⟨_, rfl, hb1, hK _ _ ?_⟩; clear hK K; obtain ⟨chb1, fhb1, shb1, thb1⟩ := bcell hb1; (try have bhb10 := shb1 (w.heap.size) (by go_simp)); (try have bhb11 := shb1 (w.heap.size + 1) (by go_simp)); (try have bhb12 := shb1 (w.heap.size + 1 + 1) (by go_simp))))
      have hb1' : Below wr.heap.size wr w1 := by exact bel_
      have hs1 := hb1'.size
      have hb1H := Lib.hid hb1'
      clear hb1'
      refine wpD_append rfl _ _ 24 rfl (w.heap.size + 3) 38 i2 (.agg #[.int .i64 0, .int .i64 0, .int .i64 0]) 3 24 Try.underlying24 hi2 hz02 hz12 hz22 rfl (by decide) (.slice A2 k c2) k (plCells ((L.take k).map (tileOf xs))) (by go_simp) (ownsRow_below (ownsRow_below hrow.out hb1H.out) (by exact bel_)) ⟨w1.heap.size, 0, none⟩ 1 1 [.int .i64 e.x, .int .i64 e.y, .int .i64 t] (by go_simp) rfl ?hnews (fun x hx => by simp at hx; rcases hx with rfl | rfl | rfl <;> rfl) (by unfold maxLen; omega) (by omega) (by simp; omega) ?_
      case hnews =>
        have := cell_three_new w1 (.int .i64 e.x) (.int .i64 e.y) (.int .i64 t) 38
        simpa using this
      intro v5 w5 hown hgrow
      obtain ⟨A5, c5, rfl⟩ := ownsRow_form hown
      have hownH := Lib.hid hown
      have hb6 : Below (w.heap.size + 3) wr w5 := (show Below (w.heap.size + 3) wr (w1.alloc (Obj.cells #[.int .i64 e.x, .int .i64 e.y, .int .i64 t] 38)) from (hb1H.out.mono (by omega)).alloc (by omega) _).grown hgrow (by simp; omega) (fun g e => (hrow.out.lt g e).1)
      have m0 := (hb6.cell (p := ⟨w.heap.size, 0, none⟩) (by simp)).trans ha0
      have m1 := (hb6.cell (p := ⟨w.heap.size + 1, 0, none⟩) (by simp)).trans hc1
      have m1f := (hb6.frozen (p := ⟨w.heap.size + 1, 0, none⟩) (by simp)).trans hfr1
      have m2 := (hb6.cell (p := ⟨w.heap.size + 1 + 1, 0, none⟩) (by simp)).trans hcell
      have mf := (hb6.frozen (p := ⟨w.heap.size + 1 + 1, 0, none⟩) (by simp)).trans hfro
      have m9 : w.heap.size + 1 + 1 < w5.heap.size := by have := hb6.size; omega
      have hB6 := Lib.hid (hbw.out.trans (hb6.mono (by omega)))
      clear hown hgrow hb6
      repeat (first | ((with_reducible refine wpD_p (fun K hK => ?_)); go_simp; refine hK _ ?_; clear hK K) | ((with_reducible refine wpD_q (fun K hK => ?_)); go_simp; (first | refine hK _ ?_ | (go_bits; refine hK _ ?_) | (go_bits; go_simp; refine hK _ ?_)); clear hK K))
      with_reducible refine wpD_b (fun K hK => ?_)
      go_simp
      refine hK _ _ ?_
      clear hK K
      with_reducible refine wpD_nil ?_
      go_wp2
      go_roundg (m - (k + 1))
      case measure => omega
      case rel =>
        refine ⟨k + 1, A5, c5, by omega, by go_num, Lib.hid ?_, by go_simp, by go_simp, by go_simp, by go_simp, by go_simp, by simpa using m9, Lib.hid (hB6.out.setCell (p := ⟨w.heap.size + 1 + 1, 0, none⟩) (by simp; omega) _)⟩
        rw [htk.out, hte.out, plCells_snoc]
        exact ownsRow_setCell_below hownH.out (by show w.heap.size + 1 + 1 < w.heap.size + 3; omega) _
    · obtain rfl : k = m := by omega
      have htk := Lib.hid (show L.take k = L by rw [← hl.out, List.take_length])
      have hsA : w.heap.size < wr.heap.size := by omega
      have hsB : w.heap.size + 1 < wr.heap.size := by omega
      have hsC : w.heap.size + 1 + 1 < wr.heap.size := by omega
      go_wp2
      refine bodyPost_ret (v := .agg #[.slice A2 k c2]) (by simp only [results, Try.results33]; go_simp) rfl ?_
      refine ⟨A2, c2, rfl, ?_, hbw.out.setCell (p := ⟨w.heap.size + 1, 0, none⟩) (by simp) _⟩
      have := ownsRow_setCell_below hrow.out (show (⟨w.heap.size + 1, 0, none⟩ : Addr).block < w.heap.size + 3 from by show w.heap.size + 1 < w.heap.size + 3; omega) (.slice A2 k c2)
      rw [htk.out] at this
      exact ownsRow_baseQ this (by omega)
end Go.Proofs.Ytpnahobgmemdjaa
/- Plain: the blocks of an assembly. -/



namespace Go.Proofs.Ytpnahobgmemdjaa
open Go.RowKit Go.Shelf
attribute [local go_sem] BelowBy.cell BelowBy.cell_drew stillUpon givesUpon

def blkP (k : Int) (e : Pl) : Pt := ⟨e.x / k, e.y / k⟩
def blocksP (k : Int) (xs : List Pl) : List Pt := putAll [] (xs.map (blkP k))
theorem putP_len_le (L : List Pt) (x y : Int) : (putP L x y).length ≤ L.length + 1 := by
  unfold putP
  simp only []
  split <;> simp <;> omega
theorem putAll_len (ps : List Pt) : ∀ L : List Pt, (putAll L ps).length ≤ L.length + ps.length := by
  induction ps with
  | nil => intro L; exact Nat.le_refl _
  | cons p ps ih =>
    intro L
    have := putP_len_le L p.x p.y
    have h2 := ih (putP L p.x p.y)
    simp only [putAll, List.length_cons]
    omega
theorem cell_pt2n (w : World) (a b : Value) (t : TypeId) (m : Nat) (hm : m = w.heap.size) : ∀ j u, [a, b][j]? = some u → (w.alloc (.cells #[a, b] t)).cell? ((⟨m, 0, none⟩ : Addr).add j) = some u := by
  subst hm; exact cell_pt2 w a b t
end Go.Proofs.Ytpnahobgmemdjaa
