import Derived.Test.YtdcndhiidjgmaaaGreatDoorKE
import Derived.Test.YtdcndhiidjgmaaaGreatDoorHTo
import Derived.Test.YtdcndhiidjgmaaaGreatDoorW15
import Derived.Test.YtdcndhiidjgmaaaGreatDoorOrdR
import Derived.Test.YtdcndhiidjgmaaaGreatDoorQ12
import Derived.Test.YtdcndhiidjgmaaaGreatDoorKB
import Derived.Test.YtdcndhiidjgmaaaGreatDoorW17a
set_option linter.unusedSimpArgs false
set_option linter.unusedVariables false
/- Walks: the reference's connected parts, by places. -/




namespace Go.Proofs.YtdcndhiidjgmaaaGreatDoor
open Go.RowKit Go.Shelf
attribute [local go_sem] BelowBy.cell BelowBy.cell_drew stillUpon givesUpon ByR.cell ByR.cell_drew

section
variable {nb : Nat → Nat → Option Nat} {n : Nat}
theorem visS_more {c : Nat} {st : List Nat × List Nat} : ∀ k, ∃ l, (visS nb c st k).1 = st.1 ++ l
  | 0 => ⟨[], by simp [visS]⟩
  | k + 1 => by
    obtain ⟨l, hl⟩ := visS_more (c := c) (st := st) k
    obtain ⟨m, hm⟩ := vis4_grow (nb := nb) (c := c) (st := visS nb c st k) k 4
    exact ⟨l ++ m, by simp only [visS]; rw [hm, hl, List.append_assoc]⟩
theorem allP_rng : ∀ (i v q : Nat), (allP nb n i).1[v]? = some q → q ≤ (allP nb n i).2.length
  | 0, v, q, h => by
    simp only [allP] at h ⊢
    have := List.mem_of_getElem? h
    rw [List.mem_replicate] at this
    omega
  | i + 1, v, q, h => by
    have ih := allP_rng i v
    by_cases h0 : (allP nb n i).1[i]? = some 0
    · obtain ⟨h1, h2⟩ := allP_yes (nb := nb) (n := n) (i := i) rfl rfl h0 rfl
      rw [h1] at h
      rw [h2, List.length_append]
      have hV := (VisInv.start (n := n) (Nat.succ_ne_zero (allP nb n i).2.length) (allP_len nb n i) h0).all (nb := nb) n
      by_cases hm : v ∈ (visS nb ((allP nb n i).2.length + 1) ([i], (allP nb n i).1.set i ((allP nb n i).2.length + 1)) n).1
      · have := hV.is v hm
        rw [h] at this
        injection this with this
        simp; omega
      · rw [hV.other v hm] at h
        have := ih q h
        simp; omega
    · rw [allP_no h0] at h ⊢
      exact ih q h
theorem allP_done : ∀ (i v : Nat), v < i → (allP nb n i).1[v]? ≠ some 0
  | 0, v, h => by omega
  | i + 1, v, h => by
    have ih := allP_done i v
    by_cases h0 : (allP nb n i).1[i]? = some 0
    · obtain ⟨h1, h2⟩ := allP_yes (nb := nb) (n := n) (i := i) rfl rfl h0 rfl
      rw [h1]
      have hV := (VisInv.start (n := n) (Nat.succ_ne_zero (allP nb n i).2.length) (allP_len nb n i) h0).all (nb := nb) n
      by_cases hm : v ∈ (visS nb ((allP nb n i).2.length + 1) ([i], (allP nb n i).1.set i ((allP nb n i).2.length + 1)) n).1
      · rw [hV.is v hm]
        intro hh
        injection hh with hh
        omega
      · rw [hV.other v hm]
        rcases Nat.lt_or_ge v i with hlt | hge
        · exact ih hlt
        · exfalso
          obtain rfl : v = i := by omega
          obtain ⟨l, hl⟩ := visS_more (nb := nb) (c := (allP nb n v).2.length + 1) (st := ([v], (allP nb n v).1.set v ((allP nb n v).2.length + 1))) n
          rw [hl] at hm
          simp at hm
    · rw [allP_no h0]
      rcases Nat.lt_or_ge v i with hlt | hge
      · exact ih hlt
      · obtain rfl : v = i := by omega
        exact h0
theorem allP_named {v : Nat} (hv : v < n) : ∃ q, (allP nb n n).1[v]? = some (q + 1) ∧ q < (allP nb n n).2.length := by
  obtain ⟨q, hq⟩ : ∃ q, (allP nb n n).1[v]? = some q := ⟨_, List.getElem?_eq_getElem (by rw [allP_len]; exact hv)⟩
  have h1 := allP_rng n v q hq
  have h2 := allP_done (nb := nb) (n := n) n v hv
  cases q with
  | zero => exact absurd hq h2
  | succ q => exact ⟨q, hq, by omega⟩
end
theorem vis1_none {ps : List Pt} {c k d u : Nat} {st : List Nat × List Nat} {e : Pt} (hu : st.1[k]? = some u) (he : ps[u]? = some e) (hl : idxP ps (stepX e.x d) (stepY e.y d) = none) : vis1 (nbP ps) c k d st = st := by
  unfold vis1 nbP
  rw [hu]
  simp only [he, hl]
theorem vis1_old {ps : List Pt} {c k d u v q : Nat} {st : List Nat × List Nat} {e : Pt} (hu : st.1[k]? = some u) (he : ps[u]? = some e) (hl : idxP ps (stepX e.x d) (stepY e.y d) = some v) (hv : st.2[v]? = some q) (hq : q ≠ 0) : vis1 (nbP ps) c k d st = st := by
  unfold vis1 nbP
  rw [hu]
  simp only [he, hl, hv, Option.some.injEq, if_neg hq]
theorem vis1_new {ps : List Pt} {c k d u v : Nat} {st : List Nat × List Nat} {e : Pt} (hu : st.1[k]? = some u) (he : ps[u]? = some e) (hl : idxP ps (stepX e.x d) (stepY e.y d) = some v) (hv : st.2[v]? = some 0) : vis1 (nbP ps) c k d st = (st.1 ++ [v], st.2.set v c) := by
  unfold vis1 nbP
  rw [hu]
  simp only [he, hl, hv, if_true]
theorem idxI_some {ps : List Pt} {x y : Int} {v : Nat} (h : idxP ps x y = some v) : idxI ps x y = (v : Int) := by
  unfold idxI; rw [h]
theorem idxI_none {ps : List Pt} {x y : Int} (h : idxP ps x y = none) : idxI ps x y = -1 := by
  unfold idxI; rw [h]
theorem l03IndexS_at {op p : Nat} {xs : List Pl} {ps : List Pt} {x y r : Int} {w : World} (ha : AsmAt w p op xs) (hS : Shp (xs.map plPt)) (h5 : xs.length ≤ 100000) (hps : xs.map plPt = ps) (hr : idxI ps x y = r) :
    Calls Tryz.prog 76 #[.pointer (some ⟨p, op, none⟩), .agg #[.int .i64 x, .int .i64 y]] w fun e w' => e = .returned (.int .i64 r) ∧ Below w.heap.size w w' := by
  rw [← hr, ← hps]; exact l03IndexS_any p xs x y w ha hS h5
def numsV (l : List Nat) : List Value := l.map fun x => Value.int .i64 ((x : Nat) : Int)
theorem numsV_len (l : List Nat) : (numsV l).length = l.length := by simp [numsV]
theorem numsV_snoc (l : List Nat) (x : Nat) : numsV l ++ [Value.int .i64 (x : Int)] = numsV (l ++ [x]) := by simp [numsV]
theorem numsV_get {l : List Nat} {k x : Nat} (h : l[k]? = some x) : (numsV l)[k]? = some (.int .i64 (x : Int)) := by simp [numsV, h]
theorem numsV_set (l : List Nat) (k x : Nat) : (numsV l).set k (.int .i64 (x : Int)) = numsV (l.set k x) := by simp [numsV, List.map_set]
theorem infoRowQ : (Tryz.prog.info? 57).map (fun i => (i.zero, i.size, i.bytes)) = some (some (.slice none 0 0), 1, 24) := by kernel_rfl
def OwnNs (w : World) (gss : List (List Nat)) (e : Ending) (w' : World) : Prop := ∃ v us, e = .returned v ∧ Own2 w' w.heap.size 57 2 1 v us (gss.map numsV) ∧ Below w.heap.size w w'
/-- the places below t with name q + 1 -/
def nameL (nm : List Nat) (q t : Nat) : List Nat := (List.range t).filter fun i => decide (nm[i]? = some (q + 1))
theorem nameL_zero (nm : List Nat) (q : Nat) : nameL nm q 0 = [] := rfl
theorem nameL_yes {nm : List Nat} {q t : Nat} (h : nm[t]? = some (q + 1)) : nameL nm q (t + 1) = nameL nm q t ++ [t] := by
  unfold nameL; rw [List.range_succ, List.filter_append]; simp [h]
theorem nameL_no {nm : List Nat} {q t : Nat} (h : nm[t]? ≠ some (q + 1)) : nameL nm q (t + 1) = nameL nm q t := by
  unfold nameL; rw [List.range_succ, List.filter_append]; simp [h]
theorem nameL_len (nm : List Nat) (q t : Nat) : (nameL nm q t).length ≤ t := by
  have := List.length_filter_le (fun i => decide (nm[i]? = some (q + 1))) (List.range t)
  simpa [nameL] using this
def namesL (nm : List Nat) (c t : Nat) : List (List Nat) := (List.range c).map fun q => nameL nm q t
theorem namesL_get {nm : List Nat} {c t q : Nat} (h : q < c) : (namesL nm c t)[q]? = some (nameL nm q t) := by simp [namesL, h]
theorem namesL_zero (nm : List Nat) (c : Nat) : (namesL nm c 0).map numsV = List.replicate c [] := by
  apply List.ext_getElem?
  intro j
  by_cases hj : j < c
  · rw [List.getElem?_map, namesL_get hj, List.getElem?_replicate, if_pos hj]; simp [nameL, numsV]
  · rw [List.getElem?_eq_none (by simp [namesL]; omega), List.getElem?_eq_none (by simp; omega)]
theorem namesL_succ {nm : List Nat} {c t q : Nat} (h : nm[t]? = some (q + 1)) (hq : q < c) : namesL nm c (t + 1) = (namesL nm c t).set q (nameL nm q t ++ [t]) := by
  apply List.ext_getElem?
  intro j
  rw [List.getElem?_set]
  by_cases hj : j < c
  · rw [namesL_get hj, namesL_get hj]
    by_cases e : q = j
    · subst e
      rw [if_pos rfl, if_pos (by simp [namesL]; omega), nameL_yes h]
    · rw [if_neg e, nameL_no (by rw [h]; intro hh; injection hh with hh; omega)]
  · rw [List.getElem?_eq_none (by simp [namesL]; omega)]
    by_cases e : q = j
    · omega
    · rw [if_neg e, List.getElem?_eq_none (by simp [namesL]; omega)]
/-- the parts as the reference tells them -/
def partsN (ps : List Pt) : List (List Nat) := namesL (allP (nbP ps) ps.length ps.length).1 (allP (nbP ps) ps.length ps.length).2.length ps.length
theorem gby_setCell (w : World) (b o : Nat) (u : Value) : w.grownBy (w.setCell ⟨b, o, none⟩ u) (some b) :=
  ⟨rfl, rfl, rfl, by simp, fun i hi hne => Below.heap_setCell _ _ _ _ (fun e => hne (by rw [e]))⟩
theorem made_zero (n : Nat) : (madeCells #[Value.int .i64 0] n).toList = numsV (List.replicate n 0) := by
  apply List.ext_getElem?
  intro j
  by_cases hj : j < n
  · simp [madeCells, hj, numsV, Nat.mod_one]
  · rw [List.getElem?_eq_none (by rw [Array.length_toList, size_madeCells]; omega), List.getElem?_eq_none (by simp [numsV]; omega)]
theorem Own2.offs {w : World} {base : Nat} {T E : TypeId} {size : Nat} {v : Value} {us : List Value} {rows : List (List Value)} (h : Own2 w base T E size v us rows) {p : Nat} (hp : ∀ g, v.ownBlock = some g → g ≠ p) (hu : ∀ (k : Nat) (u : Value) (g : Nat), us[k]? = some u → u.ownBlock = some g → g ≠ p) (o : Nat) (x : Value) : Own2 (w.setCell ⟨p, o, none⟩ x) base T E size v us rows :=
  h.kept (gby_setCell w p o x) fun g e => by
    injection e with e
    subst e
    exact ⟨fun e' => hp _ e' rfl, fun k u hk e' => hu k u _ hk e' rfl⟩
theorem l01Step_to {x y X Y : Int} {d : Nat} (w : World) (hd : d < 4) (hx : -100 ≤ x ∧ x ≤ 100) (hy : -100 ≤ y ∧ y ≤ 100) (hX : stepX x (d : Nat) = X) (hY : stepY y (d : Nat) = Y) :
    Calls Tryz.prog 51 #[.agg #[.int .i64 x, .int .i64 y], .int .i64 (d : Int)] w fun e w' => e = .returned (.agg #[.int .i64 X, .int .i64 Y]) ∧ Below w.heap.size w w' := by
  rw [← hX, ← hY]
  exact l01Step_any _ _ _ _ ⟨by omega, by omega⟩ ⟨by omega, by omega⟩ ⟨by omega, by omega⟩
set_option maxRecDepth 100000 in
set_option maxHeartbeats 4000000 in
theorem l03Parts_any {pa oa : Nat} (xs : List Pl) (w : World) (ha : AsmAt w pa oa xs) (hS : Shp (xs.map plPt)) (hn : xs.length ≤ 100000) :
    Calls Tryz.prog 68 #[.pointer (some ⟨pa, oa, none⟩)] w (OwnNs w (partsN (xs.map plPt))) := by
  obtain ⟨i0, hi, hz0, hz1, hz2⟩ := info_parts infoRowQ
  obtain ⟨i1, hi', hz0', hz1', hz2'⟩ := info_parts infoI
  have la := ha.lt
  obtain ⟨_, C, n, cc, cq, hR⟩ := id ha
  have hlx := hR.len
  have hmk := fun W => run_makeN (P := Tryz.prog) 57 2 _ 1 8 Tryz.underlying57 infoI n (by omega) (by omega) W
  have hAH := Lib.hid ha
  have hSH := Lib.hid hS
  obtain ⟨ps, hps⟩ : ∃ ps, xs.map plPt = ps := ⟨_, rfl⟩
  have hpsH := Lib.hid hps
  have hlp : Hid (ps.length = n) := Lib.hid (by rw [← hps]; simpa using hlx)
  have hpn : partsN (xs.map plPt) = namesL (allP (nbP ps) n n).1 (allP (nbP ps) n n).2.length n := by unfold partsN; rw [hps, hlp.out]
  rw [hpn]
  clear ha hS hR hps hpn
  go_enter Tryz.func68, Tryz.ntmps68
  go_wp2
  go_loopg [5, 3] n (fun g i v wr => ∃ (j : Nat) (us : List Value), j + g = n ∧ i = .int .i64 (j : Int) ∧ Hid (Own2 wr w.heap.size 57 2 1 v us (List.replicate (allP (nbP ps) n j).2.length [])) ∧ Hid ((∀ g, v.ownBlock = some g → g ≠ w.heap.size + 1) ∧ ∀ (k : Nat) (u : Value) (g : Nat), us[k]? = some u → u.ownBlock = some g → g ≠ w.heap.size + 1) ∧ Hid (wr.ownsRow w.heap.size 2 1 (.slice (some ⟨w.heap.size + 1, 0, none⟩) n n) n (numsV (allP (nbP ps) n j).1)) ∧ Hid (Below w.heap.size w wr))
  case atStart => exact ⟨0, [], by omega, rfl, Lib.hid (Own2.of_empty ((World.ownsRow_made _ _ _ (Nat.le_refl _) (by decide) rfl).alloc _)), Lib.hid ⟨fun g e => by (have e1 : some w.heap.size = some g := e); injection e1 with e1; omega, fun k u g h => by simp at h⟩, Lib.hid (by have := World.ownsRow_lit (base := w.heap.size) (e := 2) (size := 1) (w.alloc (Obj.cells #[] 57)) (madeCells #[Value.int .i64 0] n) n (by simp) (by unfold maxLen; omega) (by rw [size_madeCells, Nat.mul_one]); rw [made_zero] at this; simpa [allP] using this), Lib.hid (bl_al (bl_al (bl_refl _) _) _)⟩
  case round =>
    obtain ⟨j, us, hj, rfl, hO, hof, hN, hbw⟩ := hrel
    have hszl := hbw.out.size
    have cqw := (hbw.out.cell (p := ⟨pa, oa, none⟩) la).trans cq
    have law : pa < wr.heap.size := by omega
    have hcnt := allP_count (nbP ps) n j
    have hul : us.length = (allP (nbP ps) n j).2.length := by rw [hO.out.len]; simp
    have hNl := (hN.out.lt (w.heap.size + 1) rfl).2
    have hulH := Lib.hid hul
    obtain ⟨A0, c0, rfl⟩ := hO.out.form hul
    clear hul
    by_cases hjn : j < n
    · have hnl := Lib.hid (allP_len (nbP ps) n j)
      obtain ⟨nm, hnm⟩ : ∃ nm, (allP (nbP ps) n j).1 = nm := ⟨_, rfl⟩
      obtain ⟨P, hP⟩ : ∃ P, (allP (nbP ps) n j).2 = P := ⟨_, rfl⟩
      obtain ⟨q, hq⟩ : ∃ q, nm[j]? = some q := ⟨_, List.getElem?_eq_getElem (by rw [← hnm, hnl.out]; exact hjn)⟩
      rw [hnm] at hN hnl
      rw [hP] at hO hulH hcnt hof ⊢
      have hnmH := Lib.hid hnm
      have hPH := Lib.hid hP
      have r0 := (hN.out.cellAt j (by omega)).trans (numsV_get hq)
      have hqH := Lib.hid hq
      clear hnm hP hq
      by_cases hq0 : q = 0
      · subst hq0
        have hsO := Lib.hid (fun (g : Nat) (h : Value.ownBlock (.slice A0 P.length c0) = some g) => (hO.out.lt g h).2)
        have hsU := Lib.hid (fun (k : Nat) (u : Value) (g : Nat) (hk : us[k]? = some u) (h : u.ownBlock = some g) => (hO.out.ltIn hk g h).2)
        have hO1 := Lib.hid ((hO.out.alloc (Obj.cells #[] 2)).alloc (Obj.cells #[.slice (some ⟨wr.heap.size, 0, none⟩) 0 0] 57))
        go_wp2_with (at_builtin; refine wpList_append_own_at _ rfl _ _ 102 rfl w.heap.size 57 i0 (.slice none 0 0) 1 24 Tryz.underlying102 hi hz0 hz1 hz2 rfl (by decide) _ P.length us rfl (hO1.out.outerN hulH.out) ⟨wr.heap.size + 1, 0, none⟩ 1 1 [.slice (some ⟨wr.heap.size, 0, none⟩) 0 0] rfl rfl (by have := cell_one_new (wr.alloc (Obj.cells #[] 2)) (.slice (some ⟨wr.heap.size, 0, none⟩) 0 0) 57; simpa using this) (fun x hx => by simp at hx; subst hx; rfl) (by unfold maxLen; omega) (by omega) (by simp; omega) ?_; intro v5 w5 hown5 hgrow5 _ hat5; have hs5 : wr.heap.size + 2 ≤ w5.heap.size := (by have := hgrow5.size; simpa using this); have hN5 := Lib.hid (((hN.out.alloc (Obj.cells #[] 2)).alloc (Obj.cells #[.slice (some ⟨wr.heap.size, 0, none⟩) 0 0] 57)).kept hgrow5 (.inr fun e => hof.out.1 _ e.symm rfl)); have z1 := (hN5.out.cellAt j (by omega)).trans (numsV_get hqH.out); have z2 := hN5.out.frozenAt j; have z3 := (hN5.out.lt (w.heap.size + 1) rfl).2; have hO5 := hO1.out.push hulH.out (x := .slice (some ⟨wr.heap.size, 0, none⟩) 0 0) (n := 0) (r := []) ((World.ownsRow_lit (base := w.heap.size) (e := 2) (size := 1) wr #[] 0 hszl (by decide) rfl).alloc _) (fun g e => by (have e1 : some wr.heap.size = some g := e); injection e1 with e1; subst e1; exact ⟨fun e' => by (have := hsO.out _ e'; omega), fun i u hu e' => by (have := hsU.out i u _ hu e'; omega)⟩) hown5 hgrow5 hat5; have hb5 := Lib.hid (((hbw.out.alloc hszl (Obj.cells #[] 2)).alloc (by simp; omega) (Obj.cells #[.slice (some ⟨wr.heap.size, 0, none⟩) 0 0] 57)).grown hgrow5 (by simp; omega) (fun g e => (hO.out.lt g e).1)); have hof5 := Lib.hid (show (∀ g, v5.ownBlock = some g → g ≠ w.heap.size + 1 ∧ g < w5.heap.size) from fun g e => ⟨fun hh => by (rcases hat5 with h | h; exact hof.out.1 g (h ▸ e) hh; rw [h] at e; injection e with e; simp at e; omega), (hown5.lt g e).2⟩); obtain ⟨A5, c5, rfl⟩ := ownsRow_form hown5; have hO5H := Lib.hid hO5; clear hO5 hown5 hgrow5 hat5)
        have hjl : j < nm.length := by rw [hnl.out]; exact hjn
        have hst := Lib.hid (show (numsV nm).set j (.int .i64 ((P.length : Int) + 1)) = numsV (nm.set j (P.length + 1)) by have := numsV_set nm j (P.length + 1); simpa using this)
        have hN6 := Lib.hid (((hN5.out.stored j (.int .i64 ((P.length : Int) + 1))).1).alloc (Obj.cells #[.int .i64 (j : Int)] 2))
        have hU5 := Lib.hid (show ∀ (k : Nat) (u : Value) (g : Nat), (us ++ [Value.slice (some ⟨wr.heap.size, 0, none⟩) 0 0])[k]? = some u → u.ownBlock = some g → g ≠ w.heap.size + 1 ∧ g < w5.heap.size from fun k u g hk hu => by
          refine ⟨?_, (hO5H.out.ltIn hk g hu).2⟩
          rcases Nat.lt_or_ge k us.length with hlt | hge
          · rw [List.getElem?_append_left hlt] at hk
            exact hof.out.2 k u g hk hu
          · rw [List.getElem?_append_right hge] at hk
            have := (List.getElem?_eq_some_iff.1 hk).1
            simp at this
            have h0 : k - us.length = 0 := by omega
            rw [h0] at hk
            simp at hk
            subst hk
            have e1 : some wr.heap.size = some g := hu
            injection e1 with e1
            omega)
        have hO6 := Lib.hid ((hO5H.out.offs (p := w.heap.size + 1) (fun g e => (hof5.out g e).1) (fun k u g hk hu => (hU5.out k u g hk hu).1) j (.int .i64 ((P.length : Int) + 1))).alloc (Obj.cells #[.int .i64 (j : Int)] 2))
        have hb6 := Lib.hid ((hb5.out.setCell (p := ⟨w.heap.size + 1, j, none⟩) (by simp) (.int .i64 ((P.length : Int) + 1))).alloc (by simp; omega) (Obj.cells #[.int .i64 (j : Int)] 2))
        have hR6 := Lib.hid (World.ownsRow_lit (base := w5.heap.size) (e := 2) (size := 1) (w5.setCell ⟨w.heap.size + 1, j, none⟩ (.int .i64 ((P.length : Int) + 1))) #[.int .i64 (j : Int)] 1 (by simp) (by decide) rfl)
        have hV0 := Lib.hid (VisInv.start (n := n) (c := P.length + 1) (N0 := nm) (i := j) (Nat.succ_ne_zero _) hnl.out hqH.out)
        obtain ⟨st0, hst0⟩ : ∃ st0, (([j], nm.set j (P.length + 1)) : List Nat × List Nat) = st0 := ⟨_, rfl⟩
        rw [hst.out] at hN6
        obtain ⟨W7, hW7⟩ : ∃ W7, (w5.setCell ⟨w.heap.size + 1, j, none⟩ (.int .i64 ((P.length : Int) + 1))).alloc (Obj.cells #[.int .i64 (j : Int)] 2) = W7 := ⟨_, rfl⟩
        have hsW : w5.heap.size + 1 ≤ W7.heap.size := by rw [← hW7]; simp
        rw [hW7] at hN6 hO6 hb6 hR6 ⊢
        have hN7 : Hid (W7.ownsRow w.heap.size 2 1 (.slice (some ⟨w.heap.size + 1, 0, none⟩) n n) n (numsV st0.2)) := Lib.hid (by rw [← hst0]; exact hN6.out)
        have hR7 : Hid (W7.ownsRow w5.heap.size 2 1 (.slice (some ⟨w5.heap.size, 0, none⟩) 1 1) st0.1.length (numsV st0.1)) := Lib.hid (by rw [← hst0]; simpa [numsV] using hR6.out)
        have hst0H := Lib.hid hst0
        rw [hst0] at hV0
        obtain ⟨us5, hus5⟩ : ∃ us5, us ++ [Value.slice (some ⟨wr.heap.size, 0, none⟩) 0 0] = us5 := ⟨_, rfl⟩
        rw [hus5] at hO6 hU5
        have hrep : List.replicate P.length ([] : List Value) ++ [[]] = List.replicate (P.length + 1) [] := (List.replicate_succ').symm
        rw [hrep] at hO6
        obtain ⟨cN, hcN⟩ : ∃ cN, P.length + 1 = cN := ⟨_, rfl⟩
        rw [hcN] at hV0 hO6 hof5 ⊢
        have hccH := Lib.hid hcN
        have hul5 := Lib.hid (show us5.length = cN by rw [← hus5, ← hcN]; simp [hulH.out])
        obtain ⟨s0, hs0⟩ : ∃ s0, w5.heap.size = s0 := ⟨_, rfl⟩
        rw [hs0] at hR7 hof5 hU5 hsW hs5 ⊢
        clear hst0 hN6 hR6 hN5 hO5H hO1 hb5 hO hN hbw hst hus5 hof hsO hsU r0 z1 z2 z3 hcN hrep cqw
        go_loopg [7, 6] n (fun g i v wx => ∃ (q : Nat), q + g = n ∧ i = .int .i64 (q : Int) ∧ Hid (wx.ownsRow s0 2 1 v (visS (nbP ps) cN st0 q).1.length (numsV (visS (nbP ps) cN st0 q).1)) ∧ Hid (wx.ownsRow w.heap.size 2 1 (.slice (some ⟨w.heap.size + 1, 0, none⟩) n n) n (numsV (visS (nbP ps) cN st0 q).2)) ∧ Hid (Own2 wx w.heap.size 57 2 1 (.slice A5 cN c5) us5 (List.replicate cN [])) ∧ Hid (Below w.heap.size w wx) ∧ W7.heap.size ≤ wx.heap.size)
        case atStart => exact ⟨0, by omega, rfl, hR7, hN7, hO6, hb6, by omega⟩
        case round =>
          clear hR7 hN7 hO6 hb6
          obtain ⟨q, hq, rfl, hR, hN, hO, hbx, hsx⟩ := hrel
          have hszx := hbx.out.size
          have hVq := Lib.hid (hV0.out.all (nb := nbP ps) q)
          have hlen := VisInv.length hVq.out
          obtain ⟨st, hst⟩ : ∃ st, visS (nbP ps) cN st0 q = st := ⟨_, rfl⟩
          rw [hst] at hR hN hVq hlen
          have hstH := Lib.hid hst
          clear hst
          obtain ⟨A9, c9, rfl⟩ := ownsRow_form hR.out
          by_cases hqn : q < st.1.length
          · obtain ⟨u, hu⟩ : ∃ u, st.1[q]? = some u := ⟨_, List.getElem?_eq_getElem hqn⟩
            have hun : u < n := hVq.out.lt u (List.mem_of_getElem? hu)
            obtain ⟨eu, heu⟩ : ∃ eu, xs[u]? = some eu := ⟨_, List.getElem?_eq_getElem (by omega)⟩
            have hpu : ps[u]? = some ⟨eu.x, eu.y⟩ := by rw [← hpsH.out]; exact plPt_get heu
            have hptu := (hpsH.out ▸ hSH.out : Shp ps).pt u _ hpu
            simp only at hptu
            have huH := Lib.hid hu
            have heuH := Lib.hid heu
            have hpuH := Lib.hid hpu
            have hj0 : j ∈ st0.1 := by rw [← hst0H.out]; simp
            have hjst : j ∈ st.1 := by
              rw [← hstH.out]
              obtain ⟨l, hl⟩ := visS_more (nb := nbP ps) (c := cN) (st := st0) q
              rw [hl]
              exact List.mem_append_left _ hj0
            have hjstH := Lib.hid hjst
            clear hu heu hpu hj0 hjst
            go_wp2
            go_loopg [8, 6] 4 (fun g i v wy => ∃ (d : Nat), d + g = 4 ∧ i = .int .i64 (d : Int) ∧ Hid (wy.ownsRow s0 2 1 v (vis4 (nbP ps) cN q st d).1.length (numsV (vis4 (nbP ps) cN q st d).1)) ∧ Hid (wy.ownsRow w.heap.size 2 1 (.slice (some ⟨w.heap.size + 1, 0, none⟩) n n) n (numsV (vis4 (nbP ps) cN q st d).2)) ∧ Hid (Own2 wy w.heap.size 57 2 1 (.slice A5 cN c5) us5 (List.replicate cN [])) ∧ Hid (Below w.heap.size w wy) ∧ W7.heap.size ≤ wy.heap.size)
            case atStart => exact ⟨0, by omega, rfl, hR, hN, hO, hbx, hsx⟩
            case round =>
              clear hR hN hO hbx hsx hszx
              obtain ⟨d, hd, rfl, hR, hN, hO, hby, hsy⟩ := hrel
              have hszy := hby.out.size
              have hVd := Lib.hid (hVq.out.four (nb := nbP ps) q d)
              have hlend := VisInv.length hVd.out
              have hud := vis4_at (nb := nbP ps) (c := cN) huH.out d
              have hjd : (vis4 (nbP ps) cN q st d).2[j]? = some cN := by
                obtain ⟨l, hl⟩ := vis4_grow (nb := nbP ps) (c := cN) (st := st) q d
                exact hVd.out.is j (by rw [hl]; exact List.mem_append_left _ hjstH.out)
              have h4 : vis4 (nbP ps) cN q st (d + 1) = vis1 (nbP ps) cN q d (vis4 (nbP ps) cN q st d) := rfl
              have h4' : d = 4 → vis4 (nbP ps) cN q st d = visS (nbP ps) cN st0 (q + 1) := fun e => by subst e; rw [← hstH.out]; rfl
              obtain ⟨sd, hsd⟩ : ∃ sd, vis4 (nbP ps) cN q st d = sd := ⟨_, rfl⟩
              rw [hsd] at hR hN hVd hlend hud h4 h4' hjd
              have h4H := Lib.hid h4
              have h4'H := Lib.hid h4'
              clear hsd h4 h4'
              have hqd : q < sd.1.length := (List.getElem?_eq_some_iff.1 hud).1
              obtain ⟨A9, c9, rfl⟩ := ownsRow_form hR.out
              by_cases hd4 : d < 4
              · have hdI : (d : Int) < 4 := by omega
                obtain ⟨g9, cap9, hv9⟩ : ∃ g9 cap9, Value.slice A9 sd.1.length c9 = .slice (some ⟨g9, 0, none⟩) sd.1.length cap9 := by
                  rcases hR.out.2 with ⟨_, h0⟩ | ⟨g, cap, cur, hv, _⟩
                  · omega
                  · exact ⟨g, cap, hv⟩
                injection hv9 with hv1 hv2 hv3
                subst hv1 hv3
                clear hv2
                have hgl := (hR.out.lt g9 rfl)
                have r0 := (hR.out.cellAt q (by omega)).trans (numsV_get hud)
                have r9 := (hN.out.cellAt j (by omega)).trans (numsV_get hjd)
                have hNl := (hN.out.lt (w.heap.size + 1) rfl).2
                have cqy := (hby.out.cell (p := ⟨pa, oa, none⟩) la).trans cq
                have lay : pa < wr.heap.size := by omega
                obtain ⟨_, C', k', cc', cq', hRx⟩ := hAH.out.below hby.out
                rw [cqy] at cq'
                obtain ⟨rfl, rfl, rfl⟩ : C = C' ∧ n = k' ∧ cc = cc' := by injection cq' with h; injection h with a b c; exact ⟨a, b, c⟩
                obtain ⟨bC, oC, hCe, hbC, hcC⟩ := hRx.ptr (by omega)
                obtain ⟨d0, d1, d2⟩ := hcC u eu heuH.out
                subst hCe
                obtain ⟨sx, hsxe⟩ : ∃ sx, stepX eu.x (d : Nat) = sx := ⟨_, rfl⟩
                obtain ⟨sy, hsye⟩ : ∃ sy, stepY eu.y (d : Nat) = sy := ⟨_, rfl⟩
                have hsxH := Lib.hid hsxe
                have hsyH := Lib.hid hsye
                have hudH := Lib.hid hud
                have hjdH := Lib.hid hjd
                have hAy := Lib.hid (hAH.out.below hby.out)
                clear hsxe hsye hud hjd hcC hRx cq'
                
                cases hix : idxP ps sx sy with
                | none =>
                  have hms := Lib.hid (vis1_none (c := cN) (d := d) hudH.out hpuH.out (by rw [hsxH.out, hsyH.out]; exact hix))
                  have hri := Lib.hid (idxI_none hix)
                  clear hix
                  go_wp2
                  refine wp_region_ord [(0, .q), (1, .q), (2, .q), (3, .q), (4, .q), (5, .q), (6, .q), (7, .q), (8, .q), (9, .q), (10, .q), (11, .q), (12, .q), (13, .g), (14, .g), (15, .q)] (by kernel_rfl) (by kernel_rfl) ?_
                  simp only [pick, List.filterMap_cons, List.filterMap_nil, List.getElem?_toArray, List.getElem?_cons_zero, List.getElem?_cons_succ, Option.map_some]
                  repeat (first
                    | ((with_reducible refine wpD_p (fun K hK => ?_)); go_simp; refine hK _ ?_; clear hK K)
                    | ((with_reducible refine wpD_q (fun K hK => ?_)); go_simp; (first | refine hK _ ?_ | (go_bits; refine hK _ ?_) | (go_bits; go_simp; refine hK _ ?_)); clear hK K)
                    | ((with_reducible refine wpD_g (fun K hK => ?_)); go_simp; refine hK _ _ ?_; clear hK K)
                    | ((with_reducible refine wpD_g (fun K hK => ?_)); go_simp; refine ⟨Grew.of_alloc _, hK _ _ ?_⟩; clear hK K)
                    | ((with_reducible refine wpD_g (fun K hK => ?_)); go_simp; go_at_call 51; refine (l01Step_to _ hd4 ⟨by omega, by omega⟩ ⟨by omega, by omega⟩ hsxH.out hsyH.out).mono ?_; rintro e w1 ⟨rfl, hb1⟩; refine ⟨_, rfl, hb1, hK _ _ ?_⟩; clear hK K; obtain ⟨chb1, fhb1, shb1, thb1⟩ := bcell hb1; (try have bhb10 := shb1 (pa) (by go_simp)))
                    | ((with_reducible refine wpD_g (fun K hK => ?_)); go_simp; go_at_call 76; refine (l03IndexS_at (hAy.out.below (by exact bel_)) hSH.out hn hpsH.out hri.out).mono ?_; rintro e w2 ⟨rfl, hb2⟩; refine ⟨_, rfl, hb2, hK _ _ ?_⟩; clear hK K; obtain ⟨chb2, fhb2, shb2, thb2⟩ := bcell hb2; (try have bhb20 := shb2 (pa) (by go_simp))))
                  with_reducible refine wpD_nil ?_
                  have hb2' : Below wr.heap.size wr w2 := by exact bel_
                  have hb2H := Lib.hid hb2'
                  have hs2 := hb2'.size
                  go_wp2
                  go_roundg (4 - (d + 1))
                  case measure => omega
                  case rel => exact ⟨d + 1, by omega, by go_num, Lib.hid (by rw [h4H.out, hms.out]; exact ownsRow_below hR.out hb2H.out), Lib.hid (by rw [h4H.out, hms.out]; exact ownsRow_below hN.out hb2H.out), Lib.hid (hO.out.below hb2H.out), Lib.hid (hby.out.trans (hb2H.out.mono hszy)), by omega⟩
                | some v =>
                  have hvp := idxP_some hix
                  have hvn : v < n := by rw [← hlp.out]; exact lt_of_get hvp
                  obtain ⟨q', hq'⟩ : ∃ q', sd.2[v]? = some q' := ⟨_, List.getElem?_eq_getElem (by rw [hVd.out.len]; exact hvn)⟩
                  have r2 := (hN.out.cellAt v (by omega)).trans (numsV_get hq')
                  have hri := Lib.hid (idxI_some hix)
                  have hixH := Lib.hid (show idxP ps (stepX eu.x d) (stepY eu.y d) = some v by rw [hsxH.out, hsyH.out]; exact hix)
                  have hq'H := Lib.hid hq'
                  clear hix hvp hq'
                  by_cases hq0 : q' = 0
                  · subst hq0
                    have hvis := Lib.hid (vis1_new (c := cN) (d := d) hudH.out hpuH.out hixH.out hq'H.out)
                    go_wp2
                    refine wp_region_ord [(0, .q), (1, .q), (2, .q), (3, .q), (4, .q), (5, .q), (6, .q), (7, .q), (8, .q), (9, .q), (10, .q), (11, .q), (12, .q), (13, .g), (14, .g), (15, .q)] (by kernel_rfl) (by kernel_rfl) ?_
                    simp only [pick, List.filterMap_cons, List.filterMap_nil, List.getElem?_toArray, List.getElem?_cons_zero, List.getElem?_cons_succ, Option.map_some]
                    repeat (first
                      | ((with_reducible refine wpD_p (fun K hK => ?_)); go_simp; refine hK _ ?_; clear hK K)
                      | ((with_reducible refine wpD_q (fun K hK => ?_)); go_simp; (first | refine hK _ ?_ | (go_bits; refine hK _ ?_) | (go_bits; go_simp; refine hK _ ?_)); clear hK K)
                      | ((with_reducible refine wpD_g (fun K hK => ?_)); go_simp; refine hK _ _ ?_; clear hK K)
                      | ((with_reducible refine wpD_g (fun K hK => ?_)); go_simp; refine ⟨Grew.of_alloc _, hK _ _ ?_⟩; clear hK K)
                      | ((with_reducible refine wpD_g (fun K hK => ?_)); go_simp; go_at_call 51; refine (l01Step_to _ hd4 ⟨by omega, by omega⟩ ⟨by omega, by omega⟩ hsxH.out hsyH.out).mono ?_; rintro e w1 ⟨rfl, hb1⟩; refine ⟨_, rfl, hb1, hK _ _ ?_⟩; clear hK K; obtain ⟨chb1, fhb1, shb1, thb1⟩ := bcell hb1; (try have bhb10 := shb1 (pa) (by go_simp)))
                      | ((with_reducible refine wpD_g (fun K hK => ?_)); go_simp; go_at_call 76; refine (l03IndexS_at (hAy.out.below (by exact bel_)) hSH.out hn hpsH.out hri.out).mono ?_; rintro e w2 ⟨rfl, hb2⟩; refine ⟨_, rfl, hb2, hK _ _ ?_⟩; clear hK K; obtain ⟨chb2, fhb2, shb2, thb2⟩ := bcell hb2; (try have bhb20 := shb2 (pa) (by go_simp))))
                    with_reducible refine wpD_nil ?_
                    have hb2' : Below wr.heap.size wr w2 := by exact bel_
                    have hb2H := Lib.hid hb2'
                    have hs2 := hb2'.size
                    have q2 := (hb2'.cell (p := ⟨w.heap.size + 1, v, none⟩) hNl).trans r2
                    have q9 := (hb2'.cell (p := ⟨w.heap.size + 1, j, none⟩) hNl).trans r9
                    have qf := (hb2'.frozen (p := ⟨w.heap.size + 1, v, none⟩) hNl).trans (hN.out.frozenAt v)
                    have ql : w.heap.size + 1 < w2.heap.size := by omega
                    have hR2 := Lib.hid ((ownsRow_below hR.out hb2').kept (gby_setCell w2 (w.heap.size + 1) v (.int .i64 (cN : Int))) (.inr (by intro e; (have e1 : some g9 = some (w.heap.size + 1) := e); injection e1 with e1; omega)))
                    have hN2 := Lib.hid (((ownsRow_below hN.out hb2').stored v (.int .i64 (cN : Int))).1)
                    have hO2 := Lib.hid ((hO.out.below hb2').offs (p := w.heap.size + 1) (fun g e => (hof5.out g e).1) (fun k u g hk hu => (hU5.out k u g hk hu).1) v (.int .i64 (cN : Int)))
                    have hbs := Lib.hid ((hby.out.trans (hb2'.mono hszy)).setCell (p := ⟨w.heap.size + 1, v, none⟩) (by simp) (.int .i64 (cN : Int)))
                    clear hb2'
                    go_wp2_with (at_builtin; refine wpList_append_own_at _ rfl _ _ 57 rfl s0 2 i1 (.int .i64 0) 1 8 Tryz.underlying57 hi' hz0' hz1' hz2' rfl (by decide) _ sd.1.length (numsV sd.1) rfl (hR2.out.alloc _) ⟨w2.heap.size, 0, none⟩ 1 1 [.int .i64 (v : Int)] rfl rfl (by have := cell_one_new (w2.setCell ⟨w.heap.size + 1, v, none⟩ (.int .i64 (cN : Int))) (.int .i64 (v : Int)) 2; simpa using this) (fun x hx => by simp at hx; subst hx; rfl) (by unfold maxLen; omega) (by omega) (by simp; omega) ?_; intro v5 w8 hown8 hgrow8 _ hat8; have hown8H := Lib.hid hown8; have hgrow8H := Lib.hid hgrow8; clear hown8 hgrow8 hat8)
                    have hs8 : w2.heap.size + 1 ≤ w8.heap.size := by have := hgrow8H.out.size; simpa using this
                    go_roundg (4 - (d + 1))
                    case measure => omega
                    case rel =>
                      refine ⟨d + 1, by omega, by go_num, Lib.hid ?_, Lib.hid ?_, Lib.hid ?_, Lib.hid ((hbs.out.alloc (by simp; omega) _).grown hgrow8H.out (by simp; omega) fun g e => by (have e1 : some g9 = some g := e); injection e1 with e1; omega), by omega⟩
                      · rw [h4H.out, hvis.out]
                        have := hown8H.out
                        rw [numsV_snoc] at this
                        simpa using this
                      · rw [h4H.out, hvis.out]
                        have h1 := hN2.out
                        rw [numsV_set] at h1
                        exact (h1.alloc _).kept hgrow8H.out (.inr (by intro e; (have e1 : some (w.heap.size + 1) = some g9 := e); injection e1 with e1; omega))
                      · refine (hO2.out.alloc _).kept hgrow8H.out fun g e => ?_
                        have e1 : some g9 = some g := e
                        injection e1 with e1
                        subst e1
                        exact ⟨fun e' => by have := (hof5.out _ e').2; omega, fun i u hu e' => by have := (hU5.out i u _ hu e').2; omega⟩
                  · have hms := Lib.hid (vis1_old (c := cN) (d := d) hudH.out hpuH.out hixH.out hq'H.out hq0)
                    have hqd0 : ((q' : Int) == 0) = false := by simp; omega
                    go_wp2
                    refine wp_region_ord [(0, .q), (1, .q), (2, .q), (3, .q), (4, .q), (5, .q), (6, .q), (7, .q), (8, .q), (9, .q), (10, .q), (11, .q), (12, .q), (13, .g), (14, .g), (15, .q)] (by kernel_rfl) (by kernel_rfl) ?_
                    simp only [pick, List.filterMap_cons, List.filterMap_nil, List.getElem?_toArray, List.getElem?_cons_zero, List.getElem?_cons_succ, Option.map_some]
                    repeat (first
                      | ((with_reducible refine wpD_p (fun K hK => ?_)); go_simp; refine hK _ ?_; clear hK K)
                      | ((with_reducible refine wpD_q (fun K hK => ?_)); go_simp; (first | refine hK _ ?_ | (go_bits; refine hK _ ?_) | (go_bits; go_simp; refine hK _ ?_)); clear hK K)
                      | ((with_reducible refine wpD_g (fun K hK => ?_)); go_simp; refine hK _ _ ?_; clear hK K)
                      | ((with_reducible refine wpD_g (fun K hK => ?_)); go_simp; refine ⟨Grew.of_alloc _, hK _ _ ?_⟩; clear hK K)
                      | ((with_reducible refine wpD_g (fun K hK => ?_)); go_simp; go_at_call 51; refine (l01Step_to _ hd4 ⟨by omega, by omega⟩ ⟨by omega, by omega⟩ hsxH.out hsyH.out).mono ?_; rintro e w1 ⟨rfl, hb1⟩; refine ⟨_, rfl, hb1, hK _ _ ?_⟩; clear hK K; obtain ⟨chb1, fhb1, shb1, thb1⟩ := bcell hb1; (try have bhb10 := shb1 (pa) (by go_simp)))
                      | ((with_reducible refine wpD_g (fun K hK => ?_)); go_simp; go_at_call 76; refine (l03IndexS_at (hAy.out.below (by exact bel_)) hSH.out hn hpsH.out hri.out).mono ?_; rintro e w2 ⟨rfl, hb2⟩; refine ⟨_, rfl, hb2, hK _ _ ?_⟩; clear hK K; obtain ⟨chb2, fhb2, shb2, thb2⟩ := bcell hb2; (try have bhb20 := shb2 (pa) (by go_simp))))
                    with_reducible refine wpD_nil ?_
                    have hb2' : Below wr.heap.size wr w2 := by exact bel_
                    have hb2H := Lib.hid hb2'
                    have hs2 := hb2'.size
                    have q2 := (hb2'.cell (p := ⟨w.heap.size + 1, v, none⟩) hNl).trans r2
                    have ql : w.heap.size + 1 < w2.heap.size := by omega
                    clear hb2'
                    go_wp2
                    go_roundg (4 - (d + 1))
                    case measure => omega
                    case rel => exact ⟨d + 1, by omega, by go_num, Lib.hid (by rw [h4H.out, hms.out]; exact ownsRow_below hR.out hb2H.out), Lib.hid (by rw [h4H.out, hms.out]; exact ownsRow_below hN.out hb2H.out), Lib.hid (hO.out.below hb2H.out), Lib.hid (hby.out.trans (hb2H.out.mono hszy)), by omega⟩
              · obtain rfl : d = 4 := by omega
                go_wp2
                go_roundg (n - (q + 1))
                case measure => omega
                case rel =>
                  refine ⟨q + 1, by omega, by go_num, Lib.hid ?_, Lib.hid ?_, hO, hby, hsy⟩
                  · rw [← h4'H.out (by simp)]; exact hR.out
                  · rw [← h4'H.out (by simp)]; exact hN.out
          · have hend := Lib.hid (visS_end hV0.out (nb := nbP ps) (k := q) (by rw [hstH.out]; omega))
            have hyes := Lib.hid (allP_yes (nb := nbP ps) (n := n) (i := j) hnmH.out hPH.out hqH.out (st := st) (by rw [hst0H.out, hccH.out, ← hend.out, hstH.out]))
            go_wp2
            go_roundg (n - (j + 1))
            case measure => omega
            case rel => exact ⟨j + 1, us5, by omega, by go_num, Lib.hid (by rw [hyes.out.2]; simp only [List.length_append, List.length_singleton]; rw [hccH.out]; exact hO.out), Lib.hid ⟨fun g e => (hof5.out g e).1, fun k u g hk hu => (hU5.out k u g hk hu).1⟩, Lib.hid (by rw [hyes.out.1]; exact hN.out), hbx⟩
      · have hqp : (0 : Int) < (q : Int) := by omega
        have hno := Lib.hid (allP_no (nb := nbP ps) (n := n) (i := j) (by rw [hnmH.out, hqH.out]; intro hh; injection hh with hh; exact hq0 hh))
        go_wp2
        go_roundg (n - (j + 1))
        case measure => omega
        case rel => exact ⟨j + 1, us, by omega, by go_num, Lib.hid (by rw [hno.out, hPH.out]; exact hO.out), hof, Lib.hid (by rw [hno.out, hnmH.out]; exact hN.out), hbw⟩
    · obtain rfl : j = n := by omega
      obtain ⟨nm, hnm⟩ : ∃ nm, (allP (nbP ps) j j).1 = nm := ⟨_, rfl⟩
      obtain ⟨P, hP⟩ : ∃ P, (allP (nbP ps) j j).2 = P := ⟨_, rfl⟩
      have hnamed := Lib.hid (fun (v : Nat) (hv : v < j) => (hnm ▸ hP ▸ allP_named (nb := nbP ps) hv : ∃ q, nm[v]? = some (q + 1) ∧ q < P.length))
      rw [hnm] at hN
      rw [hP] at hO hulH hcnt hof
      rw [hnm, hP]
      obtain ⟨cN, hcN⟩ : ∃ cN, P.length = cN := ⟨_, rfl⟩
      rw [hcN] at hO hulH hcnt hof hnamed ⊢
      have hO0 : Hid (Own2 wr w.heap.size 57 2 1 (.slice A0 cN c0) us ((namesL nm cN 0).map numsV)) := Lib.hid (by rw [namesL_zero]; exact hO.out)
      have hEq := Lib.hid (show namesL (allP (nbP ps) j j).1 (allP (nbP ps) j j).2.length j = namesL nm cN j by rw [hnm, hP, hcN])
      clear hnm hP hcN hO
      go_wp2
      go_loopg [10] j (fun g i wy => ∃ (t : Nat) (us : List Value), t + g = j ∧ i = .int .i64 (t : Int) ∧ Hid (Own2 wy w.heap.size 57 2 1 (.slice A0 cN c0) us ((namesL nm cN t).map numsV)) ∧ Hid (∀ (k : Nat) (u : Value) (g : Nat), us[k]? = some u → u.ownBlock = some g → g ≠ w.heap.size + 1) ∧ Hid (us.length = cN) ∧ Hid (wy.ownsRow w.heap.size 2 1 (.slice (some ⟨w.heap.size + 1, 0, none⟩) j j) j (numsV nm)) ∧ Hid (Below w.heap.size w wy))
      case atStart => exact ⟨0, us, by omega, rfl, hO0, Lib.hid hof.out.2, hulH, hN, hbw⟩
      case round =>
        clear hO0 hN hbw hulH hszl cqw law hNl
        have hofv := Lib.hid hof.out.1
        clear hof
        obtain ⟨t, us, ht, rfl, hO, hofu, hul, hN, hbw⟩ := hrel
        have hszl := hbw.out.size
        have hNl := (hN.out.lt (w.heap.size + 1) rfl).2
        by_cases htn : t < j
        · obtain ⟨q, hq, hqc⟩ := hnamed.out t htn
          obtain ⟨g2, cap2, hv⟩ := hO.out.formPos hul.out (by omega)
          injection hv with hv1 hv2 hv3
          subst hv1 hv3
          clear hv2
          have r0 : wr.cell? ⟨w.heap.size + 1, t, none⟩ = some (.int .i64 ((q : Int) + 1)) := by
            have := (hN.out.cellAt t (by omega)).trans (numsV_get hq)
            simpa using this
          have hsucc := Lib.hid (namesL_succ (c := cN) hq hqc)
          obtain ⟨u, hu⟩ : ∃ u, us[q]? = some u := ⟨_, List.getElem?_eq_getElem (by rw [hul.out]; exact hqc)⟩
          obtain ⟨n', r', hr', hown0⟩ := hO.out.get hu
          rw [List.getElem?_map, namesL_get hqc] at hr'
          simp only [Option.map_some, Option.some.injEq] at hr'
          subst hr'
          obtain ⟨A1, cap1, rfl⟩ := ownsRow_form hown0
          have huH := Lib.hid hu
          have hownH := Lib.hid hown0
          have hl' := hown0.1
          rw [numsV_len, Nat.mul_one] at hl'
          have hll : n' ≤ t := by
            rw [← hl']
            exact nameL_len nm q t
          obtain ⟨q1, q2, q3⟩ := hO.out.cellAt hul.out hu
          obtain ⟨rowa, hrowa⟩ : ∃ row, (Value.slice A1 n' cap1).ownBlock = row := ⟨_, rfl⟩
          have r1a : ¬ some (w.heap.size + 1) = rowa := fun h => hofu.out q _ _ huH.out (hrowa.trans h.symm) rfl
          have r2a : ¬ some g2 = rowa := fun h => hO.out.off q _ _ huH.out (hrowa.trans h.symm) rfl
          have hg2 : g2 ≠ w.heap.size + 1 := hofv.out g2 rfl
          clear hq hu hown0 hl'
          go_wp2
          refine wp_region_row (rowa) [(0, .q), (1, .q), (2, .q), (3, .q), (4, .q), (5, .q), (6, .q), (7, .q), (8, .q), (9, .q), (10, .q), (11, .q), (12, .q), (13, .q), (14, .q), (15, .g), (16, .g), (17, .q), (18, .b)] (by kernel_rfl) (by kernel_rfl) ?_
          simp only [pick, List.filterMap_cons, List.filterMap_nil, List.getElem?_toArray, List.getElem?_cons_zero, List.getElem?_cons_succ, Option.map_some]
          repeat (first | ((with_reducible refine wpR_p (fun K hK => ?_)); go_simp; refine hK _ ?_; clear hK K) | ((with_reducible refine wpR_q (fun K hK => ?_)); go_simp; (first | refine hK _ ?_ | (go_bits; refine hK _ ?_) | (go_bits; go_simp; refine hK _ ?_)); clear hK K))
          with_reducible refine wpR_g (fun K hK => ?_)
          go_simp
          refine ⟨GrewR.of_alloc _, hK _ _ ?_⟩
          clear hK K
          have hba : Below wr.heap.size wr (wr.alloc (Obj.cells #[.int .i64 (t : Int)] 2)).drew := by exact bel_
          have hbaH := Lib.hid hba
          clear hba
          refine wpR_append_at rfl _ _ 57 rfl w.heap.size 2 i1 (.int .i64 0) 1 8 Tryz.underlying57 hi' hz0' hz1' hz2' rfl (by decide) (.slice A1 n' cap1) n' (numsV (nameL nm q t)) (by go_simp) (ownsRow_below hownH.out hbaH.out) hrowa ⟨wr.heap.size, 0, none⟩ 1 1 [.int .i64 (t : Int)] (by go_simp) rfl ?hnewsa (fun x hx => by simp at hx; subst hx; rfl) (by unfold maxLen; omega) (by omega) (by simp; omega) ?_
          case hnewsa =>
            have := cell_one_new wr (.int .i64 (t : Int)) 2
            simpa using this
          intro va w3 hown3 hgrow3 hat3
          obtain ⟨A3, cap3, rfl⟩ := ownsRow_form hown3
          obtain ⟨z1, z2, z3, z4⟩ := (hO.out.below hbaH.out).after hul.out huH.out hgrow3
          have hown3H := Lib.hid hown3
          have hgrow3H := Lib.hid hgrow3
          have hat3H := Lib.hid hat3
          have n1 := (World.cell?_of_block (w := (wr.alloc (Obj.cells #[.int .i64 (t : Int)] 2)).drew) (w' := w3) (a := ⟨w.heap.size + 1, t, none⟩) (hgrow3.block (w.heap.size + 1) (by simp; omega) (fun h => r1a (h.trans hrowa))))
          clear hown3 hgrow3 hat3
          repeat (first | ((with_reducible refine wpR_p (fun K hK => ?_)); go_simp; refine hK _ ?_; clear hK K) | ((with_reducible refine wpR_q (fun K hK => ?_)); go_simp; (first | refine hK _ ?_ | (go_bits; refine hK _ ?_) | (go_bits; go_simp; refine hK _ ?_)); clear hK K))
          with_reducible refine wpR_b (fun K hK => ?_)
          go_simp
          refine hK _ _ ?_
          clear hK K
          with_reducible refine wpR_nil ?_
          go_wp2
          go_roundg (j - (t + 1))
          case measure => omega
          case rel =>
            have hF := (hO.out.below hbaH.out).grow hul.out huH.out hown3H.out hgrow3H.out hat3H.out
            refine ⟨t + 1, us.set q (.slice A3 (n' + 1) cap3), by omega, by go_num, Lib.hid ?_, Lib.hid ?_, Lib.hid (by rw [List.length_set]; exact hul.out), Lib.hid ?_, Lib.hid ?_⟩
            · have hrw : ((namesL nm cN t).map numsV).set q (numsV (nameL nm q t) ++ [Value.int .i64 (t : Int)]) = (namesL nm cN (t + 1)).map numsV := by
                rw [hsucc.out, List.map_set, numsV_snoc]
              rw [hrw] at hF
              exact hF
            · intro k u g hk hu e
              by_cases hkq : q = k
              · subst hkq
                rw [List.getElem?_set_self (by rw [hul.out]; exact hqc)] at hk
                injection hk with hk
                subst hk
                rcases hat3H.out with h | h
                · exact hofu.out q _ g huH.out (h ▸ hu) e
                · rw [h] at hu
                  injection hu with hu
                  have := hbaH.out.size
                  omega
              · rw [List.getElem?_set_ne hkq] at hk
                exact hofu.out k u g hk hu e
            · exact (((ownsRow_below hN.out hbaH.out).kept hgrow3H.out (.inr fun h => r1a (h.trans hrowa))).kept (gby_setCell w3 g2 q _) (.inr (by intro e; (have e1 : some (w.heap.size + 1) = some g2 := e); injection e1 with e1; omega)))
            · have h1 : Below w.heap.size w w3 := (hbw.out.trans (hbaH.out.mono hszl)).grown hgrow3H.out (by have := hbaH.out.size; omega) (fun g e => (hownH.out.lt g e).1)
              exact h1.setCell (p := ⟨g2, q, none⟩) z4 _
        · obtain rfl : t = j := by omega
          go_wp2
          go_ret
          exact ⟨.slice A0 cN c0, us, rfl, by rw [hEq.out]; exact hO.out, hbw.out⟩
end Go.Proofs.YtdcndhiidjgmaaaGreatDoor
/- Walks: the reference's ways from a root. -/


namespace Go.Proofs.YtdcndhiidjgmaaaGreatDoor
open Go.RowKit Go.Shelf
attribute [local go_sem] BelowBy.cell BelowBy.cell_drew stillUpon givesUpon

def intsQ (l : List Int) : List Value := l.map (Value.int .i64)
theorem intsQ_len (l : List Int) : (intsQ l).length = l.length := by simp [intsQ]
theorem intsQ_snoc (l : List Int) (x : Int) : intsQ l ++ [Value.int .i64 x] = intsQ (l ++ [x]) := by simp [intsQ]
theorem intsQ_get {l : List Int} {k : Nat} {x : Int} (h : l[k]? = some x) : (intsQ l)[k]? = some (.int .i64 x) := by simp [intsQ, h]
theorem intsQ_set (l : List Int) (k : Nat) (x : Int) : (intsQ l).set k (.int .i64 x) = intsQ (l.set k x) := by simp [intsQ, List.map_set]
theorem intsQ_rep (k : Nat) : intsQ (List.replicate k (-1)) ++ [Value.int .i64 (-1)] = intsQ (List.replicate (k + 1) (-1)) := by
  rw [intsQ_snoc, List.replicate_succ']
def WaysR (w : World) (ps : List Pt) (r : Nat) (e : Ending) (w' : World) : Prop := ∃ (A1 : Option Addr) (c1 : Nat) (A2 : Option Addr) (c2 : Nat), e = .returned (.tuple #[.slice A1 ps.length c1, .slice A2 ps.length c2]) ∧
  w'.ownsRow w.heap.size 2 1 (.slice A1 ps.length c1) ps.length (intsQ (ways (nbP ps) ps.length r).1) ∧ w'.ownsRow w.heap.size 2 1 (.slice A2 ps.length c2) ps.length (intsQ (ways (nbP ps) ps.length r).2) ∧ Below w.heap.size w w'
theorem l22Place_at {A : Option Addr} {n c : Nat} {ps : List Pt} {x y r : Int} {w : World} (h2 : RdSl 2 RPt w A n ps) (hS : Shp ps) (h5 : n ≤ 100000) (hr : idxI ps x y = r) :
    Calls Tryz.prog 50 #[.slice A n c, .agg #[.int .i64 x, .int .i64 y]] w fun e w' => e = .returned (.int .i64 r) ∧ Below w.heap.size w w' := hr ▸ l22Place_any A n c ps x y w h2 hS h5
theorem oppI_back (d : Nat) (hd : d < 4) : oppI (d : Int) = backI d := by
  have : d = 0 ∨ d = 1 ∨ d = 2 ∨ d = 3 := by omega
  rcases this with rfl | rfl | rfl | rfl <;> rfl
theorem Opposite_back (d : Nat) (w : World) (hd : d < 4) : Calls Tryz.prog 52 #[.int .i64 (d : Int)] w fun e w' => e = .returned (.int .i64 (backI d)) ∧ w = w' := by
  rw [← oppI_back d hd]; exact Opposite_any _ _ (by omega)
theorem kept_set {w : World} {base : Nat} {e : TypeId} {size : Nat} {v : Value} {n : Nat} {xs : List Value} (h : w.ownsRow base e size v n xs) (b o : Nat) (u : Value) (hne : v.ownBlock ≠ some b) : (w.setCell ⟨b, o, none⟩ u).ownsRow base e size v n xs :=
  h.kept (gby_setCell w b o u) (.inr hne)
set_option maxRecDepth 100000 in
set_option maxHeartbeats 4000000 in
theorem l22Ways_any (A : Option Addr) (n c : Nat) (ps : List Pt) (r : Nat) (w : World) (hA : RdSl 2 RPt w A n ps) (hS : Shp ps) (hn : n ≤ 100000) (hrn : r < n) :
    Calls Tryz.prog 48 #[.slice A n c, .int .i64 (r : Int)] w (WaysR w ps r) := by
  obtain ⟨i1, hi', hz0', hz1', hz2'⟩ := info_parts infoI
  have hl := hA.len
  have hlH := Lib.hid hl
  have hAH := Lib.hid hA
  have hSH := Lib.hid hS
  clear hA hl hS
  go_enter Tryz.func48, Tryz.ntmps48
  go_wp2
  go_loopg [6, 7, 8] n (fun g v u i wr => ∃ (k : Nat), k + g = n ∧ i = .int .i64 (k : Int) ∧ Hid (wr.ownsRow w.heap.size 2 1 v k (intsQ (List.replicate k (-1)))) ∧ Hid (wr.ownsRow w.heap.size 2 1 u k (intsQ (List.replicate k (-1)))) ∧ Hid (∃ g1 g2, v.ownBlock = some g1 ∧ u.ownBlock = some g2 ∧ g1 ≠ g2) ∧ Hid (Below w.heap.size w wr))
  case atStart => exact ⟨0, by omega, rfl, Lib.hid ((World.ownsRow_made _ _ _ (Nat.le_refl _) (by decide) rfl).alloc _), Lib.hid (by have := World.ownsRow_made (base := w.heap.size) (e := 2) (size := 1) (w.alloc (Obj.cells #[] 2)) #[] 0 (by simp) (by decide) rfl; simpa [intsQ] using this), Lib.hid ⟨w.heap.size, w.heap.size + 1, rfl, rfl, by omega⟩, Lib.hid (bl_al (bl_al (bl_refl _) _) _)⟩
  case round =>
    obtain ⟨k, hk, rfl, hP, hT, hne, hbw⟩ := hrel
    have hszl := hbw.out.size
    obtain ⟨g1, g2, e1, e2, hg⟩ := hne.out
    obtain ⟨A1, c1, rfl⟩ := ownsRow_form hP.out
    obtain ⟨A2, c2, rfl⟩ := ownsRow_form hT.out
    have e1H := Lib.hid e1
    have e2H := Lib.hid e2
    have l1 := hP.out.lt g1 e1
    have l2 := hT.out.lt g2 e2
    clear e1 e2 hne
    by_cases hkn : k < n
    · go_wp2_with (first
        | (at_builtin; (refine wpList_append_own_at _ rfl (.tmp 22) _ 57 rfl w.heap.size 2 i1 (.int .i64 0) 1 8 Tryz.underlying57 hi' hz0' hz1' hz2' rfl (by decide) (.slice A1 k c1) k (intsQ (List.replicate k (-1))) rfl (hP.out.alloc _) ⟨wr.heap.size, 0, none⟩ 1 1 [.int .i64 (-1)] rfl rfl (cell_one_new _ _ _) (fun x hx => by simp at hx; subst hx; rfl) (by unfold maxLen; omega) (by omega) (by simp; omega) ?_; intro v5 w5 hown5 hgrow5 _ hat5; have hs5 : wr.heap.size + 1 ≤ w5.heap.size := (by have := hgrow5.size; simpa using this); have hT5 := Lib.hid ((hT.out.alloc (Obj.cells #[.int .i64 (-1)] 2)).kept hgrow5 (.inr (by rw [e1H.out, e2H.out]; intro e; injection e with e; exact hg e.symm))); have hown5H := Lib.hid hown5; have hgrow5H := Lib.hid hgrow5; have hat5H := Lib.hid hat5; clear hown5 hgrow5 hat5))
        | (at_builtin; refine wpList_append_own_at _ rfl (.tmp 25) _ 57 rfl w.heap.size 2 i1 (.int .i64 0) 1 8 Tryz.underlying57 hi' hz0' hz1' hz2' rfl (by decide) (.slice A2 k c2) k (intsQ (List.replicate k (-1))) rfl (hT5.out.alloc _) ⟨w5.heap.size, 0, none⟩ 1 1 [.int .i64 (-1)] rfl rfl (cell_one_new _ _ _) (fun x hx => by simp at hx; subst hx; rfl) (by unfold maxLen; omega) (by omega) (by simp; omega) ?_; intro v6 w6 hown6 hgrow6 _ hat6; have hown6H := Lib.hid hown6; have hgrow6H := Lib.hid hgrow6; have hat6H := Lib.hid hat6; clear hown6 hgrow6 hat6))
      have hv5 : ∃ g5, v5.ownBlock = some g5 ∧ g5 ≠ g2 ∧ g5 < w5.heap.size := by
        obtain ⟨A5, c5, hv5⟩ := ownsRow_form hown5H.out
        have hl5 : ∃ g5, v5.ownBlock = some g5 := by
          rcases hown5H.out.2 with ⟨_, h0⟩ | ⟨g, cap, cur, hv, _⟩
          · omega
          · exact ⟨g, by rw [hv]; rfl⟩
        obtain ⟨g5, h5⟩ := hl5
        refine ⟨g5, h5, ?_, (hown5H.out.lt g5 h5).2⟩
        rcases hat5H.out with h | h
        · rw [h, e1H.out] at h5; injection h5 with h5; omega
        · rw [h] at h5; injection h5 with h5; simp at h5; omega
      have hv6 : ∃ g6, v6.ownBlock = some g6 ∧ (g6 = g2 ∨ w5.heap.size ≤ g6) := by
        have hl6 : ∃ g6, v6.ownBlock = some g6 := by
          rcases hown6H.out.2 with ⟨_, h0⟩ | ⟨g, cap, cur, hv, _⟩
          · omega
          · exact ⟨g, by rw [hv]; rfl⟩
        obtain ⟨g6, h6⟩ := hl6
        refine ⟨g6, h6, ?_⟩
        rcases hat6H.out with h | h
        · rw [h, e2H.out] at h6; injection h6 with h6; exact .inl h6.symm
        · rw [h] at h6; injection h6 with h6; simp at h6; exact .inr (by omega)
      obtain ⟨g5, h5, h52, h5l⟩ := hv5
      obtain ⟨g6, h6, h6l⟩ := hv6
      go_roundg (n - (k + 1))
      case measure => omega
      case rel =>
        refine ⟨k + 1, by omega, by go_num, Lib.hid ?_, Lib.hid ?_, Lib.hid ⟨g5, g6, h5, h6, by omega⟩, Lib.hid ?_⟩
        · have := (hown5H.out.alloc (Obj.cells #[.int .i64 (-1)] 2)).kept hgrow6H.out (.inr (by rw [h5, e2H.out]; intro e; injection e with e; exact h52 e))
          rw [intsQ_rep] at this
          exact this
        · have := hown6H.out
          rw [intsQ_rep] at this
          exact this
        · have b1 : Below w.heap.size w w5 := (hbw.out.alloc hszl _).grown hgrow5H.out (by simp; omega) (fun q e => by rw [e1H.out] at e; injection e with e; omega)
          exact (b1.alloc (by omega) _).grown hgrow6H.out (by simp; omega) (fun q e => by rw [e2H.out] at e; injection e with e; omega)
    · obtain rfl : k = n := by omega
      obtain ⟨gp, cp, hv1⟩ : ∃ g cap, Value.slice A1 k c1 = .slice (some ⟨g, 0, none⟩) k cap := by
        rcases hP.out.2 with ⟨_, h0⟩ | ⟨g, cap, cur, hv, _⟩
        · omega
        · exact ⟨g, cap, hv⟩
      injection hv1 with ha1 ha2 ha3
      subst ha1 ha3
      obtain ⟨gs, cs, hv2⟩ : ∃ g cap, Value.slice A2 k c2 = .slice (some ⟨g, 0, none⟩) k cap := by
        rcases hT.out.2 with ⟨_, h0⟩ | ⟨g, cap, cur, hv, _⟩
        · omega
        · exact ⟨g, cap, hv⟩
      injection hv2 with ha4 ha5 ha6
      subst ha4 ha6
      obtain rfl : gp = g1 := by have := e1H.out; injection this
      obtain rfl : gs = g2 := by have := e2H.out; injection this
      clear ha2 ha5 e1H e2H
      have hr0 : wr.cell? ⟨gs, r, none⟩ = some (.int .i64 (-1)) := (hT.out.cellAt r (by omega)).trans (intsQ_get (by rw [List.getElem?_replicate, if_pos hrn]))
      have hr1 := hT.out.frozenAt r
      have hr2 := l2.2
      have hrI : (r : Int) < (k : Int) := by omega
      have hI0 := Lib.hid (WayInv.start hrn)
      obtain ⟨st0, hst0⟩ : ∃ st0, way0 k r = st0 := ⟨_, rfl⟩
      have hT6 := Lib.hid (((hT.out.stored r (.int .i64 0)).1).alloc (Obj.cells #[.int .i64 (r : Int)] 2))
      have hP6 := Lib.hid ((kept_set hP.out gs r (.int .i64 0) (by intro e; (have e1 : some gp = some gs := e); injection e1 with e1; omega)).alloc (Obj.cells #[.int .i64 (r : Int)] 2))
      have hR6 := Lib.hid (World.ownsRow_lit (base := wr.heap.size) (e := 2) (size := 1) (wr.setCell ⟨gs, r, none⟩ (.int .i64 0)) #[.int .i64 (r : Int)] 1 (by simp) (by decide) rfl)
      have hb6 := Lib.hid ((hbw.out.setCell (p := ⟨gs, r, none⟩) l2.1 (.int .i64 0)).alloc (by simp; omega) (Obj.cells #[.int .i64 (r : Int)] 2))
      rw [intsQ_set] at hT6
      rw [hst0] at hI0
      have hT7 : Hid (((wr.setCell ⟨gs, r, none⟩ (.int .i64 0)).alloc (Obj.cells #[.int .i64 (r : Int)] 2)).ownsRow w.heap.size 2 1 (.slice (some ⟨gs, 0, none⟩) k c2) k (intsQ st0.2.2)) := Lib.hid (by rw [← hst0]; exact hT6.out)
      have hP7 : Hid (((wr.setCell ⟨gs, r, none⟩ (.int .i64 0)).alloc (Obj.cells #[.int .i64 (r : Int)] 2)).ownsRow w.heap.size 2 1 (.slice (some ⟨gp, 0, none⟩) k c1) k (intsQ st0.2.1)) := Lib.hid (by rw [← hst0]; exact hP6.out)
      have hR7 : Hid (((wr.setCell ⟨gs, r, none⟩ (.int .i64 0)).alloc (Obj.cells #[.int .i64 (r : Int)] 2)).ownsRow wr.heap.size 2 1 (.slice (some ⟨wr.heap.size, 0, none⟩) 1 1) st0.1.length (numsV st0.1)) := Lib.hid (by rw [← hst0]; simpa [numsV, way0] using hR6.out)
      have hst0H := Lib.hid hst0
      clear hT6 hP6 hR6 hT hP hbw hst0
      go_wp2
      obtain ⟨W0, hW0⟩ : ∃ W0 : World, wr = W0 := ⟨_, rfl⟩
      rw [hW0] at hT7 hP7 hR7 hb6 l1 l2 hszl ⊢
      have hss : W0.heap.size = wr.heap.size := by rw [hW0]
      clear hW0 hr0 hr1 hr2
      obtain ⟨s0, hs0⟩ : ∃ s0, W0.heap.size = s0 := ⟨_, rfl⟩
      have hsW : s0 + 1 = ((W0.setCell ⟨gs, r, none⟩ (.int .i64 0)).alloc (Obj.cells #[.int .i64 (r : Int)] 2)).heap.size := by rw [← hs0]; simp
      rw [hs0] at hR7 l1 l2 hszl ⊢
      clear hs0 hss
      obtain ⟨W7, hW7⟩ : ∃ W7, (W0.setCell ⟨gs, r, none⟩ (.int .i64 0)).alloc (Obj.cells #[.int .i64 (r : Int)] 2) = W7 := ⟨_, rfl⟩
      rw [hW7] at hT7 hP7 hR7 hb6 hsW ⊢
      clear hW7
      have hsW' : s0 + 1 ≤ W7.heap.size := by omega
      clear hsW
      go_loopg [10, 9] k (fun g i v wx => ∃ (q : Nat), q + g = k ∧ i = .int .i64 (q : Int) ∧ Hid (wx.ownsRow s0 2 1 v (wayS (nbP ps) st0 q).1.length (numsV (wayS (nbP ps) st0 q).1)) ∧ Hid (wx.ownsRow w.heap.size 2 1 (.slice (some ⟨gp, 0, none⟩) k c1) k (intsQ (wayS (nbP ps) st0 q).2.1)) ∧ Hid (wx.ownsRow w.heap.size 2 1 (.slice (some ⟨gs, 0, none⟩) k c2) k (intsQ (wayS (nbP ps) st0 q).2.2)) ∧ Hid (Below w.heap.size w wx) ∧ s0 ≤ wx.heap.size)
      case atStart => exact ⟨0, by omega, rfl, hR7, hP7, hT7, hb6, by omega⟩
      case round =>
        clear hR7 hP7 hT7 hb6
        obtain ⟨q, hq, rfl, hR, hP, hT, hbx, hsx⟩ := hrel
        have hszx := hbx.out.size
        have hIq := Lib.hid (hI0.out.all (nb := nbP ps) q)
        have hlen := hIq.out.length
        obtain ⟨st, hst⟩ : ∃ st, wayS (nbP ps) st0 q = st := ⟨_, rfl⟩
        rw [hst] at hR hP hT hIq hlen
        have hstH := Lib.hid hst
        clear hst
        obtain ⟨A9, c9, rfl⟩ := ownsRow_form hR.out
        by_cases hqn : q < st.1.length
        · obtain ⟨g9, cap9, hv9⟩ : ∃ g9 cap9, Value.slice A9 st.1.length c9 = .slice (some ⟨g9, 0, none⟩) st.1.length cap9 := by
            rcases hR.out.2 with ⟨_, h0⟩ | ⟨g, cap, cur, hv, _⟩
            · omega
            · exact ⟨g, cap, hv⟩
          injection hv9 with hv1 hv2 hv3
          subst hv1 hv3
          clear hv2
          obtain ⟨u, hu⟩ : ∃ u, st.1[q]? = some u := ⟨_, List.getElem?_eq_getElem hqn⟩
          have hum := List.mem_of_getElem? hu
          have huk : u < k := hIq.out.lt u hum
          obtain ⟨eu, heu⟩ : ∃ eu, ps[u]? = some eu := ⟨_, List.getElem?_eq_getElem (by rw [hlH.out]; exact huk)⟩
          have hptu := hSH.out.pt u eu heu
          have l9 := hR.out.lt g9 rfl
          have r9 := (hR.out.cellAt q (by omega)).trans (numsV_get hu)
          have r9f := hR.out.frozenAt q
          have r9l := l9.2
          have huH := Lib.hid hu
          have heuH := Lib.hid heu
          clear hu heu hum
          go_wp2
          go_loopg [12, 9] 4 (fun g i v wy => ∃ (d : Nat), d + g = 4 ∧ i = .int .i64 (d : Int) ∧ Hid (wy.ownsRow s0 2 1 v (way4 (nbP ps) q st d).1.length (numsV (way4 (nbP ps) q st d).1)) ∧ Hid (wy.ownsRow w.heap.size 2 1 (.slice (some ⟨gp, 0, none⟩) k c1) k (intsQ (way4 (nbP ps) q st d).2.1)) ∧ Hid (wy.ownsRow w.heap.size 2 1 (.slice (some ⟨gs, 0, none⟩) k c2) k (intsQ (way4 (nbP ps) q st d).2.2)) ∧ Hid (Below w.heap.size w wy) ∧ s0 ≤ wy.heap.size)
          case atStart => exact ⟨0, by omega, rfl, hR, hP, hT, hbx, hsx⟩
          case round =>
            clear hR hP hT hbx hsx hszx l9 r9 r9f r9l
            obtain ⟨d, hd, rfl, hR, hP, hT, hby, hsy⟩ := hrel
            have hszy := hby.out.size
            have hId := Lib.hid (hIq.out.four (nb := nbP ps) q d)
            have hlend := hId.out.length
            have hud := way4_at (nb := nbP ps) huH.out d
            have h4 : way4 (nbP ps) q st (d + 1) = way1 (nbP ps) q d (way4 (nbP ps) q st d) := rfl
            have h4' : d = 4 → way4 (nbP ps) q st d = wayS (nbP ps) st0 (q + 1) := fun e => by subst e; rw [← hstH.out]; rfl
            obtain ⟨sd, hsd⟩ : ∃ sd, way4 (nbP ps) q st d = sd := ⟨_, rfl⟩
            rw [hsd] at hR hP hT hId hlend hud h4 h4'
            have h4H := Lib.hid h4
            have h4'H := Lib.hid h4'
            clear hsd h4 h4'
            obtain ⟨A9, c9, rfl⟩ := ownsRow_form hR.out
            by_cases hd4 : d < 4
            · have hdI : (d : Int) < 4 := by omega
              have hum := List.mem_of_getElem? hud
              obtain ⟨s', hsu', hs'0, hs'1⟩ := hId.out.is u hum
              have t9 := (hT.out.cellAt u (by omega)).trans (intsQ_get hsu')
              have tl := (hT.out.lt gs rfl).2
              have pl := (hP.out.lt gp rfl).2
              obtain ⟨sx, hsxe⟩ : ∃ sx, stepX eu.x (d : Nat) = sx := ⟨_, rfl⟩
              obtain ⟨sy, hsye⟩ : ∃ sy, stepY eu.y (d : Nat) = sy := ⟨_, rfl⟩
              have hsr : (-62 ≤ sx ∧ sx ≤ 62) ∧ (-62 ≤ sy ∧ sy ≤ 62) := by
                rw [← hsxe, ← hsye]
                have : d = 0 ∨ d = 1 ∨ d = 2 ∨ d = 3 := by omega
                rcases this with rfl | rfl | rfl | rfl <;> simp [stepX, stepY] <;> omega
              have hsxH := Lib.hid hsxe
              have hsyH := Lib.hid hsye
              have hudH := Lib.hid hud
              have hsu'H := Lib.hid hsu'
              have hAy := hAH.out.below RPt.stable hby.out
              obtain ⟨bb, ob, rfl, hbb, hbc⟩ := hAy.ptr (by omega)
              obtain ⟨e0, e1⟩ := hbc u eu heuH.out
              have hAyH := Lib.hid hAy
              have uI : (u : Int) < (k : Int) := by omega
              clear hsxe hsye hud hsu' hum hbc hAy
              cases hix : idxP ps sx sy with
              | none =>
                have hms := Lib.hid (way1_none (d := d) hudH.out heuH.out (by rw [hsxH.out, hsyH.out]; exact hix))
                have hri := Lib.hid (idxI_none hix)
                clear hix
                go_wp2_with (first
                  | (go_at_call 51; refine (l01Step_to _ hd4 ⟨by omega, by omega⟩ ⟨by omega, by omega⟩ hsxH.out hsyH.out).mono ?_; rintro e' w1 ⟨rfl, hb1⟩; obtain ⟨c1, f1, s1, t1⟩ := bcell hb1; have hs1 := hb1.size; have hb1H := Lib.hid hb1; clear hb1)
                  | (go_at_call 50; refine (l22Place_at (ps := ps) (hAyH.out.below RPt.stable hb1H.out) hSH.out hn hri.out).mono ?_; rintro e' w2 ⟨rfl, hb2⟩; obtain ⟨c2, f2, s2, t2⟩ := bcell hb2; have hs2 := hb2.size; have hb2H := Lib.hid hb2; clear hb2))
                have hb3H : Hid (Below wr.heap.size wr w2) := Lib.hid ((hb1H.out).trans (hb2H.out.mono hs1))
                go_roundg (4 - (d + 1))
                case measure => omega
                case rel => exact ⟨d + 1, by omega, by go_num, Lib.hid (by rw [h4H.out, hms.out]; exact ownsRow_below hR.out hb3H.out), Lib.hid (by rw [h4H.out, hms.out]; exact ownsRow_below hP.out hb3H.out), Lib.hid (by rw [h4H.out, hms.out]; exact ownsRow_below hT.out hb3H.out), Lib.hid (hby.out.trans (hb3H.out.mono hszy)), by omega⟩
              | some v =>
                have hvp := idxP_some hix
                have hvn : v < k := by rw [← hlH.out]; exact lt_of_get hvp
                have hixH := Lib.hid (show idxP ps (stepX eu.x d) (stepY eu.y d) = some v by rw [hsxH.out, hsyH.out]; exact hix)
                have hri := Lib.hid (idxI_some hix)
                clear hvp hix
                have vI : (v : Int) < (k : Int) := by omega
                have vI0 : (0 : Int) ≤ (v : Int) := by omega
                by_cases hvm : v ∈ sd.1
                · obtain ⟨sv, hsv, hsv0, hsv1⟩ := hId.out.is v hvm
                  have r2 := (hT.out.cellAt v (by omega)).trans (intsQ_get hsv)
                  have hms := Lib.hid (way1_old (d := d) hudH.out heuH.out hixH.out hsv (by omega))
                  clear hsv hvm
                  go_wp2_with (first
                    | (go_at_call 51; refine (l01Step_to _ hd4 ⟨by omega, by omega⟩ ⟨by omega, by omega⟩ hsxH.out hsyH.out).mono ?_; rintro e' w1 ⟨rfl, hb1⟩; obtain ⟨c1, f1, s1, t1⟩ := bcell hb1; have hs1 := hb1.size; have hb1H := Lib.hid hb1; clear hb1)
                    | (go_at_call 50; refine (l22Place_at (ps := ps) (hAyH.out.below RPt.stable hb1H.out) hSH.out hn hri.out).mono ?_; rintro e' w2 ⟨rfl, hb2⟩; have hb3 := hb1H.out.trans (hb2.mono hs1); have q2 := (hb3.cell (p := ⟨gs, v, none⟩) tl).trans r2; have ql : gs < w2.heap.size := Nat.lt_of_lt_of_le tl hb3.size; have hb3H := Lib.hid hb3; clear hb2 hb3))
                  have hs3 := hb3H.out.size
                  go_roundg (4 - (d + 1))
                  case measure => omega
                  case rel => exact ⟨d + 1, by omega, by go_num, Lib.hid (by rw [h4H.out, hms.out]; exact ownsRow_below hR.out hb3H.out), Lib.hid (by rw [h4H.out, hms.out]; exact ownsRow_below hP.out hb3H.out), Lib.hid (by rw [h4H.out, hms.out]; exact ownsRow_below hT.out hb3H.out), Lib.hid (hby.out.trans (hb3H.out.mono hszy)), by omega⟩
                · have hv1 := (hId.out.other v hvn hvm).1
                  have hv2 := (hId.out.other v hvn hvm).2
                  have hms := Lib.hid (way1_new (d := d) hudH.out heuH.out hixH.out hv1 hsu'H.out)
                  have r2 := (hT.out.cellAt v (by omega)).trans (intsQ_get hv1)
                  have r3 := (hP.out.cellAt v (by omega)).trans (intsQ_get hv2)
                  obtain ⟨g9, cap9, hv9⟩ : ∃ g9 cap9, Value.slice A9 sd.1.length c9 = .slice (some ⟨g9, 0, none⟩) sd.1.length cap9 := by
                    rcases hR.out.2 with ⟨_, h0⟩ | ⟨g, cap, cur, hv, _⟩
                    · have := (List.getElem?_eq_some_iff.1 hudH.out).1
                      omega
                    · exact ⟨g, cap, hv⟩
                  injection hv9 with hw1 hw2 hw3
                  subst hw1 hw3
                  clear hw2
                  have l9 := hR.out.lt g9 rfl
                  have hvmH := Lib.hid hvm
                  have fT := hT.out.frozenAt v
                  have fP := hP.out.frozenAt v
                  clear hv1 hv2 hvm
                  go_wp2_with (first
                    | (go_at_call 51; refine (l01Step_to _ hd4 ⟨by omega, by omega⟩ ⟨by omega, by omega⟩ hsxH.out hsyH.out).mono ?_; rintro e' w1 ⟨rfl, hb1⟩; obtain ⟨c1, f1, s1, t1⟩ := bcell hb1; have hs1 := hb1.size; have hb1H := Lib.hid hb1; clear hb1)
                    | (go_at_call 50; refine (l22Place_at (ps := ps) (hAyH.out.below RPt.stable hb1H.out) hSH.out hn hri.out).mono ?_; rintro e' w2 ⟨rfl, hb2⟩; have hb3 := hb1H.out.trans (hb2.mono hs1); have q2 := (hb3.cell (p := ⟨gs, v, none⟩) tl).trans r2; have q9 := (hb3.cell (p := ⟨gs, u, none⟩) tl).trans t9; have qf := (hb3.frozen (p := ⟨gs, v, none⟩) tl).trans fT; have ql : gs < w2.heap.size := Nat.lt_of_lt_of_le tl hb3.size; have q3 := (hb3.cell (p := ⟨gp, v, none⟩) pl).trans r3; have qf3 := (hb3.frozen (p := ⟨gp, v, none⟩) pl).trans fP; have ql3 : gp < w2.heap.size := Nat.lt_of_lt_of_le pl hb3.size; have hs3 := hb3.size; have hT4 := Lib.hid (kept_set ((ownsRow_below hT.out hb3).stored v (.int .i64 (s' + 1))).1 gp v (.int .i64 (backI d)) (by intro e; (have e1 : some gs = some gp := e); injection e1 with e1; exact hg e1.symm)); have hP4 := Lib.hid (((kept_set (ownsRow_below hP.out hb3) gs v (.int .i64 (s' + 1)) (by intro e; (have e1 : some gp = some gs := e); injection e1 with e1; exact hg e1)).stored v (.int .i64 (backI d))).1); have hR4 := Lib.hid (kept_set (kept_set (ownsRow_below hR.out hb3) gs v (.int .i64 (s' + 1)) (by intro e; (have e1 : some g9 = some gs := e); injection e1 with e1; omega)) gp v (.int .i64 (backI d)) (by intro e; (have e1 : some g9 = some gp := e); injection e1 with e1; omega)); have hb4 := Lib.hid (((hby.out.trans (hb3.mono hszy)).setCell (p := ⟨gs, v, none⟩) l2.1 (.int .i64 (s' + 1))).setCell (p := ⟨gp, v, none⟩) l1.1 (.int .i64 (backI d))); have hb3H := Lib.hid hb3; clear hb2 hb3)
                    | (go_at_call 52; refine (Opposite_back _ _ hd4).mono ?_; rintro e' _ ⟨rfl, rfl⟩)
                    | (at_builtin; refine wpList_append_own_at _ rfl _ _ 57 rfl s0 2 i1 (.int .i64 0) 1 8 Tryz.underlying57 hi' hz0' hz1' hz2' rfl (by decide) (.slice (some ⟨g9, 0, none⟩) sd.1.length c9) sd.1.length (numsV sd.1) rfl (hR4.out.alloc _) ⟨w2.heap.size, 0, none⟩ 1 1 [.int .i64 (v : Int)] rfl rfl (by have := cell_one_new ((w2.setCell ⟨gs, v, none⟩ (.int .i64 (s' + 1))).setCell ⟨gp, v, none⟩ (.int .i64 (backI d))) (.int .i64 (v : Int)) 2; simpa using this) (fun x hx => by simp at hx; subst hx; rfl) (by unfold maxLen; omega) (by omega) (by simp; omega) ?_; intro v5 w8 hown8 hgrow8 _ hat8; have hown8H := Lib.hid hown8; have hgrow8H := Lib.hid hgrow8; clear hown8 hgrow8 hat8))
                  have hs8 : w2.heap.size + 1 ≤ w8.heap.size := by have := hgrow8H.out.size; simpa using this
                  go_roundg (4 - (d + 1))
                  case measure => omega
                  case rel =>
                    refine ⟨d + 1, by omega, by go_num, Lib.hid ?_, Lib.hid ?_, Lib.hid ?_, Lib.hid ((hb4.out.alloc (by simp; omega) _).grown hgrow8H.out (by simp; omega) fun g e => by (have e1 : some g9 = some g := e); injection e1 with e1; omega), by omega⟩
                    · rw [h4H.out, hms.out]
                      have := hown8H.out
                      rw [numsV_snoc] at this
                      simpa using this
                    · rw [h4H.out, hms.out]
                      have h1 := hP4.out
                      rw [intsQ_set] at h1
                      exact (h1.alloc _).kept hgrow8H.out (.inr (by intro e; (have e1 : some gp = some g9 := e); injection e1 with e1; omega))
                    · rw [h4H.out, hms.out]
                      have h1 := hT4.out
                      rw [intsQ_set] at h1
                      exact (h1.alloc _).kept hgrow8H.out (.inr (by intro e; (have e1 : some gs = some g9 := e); injection e1 with e1; omega))
            · obtain rfl : d = 4 := by omega
              go_wp2
              go_roundg (k - (q + 1))
              case measure => omega
              case rel =>
                refine ⟨q + 1, by omega, by go_num, Lib.hid ?_, Lib.hid ?_, Lib.hid ?_, hby, hsy⟩
                · rw [← h4'H.out (by simp)]; exact hR.out
                · rw [← h4'H.out (by simp)]; exact hP.out
                · rw [← h4'H.out (by simp)]; exact hT.out
        · have hend := Lib.hid (wayS_end hI0.out (nb := nbP ps) (k := q) (by rw [hstH.out]; omega))
          go_wp2
          go_ret2
          refine ⟨some ⟨gp, 0, none⟩, c1, some ⟨gs, 0, none⟩, c2, by rw [hlH.out]; rfl, ?_, ?_, hbx.out⟩
          · rw [hlH.out]
            unfold ways
            rw [hst0H.out, ← hend.out, hstH.out]
            exact hP.out
          · rw [hlH.out]
            unfold ways
            rw [hst0H.out, ← hend.out, hstH.out]
            exact hT.out
end Go.Proofs.YtdcndhiidjgmaaaGreatDoor
/- Walks: the reference's connected parts of points. -/



namespace Go.Proofs.YtdcndhiidjgmaaaGreatDoor
open Go.RowKit Go.Shelf
attribute [local go_sem] BelowBy.cell BelowBy.cell_drew stillUpon givesUpon

def pl0 (e : Pt) : Pl := ⟨e.x, e.y, 0⟩
theorem pl0_pt (ps : List Pt) : (ps.map pl0).map plPt = ps := by
  rw [List.map_map]
  have : (plPt ∘ pl0) = id := by funext e; rfl
  rw [this, List.map_id]
theorem infoPlQ : (Tryz.prog.info? 72).map (fun i => (i.zero, i.size, i.bytes)) = some (some (.agg #[.int .i64 0, .int .i64 0, .int .i64 0]), 3, 24) := by kernel_rfl
theorem nameL_lt {nm : List Nat} {q t v : Nat} (h : v ∈ nameL nm q t) : v < t := by
  unfold nameL at h
  have := (List.mem_filter.1 h).1
  simpa using this
theorem partsN_len (ps : List Pt) : (partsN ps).length = (allP (nbP ps) ps.length ps.length).2.length := by simp [partsN, namesL]
theorem partsN_le (ps : List Pt) : (partsN ps).length ≤ ps.length := by rw [partsN_len]; exact allP_count _ _ _
theorem partsN_lt {ps : List Pt} {i : Nat} {l : List Nat} (h : (partsN ps)[i]? = some l) : ∀ v ∈ l, v < ps.length := by
  intro v hv
  have := List.mem_of_getElem? h
  unfold partsN namesL at this
  rw [List.mem_map] at this
  obtain ⟨q, _, rfl⟩ := this
  exact nameL_lt hv
theorem partsN_each {ps : List Pt} {i : Nat} {l : List Nat} (h : (partsN ps)[i]? = some l) : l.length ≤ ps.length := by
  have := List.mem_of_getElem? h
  unfold partsN namesL at this
  rw [List.mem_map] at this
  obtain ⟨q, _, rfl⟩ := this
  exact nameL_len _ _ _
def rowsQ (ps : List Pt) (P : List (List Nat)) : List (List Value) := P.map fun l => ptCells (ptsAt ps l)
set_option maxRecDepth 100000 in
set_option maxHeartbeats 4000000 in
theorem l04Parts_any (A : Option Addr) (n c : Nat) (ps : List Pt) (w : World) (hA : RdSl 2 RPt w A n ps) (hS : Shp ps) (hn : n ≤ 100000) :
    Calls Tryz.prog 46 #[.slice A n c] w (OwnPs w (rowsQ ps (partsN ps))) := by
  obtain ⟨i0, hi, hz0, hz1, hz2⟩ := info_parts infoPtQ
  obtain ⟨i1, hi', hz0', hz1', hz2'⟩ := info_parts infoPtsQ
  obtain ⟨i2, hi2, hz02, hz12, hz22⟩ := info_parts infoPlQ
  have hl := hA.len
  have hlH := Lib.hid hl
  have hAH := Lib.hid hA
  have hSH := Lib.hid hS
  clear hA hl hS
  go_enter Tryz.func46, Tryz.ntmps46
  go_wp2
  go_loopg [4] n (fun g i wr => ∃ (k : Nat) (A2 : Option Addr) (c2 : Nat), k + g = n ∧ i = .int .i64 (k : Int) ∧ Hid (wr.ownsRow (w.heap.size + 1) 72 3 (.slice A2 k c2) k (plCells ((ps.take k).map pl0))) ∧ wr.cell? ⟨w.heap.size, 0, none⟩ = some (.slice A2 k c2) ∧ wr.frozen? ⟨w.heap.size, 0, none⟩ = false ∧ w.heap.size < wr.heap.size ∧ Hid (Below w.heap.size w wr))
  case atStart => exact ⟨0, none, 0, by omega, rfl, Lib.hid (World.ownsRow_nil _ _ _ _), by go_simp, by go_simp, by simp, Lib.hid (by exact bel_)⟩
  case round =>
    obtain ⟨k, A2, c2, hk, rfl, hrow, hcell, hfro, hsz, hbw⟩ := hrel
    have hszl := hbw.out.size
    by_cases hkn : k < n
    · have hAw := hAH.out.below RPt.stable hbw.out
      obtain ⟨bb, ob, rfl, hbb, hbc⟩ := hAw.ptr (by omega)
      obtain ⟨e, he⟩ := hAw.get hkn
      obtain ⟨e0, e1⟩ := hbc k e he
      have htk := Lib.hid (show (ps.take (k + 1)).map pl0 = (ps.take k).map pl0 ++ [pl0 e] by rw [List.take_add_one, he]; simp)
      clear hbc he hAw
      have hkl : ((ps.take k).map pl0).length = k := by rw [List.length_map, List.length_take, hlH.out]; omega
      go_wp2
      refine wp_region_ord [(0, .q), (1, .q), (2, .q), (3, .q), (4, .q), (5, .q), (6, .q), (7, .g), (8, .b), (9, .q), (10, .b)] (by kernel_rfl) (by kernel_rfl) ?_
      simp only [pick, List.filterMap_cons, List.filterMap_nil, List.getElem?_toArray, List.getElem?_cons_zero, List.getElem?_cons_succ, Option.map_some]
      repeat (first
        | ((with_reducible refine wpD_p (fun K hK => ?_)); go_simp; refine hK _ ?_; clear hK K)
        | ((with_reducible refine wpD_q (fun K hK => ?_)); go_simp; (first | refine hK _ ?_ | (go_bits; refine hK _ ?_) | (go_bits; go_simp; refine hK _ ?_)); clear hK K)
        | ((with_reducible refine wpD_g (fun K hK => ?_)); go_simp; refine hK _ _ ?_; clear hK K)
        | ((with_reducible refine wpD_g (fun K hK => ?_)); go_simp; refine ⟨Grew.of_alloc _, hK _ _ ?_⟩; clear hK K))
      have hb5 : Below wr.heap.size wr (wr.alloc (Obj.cells #[.int .i64 e.x, .int .i64 e.y, .int .i64 0] 72)).drew := by exact bel_
      have hb5H := Lib.hid hb5
      have s5 := hb5.size
      have hrow5 := Lib.hid (ownsRow_below hrow.out hb5)
      clear hb5
      refine wpD_append rfl _ _ 28 rfl (w.heap.size + 1) 72 i2 (.agg #[.int .i64 0, .int .i64 0, .int .i64 0]) 3 24 Tryz.underlying28 hi2 hz02 hz12 hz22 rfl (by decide) (.slice A2 k c2) k (plCells ((ps.take k).map pl0)) (by go_simp) hrow5.out ⟨wr.heap.size, 0, none⟩ 1 1 [.int .i64 e.x, .int .i64 e.y, .int .i64 0] (by go_simp) rfl ?hnews (fun x hx => by simp at hx; rcases hx with rfl | rfl | rfl <;> rfl) (by unfold maxLen; omega) (by omega) (by simp; omega) ?_
      case hnews =>
        have := cell_three_new wr (.int .i64 e.x) (.int .i64 e.y) (.int .i64 0) 72
        simpa using this
      intro v5 w5 hown hgrow
      obtain ⟨A5, c5, rfl⟩ := ownsRow_form hown
      have hownH := Lib.hid hown
      have hb6 : Below (w.heap.size + 1) wr w5 := (hb5H.out.mono (by omega)).grown hgrow (by omega) (fun g e => (hrow5.out.lt g e).1)
      have m2 := (hb6.cell (p := ⟨w.heap.size, 0, none⟩) (Nat.lt_succ_self _)).trans hcell
      have mf := (hb6.frozen (p := ⟨w.heap.size, 0, none⟩) (Nat.lt_succ_self _)).trans hfro
      have m9 : w.heap.size < w5.heap.size := Nat.lt_of_lt_of_le hsz hb6.size
      have hB6 := Lib.hid (hbw.out.trans (hb6.mono (Nat.le_succ _)))
      clear hown hgrow hb6
      repeat (first | ((with_reducible refine wpD_p (fun K hK => ?_)); go_simp; refine hK _ ?_; clear hK K) | ((with_reducible refine wpD_q (fun K hK => ?_)); go_simp; (first | refine hK _ ?_ | (go_bits; refine hK _ ?_) | (go_bits; go_simp; refine hK _ ?_)); clear hK K))
      with_reducible refine wpD_b (fun K hK => ?_)
      go_simp
      refine hK _ _ ?_
      clear hK K
      with_reducible refine wpD_nil ?_
      go_wp2
      go_roundg (n - (k + 1))
      case measure => omega
      case rel =>
        refine ⟨k + 1, A5, c5, by omega, by go_num, Lib.hid ?_, by go_simp, by go_simp, by simpa using m9, Lib.hid (hB6.out.setCell (p := ⟨w.heap.size, 0, none⟩) (Nat.le_refl _) _)⟩
        rw [htk.out, plCells_snoc]
        exact ownsRow_setCell_below hownH.out (Nat.lt_succ_self _) _
    · obtain rfl : k = n := by omega
      obtain ⟨xs, hxs⟩ : ∃ xs, ps.map pl0 = xs := ⟨_, rfl⟩
      have hxl : xs.length = k := by rw [← hxs]; simpa using hlH.out
      have hpp : xs.map plPt = ps := by rw [← hxs]; exact pl0_pt ps
      have htk : (ps.take k).map pl0 = xs := by rw [← hxs, ← hlH.out, List.take_length]
      rw [htk] at hrow
      have hrd : wr.ownsRow (w.heap.size + 1) 72 3 (.slice A2 k c2) xs.length (plCells xs) := by rw [hxl]; exact hrow.out
      obtain ⟨A', cap', e', hrd'⟩ := rdP_of_row hrd
      injection e' with e1 e2 e3
      subst e1 e3
      have hAs : Hid (AsmAt wr w.heap.size 0 xs) := Lib.hid ⟨hsz, ⟨A2, k, c2, hcell, by rw [← hxl]; exact hrd'⟩⟩
      have hSx : Hid (Shp (xs.map plPt)) := Lib.hid (by rw [hpp]; exact hSH.out)
      have hxlH := Lib.hid hxl
      have hppH := Lib.hid hpp
      clear hxs hxl hpp htk hrow hrd hrd' e2 hcell hfro
      obtain ⟨wa, hwa⟩ : ∃ wa : World, wa = wr := ⟨_, rfl⟩
      have hplen := partsN_len ps
      have hple := partsN_le ps
      have hpeach := Lib.hid (fun (i : Nat) (l : List Nat) (h : (partsN ps)[i]? = some l) => partsN_each h)
      have hplt := Lib.hid (fun (i : Nat) (l : List Nat) (h : (partsN ps)[i]? = some l) => partsN_lt h)
      rw [hlH.out] at hple
      go_wp2_with fail
      refine (l03Parts_any xs wr hAs.out hSx.out (by rw [hxlH.out]; exact hn)).mono ?_
      rintro e w1 ⟨v1, us1, rfl, hO1, hb1⟩
      rw [hppH.out] at hO1
      obtain ⟨PN, hPN⟩ : ∃ PN, partsN ps = PN := ⟨_, rfl⟩
      rw [hPN] at hO1 hple hpeach hplt ⊢
      obtain ⟨cN, hcN⟩ : ∃ cN, PN.length = cN := ⟨_, rfl⟩
      have hu1 : us1.length = cN := by rw [hO1.len]; simpa using hcN
      obtain ⟨A1, c1, rfl⟩ := hO1.form hu1
      rw [hcN] at hple
      have hu1H := Lib.hid hu1
      have hcNH := Lib.hid hcN
      have hO1H := Lib.hid hO1
      have hb1H := Lib.hid (hbw.out.trans (hb1.mono hszl))
      have hs1 := hb1.size
      have hA1 := Lib.hid ((hAH.out.below RPt.stable hbw.out).below RPt.stable hb1)
      have hPNH := Lib.hid hPN
      clear hu1 hcN hO1 hb1 hPN hwa
      go_wp2
      go_loopg [7, 6] cN (fun g i v wy => ∃ (t : Nat) (us : List Value), t + g = cN ∧ i = .int .i64 (t : Int) ∧ Hid (Own2 wy w1.heap.size 35 44 2 v us (rowsQ ps (PN.take t))) ∧ Hid (Below w1.heap.size w1 wy))
      case atStart => exact ⟨0, [], by omega, rfl, Lib.hid (Own2.of_empty (World.ownsRow_made _ _ _ (Nat.le_refl _) (by decide) rfl)), Lib.hid (bl_al (bl_refl _) _)⟩
      case round =>
        obtain ⟨t, us, ht, rfl, hO, hby⟩ := hrel
        have hszy := hby.out.size
        have htl : (rowsQ ps (PN.take t)).length = t := by simp only [rowsQ, List.length_map, List.length_take, hcNH.out]; omega
        have hul : us.length = t := by rw [hO.out.len]; exact htl
        have hulH := Lib.hid hul
        obtain ⟨A3, c3, rfl⟩ := hO.out.form hul
        clear hul htl
        by_cases htc : t < cN
        · obtain ⟨l, hl⟩ : ∃ l, PN[t]? = some l := ⟨_, List.getElem?_eq_getElem (by rw [hcNH.out]; exact htc)⟩
          have hll := hpeach.out t l hl
          rw [hlH.out] at hll
          have hlv := Lib.hid (hplt.out t l hl)
          have hsn := Lib.hid (show rowsQ ps (PN.take (t + 1)) = rowsQ ps (PN.take t) ++ [ptCells (ptsAt ps l)] by unfold rowsQ; rw [List.take_add_one, hl]; simp)
          obtain ⟨g1, cap1, hv⟩ := hO1H.out.formPos hu1H.out (by omega)
          injection hv with hv1 hv2 hv3
          subst hv1 hv3
          clear hv2
          obtain ⟨u1, hu1⟩ : ∃ u, us1[t]? = some u := ⟨_, List.getElem?_eq_getElem (by rw [hu1H.out]; exact htc)⟩
          obtain ⟨m, r', hr', hown0⟩ := hO1H.out.get hu1
          rw [List.getElem?_map, hl] at hr'
          simp only [Option.map_some, Option.some.injEq] at hr'
          subst hr'
          obtain ⟨Au, capu, rfl⟩ := ownsRow_form hown0
          have hm := hown0.1
          rw [numsV_len, Nat.mul_one] at hm
          subst hm
          have k1 := (hO1H.out.cellAt hu1H.out hu1)
          have hg1 := k1.2.2
          have k1c := k1.1
          have hownH := Lib.hid hown0
          clear hl hu1 hown0 k1
          have k2 := (hby.out.cell (p := ⟨g1, t, none⟩) hg1).trans k1c
          have hg2 : g1 < wr.heap.size := by omega
          obtain ⟨wo, hwo⟩ : ∃ wo : World, wo = wr := ⟨_, rfl⟩
          have hso : wo.heap.size = wr.heap.size := by rw [hwo]
          have hof3 := Lib.hid (fun (g : Nat) (h : Value.ownBlock (.slice A3 t c3) = some g) => (hO.out.lt g h).2)
          have hou3 := Lib.hid (fun (k : Nat) (u : Value) (g : Nat) (hk : us[k]? = some u) (h : u.ownBlock = some g) => (hO.out.ltIn hk g h).2)
          rw [← hwo] at hO hby hof3 hou3 hszy
          go_wp2
          go_loopg [9, 8] l.length (fun g i v wz => ∃ (q : Nat), q + g = l.length ∧ i = .int .i64 (q : Int) ∧ Hid (wz.ownsRow wo.heap.size 44 2 v q (ptCells (ptsAt ps (l.take q)))) ∧ Hid (Below wo.heap.size wo wz))
          case atStart => exact ⟨0, by omega, rfl, Lib.hid (by rw [hso]; exact World.ownsRow_made _ _ _ (Nat.le_refl _) (by decide) rfl), Lib.hid (by rw [hwo]; exact bl_al (bl_refl _) _)⟩
          case round =>
            clear k2 hg2 hwo hso
            obtain ⟨q, hq, rfl, hR, hbz⟩ := hrel
            have hszz := hbz.out.size
            have hbw1 : Below w1.heap.size w1 wr := hby.out.trans (hbz.out.mono hszy)
            have hsw1 := hbw1.size
            have k2 := (hbw1.cell (p := ⟨g1, t, none⟩) hg1).trans k1c
            have hg2 : g1 < wr.heap.size := by omega
            obtain ⟨A8, c8, rfl⟩ := ownsRow_form hR.out
            by_cases hql : q < l.length
            · obtain ⟨v, hv⟩ : ∃ v, l[q]? = some v := ⟨_, List.getElem?_eq_getElem hql⟩
              have hvn : v < k := by have := hlv.out v (List.mem_of_getElem? hv); rw [hlH.out] at this; exact this
              obtain ⟨gu, capu', hv9⟩ : ∃ g cap, Value.slice Au l.length capu = .slice (some ⟨g, 0, none⟩) l.length cap := by
                rcases hownH.out.2 with ⟨_, h0⟩ | ⟨g, cap, cur, hv, _⟩
                · omega
                · exact ⟨g, cap, hv⟩
              injection hv9 with hv1 hv2 hv3
              subst hv1 hv3
              clear hv2
              have k3 := (hbw1.cell (p := ⟨gu, q, none⟩) (hownH.out.lt gu rfl).2).trans ((hownH.out.cellAt q (by omega)).trans (numsV_get hv))
              have hgu : gu < wr.heap.size := Nat.lt_of_lt_of_le (hownH.out.lt gu rfl).2 hbw1.size
              have hAw := hA1.out.below RPt.stable hbw1
              obtain ⟨bb, ob, rfl, hbb, hbc⟩ := hAw.ptr (by omega)
              obtain ⟨e, he⟩ := hAw.get hvn
              obtain ⟨e0, e1⟩ := hbc v e he
              have htk := Lib.hid (show ptsAt ps (l.take (q + 1)) = ptsAt ps (l.take q) ++ [e] by unfold ptsAt; rw [List.take_add_one, hv]; simp [ptAt_of he])
              clear hbc hAw hv he
              go_wp2_with (at_builtin; refine wpList_append_own_at _ rfl _ _ 35 rfl wo.heap.size 44 i0 (.agg #[.int .i64 0, .int .i64 0]) 2 16 Tryz.underlying35 hi hz0 hz1 hz2 rfl (by decide) _ q (ptCells (ptsAt ps (l.take q))) rfl (hR.out.alloc _) ⟨wr.heap.size, 0, none⟩ 1 1 [.int .i64 e.x, .int .i64 e.y] rfl rfl (cell_pt2 _ _ _ _) (fun x hx => by simp at hx; rcases hx with rfl | rfl <;> rfl) (by unfold maxLen; omega) (by omega) (by simp; omega) ?_; intro v5 w5 hown5 hgrow5 _ hat5; have hown5H := Lib.hid hown5; have hgrow5H := Lib.hid hgrow5; clear hown5 hgrow5 hat5)
              go_roundg (l.length - (q + 1))
              case measure => omega
              case rel =>
                refine ⟨q + 1, by omega, by go_num, Lib.hid ?_, Lib.hid ?_⟩
                · rw [htk.out, ptCells_snoc]; exact hown5H.out
                · exact hbz.out.trans (below_app hszz (fun g e => (hR.out.lt g e).1) hgrow5H.out)
            · obtain rfl : q = l.length := by omega
              have hO1' := Lib.hid (hO.out.below hbz.out)
              have hR1 := Lib.hid (show wr.ownsRow wo.heap.size 44 2 (.slice A8 l.length c8) l.length (ptCells (ptsAt ps l)) by have := hR.out; rw [List.take_length] at this; exact this)
              go_wp2_with (at_builtin; refine wpList_append_own_at _ rfl _ _ 80 rfl w1.heap.size 35 i1 (.slice none 0 0) 1 24 Tryz.underlying80 hi' hz0' hz1' hz2' rfl (by decide) _ t us rfl ((hO1'.out.outerN hulH.out).alloc _) ⟨wr.heap.size, 0, none⟩ 1 1 [.slice A8 l.length c8] rfl rfl (cell_one_new _ _ _) (fun x hx => by simp at hx; subst hx; rfl) (by unfold maxLen; omega) (by omega) (by simp; omega) ?_; intro v5 w5 hown5 hgrow5 _ hat5; have hown5H := Lib.hid hown5; have hgrow5H := Lib.hid hgrow5; have hat5H := Lib.hid hat5; clear hown5 hgrow5 hat5)
              go_roundg (cN - (t + 1))
              case measure => omega
              case rel =>
                refine ⟨t + 1, us ++ [.slice A8 l.length c8], by omega, by go_num, Lib.hid ?_, Lib.hid ?_⟩
                · rw [hsn.out]
                  exact (hO1'.out.alloc (Obj.cells #[.slice A8 l.length c8] 35)).push hulH.out ((ownsRow_baseQ hR1.out (by omega)).alloc _) (fun g e => ⟨fun e' => by have := hof3.out _ e'; have := (hR1.out.lt g e).1; omega, fun i u hu e' => by have := hou3.out i u _ hu e'; have := (hR1.out.lt g e).1; omega⟩) hown5H.out hgrow5H.out hat5H.out
                · exact hbw1.trans (below_app hsw1 (fun g e => (hO.out.lt g e).1) hgrow5H.out)
        · obtain rfl : t = cN := by omega
          go_wp2
          go_ret
          refine ⟨.slice A3 t c3, us, rfl, ?_, hb1H.out.trans (hby.out.mono (by have := hb1H.out.size; omega))⟩
          have h := hO.out
          rw [← hcNH.out, List.take_length] at h
          have h2 := h.rebase (base' := w.heap.size) (by have := hb1H.out.size; omega)
          rw [hcNH.out] at h2
          rw [hPNH.out]
          exact h2
end Go.Proofs.YtdcndhiidjgmaaaGreatDoor
/- Small words: a result that is a row of numbers and a code. -/

namespace Go.Proofs.YtdcndhiidjgmaaaGreatDoor
open Go.RowKit Go.Shelf

/-- a row of numbers and a code -/
def IntsRes (w : World) (r : List Int × Int) (e : Ending) (w' : World) : Prop :=
  ∃ A c, e = .returned (.tuple #[.slice A r.1.length c, .int .i64 r.2]) ∧ w'.ownsRow w.heap.size 2 1 (.slice A r.1.length c) r.1.length (r.1.map (Value.int .i64)) ∧ Below w.heap.size w w'
theorem rdI_of {W : World} {base : Nat} {v : Value} {bs : List Int} (h : W.ownsRow base 2 1 v bs.length (bs.map (Value.int .i64))) : ∃ A cap, v = .slice A bs.length cap ∧ RdSl 1 RInt W A bs.length bs := by
  rcases h.2 with ⟨rfl, h0⟩ | ⟨g, cap, cur, rfl, hb, hh, hn, hm, hs, ht⟩
  · exact ⟨none, 0, by rw [h0], rfl, fun hp => by omega⟩
  · refine ⟨_, cap, rfl, rfl, fun hp => ⟨g, 0, rfl, (Array.getElem?_eq_some_iff.1 hh).1, fun k hk => ?_⟩⟩
    have hg : (bs.map (Value.int .i64))[k]? = some (.int .i64 bs[k]) := by simp [hk]
    rw [← ht, List.getElem?_take] at hg
    split at hg
    · simp only [RInt, World.cell?, hh, Nat.zero_add, Nat.mul_one]
      simpa using hg
    · cases hg
theorem IntsRes.of {w w' : World} {r : List Int × Int} {bs : List Int} {c : Int} {v : Value} (h : (bs, c) = r) (hr : w'.ownsRow w.heap.size 2 1 v bs.length (bs.map (Value.int .i64))) (hb : Below w.heap.size w w') : IntsRes w r (.returned (.tuple #[v, .int .i64 c])) w' := by
  subst h
  obtain ⟨A, cap, rfl, _⟩ := rdI_of hr
  exact ⟨A, cap, rfl, hr, hb⟩
theorem rdI {W : World} {base : Nat} {A : Option Addr} {n c : Nat} {bs : List Int} (h : W.ownsRow base 2 1 (.slice A n c) n (bs.map (Value.int .i64))) (hn : n = bs.length := by rfl) : RdSl 1 RInt W A n bs := by
  subst hn
  obtain ⟨A', cap, e, h'⟩ := rdI_of h
  injection e with e1 e2 e3
  subst e1
  exact h'
/-- a number, a row of numbers and a code -/
def FluxRes (w : World) (r : Int × List Int × Int) (e : Ending) (w' : World) : Prop :=
  ∃ A c, e = .returned (.tuple #[.int .i64 r.1, .slice A r.2.1.length c, .int .i64 r.2.2]) ∧ w'.ownsRow w.heap.size 2 1 (.slice A r.2.1.length c) r.2.1.length (r.2.1.map (Value.int .i64)) ∧ Below w.heap.size w w'
theorem FluxRes.of {w w' : World} {r : Int × List Int × Int} {bs : List Int} {a c : Int} {v : Value} (h : (a, bs, c) = r) (hr : w'.ownsRow w.heap.size 2 1 v bs.length (bs.map (Value.int .i64))) (hb : Below w.heap.size w w') : FluxRes w r (.returned (.tuple #[.int .i64 a, v, .int .i64 c])) w' := by
  subst h
  obtain ⟨A, cap, rfl, _⟩ := rdI_of hr
  exact ⟨A, cap, rfl, hr, hb⟩
end Go.Proofs.YtdcndhiidjgmaaaGreatDoor
/- Walks: a shape and a root of it; the greatest number of steps from a point, of both. -/



namespace Go.Proofs.YtdcndhiidjgmaaaGreatDoor
open Go.RowKit Go.Shelf
attribute [local go_sem] BelowBy.cell BelowBy.cell_drew stillUpon givesUpon

/-- the code of a shape and a place of it -/
def treeC (ps : List Pt) (r : Int) : Int := if shapeB ps && oneB ps then (if inB r 0 ((ps.length : Int) - 1) then 0 else 2) else 1
theorem treeC_zero {ps : List Pt} {r : Int} (h : treeC ps r = 0) : Shp ps ∧ oneB ps = true ∧ 1 ≤ ps.length ∧ ps.length ≤ 500 ∧ ∃ rn : Nat, r = (rn : Int) ∧ rn < ps.length := by
  unfold treeC at h
  split at h
  · rename_i h1
    simp only [Bool.and_eq_true] at h1
    split at h
    · rename_i h2
      rw [inB_true] at h2
      obtain ⟨a, b, c⟩ := shp_of h1.1
      exact ⟨a, h1.2, b, c, r.toNat, by omega, by omega⟩
    · omega
  · omega
theorem treeC_cases (ps : List Pt) (r : Int) : treeC ps r = 0 ∨ treeC ps r = 1 ∨ treeC ps r = 2 := by
  unfold treeC; split
  · split
    · exact .inl rfl
    · exact .inr (.inr rfl)
  · exact .inr (.inl rfl)
theorem rootCode_any (A : Option Addr) (n c : Nat) (ps : List Pt) (r : Int) (w : World) (h : RdSl 2 RPt w A n ps) (hn : n ≤ 1073741824) :
    Calls Tryz.prog 28 #[.slice A n c, .int .i64 r] w fun e w' => e = .returned (.int .i64 (treeC ps r)) ∧ Below w.heap.size w w' := by
  have hl := Lib.hid h.len
  have hH := Lib.hid h
  clear h
  cases hb : shapeB ps && oneB ps
  · have hT := Lib.hid (show treeC ps r = 1 by unfold treeC; rw [hb]; rfl)
    have hbH := Lib.hid hb
    clear hb
    go_enter Tryz.func28, Tryz.ntmps28
    go_wp2_with (go_at_call 53; refine (IsConnected_any _ _ _ ps _ hH.out hn).mono ?_; rw [hbH.out]; rintro e w1 ⟨rfl, hb1⟩; have hb1H := Lib.hid hb1; clear hb1)
    go_ret
    exact ⟨ret_int hT.out.symm, hb1H.out⟩
  · cases hi : inB r 0 ((n : Int) - 1)
    · have hT := Lib.hid (show treeC ps r = 2 by unfold treeC; rw [hb, hl.out, hi]; rfl)
      have hbH := Lib.hid hb
      have hiH := Lib.hid hi
      clear hb hi
      go_enter Tryz.func28, Tryz.ntmps28
      go_wp2_with (first
        | (go_at_call 53; refine (IsConnected_any _ _ _ ps _ hH.out hn).mono ?_; rw [hbH.out]; rintro e w1 ⟨rfl, hb1⟩; have hb1H := Lib.hid hb1; clear hb1)
        | (go_at_call 54; refine (isIndex_any _ _ _ (by omega) (by omega)).mono ?_; rw [hiH.out]; rintro e _ ⟨rfl, rfl⟩))
      go_ret
      exact ⟨ret_int hT.out.symm, hb1H.out⟩
    · have hT := Lib.hid (show treeC ps r = 0 by unfold treeC; rw [hb, hl.out, hi]; rfl)
      have hbH := Lib.hid hb
      have hiH := Lib.hid hi
      clear hb hi
      go_enter Tryz.func28, Tryz.ntmps28
      go_wp2_with (first
        | (go_at_call 53; refine (IsConnected_any _ _ _ ps _ hH.out hn).mono ?_; rw [hbH.out]; rintro e w1 ⟨rfl, hb1⟩; have hb1H := Lib.hid hb1; clear hb1)
        | (go_at_call 54; refine (isIndex_any _ _ _ (by omega) (by omega)).mono ?_; rw [hiH.out]; rintro e _ ⟨rfl, rfl⟩))
      go_ret
      exact ⟨ret_int hT.out.symm, hb1H.out⟩
theorem rootCode_at {A : Option Addr} {n c : Nat} {ps : List Pt} {r code : Int} {w : World} (h : RdSl 2 RPt w A n ps) (hn : n ≤ 1073741824) (hc : treeC ps r = code) :
    Calls Tryz.prog 28 #[.slice A n c, .int .i64 r] w fun e w' => e = .returned (.int .i64 code) ∧ Below w.heap.size w w' := hc ▸ rootCode_any A n c ps r w h hn
theorem l22Asked_any (A : Option Addr) (n c : Nat) (ps : List Pt) (r : Int) (w : World) (h : RdSl 2 RPt w A n ps) (hn : n ≤ 1073741824) :
    Calls Tryz.prog 26 #[.slice A n c, .int .i64 r] w fun e w' => e = .returned (.int .i64 (treeC ps r)) ∧ Below w.heap.size w w' := by
  have hl := Lib.hid h.len
  have hH := Lib.hid h
  clear h
  cases hb : shapeB ps
  · have hT := Lib.hid (show treeC ps r = 1 by unfold treeC; rw [hb]; rfl)
    have hbH := Lib.hid hb
    clear hb
    go_enter Tryz.func26, Tryz.ntmps26
    go_wp2_with (go_at_call 45; refine (l04Ok_any _ _ _ ps _ hH.out hn).mono ?_; rw [hbH.out]; rintro e w1 ⟨rfl, hb1⟩; have hb1H := Lib.hid hb1; clear hb1)
    go_ret
    exact ⟨ret_int hT.out.symm, hb1H.out⟩
  · obtain ⟨hS, hp1, hp2⟩ := shp_of hb
    rw [hl.out] at hp1 hp2
    have hSH := Lib.hid hS
    have hpl := Lib.hid (show (rowsQ ps (partsN ps)).length = (allP (nbP ps) ps.length ps.length).2.length by unfold rowsQ; rw [List.length_map, partsN_len])
    have hcount := allP_count (nbP ps) ps.length ps.length
    obtain ⟨m, hm⟩ : ∃ m, (allP (nbP ps) ps.length ps.length).2.length = m := ⟨_, rfl⟩
    rw [hm] at hpl hcount
    rw [hl.out] at hcount
    have hmH := Lib.hid hm
    clear hm hS
    have hbH := Lib.hid hb
    clear hb
    by_cases hm1 : m = 1
    · have hob := Lib.hid (show oneB ps = true by unfold oneB; rw [hmH.out]; exact decide_eq_true hm1)
      subst hm1
      cases hi : inB r 0 ((n : Int) - 1)
      · have hT := Lib.hid (show treeC ps r = 2 by unfold treeC; rw [hbH.out, hob.out, hl.out, hi]; rfl)
        have hiH := Lib.hid hi
        clear hi
        go_enter Tryz.func26, Tryz.ntmps26
        go_wp2_with (first
          | (go_at_call 45; refine (l04Ok_any _ _ _ ps _ hH.out hn).mono ?_; rw [hbH.out]; rintro e w1 ⟨rfl, hb1⟩; have hb1H := Lib.hid hb1; clear hb1)
          | (go_at_call 46; refine (l04Parts_any _ _ _ ps _ (hH.out.below RPt.stable hb1H.out) hSH.out (by omega)).mono ?_; rintro e w2 ⟨v2, us2, rfl, hO2, hb2⟩; obtain ⟨A2, c2, rfl⟩ := hO2.form (hO2.len.trans hpl.out); have hb2H := Lib.hid (hb1H.out.trans (hb2.mono hb1H.out.size)); clear hO2 hb2)
          | (go_at_call 47; refine (l00In_any _ _ _ _).mono ?_; rw [hiH.out]; rintro e _ ⟨rfl, rfl⟩))
        go_ret
        exact ⟨ret_int hT.out.symm, hb2H.out⟩
      · have hT := Lib.hid (show treeC ps r = 0 by unfold treeC; rw [hbH.out, hob.out, hl.out, hi]; rfl)
        have hiH := Lib.hid hi
        clear hi
        go_enter Tryz.func26, Tryz.ntmps26
        go_wp2_with (first
          | (go_at_call 45; refine (l04Ok_any _ _ _ ps _ hH.out hn).mono ?_; rw [hbH.out]; rintro e w1 ⟨rfl, hb1⟩; have hb1H := Lib.hid hb1; clear hb1)
          | (go_at_call 46; refine (l04Parts_any _ _ _ ps _ (hH.out.below RPt.stable hb1H.out) hSH.out (by omega)).mono ?_; rintro e w2 ⟨v2, us2, rfl, hO2, hb2⟩; obtain ⟨A2, c2, rfl⟩ := hO2.form (hO2.len.trans hpl.out); have hb2H := Lib.hid (hb1H.out.trans (hb2.mono hb1H.out.size)); clear hO2 hb2)
          | (go_at_call 47; refine (l00In_any _ _ _ _).mono ?_; rw [hiH.out]; rintro e _ ⟨rfl, rfl⟩))
        go_ret
        exact ⟨ret_int hT.out.symm, hb2H.out⟩
    · have hob := Lib.hid (show oneB ps = false by unfold oneB; rw [hmH.out]; exact decide_eq_false hm1)
      have hT := Lib.hid (show treeC ps r = 1 by unfold treeC; rw [hbH.out, hob.out]; rfl)
      have hmI : ((m : Int) == 1) = false := by simp; omega
      have hmI2 : ((m : Int) != 1) = true := by simp; omega
      go_enter Tryz.func26, Tryz.ntmps26
      go_wp2_with (first
        | (go_at_call 45; refine (l04Ok_any _ _ _ ps _ hH.out hn).mono ?_; rw [hbH.out]; rintro e w1 ⟨rfl, hb1⟩; have hb1H := Lib.hid hb1; clear hb1)
        | (go_at_call 46; refine (l04Parts_any _ _ _ ps _ (hH.out.below RPt.stable hb1H.out) hSH.out (by omega)).mono ?_; rintro e w2 ⟨v2, us2, rfl, hO2, hb2⟩; obtain ⟨A2, c2, rfl⟩ := hO2.form (hO2.len.trans hpl.out); have hb2H := Lib.hid (hb1H.out.trans (hb2.mono hb1H.out.size)); clear hO2 hb2))
      go_ret
      exact ⟨ret_int hT.out.symm, hb2H.out⟩
theorem l22Asked_at {A : Option Addr} {n c : Nat} {ps : List Pt} {r code : Int} {w : World} (h : RdSl 2 RPt w A n ps) (hn : n ≤ 1073741824) (hc : treeC ps r = code) :
    Calls Tryz.prog 26 #[.slice A n c, .int .i64 r] w fun e w' => e = .returned (.int .i64 code) ∧ Below w.heap.size w w' := hc ▸ l22Asked_any A n c ps r w h hn
end Go.Proofs.YtdcndhiidjgmaaaGreatDoor
