import Derived.Test.YtpnahobgmemdjaaGAJ
import Derived.Test.YtpnahobgmemdjaaGAI
import Derived.Test.YtpnahobgmemdjaaGAH
import Derived.Test.YtpnahobgmemdjaaGAF
set_option linter.unusedSimpArgs false
set_option linter.unusedVariables false
/- Walks: the program's connected parts of points. -/



namespace Go.Proofs.Ytpnahobgmemdjaa
open Go.RowKit Go.Shelf
attribute [local go_sem] BelowBy.cell BelowBy.cell_drew stillUpon givesUpon

/-- the first k points -/
def firstB (ps : List Pt) (k : Nat) (x y : Int) : Bool := match idxP ps x y with
  | some v => decide (v < k)
  | none => false
theorem firstB_zero (ps : List Pt) (x y : Int) : firstB ps 0 x y = false := by
  unfold firstB; split <;> simp
theorem firstB_succ {ps : List Pt} (h : Shp ps) {k : Nat} {e : Pt} (he : ps[k]? = some e) (x y : Int) : firstB ps (k + 1) x y = (firstB ps k x y || decide (x = e.x ∧ y = e.y)) := by
  unfold firstB
  cases hi : idxP ps x y with
  | none =>
    have : ¬ (x = e.x ∧ y = e.y) := fun hh => by
      obtain ⟨rfl, rfl⟩ := hh
      rw [h.idx he] at hi
      cases hi
    simp [this]
  | some v =>
    simp only []
    have hv := idxP_some hi
    by_cases hvk : v = k
    · subst hvk
      rw [he] at hv
      injection hv with hv
      subst hv
      simp
    · have hne : ¬ (x = e.x ∧ y = e.y) := fun hh => by
        obtain ⟨rfl, rfl⟩ := hh
        rw [h.idx he] at hi
        injection hi with hi
        exact hvk hi.symm
      have : (v < k + 1) ↔ v < k := by omega
      simp [hne, this]
theorem firstB_all (ps : List Pt) (x y : Int) : firstB ps ps.length x y = leftB ps (List.replicate ps.length 0) x y := by
  unfold firstB leftB
  cases hi : idxP ps x y with
  | none => rfl
  | some v =>
    have hv := (List.getElem?_eq_some_iff.1 (idxP_some hi)).1
    simp [hv]
def ptAt (ps : List Pt) (v : Nat) : Pt := (ps[v]?).getD ⟨0, 0⟩
def ptsAt (ps : List Pt) (l : List Nat) : List Pt := l.map (ptAt ps)
theorem ptAt_of {ps : List Pt} {v : Nat} {e : Pt} (h : ps[v]? = some e) : ptAt ps v = e := by unfold ptAt; rw [h]; rfl
theorem ptsAt_len (ps : List Pt) (l : List Nat) : (ptsAt ps l).length = l.length := by simp [ptsAt]
theorem leftB_at {ps : List Pt} (h : Shp ps) {nm : List Nat} {k : Nat} {e : Pt} (he : ps[k]? = some e) : leftB ps nm e.x e.y = decide (nm[k]? = some 0) := by
  unfold leftB; rw [h.idx he]
theorem vis1_hit {ps : List Pt} {c k d u : Nat} {st : List Nat × List Nat} {e : Pt} (hu : st.1[k]? = some u) (he : ps[u]? = some e) (hl : leftB ps st.2 (stepX e.x d) (stepY e.y d) = true) :
    ∃ v, v < ps.length ∧ ps[v]? = some ⟨stepX e.x d, stepY e.y d⟩ ∧ st.2[v]? = some 0 ∧ vis1 (nbP ps) c k d st = (st.1 ++ [v], st.2.set v c) := by
  unfold leftB at hl
  cases hi : idxP ps (stepX e.x d) (stepY e.y d) with
  | none => rw [hi] at hl; cases hl
  | some v =>
    rw [hi] at hl
    simp only [decide_eq_true_eq] at hl
    have hv := idxP_some hi
    refine ⟨v, (List.getElem?_eq_some_iff.1 hv).1, hv, hl, ?_⟩
    unfold vis1 nbP
    rw [hu]
    simp only [he, hi, hl, if_true]
theorem vis1_miss {ps : List Pt} {c k d u : Nat} {st : List Nat × List Nat} {e : Pt} (hu : st.1[k]? = some u) (he : ps[u]? = some e) (hl : leftB ps st.2 (stepX e.x d) (stepY e.y d) = false) : vis1 (nbP ps) c k d st = st := by
  unfold leftB at hl
  unfold vis1 nbP
  rw [hu]
  simp only [he]
  cases hi : idxP ps (stepX e.x d) (stepY e.y d) with
  | none => rfl
  | some v =>
    rw [hi] at hl
    simp only [decide_eq_false_iff_not] at hl
    simp only [if_neg hl]
theorem visS_pos {nb : Nat → Nat → Option Nat} {c : Nat} {st : List Nat × List Nat} (h : 0 < st.1.length) : ∀ k, 0 < (visS nb c st k).1.length
  | 0 => h
  | k + 1 => by
    have ih := visS_pos (nb := nb) (c := c) h k
    obtain ⟨l, hl⟩ := vis4_grow (nb := nb) (c := c) (st := visS nb c st k) k 4
    simp only [visS]
    rw [hl, List.length_append]
    omega
/-- the parts as rows of points -/
def partsV (ps : List Pt) (P : List (List Nat)) : List (List Value) := P.map fun l => ptCells (sortP (ptsAt ps l))
theorem allP_yes {nb : Nat → Nat → Option Nat} {n i : Nat} {nm : List Nat} {P : List (List Nat)} {st : List Nat × List Nat} (h1 : (allP nb n i).1 = nm) (h2 : (allP nb n i).2 = P) (h0 : nm[i]? = some 0) (hst : visS nb (P.length + 1) ([i], nm.set i (P.length + 1)) n = st) :
    (allP nb n (i + 1)).1 = st.2 ∧ (allP nb n (i + 1)).2 = P ++ [st.1] := by
  subst h1 h2 hst
  simp only [allP, if_pos h0]
  exact ⟨trivial, trivial⟩
theorem allP_no {nb : Nat → Nat → Option Nat} {n i : Nat} (h0 : (allP nb n i).1[i]? ≠ some 0) : allP nb n (i + 1) = allP nb n i := by
  simp only [allP, if_neg h0]
theorem infoPtQ : (Try.prog.info? 34).map (fun i => (i.zero, i.size, i.bytes)) = some (some (.agg #[.int .i64 0, .int .i64 0]), 2, 16) := by kernel_rfl
theorem infoPtsQ : (Try.prog.info? 42).map (fun i => (i.zero, i.size, i.bytes)) = some (some (.slice none 0 0), 1, 24) := by kernel_rfl
theorem ownsRow_baseQ {w : World} {base base' : Nat} {e : TypeId} {size : Nat} {v : Value} {n : Nat} {xs : List Value} (h : w.ownsRow base e size v n xs) (hb : base' ≤ base) : w.ownsRow base' e size v n xs :=
  ⟨h.1, h.2.imp id (fun ⟨g, cap, cur, h1, h2, h3⟩ => ⟨g, cap, cur, h1, Nat.le_trans hb h2, h3⟩)⟩
def OwnPs (w : World) (rows : List (List Value)) (e : Ending) (w' : World) : Prop := ∃ v us, e = .returned v ∧ Own2 w' w.heap.size 42 34 2 v us rows ∧ Below w.heap.size w w'
set_option maxRecDepth 100000 in
set_option maxHeartbeats 4000000 in
theorem connected_any (A : Option Addr) (n c : Nat) (ps : List Pt) (w : World) (hA : RdSl 2 RPt w A n ps) (hS : Shp ps) (hn : n ≤ 100000) :
    Calls Try.prog 31 #[.slice A n c] w (OwnPs w (partsV ps (allP (nbP ps) n n).2)) := by
  obtain ⟨i0, hi, hz0, hz1, hz2⟩ := info_parts infoPtQ
  obtain ⟨i1, hi', hz0', hz1', hz2'⟩ := info_parts infoPtsQ
  have hmm := @run_makeMap Try.prog
  have hl := hA.len
  have hlH := Lib.hid hl
  have hAH := Lib.hid hA
  have hSH := Lib.hid hS
  clear hA hl hS
  go_enter Try.func31, Try.ntmps31
  go_wp2
  go_loopg [16] n (fun g i wr => ∃ (k : Nat), k + g = n ∧ i = .int .i64 (k : Int) ∧ Hid (LMap wr w.heap.size k (firstB ps k)) ∧ Hid (Below w.heap.size w wr))
  case atStart => exact ⟨0, by omega, rfl, Lib.hid ((LMap.made w).say fun x y => (firstB_zero ps x y).symm), Lib.hid (bl_al (bl_refl _) _)⟩
  case round =>
    obtain ⟨k, hk, rfl, hM, hbw⟩ := hrel
    have hszl := hbw.out.size
    have hMl := hM.out.lt
    by_cases hkn : k < n
    · have hAw := hAH.out.below RPt.stable hbw.out
      obtain ⟨bb, ob, rfl, hbb, hbc⟩ := hAw.ptr (by omega)
      obtain ⟨e, he⟩ := hAw.get hkn
      obtain ⟨e0, e1⟩ := hbc k e he
      have hpt := hSH.out.pt k e he
      have heH := Lib.hid he
      clear hbc he hAw
      go_wp2_with (at_mapUpdate; refine wpList_put_lmap _ rfl _ _ _ rfl w.heap.size k _ rfl ((hM.out).below (by exact bel_)) e.x e.y (W64.of (by omega)) (W64.of (by omega)) (by unfold maxLen; omega) rfl rfl ?_; intro w4 hM4 hg4; have hM4H := Lib.hid hM4; have hb4 := Lib.hid ((hbw.out.alloc hszl _).grown hg4 (by simp; try omega) (by intro q e; injection e with e; omega)); clear hM4 hg4)
      go_roundg (n - (k + 1))
      case measure => omega
      case rel => exact ⟨k + 1, by omega, by go_num, Lib.hid (hM4H.out.say fun x y => (firstB_succ hSH.out heH.out x y).symm), hb4⟩
    · obtain rfl : k = n := by omega
      have hM0 := Lib.hid (hM.out.say (S' := leftB ps (List.replicate k 0)) fun x y => by have := firstB_all ps x y; rw [hlH.out] at this; exact this)
      obtain ⟨wa, rfl⟩ : ∃ wa : World, wa = wr := ⟨_, rfl⟩
      clear hM
      go_wp2
      go_loopg [25, 6] k (fun g i v wr => ∃ (j : Nat) (us : List Value), j + g = k ∧ i = .int .i64 (j : Int) ∧ Hid (Own2 wr (w.heap.size + 1) 42 34 2 v us (partsV ps (allP (nbP ps) k j).2)) ∧ Hid (us.length = (allP (nbP ps) k j).2.length) ∧ Hid (LMap wr w.heap.size k (leftB ps (allP (nbP ps) k j).1)) ∧ Hid (Below w.heap.size w wr) ∧ w.heap.size < wr.heap.size)
      case atStart => exact ⟨0, [], by omega, rfl, Lib.hid (Own2.nil _ _ _ _ _), Lib.hid rfl, Lib.hid (hM0.out.say fun x y => rfl), hbw, hMl⟩
      case round =>
        clear hbw hszl hMl hM0
        obtain ⟨j, us, hj, rfl, hO, hul, hM, hbw, hMl⟩ := hrel
        have hszl := hbw.out.size
        have hcnt := allP_count (nbP ps) k j
        obtain ⟨A0, c0, rfl⟩ := hO.out.form hul.out
        by_cases hjn : j < k
        · have hAw := hAH.out.below RPt.stable hbw.out
          obtain ⟨bb, ob, rfl, hbb, hbc⟩ := hAw.ptr (by omega)
          obtain ⟨e, he⟩ := hAw.get hjn
          obtain ⟨e0, e1⟩ := hbc j e he
          have hpt := hSH.out.pt j e he
          have heH := Lib.hid he
          have hnl := Lib.hid (allP_len (nbP ps) k j)
          obtain ⟨nm, hnm⟩ : ∃ nm, (allP (nbP ps) k j).1 = nm := ⟨_, rfl⟩
          obtain ⟨P, hP⟩ : ∃ P, (allP (nbP ps) k j).2 = P := ⟨_, rfl⟩
          have hlb := leftB_at (nm := nm) hSH.out he
          rw [hnm] at hM hnl
          rw [hP] at hO hul hcnt ⊢
          have hnmH := Lib.hid hnm
          have hPH := Lib.hid hP
          clear hbc he hAw hnm hP
          cases hb0 : leftB ps nm e.x e.y
          · rw [hb0] at hlb
            have h0 : (allP (nbP ps) k j).1[j]? ≠ some 0 := by
              rw [hnmH.out]
              exact of_decide_eq_false hlb.symm
            have hno := Lib.hid (allP_no h0)
            clear hlb h0
            have hlk := Lib.hid hb0
            clear hb0
            go_wp2_with (at_lookup; refine wpList_look_lmap _ rfl _ _ rfl w.heap.size k _ rfl (hM.out.below (by exact bel_)) e.x e.y (W64.of (by omega)) (W64.of (by omega)) rfl ?_; rw [hlk.out])
            go_roundg (k - (j + 1))
            case measure => omega
            case rel =>
              refine ⟨j + 1, us, by omega, by go_num, Lib.hid ?_, Lib.hid ?_, Lib.hid ?_, Lib.hid (hbw.out.alloc hszl _), by simp; omega⟩
              · rw [hno.out, hPH.out]; exact hO.out.alloc _
              · rw [hno.out, hPH.out]; exact hul.out
              · rw [hno.out, hnmH.out]; exact hM.out.below (by exact bel_)
          · rw [hb0] at hlb
            have h0 := of_decide_eq_true hlb.symm
            have h0H := Lib.hid h0
            clear hlb h0
            have hlk := Lib.hid hb0
            clear hb0
            have hjl : j < nm.length := by rw [hnl.out]; exact hjn
            have hjlH := Lib.hid hjl
            have hfar : Hid (∀ g, Value.ownBlock (.slice A0 P.length c0) = some g → g < wr.heap.size) := Lib.hid fun g hg => (hO.out.lt g hg).2
            have hfin : Hid (∀ (q : Nat) (u : Value) (g : Nat), us[q]? = some u → u.ownBlock = some g → g < wr.heap.size) := Lib.hid fun q u g hu hg => (hO.out.ltIn hu g hg).2
            obtain ⟨wj, hwj⟩ : ∃ wj : World, wj = wr := ⟨_, rfl⟩
            have hs0 : wj.heap.size = wr.heap.size := by rw [hwj]
            rw [← hwj] at hfar hfin
            clear hwj
            go_wp2_with (first
              | (at_lookup; refine wpList_look_lmap _ rfl _ _ rfl w.heap.size k _ rfl (hM.out.below (by exact bel_)) e.x e.y (W64.of (by omega)) (W64.of (by omega)) rfl ?_; rw [hlk.out])
              | (at_delete; refine wpList_del_lmap _ rfl _ _ rfl w.heap.size k _ rfl (hM.out.below (by exact bel_)) e.x e.y (W64.of (by omega)) (W64.of (by omega)) rfl ?_; intro w4 hM4 hg4; have hM4H := Lib.hid hM4; have hg4H := Lib.hid hg4; clear hM4 hg4))
            have hO4 := Lib.hid (((hO.out.alloc (Obj.cells #[.int .i64 e.x, .int .i64 e.y] 34)).alloc (Obj.cells #[.int .i64 e.x, .int .i64 e.y] 34)).keptBelow hg4H.out (by intro g e; injection e with e; omega))
            have hR4 := Lib.hid ((World.ownsRow_lit (base := wj.heap.size) (e := 34) (size := 2) (wr.alloc (Obj.cells #[.int .i64 e.x, .int .i64 e.y] 34)) #[.int .i64 e.x, .int .i64 e.y] 1 (by rw [hs0]; simp) (by decide) rfl).kept hg4H.out (.inr (by simp [Value.ownBlock]; omega)))
            have hb4 := Lib.hid (((hbw.out.alloc hszl (Obj.cells #[.int .i64 e.x, .int .i64 e.y] 34)).alloc (by simp; omega) (Obj.cells #[.int .i64 e.x, .int .i64 e.y] 34)).grown hg4H.out (by simp; omega) (by intro q e; injection e with e; omega))
            have hs4 : wr.heap.size + 2 ≤ w4.heap.size := by have := hg4H.out.size; simpa using this
            have hM5 := Lib.hid (hM4H.out.say (S' := leftB ps (nm.set j (P.length + 1))) fun x y => (leftB_set hSH.out heH.out hjlH.out (Nat.succ_ne_zero _) x y).symm)
            have hV0 := Lib.hid (VisInv.start (n := k) (c := P.length + 1) (N0 := nm) (i := j) (Nat.succ_ne_zero _) hnl.out h0H.out)
            obtain ⟨st0, hst0⟩ : ∃ st0, (([j], nm.set j (P.length + 1)) : List Nat × List Nat) = st0 := ⟨_, rfl⟩
            have hR5 : Hid (w4.ownsRow wj.heap.size 34 2 (.slice (some ⟨wr.heap.size + 1, 0, none⟩) 1 1) st0.1.length (ptCells (ptsAt ps st0.1))) := Lib.hid (by
              rw [← hst0]
              simpa [ptsAt, ptAt_of heH.out, ptCells] using hR4.out)
            have hM6 : Hid (LMap w4 w.heap.size k (leftB ps st0.2)) := Lib.hid (by rw [← hst0]; exact hM5.out)
            have hst0H := Lib.hid hst0
            rw [hst0] at hV0
            clear hst0 hM4H hM5 hR4 hM hO hg4H hlk
            have hbw' : Below w.heap.size w wr := hbw.out
            obtain ⟨cc, hcc⟩ : ∃ cc, P.length + 1 = cc := ⟨_, rfl⟩
            rw [hcc] at hV0
            have hccH := Lib.hid hcc
            obtain ⟨wk, hwk⟩ : ∃ wk : World, wk = w4 := ⟨_, rfl⟩
            have hs5 : wk.heap.size = w4.heap.size := by rw [hwk]
            clear hwk
            go_loopg [10, 9] k (fun g i v wx => ∃ (q : Nat), q + g = k ∧ i = .int .i64 (q : Int) ∧ Hid (wx.ownsRow wj.heap.size 34 2 v (visS (nbP ps) cc st0 q).1.length (ptCells (ptsAt ps (visS (nbP ps) cc st0 q).1))) ∧ Hid (LMap wx w.heap.size k (leftB ps (visS (nbP ps) cc st0 q).2)) ∧ Hid (Own2 wx (w.heap.size + 1) 42 34 2 (.slice A0 P.length c0) us (partsV ps P)) ∧ Hid (Below w.heap.size w wx) ∧ wk.heap.size ≤ wx.heap.size)
            case atStart => exact ⟨0, by omega, rfl, hR5, hM6, hO4, hb4, by omega⟩
            case round =>
              clear hR5 hM6 hO4 hb4
              obtain ⟨q, hq, rfl, hR, hM, hO, hbx, hsx⟩ := hrel
              have hszx := hbx.out.size
              have hAx := hAH.out.below RPt.stable hbx.out
              have hVq := Lib.hid (hV0.out.all (nb := nbP ps) q)
              have hlen := VisInv.length hVq.out
              obtain ⟨st, hst⟩ : ∃ st, visS (nbP ps) cc st0 q = st := ⟨_, rfl⟩
              rw [hst] at hR hM hVq hlen
              have hstH := Lib.hid hst
              clear hst
              obtain ⟨A9, c9, rfl⟩ := ownsRow_form hR.out
              by_cases hqn : q < st.1.length
              · obtain ⟨g9, cap9, hv9⟩ : ∃ g9 cap9, Value.slice A9 st.1.length c9 = .slice (some ⟨g9, 0, none⟩) st.1.length cap9 := by
                  rcases hR.out.2 with ⟨_, h0⟩ | ⟨g, cap, cur, hv, _⟩
                  · omega
                  · exact ⟨g, cap, hv⟩
                injection hv9 with hv1 hv2 hv3
                subst hv1 hv3
                clear hv2
                obtain ⟨u, hu⟩ : ∃ u, st.1[q]? = some u := ⟨_, List.getElem?_eq_getElem hqn⟩
                have hun : u < k := hVq.out.lt u (List.mem_of_getElem? hu)
                obtain ⟨eu, heu⟩ : ∃ eu, ps[u]? = some eu := ⟨_, List.getElem?_eq_getElem (by rw [hlH.out]; exact hun)⟩
                have hptu := hSH.out.pt u eu heu
                have huH := Lib.hid hu
                have heuH := Lib.hid heu
                clear hu heu hAx
                have hgl := (hR.out.lt g9 rfl)
                go_wp2
                go_loopg [43, 9] 4 (fun g i v wy => ∃ (d : Nat), d + g = 4 ∧ i = .int .i64 (d : Int) ∧ Hid (wy.ownsRow wj.heap.size 34 2 v (vis4 (nbP ps) cc q st d).1.length (ptCells (ptsAt ps (vis4 (nbP ps) cc q st d).1))) ∧ Hid (LMap wy w.heap.size k (leftB ps (vis4 (nbP ps) cc q st d).2)) ∧ Hid (Own2 wy (w.heap.size + 1) 42 34 2 (.slice A0 P.length c0) us (partsV ps P)) ∧ Hid (Below w.heap.size w wy) ∧ wk.heap.size ≤ wy.heap.size)
                case atStart => exact ⟨0, by omega, rfl, hR, hM, hO, hbx, hsx⟩
                case round =>
                  clear hR hM hO hbx hsx hszx hgl
                  obtain ⟨d, hd, rfl, hR, hM, hO, hby, hsy⟩ := hrel
                  have hszy := hby.out.size
                  have hVd := Lib.hid (hVq.out.four (nb := nbP ps) q d)
                  have hlend := VisInv.length hVd.out
                  have hud := vis4_at (nb := nbP ps) (c := cc) huH.out d
                  have h4 : vis4 (nbP ps) cc q st (d + 1) = vis1 (nbP ps) cc q d (vis4 (nbP ps) cc q st d) := rfl
                  have h4' : d = 4 → vis4 (nbP ps) cc q st d = visS (nbP ps) cc st0 (q + 1) := fun e => by subst e; rw [← hstH.out]; rfl
                  obtain ⟨sd, hsd⟩ : ∃ sd, vis4 (nbP ps) cc q st d = sd := ⟨_, rfl⟩
                  rw [hsd] at hR hM hVd hlend hud h4 h4'
                  have h4H := Lib.hid h4
                  have h4'H := Lib.hid h4'
                  clear hsd h4 h4'
                  have hqd : q < sd.1.length := (List.getElem?_eq_some_iff.1 hud).1
                  obtain ⟨A9, c9, rfl⟩ := ownsRow_form hR.out
                  by_cases hd4 : d < 4
                  · have hdI : (d : Int) < 4 := by omega
                    obtain ⟨g9, cap9, hv9⟩ : ∃ g9 cap9, Value.slice A9 sd.1.length c9 = .slice (some ⟨g9, 0, none⟩) sd.1.length cap9 := by
                      rcases hR.out.2 with ⟨_, h0⟩ | ⟨g, cap, cur, hv, _⟩
                      · omega
                      · exact ⟨g, cap, hv⟩
                    injection hv9 with hv1 hv2 hv3
                    subst hv1 hv3
                    clear hv2
                    have hgl := (hR.out.lt g9 rfl)
                    have hgt := ptCells_get (ptsAt ps sd.1) q eu (by unfold ptsAt; rw [List.getElem?_map, hud]; simp [ptAt_of heuH.out])
                    have r0 := (hR.out.cellAt (q * 2) (by omega)).trans hgt.1
                    have r1 := (hR.out.cellAt (q * 2 + 1) (by omega)).trans hgt.2
                    obtain ⟨sx, hsxe⟩ : ∃ sx, stepX eu.x (d : Nat) = sx := ⟨_, rfl⟩
                    obtain ⟨sy, hsye⟩ : ∃ sy, stepY eu.y (d : Nat) = sy := ⟨_, rfl⟩
                    have hsr : (-62 ≤ sx ∧ sx ≤ 62) ∧ (-62 ≤ sy ∧ sy ≤ 62) := by
                      rw [← hsxe, ← hsye]
                      have : d = 0 ∨ d = 1 ∨ d = 2 ∨ d = 3 := by omega
                      rcases this with rfl | rfl | rfl | rfl <;> simp [stepX, stepY] <;> omega
                    have hsxH := Lib.hid hsxe
                    have hsyH := Lib.hid hsye
                    have hudH := Lib.hid hud
                    clear hgt hsxe hsye hud
                    cases hlb : leftB ps sd.2 sx sy
                    · have hms := Lib.hid (vis1_miss (c := cc) (d := d) hudH.out heuH.out (by rw [hsxH.out, hsyH.out]; exact hlb))
                      have hlk := Lib.hid hlb
                      clear hlb
                      go_wp2_with (first
                        | (go_at_call 69; refine (step_any _ _ _ _ hd4 ⟨by omega, by omega⟩ ⟨by omega, by omega⟩).mono ?_; rw [hsxH.out, hsyH.out]; rintro e' w1 ⟨rfl, hb1⟩; obtain ⟨c1, f1, s1, t1⟩ := bcell hb1; have hb1H := Lib.hid hb1; clear hb1)
                        | (at_lookup; refine wpList_look_lmap _ rfl _ _ rfl w.heap.size k _ rfl ((hM.out.below hb1H.out).below (by exact bel_)) sx sy (W64.of (by omega)) (W64.of (by omega)) rfl ?_; rw [hlk.out]))
                      have hs1 := hb1H.out.size
                      go_roundg (4 - (d + 1))
                      case measure => omega
                      case rel =>
                        refine ⟨d + 1, by omega, by go_num, Lib.hid ?_, Lib.hid ?_, Lib.hid ((hO.out.below hb1H.out).alloc _), Lib.hid ((hby.out.trans (hb1H.out.mono hszy)).alloc (by omega) _), by simp; omega⟩
                        · rw [h4H.out, hms.out]; exact (ownsRow_below hR.out hb1H.out).alloc _
                        · rw [h4H.out, hms.out]; exact (hM.out.below hb1H.out).below (by exact bel_)
                    · obtain ⟨vv, hvn, hvp, hv0, hvis⟩ := vis1_hit (c := cc) (d := d) hudH.out heuH.out (by rw [hsxH.out, hsyH.out]; exact hlb)
                      rw [hsxH.out, hsyH.out] at hvp
                      have hlk := Lib.hid hlb
                      have hvpH := Lib.hid hvp
                      have hvisH := Lib.hid hvis
                      have hv0H := Lib.hid hv0
                      have hccn := hVd.out.pos
                      have hset := Lib.hid (leftB_set hSH.out (nm := sd.2) hvp (by rw [hVd.out.len, ← hlH.out]; exact hvn) hccn)
                      clear hlb hvp hvis hv0
                      go_wp2_with (first
                        | (go_at_call 69; refine (step_any _ _ _ _ hd4 ⟨by omega, by omega⟩ ⟨by omega, by omega⟩).mono ?_; rw [hsxH.out, hsyH.out]; rintro e' w1 ⟨rfl, hb1⟩; obtain ⟨c1, f1, s1, t1⟩ := bcell hb1; have hs1 := hb1.size; have hb1H := Lib.hid hb1; clear hb1)
                        | (at_lookup; refine wpList_look_lmap _ rfl _ _ rfl w.heap.size k _ rfl ((hM.out.below hb1H.out).below (by exact bel_)) sx sy (W64.of (by omega)) (W64.of (by omega)) rfl ?_; rw [hlk.out])
                        | (at_delete; refine wpList_del_lmap _ rfl _ _ rfl w.heap.size k _ rfl ((hM.out.below hb1H.out).below (by exact bel_)) sx sy (W64.of (by omega)) (W64.of (by omega)) rfl ?_; intro w4 hM4 hg4; have hs4 : w1.heap.size + 1 ≤ w4.heap.size := (by have := hg4.size; simpa using this); (have x0 := (World.cell?_of_block (w := w1.alloc (Obj.cells #[.int .i64 sx, .int .i64 sy] 34)) (w' := w4) (a := ⟨w1.heap.size, 0, none⟩) (hg4.block w1.heap.size (by simp) (by intro h; injection h with h; omega))).trans (show _ = some (Value.int .i64 sx) by go_simp); have x1 := (World.cell?_of_block (w := w1.alloc (Obj.cells #[.int .i64 sx, .int .i64 sy] 34)) (w' := w4) (a := ⟨w1.heap.size, 1, none⟩) (hg4.block w1.heap.size (by simp) (by intro h; injection h with h; omega))).trans (show _ = some (Value.int .i64 sy) by go_simp)); have hM4H := Lib.hid hM4; (have hR4 := Lib.hid (((ownsRow_below hR.out hb1H.out).alloc (Obj.cells #[.int .i64 sx, .int .i64 sy] 34)).kept hg4 (.inr (by simp [Value.ownBlock]; omega))); have hO4 := Lib.hid (((hO.out.below hb1H.out).alloc (Obj.cells #[.int .i64 sx, .int .i64 sy] 34)).keptBelow hg4 (by intro g e; injection e with e; omega)); have hb4 := Lib.hid (((hby.out.trans (hb1H.out.mono hszy)).alloc (by omega) (Obj.cells #[.int .i64 sx, .int .i64 sy] 34)).grown hg4 (by simp; omega) (by intro q e; injection e with e; omega)); clear hM4 hg4))
                        | (at_builtin; (refine wpList_append_own_at _ rfl _ _ 42 rfl wj.heap.size 34 i0 (.agg #[.int .i64 0, .int .i64 0]) 2 16 Try.underlying42 hi hz0 hz1 hz2 rfl (by decide) _ sd.1.length (ptCells (ptsAt ps sd.1)) rfl (hR4.out.alloc _) ⟨w4.heap.size, 0, none⟩ 1 1 [.int .i64 sx, .int .i64 sy] rfl rfl (cell_pt2 _ _ _ _) (fun x hx => by simp at hx; rcases hx with rfl | rfl <;> rfl) (by unfold maxLen; omega) (by omega) (by simp; omega) ?_); intro v5 w5 hown5 hgrow5 _ hat5; have hown5H := Lib.hid hown5; have hgrow5H := Lib.hid hgrow5; clear hown5 hgrow5 hat5))
                      have hs5' : w4.heap.size + 1 ≤ w5.heap.size := by have := hgrow5H.out.size; simpa using this
                      have hbb5 := Lib.hid (below_app (B0 := w.heap.size + 1) (W := w4) (by omega) (fun g e => by have e1 : some g9 = some g := e; injection e1 with e1; omega) hgrow5H.out)
                      go_roundg (4 - (d + 1))
                      case measure => omega
                      case rel =>
                        refine ⟨d + 1, by omega, by go_num, Lib.hid ?_, Lib.hid ?_, Lib.hid ?_, Lib.hid (hb4.out.trans (hbb5.out.mono (by omega))), by omega⟩
                        · rw [h4H.out, hvisH.out]
                          have := hown5H.out
                          rw [← ptCells_snoc _ ⟨sx, sy⟩] at this
                          simpa [ptsAt, ptAt_of hvpH.out] using this
                        · rw [h4H.out, hvisH.out]
                          exact (hM4H.out.block (hbb5.out.block _ (by omega))).say fun x y => (hset.out x y).symm
                        · refine (hO4.out.alloc _).kept hgrow5H.out fun g e => ?_
                          have e1 : some g9 = some g := e
                          injection e1 with e1
                          subst e1
                          exact ⟨fun e' => by have := hfar.out _ e'; omega, fun i u hu e' => by have := hfin.out i u _ hu e'; omega⟩
                  · obtain rfl : d = 4 := by omega
                    go_wp2
                    go_roundg (k - (q + 1))
                    case measure => omega
                    case rel =>
                      refine ⟨q + 1, by omega, by go_num, Lib.hid ?_, Lib.hid ?_, hO, hby, hsy⟩
                      · rw [← h4'H.out (by simp)]; exact hR.out
                      · rw [← h4'H.out (by simp)]; exact hM.out
              · have hend := Lib.hid (visS_end hV0.out (nb := nbP ps) (k := q) (by rw [hstH.out]; omega))
                have h1 : 0 < st.1.length := by
                  have := visS_pos (nb := nbP ps) (c := cc) (st := st0) (by rw [← hst0H.out]; simp) q
                  rw [hstH.out] at this
                  exact this
                obtain ⟨g9, cap9, hv9⟩ : ∃ g9 cap9, Value.slice A9 st.1.length c9 = .slice (some ⟨g9, 0, none⟩) st.1.length cap9 := by
                  rcases hR.out.2 with ⟨_, h0⟩ | ⟨g, cap, cur, hv, _⟩
                  · omega
                  · exact ⟨g, cap, hv⟩
                injection hv9 with hv1 hv2 hv3
                subst hv1 hv3
                clear hv2 hAx
                have hgl := (hR.out.lt g9 rfl)
                have hyes := Lib.hid (allP_yes (nb := nbP ps) (n := k) (i := j) hnmH.out hPH.out h0H.out (st := st) (by rw [hst0H.out, hccH.out, ← hend.out, hstH.out]))
                have hR1 := Lib.hid (show wr.ownsRow wj.heap.size 34 2 (.slice (some ⟨g9, 0, none⟩) (ptsAt ps st.1).length c9) (ptsAt ps st.1).length (ptCells (ptsAt ps st.1)) by rw [ptsAt_len]; exact hR.out)
                have hpl := ptsAt_len ps st.1
                have hsl := sortP_len (ptsAt ps st.1)
                obtain ⟨L, hL⟩ : ∃ L, ptsAt ps st.1 = L := ⟨_, rfl⟩
                rw [hL] at hR1 hpl hsl
                have hLH := Lib.hid hL
                clear hL
                have hll : L.length = st.1.length := hpl
                have hvL : Value.slice (some ⟨g9, 0, none⟩) st.1.length c9 = .slice (some ⟨g9, 0, none⟩) L.length c9 := by rw [hll]
                go_wp2_with (first
                  | (go_at_call 70; rw [hvL]; refine (SortFuncPt_any L wj.heap.size g9 c9 wr hR1.out (by omega)).mono ?_; rintro e' w1 ⟨rfl, hrow1, hg1⟩; have hrow1H := Lib.hid hrow1; have hg1H := Lib.hid hg1; have hs1 := hg1.size; have hO1 := Lib.hid (hO.out.kept hg1 fun g e => by (injection e with e; subst e; exact ⟨fun e' => by (have := hfar.out _ e'; omega), fun i u hu e' => by (have := hfin.out i u _ hu e'; omega)⟩)); clear hrow1 hg1)
                  | (at_builtin; (refine wpList_append_own_at _ rfl _ _ 60 rfl (w.heap.size + 1) 42 i1 (.slice none 0 0) 1 24 Try.underlying60 hi' hz0' hz1' hz2' rfl (by decide) _ P.length us rfl ((hO1.out.outerN hul.out).alloc _) ⟨w1.heap.size, 0, none⟩ 1 1 [.slice (some ⟨g9, 0, none⟩) L.length c9] rfl rfl (cell_one_new _ _ _) (fun x hx => by simp at hx; subst hx; rfl) (by unfold maxLen; omega) (by omega) (by simp; omega) ?_); intro v5 w5 hown5 hgrow5 _ hat5; have hown5H := Lib.hid hown5; have hgrow5H := Lib.hid hgrow5; have hat5H := Lib.hid hat5; clear hown5 hgrow5 hat5))
                have hs5' : w1.heap.size + 1 ≤ w5.heap.size := by have := hgrow5H.out.size; simpa using this
                have hbA := Lib.hid (below_app (B0 := w.heap.size + 1) (W := w1) (by omega) (fun g e => (hO1.out.lt g e).1) hgrow5H.out)
                have hb1 := Lib.hid ((Below.refl (w.heap.size + 1) wr).grown hg1H.out (by omega) (fun g e => by injection e with e; omega))
                go_roundg (k - (j + 1))
                case measure => omega
                case rel =>
                  refine ⟨j + 1, us ++ [.slice (some ⟨g9, 0, none⟩) L.length c9], by omega, by go_num, Lib.hid ?_, Lib.hid ?_, Lib.hid ?_, Lib.hid (hbx.out.trans ((hb1.out.trans (hbA.out.mono (by omega))).mono (by omega))), by omega⟩
                  · rw [hyes.out.2]
                    have hx : (w1.alloc (Obj.cells #[.slice (some ⟨g9, 0, none⟩) L.length c9] 42)).ownsRow (w.heap.size + 1) 34 2 (.slice (some ⟨g9, 0, none⟩) L.length c9) L.length (ptCells (sortP L)) := by
                      exact ((ownsRow_baseQ hrow1H.out (by omega)).alloc _)
                    have := (hO1.out.alloc (Obj.cells #[.slice (some ⟨g9, 0, none⟩) L.length c9] 42)).push hul.out hx (fun g e => by (have e1 : some g9 = some g := e); injection e1 with e1; subst e1; exact ⟨fun e' => by (have := hfar.out _ e'; omega), fun i u hu e' => by (have := hfin.out i u _ hu e'; omega)⟩) hown5H.out hgrow5H.out hat5H.out
                    simpa [partsV, hLH.out] using this
                  · rw [hyes.out.2]; simp [hul.out]
                  · rw [hyes.out.1]
                    exact hM.out.block (((hb1.out.trans (hbA.out.mono (by omega)))).block _ (by omega))
        · obtain rfl : j = k := by omega
          go_wp2
          go_ret
          exact ⟨_, us, rfl, hO.out.rebase (by omega), hbw.out⟩
end Go.Proofs.Ytpnahobgmemdjaa
/- Plain facts: rows of points in order; a point put to its place keeps the order; such rows are told by their members. -/

namespace Go.Proofs.Ytpnahobgmemdjaa
open Go.RowKit
def ltP (a b : Pt) : Prop := lessPt a.x a.y b.x b.y = true
theorem ltP_iff (a b : Pt) : ltP a b ↔ a.y < b.y ∨ (a.y = b.y ∧ a.x < b.x) := lessPt_iff _ _ _ _
theorem ltP_irrefl (a : Pt) : ¬ ltP a a := by rw [ltP_iff]; omega
theorem ltP_trans {a b c : Pt} (h : ltP a b) (k : ltP b c) : ltP a c := by rw [ltP_iff] at *; omega
theorem ltP_asymm {a b : Pt} (h : ltP a b) (k : ltP b a) : False := ltP_irrefl _ (ltP_trans h k)
theorem ltP_tri (a b : Pt) (h : ¬ ltP a b) (k : ¬ ltP b a) : a = b := by
  rw [ltP_iff] at h k
  have hx : a.x = b.x := by omega
  have hy : a.y = b.y := by omega
  cases a; cases b; simp_all
/-- in order, each once -/
def SortS (L : List Pt) : Prop := L.Pairwise ltP
theorem pw_ext {α : Type} {lt : α → α → Prop} (irr : ∀ a, ¬ lt a a) (tr : ∀ a b c, lt a b → lt b c → lt a c) : ∀ {L M : List α}, L.Pairwise lt → M.Pairwise lt → (∀ p, p ∈ L ↔ p ∈ M) → L = M
  | [], [], _, _, _ => rfl
  | [], b :: m, _, _, h => by have := (h b).2 (by simp); simp at this
  | a :: l, [], _, _, h => by have := (h a).1 (by simp); simp at this
  | a :: l, b :: m, hL, hM, h => by
    obtain ⟨h1, h2⟩ := List.pairwise_cons.1 hL
    obtain ⟨k1, k2⟩ := List.pairwise_cons.1 hM
    have hab : a = b := by
      rcases List.mem_cons.1 ((h a).1 (by simp)) with e | e
      · exact e
      · rcases List.mem_cons.1 ((h b).2 (by simp)) with e' | e'
        · exact e'.symm
        · exact (irr _ (tr _ _ _ (h1 b e') (k1 a e))).elim
    subst hab
    rw [pw_ext irr tr h2 k2 (fun p => by
      constructor
      · intro hp
        rcases List.mem_cons.1 ((h p).1 (by simp [hp])) with e | e
        · subst e; exact (irr _ (h1 _ hp)).elim
        · exact e
      · intro hp
        rcases List.mem_cons.1 ((h p).2 (by simp [hp])) with e | e
        · subst e; exact (irr _ (k1 _ hp)).elim
        · exact e)]
theorem SortS.ext {L M : List Pt} (hL : SortS L) (hM : SortS M) (h : ∀ p, p ∈ L ↔ p ∈ M) : L = M := pw_ext ltP_irrefl (fun _ _ _ h k => ltP_trans h k) hL hM h
theorem SortS.get {L : List Pt} (h : SortS L) {i j : Nat} {a b : Pt} (hij : i < j) (ha : L[i]? = some a) (hb : L[j]? = some b) : ltP a b := by
  obtain ⟨hi, rfl⟩ := List.getElem?_eq_some_iff.1 ha
  obtain ⟨hj, rfl⟩ := List.getElem?_eq_some_iff.1 hb
  exact List.pairwise_iff_getElem.1 h i j hi hj hij
theorem putAt_before {L : List Pt} (h : SortS L) {x y : Int} : ∀ a, a ≤ L.length → ∀ j e, j < putAt L x y a → L[j]? = some e → ltP e ⟨x, y⟩
  | 0, _, j, e, hj, _ => by simp [putAt] at hj
  | a + 1, ha, j, e, hj, he => by
    obtain ⟨d, hd⟩ : ∃ d, L[a]? = some d := ⟨_, List.getElem?_eq_getElem (by omega)⟩
    cases hl : lessPt d.x d.y x y
    · rw [putAt_go hd hl] at hj
      exact putAt_before h a (by omega) j e hj he
    · rw [putAt_stop hd hl] at hj
      rcases Nat.lt_succ_iff_lt_or_eq.1 hj with hj | rfl
      · exact ltP_trans (h.get hj he hd) hl
      · rw [hd] at he; obtain rfl := Option.some.inj he; exact hl
theorem putAt_after {L : List Pt} {x y : Int} : ∀ a, a ≤ L.length → ∀ j e, putAt L x y a ≤ j → j < a → L[j]? = some e → ¬ ltP e ⟨x, y⟩
  | 0, _, j, e, _, hj, _ => by omega
  | a + 1, ha, j, e, h1, h2, he => by
    obtain ⟨d, hd⟩ : ∃ d, L[a]? = some d := ⟨_, List.getElem?_eq_getElem (by omega)⟩
    cases hl : lessPt d.x d.y x y
    · rw [putAt_go hd hl] at h1
      rcases Nat.lt_succ_iff_lt_or_eq.1 h2 with h2 | rfl
      · exact putAt_after a (by omega) j e h1 h2 he
      · rw [hd] at he; obtain rfl := Option.some.inj he
        unfold ltP; rw [hl]; decide
    · rw [putAt_stop hd hl] at h1; omega
theorem putP_sorted {L : List Pt} (h : SortS L) (x y : Int) : SortS (putP L x y) := by
  unfold putP
  simp only []
  split
  · exact h
  · rename_i hne
    have hle := putAt_le L x y L.length
    have hb := putAt_before h (x := x) (y := y) L.length (Nat.le_refl _)
    have ha := putAt_after (L := L) (x := x) (y := y) L.length (Nat.le_refl _)
    obtain ⟨a, hae⟩ : ∃ a, putAt L x y L.length = a := ⟨_, rfl⟩
    rw [hae] at hle hb ha hne ⊢
    have hgt : ∀ j e, a ≤ j → L[j]? = some e → ltP ⟨x, y⟩ e := fun j e hj he => by
      have hjl := lt_of_get he
      have h1 := ha j e hj hjl he
      apply Classical.byContradiction
      intro h2
      have hE := ltP_tri _ _ h1 h2
      subst hE
      rcases Nat.lt_or_ge a j with h3 | h3
      · obtain ⟨d, hd⟩ : ∃ d, L[a]? = some d := ⟨_, List.getElem?_eq_getElem (by omega)⟩
        exact ha a d (Nat.le_refl _) (by omega) hd (h.get h3 hd he)
      · obtain rfl : j = a := by omega
        exact hne he
    show (L.take a ++ ⟨x, y⟩ :: L.drop a).Pairwise ltP
    rw [List.pairwise_append]
    refine ⟨List.Pairwise.sublist (List.take_sublist _ _) h, List.pairwise_cons.2 ⟨fun e he => ?_, List.Pairwise.sublist (List.drop_sublist _ _) h⟩, fun d hd e he => ?_⟩
    · obtain ⟨i, hi, rfl⟩ := List.mem_iff_getElem.1 he
      rw [List.length_drop] at hi
      exact hgt (a + i) _ (by omega) (by rw [List.getElem_drop]; exact List.getElem?_eq_getElem (by omega))
    · obtain ⟨i, hi, rfl⟩ := List.mem_iff_getElem.1 hd
      rw [List.length_take] at hi
      have h1 : ltP (L.take a)[i] ⟨x, y⟩ := hb i _ (by omega) (by rw [List.getElem_take]; exact List.getElem?_eq_getElem (by omega))
      rcases List.mem_cons.1 he with rfl | he
      · exact h1
      · obtain ⟨k, hk, rfl⟩ := List.mem_iff_getElem.1 he
        rw [List.length_drop] at hk
        exact ltP_trans h1 (hgt (a + k) _ (by omega) (by rw [List.getElem_drop]; exact List.getElem?_eq_getElem (by omega)))
/-- points put to a list, one after the other -/
def putAll (L : List Pt) : List Pt → List Pt
  | [] => L
  | p :: ps => putAll (putP L p.x p.y) ps
theorem putAll_mem {q : Pt} : ∀ (ps : List Pt) (L : List Pt), q ∈ putAll L ps ↔ q ∈ L ∨ q ∈ ps
  | [], L => by simp [putAll]
  | p :: ps, L => by
    simp only [putAll]
    rw [putAll_mem ps, putP_mem, List.mem_cons]
    constructor
    · rintro ((h | h) | h)
      · exact Or.inl h
      · exact Or.inr (Or.inl h)
      · exact Or.inr (Or.inr h)
    · rintro (h | h | h)
      · exact Or.inl (Or.inl h)
      · exact Or.inl (Or.inr h)
      · exact Or.inr h
theorem putAll_sorted : ∀ (ps : List Pt) (L : List Pt), SortS L → SortS (putAll L ps)
  | [], L, h => h
  | p :: ps, L, h => putAll_sorted ps _ (putP_sorted h p.x p.y)
theorem putAll_snoc : ∀ (ps : List Pt) (L : List Pt) (p : Pt), putAll L (ps ++ [p]) = putP (putAll L ps) p.x p.y
  | [], L, p => rfl
  | q :: ps, L, p => by simp only [List.cons_append, putAll]; exact putAll_snoc ps _ p
theorem putP_id {L : List Pt} (h : SortS L) {p : Pt} (hp : p ∈ L) : putP L p.x p.y = L :=
  SortS.ext (putP_sorted h _ _) h fun q => by
    rw [putP_mem]
    constructor
    · rintro (h1 | rfl)
      · exact h1
      · exact hp
    · exact Or.inl
/-- what is left of a row where of equals that follow one another one stays -/
def compactP : List Pt → List Pt
  | [] => []
  | [a] => [a]
  | a :: b :: l => if a = b then compactP (b :: l) else a :: compactP (b :: l)
theorem compactP_mem {p : Pt} : ∀ L : List Pt, p ∈ compactP L ↔ p ∈ L
  | [] => by simp [compactP]
  | [a] => by simp [compactP]
  | a :: b :: l => by
    simp only [compactP]
    split
    · rename_i h; subst h; rw [compactP_mem (a :: l)]; simp
    · rw [List.mem_cons, compactP_mem (b :: l), List.mem_cons (l := b :: l)]
theorem compactP_sorted : ∀ L : List Pt, L.Pairwise (fun a b => ¬ ltP b a) → SortS (compactP L)
  | [], _ => List.Pairwise.nil
  | [a], _ => List.pairwise_singleton _ _
  | a :: b :: l, h => by
    obtain ⟨h1, h2⟩ := List.pairwise_cons.1 h
    simp only [compactP]
    split
    · exact compactP_sorted _ h2
    · rename_i hne
      refine List.pairwise_cons.2 ⟨fun e he => ?_, compactP_sorted _ h2⟩
      rw [compactP_mem] at he
      have hab : ltP a b := by
        apply Classical.byContradiction
        intro hc
        exact hne (ltP_tri _ _ hc (h1 b (by simp)))
      rcases List.mem_cons.1 he with rfl | he
      · exact hab
      · have hbe := (List.pairwise_cons.1 h2).1 e he
        apply Classical.byContradiction
        intro hc
        have := ltP_tri _ _ hc (h1 e (by simp [he]))
        subst this
        exact hbe hab
/-- sorted and made single -/
theorem compact_put {L M : List Pt} (hm : ∀ p, p ∈ M ↔ p ∈ L) (hs : M.Pairwise (fun a b => ¬ ltP b a)) : compactP M = putAll [] L :=
  SortS.ext (compactP_sorted M hs) (putAll_sorted L [] List.Pairwise.nil) fun p => by rw [compactP_mem, hm, putAll_mem]; simp
end Go.Proofs.Ytpnahobgmemdjaa
/- Walks: a point looked for in a row of points in order. -/


namespace Go.Proofs.Ytpnahobgmemdjaa
open Go.RowKit
attribute [local go_sem] BelowBy.cell BelowBy.cell_drew stillUpon givesUpon

/-- where a binary search stops -/
structure Stop (L : List Pt) (x y : Int) (r : Nat) (b : Bool) : Prop where
  le : r ≤ L.length
  lt : ∀ (k : Nat) (d : Pt), k < r → L[k]? = some d → lessPt d.x d.y x y = true
  ge : ∀ (k : Nat) (d : Pt), r ≤ k → L[k]? = some d → lessPt d.x d.y x y = false
  yes : b = true → L[r]? = some ⟨x, y⟩
  no : b = false → ¬ (⟨x, y⟩ : Pt) ∈ L
theorem Stop.mem {L : List Pt} {x y : Int} {r : Nat} {b : Bool} (h : Stop L x y r b) : b = decide ((⟨x, y⟩ : Pt) ∈ L) := by
  cases b
  · exact (decide_eq_false (h.no rfl)).symm
  · exact (decide_eq_true (List.mem_of_getElem? (h.yes rfl))).symm
def SearchP (w : World) (L : List Pt) (x y : Int) (e : Ending) (w' : World) : Prop :=
  ∃ (r : Nat) (b : Bool), e = .returned (.tuple #[.int .i64 (r : Int), .bool b]) ∧ Stop L x y r b ∧ Below w.heap.size w w'
theorem comparePointsP_at {e : Pt} {x y : Int} {w : World} :
    Calls Try.prog 71 #[.agg #[.int .i64 e.x, .int .i64 e.y], .agg #[.int .i64 x, .int .i64 y]] w fun e' w' => e' = .returned (.int .i64 (cmpPt e.x e.y x y)) ∧ Below w.heap.size w w' := comparePoints_any _ _ _ _ _
theorem stop_no {L : List Pt} (hS : SortS L) {x y : Int} {i : Nat} (h1 : ∀ (k : Nat) (d : Pt), k < i → L[k]? = some d → lessPt d.x d.y x y = true) (h2 : ∀ (k : Nat) (d : Pt), i ≤ k → L[k]? = some d → lessPt d.x d.y x y = false) (h3 : ∀ d, L[i]? = some d → ¬ (d.x = x ∧ d.y = y)) : ¬ (⟨x, y⟩ : Pt) ∈ L := by
  intro hm
  obtain ⟨k, hk, hke⟩ := List.mem_iff_getElem.1 hm
  have hke' : L[k]? = some ⟨x, y⟩ := List.getElem?_eq_some_iff.2 ⟨hk, hke⟩
  rcases Nat.lt_trichotomy k i with h | rfl | h
  · exact ltP_irrefl ⟨x, y⟩ (h1 k _ h hke')
  · exact h3 _ hke' ⟨rfl, rfl⟩
  · obtain ⟨d, hd⟩ : ∃ d, L[i]? = some d := ⟨_, List.getElem?_eq_getElem (by omega)⟩
    have := hS.get h hd hke'
    have h4 := h2 i d (Nat.le_refl _) hd
    unfold ltP at this
    simp only at this
    rw [h4] at this; cases this
end Go.Proofs.Ytpnahobgmemdjaa
