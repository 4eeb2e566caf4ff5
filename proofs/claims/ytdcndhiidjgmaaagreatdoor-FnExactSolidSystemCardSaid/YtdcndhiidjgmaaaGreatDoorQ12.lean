/- Walks: the program reaches the points of a shape from one of them. -/
import Derived.Test.YtdcndhiidjgmaaaGreatDoorKD
namespace Go.Proofs.YtdcndhiidjgmaaaGreatDoor
open Go.RowKit Go.Shelf
set_option linter.unusedSimpArgs false
set_option linter.unusedVariables false
attribute [local go_sem] BelowBy.cell BelowBy.cell_drew stillUpon givesUpon

theorem hp_new (w : World) (z : Obj) : (w.alloc z).heap[w.heap.size]? = some z := by
  show (w.heap.push z)[w.heap.size]? = some z
  simp
theorem hp_new1 (w : World) (a z : Obj) : ((w.alloc a).alloc z).heap[w.heap.size + 1]? = some z := by
  have := hp_new (w.alloc a) z
  simpa using this
theorem hp_keep {w : World} {k : Nat} {o : Obj} (z : Obj) (h : w.heap[k]? = some o) : (w.alloc z).heap[k]? = some o :=
  ((bl_al (bl_refl w) z).block k (Array.getElem?_eq_some_iff.1 h).1).trans h
theorem infoTp : (Tryz.prog.info? 64).map (fun i => (i.zero, i.size, i.bytes)) = some (some (.pointer none), 1, 8) := by kernel_rfl
def ReachR (w : World) (ps : List Pt) (r : Nat) (e : Ending) (w' : World) : Prop := ∃ (b m : Nat) (T : Nat → Option Nat), e = .returned (.map (some b)) ∧ TMap w' b m (tripM ps T) ∧ m ≤ ps.length ∧ Trips w' w.heap.size ps (wayS (nbP ps) (way0 ps.length r) ps.length) T ∧ Below w.heap.size w w'
theorem wpList_look_tmap0 {ops : Array Oper} {rest : List Oper} {o : Oper} {a : Act} {Q : Exit → Act → World → Prop} (w : World) (hg : o.guard = none) (m k : Operand) (hop : o.op = Op.lookup 54 m k false) (b n : Nat) (M : Int → Int → Option Nat) (hm : a.eval m = .map (some b)) (h : TMap w b n M) (x y : Int) (hx : W64 x) (hy : W64 y) (hk : a.eval k = .agg #[.int .i64 x, .int .i64 y])
    (hr : M x y = none) (hK : wpList Tryz.prog ops Q rest (a.put o.dst (.pointer none)) w) : wpList Tryz.prog ops Q (o :: rest) a w := wpList_look_tmap w hg m k hop b n M hm h x y hx hy hk none hr hK
theorem wpList_look_tmap1 {ops : Array Oper} {rest : List Oper} {o : Oper} {a : Act} {Q : Exit → Act → World → Prop} (w : World) (hg : o.guard = none) (m k : Operand) (hop : o.op = Op.lookup 54 m k false) (b n : Nat) (M : Int → Int → Option Nat) (hm : a.eval m = .map (some b)) (h : TMap w b n M) (x y : Int) (hx : W64 x) (hy : W64 y) (hk : a.eval k = .agg #[.int .i64 x, .int .i64 y])
    (g : Nat) (hr : M x y = some g) (hK : wpList Tryz.prog ops Q rest (a.put o.dst (.pointer (some ⟨g, 0, none⟩))) w) : wpList Tryz.prog ops Q (o :: rest) a w := wpList_look_tmap w hg m k hop b n M hm h x y hx hy hk (some g) hr hK
theorem tmap_put_run {w : World} {b n : Nat} {M : Int → Int → Option Nat} (h : TMap w b n M) {x y : Int} (hx : W64 x) (hy : W64 y) (g : Nat) (hn : n < maxLen) :
    ∃ w', (Instr.mapUpdate 54 (.map (some b)) (.agg #[.int .i64 x, .int .i64 y]) (.pointer (some ⟨g, 0, none⟩))).run Tryz.prog w = .ok () w' ∧ TMap w' b (n + 1) (fun i j => if i = x ∧ j = y then some g else M i j) ∧ w.grownBy w' (some b) := by
  obtain ⟨D, hown, hat, hks⟩ := h
  obtain ⟨w', hrun, h1, h2⟩ := hown.update pt_keyed Tryz.underlying54 hn (keyOf_pt hx hy) (ptrElem_mk (some g))
  exact ⟨w', hrun, TMap.put_ hx hy hown.isMap hat hks h1, h2⟩
set_option maxRecDepth 100000 in
set_option maxHeartbeats 4000000 in
theorem reach_any (A : Option Addr) (n c : Nat) (ps : List Pt) (r : Nat) (x y : Int) (w : World) (hA : RdSl 2 RPt w A n ps) (hS : Shp ps) (hn : n ≤ 100000) (hr : ps[r]? = some ⟨x, y⟩) :
    Calls Tryz.prog 29 #[.slice A n c, .agg #[.int .i64 x, .int .i64 y]] w (ReachR w ps r) := by
  obtain ⟨i0, hi, hz0, hz1, hz2⟩ := info_parts infoTp
  have hmm := @run_makeMap Tryz.prog
  have hl := hA.len
  have hrn : r < n := by rw [← hl]; exact lt_of_get hr
  have hpt := hS.pt r _ hr
  simp only at hpt
  have hlH := Lib.hid hl
  have hAH := Lib.hid hA
  have hSH := Lib.hid hS
  have hrH := Lib.hid hr
  clear hA hl hS hr
  obtain ⟨w4, hrun4, hM4, hg4⟩ := tmap_put_run (TMap.made ((w.alloc (Obj.cells #[.int .i64 x, .int .i64 y] 44)).alloc (Obj.cells #[.int .i64 x, .int .i64 y, .pointer none, .int .i64 (-1), .int .i64 0] 66))) (x := x) (y := y) (W64.of (by omega)) (W64.of (by omega)) (w.heap.size + 1) (by unfold maxLen; omega)
  simp only [World.size_alloc] at hrun4 hM4 hg4
  have hM4H := Lib.hid hM4
  have hg4H := Lib.hid hg4
  clear hM4 hg4
  have hszg := hg4H.out.size
  simp only [World.size_alloc] at hszg
  have htr0 : TripAt w4 (w.heap.size + 1) ⟨x, y⟩ none (-1) 0 := by
    have h0 : TripAt (((w.alloc (Obj.cells #[.int .i64 x, .int .i64 y] 44)).alloc (Obj.cells #[.int .i64 x, .int .i64 y, .pointer none, .int .i64 (-1), .int .i64 0] 66)).alloc (Obj.map #[] 0)) (w.heap.size + 1) ⟨x, y⟩ none (-1) 0 :=
      ⟨by simp, by go_simp, by go_simp, by go_simp; rfl, by go_simp, by go_simp, _, hp_keep _ (hp_new1 _ _ _)⟩
    exact h0.kept hg4H.out (by intro e; injection e with e; omega)
  have hI0 := WayInv.start hrn
  obtain ⟨s0, hs0⟩ : ∃ s0, way0 n r = s0 := ⟨_, rfl⟩
  have hs1 : s0.1 = [r] := by rw [← hs0]; rfl
  have htrs0 : Trips w4 w.heap.size ps s0 (fun u => if u = r then some (w.heap.size + 1) else none) := by
    refine ⟨fun v hv => ?_, fun v hv => ?_, fun u v g hu hv => ?_⟩
    · rw [hs1] at hv
      simp at hv
      simp [hv]
    · rw [hs1] at hv
      simp at hv
      subst hv
      refine ⟨w.heap.size + 1, ⟨x, y⟩, none, -1, 0, by simp, by omega, hrH.out, ?_, ?_, htr0, .inl ⟨rfl, rfl⟩⟩
      · rw [← hs0]; show (List.replicate n (-1 : Int))[v]? = _; rw [List.getElem?_replicate, if_pos hrn]
      · rw [← hs0]; show ((List.replicate n (-1 : Int)).set v 0)[v]? = _; rw [List.getElem?_set_self (by rw [List.length_replicate]; exact hrn)]
    · by_cases h1 : u = r
      · by_cases h2 : v = r
        · rw [h1, h2]
        · simp [h2] at hv
      · simp [h1] at hu
  rw [hs0] at hI0
  have hM5 := Lib.hid (hM4H.out.say (M' := tripM ps (fun u => if u = r then some (w.heap.size + 1) else none)) fun i j => by
    have := tripM_put hSH.out hrH.out (T := fun _ => none) (g := w.heap.size + 1) i j
    rw [← this]
    split
    · rfl
    · unfold tripM; cases idxP ps i j <;> rfl)
  have hb4 := Lib.hid ((((bl_al (bl_al (bl_al (bl_refl w) (Obj.cells #[.int .i64 x, .int .i64 y] 44)) (Obj.cells #[.int .i64 x, .int .i64 y, .pointer none, .int .i64 (-1), .int .i64 0] 66)) (Obj.map #[] 0))).grown hg4H.out (by simp; omega) (by intro q e; injection e with e; omega)))
  have hI0H := Lib.hid hI0
  have hs0H := Lib.hid hs0
  have hs1H := Lib.hid hs1
  have htrs0H := Lib.hid htrs0
  clear hs1 htrs0 htr0 hI0 hs0 hg4H hM4H
  go_enter Tryz.func29, Tryz.ntmps29
  go_wp2
  obtain ⟨B1, hB1⟩ : ∃ B1, w.heap.size + 1 + 1 = B1 := ⟨_, rfl⟩
  have hB1a : w.heap.size + 1 < B1 := by omega
  have hB1b : B1 < w4.heap.size := by omega
  rw [hB1]
  rw [hB1] at hM5
  clear hB1 hrun4
  have hq1 := Lib.hid (QRow.of_own (World.ownsRow_lit (base := w.heap.size) (e := 64) (size := 1) w4 #[.pointer (some ⟨w.heap.size + 1, 0, none⟩)] 1 (by omega) (by decide) rfl) (by omega))
  go_loopg [7] n (fun g v wr => ∃ (k N : Nat) (T : Nat → Option Nat), k + g = n ∧ N + k = (wayS (nbP ps) s0 k).1.length ∧ Hid (QRow wr w.heap.size 1 v N (((wayS (nbP ps) s0 k).1.drop k).map fun u => ptrV (T u))) ∧ Hid (TMap wr B1 (wayS (nbP ps) s0 k).1.length (tripM ps T)) ∧ Hid (Trips wr w.heap.size ps (wayS (nbP ps) s0 k) T) ∧ Hid (∀ u g, T u = some g → v.ownBlock ≠ some g ∧ g ≠ B1) ∧ Hid (v.ownBlock ≠ some B1) ∧ Hid (Below w.heap.size w wr))
  case atStart =>
    refine ⟨0, 1, _, by omega, by simp [wayS, hs1H.out], Lib.hid ?_, Lib.hid ?_, Lib.hid ((htrs0H.out).below (by exact bel_)), Lib.hid ?_, Lib.hid ?_, Lib.hid (bl_al hb4.out _)⟩
    · have := hq1.out
      simpa [wayS, hs1H.out, ptrV] using this
    · have := hM5.out.below (bl_al (bl_refl w4) (Obj.cells #[.pointer (some ⟨w.heap.size + 1, 0, none⟩)] 64))
      simpa [wayS, hs1H.out] using this
    · intro u g hu
      by_cases h1 : u = r
      · simp [h1] at hu
        subst hu
        simp only [Value.ownBlock]
        exact ⟨fun e => by injection e with e; omega, by omega⟩
      · simp [h1] at hu
    · simp only [Value.ownBlock]
      intro e
      injection e with e
      omega
  case round =>
    clear hM5 hq1 hb4 htrs0H hszg
    obtain ⟨k, N, T, hk, hN, hQ, hM, hT, hD, hQM, hbw⟩ := hrel
    have hszl := hbw.out.size
    have hI := Lib.hid (hI0H.out.all (nb := nbP ps) k)
    have hlen := hI.out.length
    obtain ⟨st, hst⟩ : ∃ st, wayS (nbP ps) s0 k = st := ⟨_, rfl⟩
    rw [hst] at hN hQ hM hT hI hlen
    have hstH := Lib.hid hst
    clear hst
    obtain ⟨gq, oq, cap, rfl, hgq1, hgq2, hcap⟩ := hQ.out.form
    by_cases hkn : k < st.1.length
    · obtain ⟨N', rfl⟩ : ∃ N', N = N' + 1 := ⟨N - 1, by omega⟩
      obtain ⟨u, hu⟩ : ∃ u, st.1[k]? = some u := ⟨_, List.getElem?_eq_getElem hkn⟩
      have hdrop : st.1.drop k = u :: st.1.drop (k + 1) := by
        rw [List.drop_eq_getElem_cons hkn]
        rw [List.getElem?_eq_getElem hkn] at hu
        injection hu with hu
        rw [hu]
      rw [hdrop, List.map_cons] at hQ
      have hum := List.mem_of_getElem? hu
      obtain ⟨gu, eu, fu, du, su, hTu, hgB, heu, hdu, hsu, htr, hfr⟩ := hT.out.on u hum
      have hq0 := hQ.out.head
      rw [hTu] at hq0
      have hQ' := Lib.hid hQ.out.pop
      have hcap2 : N' ≤ cap - 1 := by omega
      obtain ⟨A2, hA2⟩ : ∃ A2, (if cap = 1 then some (⟨gq, oq, none⟩ : Addr) else some ⟨gq, oq + 1, none⟩) = A2 := ⟨_, rfl⟩
      have hsl : ∀ W, (Instr.slice 89 (.slice (some ⟨gq, oq, none⟩) (N' + 1) cap) (some (.int .i64 1)) none none).run Tryz.prog W = .ok (.slice A2 N' (cap - 1)) W := fun W => by
        rw [← hA2]
        go_simp
        intro hh
        omega
      have hq0' : wr.cell? ⟨gq, oq, none⟩ = some (.pointer (some ⟨gu, 0, none⟩)) := hq0
      have hsuH := Lib.hid hsu
      have heuH := Lib.hid heu
      have huH := Lib.hid hu
      have hTuH := Lib.hid hTu
      have hA2H := Lib.hid hA2
      have hOB := Lib.hid (show Value.ownBlock (.slice A2 N' (cap - 1)) = some gq by rw [← hA2]; split <;> rfl)
      have hD' := Lib.hid (show ∀ x g, T x = some g → Value.ownBlock (.slice A2 N' (cap - 1)) ≠ some g ∧ g ≠ B1 from fun x g hx => ⟨by rw [hOB.out]; exact (hD.out x g hx).1, (hD.out x g hx).2⟩)
      have hQM' := Lib.hid (show Value.ownBlock (.slice A2 N' (cap - 1)) ≠ some B1 by rw [hOB.out]; exact hQM.out)
      have hptu := hSH.out.pt u eu heu
      clear hq0 hdrop hsu heu hu hTu hA2 htr hfr hdu hQ hD hQM hum
      go_wp2
      go_loopg [29, 7] 4 (fun g d v wy => ∃ (dn N2 : Nat) (T2 : Nat → Option Nat), dn + g = 4 ∧ d = .int .i64 (dn : Int) ∧ N2 + (k + 1) = (way4 (nbP ps) k st dn).1.length ∧ Hid (QRow wy w.heap.size 1 v N2 (((way4 (nbP ps) k st dn).1.drop (k + 1)).map fun x => ptrV (T2 x))) ∧ Hid (TMap wy B1 (way4 (nbP ps) k st dn).1.length (tripM ps T2)) ∧ Hid (Trips wy w.heap.size ps (way4 (nbP ps) k st dn) T2) ∧ Hid (∀ x g, T2 x = some g → v.ownBlock ≠ some g ∧ g ≠ B1) ∧ Hid (v.ownBlock ≠ some B1) ∧ Hid (T2 u = some gu) ∧ Hid (Below w.heap.size w wy))
      case atStart => exact ⟨0, N', T, by omega, rfl, (by show N' + (k + 1) = st.1.length; omega), Lib.hid (by rw [← hA2H.out]; exact hQ'.out), hM, hT, hD', hQM', hTuH, hbw⟩
      case round =>
        clear hQ' hM hT hD' hQM' hTuH hbw hsl hq0' hszl hcap hcap2 hgq1 hgq2 hOB hA2H
        obtain ⟨dn, N2, T2, hd, rfl, hN2, hQ2, hM2, hT2, hD2, hQM2, hTu2, hby⟩ := hrel
        have hszy := hby.out.size
        have hId := Lib.hid (hI.out.four (nb := nbP ps) k dn)
        have hlend := hId.out.length
        have hud := way4_at (nb := nbP ps) huH.out dn
        have h4 : way4 (nbP ps) k st (dn + 1) = way1 (nbP ps) k dn (way4 (nbP ps) k st dn) := rfl
        have h4' : dn = 4 → way4 (nbP ps) k st dn = wayS (nbP ps) s0 (k + 1) := fun e => by subst e; rw [← hstH.out]; rfl
        obtain ⟨sd, hsd⟩ : ∃ sd, way4 (nbP ps) k st dn = sd := ⟨_, rfl⟩
        rw [hsd] at hQ2 hM2 hT2 hId hlend hud h4 h4' hN2
        have h4H := Lib.hid h4
        have h4'H := Lib.hid h4'
        clear hsd h4 h4'
        obtain ⟨gq, oq, cap, rfl, hgq1, hgq2, hcap⟩ := hQ2.out.form
        by_cases hd4 : dn < 4
        · have hdI : (dn : Int) < 4 := by omega
          have hum := List.mem_of_getElem? hud
          obtain ⟨gu', e', f', d', s', hTu', hgB', heu', hdu', hsu', htr', hfr'⟩ := hT2.out.on u hum
          obtain rfl : gu' = gu := by rw [hTu2.out] at hTu'; injection hTu' with h; exact h.symm
          obtain rfl : e' = eu := by rw [heuH.out] at heu'; injection heu' with h; exact h.symm
          have hsB : 0 ≤ s' ∧ s' < (sd.1.length : Int) := by
            obtain ⟨s, h1, h2, h3⟩ := hId.out.is u hum
            rw [hsu'] at h1
            injection h1 with h1
            subst h1
            exact ⟨h2, h3⟩
          have tlt := htr'.lt
          have t0 := htr'.c0
          have t1 := htr'.c1
          have t4 := htr'.c4
          have hsu'H := Lib.hid hsu'
          have htrH := Lib.hid htr'
          obtain ⟨sx, hsxe⟩ : ∃ sx, stepX e'.x (dn : Nat) = sx := ⟨_, rfl⟩
          obtain ⟨sy, hsye⟩ : ∃ sy, stepY e'.y (dn : Nat) = sy := ⟨_, rfl⟩
          have hsr : (-62 ≤ sx ∧ sx ≤ 62) ∧ (-62 ≤ sy ∧ sy ≤ 62) := by
            rw [← hsxe, ← hsye]
            have : dn = 0 ∨ dn = 1 ∨ dn = 2 ∨ dn = 3 := by omega
            rcases this with rfl | rfl | rfl | rfl <;> simp [stepX, stepY] <;> omega
          have hsxH := Lib.hid hsxe
          have hsyH := Lib.hid hsye
          have hudH := Lib.hid hud
          have hAy := Lib.hid (hAH.out.below RPt.stable hby.out)
          clear hsxe hsye hud hTu' hdu' hsu' htr' hfr' heu'
          cases hix : idxP ps sx sy with
          | none =>
            have hms := Lib.hid (way1_none (d := dn) hudH.out heuH.out (by rw [hsxH.out, hsyH.out]; exact hix))
            have hlk := Lib.hid (tripM_none (T := T2) hix)
            have hmem := Lib.hid (idxP_off hix)
            clear hix
            go_wp2_with (first
              | (go_at_call 31; refine (step_any _ _ _ _ hd4 ⟨by omega, by omega⟩ ⟨by omega, by omega⟩).mono ?_; rw [hsxH.out, hsyH.out]; rintro e' w1 ⟨rfl, hb1⟩; obtain ⟨c1, f1, s1, t1⟩ := bcell hb1; have hs1 := hb1.size; have hb1H := Lib.hid hb1; clear hb1)
              | (at_lookup; refine wpList_look_tmap0 _ rfl _ _ rfl B1 _ _ rfl ((hM2.out.below hb1H.out).below (by exact bel_)) sx sy (W64.of (by omega)) (W64.of (by omega)) rfl hlk.out ?_)
              | (go_at_call 55; refine (isIn_at (L := ps) ((hAy.out.below RPt.stable hb1H.out).below RPt.stable (by exact bel_)) hSH.out.sortedS hn hmem.out).mono ?_; rintro e' w2 ⟨rfl, hb2⟩; have hs2 := hb2.size; have hb2H := Lib.hid hb2; clear hb2))
            have hb3H : Hid (Below wr.heap.size wr w2) := Lib.hid (((hb1H.out).alloc hs1 _).trans (hb2H.out.mono (by simp; omega)))
            go_roundg (4 - (dn + 1))
            case measure => omega
            case rel => exact ⟨dn + 1, N2, T2, by omega, by go_num, by rw [h4H.out, hms.out]; exact hN2, Lib.hid (by rw [h4H.out, hms.out]; exact hQ2.out.below hb3H.out), Lib.hid (by rw [h4H.out, hms.out]; exact hM2.out.below hb3H.out), Lib.hid (by rw [h4H.out, hms.out]; exact hT2.out.below hb3H.out), hD2, hQM2, hTu2, Lib.hid (hby.out.trans (hb3H.out.mono hszy))⟩
          | some v =>
            have hvp := idxP_some hix
            have hvn : v < n := by rw [← hlH.out]; exact lt_of_get hvp
            have hixH := Lib.hid (show idxP ps (stepX e'.x dn) (stepY e'.y dn) = some v by rw [hsxH.out, hsyH.out]; exact hix)
            by_cases hvm : v ∈ sd.1
            · obtain ⟨gv, ev, fv, dv, sv, hTv, _, _, _, hsv, _, _⟩ := hT2.out.on v hvm
              have hsv1 : sv ≠ -1 := by
                obtain ⟨s, h1, h2, _⟩ := hId.out.is v hvm
                rw [hsv] at h1
                injection h1 with h1
                omega
              have hms := Lib.hid (way1_old (d := dn) hudH.out heuH.out hixH.out hsv hsv1)
              have hlk := Lib.hid ((tripM_at (T := T2) hix).trans hTv)
              clear hix hTv hsv hsv1 hvp hvm
              go_wp2_with (first
                | (go_at_call 31; refine (step_any _ _ _ _ hd4 ⟨by omega, by omega⟩ ⟨by omega, by omega⟩).mono ?_; rw [hsxH.out, hsyH.out]; rintro e' w1 ⟨rfl, hb1⟩; obtain ⟨c1, f1, s1, t1⟩ := bcell hb1; have hs1 := hb1.size; have hb1H := Lib.hid hb1; clear hb1)
                | (at_lookup; refine wpList_look_tmap1 _ rfl _ _ rfl B1 _ _ rfl ((hM2.out.below hb1H.out).below (by exact bel_)) sx sy (W64.of (by omega)) (W64.of (by omega)) rfl gv hlk.out ?_))
              have hb3H : Hid (Below wr.heap.size wr (w1.alloc (Obj.cells #[.int .i64 sx, .int .i64 sy] 44))) := Lib.hid ((hb1H.out).alloc hs1 _)
              go_roundg (4 - (dn + 1))
              case measure => omega
              case rel => exact ⟨dn + 1, N2, T2, by omega, by go_num, by rw [h4H.out, hms.out]; exact hN2, Lib.hid (by rw [h4H.out, hms.out]; exact hQ2.out.below hb3H.out), Lib.hid (by rw [h4H.out, hms.out]; exact hM2.out.below hb3H.out), Lib.hid (by rw [h4H.out, hms.out]; exact hT2.out.below hb3H.out), hD2, hQM2, hTu2, Lib.hid (hby.out.trans (hb3H.out.mono hszy))⟩
            · have hv1 := (hId.out.other v hvn hvm).1
              have hms := Lib.hid (way1_new (d := dn) hudH.out heuH.out hixH.out hv1 hsu'H.out)
              have hlk := Lib.hid ((tripM_at (T := T2) hix).trans (hT2.out.off v hvm))
              have hmem := Lib.hid (idxP_mem hix)
              have hv1H := Lib.hid hv1
              have hvmH := Lib.hid hvm
              have hvpH := Lib.hid hvp
              clear hix hv1 hvp hvm
              go_wp2_with (first
                | (go_at_call 31; refine (step_any _ _ _ _ hd4 ⟨by omega, by omega⟩ ⟨by omega, by omega⟩).mono ?_; rw [hsxH.out, hsyH.out]; rintro e' w1 ⟨rfl, hb1⟩; obtain ⟨c1, f1, s1, t1⟩ := bcell hb1; have hs1 := hb1.size; have hb1H := Lib.hid hb1; clear hb1)
                | (at_lookup; refine wpList_look_tmap0 _ rfl _ _ rfl B1 _ _ rfl ((hM2.out.below hb1H.out).below (by exact bel_)) sx sy (W64.of (by omega)) (W64.of (by omega)) rfl hlk.out ?_)
                | (go_at_call 55; refine (isIn_at (L := ps) ((hAy.out.below RPt.stable hb1H.out).below RPt.stable (by exact bel_)) hSH.out.sortedS hn hmem.out).mono ?_; rintro e' w2 ⟨rfl, hb2⟩; have hs2 := hb2.size; have hb2H := Lib.hid hb2; clear hb2))
              have hb3H : Hid (Below wr.heap.size wr w2) := Lib.hid (((hb1H.out).alloc hs1 _).trans (hb2H.out.mono (by simp; omega)))
              have hs3 := hb3H.out.size
              have p0 : w2.cell? ⟨w1.heap.size, 0, none⟩ = some (.int .i64 sx) := (hb2H.out.cell (p := ⟨w1.heap.size, 0, none⟩) (by simp)).trans (by go_simp)
              have p1 : w2.cell? ⟨w1.heap.size, 1, none⟩ = some (.int .i64 sy) := (hb2H.out.cell (p := ⟨w1.heap.size, 1, none⟩) (by simp)).trans (by go_simp)
              have t4' : w2.cell? ⟨gu', 4, none⟩ = some (.int .i64 s') := (hb3H.out.cell (p := ⟨gu', 4, none⟩) tlt).trans t4
              have tlt' : gu' < w2.heap.size := by omega
              have hs2' : w1.heap.size < w2.heap.size := by simp at hs2; omega
              clear c1 f1 s1 t1 t0 t4
              refine wp_region_ord [(0, .q), (1, .q), (2, .q), (4, .q), (5, .q), (6, .q), (7, .q), (8, .q), (3, .g), (9, .q), (10, .g), (11, .q)] (by kernel_rfl) (by kernel_rfl) ?_
              simp only [pick, List.filterMap_cons, List.filterMap_nil, List.getElem?_toArray, List.getElem?_cons_zero, List.getElem?_cons_succ, Option.map_some]
              repeat (first
                | ((with_reducible refine wpD_p (fun K hK => ?_)); go_simp; refine hK _ ?_; clear hK K)
                | ((with_reducible refine wpD_q (fun K hK => ?_)); go_simp; (first | refine hK _ ?_ | (go_bits; refine hK _ ?_) | (go_bits; go_simp; refine hK _ ?_)); clear hK K)
                | ((with_reducible refine wpD_g (fun K hK => ?_)); go_simp; refine hK _ _ ?_; clear hK K)
                | ((with_reducible refine wpD_g (fun K hK => ?_)); go_simp; refine ⟨Grew.of_alloc _, hK _ _ ?_⟩; clear hK K)
                | ((with_reducible refine wpD_g (fun K hK => ?_)); go_simp; go_at_call 35; refine (opposite_any _ _ hd4).mono ?_; rintro e _ ⟨rfl, rfl⟩; refine ⟨_, rfl, Below.refl _ _, hK _ _ ?_⟩; clear hK K))
              with_reducible refine wpD_nil ?_
              have hMl := hM2.out.lt
              have hwx : Hid (Below w2.heap.size w2 (w2.alloc (Obj.cells #[.int .i64 sx, .int .i64 sy, .pointer (some ⟨gu', 0, none⟩), .int .i64 (oppN dn : Int), .int .i64 (s' + 1)] 66)).drew) := Lib.hid (by exact bel_)
              have htx : Hid (TripAt (w2.alloc (Obj.cells #[.int .i64 sx, .int .i64 sy, .pointer (some ⟨gu', 0, none⟩), .int .i64 (oppN dn : Int), .int .i64 (s' + 1)] 66)).drew w2.heap.size ⟨sx, sy⟩ (T2 u) (backI dn) (s' + 1)) := Lib.hid (by
                rw [hTu2.out, ← oppN_back dn hd4]
                exact ⟨by simp, by go_simp, by go_simp, by go_simp; rfl, by go_simp, by go_simp, _, hp_new _ _⟩)
              have hTx := Lib.hid (((hT2.out.below hb3H.out).below hwx.out).push hId.out hv1H.out hvn hvpH.out (List.mem_of_getElem? hudH.out) hd4 (nbP_back hSH.out heuH.out hd4 hixH.out) (by omega) (fun x y hx => by have := (hT2.out.lt hx).2; omega) htx.out)
              obtain ⟨T', hT'⟩ : ∃ T', (fun x => if x = v then some w2.heap.size else T2 x) = T' := ⟨_, rfl⟩
              have hTn : ∀ x g, T' x = some g → g ≠ B1 ∧ g ≠ gq := fun x g hx => by
                rw [← hT'] at hx
                simp only [] at hx
                split at hx
                · injection hx with hx
                  exact ⟨by omega, by omega⟩
                · exact ⟨(hD2.out x g hx).2, fun e => (hD2.out x g hx).1 (by rw [e]; rfl)⟩
              have hTl : ∀ x g, T' x = some g → g ≤ w2.heap.size := fun x g hx => by
                rw [← hT'] at hx
                simp only [] at hx
                split at hx
                · injection hx with hx
                  omega
                · have := (hT2.out.lt hx).2; omega
              have hne : ∀ x, x ∈ sd.1 → x ≠ v := fun x hx e => hvmH.out (e ▸ hx)
              have hTo : ∀ x, x ∈ sd.1 → T' x = T2 x := fun x hx => by rw [← hT']; simp [hne x hx]
              have hTv : T' v = some w2.heap.size := by rw [← hT']; simp
              have hQn : (((sd.1 ++ [v]).drop (k + 1)).map fun x => ptrV (T' x)) = ((sd.1.drop (k + 1)).map fun x => ptrV (T2 x)) ++ [.pointer (some ⟨w2.heap.size, 0, none⟩)] := by
                rw [List.drop_append_of_le_length (by omega), List.map_append, List.map_singleton, hTv]
                congr 1
                exact List.map_congr_left fun x hx => by rw [hTo x (List.mem_of_mem_drop hx)]
              have hsay := tripM_put hSH.out hvpH.out (T := T2) (g := w2.heap.size)
              rw [hT'] at hTx hsay
              have hTnH := Lib.hid hTn
              have hTlH := Lib.hid hTl
              have hToH := Lib.hid hTo
              have hQnH := Lib.hid hQn
              have hsayH := Lib.hid hsay
              clear hTn hTl hTo hQn hsay hne hTv hT'
              go_wp2_with (first
                | (at_mapUpdate; refine wpList_put_tmap _ rfl _ _ _ (.inl rfl) B1 _ _ rfl ((hM2.out.below hb3H.out).below hwx.out) sx sy (W64.of (by omega)) (W64.of (by omega)) _ (by unfold maxLen; omega) rfl rfl ?_; intro w6 hM6 hg6; have hs6 : w2.heap.size + 1 ≤ w6.heap.size := (by have := hg6.size; simpa using this); have hM6H := Lib.hid hM6; have hg6H := Lib.hid hg6; have hQ6 := Lib.hid (((hQ2.out.below hb3H.out).below hwx.out).kept hg6 hQM2.out); clear hM6 hg6)
                | (at_builtin; refine wpList_append_q rfl _ _ 89 rfl w.heap.size 64 i0 (.pointer none) 1 8 Tryz.underlying89 hi hz0 hz1 hz2 rfl (by decide) _ N2 _ rfl (hQ6.out.below (bl_al (bl_refl _) _)) ⟨w6.heap.size, 0, none⟩ 1 1 [.pointer (some ⟨w2.heap.size, 0, none⟩)] rfl rfl (cell_one_new _ _ _) (fun x hx => by simp at hx; subst hx; rfl) (by omega) (by unfold maxLen; omega) (by omega) (by simp; omega) ?_; intro v7 w7 hq7 hg7 hat7; have hq7H := Lib.hid hq7; have hg7H := Lib.hid hg7; have hat7H := Lib.hid hat7; clear hq7 hg7 hat7))
              go_roundg (4 - (dn + 1))
              case measure => omega
              case rel =>
                refine ⟨dn + 1, N2 + 1, T', by omega, by go_num, ?_, Lib.hid ?_, Lib.hid ?_, Lib.hid ?_, Lib.hid ?_, Lib.hid ?_, Lib.hid ?_, Lib.hid ?_⟩
                · rw [h4H.out, hms.out]; simp; omega
                · rw [h4H.out, hms.out]
                  show QRow w7 w.heap.size 1 v7 (N2 + 1) (((sd.1 ++ [v]).drop (k + 1)).map fun x => ptrV (T' x))
                  rw [hQnH.out]
                  exact hq7H.out
                · rw [h4H.out, hms.out]
                  have h1 := ((hM6H.out.below (bl_al (bl_refl _) _)).kept hg7H.out (Ne.symm hQM2.out)).say hsayH.out
                  simpa using h1
                · rw [h4H.out, hms.out]
                  exact ((hTx.out.kept hg6H.out (fun x g hx e => by injection e with e; exact (hTnH.out x g hx).1 e)).below (bl_al (bl_refl _) _)).kept hg7H.out (fun x g hx e => by injection e with e; exact (hTnH.out x g hx).2 e)
                · intro x g hx
                  refine ⟨fun e => ?_, (hTnH.out x g hx).1⟩
                  rcases hat7H.out with h | h
                  · rw [h] at e; injection e with e; exact (hTnH.out x g hx).2 e.symm
                  · rw [h] at e
                    injection e with e
                    have := hTlH.out x g hx
                    simp at e
                    omega
                · intro e
                  rcases hat7H.out with h | h
                  · exact hQM2.out (h.symm.trans e)
                  · rw [h] at e
                    injection e with e
                    simp at e
                    omega
                · rw [hToH.out u (List.mem_of_getElem? hudH.out)]; exact hTu2.out
                · have b1 : Below w.heap.size w (w2.alloc (Obj.cells #[.int .i64 sx, .int .i64 sy, .pointer (some ⟨gu', 0, none⟩), .int .i64 (oppN dn : Int), .int .i64 (s' + 1)] 66)).drew := (hby.out.trans (hb3H.out.mono hszy)).trans (hwx.out.mono (by omega))
                  have b2 : Below w.heap.size w w6 := b1.grown hg6H.out (by simp; omega) (fun q e => by injection e with e; omega)
                  exact (b2.alloc (by omega) _).grown hg7H.out (by simp; omega) (fun q e => by (have e1 : some gq = some q := e); injection e1 with e1; omega)
        · obtain rfl : dn = 4 := by omega
          go_wp2
          go_roundg (n - (k + 1))
          case measure => omega
          case rel =>
            have h5 := h4'H.out (by simp)
            exact ⟨k + 1, N2, T2, by omega, by rw [← h5]; exact hN2, Lib.hid (by rw [← h5]; exact hQ2.out), Lib.hid (by rw [← h5]; exact hM2.out), Lib.hid (by rw [← h5]; exact hT2.out), hD2, hQM2, hby⟩
    · have hend := Lib.hid (wayS_end hI0H.out (nb := nbP ps) (k := k) (by rw [hstH.out]; omega))
      obtain rfl : N = 0 := by omega
      go_wp2
      go_ret
      refine ⟨B1, _, T, rfl, hM.out, by rw [hlH.out]; exact hlen, ?_, hbw.out⟩
      rw [hlH.out, hs0H.out, ← hend.out, hstH.out]
      exact hT.out
end Go.Proofs.YtdcndhiidjgmaaaGreatDoor
