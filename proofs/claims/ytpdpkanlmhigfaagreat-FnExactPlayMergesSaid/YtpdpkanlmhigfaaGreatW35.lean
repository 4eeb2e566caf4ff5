/- What JoinStrength computes; the program's walk. -/
import Derived.Test.YtpdpkanlmhigfaaGreatW34
namespace Go.Proofs.YtpdpkanlmhigfaaGreat
open Go.RowKit Go.Shelf
set_option linter.unusedSimpArgs false
set_option linter.unusedVariables false
attribute [local go_sem] BelowBy.cell BelowBy.cell_drew stillUpon givesUpon BelowBy.cell_drew2 BelowBy.cell_drew3

theorem allB_ex {n : Nat} {p : Nat → Bool} (h : allB n p = false) : ∃ k, k < n ∧ p k = false := by
  simp only [allB, List.all_eq_false, List.mem_range] at h
  obtain ⟨k, hk, hp⟩ := h
  exact ⟨k, hk, by simpa using hp⟩
theorem lessPt_mv (ax ay bx b_y dx dy : Int) : lessPt (ax + dx) (ay + dy) (bx + dx) (b_y + dy) = lessPt ax ay bx b_y := by
  rw [Bool.eq_iff_iff, lessPt_iff, lessPt_iff]; omega
theorem hasForm_mv {gs : List Gl} {ts : List Ti} {ys : List Pl} (dx dy : Int) (hV : Valid gs ts ys) : hasFormB (mvL dx dy ys) = mvOk dx dy ys := by
  cases hm : mvOk dx dy ys
  · obtain ⟨k, hk, hp⟩ := allB_ex hm
    have he := List.getElem?_eq_getElem hk
    rw [okMv_eq he] at hp
    refine hasFormB_bad (k := k) (by rw [mvL_len]; exact hk) ?_
    cases k with
    | zero => rw [okPl_eq0 (mvL_get he)]; simp only [mvP]; rw [hp]; rfl
    | succ k => rw [okPl_eqS (mvL_get he) (mvL_get (List.getElem?_eq_getElem (by omega)))]; simp only [mvP]; rw [hp]; rfl
  · refine hasFormB_ok (by rw [mvL_len]; exact hV.len) (fun j hj => ?_)
    rw [mvL_len] at hj
    have he := List.getElem?_eq_getElem hj
    have hp := allB_at hm hj
    rw [okMv_eq he] at hp
    obtain ⟨t, ht, htl⟩ := hV.ti j _ he
    have htl2 := hV.tl
    have h2 : inB ys[j].t 0 159 = true := inB_true.2 (by omega)
    cases j with
    | zero => rw [okPl_eq0 (mvL_get he)]; simp only [mvP]; rw [hp, h2]; rfl
    | succ k =>
      have hd := List.getElem?_eq_getElem (l := ys) (i := k) (by omega)
      rw [okPl_eqS (mvL_get he) (mvL_get hd)]; simp only [mvP]; rw [hp, h2, lessPt_mv, hV.sorted k (k + 1) _ _ (by omega) hd he]; rfl
noncomputable def freeAt (xs ms : List Pl) (k : Nat) : Bool := match ms[k]? with
  | some e => decide (placeI xs e.x e.y < 0)
  | none => true
theorem freeAt_eq {xs ms : List Pl} {k : Nat} {e : Pl} (h : ms[k]? = some e) : freeAt xs ms k = decide (placeI xs e.x e.y < 0) := by unfold freeAt; rw [h]
noncomputable def sumJ (gs : List Gl) (ts : List Ti) (xs ms : List Pl) : Nat → Int
  | 0 => 0
  | k + 1 => sumJ gs ts xs ms k + (match ms[k]? with
    | some e => bindN gs ts xs e.x e.y e.t.toNat 4
    | none => 0)
theorem sumJ_bound {gs : List Gl} {ts : List Ti} {xs : List Pl} (hV : Valid gs ts xs) (ms : List Pl) (k : Nat) : 0 ≤ sumJ gs ts xs ms k ∧ sumJ gs ts xs ms k ≤ 16 * (k : Int) := by
  induction k with
  | zero => simp [sumJ]
  | succ k ih =>
    simp only [sumJ]
    split
    · rename_i e _
      have := bindN_bound hV e.x e.y e.t.toNat 4
      omega
    · omega
theorem sumJ_succ {gs : List Gl} {ts : List Ti} {xs ms : List Pl} {k t : Nat} {e : Pl} {S r : Int} (hS : sumJ gs ts xs ms k = S) (h : ms[k]? = some e) (ht : e.t = t) (hr : bindN gs ts xs e.x e.y t 4 = r) : sumJ gs ts xs ms (k + 1) = S + r := by
  simp only [sumJ, h]
  have : e.t.toNat = t := by omega
  rw [this, hS, hr]
noncomputable def joinE (gs : List Gl) (ts : List Ti) (xs ms : List Pl) : Int × Int := if allB ms.length (freeAt xs ms) = true then (sumJ gs ts xs ms ms.length, 0) else (0, 7)
noncomputable def joinM (gs : List Gl) (ts : List Ti) (xs ys : List Pl) (dx dy : Int) : Int × Int :=
  if inB dx (-120) 120 = false then (0, 2) else if inB dy (-120) 120 = false then (0, 2) else if mvOk dx dy ys = false then (0, 2) else joinE gs ts xs (mvL dx dy ys)
noncomputable def joinR (gs : List Gl) (ts : List Ti) (xs ys : List Pl) (dx dy : Int) : Int × Int :=
  if validAsmB gs ts xs = false then (0, 1) else if validAsmB gs ts ys = false then (0, 1) else joinM gs ts xs ys dx dy
theorem joinE_hit {gs : List Gl} {ts : List Ti} {xs ms : List Pl} {k : Nat} {e : Pl} {i : Nat} (h : ms[k]? = some e) (hp : placeI xs e.x e.y = i) : ((0, 7) : Int × Int) = joinE gs ts xs ms := by
  unfold joinE
  rw [allB_false (lt_of_get h) ((freeAt_eq h).trans (decide_eq_false (by omega))), if_neg (by decide)]
theorem joinE_all {gs : List Gl} {ts : List Ti} {xs ms : List Pl} (h : ∀ j, j < ms.length → freeAt xs ms j = true) : (sumJ gs ts xs ms ms.length, 0) = joinE gs ts xs ms := by
  unfold joinE
  rw [allB_true h, if_pos rfl]
theorem hasForm_at {A : Option Addr} {n c : Nat} {xs : List Pl} {w : World} {v : Bool} (h : RdSl 3 RPl w A n xs) (hn : n ≤ 1073741824) (hv : hasFormB xs = v) :
    Calls Tryz.prog 84 #[.agg #[.slice A n c]] w fun e w' => e = .returned (.bool v) ∧ Below w.heap.size w w' := by
  rw [← hv]; exact hasForm_any A n c xs w h hn
/-- where the moved tiles stand -/
theorem mv_pt {gs : List Gl} {ts : List Ti} {ys : List Pl} {dx dy : Int} (hV : Valid gs ts ys) (hm : mvOk dx dy ys = true) {k : Nat} {e : Pl} (h : (mvL dx dy ys)[k]? = some e) : (-60 ≤ e.x ∧ e.x ≤ 60) ∧ (-60 ≤ e.y ∧ e.y ≤ 60) ∧ ∃ t : Nat, e.t = t ∧ t < ts.length := by
  have hk := lt_of_get h
  rw [mvL_len] at hk
  have he := List.getElem?_eq_getElem hk
  rw [mvL_get he] at h
  obtain rfl := Option.some.inj h
  have hp := allB_at hm hk
  rw [okMv_eq he] at hp
  simp only [validPt, Bool.and_eq_true, inB_true] at hp
  have ht := hV.ti k _ he
  exact ⟨hp.1, hp.2, ht⟩
set_option maxRecDepth 100000 in
set_option maxHeartbeats 2000000 in
theorem joinStrength_any (G T A C : Option Addr) (n cg m ct q ca nb cb : Nat) (gs : List Gl) (ts : List Ti) (xs ys : List Pl) (dx dy : Int) (w : World) (hS : SA w G n T m A q gs ts xs) (hC : RdSl 3 RPl w C nb ys) (hV : Valid gs ts xs) (hVb : Valid gs ts ys) :
    Calls Tryz.prog 61 #[.agg #[.slice G n cg, .slice T m ct], .agg #[.slice A q ca], .agg #[.slice C nb cb], .agg #[.int .i64 dx, .int .i64 dy]] w (ChkRes w (joinM gs ts xs ys dx dy)) := by
  have hlb := hC.len
  have hlb5 := hVb.len
  have hSH := Lib.hid hS
  have hCH := Lib.hid hC
  clear hS hC
  cases hx : inB dx (-120) 120
  · have hxH := Lib.hid hx
    have hrH := Lib.hid (show (0, 2) = joinM gs ts xs ys dx dy by unfold joinM; rw [if_pos hx])
    go_enter Tryz.func61, Tryz.ntmps61
    go_wp2_with (go_at_call 60; refine (within_any _ _ _ _).mono ?_; rintro e _ ⟨rfl, rfl⟩)
    go_ret2
    exact ChkRes.of hrH.out (by exact bel_)
  · cases hy : inB dy (-120) 120
    · have hxH := Lib.hid hx
      have hyH := Lib.hid hy
      have hrH := Lib.hid (show (0, 2) = joinM gs ts xs ys dx dy by unfold joinM; rw [if_neg (by rw [hx]; decide), if_pos hy])
      go_enter Tryz.func61, Tryz.ntmps61
      go_wp2_with (go_at_call 60; refine (within_any _ _ _ _).mono ?_; rintro e _ ⟨rfl, rfl⟩)
      go_ret2
      exact ChkRes.of hrH.out (by exact bel_)
    · have hxI := inB_true.1 hx
      have hyI := inB_true.1 hy
      have hxH := Lib.hid hx
      have hyH := Lib.hid hy
      cases hm : mvOk dx dy ys
      · have hrH := Lib.hid (show (0, 2) = joinM gs ts xs ys dx dy by unfold joinM; rw [if_neg (by rw [hx]; decide), if_neg (by rw [hy]; decide), if_pos hm])
        have hfH := Lib.hid ((hasForm_mv dx dy hVb).trans hm)
        clear hm
        go_enter Tryz.func61, Tryz.ntmps61
        go_wp2_with (go_at_call 60; refine (within_any _ _ _ _).mono ?_; rintro e _ ⟨rfl, rfl⟩)
        refine (moved_any _ _ _ ys dx dy _ (hCH.out.below RPl.stable (by exact bel_)) (by omega) hVb.pt hxI hyI).mono ?_
        rintro e w1 ⟨B, c', rfl, hrd, hb1⟩
        have hrdH := Lib.hid hrd
        clear hrd
        go_wp2_with fail
        refine (hasForm_at (hrdH.out.below RPl.stable (by exact bel_)) (by omega) hfH.out).mono ?_
        rintro e w2 ⟨rfl, hb2⟩
        go_wp2
        go_ret2
        exact ChkRes.of hrH.out (by exact bel_)
      · have hrH := Lib.hid (show joinE gs ts xs (mvL dx dy ys) = joinM gs ts xs ys dx dy by unfold joinM; rw [if_neg (by rw [hx]; decide), if_neg (by rw [hy]; decide), if_neg (by rw [hm]; decide)])
        have hfH := Lib.hid ((hasForm_mv dx dy hVb).trans hm)
        obtain ⟨ms, hms⟩ : ∃ ms, mvL dx dy ys = ms := ⟨_, rfl⟩
        have hml : ms.length = nb := by rw [← hms, mvL_len, hlb]
        have hpt : ∀ (k : Nat) (e : Pl), ms[k]? = some e → (-60 ≤ e.x ∧ e.x ≤ 60) ∧ (-60 ≤ e.y ∧ e.y ≤ 60) ∧ ∃ t : Nat, e.t = t ∧ t < ts.length := fun k e h => by rw [← hms] at h; exact mv_pt hVb hm h
        have hptH := Lib.hid hpt
        clear hm hpt
        go_enter Tryz.func61, Tryz.ntmps61
        go_wp2_with (go_at_call 60; refine (within_any _ _ _ _).mono ?_; rintro e _ ⟨rfl, rfl⟩)
        refine (moved_any _ _ _ ys dx dy _ (hCH.out.below RPl.stable (by exact bel_)) (by omega) hVb.pt hxI hyI).mono ?_
        rintro e w1 ⟨B, c', rfl, hrd, hb1⟩
        rw [hms] at hrd hfH hrH
        have hrdH := Lib.hid hrd
        clear hrd hms
        obtain ⟨chb1, fhb1, shb1, thb1⟩ := bcell hb1
        have j0 := shb1 w.heap.size (by go_simp)
        have j1 := shb1 (w.heap.size + 1) (by go_simp)
        go_wp2_with fail
        refine (hasForm_at (hrdH.out.below RPl.stable (by exact bel_)) (by omega) hfH.out).mono ?_
        rintro e w2 ⟨rfl, hb2⟩
        have y0 : w2.cell? ⟨w.heap.size, 0, none⟩ = some (.slice G n cg) := (hb2.cell (p := ⟨w.heap.size, 0, none⟩) (by simp; omega)).trans (by go_simp)
        have y1 : w2.cell? ⟨w.heap.size, 1, none⟩ = some (.slice T m ct) := (hb2.cell (p := ⟨w.heap.size, 1, none⟩) (by simp; omega)).trans (by go_simp)
        have y2 : w2.cell? ⟨w.heap.size + 1, 0, none⟩ = some (.slice A q ca) := (hb2.cell (p := ⟨w.heap.size + 1, 0, none⟩) (by simp; omega)).trans (by go_simp)
        have y3 : w2.cell? ⟨w1.heap.size, 0, none⟩ = some (.slice B nb c') := (hb2.cell (p := ⟨w1.heap.size, 0, none⟩) (by simp)).trans (by go_simp)
        have s2 : w.heap.size + 1 < w2.heap.size := Nat.lt_of_lt_of_le (by simp; omega) hb2.size
        have s3 : w1.heap.size < w2.heap.size := Nat.lt_of_lt_of_le (by simp) hb2.size
        have hR2 := Lib.hid (hrdH.out.below RPl.stable (show Below w1.heap.size w1 w2 by exact bel_))
        have hB2 : Below w.heap.size w w2 := by exact bel_
        have hB2H := Lib.hid hB2
        clear chb1 fhb1 shb1 thb1 hb1 hb2 hB2
        go_wp2
        go_loopg [33, 11] nb (fun r x s wr => ∃ k : Nat, k + r = nb ∧ x = .int .i64 (k : Int) ∧ s = .int .i64 (sumJ gs ts xs ms k) ∧ Hid (∀ j, j < k → freeAt xs ms j = true) ∧ Below w2.heap.size w2 wr)
        case atStart => exact ⟨0, by omega, rfl, rfl, Lib.hid (fun j hj => by omega), bl_refl _⟩
        case round =>
          obtain ⟨k, hk, rfl, rfl, hfr, hbw⟩ := hrel
          have hbd := sumJ_bound hV ms k
          by_cases hkn : k < nb
          · obtain ⟨e, he⟩ : ∃ e, ms[k]? = some e := ⟨_, List.getElem?_eq_getElem (by omega)⟩
            obtain ⟨ex, ey, t, ht, htl⟩ := hptH.out k e he
            obtain ⟨b, o, hAe, hb, hc⟩ := (hR2.out.below RPl.stable hbw).ptr (by omega)
            obtain ⟨c0, c1, c2⟩ := hc k e he
            rw [ht] at c2
            subst hAe
            obtain ⟨S, hSS⟩ : ∃ S, sumJ gs ts xs ms k = S := ⟨_, rfl⟩
            rw [hSS] at hbd
            rw [hSS]
            have b0 : 0 ≤ S := hbd.1
            have b1 : S ≤ 8000 := by have := hbd.2; omega
            have z0 := (hbw.cell (p := ⟨w.heap.size, 0, none⟩) (by simp; omega)).trans y0
            have z1 := (hbw.cell (p := ⟨w.heap.size, 1, none⟩) (by simp; omega)).trans y1
            have z2 := (hbw.cell (p := ⟨w.heap.size + 1, 0, none⟩) (by simp; omega)).trans y2
            have z3 := (hbw.cell (p := ⟨w1.heap.size, 0, none⟩) (by simp; omega)).trans y3
            have sz := hbw.size
            have l0 : w.heap.size < wr.heap.size := by omega
            have l1 : w.heap.size + 1 < wr.heap.size := by omega
            have hSSH := Lib.hid hSS
            have heH := Lib.hid he
            have htH := Lib.hid ht
            have hS4 := Lib.hid (hSH.out.below (hB2H.out.trans (hbw.mono (by omega))))
            clear hc he ht hSS hbd y0 y1 y2 y3
            rcases atI_cases hV e.x e.y with ⟨hp, hat⟩ | ⟨i, t2, d, hp, _, _, ht2, hat⟩
            · have hatH := Lib.hid hat
              obtain ⟨r, hr⟩ : ∃ r, bindN gs ts xs e.x e.y t 4 = r := ⟨_, rfl⟩
              have hrr := bindN_bound hV e.x e.y t 4
              rw [hr] at hrr
              have r0 : 0 ≤ r := hrr.1
              have r1 : r ≤ 16 := by have := hrr.2; omega
              have hnx := Lib.hid (sumJ_succ hSSH.out heH.out htH.out hr)
              have hbrH := Lib.hid hr
              have hfk := Lib.hid ((freeAt_eq (xs := xs) heH.out).trans (decide_eq_true (by omega)))
              clear hat hr hrr
              go_wp2_with (first
                | (go_at_call 88; refine (at_at (hS4.out.A.below RPl.stable (by exact bel_)) hV hatH.out).mono ?_; rintro e w3 ⟨rfl, hb3⟩; obtain ⟨chb3, fhb3, shb3, thb3⟩ := bcell hb3)
                | (go_at_call 89; refine (binding_at t rfl (hS4.out.G.below RGl.stable (by exact bel_)) (hS4.out.T.below RTi.stable (by exact bel_)) (hS4.out.A.below RPl.stable (by exact bel_)) hV htl ⟨by omega, by omega⟩ ⟨by omega, by omega⟩ hbrH.out).mono ?_; rintro e w4 ⟨rfl, hb4⟩; obtain ⟨chb4, fhb4, shb4, thb4⟩ := bcell hb4))
              go_roundg (nb - (k + 1))
              case measure => omega
              case rel => exact ⟨k + 1, by omega, by go_num, by rw [hnx.out], Lib.hid (fun j hj => by
                  rcases Nat.lt_succ_iff_lt_or_eq.1 hj with hj | rfl
                  · exact hfr.out j hj
                  · exact hfk.out), bl_tr hbw (by exact bel_)⟩
            · have hatH := Lib.hid hat
              have hhit := Lib.hid (joinE_hit (gs := gs) (ts := ts) (xs := xs) heH.out hp)
              clear hat hp
              go_wp2_with (go_at_call 88; refine (at_at (hS4.out.A.below RPl.stable (by exact bel_)) hV hatH.out).mono ?_; rintro e w3 ⟨rfl, hb3⟩; obtain ⟨chb3, fhb3, shb3, thb3⟩ := bcell hb3)
              go_ret2
              exact ChkRes.of (hhit.out.trans hrH.out) (hB2H.out.trans ((bl_tr hbw (by exact bel_)).mono (by omega)))
          · obtain rfl : k = nb := by omega
            have hall := Lib.hid (joinE_all (gs := gs) (ts := ts) (xs := xs) (ms := ms) (by rw [hml]; exact hfr.out))
            go_wp2
            go_ret2
            refine ChkRes.of ?_ (hB2H.out.trans (hbw.mono (by omega)))
            rw [← hrH.out, ← hall.out, hml]
end Go.Proofs.YtpdpkanlmhigfaaGreat
