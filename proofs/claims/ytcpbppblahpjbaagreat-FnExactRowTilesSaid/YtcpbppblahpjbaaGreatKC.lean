import Derived.Test.YtcpbppblahpjbaaGreatKS
import Derived.Test.YtcpbppblahpjbaaGreatW20a
import Derived.Test.YtcpbppblahpjbaaGreatKE
import Derived.Test.YtcpbppblahpjbaaGreatN1
import Derived.Test.YtcpbppblahpjbaaGreatOrdApp
/- Walks: systems: the reference's test and the program's. -/

namespace Go.Proofs.YtcpbppblahpjbaaGreat
open Go.RowKit Go.Shelf
set_option linter.unusedSimpArgs false
set_option linter.unusedVariables false
attribute [local go_sem] BelowBy.cell BelowBy.cell_drew stillUpon givesUpon BelowBy.cell_drew2 BelowBy.cell_drew3

/-- a valid system -/
noncomputable def sysOkB (gs : List Gl) (ts : List Ti) (xs : List Pl) (t : Int) : Bool := decide (0 < xs.length) && (isStabR gs ts xs t).1
theorem isStabR_cases (gs : List Gl) (ts : List Ti) (xs : List Pl) (t : Int) : (∃ c : Int, c ≠ 0 ∧ isStabR gs ts xs t = (false, c)) ∨ ∃ b, isStabR gs ts xs t = (b, 0) := by
  unfold isStabR
  split
  · exact .inl ⟨1, by decide, rfl⟩
  · split
    · exact .inl ⟨2, by decide, rfl⟩
    · unfold stabVR stabR
      split
      · exact .inl ⟨4, by decide, rfl⟩
      · exact .inr ⟨_, rfl⟩
theorem sysOkB_valid {gs : List Gl} {ts : List Ti} {xs : List Pl} {t : Int} (h : sysOkB gs ts xs t = true) : validAsmB gs ts xs = true ∧ 0 < xs.length ∧ tempB t = true := by
  unfold sysOkB at h
  simp only [Bool.and_eq_true, decide_eq_true_eq] at h
  obtain ⟨h1, h2⟩ := h
  refine ⟨?_, h1, ?_⟩
  · cases hv : validAsmB gs ts xs
    · rw [← isStabR_no hv] at h2; cases h2
    · rfl
  · cases hv : validAsmB gs ts xs
    · rw [← isStabR_no hv] at h2; cases h2
    · cases ht : tempB t
      · rw [← isStabR_range hv ht] at h2; cases h2
      · rfl
structure SysAt (w : World) (p o : Nat) (gs : List Gl) (ts : List Ti) (xs : List Pl) (t : Int) : Prop where
  sat : SAt w p o p (o + 2) gs ts xs
  temp : w.cell? ⟨p, o + 3, none⟩ = some (.int .i64 t)
section
variable {w w' : World} {p o q oq : Nat} {gs : List Gl} {ts : List Ti} {xs : List Pl} {t : Int}
theorem SysAt.below (h : SysAt w p o gs ts xs t) (hb : Below w.heap.size w w') : SysAt w' p o gs ts xs t :=
  ⟨h.sat.below hb, (hb.cell (p := ⟨p, o + 3, none⟩) h.sat.s.lt).trans h.temp⟩
theorem SA.sysbox {G T A : Option Addr} {n m k : Nat} (h : SA w G n T m A k gs ts xs) (cg ct ca : Nat) (t : Int) : SysAt (w.alloc (Obj.cells #[.slice G n cg, .slice T m ct, .slice A k ca, .int .i64 t] 43)) w.heap.size 0 gs ts xs t :=
  ⟨⟨⟨by simp, ⟨G, n, cg, by go_simp, h.G.below RGl.stable (by repeat (first | with_reducible exact bl_refl _ | with_reducible assumption | with_reducible refine bl_al ?_ _ | with_reducible refine bl_dr ?_ | with_reducible refine bl_tr ?_ (by assumption) | with_reducible refine bl_set ?_ ?_ _ | with_reducible exact Nat.le_refl _ | omega | (simp only [World.size_alloc, World.size_setCell, World.size_drew] at *; omega) | (dsimp only; omega) | (simp; done) | (simp; omega)))⟩, ⟨T, m, ct, by go_simp, h.T.below RTi.stable (by repeat (first | with_reducible exact bl_refl _ | with_reducible assumption | with_reducible refine bl_al ?_ _ | with_reducible refine bl_dr ?_ | with_reducible refine bl_tr ?_ (by assumption) | with_reducible refine bl_set ?_ ?_ _ | with_reducible exact Nat.le_refl _ | omega | (simp only [World.size_alloc, World.size_setCell, World.size_drew] at *; omega) | (dsimp only; omega) | (simp; done) | (simp; omega)))⟩⟩, ⟨by simp, A, k, ca, by go_simp, h.A.below RPl.stable (by repeat (first | with_reducible exact bl_refl _ | with_reducible assumption | with_reducible refine bl_al ?_ _ | with_reducible refine bl_dr ?_ | with_reducible refine bl_tr ?_ (by assumption) | with_reducible refine bl_set ?_ ?_ _ | with_reducible exact Nat.le_refl _ | omega | (simp only [World.size_alloc, World.size_setCell, World.size_drew] at *; omega) | (dsimp only; omega) | (simp; done) | (simp; omega)))⟩,
    by rw [h.A.len]; exact h.q, by rw [h.G.len]; exact h.gm, by rw [h.T.len]; exact h.tm, h.gn, h.tn⟩, by go_simp⟩
theorem SAt.set {v : Bool} (h : SAt w p o q oq gs ts xs) (hv : validSetB gs ts = v) :
    Calls Tryz.prog 166 #[.pointer (some ⟨p, o, none⟩)] w fun e w' => e = .returned (.bool v) ∧ Below w.heap.size w w' := by
  rw [← hv]; exact l02Ok_any _ gs ts _ h.s (Nat.le_trans h.gm (by decide)) (Nat.le_trans h.tm (by decide)) h.gn h.tn
theorem SAt.form {v : Bool} (h : SAt w p o q oq gs ts xs) (hv : (hasFormB xs && allB xs.length (okTile ts.length xs)) = v) :
    Calls Tryz.prog 129 #[.pointer (some ⟨p, o, none⟩), .pointer (some ⟨q, oq, none⟩)] w fun e w' => e = .returned (.bool v) ∧ Below w.heap.size w w' := by
  rw [← hv]; exact l03Ok_any _ _ gs ts xs _ h.s h.a h.q (Nat.le_trans h.tm (by decide))
end
theorem l07Temperature_at (t : Int) (w : World) {v : Bool} (h : tempB t = v) : Calls Tryz.prog 112 #[.int .i64 t] w fun e w' => e = .returned (.bool v) ∧ w = w' := by
  rw [← h]; exact l07Temperature_any t w
set_option maxRecDepth 100000 in
set_option maxHeartbeats 4000000 in
theorem l08Ok_any {o : Nat} (p : Nat) (gs : List Gl) (ts : List Ti) (xs : List Pl) (t : Int) (w : World) (h : SysAt w p o gs ts xs t) :
    Calls Tryz.prog 117 #[.pointer (some ⟨p, o, none⟩)] w fun e w' => e = .returned (.bool (sysOkB gs ts xs t)) ∧ Below w.heap.size w w' := by
  
  have hS := Lib.hid h.sat
  have ct := h.temp
  have lp := h.sat.s.lt
  obtain ⟨lq, A, q, ca, cq, hA⟩ := h.sat.a
  have hlen := hA.len
  have hq0 := h.sat.q
  rw [hlen] at hq0
  have hlenH := Lib.hid hlen
  clear h hA hlen
  cases hv2 : validSetB gs ts
  · have hv2H := Lib.hid hv2
    have hr := Lib.hid (show false = sysOkB gs ts xs t by unfold sysOkB; rw [← isStabR_no (show validAsmB gs ts xs = false by unfold validAsmB; rw [hv2]; rfl)]; simp)
    clear hv2
    go_enter Tryz.func117, Tryz.ntmps117
    go_wp2
    refine wp_region_ord [(0, .q), (1, .q), (2, .q), (3, .g), (4, .q), (5, .q), (6, .q), (7, .q), (8, .q), (9, .q), (10, .q), (11, .q), (12, .g), (13, .q), (14, .q), (15, .q), (16, .q), (17, .q), (18, .q), (19, .q), (20, .q), (21, .q), (22, .q), (23, .q), (24, .q), (25, .q), (26, .q), (27, .q), (28, .q), (29, .g), (30, .q), (31, .q)] (by kernel_rfl) (by kernel_rfl) ?_
    simp only [pick, List.filterMap_cons, List.filterMap_nil, List.getElem?_toArray, List.getElem?_cons_zero, List.getElem?_cons_succ, Option.map_some]
    repeat (first
      | ((with_reducible refine wpD_p (fun K hK => ?_)); go_simp; refine hK _ ?_; clear hK K)
      | ((with_reducible refine wpD_q (fun K hK => ?_)); go_simp; (first | refine hK _ ?_ | (go_bits; refine hK _ ?_) | (go_bits; go_simp; refine hK _ ?_)); clear hK K)
      | ((with_reducible refine wpD_g (fun K hK => ?_)); go_simp; refine hK _ _ ?_; clear hK K)
      | ((with_reducible refine wpD_g (fun K hK => ?_)); go_simp; refine ⟨Grew.of_alloc _, hK _ _ ?_⟩; clear hK K)
      | ((with_reducible refine wpD_g (fun K hK => ?_)); go_simp; go_at_call 166; refine ((hS.out.below (by repeat (first | with_reducible exact bl_refl _ | with_reducible assumption | with_reducible refine bl_al ?_ _ | with_reducible refine bl_dr ?_ | with_reducible refine bl_tr ?_ (by assumption) | with_reducible refine bl_set ?_ ?_ _ | with_reducible exact Nat.le_refl _ | omega | (simp only [World.size_alloc, World.size_setCell, World.size_drew] at *; omega) | (dsimp only; omega) | (simp; done) | (simp; omega)))).set hv2H.out).mono ?_; rintro e w1 ⟨rfl, hb1⟩; refine ⟨_, rfl, hb1, hK _ _ ?_⟩; clear hK K; obtain ⟨chb1, fhb1, shb1, thb1⟩ := bcell hb1; (try have bhb10 := shb1 (p) (by go_simp)); have cq1 := (hb1.cell (p := ⟨p, o + 2, none⟩) (by simpa using lp)).trans (show _ = some (Value.slice A q ca) by simpa using cq); have ct1 := (hb1.cell (p := ⟨p, o + 3, none⟩) (by simpa using lp)).trans (show _ = some (Value.int .i64 t) by simpa using ct)))
    with_reducible refine wpD_nil ?_
    go_wp2
    go_ret
    exact ⟨ret_bool hr.out, by repeat (first | with_reducible exact bl_refl _ | with_reducible assumption | with_reducible refine bl_al ?_ _ | with_reducible refine bl_dr ?_ | with_reducible refine bl_tr ?_ (by assumption) | with_reducible refine bl_set ?_ ?_ _ | with_reducible exact Nat.le_refl _ | omega | (simp only [World.size_alloc, World.size_setCell, World.size_drew] at *; omega) | (dsimp only; omega) | (simp; done) | (simp; omega))⟩
  · have hv2H := Lib.hid hv2
    cases hv3 : (hasFormB xs && allB xs.length (okTile ts.length xs))
    · have hv3H := Lib.hid hv3
      have hr := Lib.hid (show false = sysOkB gs ts xs t by unfold sysOkB; rw [← isStabR_no (show validAsmB gs ts xs = false by unfold validAsmB; rw [hv2, hv3]; rfl)]; simp)
      clear hv2 hv3
      go_enter Tryz.func117, Tryz.ntmps117
      go_wp2
      refine wp_region_ord [(0, .q), (1, .q), (2, .q), (3, .g), (4, .q), (5, .q), (6, .q), (7, .q), (8, .q), (9, .q), (10, .q), (11, .q), (12, .g), (13, .q), (14, .q), (15, .q), (16, .q), (17, .q), (18, .q), (19, .q), (20, .q), (21, .q), (22, .q), (23, .q), (24, .q), (25, .q), (26, .q), (27, .q), (28, .q), (29, .g), (30, .q), (31, .q)] (by kernel_rfl) (by kernel_rfl) ?_
      simp only [pick, List.filterMap_cons, List.filterMap_nil, List.getElem?_toArray, List.getElem?_cons_zero, List.getElem?_cons_succ, Option.map_some]
      repeat (first
        | ((with_reducible refine wpD_p (fun K hK => ?_)); go_simp; refine hK _ ?_; clear hK K)
        | ((with_reducible refine wpD_q (fun K hK => ?_)); go_simp; (first | refine hK _ ?_ | (go_bits; refine hK _ ?_) | (go_bits; go_simp; refine hK _ ?_)); clear hK K)
        | ((with_reducible refine wpD_g (fun K hK => ?_)); go_simp; refine hK _ _ ?_; clear hK K)
        | ((with_reducible refine wpD_g (fun K hK => ?_)); go_simp; refine ⟨Grew.of_alloc _, hK _ _ ?_⟩; clear hK K)
        | ((with_reducible refine wpD_g (fun K hK => ?_)); go_simp; go_at_call 166; refine ((hS.out.below (by repeat (first | with_reducible exact bl_refl _ | with_reducible assumption | with_reducible refine bl_al ?_ _ | with_reducible refine bl_dr ?_ | with_reducible refine bl_tr ?_ (by assumption) | with_reducible refine bl_set ?_ ?_ _ | with_reducible exact Nat.le_refl _ | omega | (simp only [World.size_alloc, World.size_setCell, World.size_drew] at *; omega) | (dsimp only; omega) | (simp; done) | (simp; omega)))).set hv2H.out).mono ?_; rintro e w1 ⟨rfl, hb1⟩; refine ⟨_, rfl, hb1, hK _ _ ?_⟩; clear hK K; obtain ⟨chb1, fhb1, shb1, thb1⟩ := bcell hb1; (try have bhb10 := shb1 (p) (by go_simp)); have cq1 := (hb1.cell (p := ⟨p, o + 2, none⟩) (by simpa using lp)).trans (show _ = some (Value.slice A q ca) by simpa using cq); have ct1 := (hb1.cell (p := ⟨p, o + 3, none⟩) (by simpa using lp)).trans (show _ = some (Value.int .i64 t) by simpa using ct))
        | ((with_reducible refine wpD_g (fun K hK => ?_)); go_simp; go_at_call 129; refine ((hS.out.below (by repeat (first | with_reducible exact bl_refl _ | with_reducible assumption | with_reducible refine bl_al ?_ _ | with_reducible refine bl_dr ?_ | with_reducible refine bl_tr ?_ (by assumption) | with_reducible refine bl_set ?_ ?_ _ | with_reducible exact Nat.le_refl _ | omega | (simp only [World.size_alloc, World.size_setCell, World.size_drew] at *; omega) | (dsimp only; omega) | (simp; done) | (simp; omega)))).form hv3H.out).mono ?_; rintro e w2 ⟨rfl, hb2⟩; refine ⟨_, rfl, hb2, hK _ _ ?_⟩; clear hK K; obtain ⟨chb2, fhb2, shb2, thb2⟩ := bcell hb2; (try have bhb20 := shb2 (p) (by go_simp)); have cq2 := (hb2.cell (p := ⟨p, o + 2, none⟩) bhb10).trans cq1; have ct2 := (hb2.cell (p := ⟨p, o + 3, none⟩) bhb10).trans ct1))
      with_reducible refine wpD_nil ?_
      go_wp2
      go_ret
      exact ⟨ret_bool hr.out, by repeat (first | with_reducible exact bl_refl _ | with_reducible assumption | with_reducible refine bl_al ?_ _ | with_reducible refine bl_dr ?_ | with_reducible refine bl_tr ?_ (by assumption) | with_reducible refine bl_set ?_ ?_ _ | with_reducible exact Nat.le_refl _ | omega | (simp only [World.size_alloc, World.size_setCell, World.size_drew] at *; omega) | (dsimp only; omega) | (simp; done) | (simp; omega))⟩
    · have hv3H := Lib.hid hv3
      have hval : validAsmB gs ts xs = true := by unfold validAsmB; rw [hv2, hv3]; rfl
      have hvH := Lib.hid hval
      have hV := valid_of hval
      clear hv2 hv3 hval
      by_cases hq1 : q = 0
      · subst hq1
        have hr := Lib.hid (show false = sysOkB gs ts xs t by unfold sysOkB; rw [hlenH.out]; rfl)
        go_enter Tryz.func117, Tryz.ntmps117
        go_wp2
        refine wp_region_ord [(0, .q), (1, .q), (2, .q), (3, .g), (4, .q), (5, .q), (6, .q), (7, .q), (8, .q), (9, .q), (10, .q), (11, .q), (12, .g), (13, .q), (14, .q), (15, .q), (16, .q), (17, .q), (18, .q), (19, .q), (20, .q), (21, .q), (22, .q), (23, .q), (24, .q), (25, .q), (26, .q), (27, .q), (28, .q), (29, .g), (30, .q), (31, .q)] (by kernel_rfl) (by kernel_rfl) ?_
        simp only [pick, List.filterMap_cons, List.filterMap_nil, List.getElem?_toArray, List.getElem?_cons_zero, List.getElem?_cons_succ, Option.map_some]
        repeat (first
          | ((with_reducible refine wpD_p (fun K hK => ?_)); go_simp; refine hK _ ?_; clear hK K)
          | ((with_reducible refine wpD_q (fun K hK => ?_)); go_simp; (first | refine hK _ ?_ | (go_bits; refine hK _ ?_) | (go_bits; go_simp; refine hK _ ?_)); clear hK K)
          | ((with_reducible refine wpD_g (fun K hK => ?_)); go_simp; refine hK _ _ ?_; clear hK K)
          | ((with_reducible refine wpD_g (fun K hK => ?_)); go_simp; refine ⟨Grew.of_alloc _, hK _ _ ?_⟩; clear hK K)
          | ((with_reducible refine wpD_g (fun K hK => ?_)); go_simp; go_at_call 166; refine ((hS.out.below (by repeat (first | with_reducible exact bl_refl _ | with_reducible assumption | with_reducible refine bl_al ?_ _ | with_reducible refine bl_dr ?_ | with_reducible refine bl_tr ?_ (by assumption) | with_reducible refine bl_set ?_ ?_ _ | with_reducible exact Nat.le_refl _ | omega | (simp only [World.size_alloc, World.size_setCell, World.size_drew] at *; omega) | (dsimp only; omega) | (simp; done) | (simp; omega)))).set hv2H.out).mono ?_; rintro e w1 ⟨rfl, hb1⟩; refine ⟨_, rfl, hb1, hK _ _ ?_⟩; clear hK K; obtain ⟨chb1, fhb1, shb1, thb1⟩ := bcell hb1; (try have bhb10 := shb1 (p) (by go_simp)); have cq1 := (hb1.cell (p := ⟨p, o + 2, none⟩) (by simpa using lp)).trans (show _ = some (Value.slice A 0 ca) by simpa using cq); have ct1 := (hb1.cell (p := ⟨p, o + 3, none⟩) (by simpa using lp)).trans (show _ = some (Value.int .i64 t) by simpa using ct))
          | ((with_reducible refine wpD_g (fun K hK => ?_)); go_simp; go_at_call 129; refine ((hS.out.below (by repeat (first | with_reducible exact bl_refl _ | with_reducible assumption | with_reducible refine bl_al ?_ _ | with_reducible refine bl_dr ?_ | with_reducible refine bl_tr ?_ (by assumption) | with_reducible refine bl_set ?_ ?_ _ | with_reducible exact Nat.le_refl _ | omega | (simp only [World.size_alloc, World.size_setCell, World.size_drew] at *; omega) | (dsimp only; omega) | (simp; done) | (simp; omega)))).form hv3H.out).mono ?_; rintro e w2 ⟨rfl, hb2⟩; refine ⟨_, rfl, hb2, hK _ _ ?_⟩; clear hK K; obtain ⟨chb2, fhb2, shb2, thb2⟩ := bcell hb2; (try have bhb20 := shb2 (p) (by go_simp)); have cq2 := (hb2.cell (p := ⟨p, o + 2, none⟩) bhb10).trans cq1; have ct2 := (hb2.cell (p := ⟨p, o + 3, none⟩) bhb10).trans ct1))
        with_reducible refine wpD_nil ?_
        go_wp2
        go_ret
        exact ⟨ret_bool hr.out, by repeat (first | with_reducible exact bl_refl _ | with_reducible assumption | with_reducible refine bl_al ?_ _ | with_reducible refine bl_dr ?_ | with_reducible refine bl_tr ?_ (by assumption) | with_reducible refine bl_set ?_ ?_ _ | with_reducible exact Nat.le_refl _ | omega | (simp only [World.size_alloc, World.size_setCell, World.size_drew] at *; omega) | (dsimp only; omega) | (simp; done) | (simp; omega))⟩
      · have hqd : ((q : Int) == 0) = false := by simp; omega
        have hqH := Lib.hid hq1
        cases htm : tempB t
        · have htH := Lib.hid htm
          have hr := Lib.hid (show false = sysOkB gs ts xs t by unfold sysOkB; rw [← isStabR_range hvH.out htm]; simp)
          clear htm
          go_enter Tryz.func117, Tryz.ntmps117
          go_wp2
          refine wp_region_ord [(0, .q), (1, .q), (2, .q), (3, .g), (4, .q), (5, .q), (6, .q), (7, .q), (8, .q), (9, .q), (10, .q), (11, .q), (12, .g), (13, .q), (14, .q), (15, .q), (16, .q), (17, .q), (18, .q), (19, .q), (20, .q), (21, .q), (22, .q), (23, .q), (24, .q), (25, .q), (26, .q), (27, .q), (28, .q), (29, .g), (30, .q), (31, .q)] (by kernel_rfl) (by kernel_rfl) ?_
          simp only [pick, List.filterMap_cons, List.filterMap_nil, List.getElem?_toArray, List.getElem?_cons_zero, List.getElem?_cons_succ, Option.map_some]
          repeat (first
            | ((with_reducible refine wpD_p (fun K hK => ?_)); go_simp; refine hK _ ?_; clear hK K)
            | ((with_reducible refine wpD_q (fun K hK => ?_)); go_simp; (first | refine hK _ ?_ | (go_bits; refine hK _ ?_) | (go_bits; go_simp; refine hK _ ?_)); clear hK K)
            | ((with_reducible refine wpD_g (fun K hK => ?_)); go_simp; refine hK _ _ ?_; clear hK K)
            | ((with_reducible refine wpD_g (fun K hK => ?_)); go_simp; refine ⟨Grew.of_alloc _, hK _ _ ?_⟩; clear hK K)
            | ((with_reducible refine wpD_g (fun K hK => ?_)); go_simp; go_at_call 166; refine ((hS.out.below (by repeat (first | with_reducible exact bl_refl _ | with_reducible assumption | with_reducible refine bl_al ?_ _ | with_reducible refine bl_dr ?_ | with_reducible refine bl_tr ?_ (by assumption) | with_reducible refine bl_set ?_ ?_ _ | with_reducible exact Nat.le_refl _ | omega | (simp only [World.size_alloc, World.size_setCell, World.size_drew] at *; omega) | (dsimp only; omega) | (simp; done) | (simp; omega)))).set hv2H.out).mono ?_; rintro e w1 ⟨rfl, hb1⟩; refine ⟨_, rfl, hb1, hK _ _ ?_⟩; clear hK K; obtain ⟨chb1, fhb1, shb1, thb1⟩ := bcell hb1; (try have bhb10 := shb1 (p) (by go_simp)); have cq1 := (hb1.cell (p := ⟨p, o + 2, none⟩) (by simpa using lp)).trans (show _ = some (Value.slice A q ca) by simpa using cq); have ct1 := (hb1.cell (p := ⟨p, o + 3, none⟩) (by simpa using lp)).trans (show _ = some (Value.int .i64 t) by simpa using ct))
            | ((with_reducible refine wpD_g (fun K hK => ?_)); go_simp; go_at_call 129; refine ((hS.out.below (by repeat (first | with_reducible exact bl_refl _ | with_reducible assumption | with_reducible refine bl_al ?_ _ | with_reducible refine bl_dr ?_ | with_reducible refine bl_tr ?_ (by assumption) | with_reducible refine bl_set ?_ ?_ _ | with_reducible exact Nat.le_refl _ | omega | (simp only [World.size_alloc, World.size_setCell, World.size_drew] at *; omega) | (dsimp only; omega) | (simp; done) | (simp; omega)))).form hv3H.out).mono ?_; rintro e w2 ⟨rfl, hb2⟩; refine ⟨_, rfl, hb2, hK _ _ ?_⟩; clear hK K; obtain ⟨chb2, fhb2, shb2, thb2⟩ := bcell hb2; (try have bhb20 := shb2 (p) (by go_simp)); have cq2 := (hb2.cell (p := ⟨p, o + 2, none⟩) bhb10).trans cq1; have ct2 := (hb2.cell (p := ⟨p, o + 3, none⟩) bhb10).trans ct1)
            | ((with_reducible refine wpD_g (fun K hK => ?_)); go_simp; go_at_call 112; refine (l07Temperature_at t _ htH.out).mono ?_; rintro e _ ⟨rfl, rfl⟩; refine ⟨_, rfl, Below.refl _ _, hK _ _ ?_⟩; clear hK K))
          with_reducible refine wpD_nil ?_
          go_wp2
          go_ret
          exact ⟨ret_bool hr.out, by repeat (first | with_reducible exact bl_refl _ | with_reducible assumption | with_reducible refine bl_al ?_ _ | with_reducible refine bl_dr ?_ | with_reducible refine bl_tr ?_ (by assumption) | with_reducible refine bl_set ?_ ?_ _ | with_reducible exact Nat.le_refl _ | omega | (simp only [World.size_alloc, World.size_setCell, World.size_drew] at *; omega) | (dsimp only; omega) | (simp; done) | (simp; omega))⟩
        · have htH := Lib.hid htm
          obtain ⟨tn, rfl, ht1, ht2⟩ := tempB_true htm
          have hrr := isStabR_yes hvH.out htm
          have hrH := Lib.hid hrr
          have hsy := Lib.hid (show (isStabR gs ts xs tn).1 = sysOkB gs ts xs tn by unfold sysOkB; rw [hlenH.out, decide_eq_true (show 0 < q by omega), Bool.true_and])
          clear htm hrr
          rcases isStabR_cases gs ts xs tn with ⟨c, hc, hcr⟩ | ⟨b, hcr⟩
          · have hcrH := Lib.hid hcr
            clear hcr
            go_enter Tryz.func117, Tryz.ntmps117
            go_wp2
            refine wp_region_ord [(0, .q), (1, .q), (2, .q), (3, .g), (4, .q), (5, .q), (6, .q), (7, .q), (8, .q), (9, .q), (10, .q), (11, .q), (12, .g), (13, .q), (14, .q), (15, .q), (16, .q), (17, .q), (18, .q), (19, .q), (20, .q), (21, .q), (22, .q), (23, .q), (24, .q), (25, .q), (26, .q), (27, .q), (28, .q), (29, .g), (30, .q), (31, .q)] (by kernel_rfl) (by kernel_rfl) ?_
            simp only [pick, List.filterMap_cons, List.filterMap_nil, List.getElem?_toArray, List.getElem?_cons_zero, List.getElem?_cons_succ, Option.map_some]
            repeat (first
              | ((with_reducible refine wpD_p (fun K hK => ?_)); go_simp; refine hK _ ?_; clear hK K)
              | ((with_reducible refine wpD_q (fun K hK => ?_)); go_simp; (first | refine hK _ ?_ | (go_bits; refine hK _ ?_) | (go_bits; go_simp; refine hK _ ?_)); clear hK K)
              | ((with_reducible refine wpD_g (fun K hK => ?_)); go_simp; refine hK _ _ ?_; clear hK K)
              | ((with_reducible refine wpD_g (fun K hK => ?_)); go_simp; refine ⟨Grew.of_alloc _, hK _ _ ?_⟩; clear hK K)
              | ((with_reducible refine wpD_g (fun K hK => ?_)); go_simp; go_at_call 166; refine ((hS.out.below (by repeat (first | with_reducible exact bl_refl _ | with_reducible assumption | with_reducible refine bl_al ?_ _ | with_reducible refine bl_dr ?_ | with_reducible refine bl_tr ?_ (by assumption) | with_reducible refine bl_set ?_ ?_ _ | with_reducible exact Nat.le_refl _ | omega | (simp only [World.size_alloc, World.size_setCell, World.size_drew] at *; omega) | (dsimp only; omega) | (simp; done) | (simp; omega)))).set hv2H.out).mono ?_; rintro e w1 ⟨rfl, hb1⟩; refine ⟨_, rfl, hb1, hK _ _ ?_⟩; clear hK K; obtain ⟨chb1, fhb1, shb1, thb1⟩ := bcell hb1; (try have bhb10 := shb1 (p) (by go_simp)); have cq1 := (hb1.cell (p := ⟨p, o + 2, none⟩) (by simpa using lp)).trans (show _ = some (Value.slice A q ca) by simpa using cq); have ct1 := (hb1.cell (p := ⟨p, o + 3, none⟩) (by simpa using lp)).trans (show _ = some (Value.int .i64 (tn : Int)) by simpa using ct))
              | ((with_reducible refine wpD_g (fun K hK => ?_)); go_simp; go_at_call 129; refine ((hS.out.below (by repeat (first | with_reducible exact bl_refl _ | with_reducible assumption | with_reducible refine bl_al ?_ _ | with_reducible refine bl_dr ?_ | with_reducible refine bl_tr ?_ (by assumption) | with_reducible refine bl_set ?_ ?_ _ | with_reducible exact Nat.le_refl _ | omega | (simp only [World.size_alloc, World.size_setCell, World.size_drew] at *; omega) | (dsimp only; omega) | (simp; done) | (simp; omega)))).form hv3H.out).mono ?_; rintro e w2 ⟨rfl, hb2⟩; refine ⟨_, rfl, hb2, hK _ _ ?_⟩; clear hK K; obtain ⟨chb2, fhb2, shb2, thb2⟩ := bcell hb2; (try have bhb20 := shb2 (p) (by go_simp)); have cq2 := (hb2.cell (p := ⟨p, o + 2, none⟩) bhb10).trans cq1; have ct2 := (hb2.cell (p := ⟨p, o + 3, none⟩) bhb10).trans ct1)
              | ((with_reducible refine wpD_g (fun K hK => ?_)); go_simp; go_at_call 112; refine (l07Temperature_at tn _ htH.out).mono ?_; rintro e _ ⟨rfl, rfl⟩; refine ⟨_, rfl, Below.refl _ _, hK _ _ ?_⟩; clear hK K))
            with_reducible refine wpD_nil ?_
            go_wp2
            refine wp_region_ord [(0, .q), (1, .q), (2, .q), (3, .q), (4, .q), (5, .q), (6, .q), (7, .q), (8, .q), (9, .q), (10, .g), (11, .q), (12, .q), (13, .q), (14, .q), (15, .q)] (by kernel_rfl) (by kernel_rfl) ?_
            simp only [pick, List.filterMap_cons, List.filterMap_nil, List.getElem?_toArray, List.getElem?_cons_zero, List.getElem?_cons_succ, Option.map_some]
            repeat (first | ((with_reducible refine wpD_p (fun K hK => ?_)); go_simp; refine hK _ ?_; clear hK K) | ((with_reducible refine wpD_q (fun K hK => ?_)); go_simp; (first | refine hK _ ?_ | (go_bits; refine hK _ ?_) | (go_bits; go_simp; refine hK _ ?_)); clear hK K))
            with_reducible refine wpD_g (fun K hK => ?_)
            go_simp
            refine (l07Stable_any (hS.out.below (by repeat (first | with_reducible exact bl_refl _ | with_reducible assumption | with_reducible refine bl_al ?_ _ | with_reducible refine bl_dr ?_ | with_reducible refine bl_tr ?_ (by assumption) | with_reducible refine bl_set ?_ ?_ _ | with_reducible exact Nat.le_refl _ | omega | (simp only [World.size_alloc, World.size_setCell, World.size_drew] at *; omega) | (dsimp only; omega) | (simp; done) | (simp; omega)))) hV tn (by omega)).mono ?_
            rw [hrH.out, hcrH.out]
            rintro e w3 ⟨rfl, hb3⟩
            refine ⟨_, rfl, hb3, hK _ _ ?_⟩
            clear hK K
            repeat (first | ((with_reducible refine wpD_p (fun K hK => ?_)); go_simp; refine hK _ ?_; clear hK K) | ((with_reducible refine wpD_q (fun K hK => ?_)); go_simp; (first | refine hK _ ?_ | (go_bits; refine hK _ ?_) | (go_bits; go_simp; refine hK _ ?_)); clear hK K))
            with_reducible refine wpD_nil ?_
            go_wp2
            go_ret
            exact ⟨ret_bool (by rw [← hsy.out, hcrH.out]), by repeat (first | with_reducible exact bl_refl _ | with_reducible assumption | with_reducible refine bl_al ?_ _ | with_reducible refine bl_dr ?_ | with_reducible refine bl_tr ?_ (by assumption) | with_reducible refine bl_set ?_ ?_ _ | with_reducible exact Nat.le_refl _ | omega | (simp only [World.size_alloc, World.size_setCell, World.size_drew] at *; omega) | (dsimp only; omega) | (simp; done) | (simp; omega))⟩
          · have hcrH := Lib.hid hcr
            clear hcr
            cases b
            all_goals
              go_enter Tryz.func117, Tryz.ntmps117
              go_wp2
              refine wp_region_ord [(0, .q), (1, .q), (2, .q), (3, .g), (4, .q), (5, .q), (6, .q), (7, .q), (8, .q), (9, .q), (10, .q), (11, .q), (12, .g), (13, .q), (14, .q), (15, .q), (16, .q), (17, .q), (18, .q), (19, .q), (20, .q), (21, .q), (22, .q), (23, .q), (24, .q), (25, .q), (26, .q), (27, .q), (28, .q), (29, .g), (30, .q), (31, .q)] (by kernel_rfl) (by kernel_rfl) ?_
              simp only [pick, List.filterMap_cons, List.filterMap_nil, List.getElem?_toArray, List.getElem?_cons_zero, List.getElem?_cons_succ, Option.map_some]
              repeat (first
                | ((with_reducible refine wpD_p (fun K hK => ?_)); go_simp; refine hK _ ?_; clear hK K)
                | ((with_reducible refine wpD_q (fun K hK => ?_)); go_simp; (first | refine hK _ ?_ | (go_bits; refine hK _ ?_) | (go_bits; go_simp; refine hK _ ?_)); clear hK K)
                | ((with_reducible refine wpD_g (fun K hK => ?_)); go_simp; refine hK _ _ ?_; clear hK K)
                | ((with_reducible refine wpD_g (fun K hK => ?_)); go_simp; refine ⟨Grew.of_alloc _, hK _ _ ?_⟩; clear hK K)
                | ((with_reducible refine wpD_g (fun K hK => ?_)); go_simp; go_at_call 166; refine ((hS.out.below (by repeat (first | with_reducible exact bl_refl _ | with_reducible assumption | with_reducible refine bl_al ?_ _ | with_reducible refine bl_dr ?_ | with_reducible refine bl_tr ?_ (by assumption) | with_reducible refine bl_set ?_ ?_ _ | with_reducible exact Nat.le_refl _ | omega | (simp only [World.size_alloc, World.size_setCell, World.size_drew] at *; omega) | (dsimp only; omega) | (simp; done) | (simp; omega)))).set hv2H.out).mono ?_; rintro e w1 ⟨rfl, hb1⟩; refine ⟨_, rfl, hb1, hK _ _ ?_⟩; clear hK K; obtain ⟨chb1, fhb1, shb1, thb1⟩ := bcell hb1; (try have bhb10 := shb1 (p) (by go_simp)); have cq1 := (hb1.cell (p := ⟨p, o + 2, none⟩) (by simpa using lp)).trans (show _ = some (Value.slice A q ca) by simpa using cq); have ct1 := (hb1.cell (p := ⟨p, o + 3, none⟩) (by simpa using lp)).trans (show _ = some (Value.int .i64 (tn : Int)) by simpa using ct))
                | ((with_reducible refine wpD_g (fun K hK => ?_)); go_simp; go_at_call 129; refine ((hS.out.below (by repeat (first | with_reducible exact bl_refl _ | with_reducible assumption | with_reducible refine bl_al ?_ _ | with_reducible refine bl_dr ?_ | with_reducible refine bl_tr ?_ (by assumption) | with_reducible refine bl_set ?_ ?_ _ | with_reducible exact Nat.le_refl _ | omega | (simp only [World.size_alloc, World.size_setCell, World.size_drew] at *; omega) | (dsimp only; omega) | (simp; done) | (simp; omega)))).form hv3H.out).mono ?_; rintro e w2 ⟨rfl, hb2⟩; refine ⟨_, rfl, hb2, hK _ _ ?_⟩; clear hK K; obtain ⟨chb2, fhb2, shb2, thb2⟩ := bcell hb2; (try have bhb20 := shb2 (p) (by go_simp)); have cq2 := (hb2.cell (p := ⟨p, o + 2, none⟩) bhb10).trans cq1; have ct2 := (hb2.cell (p := ⟨p, o + 3, none⟩) bhb10).trans ct1)
                | ((with_reducible refine wpD_g (fun K hK => ?_)); go_simp; go_at_call 112; refine (l07Temperature_at tn _ htH.out).mono ?_; rintro e _ ⟨rfl, rfl⟩; refine ⟨_, rfl, Below.refl _ _, hK _ _ ?_⟩; clear hK K))
              with_reducible refine wpD_nil ?_
              go_wp2
              refine wp_region_ord [(0, .q), (1, .q), (2, .q), (3, .q), (4, .q), (5, .q), (6, .q), (7, .q), (8, .q), (9, .q), (10, .g), (11, .q), (12, .q), (13, .q), (14, .q), (15, .q)] (by kernel_rfl) (by kernel_rfl) ?_
              simp only [pick, List.filterMap_cons, List.filterMap_nil, List.getElem?_toArray, List.getElem?_cons_zero, List.getElem?_cons_succ, Option.map_some]
              repeat (first | ((with_reducible refine wpD_p (fun K hK => ?_)); go_simp; refine hK _ ?_; clear hK K) | ((with_reducible refine wpD_q (fun K hK => ?_)); go_simp; (first | refine hK _ ?_ | (go_bits; refine hK _ ?_) | (go_bits; go_simp; refine hK _ ?_)); clear hK K))
              with_reducible refine wpD_g (fun K hK => ?_)
              go_simp
              refine (l07Stable_any (hS.out.below (by repeat (first | with_reducible exact bl_refl _ | with_reducible assumption | with_reducible refine bl_al ?_ _ | with_reducible refine bl_dr ?_ | with_reducible refine bl_tr ?_ (by assumption) | with_reducible refine bl_set ?_ ?_ _ | with_reducible exact Nat.le_refl _ | omega | (simp only [World.size_alloc, World.size_setCell, World.size_drew] at *; omega) | (dsimp only; omega) | (simp; done) | (simp; omega)))) hV tn (by omega)).mono ?_
              rw [hrH.out, hcrH.out]
              rintro e w3 ⟨rfl, hb3⟩
              refine ⟨_, rfl, hb3, hK _ _ ?_⟩
              clear hK K
              repeat (first | ((with_reducible refine wpD_p (fun K hK => ?_)); go_simp; refine hK _ ?_; clear hK K) | ((with_reducible refine wpD_q (fun K hK => ?_)); go_simp; (first | refine hK _ ?_ | (go_bits; refine hK _ ?_) | (go_bits; go_simp; refine hK _ ?_)); clear hK K))
              with_reducible refine wpD_nil ?_
              go_wp2
              go_ret
              exact ⟨ret_bool (by rw [← hsy.out, hcrH.out]), by repeat (first | with_reducible exact bl_refl _ | with_reducible assumption | with_reducible refine bl_al ?_ _ | with_reducible refine bl_dr ?_ | with_reducible refine bl_tr ?_ (by assumption) | with_reducible refine bl_set ?_ ?_ _ | with_reducible exact Nat.le_refl _ | omega | (simp only [World.size_alloc, World.size_setCell, World.size_drew] at *; omega) | (dsimp only; omega) | (simp; done) | (simp; omega))⟩
theorem sValidSystem_any (G T A : Option Addr) (n cg m ct q ca : Nat) (gs : List Gl) (ts : List Ti) (xs : List Pl) (t : Int) (w : World) (h : SA w G n T m A q gs ts xs) :
    Calls Tryz.prog 57 #[.agg #[.slice G n cg, .slice T m ct, .slice A q ca, .int .i64 t]] w fun e w' => e = .returned (.bool (sysOkB gs ts xs t)) ∧ Below w.heap.size w w' := by
  
  have hat := Lib.hid (h.sysbox cg ct ca t)
  clear h
  go_enter Tryz.func57, Tryz.ntmps57
  go_wp2_with (go_at_call 117; refine (l08Ok_any _ gs ts xs t _ hat.out).mono ?_; rintro e w1 ⟨rfl, hb1⟩)
  go_ret
  exact ⟨rfl, by repeat (first | with_reducible exact bl_refl _ | with_reducible assumption | with_reducible refine bl_al ?_ _ | with_reducible refine bl_dr ?_ | with_reducible refine bl_tr ?_ (by assumption) | with_reducible refine bl_set ?_ ?_ _ | with_reducible exact Nat.le_refl _ | omega | (simp only [World.size_alloc, World.size_setCell, World.size_drew] at *; omega) | (dsimp only; omega) | (simp; done) | (simp; omega))⟩
set_option maxRecDepth 100000 in
set_option maxHeartbeats 2000000 in
theorem ValidSystem_any (G T A : Option Addr) (n cg m ct q ca : Nat) (gs : List Gl) (ts : List Ti) (xs : List Pl) (t : Int) (w : World) (h : SA w G n T m A q gs ts xs) :
    Calls Tryz.prog 58 #[.agg #[.slice G n cg, .slice T m ct, .slice A q ca, .int .i64 t]] w fun e w' => e = .returned (.bool (sysOkB gs ts xs t)) ∧ Below w.heap.size w w' := by
  
  have hSA := Lib.hid h
  have hlen := Lib.hid h.A.len
  have hq0 := h.q
  clear h
  by_cases hq1 : q = 0
  · subst hq1
    have hr := Lib.hid (show false = sysOkB gs ts xs t by unfold sysOkB; rw [hlen.out]; rfl)
    go_enter Tryz.func58, Tryz.ntmps58
    go_wp2
    go_ret
    exact ⟨ret_bool hr.out, by repeat (first | with_reducible exact bl_refl _ | with_reducible assumption | with_reducible refine bl_al ?_ _ | with_reducible refine bl_dr ?_ | with_reducible refine bl_tr ?_ (by assumption) | with_reducible refine bl_set ?_ ?_ _ | with_reducible exact Nat.le_refl _ | omega | (simp only [World.size_alloc, World.size_setCell, World.size_drew] at *; omega) | (dsimp only; omega) | (simp; done) | (simp; omega))⟩
  · have hqd : ((q : Int) == 0) = false := by simp; omega
    have hsy := Lib.hid (show (isStabR gs ts xs t).1 = sysOkB gs ts xs t by unfold sysOkB; rw [hlen.out, decide_eq_true (show 0 < q by omega), Bool.true_and])
    rcases isStabR_cases gs ts xs t with ⟨c, hc, hcr⟩ | ⟨b, hcr⟩
    · have hcrH := Lib.hid hcr
      clear hcr
      go_enter Tryz.func58, Tryz.ntmps58
      go_wp2_with (go_at_call 56; refine (IsStable_any G T A n cg m ct q ca gs ts xs t _ (hSA.out.below (by repeat (first | with_reducible exact bl_refl _ | with_reducible assumption | with_reducible refine bl_al ?_ _ | with_reducible refine bl_dr ?_ | with_reducible refine bl_tr ?_ (by assumption) | with_reducible refine bl_set ?_ ?_ _ | with_reducible exact Nat.le_refl _ | omega | (simp only [World.size_alloc, World.size_setCell, World.size_drew] at *; omega) | (dsimp only; omega) | (simp; done) | (simp; omega))))).mono ?_; rw [hcrH.out]; rintro e w1 ⟨rfl, hb1⟩)
      go_ret
      exact ⟨ret_bool (by rw [← hsy.out, hcrH.out]), by repeat (first | with_reducible exact bl_refl _ | with_reducible assumption | with_reducible refine bl_al ?_ _ | with_reducible refine bl_dr ?_ | with_reducible refine bl_tr ?_ (by assumption) | with_reducible refine bl_set ?_ ?_ _ | with_reducible exact Nat.le_refl _ | omega | (simp only [World.size_alloc, World.size_setCell, World.size_drew] at *; omega) | (dsimp only; omega) | (simp; done) | (simp; omega))⟩
    · have hcrH := Lib.hid hcr
      clear hcr
      cases b
      all_goals
        go_enter Tryz.func58, Tryz.ntmps58
        go_wp2_with (go_at_call 56; refine (IsStable_any G T A n cg m ct q ca gs ts xs t _ (hSA.out.below (by repeat (first | with_reducible exact bl_refl _ | with_reducible assumption | with_reducible refine bl_al ?_ _ | with_reducible refine bl_dr ?_ | with_reducible refine bl_tr ?_ (by assumption) | with_reducible refine bl_set ?_ ?_ _ | with_reducible exact Nat.le_refl _ | omega | (simp only [World.size_alloc, World.size_setCell, World.size_drew] at *; omega) | (dsimp only; omega) | (simp; done) | (simp; omega))))).mono ?_; rw [hcrH.out]; rintro e w1 ⟨rfl, hb1⟩)
        go_ret
        exact ⟨ret_bool (by rw [← hsy.out, hcrH.out]), by repeat (first | with_reducible exact bl_refl _ | with_reducible assumption | with_reducible refine bl_al ?_ _ | with_reducible refine bl_dr ?_ | with_reducible refine bl_tr ?_ (by assumption) | with_reducible refine bl_set ?_ ?_ _ | with_reducible exact Nat.le_refl _ | omega | (simp only [World.size_alloc, World.size_setCell, World.size_drew] at *; omega) | (dsimp only; omega) | (simp; done) | (simp; omega))⟩
end Go.Proofs.YtcpbppblahpjbaaGreat
/- Walks: the tile at a point; with what strength a tile binds at a point. -/

namespace Go.Proofs.YtcpbppblahpjbaaGreat
open Go.RowKit Go.Shelf
set_option linter.unusedSimpArgs false
set_option linter.unusedVariables false
attribute [local go_sem] BelowBy.cell BelowBy.cell_drew stillUpon givesUpon BelowBy.cell_drew2 BelowBy.cell_drew3

/-- the tile at a point, or -1 -/
noncomputable def atI (xs : List Pl) (x y : Int) : Int := if placeI xs x y < 0 then -1 else match xs[(placeI xs x y).toNat]? with
  | some e => e.t
  | none => -1
theorem atI_none {xs : List Pl} {x y : Int} (h : placeI xs x y = -1) : atI xs x y = -1 := by unfold atI; rw [h, if_pos (by decide)]
theorem atI_some {xs : List Pl} {x y : Int} {k : Nat} {e : Pl} (h : placeI xs x y = k) (he : xs[k]? = some e) : atI xs x y = e.t := by
  unfold atI; rw [h, if_neg (by omega)]
  have : ((k : Nat) : Int).toNat = k := by omega
  simp only [this, he]
theorem atI_cases {gs : List Gl} {ts : List Ti} {xs : List Pl} (hV : Valid gs ts xs) (x y : Int) : (placeI xs x y = -1 ∧ atI xs x y = -1) ∨ ∃ (k t : Nat) (e : Pl), placeI xs x y = k ∧ xs[k]? = some e ∧ e.t = t ∧ t < ts.length ∧ atI xs x y = t := by
  rcases placeI_cases xs x y with h | ⟨k, h, hk⟩
  · exact Or.inl ⟨h, atI_none h⟩
  · have he := List.getElem?_eq_getElem hk
    obtain ⟨t, ht, htl⟩ := hV.ti k _ he
    exact Or.inr ⟨k, t, _, h, he, ht, htl, by rw [atI_some h he, ht]⟩
noncomputable def bindN (gs : List Gl) (ts : List Ti) (xs : List Pl) (x y : Int) (t : Nat) : Nat → Int
  | 0 => 0
  | k + 1 => bindN gs ts xs x y t k + (if 0 ≤ atI xs (stepX x k) (stepY y k) then bondI gs ts t k (atI xs (stepX x k) (stepY y k)).toNat else 0)
theorem strI_nonneg {gs : List Gl} {ts : List Ti} {xs : List Pl} (hV : Valid gs ts xs) (v : Int) : 0 ≤ strI gs v := by
  unfold strI
  split
  · decide
  · split
    · decide
    · rename_i g hg
      have := (hV.str _ _ hg).1
      omega
theorem bondI_nonneg {gs : List Gl} {ts : List Ti} {xs : List Pl} (hV : Valid gs ts xs) (a d b : Nat) : 0 ≤ bondI gs ts a d b := by
  unfold bondI
  split
  · exact strI_nonneg hV _
  · decide
theorem bindN_bound {gs : List Gl} {ts : List Ti} {xs : List Pl} (hV : Valid gs ts xs) (x y : Int) (t k : Nat) : 0 ≤ bindN gs ts xs x y t k ∧ bindN gs ts xs x y t k ≤ 4 * (k : Int) := by
  induction k with
  | zero => simp [bindN]
  | succ k ih =>
    simp only [bindN]
    have h1 := bondI_nonneg hV t k (atI xs (stepX x k) (stepY y k)).toNat
    have h2 := bondI_le hV t k (atI xs (stepX x k) (stepY y k)).toNat
    split <;> omega
set_option maxHeartbeats 1000000 in
theorem at_any (A : Option Addr) (n c : Nat) (gs : List Gl) (ts : List Ti) (xs : List Pl) (x y : Int) (w : World) (h2 : RdSl 3 RPl w A n xs) (hV : Valid gs ts xs) :
    Calls Tryz.prog 126 #[.agg #[.slice A n c], .agg #[.int .i64 x, .int .i64 y]] w fun e w' => e = .returned (.int .i64 (atI xs x y)) ∧ Below w.heap.size w w' := by
  have hl := h2.len
  have h2H := Lib.hid h2
  clear h2
  go_enter Tryz.func126, Tryz.ntmps126
  go_wp2_with fail
  refine (BinarySearch_any _ _ _ gs ts xs _ _ _ (h2H.out.below RPl.stable (by repeat (first | with_reducible exact bl_refl _ | with_reducible assumption | with_reducible refine bl_al ?_ _ | with_reducible refine bl_dr ?_ | with_reducible refine bl_tr ?_ (by assumption) | with_reducible refine bl_set ?_ ?_ _ | with_reducible exact Nat.le_refl _ | omega | (simp only [World.size_alloc, World.size_setCell, World.size_drew] at *; omega) | (dsimp only; omega) | (simp; done) | (simp; omega)))) hV).mono ?_
  rintro e w1 ⟨r, b, rfl, ⟨hp, hr0⟩, hb1⟩
  cases b
  · have hpH := Lib.hid (atI_none hp.symm)
    clear hp
    go_wp2
    go_ret
    exact ⟨ret_int hpH.out.symm, by repeat (first | with_reducible exact bl_refl _ | with_reducible assumption | with_reducible refine bl_al ?_ _ | with_reducible refine bl_dr ?_ | with_reducible refine bl_tr ?_ (by assumption) | with_reducible refine bl_set ?_ ?_ _ | with_reducible exact Nat.le_refl _ | omega | (simp only [World.size_alloc, World.size_setCell, World.size_drew] at *; omega) | (dsimp only; omega) | (simp; done) | (simp; omega))⟩
  · simp only [if_true] at hp
    rcases atI_cases hV x y with ⟨h1, _⟩ | ⟨k, t, e, h1, he, ht, htl, hat⟩
    · rw [h1] at hp
      omega
    · obtain rfl : r = (k : Int) := by rw [hp, h1]
      have hk : k < n := by rw [← hl]; exact lt_of_get he
      have hA1 := h2H.out.below RPl.stable (show Below w.heap.size w w1 by repeat (first | with_reducible exact bl_refl _ | with_reducible assumption | with_reducible refine bl_al ?_ _ | with_reducible refine bl_dr ?_ | with_reducible refine bl_tr ?_ (by assumption) | with_reducible refine bl_set ?_ ?_ _ | with_reducible exact Nat.le_refl _ | omega | (simp only [World.size_alloc, World.size_setCell, World.size_drew] at *; omega) | (dsimp only; omega) | (simp; done) | (simp; omega)))
      obtain ⟨bb, o, rfl, hb, hc⟩ := hA1.ptr (by omega)
      obtain ⟨c0, c1, c2⟩ := hc k e he
      obtain ⟨chb1, fhb1, shb1, thb1⟩ := bcell hb1
      have hatH := Lib.hid hat
      rw [ht] at c2
      have hk0 : (0 : Int) ≤ (k : Int) := by omega
      clear hp h1 he hat hc ht hA1 hl
      go_wp2
      go_ret
      exact ⟨ret_int hatH.out.symm, by repeat (first | with_reducible exact bl_refl _ | with_reducible assumption | with_reducible refine bl_al ?_ _ | with_reducible refine bl_dr ?_ | with_reducible refine bl_tr ?_ (by assumption) | with_reducible refine bl_set ?_ ?_ _ | with_reducible exact Nat.le_refl _ | omega | (simp only [World.size_alloc, World.size_setCell, World.size_drew] at *; omega) | (dsimp only; omega) | (simp; done) | (simp; omega))⟩
theorem l03Index_at {op p : Nat} {gs : List Gl} {ts : List Ti} {xs : List Pl} {x y r : Int} {w : World} (ha : AsmAt w p op xs) (hV : Valid gs ts xs) (h : placeI xs x y = r) :
    Calls Tryz.prog 140 #[.pointer (some ⟨p, op, none⟩), .agg #[.int .i64 x, .int .i64 y]] w fun e w' => e = .returned (.int .i64 r) ∧ Below w.heap.size w w' := by
  rw [← h]; exact l03Index_any p gs ts xs x y w ha hV
theorem at_at {A : Option Addr} {n c : Nat} {gs : List Gl} {ts : List Ti} {xs : List Pl} {x y r : Int} {w : World} (h2 : RdSl 3 RPl w A n xs) (hV : Valid gs ts xs) (h : atI xs x y = r) :
    Calls Tryz.prog 126 #[.agg #[.slice A n c], .agg #[.int .i64 x, .int .i64 y]] w fun e w' => e = .returned (.int .i64 r) ∧ Below w.heap.size w w' := by
  rw [← h]; exact at_any A n c gs ts xs x y w h2 hV
set_option maxHeartbeats 1000000 in
theorem l03At_any {op : Nat} (p : Nat) (gs : List Gl) (ts : List Ti) (xs : List Pl) (x y r : Int) (w : World) (ha : AsmAt w p op xs) (hV : Valid gs ts xs) (hr : atI xs x y = r) :
    Calls Tryz.prog 175 #[.pointer (some ⟨p, op, none⟩), .agg #[.int .i64 x, .int .i64 y]] w fun e w' => e = .returned (.int .i64 r) ∧ Below w.heap.size w w' := by
  
  obtain ⟨hlt, ⟨A, n, c, h1, h2⟩⟩ := id ha
  have hl := h2.len
  subst hr
  rcases atI_cases hV x y with ⟨h0, hat⟩ | ⟨k, t, e, h0, he, ht, htl, hat⟩
  · have hatH := Lib.hid hat
    have h0H := Lib.hid h0
    clear hat h0 h2
    go_enter Tryz.func175, Tryz.ntmps175
    go_wp2_with fail
    refine (l03Index_at (ha.below (by repeat (first | with_reducible exact bl_refl _ | with_reducible assumption | with_reducible refine bl_al ?_ _ | with_reducible refine bl_dr ?_ | with_reducible refine bl_tr ?_ (by assumption) | with_reducible refine bl_set ?_ ?_ _ | with_reducible exact Nat.le_refl _ | omega | (simp only [World.size_alloc, World.size_setCell, World.size_drew] at *; omega) | (dsimp only; omega) | (simp; done) | (simp; omega)))) hV h0H.out).mono ?_
    rintro e w1 ⟨rfl, hb1⟩
    go_wp2
    go_ret
    exact ⟨ret_int hatH.out.symm, by repeat (first | with_reducible exact bl_refl _ | with_reducible assumption | with_reducible refine bl_al ?_ _ | with_reducible refine bl_dr ?_ | with_reducible refine bl_tr ?_ (by assumption) | with_reducible refine bl_set ?_ ?_ _ | with_reducible exact Nat.le_refl _ | omega | (simp only [World.size_alloc, World.size_setCell, World.size_drew] at *; omega) | (dsimp only; omega) | (simp; done) | (simp; omega))⟩
  · have hatH := Lib.hid hat
    have h0H := Lib.hid h0
    have hkn : k < n := by rw [← hl]; exact lt_of_get he
    obtain ⟨b, o, rfl, hb, hc⟩ := h2.ptr (by omega)
    obtain ⟨c0, c1, c2⟩ := hc k e he
    rw [ht] at c2
    have hk0 : (0 : Int) ≤ (k : Int) := by omega
    clear hat h0 h2 hc he ht hl
    go_enter Tryz.func175, Tryz.ntmps175
    go_wp2_with fail
    refine (l03Index_at (ha.below (by repeat (first | with_reducible exact bl_refl _ | with_reducible assumption | with_reducible refine bl_al ?_ _ | with_reducible refine bl_dr ?_ | with_reducible refine bl_tr ?_ (by assumption) | with_reducible refine bl_set ?_ ?_ _ | with_reducible exact Nat.le_refl _ | omega | (simp only [World.size_alloc, World.size_setCell, World.size_drew] at *; omega) | (dsimp only; omega) | (simp; done) | (simp; omega)))) hV h0H.out).mono ?_
    rintro e w1 ⟨rfl, hb1⟩
    obtain ⟨chb1, fhb1, shb1, thb1⟩ := bcell hb1
    have k1 := shb1 p (by go_simp)
    have k2 := shb1 b (by go_simp)
    go_wp2
    go_ret
    exact ⟨ret_int hatH.out.symm, by repeat (first | with_reducible exact bl_refl _ | with_reducible assumption | with_reducible refine bl_al ?_ _ | with_reducible refine bl_dr ?_ | with_reducible refine bl_tr ?_ (by assumption) | with_reducible refine bl_set ?_ ?_ _ | with_reducible exact Nat.le_refl _ | omega | (simp only [World.size_alloc, World.size_setCell, World.size_drew] at *; omega) | (dsimp only; omega) | (simp; done) | (simp; omega))⟩
end Go.Proofs.YtcpbppblahpjbaaGreat
/- Walks: the code of a system and an assembly; a glue by its name; the name of a tile's side. -/


namespace Go.Proofs.YtcpbppblahpjbaaGreat
open Go.RowKit Go.Shelf
set_option linter.unusedSimpArgs false
set_option linter.unusedVariables false
attribute [local go_sem] BelowBy.cell BelowBy.cell_drew stillUpon givesUpon BelowBy.cell_drew2 BelowBy.cell_drew3

/-- the error for a system and an assembly -/
noncomputable def growB (gs : List Gl) (ts : List Ti) (xs : List Pl) (t : Int) (ys : List Pl) : Bool := sysOkB gs ts xs t && validAsmB gs ts ys
theorem growB_true {gs : List Gl} {ts : List Ti} {xs : List Pl} {t : Int} {ys : List Pl} (h : growB gs ts xs t ys = true) : sysOkB gs ts xs t = true ∧ validAsmB gs ts ys = true := by
  simpa [growB] using h
theorem validSet_of {gs : List Gl} {ts : List Ti} {xs : List Pl} (h : validAsmB gs ts xs = true) : validSetB gs ts = true := by
  unfold validAsmB at h; simp only [Bool.and_eq_true] at h; exact h.1
theorem formB_of {gs : List Gl} {ts : List Ti} {ys : List Pl} (h : validSetB gs ts = true) : (hasFormB ys && allB ys.length (okTile ts.length ys)) = validAsmB gs ts ys := by
  unfold validAsmB; rw [h, Bool.true_and]
theorem growthCode_at {G T A C : Option Addr} {n cg m ct q ca k cc : Nat} {gs : List Gl} {ts : List Ti} {xs ys : List Pl} {t : Int} {w : World} (h : SA w G n T m A q gs ts xs) (h2 : SA w G n T m C k gs ts ys) {r : Bool} (hr : growB gs ts xs t ys = r) :
    Calls Tryz.prog 76 #[.agg #[.slice G n cg, .slice T m ct, .slice A q ca, .int .i64 t], .agg #[.slice C k cc]] w fun e w' => e = .returned (.int .i64 (codeB r)) ∧ Below w.heap.size w w' := by
  
  have hS := Lib.hid h
  have hA := Lib.hid h2
  have hrH := Lib.hid hr
  clear h h2 hr
  cases hs : sysOkB gs ts xs t
  · have hsH := Lib.hid hs
    have hr0 : r = false := by rw [← hrH.out]; simp [growB, hs]
    subst hr0
    clear hs
    go_enter Tryz.func76, Tryz.ntmps76
    go_wp2_with (go_at_call 58; refine (ValidSystem_any G T A n cg m ct q ca gs ts xs t _ (hS.out.below (by repeat (first | with_reducible exact bl_refl _ | with_reducible assumption | with_reducible refine bl_al ?_ _ | with_reducible refine bl_dr ?_ | with_reducible refine bl_tr ?_ (by assumption) | with_reducible refine bl_set ?_ ?_ _ | with_reducible exact Nat.le_refl _ | omega | (simp only [World.size_alloc, World.size_setCell, World.size_drew] at *; omega) | (dsimp only; omega) | (simp; done) | (simp; omega))))).mono ?_; rw [hsH.out]; rintro e w1 ⟨rfl, hb1⟩)
    go_ret
    exact ⟨rfl, by repeat (first | with_reducible exact bl_refl _ | with_reducible assumption | with_reducible refine bl_al ?_ _ | with_reducible refine bl_dr ?_ | with_reducible refine bl_tr ?_ (by assumption) | with_reducible refine bl_set ?_ ?_ _ | with_reducible exact Nat.le_refl _ | omega | (simp only [World.size_alloc, World.size_setCell, World.size_drew] at *; omega) | (dsimp only; omega) | (simp; done) | (simp; omega))⟩
  · have hsH := Lib.hid hs
    have hr0 : validAsmB gs ts ys = r := by rw [← hrH.out]; simp [growB, hs]
    have hr0H := Lib.hid hr0
    clear hs hr0
    cases r
    all_goals
      go_enter Tryz.func76, Tryz.ntmps76
      go_wp2_with (go_at_call 58; refine (ValidSystem_any G T A n cg m ct q ca gs ts xs t _ (hS.out.below (by repeat (first | with_reducible exact bl_refl _ | with_reducible assumption | with_reducible refine bl_al ?_ _ | with_reducible refine bl_dr ?_ | with_reducible refine bl_tr ?_ (by assumption) | with_reducible refine bl_set ?_ ?_ _ | with_reducible exact Nat.le_refl _ | omega | (simp only [World.size_alloc, World.size_setCell, World.size_drew] at *; omega) | (dsimp only; omega) | (simp; done) | (simp; omega))))).mono ?_; rw [hsH.out]; rintro e w1 ⟨rfl, hb1⟩; obtain ⟨chb1, fhb1, shb1, thb1⟩ := bcell hb1; (have b0 := shb1 w.heap.size (by go_simp)); (have b1 := shb1 (w.heap.size + 1) (by go_simp)))
      refine ((hA.out.below (by repeat (first | with_reducible exact bl_refl _ | with_reducible assumption | with_reducible refine bl_al ?_ _ | with_reducible refine bl_dr ?_ | with_reducible refine bl_tr ?_ (by assumption) | with_reducible refine bl_set ?_ ?_ _ | with_reducible exact Nat.le_refl _ | omega | (simp only [World.size_alloc, World.size_setCell, World.size_drew] at *; omega) | (dsimp only; omega) | (simp; done) | (simp; omega)))).valid hr0H.out).mono ?_
      rintro e w2 ⟨rfl, hb2⟩
      go_wp2
      go_ret
      exact ⟨rfl, by repeat (first | with_reducible exact bl_refl _ | with_reducible assumption | with_reducible refine bl_al ?_ _ | with_reducible refine bl_dr ?_ | with_reducible refine bl_tr ?_ (by assumption) | with_reducible refine bl_set ?_ ?_ _ | with_reducible exact Nat.le_refl _ | omega | (simp only [World.size_alloc, World.size_setCell, World.size_drew] at *; omega) | (dsimp only; omega) | (simp; done) | (simp; omega))⟩
theorem l08Asked_at {o p pa oa : Nat} {gs : List Gl} {ts : List Ti} {xs ys : List Pl} {t : Int} {w : World} (h : SysAt w p o gs ts xs t) (ha : AsmAt w pa oa ys) (hq : ys.length ≤ 1073741824) {r : Bool} (hr : growB gs ts xs t ys = r) :
    Calls Tryz.prog 75 #[.pointer (some ⟨p, o, none⟩), .pointer (some ⟨pa, oa, none⟩)] w fun e w' => e = .returned (.int .i64 (codeB r)) ∧ Below w.heap.size w w' := by
  
  have hS := Lib.hid h
  have hA := Lib.hid ha
  have hrH := Lib.hid hr
  have htm := h.sat.tm
  clear h ha hr
  cases hs : sysOkB gs ts xs t
  · have hsH := Lib.hid hs
    have hr0 : r = false := by rw [← hrH.out]; simp [growB, hs]
    subst hr0
    clear hs
    go_enter Tryz.func75, Tryz.ntmps75
    go_wp2_with (go_at_call 117; refine (l08Ok_any _ gs ts xs t _ hS.out).mono ?_; rw [hsH.out]; rintro e w1 ⟨rfl, hb1⟩)
    go_ret
    exact ⟨rfl, by repeat (first | with_reducible exact bl_refl _ | with_reducible assumption | with_reducible refine bl_al ?_ _ | with_reducible refine bl_dr ?_ | with_reducible refine bl_tr ?_ (by assumption) | with_reducible refine bl_set ?_ ?_ _ | with_reducible exact Nat.le_refl _ | omega | (simp only [World.size_alloc, World.size_setCell, World.size_drew] at *; omega) | (dsimp only; omega) | (simp; done) | (simp; omega))⟩
  · have hsH := Lib.hid hs
    have hfo := Lib.hid (show (hasFormB ys && allB ys.length (okTile ts.length ys)) = r by rw [formB_of (validSet_of (sysOkB_valid hs).1), ← hrH.out]; simp [growB, hs])
    clear hs
    cases r
    all_goals
      go_enter Tryz.func75, Tryz.ntmps75
      go_wp2_with (first
        | (go_at_call 117; refine (l08Ok_any _ gs ts xs t _ hS.out).mono ?_; rw [hsH.out]; rintro e w1 ⟨rfl, hb1⟩)
        | (go_at_call 129; refine (l03Ok_any _ _ gs ts ys _ (hS.out.sat.s.below (by repeat (first | with_reducible exact bl_refl _ | with_reducible assumption | with_reducible refine bl_al ?_ _ | with_reducible refine bl_dr ?_ | with_reducible refine bl_tr ?_ (by assumption) | with_reducible refine bl_set ?_ ?_ _ | with_reducible exact Nat.le_refl _ | omega | (simp only [World.size_alloc, World.size_setCell, World.size_drew] at *; omega) | (dsimp only; omega) | (simp; done) | (simp; omega)))) (hA.out.below (by repeat (first | with_reducible exact bl_refl _ | with_reducible assumption | with_reducible refine bl_al ?_ _ | with_reducible refine bl_dr ?_ | with_reducible refine bl_tr ?_ (by assumption) | with_reducible refine bl_set ?_ ?_ _ | with_reducible exact Nat.le_refl _ | omega | (simp only [World.size_alloc, World.size_setCell, World.size_drew] at *; omega) | (dsimp only; omega) | (simp; done) | (simp; omega)))) hq (by omega)).mono ?_; rw [hfo.out]; rintro e w2 ⟨rfl, hb2⟩))
      go_ret
      exact ⟨rfl, by repeat (first | with_reducible exact bl_refl _ | with_reducible assumption | with_reducible refine bl_al ?_ _ | with_reducible refine bl_dr ?_ | with_reducible refine bl_tr ?_ (by assumption) | with_reducible refine bl_set ?_ ?_ _ | with_reducible exact Nat.le_refl _ | omega | (simp only [World.size_alloc, World.size_setCell, World.size_drew] at *; omega) | (dsimp only; omega) | (simp; done) | (simp; omega))⟩
/-- a glue's number by its name, 0 if there is none -/
noncomputable def glueI (gs : List Gl) (s : ByteArray) : Nat := by
  classical
  exact match gs.findIdx? (fun g => decide (g.name = s)) with
    | some k => k + 1
    | none => 0
theorem glueI_at {gs : List Gl} {s : ByteArray} {k : Nat} {g : Gl} (hk : gs[k]? = some g) (h : g.name = s) (hb : ∀ j, j < k → ∀ e, gs[j]? = some e → e.name ≠ s) : glueI gs s = k + 1 := by
  classical
  obtain ⟨hkl, rfl⟩ := List.getElem?_eq_some_iff.1 hk
  have : gs.findIdx? (fun g => decide (g.name = s)) = some k := by
    rw [List.findIdx?_eq_some_iff_getElem]
    refine ⟨hkl, by simpa using h, fun j hj => ?_⟩
    have := hb j hj _ (List.getElem?_eq_getElem (by omega))
    simpa using this
  unfold glueI
  rw [this]
theorem glueI_none {gs : List Gl} {s : ByteArray} (hb : ∀ j, j < gs.length → ∀ e, gs[j]? = some e → e.name ≠ s) : glueI gs s = 0 := by
  classical
  have : gs.findIdx? (fun g => decide (g.name = s)) = none := by
    rw [List.findIdx?_eq_none_iff]
    intro e he
    obtain ⟨j, hj, rfl⟩ := List.mem_iff_getElem.1 he
    have := hb j hj _ (List.getElem?_eq_getElem hj)
    simpa using this
  unfold glueI
  rw [this]
set_option maxHeartbeats 1000000 in
theorem l02GlueN_any {op : Nat} (p : Nat) (gs : List Gl) (ts : List Ti) (s : ByteArray) (w : World) (h : SetAt w p op gs ts) (hm : gs.length ≤ 281474976710656) :
    Calls Tryz.prog 203 #[.pointer (some ⟨p, op, none⟩), .string s] w fun e w' => e = .returned (.int .i64 (glueI gs s : Int)) ∧ w = w' := by
  obtain ⟨hlt, ⟨A, n, c, h1, h2⟩, ⟨B, m, d, h3, h4⟩⟩ := h
  have hl := h2.len
  have h2H := Lib.hid h2
  clear h3 h4 h2
  go_enter Tryz.func203, Tryz.ntmps203
  go_wp2
  go_loopg [5] n (fun r x wr => ∃ k : Nat, k + r = n ∧ x = .int .i64 (k : Int) ∧ Hid (∀ j, j < k → ∀ e, gs[j]? = some e → e.name ≠ s) ∧ w = wr)
  case atStart => exact ⟨0, by omega, rfl, Lib.hid (fun j hj => by omega), rfl⟩
  case round =>
    obtain ⟨k, hk, rfl, hok, rfl⟩ := hrel
    by_cases hkn : k < n
    · obtain ⟨b, o, rfl, hbl, hc⟩ := h2H.out.ptr (by omega)
      obtain ⟨e, he⟩ := h2H.out.get hkn
      obtain ⟨c0, c1⟩ := hc k e he
      have heH := Lib.hid he
      clear hc he
      by_cases hn : e.name = s
      · have hn'' : (e.name.toList == s.toList) = true := (Lib.bytes_beq_iff _ _).2 hn
        have hr := Lib.hid (glueI_at heH.out hn hok.out)
        clear hn
        go_wp2
        go_ret
        exact ⟨ret_int (by rw [hr.out]; simp), rfl⟩
      · have hn'' : (e.name.toList == s.toList) = false := (Lib.bytes_beq_false_iff _ _).2 hn
        have hnH := Lib.hid hn
        clear hn
        go_wp2
        go_roundg (n - (k + 1))
        case measure => omega
        case rel => exact ⟨k + 1, by omega, by go_num, Lib.hid (fun j hj e' he' => by
            rcases Nat.lt_succ_iff_lt_or_eq.1 hj with hj | rfl
            · exact hok.out j hj e' he'
            · rw [← Option.some.inj (heH.out.symm.trans he')]
              exact hnH.out), rfl⟩
    · obtain rfl : k = n := by omega
      have hr := Lib.hid (glueI_none (gs := gs) (s := s) (fun j hj => hok.out j (by omega)))
      go_wp2
      go_ret
      exact ⟨ret_int (by rw [hr.out]; rfl), rfl⟩
/-- names of glues are all different -/
theorem names_ne {gs : List Gl} {ts : List Ti} (h : validSetB gs ts = true) {i j : Nat} {d e : Gl} (hi : gs[i]? = some d) (hj : gs[j]? = some e) (hn : d.name = e.name) : i = j := by
  have key : ∀ {i j : Nat} {d e : Gl}, gs[i]? = some d → gs[j]? = some e → d.name = e.name → ¬ i < j := fun {i j d e} hi hj hn hij => by
    unfold validSetB at h
    simp only [Bool.and_eq_true] at h
    have := allB_at h.2.1 (lt_of_get hj)
    unfold okGl at this
    rw [hj] at this
    simp only [Bool.and_eq_true] at this
    rw [freshG_false hj hij hi hn] at this
    cases this.2.2
  rcases Nat.lt_trichotomy i j with h1 | h1 | h1
  · exact (key hi hj hn h1).elim
  · exact h1
  · exact (key hj hi hn.symm h1).elim
theorem glueI_iff {gs : List Gl} {ts : List Ti} (h : validSetB gs ts = true) {k : Nat} {g : Gl} (hk : gs[k]? = some g) (s : ByteArray) : glueI gs s = k + 1 ↔ g.name = s := by
  constructor
  · intro he
    classical
    unfold glueI at he
    split at he
    · rename_i j hj
      obtain rfl : j = k := by omega
      rw [List.findIdx?_eq_some_iff_getElem] at hj
      obtain ⟨hl, h1, _⟩ := hj
      obtain ⟨_, rfl⟩ := List.getElem?_eq_some_iff.1 hk
      simpa using h1
    · omega
  · intro he
    exact glueI_at hk he (fun j hj e hej hn => by
      have := names_ne h hej hk (hn.trans he.symm)
      omega)
end Go.Proofs.YtcpbppblahpjbaaGreat
/- Walks: the names of the tiles in a row, by the program and by the reference. -/




namespace Go.Proofs.YtcpbppblahpjbaaGreat
open Go.RowKit Go.Shelf
set_option linter.unusedSimpArgs false
set_option linter.unusedVariables false
attribute [local go_sem] BelowBy.cell BelowBy.cell_drew stillUpon givesUpon BelowBy.cell_drew2 BelowBy.cell_drew3

theorem infoStr : (Tryz.prog.info? 9).map (fun i => (i.zero, i.size, i.bytes)) = some (some (.string ByteArray.empty), 1, 16) := by kernel_rfl
def nameOf (ts : List Ti) (t : Nat) : ByteArray := match ts[t]? with
  | some e => e.name
  | none => ByteArray.empty
theorem nameOf_eq {ts : List Ti} {t : Nat} {e : Ti} (h : ts[t]? = some e) : nameOf ts t = e.name := by unfold nameOf; rw [h]
def rowN (ts : List Ti) (ys : List Pl) (row : Int) : Nat → List ByteArray
  | 0 => []
  | j + 1 => match ys[j]? with
    | some e => if e.y = row then rowN ts ys row j ++ [nameOf ts e.t.toNat] else rowN ts ys row j
    | none => rowN ts ys row j
theorem rowN_yes {ts : List Ti} {ys : List Pl} {row : Int} {j t : Nat} {e : Pl} {ti : Ti} (h : ys[j]? = some e) (hy : e.y = row) (ht : e.t = t) (hti : ts[t]? = some ti) : rowN ts ys row (j + 1) = rowN ts ys row j ++ [ti.name] := by
  simp only [rowN, h]; rw [if_pos hy, ht, show ((t : Nat) : Int).toNat = t by omega, nameOf_eq hti]
theorem rowN_no {ts : List Ti} {ys : List Pl} {row : Int} {j : Nat} {e : Pl} (h : ys[j]? = some e) (hy : ¬ e.y = row) : rowN ts ys row (j + 1) = rowN ts ys row j := by
  simp only [rowN, h]; rw [if_neg hy]
theorem rowN_len (ts : List Ti) (ys : List Pl) (row : Int) : ∀ j, (rowN ts ys row j).length ≤ j
  | 0 => Nat.le_refl _
  | j + 1 => by
    have := rowN_len ts ys row j
    simp only [rowN]
    split
    · split
      · simp; omega
      · omega
    · omega
noncomputable def rowR (gs : List Gl) (ts : List Ti) (xs : List Pl) (t : Int) (ys : List Pl) (row : Int) : List ByteArray × Int := if growB gs ts xs t ys = false then ([], 1) else if inB row (-60) 60 = false then ([], 2) else (rowN ts ys row ys.length, 0)
theorem rowR_no {gs : List Gl} {ts : List Ti} {xs ys : List Pl} {t row : Int} (h : growB gs ts xs t ys = false) : ([], 1) = rowR gs ts xs t ys row := by unfold rowR; rw [if_pos h]
theorem rowR_range {gs : List Gl} {ts : List Ti} {xs ys : List Pl} {t row : Int} (h : growB gs ts xs t ys = true) (h2 : inB row (-60) 60 = false) : ([], 2) = rowR gs ts xs t ys row := by unfold rowR; rw [if_neg (by rw [h]; decide), if_pos h2]
theorem rowR_yes {gs : List Gl} {ts : List Ti} {xs ys : List Pl} {t row : Int} (h : growB gs ts xs t ys = true) (h2 : inB row (-60) 60 = true) : (rowN ts ys row ys.length, 0) = rowR gs ts xs t ys row := by unfold rowR; rw [if_neg (by rw [h]; decide), if_neg (by rw [h2]; decide)]
theorem rowR_len (gs : List Gl) (ts : List Ti) (xs : List Pl) (t : Int) (ys : List Pl) (row : Int) : (rowR gs ts xs t ys row).1.length ≤ 1073741824 := by
  unfold rowR
  split
  · simp
  · rename_i h
    split
    · simp
    · have hV := (valid_of (growB_true (by simpa using h)).2).len
      have := rowN_len ts ys row ys.length
      simp only; omega
set_option maxRecDepth 100000 in
set_option maxHeartbeats 4000000 in
theorem RowTiles_any (G T A C : Option Addr) (n cg m ct q ca k cc : Nat) (gs : List Gl) (ts : List Ti) (xs ys : List Pl) (t row : Int) (w : World) (h : SA w G n T m A q gs ts xs) (h2 : SA w G n T m C k gs ts ys) :
    Calls Tryz.prog 32 #[.agg #[.slice G n cg, .slice T m ct, .slice A q ca, .int .i64 t], .agg #[.slice C k cc], .int .i64 row] w (StrsRes w (rowR gs ts xs t ys row)) := by
  obtain ⟨i0, hi, hz0, hz1, hz2⟩ := info_parts infoStr
  
  have hS := Lib.hid h
  have hA := Lib.hid h2
  have hkl := h2.A.len
  have hml := h.T.len
  clear h h2
  cases hg : growB gs ts xs t ys
  · have hgH := Lib.hid hg
    clear hg
    go_enter Tryz.func32, Tryz.ntmps32
    go_wp2_with (go_at_call 76; refine (growthCode_at (hS.out.below (by repeat (first | with_reducible exact bl_refl _ | with_reducible assumption | with_reducible refine bl_al ?_ _ | with_reducible refine bl_dr ?_ | with_reducible refine bl_tr ?_ (by assumption) | with_reducible refine bl_set ?_ ?_ _ | with_reducible exact Nat.le_refl _ | omega | (simp only [World.size_alloc, World.size_setCell, World.size_drew] at *; omega) | (dsimp only; omega) | (simp; done) | (simp; omega)))) (hA.out.below (by repeat (first | with_reducible exact bl_refl _ | with_reducible assumption | with_reducible refine bl_al ?_ _ | with_reducible refine bl_dr ?_ | with_reducible refine bl_tr ?_ (by assumption) | with_reducible refine bl_set ?_ ?_ _ | with_reducible exact Nat.le_refl _ | omega | (simp only [World.size_alloc, World.size_setCell, World.size_drew] at *; omega) | (dsimp only; omega) | (simp; done) | (simp; omega)))) hgH.out).mono ?_; simp only [codeB_false]; rintro e w1 ⟨rfl, hb1⟩)
    go_ret2
    exact StrsRes.of (rowR_no hgH.out) rfl (World.ownsRow_nil _ _ _ _) (by repeat (first | with_reducible exact bl_refl _ | with_reducible assumption | with_reducible refine bl_al ?_ _ | with_reducible refine bl_dr ?_ | with_reducible refine bl_tr ?_ (by assumption) | with_reducible refine bl_set ?_ ?_ _ | with_reducible exact Nat.le_refl _ | omega | (simp only [World.size_alloc, World.size_setCell, World.size_drew] at *; omega) | (dsimp only; omega) | (simp; done) | (simp; omega)))
  · have hgH := Lib.hid hg
    have hV := valid_of (growB_true hg).2
    have hk5 : k ≤ 500 := by rw [← hkl]; exact hV.len
    clear hg
    cases hw : inB row (-60) 60
    · have hwH := Lib.hid hw
      have hr := Lib.hid (rowR_range hgH.out hw)
      clear hw
      go_enter Tryz.func32, Tryz.ntmps32
      go_wp2_with (first
        | (go_at_call 76; refine (growthCode_at (hS.out.below (by repeat (first | with_reducible exact bl_refl _ | with_reducible assumption | with_reducible refine bl_al ?_ _ | with_reducible refine bl_dr ?_ | with_reducible refine bl_tr ?_ (by assumption) | with_reducible refine bl_set ?_ ?_ _ | with_reducible exact Nat.le_refl _ | omega | (simp only [World.size_alloc, World.size_setCell, World.size_drew] at *; omega) | (dsimp only; omega) | (simp; done) | (simp; omega)))) (hA.out.below (by repeat (first | with_reducible exact bl_refl _ | with_reducible assumption | with_reducible refine bl_al ?_ _ | with_reducible refine bl_dr ?_ | with_reducible refine bl_tr ?_ (by assumption) | with_reducible refine bl_set ?_ ?_ _ | with_reducible exact Nat.le_refl _ | omega | (simp only [World.size_alloc, World.size_setCell, World.size_drew] at *; omega) | (dsimp only; omega) | (simp; done) | (simp; omega)))) hgH.out).mono ?_; simp only [codeB_true]; rintro e w1 ⟨rfl, hb1⟩)
        | (go_at_call 66; refine (within_at hwH.out).mono ?_; rintro e _ ⟨rfl, rfl⟩))
      go_ret2
      exact StrsRes.of hr.out rfl (World.ownsRow_nil _ _ _ _) (by repeat (first | with_reducible exact bl_refl _ | with_reducible assumption | with_reducible refine bl_al ?_ _ | with_reducible refine bl_dr ?_ | with_reducible refine bl_tr ?_ (by assumption) | with_reducible refine bl_set ?_ ?_ _ | with_reducible exact Nat.le_refl _ | omega | (simp only [World.size_alloc, World.size_setCell, World.size_drew] at *; omega) | (dsimp only; omega) | (simp; done) | (simp; omega)))
    · have hwH := Lib.hid hw
      have hr := Lib.hid (rowR_yes hgH.out hw)
      clear hw
      go_enter Tryz.func32, Tryz.ntmps32
      go_wp2_with (first
        | (go_at_call 76; refine (growthCode_at (hS.out.below (by repeat (first | with_reducible exact bl_refl _ | with_reducible assumption | with_reducible refine bl_al ?_ _ | with_reducible refine bl_dr ?_ | with_reducible refine bl_tr ?_ (by assumption) | with_reducible refine bl_set ?_ ?_ _ | with_reducible exact Nat.le_refl _ | omega | (simp only [World.size_alloc, World.size_setCell, World.size_drew] at *; omega) | (dsimp only; omega) | (simp; done) | (simp; omega)))) (hA.out.below (by repeat (first | with_reducible exact bl_refl _ | with_reducible assumption | with_reducible refine bl_al ?_ _ | with_reducible refine bl_dr ?_ | with_reducible refine bl_tr ?_ (by assumption) | with_reducible refine bl_set ?_ ?_ _ | with_reducible exact Nat.le_refl _ | omega | (simp only [World.size_alloc, World.size_setCell, World.size_drew] at *; omega) | (dsimp only; omega) | (simp; done) | (simp; omega)))) hgH.out).mono ?_; simp only [codeB_true]; rintro e w1 ⟨rfl, hb1⟩; obtain ⟨chb1, fhb1, shb1, thb1⟩ := bcell hb1; (have b0 := shb1 w.heap.size (by go_simp)); (have b1 := shb1 (w.heap.size + 1) (by go_simp)))
        | (go_at_call 66; refine (within_at hwH.out).mono ?_; rintro e _ ⟨rfl, rfl⟩))
      have hB1 := Lib.hid (show Below w.heap.size w w1 by repeat (first | with_reducible exact bl_refl _ | with_reducible assumption | with_reducible refine bl_al ?_ _ | with_reducible refine bl_dr ?_ | with_reducible refine bl_tr ?_ (by assumption) | with_reducible refine bl_set ?_ ?_ _ | with_reducible exact Nat.le_refl _ | omega | (simp only [World.size_alloc, World.size_setCell, World.size_drew] at *; omega) | (dsimp only; omega) | (simp; done) | (simp; omega)))
      have y0 : w1.cell? ⟨w.heap.size, 1, none⟩ = some (.slice T m ct) := (hb1.cell (p := ⟨w.heap.size, 1, none⟩) (by go_simp)).trans (by go_simp)
      have hsz1 := hB1.out.size
      clear chb1 fhb1 shb1 thb1 hb1
      go_loopg [23, 8] k (fun gk i v wr => ∃ j : Nat, j + gk = k ∧ i = .int .i64 (j : Int) ∧ Hid (wr.ownsRow w1.heap.size 9 1 v (rowN ts ys row j).length ((rowN ts ys row j).map Value.string)) ∧ Hid (Below w1.heap.size w1 wr))
      case atStart => exact ⟨0, by omega, rfl, Lib.hid (World.ownsRow_nil _ _ _ _), Lib.hid (bl_refl _)⟩
      case round =>
        obtain ⟨j, hj, rfl, hrow, hbw⟩ := hrel
        obtain ⟨A1, c1, hform⟩ := ownsRow_form hrow.out
        subst hform
        have hszr := hbw.out.size
        have z0 := (hbw.out.cell (p := ⟨w.heap.size, 1, none⟩) b0).trans y0
        have e0 : w.heap.size < wr.heap.size := by omega
        have e0' : w.heap.size ≤ wr.heap.size := by omega
        have hBw := Lib.hid (hB1.out.trans (hbw.out.mono hsz1))
        have hle := rowN_len ts ys row j
        obtain ⟨L, hL⟩ : ∃ L, rowN ts ys row j = L := ⟨_, rfl⟩
        rw [hL] at hrow hle
        rw [hL]
        have hLH := Lib.hid hL
        obtain ⟨N, hN⟩ : ∃ N, L.length = N := ⟨_, rfl⟩
        rw [hN] at hrow hle
        rw [hN]
        have hNH := Lib.hid hN
        by_cases hjk : j < k
        · have hAw := hA.out.A.below RPl.stable hBw.out
          have hTw := hS.out.T.below RTi.stable hBw.out
          obtain ⟨e, he⟩ := hAw.get hjk
          obtain ⟨b, ob, hCe, hb, hc⟩ := hAw.ptr (by omega)
          obtain ⟨d0, d1, d2⟩ := hc j e he
          obtain ⟨tn, htn, htl⟩ := hV.ti j e he
          have htm : tn < m := by omega
          obtain ⟨ti, hti⟩ := hTw.get htm
          obtain ⟨bt, ot, hTe, hbt, hct⟩ := hTw.ptr (by omega)
          obtain ⟨f0, _⟩ := hct tn ti hti
          subst hCe hTe
          have hb' : b ≤ wr.heap.size := by omega
          have hbt' : bt ≤ wr.heap.size := by omega
          have htn0 : (0 : Int) ≤ (tn : Int) := by omega
          rw [htn] at d2
          have hb9 : Below wr.heap.size wr (wr.alloc (Obj.cells #[.int .i64 e.x, .int .i64 e.y, .int .i64 (tn : Int)] 113)) := bl_al (bl_refl _) _
          have hb9H := Lib.hid hb9
          clear hb9
          by_cases hy : e.y = row
          · have hs := Lib.hid (show rowN ts ys row (j + 1) = L ++ [ti.name] by rw [← hLH.out]; exact rowN_yes he hy htn hti)
            have hyd : (e.y == row) = true := by simpa using hy
            obtain ⟨s, hse⟩ : ∃ s, ti.name = s := ⟨_, rfl⟩
            rw [hse] at f0 hs
            clear hc hct he hti hL hN hAw hTw htn hy hse
            go_wp2_with (at_builtin; refine wpList_append_own _ rfl _ _ 58 rfl w1.heap.size 9 i0 (.string ByteArray.empty) 1 16 Tryz.underlying58 hi hz0 hz1 hz2 rfl (by decide) _ N _ rfl ((ownsRow_below hrow.out hb9H.out).alloc _) ⟨wr.heap.size + 1, 0, none⟩ 1 1 [.string s] rfl rfl (by have := cell_one_new (wr.alloc (Obj.cells #[.int .i64 e.x, .int .i64 e.y, .int .i64 (tn : Int)] 113)) (.string s) 9; simpa using this) (fun x hx => by simp at hx; subst hx; rfl) (by unfold maxLen; omega) (by omega) (by simp; omega) ?_; intro v' w4 hown' hgrow _)
            have hB4 := Lib.hid ((hbw.out.trans (hb9H.out.mono hszr)).trans (below_app (by simp; omega) (fun g e => (hrow.out.lt g e).1) hgrow))
            have hownH := Lib.hid hown'
            clear hown' hgrow
            go_wp2
            go_roundg (k - (j + 1))
            case measure => omega
            case rel => exact ⟨j + 1, by omega, by go_num, Lib.hid (by rw [hs.out, List.length_append, List.map_append, hNH.out]; exact hownH.out), hB4⟩
          · have hs := Lib.hid (show rowN ts ys row (j + 1) = L by rw [← hLH.out]; exact rowN_no he hy)
            have hyd : (e.y == row) = false := by simpa using hy
            clear hc hct he hti hL hN hAw hTw htn hy
            go_wp2
            go_roundg (k - (j + 1))
            case measure => omega
            case rel => exact ⟨j + 1, by omega, by go_num, Lib.hid (by rw [hs.out, hNH.out]; exact ownsRow_below hrow.out hb9H.out), Lib.hid (hbw.out.trans (hb9H.out.mono hszr))⟩
        · obtain rfl : j = k := by omega
          have hr2 := Lib.hid (show (L, (0 : Int)) = rowR gs ts xs t ys row by rw [← hr.out, ← hLH.out, hkl])
          clear hL hN
          go_wp2
          go_ret2
          exact StrsRes.of hr2.out hNH.out.symm (ownsRow_base hrow.out hsz1) hBw.out
set_option maxRecDepth 100000 in
set_option maxHeartbeats 4000000 in
theorem sRowTiles_any (G T A C : Option Addr) (n cg m ct q ca k cc : Nat) (gs : List Gl) (ts : List Ti) (xs ys : List Pl) (t row : Int) (w : World) (h : SA w G n T m A q gs ts xs) (h2 : SA w G n T m C k gs ts ys) :
    Calls Tryz.prog 31 #[.agg #[.slice G n cg, .slice T m ct, .slice A q ca, .int .i64 t], .agg #[.slice C k cc], .int .i64 row] w (StrsRes w (rowR gs ts xs t ys row)) := by
  obtain ⟨i0, hi, hz0, hz1, hz2⟩ := info_parts infoStr
  
  have hS := Lib.hid (show SysAt ((w.alloc (Obj.cells #[.slice G n cg, .slice T m ct, .slice A q ca, .int .i64 t] 43)).alloc (Obj.cells #[.slice C k cc] 41)) w.heap.size 0 gs ts xs t from (h.sysbox cg ct ca t).below (bl_al (bl_refl _) _))
  have hA := Lib.hid (show AsmAt ((w.alloc (Obj.cells #[.slice G n cg, .slice T m ct, .slice A q ca, .int .i64 t] 43)).alloc (Obj.cells #[.slice C k cc] 41)) (w.heap.size + 1) 0 ys from ⟨by simp, C, k, cc, by go_simp, h2.A.below RPl.stable (by repeat (first | with_reducible exact bl_refl _ | with_reducible assumption | with_reducible refine bl_al ?_ _ | with_reducible refine bl_dr ?_ | with_reducible refine bl_tr ?_ (by assumption) | with_reducible refine bl_set ?_ ?_ _ | with_reducible exact Nat.le_refl _ | omega | (simp only [World.size_alloc, World.size_setCell, World.size_drew] at *; omega) | (dsimp only; omega) | (simp; done) | (simp; omega)))⟩)
  have hk : ys.length ≤ 1073741824 := by rw [h2.A.len]; exact h2.q
  have hT := Lib.hid h.T
  have hC := Lib.hid h2.A
  have hkl := h2.A.len
  have hml := h.T.len
  clear h h2
  cases hg : growB gs ts xs t ys
  · have hgH := Lib.hid hg
    clear hg
    go_enter Tryz.func31, Tryz.ntmps31
    go_wp2_with (go_at_call 75; refine (l08Asked_at hS.out hA.out hk hgH.out).mono ?_; simp only [codeB_false]; rintro e w1 ⟨rfl, hb1⟩)
    go_ret2
    exact StrsRes.of (rowR_no hgH.out) rfl (World.ownsRow_nil _ _ _ _) (by repeat (first | with_reducible exact bl_refl _ | with_reducible assumption | with_reducible refine bl_al ?_ _ | with_reducible refine bl_dr ?_ | with_reducible refine bl_tr ?_ (by assumption) | with_reducible refine bl_set ?_ ?_ _ | with_reducible exact Nat.le_refl _ | omega | (simp only [World.size_alloc, World.size_setCell, World.size_drew] at *; omega) | (dsimp only; omega) | (simp; done) | (simp; omega)))
  · have hgH := Lib.hid hg
    have hV := valid_of (growB_true hg).2
    have hk5 : k ≤ 500 := by rw [← hkl]; exact hV.len
    clear hg
    cases hw : inB row (-60) 60
    · have hwH := Lib.hid hw
      have hr := Lib.hid (rowR_range hgH.out hw)
      clear hw
      go_enter Tryz.func31, Tryz.ntmps31
      go_wp2_with (first
        | (go_at_call 75; refine (l08Asked_at hS.out hA.out hk hgH.out).mono ?_; simp only [codeB_true]; rintro e w1 ⟨rfl, hb1⟩)
        | (go_at_call 61; refine (l00In_at hwH.out).mono ?_; rintro e _ ⟨rfl, rfl⟩))
      go_ret2
      exact StrsRes.of hr.out rfl (World.ownsRow_nil _ _ _ _) (by repeat (first | with_reducible exact bl_refl _ | with_reducible assumption | with_reducible refine bl_al ?_ _ | with_reducible refine bl_dr ?_ | with_reducible refine bl_tr ?_ (by assumption) | with_reducible refine bl_set ?_ ?_ _ | with_reducible exact Nat.le_refl _ | omega | (simp only [World.size_alloc, World.size_setCell, World.size_drew] at *; omega) | (dsimp only; omega) | (simp; done) | (simp; omega)))
    · have hwH := Lib.hid hw
      have hr := Lib.hid (rowR_yes hgH.out hw)
      clear hw
      go_enter Tryz.func31, Tryz.ntmps31
      go_wp2_with (first
        | (go_at_call 75; refine (l08Asked_at hS.out hA.out hk hgH.out).mono ?_; simp only [codeB_true]; rintro e w1 ⟨rfl, hb1⟩; obtain ⟨chb1, fhb1, shb1, thb1⟩ := bcell hb1; (have b0 := shb1 w.heap.size (by go_simp)); (have b1 := shb1 (w.heap.size + 1) (by go_simp)))
        | (go_at_call 61; refine (l00In_at hwH.out).mono ?_; rintro e _ ⟨rfl, rfl⟩))
      have hB1 := Lib.hid (show Below w.heap.size w w1 by repeat (first | with_reducible exact bl_refl _ | with_reducible assumption | with_reducible refine bl_al ?_ _ | with_reducible refine bl_dr ?_ | with_reducible refine bl_tr ?_ (by assumption) | with_reducible refine bl_set ?_ ?_ _ | with_reducible exact Nat.le_refl _ | omega | (simp only [World.size_alloc, World.size_setCell, World.size_drew] at *; omega) | (dsimp only; omega) | (simp; done) | (simp; omega)))
      have y0 : w1.cell? ⟨w.heap.size, 1, none⟩ = some (.slice T m ct) := (hb1.cell (p := ⟨w.heap.size, 1, none⟩) (by go_simp)).trans (by go_simp)
      have y1 : w1.cell? ⟨w.heap.size + 1, 0, none⟩ = some (.slice C k cc) := (hb1.cell (p := ⟨w.heap.size + 1, 0, none⟩) (by go_simp)).trans (by go_simp)
      have hsz1 := hB1.out.size
      clear chb1 fhb1 shb1 thb1 hb1
      go_loopg [10, 9] k (fun gk i v wr => ∃ j : Nat, j + gk = k ∧ i = .int .i64 (j : Int) ∧ Hid (wr.ownsRow w1.heap.size 9 1 v (rowN ts ys row j).length ((rowN ts ys row j).map Value.string)) ∧ Hid (Below w1.heap.size w1 wr))
      case atStart => exact ⟨0, by omega, rfl, Lib.hid (by have := World.ownsRow_lit (base := w1.heap.size) (e := 9) (size := 1) w1 #[] 0 (Nat.le_refl _) (by decide) rfl; simpa [rowN] using this), Lib.hid (bl_al (bl_refl _) _)⟩
      case round =>
        obtain ⟨j, hj, rfl, hrow, hbw⟩ := hrel
        obtain ⟨A1, c1, hform⟩ := ownsRow_form hrow.out
        subst hform
        have hszr := hbw.out.size
        have z0 := (hbw.out.cell (p := ⟨w.heap.size, 1, none⟩) b0).trans y0
        have z1 := (hbw.out.cell (p := ⟨w.heap.size + 1, 0, none⟩) b1).trans y1
        have e0 : w.heap.size < wr.heap.size := by omega
        have e1 : w.heap.size + 1 < wr.heap.size := by omega
        have hBw := Lib.hid (hB1.out.trans (hbw.out.mono hsz1))
        have hle := rowN_len ts ys row j
        obtain ⟨L, hL⟩ : ∃ L, rowN ts ys row j = L := ⟨_, rfl⟩
        rw [hL] at hrow hle
        rw [hL]
        have hLH := Lib.hid hL
        obtain ⟨N, hN⟩ : ∃ N, L.length = N := ⟨_, rfl⟩
        rw [hN] at hrow hle
        rw [hN]
        have hNH := Lib.hid hN
        by_cases hjk : j < k
        · have hAw := hC.out.below RPl.stable hBw.out
          have hTw := hT.out.below RTi.stable hBw.out
          obtain ⟨e, he⟩ := hAw.get hjk
          obtain ⟨b, ob, hCe, hb, hc⟩ := hAw.ptr (by omega)
          obtain ⟨d0, d1, d2⟩ := hc j e he
          obtain ⟨tn, htn, htl⟩ := hV.ti j e he
          have htm : tn < m := by omega
          obtain ⟨ti, hti⟩ := hTw.get htm
          obtain ⟨bt, ot, hTe, hbt, hct⟩ := hTw.ptr (by omega)
          obtain ⟨f0, _⟩ := hct tn ti hti
          subst hCe hTe
          have htn0 : (0 : Int) ≤ (tn : Int) := by omega
          rw [htn] at d2
          by_cases hy : e.y = row
          · have hs := Lib.hid (show rowN ts ys row (j + 1) = L ++ [ti.name] by rw [← hLH.out]; exact rowN_yes he hy htn hti)
            have hyd : (e.y == row) = true := by simpa using hy
            obtain ⟨s, hse⟩ : ∃ s, ti.name = s := ⟨_, rfl⟩
            rw [hse] at f0 hs
            clear hc hct he hti hL hN hAw hTw htn hy hse
            go_wp2
            refine wp_region_ord [(0, .q), (1, .q), (2, .q), (3, .q), (4, .q), (5, .q), (6, .q), (7, .q), (8, .q), (9, .q), (10, .q), (11, .q), (12, .q), (13, .g), (14, .b), (15, .q)] (by kernel_rfl) (by kernel_rfl) ?_
            simp only [pick, List.filterMap_cons, List.filterMap_nil, List.getElem?_toArray, List.getElem?_cons_zero, List.getElem?_cons_succ, Option.map_some]
            repeat (first | ((with_reducible refine wpD_p (fun K hK => ?_)); go_simp; refine hK _ ?_; clear hK K) | ((with_reducible refine wpD_q (fun K hK => ?_)); go_simp; (first | refine hK _ ?_ | (go_bits; refine hK _ ?_) | (go_bits; go_simp; refine hK _ ?_)); clear hK K))
            with_reducible refine wpD_g (fun K hK => ?_)
            go_simp
            refine ⟨Grew.of_alloc _, hK _ _ ?_⟩
            clear hK K
            refine wpD_append rfl _ _ 58 rfl w1.heap.size 9 i0 (.string ByteArray.empty) 1 16 Tryz.underlying58 hi hz0 hz1 hz2 rfl (by decide) (.slice A1 N c1) N (L.map Value.string) (by go_simp) (hrow.out.drew.alloc _) ⟨wr.heap.size, 0, none⟩ 1 1 [.string s] (by go_simp) rfl ?hnews (fun x hx => by simp at hx; subst hx; rfl) (by unfold maxLen; omega) (by omega) (by simp; omega) ?_
            case hnews =>
              have := cell_one_new wr (.string s) 9
              simpa using this
            intro v' w4 hown' hgrow
            have hB4 := Lib.hid ((bl_dr hbw.out).trans (below_app (by simp; omega) (fun g e => (hrow.out.lt g e).1) hgrow))
            have hownH := Lib.hid hown'
            clear hown' hgrow
            repeat (first | ((with_reducible refine wpD_p (fun K hK => ?_)); go_simp; refine hK _ ?_; clear hK K) | ((with_reducible refine wpD_q (fun K hK => ?_)); go_simp; (first | refine hK _ ?_ | (go_bits; refine hK _ ?_) | (go_bits; go_simp; refine hK _ ?_)); clear hK K))
            with_reducible refine wpD_nil ?_
            go_wp2
            go_roundg (k - (j + 1))
            case measure => omega
            case rel => exact ⟨j + 1, by omega, by go_num, Lib.hid (by rw [hs.out, List.length_append, List.map_append, hNH.out]; exact hownH.out), hB4⟩
          · have hs := Lib.hid (show rowN ts ys row (j + 1) = L by rw [← hLH.out]; exact rowN_no he hy)
            have hyd : (e.y == row) = false := by simpa using hy
            clear hc hct he hti hL hN hAw hTw htn hy
            go_wp2
            go_roundg (k - (j + 1))
            case measure => omega
            case rel => exact ⟨j + 1, by omega, by go_num, Lib.hid (by rw [hs.out, hNH.out]; exact hrow.out), hbw⟩
        · obtain rfl : j = k := by omega
          have hr2 := Lib.hid (show (L, (0 : Int)) = rowR gs ts xs t ys row by rw [← hr.out, ← hLH.out, hkl])
          clear hL hN
          go_wp2
          go_ret2
          exact StrsRes.of hr2.out hNH.out.symm (ownsRow_base hrow.out hsz1) hBw.out
end Go.Proofs.YtcpbppblahpjbaaGreat
