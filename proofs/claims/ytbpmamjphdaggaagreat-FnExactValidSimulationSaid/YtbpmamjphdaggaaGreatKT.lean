import Derived.Test.YtbpmamjphdaggaaGreatKS
/- Walks: systems: the reference's test and the program's. -/

namespace Go.Proofs.YtbpmamjphdaggaaGreat
open Go.RowKit Go.Shelf
set_option linter.unusedSimpArgs false
set_option linter.unusedVariables false
attribute [local go_sem] BelowBy.cell BelowBy.cell_drew stillUpon givesUpon BelowBy.cell_drew2 BelowBy.cell_drew3

/-- a valid system -/
noncomputable def sysOkB (gs : List Gl) (ts : List Ti) (xs : List Pl) (t : Int) : Bool := decide (0 < xs.length) && (isStabR gs ts xs t).1
theorem isStabR_cases (gs : List Gl) (ts : List Ti) (xs : List Pl) (t : Int) : (∃ c : Int, c ≠ 0 ∧ isStabR gs ts xs t = (false, c)) ∨ ∃ b, isStabR gs ts xs t = (b, 0) := by
  unfold isStabR
  split
  · exact .inl ⟨1, by decide, rfl⟩
  · split
    · exact .inl ⟨2, by decide, rfl⟩
    · unfold stabVR stabR
      split
      · exact .inl ⟨4, by decide, rfl⟩
      · exact .inr ⟨_, rfl⟩
theorem sysOkB_valid {gs : List Gl} {ts : List Ti} {xs : List Pl} {t : Int} (h : sysOkB gs ts xs t = true) : validAsmB gs ts xs = true ∧ 0 < xs.length ∧ tempB t = true := by
  unfold sysOkB at h
  simp only [Bool.and_eq_true, decide_eq_true_eq] at h
  obtain ⟨h1, h2⟩ := h
  refine ⟨?_, h1, ?_⟩
  · cases hv : validAsmB gs ts xs
    · rw [← isStabR_no hv] at h2; cases h2
    · rfl
  · cases hv : validAsmB gs ts xs
    · rw [← isStabR_no hv] at h2; cases h2
    · cases ht : tempB t
      · rw [← isStabR_range hv ht] at h2; cases h2
      · rfl
structure SysAt (w : World) (p o : Nat) (gs : List Gl) (ts : List Ti) (xs : List Pl) (t : Int) : Prop where
  sat : SAt w p o p (o + 2) gs ts xs
  temp : w.cell? ⟨p, o + 3, none⟩ = some (.int .i64 t)
section
variable {w w' : World} {p o q oq : Nat} {gs : List Gl} {ts : List Ti} {xs : List Pl} {t : Int}
theorem SysAt.below (h : SysAt w p o gs ts xs t) (hb : Below w.heap.size w w') : SysAt w' p o gs ts xs t :=
  ⟨h.sat.below hb, (hb.cell (p := ⟨p, o + 3, none⟩) h.sat.s.lt).trans h.temp⟩
theorem SA.sysbox {G T A : Option Addr} {n m k : Nat} (h : SA w G n T m A k gs ts xs) (cg ct ca : Nat) (t : Int) : SysAt (w.alloc (Obj.cells #[.slice G n cg, .slice T m ct, .slice A k ca, .int .i64 t] 62)) w.heap.size 0 gs ts xs t :=
  ⟨⟨⟨by simp, ⟨G, n, cg, by go_simp, h.G.below RGl.stable (by repeat (first | with_reducible exact bl_refl _ | with_reducible assumption | with_reducible refine bl_al ?_ _ | with_reducible refine bl_dr ?_ | with_reducible refine bl_tr ?_ (by assumption) | with_reducible refine bl_set ?_ ?_ _ | with_reducible exact Nat.le_refl _ | omega | (simp only [World.size_alloc, World.size_setCell, World.size_drew] at *; omega) | (dsimp only; omega) | (simp; done) | (simp; omega)))⟩, ⟨T, m, ct, by go_simp, h.T.below RTi.stable (by repeat (first | with_reducible exact bl_refl _ | with_reducible assumption | with_reducible refine bl_al ?_ _ | with_reducible refine bl_dr ?_ | with_reducible refine bl_tr ?_ (by assumption) | with_reducible refine bl_set ?_ ?_ _ | with_reducible exact Nat.le_refl _ | omega | (simp only [World.size_alloc, World.size_setCell, World.size_drew] at *; omega) | (dsimp only; omega) | (simp; done) | (simp; omega)))⟩⟩, ⟨by simp, A, k, ca, by go_simp, h.A.below RPl.stable (by repeat (first | with_reducible exact bl_refl _ | with_reducible assumption | with_reducible refine bl_al ?_ _ | with_reducible refine bl_dr ?_ | with_reducible refine bl_tr ?_ (by assumption) | with_reducible refine bl_set ?_ ?_ _ | with_reducible exact Nat.le_refl _ | omega | (simp only [World.size_alloc, World.size_setCell, World.size_drew] at *; omega) | (dsimp only; omega) | (simp; done) | (simp; omega)))⟩,
    by rw [h.A.len]; exact h.q, by rw [h.G.len]; exact h.gm, by rw [h.T.len]; exact h.tm, h.gn, h.tn⟩, by go_simp⟩
theorem SAt.set {v : Bool} (h : SAt w p o q oq gs ts xs) (hv : validSetB gs ts = v) :
    Calls Tryz.prog 109 #[.pointer (some ⟨p, o, none⟩)] w fun e w' => e = .returned (.bool v) ∧ Below w.heap.size w w' := by
  rw [← hv]; exact l02Ok_any _ gs ts _ h.s (Nat.le_trans h.gm (by decide)) (Nat.le_trans h.tm (by decide)) h.gn h.tn
theorem SAt.form {v : Bool} (h : SAt w p o q oq gs ts xs) (hv : (hasFormB xs && allB xs.length (okTile ts.length xs)) = v) :
    Calls Tryz.prog 110 #[.pointer (some ⟨p, o, none⟩), .pointer (some ⟨q, oq, none⟩)] w fun e w' => e = .returned (.bool v) ∧ Below w.heap.size w w' := by
  rw [← hv]; exact l03Ok_any _ _ gs ts xs _ h.s h.a h.q (Nat.le_trans h.tm (by decide))
end
theorem l07Temperature_at (t : Int) (w : World) {v : Bool} (h : tempB t = v) : Calls Tryz.prog 68 #[.int .i64 t] w fun e w' => e = .returned (.bool v) ∧ w = w' := by
  rw [← h]; exact l07Temperature_any t w
set_option maxRecDepth 100000 in
set_option maxHeartbeats 4000000 in
theorem l08Ok_any {o : Nat} (p : Nat) (gs : List Gl) (ts : List Ti) (xs : List Pl) (t : Int) (w : World) (h : SysAt w p o gs ts xs t) :
    Calls Tryz.prog 72 #[.pointer (some ⟨p, o, none⟩)] w fun e w' => e = .returned (.bool (sysOkB gs ts xs t)) ∧ Below w.heap.size w w' := by
  
  have hS := Lib.hid h.sat
  have ct := h.temp
  have lp := h.sat.s.lt
  obtain ⟨lq, A, q, ca, cq, hA⟩ := h.sat.a
  have hlen := hA.len
  have hq0 := h.sat.q
  rw [hlen] at hq0
  have hlenH := Lib.hid hlen
  clear h hA hlen
  cases hv2 : validSetB gs ts
  · have hv2H := Lib.hid hv2
    have hr := Lib.hid (show false = sysOkB gs ts xs t by unfold sysOkB; rw [← isStabR_no (show validAsmB gs ts xs = false by unfold validAsmB; rw [hv2]; rfl)]; simp)
    clear hv2
    go_enter Tryz.func72, Tryz.ntmps72
    go_wp2
    refine wp_region_ord [(0, .q), (1, .q), (2, .q), (3, .g), (4, .q), (5, .q), (6, .q), (7, .q), (8, .q), (9, .q), (10, .q), (11, .q), (12, .g), (13, .q), (14, .q), (15, .q), (16, .q), (17, .q), (18, .q), (19, .q), (20, .q), (21, .q), (22, .q), (23, .q), (24, .q), (25, .q), (26, .q), (27, .q), (28, .q), (29, .g), (30, .q), (31, .q)] (by kernel_rfl) (by kernel_rfl) ?_
    simp only [pick, List.filterMap_cons, List.filterMap_nil, List.getElem?_toArray, List.getElem?_cons_zero, List.getElem?_cons_succ, Option.map_some]
    repeat (first
      | ((with_reducible refine wpD_p (fun K hK => ?_)); go_simp; refine hK _ ?_; clear hK K)
      | ((with_reducible refine wpD_q (fun K hK => ?_)); go_simp; (first | refine hK _ ?_ | (go_bits; refine hK _ ?_) | (go_bits; go_simp; refine hK _ ?_)); clear hK K)
      | ((with_reducible refine wpD_g (fun K hK => ?_)); go_simp; refine hK _ _ ?_; clear hK K)
      | ((with_reducible refine wpD_g (fun K hK => ?_)); go_simp; refine ⟨Grew.of_alloc _, hK _ _ ?_⟩; clear hK K)
      | ((with_reducible refine wpD_g (fun K hK => ?_)); go_simp; go_at_call 109; refine ((hS.out.below (by repeat (first | with_reducible exact bl_refl _ | with_reducible assumption | with_reducible refine bl_al ?_ _ | with_reducible refine bl_dr ?_ | with_reducible refine bl_tr ?_ (by assumption) | with_reducible refine bl_set ?_ ?_ _ | with_reducible exact Nat.le_refl _ | omega | (simp only [World.size_alloc, World.size_setCell, World.size_drew] at *; omega) | (dsimp only; omega) | (simp; done) | (simp; omega)))).set hv2H.out).mono ?_; rintro e w1 ⟨rfl, hb1⟩; refine ⟨_, rfl, hb1, hK _ _ ?_⟩; clear hK K; obtain ⟨chb1, fhb1, shb1, thb1⟩ := bcell hb1; (try have bhb10 := shb1 (p) (by go_simp)); have cq1 := (hb1.cell (p := ⟨p, o + 2, none⟩) (by simpa using lp)).trans (show _ = some (Value.slice A q ca) by simpa using cq); have ct1 := (hb1.cell (p := ⟨p, o + 3, none⟩) (by simpa using lp)).trans (show _ = some (Value.int .i64 t) by simpa using ct)))
    with_reducible refine wpD_nil ?_
    go_wp2
    go_ret
    exact ⟨ret_bool hr.out, by repeat (first | with_reducible exact bl_refl _ | with_reducible assumption | with_reducible refine bl_al ?_ _ | with_reducible refine bl_dr ?_ | with_reducible refine bl_tr ?_ (by assumption) | with_reducible refine bl_set ?_ ?_ _ | with_reducible exact Nat.le_refl _ | omega | (simp only [World.size_alloc, World.size_setCell, World.size_drew] at *; omega) | (dsimp only; omega) | (simp; done) | (simp; omega))⟩
  · have hv2H := Lib.hid hv2
    cases hv3 : (hasFormB xs && allB xs.length (okTile ts.length xs))
    · have hv3H := Lib.hid hv3
      have hr := Lib.hid (show false = sysOkB gs ts xs t by unfold sysOkB; rw [← isStabR_no (show validAsmB gs ts xs = false by unfold validAsmB; rw [hv2, hv3]; rfl)]; simp)
      clear hv2 hv3
      go_enter Tryz.func72, Tryz.ntmps72
      go_wp2
      refine wp_region_ord [(0, .q), (1, .q), (2, .q), (3, .g), (4, .q), (5, .q), (6, .q), (7, .q), (8, .q), (9, .q), (10, .q), (11, .q), (12, .g), (13, .q), (14, .q), (15, .q), (16, .q), (17, .q), (18, .q), (19, .q), (20, .q), (21, .q), (22, .q), (23, .q), (24, .q), (25, .q), (26, .q), (27, .q), (28, .q), (29, .g), (30, .q), (31, .q)] (by kernel_rfl) (by kernel_rfl) ?_
      simp only [pick, List.filterMap_cons, List.filterMap_nil, List.getElem?_toArray, List.getElem?_cons_zero, List.getElem?_cons_succ, Option.map_some]
      repeat (first
        | ((with_reducible refine wpD_p (fun K hK => ?_)); go_simp; refine hK _ ?_; clear hK K)
        | ((with_reducible refine wpD_q (fun K hK => ?_)); go_simp; (first | refine hK _ ?_ | (go_bits; refine hK _ ?_) | (go_bits; go_simp; refine hK _ ?_)); clear hK K)
        | ((with_reducible refine wpD_g (fun K hK => ?_)); go_simp; refine hK _ _ ?_; clear hK K)
        | ((with_reducible refine wpD_g (fun K hK => ?_)); go_simp; refine ⟨Grew.of_alloc _, hK _ _ ?_⟩; clear hK K)
        | ((with_reducible refine wpD_g (fun K hK => ?_)); go_simp; go_at_call 109; refine ((hS.out.below (by repeat (first | with_reducible exact bl_refl _ | with_reducible assumption | with_reducible refine bl_al ?_ _ | with_reducible refine bl_dr ?_ | with_reducible refine bl_tr ?_ (by assumption) | with_reducible refine bl_set ?_ ?_ _ | with_reducible exact Nat.le_refl _ | omega | (simp only [World.size_alloc, World.size_setCell, World.size_drew] at *; omega) | (dsimp only; omega) | (simp; done) | (simp; omega)))).set hv2H.out).mono ?_; rintro e w1 ⟨rfl, hb1⟩; refine ⟨_, rfl, hb1, hK _ _ ?_⟩; clear hK K; obtain ⟨chb1, fhb1, shb1, thb1⟩ := bcell hb1; (try have bhb10 := shb1 (p) (by go_simp)); have cq1 := (hb1.cell (p := ⟨p, o + 2, none⟩) (by simpa using lp)).trans (show _ = some (Value.slice A q ca) by simpa using cq); have ct1 := (hb1.cell (p := ⟨p, o + 3, none⟩) (by simpa using lp)).trans (show _ = some (Value.int .i64 t) by simpa using ct))
        | ((with_reducible refine wpD_g (fun K hK => ?_)); go_simp; go_at_call 110; refine ((hS.out.below (by repeat (first | with_reducible exact bl_refl _ | with_reducible assumption | with_reducible refine bl_al ?_ _ | with_reducible refine bl_dr ?_ | with_reducible refine bl_tr ?_ (by assumption) | with_reducible refine bl_set ?_ ?_ _ | with_reducible exact Nat.le_refl _ | omega | (simp only [World.size_alloc, World.size_setCell, World.size_drew] at *; omega) | (dsimp only; omega) | (simp; done) | (simp; omega)))).form hv3H.out).mono ?_; rintro e w2 ⟨rfl, hb2⟩; refine ⟨_, rfl, hb2, hK _ _ ?_⟩; clear hK K; obtain ⟨chb2, fhb2, shb2, thb2⟩ := bcell hb2; (try have bhb20 := shb2 (p) (by go_simp)); have cq2 := (hb2.cell (p := ⟨p, o + 2, none⟩) bhb10).trans cq1; have ct2 := (hb2.cell (p := ⟨p, o + 3, none⟩) bhb10).trans ct1))
      with_reducible refine wpD_nil ?_
      go_wp2
      go_ret
      exact ⟨ret_bool hr.out, by repeat (first | with_reducible exact bl_refl _ | with_reducible assumption | with_reducible refine bl_al ?_ _ | with_reducible refine bl_dr ?_ | with_reducible refine bl_tr ?_ (by assumption) | with_reducible refine bl_set ?_ ?_ _ | with_reducible exact Nat.le_refl _ | omega | (simp only [World.size_alloc, World.size_setCell, World.size_drew] at *; omega) | (dsimp only; omega) | (simp; done) | (simp; omega))⟩
    · have hv3H := Lib.hid hv3
      have hval : validAsmB gs ts xs = true := by unfold validAsmB; rw [hv2, hv3]; rfl
      have hvH := Lib.hid hval
      have hV := valid_of hval
      clear hv2 hv3 hval
      by_cases hq1 : q = 0
      · subst hq1
        have hr := Lib.hid (show false = sysOkB gs ts xs t by unfold sysOkB; rw [hlenH.out]; rfl)
        go_enter Tryz.func72, Tryz.ntmps72
        go_wp2
        refine wp_region_ord [(0, .q), (1, .q), (2, .q), (3, .g), (4, .q), (5, .q), (6, .q), (7, .q), (8, .q), (9, .q), (10, .q), (11, .q), (12, .g), (13, .q), (14, .q), (15, .q), (16, .q), (17, .q), (18, .q), (19, .q), (20, .q), (21, .q), (22, .q), (23, .q), (24, .q), (25, .q), (26, .q), (27, .q), (28, .q), (29, .g), (30, .q), (31, .q)] (by kernel_rfl) (by kernel_rfl) ?_
        simp only [pick, List.filterMap_cons, List.filterMap_nil, List.getElem?_toArray, List.getElem?_cons_zero, List.getElem?_cons_succ, Option.map_some]
        repeat (first
          | ((with_reducible refine wpD_p (fun K hK => ?_)); go_simp; refine hK _ ?_; clear hK K)
          | ((with_reducible refine wpD_q (fun K hK => ?_)); go_simp; (first | refine hK _ ?_ | (go_bits; refine hK _ ?_) | (go_bits; go_simp; refine hK _ ?_)); clear hK K)
          | ((with_reducible refine wpD_g (fun K hK => ?_)); go_simp; refine hK _ _ ?_; clear hK K)
          | ((with_reducible refine wpD_g (fun K hK => ?_)); go_simp; refine ⟨Grew.of_alloc _, hK _ _ ?_⟩; clear hK K)
          | ((with_reducible refine wpD_g (fun K hK => ?_)); go_simp; go_at_call 109; refine ((hS.out.below (by repeat (first | with_reducible exact bl_refl _ | with_reducible assumption | with_reducible refine bl_al ?_ _ | with_reducible refine bl_dr ?_ | with_reducible refine bl_tr ?_ (by assumption) | with_reducible refine bl_set ?_ ?_ _ | with_reducible exact Nat.le_refl _ | omega | (simp only [World.size_alloc, World.size_setCell, World.size_drew] at *; omega) | (dsimp only; omega) | (simp; done) | (simp; omega)))).set hv2H.out).mono ?_; rintro e w1 ⟨rfl, hb1⟩; refine ⟨_, rfl, hb1, hK _ _ ?_⟩; clear hK K; obtain ⟨chb1, fhb1, shb1, thb1⟩ := bcell hb1; (try have bhb10 := shb1 (p) (by go_simp)); have cq1 := (hb1.cell (p := ⟨p, o + 2, none⟩) (by simpa using lp)).trans (show _ = some (Value.slice A 0 ca) by simpa using cq); have ct1 := (hb1.cell (p := ⟨p, o + 3, none⟩) (by simpa using lp)).trans (show _ = some (Value.int .i64 t) by simpa using ct))
          | ((with_reducible refine wpD_g (fun K hK => ?_)); go_simp; go_at_call 110; refine ((hS.out.below (by repeat (first | with_reducible exact bl_refl _ | with_reducible assumption | with_reducible refine bl_al ?_ _ | with_reducible refine bl_dr ?_ | with_reducible refine bl_tr ?_ (by assumption) | with_reducible refine bl_set ?_ ?_ _ | with_reducible exact Nat.le_refl _ | omega | (simp only [World.size_alloc, World.size_setCell, World.size_drew] at *; omega) | (dsimp only; omega) | (simp; done) | (simp; omega)))).form hv3H.out).mono ?_; rintro e w2 ⟨rfl, hb2⟩; refine ⟨_, rfl, hb2, hK _ _ ?_⟩; clear hK K; obtain ⟨chb2, fhb2, shb2, thb2⟩ := bcell hb2; (try have bhb20 := shb2 (p) (by go_simp)); have cq2 := (hb2.cell (p := ⟨p, o + 2, none⟩) bhb10).trans cq1; have ct2 := (hb2.cell (p := ⟨p, o + 3, none⟩) bhb10).trans ct1))
        with_reducible refine wpD_nil ?_
        go_wp2
        go_ret
        exact ⟨ret_bool hr.out, by repeat (first | with_reducible exact bl_refl _ | with_reducible assumption | with_reducible refine bl_al ?_ _ | with_reducible refine bl_dr ?_ | with_reducible refine bl_tr ?_ (by assumption) | with_reducible refine bl_set ?_ ?_ _ | with_reducible exact Nat.le_refl _ | omega | (simp only [World.size_alloc, World.size_setCell, World.size_drew] at *; omega) | (dsimp only; omega) | (simp; done) | (simp; omega))⟩
      · have hqd : ((q : Int) == 0) = false := by simp; omega
        have hqH := Lib.hid hq1
        cases htm : tempB t
        · have htH := Lib.hid htm
          have hr := Lib.hid (show false = sysOkB gs ts xs t by unfold sysOkB; rw [← isStabR_range hvH.out htm]; simp)
          clear htm
          go_enter Tryz.func72, Tryz.ntmps72
          go_wp2
          refine wp_region_ord [(0, .q), (1, .q), (2, .q), (3, .g), (4, .q), (5, .q), (6, .q), (7, .q), (8, .q), (9, .q), (10, .q), (11, .q), (12, .g), (13, .q), (14, .q), (15, .q), (16, .q), (17, .q), (18, .q), (19, .q), (20, .q), (21, .q), (22, .q), (23, .q), (24, .q), (25, .q), (26, .q), (27, .q), (28, .q), (29, .g), (30, .q), (31, .q)] (by kernel_rfl) (by kernel_rfl) ?_
          simp only [pick, List.filterMap_cons, List.filterMap_nil, List.getElem?_toArray, List.getElem?_cons_zero, List.getElem?_cons_succ, Option.map_some]
          repeat (first
            | ((with_reducible refine wpD_p (fun K hK => ?_)); go_simp; refine hK _ ?_; clear hK K)
            | ((with_reducible refine wpD_q (fun K hK => ?_)); go_simp; (first | refine hK _ ?_ | (go_bits; refine hK _ ?_) | (go_bits; go_simp; refine hK _ ?_)); clear hK K)
            | ((with_reducible refine wpD_g (fun K hK => ?_)); go_simp; refine hK _ _ ?_; clear hK K)
            | ((with_reducible refine wpD_g (fun K hK => ?_)); go_simp; refine ⟨Grew.of_alloc _, hK _ _ ?_⟩; clear hK K)
            | ((with_reducible refine wpD_g (fun K hK => ?_)); go_simp; go_at_call 109; refine ((hS.out.below (by repeat (first | with_reducible exact bl_refl _ | with_reducible assumption | with_reducible refine bl_al ?_ _ | with_reducible refine bl_dr ?_ | with_reducible refine bl_tr ?_ (by assumption) | with_reducible refine bl_set ?_ ?_ _ | with_reducible exact Nat.le_refl _ | omega | (simp only [World.size_alloc, World.size_setCell, World.size_drew] at *; omega) | (dsimp only; omega) | (simp; done) | (simp; omega)))).set hv2H.out).mono ?_; rintro e w1 ⟨rfl, hb1⟩; refine ⟨_, rfl, hb1, hK _ _ ?_⟩; clear hK K; obtain ⟨chb1, fhb1, shb1, thb1⟩ := bcell hb1; (try have bhb10 := shb1 (p) (by go_simp)); have cq1 := (hb1.cell (p := ⟨p, o + 2, none⟩) (by simpa using lp)).trans (show _ = some (Value.slice A q ca) by simpa using cq); have ct1 := (hb1.cell (p := ⟨p, o + 3, none⟩) (by simpa using lp)).trans (show _ = some (Value.int .i64 t) by simpa using ct))
            | ((with_reducible refine wpD_g (fun K hK => ?_)); go_simp; go_at_call 110; refine ((hS.out.below (by repeat (first | with_reducible exact bl_refl _ | with_reducible assumption | with_reducible refine bl_al ?_ _ | with_reducible refine bl_dr ?_ | with_reducible refine bl_tr ?_ (by assumption) | with_reducible refine bl_set ?_ ?_ _ | with_reducible exact Nat.le_refl _ | omega | (simp only [World.size_alloc, World.size_setCell, World.size_drew] at *; omega) | (dsimp only; omega) | (simp; done) | (simp; omega)))).form hv3H.out).mono ?_; rintro e w2 ⟨rfl, hb2⟩; refine ⟨_, rfl, hb2, hK _ _ ?_⟩; clear hK K; obtain ⟨chb2, fhb2, shb2, thb2⟩ := bcell hb2; (try have bhb20 := shb2 (p) (by go_simp)); have cq2 := (hb2.cell (p := ⟨p, o + 2, none⟩) bhb10).trans cq1; have ct2 := (hb2.cell (p := ⟨p, o + 3, none⟩) bhb10).trans ct1)
            | ((with_reducible refine wpD_g (fun K hK => ?_)); go_simp; go_at_call 68; refine (l07Temperature_at t _ htH.out).mono ?_; rintro e _ ⟨rfl, rfl⟩; refine ⟨_, rfl, Below.refl _ _, hK _ _ ?_⟩; clear hK K))
          with_reducible refine wpD_nil ?_
          go_wp2
          go_ret
          exact ⟨ret_bool hr.out, by repeat (first | with_reducible exact bl_refl _ | with_reducible assumption | with_reducible refine bl_al ?_ _ | with_reducible refine bl_dr ?_ | with_reducible refine bl_tr ?_ (by assumption) | with_reducible refine bl_set ?_ ?_ _ | with_reducible exact Nat.le_refl _ | omega | (simp only [World.size_alloc, World.size_setCell, World.size_drew] at *; omega) | (dsimp only; omega) | (simp; done) | (simp; omega))⟩
        · have htH := Lib.hid htm
          obtain ⟨tn, rfl, ht1, ht2⟩ := tempB_true htm
          have hrr := isStabR_yes hvH.out htm
          have hrH := Lib.hid hrr
          have hsy := Lib.hid (show (isStabR gs ts xs tn).1 = sysOkB gs ts xs tn by unfold sysOkB; rw [hlenH.out, decide_eq_true (show 0 < q by omega), Bool.true_and])
          clear htm hrr
          rcases isStabR_cases gs ts xs tn with ⟨c, hc, hcr⟩ | ⟨b, hcr⟩
          · have hcrH := Lib.hid hcr
            clear hcr
            go_enter Tryz.func72, Tryz.ntmps72
            go_wp2
            refine wp_region_ord [(0, .q), (1, .q), (2, .q), (3, .g), (4, .q), (5, .q), (6, .q), (7, .q), (8, .q), (9, .q), (10, .q), (11, .q), (12, .g), (13, .q), (14, .q), (15, .q), (16, .q), (17, .q), (18, .q), (19, .q), (20, .q), (21, .q), (22, .q), (23, .q), (24, .q), (25, .q), (26, .q), (27, .q), (28, .q), (29, .g), (30, .q), (31, .q)] (by kernel_rfl) (by kernel_rfl) ?_
            simp only [pick, List.filterMap_cons, List.filterMap_nil, List.getElem?_toArray, List.getElem?_cons_zero, List.getElem?_cons_succ, Option.map_some]
            repeat (first
              | ((with_reducible refine wpD_p (fun K hK => ?_)); go_simp; refine hK _ ?_; clear hK K)
              | ((with_reducible refine wpD_q (fun K hK => ?_)); go_simp; (first | refine hK _ ?_ | (go_bits; refine hK _ ?_) | (go_bits; go_simp; refine hK _ ?_)); clear hK K)
              | ((with_reducible refine wpD_g (fun K hK => ?_)); go_simp; refine hK _ _ ?_; clear hK K)
              | ((with_reducible refine wpD_g (fun K hK => ?_)); go_simp; refine ⟨Grew.of_alloc _, hK _ _ ?_⟩; clear hK K)
              | ((with_reducible refine wpD_g (fun K hK => ?_)); go_simp; go_at_call 109; refine ((hS.out.below (by repeat (first | with_reducible exact bl_refl _ | with_reducible assumption | with_reducible refine bl_al ?_ _ | with_reducible refine bl_dr ?_ | with_reducible refine bl_tr ?_ (by assumption) | with_reducible refine bl_set ?_ ?_ _ | with_reducible exact Nat.le_refl _ | omega | (simp only [World.size_alloc, World.size_setCell, World.size_drew] at *; omega) | (dsimp only; omega) | (simp; done) | (simp; omega)))).set hv2H.out).mono ?_; rintro e w1 ⟨rfl, hb1⟩; refine ⟨_, rfl, hb1, hK _ _ ?_⟩; clear hK K; obtain ⟨chb1, fhb1, shb1, thb1⟩ := bcell hb1; (try have bhb10 := shb1 (p) (by go_simp)); have cq1 := (hb1.cell (p := ⟨p, o + 2, none⟩) (by simpa using lp)).trans (show _ = some (Value.slice A q ca) by simpa using cq); have ct1 := (hb1.cell (p := ⟨p, o + 3, none⟩) (by simpa using lp)).trans (show _ = some (Value.int .i64 (tn : Int)) by simpa using ct))
              | ((with_reducible refine wpD_g (fun K hK => ?_)); go_simp; go_at_call 110; refine ((hS.out.below (by repeat (first | with_reducible exact bl_refl _ | with_reducible assumption | with_reducible refine bl_al ?_ _ | with_reducible refine bl_dr ?_ | with_reducible refine bl_tr ?_ (by assumption) | with_reducible refine bl_set ?_ ?_ _ | with_reducible exact Nat.le_refl _ | omega | (simp only [World.size_alloc, World.size_setCell, World.size_drew] at *; omega) | (dsimp only; omega) | (simp; done) | (simp; omega)))).form hv3H.out).mono ?_; rintro e w2 ⟨rfl, hb2⟩; refine ⟨_, rfl, hb2, hK _ _ ?_⟩; clear hK K; obtain ⟨chb2, fhb2, shb2, thb2⟩ := bcell hb2; (try have bhb20 := shb2 (p) (by go_simp)); have cq2 := (hb2.cell (p := ⟨p, o + 2, none⟩) bhb10).trans cq1; have ct2 := (hb2.cell (p := ⟨p, o + 3, none⟩) bhb10).trans ct1)
              | ((with_reducible refine wpD_g (fun K hK => ?_)); go_simp; go_at_call 68; refine (l07Temperature_at tn _ htH.out).mono ?_; rintro e _ ⟨rfl, rfl⟩; refine ⟨_, rfl, Below.refl _ _, hK _ _ ?_⟩; clear hK K))
            with_reducible refine wpD_nil ?_
            go_wp2
            refine wp_region_ord [(0, .q), (1, .q), (2, .q), (3, .q), (4, .q), (5, .q), (6, .q), (7, .q), (8, .q), (9, .q), (10, .g), (11, .q), (12, .q), (13, .q), (14, .q), (15, .q)] (by kernel_rfl) (by kernel_rfl) ?_
            simp only [pick, List.filterMap_cons, List.filterMap_nil, List.getElem?_toArray, List.getElem?_cons_zero, List.getElem?_cons_succ, Option.map_some]
            repeat (first | ((with_reducible refine wpD_p (fun K hK => ?_)); go_simp; refine hK _ ?_; clear hK K) | ((with_reducible refine wpD_q (fun K hK => ?_)); go_simp; (first | refine hK _ ?_ | (go_bits; refine hK _ ?_) | (go_bits; go_simp; refine hK _ ?_)); clear hK K))
            with_reducible refine wpD_g (fun K hK => ?_)
            go_simp
            refine (l07Stable_any (hS.out.below (by repeat (first | with_reducible exact bl_refl _ | with_reducible assumption | with_reducible refine bl_al ?_ _ | with_reducible refine bl_dr ?_ | with_reducible refine bl_tr ?_ (by assumption) | with_reducible refine bl_set ?_ ?_ _ | with_reducible exact Nat.le_refl _ | omega | (simp only [World.size_alloc, World.size_setCell, World.size_drew] at *; omega) | (dsimp only; omega) | (simp; done) | (simp; omega)))) hV tn (by omega)).mono ?_
            rw [hrH.out, hcrH.out]
            rintro e w3 ⟨rfl, hb3⟩
            refine ⟨_, rfl, hb3, hK _ _ ?_⟩
            clear hK K
            repeat (first | ((with_reducible refine wpD_p (fun K hK => ?_)); go_simp; refine hK _ ?_; clear hK K) | ((with_reducible refine wpD_q (fun K hK => ?_)); go_simp; (first | refine hK _ ?_ | (go_bits; refine hK _ ?_) | (go_bits; go_simp; refine hK _ ?_)); clear hK K))
            with_reducible refine wpD_nil ?_
            go_wp2
            go_ret
            exact ⟨ret_bool (by rw [← hsy.out, hcrH.out]), by repeat (first | with_reducible exact bl_refl _ | with_reducible assumption | with_reducible refine bl_al ?_ _ | with_reducible refine bl_dr ?_ | with_reducible refine bl_tr ?_ (by assumption) | with_reducible refine bl_set ?_ ?_ _ | with_reducible exact Nat.le_refl _ | omega | (simp only [World.size_alloc, World.size_setCell, World.size_drew] at *; omega) | (dsimp only; omega) | (simp; done) | (simp; omega))⟩
          · have hcrH := Lib.hid hcr
            clear hcr
            cases b
            all_goals
              go_enter Tryz.func72, Tryz.ntmps72
              go_wp2
              refine wp_region_ord [(0, .q), (1, .q), (2, .q), (3, .g), (4, .q), (5, .q), (6, .q), (7, .q), (8, .q), (9, .q), (10, .q), (11, .q), (12, .g), (13, .q), (14, .q), (15, .q), (16, .q), (17, .q), (18, .q), (19, .q), (20, .q), (21, .q), (22, .q), (23, .q), (24, .q), (25, .q), (26, .q), (27, .q), (28, .q), (29, .g), (30, .q), (31, .q)] (by kernel_rfl) (by kernel_rfl) ?_
              simp only [pick, List.filterMap_cons, List.filterMap_nil, List.getElem?_toArray, List.getElem?_cons_zero, List.getElem?_cons_succ, Option.map_some]
              repeat (first
                | ((with_reducible refine wpD_p (fun K hK => ?_)); go_simp; refine hK _ ?_; clear hK K)
                | ((with_reducible refine wpD_q (fun K hK => ?_)); go_simp; (first | refine hK _ ?_ | (go_bits; refine hK _ ?_) | (go_bits; go_simp; refine hK _ ?_)); clear hK K)
                | ((with_reducible refine wpD_g (fun K hK => ?_)); go_simp; refine hK _ _ ?_; clear hK K)
                | ((with_reducible refine wpD_g (fun K hK => ?_)); go_simp; refine ⟨Grew.of_alloc _, hK _ _ ?_⟩; clear hK K)
                | ((with_reducible refine wpD_g (fun K hK => ?_)); go_simp; go_at_call 109; refine ((hS.out.below (by repeat (first | with_reducible exact bl_refl _ | with_reducible assumption | with_reducible refine bl_al ?_ _ | with_reducible refine bl_dr ?_ | with_reducible refine bl_tr ?_ (by assumption) | with_reducible refine bl_set ?_ ?_ _ | with_reducible exact Nat.le_refl _ | omega | (simp only [World.size_alloc, World.size_setCell, World.size_drew] at *; omega) | (dsimp only; omega) | (simp; done) | (simp; omega)))).set hv2H.out).mono ?_; rintro e w1 ⟨rfl, hb1⟩; refine ⟨_, rfl, hb1, hK _ _ ?_⟩; clear hK K; obtain ⟨chb1, fhb1, shb1, thb1⟩ := bcell hb1; (try have bhb10 := shb1 (p) (by go_simp)); have cq1 := (hb1.cell (p := ⟨p, o + 2, none⟩) (by simpa using lp)).trans (show _ = some (Value.slice A q ca) by simpa using cq); have ct1 := (hb1.cell (p := ⟨p, o + 3, none⟩) (by simpa using lp)).trans (show _ = some (Value.int .i64 (tn : Int)) by simpa using ct))
                | ((with_reducible refine wpD_g (fun K hK => ?_)); go_simp; go_at_call 110; refine ((hS.out.below (by repeat (first | with_reducible exact bl_refl _ | with_reducible assumption | with_reducible refine bl_al ?_ _ | with_reducible refine bl_dr ?_ | with_reducible refine bl_tr ?_ (by assumption) | with_reducible refine bl_set ?_ ?_ _ | with_reducible exact Nat.le_refl _ | omega | (simp only [World.size_alloc, World.size_setCell, World.size_drew] at *; omega) | (dsimp only; omega) | (simp; done) | (simp; omega)))).form hv3H.out).mono ?_; rintro e w2 ⟨rfl, hb2⟩; refine ⟨_, rfl, hb2, hK _ _ ?_⟩; clear hK K; obtain ⟨chb2, fhb2, shb2, thb2⟩ := bcell hb2; (try have bhb20 := shb2 (p) (by go_simp)); have cq2 := (hb2.cell (p := ⟨p, o + 2, none⟩) bhb10).trans cq1; have ct2 := (hb2.cell (p := ⟨p, o + 3, none⟩) bhb10).trans ct1)
                | ((with_reducible refine wpD_g (fun K hK => ?_)); go_simp; go_at_call 68; refine (l07Temperature_at tn _ htH.out).mono ?_; rintro e _ ⟨rfl, rfl⟩; refine ⟨_, rfl, Below.refl _ _, hK _ _ ?_⟩; clear hK K))
              with_reducible refine wpD_nil ?_
              go_wp2
              refine wp_region_ord [(0, .q), (1, .q), (2, .q), (3, .q), (4, .q), (5, .q), (6, .q), (7, .q), (8, .q), (9, .q), (10, .g), (11, .q), (12, .q), (13, .q), (14, .q), (15, .q)] (by kernel_rfl) (by kernel_rfl) ?_
              simp only [pick, List.filterMap_cons, List.filterMap_nil, List.getElem?_toArray, List.getElem?_cons_zero, List.getElem?_cons_succ, Option.map_some]
              repeat (first | ((with_reducible refine wpD_p (fun K hK => ?_)); go_simp; refine hK _ ?_; clear hK K) | ((with_reducible refine wpD_q (fun K hK => ?_)); go_simp; (first | refine hK _ ?_ | (go_bits; refine hK _ ?_) | (go_bits; go_simp; refine hK _ ?_)); clear hK K))
              with_reducible refine wpD_g (fun K hK => ?_)
              go_simp
              refine (l07Stable_any (hS.out.below (by repeat (first | with_reducible exact bl_refl _ | with_reducible assumption | with_reducible refine bl_al ?_ _ | with_reducible refine bl_dr ?_ | with_reducible refine bl_tr ?_ (by assumption) | with_reducible refine bl_set ?_ ?_ _ | with_reducible exact Nat.le_refl _ | omega | (simp only [World.size_alloc, World.size_setCell, World.size_drew] at *; omega) | (dsimp only; omega) | (simp; done) | (simp; omega)))) hV tn (by omega)).mono ?_
              rw [hrH.out, hcrH.out]
              rintro e w3 ⟨rfl, hb3⟩
              refine ⟨_, rfl, hb3, hK _ _ ?_⟩
              clear hK K
              repeat (first | ((with_reducible refine wpD_p (fun K hK => ?_)); go_simp; refine hK _ ?_; clear hK K) | ((with_reducible refine wpD_q (fun K hK => ?_)); go_simp; (first | refine hK _ ?_ | (go_bits; refine hK _ ?_) | (go_bits; go_simp; refine hK _ ?_)); clear hK K))
              with_reducible refine wpD_nil ?_
              go_wp2
              go_ret
              exact ⟨ret_bool (by rw [← hsy.out, hcrH.out]), by repeat (first | with_reducible exact bl_refl _ | with_reducible assumption | with_reducible refine bl_al ?_ _ | with_reducible refine bl_dr ?_ | with_reducible refine bl_tr ?_ (by assumption) | with_reducible refine bl_set ?_ ?_ _ | with_reducible exact Nat.le_refl _ | omega | (simp only [World.size_alloc, World.size_setCell, World.size_drew] at *; omega) | (dsimp only; omega) | (simp; done) | (simp; omega))⟩
theorem sValidSystem_any (G T A : Option Addr) (n cg m ct q ca : Nat) (gs : List Gl) (ts : List Ti) (xs : List Pl) (t : Int) (w : World) (h : SA w G n T m A q gs ts xs) :
    Calls Tryz.prog 31 #[.agg #[.slice G n cg, .slice T m ct, .slice A q ca, .int .i64 t]] w fun e w' => e = .returned (.bool (sysOkB gs ts xs t)) ∧ Below w.heap.size w w' := by
  
  have hat := Lib.hid (h.sysbox cg ct ca t)
  clear h
  go_enter Tryz.func31, Tryz.ntmps31
  go_wp2_with (go_at_call 72; refine (l08Ok_any _ gs ts xs t _ hat.out).mono ?_; rintro e w1 ⟨rfl, hb1⟩)
  go_ret
  exact ⟨rfl, by repeat (first | with_reducible exact bl_refl _ | with_reducible assumption | with_reducible refine bl_al ?_ _ | with_reducible refine bl_dr ?_ | with_reducible refine bl_tr ?_ (by assumption) | with_reducible refine bl_set ?_ ?_ _ | with_reducible exact Nat.le_refl _ | omega | (simp only [World.size_alloc, World.size_setCell, World.size_drew] at *; omega) | (dsimp only; omega) | (simp; done) | (simp; omega))⟩
set_option maxRecDepth 100000 in
set_option maxHeartbeats 2000000 in
theorem ValidSystem_any (G T A : Option Addr) (n cg m ct q ca : Nat) (gs : List Gl) (ts : List Ti) (xs : List Pl) (t : Int) (w : World) (h : SA w G n T m A q gs ts xs) :
    Calls Tryz.prog 33 #[.agg #[.slice G n cg, .slice T m ct, .slice A q ca, .int .i64 t]] w fun e w' => e = .returned (.bool (sysOkB gs ts xs t)) ∧ Below w.heap.size w w' := by
  
  have hSA := Lib.hid h
  have hlen := Lib.hid h.A.len
  have hq0 := h.q
  clear h
  by_cases hq1 : q = 0
  · subst hq1
    have hr := Lib.hid (show false = sysOkB gs ts xs t by unfold sysOkB; rw [hlen.out]; rfl)
    go_enter Tryz.func33, Tryz.ntmps33
    go_wp2
    go_ret
    exact ⟨ret_bool hr.out, by repeat (first | with_reducible exact bl_refl _ | with_reducible assumption | with_reducible refine bl_al ?_ _ | with_reducible refine bl_dr ?_ | with_reducible refine bl_tr ?_ (by assumption) | with_reducible refine bl_set ?_ ?_ _ | with_reducible exact Nat.le_refl _ | omega | (simp only [World.size_alloc, World.size_setCell, World.size_drew] at *; omega) | (dsimp only; omega) | (simp; done) | (simp; omega))⟩
  · have hqd : ((q : Int) == 0) = false := by simp; omega
    have hsy := Lib.hid (show (isStabR gs ts xs t).1 = sysOkB gs ts xs t by unfold sysOkB; rw [hlen.out, decide_eq_true (show 0 < q by omega), Bool.true_and])
    rcases isStabR_cases gs ts xs t with ⟨c, hc, hcr⟩ | ⟨b, hcr⟩
    · have hcrH := Lib.hid hcr
      clear hcr
      go_enter Tryz.func33, Tryz.ntmps33
      go_wp2_with (go_at_call 29; refine (IsStable_any G T A n cg m ct q ca gs ts xs t _ (hSA.out.below (by repeat (first | with_reducible exact bl_refl _ | with_reducible assumption | with_reducible refine bl_al ?_ _ | with_reducible refine bl_dr ?_ | with_reducible refine bl_tr ?_ (by assumption) | with_reducible refine bl_set ?_ ?_ _ | with_reducible exact Nat.le_refl _ | omega | (simp only [World.size_alloc, World.size_setCell, World.size_drew] at *; omega) | (dsimp only; omega) | (simp; done) | (simp; omega))))).mono ?_; rw [hcrH.out]; rintro e w1 ⟨rfl, hb1⟩)
      go_ret
      exact ⟨ret_bool (by rw [← hsy.out, hcrH.out]), by repeat (first | with_reducible exact bl_refl _ | with_reducible assumption | with_reducible refine bl_al ?_ _ | with_reducible refine bl_dr ?_ | with_reducible refine bl_tr ?_ (by assumption) | with_reducible refine bl_set ?_ ?_ _ | with_reducible exact Nat.le_refl _ | omega | (simp only [World.size_alloc, World.size_setCell, World.size_drew] at *; omega) | (dsimp only; omega) | (simp; done) | (simp; omega))⟩
    · have hcrH := Lib.hid hcr
      clear hcr
      cases b
      all_goals
        go_enter Tryz.func33, Tryz.ntmps33
        go_wp2_with (go_at_call 29; refine (IsStable_any G T A n cg m ct q ca gs ts xs t _ (hSA.out.below (by repeat (first | with_reducible exact bl_refl _ | with_reducible assumption | with_reducible refine bl_al ?_ _ | with_reducible refine bl_dr ?_ | with_reducible refine bl_tr ?_ (by assumption) | with_reducible refine bl_set ?_ ?_ _ | with_reducible exact Nat.le_refl _ | omega | (simp only [World.size_alloc, World.size_setCell, World.size_drew] at *; omega) | (dsimp only; omega) | (simp; done) | (simp; omega))))).mono ?_; rw [hcrH.out]; rintro e w1 ⟨rfl, hb1⟩)
        go_ret
        exact ⟨ret_bool (by rw [← hsy.out, hcrH.out]), by repeat (first | with_reducible exact bl_refl _ | with_reducible assumption | with_reducible refine bl_al ?_ _ | with_reducible refine bl_dr ?_ | with_reducible refine bl_tr ?_ (by assumption) | with_reducible refine bl_set ?_ ?_ _ | with_reducible exact Nat.le_refl _ | omega | (simp only [World.size_alloc, World.size_setCell, World.size_drew] at *; omega) | (dsimp only; omega) | (simp; done) | (simp; omega))⟩
end Go.Proofs.YtbpmamjphdaggaaGreat
/- Walks: simulations: the reference's test and the program's. -/

namespace Go.Proofs.YtbpmamjphdaggaaGreat
open Go.RowKit Go.Shelf
set_option linter.unusedSimpArgs false
set_option linter.unusedVariables false
attribute [local go_sem] BelowBy.cell BelowBy.cell_drew stillUpon givesUpon BelowBy.cell_drew2 BelowBy.cell_drew3

/-- label j is a tile of the small system or none -/
def okLab (m : Nat) (fl : List Int) (j : Nat) : Bool := match fl[j]? with
  | none => true
  | some x => inB x (-1) ((m : Int) - 1)
theorem okLab_eq {m : Nat} {fl : List Int} {j : Nat} {x : Int} (h : fl[j]? = some x) : okLab m fl j = inB x (-1) ((m : Int) - 1) := by unfold okLab; rw [h]
noncomputable def simOkB (gs : List Gl) (ts : List Ti) (xs : List Pl) (t : Int) (gs2 : List Gl) (ts2 : List Ti) (xs2 : List Pl) (t2 sc : Int) (fl : List Int) : Bool :=
  sysOkB gs ts xs t && (sysOkB gs2 ts2 xs2 t2 && (inB sc 1 4 && (decide (fl.length = ts.length) && allB fl.length (okLab ts2.length fl))))
theorem blockSizeOk_at (x : Int) (w : World) {v : Bool} (h : inB x 1 4 = v) : Calls Tryz.prog 76 #[.int .i64 x] w fun e w' => e = .returned (.bool v) ∧ w = w' := by
  go_enter Tryz.func76, Tryz.ntmps76
  go_wp2_with (go_at_call 79; refine (within_at h).mono ?_; rintro e w' ⟨rfl, rfl⟩)
  go_ret
  exact ⟨rfl, rfl⟩
theorem ValidSim1_any (p : Nat) (T2 : Option Addr) (m2 ct2 : Nat) (v : Int) (w : World) (h : w.cell? ⟨p, 5, none⟩ = some (.slice T2 m2 ct2)) (hp : p < w.heap.size) (hm : m2 ≤ 1073741824) :
    Calls Tryz.prog 78 #[.int .i64 v, .pointer (some ⟨p, 0, none⟩)] w fun e w' => e = .returned (.bool (!inB v (-1) ((m2 : Int) - 1))) ∧ w = w' := by
  go_enter Tryz.func78, Tryz.ntmps78
  go_wp2_with (go_at_call 79; refine (within_any _ _ _ _).mono ?_; rintro e _ ⟨rfl, rfl⟩)
  go_ret
  exact ⟨rfl, rfl⟩
theorem IndexFuncL_any (p : Nat) (T2 A : Option Addr) (m2 ct2 n c : Nat) (xs : List Int) (w : World) (h : w.cell? ⟨p, 5, none⟩ = some (.slice T2 m2 ct2)) (hp : p < w.heap.size) (hx : RdSl 1 RInt w A n xs) (hn : n ≤ 1073741824) (hm : m2 ≤ 1073741824) :
    Calls Tryz.prog 121 #[.slice A n c, .func (.func 78) #[] #[.pointer (some ⟨p, 0, none⟩)]] w (FirstRes w n (okLab m2 xs)) := by
  go_enter Tryz.func121, Tryz.ntmps121
  go_wp2
  go_loopg [8] n (fun r x wr => ∃ k : Nat, k + r = n ∧ x = .int .i64 k ∧ (∀ j, j < k → okLab m2 xs j = true) ∧ w = wr)
  case atStart => exact ⟨0, by omega, rfl, fun j hj => by omega, rfl⟩
  case round =>
    obtain ⟨k, hk, rfl, hok, rfl⟩ := hrel
    have hok := Lib.hid hok
    by_cases hkn : k < n
    · obtain ⟨b, o, rfl, hb, hc⟩ := hx.ptr (by omega)
      obtain ⟨v, hv⟩ := hx.get hkn
      have c0 := hc k v hv
      simp only [RInt, Nat.mul_one] at c0
      have HS := Lib.hid (okLab_eq (m := m2) hv)
      clear hc hv hx
      cases hv4 : inB v (-1) ((m2 : Int) - 1)
      · go_wp2_with (go_at_call 78; refine (ValidSim1_any _ _ _ _ _ _ h hp hm).mono ?_; rintro e _ ⟨rfl, rfl⟩)
        go_ret
        exact ⟨_, rfl, by rw [allB_false hkn (by rw [HS.out, hv4])]; simp, by repeat (first | with_reducible exact bl_refl _ | with_reducible assumption | with_reducible refine bl_al ?_ _ | with_reducible refine bl_dr ?_ | with_reducible refine bl_tr ?_ (by assumption) | with_reducible refine bl_set ?_ ?_ _ | with_reducible exact Nat.le_refl _ | omega | (simp only [World.size_alloc, World.size_setCell, World.size_drew] at *; omega) | (dsimp only; omega) | (simp; done) | (simp; omega))⟩
      · go_wp2_with (go_at_call 78; refine (ValidSim1_any _ _ _ _ _ _ h hp hm).mono ?_; rintro e _ ⟨rfl, rfl⟩)
        go_roundg (n - (k + 1))
        case measure => omega
        case rel => exact ⟨k + 1, by omega, by go_num, fun j hj => (by rcases Nat.lt_succ_iff_lt_or_eq.1 hj with hj | rfl; exact hok.out j hj; rw [HS.out, hv4]), rfl⟩
    · obtain rfl : k = n := by omega
      go_wp2
      go_ret
      exact ⟨_, rfl, by rw [allB_true hok.out]; simp, by repeat (first | with_reducible exact bl_refl _ | with_reducible assumption | with_reducible refine bl_al ?_ _ | with_reducible refine bl_dr ?_ | with_reducible refine bl_tr ?_ (by assumption) | with_reducible refine bl_set ?_ ?_ _ | with_reducible exact Nat.le_refl _ | omega | (simp only [World.size_alloc, World.size_setCell, World.size_drew] at *; omega) | (dsimp only; omega) | (simp; done) | (simp; omega))⟩
theorem ContainsFuncL_any (p : Nat) (T2 A : Option Addr) (m2 ct2 n c : Nat) (xs : List Int) (w : World) (h : w.cell? ⟨p, 5, none⟩ = some (.slice T2 m2 ct2)) (hp : p < w.heap.size) (hx : RdSl 1 RInt w A n xs) (hn : n ≤ 1073741824) (hm : m2 ≤ 1073741824) :
    Calls Tryz.prog 77 #[.slice A n c, .func (.func 78) #[] #[.pointer (some ⟨p, 0, none⟩)]] w fun e w' => e = .returned (.bool (!allB n (okLab m2 xs))) ∧ Below w.heap.size w w' := by
  go_enter Tryz.func77, Tryz.ntmps77
  go_wp2_with (go_at_call 121; refine (IndexFuncL_any _ _ _ _ _ _ _ xs _ h hp hx hn hm).mono ?_; rintro e w1 ⟨r, rfl, hr, hb1⟩)
  go_ret
  refine ⟨rfl, ?_⟩
  repeat (first | with_reducible exact bl_refl _ | with_reducible assumption | with_reducible refine bl_al ?_ _ | with_reducible refine bl_dr ?_ | with_reducible refine bl_tr ?_ (by assumption) | with_reducible refine bl_set ?_ ?_ _ | with_reducible exact Nat.le_refl _ | omega | (simp only [World.size_alloc, World.size_setCell, World.size_drew] at *; omega) | (dsimp only; omega) | (simp; done) | (simp; omega))
theorem l08Ok_at {o p : Nat} {gs : List Gl} {ts : List Ti} {xs : List Pl} {t : Int} {w : World} {v : Bool} (h : SysAt w p o gs ts xs t) (hv : sysOkB gs ts xs t = v) :
    Calls Tryz.prog 72 #[.pointer (some ⟨p, o, none⟩)] w fun e w' => e = .returned (.bool v) ∧ Below w.heap.size w w' := by
  rw [← hv]; exact l08Ok_any p gs ts xs t w h
end Go.Proofs.YtbpmamjphdaggaaGreat
/- Walk: the program's test of a simulation. -/

namespace Go.Proofs.YtbpmamjphdaggaaGreat
open Go.RowKit Go.Shelf
set_option linter.unusedSimpArgs false
set_option linter.unusedVariables false
attribute [local go_sem] BelowBy.cell BelowBy.cell_drew stillUpon givesUpon BelowBy.cell_drew2 BelowBy.cell_drew3

set_option maxRecDepth 100000 in
set_option maxHeartbeats 4000000 in
theorem ValidSimulation_any (G T A : Option Addr) (n cg m ct q ca : Nat) (gs : List Gl) (ts : List Ti) (xs : List Pl) (t : Int) (G2 T2 A2 : Option Addr) (n2 cg2 m2 ct2 q2 ca2 : Nat) (gs2 : List Gl) (ts2 : List Ti) (xs2 : List Pl) (t2 : Int) (sc : Int) (F : Option Addr) (nf cf : Nat) (fl : List Int) (w : World) (h : SA w G n T m A q gs ts xs) (h2 : SA w G2 n2 T2 m2 A2 q2 gs2 ts2 xs2) (hF : RdSl 1 RInt w F nf fl) (hf : nf ≤ 1073741824) :
    Calls Tryz.prog 38 #[.agg #[.slice G n cg, .slice T m ct, .slice A q ca, .int .i64 t, .slice G2 n2 cg2, .slice T2 m2 ct2, .slice A2 q2 ca2, .int .i64 t2, .int .i64 sc, .slice F nf cf]] w fun e w' => e = .returned (.bool (simOkB gs ts xs t gs2 ts2 xs2 t2 sc fl)) ∧ Below w.heap.size w w' := by
  
  have hS := Lib.hid h
  have hS2 := Lib.hid h2
  have hFl := hF.len
  have hTl := h.T.len
  have hT2l := h2.T.len
  have hm2 := h2.tm
  have hF := Lib.hid hF
  obtain ⟨r, hrE⟩ : ∃ r, simOkB gs ts xs t gs2 ts2 xs2 t2 sc fl = r := ⟨_, rfl⟩
  rw [hrE]
  have hrH := Lib.hid hrE
  clear h h2 hrE
  cases h1 : sysOkB gs ts xs t
  · have h1H := Lib.hid h1
    have hr := Lib.hid (show false = r by rw [← hrH.out]; unfold simOkB; rw [h1]; rfl)
    clear h1
    go_enter Tryz.func38, Tryz.ntmps38
    go_wp2_with fail
    refine (ValidSystem_any G T A n cg m ct q ca gs ts xs t _ (hS.out.below (by repeat (first | with_reducible exact bl_refl _ | with_reducible assumption | with_reducible refine bl_al ?_ _ | with_reducible refine bl_dr ?_ | with_reducible refine bl_tr ?_ (by assumption) | with_reducible refine bl_set ?_ ?_ _ | with_reducible exact Nat.le_refl _ | omega | (simp only [World.size_alloc, World.size_setCell, World.size_drew] at *; omega) | (dsimp only; omega) | (simp; done) | (simp; omega))))).mono ?_
    rw [h1H.out]
    rintro e w1 ⟨rfl, hb1⟩
    obtain ⟨chb1, fhb1, shb1, thb1⟩ := bcell hb1
    have b0 := shb1 w.heap.size (by go_simp)
    go_wp2
    go_ret
    exact ⟨ret_bool hr.out, by repeat (first | with_reducible exact bl_refl _ | with_reducible assumption | with_reducible refine bl_al ?_ _ | with_reducible refine bl_dr ?_ | with_reducible refine bl_tr ?_ (by assumption) | with_reducible refine bl_set ?_ ?_ _ | with_reducible exact Nat.le_refl _ | omega | (simp only [World.size_alloc, World.size_setCell, World.size_drew] at *; omega) | (dsimp only; omega) | (simp; done) | (simp; omega))⟩
  · have h1H := Lib.hid h1
    cases h2 : sysOkB gs2 ts2 xs2 t2
    · have h2H := Lib.hid h2
      have hr := Lib.hid (show false = r by rw [← hrH.out]; unfold simOkB; rw [h1, h2]; rfl)
      clear h1 h2
      go_enter Tryz.func38, Tryz.ntmps38
      go_wp2_with fail
      refine (ValidSystem_any G T A n cg m ct q ca gs ts xs t _ (hS.out.below (by repeat (first | with_reducible exact bl_refl _ | with_reducible assumption | with_reducible refine bl_al ?_ _ | with_reducible refine bl_dr ?_ | with_reducible refine bl_tr ?_ (by assumption) | with_reducible refine bl_set ?_ ?_ _ | with_reducible exact Nat.le_refl _ | omega | (simp only [World.size_alloc, World.size_setCell, World.size_drew] at *; omega) | (dsimp only; omega) | (simp; done) | (simp; omega))))).mono ?_
      rw [h1H.out]
      rintro e w1 ⟨rfl, hb1⟩
      obtain ⟨chb1, fhb1, shb1, thb1⟩ := bcell hb1
      have b0 := shb1 w.heap.size (by go_simp)
      go_wp2_with fail
      refine (ValidSystem_any G2 T2 A2 n2 cg2 m2 ct2 q2 ca2 gs2 ts2 xs2 t2 _ (hS2.out.below (by repeat (first | with_reducible exact bl_refl _ | with_reducible assumption | with_reducible refine bl_al ?_ _ | with_reducible refine bl_dr ?_ | with_reducible refine bl_tr ?_ (by assumption) | with_reducible refine bl_set ?_ ?_ _ | with_reducible exact Nat.le_refl _ | omega | (simp only [World.size_alloc, World.size_setCell, World.size_drew] at *; omega) | (dsimp only; omega) | (simp; done) | (simp; omega))))).mono ?_
      rw [h2H.out]
      rintro e w2 ⟨rfl, hb2⟩
      obtain ⟨chb2, fhb2, shb2, thb2⟩ := bcell hb2
      have b1 := shb2 w.heap.size (by go_simp)
      go_wp2
      go_ret
      exact ⟨ret_bool hr.out, by repeat (first | with_reducible exact bl_refl _ | with_reducible assumption | with_reducible refine bl_al ?_ _ | with_reducible refine bl_dr ?_ | with_reducible refine bl_tr ?_ (by assumption) | with_reducible refine bl_set ?_ ?_ _ | with_reducible exact Nat.le_refl _ | omega | (simp only [World.size_alloc, World.size_setCell, World.size_drew] at *; omega) | (dsimp only; omega) | (simp; done) | (simp; omega))⟩
    · have h2H := Lib.hid h2
      cases h3 : inB sc 1 4
      · have h3H := Lib.hid h3
        have hr := Lib.hid (show false = r by rw [← hrH.out]; unfold simOkB; rw [h1, h2, h3]; rfl)
        clear h1 h2 h3
        go_enter Tryz.func38, Tryz.ntmps38
        go_wp2_with fail
        refine (ValidSystem_any G T A n cg m ct q ca gs ts xs t _ (hS.out.below (by repeat (first | with_reducible exact bl_refl _ | with_reducible assumption | with_reducible refine bl_al ?_ _ | with_reducible refine bl_dr ?_ | with_reducible refine bl_tr ?_ (by assumption) | with_reducible refine bl_set ?_ ?_ _ | with_reducible exact Nat.le_refl _ | omega | (simp only [World.size_alloc, World.size_setCell, World.size_drew] at *; omega) | (dsimp only; omega) | (simp; done) | (simp; omega))))).mono ?_
        rw [h1H.out]
        rintro e w1 ⟨rfl, hb1⟩
        obtain ⟨chb1, fhb1, shb1, thb1⟩ := bcell hb1
        have b0 := shb1 w.heap.size (by go_simp)
        go_wp2_with fail
        refine (ValidSystem_any G2 T2 A2 n2 cg2 m2 ct2 q2 ca2 gs2 ts2 xs2 t2 _ (hS2.out.below (by repeat (first | with_reducible exact bl_refl _ | with_reducible assumption | with_reducible refine bl_al ?_ _ | with_reducible refine bl_dr ?_ | with_reducible refine bl_tr ?_ (by assumption) | with_reducible refine bl_set ?_ ?_ _ | with_reducible exact Nat.le_refl _ | omega | (simp only [World.size_alloc, World.size_setCell, World.size_drew] at *; omega) | (dsimp only; omega) | (simp; done) | (simp; omega))))).mono ?_
        rw [h2H.out]
        rintro e w2 ⟨rfl, hb2⟩
        obtain ⟨chb2, fhb2, shb2, thb2⟩ := bcell hb2
        have b1 := shb2 w.heap.size (by go_simp)
        go_wp2_with (go_at_call 76; refine (blockSizeOk_at _ _ h3H.out).mono ?_; rintro e _ ⟨rfl, rfl⟩)
        go_ret
        exact ⟨ret_bool hr.out, by repeat (first | with_reducible exact bl_refl _ | with_reducible assumption | with_reducible refine bl_al ?_ _ | with_reducible refine bl_dr ?_ | with_reducible refine bl_tr ?_ (by assumption) | with_reducible refine bl_set ?_ ?_ _ | with_reducible exact Nat.le_refl _ | omega | (simp only [World.size_alloc, World.size_setCell, World.size_drew] at *; omega) | (dsimp only; omega) | (simp; done) | (simp; omega))⟩
      · have h3H := Lib.hid h3
        by_cases h4 : nf = m
        · have h4d : decide (fl.length = ts.length) = true := decide_eq_true (by omega)
          have h4n : ((nf : Int) == (m : Int)) = true := by simp; omega
          cases h5 : allB nf (okLab m2 fl)
          all_goals
            have h5H := Lib.hid h5
            have hr := Lib.hid (show allB nf (okLab m2 fl) = r by rw [← hrH.out]; unfold simOkB; rw [h1, h2, h3, h4d, hFl, hT2l]; rfl)
            clear h1 h2 h3 h4d h5 h4
            go_enter Tryz.func38, Tryz.ntmps38
            go_wp2_with fail
            refine (ValidSystem_any G T A n cg m ct q ca gs ts xs t _ (hS.out.below (by repeat (first | with_reducible exact bl_refl _ | with_reducible assumption | with_reducible refine bl_al ?_ _ | with_reducible refine bl_dr ?_ | with_reducible refine bl_tr ?_ (by assumption) | with_reducible refine bl_set ?_ ?_ _ | with_reducible exact Nat.le_refl _ | omega | (simp only [World.size_alloc, World.size_setCell, World.size_drew] at *; omega) | (dsimp only; omega) | (simp; done) | (simp; omega))))).mono ?_
            rw [h1H.out]
            rintro e w1 ⟨rfl, hb1⟩
            obtain ⟨chb1, fhb1, shb1, thb1⟩ := bcell hb1
            have b0 := shb1 w.heap.size (by go_simp)
            go_wp2_with fail
            refine (ValidSystem_any G2 T2 A2 n2 cg2 m2 ct2 q2 ca2 gs2 ts2 xs2 t2 _ (hS2.out.below (by repeat (first | with_reducible exact bl_refl _ | with_reducible assumption | with_reducible refine bl_al ?_ _ | with_reducible refine bl_dr ?_ | with_reducible refine bl_tr ?_ (by assumption) | with_reducible refine bl_set ?_ ?_ _ | with_reducible exact Nat.le_refl _ | omega | (simp only [World.size_alloc, World.size_setCell, World.size_drew] at *; omega) | (dsimp only; omega) | (simp; done) | (simp; omega))))).mono ?_
            rw [h2H.out]
            rintro e w2 ⟨rfl, hb2⟩
            obtain ⟨chb2, fhb2, shb2, thb2⟩ := bcell hb2
            have b1 := shb2 w.heap.size (by go_simp)
            go_wp2_with (go_at_call 76; refine (blockSizeOk_at _ _ h3H.out).mono ?_; rintro e _ ⟨rfl, rfl⟩)
            have k5 : w2.cell? ⟨w.heap.size, 5, none⟩ = some (.slice T2 m2 ct2) := (hb2.cell (p := ⟨w.heap.size, 5, none⟩) b0).trans ((hb1.cell (p := ⟨w.heap.size, 5, none⟩) (by simp)).trans (by go_simp))
            refine (ContainsFuncL_any w.heap.size T2 F m2 ct2 nf cf fl _ k5 b1 (hF.out.below RInt.stable (by repeat (first | with_reducible exact bl_refl _ | with_reducible assumption | with_reducible refine bl_al ?_ _ | with_reducible refine bl_dr ?_ | with_reducible refine bl_tr ?_ (by assumption) | with_reducible refine bl_set ?_ ?_ _ | with_reducible exact Nat.le_refl _ | omega | (simp only [World.size_alloc, World.size_setCell, World.size_drew] at *; omega) | (dsimp only; omega) | (simp; done) | (simp; omega)))) (by omega) hm2).mono ?_
            rw [h5H.out]
            rintro e w3 ⟨rfl, hb3⟩
            go_wp2
            go_ret
            exact ⟨ret_bool (by rw [← hr.out, h5H.out]), by repeat (first | with_reducible exact bl_refl _ | with_reducible assumption | with_reducible refine bl_al ?_ _ | with_reducible refine bl_dr ?_ | with_reducible refine bl_tr ?_ (by assumption) | with_reducible refine bl_set ?_ ?_ _ | with_reducible exact Nat.le_refl _ | omega | (simp only [World.size_alloc, World.size_setCell, World.size_drew] at *; omega) | (dsimp only; omega) | (simp; done) | (simp; omega))⟩
        · have h4d : decide (fl.length = ts.length) = false := decide_eq_false (by omega)
          have hr := Lib.hid (show false = r by rw [← hrH.out]; unfold simOkB; rw [h1, h2, h3, h4d]; rfl)
          have h4n : ((nf : Int) == (m : Int)) = false := by simp; omega
          clear h1 h2 h3 h4d
          go_enter Tryz.func38, Tryz.ntmps38
          go_wp2_with fail
          refine (ValidSystem_any G T A n cg m ct q ca gs ts xs t _ (hS.out.below (by repeat (first | with_reducible exact bl_refl _ | with_reducible assumption | with_reducible refine bl_al ?_ _ | with_reducible refine bl_dr ?_ | with_reducible refine bl_tr ?_ (by assumption) | with_reducible refine bl_set ?_ ?_ _ | with_reducible exact Nat.le_refl _ | omega | (simp only [World.size_alloc, World.size_setCell, World.size_drew] at *; omega) | (dsimp only; omega) | (simp; done) | (simp; omega))))).mono ?_
          rw [h1H.out]
          rintro e w1 ⟨rfl, hb1⟩
          obtain ⟨chb1, fhb1, shb1, thb1⟩ := bcell hb1
          have b0 := shb1 w.heap.size (by go_simp)
          go_wp2_with fail
          refine (ValidSystem_any G2 T2 A2 n2 cg2 m2 ct2 q2 ca2 gs2 ts2 xs2 t2 _ (hS2.out.below (by repeat (first | with_reducible exact bl_refl _ | with_reducible assumption | with_reducible refine bl_al ?_ _ | with_reducible refine bl_dr ?_ | with_reducible refine bl_tr ?_ (by assumption) | with_reducible refine bl_set ?_ ?_ _ | with_reducible exact Nat.le_refl _ | omega | (simp only [World.size_alloc, World.size_setCell, World.size_drew] at *; omega) | (dsimp only; omega) | (simp; done) | (simp; omega))))).mono ?_
          rw [h2H.out]
          rintro e w2 ⟨rfl, hb2⟩
          obtain ⟨chb2, fhb2, shb2, thb2⟩ := bcell hb2
          have b1 := shb2 w.heap.size (by go_simp)
          go_wp2_with (go_at_call 76; refine (blockSizeOk_at _ _ h3H.out).mono ?_; rintro e _ ⟨rfl, rfl⟩)
          go_ret
          exact ⟨ret_bool hr.out, by repeat (first | with_reducible exact bl_refl _ | with_reducible assumption | with_reducible refine bl_al ?_ _ | with_reducible refine bl_dr ?_ | with_reducible refine bl_tr ?_ (by assumption) | with_reducible refine bl_set ?_ ?_ _ | with_reducible exact Nat.le_refl _ | omega | (simp only [World.size_alloc, World.size_setCell, World.size_drew] at *; omega) | (dsimp only; omega) | (simp; done) | (simp; omega))⟩
end Go.Proofs.YtbpmamjphdaggaaGreat
/- Walk: the reference's test of a simulation. -/

namespace Go.Proofs.YtbpmamjphdaggaaGreat
open Go.RowKit Go.Shelf
set_option linter.unusedSimpArgs false
set_option linter.unusedVariables false
attribute [local go_sem] BelowBy.cell BelowBy.cell_drew stillUpon givesUpon BelowBy.cell_drew2 BelowBy.cell_drew3

structure SimAt (w : World) (p : Nat) (gs : List Gl) (ts : List Ti) (xs : List Pl) (t : Int) (gs2 : List Gl) (ts2 : List Ti) (xs2 : List Pl) (t2 sc : Int) (F : Option Addr) (nf cf : Nat) (fl : List Int) : Prop where
  big : SysAt w p 0 gs ts xs t
  small : SysAt w p 4 gs2 ts2 xs2 t2
  sc : w.cell? ⟨p, 8, none⟩ = some (.int .i64 sc)
  lab : w.cell? ⟨p, 9, none⟩ = some (.slice F nf cf)
  fl : RdSl 1 RInt w F nf fl
set_option maxRecDepth 100000 in
set_option maxHeartbeats 4000000 in
theorem l32Ok_any {p : Nat} {gs : List Gl} {ts : List Ti} {xs : List Pl} {t : Int} {gs2 : List Gl} {ts2 : List Ti} {xs2 : List Pl} {t2 sc : Int} {F : Option Addr} {nf cf : Nat} {fl : List Int} {w : World} (h : SimAt w p gs ts xs t gs2 ts2 xs2 t2 sc F nf cf fl) (hf : nf ≤ 1073741824) :
    Calls Tryz.prog 74 #[.pointer (some ⟨p, 0, none⟩)] w fun e w' => e = .returned (.bool (simOkB gs ts xs t gs2 ts2 xs2 t2 sc fl)) ∧ Below w.heap.size w w' := by
  
  have hB := Lib.hid h.big
  have hM := Lib.hid h.small
  have csc := h.sc
  have clb := h.lab
  have lp := h.big.sat.s.lt
  have hFl := h.fl.len
  obtain ⟨T, m, ct, cT, hT⟩ := h.big.sat.s.ti
  obtain ⟨T2, m2, ct2, cT2, hT2⟩ := h.small.sat.s.ti
  have hTl := hT.len
  have hT2l := hT2.len
  have hm2 := h.small.sat.tm
  have cT : w.cell? ⟨p, 1, none⟩ = some (.slice T m ct) := cT
  have cT2 : w.cell? ⟨p, 5, none⟩ = some (.slice T2 m2 ct2) := cT2
  have hF := Lib.hid h.fl
  obtain ⟨r, hrE⟩ : ∃ r, simOkB gs ts xs t gs2 ts2 xs2 t2 sc fl = r := ⟨_, rfl⟩
  rw [hrE]
  have hrH := Lib.hid hrE
  clear h hrE hT hT2
  cases h1 : sysOkB gs ts xs t
  · have h1H := Lib.hid h1
    have hr := Lib.hid (show false = r by rw [← hrH.out]; unfold simOkB; rw [h1]; rfl)
    clear h1
    go_enter Tryz.func74, Tryz.ntmps74
    go_wp2
    refine wp_region_ord [(0, .q), (1, .q), (2, .q), (3, .g), (4, .q), (5, .q), (6, .q), (7, .q), (8, .q), (9, .g), (10, .q), (11, .q), (12, .q), (13, .q), (14, .q), (15, .q), (16, .q), (17, .g), (18, .q), (19, .q), (20, .q), (21, .q), (22, .q), (23, .q), (24, .q), (25, .q), (26, .q), (27, .q), (28, .q), (29, .q), (30, .q), (31, .q), (32, .q), (33, .q), (34, .q)] (by kernel_rfl) (by kernel_rfl) ?_
    simp only [pick, List.filterMap_cons, List.filterMap_nil, List.getElem?_toArray, List.getElem?_cons_zero, List.getElem?_cons_succ, Option.map_some]
    repeat (first
      | ((with_reducible refine wpD_p (fun K hK => ?_)); go_simp; refine hK _ ?_; clear hK K)
      | ((with_reducible refine wpD_q (fun K hK => ?_)); go_simp; (first | refine hK _ ?_ | (go_bits; refine hK _ ?_) | (go_bits; go_simp; refine hK _ ?_)); clear hK K)
      | ((with_reducible refine wpD_g (fun K hK => ?_)); go_simp; refine hK _ _ ?_; clear hK K)
      | ((with_reducible refine wpD_g (fun K hK => ?_)); go_simp; refine ⟨Grew.of_alloc _, hK _ _ ?_⟩; clear hK K))
    with_reducible refine wpD_g (fun K hK => ?_)
    go_simp
    refine (l08Ok_at (hB.out.below (by repeat (first | with_reducible exact bl_refl _ | with_reducible assumption | with_reducible refine bl_al ?_ _ | with_reducible refine bl_dr ?_ | with_reducible refine bl_tr ?_ (by assumption) | with_reducible refine bl_set ?_ ?_ _ | with_reducible exact Nat.le_refl _ | omega | (simp only [World.size_alloc, World.size_setCell, World.size_drew] at *; omega) | (dsimp only; omega) | (simp; done) | (simp; omega)))) h1H.out).mono ?_
    rintro e w1 ⟨rfl, hb1⟩
    refine ⟨_, rfl, hb1, hK _ _ ?_⟩
    clear hK K
    have lp1 : p < w1.heap.size := Nat.lt_of_lt_of_le (by simpa using lp) hb1.size
    have d8a := (hb1.cell (p := ⟨p, 8, none⟩) (by simpa using lp)).trans (show _ = some (Value.int .i64 sc) by simpa using csc)
    have d9a := (hb1.cell (p := ⟨p, 9, none⟩) (by simpa using lp)).trans (show _ = some (Value.slice F nf cf) by simpa using clb)
    have dTa := (hb1.cell (p := ⟨p, 1, none⟩) (by simpa using lp)).trans (show _ = some (Value.slice T m ct) by simpa using cT)
    repeat (first
      | ((with_reducible refine wpD_p (fun K hK => ?_)); go_simp; refine hK _ ?_; clear hK K)
      | ((with_reducible refine wpD_q (fun K hK => ?_)); go_simp; (first | refine hK _ ?_ | (go_bits; refine hK _ ?_) | (go_bits; go_simp; refine hK _ ?_)); clear hK K)
      | ((with_reducible refine wpD_g (fun K hK => ?_)); go_simp; refine hK _ _ ?_; clear hK K)
      | ((with_reducible refine wpD_g (fun K hK => ?_)); go_simp; refine ⟨Grew.of_alloc _, hK _ _ ?_⟩; clear hK K))
    with_reducible refine wpD_nil ?_
    go_wp2
    go_ret
    exact ⟨ret_bool hr.out, by repeat (first | with_reducible exact bl_refl _ | with_reducible assumption | with_reducible refine bl_al ?_ _ | with_reducible refine bl_dr ?_ | with_reducible refine bl_tr ?_ (by assumption) | with_reducible refine bl_set ?_ ?_ _ | with_reducible exact Nat.le_refl _ | omega | (simp only [World.size_alloc, World.size_setCell, World.size_drew] at *; omega) | (dsimp only; omega) | (simp; done) | (simp; omega))⟩
  · have h1H := Lib.hid h1
    cases h2 : sysOkB gs2 ts2 xs2 t2
    · have h2H := Lib.hid h2
      have hr := Lib.hid (show false = r by rw [← hrH.out]; unfold simOkB; rw [h1, h2]; rfl)
      clear h1 h2
      go_enter Tryz.func74, Tryz.ntmps74
      go_wp2
      refine wp_region_ord [(0, .q), (1, .q), (2, .q), (3, .g), (4, .q), (5, .q), (6, .q), (7, .q), (8, .q), (9, .g), (10, .q), (11, .q), (12, .q), (13, .q), (14, .q), (15, .q), (16, .q), (17, .g), (18, .q), (19, .q), (20, .q), (21, .q), (22, .q), (23, .q), (24, .q), (25, .q), (26, .q), (27, .q), (28, .q), (29, .q), (30, .q), (31, .q), (32, .q), (33, .q), (34, .q)] (by kernel_rfl) (by kernel_rfl) ?_
      simp only [pick, List.filterMap_cons, List.filterMap_nil, List.getElem?_toArray, List.getElem?_cons_zero, List.getElem?_cons_succ, Option.map_some]
      repeat (first
        | ((with_reducible refine wpD_p (fun K hK => ?_)); go_simp; refine hK _ ?_; clear hK K)
        | ((with_reducible refine wpD_q (fun K hK => ?_)); go_simp; (first | refine hK _ ?_ | (go_bits; refine hK _ ?_) | (go_bits; go_simp; refine hK _ ?_)); clear hK K)
        | ((with_reducible refine wpD_g (fun K hK => ?_)); go_simp; refine hK _ _ ?_; clear hK K)
        | ((with_reducible refine wpD_g (fun K hK => ?_)); go_simp; refine ⟨Grew.of_alloc _, hK _ _ ?_⟩; clear hK K))
      with_reducible refine wpD_g (fun K hK => ?_)
      go_simp
      refine (l08Ok_at (hB.out.below (by repeat (first | with_reducible exact bl_refl _ | with_reducible assumption | with_reducible refine bl_al ?_ _ | with_reducible refine bl_dr ?_ | with_reducible refine bl_tr ?_ (by assumption) | with_reducible refine bl_set ?_ ?_ _ | with_reducible exact Nat.le_refl _ | omega | (simp only [World.size_alloc, World.size_setCell, World.size_drew] at *; omega) | (dsimp only; omega) | (simp; done) | (simp; omega)))) h1H.out).mono ?_
      rintro e w1 ⟨rfl, hb1⟩
      refine ⟨_, rfl, hb1, hK _ _ ?_⟩
      clear hK K
      have lp1 : p < w1.heap.size := Nat.lt_of_lt_of_le (by simpa using lp) hb1.size
      have d8a := (hb1.cell (p := ⟨p, 8, none⟩) (by simpa using lp)).trans (show _ = some (Value.int .i64 sc) by simpa using csc)
      have d9a := (hb1.cell (p := ⟨p, 9, none⟩) (by simpa using lp)).trans (show _ = some (Value.slice F nf cf) by simpa using clb)
      have dTa := (hb1.cell (p := ⟨p, 1, none⟩) (by simpa using lp)).trans (show _ = some (Value.slice T m ct) by simpa using cT)
      repeat (first
        | ((with_reducible refine wpD_p (fun K hK => ?_)); go_simp; refine hK _ ?_; clear hK K)
        | ((with_reducible refine wpD_q (fun K hK => ?_)); go_simp; (first | refine hK _ ?_ | (go_bits; refine hK _ ?_) | (go_bits; go_simp; refine hK _ ?_)); clear hK K)
        | ((with_reducible refine wpD_g (fun K hK => ?_)); go_simp; refine hK _ _ ?_; clear hK K)
        | ((with_reducible refine wpD_g (fun K hK => ?_)); go_simp; refine ⟨Grew.of_alloc _, hK _ _ ?_⟩; clear hK K))
      with_reducible refine wpD_g (fun K hK => ?_)
      go_simp
      refine (l08Ok_at (hM.out.below (by repeat (first | with_reducible exact bl_refl _ | with_reducible assumption | with_reducible refine bl_al ?_ _ | with_reducible refine bl_dr ?_ | with_reducible refine bl_tr ?_ (by assumption) | with_reducible refine bl_set ?_ ?_ _ | with_reducible exact Nat.le_refl _ | omega | (simp only [World.size_alloc, World.size_setCell, World.size_drew] at *; omega) | (dsimp only; omega) | (simp; done) | (simp; omega)))) h2H.out).mono ?_
      rintro e w2 ⟨rfl, hb2⟩
      refine ⟨_, rfl, hb2, hK _ _ ?_⟩
      clear hK K
      have lp2 : p < w2.heap.size := Nat.lt_of_lt_of_le lp1 hb2.size
      have d8b := (hb2.cell (p := ⟨p, 8, none⟩) lp1).trans d8a
      have d9b := (hb2.cell (p := ⟨p, 9, none⟩) lp1).trans d9a
      have dTb := (hb2.cell (p := ⟨p, 1, none⟩) lp1).trans dTa
      repeat (first
        | ((with_reducible refine wpD_p (fun K hK => ?_)); go_simp; refine hK _ ?_; clear hK K)
        | ((with_reducible refine wpD_q (fun K hK => ?_)); go_simp; (first | refine hK _ ?_ | (go_bits; refine hK _ ?_) | (go_bits; go_simp; refine hK _ ?_)); clear hK K)
        | ((with_reducible refine wpD_g (fun K hK => ?_)); go_simp; refine hK _ _ ?_; clear hK K)
        | ((with_reducible refine wpD_g (fun K hK => ?_)); go_simp; refine ⟨Grew.of_alloc _, hK _ _ ?_⟩; clear hK K))
      with_reducible refine wpD_nil ?_
      go_wp2
      go_ret
      exact ⟨ret_bool hr.out, by repeat (first | with_reducible exact bl_refl _ | with_reducible assumption | with_reducible refine bl_al ?_ _ | with_reducible refine bl_dr ?_ | with_reducible refine bl_tr ?_ (by assumption) | with_reducible refine bl_set ?_ ?_ _ | with_reducible exact Nat.le_refl _ | omega | (simp only [World.size_alloc, World.size_setCell, World.size_drew] at *; omega) | (dsimp only; omega) | (simp; done) | (simp; omega))⟩
    · have h2H := Lib.hid h2
      cases h3 : inB sc 1 4
      · have h3H := Lib.hid h3
        have hr := Lib.hid (show false = r by rw [← hrH.out]; unfold simOkB; rw [h1, h2, h3]; rfl)
        clear h1 h2 h3
        go_enter Tryz.func74, Tryz.ntmps74
        go_wp2
        refine wp_region_ord [(0, .q), (1, .q), (2, .q), (3, .g), (4, .q), (5, .q), (6, .q), (7, .q), (8, .q), (9, .g), (10, .q), (11, .q), (12, .q), (13, .q), (14, .q), (15, .q), (16, .q), (17, .g), (18, .q), (19, .q), (20, .q), (21, .q), (22, .q), (23, .q), (24, .q), (25, .q), (26, .q), (27, .q), (28, .q), (29, .q), (30, .q), (31, .q), (32, .q), (33, .q), (34, .q)] (by kernel_rfl) (by kernel_rfl) ?_
        simp only [pick, List.filterMap_cons, List.filterMap_nil, List.getElem?_toArray, List.getElem?_cons_zero, List.getElem?_cons_succ, Option.map_some]
        repeat (first
          | ((with_reducible refine wpD_p (fun K hK => ?_)); go_simp; refine hK _ ?_; clear hK K)
          | ((with_reducible refine wpD_q (fun K hK => ?_)); go_simp; (first | refine hK _ ?_ | (go_bits; refine hK _ ?_) | (go_bits; go_simp; refine hK _ ?_)); clear hK K)
          | ((with_reducible refine wpD_g (fun K hK => ?_)); go_simp; refine hK _ _ ?_; clear hK K)
          | ((with_reducible refine wpD_g (fun K hK => ?_)); go_simp; refine ⟨Grew.of_alloc _, hK _ _ ?_⟩; clear hK K))
        with_reducible refine wpD_g (fun K hK => ?_)
        go_simp
        refine (l08Ok_at (hB.out.below (by repeat (first | with_reducible exact bl_refl _ | with_reducible assumption | with_reducible refine bl_al ?_ _ | with_reducible refine bl_dr ?_ | with_reducible refine bl_tr ?_ (by assumption) | with_reducible refine bl_set ?_ ?_ _ | with_reducible exact Nat.le_refl _ | omega | (simp only [World.size_alloc, World.size_setCell, World.size_drew] at *; omega) | (dsimp only; omega) | (simp; done) | (simp; omega)))) h1H.out).mono ?_
        rintro e w1 ⟨rfl, hb1⟩
        refine ⟨_, rfl, hb1, hK _ _ ?_⟩
        clear hK K
        have lp1 : p < w1.heap.size := Nat.lt_of_lt_of_le (by simpa using lp) hb1.size
        have d8a := (hb1.cell (p := ⟨p, 8, none⟩) (by simpa using lp)).trans (show _ = some (Value.int .i64 sc) by simpa using csc)
        have d9a := (hb1.cell (p := ⟨p, 9, none⟩) (by simpa using lp)).trans (show _ = some (Value.slice F nf cf) by simpa using clb)
        have dTa := (hb1.cell (p := ⟨p, 1, none⟩) (by simpa using lp)).trans (show _ = some (Value.slice T m ct) by simpa using cT)
        repeat (first
          | ((with_reducible refine wpD_p (fun K hK => ?_)); go_simp; refine hK _ ?_; clear hK K)
          | ((with_reducible refine wpD_q (fun K hK => ?_)); go_simp; (first | refine hK _ ?_ | (go_bits; refine hK _ ?_) | (go_bits; go_simp; refine hK _ ?_)); clear hK K)
          | ((with_reducible refine wpD_g (fun K hK => ?_)); go_simp; refine hK _ _ ?_; clear hK K)
          | ((with_reducible refine wpD_g (fun K hK => ?_)); go_simp; refine ⟨Grew.of_alloc _, hK _ _ ?_⟩; clear hK K))
        with_reducible refine wpD_g (fun K hK => ?_)
        go_simp
        refine (l08Ok_at (hM.out.below (by repeat (first | with_reducible exact bl_refl _ | with_reducible assumption | with_reducible refine bl_al ?_ _ | with_reducible refine bl_dr ?_ | with_reducible refine bl_tr ?_ (by assumption) | with_reducible refine bl_set ?_ ?_ _ | with_reducible exact Nat.le_refl _ | omega | (simp only [World.size_alloc, World.size_setCell, World.size_drew] at *; omega) | (dsimp only; omega) | (simp; done) | (simp; omega)))) h2H.out).mono ?_
        rintro e w2 ⟨rfl, hb2⟩
        refine ⟨_, rfl, hb2, hK _ _ ?_⟩
        clear hK K
        have lp2 : p < w2.heap.size := Nat.lt_of_lt_of_le lp1 hb2.size
        have d8b := (hb2.cell (p := ⟨p, 8, none⟩) lp1).trans d8a
        have d9b := (hb2.cell (p := ⟨p, 9, none⟩) lp1).trans d9a
        have dTb := (hb2.cell (p := ⟨p, 1, none⟩) lp1).trans dTa
        repeat (first
          | ((with_reducible refine wpD_p (fun K hK => ?_)); go_simp; refine hK _ ?_; clear hK K)
          | ((with_reducible refine wpD_q (fun K hK => ?_)); go_simp; (first | refine hK _ ?_ | (go_bits; refine hK _ ?_) | (go_bits; go_simp; refine hK _ ?_)); clear hK K)
          | ((with_reducible refine wpD_g (fun K hK => ?_)); go_simp; refine hK _ _ ?_; clear hK K)
          | ((with_reducible refine wpD_g (fun K hK => ?_)); go_simp; refine ⟨Grew.of_alloc _, hK _ _ ?_⟩; clear hK K)
          | ((with_reducible refine wpD_g (fun K hK => ?_)); go_simp; go_at_call 81; refine (l00In_at h3H.out).mono ?_; rintro e _ ⟨rfl, rfl⟩; refine ⟨_, rfl, Below.refl _ _, hK _ _ ?_⟩; clear hK K))
        with_reducible refine wpD_nil ?_
        go_wp2
        go_ret
        exact ⟨ret_bool hr.out, by repeat (first | with_reducible exact bl_refl _ | with_reducible assumption | with_reducible refine bl_al ?_ _ | with_reducible refine bl_dr ?_ | with_reducible refine bl_tr ?_ (by assumption) | with_reducible refine bl_set ?_ ?_ _ | with_reducible exact Nat.le_refl _ | omega | (simp only [World.size_alloc, World.size_setCell, World.size_drew] at *; omega) | (dsimp only; omega) | (simp; done) | (simp; omega))⟩
      · have h3H := Lib.hid h3
        by_cases h4 : nf = m
        · have h4d : decide (fl.length = ts.length) = true := decide_eq_true (by omega)
          have h4n : ((nf : Int) == (m : Int)) = true := by simp; omega
          have hr := Lib.hid (show allB nf (okLab m2 fl) = r by rw [← hrH.out]; unfold simOkB; rw [h1, h2, h3, h4d, hFl, hT2l]; rfl)
          clear h1 h2 h3 h4d
          go_enter Tryz.func74, Tryz.ntmps74
          go_wp2
          refine wp_region_ord [(0, .q), (1, .q), (2, .q), (3, .g), (4, .q), (5, .q), (6, .q), (7, .q), (8, .q), (9, .g), (10, .q), (11, .q), (12, .q), (13, .q), (14, .q), (15, .q), (16, .q), (17, .g), (18, .q), (19, .q), (20, .q), (21, .q), (22, .q), (23, .q), (24, .q), (25, .q), (26, .q), (27, .q), (28, .q), (29, .q), (30, .q), (31, .q), (32, .q), (33, .q), (34, .q)] (by kernel_rfl) (by kernel_rfl) ?_
          simp only [pick, List.filterMap_cons, List.filterMap_nil, List.getElem?_toArray, List.getElem?_cons_zero, List.getElem?_cons_succ, Option.map_some]
          repeat (first
            | ((with_reducible refine wpD_p (fun K hK => ?_)); go_simp; refine hK _ ?_; clear hK K)
            | ((with_reducible refine wpD_q (fun K hK => ?_)); go_simp; (first | refine hK _ ?_ | (go_bits; refine hK _ ?_) | (go_bits; go_simp; refine hK _ ?_)); clear hK K)
            | ((with_reducible refine wpD_g (fun K hK => ?_)); go_simp; refine hK _ _ ?_; clear hK K)
            | ((with_reducible refine wpD_g (fun K hK => ?_)); go_simp; refine ⟨Grew.of_alloc _, hK _ _ ?_⟩; clear hK K))
          with_reducible refine wpD_g (fun K hK => ?_)
          go_simp
          refine (l08Ok_at (hB.out.below (by repeat (first | with_reducible exact bl_refl _ | with_reducible assumption | with_reducible refine bl_al ?_ _ | with_reducible refine bl_dr ?_ | with_reducible refine bl_tr ?_ (by assumption) | with_reducible refine bl_set ?_ ?_ _ | with_reducible exact Nat.le_refl _ | omega | (simp only [World.size_alloc, World.size_setCell, World.size_drew] at *; omega) | (dsimp only; omega) | (simp; done) | (simp; omega)))) h1H.out).mono ?_
          rintro e w1 ⟨rfl, hb1⟩
          refine ⟨_, rfl, hb1, hK _ _ ?_⟩
          clear hK K
          have lp1 : p < w1.heap.size := Nat.lt_of_lt_of_le (by simpa using lp) hb1.size
          have d8a := (hb1.cell (p := ⟨p, 8, none⟩) (by simpa using lp)).trans (show _ = some (Value.int .i64 sc) by simpa using csc)
          have d9a := (hb1.cell (p := ⟨p, 9, none⟩) (by simpa using lp)).trans (show _ = some (Value.slice F nf cf) by simpa using clb)
          have dTa := (hb1.cell (p := ⟨p, 1, none⟩) (by simpa using lp)).trans (show _ = some (Value.slice T m ct) by simpa using cT)
          repeat (first
            | ((with_reducible refine wpD_p (fun K hK => ?_)); go_simp; refine hK _ ?_; clear hK K)
            | ((with_reducible refine wpD_q (fun K hK => ?_)); go_simp; (first | refine hK _ ?_ | (go_bits; refine hK _ ?_) | (go_bits; go_simp; refine hK _ ?_)); clear hK K)
            | ((with_reducible refine wpD_g (fun K hK => ?_)); go_simp; refine hK _ _ ?_; clear hK K)
            | ((with_reducible refine wpD_g (fun K hK => ?_)); go_simp; refine ⟨Grew.of_alloc _, hK _ _ ?_⟩; clear hK K))
          with_reducible refine wpD_g (fun K hK => ?_)
          go_simp
          refine (l08Ok_at (hM.out.below (by repeat (first | with_reducible exact bl_refl _ | with_reducible assumption | with_reducible refine bl_al ?_ _ | with_reducible refine bl_dr ?_ | with_reducible refine bl_tr ?_ (by assumption) | with_reducible refine bl_set ?_ ?_ _ | with_reducible exact Nat.le_refl _ | omega | (simp only [World.size_alloc, World.size_setCell, World.size_drew] at *; omega) | (dsimp only; omega) | (simp; done) | (simp; omega)))) h2H.out).mono ?_
          rintro e w2 ⟨rfl, hb2⟩
          refine ⟨_, rfl, hb2, hK _ _ ?_⟩
          clear hK K
          have lp2 : p < w2.heap.size := Nat.lt_of_lt_of_le lp1 hb2.size
          have d8b := (hb2.cell (p := ⟨p, 8, none⟩) lp1).trans d8a
          have d9b := (hb2.cell (p := ⟨p, 9, none⟩) lp1).trans d9a
          have dTb := (hb2.cell (p := ⟨p, 1, none⟩) lp1).trans dTa
          repeat (first
            | ((with_reducible refine wpD_p (fun K hK => ?_)); go_simp; refine hK _ ?_; clear hK K)
            | ((with_reducible refine wpD_q (fun K hK => ?_)); go_simp; (first | refine hK _ ?_ | (go_bits; refine hK _ ?_) | (go_bits; go_simp; refine hK _ ?_)); clear hK K)
            | ((with_reducible refine wpD_g (fun K hK => ?_)); go_simp; refine hK _ _ ?_; clear hK K)
            | ((with_reducible refine wpD_g (fun K hK => ?_)); go_simp; refine ⟨Grew.of_alloc _, hK _ _ ?_⟩; clear hK K)
            | ((with_reducible refine wpD_g (fun K hK => ?_)); go_simp; go_at_call 81; refine (l00In_at h3H.out).mono ?_; rintro e _ ⟨rfl, rfl⟩; refine ⟨_, rfl, Below.refl _ _, hK _ _ ?_⟩; clear hK K))
          with_reducible refine wpD_nil ?_
          have hbb : Below w.heap.size w w2 := by repeat (first | with_reducible exact bl_refl _ | with_reducible assumption | with_reducible refine bl_al ?_ _ | with_reducible refine bl_dr ?_ | with_reducible refine bl_tr ?_ (by assumption) | with_reducible refine bl_set ?_ ?_ _ | with_reducible exact Nat.le_refl _ | omega | (simp only [World.size_alloc, World.size_setCell, World.size_drew] at *; omega) | (dsimp only; omega) | (simp; done) | (simp; omega))
          have hw2 : IntKind.i64.wrap ((m2 : Int) - 1) = (m2 : Int) - 1 := wrap_in (by omega) (by omega)
          have hbbH := Lib.hid hbb
          have hs2 := hbb.size
          have k9 := (hbb.cell (p := ⟨p, 9, none⟩) lp).trans clb
          have k5 := (hbb.cell (p := ⟨p, 5, none⟩) lp).trans cT2
          have hF2 := Lib.hid (hF.out.below RInt.stable hbb)
          clear hbb
          go_wp2
          go_loopg [3] nf (fun g i wr => ∃ k : Nat, k + g = nf ∧ i = .int .i64 (k : Int) ∧ Hid (∀ j, j < k → okLab m2 fl j = true) ∧ Hid (Below w2.heap.size w2 wr))
          case atStart => exact ⟨0, by omega, rfl, Lib.hid (fun j hj => by omega), Lib.hid (bl_refl _)⟩
          case round =>
            obtain ⟨k, hk, rfl, hok, hbw⟩ := hrel
            have hsw := hbw.out.size
            have y9 := (hbw.out.cell (p := ⟨p, 9, none⟩) lp2).trans k9
            have y5 := (hbw.out.cell (p := ⟨p, 5, none⟩) lp2).trans k5
            have lpw : p < wr.heap.size := by omega
            by_cases hkn : k < nf
            · obtain ⟨b, o, hFe, hb, hc⟩ := (hF2.out.below RInt.stable hbw.out).ptr (by omega)
              subst hFe
              obtain ⟨v, hv⟩ := hF2.out.get hkn
              have c0 := hc k v hv
              simp only [RInt, Nat.mul_one] at c0
              have HS := Lib.hid (okLab_eq (m := m2) hv)
              clear hc hv
              cases hv4 : inB v (-1) ((m2 : Int) - 1)
              all_goals have hv4H := Lib.hid hv4
              · have hr2 := Lib.hid (show false = r by rw [← hr.out, allB_false hkn (by rw [HS.out, hv4])])
                clear hv4
                go_wp2
                refine wp_region_ord [(0, .q), (1, .q), (2, .q), (3, .q), (4, .q), (5, .q), (6, .q), (7, .q), (8, .q), (9, .q), (10, .q), (11, .q), (12, .q), (13, .q), (14, .q), (15, .g), (16, .q)] (by kernel_rfl) (by kernel_rfl) ?_
                simp only [pick, List.filterMap_cons, List.filterMap_nil, List.getElem?_toArray, List.getElem?_cons_zero, List.getElem?_cons_succ, Option.map_some]
                repeat (first
                  | ((with_reducible refine wpD_p (fun K hK => ?_)); go_simp; refine hK _ ?_; clear hK K)
                  | ((with_reducible refine wpD_q (fun K hK => ?_)); go_simp; (first | refine hK _ ?_ | (go_bits; refine hK _ ?_) | (go_bits; go_simp; refine hK _ ?_)); clear hK K)
                  | ((with_reducible refine wpD_g (fun K hK => ?_)); go_simp; refine hK _ _ ?_; clear hK K)
                  | ((with_reducible refine wpD_g (fun K hK => ?_)); go_simp; refine ⟨Grew.of_alloc _, hK _ _ ?_⟩; clear hK K))
                with_reducible refine wpD_g (fun K hK => ?_)
                go_simp
                refine (l00In_any _ _ _ _).mono ?_
                rw [hv4H.out]
                rintro e _ ⟨rfl, rfl⟩
                refine ⟨_, rfl, Below.refl _ _, hK _ _ ?_⟩
                clear hK K
                repeat (first
                  | ((with_reducible refine wpD_p (fun K hK => ?_)); go_simp; refine hK _ ?_; clear hK K)
                  | ((with_reducible refine wpD_q (fun K hK => ?_)); go_simp; (first | refine hK _ ?_ | (go_bits; refine hK _ ?_) | (go_bits; go_simp; refine hK _ ?_)); clear hK K)
                  | ((with_reducible refine wpD_g (fun K hK => ?_)); go_simp; refine hK _ _ ?_; clear hK K)
                  | ((with_reducible refine wpD_g (fun K hK => ?_)); go_simp; refine ⟨Grew.of_alloc _, hK _ _ ?_⟩; clear hK K))
                with_reducible refine wpD_nil ?_
                go_wp2
                go_ret
                exact ⟨ret_bool hr2.out, hbbH.out.trans (hbw.out.drew.mono hs2)⟩
              · clear hv4
                go_wp2
                refine wp_region_ord [(0, .q), (1, .q), (2, .q), (3, .q), (4, .q), (5, .q), (6, .q), (7, .q), (8, .q), (9, .q), (10, .q), (11, .q), (12, .q), (13, .q), (14, .q), (15, .g), (16, .q)] (by kernel_rfl) (by kernel_rfl) ?_
                simp only [pick, List.filterMap_cons, List.filterMap_nil, List.getElem?_toArray, List.getElem?_cons_zero, List.getElem?_cons_succ, Option.map_some]
                repeat (first
                  | ((with_reducible refine wpD_p (fun K hK => ?_)); go_simp; refine hK _ ?_; clear hK K)
                  | ((with_reducible refine wpD_q (fun K hK => ?_)); go_simp; (first | refine hK _ ?_ | (go_bits; refine hK _ ?_) | (go_bits; go_simp; refine hK _ ?_)); clear hK K)
                  | ((with_reducible refine wpD_g (fun K hK => ?_)); go_simp; refine hK _ _ ?_; clear hK K)
                  | ((with_reducible refine wpD_g (fun K hK => ?_)); go_simp; refine ⟨Grew.of_alloc _, hK _ _ ?_⟩; clear hK K))
                with_reducible refine wpD_g (fun K hK => ?_)
                go_simp
                refine (l00In_any _ _ _ _).mono ?_
                rw [hv4H.out]
                rintro e _ ⟨rfl, rfl⟩
                refine ⟨_, rfl, Below.refl _ _, hK _ _ ?_⟩
                clear hK K
                repeat (first
                  | ((with_reducible refine wpD_p (fun K hK => ?_)); go_simp; refine hK _ ?_; clear hK K)
                  | ((with_reducible refine wpD_q (fun K hK => ?_)); go_simp; (first | refine hK _ ?_ | (go_bits; refine hK _ ?_) | (go_bits; go_simp; refine hK _ ?_)); clear hK K)
                  | ((with_reducible refine wpD_g (fun K hK => ?_)); go_simp; refine hK _ _ ?_; clear hK K)
                  | ((with_reducible refine wpD_g (fun K hK => ?_)); go_simp; refine ⟨Grew.of_alloc _, hK _ _ ?_⟩; clear hK K))
                with_reducible refine wpD_nil ?_
                go_wp2
                go_roundg (nf - (k + 1))
                case measure => omega
                case rel => exact ⟨k + 1, by omega, by go_num, Lib.hid (fun j hj => (by rcases Nat.lt_succ_iff_lt_or_eq.1 hj with hj | rfl; exact hok.out j hj; rw [HS.out, hv4H.out])), Lib.hid (hbw.out.trans (Below.mono (by repeat (first | with_reducible exact bl_refl _ | with_reducible assumption | with_reducible refine bl_al ?_ _ | with_reducible refine bl_dr ?_ | with_reducible refine bl_tr ?_ (by assumption) | with_reducible refine bl_set ?_ ?_ _ | with_reducible exact Nat.le_refl _ | omega | (simp only [World.size_alloc, World.size_setCell, World.size_drew] at *; omega) | (dsimp only; omega) | (simp; done) | (simp; omega))) hsw))⟩
            · obtain rfl : k = nf := by omega
              have hr2 := Lib.hid (show true = r by rw [← hr.out, allB_true hok.out])
              go_wp2
              go_ret
              exact ⟨ret_bool hr2.out, hbbH.out.trans (hbw.out.mono hs2)⟩
        · have h4d : decide (fl.length = ts.length) = false := decide_eq_false (by omega)
          have hr := Lib.hid (show false = r by rw [← hrH.out]; unfold simOkB; rw [h1, h2, h3, h4d]; rfl)
          have h4n : ((nf : Int) == (m : Int)) = false := by simp; omega
          clear h1 h2 h3 h4d
          go_enter Tryz.func74, Tryz.ntmps74
          go_wp2
          refine wp_region_ord [(0, .q), (1, .q), (2, .q), (3, .g), (4, .q), (5, .q), (6, .q), (7, .q), (8, .q), (9, .g), (10, .q), (11, .q), (12, .q), (13, .q), (14, .q), (15, .q), (16, .q), (17, .g), (18, .q), (19, .q), (20, .q), (21, .q), (22, .q), (23, .q), (24, .q), (25, .q), (26, .q), (27, .q), (28, .q), (29, .q), (30, .q), (31, .q), (32, .q), (33, .q), (34, .q)] (by kernel_rfl) (by kernel_rfl) ?_
          simp only [pick, List.filterMap_cons, List.filterMap_nil, List.getElem?_toArray, List.getElem?_cons_zero, List.getElem?_cons_succ, Option.map_some]
          repeat (first
            | ((with_reducible refine wpD_p (fun K hK => ?_)); go_simp; refine hK _ ?_; clear hK K)
            | ((with_reducible refine wpD_q (fun K hK => ?_)); go_simp; (first | refine hK _ ?_ | (go_bits; refine hK _ ?_) | (go_bits; go_simp; refine hK _ ?_)); clear hK K)
            | ((with_reducible refine wpD_g (fun K hK => ?_)); go_simp; refine hK _ _ ?_; clear hK K)
            | ((with_reducible refine wpD_g (fun K hK => ?_)); go_simp; refine ⟨Grew.of_alloc _, hK _ _ ?_⟩; clear hK K))
          with_reducible refine wpD_g (fun K hK => ?_)
          go_simp
          refine (l08Ok_at (hB.out.below (by repeat (first | with_reducible exact bl_refl _ | with_reducible assumption | with_reducible refine bl_al ?_ _ | with_reducible refine bl_dr ?_ | with_reducible refine bl_tr ?_ (by assumption) | with_reducible refine bl_set ?_ ?_ _ | with_reducible exact Nat.le_refl _ | omega | (simp only [World.size_alloc, World.size_setCell, World.size_drew] at *; omega) | (dsimp only; omega) | (simp; done) | (simp; omega)))) h1H.out).mono ?_
          rintro e w1 ⟨rfl, hb1⟩
          refine ⟨_, rfl, hb1, hK _ _ ?_⟩
          clear hK K
          have lp1 : p < w1.heap.size := Nat.lt_of_lt_of_le (by simpa using lp) hb1.size
          have d8a := (hb1.cell (p := ⟨p, 8, none⟩) (by simpa using lp)).trans (show _ = some (Value.int .i64 sc) by simpa using csc)
          have d9a := (hb1.cell (p := ⟨p, 9, none⟩) (by simpa using lp)).trans (show _ = some (Value.slice F nf cf) by simpa using clb)
          have dTa := (hb1.cell (p := ⟨p, 1, none⟩) (by simpa using lp)).trans (show _ = some (Value.slice T m ct) by simpa using cT)
          repeat (first
            | ((with_reducible refine wpD_p (fun K hK => ?_)); go_simp; refine hK _ ?_; clear hK K)
            | ((with_reducible refine wpD_q (fun K hK => ?_)); go_simp; (first | refine hK _ ?_ | (go_bits; refine hK _ ?_) | (go_bits; go_simp; refine hK _ ?_)); clear hK K)
            | ((with_reducible refine wpD_g (fun K hK => ?_)); go_simp; refine hK _ _ ?_; clear hK K)
            | ((with_reducible refine wpD_g (fun K hK => ?_)); go_simp; refine ⟨Grew.of_alloc _, hK _ _ ?_⟩; clear hK K))
          with_reducible refine wpD_g (fun K hK => ?_)
          go_simp
          refine (l08Ok_at (hM.out.below (by repeat (first | with_reducible exact bl_refl _ | with_reducible assumption | with_reducible refine bl_al ?_ _ | with_reducible refine bl_dr ?_ | with_reducible refine bl_tr ?_ (by assumption) | with_reducible refine bl_set ?_ ?_ _ | with_reducible exact Nat.le_refl _ | omega | (simp only [World.size_alloc, World.size_setCell, World.size_drew] at *; omega) | (dsimp only; omega) | (simp; done) | (simp; omega)))) h2H.out).mono ?_
          rintro e w2 ⟨rfl, hb2⟩
          refine ⟨_, rfl, hb2, hK _ _ ?_⟩
          clear hK K
          have lp2 : p < w2.heap.size := Nat.lt_of_lt_of_le lp1 hb2.size
          have d8b := (hb2.cell (p := ⟨p, 8, none⟩) lp1).trans d8a
          have d9b := (hb2.cell (p := ⟨p, 9, none⟩) lp1).trans d9a
          have dTb := (hb2.cell (p := ⟨p, 1, none⟩) lp1).trans dTa
          repeat (first
            | ((with_reducible refine wpD_p (fun K hK => ?_)); go_simp; refine hK _ ?_; clear hK K)
            | ((with_reducible refine wpD_q (fun K hK => ?_)); go_simp; (first | refine hK _ ?_ | (go_bits; refine hK _ ?_) | (go_bits; go_simp; refine hK _ ?_)); clear hK K)
            | ((with_reducible refine wpD_g (fun K hK => ?_)); go_simp; refine hK _ _ ?_; clear hK K)
            | ((with_reducible refine wpD_g (fun K hK => ?_)); go_simp; refine ⟨Grew.of_alloc _, hK _ _ ?_⟩; clear hK K)
            | ((with_reducible refine wpD_g (fun K hK => ?_)); go_simp; go_at_call 81; refine (l00In_at h3H.out).mono ?_; rintro e _ ⟨rfl, rfl⟩; refine ⟨_, rfl, Below.refl _ _, hK _ _ ?_⟩; clear hK K))
          with_reducible refine wpD_nil ?_
          go_wp2
          go_ret
          exact ⟨ret_bool hr.out, by repeat (first | with_reducible exact bl_refl _ | with_reducible assumption | with_reducible refine bl_al ?_ _ | with_reducible refine bl_dr ?_ | with_reducible refine bl_tr ?_ (by assumption) | with_reducible refine bl_set ?_ ?_ _ | with_reducible exact Nat.le_refl _ | omega | (simp only [World.size_alloc, World.size_setCell, World.size_drew] at *; omega) | (dsimp only; omega) | (simp; done) | (simp; omega))⟩
theorem sValidSimulation_any (G T A : Option Addr) (n cg m ct q ca : Nat) (gs : List Gl) (ts : List Ti) (xs : List Pl) (t : Int) (G2 T2 A2 : Option Addr) (n2 cg2 m2 ct2 q2 ca2 : Nat) (gs2 : List Gl) (ts2 : List Ti) (xs2 : List Pl) (t2 : Int) (sc : Int) (F : Option Addr) (nf cf : Nat) (fl : List Int) (w : World) (h : SA w G n T m A q gs ts xs) (h2 : SA w G2 n2 T2 m2 A2 q2 gs2 ts2 xs2) (hF : RdSl 1 RInt w F nf fl) (hf : nf ≤ 1073741824) :
    Calls Tryz.prog 36 #[.agg #[.slice G n cg, .slice T m ct, .slice A q ca, .int .i64 t, .slice G2 n2 cg2, .slice T2 m2 ct2, .slice A2 q2 ca2, .int .i64 t2, .int .i64 sc, .slice F nf cf]] w fun e w' => e = .returned (.bool (simOkB gs ts xs t gs2 ts2 xs2 t2 sc fl)) ∧ Below w.heap.size w w' := by
  
  have hat := Lib.hid (show SimAt (w.alloc (Obj.cells #[.slice G n cg, .slice T m ct, .slice A q ca, .int .i64 t, .slice G2 n2 cg2, .slice T2 m2 ct2, .slice A2 q2 ca2, .int .i64 t2, .int .i64 sc, .slice F nf cf] 71)) w.heap.size gs ts xs t gs2 ts2 xs2 t2 sc F nf cf fl from
    ⟨⟨⟨⟨by simp, ⟨G, n, cg, by go_simp, h.G.below RGl.stable (by repeat (first | with_reducible exact bl_refl _ | with_reducible assumption | with_reducible refine bl_al ?_ _ | with_reducible refine bl_dr ?_ | with_reducible refine bl_tr ?_ (by assumption) | with_reducible refine bl_set ?_ ?_ _ | with_reducible exact Nat.le_refl _ | omega | (simp only [World.size_alloc, World.size_setCell, World.size_drew] at *; omega) | (dsimp only; omega) | (simp; done) | (simp; omega)))⟩, ⟨T, m, ct, by go_simp, h.T.below RTi.stable (by repeat (first | with_reducible exact bl_refl _ | with_reducible assumption | with_reducible refine bl_al ?_ _ | with_reducible refine bl_dr ?_ | with_reducible refine bl_tr ?_ (by assumption) | with_reducible refine bl_set ?_ ?_ _ | with_reducible exact Nat.le_refl _ | omega | (simp only [World.size_alloc, World.size_setCell, World.size_drew] at *; omega) | (dsimp only; omega) | (simp; done) | (simp; omega)))⟩⟩, ⟨by simp, A, q, ca, by go_simp, h.A.below RPl.stable (by repeat (first | with_reducible exact bl_refl _ | with_reducible assumption | with_reducible refine bl_al ?_ _ | with_reducible refine bl_dr ?_ | with_reducible refine bl_tr ?_ (by assumption) | with_reducible refine bl_set ?_ ?_ _ | with_reducible exact Nat.le_refl _ | omega | (simp only [World.size_alloc, World.size_setCell, World.size_drew] at *; omega) | (dsimp only; omega) | (simp; done) | (simp; omega)))⟩,
      by rw [h.A.len]; exact h.q, by rw [h.G.len]; exact h.gm, by rw [h.T.len]; exact h.tm, h.gn, h.tn⟩, by go_simp⟩,
     ⟨⟨⟨by simp, ⟨G2, n2, cg2, by go_simp, h2.G.below RGl.stable (by repeat (first | with_reducible exact bl_refl _ | with_reducible assumption | with_reducible refine bl_al ?_ _ | with_reducible refine bl_dr ?_ | with_reducible refine bl_tr ?_ (by assumption) | with_reducible refine bl_set ?_ ?_ _ | with_reducible exact Nat.le_refl _ | omega | (simp only [World.size_alloc, World.size_setCell, World.size_drew] at *; omega) | (dsimp only; omega) | (simp; done) | (simp; omega)))⟩, ⟨T2, m2, ct2, by go_simp, h2.T.below RTi.stable (by repeat (first | with_reducible exact bl_refl _ | with_reducible assumption | with_reducible refine bl_al ?_ _ | with_reducible refine bl_dr ?_ | with_reducible refine bl_tr ?_ (by assumption) | with_reducible refine bl_set ?_ ?_ _ | with_reducible exact Nat.le_refl _ | omega | (simp only [World.size_alloc, World.size_setCell, World.size_drew] at *; omega) | (dsimp only; omega) | (simp; done) | (simp; omega)))⟩⟩, ⟨by simp, A2, q2, ca2, by go_simp, h2.A.below RPl.stable (by repeat (first | with_reducible exact bl_refl _ | with_reducible assumption | with_reducible refine bl_al ?_ _ | with_reducible refine bl_dr ?_ | with_reducible refine bl_tr ?_ (by assumption) | with_reducible refine bl_set ?_ ?_ _ | with_reducible exact Nat.le_refl _ | omega | (simp only [World.size_alloc, World.size_setCell, World.size_drew] at *; omega) | (dsimp only; omega) | (simp; done) | (simp; omega)))⟩,
      by rw [h2.A.len]; exact h2.q, by rw [h2.G.len]; exact h2.gm, by rw [h2.T.len]; exact h2.tm, h2.gn, h2.tn⟩, by go_simp⟩,
     by go_simp, by go_simp, hF.below RInt.stable (by repeat (first | with_reducible exact bl_refl _ | with_reducible assumption | with_reducible refine bl_al ?_ _ | with_reducible refine bl_dr ?_ | with_reducible refine bl_tr ?_ (by assumption) | with_reducible refine bl_set ?_ ?_ _ | with_reducible exact Nat.le_refl _ | omega | (simp only [World.size_alloc, World.size_setCell, World.size_drew] at *; omega) | (dsimp only; omega) | (simp; done) | (simp; omega)))⟩)
  clear h h2 hF
  go_enter Tryz.func36, Tryz.ntmps36
  go_wp2_with (go_at_call 74; refine (l32Ok_any hat.out hf).mono ?_; rintro e w1 ⟨rfl, hb1⟩)
  go_ret
  exact ⟨rfl, by repeat (first | with_reducible exact bl_refl _ | with_reducible assumption | with_reducible refine bl_al ?_ _ | with_reducible refine bl_dr ?_ | with_reducible refine bl_tr ?_ (by assumption) | with_reducible refine bl_set ?_ ?_ _ | with_reducible exact Nat.le_refl _ | omega | (simp only [World.size_alloc, World.size_setCell, World.size_drew] at *; omega) | (dsimp only; omega) | (simp; done) | (simp; omega))⟩
end Go.Proofs.YtbpmamjphdaggaaGreat
