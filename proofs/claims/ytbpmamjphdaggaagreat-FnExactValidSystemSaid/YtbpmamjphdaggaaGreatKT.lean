import Derived.Test.YtbpmamjphdaggaaGreatKS
/- Walks: systems: the reference's test and the program's. -/

namespace Go.Proofs.YtbpmamjphdaggaaGreat
open Go.RowKit Go.Shelf
set_option linter.unusedSimpArgs false
set_option linter.unusedVariables false
attribute [local go_sem] BelowBy.cell BelowBy.cell_drew stillUpon givesUpon BelowBy.cell_drew2 BelowBy.cell_drew3

/-- a valid system -/
noncomputable def sysOkB (gs : List Gl) (ts : List Ti) (xs : List Pl) (t : Int) : Bool := decide (0 < xs.length) && (isStabR gs ts xs t).1
theorem isStabR_cases (gs : List Gl) (ts : List Ti) (xs : List Pl) (t : Int) : (∃ c : Int, c ≠ 0 ∧ isStabR gs ts xs t = (false, c)) ∨ ∃ b, isStabR gs ts xs t = (b, 0) := by
  unfold isStabR
  split
  · exact .inl ⟨1, by decide, rfl⟩
  · split
    · exact .inl ⟨2, by decide, rfl⟩
    · unfold stabVR stabR
      split
      · exact .inl ⟨4, by decide, rfl⟩
      · exact .inr ⟨_, rfl⟩
theorem sysOkB_valid {gs : List Gl} {ts : List Ti} {xs : List Pl} {t : Int} (h : sysOkB gs ts xs t = true) : validAsmB gs ts xs = true ∧ 0 < xs.length ∧ tempB t = true := by
  unfold sysOkB at h
  simp only [Bool.and_eq_true, decide_eq_true_eq] at h
  obtain ⟨h1, h2⟩ := h
  refine ⟨?_, h1, ?_⟩
  · cases hv : validAsmB gs ts xs
    · rw [← isStabR_no hv] at h2; cases h2
    · rfl
  · cases hv : validAsmB gs ts xs
    · rw [← isStabR_no hv] at h2; cases h2
    · cases ht : tempB t
      · rw [← isStabR_range hv ht] at h2; cases h2
      · rfl
structure SysAt (w : World) (p o : Nat) (gs : List Gl) (ts : List Ti) (xs : List Pl) (t : Int) : Prop where
  sat : SAt w p o p (o + 2) gs ts xs
  temp : w.cell? ⟨p, o + 3, none⟩ = some (.int .i64 t)
section
variable {w w' : World} {p o q oq : Nat} {gs : List Gl} {ts : List Ti} {xs : List Pl} {t : Int}
theorem SysAt.below (h : SysAt w p o gs ts xs t) (hb : Below w.heap.size w w') : SysAt w' p o gs ts xs t :=
  ⟨h.sat.below hb, (hb.cell (p := ⟨p, o + 3, none⟩) h.sat.s.lt).trans h.temp⟩
theorem SA.sysbox {G T A : Option Addr} {n m k : Nat} (h : SA w G n T m A k gs ts xs) (cg ct ca : Nat) (t : Int) : SysAt (w.alloc (Obj.cells #[.slice G n cg, .slice T m ct, .slice A k ca, .int .i64 t] 62)) w.heap.size 0 gs ts xs t :=
  ⟨⟨⟨by simp, ⟨G, n, cg, by go_simp, h.G.below RGl.stable (by repeat (first | with_reducible exact bl_refl _ | with_reducible assumption | with_reducible refine bl_al ?_ _ | with_reducible refine bl_dr ?_ | with_reducible refine bl_tr ?_ (by assumption) | with_reducible refine bl_set ?_ ?_ _ | with_reducible exact Nat.le_refl _ | omega | (simp only [World.size_alloc, World.size_setCell, World.size_drew] at *; omega) | (dsimp only; omega) | (simp; done) | (simp; omega)))⟩, ⟨T, m, ct, by go_simp, h.T.below RTi.stable (by repeat (first | with_reducible exact bl_refl _ | with_reducible assumption | with_reducible refine bl_al ?_ _ | with_reducible refine bl_dr ?_ | with_reducible refine bl_tr ?_ (by assumption) | with_reducible refine bl_set ?_ ?_ _ | with_reducible exact Nat.le_refl _ | omega | (simp only [World.size_alloc, World.size_setCell, World.size_drew] at *; omega) | (dsimp only; omega) | (simp; done) | (simp; omega)))⟩⟩, ⟨by simp, A, k, ca, by go_simp, h.A.below RPl.stable (by repeat (first | with_reducible exact bl_refl _ | with_reducible assumption | with_reducible refine bl_al ?_ _ | with_reducible refine bl_dr ?_ | with_reducible refine bl_tr ?_ (by assumption) | with_reducible refine bl_set ?_ ?_ _ | with_reducible exact Nat.le_refl _ | omega | (simp only [World.size_alloc, World.size_setCell, World.size_drew] at *; omega) | (dsimp only; omega) | (simp; done) | (simp; omega)))⟩,
    by rw [h.A.len]; exact h.q, by rw [h.G.len]; exact h.gm, by rw [h.T.len]; exact h.tm, h.gn, h.tn⟩, by go_simp⟩
theorem SAt.set {v : Bool} (h : SAt w p o q oq gs ts xs) (hv : validSetB gs ts = v) :
    Calls Tryz.prog 109 #[.pointer (some ⟨p, o, none⟩)] w fun e w' => e = .returned (.bool v) ∧ Below w.heap.size w w' := by
  rw [← hv]; exact l02Ok_any _ gs ts _ h.s (Nat.le_trans h.gm (by decide)) (Nat.le_trans h.tm (by decide)) h.gn h.tn
theorem SAt.form {v : Bool} (h : SAt w p o q oq gs ts xs) (hv : (hasFormB xs && allB xs.length (okTile ts.length xs)) = v) :
    Calls Tryz.prog 110 #[.pointer (some ⟨p, o, none⟩), .pointer (some ⟨q, oq, none⟩)] w fun e w' => e = .returned (.bool v) ∧ Below w.heap.size w w' := by
  rw [← hv]; exact l03Ok_any _ _ gs ts xs _ h.s h.a h.q (Nat.le_trans h.tm (by decide))
end
theorem l07Temperature_at (t : Int) (w : World) {v : Bool} (h : tempB t = v) : Calls Tryz.prog 68 #[.int .i64 t] w fun e w' => e = .returned (.bool v) ∧ w = w' := by
  rw [← h]; exact l07Temperature_any t w
set_option maxRecDepth 100000 in
set_option maxHeartbeats 4000000 in
theorem l08Ok_any {o : Nat} (p : Nat) (gs : List Gl) (ts : List Ti) (xs : List Pl) (t : Int) (w : World) (h : SysAt w p o gs ts xs t) :
    Calls Tryz.prog 72 #[.pointer (some ⟨p, o, none⟩)] w fun e w' => e = .returned (.bool (sysOkB gs ts xs t)) ∧ Below w.heap.size w w' := by
  
  have hS := Lib.hid h.sat
  have ct := h.temp
  have lp := h.sat.s.lt
  obtain ⟨lq, A, q, ca, cq, hA⟩ := h.sat.a
  have hlen := hA.len
  have hq0 := h.sat.q
  rw [hlen] at hq0
  have hlenH := Lib.hid hlen
  clear h hA hlen
  cases hv2 : validSetB gs ts
  · have hv2H := Lib.hid hv2
    have hr := Lib.hid (show false = sysOkB gs ts xs t by unfold sysOkB; rw [← isStabR_no (show validAsmB gs ts xs = false by unfold validAsmB; rw [hv2]; rfl)]; simp)
    clear hv2
    go_enter Tryz.func72, Tryz.ntmps72
    go_wp2
    refine wp_region_ord [(0, .q), (1, .q), (2, .q), (3, .g), (4, .q), (5, .q), (6, .q), (7, .q), (8, .q), (9, .q), (10, .q), (11, .q), (12, .g), (13, .q), (14, .q), (15, .q), (16, .q), (17, .q), (18, .q), (19, .q), (20, .q), (21, .q), (22, .q), (23, .q), (24, .q), (25, .q), (26, .q), (27, .q), (28, .q), (29, .g), (30, .q), (31, .q)] (by kernel_rfl) (by kernel_rfl) ?_
    simp only [pick, List.filterMap_cons, List.filterMap_nil, List.getElem?_toArray, List.getElem?_cons_zero, List.getElem?_cons_succ, Option.map_some]
    repeat (first
      | ((with_reducible refine wpD_p (fun K hK => ?_)); go_simp; refine hK _ ?_; clear hK K)
      | ((with_reducible refine wpD_q (fun K hK => ?_)); go_simp; (first | refine hK _ ?_ | (go_bits; refine hK _ ?_) | (go_bits; go_simp; refine hK _ ?_)); clear hK K)
      | ((with_reducible refine wpD_g (fun K hK => ?_)); go_simp; refine hK _ _ ?_; clear hK K)
      | ((with_reducible refine wpD_g (fun K hK => ?_)); go_simp; refine ⟨Grew.of_alloc _, hK _ _ ?_⟩; clear hK K)
      | ((with_reducible refine wpD_g (fun K hK => ?_)); go_simp; go_at_call 109; refine ((hS.out.below (by repeat (first | with_reducible exact bl_refl _ | with_reducible assumption | with_reducible refine bl_al ?_ _ | with_reducible refine bl_dr ?_ | with_reducible refine bl_tr ?_ (by assumption) | with_reducible refine bl_set ?_ ?_ _ | with_reducible exact Nat.le_refl _ | omega | (simp only [World.size_alloc, World.size_setCell, World.size_drew] at *; omega) | (dsimp only; omega) | (simp; done) | (simp; omega)))).set hv2H.out).mono ?_; rintro e w1 ⟨rfl, hb1⟩; refine ⟨_, rfl, hb1, hK _ _ ?_⟩; clear hK K; obtain ⟨chb1, fhb1, shb1, thb1⟩ := bcell hb1; (try have bhb10 := shb1 (p) (by go_simp)); have cq1 := (hb1.cell (p := ⟨p, o + 2, none⟩) (by simpa using lp)).trans (show _ = some (Value.slice A q ca) by simpa using cq); have ct1 := (hb1.cell (p := ⟨p, o + 3, none⟩) (by simpa using lp)).trans (show _ = some (Value.int .i64 t) by simpa using ct)))
    with_reducible refine wpD_nil ?_
    go_wp2
    go_ret
    exact ⟨ret_bool hr.out, by repeat (first | with_reducible exact bl_refl _ | with_reducible assumption | with_reducible refine bl_al ?_ _ | with_reducible refine bl_dr ?_ | with_reducible refine bl_tr ?_ (by assumption) | with_reducible refine bl_set ?_ ?_ _ | with_reducible exact Nat.le_refl _ | omega | (simp only [World.size_alloc, World.size_setCell, World.size_drew] at *; omega) | (dsimp only; omega) | (simp; done) | (simp; omega))⟩
  · have hv2H := Lib.hid hv2
    cases hv3 : (hasFormB xs && allB xs.length (okTile ts.length xs))
    · have hv3H := Lib.hid hv3
      have hr := Lib.hid (show false = sysOkB gs ts xs t by unfold sysOkB; rw [← isStabR_no (show validAsmB gs ts xs = false by unfold validAsmB; rw [hv2, hv3]; rfl)]; simp)
      clear hv2 hv3
      go_enter Tryz.func72, Tryz.ntmps72
      go_wp2
      refine wp_region_ord [(0, .q), (1, .q), (2, .q), (3, .g), (4, .q), (5, .q), (6, .q), (7, .q), (8, .q), (9, .q), (10, .q), (11, .q), (12, .g), (13, .q), (14, .q), (15, .q), (16, .q), (17, .q), (18, .q), (19, .q), (20, .q), (21, .q), (22, .q), (23, .q), (24, .q), (25, .q), (26, .q), (27, .q), (28, .q), (29, .g), (30, .q), (31, .q)] (by kernel_rfl) (by kernel_rfl) ?_
      simp only [pick, List.filterMap_cons, List.filterMap_nil, List.getElem?_toArray, List.getElem?_cons_zero, List.getElem?_cons_succ, Option.map_some]
      repeat (first
        | ((with_reducible refine wpD_p (fun K hK => ?_)); go_simp; refine hK _ ?_; clear hK K)
        | ((with_reducible refine wpD_q (fun K hK => ?_)); go_simp; (first | refine hK _ ?_ | (go_bits; refine hK _ ?_) | (go_bits; go_simp; refine hK _ ?_)); clear hK K)
        | ((with_reducible refine wpD_g (fun K hK => ?_)); go_simp; refine hK _ _ ?_; clear hK K)
        | ((with_reducible refine wpD_g (fun K hK => ?_)); go_simp; refine ⟨Grew.of_alloc _, hK _ _ ?_⟩; clear hK K)
        | ((with_reducible refine wpD_g (fun K hK => ?_)); go_simp; go_at_call 109; refine ((hS.out.below (by repeat (first | with_reducible exact bl_refl _ | with_reducible assumption | with_reducible refine bl_al ?_ _ | with_reducible refine bl_dr ?_ | with_reducible refine bl_tr ?_ (by assumption) | with_reducible refine bl_set ?_ ?_ _ | with_reducible exact Nat.le_refl _ | omega | (simp only [World.size_alloc, World.size_setCell, World.size_drew] at *; omega) | (dsimp only; omega) | (simp; done) | (simp; omega)))).set hv2H.out).mono ?_; rintro e w1 ⟨rfl, hb1⟩; refine ⟨_, rfl, hb1, hK _ _ ?_⟩; clear hK K; obtain ⟨chb1, fhb1, shb1, thb1⟩ := bcell hb1; (try have bhb10 := shb1 (p) (by go_simp)); have cq1 := (hb1.cell (p := ⟨p, o + 2, none⟩) (by simpa using lp)).trans (show _ = some (Value.slice A q ca) by simpa using cq); have ct1 := (hb1.cell (p := ⟨p, o + 3, none⟩) (by simpa using lp)).trans (show _ = some (Value.int .i64 t) by simpa using ct))
        | ((with_reducible refine wpD_g (fun K hK => ?_)); go_simp; go_at_call 110; refine ((hS.out.below (by repeat (first | with_reducible exact bl_refl _ | with_reducible assumption | with_reducible refine bl_al ?_ _ | with_reducible refine bl_dr ?_ | with_reducible refine bl_tr ?_ (by assumption) | with_reducible refine bl_set ?_ ?_ _ | with_reducible exact Nat.le_refl _ | omega | (simp only [World.size_alloc, World.size_setCell, World.size_drew] at *; omega) | (dsimp only; omega) | (simp; done) | (simp; omega)))).form hv3H.out).mono ?_; rintro e w2 ⟨rfl, hb2⟩; refine ⟨_, rfl, hb2, hK _ _ ?_⟩; clear hK K; obtain ⟨chb2, fhb2, shb2, thb2⟩ := bcell hb2; (try have bhb20 := shb2 (p) (by go_simp)); have cq2 := (hb2.cell (p := ⟨p, o + 2, none⟩) bhb10).trans cq1; have ct2 := (hb2.cell (p := ⟨p, o + 3, none⟩) bhb10).trans ct1))
      with_reducible refine wpD_nil ?_
      go_wp2
      go_ret
      exact ⟨ret_bool hr.out, by repeat (first | with_reducible exact bl_refl _ | with_reducible assumption | with_reducible refine bl_al ?_ _ | with_reducible refine bl_dr ?_ | with_reducible refine bl_tr ?_ (by assumption) | with_reducible refine bl_set ?_ ?_ _ | with_reducible exact Nat.le_refl _ | omega | (simp only [World.size_alloc, World.size_setCell, World.size_drew] at *; omega) | (dsimp only; omega) | (simp; done) | (simp; omega))⟩
    · have hv3H := Lib.hid hv3
      have hval : validAsmB gs ts xs = true := by unfold validAsmB; rw [hv2, hv3]; rfl
      have hvH := Lib.hid hval
      have hV := valid_of hval
      clear hv2 hv3 hval
      by_cases hq1 : q = 0
      · subst hq1
        have hr := Lib.hid (show false = sysOkB gs ts xs t by unfold sysOkB; rw [hlenH.out]; rfl)
        go_enter Tryz.func72, Tryz.ntmps72
        go_wp2
        refine wp_region_ord [(0, .q), (1, .q), (2, .q), (3, .g), (4, .q), (5, .q), (6, .q), (7, .q), (8, .q), (9, .q), (10, .q), (11, .q), (12, .g), (13, .q), (14, .q), (15, .q), (16, .q), (17, .q), (18, .q), (19, .q), (20, .q), (21, .q), (22, .q), (23, .q), (24, .q), (25, .q), (26, .q), (27, .q), (28, .q), (29, .g), (30, .q), (31, .q)] (by kernel_rfl) (by kernel_rfl) ?_
        simp only [pick, List.filterMap_cons, List.filterMap_nil, List.getElem?_toArray, List.getElem?_cons_zero, List.getElem?_cons_succ, Option.map_some]
        repeat (first
          | ((with_reducible refine wpD_p (fun K hK => ?_)); go_simp; refine hK _ ?_; clear hK K)
          | ((with_reducible refine wpD_q (fun K hK => ?_)); go_simp; (first | refine hK _ ?_ | (go_bits; refine hK _ ?_) | (go_bits; go_simp; refine hK _ ?_)); clear hK K)
          | ((with_reducible refine wpD_g (fun K hK => ?_)); go_simp; refine hK _ _ ?_; clear hK K)
          | ((with_reducible refine wpD_g (fun K hK => ?_)); go_simp; refine ⟨Grew.of_alloc _, hK _ _ ?_⟩; clear hK K)
          | ((with_reducible refine wpD_g (fun K hK => ?_)); go_simp; go_at_call 109; refine ((hS.out.below (by repeat (first | with_reducible exact bl_refl _ | with_reducible assumption | with_reducible refine bl_al ?_ _ | with_reducible refine bl_dr ?_ | with_reducible refine bl_tr ?_ (by assumption) | with_reducible refine bl_set ?_ ?_ _ | with_reducible exact Nat.le_refl _ | omega | (simp only [World.size_alloc, World.size_setCell, World.size_drew] at *; omega) | (dsimp only; omega) | (simp; done) | (simp; omega)))).set hv2H.out).mono ?_; rintro e w1 ⟨rfl, hb1⟩; refine ⟨_, rfl, hb1, hK _ _ ?_⟩; clear hK K; obtain ⟨chb1, fhb1, shb1, thb1⟩ := bcell hb1; (try have bhb10 := shb1 (p) (by go_simp)); have cq1 := (hb1.cell (p := ⟨p, o + 2, none⟩) (by simpa using lp)).trans (show _ = some (Value.slice A 0 ca) by simpa using cq); have ct1 := (hb1.cell (p := ⟨p, o + 3, none⟩) (by simpa using lp)).trans (show _ = some (Value.int .i64 t) by simpa using ct))
          | ((with_reducible refine wpD_g (fun K hK => ?_)); go_simp; go_at_call 110; refine ((hS.out.below (by repeat (first | with_reducible exact bl_refl _ | with_reducible assumption | with_reducible refine bl_al ?_ _ | with_reducible refine bl_dr ?_ | with_reducible refine bl_tr ?_ (by assumption) | with_reducible refine bl_set ?_ ?_ _ | with_reducible exact Nat.le_refl _ | omega | (simp only [World.size_alloc, World.size_setCell, World.size_drew] at *; omega) | (dsimp only; omega) | (simp; done) | (simp; omega)))).form hv3H.out).mono ?_; rintro e w2 ⟨rfl, hb2⟩; refine ⟨_, rfl, hb2, hK _ _ ?_⟩; clear hK K; obtain ⟨chb2, fhb2, shb2, thb2⟩ := bcell hb2; (try have bhb20 := shb2 (p) (by go_simp)); have cq2 := (hb2.cell (p := ⟨p, o + 2, none⟩) bhb10).trans cq1; have ct2 := (hb2.cell (p := ⟨p, o + 3, none⟩) bhb10).trans ct1))
        with_reducible refine wpD_nil ?_
        go_wp2
        go_ret
        exact ⟨ret_bool hr.out, by repeat (first | with_reducible exact bl_refl _ | with_reducible assumption | with_reducible refine bl_al ?_ _ | with_reducible refine bl_dr ?_ | with_reducible refine bl_tr ?_ (by assumption) | with_reducible refine bl_set ?_ ?_ _ | with_reducible exact Nat.le_refl _ | omega | (simp only [World.size_alloc, World.size_setCell, World.size_drew] at *; omega) | (dsimp only; omega) | (simp; done) | (simp; omega))⟩
      · have hqd : ((q : Int) == 0) = false := by simp; omega
        have hqH := Lib.hid hq1
        cases htm : tempB t
        · have htH := Lib.hid htm
          have hr := Lib.hid (show false = sysOkB gs ts xs t by unfold sysOkB; rw [← isStabR_range hvH.out htm]; simp)
          clear htm
          go_enter Tryz.func72, Tryz.ntmps72
          go_wp2
          refine wp_region_ord [(0, .q), (1, .q), (2, .q), (3, .g), (4, .q), (5, .q), (6, .q), (7, .q), (8, .q), (9, .q), (10, .q), (11, .q), (12, .g), (13, .q), (14, .q), (15, .q), (16, .q), (17, .q), (18, .q), (19, .q), (20, .q), (21, .q), (22, .q), (23, .q), (24, .q), (25, .q), (26, .q), (27, .q), (28, .q), (29, .g), (30, .q), (31, .q)] (by kernel_rfl) (by kernel_rfl) ?_
          simp only [pick, List.filterMap_cons, List.filterMap_nil, List.getElem?_toArray, List.getElem?_cons_zero, List.getElem?_cons_succ, Option.map_some]
          repeat (first
            | ((with_reducible refine wpD_p (fun K hK => ?_)); go_simp; refine hK _ ?_; clear hK K)
            | ((with_reducible refine wpD_q (fun K hK => ?_)); go_simp; (first | refine hK _ ?_ | (go_bits; refine hK _ ?_) | (go_bits; go_simp; refine hK _ ?_)); clear hK K)
            | ((with_reducible refine wpD_g (fun K hK => ?_)); go_simp; refine hK _ _ ?_; clear hK K)
            | ((with_reducible refine wpD_g (fun K hK => ?_)); go_simp; refine ⟨Grew.of_alloc _, hK _ _ ?_⟩; clear hK K)
            | ((with_reducible refine wpD_g (fun K hK => ?_)); go_simp; go_at_call 109; refine ((hS.out.below (by repeat (first | with_reducible exact bl_refl _ | with_reducible assumption | with_reducible refine bl_al ?_ _ | with_reducible refine bl_dr ?_ | with_reducible refine bl_tr ?_ (by assumption) | with_reducible refine bl_set ?_ ?_ _ | with_reducible exact Nat.le_refl _ | omega | (simp only [World.size_alloc, World.size_setCell, World.size_drew] at *; omega) | (dsimp only; omega) | (simp; done) | (simp; omega)))).set hv2H.out).mono ?_; rintro e w1 ⟨rfl, hb1⟩; refine ⟨_, rfl, hb1, hK _ _ ?_⟩; clear hK K; obtain ⟨chb1, fhb1, shb1, thb1⟩ := bcell hb1; (try have bhb10 := shb1 (p) (by go_simp)); have cq1 := (hb1.cell (p := ⟨p, o + 2, none⟩) (by simpa using lp)).trans (show _ = some (Value.slice A q ca) by simpa using cq); have ct1 := (hb1.cell (p := ⟨p, o + 3, none⟩) (by simpa using lp)).trans (show _ = some (Value.int .i64 t) by simpa using ct))
            | ((with_reducible refine wpD_g (fun K hK => ?_)); go_simp; go_at_call 110; refine ((hS.out.below (by repeat (first | with_reducible exact bl_refl _ | with_reducible assumption | with_reducible refine bl_al ?_ _ | with_reducible refine bl_dr ?_ | with_reducible refine bl_tr ?_ (by assumption) | with_reducible refine bl_set ?_ ?_ _ | with_reducible exact Nat.le_refl _ | omega | (simp only [World.size_alloc, World.size_setCell, World.size_drew] at *; omega) | (dsimp only; omega) | (simp; done) | (simp; omega)))).form hv3H.out).mono ?_; rintro e w2 ⟨rfl, hb2⟩; refine ⟨_, rfl, hb2, hK _ _ ?_⟩; clear hK K; obtain ⟨chb2, fhb2, shb2, thb2⟩ := bcell hb2; (try have bhb20 := shb2 (p) (by go_simp)); have cq2 := (hb2.cell (p := ⟨p, o + 2, none⟩) bhb10).trans cq1; have ct2 := (hb2.cell (p := ⟨p, o + 3, none⟩) bhb10).trans ct1)
            | ((with_reducible refine wpD_g (fun K hK => ?_)); go_simp; go_at_call 68; refine (l07Temperature_at t _ htH.out).mono ?_; rintro e _ ⟨rfl, rfl⟩; refine ⟨_, rfl, Below.refl _ _, hK _ _ ?_⟩; clear hK K))
          with_reducible refine wpD_nil ?_
          go_wp2
          go_ret
          exact ⟨ret_bool hr.out, by repeat (first | with_reducible exact bl_refl _ | with_reducible assumption | with_reducible refine bl_al ?_ _ | with_reducible refine bl_dr ?_ | with_reducible refine bl_tr ?_ (by assumption) | with_reducible refine bl_set ?_ ?_ _ | with_reducible exact Nat.le_refl _ | omega | (simp only [World.size_alloc, World.size_setCell, World.size_drew] at *; omega) | (dsimp only; omega) | (simp; done) | (simp; omega))⟩
        · have htH := Lib.hid htm
          obtain ⟨tn, rfl, ht1, ht2⟩ := tempB_true htm
          have hrr := isStabR_yes hvH.out htm
          have hrH := Lib.hid hrr
          have hsy := Lib.hid (show (isStabR gs ts xs tn).1 = sysOkB gs ts xs tn by unfold sysOkB; rw [hlenH.out, decide_eq_true (show 0 < q by omega), Bool.true_and])
          clear htm hrr
          rcases isStabR_cases gs ts xs tn with ⟨c, hc, hcr⟩ | ⟨b, hcr⟩
          · have hcrH := Lib.hid hcr
            clear hcr
            go_enter Tryz.func72, Tryz.ntmps72
            go_wp2
            refine wp_region_ord [(0, .q), (1, .q), (2, .q), (3, .g), (4, .q), (5, .q), (6, .q), (7, .q), (8, .q), (9, .q), (10, .q), (11, .q), (12, .g), (13, .q), (14, .q), (15, .q), (16, .q), (17, .q), (18, .q), (19, .q), (20, .q), (21, .q), (22, .q), (23, .q), (24, .q), (25, .q), (26, .q), (27, .q), (28, .q), (29, .g), (30, .q), (31, .q)] (by kernel_rfl) (by kernel_rfl) ?_
            simp only [pick, List.filterMap_cons, List.filterMap_nil, List.getElem?_toArray, List.getElem?_cons_zero, List.getElem?_cons_succ, Option.map_some]
            repeat (first
              | ((with_reducible refine wpD_p (fun K hK => ?_)); go_simp; refine hK _ ?_; clear hK K)
              | ((with_reducible refine wpD_q (fun K hK => ?_)); go_simp; (first | refine hK _ ?_ | (go_bits; refine hK _ ?_) | (go_bits; go_simp; refine hK _ ?_)); clear hK K)
              | ((with_reducible refine wpD_g (fun K hK => ?_)); go_simp; refine hK _ _ ?_; clear hK K)
              | ((with_reducible refine wpD_g (fun K hK => ?_)); go_simp; refine ⟨Grew.of_alloc _, hK _ _ ?_⟩; clear hK K)
              | ((with_reducible refine wpD_g (fun K hK => ?_)); go_simp; go_at_call 109; refine ((hS.out.below (by repeat (first | with_reducible exact bl_refl _ | with_reducible assumption | with_reducible refine bl_al ?_ _ | with_reducible refine bl_dr ?_ | with_reducible refine bl_tr ?_ (by assumption) | with_reducible refine bl_set ?_ ?_ _ | with_reducible exact Nat.le_refl _ | omega | (simp only [World.size_alloc, World.size_setCell, World.size_drew] at *; omega) | (dsimp only; omega) | (simp; done) | (simp; omega)))).set hv2H.out).mono ?_; rintro e w1 ⟨rfl, hb1⟩; refine ⟨_, rfl, hb1, hK _ _ ?_⟩; clear hK K; obtain ⟨chb1, fhb1, shb1, thb1⟩ := bcell hb1; (try have bhb10 := shb1 (p) (by go_simp)); have cq1 := (hb1.cell (p := ⟨p, o + 2, none⟩) (by simpa using lp)).trans (show _ = some (Value.slice A q ca) by simpa using cq); have ct1 := (hb1.cell (p := ⟨p, o + 3, none⟩) (by simpa using lp)).trans (show _ = some (Value.int .i64 (tn : Int)) by simpa using ct))
              | ((with_reducible refine wpD_g (fun K hK => ?_)); go_simp; go_at_call 110; refine ((hS.out.below (by repeat (first | with_reducible exact bl_refl _ | with_reducible assumption | with_reducible refine bl_al ?_ _ | with_reducible refine bl_dr ?_ | with_reducible refine bl_tr ?_ (by assumption) | with_reducible refine bl_set ?_ ?_ _ | with_reducible exact Nat.le_refl _ | omega | (simp only [World.size_alloc, World.size_setCell, World.size_drew] at *; omega) | (dsimp only; omega) | (simp; done) | (simp; omega)))).form hv3H.out).mono ?_; rintro e w2 ⟨rfl, hb2⟩; refine ⟨_, rfl, hb2, hK _ _ ?_⟩; clear hK K; obtain ⟨chb2, fhb2, shb2, thb2⟩ := bcell hb2; (try have bhb20 := shb2 (p) (by go_simp)); have cq2 := (hb2.cell (p := ⟨p, o + 2, none⟩) bhb10).trans cq1; have ct2 := (hb2.cell (p := ⟨p, o + 3, none⟩) bhb10).trans ct1)
              | ((with_reducible refine wpD_g (fun K hK => ?_)); go_simp; go_at_call 68; refine (l07Temperature_at tn _ htH.out).mono ?_; rintro e _ ⟨rfl, rfl⟩; refine ⟨_, rfl, Below.refl _ _, hK _ _ ?_⟩; clear hK K))
            with_reducible refine wpD_nil ?_
            go_wp2
            refine wp_region_ord [(0, .q), (1, .q), (2, .q), (3, .q), (4, .q), (5, .q), (6, .q), (7, .q), (8, .q), (9, .q), (10, .g), (11, .q), (12, .q), (13, .q), (14, .q), (15, .q)] (by kernel_rfl) (by kernel_rfl) ?_
            simp only [pick, List.filterMap_cons, List.filterMap_nil, List.getElem?_toArray, List.getElem?_cons_zero, List.getElem?_cons_succ, Option.map_some]
            repeat (first | ((with_reducible refine wpD_p (fun K hK => ?_)); go_simp; refine hK _ ?_; clear hK K) | ((with_reducible refine wpD_q (fun K hK => ?_)); go_simp; (first | refine hK _ ?_ | (go_bits; refine hK _ ?_) | (go_bits; go_simp; refine hK _ ?_)); clear hK K))
            with_reducible refine wpD_g (fun K hK => ?_)
            go_simp
            refine (l07Stable_any (hS.out.below (by repeat (first | with_reducible exact bl_refl _ | with_reducible assumption | with_reducible refine bl_al ?_ _ | with_reducible refine bl_dr ?_ | with_reducible refine bl_tr ?_ (by assumption) | with_reducible refine bl_set ?_ ?_ _ | with_reducible exact Nat.le_refl _ | omega | (simp only [World.size_alloc, World.size_setCell, World.size_drew] at *; omega) | (dsimp only; omega) | (simp; done) | (simp; omega)))) hV tn (by omega)).mono ?_
            rw [hrH.out, hcrH.out]
            rintro e w3 ⟨rfl, hb3⟩
            refine ⟨_, rfl, hb3, hK _ _ ?_⟩
            clear hK K
            repeat (first | ((with_reducible refine wpD_p (fun K hK => ?_)); go_simp; refine hK _ ?_; clear hK K) | ((with_reducible refine wpD_q (fun K hK => ?_)); go_simp; (first | refine hK _ ?_ | (go_bits; refine hK _ ?_) | (go_bits; go_simp; refine hK _ ?_)); clear hK K))
            with_reducible refine wpD_nil ?_
            go_wp2
            go_ret
            exact ⟨ret_bool (by rw [← hsy.out, hcrH.out]), by repeat (first | with_reducible exact bl_refl _ | with_reducible assumption | with_reducible refine bl_al ?_ _ | with_reducible refine bl_dr ?_ | with_reducible refine bl_tr ?_ (by assumption) | with_reducible refine bl_set ?_ ?_ _ | with_reducible exact Nat.le_refl _ | omega | (simp only [World.size_alloc, World.size_setCell, World.size_drew] at *; omega) | (dsimp only; omega) | (simp; done) | (simp; omega))⟩
          · have hcrH := Lib.hid hcr
            clear hcr
            cases b
            all_goals
              go_enter Tryz.func72, Tryz.ntmps72
              go_wp2
              refine wp_region_ord [(0, .q), (1, .q), (2, .q), (3, .g), (4, .q), (5, .q), (6, .q), (7, .q), (8, .q), (9, .q), (10, .q), (11, .q), (12, .g), (13, .q), (14, .q), (15, .q), (16, .q), (17, .q), (18, .q), (19, .q), (20, .q), (21, .q), (22, .q), (23, .q), (24, .q), (25, .q), (26, .q), (27, .q), (28, .q), (29, .g), (30, .q), (31, .q)] (by kernel_rfl) (by kernel_rfl) ?_
              simp only [pick, List.filterMap_cons, List.filterMap_nil, List.getElem?_toArray, List.getElem?_cons_zero, List.getElem?_cons_succ, Option.map_some]
              repeat (first
                | ((with_reducible refine wpD_p (fun K hK => ?_)); go_simp; refine hK _ ?_; clear hK K)
                | ((with_reducible refine wpD_q (fun K hK => ?_)); go_simp; (first | refine hK _ ?_ | (go_bits; refine hK _ ?_) | (go_bits; go_simp; refine hK _ ?_)); clear hK K)
                | ((with_reducible refine wpD_g (fun K hK => ?_)); go_simp; refine hK _ _ ?_; clear hK K)
                | ((with_reducible refine wpD_g (fun K hK => ?_)); go_simp; refine ⟨Grew.of_alloc _, hK _ _ ?_⟩; clear hK K)
                | ((with_reducible refine wpD_g (fun K hK => ?_)); go_simp; go_at_call 109; refine ((hS.out.below (by repeat (first | with_reducible exact bl_refl _ | with_reducible assumption | with_reducible refine bl_al ?_ _ | with_reducible refine bl_dr ?_ | with_reducible refine bl_tr ?_ (by assumption) | with_reducible refine bl_set ?_ ?_ _ | with_reducible exact Nat.le_refl _ | omega | (simp only [World.size_alloc, World.size_setCell, World.size_drew] at *; omega) | (dsimp only; omega) | (simp; done) | (simp; omega)))).set hv2H.out).mono ?_; rintro e w1 ⟨rfl, hb1⟩; refine ⟨_, rfl, hb1, hK _ _ ?_⟩; clear hK K; obtain ⟨chb1, fhb1, shb1, thb1⟩ := bcell hb1; (try have bhb10 := shb1 (p) (by go_simp)); have cq1 := (hb1.cell (p := ⟨p, o + 2, none⟩) (by simpa using lp)).trans (show _ = some (Value.slice A q ca) by simpa using cq); have ct1 := (hb1.cell (p := ⟨p, o + 3, none⟩) (by simpa using lp)).trans (show _ = some (Value.int .i64 (tn : Int)) by simpa using ct))
                | ((with_reducible refine wpD_g (fun K hK => ?_)); go_simp; go_at_call 110; refine ((hS.out.below (by repeat (first | with_reducible exact bl_refl _ | with_reducible assumption | with_reducible refine bl_al ?_ _ | with_reducible refine bl_dr ?_ | with_reducible refine bl_tr ?_ (by assumption) | with_reducible refine bl_set ?_ ?_ _ | with_reducible exact Nat.le_refl _ | omega | (simp only [World.size_alloc, World.size_setCell, World.size_drew] at *; omega) | (dsimp only; omega) | (simp; done) | (simp; omega)))).form hv3H.out).mono ?_; rintro e w2 ⟨rfl, hb2⟩; refine ⟨_, rfl, hb2, hK _ _ ?_⟩; clear hK K; obtain ⟨chb2, fhb2, shb2, thb2⟩ := bcell hb2; (try have bhb20 := shb2 (p) (by go_simp)); have cq2 := (hb2.cell (p := ⟨p, o + 2, none⟩) bhb10).trans cq1; have ct2 := (hb2.cell (p := ⟨p, o + 3, none⟩) bhb10).trans ct1)
                | ((with_reducible refine wpD_g (fun K hK => ?_)); go_simp; go_at_call 68; refine (l07Temperature_at tn _ htH.out).mono ?_; rintro e _ ⟨rfl, rfl⟩; refine ⟨_, rfl, Below.refl _ _, hK _ _ ?_⟩; clear hK K))
              with_reducible refine wpD_nil ?_
              go_wp2
              refine wp_region_ord [(0, .q), (1, .q), (2, .q), (3, .q), (4, .q), (5, .q), (6, .q), (7, .q), (8, .q), (9, .q), (10, .g), (11, .q), (12, .q), (13, .q), (14, .q), (15, .q)] (by kernel_rfl) (by kernel_rfl) ?_
              simp only [pick, List.filterMap_cons, List.filterMap_nil, List.getElem?_toArray, List.getElem?_cons_zero, List.getElem?_cons_succ, Option.map_some]
              repeat (first | ((with_reducible refine wpD_p (fun K hK => ?_)); go_simp; refine hK _ ?_; clear hK K) | ((with_reducible refine wpD_q (fun K hK => ?_)); go_simp; (first | refine hK _ ?_ | (go_bits; refine hK _ ?_) | (go_bits; go_simp; refine hK _ ?_)); clear hK K))
              with_reducible refine wpD_g (fun K hK => ?_)
              go_simp
              refine (l07Stable_any (hS.out.below (by repeat (first | with_reducible exact bl_refl _ | with_reducible assumption | with_reducible refine bl_al ?_ _ | with_reducible refine bl_dr ?_ | with_reducible refine bl_tr ?_ (by assumption) | with_reducible refine bl_set ?_ ?_ _ | with_reducible exact Nat.le_refl _ | omega | (simp only [World.size_alloc, World.size_setCell, World.size_drew] at *; omega) | (dsimp only; omega) | (simp; done) | (simp; omega)))) hV tn (by omega)).mono ?_
              rw [hrH.out, hcrH.out]
              rintro e w3 ⟨rfl, hb3⟩
              refine ⟨_, rfl, hb3, hK _ _ ?_⟩
              clear hK K
              repeat (first | ((with_reducible refine wpD_p (fun K hK => ?_)); go_simp; refine hK _ ?_; clear hK K) | ((with_reducible refine wpD_q (fun K hK => ?_)); go_simp; (first | refine hK _ ?_ | (go_bits; refine hK _ ?_) | (go_bits; go_simp; refine hK _ ?_)); clear hK K))
              with_reducible refine wpD_nil ?_
              go_wp2
              go_ret
              exact ⟨ret_bool (by rw [← hsy.out, hcrH.out]), by repeat (first | with_reducible exact bl_refl _ | with_reducible assumption | with_reducible refine bl_al ?_ _ | with_reducible refine bl_dr ?_ | with_reducible refine bl_tr ?_ (by assumption) | with_reducible refine bl_set ?_ ?_ _ | with_reducible exact Nat.le_refl _ | omega | (simp only [World.size_alloc, World.size_setCell, World.size_drew] at *; omega) | (dsimp only; omega) | (simp; done) | (simp; omega))⟩
theorem sValidSystem_any (G T A : Option Addr) (n cg m ct q ca : Nat) (gs : List Gl) (ts : List Ti) (xs : List Pl) (t : Int) (w : World) (h : SA w G n T m A q gs ts xs) :
    Calls Tryz.prog 31 #[.agg #[.slice G n cg, .slice T m ct, .slice A q ca, .int .i64 t]] w fun e w' => e = .returned (.bool (sysOkB gs ts xs t)) ∧ Below w.heap.size w w' := by
  
  have hat := Lib.hid (h.sysbox cg ct ca t)
  clear h
  go_enter Tryz.func31, Tryz.ntmps31
  go_wp2_with (go_at_call 72; refine (l08Ok_any _ gs ts xs t _ hat.out).mono ?_; rintro e w1 ⟨rfl, hb1⟩)
  go_ret
  exact ⟨rfl, by repeat (first | with_reducible exact bl_refl _ | with_reducible assumption | with_reducible refine bl_al ?_ _ | with_reducible refine bl_dr ?_ | with_reducible refine bl_tr ?_ (by assumption) | with_reducible refine bl_set ?_ ?_ _ | with_reducible exact Nat.le_refl _ | omega | (simp only [World.size_alloc, World.size_setCell, World.size_drew] at *; omega) | (dsimp only; omega) | (simp; done) | (simp; omega))⟩
set_option maxRecDepth 100000 in
set_option maxHeartbeats 2000000 in
theorem ValidSystem_any (G T A : Option Addr) (n cg m ct q ca : Nat) (gs : List Gl) (ts : List Ti) (xs : List Pl) (t : Int) (w : World) (h : SA w G n T m A q gs ts xs) :
    Calls Tryz.prog 33 #[.agg #[.slice G n cg, .slice T m ct, .slice A q ca, .int .i64 t]] w fun e w' => e = .returned (.bool (sysOkB gs ts xs t)) ∧ Below w.heap.size w w' := by
  
  have hSA := Lib.hid h
  have hlen := Lib.hid h.A.len
  have hq0 := h.q
  clear h
  by_cases hq1 : q = 0
  · subst hq1
    have hr := Lib.hid (show false = sysOkB gs ts xs t by unfold sysOkB; rw [hlen.out]; rfl)
    go_enter Tryz.func33, Tryz.ntmps33
    go_wp2
    go_ret
    exact ⟨ret_bool hr.out, by repeat (first | with_reducible exact bl_refl _ | with_reducible assumption | with_reducible refine bl_al ?_ _ | with_reducible refine bl_dr ?_ | with_reducible refine bl_tr ?_ (by assumption) | with_reducible refine bl_set ?_ ?_ _ | with_reducible exact Nat.le_refl _ | omega | (simp only [World.size_alloc, World.size_setCell, World.size_drew] at *; omega) | (dsimp only; omega) | (simp; done) | (simp; omega))⟩
  · have hqd : ((q : Int) == 0) = false := by simp; omega
    have hsy := Lib.hid (show (isStabR gs ts xs t).1 = sysOkB gs ts xs t by unfold sysOkB; rw [hlen.out, decide_eq_true (show 0 < q by omega), Bool.true_and])
    rcases isStabR_cases gs ts xs t with ⟨c, hc, hcr⟩ | ⟨b, hcr⟩
    · have hcrH := Lib.hid hcr
      clear hcr
      go_enter Tryz.func33, Tryz.ntmps33
      go_wp2_with (go_at_call 29; refine (IsStable_any G T A n cg m ct q ca gs ts xs t _ (hSA.out.below (by repeat (first | with_reducible exact bl_refl _ | with_reducible assumption | with_reducible refine bl_al ?_ _ | with_reducible refine bl_dr ?_ | with_reducible refine bl_tr ?_ (by assumption) | with_reducible refine bl_set ?_ ?_ _ | with_reducible exact Nat.le_refl _ | omega | (simp only [World.size_alloc, World.size_setCell, World.size_drew] at *; omega) | (dsimp only; omega) | (simp; done) | (simp; omega))))).mono ?_; rw [hcrH.out]; rintro e w1 ⟨rfl, hb1⟩)
      go_ret
      exact ⟨ret_bool (by rw [← hsy.out, hcrH.out]), by repeat (first | with_reducible exact bl_refl _ | with_reducible assumption | with_reducible refine bl_al ?_ _ | with_reducible refine bl_dr ?_ | with_reducible refine bl_tr ?_ (by assumption) | with_reducible refine bl_set ?_ ?_ _ | with_reducible exact Nat.le_refl _ | omega | (simp only [World.size_alloc, World.size_setCell, World.size_drew] at *; omega) | (dsimp only; omega) | (simp; done) | (simp; omega))⟩
    · have hcrH := Lib.hid hcr
      clear hcr
      cases b
      all_goals
        go_enter Tryz.func33, Tryz.ntmps33
        go_wp2_with (go_at_call 29; refine (IsStable_any G T A n cg m ct q ca gs ts xs t _ (hSA.out.below (by repeat (first | with_reducible exact bl_refl _ | with_reducible assumption | with_reducible refine bl_al ?_ _ | with_reducible refine bl_dr ?_ | with_reducible refine bl_tr ?_ (by assumption) | with_reducible refine bl_set ?_ ?_ _ | with_reducible exact Nat.le_refl _ | omega | (simp only [World.size_alloc, World.size_setCell, World.size_drew] at *; omega) | (dsimp only; omega) | (simp; done) | (simp; omega))))).mono ?_; rw [hcrH.out]; rintro e w1 ⟨rfl, hb1⟩)
        go_ret
        exact ⟨ret_bool (by rw [← hsy.out, hcrH.out]), by repeat (first | with_reducible exact bl_refl _ | with_reducible assumption | with_reducible refine bl_al ?_ _ | with_reducible refine bl_dr ?_ | with_reducible refine bl_tr ?_ (by assumption) | with_reducible refine bl_set ?_ ?_ _ | with_reducible exact Nat.le_refl _ | omega | (simp only [World.size_alloc, World.size_setCell, World.size_drew] at *; omega) | (dsimp only; omega) | (simp; done) | (simp; omega))⟩
end Go.Proofs.YtbpmamjphdaggaaGreat
